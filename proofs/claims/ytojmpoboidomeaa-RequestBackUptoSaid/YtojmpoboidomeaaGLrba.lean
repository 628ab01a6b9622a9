/- Written by gen.py: functions of the program as Lean functions, and that the code comes to them. -/
import Derived.Test.YtojmpoboidomeaaAbsxd
set_option linter.unusedVariables false
set_option linter.unusedSimpArgs false
set_option maxRecDepth 100000
set_option maxHeartbeats 4000000
namespace Go.Proofs.Abs
open Go
structure TRequest where
  fKind : Int
  fName : (List UInt8)
  fText : (List UInt8)
  fGroup : (List UInt8)
  fN : Int
  fVersion : Int
  fProducer : Int
  fSeq : Int
  fOffset : Int
  fMost : Int
  fData : (List UInt8)
instance : Inhabited TRequest := ⟨⟨default, default, default, default, default, default, default, default, default, default, default⟩⟩
instance : DecidableEq TRequest := fun a b => decidable_of_iff (a.fKind = b.fKind ∧ a.fName = b.fName ∧ a.fText = b.fText ∧ a.fGroup = b.fGroup ∧ a.fN = b.fN ∧ a.fVersion = b.fVersion ∧ a.fProducer = b.fProducer ∧ a.fSeq = b.fSeq ∧ a.fOffset = b.fOffset ∧ a.fMost = b.fMost ∧ a.fData = b.fData ∧ True) ⟨fun h => by cases a; cases b; simp_all, fun h => by subst h; simp⟩
def TRequest.enc (x : TRequest) : D := .agg [.int .i64 x.fKind, .str x.fName, .str x.fText, .str x.fGroup, .int .i64 x.fN, .int .i64 x.fVersion, .int .u64 x.fProducer, .int .u64 x.fSeq, .int .u64 x.fOffset, .int .i64 x.fMost, .sl (List.map byteD x.fData)]
theorem TRequest.ok : EncOK TRequest.enc 11 true := ⟨fun _ => rfl, fun _ c hc => by simp only [TRequest.enc, D.cells, List.mem_cons, List.not_mem_nil, or_false] at hc; rcases hc with rfl | rfl | rfl | rfl | rfl | rfl | rfl | rfl | rfl | rfl | rfl <;> rfl, fun _ => rfl⟩
def TRequest.wf (x : TRequest) : Prop := (-9223372036854775808 ≤ x.fKind ∧ x.fKind ≤ 9223372036854775807) ∧ True ∧ True ∧ True ∧ (-9223372036854775808 ≤ x.fN ∧ x.fN ≤ 9223372036854775807) ∧ (-9223372036854775808 ≤ x.fVersion ∧ x.fVersion ≤ 9223372036854775807) ∧ (0 ≤ x.fProducer ∧ x.fProducer ≤ 18446744073709551615) ∧ (0 ≤ x.fSeq ∧ x.fSeq ≤ 18446744073709551615) ∧ (0 ≤ x.fOffset ∧ x.fOffset ≤ 18446744073709551615) ∧ (-9223372036854775808 ≤ x.fMost ∧ x.fMost ≤ 9223372036854775807) ∧ (∀ e0 ∈ x.fData, True) ∧ True
def TRequest.sz (x : TRequest) : Nat := (1 + ((x.fName.length + 1) + ((x.fText.length + 1) + ((x.fGroup.length + 1) + (1 + (1 + (1 + (1 + (1 + (1 + (((x.fData.map (fun _ => 1)).sum + 1) + 0))))))))))) + 1
structure TMessage where
  fOffset : Int
  fProducer : Int
  fSeq : Int
  fVersion : Int
  fData : (List UInt8)
instance : Inhabited TMessage := ⟨⟨default, default, default, default, default⟩⟩
instance : DecidableEq TMessage := fun a b => decidable_of_iff (a.fOffset = b.fOffset ∧ a.fProducer = b.fProducer ∧ a.fSeq = b.fSeq ∧ a.fVersion = b.fVersion ∧ a.fData = b.fData ∧ True) ⟨fun h => by cases a; cases b; simp_all, fun h => by subst h; simp⟩
def TMessage.enc (x : TMessage) : D := .agg [.int .u64 x.fOffset, .int .u64 x.fProducer, .int .u64 x.fSeq, .int .i64 x.fVersion, .sl (List.map byteD x.fData)]
theorem TMessage.ok : EncOK TMessage.enc 5 true := ⟨fun _ => rfl, fun _ c hc => by simp only [TMessage.enc, D.cells, List.mem_cons, List.not_mem_nil, or_false] at hc; rcases hc with rfl | rfl | rfl | rfl | rfl <;> rfl, fun _ => rfl⟩
def TMessage.wf (x : TMessage) : Prop := (0 ≤ x.fOffset ∧ x.fOffset ≤ 18446744073709551615) ∧ (0 ≤ x.fProducer ∧ x.fProducer ≤ 18446744073709551615) ∧ (0 ≤ x.fSeq ∧ x.fSeq ≤ 18446744073709551615) ∧ (-9223372036854775808 ≤ x.fVersion ∧ x.fVersion ≤ 9223372036854775807) ∧ (∀ e0 ∈ x.fData, True) ∧ True
def TMessage.sz (x : TMessage) : Nat := (1 + (1 + (1 + (1 + (((x.fData.map (fun _ => 1)).sum + 1) + 0))))) + 1
structure TReply where
  fErr : Int
  fN : Int
  fID : Int
  fOffset : Int
  fText : (List UInt8)
  fMessages : (List TMessage)
instance : Inhabited TReply := ⟨⟨default, default, default, default, default, default⟩⟩
instance : DecidableEq TReply := fun a b => decidable_of_iff (a.fErr = b.fErr ∧ a.fN = b.fN ∧ a.fID = b.fID ∧ a.fOffset = b.fOffset ∧ a.fText = b.fText ∧ a.fMessages = b.fMessages ∧ True) ⟨fun h => by cases a; cases b; simp_all, fun h => by subst h; simp⟩
def TReply.enc (x : TReply) : D := .agg [.int .i64 x.fErr, .int .i64 x.fN, .int .i64 x.fID, .int .u64 x.fOffset, .str x.fText, .sl (List.map TMessage.enc x.fMessages)]
theorem TReply.ok : EncOK TReply.enc 6 true := ⟨fun _ => rfl, fun _ c hc => by simp only [TReply.enc, D.cells, List.mem_cons, List.not_mem_nil, or_false] at hc; rcases hc with rfl | rfl | rfl | rfl | rfl | rfl <;> rfl, fun _ => rfl⟩
def TReply.wf (x : TReply) : Prop := (-9223372036854775808 ≤ x.fErr ∧ x.fErr ≤ 9223372036854775807) ∧ (-9223372036854775808 ≤ x.fN ∧ x.fN ≤ 9223372036854775807) ∧ (-9223372036854775808 ≤ x.fID ∧ x.fID ≤ 9223372036854775807) ∧ (0 ≤ x.fOffset ∧ x.fOffset ≤ 18446744073709551615) ∧ True ∧ (∀ e0 ∈ x.fMessages, TMessage.wf e0) ∧ True
def TReply.sz (x : TReply) : Nat := (1 + (1 + (1 + (1 + ((x.fText.length + 1) + (((x.fMessages.map TMessage.sz).sum + 1) + 0)))))) + 1
/-- courant/code.fold -/
def C82 (N : Nat → Nat) : AFunc := { n := 10, params := 1, res := [.tmp 2], body :=
 (.seq (.region false [⟨(some 2), .mv (.k (.d (.int .u64 0))), none, []⟩])
  (.seq (.region false [⟨(some 3), .mv (.t 0), none, []⟩,
    ⟨(some 4), .cvi .u64 (.t 3), none, [0]⟩,
    ⟨(some 5), .bin .shl (.t 4) (.k (.d (.int .u64 1))), none, [1]⟩,
    ⟨(some 6), .mv (.t 0), none, []⟩,
    ⟨(some 7), .bin .shr (.t 6) (.k (.d (.int .u64 63))), none, [3]⟩,
    ⟨(some 8), .cvi .u64 (.t 7), none, [4]⟩,
    ⟨(some 9), .bin .xor (.t 5) (.t 8), none, [2, 5]⟩,
    ⟨(some 2), .mv (.t 9), none, [6, 0, 1, 2, 3, 4, 5]⟩])
   .ret)) }
def HC82 (P : Program) (N : Nat → Nat) : Prop := HasF P (N 82) (C82 N)
def f82 (k : Nat) (a0 : Int) : Option Unit := some ()
theorem F82 {P : Program} {N : Nat → Nat} (hmix : P.follows .mixedOrders = true) (hc : HC82 P N) {k : Nat} {a0 : Int} {r : Unit} (h : f82 k a0 = some r) :
    ACalls P (N 82) [(.d (.int .i64 a0))] [] (.d (.int .u64 (bitsA .xor .u64 (IntKind.u64.wrap ((IntKind.u64.wrap a0) * 2 ^ (min ((1 : Int)).toNat IntKind.u64.bits))) (IntKind.u64.wrap (Int.fdiv a0 (2 ^ (min ((63 : Int)).toNat IntKind.i64.bits))))))) [] := by
  refine acalls_canon (F := C82 N) hc 0 0 rfl ?_
  unfold f82 at h
  dsimp only [C82, startL]
  refine AWc.seq ?_
  refine AWc.rg hmix rfl rfl ?_
  refine RegV.p0 rfl rfl rfl ?_
  refine RegV.nil0 ?_
  refine AWc.seq ?_
  refine AWc.rg hmix rfl rfl ?_
  refine RegV.p0 rfl rfl rfl ?_
  refine RegV.p0 (v := (.d (.int .u64 (IntKind.u64.wrap a0)))) rfl rfl rfl ?_
  refine RegV.p1 (v := (.d (.int .u64 (IntKind.u64.wrap ((IntKind.u64.wrap a0) * 2 ^ (min ((1 : Int)).toNat IntKind.u64.bits)))))) rfl rfl (by decide) rfl rfl ?_
  refine RegV.p0 rfl rfl rfl ?_
  refine RegV.p1 (v := (.d (.int .i64 (Int.fdiv a0 (2 ^ (min ((63 : Int)).toNat IntKind.i64.bits)))))) rfl rfl (by decide) rfl rfl ?_
  refine RegV.p0 (v := (.d (.int .u64 (IntKind.u64.wrap (Int.fdiv a0 (2 ^ (min ((63 : Int)).toNat IntKind.i64.bits))))))) rfl rfl rfl ?_
  refine RegV.p0 (v := (.d (.int .u64 (bitsA .xor .u64 (IntKind.u64.wrap ((IntKind.u64.wrap a0) * 2 ^ (min ((1 : Int)).toNat IntKind.u64.bits))) (IntKind.u64.wrap (Int.fdiv a0 (2 ^ (min ((63 : Int)).toNat IntKind.i64.bits)))))))) rfl rfl rfl ?_
  refine RegV.p0 rfl rfl rfl ?_
  refine RegV.nil0 ?_
  have hr := Option.some.inj h
  subst hr
  exact AWc.ret (canQ (N := 10) (k := 0) (l' := [(2, (.d (.int .u64 (bitsA .xor .u64 (IntKind.u64.wrap ((IntKind.u64.wrap a0) * 2 ^ (min ((1 : Int)).toNat IntKind.u64.bits))) (IntKind.u64.wrap (Int.fdiv a0 (2 ^ (min ((63 : Int)).toNat IntKind.i64.bits))))))))]) (H' := []) rfl ⟨rfl, [], [], rfl, rfl, ⟨⟨_, rfl, (.refl _)⟩, rfl, trivial⟩,  trivial⟩ (doneA (.inr rfl) rfl ⟨trivial, trivial⟩ (.refl _) hasNil))
/-- courant/code.Num -/
def C23 (N : Nat → Nat) : AFunc := { n := 19, params := 1, res := [.tmp 2], body :=
 (.seq (.region false [⟨(some 2), .mv (.k .nils), none, []⟩])
  (.seq (.region false [⟨(some 3), .mv (.k .nils), none, []⟩])
   (.seq (.block 0 (.loop (.seq (.seq (.region false [⟨(some 4), .mv (.t 0), none, []⟩,
         ⟨(some 5), .bin .geq (.t 4) (.k (.d (.int .u64 128))), none, [0]⟩])
        (.cond (.t 5) (.skip)
         (.exit 0)))
       (.seq (.block 1 (.region false [⟨(some 8), .mv (.t 3), none, []⟩,
          ⟨(some 9), .mv (.t 0), none, []⟩,
          ⟨(some 10), .cvi .u8 (.t 9), none, [1]⟩,
          ⟨(some 11), .bin .or (.t 10) (.k (.d (.int .u8 128))), none, [2]⟩,
          ⟨(some 12), .bslice 1 1 [(.int .u8 0)] [(0, (.t 11))], none, [3]⟩,
          ⟨(some 13), .app (.t 8) (.t 12) 1 1 [(.int .u8 0)], none, [0, 4]⟩,
          ⟨(some 3), .mv (.t 13), none, [5, 0, 1, 2, 3, 4]⟩]))
        (.region false [⟨(some 6), .mv (.t 0), none, []⟩,
         ⟨(some 7), .bin .shr (.t 6) (.k (.d (.int .u64 7))), none, [0]⟩,
         ⟨(some 0), .mv (.t 7), none, [1, 0]⟩])))))
    (.seq (.region false [⟨(some 14), .mv (.t 3), none, []⟩,
      ⟨(some 15), .mv (.t 0), none, []⟩,
      ⟨(some 16), .cvi .u8 (.t 15), none, [1]⟩,
      ⟨(some 17), .bslice 1 1 [(.int .u8 0)] [(0, (.t 16))], none, [2]⟩,
      ⟨(some 18), .app (.t 14) (.t 17) 1 1 [(.int .u8 0)], none, [0, 3]⟩,
      ⟨(some 2), .mv (.t 18), none, [4, 0, 1, 2, 3]⟩])
     .ret)))) }
def HC23 (P : Program) (N : Nat → Nat) : Prop := HasF P (N 23) (C23 N)
def f23_l10 : Nat → Int → (List UInt8) → Option (LR2 (Int × (List UInt8)) Unit (List UInt8))
  | 0, _, _ => none
  | k + 1, y10_1, y10_2 => cond (decide (y10_1 ≥ (128 : Int))) (gd ((y10_2.length + ([(u8 (bitsA .or .u8 (IntKind.u8.wrap y10_1) (128 : Int)))] : List UInt8).length) * 2 * 1 ≤ 281474976710656) (f23_l10 k (Int.fdiv y10_1 (2 ^ (min ((7 : Int)).toNat IntKind.u64.bits))) (y10_2 ++ ([(u8 (bitsA .or .u8 (IntKind.u8.wrap y10_1) (128 : Int)))] : List UInt8)))) (some (.b0 (y10_1, y10_2)))
def f23 (k : Nat) (a0 : Int) : Option (List UInt8) := (f23_l10 k a0 ([] : List UInt8)).bind fun o10 => match o10 with | .b0 (x10_1, x10_2) => gd ((x10_2.length + ([(u8 (IntKind.u8.wrap x10_1))] : List UInt8).length) * 2 * 1 ≤ 281474976710656) (some (x10_2 ++ ([(u8 (IntKind.u8.wrap x10_1))] : List UInt8))) | _ => none
theorem F23 {P : Program} {N : Nat → Nat} (hmix : P.follows .mixedOrders = true) (hc : HC23 P N) {k : Nat} {a0 : Int} {r : (List UInt8)} (h : f23 k a0 = some r) :
    ACalls P (N 23) [(.d (.int .u64 a0))] [] (.ap 0 1 (List.map byteD r)) [(0, (.tok ((List.map byteD r).length * 1)))] := by
  refine acalls_canon (F := C23 N) hc 0 1 rfl ?_
  unfold f23 at h
  dsimp only [C23, startL]
  refine AWc.seq ?_
  refine AWc.rg hmix rfl rfl ?_
  refine RegV.p0 rfl rfl rfl ?_
  refine RegV.nil0 ?_
  refine AWc.seq ?_
  refine AWc.rg hmix rfl rfl ?_
  refine RegV.p0 rfl rfl rfl ?_
  refine RegV.nil0 ?_
  obtain ⟨o10, h10, h⟩ := bind_some h
  refine AWc.seqS (N := 19) 1 (fun (z : (Int × (List UInt8))) => [(0, (.d (.int .u64 z.1))), (3, (.ap 0 1 (List.map byteD z.2)))]) (fun z => [(0, (.tok ((List.map byteD z.2).length * 1)))]) (fun z => o10 = .b0 z) rfl_le ?_ ?_
  · refine AWc.block ?_
    refine AWc.loopK (N := 19) 1 (fun (x : (Int × (List UInt8))) => [(0, (.d (.int .u64 x.1))), (3, (.ap 0 1 (List.map byteD x.2)))]) (fun x => [(0, (.tok ((List.map byteD x.2).length * 1)))]) (fun k x => f23_l10 k x.1 x.2 = some o10) k (a0, ([] : List UInt8)) rfl_le (fun x hx => by cases hx) h10 ⟨rfl, [.tok 0], [(0, 0)], rfl, rfl, ⟨⟨_, rfl, (.refl _)⟩, rfl, ⟨⟨_, rfl, .nil⟩, rfl, trivial⟩⟩, ⟨⟨_, rfl, (.refl _)⟩, rfl, rfl, trivial⟩⟩ ?_
    clear h10
    intro k
    rintro ⟨y10_1, y10_2⟩ h10
    dsimp only at h10 ⊢
    rw [f23_l10] at h10
    refine AWc.seq ?_
    refine AWc.seq ?_
    refine AWc.rg hmix rfl rfl ?_
    refine RegV.p0 rfl rfl rfl ?_
    refine RegV.p0 (v := (.d (.bool (decide (y10_1 ≥ (128 : Int)))))) rfl rfl rfl ?_
    refine RegV.nil0 ?_
    refine AWc.cond rfl (fun c18 => ?_) (fun c18 => ?_)
    · have h10 := cond_pos c18 h10
      refine AWc.skip ?_
      refine AWc.seq ?_
      refine AWc.block ?_
      refine AWc.rg hmix rfl rfl ?_
      refine RegV.p0 rfl rfl rfl ?_
      refine RegV.p0 rfl rfl rfl ?_
      refine RegV.p0 (v := (.d (.int .u8 (IntKind.u8.wrap y10_1)))) rfl rfl rfl ?_
      refine RegV.p0 (v := (.d (.int .u8 (bitsA .or .u8 (IntKind.u8.wrap y10_1) (128 : Int))))) rfl rfl rfl ?_
      refine RegV.p1 (v := .d (.sl [(.int .u8 (bitsA .or .u8 (IntKind.u8.wrap y10_1) (128 : Int)))])) (v' := (.d (.sl (List.map byteD ([(u8 (bitsA .or .u8 (IntKind.u8.wrap y10_1) (128 : Int)))] : List UInt8))))) (s := ([(.int .u8 0)] : List D).length = 1 ∧ 1 * 1 ≤ 16777216 ∧ ∀ d ∈ ([(.int .u8 (bitsA .or .u8 (IntKind.u8.wrap y10_1) (128 : Int)))] : List D), d.cells.length = 1) rfl rfl ⟨rfl, Nat.le_of_ble_eq_true rfl, by simp [D.cells]⟩ rfl (by simp only [List.map_cons, List.map_nil, byteD, ← u8_eq (u8_wrap _), ← u8_eq (u8_bits _ _ _)]) ?_
      obtain ⟨b30, h10⟩ := gd_some h10
      refine RegV.appA (xs := y10_2) (ys := ([(u8 (bitsA .or .u8 (IntKind.u8.wrap y10_1) (128 : Int)))] : List UInt8)) (e := byteD) (H1 := []) rfl rfl rfl rfl (fun _ => rfl) rfl rfl b30 rfl rfl rfl ?_
      refine RegV.p0 rfl rfl rfl ?_
      refine RegV.nil0 ?_
      refine AWc.rg hmix rfl rfl ?_
      refine RegV.p0 rfl rfl rfl ?_
      refine RegV.p1 (v := (.d (.int .u64 (Int.fdiv y10_1 (2 ^ (min ((7 : Int)).toNat IntKind.u64.bits)))))) rfl rfl (by decide) rfl rfl ?_
      refine RegV.p0 rfl rfl rfl ?_
      refine RegV.nil0 ?_
      exact ⟨((Int.fdiv y10_1 (2 ^ (min ((7 : Int)).toNat IntKind.u64.bits))), (y10_2 ++ ([(u8 (bitsA .or .u8 (IntKind.u8.wrap y10_1) (128 : Int)))] : List UInt8))), h10, ⟨rfl, [], [(0, 1)], rfl, rfl, ⟨⟨_, rfl, (.refl _)⟩, rfl, ⟨⟨_, rfl, (.refl _)⟩, rfl, trivial⟩⟩, ⟨⟨_, rfl, (.refl _)⟩, rfl, rfl, trivial⟩⟩⟩
    · have h10 := cond_neg c18 h10
      cases h10
      dsimp only at h
      refine AWc.exit ?_
      refine inBlk_eq ?_
      exact ⟨(y10_1, y10_2), rfl, ⟨rfl, [], [], rfl, rfl, ⟨⟨_, rfl, (.refl _)⟩, rfl, ⟨⟨_, rfl, (.refl _)⟩, rfl, trivial⟩⟩, ⟨⟨_, rfl, (.refl _)⟩, rfl, rfl, trivial⟩⟩⟩
  · rintro ⟨x10_1, x10_2⟩ ho
    subst ho
    dsimp only at h ⊢
    refine AWc.seq ?_
    refine AWc.rg hmix rfl rfl ?_
    refine RegV.p0 rfl rfl rfl ?_
    refine RegV.p0 rfl rfl rfl ?_
    refine RegV.p0 (v := (.d (.int .u8 (IntKind.u8.wrap x10_1)))) rfl rfl rfl ?_
    refine RegV.p1 (v := .d (.sl [(.int .u8 (IntKind.u8.wrap x10_1))])) (v' := (.d (.sl (List.map byteD ([(u8 (IntKind.u8.wrap x10_1))] : List UInt8))))) (s := ([(.int .u8 0)] : List D).length = 1 ∧ 1 * 1 ≤ 16777216 ∧ ∀ d ∈ ([(.int .u8 (IntKind.u8.wrap x10_1))] : List D), d.cells.length = 1) rfl rfl ⟨rfl, Nat.le_of_ble_eq_true rfl, by simp [D.cells]⟩ rfl (by simp only [List.map_cons, List.map_nil, byteD, ← u8_eq (u8_wrap _), ← u8_eq (u8_bits _ _ _)]) ?_
    obtain ⟨b44, h⟩ := gd_some h
    refine RegV.appA (xs := x10_2) (ys := ([(u8 (IntKind.u8.wrap x10_1))] : List UInt8)) (e := byteD) (H1 := []) rfl rfl rfl rfl (fun _ => rfl) rfl rfl b44 rfl rfl rfl ?_
    refine RegV.p0 rfl rfl rfl ?_
    refine RegV.nil0 ?_
    have hr := Option.some.inj h
    subst hr
    exact AWc.ret (canQ (N := 19) (k := 1) (l' := [(2, (.ap 0 1 (List.map byteD (x10_2 ++ ([(u8 (IntKind.u8.wrap x10_1))] : List UInt8)))))]) (H' := [(0, (.tok ((List.map byteD (x10_2 ++ ([(u8 (IntKind.u8.wrap x10_1))] : List UInt8))).length * 1)))]) rfl ⟨rfl, [], [(0, 1)], rfl, rfl, ⟨⟨_, rfl, (.refl _)⟩, rfl, trivial⟩, ⟨⟨_, rfl, (.refl _)⟩, rfl, rfl, trivial⟩⟩ (doneA (.inr rfl) rfl ⟨trivial, trivial⟩ (.refl _) (hasCons rfl hasNil)))
/-- courant/code.Zig -/
def C25 (N : Nat → Nat) : AFunc := { n := 6, params := 1, res := [.tmp 2], body :=
 (.seq (.region false [⟨(some 2), .mv (.k .nils), none, []⟩])
  (.seq (.region false [⟨(some 3), .mv (.t 0), none, []⟩,
    ⟨(some 4), .call (.k (.d (.fn (N 82)))) [(.t 3)], none, [0]⟩,
    ⟨(some 5), .call (.k (.d (.fn (N 23)))) [(.t 4)], none, [1]⟩,
    ⟨(some 2), .mv (.t 5), none, [2, 0, 1]⟩])
   .ret)) }
def HC25 (P : Program) (N : Nat → Nat) : Prop := HasF P (N 25) (C25 N) ∧ HC82 P N ∧ HC23 P N
def f25 (k : Nat) (a0 : Int) : Option (List UInt8) := (f82 k a0).bind fun r9 => (f23 k (bitsA .xor .u64 (IntKind.u64.wrap ((IntKind.u64.wrap a0) * 2 ^ (min ((1 : Int)).toNat IntKind.u64.bits))) (IntKind.u64.wrap (Int.fdiv a0 (2 ^ (min ((63 : Int)).toNat IntKind.i64.bits)))))).bind fun r10 => some r10
theorem F25 {P : Program} {N : Nat → Nat} (hmix : P.follows .mixedOrders = true) (hc : HC25 P N) {k : Nat} {a0 : Int} {r : (List UInt8)} (h : f25 k a0 = some r) :
    ACalls P (N 25) [(.d (.int .i64 a0))] [] (.ap 0 1 (List.map byteD r)) [(0, (.tok ((List.map byteD r).length * 1)))] := by
  refine acalls_canon (F := C25 N) hc.1 0 1 rfl ?_
  unfold f25 at h
  dsimp only [C25, startL]
  refine AWc.seq ?_
  refine AWc.rg hmix rfl rfl ?_
  refine RegV.p0 rfl rfl rfl ?_
  refine RegV.nil0 ?_
  refine AWc.seq ?_
  refine AWc.rg hmix rfl rfl ?_
  refine RegV.p0 rfl rfl rfl ?_
  obtain ⟨r9, e9, h⟩ := bind_some h
  refine RegV.call0 (F82 hmix hc.2.1 e9) rfl rfl rfl rfl (.cons (.refl _) .nil) rfl ?_
  obtain ⟨r10, e10, h⟩ := bind_some h
  refine RegV.callS (q := false) (H' := [(0, (.tok ((List.map byteD r10).length * 1)))]) (c' := 1) (show ACalls P (N 23) [(.d (.int .u64 (bitsA .xor .u64 (IntKind.u64.wrap ((IntKind.u64.wrap a0) * 2 ^ (min ((1 : Int)).toNat IntKind.u64.bits))) (IntKind.u64.wrap (Int.fdiv a0 (2 ^ (min ((63 : Int)).toNat IntKind.i64.bits)))))))] [] (.ap 0 1 (List.map byteD r10)) [(0, (.tok ((List.map byteD r10).length * 1)))] from ACalls.use (F23 hmix hc.2.2 e10) [(0, 0)] 1 rfl) rfl rfl rfl rfl (.cons (.refl _) .nil) (.refl _) (fun h => by cases h) rfl hasNil rfl rfl rfl rfl ?_
  refine RegV.p0 rfl rfl rfl ?_
  refine RegV.nil0 ?_
  have hr := Option.some.inj h
  subst hr
  exact AWc.ret (canQ (N := 6) (k := 1) (l' := [(2, (.ap 0 1 (List.map byteD r10)))]) (H' := [(0, (.tok ((List.map byteD r10).length * 1)))]) rfl ⟨rfl, [], [], rfl, rfl, ⟨⟨_, rfl, (.refl _)⟩, rfl, trivial⟩, ⟨⟨_, rfl, (.refl _)⟩, rfl, rfl, trivial⟩⟩ (doneA (.inr rfl) rfl ⟨trivial, trivial⟩ (.refl _) (hasCons rfl hasNil)))
/-- (*courant/request.writer).zigs -/
def C94 (N : Nat → Nat) : AFunc := { n := 23, params := 2, res := [], body :=
 (.seq (.region false [⟨(some 6), .mv (.t 1), none, []⟩,
   ⟨(some 7), .len (.t 6), none, [0]⟩,
   ⟨(some 8), .mv (.k (.d (.int .i64 0))), none, []⟩])
  (.block 0 (.loop (.seq (.region false [⟨(some 9), .bin .lss (.t 8) (.t 7), none, []⟩])
     (.seq (.cond (.t 9) (.skip)
       (.exit 0))
      (.seq (.block 1 (.seq (.region false [⟨(some 10), .iaddr (.t 6) (.t 8) 1, none, []⟩,
          ⟨(some 11), .load (.t 10) 1 false, none, [0]⟩,
          ⟨(some 5), .mv (.t 11), none, [1, 0]⟩])
         (.region true [⟨(some 12), .mv (.t 0), none, []⟩,
          ⟨(some 13), .mv (.t 0), none, []⟩,
          ⟨(some 14), .nilchk (.t 13), none, [1]⟩,
          ⟨(some 15), .faddr (.t 14) 0, none, [2]⟩,
          ⟨(some 16), .load (.t 15) 1 false, none, [3]⟩,
          ⟨(some 17), .mv (.t 5), none, []⟩,
          ⟨(some 18), .call (.k (.d (.fn (N 25)))) [(.t 17)], none, [5]⟩,
          ⟨(some 19), .app (.t 16) (.t 18) 1 1 [(.int .u8 0)], none, [4, 6]⟩,
          ⟨(some 20), .nilchk (.t 12), none, [0, 1, 2, 3, 4, 5, 6, 7]⟩,
          ⟨(some 21), .faddr (.t 20) 0, none, [8, 0, 1, 2, 3, 4, 5, 6, 7]⟩,
          ⟨none, .store (.t 21) (.t 19) 1, none, [9, 7, 0, 1, 2, 3, 4, 5, 6]⟩])))
       (.region false [⟨(some 22), .bin .add (.t 8) (.k (.d (.int .i64 1))), none, []⟩,
        ⟨(some 8), .mv (.t 22), none, [0]⟩]))))))) }
def HC94 (P : Program) (N : Nat → Nat) : Prop := HasF P (N 94) (C94 N) ∧ HC25 P N
def f94_l7 (a0 : (List Int)) : Nat → Int → (List UInt8) → Option (LR2 (List UInt8) Unit (List UInt8))
  | 0, _, _ => none
  | k + 1, y7_1, y7_2 => cond (decide (y7_1 < ((a0.length : Nat) : Int))) (gd (0 ≤ y7_1 ∧ y7_1 < ((a0.length : Nat) : Int)) ((f25 k (rd a0 y7_1)).bind fun r33 => gd ((y7_2.length + r33.length) * 2 * 1 ≤ 281474976710656) (f94_l7 a0 k (IntKind.i64.wrap (y7_1 + (1 : Int))) (y7_2 ++ r33)))) (some (.b0 y7_2))
def f94 (k : Nat) (a0 : (List Int)) : Option (List UInt8) := (f94_l7 a0 k (0 : Int) ([] : List UInt8)).bind fun o7 => match o7 with | .b0 x7_1 => some x7_1 | _ => none
theorem F94 {P : Program} {N : Nat → Nat} (hmix : P.follows .mixedOrders = true) (hc : HC94 P N) {k : Nat} {a0 : (List Int)} {r : (List UInt8)} (h : f94 k a0 = some r) :
    ACalls P (N 94) [(.ptr 0 0), (.d (.sl (List.map (D.int .i64) a0)))] [(0, (.cells [.nils]))] (.tup []) [(0, (.cells [(.ap 1 1 (List.map byteD r))])), (1, (.tok ((List.map byteD r).length * 1)))] := by
  refine acalls_canon (F := C94 N) hc.1 1 2 rfl ?_
  unfold f94 at h
  dsimp only [C94, startL]
  refine AWc.seq ?_
  refine AWc.rg hmix rfl rfl ?_
  refine RegV.p0 rfl rfl rfl ?_
  refine RegV.len (xs := a0) (e := (D.int .i64)) rfl rfl rfl rfl ?_
  refine RegV.p0 rfl rfl rfl ?_
  refine RegV.nil0 ?_
  obtain ⟨o7, h7, h⟩ := bind_some h
  refine AWc.block ?_
  refine AWc.loopK (N := 23) 2 (fun (x : (Int × (List UInt8))) => [(0, (.ptr 0 0)), (6, (.d (.sl (List.map (D.int .i64) a0)))), (7, (.d (.int .i64 ((a0.length : Nat) : Int)))), (8, (.d (.int .i64 x.1)))]) (fun x => [(0, (.cells [(.ap 1 1 (List.map byteD x.2))])), (1, (.tok ((List.map byteD x.2).length * 1)))]) (fun k x => f94_l7 a0 k x.1 x.2 = some o7) k ((0 : Int), ([] : List UInt8)) rfl_le (fun x hx => by cases hx) h7 ⟨rfl, [.tok 0], [(1, 1)], rfl, rfl, ⟨⟨_, rfl, (.refl _)⟩, rfl, ⟨⟨_, rfl, (.refl _)⟩, rfl, ⟨⟨_, rfl, (.refl _)⟩, rfl, ⟨⟨_, rfl, (.refl _)⟩, rfl, trivial⟩⟩⟩⟩, ⟨⟨_, rfl, (.cells (.cons .nil .nil))⟩, rfl, rfl, ⟨⟨_, rfl, (.refl _)⟩, rfl, rfl, trivial⟩⟩⟩ ?_
  clear h7
  intro k
  rintro ⟨y7_1, y7_2⟩ h7
  dsimp only at h7 ⊢
  rw [f94_l7] at h7
  refine AWc.seq ?_
  refine AWc.rg hmix rfl rfl ?_
  refine RegV.p0 (v := (.d (.bool (decide (y7_1 < ((a0.length : Nat) : Int)))))) rfl rfl rfl ?_
  refine RegV.nil0 ?_
  refine AWc.seq ?_
  refine AWc.cond rfl (fun c14 => ?_) (fun c14 => ?_)
  · have h7 := cond_pos c14 h7
    refine AWc.skip ?_
    refine AWc.seq ?_
    refine AWc.block ?_
    refine AWc.seq ?_
    refine AWc.rg hmix rfl rfl ?_
    obtain ⟨b22, h7⟩ := gd_some h7
    refine RegV.iad (xs := a0) (e := (D.int .i64)) rfl rfl rfl rfl (fun _ => rfl) b22 rfl ?_
    refine RegV.p0 (v := (.d (.int .i64 (rd a0 y7_1)))) rfl rfl rfl ?_
    refine RegV.p0 rfl rfl rfl ?_
    refine RegV.nil0 ?_
    refine AWc.rg hmix rfl rfl ?_
    refine RegV.p0 rfl rfl rfl ?_
    refine RegV.p0 rfl rfl rfl ?_
    refine RegV.p0 rfl rfl rfl ?_
    refine RegV.p0 (v := (.ptr 0 0)) rfl rfl rfl ?_
    refine RegV.ld (v := (.ap 1 1 (List.map byteD y7_2))) (H' := [(0, (.cells [(.ap 1 1 (List.map byteD y7_2))])), (1, (.tok ((List.map byteD y7_2).length * 1)))]) rfl rfl trivial rfl rfl rfl rfl rfl ?_
    refine RegV.p0 rfl rfl rfl ?_
    obtain ⟨r33, e33, h7⟩ := bind_some h7
    refine RegV.callS (q := false) (H' := [(2, (.tok ((List.map byteD r33).length * 1))), (0, (.cells [(.ap 1 1 (List.map byteD y7_2))])), (1, (.tok ((List.map byteD y7_2).length * 1)))]) (c' := 3) (show ACalls P (N 25) [(.d (.int .i64 (rd a0 y7_1)))] [] (.ap 2 1 (List.map byteD r33)) [(2, (.tok ((List.map byteD r33).length * 1)))] from ACalls.use (F25 hmix hc.2 e33) [(0, 2)] 1 rfl) rfl rfl rfl rfl (.cons (.refl _) .nil) (.refl _) (fun h => by cases h) rfl hasNil rfl rfl rfl rfl ?_
    obtain ⟨b34, h7⟩ := gd_some h7
    refine RegV.appA (xs := y7_2) (ys := r33) (e := byteD) (H1 := [(2, (.tok ((List.map byteD r33).length * 1))), (0, (.cells [(.ap 1 1 (List.map byteD y7_2))]))]) rfl rfl rfl rfl (fun _ => rfl) rfl rfl b34 rfl rfl rfl ?_
    refine RegV.p0 rfl rfl rfl ?_
    refine RegV.p0 (v := (.ptr 0 0)) rfl rfl rfl ?_
    refine RegV.evN (own := false) (H' := [(0, (.cells [(.ap 3 1 (List.map byteD (y7_2 ++ r33)))])), (3, (.tok ((List.map byteD (y7_2 ++ r33)).length * 1))), (2, (.tok ((List.map byteD r33).length * 1)))]) (c' := 4) rfl rfl (by exact ⟨rfl, Nat.le_of_ble_eq_true rfl, rfl⟩) rfl rfl rfl rfl ?_
    refine RegV.nil1 (by kernel_rfl) ?_
    refine AWc.rg hmix rfl rfl ?_
    refine RegV.p0 (v := (.d (.int .i64 (IntKind.i64.wrap (y7_1 + (1 : Int)))))) rfl rfl rfl ?_
    refine RegV.p0 rfl rfl rfl ?_
    refine RegV.nil0 ?_
    exact ⟨((IntKind.i64.wrap (y7_1 + (1 : Int))), (y7_2 ++ r33)), h7, ⟨rfl, [], [(1, 3)], rfl, rfl, ⟨⟨_, rfl, (.refl _)⟩, rfl, ⟨⟨_, rfl, (.refl _)⟩, rfl, ⟨⟨_, rfl, (.refl _)⟩, rfl, ⟨⟨_, rfl, (.refl _)⟩, rfl, trivial⟩⟩⟩⟩, ⟨⟨_, rfl, (.refl _)⟩, rfl, rfl, ⟨⟨_, rfl, (.refl _)⟩, rfl, rfl, trivial⟩⟩⟩⟩
  · have h7 := cond_neg c14 h7
    cases h7
    dsimp only at h
    refine AWc.exit ?_
    refine inBlk_eq ?_
    have hr := Option.some.inj h
    subst hr
    exact canQ (N := 23) (k := 2) (l' := []) (H' := [(0, (.cells [(.ap 1 1 (List.map byteD y7_2))])), (1, (.tok ((List.map byteD y7_2).length * 1)))]) rfl ⟨rfl, [], [], rfl, rfl,  trivial, ⟨⟨_, rfl, (.refl _)⟩, rfl, rfl, ⟨⟨_, rfl, (.refl _)⟩, rfl, rfl, trivial⟩⟩⟩ (doneA (.inl rfl) rfl trivial (.refl _) (hasCons rfl (hasCons rfl hasNil)))
/-- courant/code.Text -/
def C27 (N : Nat → Nat) : AFunc := { n := 8, params := 1, res := [.tmp 2], body :=
 (.seq (.region false [⟨(some 2), .mv (.k .nils), none, []⟩])
  (.seq (.region false [⟨(some 3), .mv (.t 0), none, []⟩,
    ⟨(some 4), .len (.t 3), none, [0]⟩,
    ⟨(some 5), .call (.k (.d (.fn (N 25)))) [(.t 4)], none, [1]⟩,
    ⟨(some 6), .mv (.t 0), none, []⟩,
    ⟨(some 7), .app (.t 5) (.t 6) 1 1 [(.int .u8 0)], none, [2, 3]⟩,
    ⟨(some 2), .mv (.t 7), none, [4, 0, 1, 2, 3]⟩])
   .ret)) }
def HC27 (P : Program) (N : Nat → Nat) : Prop := HasF P (N 27) (C27 N) ∧ HC25 P N
def f27 (k : Nat) (a0 : (List UInt8)) : Option (List UInt8) := (f25 k ((a0.length : Nat) : Int)).bind fun r10 => gd ((r10.length + a0.length) * 2 * 1 ≤ 281474976710656) (some (r10 ++ a0))
theorem F27 {P : Program} {N : Nat → Nat} (hmix : P.follows .mixedOrders = true) (hc : HC27 P N) {k : Nat} {a0 : (List UInt8)} {r : (List UInt8)} (h : f27 k a0 = some r) :
    ACalls P (N 27) [(.d (.sl (List.map byteD a0)))] [] (.ap 0 1 (List.map byteD r)) [(0, (.tok ((List.map byteD r).length * 1)))] := by
  refine acalls_canon (F := C27 N) hc.1 0 1 rfl ?_
  unfold f27 at h
  dsimp only [C27, startL]
  refine AWc.seq ?_
  refine AWc.rg hmix rfl rfl ?_
  refine RegV.p0 rfl rfl rfl ?_
  refine RegV.nil0 ?_
  refine AWc.seq ?_
  refine AWc.rg hmix rfl rfl ?_
  refine RegV.p0 rfl rfl rfl ?_
  refine RegV.len (xs := a0) (e := byteD) rfl rfl rfl rfl ?_
  obtain ⟨r10, e10, h⟩ := bind_some h
  refine RegV.callS (q := false) (H' := [(0, (.tok ((List.map byteD r10).length * 1)))]) (c' := 1) (show ACalls P (N 25) [(.d (.int .i64 ((a0.length : Nat) : Int)))] [] (.ap 0 1 (List.map byteD r10)) [(0, (.tok ((List.map byteD r10).length * 1)))] from ACalls.use (F25 hmix hc.2 e10) [(0, 0)] 1 rfl) rfl rfl rfl rfl (.cons (.refl _) .nil) (.refl _) (fun h => by cases h) rfl hasNil rfl rfl rfl rfl ?_
  refine RegV.p0 rfl rfl rfl ?_
  obtain ⟨b12, h⟩ := gd_some h
  refine RegV.appA (xs := r10) (ys := a0) (e := byteD) (H1 := []) rfl rfl rfl rfl (fun _ => rfl) rfl rfl b12 rfl rfl rfl ?_
  refine RegV.p0 rfl rfl rfl ?_
  refine RegV.nil0 ?_
  have hr := Option.some.inj h
  subst hr
  exact AWc.ret (canQ (N := 8) (k := 1) (l' := [(2, (.ap 0 1 (List.map byteD (r10 ++ a0))))]) (H' := [(0, (.tok ((List.map byteD (r10 ++ a0)).length * 1)))]) rfl ⟨rfl, [], [(0, 1)], rfl, rfl, ⟨⟨_, rfl, (.refl _)⟩, rfl, trivial⟩, ⟨⟨_, rfl, (.refl _)⟩, rfl, rfl, trivial⟩⟩ (doneA (.inr rfl) rfl ⟨trivial, trivial⟩ (.refl _) (hasCons rfl hasNil)))
/-- (*courant/request.writer).texts -/
def C95 (N : Nat → Nat) : AFunc := { n := 24, params := 2, res := [], body :=
 (.seq (.region false [⟨(some 6), .mv (.t 1), none, []⟩,
   ⟨(some 7), .len (.t 6), none, [0]⟩,
   ⟨(some 8), .mv (.k (.d (.int .i64 0))), none, []⟩])
  (.block 0 (.loop (.seq (.region false [⟨(some 9), .bin .lss (.t 8) (.t 7), none, []⟩])
     (.seq (.cond (.t 9) (.skip)
       (.exit 0))
      (.seq (.block 1 (.seq (.region false [⟨(some 10), .iaddr (.t 6) (.t 8) 1, none, []⟩,
          ⟨(some 11), .load (.t 10) 1 false, none, [0]⟩,
          ⟨(some 5), .mv (.t 11), none, [1, 0]⟩])
         (.region true [⟨(some 12), .mv (.t 0), none, []⟩,
          ⟨(some 13), .mv (.t 0), none, []⟩,
          ⟨(some 14), .nilchk (.t 13), none, [1]⟩,
          ⟨(some 15), .faddr (.t 14) 0, none, [2]⟩,
          ⟨(some 16), .load (.t 15) 1 false, none, [3]⟩,
          ⟨(some 17), .mv (.t 5), none, []⟩,
          ⟨(some 18), .s2bs (.t 17), none, [5]⟩,
          ⟨(some 19), .call (.k (.d (.fn (N 27)))) [(.t 18)], none, [6]⟩,
          ⟨(some 20), .app (.t 16) (.t 19) 1 1 [(.int .u8 0)], none, [4, 7]⟩,
          ⟨(some 21), .nilchk (.t 12), none, [0, 1, 2, 3, 4, 5, 6, 7, 8]⟩,
          ⟨(some 22), .faddr (.t 21) 0, none, [9, 0, 1, 2, 3, 4, 5, 6, 7, 8]⟩,
          ⟨none, .store (.t 22) (.t 20) 1, none, [10, 8, 0, 1, 2, 3, 4, 5, 6, 7]⟩])))
       (.region false [⟨(some 23), .bin .add (.t 8) (.k (.d (.int .i64 1))), none, []⟩,
        ⟨(some 8), .mv (.t 23), none, [0]⟩]))))))) }
def HC95 (P : Program) (N : Nat → Nat) : Prop := HasF P (N 95) (C95 N) ∧ HC27 P N
def f95_l7 (a1 : (List (List UInt8))) : Nat → Int → (List UInt8) → Option (LR2 (List UInt8) Unit (List UInt8))
  | 0, _, _ => none
  | k + 1, y7_1, y7_2 => cond (decide (y7_1 < ((a1.length : Nat) : Int))) (gd (0 ≤ y7_1 ∧ y7_1 < ((a1.length : Nat) : Int)) ((f27 k (rd a1 y7_1)).bind fun r34 => gd ((y7_2.length + r34.length) * 2 * 1 ≤ 281474976710656) (f95_l7 a1 k (IntKind.i64.wrap (y7_1 + (1 : Int))) (y7_2 ++ r34)))) (some (.b0 y7_2))
def f95 (k : Nat) (a0 : (List UInt8)) (a1 : (List (List UInt8))) : Option (List UInt8) := (f95_l7 a1 k (0 : Int) a0).bind fun o7 => match o7 with | .b0 x7_1 => some x7_1 | _ => none
theorem F95 {P : Program} {N : Nat → Nat} (hmix : P.follows .mixedOrders = true) (hc : HC95 P N) {k : Nat} {a0 : (List UInt8)} {a1 : (List (List UInt8))} {r : (List UInt8)} (h : f95 k a0 a1 = some r) :
    ACalls P (N 95) [(.ptr 0 0), (.d (.sl (List.map D.str a1)))] [(0, (.cells [(.ap 1 1 (List.map byteD a0))])), (1, (.tok ((List.map byteD a0).length * 1)))] (.tup []) [(0, (.cells [(.ap 2 1 (List.map byteD r))])), (2, (.tok ((List.map byteD r).length * 1)))] := by
  refine acalls_canon (F := C95 N) hc.1 2 3 rfl ?_
  unfold f95 at h
  dsimp only [C95, startL]
  refine AWc.seq ?_
  refine AWc.rg hmix rfl rfl ?_
  refine RegV.p0 rfl rfl rfl ?_
  refine RegV.len (xs := a1) (e := D.str) rfl rfl rfl rfl ?_
  refine RegV.p0 rfl rfl rfl ?_
  refine RegV.nil0 ?_
  obtain ⟨o7, h7, h⟩ := bind_some h
  refine AWc.block ?_
  refine AWc.loopK (N := 24) 3 (fun (x : (Int × (List UInt8))) => [(0, (.ptr 0 0)), (6, (.d (.sl (List.map D.str a1)))), (7, (.d (.int .i64 ((a1.length : Nat) : Int)))), (8, (.d (.int .i64 x.1)))]) (fun x => [(0, (.cells [(.ap 2 1 (List.map byteD x.2))])), (2, (.tok ((List.map byteD x.2).length * 1)))]) (fun k x => f95_l7 a1 k x.1 x.2 = some o7) k ((0 : Int), a0) rfl_le (fun x hx => by cases hx) h7 ⟨rfl, [], [(2, 1)], rfl, rfl, ⟨⟨_, rfl, (.refl _)⟩, rfl, ⟨⟨_, rfl, (.refl _)⟩, rfl, ⟨⟨_, rfl, (.refl _)⟩, rfl, ⟨⟨_, rfl, (.refl _)⟩, rfl, trivial⟩⟩⟩⟩, ⟨⟨_, rfl, (.refl _)⟩, rfl, rfl, ⟨⟨_, rfl, (.refl _)⟩, rfl, rfl, trivial⟩⟩⟩ ?_
  clear h7
  intro k
  rintro ⟨y7_1, y7_2⟩ h7
  dsimp only at h7 ⊢
  rw [f95_l7] at h7
  refine AWc.seq ?_
  refine AWc.rg hmix rfl rfl ?_
  refine RegV.p0 (v := (.d (.bool (decide (y7_1 < ((a1.length : Nat) : Int)))))) rfl rfl rfl ?_
  refine RegV.nil0 ?_
  refine AWc.seq ?_
  refine AWc.cond rfl (fun c14 => ?_) (fun c14 => ?_)
  · have h7 := cond_pos c14 h7
    refine AWc.skip ?_
    refine AWc.seq ?_
    refine AWc.block ?_
    refine AWc.seq ?_
    refine AWc.rg hmix rfl rfl ?_
    obtain ⟨b22, h7⟩ := gd_some h7
    refine RegV.iad (xs := a1) (e := D.str) rfl rfl rfl rfl (fun _ => rfl) b22 rfl ?_
    refine RegV.p0 (v := (.d (.str (rd a1 y7_1)))) rfl rfl rfl ?_
    refine RegV.p0 rfl rfl rfl ?_
    refine RegV.nil0 ?_
    refine AWc.rg hmix rfl rfl ?_
    refine RegV.p0 rfl rfl rfl ?_
    refine RegV.p0 rfl rfl rfl ?_
    refine RegV.p0 rfl rfl rfl ?_
    refine RegV.p0 (v := (.ptr 0 0)) rfl rfl rfl ?_
    refine RegV.ld (v := (.ap 2 1 (List.map byteD y7_2))) (H' := [(0, (.cells [(.ap 2 1 (List.map byteD y7_2))])), (2, (.tok ((List.map byteD y7_2).length * 1)))]) rfl rfl trivial rfl rfl rfl rfl rfl ?_
    refine RegV.p0 rfl rfl rfl ?_
    refine RegV.p0 (v := (.d (.sl (List.map byteD (rd a1 y7_1))))) rfl rfl rfl ?_
    obtain ⟨r34, e34, h7⟩ := bind_some h7
    refine RegV.callS (q := false) (H' := [(3, (.tok ((List.map byteD r34).length * 1))), (0, (.cells [(.ap 2 1 (List.map byteD y7_2))])), (2, (.tok ((List.map byteD y7_2).length * 1)))]) (c' := 4) (show ACalls P (N 27) [(.d (.sl (List.map byteD (rd a1 y7_1))))] [] (.ap 3 1 (List.map byteD r34)) [(3, (.tok ((List.map byteD r34).length * 1)))] from ACalls.use (F27 hmix hc.2 e34) [(0, 3)] 1 rfl) rfl rfl rfl rfl (.cons (.refl _) .nil) (.refl _) (fun h => by cases h) rfl hasNil rfl rfl rfl rfl ?_
    obtain ⟨b35, h7⟩ := gd_some h7
    refine RegV.appA (xs := y7_2) (ys := r34) (e := byteD) (H1 := [(3, (.tok ((List.map byteD r34).length * 1))), (0, (.cells [(.ap 2 1 (List.map byteD y7_2))]))]) rfl rfl rfl rfl (fun _ => rfl) rfl rfl b35 rfl rfl rfl ?_
    refine RegV.p0 rfl rfl rfl ?_
    refine RegV.p0 (v := (.ptr 0 0)) rfl rfl rfl ?_
    refine RegV.evN (own := false) (H' := [(0, (.cells [(.ap 4 1 (List.map byteD (y7_2 ++ r34)))])), (4, (.tok ((List.map byteD (y7_2 ++ r34)).length * 1))), (3, (.tok ((List.map byteD r34).length * 1)))]) (c' := 5) rfl rfl (by exact ⟨rfl, Nat.le_of_ble_eq_true rfl, rfl⟩) rfl rfl rfl rfl ?_
    refine RegV.nil1 (by kernel_rfl) ?_
    refine AWc.rg hmix rfl rfl ?_
    refine RegV.p0 (v := (.d (.int .i64 (IntKind.i64.wrap (y7_1 + (1 : Int)))))) rfl rfl rfl ?_
    refine RegV.p0 rfl rfl rfl ?_
    refine RegV.nil0 ?_
    exact ⟨((IntKind.i64.wrap (y7_1 + (1 : Int))), (y7_2 ++ r34)), h7, ⟨rfl, [], [(2, 4)], rfl, rfl, ⟨⟨_, rfl, (.refl _)⟩, rfl, ⟨⟨_, rfl, (.refl _)⟩, rfl, ⟨⟨_, rfl, (.refl _)⟩, rfl, ⟨⟨_, rfl, (.refl _)⟩, rfl, trivial⟩⟩⟩⟩, ⟨⟨_, rfl, (.refl _)⟩, rfl, rfl, ⟨⟨_, rfl, (.refl _)⟩, rfl, rfl, trivial⟩⟩⟩⟩
  · have h7 := cond_neg c14 h7
    cases h7
    dsimp only at h
    refine AWc.exit ?_
    refine inBlk_eq ?_
    have hr := Option.some.inj h
    subst hr
    exact canQ (N := 24) (k := 3) (l' := []) (H' := [(0, (.cells [(.ap 2 1 (List.map byteD y7_2))])), (2, (.tok ((List.map byteD y7_2).length * 1)))]) rfl ⟨rfl, [], [], rfl, rfl,  trivial, ⟨⟨_, rfl, (.refl _)⟩, rfl, rfl, ⟨⟨_, rfl, (.refl _)⟩, rfl, rfl, trivial⟩⟩⟩ (doneA (.inl rfl) rfl trivial (.refl _) (hasCons rfl (hasCons rfl hasNil)))
def HC94v2 (P : Program) (N : Nat → Nat) : Prop := HasF P (N 94) (C94 N) ∧ HC25 P N
def f94v2_l7 (a1 : (List Int)) : Nat → Int → (List UInt8) → Option (LR2 (List UInt8) Unit (List UInt8))
  | 0, _, _ => none
  | k + 1, y7_1, y7_2 => cond (decide (y7_1 < ((a1.length : Nat) : Int))) (gd (0 ≤ y7_1 ∧ y7_1 < ((a1.length : Nat) : Int)) ((f25 k (rd a1 y7_1)).bind fun r33 => gd ((y7_2.length + r33.length) * 2 * 1 ≤ 281474976710656) (f94v2_l7 a1 k (IntKind.i64.wrap (y7_1 + (1 : Int))) (y7_2 ++ r33)))) (some (.b0 y7_2))
def f94v2 (k : Nat) (a0 : (List UInt8)) (a1 : (List Int)) : Option (List UInt8) := (f94v2_l7 a1 k (0 : Int) a0).bind fun o7 => match o7 with | .b0 x7_1 => some x7_1 | _ => none
theorem F94v2 {P : Program} {N : Nat → Nat} (hmix : P.follows .mixedOrders = true) (hc : HC94v2 P N) {k : Nat} {a0 : (List UInt8)} {a1 : (List Int)} {r : (List UInt8)} (h : f94v2 k a0 a1 = some r) :
    ACalls P (N 94) [(.ptr 0 0), (.d (.sl (List.map (D.int .i64) a1)))] [(0, (.cells [(.ap 1 1 (List.map byteD a0))])), (1, (.tok ((List.map byteD a0).length * 1)))] (.tup []) [(0, (.cells [(.ap 2 1 (List.map byteD r))])), (2, (.tok ((List.map byteD r).length * 1)))] := by
  refine acalls_canon (F := C94 N) hc.1 2 3 rfl ?_
  unfold f94v2 at h
  dsimp only [C94, startL]
  refine AWc.seq ?_
  refine AWc.rg hmix rfl rfl ?_
  refine RegV.p0 rfl rfl rfl ?_
  refine RegV.len (xs := a1) (e := (D.int .i64)) rfl rfl rfl rfl ?_
  refine RegV.p0 rfl rfl rfl ?_
  refine RegV.nil0 ?_
  obtain ⟨o7, h7, h⟩ := bind_some h
  refine AWc.block ?_
  refine AWc.loopK (N := 23) 3 (fun (x : (Int × (List UInt8))) => [(0, (.ptr 0 0)), (6, (.d (.sl (List.map (D.int .i64) a1)))), (7, (.d (.int .i64 ((a1.length : Nat) : Int)))), (8, (.d (.int .i64 x.1)))]) (fun x => [(0, (.cells [(.ap 2 1 (List.map byteD x.2))])), (2, (.tok ((List.map byteD x.2).length * 1)))]) (fun k x => f94v2_l7 a1 k x.1 x.2 = some o7) k ((0 : Int), a0) rfl_le (fun x hx => by cases hx) h7 ⟨rfl, [], [(2, 1)], rfl, rfl, ⟨⟨_, rfl, (.refl _)⟩, rfl, ⟨⟨_, rfl, (.refl _)⟩, rfl, ⟨⟨_, rfl, (.refl _)⟩, rfl, ⟨⟨_, rfl, (.refl _)⟩, rfl, trivial⟩⟩⟩⟩, ⟨⟨_, rfl, (.refl _)⟩, rfl, rfl, ⟨⟨_, rfl, (.refl _)⟩, rfl, rfl, trivial⟩⟩⟩ ?_
  clear h7
  intro k
  rintro ⟨y7_1, y7_2⟩ h7
  dsimp only at h7 ⊢
  rw [f94v2_l7] at h7
  refine AWc.seq ?_
  refine AWc.rg hmix rfl rfl ?_
  refine RegV.p0 (v := (.d (.bool (decide (y7_1 < ((a1.length : Nat) : Int)))))) rfl rfl rfl ?_
  refine RegV.nil0 ?_
  refine AWc.seq ?_
  refine AWc.cond rfl (fun c14 => ?_) (fun c14 => ?_)
  · have h7 := cond_pos c14 h7
    refine AWc.skip ?_
    refine AWc.seq ?_
    refine AWc.block ?_
    refine AWc.seq ?_
    refine AWc.rg hmix rfl rfl ?_
    obtain ⟨b22, h7⟩ := gd_some h7
    refine RegV.iad (xs := a1) (e := (D.int .i64)) rfl rfl rfl rfl (fun _ => rfl) b22 rfl ?_
    refine RegV.p0 (v := (.d (.int .i64 (rd a1 y7_1)))) rfl rfl rfl ?_
    refine RegV.p0 rfl rfl rfl ?_
    refine RegV.nil0 ?_
    refine AWc.rg hmix rfl rfl ?_
    refine RegV.p0 rfl rfl rfl ?_
    refine RegV.p0 rfl rfl rfl ?_
    refine RegV.p0 rfl rfl rfl ?_
    refine RegV.p0 (v := (.ptr 0 0)) rfl rfl rfl ?_
    refine RegV.ld (v := (.ap 2 1 (List.map byteD y7_2))) (H' := [(0, (.cells [(.ap 2 1 (List.map byteD y7_2))])), (2, (.tok ((List.map byteD y7_2).length * 1)))]) rfl rfl trivial rfl rfl rfl rfl rfl ?_
    refine RegV.p0 rfl rfl rfl ?_
    obtain ⟨r33, e33, h7⟩ := bind_some h7
    refine RegV.callS (q := false) (H' := [(3, (.tok ((List.map byteD r33).length * 1))), (0, (.cells [(.ap 2 1 (List.map byteD y7_2))])), (2, (.tok ((List.map byteD y7_2).length * 1)))]) (c' := 4) (show ACalls P (N 25) [(.d (.int .i64 (rd a1 y7_1)))] [] (.ap 3 1 (List.map byteD r33)) [(3, (.tok ((List.map byteD r33).length * 1)))] from ACalls.use (F25 hmix hc.2 e33) [(0, 3)] 1 rfl) rfl rfl rfl rfl (.cons (.refl _) .nil) (.refl _) (fun h => by cases h) rfl hasNil rfl rfl rfl rfl ?_
    obtain ⟨b34, h7⟩ := gd_some h7
    refine RegV.appA (xs := y7_2) (ys := r33) (e := byteD) (H1 := [(3, (.tok ((List.map byteD r33).length * 1))), (0, (.cells [(.ap 2 1 (List.map byteD y7_2))]))]) rfl rfl rfl rfl (fun _ => rfl) rfl rfl b34 rfl rfl rfl ?_
    refine RegV.p0 rfl rfl rfl ?_
    refine RegV.p0 (v := (.ptr 0 0)) rfl rfl rfl ?_
    refine RegV.evN (own := false) (H' := [(0, (.cells [(.ap 4 1 (List.map byteD (y7_2 ++ r33)))])), (4, (.tok ((List.map byteD (y7_2 ++ r33)).length * 1))), (3, (.tok ((List.map byteD r33).length * 1)))]) (c' := 5) rfl rfl (by exact ⟨rfl, Nat.le_of_ble_eq_true rfl, rfl⟩) rfl rfl rfl rfl ?_
    refine RegV.nil1 (by kernel_rfl) ?_
    refine AWc.rg hmix rfl rfl ?_
    refine RegV.p0 (v := (.d (.int .i64 (IntKind.i64.wrap (y7_1 + (1 : Int)))))) rfl rfl rfl ?_
    refine RegV.p0 rfl rfl rfl ?_
    refine RegV.nil0 ?_
    exact ⟨((IntKind.i64.wrap (y7_1 + (1 : Int))), (y7_2 ++ r33)), h7, ⟨rfl, [], [(2, 4)], rfl, rfl, ⟨⟨_, rfl, (.refl _)⟩, rfl, ⟨⟨_, rfl, (.refl _)⟩, rfl, ⟨⟨_, rfl, (.refl _)⟩, rfl, ⟨⟨_, rfl, (.refl _)⟩, rfl, trivial⟩⟩⟩⟩, ⟨⟨_, rfl, (.refl _)⟩, rfl, rfl, ⟨⟨_, rfl, (.refl _)⟩, rfl, rfl, trivial⟩⟩⟩⟩
  · have h7 := cond_neg c14 h7
    cases h7
    dsimp only at h
    refine AWc.exit ?_
    refine inBlk_eq ?_
    have hr := Option.some.inj h
    subst hr
    exact canQ (N := 23) (k := 3) (l' := []) (H' := [(0, (.cells [(.ap 2 1 (List.map byteD y7_2))])), (2, (.tok ((List.map byteD y7_2).length * 1)))]) rfl ⟨rfl, [], [], rfl, rfl,  trivial, ⟨⟨_, rfl, (.refl _)⟩, rfl, rfl, ⟨⟨_, rfl, (.refl _)⟩, rfl, rfl, trivial⟩⟩⟩ (doneA (.inl rfl) rfl trivial (.refl _) (hasCons rfl (hasCons rfl hasNil)))
/-- (*courant/request.writer).nums -/
def C96 (N : Nat → Nat) : AFunc := { n := 23, params := 2, res := [], body :=
 (.seq (.region false [⟨(some 6), .mv (.t 1), none, []⟩,
   ⟨(some 7), .len (.t 6), none, [0]⟩,
   ⟨(some 8), .mv (.k (.d (.int .i64 0))), none, []⟩])
  (.block 0 (.loop (.seq (.region false [⟨(some 9), .bin .lss (.t 8) (.t 7), none, []⟩])
     (.seq (.cond (.t 9) (.skip)
       (.exit 0))
      (.seq (.block 1 (.seq (.region false [⟨(some 10), .iaddr (.t 6) (.t 8) 1, none, []⟩,
          ⟨(some 11), .load (.t 10) 1 false, none, [0]⟩,
          ⟨(some 5), .mv (.t 11), none, [1, 0]⟩])
         (.region true [⟨(some 12), .mv (.t 0), none, []⟩,
          ⟨(some 13), .mv (.t 0), none, []⟩,
          ⟨(some 14), .nilchk (.t 13), none, [1]⟩,
          ⟨(some 15), .faddr (.t 14) 0, none, [2]⟩,
          ⟨(some 16), .load (.t 15) 1 false, none, [3]⟩,
          ⟨(some 17), .mv (.t 5), none, []⟩,
          ⟨(some 18), .call (.k (.d (.fn (N 23)))) [(.t 17)], none, [5]⟩,
          ⟨(some 19), .app (.t 16) (.t 18) 1 1 [(.int .u8 0)], none, [4, 6]⟩,
          ⟨(some 20), .nilchk (.t 12), none, [0, 1, 2, 3, 4, 5, 6, 7]⟩,
          ⟨(some 21), .faddr (.t 20) 0, none, [8, 0, 1, 2, 3, 4, 5, 6, 7]⟩,
          ⟨none, .store (.t 21) (.t 19) 1, none, [9, 7, 0, 1, 2, 3, 4, 5, 6]⟩])))
       (.region false [⟨(some 22), .bin .add (.t 8) (.k (.d (.int .i64 1))), none, []⟩,
        ⟨(some 8), .mv (.t 22), none, [0]⟩]))))))) }
def HC96 (P : Program) (N : Nat → Nat) : Prop := HasF P (N 96) (C96 N) ∧ HC23 P N
def f96_l7 (a1 : (List Int)) : Nat → Int → (List UInt8) → Option (LR2 (List UInt8) Unit (List UInt8))
  | 0, _, _ => none
  | k + 1, y7_1, y7_2 => cond (decide (y7_1 < ((a1.length : Nat) : Int))) (gd (0 ≤ y7_1 ∧ y7_1 < ((a1.length : Nat) : Int)) ((f23 k (rd a1 y7_1)).bind fun r33 => gd ((y7_2.length + r33.length) * 2 * 1 ≤ 281474976710656) (f96_l7 a1 k (IntKind.i64.wrap (y7_1 + (1 : Int))) (y7_2 ++ r33)))) (some (.b0 y7_2))
def f96 (k : Nat) (a0 : (List UInt8)) (a1 : (List Int)) : Option (List UInt8) := (f96_l7 a1 k (0 : Int) a0).bind fun o7 => match o7 with | .b0 x7_1 => some x7_1 | _ => none
theorem F96 {P : Program} {N : Nat → Nat} (hmix : P.follows .mixedOrders = true) (hc : HC96 P N) {k : Nat} {a0 : (List UInt8)} {a1 : (List Int)} {r : (List UInt8)} (h : f96 k a0 a1 = some r) :
    ACalls P (N 96) [(.ptr 0 0), (.d (.sl (List.map (D.int .u64) a1)))] [(0, (.cells [(.ap 1 1 (List.map byteD a0))])), (1, (.tok ((List.map byteD a0).length * 1)))] (.tup []) [(0, (.cells [(.ap 2 1 (List.map byteD r))])), (2, (.tok ((List.map byteD r).length * 1)))] := by
  refine acalls_canon (F := C96 N) hc.1 2 3 rfl ?_
  unfold f96 at h
  dsimp only [C96, startL]
  refine AWc.seq ?_
  refine AWc.rg hmix rfl rfl ?_
  refine RegV.p0 rfl rfl rfl ?_
  refine RegV.len (xs := a1) (e := (D.int .u64)) rfl rfl rfl rfl ?_
  refine RegV.p0 rfl rfl rfl ?_
  refine RegV.nil0 ?_
  obtain ⟨o7, h7, h⟩ := bind_some h
  refine AWc.block ?_
  refine AWc.loopK (N := 23) 3 (fun (x : (Int × (List UInt8))) => [(0, (.ptr 0 0)), (6, (.d (.sl (List.map (D.int .u64) a1)))), (7, (.d (.int .i64 ((a1.length : Nat) : Int)))), (8, (.d (.int .i64 x.1)))]) (fun x => [(0, (.cells [(.ap 2 1 (List.map byteD x.2))])), (2, (.tok ((List.map byteD x.2).length * 1)))]) (fun k x => f96_l7 a1 k x.1 x.2 = some o7) k ((0 : Int), a0) rfl_le (fun x hx => by cases hx) h7 ⟨rfl, [], [(2, 1)], rfl, rfl, ⟨⟨_, rfl, (.refl _)⟩, rfl, ⟨⟨_, rfl, (.refl _)⟩, rfl, ⟨⟨_, rfl, (.refl _)⟩, rfl, ⟨⟨_, rfl, (.refl _)⟩, rfl, trivial⟩⟩⟩⟩, ⟨⟨_, rfl, (.refl _)⟩, rfl, rfl, ⟨⟨_, rfl, (.refl _)⟩, rfl, rfl, trivial⟩⟩⟩ ?_
  clear h7
  intro k
  rintro ⟨y7_1, y7_2⟩ h7
  dsimp only at h7 ⊢
  rw [f96_l7] at h7
  refine AWc.seq ?_
  refine AWc.rg hmix rfl rfl ?_
  refine RegV.p0 (v := (.d (.bool (decide (y7_1 < ((a1.length : Nat) : Int)))))) rfl rfl rfl ?_
  refine RegV.nil0 ?_
  refine AWc.seq ?_
  refine AWc.cond rfl (fun c14 => ?_) (fun c14 => ?_)
  · have h7 := cond_pos c14 h7
    refine AWc.skip ?_
    refine AWc.seq ?_
    refine AWc.block ?_
    refine AWc.seq ?_
    refine AWc.rg hmix rfl rfl ?_
    obtain ⟨b22, h7⟩ := gd_some h7
    refine RegV.iad (xs := a1) (e := (D.int .u64)) rfl rfl rfl rfl (fun _ => rfl) b22 rfl ?_
    refine RegV.p0 (v := (.d (.int .u64 (rd a1 y7_1)))) rfl rfl rfl ?_
    refine RegV.p0 rfl rfl rfl ?_
    refine RegV.nil0 ?_
    refine AWc.rg hmix rfl rfl ?_
    refine RegV.p0 rfl rfl rfl ?_
    refine RegV.p0 rfl rfl rfl ?_
    refine RegV.p0 rfl rfl rfl ?_
    refine RegV.p0 (v := (.ptr 0 0)) rfl rfl rfl ?_
    refine RegV.ld (v := (.ap 2 1 (List.map byteD y7_2))) (H' := [(0, (.cells [(.ap 2 1 (List.map byteD y7_2))])), (2, (.tok ((List.map byteD y7_2).length * 1)))]) rfl rfl trivial rfl rfl rfl rfl rfl ?_
    refine RegV.p0 rfl rfl rfl ?_
    obtain ⟨r33, e33, h7⟩ := bind_some h7
    refine RegV.callS (q := false) (H' := [(3, (.tok ((List.map byteD r33).length * 1))), (0, (.cells [(.ap 2 1 (List.map byteD y7_2))])), (2, (.tok ((List.map byteD y7_2).length * 1)))]) (c' := 4) (show ACalls P (N 23) [(.d (.int .u64 (rd a1 y7_1)))] [] (.ap 3 1 (List.map byteD r33)) [(3, (.tok ((List.map byteD r33).length * 1)))] from ACalls.use (F23 hmix hc.2 e33) [(0, 3)] 1 rfl) rfl rfl rfl rfl (.cons (.refl _) .nil) (.refl _) (fun h => by cases h) rfl hasNil rfl rfl rfl rfl ?_
    obtain ⟨b34, h7⟩ := gd_some h7
    refine RegV.appA (xs := y7_2) (ys := r33) (e := byteD) (H1 := [(3, (.tok ((List.map byteD r33).length * 1))), (0, (.cells [(.ap 2 1 (List.map byteD y7_2))]))]) rfl rfl rfl rfl (fun _ => rfl) rfl rfl b34 rfl rfl rfl ?_
    refine RegV.p0 rfl rfl rfl ?_
    refine RegV.p0 (v := (.ptr 0 0)) rfl rfl rfl ?_
    refine RegV.evN (own := false) (H' := [(0, (.cells [(.ap 4 1 (List.map byteD (y7_2 ++ r33)))])), (4, (.tok ((List.map byteD (y7_2 ++ r33)).length * 1))), (3, (.tok ((List.map byteD r33).length * 1)))]) (c' := 5) rfl rfl (by exact ⟨rfl, Nat.le_of_ble_eq_true rfl, rfl⟩) rfl rfl rfl rfl ?_
    refine RegV.nil1 (by kernel_rfl) ?_
    refine AWc.rg hmix rfl rfl ?_
    refine RegV.p0 (v := (.d (.int .i64 (IntKind.i64.wrap (y7_1 + (1 : Int)))))) rfl rfl rfl ?_
    refine RegV.p0 rfl rfl rfl ?_
    refine RegV.nil0 ?_
    exact ⟨((IntKind.i64.wrap (y7_1 + (1 : Int))), (y7_2 ++ r33)), h7, ⟨rfl, [], [(2, 4)], rfl, rfl, ⟨⟨_, rfl, (.refl _)⟩, rfl, ⟨⟨_, rfl, (.refl _)⟩, rfl, ⟨⟨_, rfl, (.refl _)⟩, rfl, ⟨⟨_, rfl, (.refl _)⟩, rfl, trivial⟩⟩⟩⟩, ⟨⟨_, rfl, (.refl _)⟩, rfl, rfl, ⟨⟨_, rfl, (.refl _)⟩, rfl, rfl, trivial⟩⟩⟩⟩
  · have h7 := cond_neg c14 h7
    cases h7
    dsimp only at h
    refine AWc.exit ?_
    refine inBlk_eq ?_
    have hr := Option.some.inj h
    subst hr
    exact canQ (N := 23) (k := 3) (l' := []) (H' := [(0, (.cells [(.ap 2 1 (List.map byteD y7_2))])), (2, (.tok ((List.map byteD y7_2).length * 1)))]) rfl ⟨rfl, [], [], rfl, rfl,  trivial, ⟨⟨_, rfl, (.refl _)⟩, rfl, rfl, ⟨⟨_, rfl, (.refl _)⟩, rfl, rfl, trivial⟩⟩⟩ (doneA (.inl rfl) rfl trivial (.refl _) (hasCons rfl (hasCons rfl hasNil)))
/-- courant/request.Bytes -/
def C59 (N : Nat → Nat) : AFunc := { n := 41, params := 1, res := [.tmp 2], body :=
 (.seq (.region false [⟨(some 1), .box (.t 0), none, []⟩,
   ⟨(some 2), .mv (.k .nils), none, []⟩])
  (.seq (.region false [⟨(some 3), .alloc [(.sl [])], none, []⟩])
   (.seq (.region false [⟨(some 4), .faddr (.t 1) 0, none, []⟩,
     ⟨(some 5), .load (.t 4) 1 false, none, [0]⟩,
     ⟨(some 6), .bslice 1 1 [(.int .i64 0)] [(0, (.t 5))], none, [1]⟩,
     ⟨(some 7), .call (.k (.d (.fn (N 94)))) [(.t 3), (.t 6)], none, [2]⟩])
    (.seq (.region false [⟨(some 8), .faddr (.t 1) 1, none, []⟩,
      ⟨(some 9), .load (.t 8) 1 false, none, [0]⟩,
      ⟨(some 10), .faddr (.t 1) 2, none, []⟩,
      ⟨(some 11), .load (.t 10) 1 false, none, [2]⟩,
      ⟨(some 12), .faddr (.t 1) 3, none, []⟩,
      ⟨(some 13), .load (.t 12) 1 false, none, [4]⟩,
      ⟨(some 14), .bslice 3 1 [(.str [])] [(0, (.t 9)), (1, (.t 11)), (2, (.t 13))], none, [1, 3, 5]⟩,
      ⟨(some 15), .call (.k (.d (.fn (N 95)))) [(.t 3), (.t 14)], none, [6]⟩])
     (.seq (.region false [⟨(some 16), .faddr (.t 1) 4, none, []⟩,
       ⟨(some 17), .load (.t 16) 1 false, none, [0]⟩,
       ⟨(some 18), .faddr (.t 1) 5, none, []⟩,
       ⟨(some 19), .load (.t 18) 1 false, none, [2]⟩,
       ⟨(some 20), .bslice 2 1 [(.int .i64 0)] [(0, (.t 17)), (1, (.t 19))], none, [1, 3]⟩,
       ⟨(some 21), .call (.k (.d (.fn (N 94)))) [(.t 3), (.t 20)], none, [4]⟩])
      (.seq (.region false [⟨(some 22), .faddr (.t 1) 6, none, []⟩,
        ⟨(some 23), .load (.t 22) 1 false, none, [0]⟩,
        ⟨(some 24), .faddr (.t 1) 7, none, []⟩,
        ⟨(some 25), .load (.t 24) 1 false, none, [2]⟩,
        ⟨(some 26), .faddr (.t 1) 8, none, []⟩,
        ⟨(some 27), .load (.t 26) 1 false, none, [4]⟩,
        ⟨(some 28), .bslice 3 1 [(.int .u64 0)] [(0, (.t 23)), (1, (.t 25)), (2, (.t 27))], none, [1, 3, 5]⟩,
        ⟨(some 29), .call (.k (.d (.fn (N 96)))) [(.t 3), (.t 28)], none, [6]⟩])
       (.seq (.region false [⟨(some 30), .faddr (.t 1) 9, none, []⟩,
         ⟨(some 31), .load (.t 30) 1 false, none, [0]⟩,
         ⟨(some 32), .bslice 1 1 [(.int .i64 0)] [(0, (.t 31))], none, [1]⟩,
         ⟨(some 33), .call (.k (.d (.fn (N 94)))) [(.t 3), (.t 32)], none, [2]⟩])
        (.seq (.region false [⟨(some 34), .faddr (.t 1) 10, none, []⟩,
          ⟨(some 35), .load (.t 34) 1 false, none, [0]⟩,
          ⟨(some 36), .bs2s (.t 35), none, [1]⟩,
          ⟨(some 37), .bslice 1 1 [(.str [])] [(0, (.t 36))], none, [2]⟩,
          ⟨(some 38), .call (.k (.d (.fn (N 95)))) [(.t 3), (.t 37)], none, [3]⟩])
         (.seq (.region false [⟨(some 39), .faddr (.t 3) 0, none, []⟩,
           ⟨(some 40), .load (.t 39) 1 false, none, [0]⟩,
           ⟨(some 2), .mv (.t 40), none, [1, 0]⟩])
          .ret))))))))) }
def HC59 (P : Program) (N : Nat → Nat) : Prop := HasF P (N 59) (C59 N) ∧ HC94 P N ∧ HC95 P N ∧ HC94v2 P N ∧ HC96 P N
def f59 (k : Nat) (a0 : TRequest) : Option (List UInt8) := (f94 k ([a0.fKind] : List Int)).bind fun r16 => (f95 k r16 ([a0.fName, a0.fText, a0.fGroup] : List (List UInt8))).bind fun r27 => (f94v2 k r27 ([a0.fN, a0.fVersion] : List Int)).bind fun r36 => (f96 k r36 ([a0.fProducer, a0.fSeq, a0.fOffset] : List Int)).bind fun r47 => (f94v2 k r47 ([a0.fMost] : List Int)).bind fun r54 => (f95 k r54 ([a0.fData] : List (List UInt8))).bind fun r62 => some r62
theorem F59 {P : Program} {N : Nat → Nat} (hmix : P.follows .mixedOrders = true) (hc : HC59 P N) {k : Nat} {a0 : TRequest} {r : (List UInt8)} (h : f59 k a0 = some r) :
    ACalls P (N 59) [(.d (TRequest.enc a0))] [] (.ap 0 1 (List.map byteD r)) [(0, (.tok ((List.map byteD r).length * 1)))] := by
  refine acalls_canon (F := C59 N) hc.1 0 1 rfl ?_
  unfold f59 at h
  dsimp only [C59, startL]
  refine AWc.seq ?_
  refine AWc.rg hmix rfl rfl ?_
  refine RegV.evS (own := false) (v := (.ptr 0 0)) (H' := [(0, (.cells [(.d (.int .i64 a0.fKind)), (.d (.str a0.fName)), (.d (.str a0.fText)), (.d (.str a0.fGroup)), (.d (.int .i64 a0.fN)), (.d (.int .i64 a0.fVersion)), (.d (.int .u64 a0.fProducer)), (.d (.int .u64 a0.fSeq)), (.d (.int .u64 a0.fOffset)), (.d (.int .i64 a0.fMost)), (.d (.sl (List.map byteD a0.fData)))]))]) (c' := 1) rfl rfl trivial rfl rfl rfl rfl rfl rfl ?_
  refine RegV.p0 rfl rfl rfl ?_
  refine RegV.nil0 ?_
  refine AWc.seq ?_
  refine AWc.rg hmix rfl rfl ?_
  refine RegV.evS (own := false) (v := (.ptr 1 0)) (H' := [(1, (.cells [.nils])), (0, (.cells [(.d (.int .i64 a0.fKind)), (.d (.str a0.fName)), (.d (.str a0.fText)), (.d (.str a0.fGroup)), (.d (.int .i64 a0.fN)), (.d (.int .i64 a0.fVersion)), (.d (.int .u64 a0.fProducer)), (.d (.int .u64 a0.fSeq)), (.d (.int .u64 a0.fOffset)), (.d (.int .i64 a0.fMost)), (.d (.sl (List.map byteD a0.fData)))]))]) (c' := 2) rfl rfl trivial rfl rfl rfl rfl rfl rfl ?_
  refine RegV.nil0 ?_
  refine AWc.seq ?_
  refine AWc.rg hmix rfl rfl ?_
  refine RegV.p0 (v := (.ptr 0 0)) rfl rfl rfl ?_
  refine RegV.ld (v := (.d (.int .i64 a0.fKind))) (H' := [(0, (.cells [(.d (.int .i64 a0.fKind)), (.d (.str a0.fName)), (.d (.str a0.fText)), (.d (.str a0.fGroup)), (.d (.int .i64 a0.fN)), (.d (.int .i64 a0.fVersion)), (.d (.int .u64 a0.fProducer)), (.d (.int .u64 a0.fSeq)), (.d (.int .u64 a0.fOffset)), (.d (.int .i64 a0.fMost)), (.d (.sl (List.map byteD a0.fData)))])), (1, (.cells [.nils]))]) rfl rfl trivial rfl rfl rfl rfl rfl ?_
  refine RegV.p1 (v := (.d (.sl (List.map (D.int .i64) ([a0.fKind] : List Int))))) rfl rfl (by exact ⟨rfl, Nat.le_of_ble_eq_true rfl, mapLen (e := (D.int .i64)) (xs := ([a0.fKind] : List Int)) (z := 1) (fun _ => rfl)⟩) rfl rfl ?_
  obtain ⟨r16, e16, h⟩ := bind_some h
  refine RegV.callS (q := false) (H' := [(1, (.cells [(.ap 2 1 (List.map byteD r16))])), (2, (.tok ((List.map byteD r16).length * 1))), (0, (.cells [(.d (.int .i64 a0.fKind)), (.d (.str a0.fName)), (.d (.str a0.fText)), (.d (.str a0.fGroup)), (.d (.int .i64 a0.fN)), (.d (.int .i64 a0.fVersion)), (.d (.int .u64 a0.fProducer)), (.d (.int .u64 a0.fSeq)), (.d (.int .u64 a0.fOffset)), (.d (.int .i64 a0.fMost)), (.d (.sl (List.map byteD a0.fData)))]))]) (c' := 3) (show ACalls P (N 94) [(.ptr 1 0), (.d (.sl (List.map (D.int .i64) ([a0.fKind] : List Int))))] [(1, (.cells [.nils]))] (.tup []) [(1, (.cells [(.ap 2 1 (List.map byteD r16))])), (2, (.tok ((List.map byteD r16).length * 1)))] from ACalls.use (F94 hmix hc.2.1 e16) [(0, 1), (1, 2)] 2 rfl) rfl rfl rfl rfl (.cons (.refl _) (.cons (.refl _) .nil)) (.refl _) (fun h => by cases h) rfl (hasCons rfl hasNil) rfl rfl rfl rfl ?_
  refine RegV.nil0 ?_
  refine AWc.seq ?_
  refine AWc.rg hmix rfl rfl ?_
  refine RegV.p0 (v := (.ptr 0 1)) rfl rfl rfl ?_
  refine RegV.ld (v := (.d (.str a0.fName))) (H' := [(0, (.cells [(.d (.int .i64 a0.fKind)), (.d (.str a0.fName)), (.d (.str a0.fText)), (.d (.str a0.fGroup)), (.d (.int .i64 a0.fN)), (.d (.int .i64 a0.fVersion)), (.d (.int .u64 a0.fProducer)), (.d (.int .u64 a0.fSeq)), (.d (.int .u64 a0.fOffset)), (.d (.int .i64 a0.fMost)), (.d (.sl (List.map byteD a0.fData)))])), (1, (.cells [(.ap 2 1 (List.map byteD r16))])), (2, (.tok ((List.map byteD r16).length * 1)))]) rfl rfl trivial rfl rfl rfl rfl rfl ?_
  refine RegV.p0 (v := (.ptr 0 2)) rfl rfl rfl ?_
  refine RegV.ld (v := (.d (.str a0.fText))) (H' := [(0, (.cells [(.d (.int .i64 a0.fKind)), (.d (.str a0.fName)), (.d (.str a0.fText)), (.d (.str a0.fGroup)), (.d (.int .i64 a0.fN)), (.d (.int .i64 a0.fVersion)), (.d (.int .u64 a0.fProducer)), (.d (.int .u64 a0.fSeq)), (.d (.int .u64 a0.fOffset)), (.d (.int .i64 a0.fMost)), (.d (.sl (List.map byteD a0.fData)))])), (1, (.cells [(.ap 2 1 (List.map byteD r16))])), (2, (.tok ((List.map byteD r16).length * 1)))]) rfl rfl trivial rfl rfl rfl rfl rfl ?_
  refine RegV.p0 (v := (.ptr 0 3)) rfl rfl rfl ?_
  refine RegV.ld (v := (.d (.str a0.fGroup))) (H' := [(0, (.cells [(.d (.int .i64 a0.fKind)), (.d (.str a0.fName)), (.d (.str a0.fText)), (.d (.str a0.fGroup)), (.d (.int .i64 a0.fN)), (.d (.int .i64 a0.fVersion)), (.d (.int .u64 a0.fProducer)), (.d (.int .u64 a0.fSeq)), (.d (.int .u64 a0.fOffset)), (.d (.int .i64 a0.fMost)), (.d (.sl (List.map byteD a0.fData)))])), (1, (.cells [(.ap 2 1 (List.map byteD r16))])), (2, (.tok ((List.map byteD r16).length * 1)))]) rfl rfl trivial rfl rfl rfl rfl rfl ?_
  refine RegV.p1 (v := (.d (.sl (List.map D.str ([a0.fName, a0.fText, a0.fGroup] : List (List UInt8)))))) rfl rfl (by exact ⟨rfl, Nat.le_of_ble_eq_true rfl, mapLen (e := D.str) (xs := ([a0.fName, a0.fText, a0.fGroup] : List (List UInt8))) (z := 1) (fun _ => rfl)⟩) rfl rfl ?_
  obtain ⟨r27, e27, h⟩ := bind_some h
  refine RegV.callS (q := false) (H' := [(1, (.cells [(.ap 3 1 (List.map byteD r27))])), (3, (.tok ((List.map byteD r27).length * 1))), (0, (.cells [(.d (.int .i64 a0.fKind)), (.d (.str a0.fName)), (.d (.str a0.fText)), (.d (.str a0.fGroup)), (.d (.int .i64 a0.fN)), (.d (.int .i64 a0.fVersion)), (.d (.int .u64 a0.fProducer)), (.d (.int .u64 a0.fSeq)), (.d (.int .u64 a0.fOffset)), (.d (.int .i64 a0.fMost)), (.d (.sl (List.map byteD a0.fData)))]))]) (c' := 4) (show ACalls P (N 95) [(.ptr 1 0), (.d (.sl (List.map D.str ([a0.fName, a0.fText, a0.fGroup] : List (List UInt8)))))] [(1, (.cells [(.ap 2 1 (List.map byteD r16))])), (2, (.tok ((List.map byteD r16).length * 1)))] (.tup []) [(1, (.cells [(.ap 3 1 (List.map byteD r27))])), (3, (.tok ((List.map byteD r27).length * 1)))] from ACalls.use (F95 hmix hc.2.2.1 e27) [(0, 1), (1, 2), (2, 3)] 3 rfl) rfl rfl rfl rfl (.cons (.refl _) (.cons (.refl _) .nil)) (.refl _) (fun h => by cases h) rfl (hasCons rfl (hasCons rfl hasNil)) rfl rfl rfl rfl ?_
  refine RegV.nil0 ?_
  refine AWc.seq ?_
  refine AWc.rg hmix rfl rfl ?_
  refine RegV.p0 (v := (.ptr 0 4)) rfl rfl rfl ?_
  refine RegV.ld (v := (.d (.int .i64 a0.fN))) (H' := [(0, (.cells [(.d (.int .i64 a0.fKind)), (.d (.str a0.fName)), (.d (.str a0.fText)), (.d (.str a0.fGroup)), (.d (.int .i64 a0.fN)), (.d (.int .i64 a0.fVersion)), (.d (.int .u64 a0.fProducer)), (.d (.int .u64 a0.fSeq)), (.d (.int .u64 a0.fOffset)), (.d (.int .i64 a0.fMost)), (.d (.sl (List.map byteD a0.fData)))])), (1, (.cells [(.ap 3 1 (List.map byteD r27))])), (3, (.tok ((List.map byteD r27).length * 1)))]) rfl rfl trivial rfl rfl rfl rfl rfl ?_
  refine RegV.p0 (v := (.ptr 0 5)) rfl rfl rfl ?_
  refine RegV.ld (v := (.d (.int .i64 a0.fVersion))) (H' := [(0, (.cells [(.d (.int .i64 a0.fKind)), (.d (.str a0.fName)), (.d (.str a0.fText)), (.d (.str a0.fGroup)), (.d (.int .i64 a0.fN)), (.d (.int .i64 a0.fVersion)), (.d (.int .u64 a0.fProducer)), (.d (.int .u64 a0.fSeq)), (.d (.int .u64 a0.fOffset)), (.d (.int .i64 a0.fMost)), (.d (.sl (List.map byteD a0.fData)))])), (1, (.cells [(.ap 3 1 (List.map byteD r27))])), (3, (.tok ((List.map byteD r27).length * 1)))]) rfl rfl trivial rfl rfl rfl rfl rfl ?_
  refine RegV.p1 (v := (.d (.sl (List.map (D.int .i64) ([a0.fN, a0.fVersion] : List Int))))) rfl rfl (by exact ⟨rfl, Nat.le_of_ble_eq_true rfl, mapLen (e := (D.int .i64)) (xs := ([a0.fN, a0.fVersion] : List Int)) (z := 1) (fun _ => rfl)⟩) rfl rfl ?_
  obtain ⟨r36, e36, h⟩ := bind_some h
  refine RegV.callS (q := false) (H' := [(1, (.cells [(.ap 4 1 (List.map byteD r36))])), (4, (.tok ((List.map byteD r36).length * 1))), (0, (.cells [(.d (.int .i64 a0.fKind)), (.d (.str a0.fName)), (.d (.str a0.fText)), (.d (.str a0.fGroup)), (.d (.int .i64 a0.fN)), (.d (.int .i64 a0.fVersion)), (.d (.int .u64 a0.fProducer)), (.d (.int .u64 a0.fSeq)), (.d (.int .u64 a0.fOffset)), (.d (.int .i64 a0.fMost)), (.d (.sl (List.map byteD a0.fData)))]))]) (c' := 5) (show ACalls P (N 94) [(.ptr 1 0), (.d (.sl (List.map (D.int .i64) ([a0.fN, a0.fVersion] : List Int))))] [(1, (.cells [(.ap 3 1 (List.map byteD r27))])), (3, (.tok ((List.map byteD r27).length * 1)))] (.tup []) [(1, (.cells [(.ap 4 1 (List.map byteD r36))])), (4, (.tok ((List.map byteD r36).length * 1)))] from ACalls.use (F94v2 hmix hc.2.2.2.1 e36) [(0, 1), (1, 3), (2, 4)] 3 rfl) rfl rfl rfl rfl (.cons (.refl _) (.cons (.refl _) .nil)) (.refl _) (fun h => by cases h) rfl (hasCons rfl (hasCons rfl hasNil)) rfl rfl rfl rfl ?_
  refine RegV.nil0 ?_
  refine AWc.seq ?_
  refine AWc.rg hmix rfl rfl ?_
  refine RegV.p0 (v := (.ptr 0 6)) rfl rfl rfl ?_
  refine RegV.ld (v := (.d (.int .u64 a0.fProducer))) (H' := [(0, (.cells [(.d (.int .i64 a0.fKind)), (.d (.str a0.fName)), (.d (.str a0.fText)), (.d (.str a0.fGroup)), (.d (.int .i64 a0.fN)), (.d (.int .i64 a0.fVersion)), (.d (.int .u64 a0.fProducer)), (.d (.int .u64 a0.fSeq)), (.d (.int .u64 a0.fOffset)), (.d (.int .i64 a0.fMost)), (.d (.sl (List.map byteD a0.fData)))])), (1, (.cells [(.ap 4 1 (List.map byteD r36))])), (4, (.tok ((List.map byteD r36).length * 1)))]) rfl rfl trivial rfl rfl rfl rfl rfl ?_
  refine RegV.p0 (v := (.ptr 0 7)) rfl rfl rfl ?_
  refine RegV.ld (v := (.d (.int .u64 a0.fSeq))) (H' := [(0, (.cells [(.d (.int .i64 a0.fKind)), (.d (.str a0.fName)), (.d (.str a0.fText)), (.d (.str a0.fGroup)), (.d (.int .i64 a0.fN)), (.d (.int .i64 a0.fVersion)), (.d (.int .u64 a0.fProducer)), (.d (.int .u64 a0.fSeq)), (.d (.int .u64 a0.fOffset)), (.d (.int .i64 a0.fMost)), (.d (.sl (List.map byteD a0.fData)))])), (1, (.cells [(.ap 4 1 (List.map byteD r36))])), (4, (.tok ((List.map byteD r36).length * 1)))]) rfl rfl trivial rfl rfl rfl rfl rfl ?_
  refine RegV.p0 (v := (.ptr 0 8)) rfl rfl rfl ?_
  refine RegV.ld (v := (.d (.int .u64 a0.fOffset))) (H' := [(0, (.cells [(.d (.int .i64 a0.fKind)), (.d (.str a0.fName)), (.d (.str a0.fText)), (.d (.str a0.fGroup)), (.d (.int .i64 a0.fN)), (.d (.int .i64 a0.fVersion)), (.d (.int .u64 a0.fProducer)), (.d (.int .u64 a0.fSeq)), (.d (.int .u64 a0.fOffset)), (.d (.int .i64 a0.fMost)), (.d (.sl (List.map byteD a0.fData)))])), (1, (.cells [(.ap 4 1 (List.map byteD r36))])), (4, (.tok ((List.map byteD r36).length * 1)))]) rfl rfl trivial rfl rfl rfl rfl rfl ?_
  refine RegV.p1 (v := (.d (.sl (List.map (D.int .u64) ([a0.fProducer, a0.fSeq, a0.fOffset] : List Int))))) rfl rfl (by exact ⟨rfl, Nat.le_of_ble_eq_true rfl, mapLen (e := (D.int .u64)) (xs := ([a0.fProducer, a0.fSeq, a0.fOffset] : List Int)) (z := 1) (fun _ => rfl)⟩) rfl rfl ?_
  obtain ⟨r47, e47, h⟩ := bind_some h
  refine RegV.callS (q := false) (H' := [(1, (.cells [(.ap 5 1 (List.map byteD r47))])), (5, (.tok ((List.map byteD r47).length * 1))), (0, (.cells [(.d (.int .i64 a0.fKind)), (.d (.str a0.fName)), (.d (.str a0.fText)), (.d (.str a0.fGroup)), (.d (.int .i64 a0.fN)), (.d (.int .i64 a0.fVersion)), (.d (.int .u64 a0.fProducer)), (.d (.int .u64 a0.fSeq)), (.d (.int .u64 a0.fOffset)), (.d (.int .i64 a0.fMost)), (.d (.sl (List.map byteD a0.fData)))]))]) (c' := 6) (show ACalls P (N 96) [(.ptr 1 0), (.d (.sl (List.map (D.int .u64) ([a0.fProducer, a0.fSeq, a0.fOffset] : List Int))))] [(1, (.cells [(.ap 4 1 (List.map byteD r36))])), (4, (.tok ((List.map byteD r36).length * 1)))] (.tup []) [(1, (.cells [(.ap 5 1 (List.map byteD r47))])), (5, (.tok ((List.map byteD r47).length * 1)))] from ACalls.use (F96 hmix hc.2.2.2.2 e47) [(0, 1), (1, 4), (2, 5)] 3 rfl) rfl rfl rfl rfl (.cons (.refl _) (.cons (.refl _) .nil)) (.refl _) (fun h => by cases h) rfl (hasCons rfl (hasCons rfl hasNil)) rfl rfl rfl rfl ?_
  refine RegV.nil0 ?_
  refine AWc.seq ?_
  refine AWc.rg hmix rfl rfl ?_
  refine RegV.p0 (v := (.ptr 0 9)) rfl rfl rfl ?_
  refine RegV.ld (v := (.d (.int .i64 a0.fMost))) (H' := [(0, (.cells [(.d (.int .i64 a0.fKind)), (.d (.str a0.fName)), (.d (.str a0.fText)), (.d (.str a0.fGroup)), (.d (.int .i64 a0.fN)), (.d (.int .i64 a0.fVersion)), (.d (.int .u64 a0.fProducer)), (.d (.int .u64 a0.fSeq)), (.d (.int .u64 a0.fOffset)), (.d (.int .i64 a0.fMost)), (.d (.sl (List.map byteD a0.fData)))])), (1, (.cells [(.ap 5 1 (List.map byteD r47))])), (5, (.tok ((List.map byteD r47).length * 1)))]) rfl rfl trivial rfl rfl rfl rfl rfl ?_
  refine RegV.p1 (v := (.d (.sl (List.map (D.int .i64) ([a0.fMost] : List Int))))) rfl rfl (by exact ⟨rfl, Nat.le_of_ble_eq_true rfl, mapLen (e := (D.int .i64)) (xs := ([a0.fMost] : List Int)) (z := 1) (fun _ => rfl)⟩) rfl rfl ?_
  obtain ⟨r54, e54, h⟩ := bind_some h
  refine RegV.callS (q := false) (H' := [(1, (.cells [(.ap 6 1 (List.map byteD r54))])), (6, (.tok ((List.map byteD r54).length * 1))), (0, (.cells [(.d (.int .i64 a0.fKind)), (.d (.str a0.fName)), (.d (.str a0.fText)), (.d (.str a0.fGroup)), (.d (.int .i64 a0.fN)), (.d (.int .i64 a0.fVersion)), (.d (.int .u64 a0.fProducer)), (.d (.int .u64 a0.fSeq)), (.d (.int .u64 a0.fOffset)), (.d (.int .i64 a0.fMost)), (.d (.sl (List.map byteD a0.fData)))]))]) (c' := 7) (show ACalls P (N 94) [(.ptr 1 0), (.d (.sl (List.map (D.int .i64) ([a0.fMost] : List Int))))] [(1, (.cells [(.ap 5 1 (List.map byteD r47))])), (5, (.tok ((List.map byteD r47).length * 1)))] (.tup []) [(1, (.cells [(.ap 6 1 (List.map byteD r54))])), (6, (.tok ((List.map byteD r54).length * 1)))] from ACalls.use (F94v2 hmix hc.2.2.2.1 e54) [(0, 1), (1, 5), (2, 6)] 3 rfl) rfl rfl rfl rfl (.cons (.refl _) (.cons (.refl _) .nil)) (.refl _) (fun h => by cases h) rfl (hasCons rfl (hasCons rfl hasNil)) rfl rfl rfl rfl ?_
  refine RegV.nil0 ?_
  refine AWc.seq ?_
  refine AWc.rg hmix rfl rfl ?_
  refine RegV.p0 (v := (.ptr 0 10)) rfl rfl rfl ?_
  refine RegV.ld (v := (.d (.sl (List.map byteD a0.fData)))) (H' := [(0, (.cells [(.d (.int .i64 a0.fKind)), (.d (.str a0.fName)), (.d (.str a0.fText)), (.d (.str a0.fGroup)), (.d (.int .i64 a0.fN)), (.d (.int .i64 a0.fVersion)), (.d (.int .u64 a0.fProducer)), (.d (.int .u64 a0.fSeq)), (.d (.int .u64 a0.fOffset)), (.d (.int .i64 a0.fMost)), (.d (.sl (List.map byteD a0.fData)))])), (1, (.cells [(.ap 6 1 (List.map byteD r54))])), (6, (.tok ((List.map byteD r54).length * 1)))]) rfl rfl trivial rfl rfl rfl rfl rfl ?_
  refine RegV.bs2s (b := a0.fData) rfl rfl rfl ?_
  refine RegV.p1 (v := (.d (.sl (List.map D.str ([a0.fData] : List (List UInt8)))))) rfl rfl (by exact ⟨rfl, Nat.le_of_ble_eq_true rfl, mapLen (e := D.str) (xs := ([a0.fData] : List (List UInt8))) (z := 1) (fun _ => rfl)⟩) rfl rfl ?_
  obtain ⟨r62, e62, h⟩ := bind_some h
  refine RegV.callS (q := false) (H' := [(1, (.cells [(.ap 7 1 (List.map byteD r62))])), (7, (.tok ((List.map byteD r62).length * 1))), (0, (.cells [(.d (.int .i64 a0.fKind)), (.d (.str a0.fName)), (.d (.str a0.fText)), (.d (.str a0.fGroup)), (.d (.int .i64 a0.fN)), (.d (.int .i64 a0.fVersion)), (.d (.int .u64 a0.fProducer)), (.d (.int .u64 a0.fSeq)), (.d (.int .u64 a0.fOffset)), (.d (.int .i64 a0.fMost)), (.d (.sl (List.map byteD a0.fData)))]))]) (c' := 8) (show ACalls P (N 95) [(.ptr 1 0), (.d (.sl (List.map D.str ([a0.fData] : List (List UInt8)))))] [(1, (.cells [(.ap 6 1 (List.map byteD r54))])), (6, (.tok ((List.map byteD r54).length * 1)))] (.tup []) [(1, (.cells [(.ap 7 1 (List.map byteD r62))])), (7, (.tok ((List.map byteD r62).length * 1)))] from ACalls.use (F95 hmix hc.2.2.1 e62) [(0, 1), (1, 6), (2, 7)] 3 rfl) rfl rfl rfl rfl (.cons (.refl _) (.cons (.refl _) .nil)) (.refl _) (fun h => by cases h) rfl (hasCons rfl (hasCons rfl hasNil)) rfl rfl rfl rfl ?_
  refine RegV.nil0 ?_
  refine AWc.seq ?_
  refine AWc.rg hmix rfl rfl ?_
  refine RegV.p0 (v := (.ptr 1 0)) rfl rfl rfl ?_
  refine RegV.ld (v := (.ap 7 1 (List.map byteD r62))) (H' := [(1, (.cells [(.ap 7 1 (List.map byteD r62))])), (7, (.tok ((List.map byteD r62).length * 1))), (0, (.cells [(.d (.int .i64 a0.fKind)), (.d (.str a0.fName)), (.d (.str a0.fText)), (.d (.str a0.fGroup)), (.d (.int .i64 a0.fN)), (.d (.int .i64 a0.fVersion)), (.d (.int .u64 a0.fProducer)), (.d (.int .u64 a0.fSeq)), (.d (.int .u64 a0.fOffset)), (.d (.int .i64 a0.fMost)), (.d (.sl (List.map byteD a0.fData)))]))]) rfl rfl trivial rfl rfl rfl rfl rfl ?_
  refine RegV.p0 rfl rfl rfl ?_
  refine RegV.nil0 ?_
  have hr := Option.some.inj h
  subst hr
  exact AWc.ret (canQ (N := 41) (k := 1) (l' := [(2, (.ap 0 1 (List.map byteD r62)))]) (H' := [(0, (.tok ((List.map byteD r62).length * 1)))]) rfl ⟨rfl, [], [(0, 7)], rfl, rfl, ⟨⟨_, rfl, (.refl _)⟩, rfl, trivial⟩, ⟨⟨_, rfl, (.refl _)⟩, rfl, rfl, trivial⟩⟩ (doneA (.inr rfl) rfl ⟨trivial, trivial⟩ (.refl _) (hasCons rfl hasNil)))
/-- slices.Values[[]courant/api.Message,courant/api.Message] -/
def C99 (N : Nat → Nat) : AFunc := { n := 4, params := 1, res := [.tmp 2], body :=
 (.seq (.region false [⟨(some 1), .box (.t 0), none, []⟩,
   ⟨(some 2), .mv (.k (.d .nilf)), none, []⟩])
  (.seq (.region false [⟨(some 3), .mkfn (N 112) [(.t 1)], none, []⟩,
    ⟨(some 2), .mv (.t 3), none, [0]⟩])
   .ret)) }
def HC99 (P : Program) (N : Nat → Nat) : Prop := HasF P (N 99) (C99 N)
def f99 (k : Nat) (a0 : (List TMessage)) : Option Unit := some ()
theorem F99 {P : Program} {N : Nat → Nat} (hmix : P.follows .mixedOrders = true) (hc : HC99 P N) {k : Nat} {a0 : (List TMessage)} {r : Unit} (h : f99 k a0 = some r) :
    ACalls P (N 99) [(.d (.sl (List.map TMessage.enc a0)))] [] (.fn (N 112) [(.ptr 0 0)]) [(0, (.cells [(.d (.sl (List.map TMessage.enc a0)))]))] := by
  refine acalls_canon (F := C99 N) hc 0 1 rfl ?_
  unfold f99 at h
  dsimp only [C99, startL]
  refine AWc.seq ?_
  refine AWc.rg hmix rfl rfl ?_
  refine RegV.evS (own := false) (v := (.ptr 0 0)) (H' := [(0, (.cells [(.d (.sl (List.map TMessage.enc a0)))]))]) (c' := 1) rfl rfl trivial rfl rfl rfl rfl rfl rfl ?_
  refine RegV.p0 rfl rfl rfl ?_
  refine RegV.nil0 ?_
  refine AWc.seq ?_
  refine AWc.rg hmix rfl rfl ?_
  refine RegV.p0 (v := (.fn (N 112) [(.ptr 0 0)])) rfl rfl rfl ?_
  refine RegV.p0 rfl rfl rfl ?_
  refine RegV.nil0 ?_
  have hr := Option.some.inj h
  subst hr
  exact AWc.ret (canQ (N := 4) (k := 1) (l' := [(2, (.fn (N 112) [(.ptr 0 0)]))]) (H' := [(0, (.cells [(.d (.sl (List.map TMessage.enc a0)))]))]) rfl ⟨rfl, [], [], rfl, rfl, ⟨⟨_, rfl, (.refl _)⟩, rfl, trivial⟩, ⟨⟨_, rfl, (.refl _)⟩, rfl, rfl, trivial⟩⟩ (doneA (.inr rfl) rfl ⟨trivial, trivial⟩ (.refl _) (hasCons rfl hasNil)))
def L65_0a (N : Nat → Nat) : ACode :=
 (.region false [⟨(some 4), .alloc [(.int .u64 0), (.int .u64 0), (.int .u64 0), (.int .i64 0), (.sl [])], none, []⟩,
  ⟨none, .store (.t 4) (.t 29) 5, none, [0]⟩])
def L65_0b (N : Nat → Nat) : ACode :=
 (.block 1 (.seq (.region false [⟨(some 30), .faddr (.t 4) 0, none, []⟩,
    ⟨(some 31), .load (.t 30) 1 false, none, [0]⟩,
    ⟨(some 32), .faddr (.t 4) 1, none, []⟩,
    ⟨(some 33), .load (.t 32) 1 false, none, [2]⟩,
    ⟨(some 34), .faddr (.t 4) 2, none, []⟩,
    ⟨(some 35), .load (.t 34) 1 false, none, [4]⟩,
    ⟨(some 36), .bslice 3 1 [(.int .u64 0)] [(0, (.t 31)), (1, (.t 33)), (2, (.t 35))], none, [1, 3, 5]⟩,
    ⟨(some 37), .call (.k (.d (.fn (N 96)))) [(.t 3), (.t 36)], none, [6]⟩])
   (.seq (.region false [⟨(some 38), .faddr (.t 4) 3, none, []⟩,
     ⟨(some 39), .load (.t 38) 1 false, none, [0]⟩,
     ⟨(some 40), .bslice 1 1 [(.int .i64 0)] [(0, (.t 39))], none, [1]⟩,
     ⟨(some 41), .call (.k (.d (.fn (N 94)))) [(.t 3), (.t 40)], none, [2]⟩])
    (.region false [⟨(some 42), .faddr (.t 4) 4, none, []⟩,
     ⟨(some 43), .load (.t 42) 1 false, none, [0]⟩,
     ⟨(some 44), .bs2s (.t 43), none, [1]⟩,
     ⟨(some 45), .bslice 1 1 [(.str [])] [(0, (.t 44))], none, [2]⟩,
     ⟨(some 46), .call (.k (.d (.fn (N 95)))) [(.t 3), (.t 45)], none, [3]⟩]))))
/-- courant/request.Reply -/
def C65 (N : Nat → Nat) : AFunc := { n := 49, params := 1, res := [.tmp 2], body :=
 (.seq (.region false [⟨(some 1), .box (.t 0), none, []⟩,
   ⟨(some 2), .mv (.k .nils), none, []⟩])
  (.seq (.region false [⟨(some 3), .alloc [(.sl [])], none, []⟩])
   (.seq (.region false [⟨(some 5), .faddr (.t 1) 0, none, []⟩,
     ⟨(some 6), .load (.t 5) 1 false, none, [0]⟩,
     ⟨(some 7), .faddr (.t 1) 1, none, []⟩,
     ⟨(some 8), .load (.t 7) 1 false, none, [2]⟩,
     ⟨(some 9), .faddr (.t 1) 2, none, []⟩,
     ⟨(some 10), .load (.t 9) 1 false, none, [4]⟩,
     ⟨(some 11), .bslice 3 1 [(.int .i64 0)] [(0, (.t 6)), (1, (.t 8)), (2, (.t 10))], none, [1, 3, 5]⟩,
     ⟨(some 12), .call (.k (.d (.fn (N 94)))) [(.t 3), (.t 11)], none, [6]⟩])
    (.seq (.region false [⟨(some 13), .faddr (.t 1) 3, none, []⟩,
      ⟨(some 14), .load (.t 13) 1 false, none, [0]⟩,
      ⟨(some 15), .bslice 1 1 [(.int .u64 0)] [(0, (.t 14))], none, [1]⟩,
      ⟨(some 16), .call (.k (.d (.fn (N 96)))) [(.t 3), (.t 15)], none, [2]⟩])
     (.seq (.region false [⟨(some 17), .faddr (.t 1) 4, none, []⟩,
       ⟨(some 18), .load (.t 17) 1 false, none, [0]⟩,
       ⟨(some 19), .bslice 1 1 [(.str [])] [(0, (.t 18))], none, [1]⟩,
       ⟨(some 20), .call (.k (.d (.fn (N 95)))) [(.t 3), (.t 19)], none, [2]⟩])
      (.seq (.region false [⟨(some 21), .faddr (.t 1) 5, none, []⟩,
        ⟨(some 22), .load (.t 21) 1 false, none, [0]⟩,
        ⟨(some 23), .len (.t 22), none, [1]⟩,
        ⟨(some 24), .bslice 1 1 [(.int .i64 0)] [(0, (.t 23))], none, [2]⟩,
        ⟨(some 25), .call (.k (.d (.fn (N 94)))) [(.t 3), (.t 24)], none, [3]⟩])
       (.seq (.seq (.region false [⟨(some 26), .faddr (.t 1) 5, none, []⟩,
          ⟨(some 27), .load (.t 26) 1 false, none, [0]⟩,
          ⟨(some 28), .call (.k (.d (.fn (N 99)))) [(.t 27)], none, [1]⟩])
         (.block 0 (.rangeFunc (.t 28) [29] (L65_0a N) (L65_0b N))))
        (.seq (.region false [⟨(some 47), .faddr (.t 3) 0, none, []⟩,
          ⟨(some 48), .load (.t 47) 1 false, none, [0]⟩,
          ⟨(some 2), .mv (.t 48), none, [1, 0]⟩])
         .ret)))))))) }
def HCb65_51 (P : Program) (N : Nat → Nat) : Prop := True ∧ HC96 P N ∧ HC94v2 P N ∧ HC95 P N
def b65_51 (k : Nat) (a0 : (List UInt8)) (a1 : TMessage) : Option (List UInt8) := (f96 k a0 ([a1.fOffset, a1.fProducer, a1.fSeq] : List Int)).bind fun r68 => (f94v2 k r68 ([a1.fVersion] : List Int)).bind fun r75 => (f95 k r75 ([a1.fData] : List (List UInt8))).bind fun r82 => some r82
theorem B65_51 {P : Program} {N : Nat → Nat} (hmix : P.follows .mixedOrders = true) (hc : HCb65_51 P N) {asg0 bd0 : Code} (ha0 : compCode P asg0 = L65_0a N) (hb0 : compCode P bd0 = L65_0b N) {k : Nat} {a0 : (List UInt8)} {a1 : TMessage} {r : (List UInt8)} (h : b65_51 k a0 a1 = some r) :
    ARound P 0 [(.d (TMessage.enc a1))] [(0, (.lp 49 [(3, (.ptr 1 0))] [29] asg0 bd0 .ready none)), (1, (.cells [(.ap 2 1 (List.map byteD a0))])), (2, (.tok ((List.map byteD a0).length * 1)))] (.d (.bool true)) [(0, (.lp 49 [(3, (.ptr 1 0))] [29] asg0 bd0 .ready none)), (1, (.cells [(.ap 3 1 (List.map byteD r))])), (3, (.tok ((List.map byteD r).length * 1)))] := by
  refine around_gen 3 4 ha0 hb0 rfl rfl (fun ro => ?_)
  unfold b65_51 at h
  dsimp only [L65_0a, L65_0b, putArgs]
  refine AWc.rg hmix rfl rfl ?_
  refine RegV.evS (own := false) (v := (.ptr 3 0)) (H' := [(3, (.cells [(.d (.int .u64 (0 : Int))), (.d (.int .u64 (0 : Int))), (.d (.int .u64 (0 : Int))), (.d (.int .i64 (0 : Int))), .nils])), (0, (.lp 49 [(3, (.ptr 1 0))] [29] asg0 bd0 .ready none)), (1, (.cells [(.ap 2 1 (List.map byteD a0))])), (2, (.tok ((List.map byteD a0).length * 1)))]) (c' := 4) rfl rfl trivial rfl rfl rfl rfl rfl rfl ?_
  refine RegV.evN (own := false) (H' := [(3, (.cells [(.d (.int .u64 a1.fOffset)), (.d (.int .u64 a1.fProducer)), (.d (.int .u64 a1.fSeq)), (.d (.int .i64 a1.fVersion)), (.d (.sl (List.map byteD a1.fData)))])), (0, (.lp 49 [(3, (.ptr 1 0))] [29] asg0 bd0 .ready none)), (1, (.cells [(.ap 2 1 (List.map byteD a0))])), (2, (.tok ((List.map byteD a0).length * 1)))]) (c' := 4) rfl rfl (by exact ⟨rfl, Nat.le_of_ble_eq_true rfl, rfl⟩) rfl rfl rfl rfl ?_
  refine RegV.nil0 ?_
  refine asgDone rfl rfl ?_
  refine AWc.block ?_
  refine AWc.seq ?_
  refine AWc.rg hmix rfl rfl ?_
  refine RegV.p0 (v := (.ptr 3 0)) rfl rfl rfl ?_
  refine RegV.ld (v := (.d (.int .u64 a1.fOffset))) (H' := [(3, (.cells [(.d (.int .u64 a1.fOffset)), (.d (.int .u64 a1.fProducer)), (.d (.int .u64 a1.fSeq)), (.d (.int .i64 a1.fVersion)), (.d (.sl (List.map byteD a1.fData)))])), (0, (.lp 49 [(3, (.ptr 1 0))] [29] asg0 bd0 .busy none)), (1, (.cells [(.ap 2 1 (List.map byteD a0))])), (2, (.tok ((List.map byteD a0).length * 1)))]) rfl rfl trivial rfl rfl rfl rfl rfl ?_
  refine RegV.p0 (v := (.ptr 3 1)) rfl rfl rfl ?_
  refine RegV.ld (v := (.d (.int .u64 a1.fProducer))) (H' := [(3, (.cells [(.d (.int .u64 a1.fOffset)), (.d (.int .u64 a1.fProducer)), (.d (.int .u64 a1.fSeq)), (.d (.int .i64 a1.fVersion)), (.d (.sl (List.map byteD a1.fData)))])), (0, (.lp 49 [(3, (.ptr 1 0))] [29] asg0 bd0 .busy none)), (1, (.cells [(.ap 2 1 (List.map byteD a0))])), (2, (.tok ((List.map byteD a0).length * 1)))]) rfl rfl trivial rfl rfl rfl rfl rfl ?_
  refine RegV.p0 (v := (.ptr 3 2)) rfl rfl rfl ?_
  refine RegV.ld (v := (.d (.int .u64 a1.fSeq))) (H' := [(3, (.cells [(.d (.int .u64 a1.fOffset)), (.d (.int .u64 a1.fProducer)), (.d (.int .u64 a1.fSeq)), (.d (.int .i64 a1.fVersion)), (.d (.sl (List.map byteD a1.fData)))])), (0, (.lp 49 [(3, (.ptr 1 0))] [29] asg0 bd0 .busy none)), (1, (.cells [(.ap 2 1 (List.map byteD a0))])), (2, (.tok ((List.map byteD a0).length * 1)))]) rfl rfl trivial rfl rfl rfl rfl rfl ?_
  refine RegV.p1 (v := (.d (.sl (List.map (D.int .u64) ([a1.fOffset, a1.fProducer, a1.fSeq] : List Int))))) rfl rfl (by exact ⟨rfl, Nat.le_of_ble_eq_true rfl, mapLen (e := (D.int .u64)) (xs := ([a1.fOffset, a1.fProducer, a1.fSeq] : List Int)) (z := 1) (fun _ => rfl)⟩) rfl rfl ?_
  obtain ⟨r68, e68, h⟩ := bind_some h
  refine RegV.callS (q := false) (H' := [(1, (.cells [(.ap 4 1 (List.map byteD r68))])), (4, (.tok ((List.map byteD r68).length * 1))), (3, (.cells [(.d (.int .u64 a1.fOffset)), (.d (.int .u64 a1.fProducer)), (.d (.int .u64 a1.fSeq)), (.d (.int .i64 a1.fVersion)), (.d (.sl (List.map byteD a1.fData)))])), (0, (.lp 49 [(3, (.ptr 1 0))] [29] asg0 bd0 .busy none))]) (c' := 5) (show ACalls P (N 96) [(.ptr 1 0), (.d (.sl (List.map (D.int .u64) ([a1.fOffset, a1.fProducer, a1.fSeq] : List Int))))] [(1, (.cells [(.ap 2 1 (List.map byteD a0))])), (2, (.tok ((List.map byteD a0).length * 1)))] (.tup []) [(1, (.cells [(.ap 4 1 (List.map byteD r68))])), (4, (.tok ((List.map byteD r68).length * 1)))] from ACalls.use (F96 hmix hc.2.1 e68) [(0, 1), (1, 2), (2, 4)] 3 rfl) rfl rfl rfl rfl (.cons (.refl _) (.cons (.refl _) .nil)) (.refl _) (fun h => by cases h) rfl (hasCons rfl (hasCons rfl hasNil)) rfl rfl rfl rfl ?_
  refine RegV.nil0 ?_
  refine AWc.seq ?_
  refine AWc.rg hmix rfl rfl ?_
  refine RegV.p0 (v := (.ptr 3 3)) rfl rfl rfl ?_
  refine RegV.ld (v := (.d (.int .i64 a1.fVersion))) (H' := [(3, (.cells [(.d (.int .u64 a1.fOffset)), (.d (.int .u64 a1.fProducer)), (.d (.int .u64 a1.fSeq)), (.d (.int .i64 a1.fVersion)), (.d (.sl (List.map byteD a1.fData)))])), (1, (.cells [(.ap 4 1 (List.map byteD r68))])), (4, (.tok ((List.map byteD r68).length * 1))), (0, (.lp 49 [(3, (.ptr 1 0))] [29] asg0 bd0 .busy none))]) rfl rfl trivial rfl rfl rfl rfl rfl ?_
  refine RegV.p1 (v := (.d (.sl (List.map (D.int .i64) ([a1.fVersion] : List Int))))) rfl rfl (by exact ⟨rfl, Nat.le_of_ble_eq_true rfl, mapLen (e := (D.int .i64)) (xs := ([a1.fVersion] : List Int)) (z := 1) (fun _ => rfl)⟩) rfl rfl ?_
  obtain ⟨r75, e75, h⟩ := bind_some h
  refine RegV.callS (q := false) (H' := [(1, (.cells [(.ap 5 1 (List.map byteD r75))])), (5, (.tok ((List.map byteD r75).length * 1))), (3, (.cells [(.d (.int .u64 a1.fOffset)), (.d (.int .u64 a1.fProducer)), (.d (.int .u64 a1.fSeq)), (.d (.int .i64 a1.fVersion)), (.d (.sl (List.map byteD a1.fData)))])), (0, (.lp 49 [(3, (.ptr 1 0))] [29] asg0 bd0 .busy none))]) (c' := 6) (show ACalls P (N 94) [(.ptr 1 0), (.d (.sl (List.map (D.int .i64) ([a1.fVersion] : List Int))))] [(1, (.cells [(.ap 4 1 (List.map byteD r68))])), (4, (.tok ((List.map byteD r68).length * 1)))] (.tup []) [(1, (.cells [(.ap 5 1 (List.map byteD r75))])), (5, (.tok ((List.map byteD r75).length * 1)))] from ACalls.use (F94v2 hmix hc.2.2.1 e75) [(0, 1), (1, 4), (2, 5)] 3 rfl) rfl rfl rfl rfl (.cons (.refl _) (.cons (.refl _) .nil)) (.refl _) (fun h => by cases h) rfl (hasCons rfl (hasCons rfl hasNil)) rfl rfl rfl rfl ?_
  refine RegV.nil0 ?_
  refine AWc.rg hmix rfl rfl ?_
  refine RegV.p0 (v := (.ptr 3 4)) rfl rfl rfl ?_
  refine RegV.ld (v := (.d (.sl (List.map byteD a1.fData)))) (H' := [(3, (.cells [(.d (.int .u64 a1.fOffset)), (.d (.int .u64 a1.fProducer)), (.d (.int .u64 a1.fSeq)), (.d (.int .i64 a1.fVersion)), (.d (.sl (List.map byteD a1.fData)))])), (1, (.cells [(.ap 5 1 (List.map byteD r75))])), (5, (.tok ((List.map byteD r75).length * 1))), (0, (.lp 49 [(3, (.ptr 1 0))] [29] asg0 bd0 .busy none))]) rfl rfl trivial rfl rfl rfl rfl rfl ?_
  refine RegV.bs2s (b := a1.fData) rfl rfl rfl ?_
  refine RegV.p1 (v := (.d (.sl (List.map D.str ([a1.fData] : List (List UInt8)))))) rfl rfl (by exact ⟨rfl, Nat.le_of_ble_eq_true rfl, mapLen (e := D.str) (xs := ([a1.fData] : List (List UInt8))) (z := 1) (fun _ => rfl)⟩) rfl rfl ?_
  obtain ⟨r82, e82, h⟩ := bind_some h
  refine RegV.callS (q := false) (H' := [(1, (.cells [(.ap 6 1 (List.map byteD r82))])), (6, (.tok ((List.map byteD r82).length * 1))), (3, (.cells [(.d (.int .u64 a1.fOffset)), (.d (.int .u64 a1.fProducer)), (.d (.int .u64 a1.fSeq)), (.d (.int .i64 a1.fVersion)), (.d (.sl (List.map byteD a1.fData)))])), (0, (.lp 49 [(3, (.ptr 1 0))] [29] asg0 bd0 .busy none))]) (c' := 7) (show ACalls P (N 95) [(.ptr 1 0), (.d (.sl (List.map D.str ([a1.fData] : List (List UInt8)))))] [(1, (.cells [(.ap 5 1 (List.map byteD r75))])), (5, (.tok ((List.map byteD r75).length * 1)))] (.tup []) [(1, (.cells [(.ap 6 1 (List.map byteD r82))])), (6, (.tok ((List.map byteD r82).length * 1)))] from ACalls.use (F95 hmix hc.2.2.2 e82) [(0, 1), (1, 5), (2, 6)] 3 rfl) rfl rfl rfl rfl (.cons (.refl _) (.cons (.refl _) .nil)) (.refl _) (fun h => by cases h) rfl (hasCons rfl (hasCons rfl hasNil)) rfl rfl rfl rfl ?_
  refine RegV.nil0 ?_
  have hr := Option.some.inj h
  subst hr
  exact (canQ (N := 49) (k := 4) (l' := []) (H' := [(0, (.lp 49 [(3, (.ptr 1 0))] [29] asg0 bd0 .busy none)), (1, (.cells [(.ap 3 1 (List.map byteD r82))])), (3, (.tok ((List.map byteD r82).length * 1)))]) rfl ⟨rfl, [], [(3, 6)], rfl, rfl,  trivial, ⟨⟨_, rfl, (.refl _)⟩, rfl, rfl, ⟨⟨_, rfl, (.refl _)⟩, rfl, rfl, ⟨⟨_, rfl, (.refl _)⟩, rfl, rfl, trivial⟩⟩⟩⟩ (roundD rfl rfl rfl rfl (hasCons rfl (hasCons rfl (hasCons rfl hasNil)))))
/-- slices.Values[[]courant/api.Message,courant/api.Message]$1 -/
def C112 (N : Nat → Nat) : AFunc := { n := 16, params := 2, res := [], body :=
 (.seq (.region false [⟨(some 5), .load (.t 1) 1 false, none, []⟩,
   ⟨(some 6), .len (.t 5), none, [0]⟩,
   ⟨(some 7), .mv (.k (.d (.int .i64 0))), none, []⟩])
  (.block 0 (.loop (.seq (.region false [⟨(some 8), .bin .lss (.t 7) (.t 6), none, []⟩])
     (.seq (.cond (.t 8) (.skip)
       (.exit 0))
      (.seq (.block 1 (.seq (.region false [⟨(some 9), .iaddr (.t 5) (.t 7) 5, none, []⟩,
          ⟨(some 10), .load (.t 9) 5 true, none, [0]⟩,
          ⟨(some 4), .alloc [(.int .u64 0), (.int .u64 0), (.int .u64 0), (.int .i64 0), (.sl [])], none, []⟩,
          ⟨none, .store (.t 4) (.t 10) 5, none, [2, 1, 0]⟩])
         (.seq (.region false [⟨(some 11), .mv (.t 0), none, []⟩,
           ⟨(some 12), .load (.t 4) 5 true, none, []⟩,
           ⟨(some 13), .call (.t 11) [(.t 12)], none, [0, 1]⟩,
           ⟨(some 14), .un .not (.t 13), none, [2]⟩])
          (.cond (.t 14) .ret
           (.skip)))))
       (.region false [⟨(some 15), .bin .add (.t 7) (.k (.d (.int .i64 1))), none, []⟩,
        ⟨(some 7), .mv (.t 15), none, [0]⟩]))))))) }
def HC112 (P : Program) (N : Nat → Nat) : Prop := HasF P (N 112) (C112 N) ∧ HCb65_51 P N
def f112_l7 (a1 : (List TMessage)) : Nat → Int → (List UInt8) → Option (LR2 (List UInt8) Unit (List UInt8))
  | 0, _, _ => none
  | k + 1, y7_1, y7_2 => cond (decide (y7_1 < ((a1.length : Nat) : Int))) (gd (0 ≤ y7_1 ∧ y7_1 < ((a1.length : Nat) : Int)) ((b65_51 k y7_2 (TMessage.mk ((rd a1 y7_1).fOffset) ((rd a1 y7_1).fProducer) ((rd a1 y7_1).fSeq) ((rd a1 y7_1).fVersion) ((rd a1 y7_1).fData))).bind fun r31 => f112_l7 a1 k (IntKind.i64.wrap (y7_1 + (1 : Int))) r31)) (some (.b0 y7_2))
def f112 (k : Nat) (a0 : (List UInt8)) (a1 : (List TMessage)) : Option (List UInt8) := (f112_l7 a1 k (0 : Int) a0).bind fun o7 => match o7 with | .b0 x7_1 => some x7_1 | _ => none
theorem F112 {P : Program} {N : Nat → Nat} (hmix : P.follows .mixedOrders = true) (hc : HC112 P N) {asg0 bd0 : Code} (ha0 : compCode P asg0 = L65_0a N) (hb0 : compCode P bd0 = L65_0b N) {k : Nat} {a0 : (List UInt8)} {a1 : (List TMessage)} {r : (List UInt8)} (h : f112 k a0 a1 = some r) :
    ACalls P (N 112) [(.lf 0), (.ptr 3 0)] [(0, (.lp 49 [(3, (.ptr 1 0))] [29] asg0 bd0 .ready none)), (1, (.cells [(.ap 2 1 (List.map byteD a0))])), (2, (.tok ((List.map byteD a0).length * 1))), (3, (.cells [(.d (.sl (List.map TMessage.enc a1)))]))] (.tup []) [(0, (.lp 49 [(3, (.ptr 1 0))] [29] asg0 bd0 .ready none)), (1, (.cells [(.ap 4 1 (List.map byteD r))])), (3, (.cells [(.d (.sl (List.map TMessage.enc a1)))])), (4, (.tok ((List.map byteD r).length * 1)))] := by
  refine acalls_canon (F := C112 N) hc.1 4 5 rfl ?_
  unfold f112 at h
  dsimp only [C112, startL]
  refine AWc.seq ?_
  refine AWc.rg hmix rfl rfl ?_
  refine RegV.ld (v := (.d (.sl (List.map TMessage.enc a1)))) (H' := [(3, (.cells [(.d (.sl (List.map TMessage.enc a1)))])), (0, (.lp 49 [(3, (.ptr 1 0))] [29] asg0 bd0 .ready none)), (1, (.cells [(.ap 2 1 (List.map byteD a0))])), (2, (.tok ((List.map byteD a0).length * 1)))]) rfl rfl trivial rfl rfl rfl rfl rfl ?_
  refine RegV.len (xs := a1) (e := TMessage.enc) rfl rfl rfl rfl ?_
  refine RegV.p0 rfl rfl rfl ?_
  refine RegV.nil0 ?_
  obtain ⟨o7, h7, h⟩ := bind_some h
  refine AWc.block ?_
  refine AWc.loopK (N := 16) 5 (fun (x : (Int × (List UInt8))) => [(0, (.lf 0)), (5, (.d (.sl (List.map TMessage.enc a1)))), (6, (.d (.int .i64 ((a1.length : Nat) : Int)))), (7, (.d (.int .i64 x.1)))]) (fun x => [(0, (.lp 49 [(3, (.ptr 1 0))] [29] asg0 bd0 .ready none)), (1, (.cells [(.ap 4 1 (List.map byteD x.2))])), (3, (.cells [(.d (.sl (List.map TMessage.enc a1)))])), (4, (.tok ((List.map byteD x.2).length * 1)))]) (fun k x => f112_l7 a1 k x.1 x.2 = some o7) k ((0 : Int), a0) rfl_le (fun x hx => by cases hx) h7 ⟨rfl, [], [(4, 2)], rfl, rfl, ⟨⟨_, rfl, (.refl _)⟩, rfl, ⟨⟨_, rfl, (.refl _)⟩, rfl, ⟨⟨_, rfl, (.refl _)⟩, rfl, ⟨⟨_, rfl, (.refl _)⟩, rfl, trivial⟩⟩⟩⟩, ⟨⟨_, rfl, (.refl _)⟩, rfl, rfl, ⟨⟨_, rfl, (.refl _)⟩, rfl, rfl, ⟨⟨_, rfl, (.refl _)⟩, rfl, rfl, ⟨⟨_, rfl, (.refl _)⟩, rfl, rfl, trivial⟩⟩⟩⟩⟩ ?_
  clear h7
  intro k
  rintro ⟨y7_1, y7_2⟩ h7
  dsimp only at h7 ⊢
  rw [f112_l7] at h7
  refine AWc.seq ?_
  refine AWc.rg hmix rfl rfl ?_
  refine RegV.p0 (v := (.d (.bool (decide (y7_1 < ((a1.length : Nat) : Int)))))) rfl rfl rfl ?_
  refine RegV.nil0 ?_
  refine AWc.seq ?_
  refine AWc.cond rfl (fun c14 => ?_) (fun c14 => ?_)
  · have h7 := cond_pos c14 h7
    refine AWc.skip ?_
    refine AWc.seq ?_
    refine AWc.block ?_
    refine AWc.seq ?_
    refine AWc.rg hmix rfl rfl ?_
    obtain ⟨b22, h7⟩ := gd_some h7
    refine RegV.iad (xs := a1) (e := TMessage.enc) rfl rfl rfl rfl (fun _ => rfl) b22 rfl ?_
    refine RegV.p1 (v := (.d (TMessage.enc (rd a1 y7_1)))) rfl rfl rfl rfl rfl ?_
    refine RegV.evS (own := false) (v := (.ptr 5 0)) (H' := [(5, (.cells [(.d (.int .u64 (0 : Int))), (.d (.int .u64 (0 : Int))), (.d (.int .u64 (0 : Int))), (.d (.int .i64 (0 : Int))), .nils])), (0, (.lp 49 [(3, (.ptr 1 0))] [29] asg0 bd0 .ready none)), (1, (.cells [(.ap 4 1 (List.map byteD y7_2))])), (3, (.cells [(.d (.sl (List.map TMessage.enc a1)))])), (4, (.tok ((List.map byteD y7_2).length * 1)))]) (c' := 6) rfl rfl trivial rfl rfl rfl rfl rfl rfl ?_
    refine RegV.evN (own := false) (H' := [(5, (.cells [(.d (.int .u64 (rd a1 y7_1).fOffset)), (.d (.int .u64 (rd a1 y7_1).fProducer)), (.d (.int .u64 (rd a1 y7_1).fSeq)), (.d (.int .i64 (rd a1 y7_1).fVersion)), (.d (.sl (List.map byteD (rd a1 y7_1).fData)))])), (0, (.lp 49 [(3, (.ptr 1 0))] [29] asg0 bd0 .ready none)), (1, (.cells [(.ap 4 1 (List.map byteD y7_2))])), (3, (.cells [(.d (.sl (List.map TMessage.enc a1)))])), (4, (.tok ((List.map byteD y7_2).length * 1)))]) (c' := 6) rfl rfl (by exact ⟨rfl, Nat.le_of_ble_eq_true rfl, rfl⟩) rfl rfl rfl rfl ?_
    refine RegV.nil0 ?_
    refine AWc.seq ?_
    refine AWc.rg hmix rfl rfl ?_
    refine RegV.p0 rfl rfl rfl ?_
    refine RegV.ld (v := (.d (.agg [(.int .u64 (rd a1 y7_1).fOffset), (.int .u64 (rd a1 y7_1).fProducer), (.int .u64 (rd a1 y7_1).fSeq), (.int .i64 (rd a1 y7_1).fVersion), (.sl (List.map byteD (rd a1 y7_1).fData))]))) (H' := [(5, (.cells [(.d (.int .u64 (rd a1 y7_1).fOffset)), (.d (.int .u64 (rd a1 y7_1).fProducer)), (.d (.int .u64 (rd a1 y7_1).fSeq)), (.d (.int .i64 (rd a1 y7_1).fVersion)), (.d (.sl (List.map byteD (rd a1 y7_1).fData)))])), (0, (.lp 49 [(3, (.ptr 1 0))] [29] asg0 bd0 .ready none)), (1, (.cells [(.ap 4 1 (List.map byteD y7_2))])), (3, (.cells [(.d (.sl (List.map TMessage.enc a1)))])), (4, (.tok ((List.map byteD y7_2).length * 1)))]) rfl rfl (Nat.le_of_ble_eq_true rfl) rfl rfl rfl rfl rfl ?_
    obtain ⟨r31, e31, h7⟩ := bind_some h7
    refine RegV.yield (H' := [(0, (.lp 49 [(3, (.ptr 1 0))] [29] asg0 bd0 .ready none)), (1, (.cells [(.ap 6 1 (List.map byteD r31))])), (6, (.tok ((List.map byteD r31).length * 1))), (5, (.cells [(.d (.int .u64 (rd a1 y7_1).fOffset)), (.d (.int .u64 (rd a1 y7_1).fProducer)), (.d (.int .u64 (rd a1 y7_1).fSeq)), (.d (.int .i64 (rd a1 y7_1).fVersion)), (.d (.sl (List.map byteD (rd a1 y7_1).fData)))])), (3, (.cells [(.d (.sl (List.map TMessage.enc a1)))]))]) (c' := 7) (show ARound P 0 [(.d (TMessage.enc (TMessage.mk ((rd a1 y7_1).fOffset) ((rd a1 y7_1).fProducer) ((rd a1 y7_1).fSeq) ((rd a1 y7_1).fVersion) ((rd a1 y7_1).fData))))] [(0, (.lp 49 [(3, (.ptr 1 0))] [29] asg0 bd0 .ready none)), (1, (.cells [(.ap 4 1 (List.map byteD y7_2))])), (4, (.tok ((List.map byteD y7_2).length * 1)))] (.d (.bool true)) [(0, (.lp 49 [(3, (.ptr 1 0))] [29] asg0 bd0 .ready none)), (1, (.cells [(.ap 6 1 (List.map byteD r31))])), (6, (.tok ((List.map byteD r31).length * 1)))] from ARound.use (B65_51 hmix hc.2 ha0 hb0 e31) [(0, 0), (1, 1), (2, 4), (3, 6)] 4 rfl) rfl rfl rfl (.cons (.refl _) .nil) rfl (hasCons rfl (hasCons rfl (hasCons rfl hasNil))) rfl rfl rfl rfl ?_
    refine RegV.p0 (v := (.d (.bool false))) rfl rfl rfl ?_
    refine RegV.nil0 ?_
    refine AWc.cond rfl (fun hc => by cases hc) (fun _ => ?_)
    refine AWc.skip ?_
    refine AWc.rg hmix rfl rfl ?_
    refine RegV.p0 (v := (.d (.int .i64 (IntKind.i64.wrap (y7_1 + (1 : Int)))))) rfl rfl rfl ?_
    refine RegV.p0 rfl rfl rfl ?_
    refine RegV.nil0 ?_
    exact ⟨((IntKind.i64.wrap (y7_1 + (1 : Int))), r31), h7, ⟨rfl, [], [(4, 6)], rfl, rfl, ⟨⟨_, rfl, (.refl _)⟩, rfl, ⟨⟨_, rfl, (.refl _)⟩, rfl, ⟨⟨_, rfl, (.refl _)⟩, rfl, ⟨⟨_, rfl, (.refl _)⟩, rfl, trivial⟩⟩⟩⟩, ⟨⟨_, rfl, (.refl _)⟩, rfl, rfl, ⟨⟨_, rfl, (.refl _)⟩, rfl, rfl, ⟨⟨_, rfl, (.refl _)⟩, rfl, rfl, ⟨⟨_, rfl, (.refl _)⟩, rfl, rfl, trivial⟩⟩⟩⟩⟩⟩
  · have h7 := cond_neg c14 h7
    cases h7
    dsimp only at h
    refine AWc.exit ?_
    refine inBlk_eq ?_
    have hr := Option.some.inj h
    subst hr
    exact canQ (N := 16) (k := 5) (l' := []) (H' := [(0, (.lp 49 [(3, (.ptr 1 0))] [29] asg0 bd0 .ready none)), (1, (.cells [(.ap 4 1 (List.map byteD y7_2))])), (3, (.cells [(.d (.sl (List.map TMessage.enc a1)))])), (4, (.tok ((List.map byteD y7_2).length * 1)))]) rfl ⟨rfl, [], [], rfl, rfl,  trivial, ⟨⟨_, rfl, (.refl _)⟩, rfl, rfl, ⟨⟨_, rfl, (.refl _)⟩, rfl, rfl, ⟨⟨_, rfl, (.refl _)⟩, rfl, rfl, ⟨⟨_, rfl, (.refl _)⟩, rfl, rfl, trivial⟩⟩⟩⟩⟩ (doneA (.inl rfl) rfl trivial (.refl _) (hasCons rfl (hasCons rfl (hasCons rfl (hasCons rfl hasNil)))))
def HC65 (P : Program) (N : Nat → Nat) : Prop := HasF P (N 65) (C65 N) ∧ HC94 P N ∧ HC96 P N ∧ HC95 P N ∧ HC94v2 P N ∧ HC99 P N ∧ HC112 P N
def f65 (k : Nat) (a0 : TReply) : Option (List UInt8) := (f94 k ([a0.fErr, a0.fN, a0.fID] : List Int)).bind fun r20 => (f96 k r20 ([a0.fOffset] : List Int)).bind fun r27 => (f95 k r27 ([a0.fText] : List (List UInt8))).bind fun r34 => (f94v2 k r34 ([((a0.fMessages.length : Nat) : Int)] : List Int)).bind fun r42 => (f99 k a0.fMessages).bind fun r49 => (f112 k r42 a0.fMessages).bind fun rf51 => some rf51
theorem F65 {P : Program} {N : Nat → Nat} (hmix : P.follows .mixedOrders = true) (hc : HC65 P N) {k : Nat} {a0 : TReply} {r : (List UInt8)} (h : f65 k a0 = some r) :
    ACalls P (N 65) [(.d (TReply.enc a0))] [] (.ap 0 1 (List.map byteD r)) [(0, (.tok ((List.map byteD r).length * 1)))] := by
  refine acalls_canon (F := C65 N) hc.1 0 1 rfl ?_
  unfold f65 at h
  dsimp only [C65, startL]
  refine AWc.seq ?_
  refine AWc.rg hmix rfl rfl ?_
  refine RegV.evS (own := false) (v := (.ptr 0 0)) (H' := [(0, (.cells [(.d (.int .i64 a0.fErr)), (.d (.int .i64 a0.fN)), (.d (.int .i64 a0.fID)), (.d (.int .u64 a0.fOffset)), (.d (.str a0.fText)), (.d (.sl (List.map TMessage.enc a0.fMessages)))]))]) (c' := 1) rfl rfl trivial rfl rfl rfl rfl rfl rfl ?_
  refine RegV.p0 rfl rfl rfl ?_
  refine RegV.nil0 ?_
  refine AWc.seq ?_
  refine AWc.rg hmix rfl rfl ?_
  refine RegV.evS (own := false) (v := (.ptr 1 0)) (H' := [(1, (.cells [.nils])), (0, (.cells [(.d (.int .i64 a0.fErr)), (.d (.int .i64 a0.fN)), (.d (.int .i64 a0.fID)), (.d (.int .u64 a0.fOffset)), (.d (.str a0.fText)), (.d (.sl (List.map TMessage.enc a0.fMessages)))]))]) (c' := 2) rfl rfl trivial rfl rfl rfl rfl rfl rfl ?_
  refine RegV.nil0 ?_
  refine AWc.seq ?_
  refine AWc.rg hmix rfl rfl ?_
  refine RegV.p0 (v := (.ptr 0 0)) rfl rfl rfl ?_
  refine RegV.ld (v := (.d (.int .i64 a0.fErr))) (H' := [(0, (.cells [(.d (.int .i64 a0.fErr)), (.d (.int .i64 a0.fN)), (.d (.int .i64 a0.fID)), (.d (.int .u64 a0.fOffset)), (.d (.str a0.fText)), (.d (.sl (List.map TMessage.enc a0.fMessages)))])), (1, (.cells [.nils]))]) rfl rfl trivial rfl rfl rfl rfl rfl ?_
  refine RegV.p0 (v := (.ptr 0 1)) rfl rfl rfl ?_
  refine RegV.ld (v := (.d (.int .i64 a0.fN))) (H' := [(0, (.cells [(.d (.int .i64 a0.fErr)), (.d (.int .i64 a0.fN)), (.d (.int .i64 a0.fID)), (.d (.int .u64 a0.fOffset)), (.d (.str a0.fText)), (.d (.sl (List.map TMessage.enc a0.fMessages)))])), (1, (.cells [.nils]))]) rfl rfl trivial rfl rfl rfl rfl rfl ?_
  refine RegV.p0 (v := (.ptr 0 2)) rfl rfl rfl ?_
  refine RegV.ld (v := (.d (.int .i64 a0.fID))) (H' := [(0, (.cells [(.d (.int .i64 a0.fErr)), (.d (.int .i64 a0.fN)), (.d (.int .i64 a0.fID)), (.d (.int .u64 a0.fOffset)), (.d (.str a0.fText)), (.d (.sl (List.map TMessage.enc a0.fMessages)))])), (1, (.cells [.nils]))]) rfl rfl trivial rfl rfl rfl rfl rfl ?_
  refine RegV.p1 (v := (.d (.sl (List.map (D.int .i64) ([a0.fErr, a0.fN, a0.fID] : List Int))))) rfl rfl (by exact ⟨rfl, Nat.le_of_ble_eq_true rfl, mapLen (e := (D.int .i64)) (xs := ([a0.fErr, a0.fN, a0.fID] : List Int)) (z := 1) (fun _ => rfl)⟩) rfl rfl ?_
  obtain ⟨r20, e20, h⟩ := bind_some h
  refine RegV.callS (q := false) (H' := [(1, (.cells [(.ap 2 1 (List.map byteD r20))])), (2, (.tok ((List.map byteD r20).length * 1))), (0, (.cells [(.d (.int .i64 a0.fErr)), (.d (.int .i64 a0.fN)), (.d (.int .i64 a0.fID)), (.d (.int .u64 a0.fOffset)), (.d (.str a0.fText)), (.d (.sl (List.map TMessage.enc a0.fMessages)))]))]) (c' := 3) (show ACalls P (N 94) [(.ptr 1 0), (.d (.sl (List.map (D.int .i64) ([a0.fErr, a0.fN, a0.fID] : List Int))))] [(1, (.cells [.nils]))] (.tup []) [(1, (.cells [(.ap 2 1 (List.map byteD r20))])), (2, (.tok ((List.map byteD r20).length * 1)))] from ACalls.use (F94 hmix hc.2.1 e20) [(0, 1), (1, 2)] 2 rfl) rfl rfl rfl rfl (.cons (.refl _) (.cons (.refl _) .nil)) (.refl _) (fun h => by cases h) rfl (hasCons rfl hasNil) rfl rfl rfl rfl ?_
  refine RegV.nil0 ?_
  refine AWc.seq ?_
  refine AWc.rg hmix rfl rfl ?_
  refine RegV.p0 (v := (.ptr 0 3)) rfl rfl rfl ?_
  refine RegV.ld (v := (.d (.int .u64 a0.fOffset))) (H' := [(0, (.cells [(.d (.int .i64 a0.fErr)), (.d (.int .i64 a0.fN)), (.d (.int .i64 a0.fID)), (.d (.int .u64 a0.fOffset)), (.d (.str a0.fText)), (.d (.sl (List.map TMessage.enc a0.fMessages)))])), (1, (.cells [(.ap 2 1 (List.map byteD r20))])), (2, (.tok ((List.map byteD r20).length * 1)))]) rfl rfl trivial rfl rfl rfl rfl rfl ?_
  refine RegV.p1 (v := (.d (.sl (List.map (D.int .u64) ([a0.fOffset] : List Int))))) rfl rfl (by exact ⟨rfl, Nat.le_of_ble_eq_true rfl, mapLen (e := (D.int .u64)) (xs := ([a0.fOffset] : List Int)) (z := 1) (fun _ => rfl)⟩) rfl rfl ?_
  obtain ⟨r27, e27, h⟩ := bind_some h
  refine RegV.callS (q := false) (H' := [(1, (.cells [(.ap 3 1 (List.map byteD r27))])), (3, (.tok ((List.map byteD r27).length * 1))), (0, (.cells [(.d (.int .i64 a0.fErr)), (.d (.int .i64 a0.fN)), (.d (.int .i64 a0.fID)), (.d (.int .u64 a0.fOffset)), (.d (.str a0.fText)), (.d (.sl (List.map TMessage.enc a0.fMessages)))]))]) (c' := 4) (show ACalls P (N 96) [(.ptr 1 0), (.d (.sl (List.map (D.int .u64) ([a0.fOffset] : List Int))))] [(1, (.cells [(.ap 2 1 (List.map byteD r20))])), (2, (.tok ((List.map byteD r20).length * 1)))] (.tup []) [(1, (.cells [(.ap 3 1 (List.map byteD r27))])), (3, (.tok ((List.map byteD r27).length * 1)))] from ACalls.use (F96 hmix hc.2.2.1 e27) [(0, 1), (1, 2), (2, 3)] 3 rfl) rfl rfl rfl rfl (.cons (.refl _) (.cons (.refl _) .nil)) (.refl _) (fun h => by cases h) rfl (hasCons rfl (hasCons rfl hasNil)) rfl rfl rfl rfl ?_
  refine RegV.nil0 ?_
  refine AWc.seq ?_
  refine AWc.rg hmix rfl rfl ?_
  refine RegV.p0 (v := (.ptr 0 4)) rfl rfl rfl ?_
  refine RegV.ld (v := (.d (.str a0.fText))) (H' := [(0, (.cells [(.d (.int .i64 a0.fErr)), (.d (.int .i64 a0.fN)), (.d (.int .i64 a0.fID)), (.d (.int .u64 a0.fOffset)), (.d (.str a0.fText)), (.d (.sl (List.map TMessage.enc a0.fMessages)))])), (1, (.cells [(.ap 3 1 (List.map byteD r27))])), (3, (.tok ((List.map byteD r27).length * 1)))]) rfl rfl trivial rfl rfl rfl rfl rfl ?_
  refine RegV.p1 (v := (.d (.sl (List.map D.str ([a0.fText] : List (List UInt8)))))) rfl rfl (by exact ⟨rfl, Nat.le_of_ble_eq_true rfl, mapLen (e := D.str) (xs := ([a0.fText] : List (List UInt8))) (z := 1) (fun _ => rfl)⟩) rfl rfl ?_
  obtain ⟨r34, e34, h⟩ := bind_some h
  refine RegV.callS (q := false) (H' := [(1, (.cells [(.ap 4 1 (List.map byteD r34))])), (4, (.tok ((List.map byteD r34).length * 1))), (0, (.cells [(.d (.int .i64 a0.fErr)), (.d (.int .i64 a0.fN)), (.d (.int .i64 a0.fID)), (.d (.int .u64 a0.fOffset)), (.d (.str a0.fText)), (.d (.sl (List.map TMessage.enc a0.fMessages)))]))]) (c' := 5) (show ACalls P (N 95) [(.ptr 1 0), (.d (.sl (List.map D.str ([a0.fText] : List (List UInt8)))))] [(1, (.cells [(.ap 3 1 (List.map byteD r27))])), (3, (.tok ((List.map byteD r27).length * 1)))] (.tup []) [(1, (.cells [(.ap 4 1 (List.map byteD r34))])), (4, (.tok ((List.map byteD r34).length * 1)))] from ACalls.use (F95 hmix hc.2.2.2.1 e34) [(0, 1), (1, 3), (2, 4)] 3 rfl) rfl rfl rfl rfl (.cons (.refl _) (.cons (.refl _) .nil)) (.refl _) (fun h => by cases h) rfl (hasCons rfl (hasCons rfl hasNil)) rfl rfl rfl rfl ?_
  refine RegV.nil0 ?_
  refine AWc.seq ?_
  refine AWc.rg hmix rfl rfl ?_
  refine RegV.p0 (v := (.ptr 0 5)) rfl rfl rfl ?_
  refine RegV.ld (v := (.d (.sl (List.map TMessage.enc a0.fMessages)))) (H' := [(0, (.cells [(.d (.int .i64 a0.fErr)), (.d (.int .i64 a0.fN)), (.d (.int .i64 a0.fID)), (.d (.int .u64 a0.fOffset)), (.d (.str a0.fText)), (.d (.sl (List.map TMessage.enc a0.fMessages)))])), (1, (.cells [(.ap 4 1 (List.map byteD r34))])), (4, (.tok ((List.map byteD r34).length * 1)))]) rfl rfl trivial rfl rfl rfl rfl rfl ?_
  refine RegV.len (xs := a0.fMessages) (e := TMessage.enc) rfl rfl rfl rfl ?_
  refine RegV.p1 (v := (.d (.sl (List.map (D.int .i64) ([((a0.fMessages.length : Nat) : Int)] : List Int))))) rfl rfl (by exact ⟨rfl, Nat.le_of_ble_eq_true rfl, mapLen (e := (D.int .i64)) (xs := ([((a0.fMessages.length : Nat) : Int)] : List Int)) (z := 1) (fun _ => rfl)⟩) rfl rfl ?_
  obtain ⟨r42, e42, h⟩ := bind_some h
  refine RegV.callS (q := false) (H' := [(1, (.cells [(.ap 5 1 (List.map byteD r42))])), (5, (.tok ((List.map byteD r42).length * 1))), (0, (.cells [(.d (.int .i64 a0.fErr)), (.d (.int .i64 a0.fN)), (.d (.int .i64 a0.fID)), (.d (.int .u64 a0.fOffset)), (.d (.str a0.fText)), (.d (.sl (List.map TMessage.enc a0.fMessages)))]))]) (c' := 6) (show ACalls P (N 94) [(.ptr 1 0), (.d (.sl (List.map (D.int .i64) ([((a0.fMessages.length : Nat) : Int)] : List Int))))] [(1, (.cells [(.ap 4 1 (List.map byteD r34))])), (4, (.tok ((List.map byteD r34).length * 1)))] (.tup []) [(1, (.cells [(.ap 5 1 (List.map byteD r42))])), (5, (.tok ((List.map byteD r42).length * 1)))] from ACalls.use (F94v2 hmix hc.2.2.2.2.1 e42) [(0, 1), (1, 4), (2, 5)] 3 rfl) rfl rfl rfl rfl (.cons (.refl _) (.cons (.refl _) .nil)) (.refl _) (fun h => by cases h) rfl (hasCons rfl (hasCons rfl hasNil)) rfl rfl rfl rfl ?_
  refine RegV.nil0 ?_
  refine AWc.seq ?_
  refine AWc.seq ?_
  refine AWc.rg hmix rfl rfl ?_
  refine RegV.p0 (v := (.ptr 0 5)) rfl rfl rfl ?_
  refine RegV.ld (v := (.d (.sl (List.map TMessage.enc a0.fMessages)))) (H' := [(0, (.cells [(.d (.int .i64 a0.fErr)), (.d (.int .i64 a0.fN)), (.d (.int .i64 a0.fID)), (.d (.int .u64 a0.fOffset)), (.d (.str a0.fText)), (.d (.sl (List.map TMessage.enc a0.fMessages)))])), (1, (.cells [(.ap 5 1 (List.map byteD r42))])), (5, (.tok ((List.map byteD r42).length * 1)))]) rfl rfl trivial rfl rfl rfl rfl rfl ?_
  obtain ⟨r49, e49, h⟩ := bind_some h
  refine RegV.callS (q := false) (H' := [(6, (.cells [(.d (.sl (List.map TMessage.enc a0.fMessages)))])), (0, (.cells [(.d (.int .i64 a0.fErr)), (.d (.int .i64 a0.fN)), (.d (.int .i64 a0.fID)), (.d (.int .u64 a0.fOffset)), (.d (.str a0.fText)), (.d (.sl (List.map TMessage.enc a0.fMessages)))])), (1, (.cells [(.ap 5 1 (List.map byteD r42))])), (5, (.tok ((List.map byteD r42).length * 1)))]) (c' := 7) (show ACalls P (N 99) [(.d (.sl (List.map TMessage.enc a0.fMessages)))] [] (.fn (N 112) [(.ptr 6 0)]) [(6, (.cells [(.d (.sl (List.map TMessage.enc a0.fMessages)))]))] from ACalls.use (F99 hmix hc.2.2.2.2.2.1 e49) [(0, 6)] 1 rfl) rfl rfl rfl rfl (.cons (.refl _) .nil) (.refl _) (fun h => by cases h) rfl hasNil rfl rfl rfl rfl ?_
  refine RegV.nil0 ?_
  refine AWc.block ?_
  refine AWc.rangeFunc [(3, (.ptr 1 0))] rfl rfl rfl rfl ⟨rfl, trivial⟩ (fun asgU51 bdU51 haU51 hbU51 => ?_)
  obtain ⟨rf51, ef51, h⟩ := bind_some h
  refine rfN (H' := [(1, (.cells [(.ap 8 1 (List.map byteD rf51))])), (6, (.cells [(.d (.sl (List.map TMessage.enc a0.fMessages)))])), (8, (.tok ((List.map byteD rf51).length * 1))), (0, (.cells [(.d (.int .i64 a0.fErr)), (.d (.int .i64 a0.fN)), (.d (.int .i64 a0.fID)), (.d (.int .u64 a0.fOffset)), (.d (.str a0.fText)), (.d (.sl (List.map TMessage.enc a0.fMessages)))]))]) (c' := 9) (show ACalls P (N 112) [(.lf 7), (.ptr 6 0)] [(7, (.lp 49 [(3, (.ptr 1 0))] [29] asgU51 bdU51 .ready none)), (1, (.cells [(.ap 5 1 (List.map byteD r42))])), (5, (.tok ((List.map byteD r42).length * 1))), (6, (.cells [(.d (.sl (List.map TMessage.enc a0.fMessages)))]))] (.tup []) [(7, (.lp 49 [(3, (.ptr 1 0))] [29] asgU51 bdU51 .ready none)), (1, (.cells [(.ap 8 1 (List.map byteD rf51))])), (6, (.cells [(.d (.sl (List.map TMessage.enc a0.fMessages)))])), (8, (.tok ((List.map byteD rf51).length * 1)))] from ACalls.use (F112 hmix hc.2.2.2.2.2.2 haU51 hbU51 ef51) [(0, 7), (1, 1), (2, 5), (3, 6), (4, 8)] 5 rfl) (.cons (.refl _) (.cons (.refl _) .nil)) (hasCons rfl (hasCons rfl (hasCons rfl (hasCons rfl hasNil)))) rfl rfl rfl rfl rfl ?_
  refine AWc.seq ?_
  refine AWc.rg hmix rfl rfl ?_
  refine RegV.p0 (v := (.ptr 1 0)) rfl rfl rfl ?_
  refine RegV.ld (v := (.ap 8 1 (List.map byteD rf51))) (H' := [(1, (.cells [(.ap 8 1 (List.map byteD rf51))])), (6, (.cells [(.d (.sl (List.map TMessage.enc a0.fMessages)))])), (8, (.tok ((List.map byteD rf51).length * 1))), (0, (.cells [(.d (.int .i64 a0.fErr)), (.d (.int .i64 a0.fN)), (.d (.int .i64 a0.fID)), (.d (.int .u64 a0.fOffset)), (.d (.str a0.fText)), (.d (.sl (List.map TMessage.enc a0.fMessages)))]))]) rfl rfl trivial rfl rfl rfl rfl rfl ?_
  refine RegV.p0 rfl rfl rfl ?_
  refine RegV.nil0 ?_
  have hr := Option.some.inj h
  subst hr
  exact AWc.ret (canQ (N := 49) (k := 1) (l' := [(2, (.ap 0 1 (List.map byteD rf51)))]) (H' := [(0, (.tok ((List.map byteD rf51).length * 1)))]) rfl ⟨rfl, [], [(0, 8)], rfl, rfl, ⟨⟨_, rfl, (.refl _)⟩, rfl, trivial⟩, ⟨⟨_, rfl, (.refl _)⟩, rfl, rfl, trivial⟩⟩ (doneA (.inr rfl) rfl ⟨trivial, trivial⟩ (.refl _) (hasCons rfl hasNil)))
/-- courant/courantlaw27.awake -/
def C56 (N : Nat → Nat) : AFunc := { n := 11, params := 0, res := [.tmp 0], body :=
 (.seq (.region false [⟨(some 0), .mv (.k (.d (.bool false))), none, []⟩])
  (.seq (.region false [⟨(some 1), .build [(.int .i64 0), (.str []), (.str []), (.str []), (.int .i64 0), (.int .i64 0), (.int .u64 0), (.int .u64 0), (.int .u64 0), (.int .i64 0), (.sl [])] [], none, []⟩,
    ⟨(some 2), .call (.k (.d (.fn (N 59)))) [(.t 1)], none, [0]⟩,
    ⟨(some 3), .len (.t 2), none, [1]⟩,
    ⟨(some 4), .bin .eql (.t 3) (.k (.d (.int .i64 11))), none, [2]⟩,
    ⟨(some 5), .mv (.t 4), none, [3, 1]⟩,
    ⟨(some 6), .build [(.int .i64 0), (.int .i64 0), (.int .i64 0), (.int .u64 0), (.str []), (.sl [])] [], (some (5, true)), [4]⟩,
    ⟨(some 7), .call (.k (.d (.fn (N 65)))) [(.t 6)], (some (5, true)), [5, 4]⟩,
    ⟨(some 8), .len (.t 7), (some (5, true)), [6, 4]⟩,
    ⟨(some 9), .bin .eql (.t 8) (.k (.d (.int .i64 6))), (some (5, true)), [7, 4]⟩,
    ⟨(some 10), .pick (.t 5) (.t 9) (.k (.d (.bool false))), none, [4, 8]⟩,
    ⟨(some 0), .mv (.t 10), none, [9, 6, 0, 1, 2, 3, 4, 5, 7, 8]⟩])
   .ret)) }
def HC56 (P : Program) (N : Nat → Nat) : Prop := HasF P (N 56) (C56 N) ∧ HC59 P N ∧ HC65 P N
def f56 (k : Nat) : Option Bool := (f59 k (TRequest.mk (0 : Int) ([] : List UInt8) ([] : List UInt8) ([] : List UInt8) (0 : Int) (0 : Int) (0 : Int) (0 : Int) (0 : Int) (0 : Int) ([] : List UInt8))).bind fun r9 => cond (decide (((r9.length : Nat) : Int) = (11 : Int))) ((f65 k (TReply.mk (0 : Int) (0 : Int) (0 : Int) (0 : Int) ([] : List UInt8) ([] : List TMessage))).bind fun r14 => some (decide (((r14.length : Nat) : Int) = (6 : Int)))) (some false)
theorem F56 {P : Program} {N : Nat → Nat} (hmix : P.follows .mixedOrders = true) (hc : HC56 P N) {k : Nat} {r : Bool} (h : f56 k = some r) :
    ACalls P (N 56) [] [] (.d (.bool r)) [] := by
  refine acalls_canon (F := C56 N) hc.1 0 0 rfl ?_
  unfold f56 at h
  dsimp only [C56, startL]
  refine AWc.seq ?_
  refine AWc.rg hmix rfl rfl ?_
  refine RegV.p0 rfl rfl rfl ?_
  refine RegV.nil0 ?_
  refine AWc.seq ?_
  refine AWc.rg hmix rfl rfl ?_
  refine RegV.p1 (v := (.d (.agg [(.int .i64 (0 : Int)), (.str ([] : List UInt8)), (.str ([] : List UInt8)), (.str ([] : List UInt8)), (.int .i64 (0 : Int)), (.int .i64 (0 : Int)), (.int .u64 (0 : Int)), (.int .u64 (0 : Int)), (.int .u64 (0 : Int)), (.int .i64 (0 : Int)), (.sl (List.map byteD ([] : List UInt8)))]))) rfl rfl trivial rfl rfl ?_
  obtain ⟨r9, e9, h⟩ := bind_some h
  refine RegV.callS (q := false) (H' := [(0, (.tok ((List.map byteD r9).length * 1)))]) (c' := 1) (show ACalls P (N 59) [(.d (TRequest.enc (TRequest.mk (0 : Int) ([] : List UInt8) ([] : List UInt8) ([] : List UInt8) (0 : Int) (0 : Int) (0 : Int) (0 : Int) (0 : Int) (0 : Int) ([] : List UInt8))))] [] (.ap 0 1 (List.map byteD r9)) [(0, (.tok ((List.map byteD r9).length * 1)))] from ACalls.use (F59 hmix hc.2.1 e9) [(0, 0)] 1 rfl) rfl rfl rfl rfl (.cons (.refl _) .nil) (.refl _) (fun h => by cases h) rfl hasNil rfl rfl rfl rfl ?_
  refine RegV.len (xs := r9) (e := byteD) rfl rfl rfl rfl ?_
  refine RegV.p0 (v := (.d (.bool (decide (((r9.length : Nat) : Int) = (11 : Int)))))) rfl rfl rfl ?_
  refine RegV.p0 rfl rfl rfl ?_
  refine RegV.split (fun c12 => ?_) (fun c12 => ?_)
  · have h := cond_pos c12 h
    refine RegV.p1 (v := (.d (.agg [(.int .i64 (0 : Int)), (.int .i64 (0 : Int)), (.int .i64 (0 : Int)), (.int .u64 (0 : Int)), (.str ([] : List UInt8)), (.sl (List.map TMessage.enc ([] : List TMessage)))]))) rfl rfl trivial rfl rfl ?_
    obtain ⟨r14, e14, h⟩ := bind_some h
    refine RegV.callS (q := false) (H' := [(1, (.tok ((List.map byteD r14).length * 1))), (0, (.tok ((List.map byteD r9).length * 1)))]) (c' := 2) (show ACalls P (N 65) [(.d (TReply.enc (TReply.mk (0 : Int) (0 : Int) (0 : Int) (0 : Int) ([] : List UInt8) ([] : List TMessage))))] [] (.ap 1 1 (List.map byteD r14)) [(1, (.tok ((List.map byteD r14).length * 1)))] from ACalls.use (F65 hmix hc.2.2 e14) [(0, 1)] 1 rfl) rfl rfl rfl rfl (.cons (.refl _) .nil) (.refl _) (fun h => by cases h) rfl hasNil rfl rfl rfl rfl ?_
    refine RegV.len (xs := r14) (e := byteD) rfl rfl rfl rfl ?_
    refine RegV.p0 (v := (.d (.bool (decide (((r14.length : Nat) : Int) = (6 : Int)))))) rfl rfl rfl ?_
    refine RegV.p0 rfl rfl rfl ?_
    refine RegV.p0 rfl rfl rfl ?_
    refine RegV.nil0 ?_
    have hr := Option.some.inj h
    subst hr
    exact AWc.ret (canQ (N := 11) (k := 0) (l' := [(0, (.d (.bool (decide (((r14.length : Nat) : Int) = (6 : Int))))))]) (H' := []) rfl ⟨rfl, [], [], rfl, rfl, ⟨⟨_, rfl, (.refl _)⟩, rfl, trivial⟩,  trivial⟩ (doneA (.inr rfl) rfl ⟨trivial, trivial⟩ (.refl _) hasNil))
  · have h := cond_neg c12 h
    refine RegV.noS rfl rfl ?_
    refine RegV.noS rfl rfl ?_
    refine RegV.noS rfl rfl ?_
    refine RegV.noS rfl rfl ?_
    refine RegV.p0 rfl rfl rfl ?_
    refine RegV.p0 rfl rfl rfl ?_
    refine RegV.nil0 ?_
    have hr := Option.some.inj h
    subst hr
    exact AWc.ret (canQ (N := 11) (k := 0) (l' := [(0, (.d (.bool false)))]) (H' := []) rfl ⟨rfl, [], [], rfl, rfl, ⟨⟨_, rfl, (.refl _)⟩, rfl, trivial⟩,  trivial⟩ (doneA (.inr rfl) rfl ⟨trivial, trivial⟩ (.refl _) hasNil))
/-- courant/code.New -/
def C30 (N : Nat → Nat) : AFunc := { n := 7, params := 1, res := [.tmp 2], body :=
 (.seq (.region false [⟨(some 2), .mv (.k (.d .nilp)), none, []⟩])
  (.seq (.region false [⟨(some 3), .mv (.t 0), none, []⟩,
    ⟨(some 4), .app (.k .nils) (.t 3) 1 1 [(.int .u8 0)], none, [0]⟩,
    ⟨(some 5), .build [(.sl []), (.int .i64 0), (.int .i64 0)] [(0, 1, (.t 4))], none, [1]⟩,
    ⟨(some 6), .box (.t 5), none, [2]⟩,
    ⟨(some 2), .mv (.t 6), none, [3, 1, 0, 2]⟩])
   .ret)) }
def HC30 (P : Program) (N : Nat → Nat) : Prop := HasF P (N 30) (C30 N)
def f30 (k : Nat) (a0 : (List UInt8)) : Option Unit := gd (a0.length * 1 ≤ 281474976710656) (some ())
theorem F30 {P : Program} {N : Nat → Nat} (hmix : P.follows .mixedOrders = true) (hc : HC30 P N) {k : Nat} {a0 : (List UInt8)} {r : Unit} (h : f30 k a0 = some r) :
    ACalls P (N 30) [(.d (.sl (List.map byteD a0)))] [] (.ptr 0 0) [(0, (.cells [(.d (.sl (List.map byteD a0))), (.d (.int .i64 (0 : Int))), (.d (.int .i64 (0 : Int)))]))] := by
  refine acalls_canon (F := C30 N) hc 0 1 rfl ?_
  unfold f30 at h
  dsimp only [C30, startL]
  refine AWc.seq ?_
  refine AWc.rg hmix rfl rfl ?_
  refine RegV.p0 rfl rfl rfl ?_
  refine RegV.nil0 ?_
  refine AWc.seq ?_
  refine AWc.rg hmix rfl rfl ?_
  refine RegV.p0 rfl rfl rfl ?_
  obtain ⟨b9, h⟩ := gd_some h
  refine RegV.appN (ys := a0) (e := byteD) rfl rfl rfl (fun _ => rfl) rfl rfl b9 rfl rfl ?_
  refine RegV.p1 (v := (.d (.agg [(.sl (List.map byteD a0)), (.int .i64 (0 : Int)), (.int .i64 (0 : Int))]))) rfl rfl (by exact ⟨⟨rfl, Nat.le_of_ble_eq_true rfl⟩, trivial⟩) rfl rfl ?_
  refine RegV.evS (own := false) (v := (.ptr 1 0)) (H' := [(1, (.cells [(.d (.sl (List.map byteD a0))), (.d (.int .i64 (0 : Int))), (.d (.int .i64 (0 : Int)))])), (0, (.tok ((List.map byteD a0).length * 1)))]) (c' := 2) rfl rfl trivial rfl rfl rfl rfl rfl rfl ?_
  refine RegV.p0 rfl rfl rfl ?_
  refine RegV.nil0 ?_
  have hr := Option.some.inj h
  subst hr
  exact AWc.ret (canQ (N := 7) (k := 1) (l' := [(2, (.ptr 0 0))]) (H' := [(0, (.cells [(.d (.sl (List.map byteD a0))), (.d (.int .i64 (0 : Int))), (.d (.int .i64 (0 : Int)))]))]) rfl ⟨rfl, [], [(0, 1)], rfl, rfl, ⟨⟨_, rfl, (.refl _)⟩, rfl, trivial⟩, ⟨⟨_, rfl, (.refl _)⟩, rfl, rfl, trivial⟩⟩ (doneA (.inr rfl) rfl ⟨trivial, trivial⟩ (.refl _) (hasCons rfl hasNil)))
/-- (*courant/code.Reader).ready -/
def C84 (N : Nat → Nat) : AFunc := { n := 12, params := 1, res := [.tmp 2], body :=
 (.seq (.region false [⟨(some 2), .mv (.k (.d (.bool false))), none, []⟩])
  (.seq (.region false [⟨(some 3), .mv (.t 0), none, []⟩,
    ⟨(some 4), .nileq 1 true (.t 3) (.k (.d .nilp)), none, [0]⟩,
    ⟨(some 5), .mv (.t 4), none, [1]⟩,
    ⟨(some 6), .mv (.t 0), (some (5, true)), [2]⟩,
    ⟨(some 7), .nilchk (.t 6), (some (5, true)), [3, 2]⟩,
    ⟨(some 8), .faddr (.t 7) 2, (some (5, true)), [4, 2]⟩,
    ⟨(some 9), .load (.t 8) 1 false, (some (5, true)), [5, 2]⟩,
    ⟨(some 10), .bin .eql (.t 9) (.k (.d (.int .i64 0))), (some (5, true)), [6, 2]⟩,
    ⟨(some 11), .pick (.t 5) (.t 10) (.k (.d (.bool false))), none, [2, 7]⟩,
    ⟨(some 2), .mv (.t 11), none, [8, 2, 0, 1, 3, 4, 5, 6, 7]⟩])
   .ret)) }
def HC84 (P : Program) (N : Nat → Nat) : Prop := HasF P (N 84) (C84 N)
def f84 (k : Nat) (a0 : (List UInt8)) (a1 : Int) (a2 : Int) : Option Unit := some ()
theorem F84 {P : Program} {N : Nat → Nat} (hmix : P.follows .mixedOrders = true) (hc : HC84 P N) {k : Nat} {a0 : (List UInt8)} {a1 : Int} {a2 : Int} {r : Unit} (h : f84 k a0 a1 a2 = some r) :
    ACalls P (N 84) [(.ptr 0 0)] [(0, (.cells [(.d (.sl (List.map byteD a0))), (.d (.int .i64 a1)), (.d (.int .i64 a2))]))] (.d (.bool (decide (a2 = (0 : Int))))) [(0, (.cells [(.d (.sl (List.map byteD a0))), (.d (.int .i64 a1)), (.d (.int .i64 a2))]))] := by
  refine acalls_canon (F := C84 N) hc 1 1 rfl ?_
  unfold f84 at h
  dsimp only [C84, startL]
  refine AWc.seq ?_
  refine AWc.rg hmix rfl rfl ?_
  refine RegV.p0 rfl rfl rfl ?_
  refine RegV.nil0 ?_
  refine AWc.seq ?_
  refine AWc.rg hmix rfl rfl ?_
  refine RegV.p0 rfl rfl rfl ?_
  refine RegV.p0 (v := (.d (.bool true))) rfl rfl rfl ?_
  refine RegV.p0 rfl rfl rfl ?_
  refine RegV.p0 rfl rfl rfl ?_
  refine RegV.p0 rfl rfl rfl ?_
  refine RegV.p0 (v := (.ptr 0 2)) rfl rfl rfl ?_
  refine RegV.ld (v := (.d (.int .i64 a2))) (H' := [(0, (.cells [(.d (.sl (List.map byteD a0))), (.d (.int .i64 a1)), (.d (.int .i64 a2))]))]) rfl rfl trivial rfl rfl rfl rfl rfl ?_
  refine RegV.p0 (v := (.d (.bool (decide (a2 = (0 : Int)))))) rfl rfl rfl ?_
  refine RegV.p0 rfl rfl rfl ?_
  refine RegV.p0 rfl rfl rfl ?_
  refine RegV.nil0 ?_
  have hr := Option.some.inj h
  subst hr
  exact AWc.ret (canQ (N := 12) (k := 1) (l' := [(2, (.d (.bool (decide (a2 = (0 : Int))))))]) (H' := [(0, (.cells [(.d (.sl (List.map byteD a0))), (.d (.int .i64 a1)), (.d (.int .i64 a2))]))]) rfl ⟨rfl, [], [], rfl, rfl, ⟨⟨_, rfl, (.refl _)⟩, rfl, trivial⟩, ⟨⟨_, rfl, (.refl _)⟩, rfl, rfl, trivial⟩⟩ (doneA (.inr rfl) rfl ⟨trivial, trivial⟩ (.refl _) (hasCons rfl hasNil)))
/-- (*courant/code.Reader).fail -/
def C85 (N : Nat → Nat) : AFunc := { n := 14, params := 3, res := [], body :=
 (.region false [⟨(some 6), .mv (.t 0), none, []⟩,
  ⟨(some 7), .mv (.t 0), none, []⟩,
  ⟨(some 8), .mv (.t 1), none, []⟩,
  ⟨(some 9), .mv (.t 2), none, []⟩,
  ⟨(some 10), .nilchk (.t 6), none, [0, 2]⟩,
  ⟨(some 11), .faddr (.t 10) 1, none, [4, 0, 2]⟩,
  ⟨none, .store (.t 11) (.t 8) 1, none, [5, 2, 0]⟩,
  ⟨(some 12), .nilchk (.t 7), none, [1, 0, 2, 3, 4, 5, 6]⟩,
  ⟨(some 13), .faddr (.t 12) 2, none, [7, 0, 1, 2, 3, 4, 5, 6]⟩,
  ⟨none, .store (.t 13) (.t 9) 1, none, [8, 3, 6, 0, 1, 2, 4, 5]⟩]) }
def HC85 (P : Program) (N : Nat → Nat) : Prop := HasF P (N 85) (C85 N)
def f85 (k : Nat) (a0 : (List UInt8)) (a1 : Int) (a2 : Int) (a3 : Int) (a4 : Int) : Option Unit := some ()
theorem F85 {P : Program} {N : Nat → Nat} (hmix : P.follows .mixedOrders = true) (hc : HC85 P N) {k : Nat} {a0 : (List UInt8)} {a1 : Int} {a2 : Int} {a3 : Int} {a4 : Int} {r : Unit} (h : f85 k a0 a1 a2 a3 a4 = some r) :
    ACalls P (N 85) [(.ptr 0 0), (.d (.int .i64 a3)), (.d (.int .i64 a4))] [(0, (.cells [(.d (.sl (List.map byteD a0))), (.d (.int .i64 a1)), (.d (.int .i64 a2))]))] (.tup []) [(0, (.cells [(.d (.sl (List.map byteD a0))), (.d (.int .i64 a3)), (.d (.int .i64 a4))]))] := by
  refine acalls_canon (F := C85 N) hc 1 1 rfl ?_
  unfold f85 at h
  dsimp only [C85, startL]
  refine AWc.rg hmix rfl rfl ?_
  refine RegV.p0 rfl rfl rfl ?_
  refine RegV.p0 rfl rfl rfl ?_
  refine RegV.p0 rfl rfl rfl ?_
  refine RegV.p0 rfl rfl rfl ?_
  refine RegV.p0 rfl rfl rfl ?_
  refine RegV.p0 (v := (.ptr 0 1)) rfl rfl rfl ?_
  refine RegV.evN (own := false) (H' := [(0, (.cells [(.d (.sl (List.map byteD a0))), (.d (.int .i64 a3)), (.d (.int .i64 a2))]))]) (c' := 1) rfl rfl (by exact ⟨rfl, Nat.le_of_ble_eq_true rfl, rfl⟩) rfl rfl rfl rfl ?_
  refine RegV.p0 rfl rfl rfl ?_
  refine RegV.p0 (v := (.ptr 0 2)) rfl rfl rfl ?_
  refine RegV.evN (own := false) (H' := [(0, (.cells [(.d (.sl (List.map byteD a0))), (.d (.int .i64 a3)), (.d (.int .i64 a4))]))]) (c' := 1) rfl rfl (by exact ⟨rfl, Nat.le_of_ble_eq_true rfl, rfl⟩) rfl rfl rfl rfl ?_
  refine RegV.nil0 ?_
  have hr := Option.some.inj h
  subst hr
  exact canQ (N := 14) (k := 1) (l' := []) (H' := [(0, (.cells [(.d (.sl (List.map byteD a0))), (.d (.int .i64 a3)), (.d (.int .i64 a4))]))]) rfl ⟨rfl, [], [], rfl, rfl,  trivial, ⟨⟨_, rfl, (.refl _)⟩, rfl, rfl, trivial⟩⟩ (doneA (.inl rfl) rfl trivial (.refl _) (hasCons rfl hasNil))
/-- (*courant/code.Reader).Num -/
def C39 (N : Nat → Nat) : AFunc := { n := 73, params := 1, res := [.tmp 2], body :=
 (.seq (.region false [⟨(some 2), .mv (.k (.d (.int .u64 0))), none, []⟩])
  (.scope (.seq (.seq (.region false [⟨(some 8), .mv (.t 0), none, []⟩,
      ⟨(some 9), .call (.k (.d (.fn (N 84)))) [(.t 8)], none, [0]⟩,
      ⟨(some 10), .un .not (.t 9), none, [1]⟩])
     (.cond (.t 10) (.seq (.region false [⟨(some 2), .mv (.k (.d (.int .u64 0))), none, []⟩])
       .ret)
      (.skip)))
    (.seq (.region false [⟨(some 11), .mv (.t 0), none, []⟩,
      ⟨(some 12), .nilchk (.t 11), none, [0]⟩,
      ⟨(some 13), .faddr (.t 12) 1, none, [1]⟩,
      ⟨(some 14), .load (.t 13) 1 false, none, [2]⟩,
      ⟨(some 3), .mv (.t 14), none, [3, 0, 1, 2]⟩,
      ⟨(some 4), .mv (.k (.d (.int .u64 0))), none, [4, 0, 1, 2, 3]⟩,
      ⟨(some 5), .mv (.k (.d (.int .i64 3))), none, [5, 0, 1, 2, 3, 4]⟩])
     (.seq (.label 0)
      (.seq (.seq (.region false [⟨(some 6), .mv (.k (.d (.int .i64 0))), none, []⟩])
        (.block 0 (.loop (.seq (.seq (.region true [⟨(some 15), .mv (.t 0), none, []⟩,
             ⟨(some 16), .nilchk (.t 15), none, [0]⟩,
             ⟨(some 17), .faddr (.t 16) 1, none, [1]⟩,
             ⟨(some 18), .load (.t 17) 1 false, none, [2]⟩,
             ⟨(some 19), .mv (.t 0), none, []⟩,
             ⟨(some 20), .nilchk (.t 19), none, [4]⟩,
             ⟨(some 21), .faddr (.t 20) 0, none, [5]⟩,
             ⟨(some 22), .load (.t 21) 1 false, none, [6]⟩,
             ⟨(some 23), .len (.t 22), none, [7]⟩,
             ⟨(some 24), .bin .lss (.t 18) (.t 23), none, [3, 8]⟩])
            (.cond (.t 24) (.skip)
             (.exit 0)))
           (.seq (.block 1 (.seq (.region true [⟨(some 27), .mv (.t 0), none, []⟩,
               ⟨(some 28), .nilchk (.t 27), none, [0]⟩,
               ⟨(some 29), .faddr (.t 28) 0, none, [1]⟩,
               ⟨(some 30), .load (.t 29) 1 false, none, [2]⟩,
               ⟨(some 31), .mv (.t 0), none, []⟩,
               ⟨(some 32), .nilchk (.t 31), none, [4]⟩,
               ⟨(some 33), .faddr (.t 32) 1, none, [5]⟩,
               ⟨(some 34), .load (.t 33) 1 false, none, [6]⟩,
               ⟨(some 35), .iaddr (.t 30) (.t 34) 1, none, [3, 7]⟩,
               ⟨(some 36), .load (.t 35) 1 false, none, [8]⟩,
               ⟨(some 7), .mv (.t 36), none, [9, 0, 1, 2, 3, 4, 5, 6, 7, 8]⟩])
              (.seq (.region false [⟨(some 37), .mv (.t 0), none, []⟩,
                ⟨(some 38), .nilchk (.t 37), none, [0]⟩,
                ⟨(some 39), .faddr (.t 38) 1, none, [1]⟩,
                ⟨(some 40), .load (.t 39) 1 false, none, [2]⟩,
                ⟨(some 41), .bin .add (.t 40) (.k (.d (.int .i64 1))), none, [3]⟩,
                ⟨(some 42), .nilchk (.t 37), none, [0, 1, 2, 3, 4]⟩,
                ⟨(some 43), .faddr (.t 42) 1, none, [5, 0, 1, 2, 3, 4]⟩,
                ⟨none, .store (.t 43) (.t 41) 1, none, [6, 4, 0, 1, 2, 3]⟩])
               (.seq (.region false [⟨(some 44), .mv (.t 4), none, []⟩,
                 ⟨(some 45), .mv (.t 7), none, []⟩,
                 ⟨(some 46), .bin .and (.t 45) (.k (.d (.int .u8 127))), none, [1]⟩,
                 ⟨(some 47), .cvi .u64 (.t 46), none, [2]⟩,
                 ⟨(some 48), .mv (.t 6), none, []⟩,
                 ⟨(some 49), .bin .mul (.k (.d (.int .i64 7))) (.t 48), none, [4]⟩,
                 ⟨(some 50), .bin .shl (.t 47) (.t 49), none, [3, 5]⟩,
                 ⟨(some 51), .bin .or (.t 44) (.t 50), none, [0, 6]⟩,
                 ⟨(some 4), .mv (.t 51), none, [7, 0, 1, 2, 3, 4, 5, 6]⟩])
                (.block 2 (.seq (.seq (.region false [⟨(some 53), .mv (.t 6), none, []⟩,
                    ⟨(some 54), .bin .eql (.t 53) (.k (.d (.int .i64 9))), none, [0]⟩,
                    ⟨(some 55), .mv (.t 54), none, [1]⟩,
                    ⟨(some 56), .mv (.t 7), (some (55, true)), [2]⟩,
                    ⟨(some 57), .bin .gtr (.t 56) (.k (.d (.int .u8 1))), (some (55, true)), [3, 2]⟩,
                    ⟨(some 58), .pick (.t 55) (.t 57) (.k (.d (.bool false))), none, [2, 4]⟩,
                    ⟨(some 52), .mv (.t 58), none, [5, 2]⟩])
                   (.cond (.t 52) (.skip)
                    (.region false [⟨(some 59), .mv (.t 6), none, []⟩,
                     ⟨(some 60), .bin .gtr (.t 59) (.k (.d (.int .i64 0))), none, [0]⟩,
                     ⟨(some 61), .mv (.t 60), none, [1]⟩,
                     ⟨(some 62), .mv (.t 7), (some (61, true)), [2]⟩,
                     ⟨(some 63), .bin .eql (.t 62) (.k (.d (.int .u8 0))), (some (61, true)), [3, 2]⟩,
                     ⟨(some 64), .pick (.t 61) (.t 63) (.k (.d (.bool false))), none, [2, 4]⟩,
                     ⟨(some 52), .mv (.t 64), none, [5, 2]⟩])))
                  (.cond (.t 52) (.seq (.region false [⟨(some 5), .mv (.k (.d (.int .i64 4))), none, []⟩])
                    (.exit 0))
                   (.seq (.region false [⟨(some 66), .mv (.t 7), none, []⟩,
                     ⟨(some 67), .bin .lss (.t 66) (.k (.d (.int .u8 128))), none, [0]⟩,
                     ⟨(some 65), .mv (.t 67), none, [1]⟩])
                    (.cond (.t 65) (.seq (.region false [⟨(some 68), .mv (.t 4), none, []⟩,
                       ⟨(some 2), .mv (.t 68), none, [0]⟩])
                      .ret)
                     (.skip))))))))))
            (.region false [⟨(some 25), .mv (.t 6), none, []⟩,
             ⟨(some 26), .bin .add (.t 25) (.k (.d (.int .i64 1))), none, [0]⟩,
             ⟨(some 6), .mv (.t 26), none, [1, 0]⟩]))))))
       (.seq (.region false [⟨(some 69), .mv (.t 0), none, []⟩,
         ⟨(some 70), .mv (.t 3), none, []⟩,
         ⟨(some 71), .mv (.t 5), none, []⟩,
         ⟨(some 72), .call (.k (.d (.fn (N 85)))) [(.t 69), (.t 70), (.t 71)], none, [0, 1, 2]⟩])
        (.seq (.region false [⟨(some 2), .mv (.k (.d (.int .u64 0))), none, []⟩])
         .ret)))))))) }
def HC39 (P : Program) (N : Nat → Nat) : Prop := HasF P (N 39) (C39 N) ∧ HC84 P N ∧ HC85 P N
def f39_j143 (k : Nat) (a0 : (List UInt8)) (a2 : Int) (a1 : Int) (j143_1 : Int) (j143_2 : Int) : Option (Int × Int × Int) := (f85 k a0 j143_2 a2 a1 j143_1).bind fun r149 => some ((0 : Int), a1, j143_1)
def f39_j118 (L : Int → Int → Int → Option (LR2 (Int × Int) Unit (Int × Int × Int))) (k : Nat) (y37_3 : Int) (a0 : (List UInt8)) (y37_1 : Int) (y37_2 : Int) (a2 : Int) (j118_1 : Bool) : Option (LR2 (Int × Int) Unit (Int × Int × Int)) := cond j118_1 (some (.b0 ((4 : Int), (IntKind.i64.wrap (y37_3 + (1 : Int)))))) (cond (decide ((((rd a0 y37_3).toNat : Nat) : Int) < (128 : Int))) (some (.r ((bitsA .or .u64 y37_1 (IntKind.u64.wrap ((IntKind.u64.wrap (bitsA .and .u8 (((rd a0 y37_3).toNat : Nat) : Int) (127 : Int))) * 2 ^ (min ((IntKind.i64.wrap ((7 : Int) * y37_2))).toNat IntKind.u64.bits)))), (IntKind.i64.wrap (y37_3 + (1 : Int))), a2))) (L (bitsA .or .u64 y37_1 (IntKind.u64.wrap ((IntKind.u64.wrap (bitsA .and .u8 (((rd a0 y37_3).toNat : Nat) : Int) (127 : Int))) * 2 ^ (min ((IntKind.i64.wrap ((7 : Int) * y37_2))).toNat IntKind.u64.bits)))) (IntKind.i64.wrap (y37_2 + (1 : Int))) (IntKind.i64.wrap (y37_3 + (1 : Int)))))
def f39_j107 (L : Int → Int → Int → Option (LR2 (Int × Int) Unit (Int × Int × Int))) (k : Nat) (y37_3 : Int) (a0 : (List UInt8)) (y37_1 : Int) (y37_2 : Int) (a2 : Int) (j107_1 : Bool) : Option (LR2 (Int × Int) Unit (Int × Int × Int)) := cond j107_1 (f39_j118 (L) k y37_3 a0 y37_1 y37_2 a2 j107_1) (cond (decide (y37_2 > (0 : Int))) (f39_j118 (L) k y37_3 a0 y37_1 y37_2 a2 (decide ((((rd a0 y37_3).toNat : Nat) : Int) = (0 : Int)))) (f39_j118 (L) k y37_3 a0 y37_1 y37_2 a2 false))
def f39_l37 (a0 : (List UInt8)) (a2 : Int) : Nat → Int → Int → Int → Option (LR2 (Int × Int) Unit (Int × Int × Int))
  | 0, _, _, _ => none
  | k + 1, y37_1, y37_2, y37_3 => cond (decide (y37_3 < ((a0.length : Nat) : Int))) (gd (0 ≤ y37_3 ∧ y37_3 < ((a0.length : Nat) : Int)) (gd (0 ≤ (IntKind.i64.wrap ((7 : Int) * y37_2))) (cond (decide (y37_2 = (9 : Int))) (f39_j107 (f39_l37 a0 a2 k) k y37_3 a0 y37_1 y37_2 a2 (decide ((((rd a0 y37_3).toNat : Nat) : Int) > (1 : Int)))) (f39_j107 (f39_l37 a0 a2 k) k y37_3 a0 y37_1 y37_2 a2 false)))) (some (.b0 ((3 : Int), y37_3)))
def f39 (k : Nat) (a0 : (List UInt8)) (a1 : Int) (a2 : Int) : Option (Int × Int × Int) := (f84 k a0 a1 a2).bind fun r11 => cond (!(decide (a2 = (0 : Int)))) (some ((0 : Int), a1, a2)) ((f39_l37 a0 a2 k (0 : Int) (0 : Int) a1).bind fun o37 => match o37 with | .b0 (x37_1, x37_2) => f39_j143 k a0 a2 a1 x37_1 x37_2 | .r x => some x | _ => none)
theorem F39 {P : Program} {N : Nat → Nat} (hmix : P.follows .mixedOrders = true) (hc : HC39 P N) {k : Nat} {a0 : (List UInt8)} {a1 : Int} {a2 : Int} {r : (Int × Int × Int)} (h : f39 k a0 a1 a2 = some r) :
    ACalls P (N 39) [(.ptr 0 0)] [(0, (.cells [(.d (.sl (List.map byteD a0))), (.d (.int .i64 a1)), (.d (.int .i64 a2))]))] (.d (.int .u64 r.1)) [(0, (.cells [(.d (.sl (List.map byteD a0))), (.d (.int .i64 r.2.1)), (.d (.int .i64 r.2.2))]))] := by
  refine acalls_canon (F := C39 N) hc.1 1 1 rfl ?_
  unfold f39 at h
  dsimp only [C39, startL]
  refine AWc.seq ?_
  refine AWc.rg hmix rfl rfl ?_
  refine RegV.p0 rfl rfl rfl ?_
  refine RegV.nil0 ?_
  refine AWc.scope ?_
  refine AWc.seq ?_
  refine AWc.seq ?_
  refine AWc.rg hmix rfl rfl ?_
  refine RegV.p0 rfl rfl rfl ?_
  obtain ⟨r11, e11, h⟩ := bind_some h
  refine RegV.callS (q := true) (H' := [(0, (.cells [(.d (.sl (List.map byteD a0))), (.d (.int .i64 a1)), (.d (.int .i64 a2))]))]) (c' := 1) (show ACalls P (N 84) [(.ptr 0 0)] [(0, (.cells [(.d (.sl (List.map byteD a0))), (.d (.int .i64 a1)), (.d (.int .i64 a2))]))] (.d (.bool (decide (a2 = (0 : Int))))) [(0, (.cells [(.d (.sl (List.map byteD a0))), (.d (.int .i64 a1)), (.d (.int .i64 a2))]))] from ACalls.use (F84 hmix hc.2.1 e11) [(0, 0)] 1 rfl) rfl rfl rfl rfl (.cons (.refl _) .nil) (.refl _) (fun _ => rfl) rfl (hasCons rfl hasNil) rfl rfl rfl rfl ?_
  refine RegV.p0 (v := (.d (.bool (!(decide (a2 = (0 : Int))))))) rfl rfl rfl ?_
  refine RegV.nil0 ?_
  refine AWc.cond rfl (fun c13 => ?_) (fun c13 => ?_)
  · have h := cond_pos c13 h
    refine AWc.seq ?_
    refine AWc.rg hmix rfl rfl ?_
    refine RegV.p0 rfl rfl rfl ?_
    refine RegV.nil0 ?_
    have hr := Option.some.inj h
    subst hr
    exact AWc.ret (canQ (N := 73) (k := 1) (l' := [(2, (.d (.int .u64 (0 : Int))))]) (H' := [(0, (.cells [(.d (.sl (List.map byteD a0))), (.d (.int .i64 a1)), (.d (.int .i64 a2))]))]) rfl ⟨rfl, [], [], rfl, rfl, ⟨⟨_, rfl, (.refl _)⟩, rfl, trivial⟩, ⟨⟨_, rfl, (.refl _)⟩, rfl, rfl, trivial⟩⟩ (doneA (.inr rfl) rfl ⟨trivial, trivial⟩ (.refl _) (hasCons rfl hasNil)))
  · have h := cond_neg c13 h
    refine AWc.skip ?_
    refine AWc.seq ?_
    refine AWc.rg hmix rfl rfl ?_
    refine RegV.p0 rfl rfl rfl ?_
    refine RegV.p0 rfl rfl rfl ?_
    refine RegV.p0 (v := (.ptr 0 1)) rfl rfl rfl ?_
    refine RegV.ld (v := (.d (.int .i64 a1))) (H' := [(0, (.cells [(.d (.sl (List.map byteD a0))), (.d (.int .i64 a1)), (.d (.int .i64 a2))]))]) rfl rfl trivial rfl rfl rfl rfl rfl ?_
    refine RegV.p0 rfl rfl rfl ?_
    refine RegV.p0 rfl rfl rfl ?_
    refine RegV.p0 rfl rfl rfl ?_
    refine RegV.nil0 ?_
    refine AWc.seq ?_
    refine AWc.label ?_
    refine AWc.seqS (N := 73) 1 (fun (z : (Int × Int)) => [(0, (.ptr 0 0)), (3, (.d (.int .i64 a1))), (5, (.d (.int .i64 z.1)))]) (fun z => [(0, (.cells [(.d (.sl (List.map byteD a0))), (.d (.int .i64 z.2)), (.d (.int .i64 a2))]))]) (fun z => f39_j143 k a0 a2 a1 z.1 z.2 = some r) rfl_le ?_ ?_
    · refine AWc.seq ?_
      refine AWc.rg hmix rfl rfl ?_
      refine RegV.p0 rfl rfl rfl ?_
      refine RegV.nil0 ?_
      obtain ⟨o37, h37, h⟩ := bind_some h
      refine AWc.block ?_
      refine AWc.loopK (N := 73) 1 (fun (x : (Int × Int × Int)) => [(0, (.ptr 0 0)), (3, (.d (.int .i64 a1))), (4, (.d (.int .u64 x.1))), (5, (.d (.int .i64 (3 : Int)))), (6, (.d (.int .i64 x.2.1)))]) (fun x => [(0, (.cells [(.d (.sl (List.map byteD a0))), (.d (.int .i64 x.2.2)), (.d (.int .i64 a2))]))]) (fun k x => f39_l37 a0 a2 k x.1 x.2.1 x.2.2 = some o37) k ((0 : Int), (0 : Int), a1) rfl_le (fun x hx => by cases hx) h37 ⟨rfl, [], [], rfl, rfl, ⟨⟨_, rfl, (.refl _)⟩, rfl, ⟨⟨_, rfl, (.refl _)⟩, rfl, ⟨⟨_, rfl, (.refl _)⟩, rfl, ⟨⟨_, rfl, (.refl _)⟩, rfl, ⟨⟨_, rfl, (.refl _)⟩, rfl, trivial⟩⟩⟩⟩⟩, ⟨⟨_, rfl, (.refl _)⟩, rfl, rfl, trivial⟩⟩ ?_
      clear h37
      intro k
      rintro ⟨y37_1, y37_2, y37_3⟩ h37
      dsimp only at h37 ⊢
      rw [f39_l37] at h37
      refine AWc.seq ?_
      refine AWc.seq ?_
      refine AWc.rg hmix rfl rfl ?_
      refine RegV.p0 rfl rfl rfl ?_
      refine RegV.p0 rfl rfl rfl ?_
      refine RegV.p0 (v := (.ptr 0 1)) rfl rfl rfl ?_
      refine RegV.ld (v := (.d (.int .i64 y37_3))) (H' := [(0, (.cells [(.d (.sl (List.map byteD a0))), (.d (.int .i64 y37_3)), (.d (.int .i64 a2))]))]) rfl rfl trivial rfl rfl rfl rfl rfl ?_
      refine RegV.p0 rfl rfl rfl ?_
      refine RegV.p0 rfl rfl rfl ?_
      refine RegV.p0 (v := (.ptr 0 0)) rfl rfl rfl ?_
      refine RegV.ld (v := (.d (.sl (List.map byteD a0)))) (H' := [(0, (.cells [(.d (.sl (List.map byteD a0))), (.d (.int .i64 y37_3)), (.d (.int .i64 a2))]))]) rfl rfl trivial rfl rfl rfl rfl rfl ?_
      refine RegV.len (xs := a0) (e := byteD) rfl rfl rfl rfl ?_
      refine RegV.p0 (v := (.d (.bool (decide (y37_3 < ((a0.length : Nat) : Int)))))) rfl rfl rfl ?_
      refine RegV.nil1 (by kernel_rfl) ?_
      refine AWc.cond rfl (fun c53 => ?_) (fun c53 => ?_)
      · have h37 := cond_pos c53 h37
        refine AWc.skip ?_
        refine AWc.seq ?_
        refine AWc.block ?_
        refine AWc.seq ?_
        refine AWc.rg hmix rfl rfl ?_
        refine RegV.p0 rfl rfl rfl ?_
        refine RegV.p0 rfl rfl rfl ?_
        refine RegV.p0 (v := (.ptr 0 0)) rfl rfl rfl ?_
        refine RegV.ld (v := (.d (.sl (List.map byteD a0)))) (H' := [(0, (.cells [(.d (.sl (List.map byteD a0))), (.d (.int .i64 y37_3)), (.d (.int .i64 a2))]))]) rfl rfl trivial rfl rfl rfl rfl rfl ?_
        refine RegV.p0 rfl rfl rfl ?_
        refine RegV.p0 rfl rfl rfl ?_
        refine RegV.p0 (v := (.ptr 0 1)) rfl rfl rfl ?_
        refine RegV.ld (v := (.d (.int .i64 y37_3))) (H' := [(0, (.cells [(.d (.sl (List.map byteD a0))), (.d (.int .i64 y37_3)), (.d (.int .i64 a2))]))]) rfl rfl trivial rfl rfl rfl rfl rfl ?_
        obtain ⟨b69, h37⟩ := gd_some h37
        refine RegV.iad (xs := a0) (e := byteD) rfl rfl rfl rfl (fun _ => rfl) b69 rfl ?_
        refine RegV.p0 (v := (.d (.int .u8 (((rd a0 y37_3).toNat : Nat) : Int)))) rfl rfl rfl ?_
        refine RegV.p0 rfl rfl rfl ?_
        refine RegV.nil1 (by kernel_rfl) ?_
        refine AWc.seq ?_
        refine AWc.rg hmix rfl rfl ?_
        refine RegV.p0 rfl rfl rfl ?_
        refine RegV.p0 rfl rfl rfl ?_
        refine RegV.p0 (v := (.ptr 0 1)) rfl rfl rfl ?_
        refine RegV.ld (v := (.d (.int .i64 y37_3))) (H' := [(0, (.cells [(.d (.sl (List.map byteD a0))), (.d (.int .i64 y37_3)), (.d (.int .i64 a2))]))]) rfl rfl trivial rfl rfl rfl rfl rfl ?_
        refine RegV.p0 (v := (.d (.int .i64 (IntKind.i64.wrap (y37_3 + (1 : Int)))))) rfl rfl rfl ?_
        refine RegV.p0 rfl rfl rfl ?_
        refine RegV.p0 (v := (.ptr 0 1)) rfl rfl rfl ?_
        refine RegV.evN (own := false) (H' := [(0, (.cells [(.d (.sl (List.map byteD a0))), (.d (.int .i64 (IntKind.i64.wrap (y37_3 + (1 : Int))))), (.d (.int .i64 a2))]))]) (c' := 1) rfl rfl (by exact ⟨rfl, Nat.le_of_ble_eq_true rfl, rfl⟩) rfl rfl rfl rfl ?_
        refine RegV.nil0 ?_
        refine AWc.seq ?_
        refine AWc.rg hmix rfl rfl ?_
        refine RegV.p0 rfl rfl rfl ?_
        refine RegV.p0 rfl rfl rfl ?_
        refine RegV.p0 (v := (.d (.int .u8 (bitsA .and .u8 (((rd a0 y37_3).toNat : Nat) : Int) (127 : Int))))) rfl rfl rfl ?_
        refine RegV.p0 (v := (.d (.int .u64 (IntKind.u64.wrap (bitsA .and .u8 (((rd a0 y37_3).toNat : Nat) : Int) (127 : Int)))))) rfl rfl rfl ?_
        refine RegV.p0 rfl rfl rfl ?_
        refine RegV.p0 (v := (.d (.int .i64 (IntKind.i64.wrap ((7 : Int) * y37_2))))) rfl rfl rfl ?_
        obtain ⟨b92, h37⟩ := gd_some h37
        refine RegV.p1 (v := (.d (.int .u64 (IntKind.u64.wrap ((IntKind.u64.wrap (bitsA .and .u8 (((rd a0 y37_3).toNat : Nat) : Int) (127 : Int))) * 2 ^ (min ((IntKind.i64.wrap ((7 : Int) * y37_2))).toNat IntKind.u64.bits)))))) rfl rfl b92 rfl rfl ?_
        refine RegV.p0 (v := (.d (.int .u64 (bitsA .or .u64 y37_1 (IntKind.u64.wrap ((IntKind.u64.wrap (bitsA .and .u8 (((rd a0 y37_3).toNat : Nat) : Int) (127 : Int))) * 2 ^ (min ((IntKind.i64.wrap ((7 : Int) * y37_2))).toNat IntKind.u64.bits))))))) rfl rfl rfl ?_
        refine RegV.p0 rfl rfl rfl ?_
        refine RegV.nil0 ?_
        refine AWc.block ?_
        refine AWc.seqS (N := 73) 1 (fun (z : Bool) => [(0, (.ptr 0 0)), (3, (.d (.int .i64 a1))), (4, (.d (.int .u64 (bitsA .or .u64 y37_1 (IntKind.u64.wrap ((IntKind.u64.wrap (bitsA .and .u8 (((rd a0 y37_3).toNat : Nat) : Int) (127 : Int))) * 2 ^ (min ((IntKind.i64.wrap ((7 : Int) * y37_2))).toNat IntKind.u64.bits))))))), (5, (.d (.int .i64 (3 : Int)))), (6, (.d (.int .i64 y37_2))), (7, (.d (.int .u8 (((rd a0 y37_3).toNat : Nat) : Int)))), (52, (.d (.bool z))), (56, .any), (57, .any)]) (fun z => [(0, (.cells [(.d (.sl (List.map byteD a0))), (.d (.int .i64 (IntKind.i64.wrap (y37_3 + (1 : Int))))), (.d (.int .i64 a2))]))]) (fun z => f39_j118 (f39_l37 a0 a2 k) k y37_3 a0 y37_1 y37_2 a2 z = some o37) rfl_le ?_ ?_
        · refine AWc.seqS (N := 73) 1 (fun (z : Bool) => [(0, (.ptr 0 0)), (3, (.d (.int .i64 a1))), (4, (.d (.int .u64 (bitsA .or .u64 y37_1 (IntKind.u64.wrap ((IntKind.u64.wrap (bitsA .and .u8 (((rd a0 y37_3).toNat : Nat) : Int) (127 : Int))) * 2 ^ (min ((IntKind.i64.wrap ((7 : Int) * y37_2))).toNat IntKind.u64.bits))))))), (5, (.d (.int .i64 (3 : Int)))), (6, (.d (.int .i64 y37_2))), (7, (.d (.int .u8 (((rd a0 y37_3).toNat : Nat) : Int)))), (52, (.d (.bool z))), (56, .any), (57, .any)]) (fun z => [(0, (.cells [(.d (.sl (List.map byteD a0))), (.d (.int .i64 (IntKind.i64.wrap (y37_3 + (1 : Int))))), (.d (.int .i64 a2))]))]) (fun z => f39_j107 (f39_l37 a0 a2 k) k y37_3 a0 y37_1 y37_2 a2 z = some o37) rfl_le ?_ ?_
          · refine AWc.rg hmix rfl rfl ?_
            refine RegV.p0 rfl rfl rfl ?_
            refine RegV.p0 (v := (.d (.bool (decide (y37_2 = (9 : Int)))))) rfl rfl rfl ?_
            refine RegV.p0 rfl rfl rfl ?_
            refine RegV.split (fun c102 => ?_) (fun c102 => ?_)
            · have h37 := cond_pos c102 h37
              refine RegV.p0 rfl rfl rfl ?_
              refine RegV.p0 (v := (.d (.bool (decide ((((rd a0 y37_3).toNat : Nat) : Int) > (1 : Int)))))) rfl rfl rfl ?_
              refine RegV.p0 rfl rfl rfl ?_
              refine RegV.p0 rfl rfl rfl ?_
              refine RegV.nil0 ?_
              exact ⟨(decide ((((rd a0 y37_3).toNat : Nat) : Int) > (1 : Int))), h37, ⟨rfl, [], [], rfl, rfl, ⟨⟨_, rfl, (.refl _)⟩, rfl, ⟨⟨_, rfl, (.refl _)⟩, rfl, ⟨⟨_, rfl, (.refl _)⟩, rfl, ⟨⟨_, rfl, (.refl _)⟩, rfl, ⟨⟨_, rfl, (.refl _)⟩, rfl, ⟨⟨_, rfl, (.refl _)⟩, rfl, ⟨⟨_, rfl, (.refl _)⟩, rfl, ⟨⟨_, rfl, (.any _)⟩, rfl, ⟨⟨_, rfl, (.any _)⟩, rfl, trivial⟩⟩⟩⟩⟩⟩⟩⟩⟩, ⟨⟨_, rfl, (.refl _)⟩, rfl, rfl, trivial⟩⟩⟩
            · have h37 := cond_neg c102 h37
              refine RegV.noS rfl rfl ?_
              refine RegV.noS rfl rfl ?_
              refine RegV.p0 rfl rfl rfl ?_
              refine RegV.p0 rfl rfl rfl ?_
              refine RegV.nil0 ?_
              exact ⟨false, h37, ⟨rfl, [], [], rfl, rfl, ⟨⟨_, rfl, (.refl _)⟩, rfl, ⟨⟨_, rfl, (.refl _)⟩, rfl, ⟨⟨_, rfl, (.refl _)⟩, rfl, ⟨⟨_, rfl, (.refl _)⟩, rfl, ⟨⟨_, rfl, (.refl _)⟩, rfl, ⟨⟨_, rfl, (.refl _)⟩, rfl, ⟨⟨_, rfl, (.refl _)⟩, rfl, ⟨⟨_, rfl, (.any _)⟩, rfl, ⟨⟨_, rfl, (.any _)⟩, rfl, trivial⟩⟩⟩⟩⟩⟩⟩⟩⟩, ⟨⟨_, rfl, (.refl _)⟩, rfl, rfl, trivial⟩⟩⟩
          · intro j107_1 h37
            unfold f39_j107 at h37
            refine AWc.cond rfl (fun c107 => ?_) (fun c107 => ?_)
            · have h37 := cond_pos c107 h37
              refine AWc.skip ?_
              exact ⟨j107_1, h37, ⟨rfl, [], [], rfl, rfl, ⟨⟨_, rfl, (.refl _)⟩, rfl, ⟨⟨_, rfl, (.refl _)⟩, rfl, ⟨⟨_, rfl, (.refl _)⟩, rfl, ⟨⟨_, rfl, (.refl _)⟩, rfl, ⟨⟨_, rfl, (.refl _)⟩, rfl, ⟨⟨_, rfl, (.refl _)⟩, rfl, ⟨⟨_, rfl, (.refl _)⟩, rfl, ⟨⟨_, rfl, (.refl _)⟩, rfl, ⟨⟨_, rfl, (.refl _)⟩, rfl, trivial⟩⟩⟩⟩⟩⟩⟩⟩⟩, ⟨⟨_, rfl, (.refl _)⟩, rfl, rfl, trivial⟩⟩⟩
            · have h37 := cond_neg c107 h37
              refine AWc.rg hmix rfl rfl ?_
              refine RegV.p0 rfl rfl rfl ?_
              refine RegV.p0 (v := (.d (.bool (decide (y37_2 > (0 : Int)))))) rfl rfl rfl ?_
              refine RegV.p0 rfl rfl rfl ?_
              refine RegV.split (fun c113 => ?_) (fun c113 => ?_)
              · have h37 := cond_pos c113 h37
                refine RegV.p0 rfl rfl rfl ?_
                refine RegV.p0 (v := (.d (.bool (decide ((((rd a0 y37_3).toNat : Nat) : Int) = (0 : Int)))))) rfl rfl rfl ?_
                refine RegV.p0 rfl rfl rfl ?_
                refine RegV.p0 rfl rfl rfl ?_
                refine RegV.nil0 ?_
                exact ⟨(decide ((((rd a0 y37_3).toNat : Nat) : Int) = (0 : Int))), h37, ⟨rfl, [], [], rfl, rfl, ⟨⟨_, rfl, (.refl _)⟩, rfl, ⟨⟨_, rfl, (.refl _)⟩, rfl, ⟨⟨_, rfl, (.refl _)⟩, rfl, ⟨⟨_, rfl, (.refl _)⟩, rfl, ⟨⟨_, rfl, (.refl _)⟩, rfl, ⟨⟨_, rfl, (.refl _)⟩, rfl, ⟨⟨_, rfl, (.refl _)⟩, rfl, ⟨⟨_, rfl, (.refl _)⟩, rfl, ⟨⟨_, rfl, (.refl _)⟩, rfl, trivial⟩⟩⟩⟩⟩⟩⟩⟩⟩, ⟨⟨_, rfl, (.refl _)⟩, rfl, rfl, trivial⟩⟩⟩
              · have h37 := cond_neg c113 h37
                refine RegV.noS rfl rfl ?_
                refine RegV.noS rfl rfl ?_
                refine RegV.p0 rfl rfl rfl ?_
                refine RegV.p0 rfl rfl rfl ?_
                refine RegV.nil0 ?_
                exact ⟨false, h37, ⟨rfl, [], [], rfl, rfl, ⟨⟨_, rfl, (.refl _)⟩, rfl, ⟨⟨_, rfl, (.refl _)⟩, rfl, ⟨⟨_, rfl, (.refl _)⟩, rfl, ⟨⟨_, rfl, (.refl _)⟩, rfl, ⟨⟨_, rfl, (.refl _)⟩, rfl, ⟨⟨_, rfl, (.refl _)⟩, rfl, ⟨⟨_, rfl, (.refl _)⟩, rfl, ⟨⟨_, rfl, (.refl _)⟩, rfl, ⟨⟨_, rfl, (.refl _)⟩, rfl, trivial⟩⟩⟩⟩⟩⟩⟩⟩⟩, ⟨⟨_, rfl, (.refl _)⟩, rfl, rfl, trivial⟩⟩⟩
        · intro j118_1 h37
          unfold f39_j118 at h37
          refine AWc.cond rfl (fun c118 => ?_) (fun c118 => ?_)
          · have h37 := cond_pos c118 h37
            refine AWc.seq ?_
            refine AWc.rg hmix rfl rfl ?_
            refine RegV.p0 rfl rfl rfl ?_
            refine RegV.nil0 ?_
            cases h37
            dsimp only at h
            refine AWc.exit ?_
            refine inBlk_ne rfl ?_
            refine inBlk_ne rfl ?_
            refine inBlk_eq ?_
            exact ⟨((4 : Int), (IntKind.i64.wrap (y37_3 + (1 : Int)))), h, ⟨rfl, [], [], rfl, rfl, ⟨⟨_, rfl, (.refl _)⟩, rfl, ⟨⟨_, rfl, (.refl _)⟩, rfl, ⟨⟨_, rfl, (.refl _)⟩, rfl, trivial⟩⟩⟩, ⟨⟨_, rfl, (.refl _)⟩, rfl, rfl, trivial⟩⟩⟩
          · have h37 := cond_neg c118 h37
            refine AWc.seq ?_
            refine AWc.rg hmix rfl rfl ?_
            refine RegV.p0 rfl rfl rfl ?_
            refine RegV.p0 (v := (.d (.bool (decide ((((rd a0 y37_3).toNat : Nat) : Int) < (128 : Int)))))) rfl rfl rfl ?_
            refine RegV.p0 rfl rfl rfl ?_
            refine RegV.nil0 ?_
            refine AWc.cond rfl (fun c130 => ?_) (fun c130 => ?_)
            · have h37 := cond_pos c130 h37
              refine AWc.seq ?_
              refine AWc.rg hmix rfl rfl ?_
              refine RegV.p0 rfl rfl rfl ?_
              refine RegV.p0 rfl rfl rfl ?_
              refine RegV.nil0 ?_
              cases h37
              dsimp only at h
              have hr := Option.some.inj h
              subst hr
              exact AWc.ret (canQ (N := 73) (k := 1) (l' := [(2, (.d (.int .u64 (bitsA .or .u64 y37_1 (IntKind.u64.wrap ((IntKind.u64.wrap (bitsA .and .u8 (((rd a0 y37_3).toNat : Nat) : Int) (127 : Int))) * 2 ^ (min ((IntKind.i64.wrap ((7 : Int) * y37_2))).toNat IntKind.u64.bits)))))))]) (H' := [(0, (.cells [(.d (.sl (List.map byteD a0))), (.d (.int .i64 (IntKind.i64.wrap (y37_3 + (1 : Int))))), (.d (.int .i64 a2))]))]) rfl ⟨rfl, [], [], rfl, rfl, ⟨⟨_, rfl, (.refl _)⟩, rfl, trivial⟩, ⟨⟨_, rfl, (.refl _)⟩, rfl, rfl, trivial⟩⟩ (doneA (.inr rfl) rfl ⟨trivial, trivial⟩ (.refl _) (hasCons rfl hasNil)))
            · have h37 := cond_neg c130 h37
              refine AWc.skip ?_
              refine AWc.rg hmix rfl rfl ?_
              refine RegV.p0 rfl rfl rfl ?_
              refine RegV.p0 (v := (.d (.int .i64 (IntKind.i64.wrap (y37_2 + (1 : Int)))))) rfl rfl rfl ?_
              refine RegV.p0 rfl rfl rfl ?_
              refine RegV.nil0 ?_
              exact ⟨((bitsA .or .u64 y37_1 (IntKind.u64.wrap ((IntKind.u64.wrap (bitsA .and .u8 (((rd a0 y37_3).toNat : Nat) : Int) (127 : Int))) * 2 ^ (min ((IntKind.i64.wrap ((7 : Int) * y37_2))).toNat IntKind.u64.bits)))), (IntKind.i64.wrap (y37_2 + (1 : Int))), (IntKind.i64.wrap (y37_3 + (1 : Int)))), h37, ⟨rfl, [], [], rfl, rfl, ⟨⟨_, rfl, (.refl _)⟩, rfl, ⟨⟨_, rfl, (.refl _)⟩, rfl, ⟨⟨_, rfl, (.refl _)⟩, rfl, ⟨⟨_, rfl, (.refl _)⟩, rfl, ⟨⟨_, rfl, (.refl _)⟩, rfl, trivial⟩⟩⟩⟩⟩, ⟨⟨_, rfl, (.refl _)⟩, rfl, rfl, trivial⟩⟩⟩
      · have h37 := cond_neg c53 h37
        cases h37
        dsimp only at h
        refine AWc.exit ?_
        refine inBlk_eq ?_
        exact ⟨((3 : Int), y37_3), h, ⟨rfl, [], [], rfl, rfl, ⟨⟨_, rfl, (.refl _)⟩, rfl, ⟨⟨_, rfl, (.refl _)⟩, rfl, ⟨⟨_, rfl, (.refl _)⟩, rfl, trivial⟩⟩⟩, ⟨⟨_, rfl, (.refl _)⟩, rfl, rfl, trivial⟩⟩⟩
    · rintro ⟨j143_1, j143_2⟩ h
      dsimp only at h ⊢
      unfold f39_j143 at h
      refine AWc.seq ?_
      refine AWc.rg hmix rfl rfl ?_
      refine RegV.p0 rfl rfl rfl ?_
      refine RegV.p0 rfl rfl rfl ?_
      refine RegV.p0 rfl rfl rfl ?_
      obtain ⟨r149, e149, h⟩ := bind_some h
      refine RegV.callS (q := false) (H' := [(0, (.cells [(.d (.sl (List.map byteD a0))), (.d (.int .i64 a1)), (.d (.int .i64 j143_1))]))]) (c' := 1) (show ACalls P (N 85) [(.ptr 0 0), (.d (.int .i64 a1)), (.d (.int .i64 j143_1))] [(0, (.cells [(.d (.sl (List.map byteD a0))), (.d (.int .i64 j143_2)), (.d (.int .i64 a2))]))] (.tup []) [(0, (.cells [(.d (.sl (List.map byteD a0))), (.d (.int .i64 a1)), (.d (.int .i64 j143_1))]))] from ACalls.use (F85 hmix hc.2.2 e149) [(0, 0)] 1 rfl) rfl rfl rfl rfl (.cons (.refl _) (.cons (.refl _) (.cons (.refl _) .nil))) (.refl _) (fun h => by cases h) rfl (hasCons rfl hasNil) rfl rfl rfl rfl ?_
      refine RegV.nil0 ?_
      refine AWc.seq ?_
      refine AWc.rg hmix rfl rfl ?_
      refine RegV.p0 rfl rfl rfl ?_
      refine RegV.nil0 ?_
      have hr := Option.some.inj h
      subst hr
      exact AWc.ret (canQ (N := 73) (k := 1) (l' := [(2, (.d (.int .u64 (0 : Int))))]) (H' := [(0, (.cells [(.d (.sl (List.map byteD a0))), (.d (.int .i64 a1)), (.d (.int .i64 j143_1))]))]) rfl ⟨rfl, [], [], rfl, rfl, ⟨⟨_, rfl, (.refl _)⟩, rfl, trivial⟩, ⟨⟨_, rfl, (.refl _)⟩, rfl, rfl, trivial⟩⟩ (doneA (.inr rfl) rfl ⟨trivial, trivial⟩ (.refl _) (hasCons rfl hasNil)))
/-- courant/code.unfold -/
def C88 (N : Nat → Nat) : AFunc := { n := 11, params := 1, res := [.tmp 2], body :=
 (.seq (.region false [⟨(some 2), .mv (.k (.d (.int .i64 0))), none, []⟩])
  (.seq (.region false [⟨(some 3), .mv (.t 0), none, []⟩,
    ⟨(some 4), .bin .shr (.t 3) (.k (.d (.int .u64 1))), none, [0]⟩,
    ⟨(some 5), .cvi .i64 (.t 4), none, [1]⟩,
    ⟨(some 6), .mv (.t 0), none, []⟩,
    ⟨(some 7), .bin .and (.t 6) (.k (.d (.int .u64 1))), none, [3]⟩,
    ⟨(some 8), .cvi .i64 (.t 7), none, [4]⟩,
    ⟨(some 9), .un .neg (.t 8), none, [5]⟩,
    ⟨(some 10), .bin .xor (.t 5) (.t 9), none, [2, 6]⟩,
    ⟨(some 2), .mv (.t 10), none, [7, 0, 1, 2, 3, 4, 5, 6]⟩])
   .ret)) }
def HC88 (P : Program) (N : Nat → Nat) : Prop := HasF P (N 88) (C88 N)
def f88 (k : Nat) (a0 : Int) : Option Unit := some ()
theorem F88 {P : Program} {N : Nat → Nat} (hmix : P.follows .mixedOrders = true) (hc : HC88 P N) {k : Nat} {a0 : Int} {r : Unit} (h : f88 k a0 = some r) :
    ACalls P (N 88) [(.d (.int .u64 a0))] [] (.d (.int .i64 (bitsA .xor .i64 (IntKind.i64.wrap (Int.fdiv a0 (2 ^ (min ((1 : Int)).toNat IntKind.u64.bits)))) (IntKind.i64.wrap (0 - (IntKind.i64.wrap (bitsA .and .u64 a0 (1 : Int)))))))) [] := by
  refine acalls_canon (F := C88 N) hc 0 0 rfl ?_
  unfold f88 at h
  dsimp only [C88, startL]
  refine AWc.seq ?_
  refine AWc.rg hmix rfl rfl ?_
  refine RegV.p0 rfl rfl rfl ?_
  refine RegV.nil0 ?_
  refine AWc.seq ?_
  refine AWc.rg hmix rfl rfl ?_
  refine RegV.p0 rfl rfl rfl ?_
  refine RegV.p1 (v := (.d (.int .u64 (Int.fdiv a0 (2 ^ (min ((1 : Int)).toNat IntKind.u64.bits)))))) rfl rfl (by decide) rfl rfl ?_
  refine RegV.p0 (v := (.d (.int .i64 (IntKind.i64.wrap (Int.fdiv a0 (2 ^ (min ((1 : Int)).toNat IntKind.u64.bits))))))) rfl rfl rfl ?_
  refine RegV.p0 rfl rfl rfl ?_
  refine RegV.p0 (v := (.d (.int .u64 (bitsA .and .u64 a0 (1 : Int))))) rfl rfl rfl ?_
  refine RegV.p0 (v := (.d (.int .i64 (IntKind.i64.wrap (bitsA .and .u64 a0 (1 : Int)))))) rfl rfl rfl ?_
  refine RegV.p0 (v := (.d (.int .i64 (IntKind.i64.wrap (0 - (IntKind.i64.wrap (bitsA .and .u64 a0 (1 : Int)))))))) rfl rfl rfl ?_
  refine RegV.p0 (v := (.d (.int .i64 (bitsA .xor .i64 (IntKind.i64.wrap (Int.fdiv a0 (2 ^ (min ((1 : Int)).toNat IntKind.u64.bits)))) (IntKind.i64.wrap (0 - (IntKind.i64.wrap (bitsA .and .u64 a0 (1 : Int))))))))) rfl rfl rfl ?_
  refine RegV.p0 rfl rfl rfl ?_
  refine RegV.nil0 ?_
  have hr := Option.some.inj h
  subst hr
  exact AWc.ret (canQ (N := 11) (k := 0) (l' := [(2, (.d (.int .i64 (bitsA .xor .i64 (IntKind.i64.wrap (Int.fdiv a0 (2 ^ (min ((1 : Int)).toNat IntKind.u64.bits)))) (IntKind.i64.wrap (0 - (IntKind.i64.wrap (bitsA .and .u64 a0 (1 : Int)))))))))]) (H' := []) rfl ⟨rfl, [], [], rfl, rfl, ⟨⟨_, rfl, (.refl _)⟩, rfl, trivial⟩,  trivial⟩ (doneA (.inr rfl) rfl ⟨trivial, trivial⟩ (.refl _) hasNil))
/-- (*courant/code.Reader).Zig -/
def C40 (N : Nat → Nat) : AFunc := { n := 6, params := 1, res := [.tmp 2], body :=
 (.seq (.region false [⟨(some 2), .mv (.k (.d (.int .i64 0))), none, []⟩])
  (.seq (.region false [⟨(some 3), .mv (.t 0), none, []⟩,
    ⟨(some 4), .call (.k (.d (.fn (N 39)))) [(.t 3)], none, [0]⟩,
    ⟨(some 5), .call (.k (.d (.fn (N 88)))) [(.t 4)], none, [1]⟩,
    ⟨(some 2), .mv (.t 5), none, [2, 0, 1]⟩])
   .ret)) }
def HC40 (P : Program) (N : Nat → Nat) : Prop := HasF P (N 40) (C40 N) ∧ HC39 P N ∧ HC88 P N
def f40 (k : Nat) (a0 : (List UInt8)) (a1 : Int) (a2 : Int) : Option (Int × Int × Int) := (f39 k a0 a1 a2).bind fun r9 => (f88 k r9.1).bind fun r10 => some ((bitsA .xor .i64 (IntKind.i64.wrap (Int.fdiv r9.1 (2 ^ (min ((1 : Int)).toNat IntKind.u64.bits)))) (IntKind.i64.wrap (0 - (IntKind.i64.wrap (bitsA .and .u64 r9.1 (1 : Int)))))), r9.2.1, r9.2.2)
theorem F40 {P : Program} {N : Nat → Nat} (hmix : P.follows .mixedOrders = true) (hc : HC40 P N) {k : Nat} {a0 : (List UInt8)} {a1 : Int} {a2 : Int} {r : (Int × Int × Int)} (h : f40 k a0 a1 a2 = some r) :
    ACalls P (N 40) [(.ptr 0 0)] [(0, (.cells [(.d (.sl (List.map byteD a0))), (.d (.int .i64 a1)), (.d (.int .i64 a2))]))] (.d (.int .i64 r.1)) [(0, (.cells [(.d (.sl (List.map byteD a0))), (.d (.int .i64 r.2.1)), (.d (.int .i64 r.2.2))]))] := by
  refine acalls_canon (F := C40 N) hc.1 1 1 rfl ?_
  unfold f40 at h
  dsimp only [C40, startL]
  refine AWc.seq ?_
  refine AWc.rg hmix rfl rfl ?_
  refine RegV.p0 rfl rfl rfl ?_
  refine RegV.nil0 ?_
  refine AWc.seq ?_
  refine AWc.rg hmix rfl rfl ?_
  refine RegV.p0 rfl rfl rfl ?_
  obtain ⟨r9, e9, h⟩ := bind_some h
  refine RegV.callS (q := false) (H' := [(0, (.cells [(.d (.sl (List.map byteD a0))), (.d (.int .i64 r9.2.1)), (.d (.int .i64 r9.2.2))]))]) (c' := 1) (show ACalls P (N 39) [(.ptr 0 0)] [(0, (.cells [(.d (.sl (List.map byteD a0))), (.d (.int .i64 a1)), (.d (.int .i64 a2))]))] (.d (.int .u64 r9.1)) [(0, (.cells [(.d (.sl (List.map byteD a0))), (.d (.int .i64 r9.2.1)), (.d (.int .i64 r9.2.2))]))] from ACalls.use (F39 hmix hc.2.1 e9) [(0, 0)] 1 rfl) rfl rfl rfl rfl (.cons (.refl _) .nil) (.refl _) (fun h => by cases h) rfl (hasCons rfl hasNil) rfl rfl rfl rfl ?_
  obtain ⟨r10, e10, h⟩ := bind_some h
  refine RegV.call0 (F88 hmix hc.2.2 e10) rfl rfl rfl rfl (.cons (.refl _) .nil) rfl ?_
  refine RegV.p0 rfl rfl rfl ?_
  refine RegV.nil0 ?_
  have hr := Option.some.inj h
  subst hr
  exact AWc.ret (canQ (N := 6) (k := 1) (l' := [(2, (.d (.int .i64 (bitsA .xor .i64 (IntKind.i64.wrap (Int.fdiv r9.1 (2 ^ (min ((1 : Int)).toNat IntKind.u64.bits)))) (IntKind.i64.wrap (0 - (IntKind.i64.wrap (bitsA .and .u64 r9.1 (1 : Int)))))))))]) (H' := [(0, (.cells [(.d (.sl (List.map byteD a0))), (.d (.int .i64 r9.2.1)), (.d (.int .i64 r9.2.2))]))]) rfl ⟨rfl, [], [], rfl, rfl, ⟨⟨_, rfl, (.refl _)⟩, rfl, trivial⟩, ⟨⟨_, rfl, (.refl _)⟩, rfl, rfl, trivial⟩⟩ (doneA (.inr rfl) rfl ⟨trivial, trivial⟩ (.refl _) (hasCons rfl hasNil)))
/-- (*courant/request.reader).int -/
def C92 (N : Nat → Nat) : AFunc := { n := 8, params := 1, res := [.tmp 2], body :=
 (.seq (.region false [⟨(some 2), .mv (.k (.d (.int .i64 0))), none, []⟩])
  (.seq (.region false [⟨(some 3), .mv (.t 0), none, []⟩,
    ⟨(some 4), .nilchk (.t 3), none, [0]⟩,
    ⟨(some 5), .faddr (.t 4) 0, none, [1]⟩,
    ⟨(some 6), .load (.t 5) 1 false, none, [2]⟩,
    ⟨(some 7), .call (.k (.d (.fn (N 40)))) [(.t 6)], none, [3]⟩,
    ⟨(some 2), .mv (.t 7), none, [4, 0, 1, 2, 3]⟩])
   .ret)) }
def HC92 (P : Program) (N : Nat → Nat) : Prop := HasF P (N 92) (C92 N) ∧ HC40 P N
def f92 (k : Nat) (a0 : (List UInt8)) (a1 : Int) (a2 : Int) : Option (Int × Int × Int) := (f40 k a0 a1 a2).bind fun r12 => some (r12.1, r12.2.1, r12.2.2)
theorem F92 {P : Program} {N : Nat → Nat} (hmix : P.follows .mixedOrders = true) (hc : HC92 P N) {k : Nat} {a0 : (List UInt8)} {a1 : Int} {a2 : Int} {r : (Int × Int × Int)} (h : f92 k a0 a1 a2 = some r) :
    ACalls P (N 92) [(.ptr 0 0)] [(0, (.cells [(.ptr 1 0)])), (1, (.cells [(.d (.sl (List.map byteD a0))), (.d (.int .i64 a1)), (.d (.int .i64 a2))]))] (.d (.int .i64 r.1)) [(0, (.cells [(.ptr 1 0)])), (1, (.cells [(.d (.sl (List.map byteD a0))), (.d (.int .i64 r.2.1)), (.d (.int .i64 r.2.2))]))] := by
  refine acalls_canon (F := C92 N) hc.1 2 2 rfl ?_
  unfold f92 at h
  dsimp only [C92, startL]
  refine AWc.seq ?_
  refine AWc.rg hmix rfl rfl ?_
  refine RegV.p0 rfl rfl rfl ?_
  refine RegV.nil0 ?_
  refine AWc.seq ?_
  refine AWc.rg hmix rfl rfl ?_
  refine RegV.p0 rfl rfl rfl ?_
  refine RegV.p0 rfl rfl rfl ?_
  refine RegV.p0 (v := (.ptr 0 0)) rfl rfl rfl ?_
  refine RegV.ld (v := (.ptr 1 0)) (H' := [(0, (.cells [(.ptr 1 0)])), (1, (.cells [(.d (.sl (List.map byteD a0))), (.d (.int .i64 a1)), (.d (.int .i64 a2))]))]) rfl rfl trivial rfl rfl rfl rfl rfl ?_
  obtain ⟨r12, e12, h⟩ := bind_some h
  refine RegV.callS (q := false) (H' := [(1, (.cells [(.d (.sl (List.map byteD a0))), (.d (.int .i64 r12.2.1)), (.d (.int .i64 r12.2.2))])), (0, (.cells [(.ptr 1 0)]))]) (c' := 2) (show ACalls P (N 40) [(.ptr 1 0)] [(1, (.cells [(.d (.sl (List.map byteD a0))), (.d (.int .i64 a1)), (.d (.int .i64 a2))]))] (.d (.int .i64 r12.1)) [(1, (.cells [(.d (.sl (List.map byteD a0))), (.d (.int .i64 r12.2.1)), (.d (.int .i64 r12.2.2))]))] from ACalls.use (F40 hmix hc.2 e12) [(0, 1)] 1 rfl) rfl rfl rfl rfl (.cons (.refl _) .nil) (.refl _) (fun h => by cases h) rfl (hasCons rfl hasNil) rfl rfl rfl rfl ?_
  refine RegV.p0 rfl rfl rfl ?_
  refine RegV.nil0 ?_
  have hr := Option.some.inj h
  subst hr
  exact AWc.ret (canQ (N := 8) (k := 2) (l' := [(2, (.d (.int .i64 r12.1)))]) (H' := [(0, (.cells [(.ptr 1 0)])), (1, (.cells [(.d (.sl (List.map byteD a0))), (.d (.int .i64 r12.2.1)), (.d (.int .i64 r12.2.2))]))]) rfl ⟨rfl, [], [], rfl, rfl, ⟨⟨_, rfl, (.refl _)⟩, rfl, trivial⟩, ⟨⟨_, rfl, (.refl _)⟩, rfl, rfl, ⟨⟨_, rfl, (.refl _)⟩, rfl, rfl, trivial⟩⟩⟩ (doneA (.inr rfl) rfl ⟨trivial, trivial⟩ (.refl _) (hasCons rfl (hasCons rfl hasNil))))
/-- (*courant/code.Reader).Left -/
def C32 (N : Nat → Nat) : AFunc := { n := 15, params := 1, res := [.tmp 2], body :=
 (.seq (.region false [⟨(some 2), .mv (.k (.d (.int .i64 0))), none, []⟩])
  (.seq (.seq (.region false [⟨(some 3), .mv (.t 0), none, []⟩,
     ⟨(some 4), .nileq 1 false (.t 3) (.k (.d .nilp)), none, [0]⟩])
    (.cond (.t 4) (.seq (.region false [⟨(some 2), .mv (.k (.d (.int .i64 0))), none, []⟩])
      .ret)
     (.skip)))
   (.seq (.region true [⟨(some 5), .mv (.t 0), none, []⟩,
     ⟨(some 6), .nilchk (.t 5), none, [0]⟩,
     ⟨(some 7), .faddr (.t 6) 0, none, [1]⟩,
     ⟨(some 8), .load (.t 7) 1 false, none, [2]⟩,
     ⟨(some 9), .len (.t 8), none, [3]⟩,
     ⟨(some 10), .mv (.t 0), none, []⟩,
     ⟨(some 11), .nilchk (.t 10), none, [5]⟩,
     ⟨(some 12), .faddr (.t 11) 1, none, [6]⟩,
     ⟨(some 13), .load (.t 12) 1 false, none, [7]⟩,
     ⟨(some 14), .bin .sub (.t 9) (.t 13), none, [4, 8]⟩,
     ⟨(some 2), .mv (.t 14), none, [9, 0, 1, 2, 3, 4, 5, 6, 7, 8]⟩])
    .ret))) }
def HC32 (P : Program) (N : Nat → Nat) : Prop := HasF P (N 32) (C32 N)
def f32 (k : Nat) (a0 : (List UInt8)) (a1 : Int) (a2 : Int) : Option Unit := some ()
theorem F32 {P : Program} {N : Nat → Nat} (hmix : P.follows .mixedOrders = true) (hc : HC32 P N) {k : Nat} {a0 : (List UInt8)} {a1 : Int} {a2 : Int} {r : Unit} (h : f32 k a0 a1 a2 = some r) :
    ACalls P (N 32) [(.ptr 0 0)] [(0, (.cells [(.d (.sl (List.map byteD a0))), (.d (.int .i64 a1)), (.d (.int .i64 a2))]))] (.d (.int .i64 (IntKind.i64.wrap (((a0.length : Nat) : Int) - a1)))) [(0, (.cells [(.d (.sl (List.map byteD a0))), (.d (.int .i64 a1)), (.d (.int .i64 a2))]))] := by
  refine acalls_canon (F := C32 N) hc 1 1 rfl ?_
  unfold f32 at h
  dsimp only [C32, startL]
  refine AWc.seq ?_
  refine AWc.rg hmix rfl rfl ?_
  refine RegV.p0 rfl rfl rfl ?_
  refine RegV.nil0 ?_
  refine AWc.seq ?_
  refine AWc.seq ?_
  refine AWc.rg hmix rfl rfl ?_
  refine RegV.p0 rfl rfl rfl ?_
  refine RegV.p0 (v := (.d (.bool false))) rfl rfl rfl ?_
  refine RegV.nil0 ?_
  refine AWc.cond rfl (fun hc => by cases hc) (fun _ => ?_)
  refine AWc.skip ?_
  refine AWc.seq ?_
  refine AWc.rg hmix rfl rfl ?_
  refine RegV.p0 rfl rfl rfl ?_
  refine RegV.p0 rfl rfl rfl ?_
  refine RegV.p0 (v := (.ptr 0 0)) rfl rfl rfl ?_
  refine RegV.ld (v := (.d (.sl (List.map byteD a0)))) (H' := [(0, (.cells [(.d (.sl (List.map byteD a0))), (.d (.int .i64 a1)), (.d (.int .i64 a2))]))]) rfl rfl trivial rfl rfl rfl rfl rfl ?_
  refine RegV.len (xs := a0) (e := byteD) rfl rfl rfl rfl ?_
  refine RegV.p0 rfl rfl rfl ?_
  refine RegV.p0 rfl rfl rfl ?_
  refine RegV.p0 (v := (.ptr 0 1)) rfl rfl rfl ?_
  refine RegV.ld (v := (.d (.int .i64 a1))) (H' := [(0, (.cells [(.d (.sl (List.map byteD a0))), (.d (.int .i64 a1)), (.d (.int .i64 a2))]))]) rfl rfl trivial rfl rfl rfl rfl rfl ?_
  refine RegV.p0 (v := (.d (.int .i64 (IntKind.i64.wrap (((a0.length : Nat) : Int) - a1))))) rfl rfl rfl ?_
  refine RegV.p0 rfl rfl rfl ?_
  refine RegV.nil1 (by kernel_rfl) ?_
  have hr := Option.some.inj h
  subst hr
  exact AWc.ret (canQ (N := 15) (k := 1) (l' := [(2, (.d (.int .i64 (IntKind.i64.wrap (((a0.length : Nat) : Int) - a1)))))]) (H' := [(0, (.cells [(.d (.sl (List.map byteD a0))), (.d (.int .i64 a1)), (.d (.int .i64 a2))]))]) rfl ⟨rfl, [], [], rfl, rfl, ⟨⟨_, rfl, (.refl _)⟩, rfl, trivial⟩, ⟨⟨_, rfl, (.refl _)⟩, rfl, rfl, trivial⟩⟩ (doneA (.inr rfl) rfl ⟨trivial, trivial⟩ (.refl _) (hasCons rfl hasNil)))
/-- (*courant/code.Reader).Raw -/
def C41 (N : Nat → Nat) : AFunc := { n := 46, params := 2, res := [.tmp 4], body :=
 (.seq (.region false [⟨(some 4), .mv (.k .nils), none, []⟩])
  (.seq (.seq (.region false [⟨(some 5), .mv (.t 0), none, []⟩,
     ⟨(some 6), .call (.k (.d (.fn (N 84)))) [(.t 5)], none, [0]⟩,
     ⟨(some 7), .un .not (.t 6), none, [1]⟩,
     ⟨(some 8), .mv (.t 7), none, [2, 1]⟩,
     ⟨(some 9), .mv (.t 1), (some (8, false)), [3]⟩,
     ⟨(some 10), .bin .leq (.t 9) (.k (.d (.int .i64 0))), (some (8, false)), [4, 3]⟩,
     ⟨(some 11), .pick (.t 8) (.k (.d (.bool true))) (.t 10), none, [3, 5]⟩])
    (.cond (.t 11) (.seq (.region false [⟨(some 4), .mv (.k .nils), none, []⟩])
      .ret)
     (.skip)))
   (.seq (.seq (.region false [⟨(some 12), .mv (.t 1), none, []⟩,
      ⟨(some 13), .mv (.t 0), none, []⟩,
      ⟨(some 14), .call (.k (.d (.fn (N 32)))) [(.t 13)], none, [1]⟩,
      ⟨(some 15), .bin .gtr (.t 12) (.t 14), none, [0, 2]⟩])
     (.cond (.t 15) (.seq (.region false [⟨(some 16), .mv (.t 0), none, []⟩,
        ⟨(some 17), .mv (.t 0), none, []⟩,
        ⟨(some 18), .nilchk (.t 17), none, [1]⟩,
        ⟨(some 19), .faddr (.t 18) 1, none, [2]⟩,
        ⟨(some 20), .load (.t 19) 1 false, none, [3]⟩,
        ⟨(some 21), .call (.k (.d (.fn (N 85)))) [(.t 16), (.t 20), (.k (.d (.int .i64 3)))], none, [0, 4]⟩])
       (.seq (.region false [⟨(some 4), .mv (.k .nils), none, []⟩])
        .ret))
      (.skip)))
    (.seq (.region false [⟨(some 22), .mv (.t 0), none, []⟩,
      ⟨(some 23), .nilchk (.t 22), none, [0]⟩,
      ⟨(some 24), .faddr (.t 23) 1, none, [1]⟩,
      ⟨(some 25), .load (.t 24) 1 false, none, [2]⟩,
      ⟨(some 26), .mv (.t 1), none, []⟩,
      ⟨(some 27), .bin .add (.t 25) (.t 26), none, [3, 4]⟩,
      ⟨(some 28), .nilchk (.t 22), none, [0, 1, 2, 3, 4, 5]⟩,
      ⟨(some 29), .faddr (.t 28) 1, none, [6, 0, 1, 2, 3, 4, 5]⟩,
      ⟨none, .store (.t 29) (.t 27) 1, none, [7, 5, 0, 1, 2, 3, 4]⟩])
     (.seq (.region true [⟨(some 30), .mv (.t 0), none, []⟩,
       ⟨(some 31), .nilchk (.t 30), none, [0]⟩,
       ⟨(some 32), .faddr (.t 31) 0, none, [1]⟩,
       ⟨(some 33), .load (.t 32) 1 false, none, [2]⟩,
       ⟨(some 34), .mv (.t 0), none, []⟩,
       ⟨(some 35), .nilchk (.t 34), none, [4]⟩,
       ⟨(some 36), .faddr (.t 35) 1, none, [5]⟩,
       ⟨(some 37), .load (.t 36) 1 false, none, [6]⟩,
       ⟨(some 38), .mv (.t 1), none, []⟩,
       ⟨(some 39), .bin .sub (.t 37) (.t 38), none, [7, 8]⟩,
       ⟨(some 40), .mv (.t 0), none, []⟩,
       ⟨(some 41), .nilchk (.t 40), none, [10]⟩,
       ⟨(some 42), .faddr (.t 41) 1, none, [11]⟩,
       ⟨(some 43), .load (.t 42) 1 false, none, [12]⟩,
       ⟨(some 44), .slc (.t 33) (some (.t 39)) (some (.t 43)) none 1, none, [3, 9, 13]⟩,
       ⟨(some 45), .app (.k .nils) (.t 44) 1 1 [(.int .u8 0)], none, [14]⟩,
       ⟨(some 4), .mv (.t 45), none, [15, 0, 1, 2, 3, 4, 5, 6, 7, 8, 9, 10, 11, 12, 13, 14]⟩])
      .ret))))) }
def HC41 (P : Program) (N : Nat → Nat) : Prop := HasF P (N 41) (C41 N) ∧ HC84 P N ∧ HC32 P N ∧ HC85 P N
def f41 (k : Nat) (a0 : (List UInt8)) (a1 : Int) (a2 : Int) (a3 : Int) : Option ((List UInt8) × Int × Int) := (f84 k a0 a1 a2).bind fun r10 => cond (!(decide (a2 = (0 : Int)))) (some (([] : List UInt8), a1, a2)) (cond (decide (a3 ≤ (0 : Int))) (some (([] : List UInt8), a1, a2)) ((f32 k a0 a1 a2).bind fun r29 => cond (decide (a3 > (IntKind.i64.wrap (((a0.length : Nat) : Int) - a1)))) ((f85 k a0 a1 a2 a1 (3 : Int)).bind fun r40 => some (([] : List UInt8), a1, (3 : Int))) (gd (0 ≤ (IntKind.i64.wrap ((IntKind.i64.wrap (a1 + a3)) - a3)) ∧ (IntKind.i64.wrap ((IntKind.i64.wrap (a1 + a3)) - a3)) ≤ (IntKind.i64.wrap (a1 + a3)) ∧ (IntKind.i64.wrap (a1 + a3)) ≤ ((a0.length : Nat) : Int)) (gd ((sl a0 (IntKind.i64.wrap ((IntKind.i64.wrap (a1 + a3)) - a3)) (IntKind.i64.wrap (a1 + a3))).length * 1 ≤ 281474976710656) (some ((sl a0 (IntKind.i64.wrap ((IntKind.i64.wrap (a1 + a3)) - a3)) (IntKind.i64.wrap (a1 + a3))), (IntKind.i64.wrap (a1 + a3)), a2))))))
theorem F41 {P : Program} {N : Nat → Nat} (hmix : P.follows .mixedOrders = true) (hc : HC41 P N) {k : Nat} {a0 : (List UInt8)} {a1 : Int} {a2 : Int} {a3 : Int} {r : ((List UInt8) × Int × Int)} (h : f41 k a0 a1 a2 a3 = some r) :
    ACalls P (N 41) [(.ptr 0 0), (.d (.int .i64 a3))] [(0, (.cells [(.d (.sl (List.map byteD a0))), (.d (.int .i64 a1)), (.d (.int .i64 a2))]))] (.ap 1 1 (List.map byteD r.1)) [(1, (.tok ((List.map byteD r.1).length * 1))), (0, (.cells [(.d (.sl (List.map byteD a0))), (.d (.int .i64 r.2.1)), (.d (.int .i64 r.2.2))]))] := by
  refine acalls_canon (F := C41 N) hc.1 1 2 rfl ?_
  unfold f41 at h
  dsimp only [C41, startL]
  refine AWc.seq ?_
  refine AWc.rg hmix rfl rfl ?_
  refine RegV.p0 rfl rfl rfl ?_
  refine RegV.nil0 ?_
  refine AWc.seq ?_
  refine AWc.seq ?_
  refine AWc.rg hmix rfl rfl ?_
  refine RegV.p0 rfl rfl rfl ?_
  obtain ⟨r10, e10, h⟩ := bind_some h
  refine RegV.callS (q := true) (H' := [(0, (.cells [(.d (.sl (List.map byteD a0))), (.d (.int .i64 a1)), (.d (.int .i64 a2))]))]) (c' := 1) (show ACalls P (N 84) [(.ptr 0 0)] [(0, (.cells [(.d (.sl (List.map byteD a0))), (.d (.int .i64 a1)), (.d (.int .i64 a2))]))] (.d (.bool (decide (a2 = (0 : Int))))) [(0, (.cells [(.d (.sl (List.map byteD a0))), (.d (.int .i64 a1)), (.d (.int .i64 a2))]))] from ACalls.use (F84 hmix hc.2.1 e10) [(0, 0)] 1 rfl) rfl rfl rfl rfl (.cons (.refl _) .nil) (.refl _) (fun _ => rfl) rfl (hasCons rfl hasNil) rfl rfl rfl rfl ?_
  refine RegV.p0 (v := (.d (.bool (!(decide (a2 = (0 : Int))))))) rfl rfl rfl ?_
  refine RegV.p0 rfl rfl rfl ?_
  refine RegV.split (fun c12 => ?_) (fun c12 => ?_)
  · have h := cond_pos c12 h
    refine RegV.noS rfl rfl ?_
    refine RegV.noS rfl rfl ?_
    refine RegV.p0 rfl rfl rfl ?_
    refine RegV.nil0 ?_
    refine AWc.cond rfl (fun _ => ?_) (fun hc => by cases hc)
    refine AWc.seq ?_
    refine AWc.rg hmix rfl rfl ?_
    refine RegV.p0 rfl rfl rfl ?_
    refine RegV.nil0 ?_
    have hr := Option.some.inj h
    subst hr
    exact AWc.ret (canQ (N := 46) (k := 2) (l' := [(4, (.ap 1 1 (List.map byteD ([] : List UInt8))))]) (H' := [(1, (.tok ((List.map byteD ([] : List UInt8)).length * 1))), (0, (.cells [(.d (.sl (List.map byteD a0))), (.d (.int .i64 a1)), (.d (.int .i64 a2))]))]) rfl ⟨rfl, [.tok 0], [(1, 1)], rfl, rfl, ⟨⟨_, rfl, .nil⟩, rfl, trivial⟩, ⟨⟨_, rfl, (.refl _)⟩, rfl, rfl, ⟨⟨_, rfl, (.refl _)⟩, rfl, rfl, trivial⟩⟩⟩ (doneA (.inr rfl) rfl ⟨trivial, trivial⟩ (.refl _) (hasCons rfl (hasCons rfl hasNil))))
  · have h := cond_neg c12 h
    refine RegV.p0 rfl rfl rfl ?_
    refine RegV.p0 (v := (.d (.bool (decide (a3 ≤ (0 : Int)))))) rfl rfl rfl ?_
    refine RegV.p0 rfl rfl rfl ?_
    refine RegV.nil0 ?_
    refine AWc.cond rfl (fun c16 => ?_) (fun c16 => ?_)
    · have h := cond_pos c16 h
      refine AWc.seq ?_
      refine AWc.rg hmix rfl rfl ?_
      refine RegV.p0 rfl rfl rfl ?_
      refine RegV.nil0 ?_
      have hr := Option.some.inj h
      subst hr
      exact AWc.ret (canQ (N := 46) (k := 2) (l' := [(4, (.ap 1 1 (List.map byteD ([] : List UInt8))))]) (H' := [(1, (.tok ((List.map byteD ([] : List UInt8)).length * 1))), (0, (.cells [(.d (.sl (List.map byteD a0))), (.d (.int .i64 a1)), (.d (.int .i64 a2))]))]) rfl ⟨rfl, [.tok 0], [(1, 1)], rfl, rfl, ⟨⟨_, rfl, .nil⟩, rfl, trivial⟩, ⟨⟨_, rfl, (.refl _)⟩, rfl, rfl, ⟨⟨_, rfl, (.refl _)⟩, rfl, rfl, trivial⟩⟩⟩ (doneA (.inr rfl) rfl ⟨trivial, trivial⟩ (.refl _) (hasCons rfl (hasCons rfl hasNil))))
    · have h := cond_neg c16 h
      refine AWc.skip ?_
      refine AWc.seq ?_
      refine AWc.seq ?_
      refine AWc.rg hmix rfl rfl ?_
      refine RegV.p0 rfl rfl rfl ?_
      refine RegV.p0 rfl rfl rfl ?_
      obtain ⟨r29, e29, h⟩ := bind_some h
      refine RegV.callS (q := true) (H' := [(0, (.cells [(.d (.sl (List.map byteD a0))), (.d (.int .i64 a1)), (.d (.int .i64 a2))]))]) (c' := 1) (show ACalls P (N 32) [(.ptr 0 0)] [(0, (.cells [(.d (.sl (List.map byteD a0))), (.d (.int .i64 a1)), (.d (.int .i64 a2))]))] (.d (.int .i64 (IntKind.i64.wrap (((a0.length : Nat) : Int) - a1)))) [(0, (.cells [(.d (.sl (List.map byteD a0))), (.d (.int .i64 a1)), (.d (.int .i64 a2))]))] from ACalls.use (F32 hmix hc.2.2.1 e29) [(0, 0)] 1 rfl) rfl rfl rfl rfl (.cons (.refl _) .nil) (.refl _) (fun _ => rfl) rfl (hasCons rfl hasNil) rfl rfl rfl rfl ?_
      refine RegV.p0 (v := (.d (.bool (decide (a3 > (IntKind.i64.wrap (((a0.length : Nat) : Int) - a1))))))) rfl rfl rfl ?_
      refine RegV.nil0 ?_
      refine AWc.cond rfl (fun c31 => ?_) (fun c31 => ?_)
      · have h := cond_pos c31 h
        refine AWc.seq ?_
        refine AWc.rg hmix rfl rfl ?_
        refine RegV.p0 rfl rfl rfl ?_
        refine RegV.p0 rfl rfl rfl ?_
        refine RegV.p0 rfl rfl rfl ?_
        refine RegV.p0 (v := (.ptr 0 1)) rfl rfl rfl ?_
        refine RegV.ld (v := (.d (.int .i64 a1))) (H' := [(0, (.cells [(.d (.sl (List.map byteD a0))), (.d (.int .i64 a1)), (.d (.int .i64 a2))]))]) rfl rfl trivial rfl rfl rfl rfl rfl ?_
        obtain ⟨r40, e40, h⟩ := bind_some h
        refine RegV.callS (q := false) (H' := [(0, (.cells [(.d (.sl (List.map byteD a0))), (.d (.int .i64 a1)), (.d (.int .i64 (3 : Int)))]))]) (c' := 1) (show ACalls P (N 85) [(.ptr 0 0), (.d (.int .i64 a1)), (.d (.int .i64 (3 : Int)))] [(0, (.cells [(.d (.sl (List.map byteD a0))), (.d (.int .i64 a1)), (.d (.int .i64 a2))]))] (.tup []) [(0, (.cells [(.d (.sl (List.map byteD a0))), (.d (.int .i64 a1)), (.d (.int .i64 (3 : Int)))]))] from ACalls.use (F85 hmix hc.2.2.2 e40) [(0, 0)] 1 rfl) rfl rfl rfl rfl (.cons (.refl _) (.cons (.refl _) (.cons (.refl _) .nil))) (.refl _) (fun h => by cases h) rfl (hasCons rfl hasNil) rfl rfl rfl rfl ?_
        refine RegV.nil0 ?_
        refine AWc.seq ?_
        refine AWc.rg hmix rfl rfl ?_
        refine RegV.p0 rfl rfl rfl ?_
        refine RegV.nil0 ?_
        have hr := Option.some.inj h
        subst hr
        exact AWc.ret (canQ (N := 46) (k := 2) (l' := [(4, (.ap 1 1 (List.map byteD ([] : List UInt8))))]) (H' := [(1, (.tok ((List.map byteD ([] : List UInt8)).length * 1))), (0, (.cells [(.d (.sl (List.map byteD a0))), (.d (.int .i64 a1)), (.d (.int .i64 (3 : Int)))]))]) rfl ⟨rfl, [.tok 0], [(1, 1)], rfl, rfl, ⟨⟨_, rfl, .nil⟩, rfl, trivial⟩, ⟨⟨_, rfl, (.refl _)⟩, rfl, rfl, ⟨⟨_, rfl, (.refl _)⟩, rfl, rfl, trivial⟩⟩⟩ (doneA (.inr rfl) rfl ⟨trivial, trivial⟩ (.refl _) (hasCons rfl (hasCons rfl hasNil))))
      · have h := cond_neg c31 h
        refine AWc.skip ?_
        refine AWc.seq ?_
        refine AWc.rg hmix rfl rfl ?_
        refine RegV.p0 rfl rfl rfl ?_
        refine RegV.p0 rfl rfl rfl ?_
        refine RegV.p0 (v := (.ptr 0 1)) rfl rfl rfl ?_
        refine RegV.ld (v := (.d (.int .i64 a1))) (H' := [(0, (.cells [(.d (.sl (List.map byteD a0))), (.d (.int .i64 a1)), (.d (.int .i64 a2))]))]) rfl rfl trivial rfl rfl rfl rfl rfl ?_
        refine RegV.p0 rfl rfl rfl ?_
        refine RegV.p0 (v := (.d (.int .i64 (IntKind.i64.wrap (a1 + a3))))) rfl rfl rfl ?_
        refine RegV.p0 rfl rfl rfl ?_
        refine RegV.p0 (v := (.ptr 0 1)) rfl rfl rfl ?_
        refine RegV.evN (own := false) (H' := [(0, (.cells [(.d (.sl (List.map byteD a0))), (.d (.int .i64 (IntKind.i64.wrap (a1 + a3)))), (.d (.int .i64 a2))]))]) (c' := 1) rfl rfl (by exact ⟨rfl, Nat.le_of_ble_eq_true rfl, rfl⟩) rfl rfl rfl rfl ?_
        refine RegV.nil0 ?_
        refine AWc.seq ?_
        refine AWc.rg hmix rfl rfl ?_
        refine RegV.p0 rfl rfl rfl ?_
        refine RegV.p0 rfl rfl rfl ?_
        refine RegV.p0 (v := (.ptr 0 0)) rfl rfl rfl ?_
        refine RegV.ld (v := (.d (.sl (List.map byteD a0)))) (H' := [(0, (.cells [(.d (.sl (List.map byteD a0))), (.d (.int .i64 (IntKind.i64.wrap (a1 + a3)))), (.d (.int .i64 a2))]))]) rfl rfl trivial rfl rfl rfl rfl rfl ?_
        refine RegV.p0 rfl rfl rfl ?_
        refine RegV.p0 rfl rfl rfl ?_
        refine RegV.p0 (v := (.ptr 0 1)) rfl rfl rfl ?_
        refine RegV.ld (v := (.d (.int .i64 (IntKind.i64.wrap (a1 + a3))))) (H' := [(0, (.cells [(.d (.sl (List.map byteD a0))), (.d (.int .i64 (IntKind.i64.wrap (a1 + a3)))), (.d (.int .i64 a2))]))]) rfl rfl trivial rfl rfl rfl rfl rfl ?_
        refine RegV.p0 rfl rfl rfl ?_
        refine RegV.p0 (v := (.d (.int .i64 (IntKind.i64.wrap ((IntKind.i64.wrap (a1 + a3)) - a3))))) rfl rfl rfl ?_
        refine RegV.p0 rfl rfl rfl ?_
        refine RegV.p0 rfl rfl rfl ?_
        refine RegV.p0 (v := (.ptr 0 1)) rfl rfl rfl ?_
        refine RegV.ld (v := (.d (.int .i64 (IntKind.i64.wrap (a1 + a3))))) (H' := [(0, (.cells [(.d (.sl (List.map byteD a0))), (.d (.int .i64 (IntKind.i64.wrap (a1 + a3)))), (.d (.int .i64 a2))]))]) rfl rfl trivial rfl rfl rfl rfl rfl ?_
        obtain ⟨b76, h⟩ := gd_some h
        refine RegV.slc (xs := a0) (e := byteD) (lo := (IntKind.i64.wrap ((IntKind.i64.wrap (a1 + a3)) - a3))) (hi := (IntKind.i64.wrap (a1 + a3))) rfl rfl rfl b76 (fun _ => rfl) rfl ?_
        obtain ⟨b77, h⟩ := gd_some h
        refine RegV.appN (ys := (sl a0 (IntKind.i64.wrap ((IntKind.i64.wrap (a1 + a3)) - a3)) (IntKind.i64.wrap (a1 + a3)))) (e := byteD) rfl rfl rfl (fun _ => rfl) rfl rfl b77 rfl rfl ?_
        refine RegV.p0 rfl rfl rfl ?_
        refine RegV.nil1 (by kernel_rfl) ?_
        have hr := Option.some.inj h
        subst hr
        exact AWc.ret (canQ (N := 46) (k := 2) (l' := [(4, (.ap 1 1 (List.map byteD (sl a0 (IntKind.i64.wrap ((IntKind.i64.wrap (a1 + a3)) - a3)) (IntKind.i64.wrap (a1 + a3))))))]) (H' := [(1, (.tok ((List.map byteD (sl a0 (IntKind.i64.wrap ((IntKind.i64.wrap (a1 + a3)) - a3)) (IntKind.i64.wrap (a1 + a3)))).length * 1))), (0, (.cells [(.d (.sl (List.map byteD a0))), (.d (.int .i64 (IntKind.i64.wrap (a1 + a3)))), (.d (.int .i64 a2))]))]) rfl ⟨rfl, [], [], rfl, rfl, ⟨⟨_, rfl, (.refl _)⟩, rfl, trivial⟩, ⟨⟨_, rfl, (.refl _)⟩, rfl, rfl, ⟨⟨_, rfl, (.refl _)⟩, rfl, rfl, trivial⟩⟩⟩ (doneA (.inr rfl) rfl ⟨trivial, trivial⟩ (.refl _) (hasCons rfl (hasCons rfl hasNil))))
/-- (*courant/code.Reader).Text -/
def C31 (N : Nat → Nat) : AFunc := { n := 53, params := 2, res := [.tmp 4], body :=
 (.seq (.region false [⟨(some 4), .mv (.k .nils), none, []⟩])
  (.seq (.seq (.region false [⟨(some 8), .mv (.t 0), none, []⟩,
     ⟨(some 9), .call (.k (.d (.fn (N 84)))) [(.t 8)], none, [0]⟩,
     ⟨(some 10), .un .not (.t 9), none, [1]⟩])
    (.cond (.t 10) (.seq (.region false [⟨(some 4), .mv (.k .nils), none, []⟩])
      .ret)
     (.skip)))
   (.seq (.region false [⟨(some 11), .mv (.t 0), none, []⟩,
     ⟨(some 12), .nilchk (.t 11), none, [0]⟩,
     ⟨(some 13), .faddr (.t 12) 1, none, [1]⟩,
     ⟨(some 14), .load (.t 13) 1 false, none, [2]⟩,
     ⟨(some 5), .mv (.t 14), none, [3, 0, 1, 2]⟩])
    (.seq (.region false [⟨(some 15), .mv (.t 0), none, []⟩,
      ⟨(some 16), .call (.k (.d (.fn (N 40)))) [(.t 15)], none, [0]⟩,
      ⟨(some 6), .mv (.t 16), none, [1, 0]⟩])
     (.seq (.block 0 (.seq (.region false [⟨(some 18), .mv (.t 0), none, []⟩,
         ⟨(some 19), .nilchk (.t 18), none, [0]⟩,
         ⟨(some 20), .faddr (.t 19) 2, none, [1]⟩,
         ⟨(some 21), .load (.t 20) 1 false, none, [2]⟩,
         ⟨(some 22), .bin .neq (.t 21) (.k (.d (.int .i64 0))), none, [3]⟩,
         ⟨(some 17), .mv (.t 22), none, [4]⟩])
        (.cond (.t 17) (.seq (.region false [⟨(some 4), .mv (.k .nils), none, []⟩])
          .ret)
         (.seq (.region false [⟨(some 24), .mv (.t 6), none, []⟩,
           ⟨(some 25), .bin .lss (.t 24) (.k (.d (.int .i64 0))), none, [0]⟩,
           ⟨(some 23), .mv (.t 25), none, [1]⟩])
          (.cond (.t 23) (.seq (.region false [⟨(some 26), .mv (.t 0), none, []⟩,
             ⟨(some 27), .mv (.t 5), none, []⟩,
             ⟨(some 28), .call (.k (.d (.fn (N 85)))) [(.t 26), (.t 27), (.k (.d (.int .i64 4)))], none, [0, 1]⟩])
            (.seq (.region false [⟨(some 4), .mv (.k .nils), none, []⟩])
             .ret))
           (.seq (.region false [⟨(some 30), .mv (.t 6), none, []⟩,
             ⟨(some 31), .mv (.t 1), none, []⟩,
             ⟨(some 32), .mm true [(.t 31), (.k (.d (.int .i64 0)))], none, [1]⟩,
             ⟨(some 33), .bin .gtr (.t 30) (.t 32), none, [0, 2]⟩,
             ⟨(some 29), .mv (.t 33), none, [3]⟩])
            (.cond (.t 29) (.seq (.region false [⟨(some 34), .mv (.t 0), none, []⟩,
               ⟨(some 35), .mv (.t 5), none, []⟩,
               ⟨(some 36), .call (.k (.d (.fn (N 85)))) [(.t 34), (.t 35), (.k (.d (.int .i64 5)))], none, [0, 1]⟩])
              (.seq (.region false [⟨(some 4), .mv (.k .nils), none, []⟩])
               .ret))
             (.skip))))))))
      (.seq (.region false [⟨(some 37), .mv (.t 0), none, []⟩,
        ⟨(some 38), .mv (.t 6), none, []⟩,
        ⟨(some 39), .call (.k (.d (.fn (N 41)))) [(.t 37), (.t 38)], none, [0, 1]⟩,
        ⟨(some 7), .mv (.t 39), none, [2, 0, 1]⟩])
       (.seq (.seq (.region false [⟨(some 40), .mv (.t 0), none, []⟩,
          ⟨(some 41), .nilchk (.t 40), none, [0]⟩,
          ⟨(some 42), .faddr (.t 41) 2, none, [1]⟩,
          ⟨(some 43), .load (.t 42) 1 false, none, [2]⟩,
          ⟨(some 44), .bin .neq (.t 43) (.k (.d (.int .i64 0))), none, [3]⟩])
         (.cond (.t 44) (.region false [⟨(some 45), .mv (.t 0), none, []⟩,
           ⟨(some 46), .mv (.t 5), none, []⟩,
           ⟨(some 47), .mv (.t 0), none, []⟩,
           ⟨(some 48), .nilchk (.t 47), none, [2]⟩,
           ⟨(some 49), .faddr (.t 48) 2, none, [3]⟩,
           ⟨(some 50), .load (.t 49) 1 false, none, [4]⟩,
           ⟨(some 51), .call (.k (.d (.fn (N 85)))) [(.t 45), (.t 46), (.t 50)], none, [0, 1, 5]⟩])
          (.skip)))
        (.seq (.region false [⟨(some 52), .mv (.t 7), none, []⟩,
          ⟨(some 4), .mv (.t 52), none, [0]⟩])
         .ret)))))))) }
def HC31 (P : Program) (N : Nat → Nat) : Prop := HasF P (N 31) (C31 N) ∧ HC84 P N ∧ HC40 P N ∧ HC85 P N ∧ HC41 P N
def f31 (k : Nat) (a0 : (List UInt8)) (a1 : Int) (a2 : Int) (a3 : Int) : Option ((List UInt8) × Int × Int) := (f84 k a0 a1 a2).bind fun r10 => cond (!(decide (a2 = (0 : Int)))) (some (([] : List UInt8), a1, a2)) ((f40 k a0 a1 a2).bind fun r31 => cond (decide (r31.2.2 ≠ (0 : Int))) (some (([] : List UInt8), r31.2.1, r31.2.2)) (cond (decide (r31.1 < (0 : Int))) ((f85 k a0 r31.2.1 r31.2.2 a1 (4 : Int)).bind fun r62 => some (([] : List UInt8), a1, (4 : Int))) (cond (decide (r31.1 > (max a3 (0 : Int)))) ((f85 k a0 r31.2.1 r31.2.2 a1 (5 : Int)).bind fun r82 => some (([] : List UInt8), a1, (5 : Int))) ((f41 k a0 r31.2.1 r31.2.2 r31.1).bind fun r94 => cond (decide (r94.2.2 ≠ (0 : Int))) ((f85 k a0 r94.2.1 r94.2.2 a1 r94.2.2).bind fun r114 => some (r94.1, a1, r94.2.2)) (some (r94.1, r94.2.1, r94.2.2))))))
theorem F31 {P : Program} {N : Nat → Nat} (hmix : P.follows .mixedOrders = true) (hc : HC31 P N) {k : Nat} {a0 : (List UInt8)} {a1 : Int} {a2 : Int} {a3 : Int} {r : ((List UInt8) × Int × Int)} (h : f31 k a0 a1 a2 a3 = some r) :
    ACalls P (N 31) [(.ptr 0 0), (.d (.int .i64 a3))] [(0, (.cells [(.d (.sl (List.map byteD a0))), (.d (.int .i64 a1)), (.d (.int .i64 a2))]))] (.ap 1 1 (List.map byteD r.1)) [(1, (.tok ((List.map byteD r.1).length * 1))), (0, (.cells [(.d (.sl (List.map byteD a0))), (.d (.int .i64 r.2.1)), (.d (.int .i64 r.2.2))]))] := by
  refine acalls_canon (F := C31 N) hc.1 1 2 rfl ?_
  unfold f31 at h
  dsimp only [C31, startL]
  refine AWc.seq ?_
  refine AWc.rg hmix rfl rfl ?_
  refine RegV.p0 rfl rfl rfl ?_
  refine RegV.nil0 ?_
  refine AWc.seq ?_
  refine AWc.seq ?_
  refine AWc.rg hmix rfl rfl ?_
  refine RegV.p0 rfl rfl rfl ?_
  obtain ⟨r10, e10, h⟩ := bind_some h
  refine RegV.callS (q := true) (H' := [(0, (.cells [(.d (.sl (List.map byteD a0))), (.d (.int .i64 a1)), (.d (.int .i64 a2))]))]) (c' := 1) (show ACalls P (N 84) [(.ptr 0 0)] [(0, (.cells [(.d (.sl (List.map byteD a0))), (.d (.int .i64 a1)), (.d (.int .i64 a2))]))] (.d (.bool (decide (a2 = (0 : Int))))) [(0, (.cells [(.d (.sl (List.map byteD a0))), (.d (.int .i64 a1)), (.d (.int .i64 a2))]))] from ACalls.use (F84 hmix hc.2.1 e10) [(0, 0)] 1 rfl) rfl rfl rfl rfl (.cons (.refl _) .nil) (.refl _) (fun _ => rfl) rfl (hasCons rfl hasNil) rfl rfl rfl rfl ?_
  refine RegV.p0 (v := (.d (.bool (!(decide (a2 = (0 : Int))))))) rfl rfl rfl ?_
  refine RegV.nil0 ?_
  refine AWc.cond rfl (fun c12 => ?_) (fun c12 => ?_)
  · have h := cond_pos c12 h
    refine AWc.seq ?_
    refine AWc.rg hmix rfl rfl ?_
    refine RegV.p0 rfl rfl rfl ?_
    refine RegV.nil0 ?_
    have hr := Option.some.inj h
    subst hr
    exact AWc.ret (canQ (N := 53) (k := 2) (l' := [(4, (.ap 1 1 (List.map byteD ([] : List UInt8))))]) (H' := [(1, (.tok ((List.map byteD ([] : List UInt8)).length * 1))), (0, (.cells [(.d (.sl (List.map byteD a0))), (.d (.int .i64 a1)), (.d (.int .i64 a2))]))]) rfl ⟨rfl, [.tok 0], [(1, 1)], rfl, rfl, ⟨⟨_, rfl, .nil⟩, rfl, trivial⟩, ⟨⟨_, rfl, (.refl _)⟩, rfl, rfl, ⟨⟨_, rfl, (.refl _)⟩, rfl, rfl, trivial⟩⟩⟩ (doneA (.inr rfl) rfl ⟨trivial, trivial⟩ (.refl _) (hasCons rfl (hasCons rfl hasNil))))
  · have h := cond_neg c12 h
    refine AWc.skip ?_
    refine AWc.seq ?_
    refine AWc.rg hmix rfl rfl ?_
    refine RegV.p0 rfl rfl rfl ?_
    refine RegV.p0 rfl rfl rfl ?_
    refine RegV.p0 (v := (.ptr 0 1)) rfl rfl rfl ?_
    refine RegV.ld (v := (.d (.int .i64 a1))) (H' := [(0, (.cells [(.d (.sl (List.map byteD a0))), (.d (.int .i64 a1)), (.d (.int .i64 a2))]))]) rfl rfl trivial rfl rfl rfl rfl rfl ?_
    refine RegV.p0 rfl rfl rfl ?_
    refine RegV.nil0 ?_
    refine AWc.seq ?_
    refine AWc.rg hmix rfl rfl ?_
    refine RegV.p0 rfl rfl rfl ?_
    obtain ⟨r31, e31, h⟩ := bind_some h
    refine RegV.callS (q := false) (H' := [(0, (.cells [(.d (.sl (List.map byteD a0))), (.d (.int .i64 r31.2.1)), (.d (.int .i64 r31.2.2))]))]) (c' := 1) (show ACalls P (N 40) [(.ptr 0 0)] [(0, (.cells [(.d (.sl (List.map byteD a0))), (.d (.int .i64 a1)), (.d (.int .i64 a2))]))] (.d (.int .i64 r31.1)) [(0, (.cells [(.d (.sl (List.map byteD a0))), (.d (.int .i64 r31.2.1)), (.d (.int .i64 r31.2.2))]))] from ACalls.use (F40 hmix hc.2.2.1 e31) [(0, 0)] 1 rfl) rfl rfl rfl rfl (.cons (.refl _) .nil) (.refl _) (fun h => by cases h) rfl (hasCons rfl hasNil) rfl rfl rfl rfl ?_
    refine RegV.p0 rfl rfl rfl ?_
    refine RegV.nil0 ?_
    refine AWc.seq ?_
    refine AWc.block ?_
    refine AWc.seq ?_
    refine AWc.rg hmix rfl rfl ?_
    refine RegV.p0 rfl rfl rfl ?_
    refine RegV.p0 rfl rfl rfl ?_
    refine RegV.p0 (v := (.ptr 0 2)) rfl rfl rfl ?_
    refine RegV.ld (v := (.d (.int .i64 r31.2.2))) (H' := [(0, (.cells [(.d (.sl (List.map byteD a0))), (.d (.int .i64 r31.2.1)), (.d (.int .i64 r31.2.2))]))]) rfl rfl trivial rfl rfl rfl rfl rfl ?_
    refine RegV.p0 (v := (.d (.bool (decide (r31.2.2 ≠ (0 : Int)))))) rfl rfl rfl ?_
    refine RegV.p0 rfl rfl rfl ?_
    refine RegV.nil0 ?_
    refine AWc.cond rfl (fun c44 => ?_) (fun c44 => ?_)
    · have h := cond_pos c44 h
      refine AWc.seq ?_
      refine AWc.rg hmix rfl rfl ?_
      refine RegV.p0 rfl rfl rfl ?_
      refine RegV.nil0 ?_
      have hr := Option.some.inj h
      subst hr
      exact AWc.ret (canQ (N := 53) (k := 2) (l' := [(4, (.ap 1 1 (List.map byteD ([] : List UInt8))))]) (H' := [(1, (.tok ((List.map byteD ([] : List UInt8)).length * 1))), (0, (.cells [(.d (.sl (List.map byteD a0))), (.d (.int .i64 r31.2.1)), (.d (.int .i64 r31.2.2))]))]) rfl ⟨rfl, [.tok 0], [(1, 1)], rfl, rfl, ⟨⟨_, rfl, .nil⟩, rfl, trivial⟩, ⟨⟨_, rfl, (.refl _)⟩, rfl, rfl, ⟨⟨_, rfl, (.refl _)⟩, rfl, rfl, trivial⟩⟩⟩ (doneA (.inr rfl) rfl ⟨trivial, trivial⟩ (.refl _) (hasCons rfl (hasCons rfl hasNil))))
    · have h := cond_neg c44 h
      refine AWc.seq ?_
      refine AWc.rg hmix rfl rfl ?_
      refine RegV.p0 rfl rfl rfl ?_
      refine RegV.p0 (v := (.d (.bool (decide (r31.1 < (0 : Int)))))) rfl rfl rfl ?_
      refine RegV.p0 rfl rfl rfl ?_
      refine RegV.nil0 ?_
      refine AWc.cond rfl (fun c56 => ?_) (fun c56 => ?_)
      · have h := cond_pos c56 h
        refine AWc.seq ?_
        refine AWc.rg hmix rfl rfl ?_
        refine RegV.p0 rfl rfl rfl ?_
        refine RegV.p0 rfl rfl rfl ?_
        obtain ⟨r62, e62, h⟩ := bind_some h
        refine RegV.callS (q := false) (H' := [(0, (.cells [(.d (.sl (List.map byteD a0))), (.d (.int .i64 a1)), (.d (.int .i64 (4 : Int)))]))]) (c' := 1) (show ACalls P (N 85) [(.ptr 0 0), (.d (.int .i64 a1)), (.d (.int .i64 (4 : Int)))] [(0, (.cells [(.d (.sl (List.map byteD a0))), (.d (.int .i64 r31.2.1)), (.d (.int .i64 r31.2.2))]))] (.tup []) [(0, (.cells [(.d (.sl (List.map byteD a0))), (.d (.int .i64 a1)), (.d (.int .i64 (4 : Int)))]))] from ACalls.use (F85 hmix hc.2.2.2.1 e62) [(0, 0)] 1 rfl) rfl rfl rfl rfl (.cons (.refl _) (.cons (.refl _) (.cons (.refl _) .nil))) (.refl _) (fun h => by cases h) rfl (hasCons rfl hasNil) rfl rfl rfl rfl ?_
        refine RegV.nil0 ?_
        refine AWc.seq ?_
        refine AWc.rg hmix rfl rfl ?_
        refine RegV.p0 rfl rfl rfl ?_
        refine RegV.nil0 ?_
        have hr := Option.some.inj h
        subst hr
        exact AWc.ret (canQ (N := 53) (k := 2) (l' := [(4, (.ap 1 1 (List.map byteD ([] : List UInt8))))]) (H' := [(1, (.tok ((List.map byteD ([] : List UInt8)).length * 1))), (0, (.cells [(.d (.sl (List.map byteD a0))), (.d (.int .i64 a1)), (.d (.int .i64 (4 : Int)))]))]) rfl ⟨rfl, [.tok 0], [(1, 1)], rfl, rfl, ⟨⟨_, rfl, .nil⟩, rfl, trivial⟩, ⟨⟨_, rfl, (.refl _)⟩, rfl, rfl, ⟨⟨_, rfl, (.refl _)⟩, rfl, rfl, trivial⟩⟩⟩ (doneA (.inr rfl) rfl ⟨trivial, trivial⟩ (.refl _) (hasCons rfl (hasCons rfl hasNil))))
      · have h := cond_neg c56 h
        refine AWc.seq ?_
        refine AWc.rg hmix rfl rfl ?_
        refine RegV.p0 rfl rfl rfl ?_
        refine RegV.p0 rfl rfl rfl ?_
        refine RegV.p0 (v := (.d (.int .i64 (max a3 (0 : Int))))) rfl rfl rfl ?_
        refine RegV.p0 (v := (.d (.bool (decide (r31.1 > (max a3 (0 : Int))))))) rfl rfl rfl ?_
        refine RegV.p0 rfl rfl rfl ?_
        refine RegV.nil0 ?_
        refine AWc.cond rfl (fun c76 => ?_) (fun c76 => ?_)
        · have h := cond_pos c76 h
          refine AWc.seq ?_
          refine AWc.rg hmix rfl rfl ?_
          refine RegV.p0 rfl rfl rfl ?_
          refine RegV.p0 rfl rfl rfl ?_
          obtain ⟨r82, e82, h⟩ := bind_some h
          refine RegV.callS (q := false) (H' := [(0, (.cells [(.d (.sl (List.map byteD a0))), (.d (.int .i64 a1)), (.d (.int .i64 (5 : Int)))]))]) (c' := 1) (show ACalls P (N 85) [(.ptr 0 0), (.d (.int .i64 a1)), (.d (.int .i64 (5 : Int)))] [(0, (.cells [(.d (.sl (List.map byteD a0))), (.d (.int .i64 r31.2.1)), (.d (.int .i64 r31.2.2))]))] (.tup []) [(0, (.cells [(.d (.sl (List.map byteD a0))), (.d (.int .i64 a1)), (.d (.int .i64 (5 : Int)))]))] from ACalls.use (F85 hmix hc.2.2.2.1 e82) [(0, 0)] 1 rfl) rfl rfl rfl rfl (.cons (.refl _) (.cons (.refl _) (.cons (.refl _) .nil))) (.refl _) (fun h => by cases h) rfl (hasCons rfl hasNil) rfl rfl rfl rfl ?_
          refine RegV.nil0 ?_
          refine AWc.seq ?_
          refine AWc.rg hmix rfl rfl ?_
          refine RegV.p0 rfl rfl rfl ?_
          refine RegV.nil0 ?_
          have hr := Option.some.inj h
          subst hr
          exact AWc.ret (canQ (N := 53) (k := 2) (l' := [(4, (.ap 1 1 (List.map byteD ([] : List UInt8))))]) (H' := [(1, (.tok ((List.map byteD ([] : List UInt8)).length * 1))), (0, (.cells [(.d (.sl (List.map byteD a0))), (.d (.int .i64 a1)), (.d (.int .i64 (5 : Int)))]))]) rfl ⟨rfl, [.tok 0], [(1, 1)], rfl, rfl, ⟨⟨_, rfl, .nil⟩, rfl, trivial⟩, ⟨⟨_, rfl, (.refl _)⟩, rfl, rfl, ⟨⟨_, rfl, (.refl _)⟩, rfl, rfl, trivial⟩⟩⟩ (doneA (.inr rfl) rfl ⟨trivial, trivial⟩ (.refl _) (hasCons rfl (hasCons rfl hasNil))))
        · have h := cond_neg c76 h
          refine AWc.skip ?_
          refine AWc.seq ?_
          refine AWc.rg hmix rfl rfl ?_
          refine RegV.p0 rfl rfl rfl ?_
          refine RegV.p0 rfl rfl rfl ?_
          obtain ⟨r94, e94, h⟩ := bind_some h
          refine RegV.callS (q := false) (H' := [(1, (.tok ((List.map byteD r94.1).length * 1))), (0, (.cells [(.d (.sl (List.map byteD a0))), (.d (.int .i64 r94.2.1)), (.d (.int .i64 r94.2.2))]))]) (c' := 2) (show ACalls P (N 41) [(.ptr 0 0), (.d (.int .i64 r31.1))] [(0, (.cells [(.d (.sl (List.map byteD a0))), (.d (.int .i64 r31.2.1)), (.d (.int .i64 r31.2.2))]))] (.ap 1 1 (List.map byteD r94.1)) [(1, (.tok ((List.map byteD r94.1).length * 1))), (0, (.cells [(.d (.sl (List.map byteD a0))), (.d (.int .i64 r94.2.1)), (.d (.int .i64 r94.2.2))]))] from ACalls.use (F41 hmix hc.2.2.2.2 e94) [(0, 0), (1, 1)] 2 rfl) rfl rfl rfl rfl (.cons (.refl _) (.cons (.refl _) .nil)) (.refl _) (fun h => by cases h) rfl (hasCons rfl hasNil) rfl rfl rfl rfl ?_
          refine RegV.p0 rfl rfl rfl ?_
          refine RegV.nil0 ?_
          refine AWc.seq ?_
          refine AWc.seq ?_
          refine AWc.rg hmix rfl rfl ?_
          refine RegV.p0 rfl rfl rfl ?_
          refine RegV.p0 rfl rfl rfl ?_
          refine RegV.p0 (v := (.ptr 0 2)) rfl rfl rfl ?_
          refine RegV.ld (v := (.d (.int .i64 r94.2.2))) (H' := [(0, (.cells [(.d (.sl (List.map byteD a0))), (.d (.int .i64 r94.2.1)), (.d (.int .i64 r94.2.2))])), (1, (.tok ((List.map byteD r94.1).length * 1)))]) rfl rfl trivial rfl rfl rfl rfl rfl ?_
          refine RegV.p0 (v := (.d (.bool (decide (r94.2.2 ≠ (0 : Int)))))) rfl rfl rfl ?_
          refine RegV.nil0 ?_
          refine AWc.cond rfl (fun c105 => ?_) (fun c105 => ?_)
          · have h := cond_pos c105 h
            refine AWc.rg hmix rfl rfl ?_
            refine RegV.p0 rfl rfl rfl ?_
            refine RegV.p0 rfl rfl rfl ?_
            refine RegV.p0 rfl rfl rfl ?_
            refine RegV.p0 rfl rfl rfl ?_
            refine RegV.p0 (v := (.ptr 0 2)) rfl rfl rfl ?_
            refine RegV.ld (v := (.d (.int .i64 r94.2.2))) (H' := [(0, (.cells [(.d (.sl (List.map byteD a0))), (.d (.int .i64 r94.2.1)), (.d (.int .i64 r94.2.2))])), (1, (.tok ((List.map byteD r94.1).length * 1)))]) rfl rfl trivial rfl rfl rfl rfl rfl ?_
            obtain ⟨r114, e114, h⟩ := bind_some h
            refine RegV.callS (q := false) (H' := [(0, (.cells [(.d (.sl (List.map byteD a0))), (.d (.int .i64 a1)), (.d (.int .i64 r94.2.2))])), (1, (.tok ((List.map byteD r94.1).length * 1)))]) (c' := 2) (show ACalls P (N 85) [(.ptr 0 0), (.d (.int .i64 a1)), (.d (.int .i64 r94.2.2))] [(0, (.cells [(.d (.sl (List.map byteD a0))), (.d (.int .i64 r94.2.1)), (.d (.int .i64 r94.2.2))]))] (.tup []) [(0, (.cells [(.d (.sl (List.map byteD a0))), (.d (.int .i64 a1)), (.d (.int .i64 r94.2.2))]))] from ACalls.use (F85 hmix hc.2.2.2.1 e114) [(0, 0)] 1 rfl) rfl rfl rfl rfl (.cons (.refl _) (.cons (.refl _) (.cons (.refl _) .nil))) (.refl _) (fun h => by cases h) rfl (hasCons rfl hasNil) rfl rfl rfl rfl ?_
            refine RegV.nil0 ?_
            refine AWc.seq ?_
            refine AWc.rg hmix rfl rfl ?_
            refine RegV.p0 rfl rfl rfl ?_
            refine RegV.p0 rfl rfl rfl ?_
            refine RegV.nil0 ?_
            have hr := Option.some.inj h
            subst hr
            exact AWc.ret (canQ (N := 53) (k := 2) (l' := [(4, (.ap 1 1 (List.map byteD r94.1)))]) (H' := [(1, (.tok ((List.map byteD r94.1).length * 1))), (0, (.cells [(.d (.sl (List.map byteD a0))), (.d (.int .i64 a1)), (.d (.int .i64 r94.2.2))]))]) rfl ⟨rfl, [], [], rfl, rfl, ⟨⟨_, rfl, (.refl _)⟩, rfl, trivial⟩, ⟨⟨_, rfl, (.refl _)⟩, rfl, rfl, ⟨⟨_, rfl, (.refl _)⟩, rfl, rfl, trivial⟩⟩⟩ (doneA (.inr rfl) rfl ⟨trivial, trivial⟩ (.refl _) (hasCons rfl (hasCons rfl hasNil))))
          · have h := cond_neg c105 h
            refine AWc.skip ?_
            refine AWc.seq ?_
            refine AWc.rg hmix rfl rfl ?_
            refine RegV.p0 rfl rfl rfl ?_
            refine RegV.p0 rfl rfl rfl ?_
            refine RegV.nil0 ?_
            have hr := Option.some.inj h
            subst hr
            exact AWc.ret (canQ (N := 53) (k := 2) (l' := [(4, (.ap 1 1 (List.map byteD r94.1)))]) (H' := [(1, (.tok ((List.map byteD r94.1).length * 1))), (0, (.cells [(.d (.sl (List.map byteD a0))), (.d (.int .i64 r94.2.1)), (.d (.int .i64 r94.2.2))]))]) rfl ⟨rfl, [], [], rfl, rfl, ⟨⟨_, rfl, (.refl _)⟩, rfl, trivial⟩, ⟨⟨_, rfl, (.refl _)⟩, rfl, rfl, ⟨⟨_, rfl, (.refl _)⟩, rfl, rfl, trivial⟩⟩⟩ (doneA (.inr rfl) rfl ⟨trivial, trivial⟩ (.refl _) (hasCons rfl (hasCons rfl hasNil))))
/-- (*courant/request.reader).text -/
def C93 (N : Nat → Nat) : AFunc := { n := 9, params := 1, res := [.tmp 2], body :=
 (.seq (.region false [⟨(some 2), .mv (.k (.d (.str []))), none, []⟩])
  (.seq (.region false [⟨(some 3), .mv (.t 0), none, []⟩,
    ⟨(some 4), .nilchk (.t 3), none, [0]⟩,
    ⟨(some 5), .faddr (.t 4) 0, none, [1]⟩,
    ⟨(some 6), .load (.t 5) 1 false, none, [2]⟩,
    ⟨(some 7), .call (.k (.d (.fn (N 31)))) [(.t 6), (.k (.d (.int .i64 20000)))], none, [3]⟩,
    ⟨(some 8), .bs2s (.t 7), none, [4]⟩,
    ⟨(some 2), .mv (.t 8), none, [5, 4, 0, 1, 2, 3]⟩])
   .ret)) }
def HC93 (P : Program) (N : Nat → Nat) : Prop := HasF P (N 93) (C93 N) ∧ HC31 P N
def f93 (k : Nat) (a0 : (List UInt8)) (a1 : Int) (a2 : Int) : Option ((List UInt8) × Int × Int) := (f31 k a0 a1 a2 (20000 : Int)).bind fun r12 => some (r12.1, r12.2.1, r12.2.2)
theorem F93 {P : Program} {N : Nat → Nat} (hmix : P.follows .mixedOrders = true) (hc : HC93 P N) {k : Nat} {a0 : (List UInt8)} {a1 : Int} {a2 : Int} {r : ((List UInt8) × Int × Int)} (h : f93 k a0 a1 a2 = some r) :
    ACalls P (N 93) [(.ptr 0 0)] [(0, (.cells [(.ptr 1 0)])), (1, (.cells [(.d (.sl (List.map byteD a0))), (.d (.int .i64 a1)), (.d (.int .i64 a2))]))] (.d (.str r.1)) [(0, (.cells [(.ptr 1 0)])), (1, (.cells [(.d (.sl (List.map byteD a0))), (.d (.int .i64 r.2.1)), (.d (.int .i64 r.2.2))]))] := by
  refine acalls_canon (F := C93 N) hc.1 2 2 rfl ?_
  unfold f93 at h
  dsimp only [C93, startL]
  refine AWc.seq ?_
  refine AWc.rg hmix rfl rfl ?_
  refine RegV.p0 rfl rfl rfl ?_
  refine RegV.nil0 ?_
  refine AWc.seq ?_
  refine AWc.rg hmix rfl rfl ?_
  refine RegV.p0 rfl rfl rfl ?_
  refine RegV.p0 rfl rfl rfl ?_
  refine RegV.p0 (v := (.ptr 0 0)) rfl rfl rfl ?_
  refine RegV.ld (v := (.ptr 1 0)) (H' := [(0, (.cells [(.ptr 1 0)])), (1, (.cells [(.d (.sl (List.map byteD a0))), (.d (.int .i64 a1)), (.d (.int .i64 a2))]))]) rfl rfl trivial rfl rfl rfl rfl rfl ?_
  obtain ⟨r12, e12, h⟩ := bind_some h
  refine RegV.callS (q := false) (H' := [(2, (.tok ((List.map byteD r12.1).length * 1))), (1, (.cells [(.d (.sl (List.map byteD a0))), (.d (.int .i64 r12.2.1)), (.d (.int .i64 r12.2.2))])), (0, (.cells [(.ptr 1 0)]))]) (c' := 3) (show ACalls P (N 31) [(.ptr 1 0), (.d (.int .i64 (20000 : Int)))] [(1, (.cells [(.d (.sl (List.map byteD a0))), (.d (.int .i64 a1)), (.d (.int .i64 a2))]))] (.ap 2 1 (List.map byteD r12.1)) [(2, (.tok ((List.map byteD r12.1).length * 1))), (1, (.cells [(.d (.sl (List.map byteD a0))), (.d (.int .i64 r12.2.1)), (.d (.int .i64 r12.2.2))]))] from ACalls.use (F31 hmix hc.2 e12) [(0, 1), (1, 2)] 2 rfl) rfl rfl rfl rfl (.cons (.refl _) (.cons (.refl _) .nil)) (.refl _) (fun h => by cases h) rfl (hasCons rfl hasNil) rfl rfl rfl rfl ?_
  refine RegV.bs2s (b := r12.1) rfl rfl rfl ?_
  refine RegV.p0 rfl rfl rfl ?_
  refine RegV.nil0 ?_
  have hr := Option.some.inj h
  subst hr
  exact AWc.ret (canQ (N := 9) (k := 2) (l' := [(2, (.d (.str r12.1)))]) (H' := [(0, (.cells [(.ptr 1 0)])), (1, (.cells [(.d (.sl (List.map byteD a0))), (.d (.int .i64 r12.2.1)), (.d (.int .i64 r12.2.2))]))]) rfl ⟨rfl, [], [], rfl, rfl, ⟨⟨_, rfl, (.refl _)⟩, rfl, trivial⟩, ⟨⟨_, rfl, (.refl _)⟩, rfl, rfl, ⟨⟨_, rfl, (.refl _)⟩, rfl, rfl, trivial⟩⟩⟩ (doneA (.inr rfl) rfl ⟨trivial, trivial⟩ (.refl _) (hasCons rfl (hasCons rfl hasNil))))
/-- (*courant/code.Reader).Err -/
def C42 (N : Nat → Nat) : AFunc := { n := 9, params := 1, res := [.tmp 2], body :=
 (.seq (.region false [⟨(some 2), .mv (.k (.d (.int .i64 0))), none, []⟩])
  (.seq (.seq (.region false [⟨(some 3), .mv (.t 0), none, []⟩,
     ⟨(some 4), .nileq 1 false (.t 3) (.k (.d .nilp)), none, [0]⟩])
    (.cond (.t 4) (.seq (.region false [⟨(some 2), .mv (.k (.d (.int .i64 2))), none, []⟩])
      .ret)
     (.skip)))
   (.seq (.region false [⟨(some 5), .mv (.t 0), none, []⟩,
     ⟨(some 6), .nilchk (.t 5), none, [0]⟩,
     ⟨(some 7), .faddr (.t 6) 2, none, [1]⟩,
     ⟨(some 8), .load (.t 7) 1 false, none, [2]⟩,
     ⟨(some 2), .mv (.t 8), none, [3, 0, 1, 2]⟩])
    .ret))) }
def HC42 (P : Program) (N : Nat → Nat) : Prop := HasF P (N 42) (C42 N)
def f42 (k : Nat) (a0 : (List UInt8)) (a1 : Int) (a2 : Int) : Option Unit := some ()
theorem F42 {P : Program} {N : Nat → Nat} (hmix : P.follows .mixedOrders = true) (hc : HC42 P N) {k : Nat} {a0 : (List UInt8)} {a1 : Int} {a2 : Int} {r : Unit} (h : f42 k a0 a1 a2 = some r) :
    ACalls P (N 42) [(.ptr 0 0)] [(0, (.cells [(.d (.sl (List.map byteD a0))), (.d (.int .i64 a1)), (.d (.int .i64 a2))]))] (.d (.int .i64 a2)) [(0, (.cells [(.d (.sl (List.map byteD a0))), (.d (.int .i64 a1)), (.d (.int .i64 a2))]))] := by
  refine acalls_canon (F := C42 N) hc 1 1 rfl ?_
  unfold f42 at h
  dsimp only [C42, startL]
  refine AWc.seq ?_
  refine AWc.rg hmix rfl rfl ?_
  refine RegV.p0 rfl rfl rfl ?_
  refine RegV.nil0 ?_
  refine AWc.seq ?_
  refine AWc.seq ?_
  refine AWc.rg hmix rfl rfl ?_
  refine RegV.p0 rfl rfl rfl ?_
  refine RegV.p0 (v := (.d (.bool false))) rfl rfl rfl ?_
  refine RegV.nil0 ?_
  refine AWc.cond rfl (fun hc => by cases hc) (fun _ => ?_)
  refine AWc.skip ?_
  refine AWc.seq ?_
  refine AWc.rg hmix rfl rfl ?_
  refine RegV.p0 rfl rfl rfl ?_
  refine RegV.p0 rfl rfl rfl ?_
  refine RegV.p0 (v := (.ptr 0 2)) rfl rfl rfl ?_
  refine RegV.ld (v := (.d (.int .i64 a2))) (H' := [(0, (.cells [(.d (.sl (List.map byteD a0))), (.d (.int .i64 a1)), (.d (.int .i64 a2))]))]) rfl rfl trivial rfl rfl rfl rfl rfl ?_
  refine RegV.p0 rfl rfl rfl ?_
  refine RegV.nil0 ?_
  have hr := Option.some.inj h
  subst hr
  exact AWc.ret (canQ (N := 9) (k := 1) (l' := [(2, (.d (.int .i64 a2)))]) (H' := [(0, (.cells [(.d (.sl (List.map byteD a0))), (.d (.int .i64 a1)), (.d (.int .i64 a2))]))]) rfl ⟨rfl, [], [], rfl, rfl, ⟨⟨_, rfl, (.refl _)⟩, rfl, trivial⟩, ⟨⟨_, rfl, (.refl _)⟩, rfl, rfl, trivial⟩⟩ (doneA (.inr rfl) rfl ⟨trivial, trivial⟩ (.refl _) (hasCons rfl hasNil)))
/-- (*courant/code.Reader).End -/
def C43 (N : Nat → Nat) : AFunc := { n := 12, params := 1, res := [.tmp 2], body :=
 (.seq (.region false [⟨(some 2), .mv (.k (.d (.int .i64 0))), none, []⟩])
  (.seq (.seq (.region false [⟨(some 4), .mv (.t 0), none, []⟩,
     ⟨(some 5), .call (.k (.d (.fn (N 42)))) [(.t 4)], none, [0]⟩,
     ⟨(some 3), .mv (.t 5), none, [1, 0]⟩])
    (.seq (.region false [⟨(some 6), .mv (.t 3), none, []⟩,
      ⟨(some 7), .bin .neq (.t 6) (.k (.d (.int .i64 0))), none, [0]⟩])
     (.cond (.t 7) (.seq (.region false [⟨(some 8), .mv (.t 3), none, []⟩,
        ⟨(some 2), .mv (.t 8), none, [0]⟩])
       .ret)
      (.skip))))
   (.seq (.seq (.region false [⟨(some 9), .mv (.t 0), none, []⟩,
      ⟨(some 10), .call (.k (.d (.fn (N 32)))) [(.t 9)], none, [0]⟩,
      ⟨(some 11), .bin .gtr (.t 10) (.k (.d (.int .i64 0))), none, [1]⟩])
     (.cond (.t 11) (.seq (.region false [⟨(some 2), .mv (.k (.d (.int .i64 4))), none, []⟩])
       .ret)
      (.skip)))
    (.seq (.region false [⟨(some 2), .mv (.k (.d (.int .i64 0))), none, []⟩])
     .ret)))) }
def HC43 (P : Program) (N : Nat → Nat) : Prop := HasF P (N 43) (C43 N) ∧ HC42 P N ∧ HC32 P N
def f43 (k : Nat) (a0 : (List UInt8)) (a1 : Int) (a2 : Int) : Option Int := (f42 k a0 a1 a2).bind fun r10 => cond (decide (a2 ≠ (0 : Int))) (some a2) ((f32 k a0 a1 a2).bind fun r30 => cond (decide ((IntKind.i64.wrap (((a0.length : Nat) : Int) - a1)) > (0 : Int))) (some (4 : Int)) (some (0 : Int)))
theorem F43 {P : Program} {N : Nat → Nat} (hmix : P.follows .mixedOrders = true) (hc : HC43 P N) {k : Nat} {a0 : (List UInt8)} {a1 : Int} {a2 : Int} {r : Int} (h : f43 k a0 a1 a2 = some r) :
    ACalls P (N 43) [(.ptr 0 0)] [(0, (.cells [(.d (.sl (List.map byteD a0))), (.d (.int .i64 a1)), (.d (.int .i64 a2))]))] (.d (.int .i64 r)) [(0, (.cells [(.d (.sl (List.map byteD a0))), (.d (.int .i64 a1)), (.d (.int .i64 a2))]))] := by
  refine acalls_canon (F := C43 N) hc.1 1 1 rfl ?_
  unfold f43 at h
  dsimp only [C43, startL]
  refine AWc.seq ?_
  refine AWc.rg hmix rfl rfl ?_
  refine RegV.p0 rfl rfl rfl ?_
  refine RegV.nil0 ?_
  refine AWc.seq ?_
  refine AWc.seq ?_
  refine AWc.rg hmix rfl rfl ?_
  refine RegV.p0 rfl rfl rfl ?_
  obtain ⟨r10, e10, h⟩ := bind_some h
  refine RegV.callS (q := true) (H' := [(0, (.cells [(.d (.sl (List.map byteD a0))), (.d (.int .i64 a1)), (.d (.int .i64 a2))]))]) (c' := 1) (show ACalls P (N 42) [(.ptr 0 0)] [(0, (.cells [(.d (.sl (List.map byteD a0))), (.d (.int .i64 a1)), (.d (.int .i64 a2))]))] (.d (.int .i64 a2)) [(0, (.cells [(.d (.sl (List.map byteD a0))), (.d (.int .i64 a1)), (.d (.int .i64 a2))]))] from ACalls.use (F42 hmix hc.2.1 e10) [(0, 0)] 1 rfl) rfl rfl rfl rfl (.cons (.refl _) .nil) (.refl _) (fun _ => rfl) rfl (hasCons rfl hasNil) rfl rfl rfl rfl ?_
  refine RegV.p0 rfl rfl rfl ?_
  refine RegV.nil0 ?_
  refine AWc.seq ?_
  refine AWc.rg hmix rfl rfl ?_
  refine RegV.p0 rfl rfl rfl ?_
  refine RegV.p0 (v := (.d (.bool (decide (a2 ≠ (0 : Int)))))) rfl rfl rfl ?_
  refine RegV.nil0 ?_
  refine AWc.cond rfl (fun c17 => ?_) (fun c17 => ?_)
  · have h := cond_pos c17 h
    refine AWc.seq ?_
    refine AWc.rg hmix rfl rfl ?_
    refine RegV.p0 rfl rfl rfl ?_
    refine RegV.p0 rfl rfl rfl ?_
    refine RegV.nil0 ?_
    have hr := Option.some.inj h
    subst hr
    exact AWc.ret (canQ (N := 12) (k := 1) (l' := [(2, (.d (.int .i64 a2)))]) (H' := [(0, (.cells [(.d (.sl (List.map byteD a0))), (.d (.int .i64 a1)), (.d (.int .i64 a2))]))]) rfl ⟨rfl, [], [], rfl, rfl, ⟨⟨_, rfl, (.refl _)⟩, rfl, trivial⟩, ⟨⟨_, rfl, (.refl _)⟩, rfl, rfl, trivial⟩⟩ (doneA (.inr rfl) rfl ⟨trivial, trivial⟩ (.refl _) (hasCons rfl hasNil)))
  · have h := cond_neg c17 h
    refine AWc.skip ?_
    refine AWc.seq ?_
    refine AWc.seq ?_
    refine AWc.rg hmix rfl rfl ?_
    refine RegV.p0 rfl rfl rfl ?_
    obtain ⟨r30, e30, h⟩ := bind_some h
    refine RegV.callS (q := true) (H' := [(0, (.cells [(.d (.sl (List.map byteD a0))), (.d (.int .i64 a1)), (.d (.int .i64 a2))]))]) (c' := 1) (show ACalls P (N 32) [(.ptr 0 0)] [(0, (.cells [(.d (.sl (List.map byteD a0))), (.d (.int .i64 a1)), (.d (.int .i64 a2))]))] (.d (.int .i64 (IntKind.i64.wrap (((a0.length : Nat) : Int) - a1)))) [(0, (.cells [(.d (.sl (List.map byteD a0))), (.d (.int .i64 a1)), (.d (.int .i64 a2))]))] from ACalls.use (F32 hmix hc.2.2 e30) [(0, 0)] 1 rfl) rfl rfl rfl rfl (.cons (.refl _) .nil) (.refl _) (fun _ => rfl) rfl (hasCons rfl hasNil) rfl rfl rfl rfl ?_
    refine RegV.p0 (v := (.d (.bool (decide ((IntKind.i64.wrap (((a0.length : Nat) : Int) - a1)) > (0 : Int)))))) rfl rfl rfl ?_
    refine RegV.nil0 ?_
    refine AWc.cond rfl (fun c32 => ?_) (fun c32 => ?_)
    · have h := cond_pos c32 h
      refine AWc.seq ?_
      refine AWc.rg hmix rfl rfl ?_
      refine RegV.p0 rfl rfl rfl ?_
      refine RegV.nil0 ?_
      have hr := Option.some.inj h
      subst hr
      exact AWc.ret (canQ (N := 12) (k := 1) (l' := [(2, (.d (.int .i64 (4 : Int))))]) (H' := [(0, (.cells [(.d (.sl (List.map byteD a0))), (.d (.int .i64 a1)), (.d (.int .i64 a2))]))]) rfl ⟨rfl, [], [], rfl, rfl, ⟨⟨_, rfl, (.refl _)⟩, rfl, trivial⟩, ⟨⟨_, rfl, (.refl _)⟩, rfl, rfl, trivial⟩⟩ (doneA (.inr rfl) rfl ⟨trivial, trivial⟩ (.refl _) (hasCons rfl hasNil)))
    · have h := cond_neg c32 h
      refine AWc.skip ?_
      refine AWc.seq ?_
      refine AWc.rg hmix rfl rfl ?_
      refine RegV.p0 rfl rfl rfl ?_
      refine RegV.nil0 ?_
      have hr := Option.some.inj h
      subst hr
      exact AWc.ret (canQ (N := 12) (k := 1) (l' := [(2, (.d (.int .i64 (0 : Int))))]) (H' := [(0, (.cells [(.d (.sl (List.map byteD a0))), (.d (.int .i64 a1)), (.d (.int .i64 a2))]))]) rfl ⟨rfl, [], [], rfl, rfl, ⟨⟨_, rfl, (.refl _)⟩, rfl, trivial⟩, ⟨⟨_, rfl, (.refl _)⟩, rfl, rfl, trivial⟩⟩ (doneA (.inr rfl) rfl ⟨trivial, trivial⟩ (.refl _) (hasCons rfl hasNil)))
end Go.Proofs.Abs
