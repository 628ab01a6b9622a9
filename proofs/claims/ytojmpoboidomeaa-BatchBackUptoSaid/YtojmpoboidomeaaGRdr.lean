/- Written by gen.py: functions of the program as Lean functions, and that the code comes to them. -/
import Derived.Test.YtojmpoboidomeaaGCodb
set_option linter.unusedVariables false
set_option linter.unusedSimpArgs false
set_option maxRecDepth 100000
set_option maxHeartbeats 4000000
namespace Go.Proofs.Abs
open Go
structure TMessage where
  fOffset : Int
  fProducer : Int
  fSeq : Int
  fVersion : Int
  fData : (List UInt8)
instance : Inhabited TMessage := ⟨⟨default, default, default, default, default⟩⟩
instance : DecidableEq TMessage := fun a b => decidable_of_iff (a.fOffset = b.fOffset ∧ a.fProducer = b.fProducer ∧ a.fSeq = b.fSeq ∧ a.fVersion = b.fVersion ∧ a.fData = b.fData ∧ True) ⟨fun h => by cases a; cases b; simp_all, fun h => by subst h; simp⟩
def TMessage.enc (x : TMessage) : D := .agg [.int .u64 x.fOffset, .int .u64 x.fProducer, .int .u64 x.fSeq, .int .i64 x.fVersion, .sl (List.map byteD x.fData)]
theorem TMessage.ok : EncOK TMessage.enc 5 true := ⟨fun _ => rfl, fun _ c hc => by simp only [TMessage.enc, D.cells, List.mem_cons, List.not_mem_nil, or_false] at hc; rcases hc with rfl | rfl | rfl | rfl | rfl <;> rfl, fun _ => rfl⟩
def TMessage.wf (x : TMessage) : Prop := (0 ≤ x.fOffset ∧ x.fOffset ≤ 18446744073709551615) ∧ (0 ≤ x.fProducer ∧ x.fProducer ≤ 18446744073709551615) ∧ (0 ≤ x.fSeq ∧ x.fSeq ≤ 18446744073709551615) ∧ (-9223372036854775808 ≤ x.fVersion ∧ x.fVersion ≤ 9223372036854775807) ∧ (∀ e0 ∈ x.fData, True) ∧ True
def TMessage.sz (x : TMessage) : Nat := (1 + (1 + (1 + (1 + (((x.fData.map (fun _ => 1)).sum + 1) + 0))))) + 1
/-- slices.Grow[[]byte,byte] -/
def C111 (N : Nat → Nat) : AFunc := { n := 27, params := 2, res := [.tmp 4], body :=
 (.seq (.region false [⟨(some 4), .mv (.k .nils), none, []⟩])
  (.seq (.seq (.region false [⟨(some 5), .mv (.t 1), none, []⟩,
     ⟨(some 6), .bin .lss (.t 5) (.k (.d (.int .i64 0))), none, [0]⟩])
    (.cond (.t 6) (.region false [⟨(some 7), .bad, none, []⟩,
      ⟨none, .bad, none, [0]⟩])
     (.skip)))
   (.seq (.seq (.region false [⟨(some 8), .mv (.t 1), none, []⟩,
      ⟨(some 9), .mv (.t 0), none, []⟩,
      ⟨(some 10), .cap (.t 9), none, [1]⟩,
      ⟨(some 11), .mv (.t 0), none, []⟩,
      ⟨(some 12), .len (.t 11), none, [3]⟩,
      ⟨(some 13), .bin .sub (.t 10) (.t 12), none, [2, 4]⟩,
      ⟨(some 14), .bin .sub (.t 8) (.t 13), none, [0, 5]⟩,
      ⟨(some 1), .mv (.t 14), none, [6, 0, 1, 2, 3, 4, 5]⟩])
     (.seq (.region false [⟨(some 15), .mv (.t 1), none, []⟩,
       ⟨(some 16), .bin .gtr (.t 15) (.k (.d (.int .i64 0))), none, [0]⟩])
      (.cond (.t 16) (.region false [⟨(some 17), .mv (.t 0), none, []⟩,
        ⟨(some 18), .mv (.t 0), none, []⟩,
        ⟨(some 19), .cap (.t 18), none, [1]⟩,
        ⟨(some 20), .slc (.t 17) none (some (.t 19)) none 1, none, [0, 2]⟩,
        ⟨(some 21), .mv (.t 1), none, []⟩,
        ⟨(some 22), .grow (.t 20) (.t 21) 1 1 [(.int .u8 0)], none, [3, 4]⟩,
        ⟨(some 23), .mv (.t 0), none, []⟩,
        ⟨(some 24), .len (.t 23), none, [6]⟩,
        ⟨(some 25), .slc (.t 22) none (some (.t 24)) none 1, none, [5, 7]⟩,
        ⟨(some 0), .mv (.t 25), none, [8, 5, 0, 1, 2, 3, 4, 6, 7]⟩])
       (.skip))))
    (.seq (.region false [⟨(some 26), .mv (.t 0), none, []⟩,
      ⟨(some 4), .mv (.t 26), none, [0]⟩])
     .ret)))) }
def HC111 (P : Program) (N : Nat → Nat) : Prop := HasF P (N 111) (C111 N)
def f111 (k : Nat) (a0 : Int) : Option Unit := gd (0 ≤ a0 ∧ a0 * 1 ≤ 281474976710656) (some ())
theorem F111 {P : Program} {N : Nat → Nat} (hmix : P.follows .mixedOrders = true) (hc : HC111 P N) {k : Nat} {a0 : Int} {r : Unit} (h : f111 k a0 = some r) :
    ACalls P (N 111) [.nils, .d (.int .i64 a0)] [] (.ap 0 1 (List.map byteD ([] : List UInt8))) [(0, (.tok ((List.map byteD ([] : List UInt8)).length * 1)))] := by
  unfold f111 at h
  obtain ⟨⟨b, b'⟩, h⟩ := gd_some h
  exact grow_gen hmix hc rfl rfl rfl b b' (by omega)
/-- slices.Concat[[]byte,byte] -/
def C91 (N : Nat → Nat) : AFunc := { n := 36, params := 1, res := [.tmp 2], body :=
 (.seq (.region false [⟨(some 2), .mv (.k .nils), none, []⟩])
  (.seq (.region false [⟨(some 3), .mv (.k (.d (.int .i64 0))), none, []⟩])
   (.seq (.seq (.region false [⟨(some 9), .mv (.t 0), none, []⟩,
      ⟨(some 10), .len (.t 9), none, [0]⟩,
      ⟨(some 11), .mv (.k (.d (.int .i64 0))), none, []⟩])
     (.block 0 (.loop (.seq (.region false [⟨(some 12), .bin .lss (.t 11) (.t 10), none, []⟩])
        (.seq (.cond (.t 12) (.skip)
          (.exit 0))
         (.seq (.block 1 (.seq (.region false [⟨(some 13), .iaddr (.t 9) (.t 11) 1, none, []⟩,
             ⟨(some 14), .load (.t 13) 1 false, none, [0]⟩,
             ⟨(some 5), .mv (.t 14), none, [1, 0]⟩])
            (.seq (.region false [⟨(some 15), .mv (.t 3), none, []⟩,
              ⟨(some 16), .mv (.t 5), none, []⟩,
              ⟨(some 17), .len (.t 16), none, [1]⟩,
              ⟨(some 18), .bin .add (.t 15) (.t 17), none, [0, 2]⟩,
              ⟨(some 3), .mv (.t 18), none, [3, 0, 1, 2]⟩])
             (.seq (.region false [⟨(some 19), .mv (.t 3), none, []⟩,
               ⟨(some 20), .bin .lss (.t 19) (.k (.d (.int .i64 0))), none, [0]⟩])
              (.cond (.t 20) (.region false [⟨(some 21), .bad, none, []⟩,
                ⟨none, .bad, none, [0]⟩])
               (.skip))))))
          (.region false [⟨(some 22), .bin .add (.t 11) (.k (.d (.int .i64 1))), none, []⟩,
           ⟨(some 11), .mv (.t 22), none, [0]⟩])))))))
    (.seq (.region false [⟨(some 23), .mv (.t 3), none, []⟩,
      ⟨(some 24), .call (.k (.d (.fn (N 111)))) [(.k .nils), (.t 23)], none, [0]⟩,
      ⟨(some 6), .mv (.t 24), none, [1, 0]⟩])
     (.seq (.seq (.region false [⟨(some 25), .mv (.t 0), none, []⟩,
        ⟨(some 26), .len (.t 25), none, [0]⟩,
        ⟨(some 27), .mv (.k (.d (.int .i64 0))), none, []⟩])
       (.block 2 (.loop (.seq (.region false [⟨(some 28), .bin .lss (.t 27) (.t 26), none, []⟩])
          (.seq (.cond (.t 28) (.skip)
            (.exit 2))
           (.seq (.block 3 (.seq (.region false [⟨(some 29), .iaddr (.t 25) (.t 27) 1, none, []⟩,
               ⟨(some 30), .load (.t 29) 1 false, none, [0]⟩,
               ⟨(some 8), .mv (.t 30), none, [1, 0]⟩])
              (.region false [⟨(some 31), .mv (.t 6), none, []⟩,
               ⟨(some 32), .mv (.t 8), none, []⟩,
               ⟨(some 33), .app (.t 31) (.t 32) 1 1 [(.int .u8 0)], none, [0, 1]⟩,
               ⟨(some 6), .mv (.t 33), none, [2, 0, 1]⟩])))
            (.region false [⟨(some 34), .bin .add (.t 27) (.k (.d (.int .i64 1))), none, []⟩,
             ⟨(some 27), .mv (.t 34), none, [0]⟩])))))))
      (.seq (.region false [⟨(some 35), .mv (.t 6), none, []⟩,
        ⟨(some 2), .mv (.t 35), none, [0]⟩])
       .ret)))))) }
def HC91 (P : Program) (N : Nat → Nat) : Prop := HasF P (N 91) (C91 N) ∧ HC111 P N
def f91_l70 (a0 : (List (List UInt8))) : Nat → (List UInt8) → Int → Option (LR2 (List UInt8) Unit (List UInt8))
  | 0, _, _ => none
  | k + 1, y70_1, y70_2 => cond (decide (y70_2 < ((a0.length : Nat) : Int))) (gd (0 ≤ y70_2 ∧ y70_2 < ((a0.length : Nat) : Int)) (gd ((y70_1.length + (rd a0 y70_2).length) * 2 * 1 ≤ 281474976710656) (f91_l70 a0 k (y70_1 ++ (rd a0 y70_2)) (IntKind.i64.wrap (y70_2 + (1 : Int)))))) (some (.b0 y70_1))
def f91_j57 (k : Nat) (a0 : (List (List UInt8))) (j57_1 : Int) : Option (List UInt8) := (f111 k j57_1).bind fun r61 => (f91_l70 a0 k ([] : List UInt8) (0 : Int)).bind fun o70 => match o70 with | .b0 x70_1 => some x70_1 | _ => none
def f91_l16 (a0 : (List (List UInt8))) : Nat → Int → Int → Option (LR2 Int Unit (List UInt8))
  | 0, _, _ => none
  | k + 1, y16_1, y16_2 => cond (decide (y16_2 < ((a0.length : Nat) : Int))) (gd (0 ≤ y16_2 ∧ y16_2 < ((a0.length : Nat) : Int)) (cond (decide ((IntKind.i64.wrap (y16_1 + (((rd a0 y16_2).length : Nat) : Int))) < (0 : Int))) (none) (f91_l16 a0 k (IntKind.i64.wrap (y16_1 + (((rd a0 y16_2).length : Nat) : Int))) (IntKind.i64.wrap (y16_2 + (1 : Int)))))) (some (.b0 y16_1))
def f91 (k : Nat) (a0 : (List (List UInt8))) : Option (List UInt8) := (f91_l16 a0 k (0 : Int) (0 : Int)).bind fun o16 => match o16 with | .b0 x16_1 => f91_j57 k a0 x16_1 | _ => none
theorem F91 {P : Program} {N : Nat → Nat} (hmix : P.follows .mixedOrders = true) (hc : HC91 P N) {k : Nat} {a0 : (List (List UInt8))} {r : (List UInt8)} (h : f91 k a0 = some r) :
    ACalls P (N 91) [(.d (.sl (List.map (slE byteD) a0)))] [] (.ap 0 1 (List.map byteD r)) [(0, (.tok ((List.map byteD r).length * 1)))] := by
  refine acalls_canon (F := C91 N) hc.1 0 1 rfl ?_
  unfold f91 at h
  dsimp only [C91, startL]
  refine AWc.seq ?_
  refine AWc.rg hmix rfl rfl ?_
  refine RegV.p0 rfl rfl rfl ?_
  refine RegV.nil0 ?_
  refine AWc.seq ?_
  refine AWc.rg hmix rfl rfl ?_
  refine RegV.p0 rfl rfl rfl ?_
  refine RegV.nil0 ?_
  refine AWc.seqS (N := 36) 0 (fun (z : Int) => [(0, (.d (.sl (List.map (slE byteD) a0)))), (3, (.d (.int .i64 z)))]) (fun z => []) (fun z => f91_j57 k a0 z = some r) rfl_le ?_ ?_
  · refine AWc.seq ?_
    refine AWc.rg hmix rfl rfl ?_
    refine RegV.p0 rfl rfl rfl ?_
    refine RegV.len (xs := a0) (e := (slE byteD)) rfl rfl rfl rfl ?_
    refine RegV.p0 rfl rfl rfl ?_
    refine RegV.nil0 ?_
    obtain ⟨o16, h16, h⟩ := bind_some h
    refine AWc.block ?_
    refine AWc.loopK (N := 36) 0 (fun (x : (Int × Int)) => [(0, (.d (.sl (List.map (slE byteD) a0)))), (3, (.d (.int .i64 x.1))), (9, (.d (.sl (List.map (slE byteD) a0)))), (10, (.d (.int .i64 ((a0.length : Nat) : Int)))), (11, (.d (.int .i64 x.2)))]) (fun x => []) (fun k x => f91_l16 a0 k x.1 x.2 = some o16) k ((0 : Int), (0 : Int)) rfl_le (fun x hx => by cases hx) h16 ⟨rfl, [], [], rfl, rfl, ⟨⟨_, rfl, (.refl _)⟩, rfl, ⟨⟨_, rfl, (.refl _)⟩, rfl, ⟨⟨_, rfl, (.refl _)⟩, rfl, ⟨⟨_, rfl, (.refl _)⟩, rfl, ⟨⟨_, rfl, (.refl _)⟩, rfl, trivial⟩⟩⟩⟩⟩,  trivial⟩ ?_
    clear h16
    intro k
    rintro ⟨y16_1, y16_2⟩ h16
    dsimp only at h16 ⊢
    rw [f91_l16] at h16
    refine AWc.seq ?_
    refine AWc.rg hmix rfl rfl ?_
    refine RegV.p0 (v := (.d (.bool (decide (y16_2 < ((a0.length : Nat) : Int)))))) rfl rfl rfl ?_
    refine RegV.nil0 ?_
    refine AWc.seq ?_
    refine AWc.cond rfl (fun c23 => ?_) (fun c23 => ?_)
    · have h16 := cond_pos c23 h16
      refine AWc.skip ?_
      refine AWc.seq ?_
      refine AWc.block ?_
      refine AWc.seq ?_
      refine AWc.rg hmix rfl rfl ?_
      obtain ⟨b31, h16⟩ := gd_some h16
      refine RegV.iad (xs := a0) (e := (slE byteD)) rfl rfl rfl rfl (fun _ => rfl) b31 rfl ?_
      refine RegV.p0 (v := (.d (.sl (List.map byteD (rd a0 y16_2))))) rfl rfl rfl ?_
      refine RegV.p0 rfl rfl rfl ?_
      refine RegV.nil0 ?_
      refine AWc.seq ?_
      refine AWc.rg hmix rfl rfl ?_
      refine RegV.p0 rfl rfl rfl ?_
      refine RegV.p0 rfl rfl rfl ?_
      refine RegV.len (xs := (rd a0 y16_2)) (e := byteD) rfl rfl rfl rfl ?_
      refine RegV.p0 (v := (.d (.int .i64 (IntKind.i64.wrap (y16_1 + (((rd a0 y16_2).length : Nat) : Int)))))) rfl rfl rfl ?_
      refine RegV.p0 rfl rfl rfl ?_
      refine RegV.nil0 ?_
      refine AWc.seq ?_
      refine AWc.rg hmix rfl rfl ?_
      refine RegV.p0 rfl rfl rfl ?_
      refine RegV.p0 (v := (.d (.bool (decide ((IntKind.i64.wrap (y16_1 + (((rd a0 y16_2).length : Nat) : Int))) < (0 : Int)))))) rfl rfl rfl ?_
      refine RegV.nil0 ?_
      refine AWc.cond rfl (fun c47 => ?_) (fun c47 => ?_)
      · have h16 := cond_pos c47 h16
        refine AWc.rg hmix rfl rfl ?_
        cases h16
      · have h16 := cond_neg c47 h16
        refine AWc.skip ?_
        refine AWc.rg hmix rfl rfl ?_
        refine RegV.p0 (v := (.d (.int .i64 (IntKind.i64.wrap (y16_2 + (1 : Int)))))) rfl rfl rfl ?_
        refine RegV.p0 rfl rfl rfl ?_
        refine RegV.nil0 ?_
        exact ⟨((IntKind.i64.wrap (y16_1 + (((rd a0 y16_2).length : Nat) : Int))), (IntKind.i64.wrap (y16_2 + (1 : Int)))), h16, ⟨rfl, [], [], rfl, rfl, ⟨⟨_, rfl, (.refl _)⟩, rfl, ⟨⟨_, rfl, (.refl _)⟩, rfl, ⟨⟨_, rfl, (.refl _)⟩, rfl, ⟨⟨_, rfl, (.refl _)⟩, rfl, ⟨⟨_, rfl, (.refl _)⟩, rfl, trivial⟩⟩⟩⟩⟩,  trivial⟩⟩
    · have h16 := cond_neg c23 h16
      cases h16
      dsimp only at h
      refine AWc.exit ?_
      refine inBlk_eq ?_
      exact ⟨y16_1, h, ⟨rfl, [], [], rfl, rfl, ⟨⟨_, rfl, (.refl _)⟩, rfl, ⟨⟨_, rfl, (.refl _)⟩, rfl, trivial⟩⟩,  trivial⟩⟩
  · intro j57_1 h
    unfold f91_j57 at h
    refine AWc.seq ?_
    refine AWc.rg hmix rfl rfl ?_
    refine RegV.p0 rfl rfl rfl ?_
    obtain ⟨r61, e61, h⟩ := bind_some h
    refine RegV.callS (q := false) (H' := [(0, (.tok ((List.map byteD ([] : List UInt8)).length * 1)))]) (c' := 1) (show ACalls P (N 111) [.nils, (.d (.int .i64 j57_1))] [] (.ap 0 1 (List.map byteD ([] : List UInt8))) [(0, (.tok ((List.map byteD ([] : List UInt8)).length * 1)))] from ACalls.use (F111 hmix hc.2 e61) [(0, 0)] 1 rfl) rfl rfl rfl rfl (.cons (.refl _) (.cons (.refl _) .nil)) (.refl _) (fun h => by cases h) rfl hasNil rfl rfl rfl rfl ?_
    refine RegV.p0 rfl rfl rfl ?_
    refine RegV.nil0 ?_
    refine AWc.seq ?_
    refine AWc.seq ?_
    refine AWc.rg hmix rfl rfl ?_
    refine RegV.p0 rfl rfl rfl ?_
    refine RegV.len (xs := a0) (e := (slE byteD)) rfl rfl rfl rfl ?_
    refine RegV.p0 rfl rfl rfl ?_
    refine RegV.nil0 ?_
    obtain ⟨o70, h70, h⟩ := bind_some h
    refine AWc.block ?_
    refine AWc.loopK (N := 36) 1 (fun (x : ((List UInt8) × Int)) => [(6, (.ap 0 1 (List.map byteD x.1))), (25, (.d (.sl (List.map (slE byteD) a0)))), (26, (.d (.int .i64 ((a0.length : Nat) : Int)))), (27, (.d (.int .i64 x.2)))]) (fun x => [(0, (.tok ((List.map byteD x.1).length * 1)))]) (fun k x => f91_l70 a0 k x.1 x.2 = some o70) k (([] : List UInt8), (0 : Int)) rfl_le (fun x hx => by cases hx) h70 ⟨rfl, [], [], rfl, rfl, ⟨⟨_, rfl, (.refl _)⟩, rfl, ⟨⟨_, rfl, (.refl _)⟩, rfl, ⟨⟨_, rfl, (.refl _)⟩, rfl, ⟨⟨_, rfl, (.refl _)⟩, rfl, trivial⟩⟩⟩⟩, ⟨⟨_, rfl, (.refl _)⟩, rfl, rfl, trivial⟩⟩ ?_
    clear h70
    intro k
    rintro ⟨y70_1, y70_2⟩ h70
    dsimp only at h70 ⊢
    rw [f91_l70] at h70
    refine AWc.seq ?_
    refine AWc.rg hmix rfl rfl ?_
    refine RegV.p0 (v := (.d (.bool (decide (y70_2 < ((a0.length : Nat) : Int)))))) rfl rfl rfl ?_
    refine RegV.nil0 ?_
    refine AWc.seq ?_
    refine AWc.cond rfl (fun c77 => ?_) (fun c77 => ?_)
    · have h70 := cond_pos c77 h70
      refine AWc.skip ?_
      refine AWc.seq ?_
      refine AWc.block ?_
      refine AWc.seq ?_
      refine AWc.rg hmix rfl rfl ?_
      obtain ⟨b85, h70⟩ := gd_some h70
      refine RegV.iad (xs := a0) (e := (slE byteD)) rfl rfl rfl rfl (fun _ => rfl) b85 rfl ?_
      refine RegV.p0 (v := (.d (.sl (List.map byteD (rd a0 y70_2))))) rfl rfl rfl ?_
      refine RegV.p0 rfl rfl rfl ?_
      refine RegV.nil0 ?_
      refine AWc.rg hmix rfl rfl ?_
      refine RegV.p0 rfl rfl rfl ?_
      refine RegV.p0 rfl rfl rfl ?_
      obtain ⟨b92, h70⟩ := gd_some h70
      refine RegV.appA (xs := y70_1) (ys := (rd a0 y70_2)) (e := byteD) (H1 := []) rfl rfl rfl rfl (fun _ => rfl) rfl rfl b92 rfl rfl rfl ?_
      refine RegV.p0 rfl rfl rfl ?_
      refine RegV.nil0 ?_
      refine AWc.rg hmix rfl rfl ?_
      refine RegV.p0 (v := (.d (.int .i64 (IntKind.i64.wrap (y70_2 + (1 : Int)))))) rfl rfl rfl ?_
      refine RegV.p0 rfl rfl rfl ?_
      refine RegV.nil0 ?_
      exact ⟨((y70_1 ++ (rd a0 y70_2)), (IntKind.i64.wrap (y70_2 + (1 : Int)))), h70, ⟨rfl, [], [(0, 1)], rfl, rfl, ⟨⟨_, rfl, (.refl _)⟩, rfl, ⟨⟨_, rfl, (.refl _)⟩, rfl, ⟨⟨_, rfl, (.refl _)⟩, rfl, ⟨⟨_, rfl, (.refl _)⟩, rfl, trivial⟩⟩⟩⟩, ⟨⟨_, rfl, (.refl _)⟩, rfl, rfl, trivial⟩⟩⟩
    · have h70 := cond_neg c77 h70
      cases h70
      dsimp only at h
      refine AWc.exit ?_
      refine inBlk_eq ?_
      refine AWc.seq ?_
      refine AWc.rg hmix rfl rfl ?_
      refine RegV.p0 rfl rfl rfl ?_
      refine RegV.p0 rfl rfl rfl ?_
      refine RegV.nil0 ?_
      have hr := Option.some.inj h
      subst hr
      exact AWc.ret (canQ (N := 36) (k := 1) (l' := [(2, (.ap 0 1 (List.map byteD y70_1)))]) (H' := [(0, (.tok ((List.map byteD y70_1).length * 1)))]) rfl ⟨rfl, [], [], rfl, rfl, ⟨⟨_, rfl, (.refl _)⟩, rfl, trivial⟩, ⟨⟨_, rfl, (.refl _)⟩, rfl, rfl, trivial⟩⟩ (doneA (.inr rfl) rfl ⟨trivial, trivial⟩ (.refl _) (hasCons rfl hasNil)))
/-- courant/batch.Bytes -/
def C54 (N : Nat → Nat) : AFunc := { n := 17, params := 1, res := [.tmp 2], body :=
 (.seq (.region false [⟨(some 1), .box (.t 0), none, []⟩,
   ⟨(some 2), .mv (.k .nils), none, []⟩])
  (.seq (.region true [⟨(some 3), .faddr (.t 1) 1, none, []⟩,
    ⟨(some 4), .load (.t 3) 1 false, none, [0]⟩,
    ⟨(some 5), .call (.k (.d (.fn (N 23)))) [(.t 4)], none, [1]⟩,
    ⟨(some 6), .faddr (.t 1) 2, none, []⟩,
    ⟨(some 7), .load (.t 6) 1 false, none, [3]⟩,
    ⟨(some 8), .call (.k (.d (.fn (N 23)))) [(.t 7)], none, [4, 2]⟩,
    ⟨(some 9), .faddr (.t 1) 3, none, []⟩,
    ⟨(some 10), .load (.t 9) 1 false, none, [6]⟩,
    ⟨(some 11), .call (.k (.d (.fn (N 25)))) [(.t 10)], none, [7, 5]⟩,
    ⟨(some 12), .faddr (.t 1) 4, none, []⟩,
    ⟨(some 13), .load (.t 12) 1 false, none, [9]⟩,
    ⟨(some 14), .call (.k (.d (.fn (N 27)))) [(.t 13)], none, [10, 8]⟩,
    ⟨(some 15), .bslice 4 1 [(.sl [])] [(0, (.t 5)), (1, (.t 8)), (2, (.t 11)), (3, (.t 14))], none, [2, 5, 8, 11]⟩,
    ⟨(some 16), .call (.k (.d (.fn (N 91)))) [(.t 15)], none, [12, 11]⟩,
    ⟨(some 2), .mv (.t 16), none, [13, 0, 1, 2, 3, 4, 5, 6, 7, 8, 9, 10, 11, 12]⟩])
   .ret)) }
def HC54 (P : Program) (N : Nat → Nat) : Prop := HasF P (N 54) (C54 N) ∧ HC23 P N ∧ HC25 P N ∧ HC27 P N ∧ HC91 P N
def f54 (k : Nat) (a0 : TMessage) : Option (List UInt8) := (f23 k a0.fProducer).bind fun r11 => (f23 k a0.fSeq).bind fun r14 => (f25 k a0.fVersion).bind fun r17 => (f27 k a0.fData).bind fun r20 => (f91 k ([r11, r14, r17, r20] : List (List UInt8))).bind fun r22 => some r22
theorem F54 {P : Program} {N : Nat → Nat} (hmix : P.follows .mixedOrders = true) (hc : HC54 P N) {k : Nat} {a0 : TMessage} {r : (List UInt8)} (h : f54 k a0 = some r) :
    ACalls P (N 54) [(.d (TMessage.enc a0))] [] (.ap 0 1 (List.map byteD r)) [(0, (.tok ((List.map byteD r).length * 1)))] := by
  refine acalls_canon (F := C54 N) hc.1 0 1 rfl ?_
  unfold f54 at h
  dsimp only [C54, startL]
  refine AWc.seq ?_
  refine AWc.rg hmix rfl rfl ?_
  refine RegV.evS (own := false) (v := (.ptr 0 0)) (H' := [(0, (.cells [(.d (.int .u64 a0.fOffset)), (.d (.int .u64 a0.fProducer)), (.d (.int .u64 a0.fSeq)), (.d (.int .i64 a0.fVersion)), (.d (.sl (List.map byteD a0.fData)))]))]) (c' := 1) rfl rfl trivial rfl rfl rfl rfl rfl rfl ?_
  refine RegV.p0 rfl rfl rfl ?_
  refine RegV.nil0 ?_
  refine AWc.seq ?_
  refine AWc.rg hmix rfl rfl ?_
  refine RegV.p0 (v := (.ptr 0 1)) rfl rfl rfl ?_
  refine RegV.ld (v := (.d (.int .u64 a0.fProducer))) (H' := [(0, (.cells [(.d (.int .u64 a0.fOffset)), (.d (.int .u64 a0.fProducer)), (.d (.int .u64 a0.fSeq)), (.d (.int .i64 a0.fVersion)), (.d (.sl (List.map byteD a0.fData)))]))]) rfl rfl trivial rfl rfl rfl rfl rfl ?_
  obtain ⟨r11, e11, h⟩ := bind_some h
  refine RegV.callS (q := false) (H' := [(1, (.tok ((List.map byteD r11).length * 1))), (0, (.cells [(.d (.int .u64 a0.fOffset)), (.d (.int .u64 a0.fProducer)), (.d (.int .u64 a0.fSeq)), (.d (.int .i64 a0.fVersion)), (.d (.sl (List.map byteD a0.fData)))]))]) (c' := 2) (show ACalls P (N 23) [(.d (.int .u64 a0.fProducer))] [] (.ap 1 1 (List.map byteD r11)) [(1, (.tok ((List.map byteD r11).length * 1)))] from ACalls.use (F23 hmix hc.2.1 e11) [(0, 1)] 1 rfl) rfl rfl rfl rfl (.cons (.refl _) .nil) (.refl _) (fun h => by cases h) rfl hasNil rfl rfl rfl rfl ?_
  refine RegV.p0 (v := (.ptr 0 2)) rfl rfl rfl ?_
  refine RegV.ld (v := (.d (.int .u64 a0.fSeq))) (H' := [(0, (.cells [(.d (.int .u64 a0.fOffset)), (.d (.int .u64 a0.fProducer)), (.d (.int .u64 a0.fSeq)), (.d (.int .i64 a0.fVersion)), (.d (.sl (List.map byteD a0.fData)))])), (1, (.tok ((List.map byteD r11).length * 1)))]) rfl rfl trivial rfl rfl rfl rfl rfl ?_
  obtain ⟨r14, e14, h⟩ := bind_some h
  refine RegV.callS (q := false) (H' := [(2, (.tok ((List.map byteD r14).length * 1))), (0, (.cells [(.d (.int .u64 a0.fOffset)), (.d (.int .u64 a0.fProducer)), (.d (.int .u64 a0.fSeq)), (.d (.int .i64 a0.fVersion)), (.d (.sl (List.map byteD a0.fData)))])), (1, (.tok ((List.map byteD r11).length * 1)))]) (c' := 3) (show ACalls P (N 23) [(.d (.int .u64 a0.fSeq))] [] (.ap 2 1 (List.map byteD r14)) [(2, (.tok ((List.map byteD r14).length * 1)))] from ACalls.use (F23 hmix hc.2.1 e14) [(0, 2)] 1 rfl) rfl rfl rfl rfl (.cons (.refl _) .nil) (.refl _) (fun h => by cases h) rfl hasNil rfl rfl rfl rfl ?_
  refine RegV.p0 (v := (.ptr 0 3)) rfl rfl rfl ?_
  refine RegV.ld (v := (.d (.int .i64 a0.fVersion))) (H' := [(0, (.cells [(.d (.int .u64 a0.fOffset)), (.d (.int .u64 a0.fProducer)), (.d (.int .u64 a0.fSeq)), (.d (.int .i64 a0.fVersion)), (.d (.sl (List.map byteD a0.fData)))])), (2, (.tok ((List.map byteD r14).length * 1))), (1, (.tok ((List.map byteD r11).length * 1)))]) rfl rfl trivial rfl rfl rfl rfl rfl ?_
  obtain ⟨r17, e17, h⟩ := bind_some h
  refine RegV.callS (q := false) (H' := [(3, (.tok ((List.map byteD r17).length * 1))), (0, (.cells [(.d (.int .u64 a0.fOffset)), (.d (.int .u64 a0.fProducer)), (.d (.int .u64 a0.fSeq)), (.d (.int .i64 a0.fVersion)), (.d (.sl (List.map byteD a0.fData)))])), (2, (.tok ((List.map byteD r14).length * 1))), (1, (.tok ((List.map byteD r11).length * 1)))]) (c' := 4) (show ACalls P (N 25) [(.d (.int .i64 a0.fVersion))] [] (.ap 3 1 (List.map byteD r17)) [(3, (.tok ((List.map byteD r17).length * 1)))] from ACalls.use (F25 hmix hc.2.2.1 e17) [(0, 3)] 1 rfl) rfl rfl rfl rfl (.cons (.refl _) .nil) (.refl _) (fun h => by cases h) rfl hasNil rfl rfl rfl rfl ?_
  refine RegV.p0 (v := (.ptr 0 4)) rfl rfl rfl ?_
  refine RegV.ld (v := (.d (.sl (List.map byteD a0.fData)))) (H' := [(0, (.cells [(.d (.int .u64 a0.fOffset)), (.d (.int .u64 a0.fProducer)), (.d (.int .u64 a0.fSeq)), (.d (.int .i64 a0.fVersion)), (.d (.sl (List.map byteD a0.fData)))])), (3, (.tok ((List.map byteD r17).length * 1))), (2, (.tok ((List.map byteD r14).length * 1))), (1, (.tok ((List.map byteD r11).length * 1)))]) rfl rfl trivial rfl rfl rfl rfl rfl ?_
  obtain ⟨r20, e20, h⟩ := bind_some h
  refine RegV.callS (q := false) (H' := [(4, (.tok ((List.map byteD r20).length * 1))), (0, (.cells [(.d (.int .u64 a0.fOffset)), (.d (.int .u64 a0.fProducer)), (.d (.int .u64 a0.fSeq)), (.d (.int .i64 a0.fVersion)), (.d (.sl (List.map byteD a0.fData)))])), (3, (.tok ((List.map byteD r17).length * 1))), (2, (.tok ((List.map byteD r14).length * 1))), (1, (.tok ((List.map byteD r11).length * 1)))]) (c' := 5) (show ACalls P (N 27) [(.d (.sl (List.map byteD a0.fData)))] [] (.ap 4 1 (List.map byteD r20)) [(4, (.tok ((List.map byteD r20).length * 1)))] from ACalls.use (F27 hmix hc.2.2.2.1 e20) [(0, 4)] 1 rfl) rfl rfl rfl rfl (.cons (.refl _) .nil) (.refl _) (fun h => by cases h) rfl hasNil rfl rfl rfl rfl ?_
  refine RegV.p1 (v := (.d (.sl (List.map (slE byteD) ([r11, r14, r17, r20] : List (List UInt8)))))) rfl rfl (by exact ⟨rfl, Nat.le_of_ble_eq_true rfl, mapLen (e := (slE byteD)) (xs := ([r11, r14, r17, r20] : List (List UInt8))) (z := 1) (fun _ => rfl)⟩) rfl rfl ?_
  obtain ⟨r22, e22, h⟩ := bind_some h
  refine RegV.callS (q := false) (H' := [(5, (.tok ((List.map byteD r22).length * 1))), (4, (.tok ((List.map byteD r20).length * 1))), (0, (.cells [(.d (.int .u64 a0.fOffset)), (.d (.int .u64 a0.fProducer)), (.d (.int .u64 a0.fSeq)), (.d (.int .i64 a0.fVersion)), (.d (.sl (List.map byteD a0.fData)))])), (3, (.tok ((List.map byteD r17).length * 1))), (2, (.tok ((List.map byteD r14).length * 1))), (1, (.tok ((List.map byteD r11).length * 1)))]) (c' := 6) (show ACalls P (N 91) [(.d (.sl (List.map (slE byteD) ([r11, r14, r17, r20] : List (List UInt8)))))] [] (.ap 5 1 (List.map byteD r22)) [(5, (.tok ((List.map byteD r22).length * 1)))] from ACalls.use (F91 hmix hc.2.2.2.2 e22) [(0, 5)] 1 rfl) rfl rfl rfl rfl (.cons (.refl _) .nil) (.refl _) (fun h => by cases h) rfl hasNil rfl rfl rfl rfl ?_
  refine RegV.p0 rfl rfl rfl ?_
  refine RegV.nil1 (by kernel_rfl) ?_
  have hr := Option.some.inj h
  subst hr
  exact AWc.ret (canQ (N := 17) (k := 1) (l' := [(2, (.ap 0 1 (List.map byteD r22)))]) (H' := [(0, (.tok ((List.map byteD r22).length * 1)))]) rfl ⟨rfl, [], [(0, 5)], rfl, rfl, ⟨⟨_, rfl, (.refl _)⟩, rfl, trivial⟩, ⟨⟨_, rfl, (.refl _)⟩, rfl, rfl, trivial⟩⟩ (doneA (.inr rfl) rfl ⟨trivial, trivial⟩ (.refl _) (hasCons rfl hasNil)))
/-- courant/batch.Take -/
def C52 (N : Nat → Nat) : AFunc := { n := 29, params := 2, res := [.cell 4 5 true, .tmp 5], body :=
 (.seq (.region false [⟨(some 4), .alloc [(.int .u64 0), (.int .u64 0), (.int .u64 0), (.int .i64 0), (.sl [])], none, []⟩,
   ⟨(some 5), .mv (.k (.d (.int .i64 0))), none, []⟩])
  (.seq (.region false [⟨(some 9), .mv (.t 1), none, []⟩,
    ⟨(some 10), .call (.k (.d (.fn (N 30)))) [(.t 9)], none, [0]⟩,
    ⟨(some 6), .mv (.t 10), none, [1, 0]⟩])
   (.seq (.region false [⟨(some 11), .mv (.t 0), none, []⟩,
     ⟨(some 12), .mv (.t 6), none, []⟩,
     ⟨(some 13), .call (.k (.d (.fn (N 39)))) [(.t 12)], none, [1]⟩,
     ⟨(some 14), .mv (.t 6), none, []⟩,
     ⟨(some 15), .call (.k (.d (.fn (N 39)))) [(.t 14)], none, [3, 2]⟩,
     ⟨(some 16), .mv (.t 6), none, []⟩,
     ⟨(some 17), .call (.k (.d (.fn (N 40)))) [(.t 16)], none, [5, 4]⟩,
     ⟨(some 18), .build [(.int .u64 0), (.int .u64 0), (.int .u64 0), (.int .i64 0), (.sl [])] [(0, 1, (.t 11)), (1, 1, (.t 13)), (2, 1, (.t 15)), (3, 1, (.t 17))], none, [0, 2, 4, 6]⟩,
     ⟨(some 7), .alloc [(.int .u64 0), (.int .u64 0), (.int .u64 0), (.int .i64 0), (.sl [])], none, []⟩,
     ⟨none, .store (.t 7) (.t 18) 5, none, [8, 7, 6, 0, 1, 2, 3, 4, 5]⟩])
    (.seq (.region false [⟨(some 19), .mv (.t 6), none, []⟩,
      ⟨(some 20), .call (.k (.d (.fn (N 31)))) [(.t 19), (.k (.d (.int .i64 4096)))], none, [0]⟩,
      ⟨(some 21), .faddr (.t 7) 4, none, [0, 1]⟩,
      ⟨none, .store (.t 21) (.t 20) 1, none, [2, 1, 0]⟩])
     (.seq (.seq (.region false [⟨(some 22), .mv (.t 6), none, []⟩,
        ⟨(some 23), .call (.k (.d (.fn (N 43)))) [(.t 22)], none, [0]⟩,
        ⟨(some 8), .mv (.t 23), none, [1, 0]⟩])
       (.seq (.region false [⟨(some 24), .mv (.t 8), none, []⟩,
         ⟨(some 25), .bin .neq (.t 24) (.k (.d (.int .i64 0))), none, [0]⟩])
        (.cond (.t 25) (.seq (.region false [⟨(some 26), .build [(.int .u64 0), (.int .u64 0), (.int .u64 0), (.int .i64 0), (.sl [])] [], none, []⟩,
           ⟨(some 27), .mv (.t 8), none, []⟩,
           ⟨none, .store (.t 4) (.t 26) 5, none, [0]⟩,
           ⟨(some 5), .mv (.t 27), none, [1, 2, 0]⟩])
          .ret)
         (.skip))))
      (.seq (.region false [⟨(some 28), .load (.t 7) 5 true, none, []⟩,
        ⟨none, .store (.t 4) (.t 28) 5, none, [0]⟩,
        ⟨(some 5), .mv (.k (.d (.int .i64 0))), none, [1, 0]⟩])
       .ret)))))) }
def HC52 (P : Program) (N : Nat → Nat) : Prop := HasF P (N 52) (C52 N) ∧ HC30 P N ∧ HC39 P N ∧ HC40 P N ∧ HC31 P N ∧ HC43 P N
def f52 (k : Nat) (a0 : Int) (a1 : (List UInt8)) : Option (Int × Int × Int × Int × Int × (List UInt8)) := (f30 k a1).bind fun r10 => (f39 k a1 (0 : Int) (0 : Int)).bind fun r17 => (f39 k a1 r17.2.1 r17.2.2).bind fun r19 => (f40 k a1 r19.2.1 r19.2.2).bind fun r21 => (f31 k a1 r21.2.1 r21.2.2 (4096 : Int)).bind fun r29 => (f43 k a1 r29.2.1 r29.2.2).bind fun r37 => cond (decide (r37 ≠ (0 : Int))) (some (r37, (0 : Int), (0 : Int), (0 : Int), (0 : Int), ([] : List UInt8))) (some ((0 : Int), a0, r17.1, r19.1, r21.1, r29.1))
theorem F52 {P : Program} {N : Nat → Nat} (hmix : P.follows .mixedOrders = true) (hc : HC52 P N) {k : Nat} {a0 : Int} {a1 : (List UInt8)} {r : (Int × Int × Int × Int × Int × (List UInt8))} (h : f52 k a0 a1 = some r) :
    ACalls P (N 52) [(.d (.int .u64 a0)), (.d (.sl (List.map byteD a1)))] [] (.tup [(.d (.agg [(.int .u64 r.2.1), (.int .u64 r.2.2.1), (.int .u64 r.2.2.2.1), (.int .i64 r.2.2.2.2.1), (.sl (List.map byteD r.2.2.2.2.2))])), (.d (.int .i64 r.1))]) [] := by
  refine acalls_canon (F := C52 N) hc.1 0 0 rfl ?_
  unfold f52 at h
  dsimp only [C52, startL]
  refine AWc.seq ?_
  refine AWc.rg hmix rfl rfl ?_
  refine RegV.evS (own := false) (v := (.ptr 0 0)) (H' := [(0, (.cells [(.d (.int .u64 (0 : Int))), (.d (.int .u64 (0 : Int))), (.d (.int .u64 (0 : Int))), (.d (.int .i64 (0 : Int))), .nils]))]) (c' := 1) rfl rfl trivial rfl rfl rfl rfl rfl rfl ?_
  refine RegV.p0 rfl rfl rfl ?_
  refine RegV.nil0 ?_
  refine AWc.seq ?_
  refine AWc.rg hmix rfl rfl ?_
  refine RegV.p0 rfl rfl rfl ?_
  obtain ⟨r10, e10, h⟩ := bind_some h
  refine RegV.callS (q := false) (H' := [(1, (.cells [(.d (.sl (List.map byteD a1))), (.d (.int .i64 (0 : Int))), (.d (.int .i64 (0 : Int)))])), (0, (.cells [(.d (.int .u64 (0 : Int))), (.d (.int .u64 (0 : Int))), (.d (.int .u64 (0 : Int))), (.d (.int .i64 (0 : Int))), .nils]))]) (c' := 2) (show ACalls P (N 30) [(.d (.sl (List.map byteD a1)))] [] (.ptr 1 0) [(1, (.cells [(.d (.sl (List.map byteD a1))), (.d (.int .i64 (0 : Int))), (.d (.int .i64 (0 : Int)))]))] from ACalls.use (F30 hmix hc.2.1 e10) [(0, 1)] 1 rfl) rfl rfl rfl rfl (.cons (.refl _) .nil) (.refl _) (fun h => by cases h) rfl hasNil rfl rfl rfl rfl ?_
  refine RegV.p0 rfl rfl rfl ?_
  refine RegV.nil0 ?_
  refine AWc.seq ?_
  refine AWc.rg hmix rfl rfl ?_
  refine RegV.p0 rfl rfl rfl ?_
  refine RegV.p0 rfl rfl rfl ?_
  obtain ⟨r17, e17, h⟩ := bind_some h
  refine RegV.callS (q := false) (H' := [(1, (.cells [(.d (.sl (List.map byteD a1))), (.d (.int .i64 r17.2.1)), (.d (.int .i64 r17.2.2))])), (0, (.cells [(.d (.int .u64 (0 : Int))), (.d (.int .u64 (0 : Int))), (.d (.int .u64 (0 : Int))), (.d (.int .i64 (0 : Int))), .nils]))]) (c' := 2) (show ACalls P (N 39) [(.ptr 1 0)] [(1, (.cells [(.d (.sl (List.map byteD a1))), (.d (.int .i64 (0 : Int))), (.d (.int .i64 (0 : Int)))]))] (.d (.int .u64 r17.1)) [(1, (.cells [(.d (.sl (List.map byteD a1))), (.d (.int .i64 r17.2.1)), (.d (.int .i64 r17.2.2))]))] from ACalls.use (F39 hmix hc.2.2.1 e17) [(0, 1)] 1 rfl) rfl rfl rfl rfl (.cons (.refl _) .nil) (.refl _) (fun h => by cases h) rfl (hasCons rfl hasNil) rfl rfl rfl rfl ?_
  refine RegV.p0 rfl rfl rfl ?_
  obtain ⟨r19, e19, h⟩ := bind_some h
  refine RegV.callS (q := false) (H' := [(1, (.cells [(.d (.sl (List.map byteD a1))), (.d (.int .i64 r19.2.1)), (.d (.int .i64 r19.2.2))])), (0, (.cells [(.d (.int .u64 (0 : Int))), (.d (.int .u64 (0 : Int))), (.d (.int .u64 (0 : Int))), (.d (.int .i64 (0 : Int))), .nils]))]) (c' := 2) (show ACalls P (N 39) [(.ptr 1 0)] [(1, (.cells [(.d (.sl (List.map byteD a1))), (.d (.int .i64 r17.2.1)), (.d (.int .i64 r17.2.2))]))] (.d (.int .u64 r19.1)) [(1, (.cells [(.d (.sl (List.map byteD a1))), (.d (.int .i64 r19.2.1)), (.d (.int .i64 r19.2.2))]))] from ACalls.use (F39 hmix hc.2.2.1 e19) [(0, 1)] 1 rfl) rfl rfl rfl rfl (.cons (.refl _) .nil) (.refl _) (fun h => by cases h) rfl (hasCons rfl hasNil) rfl rfl rfl rfl ?_
  refine RegV.p0 rfl rfl rfl ?_
  obtain ⟨r21, e21, h⟩ := bind_some h
  refine RegV.callS (q := false) (H' := [(1, (.cells [(.d (.sl (List.map byteD a1))), (.d (.int .i64 r21.2.1)), (.d (.int .i64 r21.2.2))])), (0, (.cells [(.d (.int .u64 (0 : Int))), (.d (.int .u64 (0 : Int))), (.d (.int .u64 (0 : Int))), (.d (.int .i64 (0 : Int))), .nils]))]) (c' := 2) (show ACalls P (N 40) [(.ptr 1 0)] [(1, (.cells [(.d (.sl (List.map byteD a1))), (.d (.int .i64 r19.2.1)), (.d (.int .i64 r19.2.2))]))] (.d (.int .i64 r21.1)) [(1, (.cells [(.d (.sl (List.map byteD a1))), (.d (.int .i64 r21.2.1)), (.d (.int .i64 r21.2.2))]))] from ACalls.use (F40 hmix hc.2.2.2.1 e21) [(0, 1)] 1 rfl) rfl rfl rfl rfl (.cons (.refl _) .nil) (.refl _) (fun h => by cases h) rfl (hasCons rfl hasNil) rfl rfl rfl rfl ?_
  refine RegV.p1 (v := (.d (.agg [(.int .u64 a0), (.int .u64 r17.1), (.int .u64 r19.1), (.int .i64 r21.1), (.sl (List.map byteD ([] : List UInt8)))]))) rfl rfl (by exact ⟨⟨rfl, Nat.le_of_ble_eq_true rfl⟩, ⟨⟨rfl, Nat.le_of_ble_eq_true rfl⟩, ⟨⟨rfl, Nat.le_of_ble_eq_true rfl⟩, ⟨⟨rfl, Nat.le_of_ble_eq_true rfl⟩, trivial⟩⟩⟩⟩) rfl rfl ?_
  refine RegV.evS (own := false) (v := (.ptr 2 0)) (H' := [(2, (.cells [(.d (.int .u64 (0 : Int))), (.d (.int .u64 (0 : Int))), (.d (.int .u64 (0 : Int))), (.d (.int .i64 (0 : Int))), .nils])), (1, (.cells [(.d (.sl (List.map byteD a1))), (.d (.int .i64 r21.2.1)), (.d (.int .i64 r21.2.2))])), (0, (.cells [(.d (.int .u64 (0 : Int))), (.d (.int .u64 (0 : Int))), (.d (.int .u64 (0 : Int))), (.d (.int .i64 (0 : Int))), .nils]))]) (c' := 3) rfl rfl trivial rfl rfl rfl rfl rfl rfl ?_
  refine RegV.evN (own := false) (H' := [(2, (.cells [(.d (.int .u64 a0)), (.d (.int .u64 r17.1)), (.d (.int .u64 r19.1)), (.d (.int .i64 r21.1)), (.d (.sl (List.map byteD ([] : List UInt8))))])), (1, (.cells [(.d (.sl (List.map byteD a1))), (.d (.int .i64 r21.2.1)), (.d (.int .i64 r21.2.2))])), (0, (.cells [(.d (.int .u64 (0 : Int))), (.d (.int .u64 (0 : Int))), (.d (.int .u64 (0 : Int))), (.d (.int .i64 (0 : Int))), .nils]))]) (c' := 3) rfl rfl (by exact ⟨rfl, Nat.le_of_ble_eq_true rfl, rfl⟩) rfl rfl rfl rfl ?_
  refine RegV.nil0 ?_
  refine AWc.seq ?_
  refine AWc.rg hmix rfl rfl ?_
  refine RegV.p0 rfl rfl rfl ?_
  obtain ⟨r29, e29, h⟩ := bind_some h
  refine RegV.callS (q := false) (H' := [(3, (.tok ((List.map byteD r29.1).length * 1))), (1, (.cells [(.d (.sl (List.map byteD a1))), (.d (.int .i64 r29.2.1)), (.d (.int .i64 r29.2.2))])), (2, (.cells [(.d (.int .u64 a0)), (.d (.int .u64 r17.1)), (.d (.int .u64 r19.1)), (.d (.int .i64 r21.1)), (.d (.sl (List.map byteD ([] : List UInt8))))])), (0, (.cells [(.d (.int .u64 (0 : Int))), (.d (.int .u64 (0 : Int))), (.d (.int .u64 (0 : Int))), (.d (.int .i64 (0 : Int))), .nils]))]) (c' := 4) (show ACalls P (N 31) [(.ptr 1 0), (.d (.int .i64 (4096 : Int)))] [(1, (.cells [(.d (.sl (List.map byteD a1))), (.d (.int .i64 r21.2.1)), (.d (.int .i64 r21.2.2))]))] (.ap 3 1 (List.map byteD r29.1)) [(3, (.tok ((List.map byteD r29.1).length * 1))), (1, (.cells [(.d (.sl (List.map byteD a1))), (.d (.int .i64 r29.2.1)), (.d (.int .i64 r29.2.2))]))] from ACalls.use (F31 hmix hc.2.2.2.2.1 e29) [(0, 1), (1, 3)] 2 rfl) rfl rfl rfl rfl (.cons (.refl _) (.cons (.refl _) .nil)) (.refl _) (fun h => by cases h) rfl (hasCons rfl hasNil) rfl rfl rfl rfl ?_
  refine RegV.p0 (v := (.ptr 2 4)) rfl rfl rfl ?_
  refine RegV.evN (own := false) (H' := [(2, (.cells [(.d (.int .u64 a0)), (.d (.int .u64 r17.1)), (.d (.int .u64 r19.1)), (.d (.int .i64 r21.1)), (.ap 3 1 (List.map byteD r29.1))])), (3, (.tok ((List.map byteD r29.1).length * 1))), (1, (.cells [(.d (.sl (List.map byteD a1))), (.d (.int .i64 r29.2.1)), (.d (.int .i64 r29.2.2))])), (0, (.cells [(.d (.int .u64 (0 : Int))), (.d (.int .u64 (0 : Int))), (.d (.int .u64 (0 : Int))), (.d (.int .i64 (0 : Int))), .nils]))]) (c' := 4) rfl rfl (by exact ⟨rfl, Nat.le_of_ble_eq_true rfl, rfl⟩) rfl rfl rfl rfl ?_
  refine RegV.nil0 ?_
  refine AWc.seq ?_
  refine AWc.seq ?_
  refine AWc.rg hmix rfl rfl ?_
  refine RegV.p0 rfl rfl rfl ?_
  obtain ⟨r37, e37, h⟩ := bind_some h
  refine RegV.callS (q := true) (H' := [(1, (.cells [(.d (.sl (List.map byteD a1))), (.d (.int .i64 r29.2.1)), (.d (.int .i64 r29.2.2))])), (2, (.cells [(.d (.int .u64 a0)), (.d (.int .u64 r17.1)), (.d (.int .u64 r19.1)), (.d (.int .i64 r21.1)), (.ap 3 1 (List.map byteD r29.1))])), (3, (.tok ((List.map byteD r29.1).length * 1))), (0, (.cells [(.d (.int .u64 (0 : Int))), (.d (.int .u64 (0 : Int))), (.d (.int .u64 (0 : Int))), (.d (.int .i64 (0 : Int))), .nils]))]) (c' := 4) (show ACalls P (N 43) [(.ptr 1 0)] [(1, (.cells [(.d (.sl (List.map byteD a1))), (.d (.int .i64 r29.2.1)), (.d (.int .i64 r29.2.2))]))] (.d (.int .i64 r37)) [(1, (.cells [(.d (.sl (List.map byteD a1))), (.d (.int .i64 r29.2.1)), (.d (.int .i64 r29.2.2))]))] from ACalls.use (F43 hmix hc.2.2.2.2.2 e37) [(0, 1)] 1 rfl) rfl rfl rfl rfl (.cons (.refl _) .nil) (.refl _) (fun _ => rfl) rfl (hasCons rfl hasNil) rfl rfl rfl rfl ?_
  refine RegV.p0 rfl rfl rfl ?_
  refine RegV.nil0 ?_
  refine AWc.seq ?_
  refine AWc.rg hmix rfl rfl ?_
  refine RegV.p0 rfl rfl rfl ?_
  refine RegV.p0 (v := (.d (.bool (decide (r37 ≠ (0 : Int)))))) rfl rfl rfl ?_
  refine RegV.nil0 ?_
  refine AWc.cond rfl (fun c44 => ?_) (fun c44 => ?_)
  · have h := cond_pos c44 h
    refine AWc.seq ?_
    refine AWc.rg hmix rfl rfl ?_
    refine RegV.p1 (v := (.d (.agg [(.int .u64 (0 : Int)), (.int .u64 (0 : Int)), (.int .u64 (0 : Int)), (.int .i64 (0 : Int)), (.sl (List.map byteD ([] : List UInt8)))]))) rfl rfl trivial rfl rfl ?_
    refine RegV.p0 rfl rfl rfl ?_
    refine RegV.evN (own := false) (H' := [(0, (.cells [(.d (.int .u64 (0 : Int))), (.d (.int .u64 (0 : Int))), (.d (.int .u64 (0 : Int))), (.d (.int .i64 (0 : Int))), (.d (.sl (List.map byteD ([] : List UInt8))))])), (1, (.cells [(.d (.sl (List.map byteD a1))), (.d (.int .i64 r29.2.1)), (.d (.int .i64 r29.2.2))])), (2, (.cells [(.d (.int .u64 a0)), (.d (.int .u64 r17.1)), (.d (.int .u64 r19.1)), (.d (.int .i64 r21.1)), (.ap 3 1 (List.map byteD r29.1))])), (3, (.tok ((List.map byteD r29.1).length * 1)))]) (c' := 4) rfl rfl (by exact ⟨rfl, Nat.le_of_ble_eq_true rfl, rfl⟩) rfl rfl rfl rfl ?_
    refine RegV.p0 rfl rfl rfl ?_
    refine RegV.nil0 ?_
    have hr := Option.some.inj h
    subst hr
    exact AWc.ret (canQ (N := 29) (k := 1) (l' := [(4, (.ptr 0 0)), (5, (.d (.int .i64 r37)))]) (H' := [(0, (.cells [(.d (.int .u64 (0 : Int))), (.d (.int .u64 (0 : Int))), (.d (.int .u64 (0 : Int))), (.d (.int .i64 (0 : Int))), (.d (.sl (List.map byteD ([] : List UInt8))))]))]) rfl ⟨rfl, [], [], rfl, rfl, ⟨⟨_, rfl, (.refl _)⟩, rfl, ⟨⟨_, rfl, (.refl _)⟩, rfl, trivial⟩⟩, ⟨⟨_, rfl, (.refl _)⟩, rfl, rfl, trivial⟩⟩ (doneA (.inr rfl) rfl ⟨(Nat.le_of_ble_eq_true rfl), ⟨trivial, trivial⟩⟩ (.refl _) hasNil))
  · have h := cond_neg c44 h
    refine AWc.skip ?_
    refine AWc.seq ?_
    refine AWc.rg hmix rfl rfl ?_
    refine RegV.ld (v := (.d (.agg [(.int .u64 a0), (.int .u64 r17.1), (.int .u64 r19.1), (.int .i64 r21.1), (.sl (List.map byteD r29.1))]))) (H' := [(2, (.cells [(.d (.int .u64 a0)), (.d (.int .u64 r17.1)), (.d (.int .u64 r19.1)), (.d (.int .i64 r21.1)), (.ap 3 1 (List.map byteD r29.1))])), (1, (.cells [(.d (.sl (List.map byteD a1))), (.d (.int .i64 r29.2.1)), (.d (.int .i64 r29.2.2))])), (3, (.tok ((List.map byteD r29.1).length * 1))), (0, (.cells [(.d (.int .u64 (0 : Int))), (.d (.int .u64 (0 : Int))), (.d (.int .u64 (0 : Int))), (.d (.int .i64 (0 : Int))), .nils]))]) rfl rfl (Nat.le_of_ble_eq_true rfl) rfl rfl rfl rfl rfl ?_
    refine RegV.evN (own := false) (H' := [(0, (.cells [(.d (.int .u64 a0)), (.d (.int .u64 r17.1)), (.d (.int .u64 r19.1)), (.d (.int .i64 r21.1)), (.d (.sl (List.map byteD r29.1)))])), (2, (.cells [(.d (.int .u64 a0)), (.d (.int .u64 r17.1)), (.d (.int .u64 r19.1)), (.d (.int .i64 r21.1)), (.ap 3 1 (List.map byteD r29.1))])), (1, (.cells [(.d (.sl (List.map byteD a1))), (.d (.int .i64 r29.2.1)), (.d (.int .i64 r29.2.2))])), (3, (.tok ((List.map byteD r29.1).length * 1)))]) (c' := 4) rfl rfl (by exact ⟨rfl, Nat.le_of_ble_eq_true rfl, rfl⟩) rfl rfl rfl rfl ?_
    refine RegV.p0 rfl rfl rfl ?_
    refine RegV.nil0 ?_
    have hr := Option.some.inj h
    subst hr
    exact AWc.ret (canQ (N := 29) (k := 1) (l' := [(4, (.ptr 0 0)), (5, (.d (.int .i64 (0 : Int))))]) (H' := [(0, (.cells [(.d (.int .u64 a0)), (.d (.int .u64 r17.1)), (.d (.int .u64 r19.1)), (.d (.int .i64 r21.1)), (.d (.sl (List.map byteD r29.1)))]))]) rfl ⟨rfl, [], [], rfl, rfl, ⟨⟨_, rfl, (.refl _)⟩, rfl, ⟨⟨_, rfl, (.refl _)⟩, rfl, trivial⟩⟩, ⟨⟨_, rfl, (.refl _)⟩, rfl, rfl, trivial⟩⟩ (doneA (.inr rfl) rfl ⟨(Nat.le_of_ble_eq_true rfl), ⟨trivial, trivial⟩⟩ (.refl _) hasNil))
/-- courant/courantref24.Bytes -/
def C55 (N : Nat → Nat) : AFunc := { n := 21, params := 1, res := [.tmp 2], body :=
 (.seq (.region false [⟨(some 1), .box (.t 0), none, []⟩,
   ⟨(some 2), .mv (.k .nils), none, []⟩])
  (.seq (.region true [⟨(some 4), .faddr (.t 1) 1, none, []⟩,
    ⟨(some 5), .load (.t 4) 1 false, none, [0]⟩,
    ⟨(some 6), .call (.k (.d (.fn (N 24)))) [(.t 5)], none, [1]⟩,
    ⟨(some 7), .faddr (.t 1) 2, none, []⟩,
    ⟨(some 8), .load (.t 7) 1 false, none, [3]⟩,
    ⟨(some 9), .call (.k (.d (.fn (N 24)))) [(.t 8)], none, [4, 2]⟩,
    ⟨(some 10), .app (.t 6) (.t 9) 1 1 [(.int .u8 0)], none, [2, 5]⟩,
    ⟨(some 3), .mv (.t 10), none, [6, 0, 1, 2, 3, 4, 5]⟩])
   (.seq (.region false [⟨(some 11), .mv (.t 3), none, []⟩,
     ⟨(some 12), .faddr (.t 1) 3, none, []⟩,
     ⟨(some 13), .load (.t 12) 1 false, none, [1]⟩,
     ⟨(some 14), .call (.k (.d (.fn (N 26)))) [(.t 13)], none, [2]⟩,
     ⟨(some 15), .app (.t 11) (.t 14) 1 1 [(.int .u8 0)], none, [0, 3]⟩,
     ⟨(some 3), .mv (.t 15), none, [4, 0, 1, 2, 3]⟩])
    (.seq (.region false [⟨(some 16), .mv (.t 3), none, []⟩,
      ⟨(some 17), .faddr (.t 1) 4, none, []⟩,
      ⟨(some 18), .load (.t 17) 1 false, none, [1]⟩,
      ⟨(some 19), .call (.k (.d (.fn (N 28)))) [(.t 18)], none, [2]⟩,
      ⟨(some 20), .app (.t 16) (.t 19) 1 1 [(.int .u8 0)], none, [0, 3]⟩,
      ⟨(some 2), .mv (.t 20), none, [4, 0, 1, 2, 3]⟩])
     .ret)))) }
def HC55 (P : Program) (N : Nat → Nat) : Prop := HasF P (N 55) (C55 N) ∧ HC24 P N ∧ HC26 P N ∧ HC28 P N
def f55 (k : Nat) (a0 : TMessage) : Option (List UInt8) := (f24 k a0.fProducer).bind fun r11 => (f24 k a0.fSeq).bind fun r14 => gd ((r11.length + r14.length) * 2 * 1 ≤ 281474976710656) ((f26 k a0.fVersion).bind fun r23 => gd (((r11 ++ r14).length + r23.length) * 2 * 1 ≤ 281474976710656) ((f28 k a0.fData).bind fun r32 => gd ((((r11 ++ r14) ++ r23).length + r32.length) * 2 * 1 ≤ 281474976710656) (some (((r11 ++ r14) ++ r23) ++ r32))))
theorem F55 {P : Program} {N : Nat → Nat} (hmix : P.follows .mixedOrders = true) (hc : HC55 P N) {k : Nat} {a0 : TMessage} {r : (List UInt8)} (h : f55 k a0 = some r) :
    ACalls P (N 55) [(.d (TMessage.enc a0))] [] (.ap 0 1 (List.map byteD r)) [(0, (.tok ((List.map byteD r).length * 1)))] := by
  refine acalls_canon (F := C55 N) hc.1 0 1 rfl ?_
  unfold f55 at h
  dsimp only [C55, startL]
  refine AWc.seq ?_
  refine AWc.rg hmix rfl rfl ?_
  refine RegV.evS (own := false) (v := (.ptr 0 0)) (H' := [(0, (.cells [(.d (.int .u64 a0.fOffset)), (.d (.int .u64 a0.fProducer)), (.d (.int .u64 a0.fSeq)), (.d (.int .i64 a0.fVersion)), (.d (.sl (List.map byteD a0.fData)))]))]) (c' := 1) rfl rfl trivial rfl rfl rfl rfl rfl rfl ?_
  refine RegV.p0 rfl rfl rfl ?_
  refine RegV.nil0 ?_
  refine AWc.seq ?_
  refine AWc.rg hmix rfl rfl ?_
  refine RegV.p0 (v := (.ptr 0 1)) rfl rfl rfl ?_
  refine RegV.ld (v := (.d (.int .u64 a0.fProducer))) (H' := [(0, (.cells [(.d (.int .u64 a0.fOffset)), (.d (.int .u64 a0.fProducer)), (.d (.int .u64 a0.fSeq)), (.d (.int .i64 a0.fVersion)), (.d (.sl (List.map byteD a0.fData)))]))]) rfl rfl trivial rfl rfl rfl rfl rfl ?_
  obtain ⟨r11, e11, h⟩ := bind_some h
  refine RegV.callS (q := false) (H' := [(1, (.tok ((List.map byteD r11).length * 1))), (0, (.cells [(.d (.int .u64 a0.fOffset)), (.d (.int .u64 a0.fProducer)), (.d (.int .u64 a0.fSeq)), (.d (.int .i64 a0.fVersion)), (.d (.sl (List.map byteD a0.fData)))]))]) (c' := 2) (show ACalls P (N 24) [(.d (.int .u64 a0.fProducer))] [] (.ap 1 1 (List.map byteD r11)) [(1, (.tok ((List.map byteD r11).length * 1)))] from ACalls.use (F24 hmix hc.2.1 e11) [(0, 1)] 1 rfl) rfl rfl rfl rfl (.cons (.refl _) .nil) (.refl _) (fun h => by cases h) rfl hasNil rfl rfl rfl rfl ?_
  refine RegV.p0 (v := (.ptr 0 2)) rfl rfl rfl ?_
  refine RegV.ld (v := (.d (.int .u64 a0.fSeq))) (H' := [(0, (.cells [(.d (.int .u64 a0.fOffset)), (.d (.int .u64 a0.fProducer)), (.d (.int .u64 a0.fSeq)), (.d (.int .i64 a0.fVersion)), (.d (.sl (List.map byteD a0.fData)))])), (1, (.tok ((List.map byteD r11).length * 1)))]) rfl rfl trivial rfl rfl rfl rfl rfl ?_
  obtain ⟨r14, e14, h⟩ := bind_some h
  refine RegV.callS (q := false) (H' := [(2, (.tok ((List.map byteD r14).length * 1))), (0, (.cells [(.d (.int .u64 a0.fOffset)), (.d (.int .u64 a0.fProducer)), (.d (.int .u64 a0.fSeq)), (.d (.int .i64 a0.fVersion)), (.d (.sl (List.map byteD a0.fData)))])), (1, (.tok ((List.map byteD r11).length * 1)))]) (c' := 3) (show ACalls P (N 24) [(.d (.int .u64 a0.fSeq))] [] (.ap 2 1 (List.map byteD r14)) [(2, (.tok ((List.map byteD r14).length * 1)))] from ACalls.use (F24 hmix hc.2.1 e14) [(0, 2)] 1 rfl) rfl rfl rfl rfl (.cons (.refl _) .nil) (.refl _) (fun h => by cases h) rfl hasNil rfl rfl rfl rfl ?_
  obtain ⟨b15, h⟩ := gd_some h
  refine RegV.appA (xs := r11) (ys := r14) (e := byteD) (H1 := [(2, (.tok ((List.map byteD r14).length * 1))), (0, (.cells [(.d (.int .u64 a0.fOffset)), (.d (.int .u64 a0.fProducer)), (.d (.int .u64 a0.fSeq)), (.d (.int .i64 a0.fVersion)), (.d (.sl (List.map byteD a0.fData)))]))]) rfl rfl rfl rfl (fun _ => rfl) rfl rfl b15 rfl rfl rfl ?_
  refine RegV.p0 rfl rfl rfl ?_
  refine RegV.nil1 (by kernel_rfl) ?_
  refine AWc.seq ?_
  refine AWc.rg hmix rfl rfl ?_
  refine RegV.p0 rfl rfl rfl ?_
  refine RegV.p0 (v := (.ptr 0 3)) rfl rfl rfl ?_
  refine RegV.ld (v := (.d (.int .i64 a0.fVersion))) (H' := [(0, (.cells [(.d (.int .u64 a0.fOffset)), (.d (.int .u64 a0.fProducer)), (.d (.int .u64 a0.fSeq)), (.d (.int .i64 a0.fVersion)), (.d (.sl (List.map byteD a0.fData)))])), (3, (.tok ((List.map byteD (r11 ++ r14)).length * 1))), (2, (.tok ((List.map byteD r14).length * 1)))]) rfl rfl trivial rfl rfl rfl rfl rfl ?_
  obtain ⟨r23, e23, h⟩ := bind_some h
  refine RegV.callS (q := false) (H' := [(4, (.tok ((List.map byteD r23).length * 1))), (0, (.cells [(.d (.int .u64 a0.fOffset)), (.d (.int .u64 a0.fProducer)), (.d (.int .u64 a0.fSeq)), (.d (.int .i64 a0.fVersion)), (.d (.sl (List.map byteD a0.fData)))])), (3, (.tok ((List.map byteD (r11 ++ r14)).length * 1))), (2, (.tok ((List.map byteD r14).length * 1)))]) (c' := 5) (show ACalls P (N 26) [(.d (.int .i64 a0.fVersion))] [] (.ap 4 1 (List.map byteD r23)) [(4, (.tok ((List.map byteD r23).length * 1)))] from ACalls.use (F26 hmix hc.2.2.1 e23) [(0, 4)] 1 rfl) rfl rfl rfl rfl (.cons (.refl _) .nil) (.refl _) (fun h => by cases h) rfl hasNil rfl rfl rfl rfl ?_
  obtain ⟨b24, h⟩ := gd_some h
  refine RegV.appA (xs := (r11 ++ r14)) (ys := r23) (e := byteD) (H1 := [(4, (.tok ((List.map byteD r23).length * 1))), (0, (.cells [(.d (.int .u64 a0.fOffset)), (.d (.int .u64 a0.fProducer)), (.d (.int .u64 a0.fSeq)), (.d (.int .i64 a0.fVersion)), (.d (.sl (List.map byteD a0.fData)))])), (2, (.tok ((List.map byteD r14).length * 1)))]) rfl rfl rfl rfl (fun _ => rfl) rfl rfl b24 rfl rfl rfl ?_
  refine RegV.p0 rfl rfl rfl ?_
  refine RegV.nil0 ?_
  refine AWc.seq ?_
  refine AWc.rg hmix rfl rfl ?_
  refine RegV.p0 rfl rfl rfl ?_
  refine RegV.p0 (v := (.ptr 0 4)) rfl rfl rfl ?_
  refine RegV.ld (v := (.d (.sl (List.map byteD a0.fData)))) (H' := [(0, (.cells [(.d (.int .u64 a0.fOffset)), (.d (.int .u64 a0.fProducer)), (.d (.int .u64 a0.fSeq)), (.d (.int .i64 a0.fVersion)), (.d (.sl (List.map byteD a0.fData)))])), (5, (.tok ((List.map byteD ((r11 ++ r14) ++ r23)).length * 1))), (4, (.tok ((List.map byteD r23).length * 1))), (2, (.tok ((List.map byteD r14).length * 1)))]) rfl rfl trivial rfl rfl rfl rfl rfl ?_
  obtain ⟨r32, e32, h⟩ := bind_some h
  refine RegV.callS (q := false) (H' := [(6, (.tok ((List.map byteD r32).length * 1))), (0, (.cells [(.d (.int .u64 a0.fOffset)), (.d (.int .u64 a0.fProducer)), (.d (.int .u64 a0.fSeq)), (.d (.int .i64 a0.fVersion)), (.d (.sl (List.map byteD a0.fData)))])), (5, (.tok ((List.map byteD ((r11 ++ r14) ++ r23)).length * 1))), (4, (.tok ((List.map byteD r23).length * 1))), (2, (.tok ((List.map byteD r14).length * 1)))]) (c' := 7) (show ACalls P (N 28) [(.d (.sl (List.map byteD a0.fData)))] [] (.ap 6 1 (List.map byteD r32)) [(6, (.tok ((List.map byteD r32).length * 1)))] from ACalls.use (F28 hmix hc.2.2.2 e32) [(0, 6)] 1 rfl) rfl rfl rfl rfl (.cons (.refl _) .nil) (.refl _) (fun h => by cases h) rfl hasNil rfl rfl rfl rfl ?_
  obtain ⟨b33, h⟩ := gd_some h
  refine RegV.appA (xs := ((r11 ++ r14) ++ r23)) (ys := r32) (e := byteD) (H1 := [(6, (.tok ((List.map byteD r32).length * 1))), (0, (.cells [(.d (.int .u64 a0.fOffset)), (.d (.int .u64 a0.fProducer)), (.d (.int .u64 a0.fSeq)), (.d (.int .i64 a0.fVersion)), (.d (.sl (List.map byteD a0.fData)))])), (4, (.tok ((List.map byteD r23).length * 1))), (2, (.tok ((List.map byteD r14).length * 1)))]) rfl rfl rfl rfl (fun _ => rfl) rfl rfl b33 rfl rfl rfl ?_
  refine RegV.p0 rfl rfl rfl ?_
  refine RegV.nil0 ?_
  have hr := Option.some.inj h
  subst hr
  exact AWc.ret (canQ (N := 21) (k := 1) (l' := [(2, (.ap 0 1 (List.map byteD (((r11 ++ r14) ++ r23) ++ r32))))]) (H' := [(0, (.tok ((List.map byteD (((r11 ++ r14) ++ r23) ++ r32)).length * 1)))]) rfl ⟨rfl, [], [(0, 7)], rfl, rfl, ⟨⟨_, rfl, (.refl _)⟩, rfl, trivial⟩, ⟨⟨_, rfl, (.refl _)⟩, rfl, rfl, trivial⟩⟩ (doneA (.inr rfl) rfl ⟨trivial, trivial⟩ (.refl _) (hasCons rfl hasNil)))
/-- courant/courantref01.New -/
def C44 (N : Nat → Nat) : AFunc := { n := 7, params := 1, res := [.tmp 2], body :=
 (.seq (.region false [⟨(some 2), .mv (.k (.d .nilp)), none, []⟩])
  (.seq (.region false [⟨(some 3), .mv (.t 0), none, []⟩,
    ⟨(some 4), .app (.k .nils) (.t 3) 1 1 [(.int .u8 0)], none, [0]⟩,
    ⟨(some 5), .build [(.sl []), (.int .i64 0), (.int .i64 0)] [(0, 1, (.t 4))], none, [1]⟩,
    ⟨(some 6), .box (.t 5), none, [2]⟩,
    ⟨(some 2), .mv (.t 6), none, [3, 1, 0, 2]⟩])
   .ret)) }
def HC44 (P : Program) (N : Nat → Nat) : Prop := HasF P (N 44) (C44 N)
def f44 (k : Nat) (a0 : (List UInt8)) : Option Unit := gd (a0.length * 1 ≤ 281474976710656) (some ())
theorem F44 {P : Program} {N : Nat → Nat} (hmix : P.follows .mixedOrders = true) (hc : HC44 P N) {k : Nat} {a0 : (List UInt8)} {r : Unit} (h : f44 k a0 = some r) :
    ACalls P (N 44) [(.d (.sl (List.map byteD a0)))] [] (.ptr 0 0) [(0, (.cells [(.d (.sl (List.map byteD a0))), (.d (.int .i64 (0 : Int))), (.d (.int .i64 (0 : Int)))]))] := by
  refine acalls_canon (F := C44 N) hc 0 1 rfl ?_
  unfold f44 at h
  dsimp only [C44, startL]
  refine AWc.seq ?_
  refine AWc.rg hmix rfl rfl ?_
  refine RegV.p0 rfl rfl rfl ?_
  refine RegV.nil0 ?_
  refine AWc.seq ?_
  refine AWc.rg hmix rfl rfl ?_
  refine RegV.p0 rfl rfl rfl ?_
  obtain ⟨b9, h⟩ := gd_some h
  refine RegV.appN (ys := a0) (e := byteD) rfl rfl rfl (fun _ => rfl) rfl rfl b9 rfl rfl ?_
  refine RegV.p1 (v := (.d (.agg [(.sl (List.map byteD a0)), (.int .i64 (0 : Int)), (.int .i64 (0 : Int))]))) rfl rfl (by exact ⟨⟨rfl, Nat.le_of_ble_eq_true rfl⟩, trivial⟩) rfl rfl ?_
  refine RegV.evS (own := false) (v := (.ptr 1 0)) (H' := [(1, (.cells [(.d (.sl (List.map byteD a0))), (.d (.int .i64 (0 : Int))), (.d (.int .i64 (0 : Int)))])), (0, (.tok ((List.map byteD a0).length * 1)))]) (c' := 2) rfl rfl trivial rfl rfl rfl rfl rfl rfl ?_
  refine RegV.p0 rfl rfl rfl ?_
  refine RegV.nil0 ?_
  have hr := Option.some.inj h
  subst hr
  exact AWc.ret (canQ (N := 7) (k := 1) (l' := [(2, (.ptr 0 0))]) (H' := [(0, (.cells [(.d (.sl (List.map byteD a0))), (.d (.int .i64 (0 : Int))), (.d (.int .i64 (0 : Int)))]))]) rfl ⟨rfl, [], [(0, 1)], rfl, rfl, ⟨⟨_, rfl, (.refl _)⟩, rfl, trivial⟩, ⟨⟨_, rfl, (.refl _)⟩, rfl, rfl, trivial⟩⟩ (doneA (.inr rfl) rfl ⟨trivial, trivial⟩ (.refl _) (hasCons rfl hasNil)))
/-- (*courant/courantref01.Reader).number -/
def C89 (N : Nat → Nat) : AFunc := { n := 60, params := 1, res := [.tmp 2, .tmp 3, .tmp 4], body :=
 (.seq (.region false [⟨(some 2), .mv (.k (.d (.int .u64 0))), none, []⟩,
   ⟨(some 3), .mv (.k (.d (.int .i64 0))), none, [0]⟩,
   ⟨(some 4), .mv (.k (.d (.int .i64 0))), none, [1]⟩])
  (.seq (.region false [⟨(some 5), .mv (.k (.d (.int .u64 0))), none, []⟩])
   (.seq (.region false [⟨(some 6), .mv (.k (.d (.int .i64 0))), none, []⟩])
    (.block 0 (.loop (.seq (.block 1 (.seq (.seq (.region true [⟨(some 10), .mv (.t 0), none, []⟩,
           ⟨(some 11), .nilchk (.t 10), none, [0]⟩,
           ⟨(some 12), .faddr (.t 11) 1, none, [1]⟩,
           ⟨(some 13), .load (.t 12) 1 false, none, [2]⟩,
           ⟨(some 14), .mv (.t 6), none, []⟩,
           ⟨(some 15), .bin .add (.t 13) (.t 14), none, [3, 4]⟩,
           ⟨(some 16), .mv (.t 0), none, []⟩,
           ⟨(some 17), .nilchk (.t 16), none, [6]⟩,
           ⟨(some 18), .faddr (.t 17) 0, none, [7]⟩,
           ⟨(some 19), .load (.t 18) 1 false, none, [8]⟩,
           ⟨(some 20), .len (.t 19), none, [9]⟩,
           ⟨(some 21), .bin .geq (.t 15) (.t 20), none, [5, 10]⟩])
          (.cond (.t 21) (.seq (.region false [⟨(some 2), .mv (.k (.d (.int .u64 0))), none, []⟩,
             ⟨(some 3), .mv (.k (.d (.int .i64 0))), none, [0]⟩,
             ⟨(some 4), .mv (.k (.d (.int .i64 3))), none, [1, 0]⟩])
            .ret)
           (.skip)))
         (.seq (.region true [⟨(some 22), .mv (.t 0), none, []⟩,
           ⟨(some 23), .nilchk (.t 22), none, [0]⟩,
           ⟨(some 24), .faddr (.t 23) 0, none, [1]⟩,
           ⟨(some 25), .load (.t 24) 1 false, none, [2]⟩,
           ⟨(some 26), .mv (.t 0), none, []⟩,
           ⟨(some 27), .nilchk (.t 26), none, [4]⟩,
           ⟨(some 28), .faddr (.t 27) 1, none, [5]⟩,
           ⟨(some 29), .load (.t 28) 1 false, none, [6]⟩,
           ⟨(some 30), .mv (.t 6), none, []⟩,
           ⟨(some 31), .bin .add (.t 29) (.t 30), none, [7, 8]⟩,
           ⟨(some 32), .iaddr (.t 25) (.t 31) 1, none, [3, 9]⟩,
           ⟨(some 33), .load (.t 32) 1 false, none, [10]⟩,
           ⟨(some 7), .mv (.t 33), none, [11, 0, 1, 2, 3, 4, 5, 6, 7, 8, 9, 10]⟩])
          (.seq (.seq (.region false [⟨(some 34), .mv (.t 6), none, []⟩,
             ⟨(some 35), .bin .eql (.t 34) (.k (.d (.int .i64 9))), none, [0]⟩,
             ⟨(some 36), .mv (.t 35), none, [1]⟩,
             ⟨(some 37), .mv (.t 7), (some (36, true)), [2]⟩,
             ⟨(some 38), .bin .gtr (.t 37) (.k (.d (.int .u8 1))), (some (36, true)), [3, 2]⟩,
             ⟨(some 39), .pick (.t 36) (.t 38) (.k (.d (.bool false))), none, [2, 4]⟩])
            (.cond (.t 39) (.seq (.region false [⟨(some 2), .mv (.k (.d (.int .u64 0))), none, []⟩,
               ⟨(some 3), .mv (.k (.d (.int .i64 0))), none, [0]⟩,
               ⟨(some 4), .mv (.k (.d (.int .i64 4))), none, [1, 0]⟩])
              .ret)
             (.skip)))
           (.seq (.region false [⟨(some 40), .mv (.t 5), none, []⟩,
             ⟨(some 41), .mv (.t 7), none, []⟩,
             ⟨(some 42), .bin .and (.t 41) (.k (.d (.int .u8 127))), none, [1]⟩,
             ⟨(some 43), .cvi .u64 (.t 42), none, [2]⟩,
             ⟨(some 44), .mv (.t 6), none, []⟩,
             ⟨(some 45), .bin .mul (.k (.d (.int .i64 7))) (.t 44), none, [4]⟩,
             ⟨(some 46), .cvi .u64 (.t 45), none, [5]⟩,
             ⟨(some 47), .bin .shl (.t 43) (.t 46), none, [3, 6]⟩,
             ⟨(some 48), .bin .or (.t 40) (.t 47), none, [0, 7]⟩,
             ⟨(some 5), .mv (.t 48), none, [8, 0, 1, 2, 3, 4, 5, 6, 7]⟩])
            (.seq (.region false [⟨(some 49), .mv (.t 7), none, []⟩,
              ⟨(some 50), .bin .lss (.t 49) (.k (.d (.int .u8 128))), none, [0]⟩])
             (.cond (.t 50) (.seq (.seq (.region false [⟨(some 51), .mv (.t 7), none, []⟩,
                 ⟨(some 52), .bin .eql (.t 51) (.k (.d (.int .u8 0))), none, [0]⟩,
                 ⟨(some 53), .mv (.t 52), none, [1]⟩,
                 ⟨(some 54), .mv (.t 6), (some (53, true)), [2]⟩,
                 ⟨(some 55), .bin .gtr (.t 54) (.k (.d (.int .i64 0))), (some (53, true)), [3, 2]⟩,
                 ⟨(some 56), .pick (.t 53) (.t 55) (.k (.d (.bool false))), none, [2, 4]⟩])
                (.cond (.t 56) (.seq (.region false [⟨(some 2), .mv (.k (.d (.int .u64 0))), none, []⟩,
                   ⟨(some 3), .mv (.k (.d (.int .i64 0))), none, [0]⟩,
                   ⟨(some 4), .mv (.k (.d (.int .i64 4))), none, [1, 0]⟩])
                  .ret)
                 (.skip)))
               (.seq (.region false [⟨(some 57), .mv (.t 5), none, []⟩,
                 ⟨(some 58), .mv (.t 6), none, []⟩,
                 ⟨(some 59), .bin .add (.t 58) (.k (.d (.int .i64 1))), none, [1]⟩,
                 ⟨(some 2), .mv (.t 57), none, [0]⟩,
                 ⟨(some 3), .mv (.t 59), none, [2, 3, 0, 1]⟩,
                 ⟨(some 4), .mv (.k (.d (.int .i64 0))), none, [4, 0, 1, 2, 3]⟩])
                .ret))
              (.skip))))))))
       (.region false [⟨(some 8), .mv (.t 6), none, []⟩,
        ⟨(some 9), .bin .add (.t 8) (.k (.d (.int .i64 1))), none, [0]⟩,
        ⟨(some 6), .mv (.t 9), none, [1, 0]⟩]))))))) }
def HC89 (P : Program) (N : Nat → Nat) : Prop := HasF P (N 89) (C89 N)
def f89_j108 (k : Nat) (y15_1 : Int) (a0 : (List UInt8)) (a1 : Int) (y15_2 : Int) (j108_1 : Bool) : Option (LR2 Unit Unit (Int × Int × Int)) := cond j108_1 (some (.r ((0 : Int), (0 : Int), (4 : Int)))) (some (.r ((bitsA .or .u64 y15_1 (IntKind.u64.wrap ((IntKind.u64.wrap (bitsA .and .u8 (((rd a0 (IntKind.i64.wrap (a1 + y15_2))).toNat : Nat) : Int) (127 : Int))) * 2 ^ (min ((IntKind.u64.wrap (IntKind.i64.wrap ((7 : Int) * y15_2)))).toNat IntKind.u64.bits)))), (IntKind.i64.wrap (y15_2 + (1 : Int))), (0 : Int))))
def f89_j70 (L : Int → Int → Option (LR2 Unit Unit (Int × Int × Int))) (k : Nat) (y15_2 : Int) (a0 : (List UInt8)) (a1 : Int) (y15_1 : Int) (j70_1 : Bool) : Option (LR2 Unit Unit (Int × Int × Int)) := cond j70_1 (some (.r ((0 : Int), (0 : Int), (4 : Int)))) (gd (0 ≤ (IntKind.u64.wrap (IntKind.i64.wrap ((7 : Int) * y15_2)))) (cond (decide ((((rd a0 (IntKind.i64.wrap (a1 + y15_2))).toNat : Nat) : Int) < (128 : Int))) (cond (decide ((((rd a0 (IntKind.i64.wrap (a1 + y15_2))).toNat : Nat) : Int) = (0 : Int))) (f89_j108 k y15_1 a0 a1 y15_2 (decide (y15_2 > (0 : Int)))) (f89_j108 k y15_1 a0 a1 y15_2 false)) (L (bitsA .or .u64 y15_1 (IntKind.u64.wrap ((IntKind.u64.wrap (bitsA .and .u8 (((rd a0 (IntKind.i64.wrap (a1 + y15_2))).toNat : Nat) : Int) (127 : Int))) * 2 ^ (min ((IntKind.u64.wrap (IntKind.i64.wrap ((7 : Int) * y15_2)))).toNat IntKind.u64.bits)))) (IntKind.i64.wrap (y15_2 + (1 : Int))))))
def f89_l15 (a1 : Int) (a0 : (List UInt8)) : Nat → Int → Int → Option (LR2 Unit Unit (Int × Int × Int))
  | 0, _, _ => none
  | k + 1, y15_1, y15_2 => cond (decide ((IntKind.i64.wrap (a1 + y15_2)) ≥ ((a0.length : Nat) : Int))) (some (.r ((0 : Int), (0 : Int), (3 : Int)))) (gd (0 ≤ (IntKind.i64.wrap (a1 + y15_2)) ∧ (IntKind.i64.wrap (a1 + y15_2)) < ((a0.length : Nat) : Int)) (cond (decide (y15_2 = (9 : Int))) (f89_j70 (f89_l15 a1 a0 k) k y15_2 a0 a1 y15_1 (decide ((((rd a0 (IntKind.i64.wrap (a1 + y15_2))).toNat : Nat) : Int) > (1 : Int)))) (f89_j70 (f89_l15 a1 a0 k) k y15_2 a0 a1 y15_1 false)))
def f89 (k : Nat) (a0 : (List UInt8)) (a1 : Int) (a2 : Int) : Option (Int × Int × Int) := (f89_l15 a1 a0 k (0 : Int) (0 : Int)).bind fun o15 => match o15 with | .r x => some x | _ => none
theorem F89 {P : Program} {N : Nat → Nat} (hmix : P.follows .mixedOrders = true) (hc : HC89 P N) {k : Nat} {a0 : (List UInt8)} {a1 : Int} {a2 : Int} {r : (Int × Int × Int)} (h : f89 k a0 a1 a2 = some r) :
    ACalls P (N 89) [(.ptr 0 0)] [(0, (.cells [(.d (.sl (List.map byteD a0))), (.d (.int .i64 a1)), (.d (.int .i64 a2))]))] (.tup [(.d (.int .u64 r.1)), (.d (.int .i64 r.2.1)), (.d (.int .i64 r.2.2))]) [(0, (.cells [(.d (.sl (List.map byteD a0))), (.d (.int .i64 a1)), (.d (.int .i64 a2))]))] := by
  refine acalls_canon (F := C89 N) hc 1 1 rfl ?_
  unfold f89 at h
  dsimp only [C89, startL]
  refine AWc.seq ?_
  refine AWc.rg hmix rfl rfl ?_
  refine RegV.p0 rfl rfl rfl ?_
  refine RegV.p0 rfl rfl rfl ?_
  refine RegV.p0 rfl rfl rfl ?_
  refine RegV.nil0 ?_
  refine AWc.seq ?_
  refine AWc.rg hmix rfl rfl ?_
  refine RegV.p0 rfl rfl rfl ?_
  refine RegV.nil0 ?_
  refine AWc.seq ?_
  refine AWc.rg hmix rfl rfl ?_
  refine RegV.p0 rfl rfl rfl ?_
  refine RegV.nil0 ?_
  obtain ⟨o15, h15, h⟩ := bind_some h
  refine AWc.block ?_
  refine AWc.loopK (N := 60) 1 (fun (x : (Int × Int)) => [(0, (.ptr 0 0)), (5, (.d (.int .u64 x.1))), (6, (.d (.int .i64 x.2)))]) (fun x => [(0, (.cells [(.d (.sl (List.map byteD a0))), (.d (.int .i64 a1)), (.d (.int .i64 a2))]))]) (fun k x => f89_l15 a1 a0 k x.1 x.2 = some o15) k ((0 : Int), (0 : Int)) rfl_le (fun x hx => by cases hx) h15 ⟨rfl, [], [], rfl, rfl, ⟨⟨_, rfl, (.refl _)⟩, rfl, ⟨⟨_, rfl, (.refl _)⟩, rfl, ⟨⟨_, rfl, (.refl _)⟩, rfl, trivial⟩⟩⟩, ⟨⟨_, rfl, (.refl _)⟩, rfl, rfl, trivial⟩⟩ ?_
  clear h15
  intro k
  rintro ⟨y15_1, y15_2⟩ h15
  dsimp only at h15 ⊢
  rw [f89_l15] at h15
  refine AWc.seq ?_
  refine AWc.block ?_
  refine AWc.seq ?_
  refine AWc.seq ?_
  refine AWc.rg hmix rfl rfl ?_
  refine RegV.p0 rfl rfl rfl ?_
  refine RegV.p0 rfl rfl rfl ?_
  refine RegV.p0 (v := (.ptr 0 1)) rfl rfl rfl ?_
  refine RegV.ld (v := (.d (.int .i64 a1))) (H' := [(0, (.cells [(.d (.sl (List.map byteD a0))), (.d (.int .i64 a1)), (.d (.int .i64 a2))]))]) rfl rfl trivial rfl rfl rfl rfl rfl ?_
  refine RegV.p0 rfl rfl rfl ?_
  refine RegV.p0 (v := (.d (.int .i64 (IntKind.i64.wrap (a1 + y15_2))))) rfl rfl rfl ?_
  refine RegV.p0 rfl rfl rfl ?_
  refine RegV.p0 rfl rfl rfl ?_
  refine RegV.p0 (v := (.ptr 0 0)) rfl rfl rfl ?_
  refine RegV.ld (v := (.d (.sl (List.map byteD a0)))) (H' := [(0, (.cells [(.d (.sl (List.map byteD a0))), (.d (.int .i64 a1)), (.d (.int .i64 a2))]))]) rfl rfl trivial rfl rfl rfl rfl rfl ?_
  refine RegV.len (xs := a0) (e := byteD) rfl rfl rfl rfl ?_
  refine RegV.p0 (v := (.d (.bool (decide ((IntKind.i64.wrap (a1 + y15_2)) ≥ ((a0.length : Nat) : Int)))))) rfl rfl rfl ?_
  refine RegV.nil1 (by kernel_rfl) ?_
  refine AWc.cond rfl (fun c35 => ?_) (fun c35 => ?_)
  · have h15 := cond_pos c35 h15
    refine AWc.seq ?_
    refine AWc.rg hmix rfl rfl ?_
    refine RegV.p0 rfl rfl rfl ?_
    refine RegV.p0 rfl rfl rfl ?_
    refine RegV.p0 rfl rfl rfl ?_
    refine RegV.nil0 ?_
    cases h15
    dsimp only at h
    have hr := Option.some.inj h
    subst hr
    exact AWc.ret (canQ (N := 60) (k := 1) (l' := [(2, (.d (.int .u64 (0 : Int)))), (3, (.d (.int .i64 (0 : Int)))), (4, (.d (.int .i64 (3 : Int))))]) (H' := [(0, (.cells [(.d (.sl (List.map byteD a0))), (.d (.int .i64 a1)), (.d (.int .i64 a2))]))]) rfl ⟨rfl, [], [], rfl, rfl, ⟨⟨_, rfl, (.refl _)⟩, rfl, ⟨⟨_, rfl, (.refl _)⟩, rfl, ⟨⟨_, rfl, (.refl _)⟩, rfl, trivial⟩⟩⟩, ⟨⟨_, rfl, (.refl _)⟩, rfl, rfl, trivial⟩⟩ (doneA (.inr rfl) rfl ⟨trivial, ⟨trivial, ⟨trivial, trivial⟩⟩⟩ (.refl _) (hasCons rfl hasNil)))
  · have h15 := cond_neg c35 h15
    refine AWc.skip ?_
    refine AWc.seq ?_
    refine AWc.rg hmix rfl rfl ?_
    refine RegV.p0 rfl rfl rfl ?_
    refine RegV.p0 rfl rfl rfl ?_
    refine RegV.p0 (v := (.ptr 0 0)) rfl rfl rfl ?_
    refine RegV.ld (v := (.d (.sl (List.map byteD a0)))) (H' := [(0, (.cells [(.d (.sl (List.map byteD a0))), (.d (.int .i64 a1)), (.d (.int .i64 a2))]))]) rfl rfl trivial rfl rfl rfl rfl rfl ?_
    refine RegV.p0 rfl rfl rfl ?_
    refine RegV.p0 rfl rfl rfl ?_
    refine RegV.p0 (v := (.ptr 0 1)) rfl rfl rfl ?_
    refine RegV.ld (v := (.d (.int .i64 a1))) (H' := [(0, (.cells [(.d (.sl (List.map byteD a0))), (.d (.int .i64 a1)), (.d (.int .i64 a2))]))]) rfl rfl trivial rfl rfl rfl rfl rfl ?_
    refine RegV.p0 rfl rfl rfl ?_
    refine RegV.p0 (v := (.d (.int .i64 (IntKind.i64.wrap (a1 + y15_2))))) rfl rfl rfl ?_
    obtain ⟨b57, h15⟩ := gd_some h15
    refine RegV.iad (xs := a0) (e := byteD) rfl rfl rfl rfl (fun _ => rfl) b57 rfl ?_
    refine RegV.p0 (v := (.d (.int .u8 (((rd a0 (IntKind.i64.wrap (a1 + y15_2))).toNat : Nat) : Int)))) rfl rfl rfl ?_
    refine RegV.p0 rfl rfl rfl ?_
    refine RegV.nil1 (by kernel_rfl) ?_
    refine AWc.seq ?_
    refine AWc.seqS (N := 60) 1 (fun (z : Bool) => [(0, (.ptr 0 0)), (5, (.d (.int .u64 y15_1))), (6, (.d (.int .i64 y15_2))), (7, (.d (.int .u8 (((rd a0 (IntKind.i64.wrap (a1 + y15_2))).toNat : Nat) : Int)))), (37, .any), (38, .any), (39, (.d (.bool z)))]) (fun z => [(0, (.cells [(.d (.sl (List.map byteD a0))), (.d (.int .i64 a1)), (.d (.int .i64 a2))]))]) (fun z => f89_j70 (f89_l15 a1 a0 k) k y15_2 a0 a1 y15_1 z = some o15) rfl_le ?_ ?_
    · refine AWc.rg hmix rfl rfl ?_
      refine RegV.p0 rfl rfl rfl ?_
      refine RegV.p0 (v := (.d (.bool (decide (y15_2 = (9 : Int)))))) rfl rfl rfl ?_
      refine RegV.p0 rfl rfl rfl ?_
      refine RegV.split (fun c66 => ?_) (fun c66 => ?_)
      · have h15 := cond_pos c66 h15
        refine RegV.p0 rfl rfl rfl ?_
        refine RegV.p0 (v := (.d (.bool (decide ((((rd a0 (IntKind.i64.wrap (a1 + y15_2))).toNat : Nat) : Int) > (1 : Int)))))) rfl rfl rfl ?_
        refine RegV.p0 rfl rfl rfl ?_
        refine RegV.nil0 ?_
        exact ⟨(decide ((((rd a0 (IntKind.i64.wrap (a1 + y15_2))).toNat : Nat) : Int) > (1 : Int))), h15, ⟨rfl, [], [], rfl, rfl, ⟨⟨_, rfl, (.refl _)⟩, rfl, ⟨⟨_, rfl, (.refl _)⟩, rfl, ⟨⟨_, rfl, (.refl _)⟩, rfl, ⟨⟨_, rfl, (.refl _)⟩, rfl, ⟨⟨_, rfl, (.any _)⟩, rfl, ⟨⟨_, rfl, (.any _)⟩, rfl, ⟨⟨_, rfl, (.refl _)⟩, rfl, trivial⟩⟩⟩⟩⟩⟩⟩, ⟨⟨_, rfl, (.refl _)⟩, rfl, rfl, trivial⟩⟩⟩
      · have h15 := cond_neg c66 h15
        refine RegV.noS rfl rfl ?_
        refine RegV.noS rfl rfl ?_
        refine RegV.p0 rfl rfl rfl ?_
        refine RegV.nil0 ?_
        exact ⟨false, h15, ⟨rfl, [], [], rfl, rfl, ⟨⟨_, rfl, (.refl _)⟩, rfl, ⟨⟨_, rfl, (.refl _)⟩, rfl, ⟨⟨_, rfl, (.refl _)⟩, rfl, ⟨⟨_, rfl, (.refl _)⟩, rfl, ⟨⟨_, rfl, (.any _)⟩, rfl, ⟨⟨_, rfl, (.any _)⟩, rfl, ⟨⟨_, rfl, (.refl _)⟩, rfl, trivial⟩⟩⟩⟩⟩⟩⟩, ⟨⟨_, rfl, (.refl _)⟩, rfl, rfl, trivial⟩⟩⟩
    · intro j70_1 h15
      unfold f89_j70 at h15
      refine AWc.cond rfl (fun c70 => ?_) (fun c70 => ?_)
      · have h15 := cond_pos c70 h15
        refine AWc.seq ?_
        refine AWc.rg hmix rfl rfl ?_
        refine RegV.p0 rfl rfl rfl ?_
        refine RegV.p0 rfl rfl rfl ?_
        refine RegV.p0 rfl rfl rfl ?_
        refine RegV.nil0 ?_
        cases h15
        dsimp only at h
        have hr := Option.some.inj h
        subst hr
        exact AWc.ret (canQ (N := 60) (k := 1) (l' := [(2, (.d (.int .u64 (0 : Int)))), (3, (.d (.int .i64 (0 : Int)))), (4, (.d (.int .i64 (4 : Int))))]) (H' := [(0, (.cells [(.d (.sl (List.map byteD a0))), (.d (.int .i64 a1)), (.d (.int .i64 a2))]))]) rfl ⟨rfl, [], [], rfl, rfl, ⟨⟨_, rfl, (.refl _)⟩, rfl, ⟨⟨_, rfl, (.refl _)⟩, rfl, ⟨⟨_, rfl, (.refl _)⟩, rfl, trivial⟩⟩⟩, ⟨⟨_, rfl, (.refl _)⟩, rfl, rfl, trivial⟩⟩ (doneA (.inr rfl) rfl ⟨trivial, ⟨trivial, ⟨trivial, trivial⟩⟩⟩ (.refl _) (hasCons rfl hasNil)))
      · have h15 := cond_neg c70 h15
        refine AWc.skip ?_
        refine AWc.seq ?_
        refine AWc.rg hmix rfl rfl ?_
        refine RegV.p0 rfl rfl rfl ?_
        refine RegV.p0 rfl rfl rfl ?_
        refine RegV.p0 (v := (.d (.int .u8 (bitsA .and .u8 (((rd a0 (IntKind.i64.wrap (a1 + y15_2))).toNat : Nat) : Int) (127 : Int))))) rfl rfl rfl ?_
        refine RegV.p0 (v := (.d (.int .u64 (IntKind.u64.wrap (bitsA .and .u8 (((rd a0 (IntKind.i64.wrap (a1 + y15_2))).toNat : Nat) : Int) (127 : Int)))))) rfl rfl rfl ?_
        refine RegV.p0 rfl rfl rfl ?_
        refine RegV.p0 (v := (.d (.int .i64 (IntKind.i64.wrap ((7 : Int) * y15_2))))) rfl rfl rfl ?_
        refine RegV.p0 (v := (.d (.int .u64 (IntKind.u64.wrap (IntKind.i64.wrap ((7 : Int) * y15_2)))))) rfl rfl rfl ?_
        obtain ⟨b89, h15⟩ := gd_some h15
        refine RegV.p1 (v := (.d (.int .u64 (IntKind.u64.wrap ((IntKind.u64.wrap (bitsA .and .u8 (((rd a0 (IntKind.i64.wrap (a1 + y15_2))).toNat : Nat) : Int) (127 : Int))) * 2 ^ (min ((IntKind.u64.wrap (IntKind.i64.wrap ((7 : Int) * y15_2)))).toNat IntKind.u64.bits)))))) rfl rfl b89 rfl rfl ?_
        refine RegV.p0 (v := (.d (.int .u64 (bitsA .or .u64 y15_1 (IntKind.u64.wrap ((IntKind.u64.wrap (bitsA .and .u8 (((rd a0 (IntKind.i64.wrap (a1 + y15_2))).toNat : Nat) : Int) (127 : Int))) * 2 ^ (min ((IntKind.u64.wrap (IntKind.i64.wrap ((7 : Int) * y15_2)))).toNat IntKind.u64.bits))))))) rfl rfl rfl ?_
        refine RegV.p0 rfl rfl rfl ?_
        refine RegV.nil0 ?_
        refine AWc.seq ?_
        refine AWc.rg hmix rfl rfl ?_
        refine RegV.p0 rfl rfl rfl ?_
        refine RegV.p0 (v := (.d (.bool (decide ((((rd a0 (IntKind.i64.wrap (a1 + y15_2))).toNat : Nat) : Int) < (128 : Int)))))) rfl rfl rfl ?_
        refine RegV.nil0 ?_
        refine AWc.cond rfl (fun c97 => ?_) (fun c97 => ?_)
        · have h15 := cond_pos c97 h15
          refine AWc.seq ?_
          refine AWc.seqS (N := 60) 1 (fun (z : Bool) => [(5, (.d (.int .u64 (bitsA .or .u64 y15_1 (IntKind.u64.wrap ((IntKind.u64.wrap (bitsA .and .u8 (((rd a0 (IntKind.i64.wrap (a1 + y15_2))).toNat : Nat) : Int) (127 : Int))) * 2 ^ (min ((IntKind.u64.wrap (IntKind.i64.wrap ((7 : Int) * y15_2)))).toNat IntKind.u64.bits))))))), (6, (.d (.int .i64 y15_2))), (56, (.d (.bool z)))]) (fun z => [(0, (.cells [(.d (.sl (List.map byteD a0))), (.d (.int .i64 a1)), (.d (.int .i64 a2))]))]) (fun z => f89_j108 k y15_1 a0 a1 y15_2 z = some o15) rfl_le ?_ ?_
          · refine AWc.rg hmix rfl rfl ?_
            refine RegV.p0 rfl rfl rfl ?_
            refine RegV.p0 (v := (.d (.bool (decide ((((rd a0 (IntKind.i64.wrap (a1 + y15_2))).toNat : Nat) : Int) = (0 : Int)))))) rfl rfl rfl ?_
            refine RegV.p0 rfl rfl rfl ?_
            refine RegV.split (fun c104 => ?_) (fun c104 => ?_)
            · have h15 := cond_pos c104 h15
              refine RegV.p0 rfl rfl rfl ?_
              refine RegV.p0 (v := (.d (.bool (decide (y15_2 > (0 : Int)))))) rfl rfl rfl ?_
              refine RegV.p0 rfl rfl rfl ?_
              refine RegV.nil0 ?_
              exact ⟨(decide (y15_2 > (0 : Int))), h15, ⟨rfl, [], [], rfl, rfl, ⟨⟨_, rfl, (.refl _)⟩, rfl, ⟨⟨_, rfl, (.refl _)⟩, rfl, ⟨⟨_, rfl, (.refl _)⟩, rfl, trivial⟩⟩⟩, ⟨⟨_, rfl, (.refl _)⟩, rfl, rfl, trivial⟩⟩⟩
            · have h15 := cond_neg c104 h15
              refine RegV.noS rfl rfl ?_
              refine RegV.noS rfl rfl ?_
              refine RegV.p0 rfl rfl rfl ?_
              refine RegV.nil0 ?_
              exact ⟨false, h15, ⟨rfl, [], [], rfl, rfl, ⟨⟨_, rfl, (.refl _)⟩, rfl, ⟨⟨_, rfl, (.refl _)⟩, rfl, ⟨⟨_, rfl, (.refl _)⟩, rfl, trivial⟩⟩⟩, ⟨⟨_, rfl, (.refl _)⟩, rfl, rfl, trivial⟩⟩⟩
          · intro j108_1 h15
            unfold f89_j108 at h15
            refine AWc.cond rfl (fun c108 => ?_) (fun c108 => ?_)
            · have h15 := cond_pos c108 h15
              refine AWc.seq ?_
              refine AWc.rg hmix rfl rfl ?_
              refine RegV.p0 rfl rfl rfl ?_
              refine RegV.p0 rfl rfl rfl ?_
              refine RegV.p0 rfl rfl rfl ?_
              refine RegV.nil0 ?_
              cases h15
              dsimp only at h
              have hr := Option.some.inj h
              subst hr
              exact AWc.ret (canQ (N := 60) (k := 1) (l' := [(2, (.d (.int .u64 (0 : Int)))), (3, (.d (.int .i64 (0 : Int)))), (4, (.d (.int .i64 (4 : Int))))]) (H' := [(0, (.cells [(.d (.sl (List.map byteD a0))), (.d (.int .i64 a1)), (.d (.int .i64 a2))]))]) rfl ⟨rfl, [], [], rfl, rfl, ⟨⟨_, rfl, (.refl _)⟩, rfl, ⟨⟨_, rfl, (.refl _)⟩, rfl, ⟨⟨_, rfl, (.refl _)⟩, rfl, trivial⟩⟩⟩, ⟨⟨_, rfl, (.refl _)⟩, rfl, rfl, trivial⟩⟩ (doneA (.inr rfl) rfl ⟨trivial, ⟨trivial, ⟨trivial, trivial⟩⟩⟩ (.refl _) (hasCons rfl hasNil)))
            · have h15 := cond_neg c108 h15
              refine AWc.skip ?_
              refine AWc.seq ?_
              refine AWc.rg hmix rfl rfl ?_
              refine RegV.p0 rfl rfl rfl ?_
              refine RegV.p0 rfl rfl rfl ?_
              refine RegV.p0 (v := (.d (.int .i64 (IntKind.i64.wrap (y15_2 + (1 : Int)))))) rfl rfl rfl ?_
              refine RegV.p0 rfl rfl rfl ?_
              refine RegV.p0 rfl rfl rfl ?_
              refine RegV.p0 rfl rfl rfl ?_
              refine RegV.nil0 ?_
              cases h15
              dsimp only at h
              have hr := Option.some.inj h
              subst hr
              exact AWc.ret (canQ (N := 60) (k := 1) (l' := [(2, (.d (.int .u64 (bitsA .or .u64 y15_1 (IntKind.u64.wrap ((IntKind.u64.wrap (bitsA .and .u8 (((rd a0 (IntKind.i64.wrap (a1 + y15_2))).toNat : Nat) : Int) (127 : Int))) * 2 ^ (min ((IntKind.u64.wrap (IntKind.i64.wrap ((7 : Int) * y15_2)))).toNat IntKind.u64.bits))))))), (3, (.d (.int .i64 (IntKind.i64.wrap (y15_2 + (1 : Int)))))), (4, (.d (.int .i64 (0 : Int))))]) (H' := [(0, (.cells [(.d (.sl (List.map byteD a0))), (.d (.int .i64 a1)), (.d (.int .i64 a2))]))]) rfl ⟨rfl, [], [], rfl, rfl, ⟨⟨_, rfl, (.refl _)⟩, rfl, ⟨⟨_, rfl, (.refl _)⟩, rfl, ⟨⟨_, rfl, (.refl _)⟩, rfl, trivial⟩⟩⟩, ⟨⟨_, rfl, (.refl _)⟩, rfl, rfl, trivial⟩⟩ (doneA (.inr rfl) rfl ⟨trivial, ⟨trivial, ⟨trivial, trivial⟩⟩⟩ (.refl _) (hasCons rfl hasNil)))
        · have h15 := cond_neg c97 h15
          refine AWc.skip ?_
          refine AWc.rg hmix rfl rfl ?_
          refine RegV.p0 rfl rfl rfl ?_
          refine RegV.p0 (v := (.d (.int .i64 (IntKind.i64.wrap (y15_2 + (1 : Int)))))) rfl rfl rfl ?_
          refine RegV.p0 rfl rfl rfl ?_
          refine RegV.nil0 ?_
          exact ⟨((bitsA .or .u64 y15_1 (IntKind.u64.wrap ((IntKind.u64.wrap (bitsA .and .u8 (((rd a0 (IntKind.i64.wrap (a1 + y15_2))).toNat : Nat) : Int) (127 : Int))) * 2 ^ (min ((IntKind.u64.wrap (IntKind.i64.wrap ((7 : Int) * y15_2)))).toNat IntKind.u64.bits)))), (IntKind.i64.wrap (y15_2 + (1 : Int)))), h15, ⟨rfl, [], [], rfl, rfl, ⟨⟨_, rfl, (.refl _)⟩, rfl, ⟨⟨_, rfl, (.refl _)⟩, rfl, ⟨⟨_, rfl, (.refl _)⟩, rfl, trivial⟩⟩⟩, ⟨⟨_, rfl, (.refl _)⟩, rfl, rfl, trivial⟩⟩⟩
/-- (*courant/courantref01.Reader).Num -/
def C46 (N : Nat → Nat) : AFunc := { n := 31, params := 1, res := [.tmp 2], body :=
 (.seq (.region false [⟨(some 2), .mv (.k (.d (.int .u64 0))), none, []⟩])
  (.seq (.seq (.region false [⟨(some 6), .mv (.t 0), none, []⟩,
     ⟨(some 7), .nilchk (.t 6), none, [0]⟩,
     ⟨(some 8), .faddr (.t 7) 2, none, [1]⟩,
     ⟨(some 9), .load (.t 8) 1 false, none, [2]⟩,
     ⟨(some 10), .bin .neq (.t 9) (.k (.d (.int .i64 0))), none, [3]⟩])
    (.cond (.t 10) (.seq (.region false [⟨(some 2), .mv (.k (.d (.int .u64 0))), none, []⟩])
      .ret)
     (.skip)))
   (.seq (.region false [⟨(some 12), .mv (.t 0), none, []⟩,
     ⟨(some 13), .call (.k (.d (.fn (N 89)))) [(.t 12)], none, [0]⟩,
     ⟨(some 11), .mv (.t 13), none, [1]⟩,
     ⟨(some 14), .ext (.t 11) 0, none, [2]⟩,
     ⟨(some 15), .ext (.t 11) 1, none, [2]⟩,
     ⟨(some 16), .ext (.t 11) 2, none, [2]⟩,
     ⟨(some 3), .mv (.t 14), none, [3, 1, 0, 2]⟩,
     ⟨(some 4), .mv (.t 15), none, [4, 6, 0, 1, 2, 3]⟩,
     ⟨(some 5), .mv (.t 16), none, [5, 7, 0, 1, 2, 3, 4, 6]⟩])
    (.seq (.region false [⟨(some 17), .mv (.t 0), none, []⟩,
      ⟨(some 18), .mv (.t 5), none, []⟩,
      ⟨(some 19), .nilchk (.t 17), none, [0, 1]⟩,
      ⟨(some 20), .faddr (.t 19) 2, none, [2, 0, 1]⟩,
      ⟨none, .store (.t 20) (.t 18) 1, none, [3, 1, 0]⟩])
     (.seq (.region false [⟨(some 21), .mv (.t 0), none, []⟩,
       ⟨(some 22), .mv (.t 0), none, []⟩,
       ⟨(some 23), .nilchk (.t 22), none, [1]⟩,
       ⟨(some 24), .faddr (.t 23) 1, none, [2]⟩,
       ⟨(some 25), .load (.t 24) 1 false, none, [3]⟩,
       ⟨(some 26), .mv (.t 4), none, []⟩,
       ⟨(some 27), .bin .add (.t 25) (.t 26), none, [4, 5]⟩,
       ⟨(some 28), .nilchk (.t 21), none, [0, 1, 2, 3, 4, 5, 6]⟩,
       ⟨(some 29), .faddr (.t 28) 1, none, [7, 0, 1, 2, 3, 4, 5, 6]⟩,
       ⟨none, .store (.t 29) (.t 27) 1, none, [8, 6, 0, 1, 2, 3, 4, 5]⟩])
      (.seq (.region false [⟨(some 30), .mv (.t 3), none, []⟩,
        ⟨(some 2), .mv (.t 30), none, [0]⟩])
       .ret)))))) }
def HC46 (P : Program) (N : Nat → Nat) : Prop := HasF P (N 46) (C46 N) ∧ HC89 P N
def f46 (k : Nat) (a0 : (List UInt8)) (a1 : Int) (a2 : Int) : Option (Int × Int × Int) := cond (decide (a2 ≠ (0 : Int))) (some ((0 : Int), a1, a2)) ((f89 k a0 a1 a2).bind fun r25 => some (r25.1, (IntKind.i64.wrap (a1 + r25.2.1)), r25.2.2))
theorem F46 {P : Program} {N : Nat → Nat} (hmix : P.follows .mixedOrders = true) (hc : HC46 P N) {k : Nat} {a0 : (List UInt8)} {a1 : Int} {a2 : Int} {r : (Int × Int × Int)} (h : f46 k a0 a1 a2 = some r) :
    ACalls P (N 46) [(.ptr 0 0)] [(0, (.cells [(.d (.sl (List.map byteD a0))), (.d (.int .i64 a1)), (.d (.int .i64 a2))]))] (.d (.int .u64 r.1)) [(0, (.cells [(.d (.sl (List.map byteD a0))), (.d (.int .i64 r.2.1)), (.d (.int .i64 r.2.2))]))] := by
  refine acalls_canon (F := C46 N) hc.1 1 1 rfl ?_
  unfold f46 at h
  dsimp only [C46, startL]
  refine AWc.seq ?_
  refine AWc.rg hmix rfl rfl ?_
  refine RegV.p0 rfl rfl rfl ?_
  refine RegV.nil0 ?_
  refine AWc.seq ?_
  refine AWc.seq ?_
  refine AWc.rg hmix rfl rfl ?_
  refine RegV.p0 rfl rfl rfl ?_
  refine RegV.p0 rfl rfl rfl ?_
  refine RegV.p0 (v := (.ptr 0 2)) rfl rfl rfl ?_
  refine RegV.ld (v := (.d (.int .i64 a2))) (H' := [(0, (.cells [(.d (.sl (List.map byteD a0))), (.d (.int .i64 a1)), (.d (.int .i64 a2))]))]) rfl rfl trivial rfl rfl rfl rfl rfl ?_
  refine RegV.p0 (v := (.d (.bool (decide (a2 ≠ (0 : Int)))))) rfl rfl rfl ?_
  refine RegV.nil0 ?_
  refine AWc.cond rfl (fun c14 => ?_) (fun c14 => ?_)
  · have h := cond_pos c14 h
    refine AWc.seq ?_
    refine AWc.rg hmix rfl rfl ?_
    refine RegV.p0 rfl rfl rfl ?_
    refine RegV.nil0 ?_
    have hr := Option.some.inj h
    subst hr
    exact AWc.ret (canQ (N := 31) (k := 1) (l' := [(2, (.d (.int .u64 (0 : Int))))]) (H' := [(0, (.cells [(.d (.sl (List.map byteD a0))), (.d (.int .i64 a1)), (.d (.int .i64 a2))]))]) rfl ⟨rfl, [], [], rfl, rfl, ⟨⟨_, rfl, (.refl _)⟩, rfl, trivial⟩, ⟨⟨_, rfl, (.refl _)⟩, rfl, rfl, trivial⟩⟩ (doneA (.inr rfl) rfl ⟨trivial, trivial⟩ (.refl _) (hasCons rfl hasNil)))
  · have h := cond_neg c14 h
    refine AWc.skip ?_
    refine AWc.seq ?_
    refine AWc.rg hmix rfl rfl ?_
    refine RegV.p0 rfl rfl rfl ?_
    obtain ⟨r25, e25, h⟩ := bind_some h
    refine RegV.callS (q := true) (H' := [(0, (.cells [(.d (.sl (List.map byteD a0))), (.d (.int .i64 a1)), (.d (.int .i64 a2))]))]) (c' := 1) (show ACalls P (N 89) [(.ptr 0 0)] [(0, (.cells [(.d (.sl (List.map byteD a0))), (.d (.int .i64 a1)), (.d (.int .i64 a2))]))] (.tup [(.d (.int .u64 r25.1)), (.d (.int .i64 r25.2.1)), (.d (.int .i64 r25.2.2))]) [(0, (.cells [(.d (.sl (List.map byteD a0))), (.d (.int .i64 a1)), (.d (.int .i64 a2))]))] from ACalls.use (F89 hmix hc.2 e25) [(0, 0)] 1 rfl) rfl rfl rfl rfl (.cons (.refl _) .nil) (.refl _) (fun _ => rfl) rfl (hasCons rfl hasNil) rfl rfl rfl rfl ?_
    refine RegV.p0 rfl rfl rfl ?_
    refine RegV.p0 rfl rfl rfl ?_
    refine RegV.p0 rfl rfl rfl ?_
    refine RegV.p0 rfl rfl rfl ?_
    refine RegV.p0 rfl rfl rfl ?_
    refine RegV.p0 rfl rfl rfl ?_
    refine RegV.p0 rfl rfl rfl ?_
    refine RegV.nil0 ?_
    refine AWc.seq ?_
    refine AWc.rg hmix rfl rfl ?_
    refine RegV.p0 rfl rfl rfl ?_
    refine RegV.p0 rfl rfl rfl ?_
    refine RegV.p0 rfl rfl rfl ?_
    refine RegV.p0 (v := (.ptr 0 2)) rfl rfl rfl ?_
    refine RegV.evN (own := false) (H' := [(0, (.cells [(.d (.sl (List.map byteD a0))), (.d (.int .i64 a1)), (.d (.int .i64 r25.2.2))]))]) (c' := 1) rfl rfl (by exact ⟨rfl, Nat.le_of_ble_eq_true rfl, rfl⟩) rfl rfl rfl rfl ?_
    refine RegV.nil0 ?_
    refine AWc.seq ?_
    refine AWc.rg hmix rfl rfl ?_
    refine RegV.p0 rfl rfl rfl ?_
    refine RegV.p0 rfl rfl rfl ?_
    refine RegV.p0 rfl rfl rfl ?_
    refine RegV.p0 (v := (.ptr 0 1)) rfl rfl rfl ?_
    refine RegV.ld (v := (.d (.int .i64 a1))) (H' := [(0, (.cells [(.d (.sl (List.map byteD a0))), (.d (.int .i64 a1)), (.d (.int .i64 r25.2.2))]))]) rfl rfl trivial rfl rfl rfl rfl rfl ?_
    refine RegV.p0 rfl rfl rfl ?_
    refine RegV.p0 (v := (.d (.int .i64 (IntKind.i64.wrap (a1 + r25.2.1))))) rfl rfl rfl ?_
    refine RegV.p0 rfl rfl rfl ?_
    refine RegV.p0 (v := (.ptr 0 1)) rfl rfl rfl ?_
    refine RegV.evN (own := false) (H' := [(0, (.cells [(.d (.sl (List.map byteD a0))), (.d (.int .i64 (IntKind.i64.wrap (a1 + r25.2.1)))), (.d (.int .i64 r25.2.2))]))]) (c' := 1) rfl rfl (by exact ⟨rfl, Nat.le_of_ble_eq_true rfl, rfl⟩) rfl rfl rfl rfl ?_
    refine RegV.nil0 ?_
    refine AWc.seq ?_
    refine AWc.rg hmix rfl rfl ?_
    refine RegV.p0 rfl rfl rfl ?_
    refine RegV.p0 rfl rfl rfl ?_
    refine RegV.nil0 ?_
    have hr := Option.some.inj h
    subst hr
    exact AWc.ret (canQ (N := 31) (k := 1) (l' := [(2, (.d (.int .u64 r25.1)))]) (H' := [(0, (.cells [(.d (.sl (List.map byteD a0))), (.d (.int .i64 (IntKind.i64.wrap (a1 + r25.2.1)))), (.d (.int .i64 r25.2.2))]))]) rfl ⟨rfl, [], [], rfl, rfl, ⟨⟨_, rfl, (.refl _)⟩, rfl, trivial⟩, ⟨⟨_, rfl, (.refl _)⟩, rfl, rfl, trivial⟩⟩ (doneA (.inr rfl) rfl ⟨trivial, trivial⟩ (.refl _) (hasCons rfl hasNil)))
/-- courant/courantref01.signed -/
def C90 (N : Nat → Nat) : AFunc := { n := 14, params := 1, res := [.tmp 2], body :=
 (.seq (.region false [⟨(some 2), .mv (.k (.d (.int .i64 0))), none, []⟩])
  (.seq (.seq (.region false [⟨(some 3), .mv (.t 0), none, []⟩,
     ⟨(some 4), .bin .rem (.t 3) (.k (.d (.int .u64 2))), none, [0]⟩,
     ⟨(some 5), .bin .eql (.t 4) (.k (.d (.int .u64 0))), none, [1]⟩])
    (.cond (.t 5) (.seq (.region false [⟨(some 6), .mv (.t 0), none, []⟩,
       ⟨(some 7), .bin .quo (.t 6) (.k (.d (.int .u64 2))), none, [0]⟩,
       ⟨(some 8), .cvi .i64 (.t 7), none, [1]⟩,
       ⟨(some 2), .mv (.t 8), none, [2, 0, 1]⟩])
      .ret)
     (.skip)))
   (.seq (.region false [⟨(some 9), .mv (.t 0), none, []⟩,
     ⟨(some 10), .bin .quo (.t 9) (.k (.d (.int .u64 2))), none, [0]⟩,
     ⟨(some 11), .cvi .i64 (.t 10), none, [1]⟩,
     ⟨(some 12), .un .neg (.t 11), none, [2]⟩,
     ⟨(some 13), .bin .sub (.t 12) (.k (.d (.int .i64 1))), none, [3]⟩,
     ⟨(some 2), .mv (.t 13), none, [4, 0, 1, 2, 3]⟩])
    .ret))) }
def HC90 (P : Program) (N : Nat → Nat) : Prop := HasF P (N 90) (C90 N)
def f90 (k : Nat) (a0 : Int) : Option Int := cond (decide ((Int.tmod a0 (2 : Int)) = (0 : Int))) (some (IntKind.i64.wrap (IntKind.u64.wrap (Int.tdiv a0 (2 : Int))))) (some (IntKind.i64.wrap ((IntKind.i64.wrap (0 - (IntKind.i64.wrap (IntKind.u64.wrap (Int.tdiv a0 (2 : Int)))))) - (1 : Int))))
theorem F90 {P : Program} {N : Nat → Nat} (hmix : P.follows .mixedOrders = true) (hc : HC90 P N) {k : Nat} {a0 : Int} {r : Int} (h : f90 k a0 = some r) :
    ACalls P (N 90) [(.d (.int .u64 a0))] [] (.d (.int .i64 r)) [] := by
  refine acalls_canon (F := C90 N) hc 0 0 rfl ?_
  unfold f90 at h
  dsimp only [C90, startL]
  refine AWc.seq ?_
  refine AWc.rg hmix rfl rfl ?_
  refine RegV.p0 rfl rfl rfl ?_
  refine RegV.nil0 ?_
  refine AWc.seq ?_
  refine AWc.seq ?_
  refine AWc.rg hmix rfl rfl ?_
  refine RegV.p0 rfl rfl rfl ?_
  refine RegV.p1 (v := (.d (.int .u64 (Int.tmod a0 (2 : Int))))) rfl rfl (by decide) rfl rfl ?_
  refine RegV.p0 (v := (.d (.bool (decide ((Int.tmod a0 (2 : Int)) = (0 : Int)))))) rfl rfl rfl ?_
  refine RegV.nil0 ?_
  refine AWc.cond rfl (fun c12 => ?_) (fun c12 => ?_)
  · have h := cond_pos c12 h
    refine AWc.seq ?_
    refine AWc.rg hmix rfl rfl ?_
    refine RegV.p0 rfl rfl rfl ?_
    refine RegV.p1 (v := (.d (.int .u64 (IntKind.u64.wrap (Int.tdiv a0 (2 : Int)))))) rfl rfl (by decide) rfl rfl ?_
    refine RegV.p0 (v := (.d (.int .i64 (IntKind.i64.wrap (IntKind.u64.wrap (Int.tdiv a0 (2 : Int))))))) rfl rfl rfl ?_
    refine RegV.p0 rfl rfl rfl ?_
    refine RegV.nil0 ?_
    have hr := Option.some.inj h
    subst hr
    exact AWc.ret (canQ (N := 14) (k := 0) (l' := [(2, (.d (.int .i64 (IntKind.i64.wrap (IntKind.u64.wrap (Int.tdiv a0 (2 : Int)))))))]) (H' := []) rfl ⟨rfl, [], [], rfl, rfl, ⟨⟨_, rfl, (.refl _)⟩, rfl, trivial⟩,  trivial⟩ (doneA (.inr rfl) rfl ⟨trivial, trivial⟩ (.refl _) hasNil))
  · have h := cond_neg c12 h
    refine AWc.skip ?_
    refine AWc.seq ?_
    refine AWc.rg hmix rfl rfl ?_
    refine RegV.p0 rfl rfl rfl ?_
    refine RegV.p1 (v := (.d (.int .u64 (IntKind.u64.wrap (Int.tdiv a0 (2 : Int)))))) rfl rfl (by decide) rfl rfl ?_
    refine RegV.p0 (v := (.d (.int .i64 (IntKind.i64.wrap (IntKind.u64.wrap (Int.tdiv a0 (2 : Int))))))) rfl rfl rfl ?_
    refine RegV.p0 (v := (.d (.int .i64 (IntKind.i64.wrap (0 - (IntKind.i64.wrap (IntKind.u64.wrap (Int.tdiv a0 (2 : Int))))))))) rfl rfl rfl ?_
    refine RegV.p0 (v := (.d (.int .i64 (IntKind.i64.wrap ((IntKind.i64.wrap (0 - (IntKind.i64.wrap (IntKind.u64.wrap (Int.tdiv a0 (2 : Int)))))) - (1 : Int)))))) rfl rfl rfl ?_
    refine RegV.p0 rfl rfl rfl ?_
    refine RegV.nil0 ?_
    have hr := Option.some.inj h
    subst hr
    exact AWc.ret (canQ (N := 14) (k := 0) (l' := [(2, (.d (.int .i64 (IntKind.i64.wrap ((IntKind.i64.wrap (0 - (IntKind.i64.wrap (IntKind.u64.wrap (Int.tdiv a0 (2 : Int)))))) - (1 : Int))))))]) (H' := []) rfl ⟨rfl, [], [], rfl, rfl, ⟨⟨_, rfl, (.refl _)⟩, rfl, trivial⟩,  trivial⟩ (doneA (.inr rfl) rfl ⟨trivial, trivial⟩ (.refl _) hasNil))
/-- (*courant/courantref01.Reader).Zig -/
def C47 (N : Nat → Nat) : AFunc := { n := 6, params := 1, res := [.tmp 2], body :=
 (.seq (.region false [⟨(some 2), .mv (.k (.d (.int .i64 0))), none, []⟩])
  (.seq (.region false [⟨(some 3), .mv (.t 0), none, []⟩,
    ⟨(some 4), .call (.k (.d (.fn (N 46)))) [(.t 3)], none, [0]⟩,
    ⟨(some 5), .call (.k (.d (.fn (N 90)))) [(.t 4)], none, [1]⟩,
    ⟨(some 2), .mv (.t 5), none, [2, 0, 1]⟩])
   .ret)) }
def HC47 (P : Program) (N : Nat → Nat) : Prop := HasF P (N 47) (C47 N) ∧ HC46 P N ∧ HC90 P N
def f47 (k : Nat) (a0 : (List UInt8)) (a1 : Int) (a2 : Int) : Option (Int × Int × Int) := (f46 k a0 a1 a2).bind fun r9 => (f90 k r9.1).bind fun r10 => some (r10, r9.2.1, r9.2.2)
theorem F47 {P : Program} {N : Nat → Nat} (hmix : P.follows .mixedOrders = true) (hc : HC47 P N) {k : Nat} {a0 : (List UInt8)} {a1 : Int} {a2 : Int} {r : (Int × Int × Int)} (h : f47 k a0 a1 a2 = some r) :
    ACalls P (N 47) [(.ptr 0 0)] [(0, (.cells [(.d (.sl (List.map byteD a0))), (.d (.int .i64 a1)), (.d (.int .i64 a2))]))] (.d (.int .i64 r.1)) [(0, (.cells [(.d (.sl (List.map byteD a0))), (.d (.int .i64 r.2.1)), (.d (.int .i64 r.2.2))]))] := by
  refine acalls_canon (F := C47 N) hc.1 1 1 rfl ?_
  unfold f47 at h
  dsimp only [C47, startL]
  refine AWc.seq ?_
  refine AWc.rg hmix rfl rfl ?_
  refine RegV.p0 rfl rfl rfl ?_
  refine RegV.nil0 ?_
  refine AWc.seq ?_
  refine AWc.rg hmix rfl rfl ?_
  refine RegV.p0 rfl rfl rfl ?_
  obtain ⟨r9, e9, h⟩ := bind_some h
  refine RegV.callS (q := false) (H' := [(0, (.cells [(.d (.sl (List.map byteD a0))), (.d (.int .i64 r9.2.1)), (.d (.int .i64 r9.2.2))]))]) (c' := 1) (show ACalls P (N 46) [(.ptr 0 0)] [(0, (.cells [(.d (.sl (List.map byteD a0))), (.d (.int .i64 a1)), (.d (.int .i64 a2))]))] (.d (.int .u64 r9.1)) [(0, (.cells [(.d (.sl (List.map byteD a0))), (.d (.int .i64 r9.2.1)), (.d (.int .i64 r9.2.2))]))] from ACalls.use (F46 hmix hc.2.1 e9) [(0, 0)] 1 rfl) rfl rfl rfl rfl (.cons (.refl _) .nil) (.refl _) (fun h => by cases h) rfl (hasCons rfl hasNil) rfl rfl rfl rfl ?_
  obtain ⟨r10, e10, h⟩ := bind_some h
  refine RegV.call0 (F90 hmix hc.2.2 e10) rfl rfl rfl rfl (.cons (.refl _) .nil) rfl ?_
  refine RegV.p0 rfl rfl rfl ?_
  refine RegV.nil0 ?_
  have hr := Option.some.inj h
  subst hr
  exact AWc.ret (canQ (N := 6) (k := 1) (l' := [(2, (.d (.int .i64 r10)))]) (H' := [(0, (.cells [(.d (.sl (List.map byteD a0))), (.d (.int .i64 r9.2.1)), (.d (.int .i64 r9.2.2))]))]) rfl ⟨rfl, [], [], rfl, rfl, ⟨⟨_, rfl, (.refl _)⟩, rfl, trivial⟩, ⟨⟨_, rfl, (.refl _)⟩, rfl, rfl, trivial⟩⟩ (doneA (.inr rfl) rfl ⟨trivial, trivial⟩ (.refl _) (hasCons rfl hasNil)))
/-- (*courant/courantref01.Reader).Text -/
def C48 (N : Nat → Nat) : AFunc := { n := 90, params := 2, res := [.tmp 4], body :=
 (.seq (.region false [⟨(some 4), .mv (.k .nils), none, []⟩])
  (.seq (.seq (.region false [⟨(some 10), .mv (.t 0), none, []⟩,
     ⟨(some 11), .nilchk (.t 10), none, [0]⟩,
     ⟨(some 12), .faddr (.t 11) 2, none, [1]⟩,
     ⟨(some 13), .load (.t 12) 1 false, none, [2]⟩,
     ⟨(some 14), .bin .neq (.t 13) (.k (.d (.int .i64 0))), none, [3]⟩])
    (.cond (.t 14) (.seq (.region false [⟨(some 4), .mv (.k .nils), none, []⟩])
      .ret)
     (.skip)))
   (.seq (.region false [⟨(some 16), .mv (.t 0), none, []⟩,
     ⟨(some 17), .call (.k (.d (.fn (N 89)))) [(.t 16)], none, [0]⟩,
     ⟨(some 15), .mv (.t 17), none, [1]⟩,
     ⟨(some 18), .ext (.t 15) 0, none, [2]⟩,
     ⟨(some 19), .ext (.t 15) 1, none, [2]⟩,
     ⟨(some 20), .ext (.t 15) 2, none, [2]⟩,
     ⟨(some 5), .mv (.t 18), none, [3, 1, 0, 2]⟩,
     ⟨(some 6), .mv (.t 19), none, [4, 6, 0, 1, 2, 3]⟩,
     ⟨(some 7), .mv (.t 20), none, [5, 7, 0, 1, 2, 3, 4, 6]⟩])
    (.seq (.region false [⟨(some 21), .mv (.t 5), none, []⟩,
      ⟨(some 22), .call (.k (.d (.fn (N 90)))) [(.t 21)], none, [0]⟩,
      ⟨(some 8), .mv (.t 22), none, [1, 0]⟩])
     (.seq (.block 0 (.seq (.region false [⟨(some 24), .mv (.t 7), none, []⟩,
         ⟨(some 25), .bin .neq (.t 24) (.k (.d (.int .i64 0))), none, [0]⟩,
         ⟨(some 23), .mv (.t 25), none, [1]⟩])
        (.cond (.t 23) (.region false [⟨(some 26), .mv (.t 0), none, []⟩,
          ⟨(some 27), .mv (.t 7), none, []⟩,
          ⟨(some 28), .nilchk (.t 26), none, [0, 1]⟩,
          ⟨(some 29), .faddr (.t 28) 2, none, [2, 0, 1]⟩,
          ⟨none, .store (.t 29) (.t 27) 1, none, [3, 1, 0]⟩])
         (.seq (.region false [⟨(some 31), .mv (.t 8), none, []⟩,
           ⟨(some 32), .bin .lss (.t 31) (.k (.d (.int .i64 0))), none, [0]⟩,
           ⟨(some 30), .mv (.t 32), none, [1]⟩])
          (.cond (.t 30) (.region false [⟨(some 33), .mv (.t 0), none, []⟩,
            ⟨(some 34), .nilchk (.t 33), none, [0]⟩,
            ⟨(some 35), .faddr (.t 34) 2, none, [1, 0]⟩,
            ⟨none, .store (.t 35) (.k (.d (.int .i64 4))) 1, none, [2, 0]⟩])
           (.seq (.region false [⟨(some 37), .mv (.t 8), none, []⟩,
             ⟨(some 38), .mv (.t 1), none, []⟩,
             ⟨(some 39), .mm true [(.t 38), (.k (.d (.int .i64 0)))], none, [1]⟩,
             ⟨(some 40), .bin .gtr (.t 37) (.t 39), none, [0, 2]⟩,
             ⟨(some 36), .mv (.t 40), none, [3]⟩])
            (.cond (.t 36) (.region false [⟨(some 41), .mv (.t 0), none, []⟩,
              ⟨(some 42), .nilchk (.t 41), none, [0]⟩,
              ⟨(some 43), .faddr (.t 42) 2, none, [1, 0]⟩,
              ⟨none, .store (.t 43) (.k (.d (.int .i64 5))) 1, none, [2, 0]⟩])
             (.seq (.region true [⟨(some 45), .mv (.t 8), none, []⟩,
               ⟨(some 46), .mv (.t 0), none, []⟩,
               ⟨(some 47), .nilchk (.t 46), none, [1]⟩,
               ⟨(some 48), .faddr (.t 47) 0, none, [2]⟩,
               ⟨(some 49), .load (.t 48) 1 false, none, [3]⟩,
               ⟨(some 50), .len (.t 49), none, [4]⟩,
               ⟨(some 51), .mv (.t 0), none, []⟩,
               ⟨(some 52), .nilchk (.t 51), none, [6]⟩,
               ⟨(some 53), .faddr (.t 52) 1, none, [7]⟩,
               ⟨(some 54), .load (.t 53) 1 false, none, [8]⟩,
               ⟨(some 55), .bin .sub (.t 50) (.t 54), none, [5, 9]⟩,
               ⟨(some 56), .mv (.t 6), none, []⟩,
               ⟨(some 57), .bin .sub (.t 55) (.t 56), none, [10, 11]⟩,
               ⟨(some 58), .bin .gtr (.t 45) (.t 57), none, [0, 12]⟩,
               ⟨(some 44), .mv (.t 58), none, [13]⟩])
              (.cond (.t 44) (.region false [⟨(some 59), .mv (.t 0), none, []⟩,
                ⟨(some 60), .nilchk (.t 59), none, [0]⟩,
                ⟨(some 61), .faddr (.t 60) 2, none, [1, 0]⟩,
                ⟨none, .store (.t 61) (.k (.d (.int .i64 3))) 1, none, [2, 0]⟩])
               (.skip))))))))))
      (.seq (.seq (.region false [⟨(some 62), .mv (.t 0), none, []⟩,
         ⟨(some 63), .nilchk (.t 62), none, [0]⟩,
         ⟨(some 64), .faddr (.t 63) 2, none, [1]⟩,
         ⟨(some 65), .load (.t 64) 1 false, none, [2]⟩,
         ⟨(some 66), .bin .neq (.t 65) (.k (.d (.int .i64 0))), none, [3]⟩])
        (.cond (.t 66) (.seq (.region false [⟨(some 4), .mv (.k .nils), none, []⟩])
          .ret)
         (.skip)))
       (.seq (.region false [⟨(some 67), .mv (.t 0), none, []⟩,
         ⟨(some 68), .nilchk (.t 67), none, [0]⟩,
         ⟨(some 69), .faddr (.t 68) 1, none, [1]⟩,
         ⟨(some 70), .load (.t 69) 1 false, none, [2]⟩,
         ⟨(some 71), .mv (.t 6), none, []⟩,
         ⟨(some 72), .bin .add (.t 70) (.t 71), none, [3, 4]⟩,
         ⟨(some 9), .mv (.t 72), none, [5, 0, 1, 2, 3, 4]⟩])
        (.seq (.region false [⟨(some 73), .mv (.t 0), none, []⟩,
          ⟨(some 74), .mv (.t 9), none, []⟩,
          ⟨(some 75), .mv (.t 8), none, []⟩,
          ⟨(some 76), .bin .add (.t 74) (.t 75), none, [1, 2]⟩,
          ⟨(some 77), .nilchk (.t 73), none, [0, 1, 2, 3]⟩,
          ⟨(some 78), .faddr (.t 77) 1, none, [4, 0, 1, 2, 3]⟩,
          ⟨none, .store (.t 78) (.t 76) 1, none, [5, 3, 0, 1, 2]⟩])
         (.seq (.region true [⟨(some 79), .mv (.t 0), none, []⟩,
           ⟨(some 80), .nilchk (.t 79), none, [0]⟩,
           ⟨(some 81), .faddr (.t 80) 0, none, [1]⟩,
           ⟨(some 82), .load (.t 81) 1 false, none, [2]⟩,
           ⟨(some 83), .mv (.t 9), none, []⟩,
           ⟨(some 84), .mv (.t 0), none, []⟩,
           ⟨(some 85), .nilchk (.t 84), none, [5]⟩,
           ⟨(some 86), .faddr (.t 85) 1, none, [6]⟩,
           ⟨(some 87), .load (.t 86) 1 false, none, [7]⟩,
           ⟨(some 88), .slc (.t 82) (some (.t 83)) (some (.t 87)) none 1, none, [3, 4, 8]⟩,
           ⟨(some 89), .app (.k .nils) (.t 88) 1 1 [(.int .u8 0)], none, [9]⟩,
           ⟨(some 4), .mv (.t 89), none, [10, 0, 1, 2, 3, 4, 5, 6, 7, 8, 9]⟩])
          .ret))))))))) }
def HC48 (P : Program) (N : Nat → Nat) : Prop := HasF P (N 48) (C48 N) ∧ HC89 P N ∧ HC90 P N
def f48_j109 (k : Nat) (a1 : Int) (r25 : (Int × Int × Int)) (r37 : Int) (a0 : (List UInt8)) (j109_1 : Int) : Option ((List UInt8) × Int × Int) := cond (decide (j109_1 ≠ (0 : Int))) (some (([] : List UInt8), a1, j109_1)) (gd (0 ≤ (IntKind.i64.wrap (a1 + r25.2.1)) ∧ (IntKind.i64.wrap (a1 + r25.2.1)) ≤ (IntKind.i64.wrap ((IntKind.i64.wrap (a1 + r25.2.1)) + r37)) ∧ (IntKind.i64.wrap ((IntKind.i64.wrap (a1 + r25.2.1)) + r37)) ≤ ((a0.length : Nat) : Int)) (gd ((sl a0 (IntKind.i64.wrap (a1 + r25.2.1)) (IntKind.i64.wrap ((IntKind.i64.wrap (a1 + r25.2.1)) + r37))).length * 1 ≤ 281474976710656) (some ((sl a0 (IntKind.i64.wrap (a1 + r25.2.1)) (IntKind.i64.wrap ((IntKind.i64.wrap (a1 + r25.2.1)) + r37))), (IntKind.i64.wrap ((IntKind.i64.wrap (a1 + r25.2.1)) + r37)), j109_1))))
def f48 (k : Nat) (a0 : (List UInt8)) (a1 : Int) (a2 : Int) (a3 : Int) : Option ((List UInt8) × Int × Int) := cond (decide (a2 ≠ (0 : Int))) (some (([] : List UInt8), a1, a2)) ((f89 k a0 a1 a2).bind fun r25 => (f90 k r25.1).bind fun r37 => cond (decide (r25.2.2 ≠ (0 : Int))) (f48_j109 k a1 r25 r37 a0 r25.2.2) (cond (decide (r37 < (0 : Int))) (f48_j109 k a1 r25 r37 a0 (4 : Int)) (cond (decide (r37 > (max a3 (0 : Int)))) (f48_j109 k a1 r25 r37 a0 (5 : Int)) (cond (decide (r37 > (IntKind.i64.wrap ((IntKind.i64.wrap (((a0.length : Nat) : Int) - a1)) - r25.2.1)))) (f48_j109 k a1 r25 r37 a0 (3 : Int)) (f48_j109 k a1 r25 r37 a0 a2)))))
theorem F48 {P : Program} {N : Nat → Nat} (hmix : P.follows .mixedOrders = true) (hc : HC48 P N) {k : Nat} {a0 : (List UInt8)} {a1 : Int} {a2 : Int} {a3 : Int} {r : ((List UInt8) × Int × Int)} (h : f48 k a0 a1 a2 a3 = some r) :
    ACalls P (N 48) [(.ptr 0 0), (.d (.int .i64 a3))] [(0, (.cells [(.d (.sl (List.map byteD a0))), (.d (.int .i64 a1)), (.d (.int .i64 a2))]))] (.ap 1 1 (List.map byteD r.1)) [(1, (.tok ((List.map byteD r.1).length * 1))), (0, (.cells [(.d (.sl (List.map byteD a0))), (.d (.int .i64 r.2.1)), (.d (.int .i64 r.2.2))]))] := by
  refine acalls_canon (F := C48 N) hc.1 1 2 rfl ?_
  unfold f48 at h
  dsimp only [C48, startL]
  refine AWc.seq ?_
  refine AWc.rg hmix rfl rfl ?_
  refine RegV.p0 rfl rfl rfl ?_
  refine RegV.nil0 ?_
  refine AWc.seq ?_
  refine AWc.seq ?_
  refine AWc.rg hmix rfl rfl ?_
  refine RegV.p0 rfl rfl rfl ?_
  refine RegV.p0 rfl rfl rfl ?_
  refine RegV.p0 (v := (.ptr 0 2)) rfl rfl rfl ?_
  refine RegV.ld (v := (.d (.int .i64 a2))) (H' := [(0, (.cells [(.d (.sl (List.map byteD a0))), (.d (.int .i64 a1)), (.d (.int .i64 a2))]))]) rfl rfl trivial rfl rfl rfl rfl rfl ?_
  refine RegV.p0 (v := (.d (.bool (decide (a2 ≠ (0 : Int)))))) rfl rfl rfl ?_
  refine RegV.nil0 ?_
  refine AWc.cond rfl (fun c14 => ?_) (fun c14 => ?_)
  · have h := cond_pos c14 h
    refine AWc.seq ?_
    refine AWc.rg hmix rfl rfl ?_
    refine RegV.p0 rfl rfl rfl ?_
    refine RegV.nil0 ?_
    have hr := Option.some.inj h
    subst hr
    exact AWc.ret (canQ (N := 90) (k := 2) (l' := [(4, (.ap 1 1 (List.map byteD ([] : List UInt8))))]) (H' := [(1, (.tok ((List.map byteD ([] : List UInt8)).length * 1))), (0, (.cells [(.d (.sl (List.map byteD a0))), (.d (.int .i64 a1)), (.d (.int .i64 a2))]))]) rfl ⟨rfl, [.tok 0], [(1, 1)], rfl, rfl, ⟨⟨_, rfl, .nil⟩, rfl, trivial⟩, ⟨⟨_, rfl, (.refl _)⟩, rfl, rfl, ⟨⟨_, rfl, (.refl _)⟩, rfl, rfl, trivial⟩⟩⟩ (doneA (.inr rfl) rfl ⟨trivial, trivial⟩ (.refl _) (hasCons rfl (hasCons rfl hasNil))))
  · have h := cond_neg c14 h
    refine AWc.skip ?_
    refine AWc.seq ?_
    refine AWc.rg hmix rfl rfl ?_
    refine RegV.p0 rfl rfl rfl ?_
    obtain ⟨r25, e25, h⟩ := bind_some h
    refine RegV.callS (q := true) (H' := [(0, (.cells [(.d (.sl (List.map byteD a0))), (.d (.int .i64 a1)), (.d (.int .i64 a2))]))]) (c' := 1) (show ACalls P (N 89) [(.ptr 0 0)] [(0, (.cells [(.d (.sl (List.map byteD a0))), (.d (.int .i64 a1)), (.d (.int .i64 a2))]))] (.tup [(.d (.int .u64 r25.1)), (.d (.int .i64 r25.2.1)), (.d (.int .i64 r25.2.2))]) [(0, (.cells [(.d (.sl (List.map byteD a0))), (.d (.int .i64 a1)), (.d (.int .i64 a2))]))] from ACalls.use (F89 hmix hc.2.1 e25) [(0, 0)] 1 rfl) rfl rfl rfl rfl (.cons (.refl _) .nil) (.refl _) (fun _ => rfl) rfl (hasCons rfl hasNil) rfl rfl rfl rfl ?_
    refine RegV.p0 rfl rfl rfl ?_
    refine RegV.p0 rfl rfl rfl ?_
    refine RegV.p0 rfl rfl rfl ?_
    refine RegV.p0 rfl rfl rfl ?_
    refine RegV.p0 rfl rfl rfl ?_
    refine RegV.p0 rfl rfl rfl ?_
    refine RegV.p0 rfl rfl rfl ?_
    refine RegV.nil0 ?_
    refine AWc.seq ?_
    refine AWc.rg hmix rfl rfl ?_
    refine RegV.p0 rfl rfl rfl ?_
    obtain ⟨r37, e37, h⟩ := bind_some h
    refine RegV.call0 (F90 hmix hc.2.2 e37) rfl rfl rfl rfl (.cons (.refl _) .nil) rfl ?_
    refine RegV.p0 rfl rfl rfl ?_
    refine RegV.nil0 ?_
    refine AWc.seqS (N := 90) 1 (fun (z : Int) => [(0, (.ptr 0 0)), (6, (.d (.int .i64 r25.2.1))), (8, (.d (.int .i64 r37)))]) (fun z => [(0, (.cells [(.d (.sl (List.map byteD a0))), (.d (.int .i64 a1)), (.d (.int .i64 z))]))]) (fun z => f48_j109 k a1 r25 r37 a0 z = some r) rfl_le ?_ ?_
    · refine AWc.block ?_
      refine AWc.seq ?_
      refine AWc.rg hmix rfl rfl ?_
      refine RegV.p0 rfl rfl rfl ?_
      refine RegV.p0 (v := (.d (.bool (decide (r25.2.2 ≠ (0 : Int)))))) rfl rfl rfl ?_
      refine RegV.p0 rfl rfl rfl ?_
      refine RegV.nil0 ?_
      refine AWc.cond rfl (fun c47 => ?_) (fun c47 => ?_)
      · have h := cond_pos c47 h
        refine AWc.rg hmix rfl rfl ?_
        refine RegV.p0 rfl rfl rfl ?_
        refine RegV.p0 rfl rfl rfl ?_
        refine RegV.p0 rfl rfl rfl ?_
        refine RegV.p0 (v := (.ptr 0 2)) rfl rfl rfl ?_
        refine RegV.evN (own := false) (H' := [(0, (.cells [(.d (.sl (List.map byteD a0))), (.d (.int .i64 a1)), (.d (.int .i64 r25.2.2))]))]) (c' := 1) rfl rfl (by exact ⟨rfl, Nat.le_of_ble_eq_true rfl, rfl⟩) rfl rfl rfl rfl ?_
        refine RegV.nil0 ?_
        exact ⟨r25.2.2, h, ⟨rfl, [], [], rfl, rfl, ⟨⟨_, rfl, (.refl _)⟩, rfl, ⟨⟨_, rfl, (.refl _)⟩, rfl, ⟨⟨_, rfl, (.refl _)⟩, rfl, trivial⟩⟩⟩, ⟨⟨_, rfl, (.refl _)⟩, rfl, rfl, trivial⟩⟩⟩
      · have h := cond_neg c47 h
        refine AWc.seq ?_
        refine AWc.rg hmix rfl rfl ?_
        refine RegV.p0 rfl rfl rfl ?_
        refine RegV.p0 (v := (.d (.bool (decide (r37 < (0 : Int)))))) rfl rfl rfl ?_
        refine RegV.p0 rfl rfl rfl ?_
        refine RegV.nil0 ?_
        refine AWc.cond rfl (fun c61 => ?_) (fun c61 => ?_)
        · have h := cond_pos c61 h
          refine AWc.rg hmix rfl rfl ?_
          refine RegV.p0 rfl rfl rfl ?_
          refine RegV.p0 rfl rfl rfl ?_
          refine RegV.p0 (v := (.ptr 0 2)) rfl rfl rfl ?_
          refine RegV.evN (own := false) (H' := [(0, (.cells [(.d (.sl (List.map byteD a0))), (.d (.int .i64 a1)), (.d (.int .i64 (4 : Int)))]))]) (c' := 1) rfl rfl (by exact ⟨rfl, Nat.le_of_ble_eq_true rfl, rfl⟩) rfl rfl rfl rfl ?_
          refine RegV.nil0 ?_
          exact ⟨(4 : Int), h, ⟨rfl, [], [], rfl, rfl, ⟨⟨_, rfl, (.refl _)⟩, rfl, ⟨⟨_, rfl, (.refl _)⟩, rfl, ⟨⟨_, rfl, (.refl _)⟩, rfl, trivial⟩⟩⟩, ⟨⟨_, rfl, (.refl _)⟩, rfl, rfl, trivial⟩⟩⟩
        · have h := cond_neg c61 h
          refine AWc.seq ?_
          refine AWc.rg hmix rfl rfl ?_
          refine RegV.p0 rfl rfl rfl ?_
          refine RegV.p0 rfl rfl rfl ?_
          refine RegV.p0 (v := (.d (.int .i64 (max a3 (0 : Int))))) rfl rfl rfl ?_
          refine RegV.p0 (v := (.d (.bool (decide (r37 > (max a3 (0 : Int))))))) rfl rfl rfl ?_
          refine RegV.p0 rfl rfl rfl ?_
          refine RegV.nil0 ?_
          refine AWc.cond rfl (fun c76 => ?_) (fun c76 => ?_)
          · have h := cond_pos c76 h
            refine AWc.rg hmix rfl rfl ?_
            refine RegV.p0 rfl rfl rfl ?_
            refine RegV.p0 rfl rfl rfl ?_
            refine RegV.p0 (v := (.ptr 0 2)) rfl rfl rfl ?_
            refine RegV.evN (own := false) (H' := [(0, (.cells [(.d (.sl (List.map byteD a0))), (.d (.int .i64 a1)), (.d (.int .i64 (5 : Int)))]))]) (c' := 1) rfl rfl (by exact ⟨rfl, Nat.le_of_ble_eq_true rfl, rfl⟩) rfl rfl rfl rfl ?_
            refine RegV.nil0 ?_
            exact ⟨(5 : Int), h, ⟨rfl, [], [], rfl, rfl, ⟨⟨_, rfl, (.refl _)⟩, rfl, ⟨⟨_, rfl, (.refl _)⟩, rfl, ⟨⟨_, rfl, (.refl _)⟩, rfl, trivial⟩⟩⟩, ⟨⟨_, rfl, (.refl _)⟩, rfl, rfl, trivial⟩⟩⟩
          · have h := cond_neg c76 h
            refine AWc.seq ?_
            refine AWc.rg hmix rfl rfl ?_
            refine RegV.p0 rfl rfl rfl ?_
            refine RegV.p0 rfl rfl rfl ?_
            refine RegV.p0 rfl rfl rfl ?_
            refine RegV.p0 (v := (.ptr 0 0)) rfl rfl rfl ?_
            refine RegV.ld (v := (.d (.sl (List.map byteD a0)))) (H' := [(0, (.cells [(.d (.sl (List.map byteD a0))), (.d (.int .i64 a1)), (.d (.int .i64 a2))]))]) rfl rfl trivial rfl rfl rfl rfl rfl ?_
            refine RegV.len (xs := a0) (e := byteD) rfl rfl rfl rfl ?_
            refine RegV.p0 rfl rfl rfl ?_
            refine RegV.p0 rfl rfl rfl ?_
            refine RegV.p0 (v := (.ptr 0 1)) rfl rfl rfl ?_
            refine RegV.ld (v := (.d (.int .i64 a1))) (H' := [(0, (.cells [(.d (.sl (List.map byteD a0))), (.d (.int .i64 a1)), (.d (.int .i64 a2))]))]) rfl rfl trivial rfl rfl rfl rfl rfl ?_
            refine RegV.p0 (v := (.d (.int .i64 (IntKind.i64.wrap (((a0.length : Nat) : Int) - a1))))) rfl rfl rfl ?_
            refine RegV.p0 rfl rfl rfl ?_
            refine RegV.p0 (v := (.d (.int .i64 (IntKind.i64.wrap ((IntKind.i64.wrap (((a0.length : Nat) : Int) - a1)) - r25.2.1))))) rfl rfl rfl ?_
            refine RegV.p0 (v := (.d (.bool (decide (r37 > (IntKind.i64.wrap ((IntKind.i64.wrap (((a0.length : Nat) : Int) - a1)) - r25.2.1))))))) rfl rfl rfl ?_
            refine RegV.p0 rfl rfl rfl ?_
            refine RegV.nil1 (by kernel_rfl) ?_
            refine AWc.cond rfl (fun c101 => ?_) (fun c101 => ?_)
            · have h := cond_pos c101 h
              refine AWc.rg hmix rfl rfl ?_
              refine RegV.p0 rfl rfl rfl ?_
              refine RegV.p0 rfl rfl rfl ?_
              refine RegV.p0 (v := (.ptr 0 2)) rfl rfl rfl ?_
              refine RegV.evN (own := false) (H' := [(0, (.cells [(.d (.sl (List.map byteD a0))), (.d (.int .i64 a1)), (.d (.int .i64 (3 : Int)))]))]) (c' := 1) rfl rfl (by exact ⟨rfl, Nat.le_of_ble_eq_true rfl, rfl⟩) rfl rfl rfl rfl ?_
              refine RegV.nil0 ?_
              exact ⟨(3 : Int), h, ⟨rfl, [], [], rfl, rfl, ⟨⟨_, rfl, (.refl _)⟩, rfl, ⟨⟨_, rfl, (.refl _)⟩, rfl, ⟨⟨_, rfl, (.refl _)⟩, rfl, trivial⟩⟩⟩, ⟨⟨_, rfl, (.refl _)⟩, rfl, rfl, trivial⟩⟩⟩
            · have h := cond_neg c101 h
              refine AWc.skip ?_
              exact ⟨a2, h, ⟨rfl, [], [], rfl, rfl, ⟨⟨_, rfl, (.refl _)⟩, rfl, ⟨⟨_, rfl, (.refl _)⟩, rfl, ⟨⟨_, rfl, (.refl _)⟩, rfl, trivial⟩⟩⟩, ⟨⟨_, rfl, (.refl _)⟩, rfl, rfl, trivial⟩⟩⟩
    · intro j109_1 h
      unfold f48_j109 at h
      refine AWc.seq ?_
      refine AWc.seq ?_
      refine AWc.rg hmix rfl rfl ?_
      refine RegV.p0 rfl rfl rfl ?_
      refine RegV.p0 rfl rfl rfl ?_
      refine RegV.p0 (v := (.ptr 0 2)) rfl rfl rfl ?_
      refine RegV.ld (v := (.d (.int .i64 j109_1))) (H' := [(0, (.cells [(.d (.sl (List.map byteD a0))), (.d (.int .i64 a1)), (.d (.int .i64 j109_1))]))]) rfl rfl trivial rfl rfl rfl rfl rfl ?_
      refine RegV.p0 (v := (.d (.bool (decide (j109_1 ≠ (0 : Int)))))) rfl rfl rfl ?_
      refine RegV.nil0 ?_
      refine AWc.cond rfl (fun c118 => ?_) (fun c118 => ?_)
      · have h := cond_pos c118 h
        refine AWc.seq ?_
        refine AWc.rg hmix rfl rfl ?_
        refine RegV.p0 rfl rfl rfl ?_
        refine RegV.nil0 ?_
        have hr := Option.some.inj h
        subst hr
        exact AWc.ret (canQ (N := 90) (k := 2) (l' := [(4, (.ap 1 1 (List.map byteD ([] : List UInt8))))]) (H' := [(1, (.tok ((List.map byteD ([] : List UInt8)).length * 1))), (0, (.cells [(.d (.sl (List.map byteD a0))), (.d (.int .i64 a1)), (.d (.int .i64 j109_1))]))]) rfl ⟨rfl, [.tok 0], [(1, 1)], rfl, rfl, ⟨⟨_, rfl, .nil⟩, rfl, trivial⟩, ⟨⟨_, rfl, (.refl _)⟩, rfl, rfl, ⟨⟨_, rfl, (.refl _)⟩, rfl, rfl, trivial⟩⟩⟩ (doneA (.inr rfl) rfl ⟨trivial, trivial⟩ (.refl _) (hasCons rfl (hasCons rfl hasNil))))
      · have h := cond_neg c118 h
        refine AWc.skip ?_
        refine AWc.seq ?_
        refine AWc.rg hmix rfl rfl ?_
        refine RegV.p0 rfl rfl rfl ?_
        refine RegV.p0 rfl rfl rfl ?_
        refine RegV.p0 (v := (.ptr 0 1)) rfl rfl rfl ?_
        refine RegV.ld (v := (.d (.int .i64 a1))) (H' := [(0, (.cells [(.d (.sl (List.map byteD a0))), (.d (.int .i64 a1)), (.d (.int .i64 j109_1))]))]) rfl rfl trivial rfl rfl rfl rfl rfl ?_
        refine RegV.p0 rfl rfl rfl ?_
        refine RegV.p0 (v := (.d (.int .i64 (IntKind.i64.wrap (a1 + r25.2.1))))) rfl rfl rfl ?_
        refine RegV.p0 rfl rfl rfl ?_
        refine RegV.nil0 ?_
        refine AWc.seq ?_
        refine AWc.rg hmix rfl rfl ?_
        refine RegV.p0 rfl rfl rfl ?_
        refine RegV.p0 rfl rfl rfl ?_
        refine RegV.p0 rfl rfl rfl ?_
        refine RegV.p0 (v := (.d (.int .i64 (IntKind.i64.wrap ((IntKind.i64.wrap (a1 + r25.2.1)) + r37))))) rfl rfl rfl ?_
        refine RegV.p0 rfl rfl rfl ?_
        refine RegV.p0 (v := (.ptr 0 1)) rfl rfl rfl ?_
        refine RegV.evN (own := false) (H' := [(0, (.cells [(.d (.sl (List.map byteD a0))), (.d (.int .i64 (IntKind.i64.wrap ((IntKind.i64.wrap (a1 + r25.2.1)) + r37)))), (.d (.int .i64 j109_1))]))]) (c' := 1) rfl rfl (by exact ⟨rfl, Nat.le_of_ble_eq_true rfl, rfl⟩) rfl rfl rfl rfl ?_
        refine RegV.nil0 ?_
        refine AWc.seq ?_
        refine AWc.rg hmix rfl rfl ?_
        refine RegV.p0 rfl rfl rfl ?_
        refine RegV.p0 rfl rfl rfl ?_
        refine RegV.p0 (v := (.ptr 0 0)) rfl rfl rfl ?_
        refine RegV.ld (v := (.d (.sl (List.map byteD a0)))) (H' := [(0, (.cells [(.d (.sl (List.map byteD a0))), (.d (.int .i64 (IntKind.i64.wrap ((IntKind.i64.wrap (a1 + r25.2.1)) + r37)))), (.d (.int .i64 j109_1))]))]) rfl rfl trivial rfl rfl rfl rfl rfl ?_
        refine RegV.p0 rfl rfl rfl ?_
        refine RegV.p0 rfl rfl rfl ?_
        refine RegV.p0 rfl rfl rfl ?_
        refine RegV.p0 (v := (.ptr 0 1)) rfl rfl rfl ?_
        refine RegV.ld (v := (.d (.int .i64 (IntKind.i64.wrap ((IntKind.i64.wrap (a1 + r25.2.1)) + r37))))) (H' := [(0, (.cells [(.d (.sl (List.map byteD a0))), (.d (.int .i64 (IntKind.i64.wrap ((IntKind.i64.wrap (a1 + r25.2.1)) + r37)))), (.d (.int .i64 j109_1))]))]) rfl rfl trivial rfl rfl rfl rfl rfl ?_
        obtain ⟨b157, h⟩ := gd_some h
        refine RegV.slc (xs := a0) (e := byteD) (lo := (IntKind.i64.wrap (a1 + r25.2.1))) (hi := (IntKind.i64.wrap ((IntKind.i64.wrap (a1 + r25.2.1)) + r37))) rfl rfl rfl b157 (fun _ => rfl) rfl ?_
        obtain ⟨b158, h⟩ := gd_some h
        refine RegV.appN (ys := (sl a0 (IntKind.i64.wrap (a1 + r25.2.1)) (IntKind.i64.wrap ((IntKind.i64.wrap (a1 + r25.2.1)) + r37)))) (e := byteD) rfl rfl rfl (fun _ => rfl) rfl rfl b158 rfl rfl ?_
        refine RegV.p0 rfl rfl rfl ?_
        refine RegV.nil1 (by kernel_rfl) ?_
        have hr := Option.some.inj h
        subst hr
        exact AWc.ret (canQ (N := 90) (k := 2) (l' := [(4, (.ap 1 1 (List.map byteD (sl a0 (IntKind.i64.wrap (a1 + r25.2.1)) (IntKind.i64.wrap ((IntKind.i64.wrap (a1 + r25.2.1)) + r37))))))]) (H' := [(1, (.tok ((List.map byteD (sl a0 (IntKind.i64.wrap (a1 + r25.2.1)) (IntKind.i64.wrap ((IntKind.i64.wrap (a1 + r25.2.1)) + r37)))).length * 1))), (0, (.cells [(.d (.sl (List.map byteD a0))), (.d (.int .i64 (IntKind.i64.wrap ((IntKind.i64.wrap (a1 + r25.2.1)) + r37)))), (.d (.int .i64 j109_1))]))]) rfl ⟨rfl, [], [], rfl, rfl, ⟨⟨_, rfl, (.refl _)⟩, rfl, trivial⟩, ⟨⟨_, rfl, (.refl _)⟩, rfl, rfl, ⟨⟨_, rfl, (.refl _)⟩, rfl, rfl, trivial⟩⟩⟩ (doneA (.inr rfl) rfl ⟨trivial, trivial⟩ (.refl _) (hasCons rfl (hasCons rfl hasNil))))
/-- (*courant/courantref01.Reader).End -/
def C51 (N : Nat → Nat) : AFunc := { n := 24, params := 1, res := [.tmp 2], body :=
 (.seq (.region false [⟨(some 2), .mv (.k (.d (.int .i64 0))), none, []⟩])
  (.seq (.seq (.region true [⟨(some 3), .mv (.t 0), none, []⟩,
     ⟨(some 4), .nilchk (.t 3), none, [0]⟩,
     ⟨(some 5), .faddr (.t 4) 2, none, [1]⟩,
     ⟨(some 6), .load (.t 5) 1 false, none, [2]⟩,
     ⟨(some 7), .bin .eql (.t 6) (.k (.d (.int .i64 0))), none, [3]⟩,
     ⟨(some 8), .mv (.t 7), none, [4]⟩,
     ⟨(some 9), .mv (.t 0), (some (8, true)), [5]⟩,
     ⟨(some 10), .nilchk (.t 9), (some (8, true)), [6, 5]⟩,
     ⟨(some 11), .faddr (.t 10) 1, (some (8, true)), [7, 5]⟩,
     ⟨(some 12), .load (.t 11) 1 false, (some (8, true)), [8, 5]⟩,
     ⟨(some 13), .mv (.t 0), (some (8, true)), [5]⟩,
     ⟨(some 14), .nilchk (.t 13), (some (8, true)), [10, 5]⟩,
     ⟨(some 15), .faddr (.t 14) 0, (some (8, true)), [11, 5]⟩,
     ⟨(some 16), .load (.t 15) 1 false, (some (8, true)), [12, 5]⟩,
     ⟨(some 17), .len (.t 16), (some (8, true)), [13, 5]⟩,
     ⟨(some 18), .bin .lss (.t 12) (.t 17), (some (8, true)), [9, 14, 5]⟩,
     ⟨(some 19), .pick (.t 8) (.t 18) (.k (.d (.bool false))), none, [5, 15]⟩])
    (.cond (.t 19) (.seq (.region false [⟨(some 2), .mv (.k (.d (.int .i64 4))), none, []⟩])
      .ret)
     (.skip)))
   (.seq (.region false [⟨(some 20), .mv (.t 0), none, []⟩,
     ⟨(some 21), .nilchk (.t 20), none, [0]⟩,
     ⟨(some 22), .faddr (.t 21) 2, none, [1]⟩,
     ⟨(some 23), .load (.t 22) 1 false, none, [2]⟩,
     ⟨(some 2), .mv (.t 23), none, [3, 0, 1, 2]⟩])
    .ret))) }
def HC51 (P : Program) (N : Nat → Nat) : Prop := HasF P (N 51) (C51 N)
def f51_j33 (k : Nat) (a2 : Int) : Option Int := some a2
def f51 (k : Nat) (a0 : (List UInt8)) (a1 : Int) (a2 : Int) : Option Int := cond (decide (a2 = (0 : Int))) (cond (decide (a1 < ((a0.length : Nat) : Int))) (some (4 : Int)) (f51_j33 k a2)) (f51_j33 k a2)
theorem F51 {P : Program} {N : Nat → Nat} (hmix : P.follows .mixedOrders = true) (hc : HC51 P N) {k : Nat} {a0 : (List UInt8)} {a1 : Int} {a2 : Int} {r : Int} (h : f51 k a0 a1 a2 = some r) :
    ACalls P (N 51) [(.ptr 0 0)] [(0, (.cells [(.d (.sl (List.map byteD a0))), (.d (.int .i64 a1)), (.d (.int .i64 a2))]))] (.d (.int .i64 r)) [(0, (.cells [(.d (.sl (List.map byteD a0))), (.d (.int .i64 a1)), (.d (.int .i64 a2))]))] := by
  refine acalls_canon (F := C51 N) hc 1 1 rfl ?_
  unfold f51 at h
  dsimp only [C51, startL]
  refine AWc.seq ?_
  refine AWc.rg hmix rfl rfl ?_
  refine RegV.p0 rfl rfl rfl ?_
  refine RegV.nil0 ?_
  refine AWc.seqS (N := 24) 1 (fun (z : Unit) => [(0, (.ptr 0 0))]) (fun z => [(0, (.cells [(.d (.sl (List.map byteD a0))), (.d (.int .i64 a1)), (.d (.int .i64 a2))]))]) (fun z => f51_j33 k a2 = some r) rfl_le ?_ ?_
  · refine AWc.seq ?_
    refine AWc.rg hmix rfl rfl ?_
    refine RegV.p0 rfl rfl rfl ?_
    refine RegV.p0 rfl rfl rfl ?_
    refine RegV.p0 (v := (.ptr 0 2)) rfl rfl rfl ?_
    refine RegV.ld (v := (.d (.int .i64 a2))) (H' := [(0, (.cells [(.d (.sl (List.map byteD a0))), (.d (.int .i64 a1)), (.d (.int .i64 a2))]))]) rfl rfl trivial rfl rfl rfl rfl rfl ?_
    refine RegV.p0 (v := (.d (.bool (decide (a2 = (0 : Int)))))) rfl rfl rfl ?_
    refine RegV.p0 rfl rfl rfl ?_
    refine RegV.split (fun c14 => ?_) (fun c14 => ?_)
    · have h := cond_pos c14 h
      refine RegV.p0 rfl rfl rfl ?_
      refine RegV.p0 rfl rfl rfl ?_
      refine RegV.p0 (v := (.ptr 0 1)) rfl rfl rfl ?_
      refine RegV.ld (v := (.d (.int .i64 a1))) (H' := [(0, (.cells [(.d (.sl (List.map byteD a0))), (.d (.int .i64 a1)), (.d (.int .i64 a2))]))]) rfl rfl trivial rfl rfl rfl rfl rfl ?_
      refine RegV.p0 rfl rfl rfl ?_
      refine RegV.p0 rfl rfl rfl ?_
      refine RegV.p0 (v := (.ptr 0 0)) rfl rfl rfl ?_
      refine RegV.ld (v := (.d (.sl (List.map byteD a0)))) (H' := [(0, (.cells [(.d (.sl (List.map byteD a0))), (.d (.int .i64 a1)), (.d (.int .i64 a2))]))]) rfl rfl trivial rfl rfl rfl rfl rfl ?_
      refine RegV.len (xs := a0) (e := byteD) rfl rfl rfl rfl ?_
      refine RegV.p0 (v := (.d (.bool (decide (a1 < ((a0.length : Nat) : Int)))))) rfl rfl rfl ?_
      refine RegV.p0 rfl rfl rfl ?_
      refine RegV.nil1 (by kernel_rfl) ?_
      refine AWc.cond rfl (fun c26 => ?_) (fun c26 => ?_)
      · have h := cond_pos c26 h
        refine AWc.seq ?_
        refine AWc.rg hmix rfl rfl ?_
        refine RegV.p0 rfl rfl rfl ?_
        refine RegV.nil0 ?_
        have hr := Option.some.inj h
        subst hr
        exact AWc.ret (canQ (N := 24) (k := 1) (l' := [(2, (.d (.int .i64 (4 : Int))))]) (H' := [(0, (.cells [(.d (.sl (List.map byteD a0))), (.d (.int .i64 a1)), (.d (.int .i64 a2))]))]) rfl ⟨rfl, [], [], rfl, rfl, ⟨⟨_, rfl, (.refl _)⟩, rfl, trivial⟩, ⟨⟨_, rfl, (.refl _)⟩, rfl, rfl, trivial⟩⟩ (doneA (.inr rfl) rfl ⟨trivial, trivial⟩ (.refl _) (hasCons rfl hasNil)))
      · have h := cond_neg c26 h
        refine AWc.skip ?_
        exact ⟨(), h, ⟨rfl, [], [], rfl, rfl, ⟨⟨_, rfl, (.refl _)⟩, rfl, trivial⟩, ⟨⟨_, rfl, (.refl _)⟩, rfl, rfl, trivial⟩⟩⟩
    · have h := cond_neg c14 h
      refine RegV.noS rfl rfl ?_
      refine RegV.noS rfl rfl ?_
      refine RegV.noS rfl rfl ?_
      refine RegV.noS rfl rfl ?_
      refine RegV.noS rfl rfl ?_
      refine RegV.noS rfl rfl ?_
      refine RegV.noS rfl rfl ?_
      refine RegV.noS rfl rfl ?_
      refine RegV.noS rfl rfl ?_
      refine RegV.noS rfl rfl ?_
      refine RegV.p0 rfl rfl rfl ?_
      refine RegV.nil1 (by kernel_rfl) ?_
      refine AWc.cond rfl (fun hc => by cases hc) (fun _ => ?_)
      refine AWc.skip ?_
      exact ⟨(), h, ⟨rfl, [], [], rfl, rfl, ⟨⟨_, rfl, (.refl _)⟩, rfl, trivial⟩, ⟨⟨_, rfl, (.refl _)⟩, rfl, rfl, trivial⟩⟩⟩
  · rintro ⟨⟩ h
    unfold f51_j33 at h
    refine AWc.seq ?_
    refine AWc.rg hmix rfl rfl ?_
    refine RegV.p0 rfl rfl rfl ?_
    refine RegV.p0 rfl rfl rfl ?_
    refine RegV.p0 (v := (.ptr 0 2)) rfl rfl rfl ?_
    refine RegV.ld (v := (.d (.int .i64 a2))) (H' := [(0, (.cells [(.d (.sl (List.map byteD a0))), (.d (.int .i64 a1)), (.d (.int .i64 a2))]))]) rfl rfl trivial rfl rfl rfl rfl rfl ?_
    refine RegV.p0 rfl rfl rfl ?_
    refine RegV.nil0 ?_
    have hr := Option.some.inj h
    subst hr
    exact AWc.ret (canQ (N := 24) (k := 1) (l' := [(2, (.d (.int .i64 a2)))]) (H' := [(0, (.cells [(.d (.sl (List.map byteD a0))), (.d (.int .i64 a1)), (.d (.int .i64 a2))]))]) rfl ⟨rfl, [], [], rfl, rfl, ⟨⟨_, rfl, (.refl _)⟩, rfl, trivial⟩, ⟨⟨_, rfl, (.refl _)⟩, rfl, rfl, trivial⟩⟩ (doneA (.inr rfl) rfl ⟨trivial, trivial⟩ (.refl _) (hasCons rfl hasNil)))
/-- courant/courantref24.Take -/
def C53 (N : Nat → Nat) : AFunc := { n := 31, params := 2, res := [.cell 4 5 true, .tmp 5], body :=
 (.seq (.region false [⟨(some 4), .alloc [(.int .u64 0), (.int .u64 0), (.int .u64 0), (.int .i64 0), (.sl [])], none, []⟩,
   ⟨(some 5), .mv (.k (.d (.int .i64 0))), none, []⟩])
  (.seq (.region false [⟨(some 9), .mv (.t 1), none, []⟩,
    ⟨(some 10), .call (.k (.d (.fn (N 44)))) [(.t 9)], none, [0]⟩,
    ⟨(some 6), .mv (.t 10), none, [1, 0]⟩])
   (.seq (.region false [⟨(some 11), .mv (.t 0), none, []⟩,
     ⟨(some 12), .mv (.t 6), none, []⟩,
     ⟨(some 13), .call (.k (.d (.fn (N 46)))) [(.t 12)], none, [1]⟩,
     ⟨(some 14), .build [(.int .u64 0), (.int .u64 0), (.int .u64 0), (.int .i64 0), (.sl [])] [(0, 1, (.t 11)), (1, 1, (.t 13))], none, [0, 2]⟩,
     ⟨(some 7), .alloc [(.int .u64 0), (.int .u64 0), (.int .u64 0), (.int .i64 0), (.sl [])], none, []⟩,
     ⟨none, .store (.t 7) (.t 14) 5, none, [4, 3, 2, 0, 1]⟩])
    (.seq (.region false [⟨(some 15), .mv (.t 6), none, []⟩,
      ⟨(some 16), .call (.k (.d (.fn (N 46)))) [(.t 15)], none, [0]⟩,
      ⟨(some 17), .faddr (.t 7) 2, none, [0, 1]⟩,
      ⟨none, .store (.t 17) (.t 16) 1, none, [2, 1, 0]⟩])
     (.seq (.region false [⟨(some 18), .mv (.t 6), none, []⟩,
       ⟨(some 19), .call (.k (.d (.fn (N 47)))) [(.t 18)], none, [0]⟩,
       ⟨(some 20), .faddr (.t 7) 3, none, [0, 1]⟩,
       ⟨none, .store (.t 20) (.t 19) 1, none, [2, 1, 0]⟩])
      (.seq (.region false [⟨(some 21), .mv (.t 6), none, []⟩,
        ⟨(some 22), .call (.k (.d (.fn (N 48)))) [(.t 21), (.k (.d (.int .i64 4096)))], none, [0]⟩,
        ⟨(some 23), .faddr (.t 7) 4, none, [0, 1]⟩,
        ⟨none, .store (.t 23) (.t 22) 1, none, [2, 1, 0]⟩])
       (.seq (.region false [⟨(some 24), .mv (.t 6), none, []⟩,
         ⟨(some 25), .call (.k (.d (.fn (N 51)))) [(.t 24)], none, [0]⟩,
         ⟨(some 8), .mv (.t 25), none, [1, 0]⟩])
        (.seq (.seq (.region false [⟨(some 26), .mv (.t 8), none, []⟩,
           ⟨(some 27), .bin .neq (.t 26) (.k (.d (.int .i64 0))), none, [0]⟩])
          (.cond (.t 27) (.seq (.region false [⟨(some 28), .build [(.int .u64 0), (.int .u64 0), (.int .u64 0), (.int .i64 0), (.sl [])] [], none, []⟩,
             ⟨(some 29), .mv (.t 8), none, []⟩,
             ⟨none, .store (.t 4) (.t 28) 5, none, [0]⟩,
             ⟨(some 5), .mv (.t 29), none, [1, 2, 0]⟩])
            .ret)
           (.skip)))
         (.seq (.region false [⟨(some 30), .load (.t 7) 5 true, none, []⟩,
           ⟨none, .store (.t 4) (.t 30) 5, none, [0]⟩,
           ⟨(some 5), .mv (.k (.d (.int .i64 0))), none, [1, 0]⟩])
          .ret))))))))) }
def HC53 (P : Program) (N : Nat → Nat) : Prop := HasF P (N 53) (C53 N) ∧ HC44 P N ∧ HC46 P N ∧ HC47 P N ∧ HC48 P N ∧ HC51 P N
def f53 (k : Nat) (a0 : Int) (a1 : (List UInt8)) : Option (Int × Int × Int × Int × Int × (List UInt8)) := (f44 k a1).bind fun r10 => (f46 k a1 (0 : Int) (0 : Int)).bind fun r17 => (f46 k a1 r17.2.1 r17.2.2).bind fun r25 => (f47 k a1 r25.2.1 r25.2.2).bind fun r32 => (f48 k a1 r32.2.1 r32.2.2 (4096 : Int)).bind fun r39 => (f51 k a1 r39.2.1 r39.2.2).bind fun r46 => cond (decide (r46 ≠ (0 : Int))) (some (r46, (0 : Int), (0 : Int), (0 : Int), (0 : Int), ([] : List UInt8))) (some ((0 : Int), a0, r17.1, r25.1, r32.1, r39.1))
theorem F53 {P : Program} {N : Nat → Nat} (hmix : P.follows .mixedOrders = true) (hc : HC53 P N) {k : Nat} {a0 : Int} {a1 : (List UInt8)} {r : (Int × Int × Int × Int × Int × (List UInt8))} (h : f53 k a0 a1 = some r) :
    ACalls P (N 53) [(.d (.int .u64 a0)), (.d (.sl (List.map byteD a1)))] [] (.tup [(.d (.agg [(.int .u64 r.2.1), (.int .u64 r.2.2.1), (.int .u64 r.2.2.2.1), (.int .i64 r.2.2.2.2.1), (.sl (List.map byteD r.2.2.2.2.2))])), (.d (.int .i64 r.1))]) [] := by
  refine acalls_canon (F := C53 N) hc.1 0 0 rfl ?_
  unfold f53 at h
  dsimp only [C53, startL]
  refine AWc.seq ?_
  refine AWc.rg hmix rfl rfl ?_
  refine RegV.evS (own := false) (v := (.ptr 0 0)) (H' := [(0, (.cells [(.d (.int .u64 (0 : Int))), (.d (.int .u64 (0 : Int))), (.d (.int .u64 (0 : Int))), (.d (.int .i64 (0 : Int))), .nils]))]) (c' := 1) rfl rfl trivial rfl rfl rfl rfl rfl rfl ?_
  refine RegV.p0 rfl rfl rfl ?_
  refine RegV.nil0 ?_
  refine AWc.seq ?_
  refine AWc.rg hmix rfl rfl ?_
  refine RegV.p0 rfl rfl rfl ?_
  obtain ⟨r10, e10, h⟩ := bind_some h
  refine RegV.callS (q := false) (H' := [(1, (.cells [(.d (.sl (List.map byteD a1))), (.d (.int .i64 (0 : Int))), (.d (.int .i64 (0 : Int)))])), (0, (.cells [(.d (.int .u64 (0 : Int))), (.d (.int .u64 (0 : Int))), (.d (.int .u64 (0 : Int))), (.d (.int .i64 (0 : Int))), .nils]))]) (c' := 2) (show ACalls P (N 44) [(.d (.sl (List.map byteD a1)))] [] (.ptr 1 0) [(1, (.cells [(.d (.sl (List.map byteD a1))), (.d (.int .i64 (0 : Int))), (.d (.int .i64 (0 : Int)))]))] from ACalls.use (F44 hmix hc.2.1 e10) [(0, 1)] 1 rfl) rfl rfl rfl rfl (.cons (.refl _) .nil) (.refl _) (fun h => by cases h) rfl hasNil rfl rfl rfl rfl ?_
  refine RegV.p0 rfl rfl rfl ?_
  refine RegV.nil0 ?_
  refine AWc.seq ?_
  refine AWc.rg hmix rfl rfl ?_
  refine RegV.p0 rfl rfl rfl ?_
  refine RegV.p0 rfl rfl rfl ?_
  obtain ⟨r17, e17, h⟩ := bind_some h
  refine RegV.callS (q := false) (H' := [(1, (.cells [(.d (.sl (List.map byteD a1))), (.d (.int .i64 r17.2.1)), (.d (.int .i64 r17.2.2))])), (0, (.cells [(.d (.int .u64 (0 : Int))), (.d (.int .u64 (0 : Int))), (.d (.int .u64 (0 : Int))), (.d (.int .i64 (0 : Int))), .nils]))]) (c' := 2) (show ACalls P (N 46) [(.ptr 1 0)] [(1, (.cells [(.d (.sl (List.map byteD a1))), (.d (.int .i64 (0 : Int))), (.d (.int .i64 (0 : Int)))]))] (.d (.int .u64 r17.1)) [(1, (.cells [(.d (.sl (List.map byteD a1))), (.d (.int .i64 r17.2.1)), (.d (.int .i64 r17.2.2))]))] from ACalls.use (F46 hmix hc.2.2.1 e17) [(0, 1)] 1 rfl) rfl rfl rfl rfl (.cons (.refl _) .nil) (.refl _) (fun h => by cases h) rfl (hasCons rfl hasNil) rfl rfl rfl rfl ?_
  refine RegV.p1 (v := (.d (.agg [(.int .u64 a0), (.int .u64 r17.1), (.int .u64 (0 : Int)), (.int .i64 (0 : Int)), (.sl (List.map byteD ([] : List UInt8)))]))) rfl rfl (by exact ⟨⟨rfl, Nat.le_of_ble_eq_true rfl⟩, ⟨⟨rfl, Nat.le_of_ble_eq_true rfl⟩, trivial⟩⟩) rfl rfl ?_
  refine RegV.evS (own := false) (v := (.ptr 2 0)) (H' := [(2, (.cells [(.d (.int .u64 (0 : Int))), (.d (.int .u64 (0 : Int))), (.d (.int .u64 (0 : Int))), (.d (.int .i64 (0 : Int))), .nils])), (1, (.cells [(.d (.sl (List.map byteD a1))), (.d (.int .i64 r17.2.1)), (.d (.int .i64 r17.2.2))])), (0, (.cells [(.d (.int .u64 (0 : Int))), (.d (.int .u64 (0 : Int))), (.d (.int .u64 (0 : Int))), (.d (.int .i64 (0 : Int))), .nils]))]) (c' := 3) rfl rfl trivial rfl rfl rfl rfl rfl rfl ?_
  refine RegV.evN (own := false) (H' := [(2, (.cells [(.d (.int .u64 a0)), (.d (.int .u64 r17.1)), (.d (.int .u64 (0 : Int))), (.d (.int .i64 (0 : Int))), (.d (.sl (List.map byteD ([] : List UInt8))))])), (1, (.cells [(.d (.sl (List.map byteD a1))), (.d (.int .i64 r17.2.1)), (.d (.int .i64 r17.2.2))])), (0, (.cells [(.d (.int .u64 (0 : Int))), (.d (.int .u64 (0 : Int))), (.d (.int .u64 (0 : Int))), (.d (.int .i64 (0 : Int))), .nils]))]) (c' := 3) rfl rfl (by exact ⟨rfl, Nat.le_of_ble_eq_true rfl, rfl⟩) rfl rfl rfl rfl ?_
  refine RegV.nil0 ?_
  refine AWc.seq ?_
  refine AWc.rg hmix rfl rfl ?_
  refine RegV.p0 rfl rfl rfl ?_
  obtain ⟨r25, e25, h⟩ := bind_some h
  refine RegV.callS (q := false) (H' := [(1, (.cells [(.d (.sl (List.map byteD a1))), (.d (.int .i64 r25.2.1)), (.d (.int .i64 r25.2.2))])), (2, (.cells [(.d (.int .u64 a0)), (.d (.int .u64 r17.1)), (.d (.int .u64 (0 : Int))), (.d (.int .i64 (0 : Int))), (.d (.sl (List.map byteD ([] : List UInt8))))])), (0, (.cells [(.d (.int .u64 (0 : Int))), (.d (.int .u64 (0 : Int))), (.d (.int .u64 (0 : Int))), (.d (.int .i64 (0 : Int))), .nils]))]) (c' := 3) (show ACalls P (N 46) [(.ptr 1 0)] [(1, (.cells [(.d (.sl (List.map byteD a1))), (.d (.int .i64 r17.2.1)), (.d (.int .i64 r17.2.2))]))] (.d (.int .u64 r25.1)) [(1, (.cells [(.d (.sl (List.map byteD a1))), (.d (.int .i64 r25.2.1)), (.d (.int .i64 r25.2.2))]))] from ACalls.use (F46 hmix hc.2.2.1 e25) [(0, 1)] 1 rfl) rfl rfl rfl rfl (.cons (.refl _) .nil) (.refl _) (fun h => by cases h) rfl (hasCons rfl hasNil) rfl rfl rfl rfl ?_
  refine RegV.p0 (v := (.ptr 2 2)) rfl rfl rfl ?_
  refine RegV.evN (own := false) (H' := [(2, (.cells [(.d (.int .u64 a0)), (.d (.int .u64 r17.1)), (.d (.int .u64 r25.1)), (.d (.int .i64 (0 : Int))), (.d (.sl (List.map byteD ([] : List UInt8))))])), (1, (.cells [(.d (.sl (List.map byteD a1))), (.d (.int .i64 r25.2.1)), (.d (.int .i64 r25.2.2))])), (0, (.cells [(.d (.int .u64 (0 : Int))), (.d (.int .u64 (0 : Int))), (.d (.int .u64 (0 : Int))), (.d (.int .i64 (0 : Int))), .nils]))]) (c' := 3) rfl rfl (by exact ⟨rfl, Nat.le_of_ble_eq_true rfl, rfl⟩) rfl rfl rfl rfl ?_
  refine RegV.nil0 ?_
  refine AWc.seq ?_
  refine AWc.rg hmix rfl rfl ?_
  refine RegV.p0 rfl rfl rfl ?_
  obtain ⟨r32, e32, h⟩ := bind_some h
  refine RegV.callS (q := false) (H' := [(1, (.cells [(.d (.sl (List.map byteD a1))), (.d (.int .i64 r32.2.1)), (.d (.int .i64 r32.2.2))])), (2, (.cells [(.d (.int .u64 a0)), (.d (.int .u64 r17.1)), (.d (.int .u64 r25.1)), (.d (.int .i64 (0 : Int))), (.d (.sl (List.map byteD ([] : List UInt8))))])), (0, (.cells [(.d (.int .u64 (0 : Int))), (.d (.int .u64 (0 : Int))), (.d (.int .u64 (0 : Int))), (.d (.int .i64 (0 : Int))), .nils]))]) (c' := 3) (show ACalls P (N 47) [(.ptr 1 0)] [(1, (.cells [(.d (.sl (List.map byteD a1))), (.d (.int .i64 r25.2.1)), (.d (.int .i64 r25.2.2))]))] (.d (.int .i64 r32.1)) [(1, (.cells [(.d (.sl (List.map byteD a1))), (.d (.int .i64 r32.2.1)), (.d (.int .i64 r32.2.2))]))] from ACalls.use (F47 hmix hc.2.2.2.1 e32) [(0, 1)] 1 rfl) rfl rfl rfl rfl (.cons (.refl _) .nil) (.refl _) (fun h => by cases h) rfl (hasCons rfl hasNil) rfl rfl rfl rfl ?_
  refine RegV.p0 (v := (.ptr 2 3)) rfl rfl rfl ?_
  refine RegV.evN (own := false) (H' := [(2, (.cells [(.d (.int .u64 a0)), (.d (.int .u64 r17.1)), (.d (.int .u64 r25.1)), (.d (.int .i64 r32.1)), (.d (.sl (List.map byteD ([] : List UInt8))))])), (1, (.cells [(.d (.sl (List.map byteD a1))), (.d (.int .i64 r32.2.1)), (.d (.int .i64 r32.2.2))])), (0, (.cells [(.d (.int .u64 (0 : Int))), (.d (.int .u64 (0 : Int))), (.d (.int .u64 (0 : Int))), (.d (.int .i64 (0 : Int))), .nils]))]) (c' := 3) rfl rfl (by exact ⟨rfl, Nat.le_of_ble_eq_true rfl, rfl⟩) rfl rfl rfl rfl ?_
  refine RegV.nil0 ?_
  refine AWc.seq ?_
  refine AWc.rg hmix rfl rfl ?_
  refine RegV.p0 rfl rfl rfl ?_
  obtain ⟨r39, e39, h⟩ := bind_some h
  refine RegV.callS (q := false) (H' := [(3, (.tok ((List.map byteD r39.1).length * 1))), (1, (.cells [(.d (.sl (List.map byteD a1))), (.d (.int .i64 r39.2.1)), (.d (.int .i64 r39.2.2))])), (2, (.cells [(.d (.int .u64 a0)), (.d (.int .u64 r17.1)), (.d (.int .u64 r25.1)), (.d (.int .i64 r32.1)), (.d (.sl (List.map byteD ([] : List UInt8))))])), (0, (.cells [(.d (.int .u64 (0 : Int))), (.d (.int .u64 (0 : Int))), (.d (.int .u64 (0 : Int))), (.d (.int .i64 (0 : Int))), .nils]))]) (c' := 4) (show ACalls P (N 48) [(.ptr 1 0), (.d (.int .i64 (4096 : Int)))] [(1, (.cells [(.d (.sl (List.map byteD a1))), (.d (.int .i64 r32.2.1)), (.d (.int .i64 r32.2.2))]))] (.ap 3 1 (List.map byteD r39.1)) [(3, (.tok ((List.map byteD r39.1).length * 1))), (1, (.cells [(.d (.sl (List.map byteD a1))), (.d (.int .i64 r39.2.1)), (.d (.int .i64 r39.2.2))]))] from ACalls.use (F48 hmix hc.2.2.2.2.1 e39) [(0, 1), (1, 3)] 2 rfl) rfl rfl rfl rfl (.cons (.refl _) (.cons (.refl _) .nil)) (.refl _) (fun h => by cases h) rfl (hasCons rfl hasNil) rfl rfl rfl rfl ?_
  refine RegV.p0 (v := (.ptr 2 4)) rfl rfl rfl ?_
  refine RegV.evN (own := false) (H' := [(2, (.cells [(.d (.int .u64 a0)), (.d (.int .u64 r17.1)), (.d (.int .u64 r25.1)), (.d (.int .i64 r32.1)), (.ap 3 1 (List.map byteD r39.1))])), (3, (.tok ((List.map byteD r39.1).length * 1))), (1, (.cells [(.d (.sl (List.map byteD a1))), (.d (.int .i64 r39.2.1)), (.d (.int .i64 r39.2.2))])), (0, (.cells [(.d (.int .u64 (0 : Int))), (.d (.int .u64 (0 : Int))), (.d (.int .u64 (0 : Int))), (.d (.int .i64 (0 : Int))), .nils]))]) (c' := 4) rfl rfl (by exact ⟨rfl, Nat.le_of_ble_eq_true rfl, rfl⟩) rfl rfl rfl rfl ?_
  refine RegV.nil0 ?_
  refine AWc.seq ?_
  refine AWc.rg hmix rfl rfl ?_
  refine RegV.p0 rfl rfl rfl ?_
  obtain ⟨r46, e46, h⟩ := bind_some h
  refine RegV.callS (q := true) (H' := [(1, (.cells [(.d (.sl (List.map byteD a1))), (.d (.int .i64 r39.2.1)), (.d (.int .i64 r39.2.2))])), (2, (.cells [(.d (.int .u64 a0)), (.d (.int .u64 r17.1)), (.d (.int .u64 r25.1)), (.d (.int .i64 r32.1)), (.ap 3 1 (List.map byteD r39.1))])), (3, (.tok ((List.map byteD r39.1).length * 1))), (0, (.cells [(.d (.int .u64 (0 : Int))), (.d (.int .u64 (0 : Int))), (.d (.int .u64 (0 : Int))), (.d (.int .i64 (0 : Int))), .nils]))]) (c' := 4) (show ACalls P (N 51) [(.ptr 1 0)] [(1, (.cells [(.d (.sl (List.map byteD a1))), (.d (.int .i64 r39.2.1)), (.d (.int .i64 r39.2.2))]))] (.d (.int .i64 r46)) [(1, (.cells [(.d (.sl (List.map byteD a1))), (.d (.int .i64 r39.2.1)), (.d (.int .i64 r39.2.2))]))] from ACalls.use (F51 hmix hc.2.2.2.2.2 e46) [(0, 1)] 1 rfl) rfl rfl rfl rfl (.cons (.refl _) .nil) (.refl _) (fun _ => rfl) rfl (hasCons rfl hasNil) rfl rfl rfl rfl ?_
  refine RegV.p0 rfl rfl rfl ?_
  refine RegV.nil0 ?_
  refine AWc.seq ?_
  refine AWc.seq ?_
  refine AWc.rg hmix rfl rfl ?_
  refine RegV.p0 rfl rfl rfl ?_
  refine RegV.p0 (v := (.d (.bool (decide (r46 ≠ (0 : Int)))))) rfl rfl rfl ?_
  refine RegV.nil0 ?_
  refine AWc.cond rfl (fun c54 => ?_) (fun c54 => ?_)
  · have h := cond_pos c54 h
    refine AWc.seq ?_
    refine AWc.rg hmix rfl rfl ?_
    refine RegV.p1 (v := (.d (.agg [(.int .u64 (0 : Int)), (.int .u64 (0 : Int)), (.int .u64 (0 : Int)), (.int .i64 (0 : Int)), (.sl (List.map byteD ([] : List UInt8)))]))) rfl rfl trivial rfl rfl ?_
    refine RegV.p0 rfl rfl rfl ?_
    refine RegV.evN (own := false) (H' := [(0, (.cells [(.d (.int .u64 (0 : Int))), (.d (.int .u64 (0 : Int))), (.d (.int .u64 (0 : Int))), (.d (.int .i64 (0 : Int))), (.d (.sl (List.map byteD ([] : List UInt8))))])), (1, (.cells [(.d (.sl (List.map byteD a1))), (.d (.int .i64 r39.2.1)), (.d (.int .i64 r39.2.2))])), (2, (.cells [(.d (.int .u64 a0)), (.d (.int .u64 r17.1)), (.d (.int .u64 r25.1)), (.d (.int .i64 r32.1)), (.ap 3 1 (List.map byteD r39.1))])), (3, (.tok ((List.map byteD r39.1).length * 1)))]) (c' := 4) rfl rfl (by exact ⟨rfl, Nat.le_of_ble_eq_true rfl, rfl⟩) rfl rfl rfl rfl ?_
    refine RegV.p0 rfl rfl rfl ?_
    refine RegV.nil0 ?_
    have hr := Option.some.inj h
    subst hr
    exact AWc.ret (canQ (N := 31) (k := 1) (l' := [(4, (.ptr 0 0)), (5, (.d (.int .i64 r46)))]) (H' := [(0, (.cells [(.d (.int .u64 (0 : Int))), (.d (.int .u64 (0 : Int))), (.d (.int .u64 (0 : Int))), (.d (.int .i64 (0 : Int))), (.d (.sl (List.map byteD ([] : List UInt8))))]))]) rfl ⟨rfl, [], [], rfl, rfl, ⟨⟨_, rfl, (.refl _)⟩, rfl, ⟨⟨_, rfl, (.refl _)⟩, rfl, trivial⟩⟩, ⟨⟨_, rfl, (.refl _)⟩, rfl, rfl, trivial⟩⟩ (doneA (.inr rfl) rfl ⟨(Nat.le_of_ble_eq_true rfl), ⟨trivial, trivial⟩⟩ (.refl _) hasNil))
  · have h := cond_neg c54 h
    refine AWc.skip ?_
    refine AWc.seq ?_
    refine AWc.rg hmix rfl rfl ?_
    refine RegV.ld (v := (.d (.agg [(.int .u64 a0), (.int .u64 r17.1), (.int .u64 r25.1), (.int .i64 r32.1), (.sl (List.map byteD r39.1))]))) (H' := [(2, (.cells [(.d (.int .u64 a0)), (.d (.int .u64 r17.1)), (.d (.int .u64 r25.1)), (.d (.int .i64 r32.1)), (.ap 3 1 (List.map byteD r39.1))])), (1, (.cells [(.d (.sl (List.map byteD a1))), (.d (.int .i64 r39.2.1)), (.d (.int .i64 r39.2.2))])), (3, (.tok ((List.map byteD r39.1).length * 1))), (0, (.cells [(.d (.int .u64 (0 : Int))), (.d (.int .u64 (0 : Int))), (.d (.int .u64 (0 : Int))), (.d (.int .i64 (0 : Int))), .nils]))]) rfl rfl (Nat.le_of_ble_eq_true rfl) rfl rfl rfl rfl rfl ?_
    refine RegV.evN (own := false) (H' := [(0, (.cells [(.d (.int .u64 a0)), (.d (.int .u64 r17.1)), (.d (.int .u64 r25.1)), (.d (.int .i64 r32.1)), (.d (.sl (List.map byteD r39.1)))])), (2, (.cells [(.d (.int .u64 a0)), (.d (.int .u64 r17.1)), (.d (.int .u64 r25.1)), (.d (.int .i64 r32.1)), (.ap 3 1 (List.map byteD r39.1))])), (1, (.cells [(.d (.sl (List.map byteD a1))), (.d (.int .i64 r39.2.1)), (.d (.int .i64 r39.2.2))])), (3, (.tok ((List.map byteD r39.1).length * 1)))]) (c' := 4) rfl rfl (by exact ⟨rfl, Nat.le_of_ble_eq_true rfl, rfl⟩) rfl rfl rfl rfl ?_
    refine RegV.p0 rfl rfl rfl ?_
    refine RegV.nil0 ?_
    have hr := Option.some.inj h
    subst hr
    exact AWc.ret (canQ (N := 31) (k := 1) (l' := [(4, (.ptr 0 0)), (5, (.d (.int .i64 (0 : Int))))]) (H' := [(0, (.cells [(.d (.int .u64 a0)), (.d (.int .u64 r17.1)), (.d (.int .u64 r25.1)), (.d (.int .i64 r32.1)), (.d (.sl (List.map byteD r39.1)))]))]) rfl ⟨rfl, [], [], rfl, rfl, ⟨⟨_, rfl, (.refl _)⟩, rfl, ⟨⟨_, rfl, (.refl _)⟩, rfl, trivial⟩⟩, ⟨⟨_, rfl, (.refl _)⟩, rfl, rfl, trivial⟩⟩ (doneA (.inr rfl) rfl ⟨(Nat.le_of_ble_eq_true rfl), ⟨trivial, trivial⟩⟩ (.refl _) hasNil))
end Go.Proofs.Abs
