/- Written by gen.py: functions of the program as Lean functions, and that the code comes to them. -/
import Derived.Test.YtojmpoboidomeaaGRdr
set_option linter.unusedVariables false
set_option linter.unusedSimpArgs false
set_option maxRecDepth 100000
set_option maxHeartbeats 4000000
namespace Go.Proofs.Abs
open Go

/-- courant/courantlaw24.awake -/
def C33 (N : Nat → Nat) : AFunc := { n := 31, params := 0, res := [.tmp 0], body :=
 (.seq (.region false [⟨(some 0), .mv (.k (.d (.bool false))), none, []⟩])
  (.seq (.region false [⟨(some 2), .build [(.int .u64 0), (.int .u64 0), (.int .u64 0), (.int .i64 0), (.sl [])] [(1, 1, (.k (.d (.int .u64 1)))), (2, 1, (.k (.d (.int .u64 2)))), (3, 1, (.k (.d (.int .i64 3))))], none, []⟩,
    ⟨(some 3), .call (.k (.d (.fn (N 54)))) [(.t 2)], none, [0]⟩,
    ⟨(some 1), .mv (.t 3), none, [1, 0]⟩])
   (.seq (.region false [⟨(some 4), .mv (.t 1), none, []⟩,
     ⟨(some 5), .len (.t 4), none, [0]⟩,
     ⟨(some 6), .bin .eql (.t 5) (.k (.d (.int .i64 4))), none, [1]⟩,
     ⟨(some 7), .mv (.t 6), none, [2]⟩,
     ⟨(some 8), .mv (.t 1), (some (7, true)), [3]⟩,
     ⟨(some 9), .iaddr (.t 8) (.k (.d (.int .i64 0))) 1, (some (7, true)), [4, 3]⟩,
     ⟨(some 10), .load (.t 9) 1 false, (some (7, true)), [5, 3]⟩,
     ⟨(some 11), .bin .eql (.t 10) (.k (.d (.int .u8 1))), (some (7, true)), [6, 3]⟩,
     ⟨(some 12), .pick (.t 7) (.t 11) (.k (.d (.bool false))), none, [3, 7]⟩,
     ⟨(some 13), .mv (.t 12), none, [8, 3]⟩,
     ⟨(some 14), .mv (.t 1), (some (13, true)), [9]⟩,
     ⟨(some 15), .iaddr (.t 14) (.k (.d (.int .i64 1))) 1, (some (13, true)), [10, 9]⟩,
     ⟨(some 16), .load (.t 15) 1 false, (some (13, true)), [11, 9]⟩,
     ⟨(some 17), .bin .eql (.t 16) (.k (.d (.int .u8 2))), (some (13, true)), [12, 9]⟩,
     ⟨(some 18), .pick (.t 13) (.t 17) (.k (.d (.bool false))), none, [9, 13]⟩,
     ⟨(some 19), .mv (.t 18), none, [14, 9]⟩,
     ⟨(some 20), .mv (.t 1), (some (19, true)), [15]⟩,
     ⟨(some 21), .iaddr (.t 20) (.k (.d (.int .i64 2))) 1, (some (19, true)), [16, 15]⟩,
     ⟨(some 22), .load (.t 21) 1 false, (some (19, true)), [17, 15]⟩,
     ⟨(some 23), .bin .eql (.t 22) (.k (.d (.int .u8 6))), (some (19, true)), [18, 15]⟩,
     ⟨(some 24), .pick (.t 19) (.t 23) (.k (.d (.bool false))), none, [15, 19]⟩,
     ⟨(some 25), .mv (.t 24), none, [20, 15]⟩,
     ⟨(some 26), .mv (.t 1), (some (25, true)), [21]⟩,
     ⟨(some 27), .iaddr (.t 26) (.k (.d (.int .i64 3))) 1, (some (25, true)), [22, 21]⟩,
     ⟨(some 28), .load (.t 27) 1 false, (some (25, true)), [23, 21]⟩,
     ⟨(some 29), .bin .eql (.t 28) (.k (.d (.int .u8 0))), (some (25, true)), [24, 21]⟩,
     ⟨(some 30), .pick (.t 25) (.t 29) (.k (.d (.bool false))), none, [21, 25]⟩,
     ⟨(some 0), .mv (.t 30), none, [26, 21, 0, 1, 2, 3, 4, 5, 6, 7, 8, 9, 10, 11, 12, 13, 14, 15, 16, 17, 18, 19, 20, 22, 23, 24, 25]⟩])
    .ret))) }
def HC33 (P : Program) (N : Nat → Nat) : Prop := HasF P (N 33) (C33 N) ∧ HC54 P N
def f33 (k : Nat) : Option Bool := (f54 k (TMessage.mk (0 : Int) (1 : Int) (2 : Int) (3 : Int) ([] : List UInt8))).bind fun r9 => cond (decide (((r9.length : Nat) : Int) = (4 : Int))) (gd (0 ≤ (0 : Int) ∧ (0 : Int) < ((r9.length : Nat) : Int)) (cond (decide ((((rd r9 (0 : Int)).toNat : Nat) : Int) = (1 : Int))) (gd (0 ≤ (1 : Int) ∧ (1 : Int) < ((r9.length : Nat) : Int)) (cond (decide ((((rd r9 (1 : Int)).toNat : Nat) : Int) = (2 : Int))) (gd (0 ≤ (2 : Int) ∧ (2 : Int) < ((r9.length : Nat) : Int)) (cond (decide ((((rd r9 (2 : Int)).toNat : Nat) : Int) = (6 : Int))) (gd (0 ≤ (3 : Int) ∧ (3 : Int) < ((r9.length : Nat) : Int)) (some (decide ((((rd r9 (3 : Int)).toNat : Nat) : Int) = (0 : Int))))) (some false))) (some false))) (some false))) (some false)
theorem F33 {P : Program} {N : Nat → Nat} (hmix : P.follows .mixedOrders = true) (hc : HC33 P N) {k : Nat} {r : Bool} (h : f33 k = some r) :
    ACalls P (N 33) [] [] (.d (.bool r)) [] := by
  refine acalls_canon (F := C33 N) hc.1 0 0 rfl ?_
  unfold f33 at h
  dsimp only [C33, startL]
  refine AWc.seq ?_
  refine AWc.rg hmix rfl rfl ?_
  refine RegV.p0 rfl rfl rfl ?_
  refine RegV.nil0 ?_
  refine AWc.seq ?_
  refine AWc.rg hmix rfl rfl ?_
  refine RegV.p1 (v := (.d (.agg [(.int .u64 (0 : Int)), (.int .u64 (1 : Int)), (.int .u64 (2 : Int)), (.int .i64 (3 : Int)), (.sl (List.map byteD ([] : List UInt8)))]))) rfl rfl (by exact ⟨⟨rfl, Nat.le_of_ble_eq_true rfl⟩, ⟨⟨rfl, Nat.le_of_ble_eq_true rfl⟩, ⟨⟨rfl, Nat.le_of_ble_eq_true rfl⟩, trivial⟩⟩⟩) rfl rfl ?_
  obtain ⟨r9, e9, h⟩ := bind_some h
  refine RegV.callS (q := false) (H' := [(0, (.tok ((List.map byteD r9).length * 1)))]) (c' := 1) (show ACalls P (N 54) [(.d (TMessage.enc (TMessage.mk (0 : Int) (1 : Int) (2 : Int) (3 : Int) ([] : List UInt8))))] [] (.ap 0 1 (List.map byteD r9)) [(0, (.tok ((List.map byteD r9).length * 1)))] from ACalls.use (F54 hmix hc.2 e9) [(0, 0)] 1 rfl) rfl rfl rfl rfl (.cons (.refl _) .nil) (.refl _) (fun h => by cases h) rfl hasNil rfl rfl rfl rfl ?_
  refine RegV.p0 rfl rfl rfl ?_
  refine RegV.nil0 ?_
  refine AWc.seq ?_
  refine AWc.rg hmix rfl rfl ?_
  refine RegV.p0 rfl rfl rfl ?_
  refine RegV.len (xs := r9) (e := byteD) rfl rfl rfl rfl ?_
  refine RegV.p0 (v := (.d (.bool (decide (((r9.length : Nat) : Int) = (4 : Int)))))) rfl rfl rfl ?_
  refine RegV.p0 rfl rfl rfl ?_
  refine RegV.split (fun c17 => ?_) (fun c17 => ?_)
  · have h := cond_pos c17 h
    refine RegV.p0 rfl rfl rfl ?_
    obtain ⟨b19, h⟩ := gd_some h
    refine RegV.iad (xs := r9) (e := byteD) rfl rfl rfl rfl (fun _ => rfl) b19 rfl ?_
    refine RegV.p0 (v := (.d (.int .u8 (((rd r9 (0 : Int)).toNat : Nat) : Int)))) rfl rfl rfl ?_
    refine RegV.p0 (v := (.d (.bool (decide ((((rd r9 (0 : Int)).toNat : Nat) : Int) = (1 : Int)))))) rfl rfl rfl ?_
    refine RegV.p0 rfl rfl rfl ?_
    refine RegV.p0 rfl rfl rfl ?_
    refine RegV.split (fun c23 => ?_) (fun c23 => ?_)
    · have h := cond_pos c23 h
      refine RegV.p0 rfl rfl rfl ?_
      obtain ⟨b25, h⟩ := gd_some h
      refine RegV.iad (xs := r9) (e := byteD) rfl rfl rfl rfl (fun _ => rfl) b25 rfl ?_
      refine RegV.p0 (v := (.d (.int .u8 (((rd r9 (1 : Int)).toNat : Nat) : Int)))) rfl rfl rfl ?_
      refine RegV.p0 (v := (.d (.bool (decide ((((rd r9 (1 : Int)).toNat : Nat) : Int) = (2 : Int)))))) rfl rfl rfl ?_
      refine RegV.p0 rfl rfl rfl ?_
      refine RegV.p0 rfl rfl rfl ?_
      refine RegV.split (fun c29 => ?_) (fun c29 => ?_)
      · have h := cond_pos c29 h
        refine RegV.p0 rfl rfl rfl ?_
        obtain ⟨b31, h⟩ := gd_some h
        refine RegV.iad (xs := r9) (e := byteD) rfl rfl rfl rfl (fun _ => rfl) b31 rfl ?_
        refine RegV.p0 (v := (.d (.int .u8 (((rd r9 (2 : Int)).toNat : Nat) : Int)))) rfl rfl rfl ?_
        refine RegV.p0 (v := (.d (.bool (decide ((((rd r9 (2 : Int)).toNat : Nat) : Int) = (6 : Int)))))) rfl rfl rfl ?_
        refine RegV.p0 rfl rfl rfl ?_
        refine RegV.p0 rfl rfl rfl ?_
        refine RegV.split (fun c35 => ?_) (fun c35 => ?_)
        · have h := cond_pos c35 h
          refine RegV.p0 rfl rfl rfl ?_
          obtain ⟨b37, h⟩ := gd_some h
          refine RegV.iad (xs := r9) (e := byteD) rfl rfl rfl rfl (fun _ => rfl) b37 rfl ?_
          refine RegV.p0 (v := (.d (.int .u8 (((rd r9 (3 : Int)).toNat : Nat) : Int)))) rfl rfl rfl ?_
          refine RegV.p0 (v := (.d (.bool (decide ((((rd r9 (3 : Int)).toNat : Nat) : Int) = (0 : Int)))))) rfl rfl rfl ?_
          refine RegV.p0 rfl rfl rfl ?_
          refine RegV.p0 rfl rfl rfl ?_
          refine RegV.nil0 ?_
          have hr := Option.some.inj h
          subst hr
          exact AWc.ret (canQ (N := 31) (k := 0) (l' := [(0, (.d (.bool (decide ((((rd r9 (3 : Int)).toNat : Nat) : Int) = (0 : Int))))))]) (H' := []) rfl ⟨rfl, [], [], rfl, rfl, ⟨⟨_, rfl, (.refl _)⟩, rfl, trivial⟩,  trivial⟩ (doneA (.inr rfl) rfl ⟨trivial, trivial⟩ (.refl _) hasNil))
        · have h := cond_neg c35 h
          refine RegV.noS rfl rfl ?_
          refine RegV.noS rfl rfl ?_
          refine RegV.noS rfl rfl ?_
          refine RegV.noS rfl rfl ?_
          refine RegV.p0 rfl rfl rfl ?_
          refine RegV.p0 rfl rfl rfl ?_
          refine RegV.nil0 ?_
          have hr := Option.some.inj h
          subst hr
          exact AWc.ret (canQ (N := 31) (k := 0) (l' := [(0, (.d (.bool false)))]) (H' := []) rfl ⟨rfl, [], [], rfl, rfl, ⟨⟨_, rfl, (.refl _)⟩, rfl, trivial⟩,  trivial⟩ (doneA (.inr rfl) rfl ⟨trivial, trivial⟩ (.refl _) hasNil))
      · have h := cond_neg c29 h
        refine RegV.noS rfl rfl ?_
        refine RegV.noS rfl rfl ?_
        refine RegV.noS rfl rfl ?_
        refine RegV.noS rfl rfl ?_
        refine RegV.p0 rfl rfl rfl ?_
        refine RegV.p0 rfl rfl rfl ?_
        refine RegV.noS rfl rfl ?_
        refine RegV.noS rfl rfl ?_
        refine RegV.noS rfl rfl ?_
        refine RegV.noS rfl rfl ?_
        refine RegV.p0 rfl rfl rfl ?_
        refine RegV.p0 rfl rfl rfl ?_
        refine RegV.nil0 ?_
        have hr := Option.some.inj h
        subst hr
        exact AWc.ret (canQ (N := 31) (k := 0) (l' := [(0, (.d (.bool false)))]) (H' := []) rfl ⟨rfl, [], [], rfl, rfl, ⟨⟨_, rfl, (.refl _)⟩, rfl, trivial⟩,  trivial⟩ (doneA (.inr rfl) rfl ⟨trivial, trivial⟩ (.refl _) hasNil))
    · have h := cond_neg c23 h
      refine RegV.noS rfl rfl ?_
      refine RegV.noS rfl rfl ?_
      refine RegV.noS rfl rfl ?_
      refine RegV.noS rfl rfl ?_
      refine RegV.p0 rfl rfl rfl ?_
      refine RegV.p0 rfl rfl rfl ?_
      refine RegV.noS rfl rfl ?_
      refine RegV.noS rfl rfl ?_
      refine RegV.noS rfl rfl ?_
      refine RegV.noS rfl rfl ?_
      refine RegV.p0 rfl rfl rfl ?_
      refine RegV.p0 rfl rfl rfl ?_
      refine RegV.noS rfl rfl ?_
      refine RegV.noS rfl rfl ?_
      refine RegV.noS rfl rfl ?_
      refine RegV.noS rfl rfl ?_
      refine RegV.p0 rfl rfl rfl ?_
      refine RegV.p0 rfl rfl rfl ?_
      refine RegV.nil0 ?_
      have hr := Option.some.inj h
      subst hr
      exact AWc.ret (canQ (N := 31) (k := 0) (l' := [(0, (.d (.bool false)))]) (H' := []) rfl ⟨rfl, [], [], rfl, rfl, ⟨⟨_, rfl, (.refl _)⟩, rfl, trivial⟩,  trivial⟩ (doneA (.inr rfl) rfl ⟨trivial, trivial⟩ (.refl _) hasNil))
  · have h := cond_neg c17 h
    refine RegV.noS rfl rfl ?_
    refine RegV.noS rfl rfl ?_
    refine RegV.noS rfl rfl ?_
    refine RegV.noS rfl rfl ?_
    refine RegV.p0 rfl rfl rfl ?_
    refine RegV.p0 rfl rfl rfl ?_
    refine RegV.noS rfl rfl ?_
    refine RegV.noS rfl rfl ?_
    refine RegV.noS rfl rfl ?_
    refine RegV.noS rfl rfl ?_
    refine RegV.p0 rfl rfl rfl ?_
    refine RegV.p0 rfl rfl rfl ?_
    refine RegV.noS rfl rfl ?_
    refine RegV.noS rfl rfl ?_
    refine RegV.noS rfl rfl ?_
    refine RegV.noS rfl rfl ?_
    refine RegV.p0 rfl rfl rfl ?_
    refine RegV.p0 rfl rfl rfl ?_
    refine RegV.noS rfl rfl ?_
    refine RegV.noS rfl rfl ?_
    refine RegV.noS rfl rfl ?_
    refine RegV.noS rfl rfl ?_
    refine RegV.p0 rfl rfl rfl ?_
    refine RegV.p0 rfl rfl rfl ?_
    refine RegV.nil0 ?_
    have hr := Option.some.inj h
    subst hr
    exact AWc.ret (canQ (N := 31) (k := 0) (l' := [(0, (.d (.bool false)))]) (H' := []) rfl ⟨rfl, [], [], rfl, rfl, ⟨⟨_, rfl, (.refl _)⟩, rfl, trivial⟩,  trivial⟩ (doneA (.inr rfl) rfl ⟨trivial, trivial⟩ (.refl _) hasNil))
/-- courant/couranthelp.Message -/
def C38 (N : Nat → Nat) : AFunc := { n := 38, params := 2, res := [.tmp 4], body :=
 (.seq (.region false [⟨(some 2), .box (.t 0), none, []⟩,
   ⟨(some 3), .box (.t 1), none, []⟩,
   ⟨(some 4), .mv (.k (.d (.bool false))), none, []⟩])
  (.seq (.region false [⟨(some 5), .faddr (.t 2) 0, none, []⟩,
    ⟨(some 6), .load (.t 5) 1 false, none, [0]⟩,
    ⟨(some 7), .faddr (.t 3) 0, none, []⟩,
    ⟨(some 8), .load (.t 7) 1 false, none, [2]⟩,
    ⟨(some 9), .bin .eql (.t 6) (.t 8), none, [1, 3]⟩,
    ⟨(some 10), .mv (.t 9), none, [4]⟩,
    ⟨(some 11), .faddr (.t 2) 1, (some (10, true)), [5]⟩,
    ⟨(some 12), .load (.t 11) 1 false, (some (10, true)), [6, 5]⟩,
    ⟨(some 13), .faddr (.t 3) 1, (some (10, true)), [5]⟩,
    ⟨(some 14), .load (.t 13) 1 false, (some (10, true)), [8, 5]⟩,
    ⟨(some 15), .bin .eql (.t 12) (.t 14), (some (10, true)), [7, 9, 5]⟩,
    ⟨(some 16), .pick (.t 10) (.t 15) (.k (.d (.bool false))), none, [5, 10]⟩,
    ⟨(some 17), .mv (.t 16), none, [11, 5]⟩,
    ⟨(some 18), .faddr (.t 2) 2, (some (17, true)), [12]⟩,
    ⟨(some 19), .load (.t 18) 1 false, (some (17, true)), [13, 12]⟩,
    ⟨(some 20), .faddr (.t 3) 2, (some (17, true)), [12]⟩,
    ⟨(some 21), .load (.t 20) 1 false, (some (17, true)), [15, 12]⟩,
    ⟨(some 22), .bin .eql (.t 19) (.t 21), (some (17, true)), [14, 16, 12]⟩,
    ⟨(some 23), .pick (.t 17) (.t 22) (.k (.d (.bool false))), none, [12, 17]⟩,
    ⟨(some 24), .mv (.t 23), none, [18, 12]⟩,
    ⟨(some 25), .faddr (.t 2) 3, (some (24, true)), [19]⟩,
    ⟨(some 26), .load (.t 25) 1 false, (some (24, true)), [20, 19]⟩,
    ⟨(some 27), .faddr (.t 3) 3, (some (24, true)), [19]⟩,
    ⟨(some 28), .load (.t 27) 1 false, (some (24, true)), [22, 19]⟩,
    ⟨(some 29), .bin .eql (.t 26) (.t 28), (some (24, true)), [21, 23, 19]⟩,
    ⟨(some 30), .pick (.t 24) (.t 29) (.k (.d (.bool false))), none, [19, 24]⟩,
    ⟨(some 31), .mv (.t 30), none, [25, 19]⟩,
    ⟨(some 32), .faddr (.t 2) 4, (some (31, true)), [26]⟩,
    ⟨(some 33), .load (.t 32) 1 false, (some (31, true)), [27, 26]⟩,
    ⟨(some 34), .faddr (.t 3) 4, (some (31, true)), [26]⟩,
    ⟨(some 35), .load (.t 34) 1 false, (some (31, true)), [29, 26]⟩,
    ⟨(some 36), .call (.k (.d (.fn (N 22)))) [(.t 33), (.t 35)], (some (31, true)), [28, 30, 26]⟩,
    ⟨(some 37), .pick (.t 31) (.t 36) (.k (.d (.bool false))), none, [26, 31]⟩,
    ⟨(some 4), .mv (.t 37), none, [32, 31, 0, 1, 2, 3, 4, 5, 6, 7, 8, 9, 10, 11, 12, 13, 14, 15, 16, 17, 18, 19, 20, 21, 22, 23, 24, 25, 26, 27, 28, 29, 30]⟩])
   .ret)) }
def HC38 (P : Program) (N : Nat → Nat) : Prop := HasF P (N 38) (C38 N) ∧ HC22 P N
def f38 (k : Nat) (a0 : TMessage) (a1 : TMessage) : Option Bool := cond (decide (a0.fOffset = a1.fOffset)) (cond (decide (a0.fProducer = a1.fProducer)) (cond (decide (a0.fSeq = a1.fSeq)) (cond (decide (a0.fVersion = a1.fVersion)) ((f22 k a0.fData a1.fData).bind fun r41 => some (decide (a0.fData = a1.fData))) (some false)) (some false)) (some false)) (some false)
theorem F38 {P : Program} {N : Nat → Nat} (hmix : P.follows .mixedOrders = true) (hc : HC38 P N) {k : Nat} {a0 : TMessage} {a1 : TMessage} {r : Bool} (h : f38 k a0 a1 = some r) :
    ACalls P (N 38) [(.d (TMessage.enc a0)), (.d (TMessage.enc a1))] [] (.d (.bool r)) [] := by
  refine acalls_canon (F := C38 N) hc.1 0 0 rfl ?_
  unfold f38 at h
  dsimp only [C38, startL]
  refine AWc.seq ?_
  refine AWc.rg hmix rfl rfl ?_
  refine RegV.evS (own := false) (v := (.ptr 0 0)) (H' := [(0, (.cells [(.d (.int .u64 a0.fOffset)), (.d (.int .u64 a0.fProducer)), (.d (.int .u64 a0.fSeq)), (.d (.int .i64 a0.fVersion)), (.d (.sl (List.map byteD a0.fData)))]))]) (c' := 1) rfl rfl trivial rfl rfl rfl rfl rfl rfl ?_
  refine RegV.evS (own := false) (v := (.ptr 1 0)) (H' := [(1, (.cells [(.d (.int .u64 a1.fOffset)), (.d (.int .u64 a1.fProducer)), (.d (.int .u64 a1.fSeq)), (.d (.int .i64 a1.fVersion)), (.d (.sl (List.map byteD a1.fData)))])), (0, (.cells [(.d (.int .u64 a0.fOffset)), (.d (.int .u64 a0.fProducer)), (.d (.int .u64 a0.fSeq)), (.d (.int .i64 a0.fVersion)), (.d (.sl (List.map byteD a0.fData)))]))]) (c' := 2) rfl rfl trivial rfl rfl rfl rfl rfl rfl ?_
  refine RegV.p0 rfl rfl rfl ?_
  refine RegV.nil0 ?_
  refine AWc.seq ?_
  refine AWc.rg hmix rfl rfl ?_
  refine RegV.p0 (v := (.ptr 0 0)) rfl rfl rfl ?_
  refine RegV.ld (v := (.d (.int .u64 a0.fOffset))) (H' := [(0, (.cells [(.d (.int .u64 a0.fOffset)), (.d (.int .u64 a0.fProducer)), (.d (.int .u64 a0.fSeq)), (.d (.int .i64 a0.fVersion)), (.d (.sl (List.map byteD a0.fData)))])), (1, (.cells [(.d (.int .u64 a1.fOffset)), (.d (.int .u64 a1.fProducer)), (.d (.int .u64 a1.fSeq)), (.d (.int .i64 a1.fVersion)), (.d (.sl (List.map byteD a1.fData)))]))]) rfl rfl trivial rfl rfl rfl rfl rfl ?_
  refine RegV.p0 (v := (.ptr 1 0)) rfl rfl rfl ?_
  refine RegV.ld (v := (.d (.int .u64 a1.fOffset))) (H' := [(1, (.cells [(.d (.int .u64 a1.fOffset)), (.d (.int .u64 a1.fProducer)), (.d (.int .u64 a1.fSeq)), (.d (.int .i64 a1.fVersion)), (.d (.sl (List.map byteD a1.fData)))])), (0, (.cells [(.d (.int .u64 a0.fOffset)), (.d (.int .u64 a0.fProducer)), (.d (.int .u64 a0.fSeq)), (.d (.int .i64 a0.fVersion)), (.d (.sl (List.map byteD a0.fData)))]))]) rfl rfl trivial rfl rfl rfl rfl rfl ?_
  refine RegV.p0 (v := (.d (.bool (decide (a0.fOffset = a1.fOffset))))) rfl rfl rfl ?_
  refine RegV.p0 rfl rfl rfl ?_
  refine RegV.split (fun c15 => ?_) (fun c15 => ?_)
  · have h := cond_pos c15 h
    refine RegV.p0 (v := (.ptr 0 1)) rfl rfl rfl ?_
    refine RegV.ld (v := (.d (.int .u64 a0.fProducer))) (H' := [(0, (.cells [(.d (.int .u64 a0.fOffset)), (.d (.int .u64 a0.fProducer)), (.d (.int .u64 a0.fSeq)), (.d (.int .i64 a0.fVersion)), (.d (.sl (List.map byteD a0.fData)))])), (1, (.cells [(.d (.int .u64 a1.fOffset)), (.d (.int .u64 a1.fProducer)), (.d (.int .u64 a1.fSeq)), (.d (.int .i64 a1.fVersion)), (.d (.sl (List.map byteD a1.fData)))]))]) rfl rfl trivial rfl rfl rfl rfl rfl ?_
    refine RegV.p0 (v := (.ptr 1 1)) rfl rfl rfl ?_
    refine RegV.ld (v := (.d (.int .u64 a1.fProducer))) (H' := [(1, (.cells [(.d (.int .u64 a1.fOffset)), (.d (.int .u64 a1.fProducer)), (.d (.int .u64 a1.fSeq)), (.d (.int .i64 a1.fVersion)), (.d (.sl (List.map byteD a1.fData)))])), (0, (.cells [(.d (.int .u64 a0.fOffset)), (.d (.int .u64 a0.fProducer)), (.d (.int .u64 a0.fSeq)), (.d (.int .i64 a0.fVersion)), (.d (.sl (List.map byteD a0.fData)))]))]) rfl rfl trivial rfl rfl rfl rfl rfl ?_
    refine RegV.p0 (v := (.d (.bool (decide (a0.fProducer = a1.fProducer))))) rfl rfl rfl ?_
    refine RegV.p0 rfl rfl rfl ?_
    refine RegV.p0 rfl rfl rfl ?_
    refine RegV.split (fun c22 => ?_) (fun c22 => ?_)
    · have h := cond_pos c22 h
      refine RegV.p0 (v := (.ptr 0 2)) rfl rfl rfl ?_
      refine RegV.ld (v := (.d (.int .u64 a0.fSeq))) (H' := [(0, (.cells [(.d (.int .u64 a0.fOffset)), (.d (.int .u64 a0.fProducer)), (.d (.int .u64 a0.fSeq)), (.d (.int .i64 a0.fVersion)), (.d (.sl (List.map byteD a0.fData)))])), (1, (.cells [(.d (.int .u64 a1.fOffset)), (.d (.int .u64 a1.fProducer)), (.d (.int .u64 a1.fSeq)), (.d (.int .i64 a1.fVersion)), (.d (.sl (List.map byteD a1.fData)))]))]) rfl rfl trivial rfl rfl rfl rfl rfl ?_
      refine RegV.p0 (v := (.ptr 1 2)) rfl rfl rfl ?_
      refine RegV.ld (v := (.d (.int .u64 a1.fSeq))) (H' := [(1, (.cells [(.d (.int .u64 a1.fOffset)), (.d (.int .u64 a1.fProducer)), (.d (.int .u64 a1.fSeq)), (.d (.int .i64 a1.fVersion)), (.d (.sl (List.map byteD a1.fData)))])), (0, (.cells [(.d (.int .u64 a0.fOffset)), (.d (.int .u64 a0.fProducer)), (.d (.int .u64 a0.fSeq)), (.d (.int .i64 a0.fVersion)), (.d (.sl (List.map byteD a0.fData)))]))]) rfl rfl trivial rfl rfl rfl rfl rfl ?_
      refine RegV.p0 (v := (.d (.bool (decide (a0.fSeq = a1.fSeq))))) rfl rfl rfl ?_
      refine RegV.p0 rfl rfl rfl ?_
      refine RegV.p0 rfl rfl rfl ?_
      refine RegV.split (fun c29 => ?_) (fun c29 => ?_)
      · have h := cond_pos c29 h
        refine RegV.p0 (v := (.ptr 0 3)) rfl rfl rfl ?_
        refine RegV.ld (v := (.d (.int .i64 a0.fVersion))) (H' := [(0, (.cells [(.d (.int .u64 a0.fOffset)), (.d (.int .u64 a0.fProducer)), (.d (.int .u64 a0.fSeq)), (.d (.int .i64 a0.fVersion)), (.d (.sl (List.map byteD a0.fData)))])), (1, (.cells [(.d (.int .u64 a1.fOffset)), (.d (.int .u64 a1.fProducer)), (.d (.int .u64 a1.fSeq)), (.d (.int .i64 a1.fVersion)), (.d (.sl (List.map byteD a1.fData)))]))]) rfl rfl trivial rfl rfl rfl rfl rfl ?_
        refine RegV.p0 (v := (.ptr 1 3)) rfl rfl rfl ?_
        refine RegV.ld (v := (.d (.int .i64 a1.fVersion))) (H' := [(1, (.cells [(.d (.int .u64 a1.fOffset)), (.d (.int .u64 a1.fProducer)), (.d (.int .u64 a1.fSeq)), (.d (.int .i64 a1.fVersion)), (.d (.sl (List.map byteD a1.fData)))])), (0, (.cells [(.d (.int .u64 a0.fOffset)), (.d (.int .u64 a0.fProducer)), (.d (.int .u64 a0.fSeq)), (.d (.int .i64 a0.fVersion)), (.d (.sl (List.map byteD a0.fData)))]))]) rfl rfl trivial rfl rfl rfl rfl rfl ?_
        refine RegV.p0 (v := (.d (.bool (decide (a0.fVersion = a1.fVersion))))) rfl rfl rfl ?_
        refine RegV.p0 rfl rfl rfl ?_
        refine RegV.p0 rfl rfl rfl ?_
        refine RegV.split (fun c36 => ?_) (fun c36 => ?_)
        · have h := cond_pos c36 h
          refine RegV.p0 (v := (.ptr 0 4)) rfl rfl rfl ?_
          refine RegV.ld (v := (.d (.sl (List.map byteD a0.fData)))) (H' := [(0, (.cells [(.d (.int .u64 a0.fOffset)), (.d (.int .u64 a0.fProducer)), (.d (.int .u64 a0.fSeq)), (.d (.int .i64 a0.fVersion)), (.d (.sl (List.map byteD a0.fData)))])), (1, (.cells [(.d (.int .u64 a1.fOffset)), (.d (.int .u64 a1.fProducer)), (.d (.int .u64 a1.fSeq)), (.d (.int .i64 a1.fVersion)), (.d (.sl (List.map byteD a1.fData)))]))]) rfl rfl trivial rfl rfl rfl rfl rfl ?_
          refine RegV.p0 (v := (.ptr 1 4)) rfl rfl rfl ?_
          refine RegV.ld (v := (.d (.sl (List.map byteD a1.fData)))) (H' := [(1, (.cells [(.d (.int .u64 a1.fOffset)), (.d (.int .u64 a1.fProducer)), (.d (.int .u64 a1.fSeq)), (.d (.int .i64 a1.fVersion)), (.d (.sl (List.map byteD a1.fData)))])), (0, (.cells [(.d (.int .u64 a0.fOffset)), (.d (.int .u64 a0.fProducer)), (.d (.int .u64 a0.fSeq)), (.d (.int .i64 a0.fVersion)), (.d (.sl (List.map byteD a0.fData)))]))]) rfl rfl trivial rfl rfl rfl rfl rfl ?_
          obtain ⟨r41, e41, h⟩ := bind_some h
          refine RegV.call0 (F22 hmix hc.2 e41) rfl rfl rfl rfl (.cons (.refl _) (.cons (.refl _) .nil)) rfl ?_
          refine RegV.p0 rfl rfl rfl ?_
          refine RegV.p0 rfl rfl rfl ?_
          refine RegV.nil0 ?_
          have hr := Option.some.inj h
          subst hr
          exact AWc.ret (canQ (N := 38) (k := 0) (l' := [(4, (.d (.bool (decide (a0.fData = a1.fData)))))]) (H' := []) rfl ⟨rfl, [], [], rfl, rfl, ⟨⟨_, rfl, (.refl _)⟩, rfl, trivial⟩,  trivial⟩ (doneA (.inr rfl) rfl ⟨trivial, trivial⟩ (.refl _) hasNil))
        · have h := cond_neg c36 h
          refine RegV.noS rfl rfl ?_
          refine RegV.noS rfl rfl ?_
          refine RegV.noS rfl rfl ?_
          refine RegV.noS rfl rfl ?_
          refine RegV.noS rfl rfl ?_
          refine RegV.p0 rfl rfl rfl ?_
          refine RegV.p0 rfl rfl rfl ?_
          refine RegV.nil0 ?_
          have hr := Option.some.inj h
          subst hr
          exact AWc.ret (canQ (N := 38) (k := 0) (l' := [(4, (.d (.bool false)))]) (H' := []) rfl ⟨rfl, [], [], rfl, rfl, ⟨⟨_, rfl, (.refl _)⟩, rfl, trivial⟩,  trivial⟩ (doneA (.inr rfl) rfl ⟨trivial, trivial⟩ (.refl _) hasNil))
      · have h := cond_neg c29 h
        refine RegV.noS rfl rfl ?_
        refine RegV.noS rfl rfl ?_
        refine RegV.noS rfl rfl ?_
        refine RegV.noS rfl rfl ?_
        refine RegV.noS rfl rfl ?_
        refine RegV.p0 rfl rfl rfl ?_
        refine RegV.p0 rfl rfl rfl ?_
        refine RegV.noS rfl rfl ?_
        refine RegV.noS rfl rfl ?_
        refine RegV.noS rfl rfl ?_
        refine RegV.noS rfl rfl ?_
        refine RegV.noS rfl rfl ?_
        refine RegV.p0 rfl rfl rfl ?_
        refine RegV.p0 rfl rfl rfl ?_
        refine RegV.nil0 ?_
        have hr := Option.some.inj h
        subst hr
        exact AWc.ret (canQ (N := 38) (k := 0) (l' := [(4, (.d (.bool false)))]) (H' := []) rfl ⟨rfl, [], [], rfl, rfl, ⟨⟨_, rfl, (.refl _)⟩, rfl, trivial⟩,  trivial⟩ (doneA (.inr rfl) rfl ⟨trivial, trivial⟩ (.refl _) hasNil))
    · have h := cond_neg c22 h
      refine RegV.noS rfl rfl ?_
      refine RegV.noS rfl rfl ?_
      refine RegV.noS rfl rfl ?_
      refine RegV.noS rfl rfl ?_
      refine RegV.noS rfl rfl ?_
      refine RegV.p0 rfl rfl rfl ?_
      refine RegV.p0 rfl rfl rfl ?_
      refine RegV.noS rfl rfl ?_
      refine RegV.noS rfl rfl ?_
      refine RegV.noS rfl rfl ?_
      refine RegV.noS rfl rfl ?_
      refine RegV.noS rfl rfl ?_
      refine RegV.p0 rfl rfl rfl ?_
      refine RegV.p0 rfl rfl rfl ?_
      refine RegV.noS rfl rfl ?_
      refine RegV.noS rfl rfl ?_
      refine RegV.noS rfl rfl ?_
      refine RegV.noS rfl rfl ?_
      refine RegV.noS rfl rfl ?_
      refine RegV.p0 rfl rfl rfl ?_
      refine RegV.p0 rfl rfl rfl ?_
      refine RegV.nil0 ?_
      have hr := Option.some.inj h
      subst hr
      exact AWc.ret (canQ (N := 38) (k := 0) (l' := [(4, (.d (.bool false)))]) (H' := []) rfl ⟨rfl, [], [], rfl, rfl, ⟨⟨_, rfl, (.refl _)⟩, rfl, trivial⟩,  trivial⟩ (doneA (.inr rfl) rfl ⟨trivial, trivial⟩ (.refl _) hasNil))
  · have h := cond_neg c15 h
    refine RegV.noS rfl rfl ?_
    refine RegV.noS rfl rfl ?_
    refine RegV.noS rfl rfl ?_
    refine RegV.noS rfl rfl ?_
    refine RegV.noS rfl rfl ?_
    refine RegV.p0 rfl rfl rfl ?_
    refine RegV.p0 rfl rfl rfl ?_
    refine RegV.noS rfl rfl ?_
    refine RegV.noS rfl rfl ?_
    refine RegV.noS rfl rfl ?_
    refine RegV.noS rfl rfl ?_
    refine RegV.noS rfl rfl ?_
    refine RegV.p0 rfl rfl rfl ?_
    refine RegV.p0 rfl rfl rfl ?_
    refine RegV.noS rfl rfl ?_
    refine RegV.noS rfl rfl ?_
    refine RegV.noS rfl rfl ?_
    refine RegV.noS rfl rfl ?_
    refine RegV.noS rfl rfl ?_
    refine RegV.p0 rfl rfl rfl ?_
    refine RegV.p0 rfl rfl rfl ?_
    refine RegV.noS rfl rfl ?_
    refine RegV.noS rfl rfl ?_
    refine RegV.noS rfl rfl ?_
    refine RegV.noS rfl rfl ?_
    refine RegV.noS rfl rfl ?_
    refine RegV.p0 rfl rfl rfl ?_
    refine RegV.p0 rfl rfl rfl ?_
    refine RegV.nil0 ?_
    have hr := Option.some.inj h
    subst hr
    exact AWc.ret (canQ (N := 38) (k := 0) (l' := [(4, (.d (.bool false)))]) (H' := []) rfl ⟨rfl, [], [], rfl, rfl, ⟨⟨_, rfl, (.refl _)⟩, rfl, trivial⟩,  trivial⟩ (doneA (.inr rfl) rfl ⟨trivial, trivial⟩ (.refl _) hasNil))
/-- courant/courantlaw24.BatchBytes -/
def C11 (N : Nat → Nat) : AFunc := { n := 73, params := 3, res := [.tmp 6], body :=
 (.seq (.region false [⟨(some 3), .box (.t 0), none, []⟩,
   ⟨(some 6), .mv (.k (.d (.bool false))), none, []⟩])
  (.seq (.seq (.region false [⟨(some 14), .faddr (.t 3) 4, none, []⟩,
     ⟨(some 15), .load (.t 14) 1 false, none, [0]⟩,
     ⟨(some 16), .len (.t 15), none, [1]⟩,
     ⟨(some 17), .bin .gtr (.t 16) (.k (.d (.int .i64 5000))), none, [2]⟩,
     ⟨(some 18), .mv (.t 17), none, [3]⟩,
     ⟨(some 19), .mv (.t 2), (some (18, false)), [4]⟩,
     ⟨(some 20), .len (.t 19), (some (18, false)), [5, 4]⟩,
     ⟨(some 21), .bin .gtr (.t 20) (.k (.d (.int .i64 5000))), (some (18, false)), [6, 4]⟩,
     ⟨(some 22), .pick (.t 18) (.k (.d (.bool true))) (.t 21), none, [4, 7]⟩])
    (.cond (.t 22) (.seq (.region false [⟨(some 23), .call (.k (.d (.fn (N 33)))) [], none, []⟩,
       ⟨(some 6), .mv (.t 23), none, [0]⟩])
      .ret)
     (.skip)))
   (.seq (.region false [⟨(some 24), .faddr (.t 3) 4, none, []⟩,
     ⟨(some 25), .load (.t 24) 1 false, none, [0]⟩,
     ⟨(some 26), .call (.k (.d (.fn (N 21)))) [(.t 25), (.k (.d (.int .u8 71)))], none, [1]⟩,
     ⟨(some 27), .mv (.t 2), none, []⟩,
     ⟨(some 28), .call (.k (.d (.fn (N 21)))) [(.t 27), (.k (.d (.int .u8 71)))], none, [3, 2]⟩,
     ⟨(some 7), .mv (.t 26), none, [2, 4, 0, 1]⟩,
     ⟨(some 8), .mv (.t 28), none, [4, 5, 0, 1, 2, 3]⟩])
    (.seq (.region false [⟨(some 29), .load (.t 3) 5 true, none, []⟩,
      ⟨(some 9), .alloc [(.int .u64 0), (.int .u64 0), (.int .u64 0), (.int .i64 0), (.sl [])], none, []⟩,
      ⟨none, .store (.t 9) (.t 29) 5, none, [1, 0]⟩])
     (.seq (.region false [⟨(some 30), .mv (.t 7), none, []⟩,
       ⟨(some 31), .faddr (.t 9) 4, none, [0]⟩,
       ⟨none, .store (.t 31) (.t 30) 1, none, [1, 0]⟩])
      (.seq (.region false [⟨(some 33), .mv (.t 1), none, []⟩,
        ⟨(some 34), .mv (.t 8), none, []⟩,
        ⟨(some 35), .call (.k (.d (.fn (N 52)))) [(.t 33), (.t 34)], none, [0, 1]⟩,
        ⟨(some 32), .mv (.t 35), none, [2]⟩,
        ⟨(some 36), .ext (.t 32) 0, none, [3]⟩,
        ⟨(some 37), .ext (.t 32) 1, none, [3]⟩,
        ⟨(some 10), .alloc [(.int .u64 0), (.int .u64 0), (.int .u64 0), (.int .i64 0), (.sl [])], none, []⟩,
        ⟨none, .store (.t 10) (.t 36) 5, none, [6, 4, 2, 0, 1, 3]⟩,
        ⟨(some 11), .mv (.t 37), none, [5, 7, 0, 1, 2, 3, 4, 6]⟩])
       (.seq (.region false [⟨(some 39), .mv (.t 1), none, []⟩,
         ⟨(some 40), .mv (.t 2), none, []⟩,
         ⟨(some 41), .call (.k (.d (.fn (N 53)))) [(.t 39), (.t 40)], none, [0, 1]⟩,
         ⟨(some 38), .mv (.t 41), none, [2]⟩,
         ⟨(some 42), .ext (.t 38) 0, none, [3]⟩,
         ⟨(some 43), .ext (.t 38) 1, none, [3]⟩,
         ⟨(some 12), .alloc [(.int .u64 0), (.int .u64 0), (.int .u64 0), (.int .i64 0), (.sl [])], none, []⟩,
         ⟨none, .store (.t 12) (.t 42) 5, none, [6, 4, 2, 0, 1, 3]⟩,
         ⟨(some 13), .mv (.t 43), none, [5, 7, 0, 1, 2, 3, 4, 6]⟩])
        (.seq (.region true [⟨(some 44), .call (.k (.d (.fn (N 33)))) [], none, []⟩,
          ⟨(some 45), .mv (.t 44), none, [0]⟩,
          ⟨(some 46), .load (.t 9) 5 true, (some (45, true)), [1]⟩,
          ⟨(some 47), .call (.k (.d (.fn (N 54)))) [(.t 46)], (some (45, true)), [2, 1]⟩,
          ⟨(some 48), .load (.t 3) 5 true, (some (45, true)), [1]⟩,
          ⟨(some 49), .call (.k (.d (.fn (N 55)))) [(.t 48)], (some (45, true)), [4, 3, 1]⟩,
          ⟨(some 50), .call (.k (.d (.fn (N 22)))) [(.t 47), (.t 49)], (some (45, true)), [3, 5, 1]⟩,
          ⟨(some 51), .pick (.t 45) (.t 50) (.k (.d (.bool false))), none, [1, 6]⟩,
          ⟨(some 52), .mv (.t 51), none, [7, 6]⟩,
          ⟨(some 53), .load (.t 10) 5 true, (some (52, true)), [8]⟩,
          ⟨(some 54), .load (.t 12) 5 true, (some (52, true)), [8]⟩,
          ⟨(some 55), .call (.k (.d (.fn (N 38)))) [(.t 53), (.t 54)], (some (52, true)), [9, 10, 8]⟩,
          ⟨(some 56), .pick (.t 52) (.t 55) (.k (.d (.bool false))), none, [8, 11]⟩,
          ⟨(some 57), .mv (.t 56), none, [12, 11]⟩,
          ⟨(some 58), .mv (.t 11), (some (57, true)), [13]⟩,
          ⟨(some 59), .mv (.t 13), (some (57, true)), [13]⟩,
          ⟨(some 60), .bin .eql (.t 58) (.t 59), (some (57, true)), [14, 15, 13]⟩,
          ⟨(some 61), .pick (.t 57) (.t 60) (.k (.d (.bool false))), none, [13, 16]⟩,
          ⟨(some 62), .mv (.t 61), none, [17, 13]⟩,
          ⟨(some 63), .mv (.t 7), (some (62, true)), [18]⟩,
          ⟨(some 64), .faddr (.t 3) 4, (some (62, true)), [18]⟩,
          ⟨(some 65), .load (.t 64) 1 false, (some (62, true)), [20, 18]⟩,
          ⟨(some 66), .call (.k (.d (.fn (N 29)))) [(.t 63), (.t 65), (.k (.d (.int .u8 71)))], (some (62, true)), [19, 21, 18]⟩,
          ⟨(some 67), .pick (.t 62) (.t 66) (.k (.d (.bool false))), none, [18, 22]⟩,
          ⟨(some 68), .mv (.t 67), none, [23, 22]⟩,
          ⟨(some 69), .mv (.t 8), (some (68, true)), [24]⟩,
          ⟨(some 70), .mv (.t 2), (some (68, true)), [24]⟩,
          ⟨(some 71), .call (.k (.d (.fn (N 29)))) [(.t 69), (.t 70), (.k (.d (.int .u8 71)))], (some (68, true)), [25, 26, 24]⟩,
          ⟨(some 72), .pick (.t 68) (.t 71) (.k (.d (.bool false))), none, [24, 27]⟩,
          ⟨(some 6), .mv (.t 72), none, [28, 27, 0, 1, 2, 3, 4, 5, 6, 7, 8, 9, 10, 11, 12, 13, 14, 15, 16, 17, 18, 19, 20, 21, 22, 23, 24, 25, 26]⟩])
         .ret)))))))) }
def HC11 (P : Program) (N : Nat → Nat) : Prop := HasF P (N 11) (C11 N) ∧ HC33 P N ∧ HC21 P N ∧ HC52 P N ∧ HC53 P N ∧ HC54 P N ∧ HC55 P N ∧ HC22 P N ∧ HC38 P N ∧ HC29 P N
def f11 (k : Nat) (a0 : TMessage) (a1 : Int) (a2 : (List UInt8)) : Option Bool := cond (decide (((a0.fData.length : Nat) : Int) > (5000 : Int))) ((f33 k).bind fun r23 => some r23) (cond (decide (((a2.length : Nat) : Int) > (5000 : Int))) ((f33 k).bind fun r23 => some r23) ((f21 k a0.fData (71 : UInt8)).bind fun r32 => (f21 k a2 (71 : UInt8)).bind fun r34 => (f52 k a1 (List.take (((0 : Int)).toNat + a2.length) r34)).bind fun r54 => (f53 k a1 a2).bind fun r66 => (f33 k).bind fun r76 => cond r76 ((f54 k (TMessage.mk a0.fOffset a0.fProducer a0.fSeq a0.fVersion (List.take (((0 : Int)).toNat + a0.fData.length) r32))).bind fun r79 => (f55 k (TMessage.mk a0.fOffset a0.fProducer a0.fSeq a0.fVersion a0.fData)).bind fun r81 => (f22 k r79 r81).bind fun r82 => cond (decide (r79 = r81)) ((f38 k (TMessage.mk r54.2.1 r54.2.2.1 r54.2.2.2.1 r54.2.2.2.2.1 r54.2.2.2.2.2) (TMessage.mk r66.2.1 r66.2.2.1 r66.2.2.2.1 r66.2.2.2.2.1 r66.2.2.2.2.2)).bind fun r87 => cond r87 (cond (decide (r54.1 = r66.1)) ((f29 k r32 (((0 : Int)).toNat + a0.fData.length) a0.fData (71 : UInt8)).bind fun r98 => cond r98 ((f29 k r34 (((0 : Int)).toNat + a2.length) a2 (71 : UInt8)).bind fun r103 => some r103) (some false)) (some false)) (some false)) (some false)) (some false)))
theorem F11 {P : Program} {N : Nat → Nat} (hmix : P.follows .mixedOrders = true) (hc : HC11 P N) {k : Nat} {a0 : TMessage} {a1 : Int} {a2 : (List UInt8)} {r : Bool} (h : f11 k a0 a1 a2 = some r) :
    ACalls P (N 11) [(.d (TMessage.enc a0)), (.d (.int .u64 a1)), (.d (.sl (List.map byteD a2)))] [] (.d (.bool r)) [] := by
  refine acalls_canon (F := C11 N) hc.1 0 0 rfl ?_
  unfold f11 at h
  dsimp only [C11, startL]
  refine AWc.seq ?_
  refine AWc.rg hmix rfl rfl ?_
  refine RegV.evS (own := false) (v := (.ptr 0 0)) (H' := [(0, (.cells [(.d (.int .u64 a0.fOffset)), (.d (.int .u64 a0.fProducer)), (.d (.int .u64 a0.fSeq)), (.d (.int .i64 a0.fVersion)), (.d (.sl (List.map byteD a0.fData)))]))]) (c' := 1) rfl rfl trivial rfl rfl rfl rfl rfl rfl ?_
  refine RegV.p0 rfl rfl rfl ?_
  refine RegV.nil0 ?_
  refine AWc.seq ?_
  refine AWc.seq ?_
  refine AWc.rg hmix rfl rfl ?_
  refine RegV.p0 (v := (.ptr 0 4)) rfl rfl rfl ?_
  refine RegV.ld (v := (.d (.sl (List.map byteD a0.fData)))) (H' := [(0, (.cells [(.d (.int .u64 a0.fOffset)), (.d (.int .u64 a0.fProducer)), (.d (.int .u64 a0.fSeq)), (.d (.int .i64 a0.fVersion)), (.d (.sl (List.map byteD a0.fData)))]))]) rfl rfl trivial rfl rfl rfl rfl rfl ?_
  refine RegV.len (xs := a0.fData) (e := byteD) rfl rfl rfl rfl ?_
  refine RegV.p0 (v := (.d (.bool (decide (((a0.fData.length : Nat) : Int) > (5000 : Int)))))) rfl rfl rfl ?_
  refine RegV.p0 rfl rfl rfl ?_
  refine RegV.split (fun c14 => ?_) (fun c14 => ?_)
  · have h := cond_pos c14 h
    refine RegV.noS rfl rfl ?_
    refine RegV.noS rfl rfl ?_
    refine RegV.noS rfl rfl ?_
    refine RegV.p0 rfl rfl rfl ?_
    refine RegV.nil0 ?_
    refine AWc.cond rfl (fun _ => ?_) (fun hc => by cases hc)
    refine AWc.seq ?_
    refine AWc.rg hmix rfl rfl ?_
    obtain ⟨r23, e23, h⟩ := bind_some h
    refine RegV.call0 (F33 hmix hc.2.1 e23) rfl rfl rfl rfl .nil rfl ?_
    refine RegV.p0 rfl rfl rfl ?_
    refine RegV.nil0 ?_
    have hr := Option.some.inj h
    subst hr
    exact AWc.ret (canQ (N := 73) (k := 0) (l' := [(6, (.d (.bool r23)))]) (H' := []) rfl ⟨rfl, [], [], rfl, rfl, ⟨⟨_, rfl, (.refl _)⟩, rfl, trivial⟩,  trivial⟩ (doneA (.inr rfl) rfl ⟨trivial, trivial⟩ (.refl _) hasNil))
  · have h := cond_neg c14 h
    refine RegV.p0 rfl rfl rfl ?_
    refine RegV.len (xs := a2) (e := byteD) rfl rfl rfl rfl ?_
    refine RegV.p0 (v := (.d (.bool (decide (((a2.length : Nat) : Int) > (5000 : Int)))))) rfl rfl rfl ?_
    refine RegV.p0 rfl rfl rfl ?_
    refine RegV.nil0 ?_
    refine AWc.cond rfl (fun c19 => ?_) (fun c19 => ?_)
    · have h := cond_pos c19 h
      refine AWc.seq ?_
      refine AWc.rg hmix rfl rfl ?_
      obtain ⟨r23, e23, h⟩ := bind_some h
      refine RegV.call0 (F33 hmix hc.2.1 e23) rfl rfl rfl rfl .nil rfl ?_
      refine RegV.p0 rfl rfl rfl ?_
      refine RegV.nil0 ?_
      have hr := Option.some.inj h
      subst hr
      exact AWc.ret (canQ (N := 73) (k := 0) (l' := [(6, (.d (.bool r23)))]) (H' := []) rfl ⟨rfl, [], [], rfl, rfl, ⟨⟨_, rfl, (.refl _)⟩, rfl, trivial⟩,  trivial⟩ (doneA (.inr rfl) rfl ⟨trivial, trivial⟩ (.refl _) hasNil))
    · have h := cond_neg c19 h
      refine AWc.skip ?_
      refine AWc.seq ?_
      refine AWc.rg hmix rfl rfl ?_
      refine RegV.p0 (v := (.ptr 0 4)) rfl rfl rfl ?_
      refine RegV.ld (v := (.d (.sl (List.map byteD a0.fData)))) (H' := [(0, (.cells [(.d (.int .u64 a0.fOffset)), (.d (.int .u64 a0.fProducer)), (.d (.int .u64 a0.fSeq)), (.d (.int .i64 a0.fVersion)), (.d (.sl (List.map byteD a0.fData)))]))]) rfl rfl trivial rfl rfl rfl rfl rfl ?_
      obtain ⟨r32, e32, h⟩ := bind_some h
      refine RegV.call0 (F21 hmix hc.2.2.1 e32) rfl rfl rfl rfl (.cons (.refl _) (.cons (.refl _) .nil)) rfl ?_
      refine RegV.p0 rfl rfl rfl ?_
      obtain ⟨r34, e34, h⟩ := bind_some h
      refine RegV.call0 (F21 hmix hc.2.2.1 e34) rfl rfl rfl rfl (.cons (.refl _) (.cons (.refl _) .nil)) rfl ?_
      refine RegV.p0 rfl rfl rfl ?_
      refine RegV.p0 rfl rfl rfl ?_
      refine RegV.nil0 ?_
      refine AWc.seq ?_
      refine AWc.rg hmix rfl rfl ?_
      refine RegV.ld (v := (.d (.agg [(.int .u64 a0.fOffset), (.int .u64 a0.fProducer), (.int .u64 a0.fSeq), (.int .i64 a0.fVersion), (.sl (List.map byteD a0.fData))]))) (H' := [(0, (.cells [(.d (.int .u64 a0.fOffset)), (.d (.int .u64 a0.fProducer)), (.d (.int .u64 a0.fSeq)), (.d (.int .i64 a0.fVersion)), (.d (.sl (List.map byteD a0.fData)))]))]) rfl rfl (Nat.le_of_ble_eq_true rfl) rfl rfl rfl rfl rfl ?_
      refine RegV.evS (own := false) (v := (.ptr 1 0)) (H' := [(1, (.cells [(.d (.int .u64 (0 : Int))), (.d (.int .u64 (0 : Int))), (.d (.int .u64 (0 : Int))), (.d (.int .i64 (0 : Int))), .nils])), (0, (.cells [(.d (.int .u64 a0.fOffset)), (.d (.int .u64 a0.fProducer)), (.d (.int .u64 a0.fSeq)), (.d (.int .i64 a0.fVersion)), (.d (.sl (List.map byteD a0.fData)))]))]) (c' := 2) rfl rfl trivial rfl rfl rfl rfl rfl rfl ?_
      refine RegV.evN (own := false) (H' := [(1, (.cells [(.d (.int .u64 a0.fOffset)), (.d (.int .u64 a0.fProducer)), (.d (.int .u64 a0.fSeq)), (.d (.int .i64 a0.fVersion)), (.d (.sl (List.map byteD a0.fData)))])), (0, (.cells [(.d (.int .u64 a0.fOffset)), (.d (.int .u64 a0.fProducer)), (.d (.int .u64 a0.fSeq)), (.d (.int .i64 a0.fVersion)), (.d (.sl (List.map byteD a0.fData)))]))]) (c' := 2) rfl rfl (by exact ⟨rfl, Nat.le_of_ble_eq_true rfl, rfl⟩) rfl rfl rfl rfl ?_
      refine RegV.nil0 ?_
      refine AWc.seq ?_
      refine AWc.rg hmix rfl rfl ?_
      refine RegV.p0 rfl rfl rfl ?_
      refine RegV.p0 (v := (.ptr 1 4)) rfl rfl rfl ?_
      refine RegV.evN (own := false) (H' := [(1, (.cells [(.d (.int .u64 a0.fOffset)), (.d (.int .u64 a0.fProducer)), (.d (.int .u64 a0.fSeq)), (.d (.int .i64 a0.fVersion)), (.win (List.map byteD r32) (((0 : Int)).toNat + a0.fData.length))])), (0, (.cells [(.d (.int .u64 a0.fOffset)), (.d (.int .u64 a0.fProducer)), (.d (.int .u64 a0.fSeq)), (.d (.int .i64 a0.fVersion)), (.d (.sl (List.map byteD a0.fData)))]))]) (c' := 2) rfl rfl (by exact ⟨rfl, Nat.le_of_ble_eq_true rfl, rfl⟩) rfl rfl rfl rfl ?_
      refine RegV.nil0 ?_
      refine AWc.seq ?_
      refine AWc.rg hmix rfl rfl ?_
      refine RegV.p0 rfl rfl rfl ?_
      refine RegV.p0 rfl rfl rfl ?_
      obtain ⟨r54, e54, h⟩ := bind_some h
      refine RegV.call0 (F52 hmix hc.2.2.2.1 e54) rfl rfl rfl rfl (.cons (.refl _) (.cons .win .nil)) rfl ?_
      refine RegV.p0 rfl rfl rfl ?_
      refine RegV.p0 rfl rfl rfl ?_
      refine RegV.p0 rfl rfl rfl ?_
      refine RegV.evS (own := false) (v := (.ptr 2 0)) (H' := [(2, (.cells [(.d (.int .u64 (0 : Int))), (.d (.int .u64 (0 : Int))), (.d (.int .u64 (0 : Int))), (.d (.int .i64 (0 : Int))), .nils])), (1, (.cells [(.d (.int .u64 a0.fOffset)), (.d (.int .u64 a0.fProducer)), (.d (.int .u64 a0.fSeq)), (.d (.int .i64 a0.fVersion)), (.win (List.map byteD r32) (((0 : Int)).toNat + a0.fData.length))])), (0, (.cells [(.d (.int .u64 a0.fOffset)), (.d (.int .u64 a0.fProducer)), (.d (.int .u64 a0.fSeq)), (.d (.int .i64 a0.fVersion)), (.d (.sl (List.map byteD a0.fData)))]))]) (c' := 3) rfl rfl trivial rfl rfl rfl rfl rfl rfl ?_
      refine RegV.evN (own := false) (H' := [(2, (.cells [(.d (.int .u64 r54.2.1)), (.d (.int .u64 r54.2.2.1)), (.d (.int .u64 r54.2.2.2.1)), (.d (.int .i64 r54.2.2.2.2.1)), (.d (.sl (List.map byteD r54.2.2.2.2.2)))])), (1, (.cells [(.d (.int .u64 a0.fOffset)), (.d (.int .u64 a0.fProducer)), (.d (.int .u64 a0.fSeq)), (.d (.int .i64 a0.fVersion)), (.win (List.map byteD r32) (((0 : Int)).toNat + a0.fData.length))])), (0, (.cells [(.d (.int .u64 a0.fOffset)), (.d (.int .u64 a0.fProducer)), (.d (.int .u64 a0.fSeq)), (.d (.int .i64 a0.fVersion)), (.d (.sl (List.map byteD a0.fData)))]))]) (c' := 3) rfl rfl (by exact ⟨rfl, Nat.le_of_ble_eq_true rfl, rfl⟩) rfl rfl rfl rfl ?_
      refine RegV.p0 rfl rfl rfl ?_
      refine RegV.nil0 ?_
      refine AWc.seq ?_
      refine AWc.rg hmix rfl rfl ?_
      refine RegV.p0 rfl rfl rfl ?_
      refine RegV.p0 rfl rfl rfl ?_
      obtain ⟨r66, e66, h⟩ := bind_some h
      refine RegV.call0 (F53 hmix hc.2.2.2.2.1 e66) rfl rfl rfl rfl (.cons (.refl _) (.cons (.refl _) .nil)) rfl ?_
      refine RegV.p0 rfl rfl rfl ?_
      refine RegV.p0 rfl rfl rfl ?_
      refine RegV.p0 rfl rfl rfl ?_
      refine RegV.evS (own := false) (v := (.ptr 3 0)) (H' := [(3, (.cells [(.d (.int .u64 (0 : Int))), (.d (.int .u64 (0 : Int))), (.d (.int .u64 (0 : Int))), (.d (.int .i64 (0 : Int))), .nils])), (2, (.cells [(.d (.int .u64 r54.2.1)), (.d (.int .u64 r54.2.2.1)), (.d (.int .u64 r54.2.2.2.1)), (.d (.int .i64 r54.2.2.2.2.1)), (.d (.sl (List.map byteD r54.2.2.2.2.2)))])), (1, (.cells [(.d (.int .u64 a0.fOffset)), (.d (.int .u64 a0.fProducer)), (.d (.int .u64 a0.fSeq)), (.d (.int .i64 a0.fVersion)), (.win (List.map byteD r32) (((0 : Int)).toNat + a0.fData.length))])), (0, (.cells [(.d (.int .u64 a0.fOffset)), (.d (.int .u64 a0.fProducer)), (.d (.int .u64 a0.fSeq)), (.d (.int .i64 a0.fVersion)), (.d (.sl (List.map byteD a0.fData)))]))]) (c' := 4) rfl rfl trivial rfl rfl rfl rfl rfl rfl ?_
      refine RegV.evN (own := false) (H' := [(3, (.cells [(.d (.int .u64 r66.2.1)), (.d (.int .u64 r66.2.2.1)), (.d (.int .u64 r66.2.2.2.1)), (.d (.int .i64 r66.2.2.2.2.1)), (.d (.sl (List.map byteD r66.2.2.2.2.2)))])), (2, (.cells [(.d (.int .u64 r54.2.1)), (.d (.int .u64 r54.2.2.1)), (.d (.int .u64 r54.2.2.2.1)), (.d (.int .i64 r54.2.2.2.2.1)), (.d (.sl (List.map byteD r54.2.2.2.2.2)))])), (1, (.cells [(.d (.int .u64 a0.fOffset)), (.d (.int .u64 a0.fProducer)), (.d (.int .u64 a0.fSeq)), (.d (.int .i64 a0.fVersion)), (.win (List.map byteD r32) (((0 : Int)).toNat + a0.fData.length))])), (0, (.cells [(.d (.int .u64 a0.fOffset)), (.d (.int .u64 a0.fProducer)), (.d (.int .u64 a0.fSeq)), (.d (.int .i64 a0.fVersion)), (.d (.sl (List.map byteD a0.fData)))]))]) (c' := 4) rfl rfl (by exact ⟨rfl, Nat.le_of_ble_eq_true rfl, rfl⟩) rfl rfl rfl rfl ?_
      refine RegV.p0 rfl rfl rfl ?_
      refine RegV.nil0 ?_
      refine AWc.seq ?_
      refine AWc.rg hmix rfl rfl ?_
      obtain ⟨r76, e76, h⟩ := bind_some h
      refine RegV.call0 (F33 hmix hc.2.1 e76) rfl rfl rfl rfl .nil rfl ?_
      refine RegV.p0 rfl rfl rfl ?_
      refine RegV.split (fun c77 => ?_) (fun c77 => ?_)
      · have h := cond_pos c77 h
        refine RegV.ld (v := (.d (.agg [(.int .u64 a0.fOffset), (.int .u64 a0.fProducer), (.int .u64 a0.fSeq), (.int .i64 a0.fVersion), (.sl (List.take (((0 : Int)).toNat + a0.fData.length) (List.map byteD r32)))]))) (v' := (.d (.agg [(.int .u64 a0.fOffset), (.int .u64 a0.fProducer), (.int .u64 a0.fSeq), (.int .i64 a0.fVersion), (.sl (List.map byteD (List.take (((0 : Int)).toNat + a0.fData.length) r32)))]))) (H' := [(1, (.cells [(.d (.int .u64 a0.fOffset)), (.d (.int .u64 a0.fProducer)), (.d (.int .u64 a0.fSeq)), (.d (.int .i64 a0.fVersion)), (.win (List.map byteD r32) (((0 : Int)).toNat + a0.fData.length))])), (3, (.cells [(.d (.int .u64 r66.2.1)), (.d (.int .u64 r66.2.2.1)), (.d (.int .u64 r66.2.2.2.1)), (.d (.int .i64 r66.2.2.2.2.1)), (.d (.sl (List.map byteD r66.2.2.2.2.2)))])), (2, (.cells [(.d (.int .u64 r54.2.1)), (.d (.int .u64 r54.2.2.1)), (.d (.int .u64 r54.2.2.2.1)), (.d (.int .i64 r54.2.2.2.2.1)), (.d (.sl (List.map byteD r54.2.2.2.2.2)))])), (0, (.cells [(.d (.int .u64 a0.fOffset)), (.d (.int .u64 a0.fProducer)), (.d (.int .u64 a0.fSeq)), (.d (.int .i64 a0.fVersion)), (.d (.sl (List.map byteD a0.fData)))]))]) rfl rfl (Nat.le_of_ble_eq_true rfl) rfl (by simp only [List.map_take]) rfl rfl rfl ?_
        obtain ⟨r79, e79, h⟩ := bind_some h
        refine RegV.callS (q := false) (H' := [(4, (.tok ((List.map byteD r79).length * 1))), (1, (.cells [(.d (.int .u64 a0.fOffset)), (.d (.int .u64 a0.fProducer)), (.d (.int .u64 a0.fSeq)), (.d (.int .i64 a0.fVersion)), (.win (List.map byteD r32) (((0 : Int)).toNat + a0.fData.length))])), (3, (.cells [(.d (.int .u64 r66.2.1)), (.d (.int .u64 r66.2.2.1)), (.d (.int .u64 r66.2.2.2.1)), (.d (.int .i64 r66.2.2.2.2.1)), (.d (.sl (List.map byteD r66.2.2.2.2.2)))])), (2, (.cells [(.d (.int .u64 r54.2.1)), (.d (.int .u64 r54.2.2.1)), (.d (.int .u64 r54.2.2.2.1)), (.d (.int .i64 r54.2.2.2.2.1)), (.d (.sl (List.map byteD r54.2.2.2.2.2)))])), (0, (.cells [(.d (.int .u64 a0.fOffset)), (.d (.int .u64 a0.fProducer)), (.d (.int .u64 a0.fSeq)), (.d (.int .i64 a0.fVersion)), (.d (.sl (List.map byteD a0.fData)))]))]) (c' := 5) (show ACalls P (N 54) [(.d (TMessage.enc (TMessage.mk a0.fOffset a0.fProducer a0.fSeq a0.fVersion (List.take (((0 : Int)).toNat + a0.fData.length) r32))))] [] (.ap 4 1 (List.map byteD r79)) [(4, (.tok ((List.map byteD r79).length * 1)))] from ACalls.use (F54 hmix hc.2.2.2.2.2.1 e79) [(0, 4)] 1 rfl) rfl rfl rfl rfl (.cons (.refl _) .nil) (.refl _) (fun h => by cases h) rfl hasNil rfl rfl rfl rfl ?_
        refine RegV.ld (v := (.d (.agg [(.int .u64 a0.fOffset), (.int .u64 a0.fProducer), (.int .u64 a0.fSeq), (.int .i64 a0.fVersion), (.sl (List.map byteD a0.fData))]))) (H' := [(0, (.cells [(.d (.int .u64 a0.fOffset)), (.d (.int .u64 a0.fProducer)), (.d (.int .u64 a0.fSeq)), (.d (.int .i64 a0.fVersion)), (.d (.sl (List.map byteD a0.fData)))])), (4, (.tok ((List.map byteD r79).length * 1))), (1, (.cells [(.d (.int .u64 a0.fOffset)), (.d (.int .u64 a0.fProducer)), (.d (.int .u64 a0.fSeq)), (.d (.int .i64 a0.fVersion)), (.win (List.map byteD r32) (((0 : Int)).toNat + a0.fData.length))])), (3, (.cells [(.d (.int .u64 r66.2.1)), (.d (.int .u64 r66.2.2.1)), (.d (.int .u64 r66.2.2.2.1)), (.d (.int .i64 r66.2.2.2.2.1)), (.d (.sl (List.map byteD r66.2.2.2.2.2)))])), (2, (.cells [(.d (.int .u64 r54.2.1)), (.d (.int .u64 r54.2.2.1)), (.d (.int .u64 r54.2.2.2.1)), (.d (.int .i64 r54.2.2.2.2.1)), (.d (.sl (List.map byteD r54.2.2.2.2.2)))]))]) rfl rfl (Nat.le_of_ble_eq_true rfl) rfl rfl rfl rfl rfl ?_
        obtain ⟨r81, e81, h⟩ := bind_some h
        refine RegV.callS (q := false) (H' := [(5, (.tok ((List.map byteD r81).length * 1))), (0, (.cells [(.d (.int .u64 a0.fOffset)), (.d (.int .u64 a0.fProducer)), (.d (.int .u64 a0.fSeq)), (.d (.int .i64 a0.fVersion)), (.d (.sl (List.map byteD a0.fData)))])), (4, (.tok ((List.map byteD r79).length * 1))), (1, (.cells [(.d (.int .u64 a0.fOffset)), (.d (.int .u64 a0.fProducer)), (.d (.int .u64 a0.fSeq)), (.d (.int .i64 a0.fVersion)), (.win (List.map byteD r32) (((0 : Int)).toNat + a0.fData.length))])), (3, (.cells [(.d (.int .u64 r66.2.1)), (.d (.int .u64 r66.2.2.1)), (.d (.int .u64 r66.2.2.2.1)), (.d (.int .i64 r66.2.2.2.2.1)), (.d (.sl (List.map byteD r66.2.2.2.2.2)))])), (2, (.cells [(.d (.int .u64 r54.2.1)), (.d (.int .u64 r54.2.2.1)), (.d (.int .u64 r54.2.2.2.1)), (.d (.int .i64 r54.2.2.2.2.1)), (.d (.sl (List.map byteD r54.2.2.2.2.2)))]))]) (c' := 6) (show ACalls P (N 55) [(.d (TMessage.enc (TMessage.mk a0.fOffset a0.fProducer a0.fSeq a0.fVersion a0.fData)))] [] (.ap 5 1 (List.map byteD r81)) [(5, (.tok ((List.map byteD r81).length * 1)))] from ACalls.use (F55 hmix hc.2.2.2.2.2.2.1 e81) [(0, 5)] 1 rfl) rfl rfl rfl rfl (.cons (.refl _) .nil) (.refl _) (fun h => by cases h) rfl hasNil rfl rfl rfl rfl ?_
        obtain ⟨r82, e82, h⟩ := bind_some h
        refine RegV.call0 (F22 hmix hc.2.2.2.2.2.2.2.1 e82) rfl rfl rfl rfl (.cons (.sl rfl) (.cons (.sl rfl) .nil)) rfl ?_
        refine RegV.p0 rfl rfl rfl ?_
        refine RegV.p0 rfl rfl rfl ?_
        refine RegV.split (fun c84 => ?_) (fun c84 => ?_)
        · have h := cond_pos c84 h
          refine RegV.ld (v := (.d (.agg [(.int .u64 r54.2.1), (.int .u64 r54.2.2.1), (.int .u64 r54.2.2.2.1), (.int .i64 r54.2.2.2.2.1), (.sl (List.map byteD r54.2.2.2.2.2))]))) (H' := [(2, (.cells [(.d (.int .u64 r54.2.1)), (.d (.int .u64 r54.2.2.1)), (.d (.int .u64 r54.2.2.2.1)), (.d (.int .i64 r54.2.2.2.2.1)), (.d (.sl (List.map byteD r54.2.2.2.2.2)))])), (5, (.tok ((List.map byteD r81).length * 1))), (0, (.cells [(.d (.int .u64 a0.fOffset)), (.d (.int .u64 a0.fProducer)), (.d (.int .u64 a0.fSeq)), (.d (.int .i64 a0.fVersion)), (.d (.sl (List.map byteD a0.fData)))])), (4, (.tok ((List.map byteD r79).length * 1))), (1, (.cells [(.d (.int .u64 a0.fOffset)), (.d (.int .u64 a0.fProducer)), (.d (.int .u64 a0.fSeq)), (.d (.int .i64 a0.fVersion)), (.win (List.map byteD r32) (((0 : Int)).toNat + a0.fData.length))])), (3, (.cells [(.d (.int .u64 r66.2.1)), (.d (.int .u64 r66.2.2.1)), (.d (.int .u64 r66.2.2.2.1)), (.d (.int .i64 r66.2.2.2.2.1)), (.d (.sl (List.map byteD r66.2.2.2.2.2)))]))]) rfl rfl (Nat.le_of_ble_eq_true rfl) rfl rfl rfl rfl rfl ?_
          refine RegV.ld (v := (.d (.agg [(.int .u64 r66.2.1), (.int .u64 r66.2.2.1), (.int .u64 r66.2.2.2.1), (.int .i64 r66.2.2.2.2.1), (.sl (List.map byteD r66.2.2.2.2.2))]))) (H' := [(3, (.cells [(.d (.int .u64 r66.2.1)), (.d (.int .u64 r66.2.2.1)), (.d (.int .u64 r66.2.2.2.1)), (.d (.int .i64 r66.2.2.2.2.1)), (.d (.sl (List.map byteD r66.2.2.2.2.2)))])), (2, (.cells [(.d (.int .u64 r54.2.1)), (.d (.int .u64 r54.2.2.1)), (.d (.int .u64 r54.2.2.2.1)), (.d (.int .i64 r54.2.2.2.2.1)), (.d (.sl (List.map byteD r54.2.2.2.2.2)))])), (5, (.tok ((List.map byteD r81).length * 1))), (0, (.cells [(.d (.int .u64 a0.fOffset)), (.d (.int .u64 a0.fProducer)), (.d (.int .u64 a0.fSeq)), (.d (.int .i64 a0.fVersion)), (.d (.sl (List.map byteD a0.fData)))])), (4, (.tok ((List.map byteD r79).length * 1))), (1, (.cells [(.d (.int .u64 a0.fOffset)), (.d (.int .u64 a0.fProducer)), (.d (.int .u64 a0.fSeq)), (.d (.int .i64 a0.fVersion)), (.win (List.map byteD r32) (((0 : Int)).toNat + a0.fData.length))]))]) rfl rfl (Nat.le_of_ble_eq_true rfl) rfl rfl rfl rfl rfl ?_
          obtain ⟨r87, e87, h⟩ := bind_some h
          refine RegV.call0 (F38 hmix hc.2.2.2.2.2.2.2.2.1 e87) rfl rfl rfl rfl (.cons (.refl _) (.cons (.refl _) .nil)) rfl ?_
          refine RegV.p0 rfl rfl rfl ?_
          refine RegV.p0 rfl rfl rfl ?_
          refine RegV.split (fun c89 => ?_) (fun c89 => ?_)
          · have h := cond_pos c89 h
            refine RegV.p0 rfl rfl rfl ?_
            refine RegV.p0 rfl rfl rfl ?_
            refine RegV.p0 (v := (.d (.bool (decide (r54.1 = r66.1))))) rfl rfl rfl ?_
            refine RegV.p0 rfl rfl rfl ?_
            refine RegV.p0 rfl rfl rfl ?_
            refine RegV.split (fun c94 => ?_) (fun c94 => ?_)
            · have h := cond_pos c94 h
              refine RegV.p0 rfl rfl rfl ?_
              refine RegV.p0 (v := (.ptr 0 4)) rfl rfl rfl ?_
              refine RegV.ld (v := (.d (.sl (List.map byteD a0.fData)))) (H' := [(0, (.cells [(.d (.int .u64 a0.fOffset)), (.d (.int .u64 a0.fProducer)), (.d (.int .u64 a0.fSeq)), (.d (.int .i64 a0.fVersion)), (.d (.sl (List.map byteD a0.fData)))])), (3, (.cells [(.d (.int .u64 r66.2.1)), (.d (.int .u64 r66.2.2.1)), (.d (.int .u64 r66.2.2.2.1)), (.d (.int .i64 r66.2.2.2.2.1)), (.d (.sl (List.map byteD r66.2.2.2.2.2)))])), (2, (.cells [(.d (.int .u64 r54.2.1)), (.d (.int .u64 r54.2.2.1)), (.d (.int .u64 r54.2.2.2.1)), (.d (.int .i64 r54.2.2.2.2.1)), (.d (.sl (List.map byteD r54.2.2.2.2.2)))])), (5, (.tok ((List.map byteD r81).length * 1))), (4, (.tok ((List.map byteD r79).length * 1))), (1, (.cells [(.d (.int .u64 a0.fOffset)), (.d (.int .u64 a0.fProducer)), (.d (.int .u64 a0.fSeq)), (.d (.int .i64 a0.fVersion)), (.win (List.map byteD r32) (((0 : Int)).toNat + a0.fData.length))]))]) rfl rfl trivial rfl rfl rfl rfl rfl ?_
              obtain ⟨r98, e98, h⟩ := bind_some h
              refine RegV.call0 (F29 hmix hc.2.2.2.2.2.2.2.2.2 e98) rfl rfl rfl rfl (.cons (.refl _) (.cons (.refl _) (.cons (.refl _) .nil))) rfl ?_
              refine RegV.p0 rfl rfl rfl ?_
              refine RegV.p0 rfl rfl rfl ?_
              refine RegV.split (fun c100 => ?_) (fun c100 => ?_)
              · have h := cond_pos c100 h
                refine RegV.p0 rfl rfl rfl ?_
                refine RegV.p0 rfl rfl rfl ?_
                obtain ⟨r103, e103, h⟩ := bind_some h
                refine RegV.call0 (F29 hmix hc.2.2.2.2.2.2.2.2.2 e103) rfl rfl rfl rfl (.cons (.refl _) (.cons (.refl _) (.cons (.refl _) .nil))) rfl ?_
                refine RegV.p0 rfl rfl rfl ?_
                refine RegV.p0 rfl rfl rfl ?_
                refine RegV.nil1 (by kernel_rfl) ?_
                have hr := Option.some.inj h
                subst hr
                exact AWc.ret (canQ (N := 73) (k := 0) (l' := [(6, (.d (.bool r103)))]) (H' := []) rfl ⟨rfl, [], [], rfl, rfl, ⟨⟨_, rfl, (.refl _)⟩, rfl, trivial⟩,  trivial⟩ (doneA (.inr rfl) rfl ⟨trivial, trivial⟩ (.refl _) hasNil))
              · have h := cond_neg c100 h
                refine RegV.noS rfl rfl ?_
                refine RegV.noS rfl rfl ?_
                refine RegV.noS rfl rfl ?_
                refine RegV.p0 rfl rfl rfl ?_
                refine RegV.p0 rfl rfl rfl ?_
                refine RegV.nil1 (by kernel_rfl) ?_
                have hr := Option.some.inj h
                subst hr
                exact AWc.ret (canQ (N := 73) (k := 0) (l' := [(6, (.d (.bool false)))]) (H' := []) rfl ⟨rfl, [], [], rfl, rfl, ⟨⟨_, rfl, (.refl _)⟩, rfl, trivial⟩,  trivial⟩ (doneA (.inr rfl) rfl ⟨trivial, trivial⟩ (.refl _) hasNil))
            · have h := cond_neg c94 h
              refine RegV.noS rfl rfl ?_
              refine RegV.noS rfl rfl ?_
              refine RegV.noS rfl rfl ?_
              refine RegV.noS rfl rfl ?_
              refine RegV.p0 rfl rfl rfl ?_
              refine RegV.p0 rfl rfl rfl ?_
              refine RegV.noS rfl rfl ?_
              refine RegV.noS rfl rfl ?_
              refine RegV.noS rfl rfl ?_
              refine RegV.p0 rfl rfl rfl ?_
              refine RegV.p0 rfl rfl rfl ?_
              refine RegV.nil1 (by kernel_rfl) ?_
              have hr := Option.some.inj h
              subst hr
              exact AWc.ret (canQ (N := 73) (k := 0) (l' := [(6, (.d (.bool false)))]) (H' := []) rfl ⟨rfl, [], [], rfl, rfl, ⟨⟨_, rfl, (.refl _)⟩, rfl, trivial⟩,  trivial⟩ (doneA (.inr rfl) rfl ⟨trivial, trivial⟩ (.refl _) hasNil))
          · have h := cond_neg c89 h
            refine RegV.noS rfl rfl ?_
            refine RegV.noS rfl rfl ?_
            refine RegV.noS rfl rfl ?_
            refine RegV.p0 rfl rfl rfl ?_
            refine RegV.p0 rfl rfl rfl ?_
            refine RegV.noS rfl rfl ?_
            refine RegV.noS rfl rfl ?_
            refine RegV.noS rfl rfl ?_
            refine RegV.noS rfl rfl ?_
            refine RegV.p0 rfl rfl rfl ?_
            refine RegV.p0 rfl rfl rfl ?_
            refine RegV.noS rfl rfl ?_
            refine RegV.noS rfl rfl ?_
            refine RegV.noS rfl rfl ?_
            refine RegV.p0 rfl rfl rfl ?_
            refine RegV.p0 rfl rfl rfl ?_
            refine RegV.nil1 (by kernel_rfl) ?_
            have hr := Option.some.inj h
            subst hr
            exact AWc.ret (canQ (N := 73) (k := 0) (l' := [(6, (.d (.bool false)))]) (H' := []) rfl ⟨rfl, [], [], rfl, rfl, ⟨⟨_, rfl, (.refl _)⟩, rfl, trivial⟩,  trivial⟩ (doneA (.inr rfl) rfl ⟨trivial, trivial⟩ (.refl _) hasNil))
        · have h := cond_neg c84 h
          refine RegV.noS rfl rfl ?_
          refine RegV.noS rfl rfl ?_
          refine RegV.noS rfl rfl ?_
          refine RegV.p0 rfl rfl rfl ?_
          refine RegV.p0 rfl rfl rfl ?_
          refine RegV.noS rfl rfl ?_
          refine RegV.noS rfl rfl ?_
          refine RegV.noS rfl rfl ?_
          refine RegV.p0 rfl rfl rfl ?_
          refine RegV.p0 rfl rfl rfl ?_
          refine RegV.noS rfl rfl ?_
          refine RegV.noS rfl rfl ?_
          refine RegV.noS rfl rfl ?_
          refine RegV.noS rfl rfl ?_
          refine RegV.p0 rfl rfl rfl ?_
          refine RegV.p0 rfl rfl rfl ?_
          refine RegV.noS rfl rfl ?_
          refine RegV.noS rfl rfl ?_
          refine RegV.noS rfl rfl ?_
          refine RegV.p0 rfl rfl rfl ?_
          refine RegV.p0 rfl rfl rfl ?_
          refine RegV.nil1 (by kernel_rfl) ?_
          have hr := Option.some.inj h
          subst hr
          exact AWc.ret (canQ (N := 73) (k := 0) (l' := [(6, (.d (.bool false)))]) (H' := []) rfl ⟨rfl, [], [], rfl, rfl, ⟨⟨_, rfl, (.refl _)⟩, rfl, trivial⟩,  trivial⟩ (doneA (.inr rfl) rfl ⟨trivial, trivial⟩ (.refl _) hasNil))
      · have h := cond_neg c77 h
        refine RegV.noS rfl rfl ?_
        refine RegV.noS rfl rfl ?_
        refine RegV.noS rfl rfl ?_
        refine RegV.noS rfl rfl ?_
        refine RegV.noS rfl rfl ?_
        refine RegV.p0 rfl rfl rfl ?_
        refine RegV.p0 rfl rfl rfl ?_
        refine RegV.noS rfl rfl ?_
        refine RegV.noS rfl rfl ?_
        refine RegV.noS rfl rfl ?_
        refine RegV.p0 rfl rfl rfl ?_
        refine RegV.p0 rfl rfl rfl ?_
        refine RegV.noS rfl rfl ?_
        refine RegV.noS rfl rfl ?_
        refine RegV.noS rfl rfl ?_
        refine RegV.p0 rfl rfl rfl ?_
        refine RegV.p0 rfl rfl rfl ?_
        refine RegV.noS rfl rfl ?_
        refine RegV.noS rfl rfl ?_
        refine RegV.noS rfl rfl ?_
        refine RegV.noS rfl rfl ?_
        refine RegV.p0 rfl rfl rfl ?_
        refine RegV.p0 rfl rfl rfl ?_
        refine RegV.noS rfl rfl ?_
        refine RegV.noS rfl rfl ?_
        refine RegV.noS rfl rfl ?_
        refine RegV.p0 rfl rfl rfl ?_
        refine RegV.p0 rfl rfl rfl ?_
        refine RegV.nil1 (by kernel_rfl) ?_
        have hr := Option.some.inj h
        subst hr
        exact AWc.ret (canQ (N := 73) (k := 0) (l' := [(6, (.d (.bool false)))]) (H' := []) rfl ⟨rfl, [], [], rfl, rfl, ⟨⟨_, rfl, (.refl _)⟩, rfl, trivial⟩,  trivial⟩ (doneA (.inr rfl) rfl ⟨trivial, trivial⟩ (.refl _) hasNil))
/-- courant/courantlaw24.BatchBack -/
def C12 (N : Nat → Nat) : AFunc := { n := 28, params := 1, res := [.tmp 2], body :=
 (.seq (.region false [⟨(some 1), .box (.t 0), none, []⟩,
   ⟨(some 2), .mv (.k (.d (.bool false))), none, []⟩])
  (.seq (.seq (.region false [⟨(some 5), .faddr (.t 1) 4, none, []⟩,
     ⟨(some 6), .load (.t 5) 1 false, none, [0]⟩,
     ⟨(some 7), .len (.t 6), none, [1]⟩,
     ⟨(some 8), .bin .gtr (.t 7) (.k (.d (.int .i64 4096))), none, [2]⟩])
    (.cond (.t 8) (.seq (.region false [⟨(some 9), .call (.k (.d (.fn (N 33)))) [], none, []⟩,
       ⟨(some 2), .mv (.t 9), none, [0]⟩])
      .ret)
     (.skip)))
   (.seq (.region true [⟨(some 11), .faddr (.t 1) 0, none, []⟩,
     ⟨(some 12), .load (.t 11) 1 false, none, [0]⟩,
     ⟨(some 13), .load (.t 1) 5 true, none, []⟩,
     ⟨(some 14), .call (.k (.d (.fn (N 54)))) [(.t 13)], none, [2]⟩,
     ⟨(some 15), .call (.k (.d (.fn (N 52)))) [(.t 12), (.t 14)], none, [1, 3]⟩,
     ⟨(some 10), .mv (.t 15), none, [4]⟩,
     ⟨(some 16), .ext (.t 10) 0, none, [5]⟩,
     ⟨(some 17), .ext (.t 10) 1, none, [5]⟩,
     ⟨(some 3), .alloc [(.int .u64 0), (.int .u64 0), (.int .u64 0), (.int .i64 0), (.sl [])], none, []⟩,
     ⟨none, .store (.t 3) (.t 16) 5, none, [8, 6, 4, 0, 1, 2, 3, 5]⟩,
     ⟨(some 4), .mv (.t 17), none, [7, 9, 0, 1, 2, 3, 4, 5, 6, 8]⟩])
    (.seq (.region false [⟨(some 18), .call (.k (.d (.fn (N 33)))) [], none, []⟩,
      ⟨(some 19), .mv (.t 18), none, [0]⟩,
      ⟨(some 20), .mv (.t 4), (some (19, true)), [1]⟩,
      ⟨(some 21), .bin .eql (.t 20) (.k (.d (.int .i64 0))), (some (19, true)), [2, 1]⟩,
      ⟨(some 22), .pick (.t 19) (.t 21) (.k (.d (.bool false))), none, [1, 3]⟩,
      ⟨(some 23), .mv (.t 22), none, [4, 1]⟩,
      ⟨(some 24), .load (.t 3) 5 true, (some (23, true)), [5]⟩,
      ⟨(some 25), .load (.t 1) 5 true, (some (23, true)), [5]⟩,
      ⟨(some 26), .call (.k (.d (.fn (N 38)))) [(.t 24), (.t 25)], (some (23, true)), [6, 7, 5]⟩,
      ⟨(some 27), .pick (.t 23) (.t 26) (.k (.d (.bool false))), none, [5, 8]⟩,
      ⟨(some 2), .mv (.t 27), none, [9, 8, 0, 1, 2, 3, 4, 5, 6, 7]⟩])
     .ret)))) }
def HC12 (P : Program) (N : Nat → Nat) : Prop := HasF P (N 12) (C12 N) ∧ HC33 P N ∧ HC54 P N ∧ HC52 P N ∧ HC38 P N
def f12 (k : Nat) (a0 : TMessage) : Option Bool := cond (decide (((a0.fData.length : Nat) : Int) > (4096 : Int))) ((f33 k).bind fun r18 => some r18) ((f54 k (TMessage.mk a0.fOffset a0.fProducer a0.fSeq a0.fVersion a0.fData)).bind fun r28 => (f52 k a0.fOffset r28).bind fun r29 => (f33 k).bind fun r39 => cond r39 (cond (decide (r29.1 = (0 : Int))) ((f38 k (TMessage.mk r29.2.1 r29.2.2.1 r29.2.2.2.1 r29.2.2.2.2.1 r29.2.2.2.2.2) (TMessage.mk a0.fOffset a0.fProducer a0.fSeq a0.fVersion a0.fData)).bind fun r47 => some r47) (some false)) (some false))
theorem F12 {P : Program} {N : Nat → Nat} (hmix : P.follows .mixedOrders = true) (hc : HC12 P N) {k : Nat} {a0 : TMessage} {r : Bool} (h : f12 k a0 = some r) :
    ACalls P (N 12) [(.d (TMessage.enc a0))] [] (.d (.bool r)) [] := by
  refine acalls_canon (F := C12 N) hc.1 0 0 rfl ?_
  unfold f12 at h
  dsimp only [C12, startL]
  refine AWc.seq ?_
  refine AWc.rg hmix rfl rfl ?_
  refine RegV.evS (own := false) (v := (.ptr 0 0)) (H' := [(0, (.cells [(.d (.int .u64 a0.fOffset)), (.d (.int .u64 a0.fProducer)), (.d (.int .u64 a0.fSeq)), (.d (.int .i64 a0.fVersion)), (.d (.sl (List.map byteD a0.fData)))]))]) (c' := 1) rfl rfl trivial rfl rfl rfl rfl rfl rfl ?_
  refine RegV.p0 rfl rfl rfl ?_
  refine RegV.nil0 ?_
  refine AWc.seq ?_
  refine AWc.seq ?_
  refine AWc.rg hmix rfl rfl ?_
  refine RegV.p0 (v := (.ptr 0 4)) rfl rfl rfl ?_
  refine RegV.ld (v := (.d (.sl (List.map byteD a0.fData)))) (H' := [(0, (.cells [(.d (.int .u64 a0.fOffset)), (.d (.int .u64 a0.fProducer)), (.d (.int .u64 a0.fSeq)), (.d (.int .i64 a0.fVersion)), (.d (.sl (List.map byteD a0.fData)))]))]) rfl rfl trivial rfl rfl rfl rfl rfl ?_
  refine RegV.len (xs := a0.fData) (e := byteD) rfl rfl rfl rfl ?_
  refine RegV.p0 (v := (.d (.bool (decide (((a0.fData.length : Nat) : Int) > (4096 : Int)))))) rfl rfl rfl ?_
  refine RegV.nil0 ?_
  refine AWc.cond rfl (fun c14 => ?_) (fun c14 => ?_)
  · have h := cond_pos c14 h
    refine AWc.seq ?_
    refine AWc.rg hmix rfl rfl ?_
    obtain ⟨r18, e18, h⟩ := bind_some h
    refine RegV.call0 (F33 hmix hc.2.1 e18) rfl rfl rfl rfl .nil rfl ?_
    refine RegV.p0 rfl rfl rfl ?_
    refine RegV.nil0 ?_
    have hr := Option.some.inj h
    subst hr
    exact AWc.ret (canQ (N := 28) (k := 0) (l' := [(2, (.d (.bool r18)))]) (H' := []) rfl ⟨rfl, [], [], rfl, rfl, ⟨⟨_, rfl, (.refl _)⟩, rfl, trivial⟩,  trivial⟩ (doneA (.inr rfl) rfl ⟨trivial, trivial⟩ (.refl _) hasNil))
  · have h := cond_neg c14 h
    refine AWc.skip ?_
    refine AWc.seq ?_
    refine AWc.rg hmix rfl rfl ?_
    refine RegV.p0 (v := (.ptr 0 0)) rfl rfl rfl ?_
    refine RegV.ld (v := (.d (.int .u64 a0.fOffset))) (H' := [(0, (.cells [(.d (.int .u64 a0.fOffset)), (.d (.int .u64 a0.fProducer)), (.d (.int .u64 a0.fSeq)), (.d (.int .i64 a0.fVersion)), (.d (.sl (List.map byteD a0.fData)))]))]) rfl rfl trivial rfl rfl rfl rfl rfl ?_
    refine RegV.ld (v := (.d (.agg [(.int .u64 a0.fOffset), (.int .u64 a0.fProducer), (.int .u64 a0.fSeq), (.int .i64 a0.fVersion), (.sl (List.map byteD a0.fData))]))) (H' := [(0, (.cells [(.d (.int .u64 a0.fOffset)), (.d (.int .u64 a0.fProducer)), (.d (.int .u64 a0.fSeq)), (.d (.int .i64 a0.fVersion)), (.d (.sl (List.map byteD a0.fData)))]))]) rfl rfl (Nat.le_of_ble_eq_true rfl) rfl rfl rfl rfl rfl ?_
    obtain ⟨r28, e28, h⟩ := bind_some h
    refine RegV.callS (q := false) (H' := [(1, (.tok ((List.map byteD r28).length * 1))), (0, (.cells [(.d (.int .u64 a0.fOffset)), (.d (.int .u64 a0.fProducer)), (.d (.int .u64 a0.fSeq)), (.d (.int .i64 a0.fVersion)), (.d (.sl (List.map byteD a0.fData)))]))]) (c' := 2) (show ACalls P (N 54) [(.d (TMessage.enc (TMessage.mk a0.fOffset a0.fProducer a0.fSeq a0.fVersion a0.fData)))] [] (.ap 1 1 (List.map byteD r28)) [(1, (.tok ((List.map byteD r28).length * 1)))] from ACalls.use (F54 hmix hc.2.2.1 e28) [(0, 1)] 1 rfl) rfl rfl rfl rfl (.cons (.refl _) .nil) (.refl _) (fun h => by cases h) rfl hasNil rfl rfl rfl rfl ?_
    obtain ⟨r29, e29, h⟩ := bind_some h
    refine RegV.call0 (F52 hmix hc.2.2.2.1 e29) rfl rfl rfl rfl (.cons (.refl _) (.cons (.sl rfl) .nil)) rfl ?_
    refine RegV.p0 rfl rfl rfl ?_
    refine RegV.p0 rfl rfl rfl ?_
    refine RegV.p0 rfl rfl rfl ?_
    refine RegV.evS (own := false) (v := (.ptr 2 0)) (H' := [(2, (.cells [(.d (.int .u64 (0 : Int))), (.d (.int .u64 (0 : Int))), (.d (.int .u64 (0 : Int))), (.d (.int .i64 (0 : Int))), .nils])), (1, (.tok ((List.map byteD r28).length * 1))), (0, (.cells [(.d (.int .u64 a0.fOffset)), (.d (.int .u64 a0.fProducer)), (.d (.int .u64 a0.fSeq)), (.d (.int .i64 a0.fVersion)), (.d (.sl (List.map byteD a0.fData)))]))]) (c' := 3) rfl rfl trivial rfl rfl rfl rfl rfl rfl ?_
    refine RegV.evN (own := false) (H' := [(2, (.cells [(.d (.int .u64 r29.2.1)), (.d (.int .u64 r29.2.2.1)), (.d (.int .u64 r29.2.2.2.1)), (.d (.int .i64 r29.2.2.2.2.1)), (.d (.sl (List.map byteD r29.2.2.2.2.2)))])), (1, (.tok ((List.map byteD r28).length * 1))), (0, (.cells [(.d (.int .u64 a0.fOffset)), (.d (.int .u64 a0.fProducer)), (.d (.int .u64 a0.fSeq)), (.d (.int .i64 a0.fVersion)), (.d (.sl (List.map byteD a0.fData)))]))]) (c' := 3) rfl rfl (by exact ⟨rfl, Nat.le_of_ble_eq_true rfl, rfl⟩) rfl rfl rfl rfl ?_
    refine RegV.p0 rfl rfl rfl ?_
    refine RegV.nil1 (by kernel_rfl) ?_
    refine AWc.seq ?_
    refine AWc.rg hmix rfl rfl ?_
    obtain ⟨r39, e39, h⟩ := bind_some h
    refine RegV.call0 (F33 hmix hc.2.1 e39) rfl rfl rfl rfl .nil rfl ?_
    refine RegV.p0 rfl rfl rfl ?_
    refine RegV.split (fun c40 => ?_) (fun c40 => ?_)
    · have h := cond_pos c40 h
      refine RegV.p0 rfl rfl rfl ?_
      refine RegV.p0 (v := (.d (.bool (decide (r29.1 = (0 : Int)))))) rfl rfl rfl ?_
      refine RegV.p0 rfl rfl rfl ?_
      refine RegV.p0 rfl rfl rfl ?_
      refine RegV.split (fun c44 => ?_) (fun c44 => ?_)
      · have h := cond_pos c44 h
        refine RegV.ld (v := (.d (.agg [(.int .u64 r29.2.1), (.int .u64 r29.2.2.1), (.int .u64 r29.2.2.2.1), (.int .i64 r29.2.2.2.2.1), (.sl (List.map byteD r29.2.2.2.2.2))]))) (H' := [(2, (.cells [(.d (.int .u64 r29.2.1)), (.d (.int .u64 r29.2.2.1)), (.d (.int .u64 r29.2.2.2.1)), (.d (.int .i64 r29.2.2.2.2.1)), (.d (.sl (List.map byteD r29.2.2.2.2.2)))])), (1, (.tok ((List.map byteD r28).length * 1))), (0, (.cells [(.d (.int .u64 a0.fOffset)), (.d (.int .u64 a0.fProducer)), (.d (.int .u64 a0.fSeq)), (.d (.int .i64 a0.fVersion)), (.d (.sl (List.map byteD a0.fData)))]))]) rfl rfl (Nat.le_of_ble_eq_true rfl) rfl rfl rfl rfl rfl ?_
        refine RegV.ld (v := (.d (.agg [(.int .u64 a0.fOffset), (.int .u64 a0.fProducer), (.int .u64 a0.fSeq), (.int .i64 a0.fVersion), (.sl (List.map byteD a0.fData))]))) (H' := [(0, (.cells [(.d (.int .u64 a0.fOffset)), (.d (.int .u64 a0.fProducer)), (.d (.int .u64 a0.fSeq)), (.d (.int .i64 a0.fVersion)), (.d (.sl (List.map byteD a0.fData)))])), (2, (.cells [(.d (.int .u64 r29.2.1)), (.d (.int .u64 r29.2.2.1)), (.d (.int .u64 r29.2.2.2.1)), (.d (.int .i64 r29.2.2.2.2.1)), (.d (.sl (List.map byteD r29.2.2.2.2.2)))])), (1, (.tok ((List.map byteD r28).length * 1)))]) rfl rfl (Nat.le_of_ble_eq_true rfl) rfl rfl rfl rfl rfl ?_
        obtain ⟨r47, e47, h⟩ := bind_some h
        refine RegV.call0 (F38 hmix hc.2.2.2.2 e47) rfl rfl rfl rfl (.cons (.refl _) (.cons (.refl _) .nil)) rfl ?_
        refine RegV.p0 rfl rfl rfl ?_
        refine RegV.p0 rfl rfl rfl ?_
        refine RegV.nil0 ?_
        have hr := Option.some.inj h
        subst hr
        exact AWc.ret (canQ (N := 28) (k := 0) (l' := [(2, (.d (.bool r47)))]) (H' := []) rfl ⟨rfl, [], [], rfl, rfl, ⟨⟨_, rfl, (.refl _)⟩, rfl, trivial⟩,  trivial⟩ (doneA (.inr rfl) rfl ⟨trivial, trivial⟩ (.refl _) hasNil))
      · have h := cond_neg c44 h
        refine RegV.noS rfl rfl ?_
        refine RegV.noS rfl rfl ?_
        refine RegV.noS rfl rfl ?_
        refine RegV.p0 rfl rfl rfl ?_
        refine RegV.p0 rfl rfl rfl ?_
        refine RegV.nil0 ?_
        have hr := Option.some.inj h
        subst hr
        exact AWc.ret (canQ (N := 28) (k := 0) (l' := [(2, (.d (.bool false)))]) (H' := []) rfl ⟨rfl, [], [], rfl, rfl, ⟨⟨_, rfl, (.refl _)⟩, rfl, trivial⟩,  trivial⟩ (doneA (.inr rfl) rfl ⟨trivial, trivial⟩ (.refl _) hasNil))
    · have h := cond_neg c40 h
      refine RegV.noS rfl rfl ?_
      refine RegV.noS rfl rfl ?_
      refine RegV.p0 rfl rfl rfl ?_
      refine RegV.p0 rfl rfl rfl ?_
      refine RegV.noS rfl rfl ?_
      refine RegV.noS rfl rfl ?_
      refine RegV.noS rfl rfl ?_
      refine RegV.p0 rfl rfl rfl ?_
      refine RegV.p0 rfl rfl rfl ?_
      refine RegV.nil0 ?_
      have hr := Option.some.inj h
      subst hr
      exact AWc.ret (canQ (N := 28) (k := 0) (l' := [(2, (.d (.bool false)))]) (H' := []) rfl ⟨rfl, [], [], rfl, rfl, ⟨⟨_, rfl, (.refl _)⟩, rfl, trivial⟩,  trivial⟩ (doneA (.inr rfl) rfl ⟨trivial, trivial⟩ (.refl _) hasNil))
end Go.Proofs.Abs
