/- Written by gen.py: functions of the program as Lean functions, and that the code comes to them. -/
import Derived.Test.YtojmpoboidomeaaGLcre
set_option linter.unusedVariables false
set_option linter.unusedSimpArgs false
set_option maxRecDepth 100000
set_option maxHeartbeats 4000000
namespace Go.Proofs.Abs
open Go
/-- (*courant/code.Reader).End -/
def C43 (N : Nat → Nat) : AFunc := { n := 12, params := 1, res := [.tmp 2], body :=
 (.seq (.region false [⟨(some 2), .mv (.k (.d (.int .i64 0))), none, []⟩])
  (.seq (.seq (.region false [⟨(some 4), .mv (.t 0), none, []⟩,
     ⟨(some 5), .call (.k (.d (.fn (N 42)))) [(.t 4)], none, [0]⟩,
     ⟨(some 3), .mv (.t 5), none, [1, 0]⟩])
    (.seq (.region false [⟨(some 6), .mv (.t 3), none, []⟩,
      ⟨(some 7), .bin .neq (.t 6) (.k (.d (.int .i64 0))), none, [0]⟩])
     (.cond (.t 7) (.seq (.region false [⟨(some 8), .mv (.t 3), none, []⟩,
        ⟨(some 2), .mv (.t 8), none, [0]⟩])
       .ret)
      (.skip))))
   (.seq (.seq (.region false [⟨(some 9), .mv (.t 0), none, []⟩,
      ⟨(some 10), .call (.k (.d (.fn (N 32)))) [(.t 9)], none, [0]⟩,
      ⟨(some 11), .bin .gtr (.t 10) (.k (.d (.int .i64 0))), none, [1]⟩])
     (.cond (.t 11) (.seq (.region false [⟨(some 2), .mv (.k (.d (.int .i64 4))), none, []⟩])
       .ret)
      (.skip)))
    (.seq (.region false [⟨(some 2), .mv (.k (.d (.int .i64 0))), none, []⟩])
     .ret)))) }
def HC43 (P : Program) (N : Nat → Nat) : Prop := HasF P (N 43) (C43 N) ∧ HC42 P N ∧ HC32 P N
def f43 (k : Nat) (a0 : (List UInt8)) (a1 : Int) (a2 : Int) : Option Int := (f42 k a0 a1 a2).bind fun r10 => cond (decide (a2 ≠ (0 : Int))) (some a2) ((f32 k a0 a1 a2).bind fun r30 => cond (decide ((IntKind.i64.wrap (((a0.length : Nat) : Int) - a1)) > (0 : Int))) (some (4 : Int)) (some (0 : Int)))
theorem F43 {P : Program} {N : Nat → Nat} (hmix : P.follows .mixedOrders = true) (hc : HC43 P N) {k : Nat} {a0 : (List UInt8)} {a1 : Int} {a2 : Int} {r : Int} (h : f43 k a0 a1 a2 = some r) :
    ACalls P (N 43) [(.ptr 0 0)] [(0, (.cells [(.d (.sl (List.map byteD a0))), (.d (.int .i64 a1)), (.d (.int .i64 a2))]))] (.d (.int .i64 r)) [(0, (.cells [(.d (.sl (List.map byteD a0))), (.d (.int .i64 a1)), (.d (.int .i64 a2))]))] := by
  refine acalls_canon (F := C43 N) hc.1 1 1 rfl ?_
  unfold f43 at h
  dsimp only [C43, startL]
  refine AWc.seq ?_
  refine AWc.rg hmix rfl rfl ?_
  refine RegV.p0 rfl rfl rfl ?_
  refine RegV.nil0 ?_
  refine AWc.seq ?_
  refine AWc.seq ?_
  refine AWc.rg hmix rfl rfl ?_
  refine RegV.p0 rfl rfl rfl ?_
  obtain ⟨r10, e10, h⟩ := bind_some h
  refine RegV.callS (q := true) (H' := [(0, (.cells [(.d (.sl (List.map byteD a0))), (.d (.int .i64 a1)), (.d (.int .i64 a2))]))]) (c' := 1) (show ACalls P (N 42) [(.ptr 0 0)] [(0, (.cells [(.d (.sl (List.map byteD a0))), (.d (.int .i64 a1)), (.d (.int .i64 a2))]))] (.d (.int .i64 a2)) [(0, (.cells [(.d (.sl (List.map byteD a0))), (.d (.int .i64 a1)), (.d (.int .i64 a2))]))] from ACalls.use (F42 hmix hc.2.1 e10) [(0, 0)] 1 rfl) rfl rfl rfl rfl (.cons (.refl _) .nil) (.refl _) (fun _ => rfl) rfl (hasCons rfl hasNil) rfl rfl rfl rfl ?_
  refine RegV.p0 rfl rfl rfl ?_
  refine RegV.nil0 ?_
  refine AWc.seq ?_
  refine AWc.rg hmix rfl rfl ?_
  refine RegV.p0 rfl rfl rfl ?_
  refine RegV.p0 (v := (.d (.bool (decide (a2 ≠ (0 : Int)))))) rfl rfl rfl ?_
  refine RegV.nil0 ?_
  refine AWc.cond rfl (fun c17 => ?_) (fun c17 => ?_)
  · have h := cond_pos c17 h
    refine AWc.seq ?_
    refine AWc.rg hmix rfl rfl ?_
    refine RegV.p0 rfl rfl rfl ?_
    refine RegV.p0 rfl rfl rfl ?_
    refine RegV.nil0 ?_
    have hr := Option.some.inj h
    subst hr
    exact AWc.ret (canQ (N := 12) (k := 1) (l' := [(2, (.d (.int .i64 a2)))]) (H' := [(0, (.cells [(.d (.sl (List.map byteD a0))), (.d (.int .i64 a1)), (.d (.int .i64 a2))]))]) rfl ⟨rfl, [], [], rfl, rfl, ⟨⟨_, rfl, (.refl _)⟩, rfl, trivial⟩, ⟨⟨_, rfl, (.refl _)⟩, rfl, rfl, trivial⟩⟩ (doneA (.inr rfl) rfl ⟨trivial, trivial⟩ (.refl _) (hasCons rfl hasNil)))
  · have h := cond_neg c17 h
    refine AWc.skip ?_
    refine AWc.seq ?_
    refine AWc.seq ?_
    refine AWc.rg hmix rfl rfl ?_
    refine RegV.p0 rfl rfl rfl ?_
    obtain ⟨r30, e30, h⟩ := bind_some h
    refine RegV.callS (q := true) (H' := [(0, (.cells [(.d (.sl (List.map byteD a0))), (.d (.int .i64 a1)), (.d (.int .i64 a2))]))]) (c' := 1) (show ACalls P (N 32) [(.ptr 0 0)] [(0, (.cells [(.d (.sl (List.map byteD a0))), (.d (.int .i64 a1)), (.d (.int .i64 a2))]))] (.d (.int .i64 (IntKind.i64.wrap (((a0.length : Nat) : Int) - a1)))) [(0, (.cells [(.d (.sl (List.map byteD a0))), (.d (.int .i64 a1)), (.d (.int .i64 a2))]))] from ACalls.use (F32 hmix hc.2.2 e30) [(0, 0)] 1 rfl) rfl rfl rfl rfl (.cons (.refl _) .nil) (.refl _) (fun _ => rfl) rfl (hasCons rfl hasNil) rfl rfl rfl rfl ?_
    refine RegV.p0 (v := (.d (.bool (decide ((IntKind.i64.wrap (((a0.length : Nat) : Int) - a1)) > (0 : Int)))))) rfl rfl rfl ?_
    refine RegV.nil0 ?_
    refine AWc.cond rfl (fun c32 => ?_) (fun c32 => ?_)
    · have h := cond_pos c32 h
      refine AWc.seq ?_
      refine AWc.rg hmix rfl rfl ?_
      refine RegV.p0 rfl rfl rfl ?_
      refine RegV.nil0 ?_
      have hr := Option.some.inj h
      subst hr
      exact AWc.ret (canQ (N := 12) (k := 1) (l' := [(2, (.d (.int .i64 (4 : Int))))]) (H' := [(0, (.cells [(.d (.sl (List.map byteD a0))), (.d (.int .i64 a1)), (.d (.int .i64 a2))]))]) rfl ⟨rfl, [], [], rfl, rfl, ⟨⟨_, rfl, (.refl _)⟩, rfl, trivial⟩, ⟨⟨_, rfl, (.refl _)⟩, rfl, rfl, trivial⟩⟩ (doneA (.inr rfl) rfl ⟨trivial, trivial⟩ (.refl _) (hasCons rfl hasNil)))
    · have h := cond_neg c32 h
      refine AWc.skip ?_
      refine AWc.seq ?_
      refine AWc.rg hmix rfl rfl ?_
      refine RegV.p0 rfl rfl rfl ?_
      refine RegV.nil0 ?_
      have hr := Option.some.inj h
      subst hr
      exact AWc.ret (canQ (N := 12) (k := 1) (l' := [(2, (.d (.int .i64 (0 : Int))))]) (H' := [(0, (.cells [(.d (.sl (List.map byteD a0))), (.d (.int .i64 a1)), (.d (.int .i64 a2))]))]) rfl ⟨rfl, [], [], rfl, rfl, ⟨⟨_, rfl, (.refl _)⟩, rfl, trivial⟩, ⟨⟨_, rfl, (.refl _)⟩, rfl, rfl, trivial⟩⟩ (doneA (.inr rfl) rfl ⟨trivial, trivial⟩ (.refl _) (hasCons rfl hasNil)))
/-- (*courant/courantref01.Reader).End -/
def C51 (N : Nat → Nat) : AFunc := { n := 24, params := 1, res := [.tmp 2], body :=
 (.seq (.region false [⟨(some 2), .mv (.k (.d (.int .i64 0))), none, []⟩])
  (.seq (.seq (.region true [⟨(some 3), .mv (.t 0), none, []⟩,
     ⟨(some 4), .nilchk (.t 3), none, [0]⟩,
     ⟨(some 5), .faddr (.t 4) 2, none, [1]⟩,
     ⟨(some 6), .load (.t 5) 1 false, none, [2]⟩,
     ⟨(some 7), .bin .eql (.t 6) (.k (.d (.int .i64 0))), none, [3]⟩,
     ⟨(some 8), .mv (.t 7), none, [4]⟩,
     ⟨(some 9), .mv (.t 0), (some (8, true)), [5]⟩,
     ⟨(some 10), .nilchk (.t 9), (some (8, true)), [6, 5]⟩,
     ⟨(some 11), .faddr (.t 10) 1, (some (8, true)), [7, 5]⟩,
     ⟨(some 12), .load (.t 11) 1 false, (some (8, true)), [8, 5]⟩,
     ⟨(some 13), .mv (.t 0), (some (8, true)), [5]⟩,
     ⟨(some 14), .nilchk (.t 13), (some (8, true)), [10, 5]⟩,
     ⟨(some 15), .faddr (.t 14) 0, (some (8, true)), [11, 5]⟩,
     ⟨(some 16), .load (.t 15) 1 false, (some (8, true)), [12, 5]⟩,
     ⟨(some 17), .len (.t 16), (some (8, true)), [13, 5]⟩,
     ⟨(some 18), .bin .lss (.t 12) (.t 17), (some (8, true)), [9, 14, 5]⟩,
     ⟨(some 19), .pick (.t 8) (.t 18) (.k (.d (.bool false))), none, [5, 15]⟩])
    (.cond (.t 19) (.seq (.region false [⟨(some 2), .mv (.k (.d (.int .i64 4))), none, []⟩])
      .ret)
     (.skip)))
   (.seq (.region false [⟨(some 20), .mv (.t 0), none, []⟩,
     ⟨(some 21), .nilchk (.t 20), none, [0]⟩,
     ⟨(some 22), .faddr (.t 21) 2, none, [1]⟩,
     ⟨(some 23), .load (.t 22) 1 false, none, [2]⟩,
     ⟨(some 2), .mv (.t 23), none, [3, 0, 1, 2]⟩])
    .ret))) }
def HC51 (P : Program) (N : Nat → Nat) : Prop := HasF P (N 51) (C51 N)
def f51_j33 (k : Nat) (a2 : Int) : Option Int := some a2
def f51 (k : Nat) (a0 : (List UInt8)) (a1 : Int) (a2 : Int) : Option Int := cond (decide (a2 = (0 : Int))) (cond (decide (a1 < ((a0.length : Nat) : Int))) (some (4 : Int)) (f51_j33 k a2)) (f51_j33 k a2)
theorem F51 {P : Program} {N : Nat → Nat} (hmix : P.follows .mixedOrders = true) (hc : HC51 P N) {k : Nat} {a0 : (List UInt8)} {a1 : Int} {a2 : Int} {r : Int} (h : f51 k a0 a1 a2 = some r) :
    ACalls P (N 51) [(.ptr 0 0)] [(0, (.cells [(.d (.sl (List.map byteD a0))), (.d (.int .i64 a1)), (.d (.int .i64 a2))]))] (.d (.int .i64 r)) [(0, (.cells [(.d (.sl (List.map byteD a0))), (.d (.int .i64 a1)), (.d (.int .i64 a2))]))] := by
  refine acalls_canon (F := C51 N) hc 1 1 rfl ?_
  unfold f51 at h
  dsimp only [C51, startL]
  refine AWc.seq ?_
  refine AWc.rg hmix rfl rfl ?_
  refine RegV.p0 rfl rfl rfl ?_
  refine RegV.nil0 ?_
  refine AWc.seqS (N := 24) 1 (fun (z : Unit) => [(0, (.ptr 0 0))]) (fun z => [(0, (.cells [(.d (.sl (List.map byteD a0))), (.d (.int .i64 a1)), (.d (.int .i64 a2))]))]) (fun z => f51_j33 k a2 = some r) rfl_le ?_ ?_
  · refine AWc.seq ?_
    refine AWc.rg hmix rfl rfl ?_
    refine RegV.p0 rfl rfl rfl ?_
    refine RegV.p0 rfl rfl rfl ?_
    refine RegV.p0 (v := (.ptr 0 2)) rfl rfl rfl ?_
    refine RegV.ld (v := (.d (.int .i64 a2))) (H' := [(0, (.cells [(.d (.sl (List.map byteD a0))), (.d (.int .i64 a1)), (.d (.int .i64 a2))]))]) rfl rfl trivial rfl rfl rfl rfl rfl ?_
    refine RegV.p0 (v := (.d (.bool (decide (a2 = (0 : Int)))))) rfl rfl rfl ?_
    refine RegV.p0 rfl rfl rfl ?_
    refine RegV.split (fun c14 => ?_) (fun c14 => ?_)
    · have h := cond_pos c14 h
      refine RegV.p0 rfl rfl rfl ?_
      refine RegV.p0 rfl rfl rfl ?_
      refine RegV.p0 (v := (.ptr 0 1)) rfl rfl rfl ?_
      refine RegV.ld (v := (.d (.int .i64 a1))) (H' := [(0, (.cells [(.d (.sl (List.map byteD a0))), (.d (.int .i64 a1)), (.d (.int .i64 a2))]))]) rfl rfl trivial rfl rfl rfl rfl rfl ?_
      refine RegV.p0 rfl rfl rfl ?_
      refine RegV.p0 rfl rfl rfl ?_
      refine RegV.p0 (v := (.ptr 0 0)) rfl rfl rfl ?_
      refine RegV.ld (v := (.d (.sl (List.map byteD a0)))) (H' := [(0, (.cells [(.d (.sl (List.map byteD a0))), (.d (.int .i64 a1)), (.d (.int .i64 a2))]))]) rfl rfl trivial rfl rfl rfl rfl rfl ?_
      refine RegV.len (xs := a0) (e := byteD) rfl rfl rfl rfl ?_
      refine RegV.p0 (v := (.d (.bool (decide (a1 < ((a0.length : Nat) : Int)))))) rfl rfl rfl ?_
      refine RegV.p0 rfl rfl rfl ?_
      refine RegV.nil1 (by kernel_rfl) ?_
      refine AWc.cond rfl (fun c26 => ?_) (fun c26 => ?_)
      · have h := cond_pos c26 h
        refine AWc.seq ?_
        refine AWc.rg hmix rfl rfl ?_
        refine RegV.p0 rfl rfl rfl ?_
        refine RegV.nil0 ?_
        have hr := Option.some.inj h
        subst hr
        exact AWc.ret (canQ (N := 24) (k := 1) (l' := [(2, (.d (.int .i64 (4 : Int))))]) (H' := [(0, (.cells [(.d (.sl (List.map byteD a0))), (.d (.int .i64 a1)), (.d (.int .i64 a2))]))]) rfl ⟨rfl, [], [], rfl, rfl, ⟨⟨_, rfl, (.refl _)⟩, rfl, trivial⟩, ⟨⟨_, rfl, (.refl _)⟩, rfl, rfl, trivial⟩⟩ (doneA (.inr rfl) rfl ⟨trivial, trivial⟩ (.refl _) (hasCons rfl hasNil)))
      · have h := cond_neg c26 h
        refine AWc.skip ?_
        exact ⟨(), h, ⟨rfl, [], [], rfl, rfl, ⟨⟨_, rfl, (.refl _)⟩, rfl, trivial⟩, ⟨⟨_, rfl, (.refl _)⟩, rfl, rfl, trivial⟩⟩⟩
    · have h := cond_neg c14 h
      refine RegV.noS rfl rfl ?_
      refine RegV.noS rfl rfl ?_
      refine RegV.noS rfl rfl ?_
      refine RegV.noS rfl rfl ?_
      refine RegV.noS rfl rfl ?_
      refine RegV.noS rfl rfl ?_
      refine RegV.noS rfl rfl ?_
      refine RegV.noS rfl rfl ?_
      refine RegV.noS rfl rfl ?_
      refine RegV.noS rfl rfl ?_
      refine RegV.p0 rfl rfl rfl ?_
      refine RegV.nil1 (by kernel_rfl) ?_
      refine AWc.cond rfl (fun hc => by cases hc) (fun _ => ?_)
      refine AWc.skip ?_
      exact ⟨(), h, ⟨rfl, [], [], rfl, rfl, ⟨⟨_, rfl, (.refl _)⟩, rfl, trivial⟩, ⟨⟨_, rfl, (.refl _)⟩, rfl, rfl, trivial⟩⟩⟩
  · rintro ⟨⟩ h
    unfold f51_j33 at h
    refine AWc.seq ?_
    refine AWc.rg hmix rfl rfl ?_
    refine RegV.p0 rfl rfl rfl ?_
    refine RegV.p0 rfl rfl rfl ?_
    refine RegV.p0 (v := (.ptr 0 2)) rfl rfl rfl ?_
    refine RegV.ld (v := (.d (.int .i64 a2))) (H' := [(0, (.cells [(.d (.sl (List.map byteD a0))), (.d (.int .i64 a1)), (.d (.int .i64 a2))]))]) rfl rfl trivial rfl rfl rfl rfl rfl ?_
    refine RegV.p0 rfl rfl rfl ?_
    refine RegV.nil0 ?_
    have hr := Option.some.inj h
    subst hr
    exact AWc.ret (canQ (N := 24) (k := 1) (l' := [(2, (.d (.int .i64 a2)))]) (H' := [(0, (.cells [(.d (.sl (List.map byteD a0))), (.d (.int .i64 a1)), (.d (.int .i64 a2))]))]) rfl ⟨rfl, [], [], rfl, rfl, ⟨⟨_, rfl, (.refl _)⟩, rfl, trivial⟩, ⟨⟨_, rfl, (.refl _)⟩, rfl, rfl, trivial⟩⟩ (doneA (.inr rfl) rfl ⟨trivial, trivial⟩ (.refl _) (hasCons rfl hasNil)))
/-- courant/courantlaw01.CodeReads -/
def C9 (N : Nat → Nat) : AFunc := { n := 120, params := 2, res := [.tmp 4], body :=
 (.seq (.region false [⟨(some 4), .mv (.k (.d (.bool false))), none, []⟩])
  (.seq (.seq (.region false [⟨(some 13), .mv (.t 0), none, []⟩,
     ⟨(some 14), .len (.t 13), none, [0]⟩,
     ⟨(some 15), .bin .gtr (.t 14) (.k (.d (.int .i64 5000))), none, [1]⟩])
    (.cond (.t 15) (.seq (.region false [⟨(some 16), .call (.k (.d (.fn (N 20)))) [], none, []⟩,
       ⟨(some 4), .mv (.t 16), none, [0]⟩])
      .ret)
     (.skip)))
   (.seq (.region false [⟨(some 17), .mv (.t 0), none, []⟩,
     ⟨(some 18), .call (.k (.d (.fn (N 21)))) [(.t 17), (.k (.d (.int .u8 71)))], none, [0]⟩,
     ⟨(some 5), .mv (.t 18), none, [1, 0]⟩])
    (.seq (.region false [⟨(some 19), .mv (.t 5), none, []⟩,
      ⟨(some 20), .call (.k (.d (.fn (N 30)))) [(.t 19)], none, [0]⟩,
      ⟨(some 6), .mv (.t 20), none, [1, 0]⟩])
     (.seq (.region false [⟨(some 21), .mv (.t 0), none, []⟩,
       ⟨(some 22), .call (.k (.d (.fn (N 44)))) [(.t 21)], none, [0]⟩,
       ⟨(some 7), .mv (.t 22), none, [1, 0]⟩])
      (.seq (.seq (.region false [⟨(some 23), .call (.k (.d (.fn (N 20)))) [], none, []⟩,
         ⟨(some 24), .un .not (.t 23), none, [0]⟩,
         ⟨(some 25), .mv (.t 24), none, [1, 0]⟩,
         ⟨(some 26), .mv (.t 6), (some (25, false)), [2]⟩,
         ⟨(some 27), .nileq 1 false (.t 26) (.k (.d .nilp)), (some (25, false)), [3, 2]⟩,
         ⟨(some 28), .pick (.t 25) (.k (.d (.bool true))) (.t 27), none, [2, 4]⟩,
         ⟨(some 29), .mv (.t 28), none, [5, 2]⟩,
         ⟨(some 30), .mv (.t 5), (some (29, false)), [6]⟩,
         ⟨(some 31), .mv (.t 0), (some (29, false)), [6]⟩,
         ⟨(some 32), .call (.k (.d (.fn (N 29)))) [(.t 30), (.t 31), (.k (.d (.int .u8 71)))], (some (29, false)), [7, 8, 6]⟩,
         ⟨(some 33), .un .not (.t 32), (some (29, false)), [9, 6]⟩,
         ⟨(some 34), .pick (.t 29) (.k (.d (.bool true))) (.t 33), none, [6, 10]⟩])
        (.cond (.t 34) (.seq (.region false [⟨(some 4), .mv (.k (.d (.bool false))), none, []⟩])
          .ret)
         (.skip)))
       (.seq (.region false [⟨(some 35), .mv (.t 5), none, []⟩,
         ⟨(some 36), .call (.k (.d (.fn (N 45)))) [(.t 35)], none, [0]⟩])
        (.seq (.seq (.region false [⟨(some 8), .mv (.k (.d (.int .i64 0))), none, []⟩])
          (.block 0 (.loop (.seq (.seq (.region false [⟨(some 37), .mv (.t 8), none, []⟩,
               ⟨(some 38), .mv (.t 1), none, []⟩,
               ⟨(some 39), .len (.t 38), none, [1]⟩,
               ⟨(some 40), .bin .lss (.t 37) (.t 39), none, [0, 2]⟩,
               ⟨(some 41), .mv (.t 40), none, [3]⟩,
               ⟨(some 42), .mv (.t 8), (some (41, true)), [4]⟩,
               ⟨(some 43), .bin .lss (.t 42) (.k (.d (.int .i64 60))), (some (41, true)), [5, 4]⟩,
               ⟨(some 44), .pick (.t 41) (.t 43) (.k (.d (.bool false))), none, [4, 6]⟩])
              (.cond (.t 44) (.skip)
               (.exit 0)))
             (.seq (.block 1 (.seq (.region false [⟨(some 47), .mv (.t 1), none, []⟩,
                 ⟨(some 48), .mv (.t 8), none, []⟩,
                 ⟨(some 49), .iaddr (.t 47) (.t 48) 2, none, [0, 1]⟩,
                 ⟨(some 50), .load (.t 49) 2 true, none, [2]⟩,
                 ⟨(some 9), .alloc [(.int .i64 0), (.int .i64 0)], none, []⟩,
                 ⟨none, .store (.t 9) (.t 50) 2, none, [4, 3, 0, 1, 2]⟩])
                (.seq (.region false [⟨(some 10), .mv (.k (.d (.bool true))), none, []⟩])
                 (.seq (.seq (.region false [⟨(some 51), .faddr (.t 9) 0, none, []⟩,
                    ⟨(some 52), .load (.t 51) 1 false, none, [0]⟩])
                   (.block 2 (.seq (.region false [⟨(some 54), .bin .eql (.t 52) (.k (.d (.int .i64 0))), none, []⟩,
                      ⟨(some 53), .mv (.t 54), none, [0]⟩])
                     (.cond (.t 53) (.region false [⟨(some 55), .mv (.t 6), none, []⟩,
                       ⟨(some 56), .call (.k (.d (.fn (N 39)))) [(.t 55)], none, [0]⟩,
                       ⟨(some 57), .mv (.t 7), none, []⟩,
                       ⟨(some 58), .call (.k (.d (.fn (N 46)))) [(.t 57)], none, [2, 1]⟩,
                       ⟨(some 59), .bin .eql (.t 56) (.t 58), none, [1, 3]⟩,
                       ⟨(some 10), .mv (.t 59), none, [4, 3, 0, 1, 2]⟩])
                      (.seq (.region false [⟨(some 61), .bin .eql (.t 52) (.k (.d (.int .i64 1))), none, []⟩,
                        ⟨(some 60), .mv (.t 61), none, [0]⟩])
                       (.cond (.t 60) (.region false [⟨(some 62), .mv (.t 6), none, []⟩,
                         ⟨(some 63), .call (.k (.d (.fn (N 40)))) [(.t 62)], none, [0]⟩,
                         ⟨(some 64), .mv (.t 7), none, []⟩,
                         ⟨(some 65), .call (.k (.d (.fn (N 47)))) [(.t 64)], none, [2, 1]⟩,
                         ⟨(some 66), .bin .eql (.t 63) (.t 65), none, [1, 3]⟩,
                         ⟨(some 10), .mv (.t 66), none, [4, 3, 0, 1, 2]⟩])
                        (.seq (.region false [⟨(some 68), .bin .eql (.t 52) (.k (.d (.int .i64 2))), none, []⟩,
                          ⟨(some 67), .mv (.t 68), none, [0]⟩])
                         (.cond (.t 67) (.seq (.region false [⟨(some 69), .mv (.t 6), none, []⟩,
                            ⟨(some 70), .faddr (.t 9) 1, none, []⟩,
                            ⟨(some 71), .load (.t 70) 1 false, none, [1]⟩,
                            ⟨(some 72), .call (.k (.d (.fn (N 31)))) [(.t 69), (.t 71)], none, [0, 2]⟩,
                            ⟨(some 11), .mv (.t 72), none, [3, 0, 1, 2]⟩])
                           (.seq (.region false [⟨(some 73), .mv (.t 11), none, []⟩,
                             ⟨(some 74), .mv (.t 7), none, []⟩,
                             ⟨(some 75), .faddr (.t 9) 1, none, []⟩,
                             ⟨(some 76), .load (.t 75) 1 false, none, [2]⟩,
                             ⟨(some 77), .call (.k (.d (.fn (N 48)))) [(.t 74), (.t 76)], none, [1, 3]⟩,
                             ⟨(some 78), .call (.k (.d (.fn (N 22)))) [(.t 73), (.t 77)], none, [0, 4]⟩,
                             ⟨(some 10), .mv (.t 78), none, [5, 0, 1, 2, 3, 4]⟩])
                            (.region false [⟨(some 79), .mv (.t 11), none, []⟩,
                             ⟨(some 80), .call (.k (.d (.fn (N 45)))) [(.t 79)], none, [0]⟩])))
                          (.seq (.region false [⟨(some 82), .bin .eql (.t 52) (.k (.d (.int .i64 3))), none, []⟩,
                            ⟨(some 81), .mv (.t 82), none, [0]⟩])
                           (.cond (.t 81) (.seq (.region false [⟨(some 83), .mv (.t 6), none, []⟩,
                              ⟨(some 84), .faddr (.t 9) 1, none, []⟩,
                              ⟨(some 85), .load (.t 84) 1 false, none, [1]⟩,
                              ⟨(some 86), .call (.k (.d (.fn (N 41)))) [(.t 83), (.t 85)], none, [0, 2]⟩,
                              ⟨(some 12), .mv (.t 86), none, [3, 0, 1, 2]⟩])
                             (.seq (.region false [⟨(some 87), .mv (.t 12), none, []⟩,
                               ⟨(some 88), .mv (.t 7), none, []⟩,
                               ⟨(some 89), .faddr (.t 9) 1, none, []⟩,
                               ⟨(some 90), .load (.t 89) 1 false, none, [2]⟩,
                               ⟨(some 91), .call (.k (.d (.fn (N 49)))) [(.t 88), (.t 90)], none, [1, 3]⟩,
                               ⟨(some 92), .call (.k (.d (.fn (N 22)))) [(.t 87), (.t 91)], none, [0, 4]⟩,
                               ⟨(some 10), .mv (.t 92), none, [5, 0, 1, 2, 3, 4]⟩])
                              (.region false [⟨(some 93), .mv (.t 12), none, []⟩,
                               ⟨(some 94), .call (.k (.d (.fn (N 45)))) [(.t 93)], none, [0]⟩])))
                            (.skip)))))))))))
                  (.seq (.region true [⟨(some 95), .mv (.t 10), none, []⟩,
                    ⟨(some 96), .un .not (.t 95), none, [0]⟩,
                    ⟨(some 97), .mv (.t 96), none, [1]⟩,
                    ⟨(some 98), .mv (.t 6), (some (97, false)), [2]⟩,
                    ⟨(some 99), .call (.k (.d (.fn (N 32)))) [(.t 98)], (some (97, false)), [3, 2]⟩,
                    ⟨(some 100), .mv (.t 7), (some (97, false)), [2]⟩,
                    ⟨(some 101), .call (.k (.d (.fn (N 50)))) [(.t 100)], (some (97, false)), [5, 4, 2]⟩,
                    ⟨(some 102), .bin .neq (.t 99) (.t 101), (some (97, false)), [4, 6, 2]⟩,
                    ⟨(some 103), .pick (.t 97) (.k (.d (.bool true))) (.t 102), none, [2, 7]⟩,
                    ⟨(some 104), .mv (.t 103), none, [8, 6]⟩,
                    ⟨(some 105), .mv (.t 6), (some (104, false)), [9]⟩,
                    ⟨(some 106), .call (.k (.d (.fn (N 42)))) [(.t 105)], (some (104, false)), [10, 9]⟩,
                    ⟨(some 107), .mv (.t 7), (some (104, false)), [9]⟩,
                    ⟨(some 108), .nilchk (.t 107), (some (104, false)), [12, 9]⟩,
                    ⟨(some 109), .faddr (.t 108) 2, (some (104, false)), [13, 9]⟩,
                    ⟨(some 110), .load (.t 109) 1 false, (some (104, false)), [14, 9]⟩,
                    ⟨(some 111), .bin .neq (.t 106) (.t 110), (some (104, false)), [11, 15, 9]⟩,
                    ⟨(some 112), .pick (.t 104) (.k (.d (.bool true))) (.t 111), none, [9, 16]⟩,
                    ⟨(some 113), .mv (.t 112), none, [17, 11]⟩,
                    ⟨(some 114), .mv (.t 6), (some (113, false)), [18]⟩,
                    ⟨(some 115), .call (.k (.d (.fn (N 43)))) [(.t 114)], (some (113, false)), [19, 18]⟩,
                    ⟨(some 116), .mv (.t 7), (some (113, false)), [18]⟩,
                    ⟨(some 117), .call (.k (.d (.fn (N 51)))) [(.t 116)], (some (113, false)), [21, 20, 18]⟩,
                    ⟨(some 118), .bin .neq (.t 115) (.t 117), (some (113, false)), [20, 22, 18]⟩,
                    ⟨(some 119), .pick (.t 113) (.k (.d (.bool true))) (.t 118), none, [18, 23]⟩])
                   (.cond (.t 119) (.seq (.region false [⟨(some 4), .mv (.k (.d (.bool false))), none, []⟩])
                     .ret)
                    (.skip)))))))
              (.region false [⟨(some 45), .mv (.t 8), none, []⟩,
               ⟨(some 46), .bin .add (.t 45) (.k (.d (.int .i64 1))), none, [0]⟩,
               ⟨(some 8), .mv (.t 46), none, [1, 0]⟩]))))))
         (.seq (.region false [⟨(some 4), .mv (.k (.d (.bool true))), none, []⟩])
          .ret))))))))) }
def HC9 (P : Program) (N : Nat → Nat) : Prop := HasF P (N 9) (C9 N) ∧ HC20 P N ∧ HC21 P N ∧ HC30 P N ∧ HC44 P N ∧ HC29 P N ∧ HC45 P N ∧ HC39 P N ∧ HC46 P N ∧ HC40 P N ∧ HC47 P N ∧ HC31 P N ∧ HC48 P N ∧ HC22 P N ∧ HC45v2 P N ∧ HC41 P N ∧ HC49 P N ∧ HC32 P N ∧ HC50 P N ∧ HC42 P N ∧ HC43 P N ∧ HC51 P N
def f9_j195 (L : Int → Int → Int → Int → Int → Option (LR2 Unit Unit Bool)) (k : Nat) (a0 : (List UInt8)) (r24 : (List UInt8)) (y71_1 : Int) (j195_1 : Bool) (j195_2 : Int) (j195_3 : Int) (j195_4 : Int) (j195_5 : Int) : Option (LR2 Unit Unit Bool) := cond (!j195_1) (some (.r false)) ((f32 k (List.take (((0 : Int)).toNat + a0.length) r24) j195_2 j195_3).bind fun r202 => (f50 k a0 j195_4 j195_5).bind fun r204 => cond (decide ((IntKind.i64.wrap ((((List.take (((0 : Int)).toNat + a0.length) r24).length : Nat) : Int) - j195_2)) ≠ (IntKind.i64.wrap (((a0.length : Nat) : Int) - j195_4)))) (some (.r false)) ((f42 k (List.take (((0 : Int)).toNat + a0.length) r24) j195_2 j195_3).bind fun r209 => cond (decide (j195_3 ≠ j195_5)) (some (.r false)) ((f43 k (List.take (((0 : Int)).toNat + a0.length) r24) j195_2 j195_3).bind fun r218 => (f51 k a0 j195_4 j195_5).bind fun r220 => cond (decide (r218 ≠ r220)) (some (.r false)) (L (IntKind.i64.wrap (y71_1 + (1 : Int))) j195_2 j195_3 j195_4 j195_5))))
def f9_l71 (a1 : (List Tcourantlaw01_Op)) (a0 : (List UInt8)) (r24 : (List UInt8)) : Nat → Int → Int → Int → Int → Int → Option (LR2 Unit Unit Bool)
  | 0, _, _, _, _, _ => none
  | k + 1, y71_1, y71_2, y71_3, y71_4, y71_5 => cond (decide (y71_1 < ((a1.length : Nat) : Int))) (cond (decide (y71_1 < (60 : Int))) (gd (0 ≤ y71_1 ∧ y71_1 < ((a1.length : Nat) : Int)) (cond (decide ((rd a1 y71_1).fKind = (0 : Int))) ((f39 k (List.take (((0 : Int)).toNat + a0.length) r24) y71_2 y71_3).bind fun r119 => (f46 k a0 y71_4 y71_5).bind fun r121 => f9_j195 (f9_l71 a1 a0 r24 k) k a0 r24 y71_1 (decide (r119.1 = r121.1)) r119.2.1 r119.2.2 r121.2.1 r121.2.2) (cond (decide ((rd a1 y71_1).fKind = (1 : Int))) ((f40 k (List.take (((0 : Int)).toNat + a0.length) r24) y71_2 y71_3).bind fun r133 => (f47 k a0 y71_4 y71_5).bind fun r135 => f9_j195 (f9_l71 a1 a0 r24 k) k a0 r24 y71_1 (decide (r133.1 = r135.1)) r133.2.1 r133.2.2 r135.2.1 r135.2.2) (cond (decide ((rd a1 y71_1).fKind = (2 : Int))) ((f31 k (List.take (((0 : Int)).toNat + a0.length) r24) y71_2 y71_3 ((rd a1 y71_1).fN)).bind fun r150 => (f48 k a0 y71_4 y71_5 ((rd a1 y71_1).fN)).bind fun r159 => gd (r150.1 ≤ r150.2.1.length) ((f22 k (List.take r150.1 r150.2.1) r159.1).bind fun r160 => (f45v2 k r150.2.1 r150.1).bind fun r165 => f9_j195 (f9_l71 a1 a0 r24 k) k a0 r24 y71_1 (decide ((List.take r150.1 r150.2.1) = r159.1)) r150.2.2.1 r150.2.2.2 r159.2.1 r159.2.2)) (cond (decide ((rd a1 y71_1).fKind = (3 : Int))) ((f41 k (List.take (((0 : Int)).toNat + a0.length) r24) y71_2 y71_3 ((rd a1 y71_1).fN)).bind fun r178 => (f49 k a0 y71_4 y71_5 ((rd a1 y71_1).fN)).bind fun r187 => gd (r178.1 ≤ r178.2.1.length) ((f22 k (List.take r178.1 r178.2.1) r187.1).bind fun r188 => (f45v2 k r178.2.1 r178.1).bind fun r193 => f9_j195 (f9_l71 a1 a0 r24 k) k a0 r24 y71_1 (decide ((List.take r178.1 r178.2.1) = r187.1)) r178.2.2.1 r178.2.2.2 r187.2.1 r187.2.2)) (f9_j195 (f9_l71 a1 a0 r24 k) k a0 r24 y71_1 true y71_2 y71_3 y71_4 y71_5)))))) (some (.b0 ()))) (some (.b0 ()))
def f9 (k : Nat) (a0 : (List UInt8)) (a1 : (List Tcourantlaw01_Op)) : Option Bool := cond (decide (((a0.length : Nat) : Int) > (5000 : Int))) ((f20 k).bind fun r16 => some r16) ((f21 k a0 (71 : UInt8)).bind fun r24 => (f30 k r24 (((0 : Int)).toNat + a0.length) (((IntKind.i64.wrap (((a0.length : Nat) : Int) + (3 : Int)))).toNat)).bind fun r30 => (f44 k a0).bind fun r36 => (f20 k).bind fun r42 => cond (!r42) (some false) (gd ((((0 : Int)).toNat + a0.length) ≤ r24.length ∧ ((IntKind.i64.wrap (((a0.length : Nat) : Int) + (3 : Int)))).toNat = r24.length) ((f29 k r24 (((0 : Int)).toNat + a0.length) a0 (71 : UInt8)).bind fun r51 => cond (!r51) (some false) ((f45 k r24 (((0 : Int)).toNat + a0.length) (((IntKind.i64.wrap (((a0.length : Nat) : Int) + (3 : Int)))).toNat)).bind fun r65 => (f9_l71 a1 a0 r24 k (0 : Int) (0 : Int) (0 : Int) (0 : Int) (0 : Int)).bind fun o71 => match o71 with | .b0 () => some true | .r x => some x | _ => none))))
theorem F9 {P : Program} {N : Nat → Nat} (hmix : P.follows .mixedOrders = true) (hc : HC9 P N) {k : Nat} {a0 : (List UInt8)} {a1 : (List Tcourantlaw01_Op)} {r : Bool} (h : f9 k a0 a1 = some r) :
    ACalls P (N 9) [(.d (.sl (List.map byteD a0))), (.d (.sl (List.map Tcourantlaw01_Op.enc a1)))] [] (.d (.bool r)) [] := by
  refine acalls_canon (F := C9 N) hc.1 0 0 rfl ?_
  unfold f9 at h
  dsimp only [C9, startL]
  refine AWc.seq ?_
  refine AWc.rg hmix rfl rfl ?_
  refine RegV.p0 rfl rfl rfl ?_
  refine RegV.nil0 ?_
  refine AWc.seq ?_
  refine AWc.seq ?_
  refine AWc.rg hmix rfl rfl ?_
  refine RegV.p0 rfl rfl rfl ?_
  refine RegV.len (xs := a0) (e := byteD) rfl rfl rfl rfl ?_
  refine RegV.p0 (v := (.d (.bool (decide (((a0.length : Nat) : Int) > (5000 : Int)))))) rfl rfl rfl ?_
  refine RegV.nil0 ?_
  refine AWc.cond rfl (fun c12 => ?_) (fun c12 => ?_)
  · have h := cond_pos c12 h
    refine AWc.seq ?_
    refine AWc.rg hmix rfl rfl ?_
    obtain ⟨r16, e16, h⟩ := bind_some h
    refine RegV.call0 (F20 hmix hc.2.1 e16) rfl rfl rfl rfl .nil rfl ?_
    refine RegV.p0 rfl rfl rfl ?_
    refine RegV.nil0 ?_
    have hr := Option.some.inj h
    subst hr
    exact AWc.ret (canQ (N := 120) (k := 0) (l' := [(4, (.d (.bool r16)))]) (H' := []) rfl ⟨rfl, [], [], rfl, rfl, ⟨⟨_, rfl, (.refl _)⟩, rfl, trivial⟩,  trivial⟩ (doneA (.inr rfl) rfl ⟨trivial, trivial⟩ (.refl _) hasNil))
  · have h := cond_neg c12 h
    refine AWc.skip ?_
    refine AWc.seq ?_
    refine AWc.rg hmix rfl rfl ?_
    refine RegV.p0 rfl rfl rfl ?_
    obtain ⟨r24, e24, h⟩ := bind_some h
    refine RegV.callS (q := false) (H' := [(0, (cellsO byteD r24))]) (c' := 1) (show ACalls P (N 21) [(.d (.sl (List.map byteD a0))), (.d (.int .u8 (((71 : UInt8).toNat : Nat) : Int)))] [] (.sl 0 0 (((0 : Int)).toNat + a0.length) (((IntKind.i64.wrap (((a0.length : Nat) : Int) + (3 : Int)))).toNat) 1) [(0, (cellsO byteD r24))] from ACalls.use (F21 hmix hc.2.2.1 e24) [(0, 0)] 1 rfl) rfl rfl rfl rfl (.cons (.refl _) (.cons (.refl _) .nil)) (.refl _) (fun h => by cases h) rfl hasNil rfl rfl rfl rfl ?_
    refine RegV.p0 rfl rfl rfl ?_
    refine RegV.nil0 ?_
    refine AWc.seq ?_
    refine AWc.rg hmix rfl rfl ?_
    refine RegV.p0 rfl rfl rfl ?_
    obtain ⟨r30, e30, h⟩ := bind_some h
    refine RegV.callS (q := false) (H' := [(1, (.cells [(.d (.sl (List.map byteD (List.take (((0 : Int)).toNat + a0.length) r24)))), (.d (.int .i64 (0 : Int))), (.d (.int .i64 (0 : Int)))])), (0, (cellsO byteD r24))]) (c' := 2) (show ACalls P (N 30) [(.sl 0 0 (((0 : Int)).toNat + a0.length) (((IntKind.i64.wrap (((a0.length : Nat) : Int) + (3 : Int)))).toNat) 1)] [(0, (cellsO byteD r24))] (.ptr 1 0) [(1, (.cells [(.d (.sl (List.map byteD (List.take (((0 : Int)).toNat + a0.length) r24)))), (.d (.int .i64 (0 : Int))), (.d (.int .i64 (0 : Int)))])), (0, (cellsO byteD r24))] from ACalls.use (F30 hmix hc.2.2.2.1 e30) [(0, 0), (1, 1)] 2 rfl) rfl rfl rfl rfl (.cons (.refl _) .nil) (.refl _) (fun h => by cases h) rfl (hasCons rfl hasNil) rfl rfl rfl rfl ?_
    refine RegV.p0 rfl rfl rfl ?_
    refine RegV.nil0 ?_
    refine AWc.seq ?_
    refine AWc.rg hmix rfl rfl ?_
    refine RegV.p0 rfl rfl rfl ?_
    obtain ⟨r36, e36, h⟩ := bind_some h
    refine RegV.callS (q := false) (H' := [(2, (.cells [(.d (.sl (List.map byteD a0))), (.d (.int .i64 (0 : Int))), (.d (.int .i64 (0 : Int)))])), (1, (.cells [(.d (.sl (List.map byteD (List.take (((0 : Int)).toNat + a0.length) r24)))), (.d (.int .i64 (0 : Int))), (.d (.int .i64 (0 : Int)))])), (0, (cellsO byteD r24))]) (c' := 3) (show ACalls P (N 44) [(.d (.sl (List.map byteD a0)))] [] (.ptr 2 0) [(2, (.cells [(.d (.sl (List.map byteD a0))), (.d (.int .i64 (0 : Int))), (.d (.int .i64 (0 : Int)))]))] from ACalls.use (F44 hmix hc.2.2.2.2.1 e36) [(0, 2)] 1 rfl) rfl rfl rfl rfl (.cons (.refl _) .nil) (.refl _) (fun h => by cases h) rfl hasNil rfl rfl rfl rfl ?_
    refine RegV.p0 rfl rfl rfl ?_
    refine RegV.nil0 ?_
    refine AWc.seq ?_
    refine AWc.seq ?_
    refine AWc.rg hmix rfl rfl ?_
    obtain ⟨r42, e42, h⟩ := bind_some h
    refine RegV.call0 (F20 hmix hc.2.1 e42) rfl rfl rfl rfl .nil rfl ?_
    refine RegV.p0 (v := (.d (.bool (!r42)))) rfl rfl rfl ?_
    refine RegV.p0 rfl rfl rfl ?_
    refine RegV.split (fun c44 => ?_) (fun c44 => ?_)
    · have h := cond_pos c44 h
      refine RegV.noS rfl rfl ?_
      refine RegV.noS rfl rfl ?_
      refine RegV.p0 rfl rfl rfl ?_
      refine RegV.p0 rfl rfl rfl ?_
      refine RegV.noS rfl rfl ?_
      refine RegV.noS rfl rfl ?_
      refine RegV.noS rfl rfl ?_
      refine RegV.noS rfl rfl ?_
      refine RegV.p0 rfl rfl rfl ?_
      refine RegV.nil0 ?_
      refine AWc.cond rfl (fun _ => ?_) (fun hc => by cases hc)
      refine AWc.seq ?_
      refine AWc.rg hmix rfl rfl ?_
      refine RegV.p0 rfl rfl rfl ?_
      refine RegV.nil0 ?_
      have hr := Option.some.inj h
      subst hr
      exact AWc.ret (canQ (N := 120) (k := 0) (l' := [(4, (.d (.bool false)))]) (H' := []) rfl ⟨rfl, [], [], rfl, rfl, ⟨⟨_, rfl, (.refl _)⟩, rfl, trivial⟩,  trivial⟩ (doneA (.inr rfl) rfl ⟨trivial, trivial⟩ (.refl _) hasNil))
    · have h := cond_neg c44 h
      refine RegV.p0 rfl rfl rfl ?_
      refine RegV.p0 (v := (.d (.bool false))) rfl rfl rfl ?_
      refine RegV.p0 rfl rfl rfl ?_
      refine RegV.p0 rfl rfl rfl ?_
      refine RegV.p0 rfl rfl rfl ?_
      refine RegV.p0 rfl rfl rfl ?_
      obtain ⟨bw0, h⟩ := gd_some h
      obtain ⟨r51, e51, h⟩ := bind_some h
      refine RegV.callS (q := true) (H' := [(0, (cellsO byteD r24)), (2, (.cells [(.d (.sl (List.map byteD a0))), (.d (.int .i64 (0 : Int))), (.d (.int .i64 (0 : Int)))])), (1, (.cells [(.d (.sl (List.map byteD (List.take (((0 : Int)).toNat + a0.length) r24)))), (.d (.int .i64 (0 : Int))), (.d (.int .i64 (0 : Int)))]))]) (c' := 3) (show ACalls P (N 29) [(.sl 0 0 (((0 : Int)).toNat + a0.length) (((IntKind.i64.wrap (((a0.length : Nat) : Int) + (3 : Int)))).toNat) 1), (.d (.sl (List.map byteD a0))), (.d (.int .u8 (71 : Int)))] [(0, (cellsO byteD r24))] (.d (.bool r51)) [(0, (cellsO byteD r24))] from ACalls.borrow (e := byteD) (xs := r24) (views := [(.win (List.map byteD r24) (((0 : Int)).toNat + a0.length)), (.d (.sl (List.map byteD a0))), (.d (.int .u8 (71 : Int)))]) (F29 hmix hc.2.2.2.2.2.1 e51) rfl byteD_ok (.inl rfl) (.cons (.win bw0) (.cons .same (.cons .same .nil))) (.cons (.refl _) (.cons (.refl _) (.cons (.refl _) .nil))) .bool) rfl rfl rfl rfl (SubL.refl _) (.refl _) (fun _ => rfl) rfl (hasCons rfl hasNil) rfl rfl rfl rfl ?_
      refine RegV.p0 (v := (.d (.bool (!r51)))) rfl rfl rfl ?_
      refine RegV.p0 rfl rfl rfl ?_
      refine RegV.nil0 ?_
      refine AWc.cond rfl (fun c54 => ?_) (fun c54 => ?_)
      · have h := cond_pos c54 h
        refine AWc.seq ?_
        refine AWc.rg hmix rfl rfl ?_
        refine RegV.p0 rfl rfl rfl ?_
        refine RegV.nil0 ?_
        have hr := Option.some.inj h
        subst hr
        exact AWc.ret (canQ (N := 120) (k := 0) (l' := [(4, (.d (.bool false)))]) (H' := []) rfl ⟨rfl, [], [], rfl, rfl, ⟨⟨_, rfl, (.refl _)⟩, rfl, trivial⟩,  trivial⟩ (doneA (.inr rfl) rfl ⟨trivial, trivial⟩ (.refl _) hasNil))
      · have h := cond_neg c54 h
        refine AWc.skip ?_
        refine AWc.seq ?_
        refine AWc.rg hmix rfl rfl ?_
        refine RegV.p0 rfl rfl rfl ?_
        obtain ⟨r65, e65, h⟩ := bind_some h
        refine RegV.callS (q := false) (H' := [(0, (cellsO byteD r65)), (2, (.cells [(.d (.sl (List.map byteD a0))), (.d (.int .i64 (0 : Int))), (.d (.int .i64 (0 : Int)))])), (1, (.cells [(.d (.sl (List.map byteD (List.take (((0 : Int)).toNat + a0.length) r24)))), (.d (.int .i64 (0 : Int))), (.d (.int .i64 (0 : Int)))]))]) (c' := 3) (show ACalls P (N 45) [(.sl 0 0 (((0 : Int)).toNat + a0.length) (((IntKind.i64.wrap (((a0.length : Nat) : Int) + (3 : Int)))).toNat) 1)] [(0, (cellsO byteD r24))] (.tup []) [(0, (cellsO byteD r65))] from ACalls.use (F45 hmix hc.2.2.2.2.2.2.1 e65) [(0, 0)] 1 rfl) rfl rfl rfl rfl (.cons (.refl _) .nil) (.refl _) (fun h => by cases h) rfl (hasCons rfl hasNil) rfl rfl rfl rfl ?_
        refine RegV.nil0 ?_
        refine AWc.seq ?_
        refine AWc.seq ?_
        refine AWc.rg hmix rfl rfl ?_
        refine RegV.p0 rfl rfl rfl ?_
        refine RegV.nil0 ?_
        obtain ⟨o71, h71, h⟩ := bind_some h
        refine AWc.block ?_
        refine AWc.loopK (N := 120) 2 (fun (x : (Int × Int × Int × Int × Int)) => [(1, (.d (.sl (List.map Tcourantlaw01_Op.enc a1)))), (6, (.ptr 0 0)), (7, (.ptr 1 0)), (8, (.d (.int .i64 x.1)))]) (fun x => [(0, (.cells [(.d (.sl (List.map byteD (List.take (((0 : Int)).toNat + a0.length) r24)))), (.d (.int .i64 x.2.1)), (.d (.int .i64 x.2.2.1))])), (1, (.cells [(.d (.sl (List.map byteD a0))), (.d (.int .i64 x.2.2.2.1)), (.d (.int .i64 x.2.2.2.2))]))]) (fun k x => f9_l71 a1 a0 r24 k x.1 x.2.1 x.2.2.1 x.2.2.2.1 x.2.2.2.2 = some o71) k ((0 : Int), (0 : Int), (0 : Int), (0 : Int), (0 : Int)) rfl_le (fun x hx => by cases hx) h71 ⟨rfl, [], [(0, 1), (1, 2)], rfl, rfl, ⟨⟨_, rfl, (.refl _)⟩, rfl, ⟨⟨_, rfl, (.refl _)⟩, rfl, ⟨⟨_, rfl, (.refl _)⟩, rfl, ⟨⟨_, rfl, (.refl _)⟩, rfl, trivial⟩⟩⟩⟩, ⟨⟨_, rfl, (.refl _)⟩, rfl, rfl, ⟨⟨_, rfl, (.refl _)⟩, rfl, rfl, trivial⟩⟩⟩ ?_
        clear h71
        intro k
        rintro ⟨y71_1, y71_2, y71_3, y71_4, y71_5⟩ h71
        dsimp only at h71 ⊢
        rw [f9_l71] at h71
        refine AWc.seq ?_
        refine AWc.seq ?_
        refine AWc.rg hmix rfl rfl ?_
        refine RegV.p0 rfl rfl rfl ?_
        refine RegV.p0 rfl rfl rfl ?_
        refine RegV.len (xs := a1) (e := Tcourantlaw01_Op.enc) rfl rfl rfl rfl ?_
        refine RegV.p0 (v := (.d (.bool (decide (y71_1 < ((a1.length : Nat) : Int)))))) rfl rfl rfl ?_
        refine RegV.p0 rfl rfl rfl ?_
        refine RegV.split (fun c81 => ?_) (fun c81 => ?_)
        · have h71 := cond_pos c81 h71
          refine RegV.p0 rfl rfl rfl ?_
          refine RegV.p0 (v := (.d (.bool (decide (y71_1 < (60 : Int)))))) rfl rfl rfl ?_
          refine RegV.p0 rfl rfl rfl ?_
          refine RegV.nil0 ?_
          refine AWc.cond rfl (fun c85 => ?_) (fun c85 => ?_)
          · have h71 := cond_pos c85 h71
            refine AWc.skip ?_
            refine AWc.seq ?_
            refine AWc.block ?_
            refine AWc.seq ?_
            refine AWc.rg hmix rfl rfl ?_
            refine RegV.p0 rfl rfl rfl ?_
            refine RegV.p0 rfl rfl rfl ?_
            obtain ⟨b95, h71⟩ := gd_some h71
            refine RegV.iad (xs := a1) (e := Tcourantlaw01_Op.enc) rfl rfl rfl rfl (fun _ => rfl) b95 rfl ?_
            refine RegV.p1 (v := (.d (Tcourantlaw01_Op.enc (rd a1 y71_1)))) rfl rfl rfl rfl rfl ?_
            refine RegV.evS (own := false) (v := (.ptr 2 0)) (H' := [(2, (.cells [(.d (.int .i64 (0 : Int))), (.d (.int .i64 (0 : Int)))])), (0, (.cells [(.d (.sl (List.map byteD (List.take (((0 : Int)).toNat + a0.length) r24)))), (.d (.int .i64 y71_2)), (.d (.int .i64 y71_3))])), (1, (.cells [(.d (.sl (List.map byteD a0))), (.d (.int .i64 y71_4)), (.d (.int .i64 y71_5))]))]) (c' := 3) rfl rfl trivial rfl rfl rfl rfl rfl rfl ?_
            refine RegV.evN (own := false) (H' := [(2, (.cells [(.d (.int .i64 (rd a1 y71_1).fKind)), (.d (.int .i64 (rd a1 y71_1).fN))])), (0, (.cells [(.d (.sl (List.map byteD (List.take (((0 : Int)).toNat + a0.length) r24)))), (.d (.int .i64 y71_2)), (.d (.int .i64 y71_3))])), (1, (.cells [(.d (.sl (List.map byteD a0))), (.d (.int .i64 y71_4)), (.d (.int .i64 y71_5))]))]) (c' := 3) rfl rfl (by exact ⟨rfl, Nat.le_of_ble_eq_true rfl, rfl⟩) rfl rfl rfl rfl ?_
            refine RegV.nil0 ?_
            refine AWc.seq ?_
            refine AWc.rg hmix rfl rfl ?_
            refine RegV.p0 rfl rfl rfl ?_
            refine RegV.nil0 ?_
            refine AWc.seqS (N := 120) 2 (fun (z : (Bool × Int × Int × Int × Int)) => [(1, (.d (.sl (List.map Tcourantlaw01_Op.enc a1)))), (6, (.ptr 0 0)), (7, (.ptr 1 0)), (8, (.d (.int .i64 y71_1))), (10, (.d (.bool z.1))), (42, (.d (.int .i64 y71_1))), (43, (.d (.bool (decide (y71_1 < (60 : Int))))))]) (fun z => [(0, (.cells [(.d (.sl (List.map byteD (List.take (((0 : Int)).toNat + a0.length) r24)))), (.d (.int .i64 z.2.1)), (.d (.int .i64 z.2.2.1))])), (1, (.cells [(.d (.sl (List.map byteD a0))), (.d (.int .i64 z.2.2.2.1)), (.d (.int .i64 z.2.2.2.2))]))]) (fun z => f9_j195 (f9_l71 a1 a0 r24 k) k a0 r24 y71_1 z.1 z.2.1 z.2.2.1 z.2.2.2.1 z.2.2.2.2 = some o71) rfl_le ?_ ?_
            · refine AWc.seq ?_
              refine AWc.rg hmix rfl rfl ?_
              refine RegV.p0 (v := (.ptr 2 0)) rfl rfl rfl ?_
              refine RegV.ld (v := (.d (.int .i64 (rd a1 y71_1).fKind))) (H' := [(2, (.cells [(.d (.int .i64 (rd a1 y71_1).fKind)), (.d (.int .i64 (rd a1 y71_1).fN))])), (0, (.cells [(.d (.sl (List.map byteD (List.take (((0 : Int)).toNat + a0.length) r24)))), (.d (.int .i64 y71_2)), (.d (.int .i64 y71_3))])), (1, (.cells [(.d (.sl (List.map byteD a0))), (.d (.int .i64 y71_4)), (.d (.int .i64 y71_5))]))]) rfl rfl trivial rfl rfl rfl rfl rfl ?_
              refine RegV.nil0 ?_
              refine AWc.block ?_
              refine AWc.seq ?_
              refine AWc.rg hmix rfl rfl ?_
              refine RegV.p0 (v := (.d (.bool (decide ((rd a1 y71_1).fKind = (0 : Int)))))) rfl rfl rfl ?_
              refine RegV.p0 rfl rfl rfl ?_
              refine RegV.nil0 ?_
              refine AWc.cond rfl (fun c115 => ?_) (fun c115 => ?_)
              · have h71 := cond_pos c115 h71
                refine AWc.rg hmix rfl rfl ?_
                refine RegV.p0 rfl rfl rfl ?_
                obtain ⟨r119, e119, h71⟩ := bind_some h71
                refine RegV.callS (q := false) (H' := [(0, (.cells [(.d (.sl (List.map byteD (List.take (((0 : Int)).toNat + a0.length) r24)))), (.d (.int .i64 r119.2.1)), (.d (.int .i64 r119.2.2))])), (2, (.cells [(.d (.int .i64 (rd a1 y71_1).fKind)), (.d (.int .i64 (rd a1 y71_1).fN))])), (1, (.cells [(.d (.sl (List.map byteD a0))), (.d (.int .i64 y71_4)), (.d (.int .i64 y71_5))]))]) (c' := 3) (show ACalls P (N 39) [(.ptr 0 0)] [(0, (.cells [(.d (.sl (List.map byteD (List.take (((0 : Int)).toNat + a0.length) r24)))), (.d (.int .i64 y71_2)), (.d (.int .i64 y71_3))]))] (.d (.int .u64 r119.1)) [(0, (.cells [(.d (.sl (List.map byteD (List.take (((0 : Int)).toNat + a0.length) r24)))), (.d (.int .i64 r119.2.1)), (.d (.int .i64 r119.2.2))]))] from ACalls.use (F39 hmix hc.2.2.2.2.2.2.2.1 e119) [(0, 0)] 1 rfl) rfl rfl rfl rfl (.cons (.refl _) .nil) (.refl _) (fun h => by cases h) rfl (hasCons rfl hasNil) rfl rfl rfl rfl ?_
                refine RegV.p0 rfl rfl rfl ?_
                obtain ⟨r121, e121, h71⟩ := bind_some h71
                refine RegV.callS (q := false) (H' := [(1, (.cells [(.d (.sl (List.map byteD a0))), (.d (.int .i64 r121.2.1)), (.d (.int .i64 r121.2.2))])), (0, (.cells [(.d (.sl (List.map byteD (List.take (((0 : Int)).toNat + a0.length) r24)))), (.d (.int .i64 r119.2.1)), (.d (.int .i64 r119.2.2))])), (2, (.cells [(.d (.int .i64 (rd a1 y71_1).fKind)), (.d (.int .i64 (rd a1 y71_1).fN))]))]) (c' := 3) (show ACalls P (N 46) [(.ptr 1 0)] [(1, (.cells [(.d (.sl (List.map byteD a0))), (.d (.int .i64 y71_4)), (.d (.int .i64 y71_5))]))] (.d (.int .u64 r121.1)) [(1, (.cells [(.d (.sl (List.map byteD a0))), (.d (.int .i64 r121.2.1)), (.d (.int .i64 r121.2.2))]))] from ACalls.use (F46 hmix hc.2.2.2.2.2.2.2.2.1 e121) [(0, 1)] 1 rfl) rfl rfl rfl rfl (.cons (.refl _) .nil) (.refl _) (fun h => by cases h) rfl (hasCons rfl hasNil) rfl rfl rfl rfl ?_
                refine RegV.p0 (v := (.d (.bool (decide (r119.1 = r121.1))))) rfl rfl rfl ?_
                refine RegV.p0 rfl rfl rfl ?_
                refine RegV.nil0 ?_
                exact ⟨((decide (r119.1 = r121.1)), r119.2.1, r119.2.2, r121.2.1, r121.2.2), h71, ⟨rfl, [], [], rfl, rfl, ⟨⟨_, rfl, (.refl _)⟩, rfl, ⟨⟨_, rfl, (.refl _)⟩, rfl, ⟨⟨_, rfl, (.refl _)⟩, rfl, ⟨⟨_, rfl, (.refl _)⟩, rfl, ⟨⟨_, rfl, (.refl _)⟩, rfl, ⟨⟨_, rfl, (.refl _)⟩, rfl, ⟨⟨_, rfl, (.refl _)⟩, rfl, trivial⟩⟩⟩⟩⟩⟩⟩, ⟨⟨_, rfl, (.refl _)⟩, rfl, rfl, ⟨⟨_, rfl, (.refl _)⟩, rfl, rfl, trivial⟩⟩⟩⟩
              · have h71 := cond_neg c115 h71
                refine AWc.seq ?_
                refine AWc.rg hmix rfl rfl ?_
                refine RegV.p0 (v := (.d (.bool (decide ((rd a1 y71_1).fKind = (1 : Int)))))) rfl rfl rfl ?_
                refine RegV.p0 rfl rfl rfl ?_
                refine RegV.nil0 ?_
                refine AWc.cond rfl (fun c129 => ?_) (fun c129 => ?_)
                · have h71 := cond_pos c129 h71
                  refine AWc.rg hmix rfl rfl ?_
                  refine RegV.p0 rfl rfl rfl ?_
                  obtain ⟨r133, e133, h71⟩ := bind_some h71
                  refine RegV.callS (q := false) (H' := [(0, (.cells [(.d (.sl (List.map byteD (List.take (((0 : Int)).toNat + a0.length) r24)))), (.d (.int .i64 r133.2.1)), (.d (.int .i64 r133.2.2))])), (2, (.cells [(.d (.int .i64 (rd a1 y71_1).fKind)), (.d (.int .i64 (rd a1 y71_1).fN))])), (1, (.cells [(.d (.sl (List.map byteD a0))), (.d (.int .i64 y71_4)), (.d (.int .i64 y71_5))]))]) (c' := 3) (show ACalls P (N 40) [(.ptr 0 0)] [(0, (.cells [(.d (.sl (List.map byteD (List.take (((0 : Int)).toNat + a0.length) r24)))), (.d (.int .i64 y71_2)), (.d (.int .i64 y71_3))]))] (.d (.int .i64 r133.1)) [(0, (.cells [(.d (.sl (List.map byteD (List.take (((0 : Int)).toNat + a0.length) r24)))), (.d (.int .i64 r133.2.1)), (.d (.int .i64 r133.2.2))]))] from ACalls.use (F40 hmix hc.2.2.2.2.2.2.2.2.2.1 e133) [(0, 0)] 1 rfl) rfl rfl rfl rfl (.cons (.refl _) .nil) (.refl _) (fun h => by cases h) rfl (hasCons rfl hasNil) rfl rfl rfl rfl ?_
                  refine RegV.p0 rfl rfl rfl ?_
                  obtain ⟨r135, e135, h71⟩ := bind_some h71
                  refine RegV.callS (q := false) (H' := [(1, (.cells [(.d (.sl (List.map byteD a0))), (.d (.int .i64 r135.2.1)), (.d (.int .i64 r135.2.2))])), (0, (.cells [(.d (.sl (List.map byteD (List.take (((0 : Int)).toNat + a0.length) r24)))), (.d (.int .i64 r133.2.1)), (.d (.int .i64 r133.2.2))])), (2, (.cells [(.d (.int .i64 (rd a1 y71_1).fKind)), (.d (.int .i64 (rd a1 y71_1).fN))]))]) (c' := 3) (show ACalls P (N 47) [(.ptr 1 0)] [(1, (.cells [(.d (.sl (List.map byteD a0))), (.d (.int .i64 y71_4)), (.d (.int .i64 y71_5))]))] (.d (.int .i64 r135.1)) [(1, (.cells [(.d (.sl (List.map byteD a0))), (.d (.int .i64 r135.2.1)), (.d (.int .i64 r135.2.2))]))] from ACalls.use (F47 hmix hc.2.2.2.2.2.2.2.2.2.2.1 e135) [(0, 1)] 1 rfl) rfl rfl rfl rfl (.cons (.refl _) .nil) (.refl _) (fun h => by cases h) rfl (hasCons rfl hasNil) rfl rfl rfl rfl ?_
                  refine RegV.p0 (v := (.d (.bool (decide (r133.1 = r135.1))))) rfl rfl rfl ?_
                  refine RegV.p0 rfl rfl rfl ?_
                  refine RegV.nil0 ?_
                  exact ⟨((decide (r133.1 = r135.1)), r133.2.1, r133.2.2, r135.2.1, r135.2.2), h71, ⟨rfl, [], [], rfl, rfl, ⟨⟨_, rfl, (.refl _)⟩, rfl, ⟨⟨_, rfl, (.refl _)⟩, rfl, ⟨⟨_, rfl, (.refl _)⟩, rfl, ⟨⟨_, rfl, (.refl _)⟩, rfl, ⟨⟨_, rfl, (.refl _)⟩, rfl, ⟨⟨_, rfl, (.refl _)⟩, rfl, ⟨⟨_, rfl, (.refl _)⟩, rfl, trivial⟩⟩⟩⟩⟩⟩⟩, ⟨⟨_, rfl, (.refl _)⟩, rfl, rfl, ⟨⟨_, rfl, (.refl _)⟩, rfl, rfl, trivial⟩⟩⟩⟩
                · have h71 := cond_neg c129 h71
                  refine AWc.seq ?_
                  refine AWc.rg hmix rfl rfl ?_
                  refine RegV.p0 (v := (.d (.bool (decide ((rd a1 y71_1).fKind = (2 : Int)))))) rfl rfl rfl ?_
                  refine RegV.p0 rfl rfl rfl ?_
                  refine RegV.nil0 ?_
                  refine AWc.cond rfl (fun c143 => ?_) (fun c143 => ?_)
                  · have h71 := cond_pos c143 h71
                    refine AWc.seq ?_
                    refine AWc.rg hmix rfl rfl ?_
                    refine RegV.p0 rfl rfl rfl ?_
                    refine RegV.p0 (v := (.ptr 2 1)) rfl rfl rfl ?_
                    refine RegV.ld (v := (.d (.int .i64 (rd a1 y71_1).fN))) (H' := [(2, (.cells [(.d (.int .i64 (rd a1 y71_1).fKind)), (.d (.int .i64 (rd a1 y71_1).fN))])), (0, (.cells [(.d (.sl (List.map byteD (List.take (((0 : Int)).toNat + a0.length) r24)))), (.d (.int .i64 y71_2)), (.d (.int .i64 y71_3))])), (1, (.cells [(.d (.sl (List.map byteD a0))), (.d (.int .i64 y71_4)), (.d (.int .i64 y71_5))]))]) rfl rfl trivial rfl rfl rfl rfl rfl ?_
                    obtain ⟨r150, e150, h71⟩ := bind_some h71
                    refine RegV.callS (q := false) (H' := [(3, (rowO byteD r150.2.1)), (0, (.cells [(.d (.sl (List.map byteD (List.take (((0 : Int)).toNat + a0.length) r24)))), (.d (.int .i64 r150.2.2.1)), (.d (.int .i64 r150.2.2.2))])), (2, (.cells [(.d (.int .i64 (rd a1 y71_1).fKind)), (.d (.int .i64 (rd a1 y71_1).fN))])), (1, (.cells [(.d (.sl (List.map byteD a0))), (.d (.int .i64 y71_4)), (.d (.int .i64 y71_5))]))]) (c' := 4) (show ACalls P (N 31) [(.ptr 0 0), (.d (.int .i64 ((rd a1 y71_1).fN)))] [(0, (.cells [(.d (.sl (List.map byteD (List.take (((0 : Int)).toNat + a0.length) r24)))), (.d (.int .i64 y71_2)), (.d (.int .i64 y71_3))]))] (.row 3 1 r150.1) [(3, (rowO byteD r150.2.1)), (0, (.cells [(.d (.sl (List.map byteD (List.take (((0 : Int)).toNat + a0.length) r24)))), (.d (.int .i64 r150.2.2.1)), (.d (.int .i64 r150.2.2.2))]))] from ACalls.use (F31 hmix hc.2.2.2.2.2.2.2.2.2.2.2.1 e150) [(0, 0), (1, 3)] 2 rfl) rfl rfl rfl rfl (.cons (.refl _) (.cons (.refl _) .nil)) (.refl _) (fun h => by cases h) rfl (hasCons rfl hasNil) rfl rfl rfl rfl ?_
                    refine RegV.p0 rfl rfl rfl ?_
                    refine RegV.nil0 ?_
                    refine AWc.seq ?_
                    refine AWc.rg hmix rfl rfl ?_
                    refine RegV.p0 rfl rfl rfl ?_
                    refine RegV.p0 rfl rfl rfl ?_
                    refine RegV.p0 (v := (.ptr 2 1)) rfl rfl rfl ?_
                    refine RegV.ld (v := (.d (.int .i64 (rd a1 y71_1).fN))) (H' := [(2, (.cells [(.d (.int .i64 (rd a1 y71_1).fKind)), (.d (.int .i64 (rd a1 y71_1).fN))])), (3, (rowO byteD r150.2.1)), (0, (.cells [(.d (.sl (List.map byteD (List.take (((0 : Int)).toNat + a0.length) r24)))), (.d (.int .i64 r150.2.2.1)), (.d (.int .i64 r150.2.2.2))])), (1, (.cells [(.d (.sl (List.map byteD a0))), (.d (.int .i64 y71_4)), (.d (.int .i64 y71_5))]))]) rfl rfl trivial rfl rfl rfl rfl rfl ?_
                    obtain ⟨r159, e159, h71⟩ := bind_some h71
                    refine RegV.callS (q := false) (H' := [(4, (.tok ((List.map byteD r159.1).length * 1))), (1, (.cells [(.d (.sl (List.map byteD a0))), (.d (.int .i64 r159.2.1)), (.d (.int .i64 r159.2.2))])), (2, (.cells [(.d (.int .i64 (rd a1 y71_1).fKind)), (.d (.int .i64 (rd a1 y71_1).fN))])), (3, (rowO byteD r150.2.1)), (0, (.cells [(.d (.sl (List.map byteD (List.take (((0 : Int)).toNat + a0.length) r24)))), (.d (.int .i64 r150.2.2.1)), (.d (.int .i64 r150.2.2.2))]))]) (c' := 5) (show ACalls P (N 48) [(.ptr 1 0), (.d (.int .i64 ((rd a1 y71_1).fN)))] [(1, (.cells [(.d (.sl (List.map byteD a0))), (.d (.int .i64 y71_4)), (.d (.int .i64 y71_5))]))] (.ap 4 1 (List.map byteD r159.1)) [(4, (.tok ((List.map byteD r159.1).length * 1))), (1, (.cells [(.d (.sl (List.map byteD a0))), (.d (.int .i64 r159.2.1)), (.d (.int .i64 r159.2.2))]))] from ACalls.use (F48 hmix hc.2.2.2.2.2.2.2.2.2.2.2.2.1 e159) [(0, 1), (1, 4)] 2 rfl) rfl rfl rfl rfl (.cons (.refl _) (.cons (.refl _) .nil)) (.refl _) (fun h => by cases h) rfl (hasCons rfl hasNil) rfl rfl rfl rfl ?_
                    obtain ⟨bw0, h71⟩ := gd_some h71
                    obtain ⟨r160, e160, h71⟩ := bind_some h71
                    refine RegV.callS (q := true) (H' := [(3, (rowO byteD r150.2.1)), (4, (.tok ((List.map byteD r159.1).length * 1))), (1, (.cells [(.d (.sl (List.map byteD a0))), (.d (.int .i64 r159.2.1)), (.d (.int .i64 r159.2.2))])), (2, (.cells [(.d (.int .i64 (rd a1 y71_1).fKind)), (.d (.int .i64 (rd a1 y71_1).fN))])), (0, (.cells [(.d (.sl (List.map byteD (List.take (((0 : Int)).toNat + a0.length) r24)))), (.d (.int .i64 r150.2.2.1)), (.d (.int .i64 r150.2.2.2))]))]) (c' := 5) (show ACalls P (N 22) [(.row 3 1 r150.1), (.ap 4 1 (List.map byteD r159.1))] [(3, (rowO byteD r150.2.1))] (.d (.bool (decide ((List.take r150.1 r150.2.1) = r159.1)))) [(3, (rowO byteD r150.2.1))] from ACalls.borrow (e := byteD) (xs := r150.2.1) (views := [(.d (.sl (List.map byteD (List.take r150.1 r150.2.1)))), (.d (.sl (List.map byteD r159.1)))]) (F22 hmix hc.2.2.2.2.2.2.2.2.2.2.2.2.2.1 e160) rfl byteD_ok (.inr rfl) (.cons (.row bw0) (.cons (.sub (.sl rfl)) .nil)) (.cons (.refl _) (.cons (.refl _) .nil)) .bool) rfl rfl rfl rfl (SubL.refl _) (.refl _) (fun _ => rfl) rfl (hasCons rfl hasNil) rfl rfl rfl rfl ?_
                    refine RegV.p0 rfl rfl rfl ?_
                    refine RegV.nil0 ?_
                    refine AWc.rg hmix rfl rfl ?_
                    refine RegV.p0 rfl rfl rfl ?_
                    obtain ⟨r165, e165, h71⟩ := bind_some h71
                    refine RegV.callS (q := false) (H' := [(3, (rowO byteD r165)), (4, (.tok ((List.map byteD r159.1).length * 1))), (1, (.cells [(.d (.sl (List.map byteD a0))), (.d (.int .i64 r159.2.1)), (.d (.int .i64 r159.2.2))])), (2, (.cells [(.d (.int .i64 (rd a1 y71_1).fKind)), (.d (.int .i64 (rd a1 y71_1).fN))])), (0, (.cells [(.d (.sl (List.map byteD (List.take (((0 : Int)).toNat + a0.length) r24)))), (.d (.int .i64 r150.2.2.1)), (.d (.int .i64 r150.2.2.2))]))]) (c' := 5) (show ACalls P (N 45) [(.row 3 1 r150.1)] [(3, (rowO byteD r150.2.1))] (.tup []) [(3, (rowO byteD r165))] from ACalls.use (F45v2 hmix hc.2.2.2.2.2.2.2.2.2.2.2.2.2.2.1 e165) [(0, 3)] 1 rfl) rfl rfl rfl rfl (.cons (.refl _) .nil) (.refl _) (fun h => by cases h) rfl (hasCons rfl hasNil) rfl rfl rfl rfl ?_
                    refine RegV.nil0 ?_
                    exact ⟨((decide ((List.take r150.1 r150.2.1) = r159.1)), r150.2.2.1, r150.2.2.2, r159.2.1, r159.2.2), h71, ⟨rfl, [], [], rfl, rfl, ⟨⟨_, rfl, (.refl _)⟩, rfl, ⟨⟨_, rfl, (.refl _)⟩, rfl, ⟨⟨_, rfl, (.refl _)⟩, rfl, ⟨⟨_, rfl, (.refl _)⟩, rfl, ⟨⟨_, rfl, (.refl _)⟩, rfl, ⟨⟨_, rfl, (.refl _)⟩, rfl, ⟨⟨_, rfl, (.refl _)⟩, rfl, trivial⟩⟩⟩⟩⟩⟩⟩, ⟨⟨_, rfl, (.refl _)⟩, rfl, rfl, ⟨⟨_, rfl, (.refl _)⟩, rfl, rfl, trivial⟩⟩⟩⟩
                  · have h71 := cond_neg c143 h71
                    refine AWc.seq ?_
                    refine AWc.rg hmix rfl rfl ?_
                    refine RegV.p0 (v := (.d (.bool (decide ((rd a1 y71_1).fKind = (3 : Int)))))) rfl rfl rfl ?_
                    refine RegV.p0 rfl rfl rfl ?_
                    refine RegV.nil0 ?_
                    refine AWc.cond rfl (fun c171 => ?_) (fun c171 => ?_)
                    · have h71 := cond_pos c171 h71
                      refine AWc.seq ?_
                      refine AWc.rg hmix rfl rfl ?_
                      refine RegV.p0 rfl rfl rfl ?_
                      refine RegV.p0 (v := (.ptr 2 1)) rfl rfl rfl ?_
                      refine RegV.ld (v := (.d (.int .i64 (rd a1 y71_1).fN))) (H' := [(2, (.cells [(.d (.int .i64 (rd a1 y71_1).fKind)), (.d (.int .i64 (rd a1 y71_1).fN))])), (0, (.cells [(.d (.sl (List.map byteD (List.take (((0 : Int)).toNat + a0.length) r24)))), (.d (.int .i64 y71_2)), (.d (.int .i64 y71_3))])), (1, (.cells [(.d (.sl (List.map byteD a0))), (.d (.int .i64 y71_4)), (.d (.int .i64 y71_5))]))]) rfl rfl trivial rfl rfl rfl rfl rfl ?_
                      obtain ⟨r178, e178, h71⟩ := bind_some h71
                      refine RegV.callS (q := false) (H' := [(3, (rowO byteD r178.2.1)), (0, (.cells [(.d (.sl (List.map byteD (List.take (((0 : Int)).toNat + a0.length) r24)))), (.d (.int .i64 r178.2.2.1)), (.d (.int .i64 r178.2.2.2))])), (2, (.cells [(.d (.int .i64 (rd a1 y71_1).fKind)), (.d (.int .i64 (rd a1 y71_1).fN))])), (1, (.cells [(.d (.sl (List.map byteD a0))), (.d (.int .i64 y71_4)), (.d (.int .i64 y71_5))]))]) (c' := 4) (show ACalls P (N 41) [(.ptr 0 0), (.d (.int .i64 ((rd a1 y71_1).fN)))] [(0, (.cells [(.d (.sl (List.map byteD (List.take (((0 : Int)).toNat + a0.length) r24)))), (.d (.int .i64 y71_2)), (.d (.int .i64 y71_3))]))] (.row 3 1 r178.1) [(3, (rowO byteD r178.2.1)), (0, (.cells [(.d (.sl (List.map byteD (List.take (((0 : Int)).toNat + a0.length) r24)))), (.d (.int .i64 r178.2.2.1)), (.d (.int .i64 r178.2.2.2))]))] from ACalls.use (F41 hmix hc.2.2.2.2.2.2.2.2.2.2.2.2.2.2.2.1 e178) [(0, 0), (1, 3)] 2 rfl) rfl rfl rfl rfl (.cons (.refl _) (.cons (.refl _) .nil)) (.refl _) (fun h => by cases h) rfl (hasCons rfl hasNil) rfl rfl rfl rfl ?_
                      refine RegV.p0 rfl rfl rfl ?_
                      refine RegV.nil0 ?_
                      refine AWc.seq ?_
                      refine AWc.rg hmix rfl rfl ?_
                      refine RegV.p0 rfl rfl rfl ?_
                      refine RegV.p0 rfl rfl rfl ?_
                      refine RegV.p0 (v := (.ptr 2 1)) rfl rfl rfl ?_
                      refine RegV.ld (v := (.d (.int .i64 (rd a1 y71_1).fN))) (H' := [(2, (.cells [(.d (.int .i64 (rd a1 y71_1).fKind)), (.d (.int .i64 (rd a1 y71_1).fN))])), (3, (rowO byteD r178.2.1)), (0, (.cells [(.d (.sl (List.map byteD (List.take (((0 : Int)).toNat + a0.length) r24)))), (.d (.int .i64 r178.2.2.1)), (.d (.int .i64 r178.2.2.2))])), (1, (.cells [(.d (.sl (List.map byteD a0))), (.d (.int .i64 y71_4)), (.d (.int .i64 y71_5))]))]) rfl rfl trivial rfl rfl rfl rfl rfl ?_
                      obtain ⟨r187, e187, h71⟩ := bind_some h71
                      refine RegV.callS (q := false) (H' := [(4, (.tok ((List.map byteD r187.1).length * 1))), (1, (.cells [(.d (.sl (List.map byteD a0))), (.d (.int .i64 r187.2.1)), (.d (.int .i64 r187.2.2))])), (2, (.cells [(.d (.int .i64 (rd a1 y71_1).fKind)), (.d (.int .i64 (rd a1 y71_1).fN))])), (3, (rowO byteD r178.2.1)), (0, (.cells [(.d (.sl (List.map byteD (List.take (((0 : Int)).toNat + a0.length) r24)))), (.d (.int .i64 r178.2.2.1)), (.d (.int .i64 r178.2.2.2))]))]) (c' := 5) (show ACalls P (N 49) [(.ptr 1 0), (.d (.int .i64 ((rd a1 y71_1).fN)))] [(1, (.cells [(.d (.sl (List.map byteD a0))), (.d (.int .i64 y71_4)), (.d (.int .i64 y71_5))]))] (.ap 4 1 (List.map byteD r187.1)) [(4, (.tok ((List.map byteD r187.1).length * 1))), (1, (.cells [(.d (.sl (List.map byteD a0))), (.d (.int .i64 r187.2.1)), (.d (.int .i64 r187.2.2))]))] from ACalls.use (F49 hmix hc.2.2.2.2.2.2.2.2.2.2.2.2.2.2.2.2.1 e187) [(0, 1), (1, 4)] 2 rfl) rfl rfl rfl rfl (.cons (.refl _) (.cons (.refl _) .nil)) (.refl _) (fun h => by cases h) rfl (hasCons rfl hasNil) rfl rfl rfl rfl ?_
                      obtain ⟨bw0, h71⟩ := gd_some h71
                      obtain ⟨r188, e188, h71⟩ := bind_some h71
                      refine RegV.callS (q := true) (H' := [(3, (rowO byteD r178.2.1)), (4, (.tok ((List.map byteD r187.1).length * 1))), (1, (.cells [(.d (.sl (List.map byteD a0))), (.d (.int .i64 r187.2.1)), (.d (.int .i64 r187.2.2))])), (2, (.cells [(.d (.int .i64 (rd a1 y71_1).fKind)), (.d (.int .i64 (rd a1 y71_1).fN))])), (0, (.cells [(.d (.sl (List.map byteD (List.take (((0 : Int)).toNat + a0.length) r24)))), (.d (.int .i64 r178.2.2.1)), (.d (.int .i64 r178.2.2.2))]))]) (c' := 5) (show ACalls P (N 22) [(.row 3 1 r178.1), (.ap 4 1 (List.map byteD r187.1))] [(3, (rowO byteD r178.2.1))] (.d (.bool (decide ((List.take r178.1 r178.2.1) = r187.1)))) [(3, (rowO byteD r178.2.1))] from ACalls.borrow (e := byteD) (xs := r178.2.1) (views := [(.d (.sl (List.map byteD (List.take r178.1 r178.2.1)))), (.d (.sl (List.map byteD r187.1)))]) (F22 hmix hc.2.2.2.2.2.2.2.2.2.2.2.2.2.1 e188) rfl byteD_ok (.inr rfl) (.cons (.row bw0) (.cons (.sub (.sl rfl)) .nil)) (.cons (.refl _) (.cons (.refl _) .nil)) .bool) rfl rfl rfl rfl (SubL.refl _) (.refl _) (fun _ => rfl) rfl (hasCons rfl hasNil) rfl rfl rfl rfl ?_
                      refine RegV.p0 rfl rfl rfl ?_
                      refine RegV.nil0 ?_
                      refine AWc.rg hmix rfl rfl ?_
                      refine RegV.p0 rfl rfl rfl ?_
                      obtain ⟨r193, e193, h71⟩ := bind_some h71
                      refine RegV.callS (q := false) (H' := [(3, (rowO byteD r193)), (4, (.tok ((List.map byteD r187.1).length * 1))), (1, (.cells [(.d (.sl (List.map byteD a0))), (.d (.int .i64 r187.2.1)), (.d (.int .i64 r187.2.2))])), (2, (.cells [(.d (.int .i64 (rd a1 y71_1).fKind)), (.d (.int .i64 (rd a1 y71_1).fN))])), (0, (.cells [(.d (.sl (List.map byteD (List.take (((0 : Int)).toNat + a0.length) r24)))), (.d (.int .i64 r178.2.2.1)), (.d (.int .i64 r178.2.2.2))]))]) (c' := 5) (show ACalls P (N 45) [(.row 3 1 r178.1)] [(3, (rowO byteD r178.2.1))] (.tup []) [(3, (rowO byteD r193))] from ACalls.use (F45v2 hmix hc.2.2.2.2.2.2.2.2.2.2.2.2.2.2.1 e193) [(0, 3)] 1 rfl) rfl rfl rfl rfl (.cons (.refl _) .nil) (.refl _) (fun h => by cases h) rfl (hasCons rfl hasNil) rfl rfl rfl rfl ?_
                      refine RegV.nil0 ?_
                      exact ⟨((decide ((List.take r178.1 r178.2.1) = r187.1)), r178.2.2.1, r178.2.2.2, r187.2.1, r187.2.2), h71, ⟨rfl, [], [], rfl, rfl, ⟨⟨_, rfl, (.refl _)⟩, rfl, ⟨⟨_, rfl, (.refl _)⟩, rfl, ⟨⟨_, rfl, (.refl _)⟩, rfl, ⟨⟨_, rfl, (.refl _)⟩, rfl, ⟨⟨_, rfl, (.refl _)⟩, rfl, ⟨⟨_, rfl, (.refl _)⟩, rfl, ⟨⟨_, rfl, (.refl _)⟩, rfl, trivial⟩⟩⟩⟩⟩⟩⟩, ⟨⟨_, rfl, (.refl _)⟩, rfl, rfl, ⟨⟨_, rfl, (.refl _)⟩, rfl, rfl, trivial⟩⟩⟩⟩
                    · have h71 := cond_neg c171 h71
                      refine AWc.skip ?_
                      exact ⟨(true, y71_2, y71_3, y71_4, y71_5), h71, ⟨rfl, [], [], rfl, rfl, ⟨⟨_, rfl, (.refl _)⟩, rfl, ⟨⟨_, rfl, (.refl _)⟩, rfl, ⟨⟨_, rfl, (.refl _)⟩, rfl, ⟨⟨_, rfl, (.refl _)⟩, rfl, ⟨⟨_, rfl, (.refl _)⟩, rfl, ⟨⟨_, rfl, (.refl _)⟩, rfl, ⟨⟨_, rfl, (.refl _)⟩, rfl, trivial⟩⟩⟩⟩⟩⟩⟩, ⟨⟨_, rfl, (.refl _)⟩, rfl, rfl, ⟨⟨_, rfl, (.refl _)⟩, rfl, rfl, trivial⟩⟩⟩⟩
            · rintro ⟨j195_1, j195_2, j195_3, j195_4, j195_5⟩ h71
              dsimp only at h71 ⊢
              unfold f9_j195 at h71
              refine AWc.seq ?_
              refine AWc.rg hmix rfl rfl ?_
              refine RegV.p0 rfl rfl rfl ?_
              refine RegV.p0 (v := (.d (.bool (!j195_1)))) rfl rfl rfl ?_
              refine RegV.p0 rfl rfl rfl ?_
              refine RegV.split (fun c200 => ?_) (fun c200 => ?_)
              · have h71 := cond_pos c200 h71
                refine RegV.noS rfl rfl ?_
                refine RegV.noS rfl rfl ?_
                refine RegV.noS rfl rfl ?_
                refine RegV.noS rfl rfl ?_
                refine RegV.noS rfl rfl ?_
                refine RegV.p0 rfl rfl rfl ?_
                refine RegV.p0 rfl rfl rfl ?_
                refine RegV.noS rfl rfl ?_
                refine RegV.noS rfl rfl ?_
                refine RegV.noS rfl rfl ?_
                refine RegV.noS rfl rfl ?_
                refine RegV.noS rfl rfl ?_
                refine RegV.noS rfl rfl ?_
                refine RegV.noS rfl rfl ?_
                refine RegV.p0 rfl rfl rfl ?_
                refine RegV.p0 rfl rfl rfl ?_
                refine RegV.noS rfl rfl ?_
                refine RegV.noS rfl rfl ?_
                refine RegV.noS rfl rfl ?_
                refine RegV.noS rfl rfl ?_
                refine RegV.noS rfl rfl ?_
                refine RegV.p0 rfl rfl rfl ?_
                refine RegV.nil1 (by kernel_rfl) ?_
                refine AWc.cond rfl (fun _ => ?_) (fun hc => by cases hc)
                refine AWc.seq ?_
                refine AWc.rg hmix rfl rfl ?_
                refine RegV.p0 rfl rfl rfl ?_
                refine RegV.nil0 ?_
                cases h71
                dsimp only at h
                have hr := Option.some.inj h
                subst hr
                exact AWc.ret (canQ (N := 120) (k := 0) (l' := [(4, (.d (.bool false)))]) (H' := []) rfl ⟨rfl, [], [], rfl, rfl, ⟨⟨_, rfl, (.refl _)⟩, rfl, trivial⟩,  trivial⟩ (doneA (.inr rfl) rfl ⟨trivial, trivial⟩ (.refl _) hasNil))
              · have h71 := cond_neg c200 h71
                refine RegV.p0 rfl rfl rfl ?_
                obtain ⟨r202, e202, h71⟩ := bind_some h71
                refine RegV.callS (q := true) (H' := [(0, (.cells [(.d (.sl (List.map byteD (List.take (((0 : Int)).toNat + a0.length) r24)))), (.d (.int .i64 j195_2)), (.d (.int .i64 j195_3))])), (1, (.cells [(.d (.sl (List.map byteD a0))), (.d (.int .i64 j195_4)), (.d (.int .i64 j195_5))]))]) (c' := 2) (show ACalls P (N 32) [(.ptr 0 0)] [(0, (.cells [(.d (.sl (List.map byteD (List.take (((0 : Int)).toNat + a0.length) r24)))), (.d (.int .i64 j195_2)), (.d (.int .i64 j195_3))]))] (.d (.int .i64 (IntKind.i64.wrap ((((List.take (((0 : Int)).toNat + a0.length) r24).length : Nat) : Int) - j195_2)))) [(0, (.cells [(.d (.sl (List.map byteD (List.take (((0 : Int)).toNat + a0.length) r24)))), (.d (.int .i64 j195_2)), (.d (.int .i64 j195_3))]))] from ACalls.use (F32 hmix hc.2.2.2.2.2.2.2.2.2.2.2.2.2.2.2.2.2.1 e202) [(0, 0)] 1 rfl) rfl rfl rfl rfl (.cons (.refl _) .nil) (.refl _) (fun _ => rfl) rfl (hasCons rfl hasNil) rfl rfl rfl rfl ?_
                refine RegV.p0 rfl rfl rfl ?_
                obtain ⟨r204, e204, h71⟩ := bind_some h71
                refine RegV.callS (q := true) (H' := [(1, (.cells [(.d (.sl (List.map byteD a0))), (.d (.int .i64 j195_4)), (.d (.int .i64 j195_5))])), (0, (.cells [(.d (.sl (List.map byteD (List.take (((0 : Int)).toNat + a0.length) r24)))), (.d (.int .i64 j195_2)), (.d (.int .i64 j195_3))]))]) (c' := 2) (show ACalls P (N 50) [(.ptr 1 0)] [(1, (.cells [(.d (.sl (List.map byteD a0))), (.d (.int .i64 j195_4)), (.d (.int .i64 j195_5))]))] (.d (.int .i64 (IntKind.i64.wrap (((a0.length : Nat) : Int) - j195_4)))) [(1, (.cells [(.d (.sl (List.map byteD a0))), (.d (.int .i64 j195_4)), (.d (.int .i64 j195_5))]))] from ACalls.use (F50 hmix hc.2.2.2.2.2.2.2.2.2.2.2.2.2.2.2.2.2.2.1 e204) [(0, 1)] 1 rfl) rfl rfl rfl rfl (.cons (.refl _) .nil) (.refl _) (fun _ => rfl) rfl (hasCons rfl hasNil) rfl rfl rfl rfl ?_
                refine RegV.p0 (v := (.d (.bool (decide ((IntKind.i64.wrap ((((List.take (((0 : Int)).toNat + a0.length) r24).length : Nat) : Int) - j195_2)) ≠ (IntKind.i64.wrap (((a0.length : Nat) : Int) - j195_4))))))) rfl rfl rfl ?_
                refine RegV.p0 rfl rfl rfl ?_
                refine RegV.p0 rfl rfl rfl ?_
                refine RegV.split (fun c207 => ?_) (fun c207 => ?_)
                · have h71 := cond_pos c207 h71
                  refine RegV.noS rfl rfl ?_
                  refine RegV.noS rfl rfl ?_
                  refine RegV.noS rfl rfl ?_
                  refine RegV.noS rfl rfl ?_
                  refine RegV.noS rfl rfl ?_
                  refine RegV.noS rfl rfl ?_
                  refine RegV.noS rfl rfl ?_
                  refine RegV.p0 rfl rfl rfl ?_
                  refine RegV.p0 rfl rfl rfl ?_
                  refine RegV.noS rfl rfl ?_
                  refine RegV.noS rfl rfl ?_
                  refine RegV.noS rfl rfl ?_
                  refine RegV.noS rfl rfl ?_
                  refine RegV.noS rfl rfl ?_
                  refine RegV.p0 rfl rfl rfl ?_
                  refine RegV.nil1 (by kernel_rfl) ?_
                  refine AWc.cond rfl (fun _ => ?_) (fun hc => by cases hc)
                  refine AWc.seq ?_
                  refine AWc.rg hmix rfl rfl ?_
                  refine RegV.p0 rfl rfl rfl ?_
                  refine RegV.nil0 ?_
                  cases h71
                  dsimp only at h
                  have hr := Option.some.inj h
                  subst hr
                  exact AWc.ret (canQ (N := 120) (k := 0) (l' := [(4, (.d (.bool false)))]) (H' := []) rfl ⟨rfl, [], [], rfl, rfl, ⟨⟨_, rfl, (.refl _)⟩, rfl, trivial⟩,  trivial⟩ (doneA (.inr rfl) rfl ⟨trivial, trivial⟩ (.refl _) hasNil))
                · have h71 := cond_neg c207 h71
                  refine RegV.p0 rfl rfl rfl ?_
                  obtain ⟨r209, e209, h71⟩ := bind_some h71
                  refine RegV.callS (q := true) (H' := [(0, (.cells [(.d (.sl (List.map byteD (List.take (((0 : Int)).toNat + a0.length) r24)))), (.d (.int .i64 j195_2)), (.d (.int .i64 j195_3))])), (1, (.cells [(.d (.sl (List.map byteD a0))), (.d (.int .i64 j195_4)), (.d (.int .i64 j195_5))]))]) (c' := 2) (show ACalls P (N 42) [(.ptr 0 0)] [(0, (.cells [(.d (.sl (List.map byteD (List.take (((0 : Int)).toNat + a0.length) r24)))), (.d (.int .i64 j195_2)), (.d (.int .i64 j195_3))]))] (.d (.int .i64 j195_3)) [(0, (.cells [(.d (.sl (List.map byteD (List.take (((0 : Int)).toNat + a0.length) r24)))), (.d (.int .i64 j195_2)), (.d (.int .i64 j195_3))]))] from ACalls.use (F42 hmix hc.2.2.2.2.2.2.2.2.2.2.2.2.2.2.2.2.2.2.2.1 e209) [(0, 0)] 1 rfl) rfl rfl rfl rfl (.cons (.refl _) .nil) (.refl _) (fun _ => rfl) rfl (hasCons rfl hasNil) rfl rfl rfl rfl ?_
                  refine RegV.p0 rfl rfl rfl ?_
                  refine RegV.p0 rfl rfl rfl ?_
                  refine RegV.p0 (v := (.ptr 1 2)) rfl rfl rfl ?_
                  refine RegV.ld (v := (.d (.int .i64 j195_5))) (H' := [(1, (.cells [(.d (.sl (List.map byteD a0))), (.d (.int .i64 j195_4)), (.d (.int .i64 j195_5))])), (0, (.cells [(.d (.sl (List.map byteD (List.take (((0 : Int)).toNat + a0.length) r24)))), (.d (.int .i64 j195_2)), (.d (.int .i64 j195_3))]))]) rfl rfl trivial rfl rfl rfl rfl rfl ?_
                  refine RegV.p0 (v := (.d (.bool (decide (j195_3 ≠ j195_5))))) rfl rfl rfl ?_
                  refine RegV.p0 rfl rfl rfl ?_
                  refine RegV.p0 rfl rfl rfl ?_
                  refine RegV.split (fun c216 => ?_) (fun c216 => ?_)
                  · have h71 := cond_pos c216 h71
                    refine RegV.noS rfl rfl ?_
                    refine RegV.noS rfl rfl ?_
                    refine RegV.noS rfl rfl ?_
                    refine RegV.noS rfl rfl ?_
                    refine RegV.noS rfl rfl ?_
                    refine RegV.p0 rfl rfl rfl ?_
                    refine RegV.nil1 (by kernel_rfl) ?_
                    refine AWc.cond rfl (fun _ => ?_) (fun hc => by cases hc)
                    refine AWc.seq ?_
                    refine AWc.rg hmix rfl rfl ?_
                    refine RegV.p0 rfl rfl rfl ?_
                    refine RegV.nil0 ?_
                    cases h71
                    dsimp only at h
                    have hr := Option.some.inj h
                    subst hr
                    exact AWc.ret (canQ (N := 120) (k := 0) (l' := [(4, (.d (.bool false)))]) (H' := []) rfl ⟨rfl, [], [], rfl, rfl, ⟨⟨_, rfl, (.refl _)⟩, rfl, trivial⟩,  trivial⟩ (doneA (.inr rfl) rfl ⟨trivial, trivial⟩ (.refl _) hasNil))
                  · have h71 := cond_neg c216 h71
                    refine RegV.p0 rfl rfl rfl ?_
                    obtain ⟨r218, e218, h71⟩ := bind_some h71
                    refine RegV.callS (q := true) (H' := [(0, (.cells [(.d (.sl (List.map byteD (List.take (((0 : Int)).toNat + a0.length) r24)))), (.d (.int .i64 j195_2)), (.d (.int .i64 j195_3))])), (1, (.cells [(.d (.sl (List.map byteD a0))), (.d (.int .i64 j195_4)), (.d (.int .i64 j195_5))]))]) (c' := 2) (show ACalls P (N 43) [(.ptr 0 0)] [(0, (.cells [(.d (.sl (List.map byteD (List.take (((0 : Int)).toNat + a0.length) r24)))), (.d (.int .i64 j195_2)), (.d (.int .i64 j195_3))]))] (.d (.int .i64 r218)) [(0, (.cells [(.d (.sl (List.map byteD (List.take (((0 : Int)).toNat + a0.length) r24)))), (.d (.int .i64 j195_2)), (.d (.int .i64 j195_3))]))] from ACalls.use (F43 hmix hc.2.2.2.2.2.2.2.2.2.2.2.2.2.2.2.2.2.2.2.2.1 e218) [(0, 0)] 1 rfl) rfl rfl rfl rfl (.cons (.refl _) .nil) (.refl _) (fun _ => rfl) rfl (hasCons rfl hasNil) rfl rfl rfl rfl ?_
                    refine RegV.p0 rfl rfl rfl ?_
                    obtain ⟨r220, e220, h71⟩ := bind_some h71
                    refine RegV.callS (q := true) (H' := [(1, (.cells [(.d (.sl (List.map byteD a0))), (.d (.int .i64 j195_4)), (.d (.int .i64 j195_5))])), (0, (.cells [(.d (.sl (List.map byteD (List.take (((0 : Int)).toNat + a0.length) r24)))), (.d (.int .i64 j195_2)), (.d (.int .i64 j195_3))]))]) (c' := 2) (show ACalls P (N 51) [(.ptr 1 0)] [(1, (.cells [(.d (.sl (List.map byteD a0))), (.d (.int .i64 j195_4)), (.d (.int .i64 j195_5))]))] (.d (.int .i64 r220)) [(1, (.cells [(.d (.sl (List.map byteD a0))), (.d (.int .i64 j195_4)), (.d (.int .i64 j195_5))]))] from ACalls.use (F51 hmix hc.2.2.2.2.2.2.2.2.2.2.2.2.2.2.2.2.2.2.2.2.2 e220) [(0, 1)] 1 rfl) rfl rfl rfl rfl (.cons (.refl _) .nil) (.refl _) (fun _ => rfl) rfl (hasCons rfl hasNil) rfl rfl rfl rfl ?_
                    refine RegV.p0 (v := (.d (.bool (decide (r218 ≠ r220))))) rfl rfl rfl ?_
                    refine RegV.p0 rfl rfl rfl ?_
                    refine RegV.nil1 (by kernel_rfl) ?_
                    refine AWc.cond rfl (fun c223 => ?_) (fun c223 => ?_)
                    · have h71 := cond_pos c223 h71
                      refine AWc.seq ?_
                      refine AWc.rg hmix rfl rfl ?_
                      refine RegV.p0 rfl rfl rfl ?_
                      refine RegV.nil0 ?_
                      cases h71
                      dsimp only at h
                      have hr := Option.some.inj h
                      subst hr
                      exact AWc.ret (canQ (N := 120) (k := 0) (l' := [(4, (.d (.bool false)))]) (H' := []) rfl ⟨rfl, [], [], rfl, rfl, ⟨⟨_, rfl, (.refl _)⟩, rfl, trivial⟩,  trivial⟩ (doneA (.inr rfl) rfl ⟨trivial, trivial⟩ (.refl _) hasNil))
                    · have h71 := cond_neg c223 h71
                      refine AWc.skip ?_
                      refine AWc.rg hmix rfl rfl ?_
                      refine RegV.p0 rfl rfl rfl ?_
                      refine RegV.p0 (v := (.d (.int .i64 (IntKind.i64.wrap (y71_1 + (1 : Int)))))) rfl rfl rfl ?_
                      refine RegV.p0 rfl rfl rfl ?_
                      refine RegV.nil0 ?_
                      exact ⟨((IntKind.i64.wrap (y71_1 + (1 : Int))), j195_2, j195_3, j195_4, j195_5), h71, ⟨rfl, [], [], rfl, rfl, ⟨⟨_, rfl, (.refl _)⟩, rfl, ⟨⟨_, rfl, (.refl _)⟩, rfl, ⟨⟨_, rfl, (.refl _)⟩, rfl, ⟨⟨_, rfl, (.refl _)⟩, rfl, trivial⟩⟩⟩⟩, ⟨⟨_, rfl, (.refl _)⟩, rfl, rfl, ⟨⟨_, rfl, (.refl _)⟩, rfl, rfl, trivial⟩⟩⟩⟩
          · have h71 := cond_neg c85 h71
            cases h71
            dsimp only at h
            refine AWc.exit ?_
            refine inBlk_eq ?_
            refine AWc.seq ?_
            refine AWc.rg hmix rfl rfl ?_
            refine RegV.p0 rfl rfl rfl ?_
            refine RegV.nil0 ?_
            have hr := Option.some.inj h
            subst hr
            exact AWc.ret (canQ (N := 120) (k := 0) (l' := [(4, (.d (.bool true)))]) (H' := []) rfl ⟨rfl, [], [], rfl, rfl, ⟨⟨_, rfl, (.refl _)⟩, rfl, trivial⟩,  trivial⟩ (doneA (.inr rfl) rfl ⟨trivial, trivial⟩ (.refl _) hasNil))
        · have h71 := cond_neg c81 h71
          refine RegV.noS rfl rfl ?_
          refine RegV.noS rfl rfl ?_
          refine RegV.p0 rfl rfl rfl ?_
          refine RegV.nil0 ?_
          refine AWc.cond rfl (fun hc => by cases hc) (fun _ => ?_)
          cases h71
          dsimp only at h
          refine AWc.exit ?_
          refine inBlk_eq ?_
          refine AWc.seq ?_
          refine AWc.rg hmix rfl rfl ?_
          refine RegV.p0 rfl rfl rfl ?_
          refine RegV.nil0 ?_
          have hr := Option.some.inj h
          subst hr
          exact AWc.ret (canQ (N := 120) (k := 0) (l' := [(4, (.d (.bool true)))]) (H' := []) rfl ⟨rfl, [], [], rfl, rfl, ⟨⟨_, rfl, (.refl _)⟩, rfl, trivial⟩,  trivial⟩ (doneA (.inr rfl) rfl ⟨trivial, trivial⟩ (.refl _) hasNil))
end Go.Proofs.Abs
