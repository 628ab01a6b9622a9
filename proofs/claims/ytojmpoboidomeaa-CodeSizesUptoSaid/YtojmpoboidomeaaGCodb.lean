/- Written by gen.py: functions of the program as Lean functions, and that the code comes to them. -/
import Derived.Test.YtojmpoboidomeaaGCod
set_option linter.unusedVariables false
set_option linter.unusedSimpArgs false
set_option maxRecDepth 100000
set_option maxHeartbeats 4000000
namespace Go.Proofs.Abs
open Go
/-- courant/courantlaw01.CodeBack -/
def C10 (N : Nat → Nat) : AFunc := { n := 99, params := 4, res := [.tmp 8], body :=
 (.seq (.region false [⟨(some 8), .mv (.k (.d (.bool false))), none, []⟩])
  (.seq (.seq (.region false [⟨(some 14), .mv (.t 2), none, []⟩,
     ⟨(some 15), .len (.t 14), none, [0]⟩,
     ⟨(some 16), .bin .gtr (.t 15) (.k (.d (.int .i64 5000))), none, [1]⟩,
     ⟨(some 17), .mv (.t 16), none, [2]⟩,
     ⟨(some 18), .mv (.t 3), (some (17, false)), [3]⟩,
     ⟨(some 19), .len (.t 18), (some (17, false)), [4, 3]⟩,
     ⟨(some 20), .bin .gtr (.t 19) (.k (.d (.int .i64 5000))), (some (17, false)), [5, 3]⟩,
     ⟨(some 21), .pick (.t 17) (.k (.d (.bool true))) (.t 20), none, [3, 6]⟩])
    (.cond (.t 21) (.seq (.region false [⟨(some 22), .call (.k (.d (.fn (N 20)))) [], none, []⟩,
       ⟨(some 8), .mv (.t 22), none, [0]⟩])
      .ret)
     (.skip)))
   (.seq (.region false [⟨(some 9), .mv (.k .nils), none, []⟩])
    (.seq (.region false [⟨(some 23), .mv (.t 9), none, []⟩,
      ⟨(some 24), .mv (.t 0), none, []⟩,
      ⟨(some 25), .call (.k (.d (.fn (N 23)))) [(.t 24)], none, [1]⟩,
      ⟨(some 26), .app (.t 23) (.t 25) 1 1 [(.int .u8 0)], none, [0, 2]⟩,
      ⟨(some 9), .mv (.t 26), none, [3, 0, 1, 2]⟩])
     (.seq (.region false [⟨(some 27), .mv (.t 9), none, []⟩,
       ⟨(some 28), .mv (.t 1), none, []⟩,
       ⟨(some 29), .call (.k (.d (.fn (N 25)))) [(.t 28)], none, [1]⟩,
       ⟨(some 30), .app (.t 27) (.t 29) 1 1 [(.int .u8 0)], none, [0, 2]⟩,
       ⟨(some 9), .mv (.t 30), none, [3, 0, 1, 2]⟩])
      (.seq (.region false [⟨(some 31), .mv (.t 9), none, []⟩,
        ⟨(some 32), .mv (.t 2), none, []⟩,
        ⟨(some 33), .call (.k (.d (.fn (N 27)))) [(.t 32)], none, [1]⟩,
        ⟨(some 34), .app (.t 31) (.t 33) 1 1 [(.int .u8 0)], none, [0, 2]⟩,
        ⟨(some 9), .mv (.t 34), none, [3, 0, 1, 2]⟩])
       (.seq (.region false [⟨(some 35), .mv (.t 9), none, []⟩,
         ⟨(some 36), .call (.k (.d (.fn (N 30)))) [(.t 35)], none, [0]⟩,
         ⟨(some 10), .mv (.t 36), none, [1, 0]⟩])
        (.seq (.seq (.region false [⟨(some 37), .call (.k (.d (.fn (N 20)))) [], none, []⟩,
           ⟨(some 38), .un .not (.t 37), none, [0]⟩,
           ⟨(some 39), .mv (.t 38), none, [1, 0]⟩,
           ⟨(some 40), .mv (.t 10), (some (39, false)), [2]⟩,
           ⟨(some 41), .nileq 1 false (.t 40) (.k (.d .nilp)), (some (39, false)), [3, 2]⟩,
           ⟨(some 42), .pick (.t 39) (.k (.d (.bool true))) (.t 41), none, [2, 4]⟩,
           ⟨(some 43), .mv (.t 42), none, [5, 2]⟩,
           ⟨(some 44), .mv (.t 10), (some (43, false)), [6]⟩,
           ⟨(some 45), .call (.k (.d (.fn (N 39)))) [(.t 44)], (some (43, false)), [7, 6]⟩,
           ⟨(some 46), .mv (.t 0), (some (43, false)), [6]⟩,
           ⟨(some 47), .bin .neq (.t 45) (.t 46), (some (43, false)), [8, 9, 6]⟩,
           ⟨(some 48), .pick (.t 43) (.k (.d (.bool true))) (.t 47), none, [6, 10]⟩,
           ⟨(some 49), .mv (.t 48), none, [11, 8]⟩,
           ⟨(some 50), .mv (.t 10), (some (49, false)), [12]⟩,
           ⟨(some 51), .call (.k (.d (.fn (N 40)))) [(.t 50)], (some (49, false)), [13, 12]⟩,
           ⟨(some 52), .mv (.t 1), (some (49, false)), [12]⟩,
           ⟨(some 53), .bin .neq (.t 51) (.t 52), (some (49, false)), [14, 15, 12]⟩,
           ⟨(some 54), .pick (.t 49) (.k (.d (.bool true))) (.t 53), none, [12, 16]⟩,
           ⟨(some 55), .mv (.t 54), none, [17, 14]⟩,
           ⟨(some 56), .mv (.t 10), (some (55, false)), [18]⟩,
           ⟨(some 57), .mv (.t 2), (some (55, false)), [18]⟩,
           ⟨(some 58), .len (.t 57), (some (55, false)), [20, 18]⟩,
           ⟨(some 59), .call (.k (.d (.fn (N 31)))) [(.t 56), (.t 58)], (some (55, false)), [19, 21, 18]⟩,
           ⟨(some 60), .mv (.t 2), (some (55, false)), [18]⟩,
           ⟨(some 61), .call (.k (.d (.fn (N 22)))) [(.t 59), (.t 60)], (some (55, false)), [22, 23, 18]⟩,
           ⟨(some 62), .un .not (.t 61), (some (55, false)), [24, 18]⟩,
           ⟨(some 63), .pick (.t 55) (.k (.d (.bool true))) (.t 62), none, [18, 25]⟩,
           ⟨(some 64), .mv (.t 63), none, [26, 24]⟩,
           ⟨(some 65), .mv (.t 10), (some (64, false)), [27]⟩,
           ⟨(some 66), .call (.k (.d (.fn (N 43)))) [(.t 65)], (some (64, false)), [28, 27]⟩,
           ⟨(some 67), .bin .neq (.t 66) (.k (.d (.int .i64 0))), (some (64, false)), [29, 27]⟩,
           ⟨(some 68), .pick (.t 64) (.k (.d (.bool true))) (.t 67), none, [27, 30]⟩])
          (.cond (.t 68) (.seq (.region false [⟨(some 8), .mv (.k (.d (.bool false))), none, []⟩])
            .ret)
           (.skip)))
         (.seq (.region false [⟨(some 69), .mv (.t 3), none, []⟩,
           ⟨(some 70), .call (.k (.d (.fn (N 30)))) [(.t 69)], none, [0]⟩,
           ⟨(some 11), .mv (.t 70), none, [1, 0]⟩])
          (.seq (.region false [⟨(some 71), .mv (.t 11), none, []⟩,
            ⟨(some 72), .call (.k (.d (.fn (N 40)))) [(.t 71)], none, [0]⟩,
            ⟨(some 12), .mv (.t 72), none, [1, 0]⟩])
           (.seq (.region false [⟨(some 73), .mv (.t 3), none, []⟩,
             ⟨(some 74), .len (.t 73), none, [0]⟩,
             ⟨(some 75), .mv (.t 11), none, []⟩,
             ⟨(some 76), .call (.k (.d (.fn (N 32)))) [(.t 75)], none, [2]⟩,
             ⟨(some 77), .bin .sub (.t 74) (.t 76), none, [1, 3]⟩,
             ⟨(some 13), .mv (.t 77), none, [4, 3, 0, 1, 2]⟩])
            (.seq (.region true [⟨(some 78), .mv (.t 11), none, []⟩,
              ⟨(some 79), .call (.k (.d (.fn (N 42)))) [(.t 78)], none, [0]⟩,
              ⟨(some 80), .bin .neq (.t 79) (.k (.d (.int .i64 0))), none, [1]⟩,
              ⟨(some 81), .mv (.t 80), none, [2, 1]⟩,
              ⟨(some 82), .mv (.t 13), (some (81, false)), [3]⟩,
              ⟨(some 83), .bin .geq (.t 82) (.k (.d (.int .i64 0))), (some (81, false)), [4, 3]⟩,
              ⟨(some 84), .mv (.t 83), (some (81, false)), [5, 3]⟩,
              ⟨(some 85), .mv (.t 13), (some (84, true)), [6]⟩,
              ⟨(some 86), .mv (.t 3), (some (84, true)), [6]⟩,
              ⟨(some 87), .len (.t 86), (some (84, true)), [8, 6]⟩,
              ⟨(some 88), .bin .leq (.t 85) (.t 87), (some (84, true)), [7, 9, 6]⟩,
              ⟨(some 89), .pick (.t 84) (.t 88) (.k (.d (.bool false))), (some (81, false)), [6, 10, 3]⟩,
              ⟨(some 90), .mv (.t 89), (some (81, false)), [11, 6, 3]⟩,
              ⟨(some 91), .mv (.t 12), (some (90, true)), [12]⟩,
              ⟨(some 92), .call (.k (.d (.fn (N 25)))) [(.t 91)], (some (90, true)), [13, 12]⟩,
              ⟨(some 93), .mv (.t 3), (some (90, true)), [12]⟩,
              ⟨(some 94), .mv (.t 13), (some (90, true)), [12]⟩,
              ⟨(some 95), .slc (.t 93) none (some (.t 94)) none 1, (some (90, true)), [15, 16, 12]⟩,
              ⟨(some 96), .call (.k (.d (.fn (N 22)))) [(.t 92), (.t 95)], (some (90, true)), [14, 17, 12]⟩,
              ⟨(some 97), .pick (.t 90) (.t 96) (.k (.d (.bool false))), (some (81, false)), [12, 18, 3]⟩,
              ⟨(some 98), .pick (.t 81) (.k (.d (.bool true))) (.t 97), none, [3, 19]⟩,
              ⟨(some 8), .mv (.t 98), none, [20, 18, 0, 1, 2, 3, 4, 5, 6, 7, 8, 9, 10, 11, 12, 13, 14, 15, 16, 17, 19]⟩])
             .ret)))))))))))) }
def HC10 (P : Program) (N : Nat → Nat) : Prop := HasF P (N 10) (C10 N) ∧ HC20 P N ∧ HC23 P N ∧ HC25 P N ∧ HC27 P N ∧ HC30 P N ∧ HC39 P N ∧ HC40 P N ∧ HC31 P N ∧ HC22 P N ∧ HC43 P N ∧ HC32 P N ∧ HC42 P N
def f10 (k : Nat) (a0 : Int) (a1 : Int) (a2 : (List UInt8)) (a3 : (List UInt8)) : Option Bool := cond (decide (((a2.length : Nat) : Int) > (5000 : Int))) ((f20 k).bind fun r21 => some r21) (cond (decide (((a3.length : Nat) : Int) > (5000 : Int))) ((f20 k).bind fun r21 => some r21) ((f23 k a0).bind fun r34 => gd (r34.length * 1 ≤ 281474976710656) ((f25 k a1).bind fun r42 => gd ((r34.length + r42.length) * 2 * 1 ≤ 281474976710656) ((f27 k a2).bind fun r50 => gd (((r34 ++ r42).length + r50.length) * 2 * 1 ≤ 281474976710656) ((f30 k ((r34 ++ r42) ++ r50)).bind fun r57 => (f20 k).bind fun r63 => cond (!r63) (some false) ((f39 k ((r34 ++ r42) ++ r50) (0 : Int) (0 : Int)).bind fun r71 => cond (decide (r71.1 ≠ a0)) (some false) ((f40 k ((r34 ++ r42) ++ r50) r71.2.1 r71.2.2).bind fun r77 => cond (decide (r77.1 ≠ a1)) (some false) ((f31 k ((r34 ++ r42) ++ r50) r77.2.1 r77.2.2 ((a2.length : Nat) : Int)).bind fun r85 => (f22 k r85.1 a2).bind fun r87 => cond (!(decide (r85.1 = a2))) (some false) ((f43 k ((r34 ++ r42) ++ r50) r85.2.1 r85.2.2).bind fun r92 => cond (decide (r92 ≠ (0 : Int))) (some false) ((f30 k a3).bind fun r106 => (f40 k a3 (0 : Int) (0 : Int)).bind fun r112 => (f32 k a3 r112.2.1 r112.2.2).bind fun r120 => (f42 k a3 r112.2.1 r112.2.2).bind fun r127 => cond (decide (r112.2.2 ≠ (0 : Int))) (some true) (cond (decide ((IntKind.i64.wrap (((a3.length : Nat) : Int) - (IntKind.i64.wrap (((a3.length : Nat) : Int) - r112.2.1)))) ≥ (0 : Int))) (cond (decide ((IntKind.i64.wrap (((a3.length : Nat) : Int) - (IntKind.i64.wrap (((a3.length : Nat) : Int) - r112.2.1)))) ≤ ((a3.length : Nat) : Int))) ((f25 k r112.1).bind fun r140 => gd (0 ≤ (0 : Int) ∧ (0 : Int) ≤ (IntKind.i64.wrap (((a3.length : Nat) : Int) - (IntKind.i64.wrap (((a3.length : Nat) : Int) - r112.2.1)))) ∧ (IntKind.i64.wrap (((a3.length : Nat) : Int) - (IntKind.i64.wrap (((a3.length : Nat) : Int) - r112.2.1)))) ≤ ((a3.length : Nat) : Int)) ((f22 k r140 (sl a3 (0 : Int) (IntKind.i64.wrap (((a3.length : Nat) : Int) - (IntKind.i64.wrap (((a3.length : Nat) : Int) - r112.2.1)))))).bind fun r144 => some (decide (r140 = (sl a3 (0 : Int) (IntKind.i64.wrap (((a3.length : Nat) : Int) - (IntKind.i64.wrap (((a3.length : Nat) : Int) - r112.2.1))))))))) (some false)) (some false))))))))))))
theorem F10 {P : Program} {N : Nat → Nat} (hmix : P.follows .mixedOrders = true) (hc : HC10 P N) {k : Nat} {a0 : Int} {a1 : Int} {a2 : (List UInt8)} {a3 : (List UInt8)} {r : Bool} (h : f10 k a0 a1 a2 a3 = some r) :
    ACalls P (N 10) [(.d (.int .u64 a0)), (.d (.int .i64 a1)), (.d (.sl (List.map byteD a2))), (.d (.sl (List.map byteD a3)))] [] (.d (.bool r)) [] := by
  refine acalls_canon (F := C10 N) hc.1 0 0 rfl ?_
  unfold f10 at h
  dsimp only [C10, startL]
  refine AWc.seq ?_
  refine AWc.rg hmix rfl rfl ?_
  refine RegV.p0 rfl rfl rfl ?_
  refine RegV.nil0 ?_
  refine AWc.seq ?_
  refine AWc.seq ?_
  refine AWc.rg hmix rfl rfl ?_
  refine RegV.p0 rfl rfl rfl ?_
  refine RegV.len (xs := a2) (e := byteD) rfl rfl rfl rfl ?_
  refine RegV.p0 (v := (.d (.bool (decide (((a2.length : Nat) : Int) > (5000 : Int)))))) rfl rfl rfl ?_
  refine RegV.p0 rfl rfl rfl ?_
  refine RegV.split (fun c12 => ?_) (fun c12 => ?_)
  · have h := cond_pos c12 h
    refine RegV.noS rfl rfl ?_
    refine RegV.noS rfl rfl ?_
    refine RegV.noS rfl rfl ?_
    refine RegV.p0 rfl rfl rfl ?_
    refine RegV.nil0 ?_
    refine AWc.cond rfl (fun _ => ?_) (fun hc => by cases hc)
    refine AWc.seq ?_
    refine AWc.rg hmix rfl rfl ?_
    obtain ⟨r21, e21, h⟩ := bind_some h
    refine RegV.call0 (F20 hmix hc.2.1 e21) rfl rfl rfl rfl .nil rfl ?_
    refine RegV.p0 rfl rfl rfl ?_
    refine RegV.nil0 ?_
    have hr := Option.some.inj h
    subst hr
    exact AWc.ret (canQ (N := 99) (k := 0) (l' := [(8, (.d (.bool r21)))]) (H' := []) rfl ⟨rfl, [], [], rfl, rfl, ⟨⟨_, rfl, (.refl _)⟩, rfl, trivial⟩,  trivial⟩ (doneA (.inr rfl) rfl ⟨trivial, trivial⟩ (.refl _) hasNil))
  · have h := cond_neg c12 h
    refine RegV.p0 rfl rfl rfl ?_
    refine RegV.len (xs := a3) (e := byteD) rfl rfl rfl rfl ?_
    refine RegV.p0 (v := (.d (.bool (decide (((a3.length : Nat) : Int) > (5000 : Int)))))) rfl rfl rfl ?_
    refine RegV.p0 rfl rfl rfl ?_
    refine RegV.nil0 ?_
    refine AWc.cond rfl (fun c17 => ?_) (fun c17 => ?_)
    · have h := cond_pos c17 h
      refine AWc.seq ?_
      refine AWc.rg hmix rfl rfl ?_
      obtain ⟨r21, e21, h⟩ := bind_some h
      refine RegV.call0 (F20 hmix hc.2.1 e21) rfl rfl rfl rfl .nil rfl ?_
      refine RegV.p0 rfl rfl rfl ?_
      refine RegV.nil0 ?_
      have hr := Option.some.inj h
      subst hr
      exact AWc.ret (canQ (N := 99) (k := 0) (l' := [(8, (.d (.bool r21)))]) (H' := []) rfl ⟨rfl, [], [], rfl, rfl, ⟨⟨_, rfl, (.refl _)⟩, rfl, trivial⟩,  trivial⟩ (doneA (.inr rfl) rfl ⟨trivial, trivial⟩ (.refl _) hasNil))
    · have h := cond_neg c17 h
      refine AWc.skip ?_
      refine AWc.seq ?_
      refine AWc.rg hmix rfl rfl ?_
      refine RegV.p0 rfl rfl rfl ?_
      refine RegV.nil0 ?_
      refine AWc.seq ?_
      refine AWc.rg hmix rfl rfl ?_
      refine RegV.p0 rfl rfl rfl ?_
      refine RegV.p0 rfl rfl rfl ?_
      obtain ⟨r34, e34, h⟩ := bind_some h
      refine RegV.callS (q := false) (H' := [(0, (.tok ((List.map byteD r34).length * 1)))]) (c' := 1) (show ACalls P (N 23) [(.d (.int .u64 a0))] [] (.ap 0 1 (List.map byteD r34)) [(0, (.tok ((List.map byteD r34).length * 1)))] from ACalls.use (F23 hmix hc.2.2.1 e34) [(0, 0)] 1 rfl) rfl rfl rfl rfl (.cons (.refl _) .nil) (.refl _) (fun h => by cases h) rfl hasNil rfl rfl rfl rfl ?_
      obtain ⟨b35, h⟩ := gd_some h
      refine RegV.appN (ys := r34) (e := byteD) rfl rfl rfl (fun _ => rfl) rfl rfl b35 rfl rfl ?_
      refine RegV.p0 rfl rfl rfl ?_
      refine RegV.nil0 ?_
      refine AWc.seq ?_
      refine AWc.rg hmix rfl rfl ?_
      refine RegV.p0 rfl rfl rfl ?_
      refine RegV.p0 rfl rfl rfl ?_
      obtain ⟨r42, e42, h⟩ := bind_some h
      refine RegV.callS (q := false) (H' := [(2, (.tok ((List.map byteD r42).length * 1))), (1, (.tok ((List.map byteD r34).length * 1))), (0, (.tok ((List.map byteD r34).length * 1)))]) (c' := 3) (show ACalls P (N 25) [(.d (.int .i64 a1))] [] (.ap 2 1 (List.map byteD r42)) [(2, (.tok ((List.map byteD r42).length * 1)))] from ACalls.use (F25 hmix hc.2.2.2.1 e42) [(0, 2)] 1 rfl) rfl rfl rfl rfl (.cons (.refl _) .nil) (.refl _) (fun h => by cases h) rfl hasNil rfl rfl rfl rfl ?_
      obtain ⟨b43, h⟩ := gd_some h
      refine RegV.appA (xs := r34) (ys := r42) (e := byteD) (H1 := [(2, (.tok ((List.map byteD r42).length * 1))), (0, (.tok ((List.map byteD r34).length * 1)))]) rfl rfl rfl rfl (fun _ => rfl) rfl rfl b43 rfl rfl rfl ?_
      refine RegV.p0 rfl rfl rfl ?_
      refine RegV.nil0 ?_
      refine AWc.seq ?_
      refine AWc.rg hmix rfl rfl ?_
      refine RegV.p0 rfl rfl rfl ?_
      refine RegV.p0 rfl rfl rfl ?_
      obtain ⟨r50, e50, h⟩ := bind_some h
      refine RegV.callS (q := false) (H' := [(4, (.tok ((List.map byteD r50).length * 1))), (3, (.tok ((List.map byteD (r34 ++ r42)).length * 1))), (2, (.tok ((List.map byteD r42).length * 1))), (0, (.tok ((List.map byteD r34).length * 1)))]) (c' := 5) (show ACalls P (N 27) [(.d (.sl (List.map byteD a2)))] [] (.ap 4 1 (List.map byteD r50)) [(4, (.tok ((List.map byteD r50).length * 1)))] from ACalls.use (F27 hmix hc.2.2.2.2.1 e50) [(0, 4)] 1 rfl) rfl rfl rfl rfl (.cons (.refl _) .nil) (.refl _) (fun h => by cases h) rfl hasNil rfl rfl rfl rfl ?_
      obtain ⟨b51, h⟩ := gd_some h
      refine RegV.appA (xs := (r34 ++ r42)) (ys := r50) (e := byteD) (H1 := [(4, (.tok ((List.map byteD r50).length * 1))), (2, (.tok ((List.map byteD r42).length * 1))), (0, (.tok ((List.map byteD r34).length * 1)))]) rfl rfl rfl rfl (fun _ => rfl) rfl rfl b51 rfl rfl rfl ?_
      refine RegV.p0 rfl rfl rfl ?_
      refine RegV.nil0 ?_
      refine AWc.seq ?_
      refine AWc.rg hmix rfl rfl ?_
      refine RegV.p0 rfl rfl rfl ?_
      obtain ⟨r57, e57, h⟩ := bind_some h
      refine RegV.callS (q := false) (H' := [(6, (.cells [(.d (.sl (List.map byteD ((r34 ++ r42) ++ r50)))), (.d (.int .i64 (0 : Int))), (.d (.int .i64 (0 : Int)))])), (5, (.tok ((List.map byteD ((r34 ++ r42) ++ r50)).length * 1))), (4, (.tok ((List.map byteD r50).length * 1))), (2, (.tok ((List.map byteD r42).length * 1))), (0, (.tok ((List.map byteD r34).length * 1)))]) (c' := 7) (show ACalls P (N 30) [(.d (.sl (List.map byteD ((r34 ++ r42) ++ r50))))] [] (.ptr 6 0) [(6, (.cells [(.d (.sl (List.map byteD ((r34 ++ r42) ++ r50)))), (.d (.int .i64 (0 : Int))), (.d (.int .i64 (0 : Int)))]))] from ACalls.use (F30 hmix hc.2.2.2.2.2.1 e57) [(0, 6)] 1 rfl) rfl rfl rfl rfl (.cons (.sl rfl) .nil) (.refl _) (fun h => by cases h) rfl hasNil rfl rfl rfl rfl ?_
      refine RegV.p0 rfl rfl rfl ?_
      refine RegV.nil0 ?_
      refine AWc.seq ?_
      refine AWc.seq ?_
      refine AWc.rg hmix rfl rfl ?_
      obtain ⟨r63, e63, h⟩ := bind_some h
      refine RegV.call0 (F20 hmix hc.2.1 e63) rfl rfl rfl rfl .nil rfl ?_
      refine RegV.p0 (v := (.d (.bool (!r63)))) rfl rfl rfl ?_
      refine RegV.p0 rfl rfl rfl ?_
      refine RegV.split (fun c65 => ?_) (fun c65 => ?_)
      · have h := cond_pos c65 h
        refine RegV.noS rfl rfl ?_
        refine RegV.noS rfl rfl ?_
        refine RegV.p0 rfl rfl rfl ?_
        refine RegV.p0 rfl rfl rfl ?_
        refine RegV.noS rfl rfl ?_
        refine RegV.noS rfl rfl ?_
        refine RegV.noS rfl rfl ?_
        refine RegV.noS rfl rfl ?_
        refine RegV.p0 rfl rfl rfl ?_
        refine RegV.p0 rfl rfl rfl ?_
        refine RegV.noS rfl rfl ?_
        refine RegV.noS rfl rfl ?_
        refine RegV.noS rfl rfl ?_
        refine RegV.noS rfl rfl ?_
        refine RegV.p0 rfl rfl rfl ?_
        refine RegV.p0 rfl rfl rfl ?_
        refine RegV.noS rfl rfl ?_
        refine RegV.noS rfl rfl ?_
        refine RegV.noS rfl rfl ?_
        refine RegV.noS rfl rfl ?_
        refine RegV.noS rfl rfl ?_
        refine RegV.noS rfl rfl ?_
        refine RegV.noS rfl rfl ?_
        refine RegV.p0 rfl rfl rfl ?_
        refine RegV.p0 rfl rfl rfl ?_
        refine RegV.noS rfl rfl ?_
        refine RegV.noS rfl rfl ?_
        refine RegV.noS rfl rfl ?_
        refine RegV.p0 rfl rfl rfl ?_
        refine RegV.nil0 ?_
        refine AWc.cond rfl (fun _ => ?_) (fun hc => by cases hc)
        refine AWc.seq ?_
        refine AWc.rg hmix rfl rfl ?_
        refine RegV.p0 rfl rfl rfl ?_
        refine RegV.nil0 ?_
        have hr := Option.some.inj h
        subst hr
        exact AWc.ret (canQ (N := 99) (k := 0) (l' := [(8, (.d (.bool false)))]) (H' := []) rfl ⟨rfl, [], [], rfl, rfl, ⟨⟨_, rfl, (.refl _)⟩, rfl, trivial⟩,  trivial⟩ (doneA (.inr rfl) rfl ⟨trivial, trivial⟩ (.refl _) hasNil))
      · have h := cond_neg c65 h
        refine RegV.p0 rfl rfl rfl ?_
        refine RegV.p0 (v := (.d (.bool false))) rfl rfl rfl ?_
        refine RegV.p0 rfl rfl rfl ?_
        refine RegV.p0 rfl rfl rfl ?_
        refine RegV.p0 rfl rfl rfl ?_
        obtain ⟨r71, e71, h⟩ := bind_some h
        refine RegV.callS (q := false) (H' := [(6, (.cells [(.d (.sl (List.map byteD ((r34 ++ r42) ++ r50)))), (.d (.int .i64 r71.2.1)), (.d (.int .i64 r71.2.2))])), (5, (.tok ((List.map byteD ((r34 ++ r42) ++ r50)).length * 1))), (4, (.tok ((List.map byteD r50).length * 1))), (2, (.tok ((List.map byteD r42).length * 1))), (0, (.tok ((List.map byteD r34).length * 1)))]) (c' := 7) (show ACalls P (N 39) [(.ptr 6 0)] [(6, (.cells [(.d (.sl (List.map byteD ((r34 ++ r42) ++ r50)))), (.d (.int .i64 (0 : Int))), (.d (.int .i64 (0 : Int)))]))] (.d (.int .u64 r71.1)) [(6, (.cells [(.d (.sl (List.map byteD ((r34 ++ r42) ++ r50)))), (.d (.int .i64 r71.2.1)), (.d (.int .i64 r71.2.2))]))] from ACalls.use (F39 hmix hc.2.2.2.2.2.2.1 e71) [(0, 6)] 1 rfl) rfl rfl rfl rfl (.cons (.refl _) .nil) (.refl _) (fun h => by cases h) rfl (hasCons rfl hasNil) rfl rfl rfl rfl ?_
        refine RegV.p0 rfl rfl rfl ?_
        refine RegV.p0 (v := (.d (.bool (decide (r71.1 ≠ a0))))) rfl rfl rfl ?_
        refine RegV.p0 rfl rfl rfl ?_
        refine RegV.p0 rfl rfl rfl ?_
        refine RegV.split (fun c75 => ?_) (fun c75 => ?_)
        · have h := cond_pos c75 h
          refine RegV.noS rfl rfl ?_
          refine RegV.noS rfl rfl ?_
          refine RegV.noS rfl rfl ?_
          refine RegV.noS rfl rfl ?_
          refine RegV.p0 rfl rfl rfl ?_
          refine RegV.p0 rfl rfl rfl ?_
          refine RegV.noS rfl rfl ?_
          refine RegV.noS rfl rfl ?_
          refine RegV.noS rfl rfl ?_
          refine RegV.noS rfl rfl ?_
          refine RegV.noS rfl rfl ?_
          refine RegV.noS rfl rfl ?_
          refine RegV.noS rfl rfl ?_
          refine RegV.p0 rfl rfl rfl ?_
          refine RegV.p0 rfl rfl rfl ?_
          refine RegV.noS rfl rfl ?_
          refine RegV.noS rfl rfl ?_
          refine RegV.noS rfl rfl ?_
          refine RegV.p0 rfl rfl rfl ?_
          refine RegV.nil0 ?_
          refine AWc.cond rfl (fun _ => ?_) (fun hc => by cases hc)
          refine AWc.seq ?_
          refine AWc.rg hmix rfl rfl ?_
          refine RegV.p0 rfl rfl rfl ?_
          refine RegV.nil0 ?_
          have hr := Option.some.inj h
          subst hr
          exact AWc.ret (canQ (N := 99) (k := 0) (l' := [(8, (.d (.bool false)))]) (H' := []) rfl ⟨rfl, [], [], rfl, rfl, ⟨⟨_, rfl, (.refl _)⟩, rfl, trivial⟩,  trivial⟩ (doneA (.inr rfl) rfl ⟨trivial, trivial⟩ (.refl _) hasNil))
        · have h := cond_neg c75 h
          refine RegV.p0 rfl rfl rfl ?_
          obtain ⟨r77, e77, h⟩ := bind_some h
          refine RegV.callS (q := false) (H' := [(6, (.cells [(.d (.sl (List.map byteD ((r34 ++ r42) ++ r50)))), (.d (.int .i64 r77.2.1)), (.d (.int .i64 r77.2.2))])), (5, (.tok ((List.map byteD ((r34 ++ r42) ++ r50)).length * 1))), (4, (.tok ((List.map byteD r50).length * 1))), (2, (.tok ((List.map byteD r42).length * 1))), (0, (.tok ((List.map byteD r34).length * 1)))]) (c' := 7) (show ACalls P (N 40) [(.ptr 6 0)] [(6, (.cells [(.d (.sl (List.map byteD ((r34 ++ r42) ++ r50)))), (.d (.int .i64 r71.2.1)), (.d (.int .i64 r71.2.2))]))] (.d (.int .i64 r77.1)) [(6, (.cells [(.d (.sl (List.map byteD ((r34 ++ r42) ++ r50)))), (.d (.int .i64 r77.2.1)), (.d (.int .i64 r77.2.2))]))] from ACalls.use (F40 hmix hc.2.2.2.2.2.2.2.1 e77) [(0, 6)] 1 rfl) rfl rfl rfl rfl (.cons (.refl _) .nil) (.refl _) (fun h => by cases h) rfl (hasCons rfl hasNil) rfl rfl rfl rfl ?_
          refine RegV.p0 rfl rfl rfl ?_
          refine RegV.p0 (v := (.d (.bool (decide (r77.1 ≠ a1))))) rfl rfl rfl ?_
          refine RegV.p0 rfl rfl rfl ?_
          refine RegV.p0 rfl rfl rfl ?_
          refine RegV.split (fun c81 => ?_) (fun c81 => ?_)
          · have h := cond_pos c81 h
            refine RegV.noS rfl rfl ?_
            refine RegV.noS rfl rfl ?_
            refine RegV.noS rfl rfl ?_
            refine RegV.noS rfl rfl ?_
            refine RegV.noS rfl rfl ?_
            refine RegV.noS rfl rfl ?_
            refine RegV.noS rfl rfl ?_
            refine RegV.p0 rfl rfl rfl ?_
            refine RegV.p0 rfl rfl rfl ?_
            refine RegV.noS rfl rfl ?_
            refine RegV.noS rfl rfl ?_
            refine RegV.noS rfl rfl ?_
            refine RegV.p0 rfl rfl rfl ?_
            refine RegV.nil0 ?_
            refine AWc.cond rfl (fun _ => ?_) (fun hc => by cases hc)
            refine AWc.seq ?_
            refine AWc.rg hmix rfl rfl ?_
            refine RegV.p0 rfl rfl rfl ?_
            refine RegV.nil0 ?_
            have hr := Option.some.inj h
            subst hr
            exact AWc.ret (canQ (N := 99) (k := 0) (l' := [(8, (.d (.bool false)))]) (H' := []) rfl ⟨rfl, [], [], rfl, rfl, ⟨⟨_, rfl, (.refl _)⟩, rfl, trivial⟩,  trivial⟩ (doneA (.inr rfl) rfl ⟨trivial, trivial⟩ (.refl _) hasNil))
          · have h := cond_neg c81 h
            refine RegV.p0 rfl rfl rfl ?_
            refine RegV.p0 rfl rfl rfl ?_
            refine RegV.len (xs := a2) (e := byteD) rfl rfl rfl rfl ?_
            obtain ⟨r85, e85, h⟩ := bind_some h
            refine RegV.callS (q := false) (H' := [(7, (.tok ((List.map byteD r85.1).length * 1))), (6, (.cells [(.d (.sl (List.map byteD ((r34 ++ r42) ++ r50)))), (.d (.int .i64 r85.2.1)), (.d (.int .i64 r85.2.2))])), (5, (.tok ((List.map byteD ((r34 ++ r42) ++ r50)).length * 1))), (4, (.tok ((List.map byteD r50).length * 1))), (2, (.tok ((List.map byteD r42).length * 1))), (0, (.tok ((List.map byteD r34).length * 1)))]) (c' := 8) (show ACalls P (N 31) [(.ptr 6 0), (.d (.int .i64 ((a2.length : Nat) : Int)))] [(6, (.cells [(.d (.sl (List.map byteD ((r34 ++ r42) ++ r50)))), (.d (.int .i64 r77.2.1)), (.d (.int .i64 r77.2.2))]))] (.ap 7 1 (List.map byteD r85.1)) [(7, (.tok ((List.map byteD r85.1).length * 1))), (6, (.cells [(.d (.sl (List.map byteD ((r34 ++ r42) ++ r50)))), (.d (.int .i64 r85.2.1)), (.d (.int .i64 r85.2.2))]))] from ACalls.use (F31 hmix hc.2.2.2.2.2.2.2.2.1 e85) [(0, 6), (1, 7)] 2 rfl) rfl rfl rfl rfl (.cons (.refl _) (.cons (.refl _) .nil)) (.refl _) (fun h => by cases h) rfl (hasCons rfl hasNil) rfl rfl rfl rfl ?_
            refine RegV.p0 rfl rfl rfl ?_
            obtain ⟨r87, e87, h⟩ := bind_some h
            refine RegV.call0 (F22 hmix hc.2.2.2.2.2.2.2.2.2.1 e87) rfl rfl rfl rfl (.cons (.sl rfl) (.cons (.refl _) .nil)) rfl ?_
            refine RegV.p0 (v := (.d (.bool (!(decide (r85.1 = a2)))))) rfl rfl rfl ?_
            refine RegV.p0 rfl rfl rfl ?_
            refine RegV.p0 rfl rfl rfl ?_
            refine RegV.split (fun c90 => ?_) (fun c90 => ?_)
            · have h := cond_pos c90 h
              refine RegV.noS rfl rfl ?_
              refine RegV.noS rfl rfl ?_
              refine RegV.noS rfl rfl ?_
              refine RegV.p0 rfl rfl rfl ?_
              refine RegV.nil0 ?_
              refine AWc.cond rfl (fun _ => ?_) (fun hc => by cases hc)
              refine AWc.seq ?_
              refine AWc.rg hmix rfl rfl ?_
              refine RegV.p0 rfl rfl rfl ?_
              refine RegV.nil0 ?_
              have hr := Option.some.inj h
              subst hr
              exact AWc.ret (canQ (N := 99) (k := 0) (l' := [(8, (.d (.bool false)))]) (H' := []) rfl ⟨rfl, [], [], rfl, rfl, ⟨⟨_, rfl, (.refl _)⟩, rfl, trivial⟩,  trivial⟩ (doneA (.inr rfl) rfl ⟨trivial, trivial⟩ (.refl _) hasNil))
            · have h := cond_neg c90 h
              refine RegV.p0 rfl rfl rfl ?_
              obtain ⟨r92, e92, h⟩ := bind_some h
              refine RegV.callS (q := true) (H' := [(6, (.cells [(.d (.sl (List.map byteD ((r34 ++ r42) ++ r50)))), (.d (.int .i64 r85.2.1)), (.d (.int .i64 r85.2.2))])), (7, (.tok ((List.map byteD r85.1).length * 1))), (5, (.tok ((List.map byteD ((r34 ++ r42) ++ r50)).length * 1))), (4, (.tok ((List.map byteD r50).length * 1))), (2, (.tok ((List.map byteD r42).length * 1))), (0, (.tok ((List.map byteD r34).length * 1)))]) (c' := 8) (show ACalls P (N 43) [(.ptr 6 0)] [(6, (.cells [(.d (.sl (List.map byteD ((r34 ++ r42) ++ r50)))), (.d (.int .i64 r85.2.1)), (.d (.int .i64 r85.2.2))]))] (.d (.int .i64 r92)) [(6, (.cells [(.d (.sl (List.map byteD ((r34 ++ r42) ++ r50)))), (.d (.int .i64 r85.2.1)), (.d (.int .i64 r85.2.2))]))] from ACalls.use (F43 hmix hc.2.2.2.2.2.2.2.2.2.2.1 e92) [(0, 6)] 1 rfl) rfl rfl rfl rfl (.cons (.refl _) .nil) (.refl _) (fun _ => rfl) rfl (hasCons rfl hasNil) rfl rfl rfl rfl ?_
              refine RegV.p0 (v := (.d (.bool (decide (r92 ≠ (0 : Int)))))) rfl rfl rfl ?_
              refine RegV.p0 rfl rfl rfl ?_
              refine RegV.nil0 ?_
              refine AWc.cond rfl (fun c95 => ?_) (fun c95 => ?_)
              · have h := cond_pos c95 h
                refine AWc.seq ?_
                refine AWc.rg hmix rfl rfl ?_
                refine RegV.p0 rfl rfl rfl ?_
                refine RegV.nil0 ?_
                have hr := Option.some.inj h
                subst hr
                exact AWc.ret (canQ (N := 99) (k := 0) (l' := [(8, (.d (.bool false)))]) (H' := []) rfl ⟨rfl, [], [], rfl, rfl, ⟨⟨_, rfl, (.refl _)⟩, rfl, trivial⟩,  trivial⟩ (doneA (.inr rfl) rfl ⟨trivial, trivial⟩ (.refl _) hasNil))
              · have h := cond_neg c95 h
                refine AWc.skip ?_
                refine AWc.seq ?_
                refine AWc.rg hmix rfl rfl ?_
                refine RegV.p0 rfl rfl rfl ?_
                obtain ⟨r106, e106, h⟩ := bind_some h
                refine RegV.callS (q := false) (H' := [(8, (.cells [(.d (.sl (List.map byteD a3))), (.d (.int .i64 (0 : Int))), (.d (.int .i64 (0 : Int)))])), (6, (.cells [(.d (.sl (List.map byteD ((r34 ++ r42) ++ r50)))), (.d (.int .i64 r85.2.1)), (.d (.int .i64 r85.2.2))])), (7, (.tok ((List.map byteD r85.1).length * 1))), (5, (.tok ((List.map byteD ((r34 ++ r42) ++ r50)).length * 1))), (4, (.tok ((List.map byteD r50).length * 1))), (2, (.tok ((List.map byteD r42).length * 1))), (0, (.tok ((List.map byteD r34).length * 1)))]) (c' := 9) (show ACalls P (N 30) [(.d (.sl (List.map byteD a3)))] [] (.ptr 8 0) [(8, (.cells [(.d (.sl (List.map byteD a3))), (.d (.int .i64 (0 : Int))), (.d (.int .i64 (0 : Int)))]))] from ACalls.use (F30 hmix hc.2.2.2.2.2.1 e106) [(0, 8)] 1 rfl) rfl rfl rfl rfl (.cons (.refl _) .nil) (.refl _) (fun h => by cases h) rfl hasNil rfl rfl rfl rfl ?_
                refine RegV.p0 rfl rfl rfl ?_
                refine RegV.nil0 ?_
                refine AWc.seq ?_
                refine AWc.rg hmix rfl rfl ?_
                refine RegV.p0 rfl rfl rfl ?_
                obtain ⟨r112, e112, h⟩ := bind_some h
                refine RegV.callS (q := false) (H' := [(8, (.cells [(.d (.sl (List.map byteD a3))), (.d (.int .i64 r112.2.1)), (.d (.int .i64 r112.2.2))])), (6, (.cells [(.d (.sl (List.map byteD ((r34 ++ r42) ++ r50)))), (.d (.int .i64 r85.2.1)), (.d (.int .i64 r85.2.2))])), (7, (.tok ((List.map byteD r85.1).length * 1))), (5, (.tok ((List.map byteD ((r34 ++ r42) ++ r50)).length * 1))), (4, (.tok ((List.map byteD r50).length * 1))), (2, (.tok ((List.map byteD r42).length * 1))), (0, (.tok ((List.map byteD r34).length * 1)))]) (c' := 9) (show ACalls P (N 40) [(.ptr 8 0)] [(8, (.cells [(.d (.sl (List.map byteD a3))), (.d (.int .i64 (0 : Int))), (.d (.int .i64 (0 : Int)))]))] (.d (.int .i64 r112.1)) [(8, (.cells [(.d (.sl (List.map byteD a3))), (.d (.int .i64 r112.2.1)), (.d (.int .i64 r112.2.2))]))] from ACalls.use (F40 hmix hc.2.2.2.2.2.2.2.1 e112) [(0, 8)] 1 rfl) rfl rfl rfl rfl (.cons (.refl _) .nil) (.refl _) (fun h => by cases h) rfl (hasCons rfl hasNil) rfl rfl rfl rfl ?_
                refine RegV.p0 rfl rfl rfl ?_
                refine RegV.nil0 ?_
                refine AWc.seq ?_
                refine AWc.rg hmix rfl rfl ?_
                refine RegV.p0 rfl rfl rfl ?_
                refine RegV.len (xs := a3) (e := byteD) rfl rfl rfl rfl ?_
                refine RegV.p0 rfl rfl rfl ?_
                obtain ⟨r120, e120, h⟩ := bind_some h
                refine RegV.callS (q := true) (H' := [(8, (.cells [(.d (.sl (List.map byteD a3))), (.d (.int .i64 r112.2.1)), (.d (.int .i64 r112.2.2))])), (6, (.cells [(.d (.sl (List.map byteD ((r34 ++ r42) ++ r50)))), (.d (.int .i64 r85.2.1)), (.d (.int .i64 r85.2.2))])), (7, (.tok ((List.map byteD r85.1).length * 1))), (5, (.tok ((List.map byteD ((r34 ++ r42) ++ r50)).length * 1))), (4, (.tok ((List.map byteD r50).length * 1))), (2, (.tok ((List.map byteD r42).length * 1))), (0, (.tok ((List.map byteD r34).length * 1)))]) (c' := 9) (show ACalls P (N 32) [(.ptr 8 0)] [(8, (.cells [(.d (.sl (List.map byteD a3))), (.d (.int .i64 r112.2.1)), (.d (.int .i64 r112.2.2))]))] (.d (.int .i64 (IntKind.i64.wrap (((a3.length : Nat) : Int) - r112.2.1)))) [(8, (.cells [(.d (.sl (List.map byteD a3))), (.d (.int .i64 r112.2.1)), (.d (.int .i64 r112.2.2))]))] from ACalls.use (F32 hmix hc.2.2.2.2.2.2.2.2.2.2.2.1 e120) [(0, 8)] 1 rfl) rfl rfl rfl rfl (.cons (.refl _) .nil) (.refl _) (fun _ => rfl) rfl (hasCons rfl hasNil) rfl rfl rfl rfl ?_
                refine RegV.p0 (v := (.d (.int .i64 (IntKind.i64.wrap (((a3.length : Nat) : Int) - (IntKind.i64.wrap (((a3.length : Nat) : Int) - r112.2.1))))))) rfl rfl rfl ?_
                refine RegV.p0 rfl rfl rfl ?_
                refine RegV.nil0 ?_
                refine AWc.seq ?_
                refine AWc.rg hmix rfl rfl ?_
                refine RegV.p0 rfl rfl rfl ?_
                obtain ⟨r127, e127, h⟩ := bind_some h
                refine RegV.callS (q := true) (H' := [(8, (.cells [(.d (.sl (List.map byteD a3))), (.d (.int .i64 r112.2.1)), (.d (.int .i64 r112.2.2))])), (6, (.cells [(.d (.sl (List.map byteD ((r34 ++ r42) ++ r50)))), (.d (.int .i64 r85.2.1)), (.d (.int .i64 r85.2.2))])), (7, (.tok ((List.map byteD r85.1).length * 1))), (5, (.tok ((List.map byteD ((r34 ++ r42) ++ r50)).length * 1))), (4, (.tok ((List.map byteD r50).length * 1))), (2, (.tok ((List.map byteD r42).length * 1))), (0, (.tok ((List.map byteD r34).length * 1)))]) (c' := 9) (show ACalls P (N 42) [(.ptr 8 0)] [(8, (.cells [(.d (.sl (List.map byteD a3))), (.d (.int .i64 r112.2.1)), (.d (.int .i64 r112.2.2))]))] (.d (.int .i64 r112.2.2)) [(8, (.cells [(.d (.sl (List.map byteD a3))), (.d (.int .i64 r112.2.1)), (.d (.int .i64 r112.2.2))]))] from ACalls.use (F42 hmix hc.2.2.2.2.2.2.2.2.2.2.2.2 e127) [(0, 8)] 1 rfl) rfl rfl rfl rfl (.cons (.refl _) .nil) (.refl _) (fun _ => rfl) rfl (hasCons rfl hasNil) rfl rfl rfl rfl ?_
                refine RegV.p0 (v := (.d (.bool (decide (r112.2.2 ≠ (0 : Int)))))) rfl rfl rfl ?_
                refine RegV.p0 rfl rfl rfl ?_
                refine RegV.split (fun c129 => ?_) (fun c129 => ?_)
                · have h := cond_pos c129 h
                  refine RegV.noS rfl rfl ?_
                  refine RegV.noS rfl rfl ?_
                  refine RegV.noS rfl rfl ?_
                  refine RegV.noS rfl rfl ?_
                  refine RegV.noS rfl rfl ?_
                  refine RegV.noS rfl rfl ?_
                  refine RegV.noS rfl rfl ?_
                  refine RegV.noS rfl rfl ?_
                  refine RegV.noS rfl rfl ?_
                  refine RegV.noS rfl rfl ?_
                  refine RegV.noS rfl rfl ?_
                  refine RegV.noS rfl rfl ?_
                  refine RegV.noS rfl rfl ?_
                  refine RegV.noS rfl rfl ?_
                  refine RegV.noS rfl rfl ?_
                  refine RegV.noS rfl rfl ?_
                  refine RegV.p0 rfl rfl rfl ?_
                  refine RegV.p0 rfl rfl rfl ?_
                  refine RegV.nil1 (by kernel_rfl) ?_
                  have hr := Option.some.inj h
                  subst hr
                  exact AWc.ret (canQ (N := 99) (k := 0) (l' := [(8, (.d (.bool true)))]) (H' := []) rfl ⟨rfl, [], [], rfl, rfl, ⟨⟨_, rfl, (.refl _)⟩, rfl, trivial⟩,  trivial⟩ (doneA (.inr rfl) rfl ⟨trivial, trivial⟩ (.refl _) hasNil))
                · have h := cond_neg c129 h
                  refine RegV.p0 rfl rfl rfl ?_
                  refine RegV.p0 (v := (.d (.bool (decide ((IntKind.i64.wrap (((a3.length : Nat) : Int) - (IntKind.i64.wrap (((a3.length : Nat) : Int) - r112.2.1)))) ≥ (0 : Int)))))) rfl rfl rfl ?_
                  refine RegV.p0 rfl rfl rfl ?_
                  refine RegV.split (fun c132 => ?_) (fun c132 => ?_)
                  · have h := cond_pos c132 h
                    refine RegV.p0 rfl rfl rfl ?_
                    refine RegV.p0 rfl rfl rfl ?_
                    refine RegV.len (xs := a3) (e := byteD) rfl rfl rfl rfl ?_
                    refine RegV.p0 (v := (.d (.bool (decide ((IntKind.i64.wrap (((a3.length : Nat) : Int) - (IntKind.i64.wrap (((a3.length : Nat) : Int) - r112.2.1)))) ≤ ((a3.length : Nat) : Int)))))) rfl rfl rfl ?_
                    refine RegV.p0 rfl rfl rfl ?_
                    refine RegV.p0 rfl rfl rfl ?_
                    refine RegV.split (fun c138 => ?_) (fun c138 => ?_)
                    · have h := cond_pos c138 h
                      refine RegV.p0 rfl rfl rfl ?_
                      obtain ⟨r140, e140, h⟩ := bind_some h
                      refine RegV.callS (q := false) (H' := [(9, (.tok ((List.map byteD r140).length * 1))), (8, (.cells [(.d (.sl (List.map byteD a3))), (.d (.int .i64 r112.2.1)), (.d (.int .i64 r112.2.2))])), (6, (.cells [(.d (.sl (List.map byteD ((r34 ++ r42) ++ r50)))), (.d (.int .i64 r85.2.1)), (.d (.int .i64 r85.2.2))])), (7, (.tok ((List.map byteD r85.1).length * 1))), (5, (.tok ((List.map byteD ((r34 ++ r42) ++ r50)).length * 1))), (4, (.tok ((List.map byteD r50).length * 1))), (2, (.tok ((List.map byteD r42).length * 1))), (0, (.tok ((List.map byteD r34).length * 1)))]) (c' := 10) (show ACalls P (N 25) [(.d (.int .i64 r112.1))] [] (.ap 9 1 (List.map byteD r140)) [(9, (.tok ((List.map byteD r140).length * 1)))] from ACalls.use (F25 hmix hc.2.2.2.1 e140) [(0, 9)] 1 rfl) rfl rfl rfl rfl (.cons (.refl _) .nil) (.refl _) (fun h => by cases h) rfl hasNil rfl rfl rfl rfl ?_
                      refine RegV.p0 rfl rfl rfl ?_
                      refine RegV.p0 rfl rfl rfl ?_
                      obtain ⟨b143, h⟩ := gd_some h
                      refine RegV.slc (xs := a3) (e := byteD) (lo := (0 : Int)) (hi := (IntKind.i64.wrap (((a3.length : Nat) : Int) - (IntKind.i64.wrap (((a3.length : Nat) : Int) - r112.2.1))))) rfl rfl rfl b143 (fun _ => rfl) rfl ?_
                      obtain ⟨r144, e144, h⟩ := bind_some h
                      refine RegV.call0 (F22 hmix hc.2.2.2.2.2.2.2.2.2.1 e144) rfl rfl rfl rfl (.cons (.sl rfl) (.cons (.refl _) .nil)) rfl ?_
                      refine RegV.p0 rfl rfl rfl ?_
                      refine RegV.p0 rfl rfl rfl ?_
                      refine RegV.p0 rfl rfl rfl ?_
                      refine RegV.nil1 (by kernel_rfl) ?_
                      have hr := Option.some.inj h
                      subst hr
                      exact AWc.ret (canQ (N := 99) (k := 0) (l' := [(8, (.d (.bool (decide (r140 = (sl a3 (0 : Int) (IntKind.i64.wrap (((a3.length : Nat) : Int) - (IntKind.i64.wrap (((a3.length : Nat) : Int) - r112.2.1))))))))))]) (H' := []) rfl ⟨rfl, [], [], rfl, rfl, ⟨⟨_, rfl, (.refl _)⟩, rfl, trivial⟩,  trivial⟩ (doneA (.inr rfl) rfl ⟨trivial, trivial⟩ (.refl _) hasNil))
                    · have h := cond_neg c138 h
                      refine RegV.noS rfl rfl ?_
                      refine RegV.noS rfl rfl ?_
                      refine RegV.noS rfl rfl ?_
                      refine RegV.noS rfl rfl ?_
                      refine RegV.noS rfl rfl ?_
                      refine RegV.noS rfl rfl ?_
                      refine RegV.p0 rfl rfl rfl ?_
                      refine RegV.p0 rfl rfl rfl ?_
                      refine RegV.p0 rfl rfl rfl ?_
                      refine RegV.nil1 (by kernel_rfl) ?_
                      have hr := Option.some.inj h
                      subst hr
                      exact AWc.ret (canQ (N := 99) (k := 0) (l' := [(8, (.d (.bool false)))]) (H' := []) rfl ⟨rfl, [], [], rfl, rfl, ⟨⟨_, rfl, (.refl _)⟩, rfl, trivial⟩,  trivial⟩ (doneA (.inr rfl) rfl ⟨trivial, trivial⟩ (.refl _) hasNil))
                  · have h := cond_neg c132 h
                    refine RegV.noS rfl rfl ?_
                    refine RegV.noS rfl rfl ?_
                    refine RegV.noS rfl rfl ?_
                    refine RegV.noS rfl rfl ?_
                    refine RegV.p0 rfl rfl rfl ?_
                    refine RegV.p0 rfl rfl rfl ?_
                    refine RegV.noS rfl rfl ?_
                    refine RegV.noS rfl rfl ?_
                    refine RegV.noS rfl rfl ?_
                    refine RegV.noS rfl rfl ?_
                    refine RegV.noS rfl rfl ?_
                    refine RegV.noS rfl rfl ?_
                    refine RegV.p0 rfl rfl rfl ?_
                    refine RegV.p0 rfl rfl rfl ?_
                    refine RegV.p0 rfl rfl rfl ?_
                    refine RegV.nil1 (by kernel_rfl) ?_
                    have hr := Option.some.inj h
                    subst hr
                    exact AWc.ret (canQ (N := 99) (k := 0) (l' := [(8, (.d (.bool false)))]) (H' := []) rfl ⟨rfl, [], [], rfl, rfl, ⟨⟨_, rfl, (.refl _)⟩, rfl, trivial⟩,  trivial⟩ (doneA (.inr rfl) rfl ⟨trivial, trivial⟩ (.refl _) hasNil))
end Go.Proofs.Abs
