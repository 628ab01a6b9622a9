/- Written by gen.py: functions of the program as Lean functions, and that the code comes to them. -/
import Derived.Test.YtgimibhacllcpaaGSegb
set_option linter.unusedVariables false
set_option linter.unusedSimpArgs false
set_option maxRecDepth 100000
set_option maxHeartbeats 4000000
namespace Go.Proofs.Abs
open Go
/-- courant/courantlaw20.SegmentRecords -/
def C246 (N : Nat → Nat) : AFunc := { n := 126, params := 4, res := [.tmp 8], body :=
 (.seq (.region false [⟨(some 8), .mv (.k (.d (.bool false))), none, []⟩])
  (.seq (.seq (.region false [⟨(some 20), .mv (.t 0), none, []⟩,
     ⟨(some 21), .len (.t 20), none, [0]⟩,
     ⟨(some 22), .bin .gtr (.t 21) (.k (.d (.int .i64 8000))), none, [1]⟩])
    (.cond (.t 22) (.seq (.region false [⟨(some 23), .call (.k (.d (.fn (N 245)))) [], none, []⟩,
       ⟨(some 8), .mv (.t 23), none, [0]⟩])
      .ret)
     (.skip)))
   (.seq (.region false [⟨(some 24), .mv (.t 0), none, []⟩,
     ⟨(some 25), .call (.k (.d (.fn (N 97)))) [(.t 24)], none, [0]⟩,
     ⟨(some 26), .mv (.t 1), none, []⟩,
     ⟨(some 27), .mv (.t 2), none, []⟩,
     ⟨(some 28), .call (.k (.d (.fn (N 276)))) [(.t 25), (.t 26), (.t 27)], none, [1, 2, 3]⟩,
     ⟨(some 9), .mv (.t 28), none, [4, 0, 1, 2, 3]⟩])
    (.seq (.region false [⟨(some 30), .mv (.t 0), none, []⟩,
      ⟨(some 31), .mv (.t 1), none, []⟩,
      ⟨(some 32), .call (.k (.d (.fn (N 278)))) [(.t 30), (.t 31)], none, [0, 1]⟩,
      ⟨(some 29), .mv (.t 32), none, [2]⟩,
      ⟨(some 33), .ext (.t 29) 0, none, [3]⟩,
      ⟨(some 34), .ext (.t 29) 1, none, [3]⟩,
      ⟨(some 10), .mv (.t 33), none, [4, 2, 0, 1, 3]⟩,
      ⟨(some 11), .mv (.t 34), none, [5, 6, 0, 1, 2, 3, 4]⟩])
     (.seq (.region false [⟨(some 12), .mv (.k .nils), none, []⟩])
      (.seq (.seq (.region false [⟨(some 13), .mv (.k (.d (.int .i64 0))), none, []⟩])
        (.block 0 (.loop (.seq (.seq (.region false [⟨(some 35), .mv (.t 13), none, []⟩,
             ⟨(some 36), .mv (.t 10), none, []⟩,
             ⟨(some 37), .len (.t 36), none, [1]⟩,
             ⟨(some 38), .bin .lss (.t 35) (.t 37), none, [0, 2]⟩])
            (.cond (.t 38) (.skip)
             (.exit 0)))
           (.seq (.block 1 (.seq (.region false [⟨(some 41), .mv (.t 10), none, []⟩,
               ⟨(some 42), .mv (.t 13), none, []⟩,
               ⟨(some 43), .iaddr (.t 41) (.t 42) 2, none, [0, 1]⟩,
               ⟨(some 44), .faddr (.t 43) 0, none, [2]⟩,
               ⟨(some 45), .load (.t 44) 1 false, none, [3]⟩,
               ⟨(some 46), .mv (.t 2), none, []⟩,
               ⟨(some 47), .bin .geq (.t 45) (.t 46), none, [4, 5]⟩])
              (.cond (.t 47) (.region false [⟨(some 48), .mv (.t 12), none, []⟩,
                ⟨(some 49), .mv (.t 10), none, []⟩,
                ⟨(some 50), .mv (.t 13), none, []⟩,
                ⟨(some 51), .iaddr (.t 49) (.t 50) 2, none, [1, 2]⟩,
                ⟨(some 52), .load (.t 51) 2 true, none, [3]⟩,
                ⟨(some 53), .bslice 1 2 [(.int .u64 0), (.sl [])] [(0, (.t 52))], none, [4]⟩,
                ⟨(some 54), .app (.t 48) (.t 53) 2 32 [(.int .u64 0), (.sl [])], none, [0, 5]⟩,
                ⟨(some 12), .mv (.t 54), none, [6, 0, 1, 2, 3, 4, 5]⟩])
               (.skip))))
            (.region false [⟨(some 39), .mv (.t 13), none, []⟩,
             ⟨(some 40), .bin .add (.t 39) (.k (.d (.int .i64 1))), none, [0]⟩,
             ⟨(some 13), .mv (.t 40), none, [1, 0]⟩]))))))
       (.seq (.seq (.region false [⟨(some 14), .mv (.k (.d (.int .i64 0))), none, []⟩])
         (.block 2 (.loop (.seq (.seq (.region false [⟨(some 55), .mv (.t 14), none, []⟩,
              ⟨(some 56), .bin .lss (.t 55) (.k (.d (.int .i64 2))), none, [0]⟩])
             (.cond (.t 56) (.skip)
              (.exit 2)))
            (.seq (.block 3 (.seq (.region false [⟨(some 60), .mv (.t 9), none, []⟩,
                ⟨(some 61), .mv (.t 12), none, []⟩,
                ⟨(some 62), .len (.t 61), none, [1]⟩,
                ⟨(some 63), .call (.k (.d (.fn (N 281)))) [(.t 60), (.t 62)], none, [0, 2]⟩,
                ⟨(some 59), .mv (.t 63), none, [3]⟩,
                ⟨(some 64), .ext (.t 59) 0, none, [4]⟩,
                ⟨(some 65), .ext (.t 59) 1, none, [4]⟩,
                ⟨(some 66), .ext (.t 59) 2, none, [4]⟩,
                ⟨(some 15), .mv (.t 64), none, [5, 3, 0, 1, 2, 4]⟩,
                ⟨(some 16), .mv (.t 65), none, [6, 8, 0, 1, 2, 3, 4, 5]⟩,
                ⟨(some 17), .mv (.t 66), none, [7, 9, 0, 1, 2, 3, 4, 5, 6, 8]⟩])
               (.seq (.seq (.region false [⟨(some 67), .call (.k (.d (.fn (N 245)))) [], none, []⟩,
                  ⟨(some 68), .un .not (.t 67), none, [0]⟩,
                  ⟨(some 69), .mv (.t 68), none, [1, 0]⟩,
                  ⟨(some 70), .mv (.t 17), (some (69, false)), [2]⟩,
                  ⟨(some 71), .un .not (.t 70), (some (69, false)), [3, 2]⟩,
                  ⟨(some 72), .pick (.t 69) (.k (.d (.bool true))) (.t 71), none, [2, 4]⟩,
                  ⟨(some 73), .mv (.t 72), none, [5, 2]⟩,
                  ⟨(some 74), .mv (.t 15), (some (73, false)), [6]⟩,
                  ⟨(some 75), .len (.t 74), (some (73, false)), [7, 6]⟩,
                  ⟨(some 76), .mv (.t 12), (some (73, false)), [6]⟩,
                  ⟨(some 77), .len (.t 76), (some (73, false)), [9, 6]⟩,
                  ⟨(some 78), .bin .neq (.t 75) (.t 77), (some (73, false)), [8, 10, 6]⟩,
                  ⟨(some 79), .pick (.t 73) (.k (.d (.bool true))) (.t 78), none, [6, 11]⟩])
                 (.cond (.t 79) (.seq (.region false [⟨(some 8), .mv (.k (.d (.bool false))), none, []⟩])
                   .ret)
                  (.skip)))
                (.seq (.region false [⟨(some 18), .mv (.k (.d (.int .i64 0))), none, []⟩])
                 (.block 4 (.loop (.seq (.seq (.region false [⟨(some 80), .mv (.t 18), none, []⟩,
                      ⟨(some 81), .mv (.t 12), none, []⟩,
                      ⟨(some 82), .len (.t 81), none, [1]⟩,
                      ⟨(some 83), .bin .lss (.t 80) (.t 82), none, [0, 2]⟩])
                     (.cond (.t 83) (.skip)
                      (.exit 4)))
                    (.seq (.block 5 (.seq (.region true [⟨(some 86), .mv (.t 15), none, []⟩,
                        ⟨(some 87), .mv (.t 18), none, []⟩,
                        ⟨(some 88), .iaddr (.t 86) (.t 87) 1, none, [0, 1]⟩,
                        ⟨(some 89), .load (.t 88) 1 false, none, [2]⟩,
                        ⟨(some 90), .mv (.t 12), none, []⟩,
                        ⟨(some 91), .mv (.t 18), none, []⟩,
                        ⟨(some 92), .iaddr (.t 90) (.t 91) 2, none, [4, 5]⟩,
                        ⟨(some 93), .faddr (.t 92) 0, none, [6]⟩,
                        ⟨(some 94), .load (.t 93) 1 false, none, [7]⟩,
                        ⟨(some 95), .bin .neq (.t 89) (.t 94), none, [3, 8]⟩,
                        ⟨(some 96), .mv (.t 95), none, [9]⟩,
                        ⟨(some 97), .mv (.t 16), (some (96, false)), [10]⟩,
                        ⟨(some 98), .mv (.t 18), (some (96, false)), [10]⟩,
                        ⟨(some 99), .iaddr (.t 97) (.t 98) 1, (some (96, false)), [11, 12, 10]⟩,
                        ⟨(some 100), .load (.t 99) 1 false, (some (96, false)), [13, 10]⟩,
                        ⟨(some 101), .mv (.t 12), (some (96, false)), [10]⟩,
                        ⟨(some 102), .mv (.t 18), (some (96, false)), [10]⟩,
                        ⟨(some 103), .iaddr (.t 101) (.t 102) 2, (some (96, false)), [15, 16, 10]⟩,
                        ⟨(some 104), .faddr (.t 103) 1, (some (96, false)), [17, 10]⟩,
                        ⟨(some 105), .load (.t 104) 1 false, (some (96, false)), [18, 10]⟩,
                        ⟨(some 106), .call (.k (.d (.fn (N 22)))) [(.t 100), (.t 105)], (some (96, false)), [14, 19, 10]⟩,
                        ⟨(some 107), .un .not (.t 106), (some (96, false)), [20, 10]⟩,
                        ⟨(some 108), .pick (.t 96) (.k (.d (.bool true))) (.t 107), none, [10, 21]⟩])
                       (.cond (.t 108) (.seq (.region false [⟨(some 8), .mv (.k (.d (.bool false))), none, []⟩])
                         .ret)
                        (.skip))))
                     (.region false [⟨(some 84), .mv (.t 18), none, []⟩,
                      ⟨(some 85), .bin .add (.t 84) (.k (.d (.int .i64 1))), none, [0]⟩,
                      ⟨(some 18), .mv (.t 85), none, [1, 0]⟩])))))))))
             (.region false [⟨(some 57), .mv (.t 14), none, []⟩,
              ⟨(some 58), .bin .add (.t 57) (.k (.d (.int .i64 1))), none, [0]⟩,
              ⟨(some 14), .mv (.t 58), none, [1, 0]⟩]))))))
        (.seq (.region false [⟨(some 109), .mv (.t 3), none, []⟩,
          ⟨(some 110), .cvi .u64 (.t 109), none, [0]⟩,
          ⟨(some 111), .mv (.t 12), none, []⟩,
          ⟨(some 112), .len (.t 111), none, [2]⟩,
          ⟨(some 113), .bin .add (.t 112) (.k (.d (.int .i64 1))), none, [3]⟩,
          ⟨(some 114), .cvi .u64 (.t 113), none, [4]⟩,
          ⟨(some 115), .bin .rem (.t 110) (.t 114), none, [1, 5]⟩,
          ⟨(some 116), .cvi .i64 (.t 115), none, [6]⟩,
          ⟨(some 117), .bin .add (.k (.d (.int .i64 1))) (.t 116), none, [7]⟩,
          ⟨(some 19), .mv (.t 117), none, [8, 0, 1, 2, 3, 4, 5, 6, 7]⟩])
         (.seq (.region false [⟨(some 118), .mv (.t 9), none, []⟩,
           ⟨(some 119), .mv (.t 19), none, []⟩,
           ⟨(some 120), .call (.k (.d (.fn (N 284)))) [(.t 118), (.t 119)], none, [0, 1]⟩,
           ⟨(some 121), .mv (.t 19), none, []⟩,
           ⟨(some 122), .mv (.t 12), none, []⟩,
           ⟨(some 123), .len (.t 122), none, [4]⟩,
           ⟨(some 124), .mm false [(.t 121), (.t 123)], none, [3, 5]⟩,
           ⟨(some 125), .bin .eql (.t 120) (.t 124), none, [2, 6]⟩,
           ⟨(some 8), .mv (.t 125), none, [7, 2, 0, 1, 3, 4, 5, 6]⟩])
          .ret))))))))) }
def HC246 (P : Program) (N : Nat → Nat) : Prop := HasF P (N 246) (C246 N) ∧ HC245 P N ∧ HC97 P N ∧ HC276 P N ∧ HC278 P N ∧ HC281 P N ∧ HC22 P N ∧ HC284 P N
def f246_j209 (k : Nat) (j91_1 : (List TRec)) (r27 : (List Tsegment_place)) (a2 : Int) (a3 : Int) : Option Bool := gd ((IntKind.u64.wrap (IntKind.i64.wrap (((j91_1.length : Nat) : Int) + (1 : Int)))) ≠ 0) ((f284 k r27 a2 (IntKind.i64.wrap ((1 : Int) + (IntKind.i64.wrap (Int.tmod (IntKind.u64.wrap a3) (IntKind.u64.wrap (IntKind.i64.wrap (((j91_1.length : Nat) : Int) + (1 : Int))))))))).bind fun r227 => some (decide (r227 = (min (IntKind.i64.wrap ((1 : Int) + (IntKind.i64.wrap (Int.tmod (IntKind.u64.wrap a3) (IntKind.u64.wrap (IntKind.i64.wrap (((j91_1.length : Nat) : Int) + (1 : Int)))))))) ((j91_1.length : Nat) : Int)))))
def f246_l151 (j91_1 : (List TRec)) (r115 : ((List Int) × (List (List UInt8)) × Bool)) : Nat → Int → Option (LR2 Unit Unit Bool)
  | 0, _ => none
  | k + 1, y151_1 => cond (decide (y151_1 < ((j91_1.length : Nat) : Int))) (gd (0 ≤ y151_1 ∧ y151_1 < ((r115.1.length : Nat) : Int)) (gd (0 ≤ y151_1 ∧ y151_1 < ((j91_1.length : Nat) : Int)) (cond (decide ((rd r115.1 y151_1) ≠ (rd j91_1 y151_1).fOffset)) (some (.r false)) (gd (0 ≤ y151_1 ∧ y151_1 < ((r115.2.1.length : Nat) : Int)) (gd (0 ≤ y151_1 ∧ y151_1 < ((j91_1.length : Nat) : Int)) ((f22 k (rd r115.2.1 y151_1) ((rd j91_1 y151_1).fData)).bind fun r189 => cond (!(decide ((rd r115.2.1 y151_1) = ((rd j91_1 y151_1).fData)))) (some (.r false)) (f246_l151 j91_1 r115 k (IntKind.i64.wrap (y151_1 + (1 : Int)))))))))) (some (.b0 ()))
def f246_l96 (r27 : (List Tsegment_place)) (a2 : Int) (j91_1 : (List TRec)) : Nat → Int → Option (LR2 Unit Unit Bool)
  | 0, _ => none
  | k + 1, y96_1 => cond (decide (y96_1 < (2 : Int))) ((f281 k r27 a2 ((j91_1.length : Nat) : Int)).bind fun r115 => (f245 k).bind fun r127 => cond (!r127) (some (.r false)) (cond (!r115.2.2) (some (.r false)) (cond (decide (((r115.1.length : Nat) : Int) ≠ ((j91_1.length : Nat) : Int))) (some (.r false)) ((f246_l151 j91_1 r115 k (0 : Int)).bind fun o151 => match o151 with | .b0 () => f246_l96 r27 a2 j91_1 k (IntKind.i64.wrap (y96_1 + (1 : Int))) | .r x => some (.r x) | _ => none)))) (some (.b0 ()))
def f246_j91 (k : Nat) (r27 : (List Tsegment_place)) (a2 : Int) (a3 : Int) (j91_1 : (List TRec)) : Option Bool := (f246_l96 r27 a2 j91_1 k (0 : Int)).bind fun o96 => match o96 with | .b0 () => f246_j209 k j91_1 r27 a2 a3 | .r x => some x | _ => none
def f246_l49 (r34 : ((List TRec) × Int)) (a2 : Int) : Nat → (List TRec) → Int → Option (LR2 (List TRec) Unit Bool)
  | 0, _, _ => none
  | k + 1, y49_1, y49_2 => cond (decide (y49_2 < ((r34.1.length : Nat) : Int))) (gd (0 ≤ y49_2 ∧ y49_2 < ((r34.1.length : Nat) : Int)) (cond (decide ((rd r34.1 y49_2).fOffset ≥ a2)) (gd (0 ≤ y49_2 ∧ y49_2 < ((r34.1.length : Nat) : Int)) (gd ((y49_1.length + ([(rd r34.1 y49_2)] : List TRec).length) * 2 * 32 ≤ 281474976710656) (f246_l49 r34 a2 k (y49_1 ++ ([(rd r34.1 y49_2)] : List TRec)) (IntKind.i64.wrap (y49_2 + (1 : Int)))))) (f246_l49 r34 a2 k y49_1 (IntKind.i64.wrap (y49_2 + (1 : Int)))))) (some (.b0 y49_1))
def f246 (k : Nat) (a0 : (List UInt8)) (a1 : Int) (a2 : Int) (a3 : Int) : Option Bool := cond (decide (((a0.length : Nat) : Int) > (8000 : Int))) ((f245 k).bind fun r16 => some r16) ((f97 k a0).bind fun r24 => (f276 k a0 a1 a2).bind fun r27 => (f278 k a0 a1).bind fun r34 => (f246_l49 r34 a2 k ([] : List TRec) (0 : Int)).bind fun o49 => match o49 with | .b0 x49_1 => f246_j91 k r27 a2 a3 x49_1 | _ => none)
theorem F246 {P : Program} {N : Nat → Nat} (hmix : P.follows .mixedOrders = true) (hc : HC246 P N) {k : Nat} {a0 : (List UInt8)} {a1 : Int} {a2 : Int} {a3 : Int} {r : Bool} (h : f246 k a0 a1 a2 a3 = some r) :
    ACalls P (N 246) [(.d (.sl (List.map byteD a0))), (.d (.int .u64 a1)), (.d (.int .u64 a2)), (.d (.int .i64 a3))] [] (.d (.bool r)) [] := by
  refine acalls_canon (F := C246 N) hc.1 0 0 rfl ?_
  unfold f246 at h
  dsimp only [C246, startL]
  refine AWc.seq ?_
  refine AWc.rg hmix rfl rfl ?_
  refine RegV.p0 rfl rfl rfl ?_
  refine RegV.nil0 ?_
  refine AWc.seq ?_
  refine AWc.seq ?_
  refine AWc.rg hmix rfl rfl ?_
  refine RegV.p0 rfl rfl rfl ?_
  refine RegV.len (xs := a0) (e := byteD) rfl rfl rfl rfl ?_
  refine RegV.p0 (v := (.d (.bool (decide (((a0.length : Nat) : Int) > (8000 : Int)))))) rfl rfl rfl ?_
  refine RegV.nil0 ?_
  refine AWc.cond rfl (fun c12 => ?_) (fun c12 => ?_)
  · have h := cond_pos c12 h
    refine AWc.seq ?_
    refine AWc.rg hmix rfl rfl ?_
    obtain ⟨r16, e16, h⟩ := bind_some h
    refine RegV.call0 (F245 hmix hc.2.1 e16) rfl rfl rfl rfl .nil rfl ?_
    refine RegV.p0 rfl rfl rfl ?_
    refine RegV.nil0 ?_
    have hr := Option.some.inj h
    subst hr
    exact AWc.ret (canQ (N := 126) (k := 0) (l' := [(8, (.d (.bool r16)))]) (H' := []) rfl ⟨rfl, [], [], rfl, rfl, ⟨⟨_, rfl, (.refl _)⟩, rfl, trivial⟩,  trivial⟩ (doneA (.inr rfl) rfl ⟨trivial, trivial⟩ (.refl _) hasNil))
  · have h := cond_neg c12 h
    refine AWc.skip ?_
    refine AWc.seq ?_
    refine AWc.rg hmix rfl rfl ?_
    refine RegV.p0 rfl rfl rfl ?_
    obtain ⟨r24, e24, h⟩ := bind_some h
    refine RegV.callS (q := false) (H' := [(0, (.tok ((List.map byteD a0).length * 1)))]) (c' := 1) (show ACalls P (N 97) [(.d (.sl (List.map byteD a0)))] [] (.ap 0 1 (List.map byteD a0)) [(0, (.tok ((List.map byteD a0).length * 1)))] from ACalls.use (F97 hmix hc.2.2.1 e24) [(0, 0)] 1 rfl) rfl rfl rfl rfl (.cons (.refl _) .nil) (.refl _) (fun h => by cases h) rfl hasNil rfl rfl rfl rfl ?_
    refine RegV.p0 rfl rfl rfl ?_
    refine RegV.p0 rfl rfl rfl ?_
    obtain ⟨r27, e27, h⟩ := bind_some h
    refine RegV.callS (q := false) (H' := [(1, (.cells [(.ap 3 3 (List.map Tsegment_place.enc r27))])), (2, (.cells [(.d (.int .u64 a2))])), (3, (.tok ((List.map Tsegment_place.enc r27).length * 3))), (0, (.tok ((List.map byteD a0).length * 1)))]) (c' := 4) (show ACalls P (N 276) [(.d (.sl (List.map byteD a0))), (.d (.int .u64 a1)), (.d (.int .u64 a2))] [] (.fn (N 277) [(.ptr 1 0), (.ptr 2 0)]) [(1, (.cells [(.ap 3 3 (List.map Tsegment_place.enc r27))])), (2, (.cells [(.d (.int .u64 a2))])), (3, (.tok ((List.map Tsegment_place.enc r27).length * 3)))] from ACalls.use (F276 hmix hc.2.2.2.1 e27) [(0, 1), (1, 2), (2, 3)] 3 rfl) rfl rfl rfl rfl (.cons (.sl rfl) (.cons (.refl _) (.cons (.refl _) .nil))) (.refl _) (fun h => by cases h) rfl hasNil rfl rfl rfl rfl ?_
    refine RegV.p0 rfl rfl rfl ?_
    refine RegV.nil0 ?_
    refine AWc.seq ?_
    refine AWc.rg hmix rfl rfl ?_
    refine RegV.p0 rfl rfl rfl ?_
    refine RegV.p0 rfl rfl rfl ?_
    obtain ⟨r34, e34, h⟩ := bind_some h
    refine RegV.callS (q := false) (H' := [(4, (.tok ((List.map TRec.enc r34.1).length * 2))), (1, (.cells [(.ap 3 3 (List.map Tsegment_place.enc r27))])), (2, (.cells [(.d (.int .u64 a2))])), (3, (.tok ((List.map Tsegment_place.enc r27).length * 3))), (0, (.tok ((List.map byteD a0).length * 1)))]) (c' := 5) (show ACalls P (N 278) [(.d (.sl (List.map byteD a0))), (.d (.int .u64 a1))] [] (.tup [(.ap 4 2 (List.map TRec.enc r34.1)), (.d (.int .i64 r34.2))]) [(4, (.tok ((List.map TRec.enc r34.1).length * 2)))] from ACalls.use (F278 hmix hc.2.2.2.2.1 e34) [(0, 4)] 1 rfl) rfl rfl rfl rfl (.cons (.refl _) (.cons (.refl _) .nil)) (.refl _) (fun h => by cases h) rfl hasNil rfl rfl rfl rfl ?_
    refine RegV.p0 rfl rfl rfl ?_
    refine RegV.p0 rfl rfl rfl ?_
    refine RegV.p0 rfl rfl rfl ?_
    refine RegV.p0 rfl rfl rfl ?_
    refine RegV.p0 rfl rfl rfl ?_
    refine RegV.nil0 ?_
    refine AWc.seq ?_
    refine AWc.rg hmix rfl rfl ?_
    refine RegV.p0 rfl rfl rfl ?_
    refine RegV.nil0 ?_
    refine AWc.seqS (N := 126) 4 (fun (z : (List TRec)) => [(3, (.d (.int .i64 a3))), (9, (.fn (N 277) [(.ptr 0 0), (.ptr 1 0)])), (12, (.ap 2 2 (List.map TRec.enc z)))]) (fun z => [(0, (.cells [(.ap 3 3 (List.map Tsegment_place.enc r27))])), (1, (.cells [(.d (.int .u64 a2))])), (2, (.tok ((List.map TRec.enc z).length * 2))), (3, (.tok ((List.map Tsegment_place.enc r27).length * 3)))]) (fun z => f246_j91 k r27 a2 a3 z = some r) rfl_le ?_ ?_
    · refine AWc.seq ?_
      refine AWc.rg hmix rfl rfl ?_
      refine RegV.p0 rfl rfl rfl ?_
      refine RegV.nil0 ?_
      obtain ⟨o49, h49, h⟩ := bind_some h
      refine AWc.block ?_
      refine AWc.loopK (N := 126) 5 (fun (x : ((List TRec) × Int)) => [(2, (.d (.int .u64 a2))), (3, (.d (.int .i64 a3))), (9, (.fn (N 277) [(.ptr 0 0), (.ptr 1 0)])), (10, (.ap 2 2 (List.map TRec.enc r34.1))), (12, (.ap 3 2 (List.map TRec.enc x.1))), (13, (.d (.int .i64 x.2)))]) (fun x => [(0, (.cells [(.ap 4 3 (List.map Tsegment_place.enc r27))])), (1, (.cells [(.d (.int .u64 a2))])), (2, (.tok ((List.map TRec.enc r34.1).length * 2))), (3, (.tok ((List.map TRec.enc x.1).length * 2))), (4, (.tok ((List.map Tsegment_place.enc r27).length * 3)))]) (fun k x => f246_l49 r34 a2 k x.1 x.2 = some o49) k (([] : List TRec), (0 : Int)) rfl_le (fun x hx => by cases hx) h49 ⟨rfl, [.tok 0], [(0, 1), (1, 2), (2, 4), (4, 3), (3, 5)], rfl, rfl, ⟨⟨_, rfl, (.refl _)⟩, rfl, ⟨⟨_, rfl, (.refl _)⟩, rfl, ⟨⟨_, rfl, (.refl _)⟩, rfl, ⟨⟨_, rfl, (.refl _)⟩, rfl, ⟨⟨_, rfl, .nil⟩, rfl, ⟨⟨_, rfl, (.refl _)⟩, rfl, trivial⟩⟩⟩⟩⟩⟩, ⟨⟨_, rfl, (.refl _)⟩, rfl, rfl, ⟨⟨_, rfl, (.refl _)⟩, rfl, rfl, ⟨⟨_, rfl, (.refl _)⟩, rfl, rfl, ⟨⟨_, rfl, (.refl _)⟩, rfl, rfl, ⟨⟨_, rfl, (.refl _)⟩, rfl, rfl, trivial⟩⟩⟩⟩⟩⟩ ?_
      clear h49
      intro k
      rintro ⟨y49_1, y49_2⟩ h49
      dsimp only at h49 ⊢
      rw [f246_l49] at h49
      refine AWc.seq ?_
      refine AWc.seq ?_
      refine AWc.rg hmix rfl rfl ?_
      refine RegV.p0 rfl rfl rfl ?_
      refine RegV.p0 rfl rfl rfl ?_
      refine RegV.len (xs := r34.1) (e := TRec.enc) rfl rfl rfl rfl ?_
      refine RegV.p0 (v := (.d (.bool (decide (y49_2 < ((r34.1.length : Nat) : Int)))))) rfl rfl rfl ?_
      refine RegV.nil0 ?_
      refine AWc.cond rfl (fun c59 => ?_) (fun c59 => ?_)
      · have h49 := cond_pos c59 h49
        refine AWc.skip ?_
        refine AWc.seq ?_
        refine AWc.block ?_
        refine AWc.seq ?_
        refine AWc.rg hmix rfl rfl ?_
        refine RegV.p0 rfl rfl rfl ?_
        refine RegV.p0 rfl rfl rfl ?_
        obtain ⟨b69, h49⟩ := gd_some h49
        refine RegV.iad (xs := r34.1) (e := TRec.enc) rfl rfl rfl rfl (fun _ => rfl) b69 rfl ?_
        refine RegV.p0 (v := (.cp (TRec.enc (rd r34.1 y49_2)) 0)) rfl rfl rfl ?_
        refine RegV.p0 (v := (.d (.int .u64 (rd r34.1 y49_2).fOffset))) rfl rfl rfl ?_
        refine RegV.p0 rfl rfl rfl ?_
        refine RegV.p0 (v := (.d (.bool (decide ((rd r34.1 y49_2).fOffset ≥ a2))))) rfl rfl rfl ?_
        refine RegV.nil0 ?_
        refine AWc.cond rfl (fun c74 => ?_) (fun c74 => ?_)
        · have h49 := cond_pos c74 h49
          refine AWc.rg hmix rfl rfl ?_
          refine RegV.p0 rfl rfl rfl ?_
          refine RegV.p0 rfl rfl rfl ?_
          refine RegV.p0 rfl rfl rfl ?_
          obtain ⟨b80, h49⟩ := gd_some h49
          refine RegV.iad (xs := r34.1) (e := TRec.enc) rfl rfl rfl rfl (fun _ => rfl) b80 rfl ?_
          refine RegV.p1 (v := (.d (TRec.enc (rd r34.1 y49_2)))) rfl rfl rfl rfl rfl ?_
          refine RegV.p1 (v := (.d (.sl (List.map TRec.enc ([(rd r34.1 y49_2)] : List TRec))))) rfl rfl (by exact ⟨rfl, Nat.le_of_ble_eq_true rfl, mapLen (e := TRec.enc) (xs := ([(rd r34.1 y49_2)] : List TRec)) (z := 2) (fun _ => rfl)⟩) rfl rfl ?_
          obtain ⟨b83, h49⟩ := gd_some h49
          refine RegV.appA (xs := y49_1) (ys := ([(rd r34.1 y49_2)] : List TRec)) (e := TRec.enc) (H1 := [(0, (.cells [(.ap 4 3 (List.map Tsegment_place.enc r27))])), (1, (.cells [(.d (.int .u64 a2))])), (2, (.tok ((List.map TRec.enc r34.1).length * 2))), (4, (.tok ((List.map Tsegment_place.enc r27).length * 3)))]) rfl rfl rfl rfl (fun _ => rfl) rfl rfl b83 rfl rfl rfl ?_
          refine RegV.p0 rfl rfl rfl ?_
          refine RegV.nil0 ?_
          refine AWc.rg hmix rfl rfl ?_
          refine RegV.p0 rfl rfl rfl ?_
          refine RegV.p0 (v := (.d (.int .i64 (IntKind.i64.wrap (y49_2 + (1 : Int)))))) rfl rfl rfl ?_
          refine RegV.p0 rfl rfl rfl ?_
          refine RegV.nil0 ?_
          exact ⟨((y49_1 ++ ([(rd r34.1 y49_2)] : List TRec)), (IntKind.i64.wrap (y49_2 + (1 : Int)))), h49, ⟨rfl, [], [(3, 5)], rfl, rfl, ⟨⟨_, rfl, (.refl _)⟩, rfl, ⟨⟨_, rfl, (.refl _)⟩, rfl, ⟨⟨_, rfl, (.refl _)⟩, rfl, ⟨⟨_, rfl, (.refl _)⟩, rfl, ⟨⟨_, rfl, (.refl _)⟩, rfl, ⟨⟨_, rfl, (.refl _)⟩, rfl, trivial⟩⟩⟩⟩⟩⟩, ⟨⟨_, rfl, (.refl _)⟩, rfl, rfl, ⟨⟨_, rfl, (.refl _)⟩, rfl, rfl, ⟨⟨_, rfl, (.refl _)⟩, rfl, rfl, ⟨⟨_, rfl, (.refl _)⟩, rfl, rfl, ⟨⟨_, rfl, (.refl _)⟩, rfl, rfl, trivial⟩⟩⟩⟩⟩⟩⟩
        · have h49 := cond_neg c74 h49
          refine AWc.skip ?_
          refine AWc.rg hmix rfl rfl ?_
          refine RegV.p0 rfl rfl rfl ?_
          refine RegV.p0 (v := (.d (.int .i64 (IntKind.i64.wrap (y49_2 + (1 : Int)))))) rfl rfl rfl ?_
          refine RegV.p0 rfl rfl rfl ?_
          refine RegV.nil0 ?_
          exact ⟨(y49_1, (IntKind.i64.wrap (y49_2 + (1 : Int)))), h49, ⟨rfl, [], [], rfl, rfl, ⟨⟨_, rfl, (.refl _)⟩, rfl, ⟨⟨_, rfl, (.refl _)⟩, rfl, ⟨⟨_, rfl, (.refl _)⟩, rfl, ⟨⟨_, rfl, (.refl _)⟩, rfl, ⟨⟨_, rfl, (.refl _)⟩, rfl, ⟨⟨_, rfl, (.refl _)⟩, rfl, trivial⟩⟩⟩⟩⟩⟩, ⟨⟨_, rfl, (.refl _)⟩, rfl, rfl, ⟨⟨_, rfl, (.refl _)⟩, rfl, rfl, ⟨⟨_, rfl, (.refl _)⟩, rfl, rfl, ⟨⟨_, rfl, (.refl _)⟩, rfl, rfl, ⟨⟨_, rfl, (.refl _)⟩, rfl, rfl, trivial⟩⟩⟩⟩⟩⟩⟩
      · have h49 := cond_neg c59 h49
        cases h49
        dsimp only at h
        refine AWc.exit ?_
        refine inBlk_eq ?_
        exact ⟨y49_1, h, ⟨rfl, [], [(2, 3), (3, 4)], rfl, rfl, ⟨⟨_, rfl, (.refl _)⟩, rfl, ⟨⟨_, rfl, (.refl _)⟩, rfl, ⟨⟨_, rfl, (.refl _)⟩, rfl, trivial⟩⟩⟩, ⟨⟨_, rfl, (.refl _)⟩, rfl, rfl, ⟨⟨_, rfl, (.refl _)⟩, rfl, rfl, ⟨⟨_, rfl, (.refl _)⟩, rfl, rfl, ⟨⟨_, rfl, (.refl _)⟩, rfl, rfl, trivial⟩⟩⟩⟩⟩⟩
    · intro j91_1 h
      unfold f246_j91 at h
      refine AWc.seqS (N := 126) 4 (fun (z : Unit) => [(3, (.d (.int .i64 a3))), (9, (.fn (N 277) [(.ptr 0 0), (.ptr 1 0)])), (12, (.ap 2 2 (List.map TRec.enc j91_1)))]) (fun z => [(0, (.cells [(.ap 3 3 (List.map Tsegment_place.enc r27))])), (1, (.cells [(.d (.int .u64 a2))])), (2, (.tok ((List.map TRec.enc j91_1).length * 2))), (3, (.tok ((List.map Tsegment_place.enc r27).length * 3)))]) (fun z => f246_j209 k j91_1 r27 a2 a3 = some r) rfl_le ?_ ?_
      · refine AWc.seq ?_
        refine AWc.rg hmix rfl rfl ?_
        refine RegV.p0 rfl rfl rfl ?_
        refine RegV.nil0 ?_
        obtain ⟨o96, h96, h⟩ := bind_some h
        refine AWc.block ?_
        refine AWc.loopK (N := 126) 4 (fun (x : Int) => [(3, (.d (.int .i64 a3))), (9, (.fn (N 277) [(.ptr 0 0), (.ptr 1 0)])), (12, (.ap 2 2 (List.map TRec.enc j91_1))), (14, (.d (.int .i64 x)))]) (fun x => [(0, (.cells [(.ap 3 3 (List.map Tsegment_place.enc r27))])), (1, (.cells [(.d (.int .u64 a2))])), (2, (.tok ((List.map TRec.enc j91_1).length * 2))), (3, (.tok ((List.map Tsegment_place.enc r27).length * 3)))]) (fun k x => f246_l96 r27 a2 j91_1 k x = some o96) k (0 : Int) rfl_le (fun x hx => by cases hx) h96 ⟨rfl, [], [], rfl, rfl, ⟨⟨_, rfl, (.refl _)⟩, rfl, ⟨⟨_, rfl, (.refl _)⟩, rfl, ⟨⟨_, rfl, (.refl _)⟩, rfl, ⟨⟨_, rfl, (.refl _)⟩, rfl, trivial⟩⟩⟩⟩, ⟨⟨_, rfl, (.refl _)⟩, rfl, rfl, ⟨⟨_, rfl, (.refl _)⟩, rfl, rfl, ⟨⟨_, rfl, (.refl _)⟩, rfl, rfl, ⟨⟨_, rfl, (.refl _)⟩, rfl, rfl, trivial⟩⟩⟩⟩⟩ ?_
        clear h96
        intro k
        intro y96_1 h96
        rw [f246_l96] at h96
        refine AWc.seq ?_
        refine AWc.seq ?_
        refine AWc.rg hmix rfl rfl ?_
        refine RegV.p0 rfl rfl rfl ?_
        refine RegV.p0 (v := (.d (.bool (decide (y96_1 < (2 : Int)))))) rfl rfl rfl ?_
        refine RegV.nil0 ?_
        refine AWc.cond rfl (fun c104 => ?_) (fun c104 => ?_)
        · have h96 := cond_pos c104 h96
          refine AWc.skip ?_
          refine AWc.seq ?_
          refine AWc.block ?_
          refine AWc.seq ?_
          refine AWc.rg hmix rfl rfl ?_
          refine RegV.p0 rfl rfl rfl ?_
          refine RegV.p0 rfl rfl rfl ?_
          refine RegV.len (xs := j91_1) (e := TRec.enc) rfl rfl rfl rfl ?_
          obtain ⟨r115, e115, h96⟩ := bind_some h96
          refine RegV.callS (q := false) (H' := [(0, (.cells [(.ap 3 3 (List.map Tsegment_place.enc r27))])), (1, (.cells [(.d (.int .u64 a2))])), (4, (.tok ((List.map (D.int .u64) r115.1).length * 1))), (5, (.tok ((List.map (slE byteD) r115.2.1).length * 1))), (3, (.tok ((List.map Tsegment_place.enc r27).length * 3))), (2, (.tok ((List.map TRec.enc j91_1).length * 2)))]) (c' := 6) (show ACalls P (N 281) [(.fn (N 277) [(.ptr 0 0), (.ptr 1 0)]), (.d (.int .i64 ((j91_1.length : Nat) : Int)))] [(0, (.cells [(.ap 3 3 (List.map Tsegment_place.enc r27))])), (3, (.tok ((List.map Tsegment_place.enc r27).length * 3))), (1, (.cells [(.d (.int .u64 a2))]))] (.tup [(.ap 4 1 (List.map (D.int .u64) r115.1)), (.ap 5 1 (List.map (slE byteD) r115.2.1)), (.d (.bool r115.2.2))]) [(0, (.cells [(.ap 3 3 (List.map Tsegment_place.enc r27))])), (1, (.cells [(.d (.int .u64 a2))])), (4, (.tok ((List.map (D.int .u64) r115.1).length * 1))), (5, (.tok ((List.map (slE byteD) r115.2.1).length * 1))), (3, (.tok ((List.map Tsegment_place.enc r27).length * 3)))] from ACalls.use (F281 hmix hc.2.2.2.2.2.1 e115) [(0, 0), (1, 3), (2, 1), (3, 4), (4, 5)] 5 rfl) rfl rfl rfl rfl (.cons (.refl _) (.cons (.refl _) .nil)) (.refl _) (fun h => by cases h) rfl (hasCons rfl (hasCons rfl (hasCons rfl hasNil))) rfl rfl rfl rfl ?_
          refine RegV.p0 rfl rfl rfl ?_
          refine RegV.p0 rfl rfl rfl ?_
          refine RegV.p0 rfl rfl rfl ?_
          refine RegV.p0 rfl rfl rfl ?_
          refine RegV.p0 rfl rfl rfl ?_
          refine RegV.p0 rfl rfl rfl ?_
          refine RegV.p0 rfl rfl rfl ?_
          refine RegV.nil0 ?_
          refine AWc.seq ?_
          refine AWc.seq ?_
          refine AWc.rg hmix rfl rfl ?_
          obtain ⟨r127, e127, h96⟩ := bind_some h96
          refine RegV.call0 (F245 hmix hc.2.1 e127) rfl rfl rfl rfl .nil rfl ?_
          refine RegV.p0 (v := (.d (.bool (!r127)))) rfl rfl rfl ?_
          refine RegV.p0 rfl rfl rfl ?_
          refine RegV.split (fun c129 => ?_) (fun c129 => ?_)
          · have h96 := cond_pos c129 h96
            refine RegV.noS rfl rfl ?_
            refine RegV.noS rfl rfl ?_
            refine RegV.p0 rfl rfl rfl ?_
            refine RegV.p0 rfl rfl rfl ?_
            refine RegV.noS rfl rfl ?_
            refine RegV.noS rfl rfl ?_
            refine RegV.noS rfl rfl ?_
            refine RegV.noS rfl rfl ?_
            refine RegV.noS rfl rfl ?_
            refine RegV.p0 rfl rfl rfl ?_
            refine RegV.nil0 ?_
            refine AWc.cond rfl (fun _ => ?_) (fun hc => by cases hc)
            refine AWc.seq ?_
            refine AWc.rg hmix rfl rfl ?_
            refine RegV.p0 rfl rfl rfl ?_
            refine RegV.nil0 ?_
            cases h96
            dsimp only at h
            have hr := Option.some.inj h
            subst hr
            exact AWc.ret (canQ (N := 126) (k := 0) (l' := [(8, (.d (.bool false)))]) (H' := []) rfl ⟨rfl, [], [], rfl, rfl, ⟨⟨_, rfl, (.refl _)⟩, rfl, trivial⟩,  trivial⟩ (doneA (.inr rfl) rfl ⟨trivial, trivial⟩ (.refl _) hasNil))
          · have h96 := cond_neg c129 h96
            refine RegV.p0 rfl rfl rfl ?_
            refine RegV.p0 (v := (.d (.bool (!r115.2.2)))) rfl rfl rfl ?_
            refine RegV.p0 rfl rfl rfl ?_
            refine RegV.p0 rfl rfl rfl ?_
            refine RegV.split (fun c133 => ?_) (fun c133 => ?_)
            · have h96 := cond_pos c133 h96
              refine RegV.noS rfl rfl ?_
              refine RegV.noS rfl rfl ?_
              refine RegV.noS rfl rfl ?_
              refine RegV.noS rfl rfl ?_
              refine RegV.noS rfl rfl ?_
              refine RegV.p0 rfl rfl rfl ?_
              refine RegV.nil0 ?_
              refine AWc.cond rfl (fun _ => ?_) (fun hc => by cases hc)
              refine AWc.seq ?_
              refine AWc.rg hmix rfl rfl ?_
              refine RegV.p0 rfl rfl rfl ?_
              refine RegV.nil0 ?_
              cases h96
              dsimp only at h
              have hr := Option.some.inj h
              subst hr
              exact AWc.ret (canQ (N := 126) (k := 0) (l' := [(8, (.d (.bool false)))]) (H' := []) rfl ⟨rfl, [], [], rfl, rfl, ⟨⟨_, rfl, (.refl _)⟩, rfl, trivial⟩,  trivial⟩ (doneA (.inr rfl) rfl ⟨trivial, trivial⟩ (.refl _) hasNil))
            · have h96 := cond_neg c133 h96
              refine RegV.p0 rfl rfl rfl ?_
              refine RegV.len (xs := r115.1) (e := (D.int .u64)) rfl rfl rfl rfl ?_
              refine RegV.p0 rfl rfl rfl ?_
              refine RegV.len (xs := j91_1) (e := TRec.enc) rfl rfl rfl rfl ?_
              refine RegV.p0 (v := (.d (.bool (decide (((r115.1.length : Nat) : Int) ≠ ((j91_1.length : Nat) : Int)))))) rfl rfl rfl ?_
              refine RegV.p0 rfl rfl rfl ?_
              refine RegV.nil0 ?_
              refine AWc.cond rfl (fun c140 => ?_) (fun c140 => ?_)
              · have h96 := cond_pos c140 h96
                refine AWc.seq ?_
                refine AWc.rg hmix rfl rfl ?_
                refine RegV.p0 rfl rfl rfl ?_
                refine RegV.nil0 ?_
                cases h96
                dsimp only at h
                have hr := Option.some.inj h
                subst hr
                exact AWc.ret (canQ (N := 126) (k := 0) (l' := [(8, (.d (.bool false)))]) (H' := []) rfl ⟨rfl, [], [], rfl, rfl, ⟨⟨_, rfl, (.refl _)⟩, rfl, trivial⟩,  trivial⟩ (doneA (.inr rfl) rfl ⟨trivial, trivial⟩ (.refl _) hasNil))
              · have h96 := cond_neg c140 h96
                refine AWc.skip ?_
                refine AWc.seq ?_
                refine AWc.rg hmix rfl rfl ?_
                refine RegV.p0 rfl rfl rfl ?_
                refine RegV.nil0 ?_
                obtain ⟨o151, h151, h96⟩ := bind_some h96
                refine AWc.block ?_
                refine AWc.loopK (N := 126) 6 (fun (x : Int) => [(3, (.d (.int .i64 a3))), (9, (.fn (N 277) [(.ptr 0 0), (.ptr 1 0)])), (12, (.ap 2 2 (List.map TRec.enc j91_1))), (14, (.d (.int .i64 y96_1))), (15, (.ap 3 1 (List.map (D.int .u64) r115.1))), (16, (.ap 4 1 (List.map (slE byteD) r115.2.1))), (18, (.d (.int .i64 x))), (70, (.d (.bool r115.2.2))), (71, (.d (.bool (!r115.2.2)))), (74, (.ap 3 1 (List.map (D.int .u64) r115.1))), (75, (.d (.int .i64 ((r115.1.length : Nat) : Int)))), (76, (.ap 2 2 (List.map TRec.enc j91_1))), (77, (.d (.int .i64 ((j91_1.length : Nat) : Int)))), (78, (.d (.bool (decide (((r115.1.length : Nat) : Int) ≠ ((j91_1.length : Nat) : Int))))))]) (fun x => [(0, (.cells [(.ap 5 3 (List.map Tsegment_place.enc r27))])), (1, (.cells [(.d (.int .u64 a2))])), (2, (.tok ((List.map TRec.enc j91_1).length * 2))), (3, (.tok ((List.map (D.int .u64) r115.1).length * 1))), (4, (.tok ((List.map (slE byteD) r115.2.1).length * 1))), (5, (.tok ((List.map Tsegment_place.enc r27).length * 3)))]) (fun k x => f246_l151 j91_1 r115 k x = some o151) k (0 : Int) rfl_le (fun x hx => by cases hx) h151 ⟨rfl, [], [(3, 4), (4, 5), (5, 3)], rfl, rfl, ⟨⟨_, rfl, (.refl _)⟩, rfl, ⟨⟨_, rfl, (.refl _)⟩, rfl, ⟨⟨_, rfl, (.refl _)⟩, rfl, ⟨⟨_, rfl, (.refl _)⟩, rfl, ⟨⟨_, rfl, (.refl _)⟩, rfl, ⟨⟨_, rfl, (.refl _)⟩, rfl, ⟨⟨_, rfl, (.refl _)⟩, rfl, ⟨⟨_, rfl, (.refl _)⟩, rfl, ⟨⟨_, rfl, (.refl _)⟩, rfl, ⟨⟨_, rfl, (.refl _)⟩, rfl, ⟨⟨_, rfl, (.refl _)⟩, rfl, ⟨⟨_, rfl, (.refl _)⟩, rfl, ⟨⟨_, rfl, (.refl _)⟩, rfl, ⟨⟨_, rfl, (.refl _)⟩, rfl, trivial⟩⟩⟩⟩⟩⟩⟩⟩⟩⟩⟩⟩⟩⟩, ⟨⟨_, rfl, (.refl _)⟩, rfl, rfl, ⟨⟨_, rfl, (.refl _)⟩, rfl, rfl, ⟨⟨_, rfl, (.refl _)⟩, rfl, rfl, ⟨⟨_, rfl, (.refl _)⟩, rfl, rfl, ⟨⟨_, rfl, (.refl _)⟩, rfl, rfl, ⟨⟨_, rfl, (.refl _)⟩, rfl, rfl, trivial⟩⟩⟩⟩⟩⟩⟩ ?_
                clear h151
                intro k
                intro y151_1 h151
                rw [f246_l151] at h151
                refine AWc.seq ?_
                refine AWc.seq ?_
                refine AWc.rg hmix rfl rfl ?_
                refine RegV.p0 rfl rfl rfl ?_
                refine RegV.p0 rfl rfl rfl ?_
                refine RegV.len (xs := j91_1) (e := TRec.enc) rfl rfl rfl rfl ?_
                refine RegV.p0 (v := (.d (.bool (decide (y151_1 < ((j91_1.length : Nat) : Int)))))) rfl rfl rfl ?_
                refine RegV.nil0 ?_
                refine AWc.cond rfl (fun c161 => ?_) (fun c161 => ?_)
                · have h151 := cond_pos c161 h151
                  refine AWc.skip ?_
                  refine AWc.seq ?_
                  refine AWc.block ?_
                  refine AWc.seq ?_
                  refine AWc.rg hmix rfl rfl ?_
                  refine RegV.p0 rfl rfl rfl ?_
                  refine RegV.p0 rfl rfl rfl ?_
                  obtain ⟨b171, h151⟩ := gd_some h151
                  refine RegV.iad (xs := r115.1) (e := (D.int .u64)) rfl rfl rfl rfl (fun _ => rfl) b171 rfl ?_
                  refine RegV.p0 (v := (.d (.int .u64 (rd r115.1 y151_1)))) rfl rfl rfl ?_
                  refine RegV.p0 rfl rfl rfl ?_
                  refine RegV.p0 rfl rfl rfl ?_
                  obtain ⟨b175, h151⟩ := gd_some h151
                  refine RegV.iad (xs := j91_1) (e := TRec.enc) rfl rfl rfl rfl (fun _ => rfl) b175 rfl ?_
                  refine RegV.p0 (v := (.cp (TRec.enc (rd j91_1 y151_1)) 0)) rfl rfl rfl ?_
                  refine RegV.p0 (v := (.d (.int .u64 (rd j91_1 y151_1).fOffset))) rfl rfl rfl ?_
                  refine RegV.p0 (v := (.d (.bool (decide ((rd r115.1 y151_1) ≠ (rd j91_1 y151_1).fOffset))))) rfl rfl rfl ?_
                  refine RegV.p0 rfl rfl rfl ?_
                  refine RegV.split (fun c179 => ?_) (fun c179 => ?_)
                  · have h151 := cond_pos c179 h151
                    refine RegV.noS rfl rfl ?_
                    refine RegV.noS rfl rfl ?_
                    refine RegV.noS rfl rfl ?_
                    refine RegV.noS rfl rfl ?_
                    refine RegV.noS rfl rfl ?_
                    refine RegV.noS rfl rfl ?_
                    refine RegV.noS rfl rfl ?_
                    refine RegV.noS rfl rfl ?_
                    refine RegV.noS rfl rfl ?_
                    refine RegV.noS rfl rfl ?_
                    refine RegV.noS rfl rfl ?_
                    refine RegV.p0 rfl rfl rfl ?_
                    refine RegV.nil1 (by kernel_rfl) ?_
                    refine AWc.cond rfl (fun _ => ?_) (fun hc => by cases hc)
                    refine AWc.seq ?_
                    refine AWc.rg hmix rfl rfl ?_
                    refine RegV.p0 rfl rfl rfl ?_
                    refine RegV.nil0 ?_
                    cases h151
                    dsimp only at h96
                    cases h96
                    dsimp only at h
                    have hr := Option.some.inj h
                    subst hr
                    exact AWc.ret (canQ (N := 126) (k := 0) (l' := [(8, (.d (.bool false)))]) (H' := []) rfl ⟨rfl, [], [], rfl, rfl, ⟨⟨_, rfl, (.refl _)⟩, rfl, trivial⟩,  trivial⟩ (doneA (.inr rfl) rfl ⟨trivial, trivial⟩ (.refl _) hasNil))
                  · have h151 := cond_neg c179 h151
                    refine RegV.p0 rfl rfl rfl ?_
                    refine RegV.p0 rfl rfl rfl ?_
                    obtain ⟨b182, h151⟩ := gd_some h151
                    refine RegV.iad (xs := r115.2.1) (e := (slE byteD)) rfl rfl rfl rfl (fun _ => rfl) b182 rfl ?_
                    refine RegV.p0 (v := (.d (.sl (List.map byteD (rd r115.2.1 y151_1))))) rfl rfl rfl ?_
                    refine RegV.p0 rfl rfl rfl ?_
                    refine RegV.p0 rfl rfl rfl ?_
                    obtain ⟨b186, h151⟩ := gd_some h151
                    refine RegV.iad (xs := j91_1) (e := TRec.enc) rfl rfl rfl rfl (fun _ => rfl) b186 rfl ?_
                    refine RegV.p0 (v := (.cp (TRec.enc (rd j91_1 y151_1)) 1)) rfl rfl rfl ?_
                    refine RegV.p0 (v := (.d (.sl (List.map byteD (rd j91_1 y151_1).fData)))) rfl rfl rfl ?_
                    obtain ⟨r189, e189, h151⟩ := bind_some h151
                    refine RegV.call0 (F22 hmix hc.2.2.2.2.2.2.1 e189) rfl rfl rfl rfl (.cons (.refl _) (.cons (.refl _) .nil)) rfl ?_
                    refine RegV.p0 (v := (.d (.bool (!(decide ((rd r115.2.1 y151_1) = ((rd j91_1 y151_1).fData))))))) rfl rfl rfl ?_
                    refine RegV.p0 rfl rfl rfl ?_
                    refine RegV.nil1 (by kernel_rfl) ?_
                    refine AWc.cond rfl (fun c192 => ?_) (fun c192 => ?_)
                    · have h151 := cond_pos c192 h151
                      refine AWc.seq ?_
                      refine AWc.rg hmix rfl rfl ?_
                      refine RegV.p0 rfl rfl rfl ?_
                      refine RegV.nil0 ?_
                      cases h151
                      dsimp only at h96
                      cases h96
                      dsimp only at h
                      have hr := Option.some.inj h
                      subst hr
                      exact AWc.ret (canQ (N := 126) (k := 0) (l' := [(8, (.d (.bool false)))]) (H' := []) rfl ⟨rfl, [], [], rfl, rfl, ⟨⟨_, rfl, (.refl _)⟩, rfl, trivial⟩,  trivial⟩ (doneA (.inr rfl) rfl ⟨trivial, trivial⟩ (.refl _) hasNil))
                    · have h151 := cond_neg c192 h151
                      refine AWc.skip ?_
                      refine AWc.rg hmix rfl rfl ?_
                      refine RegV.p0 rfl rfl rfl ?_
                      refine RegV.p0 (v := (.d (.int .i64 (IntKind.i64.wrap (y151_1 + (1 : Int)))))) rfl rfl rfl ?_
                      refine RegV.p0 rfl rfl rfl ?_
                      refine RegV.nil0 ?_
                      exact ⟨(IntKind.i64.wrap (y151_1 + (1 : Int))), h151, ⟨rfl, [], [], rfl, rfl, ⟨⟨_, rfl, (.refl _)⟩, rfl, ⟨⟨_, rfl, (.refl _)⟩, rfl, ⟨⟨_, rfl, (.refl _)⟩, rfl, ⟨⟨_, rfl, (.refl _)⟩, rfl, ⟨⟨_, rfl, (.refl _)⟩, rfl, ⟨⟨_, rfl, (.refl _)⟩, rfl, ⟨⟨_, rfl, (.refl _)⟩, rfl, ⟨⟨_, rfl, (.refl _)⟩, rfl, ⟨⟨_, rfl, (.refl _)⟩, rfl, ⟨⟨_, rfl, (.refl _)⟩, rfl, ⟨⟨_, rfl, (.refl _)⟩, rfl, ⟨⟨_, rfl, (.refl _)⟩, rfl, ⟨⟨_, rfl, (.refl _)⟩, rfl, ⟨⟨_, rfl, (.refl _)⟩, rfl, trivial⟩⟩⟩⟩⟩⟩⟩⟩⟩⟩⟩⟩⟩⟩, ⟨⟨_, rfl, (.refl _)⟩, rfl, rfl, ⟨⟨_, rfl, (.refl _)⟩, rfl, rfl, ⟨⟨_, rfl, (.refl _)⟩, rfl, rfl, ⟨⟨_, rfl, (.refl _)⟩, rfl, rfl, ⟨⟨_, rfl, (.refl _)⟩, rfl, rfl, ⟨⟨_, rfl, (.refl _)⟩, rfl, rfl, trivial⟩⟩⟩⟩⟩⟩⟩⟩
                · have h151 := cond_neg c161 h151
                  cases h151
                  dsimp only at h96
                  refine AWc.exit ?_
                  refine inBlk_eq ?_
                  refine AWc.rg hmix rfl rfl ?_
                  refine RegV.p0 rfl rfl rfl ?_
                  refine RegV.p0 (v := (.d (.int .i64 (IntKind.i64.wrap (y96_1 + (1 : Int)))))) rfl rfl rfl ?_
                  refine RegV.p0 rfl rfl rfl ?_
                  refine RegV.nil0 ?_
                  exact ⟨(IntKind.i64.wrap (y96_1 + (1 : Int))), h96, ⟨rfl, [], [(3, 5)], rfl, rfl, ⟨⟨_, rfl, (.refl _)⟩, rfl, ⟨⟨_, rfl, (.refl _)⟩, rfl, ⟨⟨_, rfl, (.refl _)⟩, rfl, ⟨⟨_, rfl, (.refl _)⟩, rfl, trivial⟩⟩⟩⟩, ⟨⟨_, rfl, (.refl _)⟩, rfl, rfl, ⟨⟨_, rfl, (.refl _)⟩, rfl, rfl, ⟨⟨_, rfl, (.refl _)⟩, rfl, rfl, ⟨⟨_, rfl, (.refl _)⟩, rfl, rfl, trivial⟩⟩⟩⟩⟩⟩
        · have h96 := cond_neg c104 h96
          cases h96
          dsimp only at h
          refine AWc.exit ?_
          refine inBlk_eq ?_
          exact ⟨(), h, ⟨rfl, [], [], rfl, rfl, ⟨⟨_, rfl, (.refl _)⟩, rfl, ⟨⟨_, rfl, (.refl _)⟩, rfl, ⟨⟨_, rfl, (.refl _)⟩, rfl, trivial⟩⟩⟩, ⟨⟨_, rfl, (.refl _)⟩, rfl, rfl, ⟨⟨_, rfl, (.refl _)⟩, rfl, rfl, ⟨⟨_, rfl, (.refl _)⟩, rfl, rfl, ⟨⟨_, rfl, (.refl _)⟩, rfl, rfl, trivial⟩⟩⟩⟩⟩⟩
      · rintro ⟨⟩ h
        unfold f246_j209 at h
        refine AWc.seq ?_
        refine AWc.rg hmix rfl rfl ?_
        refine RegV.p0 rfl rfl rfl ?_
        refine RegV.p0 (v := (.d (.int .u64 (IntKind.u64.wrap a3)))) rfl rfl rfl ?_
        refine RegV.p0 rfl rfl rfl ?_
        refine RegV.len (xs := j91_1) (e := TRec.enc) rfl rfl rfl rfl ?_
        refine RegV.p0 (v := (.d (.int .i64 (IntKind.i64.wrap (((j91_1.length : Nat) : Int) + (1 : Int)))))) rfl rfl rfl ?_
        refine RegV.p0 (v := (.d (.int .u64 (IntKind.u64.wrap (IntKind.i64.wrap (((j91_1.length : Nat) : Int) + (1 : Int))))))) rfl rfl rfl ?_
        obtain ⟨b218, h⟩ := gd_some h
        refine RegV.p1 (v := (.d (.int .u64 (Int.tmod (IntKind.u64.wrap a3) (IntKind.u64.wrap (IntKind.i64.wrap (((j91_1.length : Nat) : Int) + (1 : Int)))))))) rfl rfl b218 rfl rfl ?_
        refine RegV.p0 (v := (.d (.int .i64 (IntKind.i64.wrap (Int.tmod (IntKind.u64.wrap a3) (IntKind.u64.wrap (IntKind.i64.wrap (((j91_1.length : Nat) : Int) + (1 : Int))))))))) rfl rfl rfl ?_
        refine RegV.p0 (v := (.d (.int .i64 (IntKind.i64.wrap ((1 : Int) + (IntKind.i64.wrap (Int.tmod (IntKind.u64.wrap a3) (IntKind.u64.wrap (IntKind.i64.wrap (((j91_1.length : Nat) : Int) + (1 : Int))))))))))) rfl rfl rfl ?_
        refine RegV.p0 rfl rfl rfl ?_
        refine RegV.nil0 ?_
        refine AWc.seq ?_
        refine AWc.rg hmix rfl rfl ?_
        refine RegV.p0 rfl rfl rfl ?_
        refine RegV.p0 rfl rfl rfl ?_
        obtain ⟨r227, e227, h⟩ := bind_some h
        refine RegV.callS (q := false) (H' := [(0, (.cells [(.ap 3 3 (List.map Tsegment_place.enc r27))])), (1, (.cells [(.d (.int .u64 a2))])), (3, (.tok ((List.map Tsegment_place.enc r27).length * 3))), (2, (.tok ((List.map TRec.enc j91_1).length * 2)))]) (c' := 4) (show ACalls P (N 284) [(.fn (N 277) [(.ptr 0 0), (.ptr 1 0)]), (.d (.int .i64 (IntKind.i64.wrap ((1 : Int) + (IntKind.i64.wrap (Int.tmod (IntKind.u64.wrap a3) (IntKind.u64.wrap (IntKind.i64.wrap (((j91_1.length : Nat) : Int) + (1 : Int))))))))))] [(0, (.cells [(.ap 3 3 (List.map Tsegment_place.enc r27))])), (3, (.tok ((List.map Tsegment_place.enc r27).length * 3))), (1, (.cells [(.d (.int .u64 a2))]))] (.d (.int .i64 r227)) [(0, (.cells [(.ap 3 3 (List.map Tsegment_place.enc r27))])), (1, (.cells [(.d (.int .u64 a2))])), (3, (.tok ((List.map Tsegment_place.enc r27).length * 3)))] from ACalls.use (F284 hmix hc.2.2.2.2.2.2.2 e227) [(0, 0), (1, 3), (2, 1)] 3 rfl) rfl rfl rfl rfl (.cons (.refl _) (.cons (.refl _) .nil)) (.refl _) (fun h => by cases h) rfl (hasCons rfl (hasCons rfl (hasCons rfl hasNil))) rfl rfl rfl rfl ?_
        refine RegV.p0 rfl rfl rfl ?_
        refine RegV.p0 rfl rfl rfl ?_
        refine RegV.len (xs := j91_1) (e := TRec.enc) rfl rfl rfl rfl ?_
        refine RegV.p0 (v := (.d (.int .i64 (min (IntKind.i64.wrap ((1 : Int) + (IntKind.i64.wrap (Int.tmod (IntKind.u64.wrap a3) (IntKind.u64.wrap (IntKind.i64.wrap (((j91_1.length : Nat) : Int) + (1 : Int)))))))) ((j91_1.length : Nat) : Int))))) rfl rfl rfl ?_
        refine RegV.p0 (v := (.d (.bool (decide (r227 = (min (IntKind.i64.wrap ((1 : Int) + (IntKind.i64.wrap (Int.tmod (IntKind.u64.wrap a3) (IntKind.u64.wrap (IntKind.i64.wrap (((j91_1.length : Nat) : Int) + (1 : Int)))))))) ((j91_1.length : Nat) : Int))))))) rfl rfl rfl ?_
        refine RegV.p0 rfl rfl rfl ?_
        refine RegV.nil0 ?_
        have hr := Option.some.inj h
        subst hr
        exact AWc.ret (canQ (N := 126) (k := 0) (l' := [(8, (.d (.bool (decide (r227 = (min (IntKind.i64.wrap ((1 : Int) + (IntKind.i64.wrap (Int.tmod (IntKind.u64.wrap a3) (IntKind.u64.wrap (IntKind.i64.wrap (((j91_1.length : Nat) : Int) + (1 : Int)))))))) ((j91_1.length : Nat) : Int)))))))]) (H' := []) rfl ⟨rfl, [], [], rfl, rfl, ⟨⟨_, rfl, (.refl _)⟩, rfl, trivial⟩,  trivial⟩ (doneA (.inr rfl) rfl ⟨trivial, trivial⟩ (.refl _) hasNil))
end Go.Proofs.Abs
