/- Written by gen.py: functions of the program as Lean functions, and that the code comes to them. -/
import Derived.Test.YtlpffigmcnahcaaDoorGCbb
set_option linter.unusedVariables false
set_option linter.unusedSimpArgs false
set_option maxRecDepth 100000
set_option maxHeartbeats 4000000
namespace Go.Proofs.Abs
open Go
/-- courant/courantlaw08.CodecBlocks -/
def C458 (N : Nat → Nat) : AFunc := { n := 149, params := 4, res := [.tmp 8], body :=
 (.seq (.region false [⟨(some 8), .mv (.k (.d (.bool false))), none, []⟩])
  (.seq (.seq (.region false [⟨(some 21), .mv (.t 0), none, []⟩,
     ⟨(some 22), .len (.t 21), none, [0]⟩,
     ⟨(some 23), .bin .gtr (.t 22) (.k (.d (.int .i64 300))), none, [1]⟩])
    (.cond (.t 23) (.seq (.region false [⟨(some 24), .call (.k (.d (.fn (N 459)))) [], none, []⟩,
       ⟨(some 8), .mv (.t 24), none, [0]⟩])
      .ret)
     (.skip)))
   (.seq (.region false [⟨(some 25), .build [(.int .i64 0), (.str []), (.sl []), (.sl []), (.sl []), (.bool false), (.str []), (.int .i64 0), (.sl []), (.int .i64 0)] [(0, 1, (.k (.d (.int .i64 11)))), (7, 1, (.k (.d (.int .i64 1))))], none, []⟩,
     ⟨(some 26), .build [(.int .i64 0), (.str []), (.sl []), (.sl []), (.sl []), (.bool false), (.str []), (.int .i64 0), (.sl []), (.int .i64 0)] [(0, 1, (.k (.d (.int .i64 4))))], none, []⟩,
     ⟨(some 27), .bslice 2 10 [(.int .i64 0), (.str []), (.sl []), (.sl []), (.sl []), (.bool false), (.str []), (.int .i64 0), (.sl []), (.int .i64 0)] [(0, (.t 25)), (1, (.t 26))], none, [0, 1]⟩,
     ⟨(some 28), .build [(.sl [])] [(0, 1, (.t 27))], none, [2]⟩,
     ⟨(some 9), .alloc [(.sl [])], none, []⟩,
     ⟨none, .store (.t 9) (.t 28) 1, none, [4, 3, 0, 1, 2]⟩])
    (.seq (.region false [⟨(some 10), .mv (.k .nils), none, []⟩])
     (.seq (.region false [⟨(some 11), .mv (.k (.d (.int .i64 0))), none, []⟩,
       ⟨(some 12), .mv (.k (.d (.bool false))), none, [0]⟩])
      (.seq (.seq (.region false [⟨(some 13), .mv (.k (.d (.int .i64 0))), none, []⟩,
         ⟨(some 14), .mv (.k (.d (.int .i64 0))), none, [0]⟩])
        (.block 0 (.loop (.seq (.seq (.region false [⟨(some 29), .mv (.t 13), none, []⟩,
             ⟨(some 30), .mv (.t 0), none, []⟩,
             ⟨(some 31), .len (.t 30), none, [1]⟩,
             ⟨(some 32), .bin .lss (.t 29) (.t 31), none, [0, 2]⟩])
            (.cond (.t 32) (.skip)
             (.exit 0)))
           (.seq (.block 1 (.seq (.region false [⟨(some 35), .mv (.t 0), none, []⟩,
               ⟨(some 36), .len (.t 35), none, [0]⟩,
               ⟨(some 37), .mv (.t 13), none, []⟩,
               ⟨(some 38), .bin .sub (.t 36) (.t 37), none, [1, 2]⟩,
               ⟨(some 15), .mv (.t 38), none, [3, 0, 1, 2]⟩])
              (.seq (.seq (.region false [⟨(some 39), .mv (.t 14), none, []⟩,
                 ⟨(some 40), .mv (.t 1), none, []⟩,
                 ⟨(some 41), .len (.t 40), none, [1]⟩,
                 ⟨(some 42), .bin .lss (.t 39) (.t 41), none, [0, 2]⟩])
                (.cond (.t 42) (.region false [⟨(some 43), .mv (.t 1), none, []⟩,
                  ⟨(some 44), .mv (.t 14), none, []⟩,
                  ⟨(some 45), .iaddr (.t 43) (.t 44) 1, none, [0, 1]⟩,
                  ⟨(some 46), .load (.t 45) 1 false, none, [2]⟩,
                  ⟨(some 47), .cvi .u64 (.t 46), none, [3]⟩,
                  ⟨(some 48), .mv (.t 15), none, []⟩,
                  ⟨(some 49), .cvi .u64 (.t 48), none, [5]⟩,
                  ⟨(some 50), .bin .rem (.t 47) (.t 49), none, [4, 6]⟩,
                  ⟨(some 51), .cvi .i64 (.t 50), none, [7]⟩,
                  ⟨(some 52), .bin .add (.k (.d (.int .i64 1))) (.t 51), none, [8]⟩,
                  ⟨(some 15), .mv (.t 52), none, [9, 0, 1, 2, 3, 4, 5, 6, 7, 8]⟩])
                 (.skip)))
               (.seq (.region false [⟨(some 16), .mv (.k .nils), none, []⟩])
                (.seq (.seq (.region false [⟨(some 53), .mv (.t 13), none, []⟩,
                   ⟨(some 17), .mv (.t 53), none, [0]⟩])
                  (.block 2 (.loop (.seq (.seq (.region false [⟨(some 54), .mv (.t 17), none, []⟩,
                       ⟨(some 55), .mv (.t 13), none, []⟩,
                       ⟨(some 56), .mv (.t 15), none, []⟩,
                       ⟨(some 57), .bin .add (.t 55) (.t 56), none, [1, 2]⟩,
                       ⟨(some 58), .bin .lss (.t 54) (.t 57), none, [0, 3]⟩])
                      (.cond (.t 58) (.skip)
                       (.exit 2)))
                     (.seq (.block 3 (.region false [⟨(some 61), .mv (.t 16), none, []⟩,
                        ⟨(some 62), .mv (.t 0), none, []⟩,
                        ⟨(some 63), .mv (.t 17), none, []⟩,
                        ⟨(some 64), .iaddr (.t 62) (.t 63) 1, none, [1, 2]⟩,
                        ⟨(some 65), .load (.t 64) 1 false, none, [3]⟩,
                        ⟨(some 66), .call (.k (.d (.fn (N 26)))) [(.t 65)], none, [4]⟩,
                        ⟨(some 67), .app (.t 61) (.t 66) 1 1 [(.int .u8 0)], none, [0, 5]⟩,
                        ⟨(some 16), .mv (.t 67), none, [6, 0, 1, 2, 3, 4, 5]⟩]))
                      (.region false [⟨(some 59), .mv (.t 17), none, []⟩,
                       ⟨(some 60), .bin .add (.t 59) (.k (.d (.int .i64 1))), none, [0]⟩,
                       ⟨(some 17), .mv (.t 60), none, [1, 0]⟩]))))))
                 (.seq (.seq (.region false [⟨(some 68), .mv (.t 14), none, []⟩,
                    ⟨(some 69), .mv (.t 2), none, []⟩,
                    ⟨(some 70), .len (.t 69), none, [1]⟩,
                    ⟨(some 71), .bin .lss (.t 68) (.t 70), none, [0, 2]⟩,
                    ⟨(some 72), .mv (.t 71), none, [3]⟩,
                    ⟨(some 73), .mv (.t 2), (some (72, true)), [4]⟩,
                    ⟨(some 74), .mv (.t 14), (some (72, true)), [4]⟩,
                    ⟨(some 75), .iaddr (.t 73) (.t 74) 1, (some (72, true)), [5, 6, 4]⟩,
                    ⟨(some 76), .load (.t 75) 1 false, (some (72, true)), [7, 4]⟩,
                    ⟨(some 77), .pick (.t 72) (.t 76) (.k (.d (.bool false))), none, [4, 8]⟩])
                   (.cond (.t 77) (.seq (.region false [⟨(some 11), .mv (.k (.d (.int .i64 0))), none, []⟩])
                     (.seq (.seq (.region false [⟨(some 78), .mv (.t 3), none, []⟩,
                        ⟨(some 79), .bin .rem (.t 78) (.k (.d (.int .i64 9))), none, [0]⟩,
                        ⟨(some 80), .bin .eql (.t 79) (.k (.d (.int .i64 1))), none, [1]⟩])
                       (.cond (.t 80) (.region false [⟨(some 11), .mv (.k (.d (.int .i64 1))), none, []⟩,
                         ⟨(some 12), .mv (.k (.d (.bool true))), none, [0]⟩])
                        (.skip)))
                      (.seq (.region false [⟨(some 81), .mv (.t 10), none, []⟩,
                        ⟨(some 82), .mv (.t 15), none, []⟩,
                        ⟨(some 83), .un .neg (.t 82), none, [1]⟩,
                        ⟨(some 84), .call (.k (.d (.fn (N 26)))) [(.t 83)], none, [2]⟩,
                        ⟨(some 85), .app (.t 81) (.t 84) 1 1 [(.int .u8 0)], none, [0, 3]⟩,
                        ⟨(some 10), .mv (.t 85), none, [4, 0, 1, 2, 3]⟩])
                       (.region false [⟨(some 86), .mv (.t 10), none, []⟩,
                        ⟨(some 87), .mv (.t 16), none, []⟩,
                        ⟨(some 88), .len (.t 87), none, [1]⟩,
                        ⟨(some 89), .mv (.t 11), none, []⟩,
                        ⟨(some 90), .bin .add (.t 88) (.t 89), none, [2, 3]⟩,
                        ⟨(some 91), .call (.k (.d (.fn (N 26)))) [(.t 90)], none, [4]⟩,
                        ⟨(some 92), .app (.t 86) (.t 91) 1 1 [(.int .u8 0)], none, [0, 5]⟩,
                        ⟨(some 10), .mv (.t 92), none, [6, 0, 1, 2, 3, 4, 5]⟩]))))
                    (.region false [⟨(some 93), .mv (.t 10), none, []⟩,
                     ⟨(some 94), .mv (.t 15), none, []⟩,
                     ⟨(some 95), .call (.k (.d (.fn (N 26)))) [(.t 94)], none, [1]⟩,
                     ⟨(some 96), .app (.t 93) (.t 95) 1 1 [(.int .u8 0)], none, [0, 2]⟩,
                     ⟨(some 10), .mv (.t 96), none, [3, 0, 1, 2]⟩])))
                  (.seq (.region false [⟨(some 97), .mv (.t 10), none, []⟩,
                    ⟨(some 98), .mv (.t 16), none, []⟩,
                    ⟨(some 99), .app (.t 97) (.t 98) 1 1 [(.int .u8 0)], none, [0, 1]⟩,
                    ⟨(some 10), .mv (.t 99), none, [2, 0, 1]⟩])
                   (.region false [⟨(some 100), .mv (.t 13), none, []⟩,
                    ⟨(some 101), .mv (.t 15), none, []⟩,
                    ⟨(some 102), .bin .add (.t 100) (.t 101), none, [0, 1]⟩,
                    ⟨(some 13), .mv (.t 102), none, [2, 0, 1]⟩]))))))))
            (.region false [⟨(some 33), .mv (.t 14), none, []⟩,
             ⟨(some 34), .bin .add (.t 33) (.k (.d (.int .i64 1))), none, [0]⟩,
             ⟨(some 14), .mv (.t 34), none, [1, 0]⟩]))))))
       (.seq (.region false [⟨(some 103), .mv (.t 10), none, []⟩,
         ⟨(some 104), .bslice 1 1 [(.int .u8 0)] [(0, (.k (.d (.int .u8 0))))], none, []⟩,
         ⟨(some 105), .app (.t 103) (.t 104) 1 1 [(.int .u8 0)], none, [0, 1]⟩,
         ⟨(some 10), .mv (.t 105), none, [2, 0, 1]⟩])
        (.seq (.region false [⟨(some 107), .load (.t 9) 1 true, none, []⟩,
          ⟨(some 108), .mv (.t 10), none, []⟩,
          ⟨(some 109), .call (.k (.d (.fn (N 449)))) [(.t 107), (.t 108)], none, [0, 1]⟩,
          ⟨(some 106), .mv (.t 109), none, [2]⟩,
          ⟨(some 110), .ext (.t 106) 0, none, [3]⟩,
          ⟨(some 111), .ext (.t 106) 1, none, [3]⟩,
          ⟨(some 18), .alloc [(.int .i64 0), (.int .i64 0), (.sl []), (.sl []), (.sl [])], none, []⟩,
          ⟨none, .store (.t 18) (.t 110) 5, none, [6, 4, 2, 0, 1, 3]⟩,
          ⟨(some 19), .mv (.t 111), none, [5, 7, 0, 1, 2, 3, 4, 6]⟩])
         (.seq (.seq (.region false [⟨(some 112), .mv (.t 12), none, []⟩])
           (.cond (.t 112) (.seq (.region false [⟨(some 113), .call (.k (.d (.fn (N 459)))) [], none, []⟩,
              ⟨(some 114), .mv (.t 113), none, [0]⟩,
              ⟨(some 115), .mv (.t 19), (some (114, true)), [1]⟩,
              ⟨(some 116), .bin .eql (.t 115) (.k (.d (.int .i64 4))), (some (114, true)), [2, 1]⟩,
              ⟨(some 117), .pick (.t 114) (.t 116) (.k (.d (.bool false))), none, [1, 3]⟩,
              ⟨(some 8), .mv (.t 117), none, [4, 1, 0, 2, 3]⟩])
             .ret)
            (.skip)))
          (.seq (.seq (.region false [⟨(some 118), .call (.k (.d (.fn (N 459)))) [], none, []⟩,
             ⟨(some 119), .un .not (.t 118), none, [0]⟩,
             ⟨(some 120), .mv (.t 119), none, [1, 0]⟩,
             ⟨(some 121), .mv (.t 19), (some (120, false)), [2]⟩,
             ⟨(some 122), .bin .neq (.t 121) (.k (.d (.int .i64 0))), (some (120, false)), [3, 2]⟩,
             ⟨(some 123), .pick (.t 120) (.k (.d (.bool true))) (.t 122), none, [2, 4]⟩,
             ⟨(some 124), .mv (.t 123), none, [5, 2]⟩,
             ⟨(some 125), .faddr (.t 18) 3, (some (124, false)), [6]⟩,
             ⟨(some 126), .load (.t 125) 1 false, (some (124, false)), [7, 6]⟩,
             ⟨(some 127), .len (.t 126), (some (124, false)), [8, 6]⟩,
             ⟨(some 128), .mv (.t 0), (some (124, false)), [6]⟩,
             ⟨(some 129), .len (.t 128), (some (124, false)), [10, 6]⟩,
             ⟨(some 130), .bin .neq (.t 127) (.t 129), (some (124, false)), [9, 11, 6]⟩,
             ⟨(some 131), .pick (.t 124) (.k (.d (.bool true))) (.t 130), none, [6, 12]⟩])
            (.cond (.t 131) (.seq (.region false [⟨(some 8), .mv (.k (.d (.bool false))), none, []⟩])
              .ret)
             (.skip)))
           (.seq (.seq (.region false [⟨(some 20), .mv (.k (.d (.int .i64 0))), none, []⟩])
             (.block 4 (.loop (.seq (.seq (.region false [⟨(some 132), .mv (.t 20), none, []⟩,
                  ⟨(some 133), .mv (.t 0), none, []⟩,
                  ⟨(some 134), .len (.t 133), none, [1]⟩,
                  ⟨(some 135), .bin .lss (.t 132) (.t 134), none, [0, 2]⟩])
                 (.cond (.t 135) (.skip)
                  (.exit 4)))
                (.seq (.block 5 (.seq (.region true [⟨(some 138), .faddr (.t 18) 3, none, []⟩,
                    ⟨(some 139), .load (.t 138) 1 false, none, [0]⟩,
                    ⟨(some 140), .mv (.t 20), none, []⟩,
                    ⟨(some 141), .iaddr (.t 139) (.t 140) 5, none, [1, 2]⟩,
                    ⟨(some 142), .faddr (.t 141) 1, none, [3]⟩,
                    ⟨(some 143), .load (.t 142) 1 false, none, [4]⟩,
                    ⟨(some 144), .mv (.t 0), none, []⟩,
                    ⟨(some 145), .mv (.t 20), none, []⟩,
                    ⟨(some 146), .iaddr (.t 144) (.t 145) 1, none, [6, 7]⟩,
                    ⟨(some 147), .load (.t 146) 1 false, none, [8]⟩,
                    ⟨(some 148), .bin .neq (.t 143) (.t 147), none, [5, 9]⟩])
                   (.cond (.t 148) (.seq (.region false [⟨(some 8), .mv (.k (.d (.bool false))), none, []⟩])
                     .ret)
                    (.skip))))
                 (.region false [⟨(some 136), .mv (.t 20), none, []⟩,
                  ⟨(some 137), .bin .add (.t 136) (.k (.d (.int .i64 1))), none, [0]⟩,
                  ⟨(some 20), .mv (.t 137), none, [1, 0]⟩]))))))
            (.seq (.region false [⟨(some 8), .mv (.k (.d (.bool true))), none, []⟩])
             .ret)))))))))))) }
def HC458 (P : Program) (N : Nat → Nat) : Prop := HasF P (N 458) (C458 N) ∧ HC459 P N ∧ HC26 P N ∧ HC449 P N
def f458_l273 (a0 : (List Int)) (r219 : (Int × Int × Int × (List UInt8) × (List (RT 5)) × (List (List UInt8)))) : Nat → Int → Option (LR2 Unit Unit Bool)
  | 0, _ => none
  | k + 1, y273_1 => cond (decide (y273_1 < ((a0.length : Nat) : Int))) (gd (0 ≤ y273_1 ∧ y273_1 < ((r219.2.2.2.2.1.length : Nat) : Int)) ((TValue.dec (rtE (rd r219.2.2.2.2.1 y273_1))).bind fun rx294 => gd (0 ≤ y273_1 ∧ y273_1 < ((a0.length : Nat) : Int)) (cond (decide (rx294.fN ≠ (rd a0 y273_1))) (some (.r false)) (f458_l273 a0 r219 k (IntKind.i64.wrap (y273_1 + (1 : Int))))))) (some (.b0 ()))
def f458_j207 (k : Nat) (a0 : (List Int)) (j207_1 : (List UInt8)) (j207_2 : Bool) : Option Bool := gd ((j207_1.length + ([(0 : UInt8)] : List UInt8).length) * 2 * 1 ≤ 281474976710656) ((f449 k (TSchema.mk ([(TNode.mk (11 : Int) ([] : List UInt8) ([] : List (List UInt8)) ([] : List TField) ([] : List (List UInt8)) false ([] : List UInt8) (1 : Int) ([] : List Int) (0 : Int)), (TNode.mk (4 : Int) ([] : List UInt8) ([] : List (List UInt8)) ([] : List TField) ([] : List (List UInt8)) false ([] : List UInt8) (0 : Int) ([] : List Int) (0 : Int))] : List TNode)) (j207_1 ++ ([(0 : UInt8)] : List UInt8))).bind fun r219 => cond j207_2 ((f459 k).bind fun r235 => cond r235 (some (decide (r219.1 = (4 : Int)))) (some false)) ((f459 k).bind fun r247 => cond (!r247) (some false) (cond (decide (r219.1 ≠ (0 : Int))) (some false) (cond (decide (((r219.2.2.2.2.1.length : Nat) : Int) ≠ ((a0.length : Nat) : Int))) (some false) ((f458_l273 a0 r219 k (0 : Int)).bind fun o273 => (match o273 with | .b0 () => some true | .r x => some x | _ => none))))))
def f458_j189 (L : (List UInt8) → Bool → Int → Int → Option (LR2 ((List UInt8) × Bool) Unit Bool)) (k : Nat) (j131_1 : (List UInt8)) (y44_3 : Int) (j90_1 : Int) (y44_4 : Int) (j189_1 : (List UInt8)) (j189_2 : Bool) : Option (LR2 ((List UInt8) × Bool) Unit Bool) := gd ((j189_1.length + j131_1.length) * 2 * 1 ≤ 281474976710656) (L (j189_1 ++ j131_1) j189_2 (IntKind.i64.wrap (y44_3 + j90_1)) (IntKind.i64.wrap (y44_4 + (1 : Int))))
def f458_j163 (L : (List UInt8) → Bool → Int → Int → Option (LR2 ((List UInt8) × Bool) Unit Bool)) (k : Nat) (j90_1 : Int) (y44_1 : (List UInt8)) (j131_1 : (List UInt8)) (y44_3 : Int) (y44_4 : Int) (j163_1 : Int) (j163_2 : Bool) : Option (LR2 ((List UInt8) × Bool) Unit Bool) := (f26 k (IntKind.i64.wrap (0 - j90_1))).bind fun r169 => gd ((y44_1.length + r169.length) * 2 * 1 ≤ 281474976710656) ((f26 k (IntKind.i64.wrap (((j131_1.length : Nat) : Int) + j163_1))).bind fun r179 => gd (((y44_1 ++ r169).length + r179.length) * 2 * 1 ≤ 281474976710656) (f458_j189 (L) k j131_1 y44_3 j90_1 y44_4 ((y44_1 ++ r169) ++ r179) j163_2))
def f458_j145 (L : (List UInt8) → Bool → Int → Int → Option (LR2 ((List UInt8) × Bool) Unit Bool)) (k : Nat) (a3 : Int) (j90_1 : Int) (y44_1 : (List UInt8)) (j131_1 : (List UInt8)) (y44_3 : Int) (y44_4 : Int) (y44_2 : Bool) (j145_1 : Bool) : Option (LR2 ((List UInt8) × Bool) Unit Bool) := cond j145_1 (cond (decide ((Int.tmod a3 (9 : Int)) = (1 : Int))) (f458_j163 (L) k j90_1 y44_1 j131_1 y44_3 y44_4 (1 : Int) true) (f458_j163 (L) k j90_1 y44_1 j131_1 y44_3 y44_4 (0 : Int) y44_2)) ((f26 k j90_1).bind fun r186 => gd ((y44_1.length + r186.length) * 2 * 1 ≤ 281474976710656) (f458_j189 (L) k j131_1 y44_3 j90_1 y44_4 (y44_1 ++ r186) y44_2))
def f458_j131 (L : (List UInt8) → Bool → Int → Int → Option (LR2 ((List UInt8) × Bool) Unit Bool)) (k : Nat) (y44_4 : Int) (a2 : (List Bool)) (a3 : Int) (j90_1 : Int) (y44_1 : (List UInt8)) (y44_3 : Int) (y44_2 : Bool) (j131_1 : (List UInt8)) : Option (LR2 ((List UInt8) × Bool) Unit Bool) := cond (decide (y44_4 < ((a2.length : Nat) : Int))) (gd (0 ≤ y44_4 ∧ y44_4 < ((a2.length : Nat) : Int)) (f458_j145 (L) k a3 j90_1 y44_1 j131_1 y44_3 y44_4 y44_2 (rd a2 y44_4))) (f458_j145 (L) k a3 j90_1 y44_1 j131_1 y44_3 y44_4 y44_2 false)
def f458_l100 (y44_3 : Int) (j90_1 : Int) (a0 : (List Int)) : Nat → (List UInt8) → Int → Option (LR2 (List UInt8) Unit Bool)
  | 0, _, _ => none
  | k + 1, y100_1, y100_2 => cond (decide (y100_2 < (IntKind.i64.wrap (y44_3 + j90_1)))) (gd (0 ≤ y100_2 ∧ y100_2 < ((a0.length : Nat) : Int)) ((f26 k (rd a0 y100_2)).bind fun r123 => gd ((y100_1.length + r123.length) * 2 * 1 ≤ 281474976710656) (f458_l100 y44_3 j90_1 a0 k (y100_1 ++ r123) (IntKind.i64.wrap (y100_2 + (1 : Int)))))) (some (.b0 y100_1))
def f458_j90 (L : (List UInt8) → Bool → Int → Int → Option (LR2 ((List UInt8) × Bool) Unit Bool)) (k : Nat) (y44_3 : Int) (a0 : (List Int)) (y44_4 : Int) (a2 : (List Bool)) (a3 : Int) (y44_1 : (List UInt8)) (y44_2 : Bool) (j90_1 : Int) : Option (LR2 ((List UInt8) × Bool) Unit Bool) := (f458_l100 y44_3 j90_1 a0 k ([] : List UInt8) y44_3).bind fun o100 => (match o100 with | .b0 x100_1 => f458_j131 (L) k y44_4 a2 a3 j90_1 y44_1 y44_3 y44_2 x100_1 | _ => none)
def f458_l44 (a0 : (List Int)) (a1 : (List Int)) (a2 : (List Bool)) (a3 : Int) : Nat → (List UInt8) → Bool → Int → Int → Option (LR2 ((List UInt8) × Bool) Unit Bool)
  | 0, _, _, _, _ => none
  | k + 1, y44_1, y44_2, y44_3, y44_4 => cond (decide (y44_3 < ((a0.length : Nat) : Int))) (cond (decide (y44_4 < ((a1.length : Nat) : Int))) (gd (0 ≤ y44_4 ∧ y44_4 < ((a1.length : Nat) : Int)) (gd ((IntKind.u64.wrap (IntKind.i64.wrap (((a0.length : Nat) : Int) - y44_3))) ≠ 0) (f458_j90 (f458_l44 a0 a1 a2 a3 k) k y44_3 a0 y44_4 a2 a3 y44_1 y44_2 (IntKind.i64.wrap ((1 : Int) + (IntKind.i64.wrap (Int.tmod (IntKind.u64.wrap (rd a1 y44_4)) (IntKind.u64.wrap (IntKind.i64.wrap (((a0.length : Nat) : Int) - y44_3)))))))))) (f458_j90 (f458_l44 a0 a1 a2 a3 k) k y44_3 a0 y44_4 a2 a3 y44_1 y44_2 (IntKind.i64.wrap (((a0.length : Nat) : Int) - y44_3)))) (some (.b0 (y44_1, y44_2)))
def f458 (k : Nat) (a0 : (List Int)) (a1 : (List Int)) (a2 : (List Bool)) (a3 : Int) : Option Bool := cond (decide (((a0.length : Nat) : Int) > (300 : Int))) ((f459 k).bind fun r16 => some r16) ((f458_l44 a0 a1 a2 a3 k ([] : List UInt8) false (0 : Int) (0 : Int)).bind fun o44 => (match o44 with | .b0 (x44_1, x44_2) => f458_j207 k a0 x44_1 x44_2 | _ => none))
theorem F458 {P : Program} {N : Nat → Nat} (hmix : P.follows .mixedOrders = true) (hc : HC458 P N) {k : Nat} {a0 : (List Int)} {a1 : (List Int)} {a2 : (List Bool)} {a3 : Int} {r : Bool} (h : f458 k a0 a1 a2 a3 = some r) :
    ACalls P (N 458) [(.d (.sl (List.map (D.int .i64) a0))), (.d (.sl (List.map (D.int .i64) a1))), (.d (.sl (List.map D.bool a2))), (.d (.int .i64 a3))] [] (.d (.bool r)) [] := by
  refine acalls_canon (F := C458 N) hc.1 0 0 rfl ?_
  unfold f458 at h
  dsimp only [C458, startL]
  refine AWc.seq ?_
  refine AWc.rE hmix [] ?_
  refine AWc.seq ?_
  refine AWc.seq ?_
  refine AWc.rE hmix [.ln (D.int .i64) a0] ?_
  rcases cc h with ⟨c12, h⟩ | ⟨c12, h⟩
  · refine AWc.cT c12 ?_
    refine AWc.seq ?_
    obtain ⟨r16, e16, h⟩ := bind_some h
    refine AWc.rE hmix [.call (F459 hmix hc.2.1 e16) [] 0] ?_
    have hr := Option.some.inj h
    subst hr
    exact AWc.ret (canQ (N := 149) (k := 0) (l' := [(8, (.d (.bool r16)))]) (H' := []) rfl (inT [] []) (doneA (.inr rfl) rfl ⟨trivial, trivial⟩ (.refl _) hasNil))
  · refine AWc.cF c12 ?_
    refine AWc.skip ?_
    refine AWc.seq ?_
    refine AWc.rE hmix [] ?_
    refine AWc.seq ?_
    refine AWc.rE hmix [] ?_
    refine AWc.seq ?_
    refine AWc.rE hmix [] ?_
    refine AWc.seqS (N := 149) 2 (fun (z : ((List UInt8) × Bool)) => [(0, (.d (.sl (List.map (D.int .i64) a0)))), (9, (.ptr 0 0)), (10, (.ap 1 1 (List.map byteD z.1))), (12, (.d (.bool z.2)))]) (fun z => [(0, (.cells [(.d (.sl (List.map TNode.enc ([(TNode.mk (11 : Int) ([] : List UInt8) ([] : List (List UInt8)) ([] : List TField) ([] : List (List UInt8)) false ([] : List UInt8) (1 : Int) ([] : List Int) (0 : Int)), (TNode.mk (4 : Int) ([] : List UInt8) ([] : List (List UInt8)) ([] : List TField) ([] : List (List UInt8)) false ([] : List UInt8) (0 : Int) ([] : List Int) (0 : Int))] : List TNode))))])), (1, (.tok ((List.map byteD z.1).length * 1)))]) (fun z => f458_j207 k a0 z.1 z.2 = some r) rfl_le ?_ ?_
    · refine AWc.seq ?_
      refine AWc.rE hmix [] ?_
      obtain ⟨o44, h44, h⟩ := bind_some h
      refine AWc.block ?_
      refine AWc.loopK (N := 149) 2 (fun (x : ((List UInt8) × Bool × Int × Int)) => [(0, (.d (.sl (List.map (D.int .i64) a0)))), (1, (.d (.sl (List.map (D.int .i64) a1)))), (2, (.d (.sl (List.map D.bool a2)))), (3, (.d (.int .i64 a3))), (9, (.ptr 0 0)), (10, (.ap 1 1 (List.map byteD x.1))), (12, (.d (.bool x.2.1))), (13, (.d (.int .i64 x.2.2.1))), (14, (.d (.int .i64 x.2.2.2)))]) (fun x => [(0, (.cells [(.d (.sl (List.map TNode.enc ([(TNode.mk (11 : Int) ([] : List UInt8) ([] : List (List UInt8)) ([] : List TField) ([] : List (List UInt8)) false ([] : List UInt8) (1 : Int) ([] : List Int) (0 : Int)), (TNode.mk (4 : Int) ([] : List UInt8) ([] : List (List UInt8)) ([] : List TField) ([] : List (List UInt8)) false ([] : List UInt8) (0 : Int) ([] : List Int) (0 : Int))] : List TNode))))])), (1, (.tok ((List.map byteD x.1).length * 1)))]) (fun k x => f458_l44 a0 a1 a2 a3 k x.1 x.2.1 x.2.2.1 x.2.2.2 = some o44) k (([] : List UInt8), false, (0 : Int), (0 : Int)) rfl_le (fun x hx => by cases hx) h44 (inT [(1, 1)] [.tok 0]) ?_
      clear h44
      intro k
      rintro ⟨y44_1, y44_2, y44_3, y44_4⟩ h44
      dsimp only at h44 ⊢
      rw [f458_l44] at h44
      refine AWc.seq ?_
      refine AWc.seq ?_
      refine AWc.rE hmix [.ln (D.int .i64) a0] ?_
      rcases cc h44 with ⟨c54, h44⟩ | ⟨c54, h44⟩
      · refine AWc.cT c54 ?_
        refine AWc.skip ?_
        refine AWc.seq ?_
        refine AWc.block ?_
        refine AWc.seq ?_
        refine AWc.rE hmix [.ln (D.int .i64) a0] ?_
        refine AWc.seqS (N := 149) 2 (fun (z : Int) => [(0, (.d (.sl (List.map (D.int .i64) a0)))), (1, (.d (.sl (List.map (D.int .i64) a1)))), (2, (.d (.sl (List.map D.bool a2)))), (3, (.d (.int .i64 a3))), (9, (.ptr 0 0)), (10, (.ap 1 1 (List.map byteD y44_1))), (12, (.d (.bool y44_2))), (13, (.d (.int .i64 y44_3))), (14, (.d (.int .i64 y44_4))), (15, (.d (.int .i64 z)))]) (fun z => [(0, (.cells [(.d (.sl (List.map TNode.enc ([(TNode.mk (11 : Int) ([] : List UInt8) ([] : List (List UInt8)) ([] : List TField) ([] : List (List UInt8)) false ([] : List UInt8) (1 : Int) ([] : List Int) (0 : Int)), (TNode.mk (4 : Int) ([] : List UInt8) ([] : List (List UInt8)) ([] : List TField) ([] : List (List UInt8)) false ([] : List UInt8) (0 : Int) ([] : List Int) (0 : Int))] : List TNode))))])), (1, (.tok ((List.map byteD y44_1).length * 1)))]) (fun z => f458_j90 (f458_l44 a0 a1 a2 a3 k) k y44_3 a0 y44_4 a2 a3 y44_1 y44_2 z = some o44) rfl_le ?_ ?_
        · refine AWc.seq ?_
          refine AWc.rE hmix [.ln (D.int .i64) a1] ?_
          rcases cc h44 with ⟨c75, h44⟩ | ⟨c75, h44⟩
          · refine AWc.cT c75 ?_
            obtain ⟨b80, h44⟩ := gd_some h44
            obtain ⟨b85, h44⟩ := gd_some h44
            refine AWc.rE hmix [.iad (D.int .i64) a1 1 (fun _ => rfl) b80, .sd b85] ?_
            exact ⟨(IntKind.i64.wrap ((1 : Int) + (IntKind.i64.wrap (Int.tmod (IntKind.u64.wrap (rd a1 y44_4)) (IntKind.u64.wrap (IntKind.i64.wrap (((a0.length : Nat) : Int) - y44_3))))))), h44, (inT [] [])⟩
          · refine AWc.cF c75 ?_
            refine AWc.skip ?_
            exact ⟨(IntKind.i64.wrap (((a0.length : Nat) : Int) - y44_3)), h44, (inT [] [])⟩
        · intro j90_1 h44
          unfold f458_j90 at h44
          refine AWc.seq ?_
          refine AWc.rE hmix [] ?_
          refine AWc.seqS (N := 149) 3 (fun (z : (List UInt8)) => [(0, (.d (.sl (List.map (D.int .i64) a0)))), (1, (.d (.sl (List.map (D.int .i64) a1)))), (2, (.d (.sl (List.map D.bool a2)))), (3, (.d (.int .i64 a3))), (9, (.ptr 0 0)), (10, (.ap 1 1 (List.map byteD y44_1))), (12, (.d (.bool y44_2))), (13, (.d (.int .i64 y44_3))), (14, (.d (.int .i64 y44_4))), (15, (.d (.int .i64 j90_1))), (16, (.ap 2 1 (List.map byteD z)))]) (fun z => [(0, (.cells [(.d (.sl (List.map TNode.enc ([(TNode.mk (11 : Int) ([] : List UInt8) ([] : List (List UInt8)) ([] : List TField) ([] : List (List UInt8)) false ([] : List UInt8) (1 : Int) ([] : List Int) (0 : Int)), (TNode.mk (4 : Int) ([] : List UInt8) ([] : List (List UInt8)) ([] : List TField) ([] : List (List UInt8)) false ([] : List UInt8) (0 : Int) ([] : List Int) (0 : Int))] : List TNode))))])), (1, (.tok ((List.map byteD y44_1).length * 1))), (2, (.tok ((List.map byteD z).length * 1)))]) (fun z => f458_j131 (f458_l44 a0 a1 a2 a3 k) k y44_4 a2 a3 j90_1 y44_1 y44_3 y44_2 z = some o44) rfl_le ?_ ?_
          · refine AWc.seq ?_
            refine AWc.rE hmix [] ?_
            obtain ⟨o100, h100, h44⟩ := bind_some h44
            refine AWc.block ?_
            refine AWc.loopK (N := 149) 3 (fun (x : ((List UInt8) × Int)) => [(0, (.d (.sl (List.map (D.int .i64) a0)))), (1, (.d (.sl (List.map (D.int .i64) a1)))), (2, (.d (.sl (List.map D.bool a2)))), (3, (.d (.int .i64 a3))), (9, (.ptr 0 0)), (10, (.ap 1 1 (List.map byteD y44_1))), (12, (.d (.bool y44_2))), (13, (.d (.int .i64 y44_3))), (14, (.d (.int .i64 y44_4))), (15, (.d (.int .i64 j90_1))), (16, (.ap 2 1 (List.map byteD x.1))), (17, (.d (.int .i64 x.2)))]) (fun x => [(0, (.cells [(.d (.sl (List.map TNode.enc ([(TNode.mk (11 : Int) ([] : List UInt8) ([] : List (List UInt8)) ([] : List TField) ([] : List (List UInt8)) false ([] : List UInt8) (1 : Int) ([] : List Int) (0 : Int)), (TNode.mk (4 : Int) ([] : List UInt8) ([] : List (List UInt8)) ([] : List TField) ([] : List (List UInt8)) false ([] : List UInt8) (0 : Int) ([] : List Int) (0 : Int))] : List TNode))))])), (1, (.tok ((List.map byteD y44_1).length * 1))), (2, (.tok ((List.map byteD x.1).length * 1)))]) (fun k x => f458_l100 y44_3 j90_1 a0 k x.1 x.2 = some o100) k (([] : List UInt8), y44_3) rfl_le (fun x hx => by cases hx) h100 (inT [(2, 2)] [.tok 0]) ?_
            clear h100
            intro k
            rintro ⟨y100_1, y100_2⟩ h100
            dsimp only at h100 ⊢
            rw [f458_l100] at h100
            refine AWc.seq ?_
            refine AWc.seq ?_
            refine AWc.rE hmix [] ?_
            rcases cc h100 with ⟨c111, h100⟩ | ⟨c111, h100⟩
            · refine AWc.cT c111 ?_
              refine AWc.skip ?_
              refine AWc.seq ?_
              refine AWc.block ?_
              obtain ⟨b121, h100⟩ := gd_some h100
              obtain ⟨r123, e123, h100⟩ := bind_some h100
              obtain ⟨b124, h100⟩ := gd_some h100
              refine AWc.rE hmix [.iad (D.int .i64) a0 1 (fun _ => rfl) b121, .call (F26 hmix hc.2.2.1 e123) [(0, 3)] 1, .apA byteD y100_1 r123 1 (fun _ => rfl) b124] ?_
              refine AWc.rE hmix [] ?_
              exact ⟨((y100_1 ++ r123), (IntKind.i64.wrap (y100_2 + (1 : Int)))), h100, (inT [(2, 4)] [])⟩
            · refine AWc.cF c111 ?_
              cases h100
              dsimp only at h44
              refine AWc.exit ?_
              refine inBlk_eq ?_
              exact ⟨y100_1, h44, (inT [] [])⟩
          · intro j131_1 h44
            unfold f458_j131 at h44
            refine AWc.seqS (N := 149) 3 (fun (z : ((List UInt8) × Bool)) => [(0, (.d (.sl (List.map (D.int .i64) a0)))), (1, (.d (.sl (List.map (D.int .i64) a1)))), (2, (.d (.sl (List.map D.bool a2)))), (3, (.d (.int .i64 a3))), (9, (.ptr 0 0)), (10, (.ap 1 1 (List.map byteD z.1))), (12, (.d (.bool z.2))), (13, (.d (.int .i64 y44_3))), (14, (.d (.int .i64 y44_4))), (15, (.d (.int .i64 j90_1))), (16, (.ap 2 1 (List.map byteD j131_1))), (73, .any), (74, .any), (75, .any), (76, .any)]) (fun z => [(0, (.cells [(.d (.sl (List.map TNode.enc ([(TNode.mk (11 : Int) ([] : List UInt8) ([] : List (List UInt8)) ([] : List TField) ([] : List (List UInt8)) false ([] : List UInt8) (1 : Int) ([] : List Int) (0 : Int)), (TNode.mk (4 : Int) ([] : List UInt8) ([] : List (List UInt8)) ([] : List TField) ([] : List (List UInt8)) false ([] : List UInt8) (0 : Int) ([] : List Int) (0 : Int))] : List TNode))))])), (1, (.tok ((List.map byteD z.1).length * 1))), (2, (.tok ((List.map byteD j131_1).length * 1)))]) (fun z => f458_j189 (f458_l44 a0 a1 a2 a3 k) k j131_1 y44_3 j90_1 y44_4 z.1 z.2 = some o44) rfl_le ?_ ?_
            · refine AWc.seqS (N := 149) 3 (fun (z : Bool) => [(0, (.d (.sl (List.map (D.int .i64) a0)))), (1, (.d (.sl (List.map (D.int .i64) a1)))), (2, (.d (.sl (List.map D.bool a2)))), (3, (.d (.int .i64 a3))), (9, (.ptr 0 0)), (10, (.ap 1 1 (List.map byteD y44_1))), (12, (.d (.bool y44_2))), (13, (.d (.int .i64 y44_3))), (14, (.d (.int .i64 y44_4))), (15, (.d (.int .i64 j90_1))), (16, (.ap 2 1 (List.map byteD j131_1))), (73, .any), (74, .any), (75, .any), (76, .any), (77, (.d (.bool z)))]) (fun z => [(0, (.cells [(.d (.sl (List.map TNode.enc ([(TNode.mk (11 : Int) ([] : List UInt8) ([] : List (List UInt8)) ([] : List TField) ([] : List (List UInt8)) false ([] : List UInt8) (1 : Int) ([] : List Int) (0 : Int)), (TNode.mk (4 : Int) ([] : List UInt8) ([] : List (List UInt8)) ([] : List TField) ([] : List (List UInt8)) false ([] : List UInt8) (0 : Int) ([] : List Int) (0 : Int))] : List TNode))))])), (1, (.tok ((List.map byteD y44_1).length * 1))), (2, (.tok ((List.map byteD j131_1).length * 1)))]) (fun z => f458_j145 (f458_l44 a0 a1 a2 a3 k) k a3 j90_1 y44_1 j131_1 y44_3 y44_4 y44_2 z = some o44) rfl_le ?_ ?_
              · rcases cc h44 with ⟨c139, h44⟩ | ⟨c139, h44⟩
                · obtain ⟨b142, h44⟩ := gd_some h44
                  refine AWc.rE hmix [.ln D.bool a2, .br c139, .iad D.bool a2 1 (fun _ => rfl) b142] ?_
                  exact ⟨(rd a2 y44_4), h44, (inT [] [])⟩
                · refine AWc.rE hmix [.ln D.bool a2, .br c139] ?_
                  exact ⟨false, h44, (inT [] [])⟩
              · intro j145_1 h44
                unfold f458_j145 at h44
                rcases cc h44 with ⟨c145, h44⟩ | ⟨c145, h44⟩
                · refine AWc.cT c145 ?_
                  refine AWc.seq ?_
                  refine AWc.rE hmix [] ?_
                  refine AWc.seqS (N := 149) 3 (fun (z : (Int × Bool)) => [(0, (.d (.sl (List.map (D.int .i64) a0)))), (1, (.d (.sl (List.map (D.int .i64) a1)))), (2, (.d (.sl (List.map D.bool a2)))), (3, (.d (.int .i64 a3))), (9, (.ptr 0 0)), (10, (.ap 1 1 (List.map byteD y44_1))), (11, (.d (.int .i64 z.1))), (12, (.d (.bool z.2))), (13, (.d (.int .i64 y44_3))), (14, (.d (.int .i64 y44_4))), (15, (.d (.int .i64 j90_1))), (16, (.ap 2 1 (List.map byteD j131_1))), (73, .any), (74, .any), (75, .any), (76, .any)]) (fun z => [(0, (.cells [(.d (.sl (List.map TNode.enc ([(TNode.mk (11 : Int) ([] : List UInt8) ([] : List (List UInt8)) ([] : List TField) ([] : List (List UInt8)) false ([] : List UInt8) (1 : Int) ([] : List Int) (0 : Int)), (TNode.mk (4 : Int) ([] : List UInt8) ([] : List (List UInt8)) ([] : List TField) ([] : List (List UInt8)) false ([] : List UInt8) (0 : Int) ([] : List Int) (0 : Int))] : List TNode))))])), (1, (.tok ((List.map byteD y44_1).length * 1))), (2, (.tok ((List.map byteD j131_1).length * 1)))]) (fun z => f458_j163 (f458_l44 a0 a1 a2 a3 k) k j90_1 y44_1 j131_1 y44_3 y44_4 z.1 z.2 = some o44) rfl_le ?_ ?_
                  · refine AWc.seq ?_
                    refine AWc.rE hmix [.sd (p := (9 : Int) ≠ 0) (by decide)] ?_
                    rcases cc h44 with ⟨c157, h44⟩ | ⟨c157, h44⟩
                    · refine AWc.cT c157 ?_
                      refine AWc.rE hmix [] ?_
                      exact ⟨((1 : Int), true), h44, (inT [] [])⟩
                    · refine AWc.cF c157 ?_
                      refine AWc.skip ?_
                      exact ⟨((0 : Int), y44_2), h44, (inT [] [])⟩
                  · rintro ⟨j163_1, j163_2⟩ h44
                    dsimp only at h44 ⊢
                    unfold f458_j163 at h44
                    refine AWc.seq ?_
                    obtain ⟨r169, e169, h44⟩ := bind_some h44
                    obtain ⟨b170, h44⟩ := gd_some h44
                    refine AWc.rE hmix [.call (F26 hmix hc.2.2.1 e169) [(0, 3)] 1, .apA byteD y44_1 r169 1 (fun _ => rfl) b170] ?_
                    obtain ⟨r179, e179, h44⟩ := bind_some h44
                    obtain ⟨b180, h44⟩ := gd_some h44
                    refine AWc.rE hmix [.ln byteD j131_1, .call (F26 hmix hc.2.2.1 e179) [(0, 5)] 1, .apA byteD (y44_1 ++ r169) r179 1 (fun _ => rfl) b180] ?_
                    exact ⟨(((y44_1 ++ r169) ++ r179), j163_2), h44, (inT [(1, 6)] [])⟩
                · refine AWc.cF c145 ?_
                  obtain ⟨r186, e186, h44⟩ := bind_some h44
                  obtain ⟨b187, h44⟩ := gd_some h44
                  refine AWc.rE hmix [.call (F26 hmix hc.2.2.1 e186) [(0, 3)] 1, .apA byteD y44_1 r186 1 (fun _ => rfl) b187] ?_
                  exact ⟨((y44_1 ++ r186), y44_2), h44, (inT [(1, 4)] [])⟩
            · rintro ⟨j189_1, j189_2⟩ h44
              dsimp only at h44 ⊢
              unfold f458_j189 at h44
              refine AWc.seq ?_
              obtain ⟨b194, h44⟩ := gd_some h44
              refine AWc.rE hmix [.apA byteD j189_1 j131_1 1 (fun _ => rfl) b194] ?_
              refine AWc.rE hmix [] ?_
              refine AWc.rE hmix [] ?_
              exact ⟨((j189_1 ++ j131_1), j189_2, (IntKind.i64.wrap (y44_3 + j90_1)), (IntKind.i64.wrap (y44_4 + (1 : Int)))), h44, (inT [(1, 3)] [])⟩
      · refine AWc.cF c54 ?_
        cases h44
        dsimp only at h
        refine AWc.exit ?_
        refine inBlk_eq ?_
        exact ⟨(y44_1, y44_2), h, (inT [] [])⟩
    · rintro ⟨j207_1, j207_2⟩ h
      dsimp only at h ⊢
      unfold f458_j207 at h
      refine AWc.seq ?_
      obtain ⟨b212, h⟩ := gd_some h
      refine AWc.rE hmix [.apA byteD j207_1 ([(0 : UInt8)] : List UInt8) 1 (fun _ => rfl) b212] ?_
      refine AWc.seq ?_
      obtain ⟨r219, e219, h⟩ := bind_some h
      refine AWc.rE hmix [.call (F449 hmix hc.2.2.2 e219) [] 0] ?_
      refine AWc.seq ?_
      refine AWc.seq ?_
      refine AWc.rE hmix [] ?_
      rcases cc h with ⟨c231, h⟩ | ⟨c231, h⟩
      · refine AWc.cT c231 ?_
        refine AWc.seq ?_
        obtain ⟨r235, e235, h⟩ := bind_some h
        rcases cc h with ⟨c236, h⟩ | ⟨c236, h⟩
        · refine AWc.rE hmix [.call (F459 hmix hc.2.1 e235) [] 0, .br c236] ?_
          have hr := Option.some.inj h
          subst hr
          exact AWc.ret (canQ (N := 149) (k := 0) (l' := [(8, (.d (.bool (decide (r219.1 = (4 : Int))))))]) (H' := []) rfl (inT [] []) (doneA (.inr rfl) rfl ⟨trivial, trivial⟩ (.refl _) hasNil))
        · refine AWc.rE hmix [.call (F459 hmix hc.2.1 e235) [] 0, .br c236] ?_
          have hr := Option.some.inj h
          subst hr
          exact AWc.ret (canQ (N := 149) (k := 0) (l' := [(8, (.d (.bool false)))]) (H' := []) rfl (inT [] []) (doneA (.inr rfl) rfl ⟨trivial, trivial⟩ (.refl _) hasNil))
      · refine AWc.cF c231 ?_
        refine AWc.skip ?_
        refine AWc.seq ?_
        refine AWc.seq ?_
        obtain ⟨r247, e247, h⟩ := bind_some h
        rcases cc h with ⟨c249, h⟩ | ⟨c249, h⟩
        · refine AWc.rE hmix [.call (F459 hmix hc.2.1 e247) [] 0, .br c249, .br (rfl : true = true)] ?_
          refine AWc.cT rfl ?_
          refine AWc.seq ?_
          refine AWc.rE hmix [] ?_
          have hr := Option.some.inj h
          subst hr
          exact AWc.ret (canQ (N := 149) (k := 0) (l' := [(8, (.d (.bool false)))]) (H' := []) rfl (inT [] []) (doneA (.inr rfl) rfl ⟨trivial, trivial⟩ (.refl _) hasNil))
        · rcases cc h with ⟨c253, h⟩ | ⟨c253, h⟩
          · refine AWc.rE hmix [.call (F459 hmix hc.2.1 e247) [] 0, .br c249, .br c253] ?_
            refine AWc.cT rfl ?_
            refine AWc.seq ?_
            refine AWc.rE hmix [] ?_
            have hr := Option.some.inj h
            subst hr
            exact AWc.ret (canQ (N := 149) (k := 0) (l' := [(8, (.d (.bool false)))]) (H' := []) rfl (inT [] []) (doneA (.inr rfl) rfl ⟨trivial, trivial⟩ (.refl _) hasNil))
          · refine AWc.rE hmix [.call (F459 hmix hc.2.1 e247) [] 0, .br c249, .br c253, .ln (rtE (z := 5)) r219.2.2.2.2.1, .ln (D.int .i64) a0] ?_
            rcases cc h with ⟨c261, h⟩ | ⟨c261, h⟩
            · refine AWc.cT c261 ?_
              refine AWc.seq ?_
              refine AWc.rE hmix [] ?_
              have hr := Option.some.inj h
              subst hr
              exact AWc.ret (canQ (N := 149) (k := 0) (l' := [(8, (.d (.bool false)))]) (H' := []) rfl (inT [] []) (doneA (.inr rfl) rfl ⟨trivial, trivial⟩ (.refl _) hasNil))
            · refine AWc.cF c261 ?_
              refine AWc.skip ?_
              refine AWc.seq ?_
              refine AWc.seq ?_
              refine AWc.rE hmix [] ?_
              obtain ⟨o273, h273, h⟩ := bind_some h
              refine AWc.block ?_
              refine AWc.loopK (N := 149) 1 (fun (x : Int) => [(0, (.d (.sl (List.map (D.int .i64) a0)))), (18, (.ptr 0 0)), (20, (.d (.int .i64 x)))]) (fun x => [(0, (.cells [(.d (.int .i64 r219.2.1)), (.d (.int .i64 r219.2.2.1)), (.d (.sl (List.map byteD r219.2.2.2.1))), (.d (.sl (List.map (rtE (z := 5)) r219.2.2.2.2.1))), (.d (.sl (List.map D.str r219.2.2.2.2.2)))]))]) (fun k x => f458_l273 a0 r219 k x = some o273) k (0 : Int) rfl_le (fun x hx => by cases hx) h273 (inT [(0, 3)] []) ?_
              clear h273
              intro k
              intro y273_1 h273
              rw [f458_l273] at h273
              refine AWc.seq ?_
              refine AWc.seq ?_
              refine AWc.rE hmix [.ln (D.int .i64) a0] ?_
              rcases cc h273 with ⟨c283, h273⟩ | ⟨c283, h273⟩
              · refine AWc.cT c283 ?_
                refine AWc.skip ?_
                refine AWc.seq ?_
                refine AWc.block ?_
                refine AWc.seq ?_
                obtain ⟨b294, h273⟩ := gd_some h273
                obtain ⟨rx294, ex294, h273⟩ := bind_some h273
                obtain ⟨b299, h273⟩ := gd_some h273
                refine AWc.rE hmix [.iadE (rtE (z := 5)) r219.2.2.2.2.1 5 rtE_ok.len b294 (TValue.dec_eq ex294), .iad (D.int .i64) a0 1 (fun _ => rfl) b299] ?_
                rcases cc h273 with ⟨c302, h273⟩ | ⟨c302, h273⟩
                · refine AWc.cT c302 ?_
                  refine AWc.seq ?_
                  refine AWc.rE hmix [] ?_
                  cases h273
                  dsimp only at h
                  have hr := Option.some.inj h
                  subst hr
                  exact AWc.ret (canQ (N := 149) (k := 0) (l' := [(8, (.d (.bool false)))]) (H' := []) rfl (inT [] []) (doneA (.inr rfl) rfl ⟨trivial, trivial⟩ (.refl _) hasNil))
                · refine AWc.cF c302 ?_
                  refine AWc.skip ?_
                  refine AWc.rE hmix [] ?_
                  exact ⟨(IntKind.i64.wrap (y273_1 + (1 : Int))), h273, (inT [] [])⟩
              · refine AWc.cF c283 ?_
                cases h273
                dsimp only at h
                refine AWc.exit ?_
                refine inBlk_eq ?_
                refine AWc.seq ?_
                refine AWc.rE hmix [] ?_
                have hr := Option.some.inj h
                subst hr
                exact AWc.ret (canQ (N := 149) (k := 0) (l' := [(8, (.d (.bool true)))]) (H' := []) rfl (inT [] []) (doneA (.inr rfl) rfl ⟨trivial, trivial⟩ (.refl _) hasNil))
end Go.Proofs.Abs
