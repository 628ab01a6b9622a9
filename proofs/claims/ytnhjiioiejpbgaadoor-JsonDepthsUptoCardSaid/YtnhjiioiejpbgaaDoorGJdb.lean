/- Written by gen.py: functions of the program as Lean functions, and that the code comes to them. -/
import Derived.Test.YtnhjiioiejpbgaaDoorGJd
set_option linter.unusedVariables false
set_option linter.unusedSimpArgs false
set_option maxRecDepth 100000
set_option maxHeartbeats 4000000
namespace Go.Proofs.Abs
open Go
/-- unicode/utf8.ValidString -/
def C351 (N : Nat → Nat) : AFunc := { n := 169, params := 1, res := [.tmp 2], body :=
 (.seq (.region false [⟨(some 2), .mv (.k (.d (.bool false))), none, []⟩])
  (.seq (.block 0 (.loop (.seq (.seq (.region false [⟨(some 7), .mv (.t 0), none, []⟩,
        ⟨(some 8), .slen (.t 7), none, [0]⟩,
        ⟨(some 9), .bin .gtr (.t 8) (.k (.d (.int .i64 0))), none, [1]⟩])
       (.cond (.t 9) (.skip)
        (.exit 0)))
      (.block 1 (.seq (.region false [⟨(some 10), .mv (.t 0), none, []⟩,
         ⟨(some 11), .idx (.t 10) (.k (.d (.int .i64 0))), none, [0]⟩,
         ⟨(some 3), .mv (.t 11), none, [1, 0]⟩])
        (.seq (.seq (.region false [⟨(some 12), .mv (.t 3), none, []⟩,
           ⟨(some 13), .bin .lss (.t 12) (.k (.d (.int .u8 128))), none, [0]⟩])
          (.cond (.t 13) (.seq (.region false [⟨(some 14), .mv (.t 0), none, []⟩,
             ⟨(some 15), .ssl (.t 14) (some (.k (.d (.int .i64 1)))) none, none, [0]⟩,
             ⟨(some 0), .mv (.t 15), none, [1, 0]⟩])
            (.seq (.seq (.region false [⟨(some 16), .mv (.t 0), none, []⟩,
               ⟨(some 17), .slen (.t 16), none, [0]⟩,
               ⟨(some 18), .bin .gtr (.t 17) (.k (.d (.int .i64 8))), none, [1]⟩,
               ⟨(some 19), .mv (.t 18), none, [2]⟩,
               ⟨(some 20), .mv (.t 0), (some (19, true)), [3]⟩,
               ⟨(some 21), .call (.k (.d (.fn (N 352)))) [(.t 20)], (some (19, true)), [4, 3]⟩,
               ⟨(some 22), .bin .and (.t 21) (.k (.d (.int .u64 9259542123273814144))), (some (19, true)), [5, 3]⟩,
               ⟨(some 23), .bin .eql (.t 22) (.k (.d (.int .u64 0))), (some (19, true)), [6, 3]⟩,
               ⟨(some 24), .pick (.t 19) (.t 23) (.k (.d (.bool false))), none, [3, 7]⟩])
              (.cond (.t 24) (.seq (.region false [⟨(some 25), .mv (.t 0), none, []⟩,
                 ⟨(some 26), .ssl (.t 25) (some (.k (.d (.int .i64 8)))) none, none, [0]⟩,
                 ⟨(some 0), .mv (.t 26), none, [1, 0]⟩])
                (.seq (.region true [⟨(some 27), .mv (.t 0), none, []⟩,
                  ⟨(some 28), .slen (.t 27), none, [0]⟩,
                  ⟨(some 29), .bin .gtr (.t 28) (.k (.d (.int .i64 16))), none, [1]⟩,
                  ⟨(some 30), .mv (.t 29), none, [2]⟩,
                  ⟨(some 31), .mv (.t 0), (some (30, true)), [3]⟩,
                  ⟨(some 32), .call (.k (.d (.fn (N 352)))) [(.t 31)], (some (30, true)), [4, 3]⟩,
                  ⟨(some 33), .mv (.t 0), (some (30, true)), [3]⟩,
                  ⟨(some 34), .ssl (.t 33) (some (.k (.d (.int .i64 8)))) none, (some (30, true)), [6, 3]⟩,
                  ⟨(some 35), .call (.k (.d (.fn (N 352)))) [(.t 34)], (some (30, true)), [7, 5, 3]⟩,
                  ⟨(some 36), .bin .or (.t 32) (.t 35), (some (30, true)), [5, 8, 3]⟩,
                  ⟨(some 37), .bin .and (.t 36) (.k (.d (.int .u64 9259542123273814144))), (some (30, true)), [9, 3]⟩,
                  ⟨(some 38), .bin .eql (.t 37) (.k (.d (.int .u64 0))), (some (30, true)), [10, 3]⟩,
                  ⟨(some 39), .pick (.t 30) (.t 38) (.k (.d (.bool false))), none, [3, 11]⟩])
                 (.cond (.t 39) (.seq (.region false [⟨(some 40), .mv (.t 0), none, []⟩,
                    ⟨(some 41), .ssl (.t 40) (some (.k (.d (.int .i64 16)))) none, none, [0]⟩,
                    ⟨(some 0), .mv (.t 41), none, [1, 0]⟩])
                   (.block 2 (.loop (.seq (.seq (.region true [⟨(some 42), .mv (.t 0), none, []⟩,
                        ⟨(some 43), .slen (.t 42), none, [0]⟩,
                        ⟨(some 44), .bin .gtr (.t 43) (.k (.d (.int .i64 32))), none, [1]⟩,
                        ⟨(some 45), .mv (.t 44), none, [2]⟩,
                        ⟨(some 46), .mv (.t 0), (some (45, true)), [3]⟩,
                        ⟨(some 47), .call (.k (.d (.fn (N 352)))) [(.t 46)], (some (45, true)), [4, 3]⟩,
                        ⟨(some 48), .mv (.t 0), (some (45, true)), [3]⟩,
                        ⟨(some 49), .ssl (.t 48) (some (.k (.d (.int .i64 8)))) none, (some (45, true)), [6, 3]⟩,
                        ⟨(some 50), .call (.k (.d (.fn (N 352)))) [(.t 49)], (some (45, true)), [7, 5, 3]⟩,
                        ⟨(some 51), .bin .or (.t 47) (.t 50), (some (45, true)), [5, 8, 3]⟩,
                        ⟨(some 52), .mv (.t 0), (some (45, true)), [3]⟩,
                        ⟨(some 53), .ssl (.t 52) (some (.k (.d (.int .i64 16)))) none, (some (45, true)), [10, 3]⟩,
                        ⟨(some 54), .call (.k (.d (.fn (N 352)))) [(.t 53)], (some (45, true)), [11, 8, 3]⟩,
                        ⟨(some 55), .mv (.t 0), (some (45, true)), [3]⟩,
                        ⟨(some 56), .ssl (.t 55) (some (.k (.d (.int .i64 24)))) none, (some (45, true)), [13, 3]⟩,
                        ⟨(some 57), .call (.k (.d (.fn (N 352)))) [(.t 56)], (some (45, true)), [14, 12, 3]⟩,
                        ⟨(some 58), .bin .or (.t 54) (.t 57), (some (45, true)), [12, 15, 3]⟩,
                        ⟨(some 59), .bin .or (.t 51) (.t 58), (some (45, true)), [9, 16, 3]⟩,
                        ⟨(some 60), .bin .and (.t 59) (.k (.d (.int .u64 9259542123273814144))), (some (45, true)), [17, 3]⟩,
                        ⟨(some 61), .bin .eql (.t 60) (.k (.d (.int .u64 0))), (some (45, true)), [18, 3]⟩,
                        ⟨(some 62), .pick (.t 45) (.t 61) (.k (.d (.bool false))), none, [3, 19]⟩])
                       (.cond (.t 62) (.skip)
                        (.exit 2)))
                      (.block 3 (.region false [⟨(some 63), .mv (.t 0), none, []⟩,
                        ⟨(some 64), .ssl (.t 63) (some (.k (.d (.int .i64 32)))) none, none, [0]⟩,
                        ⟨(some 0), .mv (.t 64), none, [1, 0]⟩]))))))
                  (.skip))))
               (.skip)))
             (.exit 1)))
           (.skip)))
         (.seq (.region false [⟨(some 65), .mv (.t 3), none, []⟩,
           ⟨(some 66), .bad, none, [0]⟩,
           ⟨(some 67), .load (.t 66) 1 false, none, [1]⟩,
           ⟨(some 4), .mv (.t 67), none, [2, 0, 1]⟩])
          (.seq (.region false [⟨(some 68), .mv (.t 4), none, []⟩,
            ⟨(some 69), .bin .and (.t 68) (.k (.d (.int .u8 7))), none, [0]⟩,
            ⟨(some 70), .cvi .i64 (.t 69), none, [1]⟩,
            ⟨(some 5), .mv (.t 70), none, [2, 0, 1]⟩])
           (.seq (.region false [⟨(some 71), .mv (.t 4), none, []⟩,
             ⟨(some 72), .bin .shr (.t 71) (.k (.d (.int .u64 4))), none, [0]⟩,
             ⟨(some 73), .bad, none, [1]⟩,
             ⟨(some 74), .load (.t 73) 2 true, none, [2]⟩,
             ⟨(some 6), .alloc [(.int .u8 0), (.int .u8 0)], none, []⟩,
             ⟨none, .store (.t 6) (.t 74) 2, none, [4, 3, 0, 1, 2]⟩])
            (.seq (.region false [⟨(some 75), .mv (.t 5), none, []⟩])
             (.block 4 (.seq (.region false [⟨(some 77), .bin .eql (.t 75) (.k (.d (.int .i64 2))), none, []⟩,
                ⟨(some 76), .mv (.t 77), none, [0]⟩])
               (.cond (.t 76) (.seq (.seq (.region true [⟨(some 78), .mv (.t 0), none, []⟩,
                   ⟨(some 79), .slen (.t 78), none, [0]⟩,
                   ⟨(some 80), .bin .lss (.t 79) (.k (.d (.int .i64 2))), none, [1]⟩,
                   ⟨(some 81), .mv (.t 80), none, [2]⟩,
                   ⟨(some 82), .mv (.t 0), (some (81, false)), [3]⟩,
                   ⟨(some 83), .idx (.t 82) (.k (.d (.int .i64 1))), (some (81, false)), [4, 3]⟩,
                   ⟨(some 84), .faddr (.t 6) 0, (some (81, false)), [3]⟩,
                   ⟨(some 85), .load (.t 84) 1 false, (some (81, false)), [6, 3]⟩,
                   ⟨(some 86), .bin .lss (.t 83) (.t 85), (some (81, false)), [5, 7, 3]⟩,
                   ⟨(some 87), .pick (.t 81) (.k (.d (.bool true))) (.t 86), none, [3, 8]⟩,
                   ⟨(some 88), .mv (.t 87), none, [9, 3]⟩,
                   ⟨(some 89), .faddr (.t 6) 1, (some (88, false)), [10]⟩,
                   ⟨(some 90), .load (.t 89) 1 false, (some (88, false)), [11, 10]⟩,
                   ⟨(some 91), .mv (.t 0), (some (88, false)), [10]⟩,
                   ⟨(some 92), .idx (.t 91) (.k (.d (.int .i64 1))), (some (88, false)), [13, 10]⟩,
                   ⟨(some 93), .bin .lss (.t 90) (.t 92), (some (88, false)), [12, 14, 10]⟩,
                   ⟨(some 94), .pick (.t 88) (.k (.d (.bool true))) (.t 93), none, [10, 15]⟩])
                  (.cond (.t 94) (.seq (.region false [⟨(some 2), .mv (.k (.d (.bool false))), none, []⟩])
                    .ret)
                   (.skip)))
                 (.region false [⟨(some 95), .mv (.t 0), none, []⟩,
                  ⟨(some 96), .ssl (.t 95) (some (.k (.d (.int .i64 2)))) none, none, [0]⟩,
                  ⟨(some 0), .mv (.t 96), none, [1, 0]⟩]))
                (.seq (.region false [⟨(some 98), .bin .eql (.t 75) (.k (.d (.int .i64 3))), none, []⟩,
                  ⟨(some 97), .mv (.t 98), none, [0]⟩])
                 (.cond (.t 97) (.seq (.seq (.region true [⟨(some 99), .mv (.t 0), none, []⟩,
                     ⟨(some 100), .slen (.t 99), none, [0]⟩,
                     ⟨(some 101), .bin .lss (.t 100) (.k (.d (.int .i64 3))), none, [1]⟩,
                     ⟨(some 102), .mv (.t 101), none, [2]⟩,
                     ⟨(some 103), .mv (.t 0), (some (102, false)), [3]⟩,
                     ⟨(some 104), .idx (.t 103) (.k (.d (.int .i64 1))), (some (102, false)), [4, 3]⟩,
                     ⟨(some 105), .faddr (.t 6) 0, (some (102, false)), [3]⟩,
                     ⟨(some 106), .load (.t 105) 1 false, (some (102, false)), [6, 3]⟩,
                     ⟨(some 107), .bin .lss (.t 104) (.t 106), (some (102, false)), [5, 7, 3]⟩,
                     ⟨(some 108), .pick (.t 102) (.k (.d (.bool true))) (.t 107), none, [3, 8]⟩,
                     ⟨(some 109), .mv (.t 108), none, [9, 3]⟩,
                     ⟨(some 110), .faddr (.t 6) 1, (some (109, false)), [10]⟩,
                     ⟨(some 111), .load (.t 110) 1 false, (some (109, false)), [11, 10]⟩,
                     ⟨(some 112), .mv (.t 0), (some (109, false)), [10]⟩,
                     ⟨(some 113), .idx (.t 112) (.k (.d (.int .i64 1))), (some (109, false)), [13, 10]⟩,
                     ⟨(some 114), .bin .lss (.t 111) (.t 113), (some (109, false)), [12, 14, 10]⟩,
                     ⟨(some 115), .pick (.t 109) (.k (.d (.bool true))) (.t 114), none, [10, 15]⟩,
                     ⟨(some 116), .mv (.t 115), none, [16, 10]⟩,
                     ⟨(some 117), .mv (.t 0), (some (116, false)), [17]⟩,
                     ⟨(some 118), .idx (.t 117) (.k (.d (.int .i64 2))), (some (116, false)), [18, 17]⟩,
                     ⟨(some 119), .bin .lss (.t 118) (.k (.d (.int .u8 128))), (some (116, false)), [19, 17]⟩,
                     ⟨(some 120), .pick (.t 116) (.k (.d (.bool true))) (.t 119), none, [17, 20]⟩,
                     ⟨(some 121), .mv (.t 120), none, [21, 17]⟩,
                     ⟨(some 122), .mv (.t 0), (some (121, false)), [22]⟩,
                     ⟨(some 123), .idx (.t 122) (.k (.d (.int .i64 2))), (some (121, false)), [23, 22]⟩,
                     ⟨(some 124), .bin .lss (.k (.d (.int .u8 191))) (.t 123), (some (121, false)), [24, 22]⟩,
                     ⟨(some 125), .pick (.t 121) (.k (.d (.bool true))) (.t 124), none, [22, 25]⟩])
                    (.cond (.t 125) (.seq (.region false [⟨(some 2), .mv (.k (.d (.bool false))), none, []⟩])
                      .ret)
                     (.skip)))
                   (.region false [⟨(some 126), .mv (.t 0), none, []⟩,
                    ⟨(some 127), .ssl (.t 126) (some (.k (.d (.int .i64 3)))) none, none, [0]⟩,
                    ⟨(some 0), .mv (.t 127), none, [1, 0]⟩]))
                  (.seq (.region false [⟨(some 129), .bin .eql (.t 75) (.k (.d (.int .i64 4))), none, []⟩,
                    ⟨(some 128), .mv (.t 129), none, [0]⟩])
                   (.cond (.t 128) (.seq (.seq (.region true [⟨(some 130), .mv (.t 0), none, []⟩,
                       ⟨(some 131), .slen (.t 130), none, [0]⟩,
                       ⟨(some 132), .bin .lss (.t 131) (.k (.d (.int .i64 4))), none, [1]⟩,
                       ⟨(some 133), .mv (.t 132), none, [2]⟩,
                       ⟨(some 134), .mv (.t 0), (some (133, false)), [3]⟩,
                       ⟨(some 135), .idx (.t 134) (.k (.d (.int .i64 1))), (some (133, false)), [4, 3]⟩,
                       ⟨(some 136), .faddr (.t 6) 0, (some (133, false)), [3]⟩,
                       ⟨(some 137), .load (.t 136) 1 false, (some (133, false)), [6, 3]⟩,
                       ⟨(some 138), .bin .lss (.t 135) (.t 137), (some (133, false)), [5, 7, 3]⟩,
                       ⟨(some 139), .pick (.t 133) (.k (.d (.bool true))) (.t 138), none, [3, 8]⟩,
                       ⟨(some 140), .mv (.t 139), none, [9, 3]⟩,
                       ⟨(some 141), .faddr (.t 6) 1, (some (140, false)), [10]⟩,
                       ⟨(some 142), .load (.t 141) 1 false, (some (140, false)), [11, 10]⟩,
                       ⟨(some 143), .mv (.t 0), (some (140, false)), [10]⟩,
                       ⟨(some 144), .idx (.t 143) (.k (.d (.int .i64 1))), (some (140, false)), [13, 10]⟩,
                       ⟨(some 145), .bin .lss (.t 142) (.t 144), (some (140, false)), [12, 14, 10]⟩,
                       ⟨(some 146), .pick (.t 140) (.k (.d (.bool true))) (.t 145), none, [10, 15]⟩,
                       ⟨(some 147), .mv (.t 146), none, [16, 10]⟩,
                       ⟨(some 148), .mv (.t 0), (some (147, false)), [17]⟩,
                       ⟨(some 149), .idx (.t 148) (.k (.d (.int .i64 2))), (some (147, false)), [18, 17]⟩,
                       ⟨(some 150), .bin .lss (.t 149) (.k (.d (.int .u8 128))), (some (147, false)), [19, 17]⟩,
                       ⟨(some 151), .pick (.t 147) (.k (.d (.bool true))) (.t 150), none, [17, 20]⟩,
                       ⟨(some 152), .mv (.t 151), none, [21, 17]⟩,
                       ⟨(some 153), .mv (.t 0), (some (152, false)), [22]⟩,
                       ⟨(some 154), .idx (.t 153) (.k (.d (.int .i64 2))), (some (152, false)), [23, 22]⟩,
                       ⟨(some 155), .bin .lss (.k (.d (.int .u8 191))) (.t 154), (some (152, false)), [24, 22]⟩,
                       ⟨(some 156), .pick (.t 152) (.k (.d (.bool true))) (.t 155), none, [22, 25]⟩,
                       ⟨(some 157), .mv (.t 156), none, [26, 22]⟩,
                       ⟨(some 158), .mv (.t 0), (some (157, false)), [27]⟩,
                       ⟨(some 159), .idx (.t 158) (.k (.d (.int .i64 3))), (some (157, false)), [28, 27]⟩,
                       ⟨(some 160), .bin .lss (.t 159) (.k (.d (.int .u8 128))), (some (157, false)), [29, 27]⟩,
                       ⟨(some 161), .pick (.t 157) (.k (.d (.bool true))) (.t 160), none, [27, 30]⟩,
                       ⟨(some 162), .mv (.t 161), none, [31, 27]⟩,
                       ⟨(some 163), .mv (.t 0), (some (162, false)), [32]⟩,
                       ⟨(some 164), .idx (.t 163) (.k (.d (.int .i64 3))), (some (162, false)), [33, 32]⟩,
                       ⟨(some 165), .bin .lss (.k (.d (.int .u8 191))) (.t 164), (some (162, false)), [34, 32]⟩,
                       ⟨(some 166), .pick (.t 162) (.k (.d (.bool true))) (.t 165), none, [32, 35]⟩])
                      (.cond (.t 166) (.seq (.region false [⟨(some 2), .mv (.k (.d (.bool false))), none, []⟩])
                        .ret)
                       (.skip)))
                     (.region false [⟨(some 167), .mv (.t 0), none, []⟩,
                      ⟨(some 168), .ssl (.t 167) (some (.k (.d (.int .i64 4)))) none, none, [0]⟩,
                      ⟨(some 0), .mv (.t 168), none, [1, 0]⟩]))
                    (.seq (.region false [⟨(some 2), .mv (.k (.d (.bool false))), none, []⟩])
                     .ret))))))))))))))))))
   (.seq (.region false [⟨(some 2), .mv (.k (.d (.bool true))), none, []⟩])
    .ret))) }
def HC351 (P : Program) (N : Nat → Nat) : Prop := HasF P (N 351) (C351 N) ∧ HC352 P N
def f351_l81 : Nat → (List UInt8) → Option (LR2 (List UInt8) Unit Unit)
  | 0, _ => none
  | k + 1, y81_1 => cond (decide (((y81_1.length : Nat) : Int) > (32 : Int))) ((f352 k y81_1).bind fun r92 => gd (0 ≤ (8 : Int) ∧ (8 : Int) ≤ ((y81_1.length : Nat) : Int) ∧ ((y81_1.length : Nat) : Int) ≤ ((y81_1.length : Nat) : Int)) ((f352 k (sl y81_1 (8 : Int) ((y81_1.length : Nat) : Int))).bind fun r95 => gd (0 ≤ (16 : Int) ∧ (16 : Int) ≤ ((y81_1.length : Nat) : Int) ∧ ((y81_1.length : Nat) : Int) ≤ ((y81_1.length : Nat) : Int)) ((f352 k (sl y81_1 (16 : Int) ((y81_1.length : Nat) : Int))).bind fun r99 => gd (0 ≤ (24 : Int) ∧ (24 : Int) ≤ ((y81_1.length : Nat) : Int) ∧ ((y81_1.length : Nat) : Int) ≤ ((y81_1.length : Nat) : Int)) ((f352 k (sl y81_1 (24 : Int) ((y81_1.length : Nat) : Int))).bind fun r102 => cond (decide ((bitsA .and .u64 (bitsA .or .u64 (bitsA .or .u64 (bitsA .or .u64 (bitsA .or .u64 (bitsA .or .u64 (bitsA .or .u64 (bitsA .or .u64 (bitsA .or .u64 (bitsA .or .u64 (IntKind.u64.wrap (((y81_1.getD ((0 : Int)).toNat 0).toNat : Nat) : Int)) (IntKind.u64.wrap ((IntKind.u64.wrap (((y81_1.getD ((1 : Int)).toNat 0).toNat : Nat) : Int)) * 2 ^ (min ((8 : Int)).toNat IntKind.u64.bits)))) (IntKind.u64.wrap ((IntKind.u64.wrap (((y81_1.getD ((2 : Int)).toNat 0).toNat : Nat) : Int)) * 2 ^ (min ((16 : Int)).toNat IntKind.u64.bits)))) (IntKind.u64.wrap ((IntKind.u64.wrap (((y81_1.getD ((3 : Int)).toNat 0).toNat : Nat) : Int)) * 2 ^ (min ((24 : Int)).toNat IntKind.u64.bits)))) (IntKind.u64.wrap ((IntKind.u64.wrap (((y81_1.getD ((4 : Int)).toNat 0).toNat : Nat) : Int)) * 2 ^ (min ((32 : Int)).toNat IntKind.u64.bits)))) (IntKind.u64.wrap ((IntKind.u64.wrap (((y81_1.getD ((5 : Int)).toNat 0).toNat : Nat) : Int)) * 2 ^ (min ((40 : Int)).toNat IntKind.u64.bits)))) (IntKind.u64.wrap ((IntKind.u64.wrap (((y81_1.getD ((6 : Int)).toNat 0).toNat : Nat) : Int)) * 2 ^ (min ((48 : Int)).toNat IntKind.u64.bits)))) (IntKind.u64.wrap ((IntKind.u64.wrap (((y81_1.getD ((7 : Int)).toNat 0).toNat : Nat) : Int)) * 2 ^ (min ((56 : Int)).toNat IntKind.u64.bits)))) (bitsA .or .u64 (bitsA .or .u64 (bitsA .or .u64 (bitsA .or .u64 (bitsA .or .u64 (bitsA .or .u64 (bitsA .or .u64 (IntKind.u64.wrap ((((sl y81_1 (8 : Int) ((y81_1.length : Nat) : Int)).getD ((0 : Int)).toNat 0).toNat : Nat) : Int)) (IntKind.u64.wrap ((IntKind.u64.wrap ((((sl y81_1 (8 : Int) ((y81_1.length : Nat) : Int)).getD ((1 : Int)).toNat 0).toNat : Nat) : Int)) * 2 ^ (min ((8 : Int)).toNat IntKind.u64.bits)))) (IntKind.u64.wrap ((IntKind.u64.wrap ((((sl y81_1 (8 : Int) ((y81_1.length : Nat) : Int)).getD ((2 : Int)).toNat 0).toNat : Nat) : Int)) * 2 ^ (min ((16 : Int)).toNat IntKind.u64.bits)))) (IntKind.u64.wrap ((IntKind.u64.wrap ((((sl y81_1 (8 : Int) ((y81_1.length : Nat) : Int)).getD ((3 : Int)).toNat 0).toNat : Nat) : Int)) * 2 ^ (min ((24 : Int)).toNat IntKind.u64.bits)))) (IntKind.u64.wrap ((IntKind.u64.wrap ((((sl y81_1 (8 : Int) ((y81_1.length : Nat) : Int)).getD ((4 : Int)).toNat 0).toNat : Nat) : Int)) * 2 ^ (min ((32 : Int)).toNat IntKind.u64.bits)))) (IntKind.u64.wrap ((IntKind.u64.wrap ((((sl y81_1 (8 : Int) ((y81_1.length : Nat) : Int)).getD ((5 : Int)).toNat 0).toNat : Nat) : Int)) * 2 ^ (min ((40 : Int)).toNat IntKind.u64.bits)))) (IntKind.u64.wrap ((IntKind.u64.wrap ((((sl y81_1 (8 : Int) ((y81_1.length : Nat) : Int)).getD ((6 : Int)).toNat 0).toNat : Nat) : Int)) * 2 ^ (min ((48 : Int)).toNat IntKind.u64.bits)))) (IntKind.u64.wrap ((IntKind.u64.wrap ((((sl y81_1 (8 : Int) ((y81_1.length : Nat) : Int)).getD ((7 : Int)).toNat 0).toNat : Nat) : Int)) * 2 ^ (min ((56 : Int)).toNat IntKind.u64.bits))))) (bitsA .or .u64 (bitsA .or .u64 (bitsA .or .u64 (bitsA .or .u64 (bitsA .or .u64 (bitsA .or .u64 (bitsA .or .u64 (bitsA .or .u64 (IntKind.u64.wrap ((((sl y81_1 (16 : Int) ((y81_1.length : Nat) : Int)).getD ((0 : Int)).toNat 0).toNat : Nat) : Int)) (IntKind.u64.wrap ((IntKind.u64.wrap ((((sl y81_1 (16 : Int) ((y81_1.length : Nat) : Int)).getD ((1 : Int)).toNat 0).toNat : Nat) : Int)) * 2 ^ (min ((8 : Int)).toNat IntKind.u64.bits)))) (IntKind.u64.wrap ((IntKind.u64.wrap ((((sl y81_1 (16 : Int) ((y81_1.length : Nat) : Int)).getD ((2 : Int)).toNat 0).toNat : Nat) : Int)) * 2 ^ (min ((16 : Int)).toNat IntKind.u64.bits)))) (IntKind.u64.wrap ((IntKind.u64.wrap ((((sl y81_1 (16 : Int) ((y81_1.length : Nat) : Int)).getD ((3 : Int)).toNat 0).toNat : Nat) : Int)) * 2 ^ (min ((24 : Int)).toNat IntKind.u64.bits)))) (IntKind.u64.wrap ((IntKind.u64.wrap ((((sl y81_1 (16 : Int) ((y81_1.length : Nat) : Int)).getD ((4 : Int)).toNat 0).toNat : Nat) : Int)) * 2 ^ (min ((32 : Int)).toNat IntKind.u64.bits)))) (IntKind.u64.wrap ((IntKind.u64.wrap ((((sl y81_1 (16 : Int) ((y81_1.length : Nat) : Int)).getD ((5 : Int)).toNat 0).toNat : Nat) : Int)) * 2 ^ (min ((40 : Int)).toNat IntKind.u64.bits)))) (IntKind.u64.wrap ((IntKind.u64.wrap ((((sl y81_1 (16 : Int) ((y81_1.length : Nat) : Int)).getD ((6 : Int)).toNat 0).toNat : Nat) : Int)) * 2 ^ (min ((48 : Int)).toNat IntKind.u64.bits)))) (IntKind.u64.wrap ((IntKind.u64.wrap ((((sl y81_1 (16 : Int) ((y81_1.length : Nat) : Int)).getD ((7 : Int)).toNat 0).toNat : Nat) : Int)) * 2 ^ (min ((56 : Int)).toNat IntKind.u64.bits)))) (bitsA .or .u64 (bitsA .or .u64 (bitsA .or .u64 (bitsA .or .u64 (bitsA .or .u64 (bitsA .or .u64 (bitsA .or .u64 (IntKind.u64.wrap ((((sl y81_1 (24 : Int) ((y81_1.length : Nat) : Int)).getD ((0 : Int)).toNat 0).toNat : Nat) : Int)) (IntKind.u64.wrap ((IntKind.u64.wrap ((((sl y81_1 (24 : Int) ((y81_1.length : Nat) : Int)).getD ((1 : Int)).toNat 0).toNat : Nat) : Int)) * 2 ^ (min ((8 : Int)).toNat IntKind.u64.bits)))) (IntKind.u64.wrap ((IntKind.u64.wrap ((((sl y81_1 (24 : Int) ((y81_1.length : Nat) : Int)).getD ((2 : Int)).toNat 0).toNat : Nat) : Int)) * 2 ^ (min ((16 : Int)).toNat IntKind.u64.bits)))) (IntKind.u64.wrap ((IntKind.u64.wrap ((((sl y81_1 (24 : Int) ((y81_1.length : Nat) : Int)).getD ((3 : Int)).toNat 0).toNat : Nat) : Int)) * 2 ^ (min ((24 : Int)).toNat IntKind.u64.bits)))) (IntKind.u64.wrap ((IntKind.u64.wrap ((((sl y81_1 (24 : Int) ((y81_1.length : Nat) : Int)).getD ((4 : Int)).toNat 0).toNat : Nat) : Int)) * 2 ^ (min ((32 : Int)).toNat IntKind.u64.bits)))) (IntKind.u64.wrap ((IntKind.u64.wrap ((((sl y81_1 (24 : Int) ((y81_1.length : Nat) : Int)).getD ((5 : Int)).toNat 0).toNat : Nat) : Int)) * 2 ^ (min ((40 : Int)).toNat IntKind.u64.bits)))) (IntKind.u64.wrap ((IntKind.u64.wrap ((((sl y81_1 (24 : Int) ((y81_1.length : Nat) : Int)).getD ((6 : Int)).toNat 0).toNat : Nat) : Int)) * 2 ^ (min ((48 : Int)).toNat IntKind.u64.bits)))) (IntKind.u64.wrap ((IntKind.u64.wrap ((((sl y81_1 (24 : Int) ((y81_1.length : Nat) : Int)).getD ((7 : Int)).toNat 0).toNat : Nat) : Int)) * 2 ^ (min ((56 : Int)).toNat IntKind.u64.bits)))))) (9259542123273814144 : Int)) = (0 : Int))) (gd (0 ≤ (32 : Int) ∧ (32 : Int) ≤ ((y81_1.length : Nat) : Int) ∧ ((y81_1.length : Nat) : Int) ≤ ((y81_1.length : Nat) : Int)) (f351_l81 k (sl y81_1 (32 : Int) ((y81_1.length : Nat) : Int)))) (some (.b0 y81_1)))))) (some (.b0 y81_1))
def f351_j74 (L : (List UInt8) → Option (LR2 Unit Unit Unit)) (k : Nat) (y6_1 : (List UInt8)) (j74_1 : Bool) : Option (LR2 Unit Unit Unit) := cond j74_1 (gd (0 ≤ (16 : Int) ∧ (16 : Int) ≤ (((sl (sl y6_1 (1 : Int) ((y6_1.length : Nat) : Int)) (8 : Int) (((sl y6_1 (1 : Int) ((y6_1.length : Nat) : Int)).length : Nat) : Int)).length : Nat) : Int) ∧ (((sl (sl y6_1 (1 : Int) ((y6_1.length : Nat) : Int)) (8 : Int) (((sl y6_1 (1 : Int) ((y6_1.length : Nat) : Int)).length : Nat) : Int)).length : Nat) : Int) ≤ (((sl (sl y6_1 (1 : Int) ((y6_1.length : Nat) : Int)) (8 : Int) (((sl y6_1 (1 : Int) ((y6_1.length : Nat) : Int)).length : Nat) : Int)).length : Nat) : Int)) ((f351_l81 k (sl (sl (sl y6_1 (1 : Int) ((y6_1.length : Nat) : Int)) (8 : Int) (((sl y6_1 (1 : Int) ((y6_1.length : Nat) : Int)).length : Nat) : Int)) (16 : Int) (((sl (sl y6_1 (1 : Int) ((y6_1.length : Nat) : Int)) (8 : Int) (((sl y6_1 (1 : Int) ((y6_1.length : Nat) : Int)).length : Nat) : Int)).length : Nat) : Int))).bind fun o81 => (match o81 with | .b0 x81_1 => L x81_1 | _ => none))) (L (sl (sl y6_1 (1 : Int) ((y6_1.length : Nat) : Int)) (8 : Int) (((sl y6_1 (1 : Int) ((y6_1.length : Nat) : Int)).length : Nat) : Int)))
def f351_j51 (L : (List UInt8) → Option (LR2 Unit Unit Unit)) (k : Nat) (y6_1 : (List UInt8)) (j51_1 : Bool) : Option (LR2 Unit Unit Unit) := cond j51_1 (gd (0 ≤ (8 : Int) ∧ (8 : Int) ≤ (((sl y6_1 (1 : Int) ((y6_1.length : Nat) : Int)).length : Nat) : Int) ∧ (((sl y6_1 (1 : Int) ((y6_1.length : Nat) : Int)).length : Nat) : Int) ≤ (((sl y6_1 (1 : Int) ((y6_1.length : Nat) : Int)).length : Nat) : Int)) (cond (decide ((((sl (sl y6_1 (1 : Int) ((y6_1.length : Nat) : Int)) (8 : Int) (((sl y6_1 (1 : Int) ((y6_1.length : Nat) : Int)).length : Nat) : Int)).length : Nat) : Int) > (16 : Int))) ((f352 k (sl (sl y6_1 (1 : Int) ((y6_1.length : Nat) : Int)) (8 : Int) (((sl y6_1 (1 : Int) ((y6_1.length : Nat) : Int)).length : Nat) : Int))).bind fun r66 => gd (0 ≤ (8 : Int) ∧ (8 : Int) ≤ (((sl (sl y6_1 (1 : Int) ((y6_1.length : Nat) : Int)) (8 : Int) (((sl y6_1 (1 : Int) ((y6_1.length : Nat) : Int)).length : Nat) : Int)).length : Nat) : Int) ∧ (((sl (sl y6_1 (1 : Int) ((y6_1.length : Nat) : Int)) (8 : Int) (((sl y6_1 (1 : Int) ((y6_1.length : Nat) : Int)).length : Nat) : Int)).length : Nat) : Int) ≤ (((sl (sl y6_1 (1 : Int) ((y6_1.length : Nat) : Int)) (8 : Int) (((sl y6_1 (1 : Int) ((y6_1.length : Nat) : Int)).length : Nat) : Int)).length : Nat) : Int)) ((f352 k (sl (sl (sl y6_1 (1 : Int) ((y6_1.length : Nat) : Int)) (8 : Int) (((sl y6_1 (1 : Int) ((y6_1.length : Nat) : Int)).length : Nat) : Int)) (8 : Int) (((sl (sl y6_1 (1 : Int) ((y6_1.length : Nat) : Int)) (8 : Int) (((sl y6_1 (1 : Int) ((y6_1.length : Nat) : Int)).length : Nat) : Int)).length : Nat) : Int))).bind fun r69 => f351_j74 (L) k y6_1 (decide ((bitsA .and .u64 (bitsA .or .u64 (bitsA .or .u64 (bitsA .or .u64 (bitsA .or .u64 (bitsA .or .u64 (bitsA .or .u64 (bitsA .or .u64 (bitsA .or .u64 (IntKind.u64.wrap ((((sl (sl y6_1 (1 : Int) ((y6_1.length : Nat) : Int)) (8 : Int) (((sl y6_1 (1 : Int) ((y6_1.length : Nat) : Int)).length : Nat) : Int)).getD ((0 : Int)).toNat 0).toNat : Nat) : Int)) (IntKind.u64.wrap ((IntKind.u64.wrap ((((sl (sl y6_1 (1 : Int) ((y6_1.length : Nat) : Int)) (8 : Int) (((sl y6_1 (1 : Int) ((y6_1.length : Nat) : Int)).length : Nat) : Int)).getD ((1 : Int)).toNat 0).toNat : Nat) : Int)) * 2 ^ (min ((8 : Int)).toNat IntKind.u64.bits)))) (IntKind.u64.wrap ((IntKind.u64.wrap ((((sl (sl y6_1 (1 : Int) ((y6_1.length : Nat) : Int)) (8 : Int) (((sl y6_1 (1 : Int) ((y6_1.length : Nat) : Int)).length : Nat) : Int)).getD ((2 : Int)).toNat 0).toNat : Nat) : Int)) * 2 ^ (min ((16 : Int)).toNat IntKind.u64.bits)))) (IntKind.u64.wrap ((IntKind.u64.wrap ((((sl (sl y6_1 (1 : Int) ((y6_1.length : Nat) : Int)) (8 : Int) (((sl y6_1 (1 : Int) ((y6_1.length : Nat) : Int)).length : Nat) : Int)).getD ((3 : Int)).toNat 0).toNat : Nat) : Int)) * 2 ^ (min ((24 : Int)).toNat IntKind.u64.bits)))) (IntKind.u64.wrap ((IntKind.u64.wrap ((((sl (sl y6_1 (1 : Int) ((y6_1.length : Nat) : Int)) (8 : Int) (((sl y6_1 (1 : Int) ((y6_1.length : Nat) : Int)).length : Nat) : Int)).getD ((4 : Int)).toNat 0).toNat : Nat) : Int)) * 2 ^ (min ((32 : Int)).toNat IntKind.u64.bits)))) (IntKind.u64.wrap ((IntKind.u64.wrap ((((sl (sl y6_1 (1 : Int) ((y6_1.length : Nat) : Int)) (8 : Int) (((sl y6_1 (1 : Int) ((y6_1.length : Nat) : Int)).length : Nat) : Int)).getD ((5 : Int)).toNat 0).toNat : Nat) : Int)) * 2 ^ (min ((40 : Int)).toNat IntKind.u64.bits)))) (IntKind.u64.wrap ((IntKind.u64.wrap ((((sl (sl y6_1 (1 : Int) ((y6_1.length : Nat) : Int)) (8 : Int) (((sl y6_1 (1 : Int) ((y6_1.length : Nat) : Int)).length : Nat) : Int)).getD ((6 : Int)).toNat 0).toNat : Nat) : Int)) * 2 ^ (min ((48 : Int)).toNat IntKind.u64.bits)))) (IntKind.u64.wrap ((IntKind.u64.wrap ((((sl (sl y6_1 (1 : Int) ((y6_1.length : Nat) : Int)) (8 : Int) (((sl y6_1 (1 : Int) ((y6_1.length : Nat) : Int)).length : Nat) : Int)).getD ((7 : Int)).toNat 0).toNat : Nat) : Int)) * 2 ^ (min ((56 : Int)).toNat IntKind.u64.bits)))) (bitsA .or .u64 (bitsA .or .u64 (bitsA .or .u64 (bitsA .or .u64 (bitsA .or .u64 (bitsA .or .u64 (bitsA .or .u64 (IntKind.u64.wrap ((((sl (sl (sl y6_1 (1 : Int) ((y6_1.length : Nat) : Int)) (8 : Int) (((sl y6_1 (1 : Int) ((y6_1.length : Nat) : Int)).length : Nat) : Int)) (8 : Int) (((sl (sl y6_1 (1 : Int) ((y6_1.length : Nat) : Int)) (8 : Int) (((sl y6_1 (1 : Int) ((y6_1.length : Nat) : Int)).length : Nat) : Int)).length : Nat) : Int)).getD ((0 : Int)).toNat 0).toNat : Nat) : Int)) (IntKind.u64.wrap ((IntKind.u64.wrap ((((sl (sl (sl y6_1 (1 : Int) ((y6_1.length : Nat) : Int)) (8 : Int) (((sl y6_1 (1 : Int) ((y6_1.length : Nat) : Int)).length : Nat) : Int)) (8 : Int) (((sl (sl y6_1 (1 : Int) ((y6_1.length : Nat) : Int)) (8 : Int) (((sl y6_1 (1 : Int) ((y6_1.length : Nat) : Int)).length : Nat) : Int)).length : Nat) : Int)).getD ((1 : Int)).toNat 0).toNat : Nat) : Int)) * 2 ^ (min ((8 : Int)).toNat IntKind.u64.bits)))) (IntKind.u64.wrap ((IntKind.u64.wrap ((((sl (sl (sl y6_1 (1 : Int) ((y6_1.length : Nat) : Int)) (8 : Int) (((sl y6_1 (1 : Int) ((y6_1.length : Nat) : Int)).length : Nat) : Int)) (8 : Int) (((sl (sl y6_1 (1 : Int) ((y6_1.length : Nat) : Int)) (8 : Int) (((sl y6_1 (1 : Int) ((y6_1.length : Nat) : Int)).length : Nat) : Int)).length : Nat) : Int)).getD ((2 : Int)).toNat 0).toNat : Nat) : Int)) * 2 ^ (min ((16 : Int)).toNat IntKind.u64.bits)))) (IntKind.u64.wrap ((IntKind.u64.wrap ((((sl (sl (sl y6_1 (1 : Int) ((y6_1.length : Nat) : Int)) (8 : Int) (((sl y6_1 (1 : Int) ((y6_1.length : Nat) : Int)).length : Nat) : Int)) (8 : Int) (((sl (sl y6_1 (1 : Int) ((y6_1.length : Nat) : Int)) (8 : Int) (((sl y6_1 (1 : Int) ((y6_1.length : Nat) : Int)).length : Nat) : Int)).length : Nat) : Int)).getD ((3 : Int)).toNat 0).toNat : Nat) : Int)) * 2 ^ (min ((24 : Int)).toNat IntKind.u64.bits)))) (IntKind.u64.wrap ((IntKind.u64.wrap ((((sl (sl (sl y6_1 (1 : Int) ((y6_1.length : Nat) : Int)) (8 : Int) (((sl y6_1 (1 : Int) ((y6_1.length : Nat) : Int)).length : Nat) : Int)) (8 : Int) (((sl (sl y6_1 (1 : Int) ((y6_1.length : Nat) : Int)) (8 : Int) (((sl y6_1 (1 : Int) ((y6_1.length : Nat) : Int)).length : Nat) : Int)).length : Nat) : Int)).getD ((4 : Int)).toNat 0).toNat : Nat) : Int)) * 2 ^ (min ((32 : Int)).toNat IntKind.u64.bits)))) (IntKind.u64.wrap ((IntKind.u64.wrap ((((sl (sl (sl y6_1 (1 : Int) ((y6_1.length : Nat) : Int)) (8 : Int) (((sl y6_1 (1 : Int) ((y6_1.length : Nat) : Int)).length : Nat) : Int)) (8 : Int) (((sl (sl y6_1 (1 : Int) ((y6_1.length : Nat) : Int)) (8 : Int) (((sl y6_1 (1 : Int) ((y6_1.length : Nat) : Int)).length : Nat) : Int)).length : Nat) : Int)).getD ((5 : Int)).toNat 0).toNat : Nat) : Int)) * 2 ^ (min ((40 : Int)).toNat IntKind.u64.bits)))) (IntKind.u64.wrap ((IntKind.u64.wrap ((((sl (sl (sl y6_1 (1 : Int) ((y6_1.length : Nat) : Int)) (8 : Int) (((sl y6_1 (1 : Int) ((y6_1.length : Nat) : Int)).length : Nat) : Int)) (8 : Int) (((sl (sl y6_1 (1 : Int) ((y6_1.length : Nat) : Int)) (8 : Int) (((sl y6_1 (1 : Int) ((y6_1.length : Nat) : Int)).length : Nat) : Int)).length : Nat) : Int)).getD ((6 : Int)).toNat 0).toNat : Nat) : Int)) * 2 ^ (min ((48 : Int)).toNat IntKind.u64.bits)))) (IntKind.u64.wrap ((IntKind.u64.wrap ((((sl (sl (sl y6_1 (1 : Int) ((y6_1.length : Nat) : Int)) (8 : Int) (((sl y6_1 (1 : Int) ((y6_1.length : Nat) : Int)).length : Nat) : Int)) (8 : Int) (((sl (sl y6_1 (1 : Int) ((y6_1.length : Nat) : Int)) (8 : Int) (((sl y6_1 (1 : Int) ((y6_1.length : Nat) : Int)).length : Nat) : Int)).length : Nat) : Int)).getD ((7 : Int)).toNat 0).toNat : Nat) : Int)) * 2 ^ (min ((56 : Int)).toNat IntKind.u64.bits))))) (9259542123273814144 : Int)) = (0 : Int))))) (f351_j74 (L) k y6_1 false))) (L (sl y6_1 (1 : Int) ((y6_1.length : Nat) : Int)))
def f351_l6 : Nat → (List UInt8) → Option (LR2 Unit Unit Unit)
  | 0, _ => none
  | k + 1, y6_1 => cond (decide (((y6_1.length : Nat) : Int) > (0 : Int))) (gd (0 ≤ (0 : Int) ∧ (0 : Int) < ((y6_1.length : Nat) : Int)) (cond (decide ((((y6_1.getD ((0 : Int)).toNat 0).toNat : Nat) : Int) < (128 : Int))) (gd (0 ≤ (1 : Int) ∧ (1 : Int) ≤ ((y6_1.length : Nat) : Int) ∧ ((y6_1.length : Nat) : Int) ≤ ((y6_1.length : Nat) : Int)) (cond (decide ((((sl y6_1 (1 : Int) ((y6_1.length : Nat) : Int)).length : Nat) : Int) > (8 : Int))) ((f352 k (sl y6_1 (1 : Int) ((y6_1.length : Nat) : Int))).bind fun r47 => f351_j51 (f351_l6 k) k y6_1 (decide ((bitsA .and .u64 (bitsA .or .u64 (bitsA .or .u64 (bitsA .or .u64 (bitsA .or .u64 (bitsA .or .u64 (bitsA .or .u64 (bitsA .or .u64 (IntKind.u64.wrap ((((sl y6_1 (1 : Int) ((y6_1.length : Nat) : Int)).getD ((0 : Int)).toNat 0).toNat : Nat) : Int)) (IntKind.u64.wrap ((IntKind.u64.wrap ((((sl y6_1 (1 : Int) ((y6_1.length : Nat) : Int)).getD ((1 : Int)).toNat 0).toNat : Nat) : Int)) * 2 ^ (min ((8 : Int)).toNat IntKind.u64.bits)))) (IntKind.u64.wrap ((IntKind.u64.wrap ((((sl y6_1 (1 : Int) ((y6_1.length : Nat) : Int)).getD ((2 : Int)).toNat 0).toNat : Nat) : Int)) * 2 ^ (min ((16 : Int)).toNat IntKind.u64.bits)))) (IntKind.u64.wrap ((IntKind.u64.wrap ((((sl y6_1 (1 : Int) ((y6_1.length : Nat) : Int)).getD ((3 : Int)).toNat 0).toNat : Nat) : Int)) * 2 ^ (min ((24 : Int)).toNat IntKind.u64.bits)))) (IntKind.u64.wrap ((IntKind.u64.wrap ((((sl y6_1 (1 : Int) ((y6_1.length : Nat) : Int)).getD ((4 : Int)).toNat 0).toNat : Nat) : Int)) * 2 ^ (min ((32 : Int)).toNat IntKind.u64.bits)))) (IntKind.u64.wrap ((IntKind.u64.wrap ((((sl y6_1 (1 : Int) ((y6_1.length : Nat) : Int)).getD ((5 : Int)).toNat 0).toNat : Nat) : Int)) * 2 ^ (min ((40 : Int)).toNat IntKind.u64.bits)))) (IntKind.u64.wrap ((IntKind.u64.wrap ((((sl y6_1 (1 : Int) ((y6_1.length : Nat) : Int)).getD ((6 : Int)).toNat 0).toNat : Nat) : Int)) * 2 ^ (min ((48 : Int)).toNat IntKind.u64.bits)))) (IntKind.u64.wrap ((IntKind.u64.wrap ((((sl y6_1 (1 : Int) ((y6_1.length : Nat) : Int)).getD ((7 : Int)).toNat 0).toNat : Nat) : Int)) * 2 ^ (min ((56 : Int)).toNat IntKind.u64.bits)))) (9259542123273814144 : Int)) = (0 : Int)))) (f351_j51 (f351_l6 k) k y6_1 false))) (none))) (some (.b0 ()))
def f351 (k : Nat) (a0 : (List UInt8)) : Option Unit := (f351_l6 k a0).bind fun o6 => (match o6 with | .b0 () => some () | _ => none)
theorem F351 {P : Program} {N : Nat → Nat} (hmix : P.follows .mixedOrders = true) (hc : HC351 P N) {k : Nat} {a0 : (List UInt8)} {r : Unit} (h : f351 k a0 = some r) :
    ACalls P (N 351) [(.d (.str a0))] [] (.d (.bool true)) [] := by
  refine acalls_canon (F := C351 N) hc.1 0 0 rfl ?_
  unfold f351 at h
  dsimp only [C351, startL]
  refine AWc.seq ?_
  refine AWc.rE hmix [] ?_
  obtain ⟨o6, h6, h⟩ := bind_some h
  refine AWc.seqS (N := 169) 0 (fun (z : Unit) => []) (fun z => []) (fun z => o6 = .b0 z) rfl_le ?_ ?_
  · refine AWc.block ?_
    refine AWc.loopK (N := 169) 0 (fun (x : (List UInt8)) => [(0, (.d (.str x)))]) (fun x => []) (fun k x => f351_l6 k x = some o6) k a0 rfl_le (fun x hx => by cases hx) h6 (inT [] []) ?_
    clear h6
    intro k
    intro y6_1 h6
    rw [f351_l6] at h6
    refine AWc.seq ?_
    refine AWc.seq ?_
    refine AWc.rE hmix [] ?_
    rcases cc h6 with ⟨c15, h6⟩ | ⟨c15, h6⟩
    · refine AWc.cT c15 ?_
      refine AWc.skip ?_
      refine AWc.block ?_
      refine AWc.seq ?_
      obtain ⟨b23, h6⟩ := gd_some h6
      refine AWc.rE hmix [.sd b23] ?_
      refine AWc.seq ?_
      refine AWc.seq ?_
      refine AWc.rE hmix [] ?_
      rcases cc h6 with ⟨c31, h6⟩ | ⟨c31, h6⟩
      · refine AWc.cT c31 ?_
        refine AWc.seq ?_
        obtain ⟨b36, h6⟩ := gd_some h6
        refine AWc.rE hmix [.sd b36] ?_
        refine AWc.seq ?_
        refine AWc.seqS (N := 169) 0 (fun (z : Bool) => [(0, (.d (.str (sl y6_1 (1 : Int) ((y6_1.length : Nat) : Int))))), (20, .any), (21, .any), (22, .any), (23, .any), (24, (.d (.bool z)))]) (fun z => []) (fun z => f351_j51 (f351_l6 k) k y6_1 z = some o6) rfl_le ?_ ?_
        · rcases cc h6 with ⟨c45, h6⟩ | ⟨c45, h6⟩
          · obtain ⟨r47, e47, h6⟩ := bind_some h6
            refine AWc.rE hmix [.br c45, .call (F352 hmix hc.2 e47) [] 0] ?_
            exact ⟨(decide ((bitsA .and .u64 (bitsA .or .u64 (bitsA .or .u64 (bitsA .or .u64 (bitsA .or .u64 (bitsA .or .u64 (bitsA .or .u64 (bitsA .or .u64 (IntKind.u64.wrap ((((sl y6_1 (1 : Int) ((y6_1.length : Nat) : Int)).getD ((0 : Int)).toNat 0).toNat : Nat) : Int)) (IntKind.u64.wrap ((IntKind.u64.wrap ((((sl y6_1 (1 : Int) ((y6_1.length : Nat) : Int)).getD ((1 : Int)).toNat 0).toNat : Nat) : Int)) * 2 ^ (min ((8 : Int)).toNat IntKind.u64.bits)))) (IntKind.u64.wrap ((IntKind.u64.wrap ((((sl y6_1 (1 : Int) ((y6_1.length : Nat) : Int)).getD ((2 : Int)).toNat 0).toNat : Nat) : Int)) * 2 ^ (min ((16 : Int)).toNat IntKind.u64.bits)))) (IntKind.u64.wrap ((IntKind.u64.wrap ((((sl y6_1 (1 : Int) ((y6_1.length : Nat) : Int)).getD ((3 : Int)).toNat 0).toNat : Nat) : Int)) * 2 ^ (min ((24 : Int)).toNat IntKind.u64.bits)))) (IntKind.u64.wrap ((IntKind.u64.wrap ((((sl y6_1 (1 : Int) ((y6_1.length : Nat) : Int)).getD ((4 : Int)).toNat 0).toNat : Nat) : Int)) * 2 ^ (min ((32 : Int)).toNat IntKind.u64.bits)))) (IntKind.u64.wrap ((IntKind.u64.wrap ((((sl y6_1 (1 : Int) ((y6_1.length : Nat) : Int)).getD ((5 : Int)).toNat 0).toNat : Nat) : Int)) * 2 ^ (min ((40 : Int)).toNat IntKind.u64.bits)))) (IntKind.u64.wrap ((IntKind.u64.wrap ((((sl y6_1 (1 : Int) ((y6_1.length : Nat) : Int)).getD ((6 : Int)).toNat 0).toNat : Nat) : Int)) * 2 ^ (min ((48 : Int)).toNat IntKind.u64.bits)))) (IntKind.u64.wrap ((IntKind.u64.wrap ((((sl y6_1 (1 : Int) ((y6_1.length : Nat) : Int)).getD ((7 : Int)).toNat 0).toNat : Nat) : Int)) * 2 ^ (min ((56 : Int)).toNat IntKind.u64.bits)))) (9259542123273814144 : Int)) = (0 : Int))), h6, (inT [] [])⟩
          · refine AWc.rE hmix [.br c45] ?_
            exact ⟨false, h6, (inT [] [])⟩
        · intro j51_1 h6
          unfold f351_j51 at h6
          rcases cc h6 with ⟨c51, h6⟩ | ⟨c51, h6⟩
          · refine AWc.cT c51 ?_
            refine AWc.seq ?_
            obtain ⟨b56, h6⟩ := gd_some h6
            refine AWc.rE hmix [.sd b56] ?_
            refine AWc.seqS (N := 169) 0 (fun (z : Bool) => [(0, (.d (.str (sl (sl y6_1 (1 : Int) ((y6_1.length : Nat) : Int)) (8 : Int) (((sl y6_1 (1 : Int) ((y6_1.length : Nat) : Int)).length : Nat) : Int))))), (20, .any), (21, .any), (22, .any), (23, .any), (31, .any), (32, .any), (33, .any), (34, .any), (35, .any), (36, .any), (37, .any), (38, .any), (39, (.d (.bool z)))]) (fun z => []) (fun z => f351_j74 (f351_l6 k) k y6_1 z = some o6) rfl_le ?_ ?_
            · rcases cc h6 with ⟨c64, h6⟩ | ⟨c64, h6⟩
              · obtain ⟨r66, e66, h6⟩ := bind_some h6
                obtain ⟨b68, h6⟩ := gd_some h6
                obtain ⟨r69, e69, h6⟩ := bind_some h6
                refine AWc.rE hmix [.br c64, .call (F352 hmix hc.2 e66) [] 0, .sd b68, .call (F352 hmix hc.2 e69) [] 0] ?_
                exact ⟨(decide ((bitsA .and .u64 (bitsA .or .u64 (bitsA .or .u64 (bitsA .or .u64 (bitsA .or .u64 (bitsA .or .u64 (bitsA .or .u64 (bitsA .or .u64 (bitsA .or .u64 (IntKind.u64.wrap ((((sl (sl y6_1 (1 : Int) ((y6_1.length : Nat) : Int)) (8 : Int) (((sl y6_1 (1 : Int) ((y6_1.length : Nat) : Int)).length : Nat) : Int)).getD ((0 : Int)).toNat 0).toNat : Nat) : Int)) (IntKind.u64.wrap ((IntKind.u64.wrap ((((sl (sl y6_1 (1 : Int) ((y6_1.length : Nat) : Int)) (8 : Int) (((sl y6_1 (1 : Int) ((y6_1.length : Nat) : Int)).length : Nat) : Int)).getD ((1 : Int)).toNat 0).toNat : Nat) : Int)) * 2 ^ (min ((8 : Int)).toNat IntKind.u64.bits)))) (IntKind.u64.wrap ((IntKind.u64.wrap ((((sl (sl y6_1 (1 : Int) ((y6_1.length : Nat) : Int)) (8 : Int) (((sl y6_1 (1 : Int) ((y6_1.length : Nat) : Int)).length : Nat) : Int)).getD ((2 : Int)).toNat 0).toNat : Nat) : Int)) * 2 ^ (min ((16 : Int)).toNat IntKind.u64.bits)))) (IntKind.u64.wrap ((IntKind.u64.wrap ((((sl (sl y6_1 (1 : Int) ((y6_1.length : Nat) : Int)) (8 : Int) (((sl y6_1 (1 : Int) ((y6_1.length : Nat) : Int)).length : Nat) : Int)).getD ((3 : Int)).toNat 0).toNat : Nat) : Int)) * 2 ^ (min ((24 : Int)).toNat IntKind.u64.bits)))) (IntKind.u64.wrap ((IntKind.u64.wrap ((((sl (sl y6_1 (1 : Int) ((y6_1.length : Nat) : Int)) (8 : Int) (((sl y6_1 (1 : Int) ((y6_1.length : Nat) : Int)).length : Nat) : Int)).getD ((4 : Int)).toNat 0).toNat : Nat) : Int)) * 2 ^ (min ((32 : Int)).toNat IntKind.u64.bits)))) (IntKind.u64.wrap ((IntKind.u64.wrap ((((sl (sl y6_1 (1 : Int) ((y6_1.length : Nat) : Int)) (8 : Int) (((sl y6_1 (1 : Int) ((y6_1.length : Nat) : Int)).length : Nat) : Int)).getD ((5 : Int)).toNat 0).toNat : Nat) : Int)) * 2 ^ (min ((40 : Int)).toNat IntKind.u64.bits)))) (IntKind.u64.wrap ((IntKind.u64.wrap ((((sl (sl y6_1 (1 : Int) ((y6_1.length : Nat) : Int)) (8 : Int) (((sl y6_1 (1 : Int) ((y6_1.length : Nat) : Int)).length : Nat) : Int)).getD ((6 : Int)).toNat 0).toNat : Nat) : Int)) * 2 ^ (min ((48 : Int)).toNat IntKind.u64.bits)))) (IntKind.u64.wrap ((IntKind.u64.wrap ((((sl (sl y6_1 (1 : Int) ((y6_1.length : Nat) : Int)) (8 : Int) (((sl y6_1 (1 : Int) ((y6_1.length : Nat) : Int)).length : Nat) : Int)).getD ((7 : Int)).toNat 0).toNat : Nat) : Int)) * 2 ^ (min ((56 : Int)).toNat IntKind.u64.bits)))) (bitsA .or .u64 (bitsA .or .u64 (bitsA .or .u64 (bitsA .or .u64 (bitsA .or .u64 (bitsA .or .u64 (bitsA .or .u64 (IntKind.u64.wrap ((((sl (sl (sl y6_1 (1 : Int) ((y6_1.length : Nat) : Int)) (8 : Int) (((sl y6_1 (1 : Int) ((y6_1.length : Nat) : Int)).length : Nat) : Int)) (8 : Int) (((sl (sl y6_1 (1 : Int) ((y6_1.length : Nat) : Int)) (8 : Int) (((sl y6_1 (1 : Int) ((y6_1.length : Nat) : Int)).length : Nat) : Int)).length : Nat) : Int)).getD ((0 : Int)).toNat 0).toNat : Nat) : Int)) (IntKind.u64.wrap ((IntKind.u64.wrap ((((sl (sl (sl y6_1 (1 : Int) ((y6_1.length : Nat) : Int)) (8 : Int) (((sl y6_1 (1 : Int) ((y6_1.length : Nat) : Int)).length : Nat) : Int)) (8 : Int) (((sl (sl y6_1 (1 : Int) ((y6_1.length : Nat) : Int)) (8 : Int) (((sl y6_1 (1 : Int) ((y6_1.length : Nat) : Int)).length : Nat) : Int)).length : Nat) : Int)).getD ((1 : Int)).toNat 0).toNat : Nat) : Int)) * 2 ^ (min ((8 : Int)).toNat IntKind.u64.bits)))) (IntKind.u64.wrap ((IntKind.u64.wrap ((((sl (sl (sl y6_1 (1 : Int) ((y6_1.length : Nat) : Int)) (8 : Int) (((sl y6_1 (1 : Int) ((y6_1.length : Nat) : Int)).length : Nat) : Int)) (8 : Int) (((sl (sl y6_1 (1 : Int) ((y6_1.length : Nat) : Int)) (8 : Int) (((sl y6_1 (1 : Int) ((y6_1.length : Nat) : Int)).length : Nat) : Int)).length : Nat) : Int)).getD ((2 : Int)).toNat 0).toNat : Nat) : Int)) * 2 ^ (min ((16 : Int)).toNat IntKind.u64.bits)))) (IntKind.u64.wrap ((IntKind.u64.wrap ((((sl (sl (sl y6_1 (1 : Int) ((y6_1.length : Nat) : Int)) (8 : Int) (((sl y6_1 (1 : Int) ((y6_1.length : Nat) : Int)).length : Nat) : Int)) (8 : Int) (((sl (sl y6_1 (1 : Int) ((y6_1.length : Nat) : Int)) (8 : Int) (((sl y6_1 (1 : Int) ((y6_1.length : Nat) : Int)).length : Nat) : Int)).length : Nat) : Int)).getD ((3 : Int)).toNat 0).toNat : Nat) : Int)) * 2 ^ (min ((24 : Int)).toNat IntKind.u64.bits)))) (IntKind.u64.wrap ((IntKind.u64.wrap ((((sl (sl (sl y6_1 (1 : Int) ((y6_1.length : Nat) : Int)) (8 : Int) (((sl y6_1 (1 : Int) ((y6_1.length : Nat) : Int)).length : Nat) : Int)) (8 : Int) (((sl (sl y6_1 (1 : Int) ((y6_1.length : Nat) : Int)) (8 : Int) (((sl y6_1 (1 : Int) ((y6_1.length : Nat) : Int)).length : Nat) : Int)).length : Nat) : Int)).getD ((4 : Int)).toNat 0).toNat : Nat) : Int)) * 2 ^ (min ((32 : Int)).toNat IntKind.u64.bits)))) (IntKind.u64.wrap ((IntKind.u64.wrap ((((sl (sl (sl y6_1 (1 : Int) ((y6_1.length : Nat) : Int)) (8 : Int) (((sl y6_1 (1 : Int) ((y6_1.length : Nat) : Int)).length : Nat) : Int)) (8 : Int) (((sl (sl y6_1 (1 : Int) ((y6_1.length : Nat) : Int)) (8 : Int) (((sl y6_1 (1 : Int) ((y6_1.length : Nat) : Int)).length : Nat) : Int)).length : Nat) : Int)).getD ((5 : Int)).toNat 0).toNat : Nat) : Int)) * 2 ^ (min ((40 : Int)).toNat IntKind.u64.bits)))) (IntKind.u64.wrap ((IntKind.u64.wrap ((((sl (sl (sl y6_1 (1 : Int) ((y6_1.length : Nat) : Int)) (8 : Int) (((sl y6_1 (1 : Int) ((y6_1.length : Nat) : Int)).length : Nat) : Int)) (8 : Int) (((sl (sl y6_1 (1 : Int) ((y6_1.length : Nat) : Int)) (8 : Int) (((sl y6_1 (1 : Int) ((y6_1.length : Nat) : Int)).length : Nat) : Int)).length : Nat) : Int)).getD ((6 : Int)).toNat 0).toNat : Nat) : Int)) * 2 ^ (min ((48 : Int)).toNat IntKind.u64.bits)))) (IntKind.u64.wrap ((IntKind.u64.wrap ((((sl (sl (sl y6_1 (1 : Int) ((y6_1.length : Nat) : Int)) (8 : Int) (((sl y6_1 (1 : Int) ((y6_1.length : Nat) : Int)).length : Nat) : Int)) (8 : Int) (((sl (sl y6_1 (1 : Int) ((y6_1.length : Nat) : Int)) (8 : Int) (((sl y6_1 (1 : Int) ((y6_1.length : Nat) : Int)).length : Nat) : Int)).length : Nat) : Int)).getD ((7 : Int)).toNat 0).toNat : Nat) : Int)) * 2 ^ (min ((56 : Int)).toNat IntKind.u64.bits))))) (9259542123273814144 : Int)) = (0 : Int))), h6, (inT [] [])⟩
              · refine AWc.rE hmix [.br c64] ?_
                exact ⟨false, h6, (inT [] [])⟩
            · intro j74_1 h6
              unfold f351_j74 at h6
              rcases cc h6 with ⟨c74, h6⟩ | ⟨c74, h6⟩
              · refine AWc.cT c74 ?_
                refine AWc.seq ?_
                obtain ⟨b79, h6⟩ := gd_some h6
                refine AWc.rE hmix [.sd b79] ?_
                obtain ⟨o81, h81, h6⟩ := bind_some h6
                refine AWc.block ?_
                refine AWc.loopK (N := 169) 0 (fun (x : (List UInt8)) => [(0, (.d (.str x))), (20, .any), (21, .any), (22, .any), (23, .any), (31, .any), (32, .any), (33, .any), (34, .any), (35, .any), (36, .any), (37, .any), (38, .any)]) (fun x => []) (fun k x => f351_l81 k x = some o81) k (sl (sl (sl y6_1 (1 : Int) ((y6_1.length : Nat) : Int)) (8 : Int) (((sl y6_1 (1 : Int) ((y6_1.length : Nat) : Int)).length : Nat) : Int)) (16 : Int) (((sl (sl y6_1 (1 : Int) ((y6_1.length : Nat) : Int)) (8 : Int) (((sl y6_1 (1 : Int) ((y6_1.length : Nat) : Int)).length : Nat) : Int)).length : Nat) : Int)) rfl_le (fun x hx => by cases hx) h81 (inT [] []) ?_
                clear h81
                intro k
                intro y81_1 h81
                rw [f351_l81] at h81
                refine AWc.seq ?_
                refine AWc.seq ?_
                rcases cc h81 with ⟨c90, h81⟩ | ⟨c90, h81⟩
                · obtain ⟨r92, e92, h81⟩ := bind_some h81
                  obtain ⟨b94, h81⟩ := gd_some h81
                  obtain ⟨r95, e95, h81⟩ := bind_some h81
                  obtain ⟨b98, h81⟩ := gd_some h81
                  obtain ⟨r99, e99, h81⟩ := bind_some h81
                  obtain ⟨b101, h81⟩ := gd_some h81
                  obtain ⟨r102, e102, h81⟩ := bind_some h81
                  refine AWc.rE hmix [.br c90, .call (F352 hmix hc.2 e92) [] 0, .sd b94, .call (F352 hmix hc.2 e95) [] 0, .sd b98, .call (F352 hmix hc.2 e99) [] 0, .sd b101, .call (F352 hmix hc.2 e102) [] 0] ?_
                  rcases cc h81 with ⟨c108, h81⟩ | ⟨c108, h81⟩
                  · refine AWc.cT c108 ?_
                    refine AWc.skip ?_
                    refine AWc.block ?_
                    obtain ⟨b115, h81⟩ := gd_some h81
                    refine AWc.rE hmix [.sd b115] ?_
                    exact ⟨(sl y81_1 (32 : Int) ((y81_1.length : Nat) : Int)), h81, (inT [] [])⟩
                  · refine AWc.cF c108 ?_
                    cases h81
                    dsimp only at h6
                    refine AWc.exit ?_
                    refine inBlk_eq ?_
                    refine AWc.exit ?_
                    refine inBlk_eq ?_
                    exact ⟨y81_1, h6, (inT [] [])⟩
                · refine AWc.rE hmix [.br c90] ?_
                  refine AWc.cF rfl ?_
                  cases h81
                  dsimp only at h6
                  refine AWc.exit ?_
                  refine inBlk_eq ?_
                  refine AWc.exit ?_
                  refine inBlk_eq ?_
                  exact ⟨y81_1, h6, (inT [] [])⟩
              · refine AWc.cF c74 ?_
                refine AWc.skip ?_
                refine AWc.exit ?_
                refine inBlk_eq ?_
                exact ⟨(sl (sl y6_1 (1 : Int) ((y6_1.length : Nat) : Int)) (8 : Int) (((sl y6_1 (1 : Int) ((y6_1.length : Nat) : Int)).length : Nat) : Int)), h6, (inT [] [])⟩
          · refine AWc.cF c51 ?_
            refine AWc.skip ?_
            refine AWc.exit ?_
            refine inBlk_eq ?_
            exact ⟨(sl y6_1 (1 : Int) ((y6_1.length : Nat) : Int)), h6, (inT [] [])⟩
      · refine AWc.cF c31 ?_
        refine AWc.skip ?_
        refine AWc.seq ?_
        cases h6
    · refine AWc.cF c15 ?_
      cases h6
      dsimp only at h
      refine AWc.exit ?_
      refine inBlk_eq ?_
      exact ⟨(), rfl, (inT [] [])⟩
  · rintro ⟨⟩ ho
    subst ho
    dsimp only at h
    refine AWc.seq ?_
    refine AWc.rE hmix [] ?_
    have hr := Option.some.inj h
    subst hr
    exact AWc.ret (canQ (N := 169) (k := 0) (l' := [(2, (.d (.bool true)))]) (H' := []) rfl (inT [] []) (doneA (.inr rfl) rfl ⟨trivial, trivial⟩ (.refl _) hasNil))
/-- courant/json.right$1 -/
def C428 (N : Nat → Nat) : AFunc := { n := 9, params := 2, res := [.tmp 3], body :=
 (.seq (.region false [⟨(some 2), .box (.t 0), none, []⟩,
   ⟨(some 3), .mv (.k (.d (.bool false))), none, []⟩])
  (.seq (.region false [⟨(some 4), .load (.t 2) 4 true, none, []⟩,
    ⟨(some 5), .load (.t 1) 1 false, none, []⟩,
    ⟨(some 6), .bin .add (.t 5) (.k (.d (.int .i64 1))), none, [1]⟩,
    ⟨(some 7), .call (.k (.d (.fn (N 425)))) [(.t 4), (.t 6)], none, [0, 2]⟩,
    ⟨(some 8), .un .not (.t 7), none, [3]⟩,
    ⟨(some 3), .mv (.t 8), none, [4, 3, 0, 1, 2]⟩])
   .ret)) }
def HC428 (P : Program) (N : Nat → Nat) : Prop := HasF P (N 428) (C428 N)
def f428 (rc425 : TJson → Int → Option Bool) (k : Nat) (a0 : TJson) (a1 : Int) : Option Bool := (rc425 (TJson.mk a0.fKind a0.fText a0.fL a0.fKeys) (IntKind.i64.wrap (a1 + (1 : Int)))).bind fun r12 => some (!r12)
theorem F428 {P : Program} {N : Nat → Nat} (hmix : P.follows .mixedOrders = true) (hc : HC428 P N) {rc425 : TJson → Int → Option Bool} (hrc425 : RH425 P N rc425) {k : Nat} {a0 : TJson} {a1 : Int} {r : Bool} (h : f428 rc425 k a0 a1 = some r) :
    ACalls P (N 428) [(.d (TJson.enc a0)), (.ptr 0 0)] [(0, (.cells [(.d (.int .i64 a1))]))] (.d (.bool r)) [(0, (.cells [(.d (.int .i64 a1))]))] := by
  refine acalls_canon (F := C428 N) hc 1 1 rfl ?_
  unfold f428 at h
  dsimp only [C428, startL]
  refine AWc.seq ?_
  refine AWc.rE hmix [] ?_
  refine AWc.seq ?_
  obtain ⟨r12, e12, h⟩ := bind_some h
  refine AWc.rE hmix [.call (hrc425 _ _ _ e12) [] 0] ?_
  have hr := Option.some.inj h
  subst hr
  exact AWc.ret (canQ (N := 9) (k := 1) (l' := [(3, (.d (.bool (!r12))))]) (H' := [(0, (.cells [(.d (.int .i64 a1))]))]) rfl (inT [] []) (doneA (.inr rfl) rfl ⟨trivial, trivial⟩ (.refl _) (hasCons rfl hasNil)))
/-- slices.IndexFunc[[]courant/api.Json,courant/api.Json] -/
def C430 (N : Nat → Nat) : AFunc := { n := 19, params := 2, res := [.tmp 4], body :=
 (.seq (.region false [⟨(some 4), .mv (.k (.d (.int .i64 0))), none, []⟩])
  (.seq (.seq (.region false [⟨(some 6), .mv (.t 0), none, []⟩,
     ⟨(some 7), .len (.t 6), none, [0]⟩,
     ⟨(some 8), .mv (.k (.d (.int .i64 0))), none, []⟩])
    (.block 0 (.loop (.seq (.region false [⟨(some 9), .bin .lss (.t 8) (.t 7), none, []⟩])
       (.seq (.cond (.t 9) (.skip)
         (.exit 0))
        (.seq (.block 1 (.seq (.region false [⟨(some 10), .mv (.t 8), none, []⟩,
            ⟨(some 5), .mv (.t 10), none, [0]⟩])
           (.seq (.region false [⟨(some 11), .mv (.t 1), none, []⟩,
             ⟨(some 12), .mv (.t 0), none, []⟩,
             ⟨(some 13), .mv (.t 5), none, []⟩,
             ⟨(some 14), .iaddr (.t 12) (.t 13) 4, none, [1, 2]⟩,
             ⟨(some 15), .load (.t 14) 4 true, none, [3]⟩,
             ⟨(some 16), .call (.t 11) [(.t 15)], none, [0, 4]⟩])
            (.cond (.t 16) (.seq (.region false [⟨(some 17), .mv (.t 5), none, []⟩,
               ⟨(some 4), .mv (.t 17), none, [0]⟩])
              .ret)
             (.skip)))))
         (.region false [⟨(some 18), .bin .add (.t 8) (.k (.d (.int .i64 1))), none, []⟩,
          ⟨(some 8), .mv (.t 18), none, [0]⟩])))))))
   (.seq (.region false [⟨(some 4), .mv (.k (.d (.int .i64 (-1)))), none, []⟩])
    .ret))) }
def HC430 (P : Program) (N : Nat → Nat) : Prop := HasF P (N 430) (C430 N) ∧ HC428 P N
def f430_l12 (a0 : (List (RT 4))) (rc425 : TJson → Int → Option Bool) (a1 : Int) : Nat → Int → Option (LR2 Unit Unit Int)
  | 0, _ => none
  | k + 1, y12_1 => cond (decide (y12_1 < ((a0.length : Nat) : Int))) (gd (0 ≤ y12_1 ∧ y12_1 < ((a0.length : Nat) : Int)) ((TJson.dec (rtE (rd a0 y12_1))).bind fun rx35 => (f428 rc425 k rx35 a1).bind fun r37 => cond r37 (some (.r y12_1)) (f430_l12 a0 rc425 a1 k (IntKind.i64.wrap (y12_1 + (1 : Int)))))) (some (.b0 ()))
def f430 (rc425 : TJson → Int → Option Bool) (k : Nat) (a0 : (List (RT 4))) (a1 : Int) : Option Int := (f430_l12 a0 rc425 a1 k (0 : Int)).bind fun o12 => (match o12 with | .b0 () => some (-1 : Int) | .r x => some x | _ => none)
theorem F430 {P : Program} {N : Nat → Nat} (hmix : P.follows .mixedOrders = true) (hc : HC430 P N) {rc425 : TJson → Int → Option Bool} (hrc425 : RH425 P N rc425) {k : Nat} {a0 : (List (RT 4))} {a1 : Int} {r : Int} (h : f430 rc425 k a0 a1 = some r) :
    ACalls P (N 430) [(.d (.sl (List.map (rtE (z := 4)) a0))), (.fn (N 428) [(.ptr 0 0)])] [(0, (.cells [(.d (.int .i64 a1))]))] (.d (.int .i64 r)) [(0, (.cells [(.d (.int .i64 a1))]))] := by
  refine acalls_canon (F := C430 N) hc.1 1 1 rfl ?_
  unfold f430 at h
  dsimp only [C430, startL]
  refine AWc.seq ?_
  refine AWc.rE hmix [] ?_
  refine AWc.seq ?_
  refine AWc.seq ?_
  refine AWc.rE hmix [.ln (rtE (z := 4)) a0] ?_
  obtain ⟨o12, h12, h⟩ := bind_some h
  refine AWc.block ?_
  refine AWc.loopK (N := 19) 1 (fun (x : Int) => [(0, (.d (.sl (List.map (rtE (z := 4)) a0)))), (1, (.fn (N 428) [(.ptr 0 0)])), (7, (.d (.int .i64 ((a0.length : Nat) : Int)))), (8, (.d (.int .i64 x)))]) (fun x => [(0, (.cells [(.d (.int .i64 a1))]))]) (fun k x => f430_l12 a0 rc425 a1 k x = some o12) k (0 : Int) rfl_le (fun x hx => by cases hx) h12 (inT [] []) ?_
  clear h12
  intro k
  intro y12_1 h12
  rw [f430_l12] at h12
  refine AWc.seq ?_
  refine AWc.rE hmix [] ?_
  refine AWc.seq ?_
  rcases cc h12 with ⟨c19, h12⟩ | ⟨c19, h12⟩
  · refine AWc.cT c19 ?_
    refine AWc.skip ?_
    refine AWc.seq ?_
    refine AWc.block ?_
    refine AWc.seq ?_
    refine AWc.rE hmix [] ?_
    refine AWc.seq ?_
    obtain ⟨b35, h12⟩ := gd_some h12
    obtain ⟨rx35, ex35, h12⟩ := bind_some h12
    obtain ⟨r37, e37, h12⟩ := bind_some h12
    refine AWc.rE hmix [.iadE (rtE (z := 4)) a0 4 rtE_ok.len b35 (TJson.dec_eq ex35), .cq (F428 hmix hc.2 hrc425 e37) [] 1] ?_
    rcases cc h12 with ⟨c38, h12⟩ | ⟨c38, h12⟩
    · refine AWc.cT c38 ?_
      refine AWc.seq ?_
      refine AWc.rE hmix [] ?_
      cases h12
      dsimp only at h
      have hr := Option.some.inj h
      subst hr
      exact AWc.ret (canQ (N := 19) (k := 1) (l' := [(4, (.d (.int .i64 y12_1)))]) (H' := [(0, (.cells [(.d (.int .i64 a1))]))]) rfl (inT [] []) (doneA (.inr rfl) rfl ⟨trivial, trivial⟩ (.refl _) (hasCons rfl hasNil)))
    · refine AWc.cF c38 ?_
      refine AWc.skip ?_
      refine AWc.rE hmix [] ?_
      exact ⟨(IntKind.i64.wrap (y12_1 + (1 : Int))), h12, (inT [] [])⟩
  · refine AWc.cF c19 ?_
    cases h12
    dsimp only at h
    refine AWc.exit ?_
    refine inBlk_eq ?_
    refine AWc.seq ?_
    refine AWc.rE hmix [] ?_
    have hr := Option.some.inj h
    subst hr
    exact AWc.ret (canQ (N := 19) (k := 1) (l' := [(4, (.d (.int .i64 (-1 : Int))))]) (H' := [(0, (.cells [(.d (.int .i64 a1))]))]) rfl (inT [] []) (doneA (.inr rfl) rfl ⟨trivial, trivial⟩ (.refl _) (hasCons rfl hasNil)))
/-- slices.ContainsFunc[[]courant/api.Json,courant/api.Json] -/
def C429 (N : Nat → Nat) : AFunc := { n := 9, params := 2, res := [.tmp 4], body :=
 (.seq (.region false [⟨(some 4), .mv (.k (.d (.bool false))), none, []⟩])
  (.seq (.region false [⟨(some 5), .mv (.t 0), none, []⟩,
    ⟨(some 6), .mv (.t 1), none, []⟩,
    ⟨(some 7), .call (.k (.d (.fn (N 430)))) [(.t 5), (.t 6)], none, [0, 1]⟩,
    ⟨(some 8), .bin .geq (.t 7) (.k (.d (.int .i64 0))), none, [2]⟩,
    ⟨(some 4), .mv (.t 8), none, [3, 2, 0, 1]⟩])
   .ret)) }
def HC429 (P : Program) (N : Nat → Nat) : Prop := HasF P (N 429) (C429 N) ∧ HC430 P N
def f429 (rc425 : TJson → Int → Option Bool) (k : Nat) (a0 : (List (RT 4))) (a1 : Int) : Option Bool := (f430 rc425 k a0 a1).bind fun r10 => some (decide (r10 ≥ (0 : Int)))
theorem F429 {P : Program} {N : Nat → Nat} (hmix : P.follows .mixedOrders = true) (hc : HC429 P N) {rc425 : TJson → Int → Option Bool} (hrc425 : RH425 P N rc425) {k : Nat} {a0 : (List (RT 4))} {a1 : Int} {r : Bool} (h : f429 rc425 k a0 a1 = some r) :
    ACalls P (N 429) [(.d (.sl (List.map (rtE (z := 4)) a0))), (.fn (N 428) [(.ptr 0 0)])] [(0, (.cells [(.d (.int .i64 a1))]))] (.d (.bool r)) [(0, (.cells [(.d (.int .i64 a1))]))] := by
  refine acalls_canon (F := C429 N) hc.1 1 1 rfl ?_
  unfold f429 at h
  dsimp only [C429, startL]
  refine AWc.seq ?_
  refine AWc.rE hmix [] ?_
  refine AWc.seq ?_
  obtain ⟨r10, e10, h⟩ := bind_some h
  refine AWc.rE hmix [.cq (F430 hmix hc.2 hrc425 e10) [] 1] ?_
  have hr := Option.some.inj h
  subst hr
  exact AWc.ret (canQ (N := 9) (k := 1) (l' := [(4, (.d (.bool (decide (r10 ≥ (0 : Int))))))]) (H' := [(0, (.cells [(.d (.int .i64 a1))]))]) rfl (inT [] []) (doneA (.inr rfl) rfl ⟨trivial, trivial⟩ (.refl _) (hasCons rfl hasNil)))
def L425_0a (N : Nat → Nat) : ACode :=
 (.seq (.region false [⟨(some 6), .mv (.t 55), none, []⟩])
  (.region false [⟨(some 7), .mv (.t 56), none, []⟩]))
def L425_0b (N : Nat → Nat) : ACode :=
 (.block 2 (.seq (.seq (.region false [⟨(some 58), .load (.t 5) 1 false, none, []⟩,
     ⟨(some 59), .mv (.t 7), none, []⟩,
     ⟨(some 60), .bad, none, [0, 1]⟩,
     ⟨(some 57), .mv (.t 60), none, [2]⟩,
     ⟨(some 61), .ext (.t 57) 0, none, [3]⟩,
     ⟨(some 62), .ext (.t 57) 1, none, [3]⟩,
     ⟨(some 8), .mv (.t 61), none, [4, 0, 1, 2, 3]⟩,
     ⟨(some 9), .mv (.t 62), none, [5, 6, 0, 1, 2, 3, 4]⟩])
    (.seq (.region false [⟨(some 63), .mv (.t 9), none, []⟩,
      ⟨(some 64), .mv (.t 63), none, [0]⟩,
      ⟨(some 65), .mv (.t 7), (some (64, false)), [1]⟩,
      ⟨(some 66), .call (.k (.d (.fn (N 351)))) [(.t 65)], (some (64, false)), [2, 1]⟩,
      ⟨(some 67), .un .not (.t 66), (some (64, false)), [3, 1]⟩,
      ⟨(some 68), .pick (.t 64) (.k (.d (.bool true))) (.t 67), none, [1, 4]⟩])
     (.cond (.t 68) (.seq (.region false [⟨none, .store (.t 4) (.k (.d (.bool false))) 1, none, []⟩])
       .ret)
      (.skip))))
   (.region false [⟨(some 69), .load (.t 5) 1 false, none, []⟩,
    ⟨(some 70), .mv (.t 7), none, []⟩,
    ⟨(some 71), .mv (.t 6), none, []⟩,
    ⟨none, .bad, none, [0, 1, 2]⟩])))
/-- courant/json.right -/
def C425 (N : Nat → Nat) : AFunc := { n := 86, params := 2, res := [.cell 4 1 false], body :=
 (.seq (.region false [⟨(some 2), .box (.t 0), none, []⟩,
   ⟨(some 3), .box (.t 1), none, []⟩,
   ⟨(some 4), .alloc [(.bool false)], none, []⟩])
  (.seq (.seq (.region false [⟨(some 10), .faddr (.t 2) 0, none, []⟩,
     ⟨(some 11), .load (.t 10) 1 false, none, [0]⟩])
    (.block 0 (.seq (.seq (.region false [⟨(some 13), .bin .eql (.t 11) (.k (.d (.int .i64 1))), none, []⟩,
        ⟨(some 12), .mv (.t 13), none, [0]⟩])
       (.cond (.t 12) (.skip)
        (.seq (.region false [⟨(some 14), .bin .eql (.t 11) (.k (.d (.int .i64 2))), none, []⟩,
          ⟨(some 12), .mv (.t 14), none, [0]⟩])
         (.cond (.t 12) (.skip)
          (.region false [⟨(some 15), .bin .eql (.t 11) (.k (.d (.int .i64 3))), none, []⟩,
           ⟨(some 12), .mv (.t 15), none, [0]⟩])))))
      (.cond (.t 12) (.seq (.region false [⟨(some 16), .load (.t 2) 4 true, none, []⟩,
         ⟨(some 17), .call (.k (.d (.fn (N 426)))) [(.t 16), (.k (.d (.bool false)))], none, [0]⟩,
         ⟨none, .store (.t 4) (.t 17) 1, none, [1, 0]⟩])
        .ret)
       (.seq (.region false [⟨(some 19), .bin .eql (.t 11) (.k (.d (.int .i64 4))), none, []⟩,
         ⟨(some 18), .mv (.t 19), none, [0]⟩])
        (.cond (.t 18) (.seq (.region false [⟨(some 20), .load (.t 2) 4 true, none, []⟩,
           ⟨(some 21), .call (.k (.d (.fn (N 426)))) [(.t 20), (.k (.d (.bool true)))], none, [0]⟩,
           ⟨(some 22), .mv (.t 21), none, [1]⟩,
           ⟨(some 23), .faddr (.t 2) 1, (some (22, true)), [2]⟩,
           ⟨(some 24), .load (.t 23) 1 false, (some (22, true)), [3, 2]⟩,
           ⟨(some 25), .call (.k (.d (.fn (N 406)))) [(.t 24)], (some (22, true)), [4, 2]⟩,
           ⟨(some 26), .pick (.t 22) (.t 25) (.k (.d (.bool false))), none, [2, 5]⟩,
           ⟨none, .store (.t 4) (.t 26) 1, none, [6, 5, 0, 1, 2, 3, 4]⟩])
          .ret)
         (.seq (.region false [⟨(some 28), .bin .eql (.t 11) (.k (.d (.int .i64 5))), none, []⟩,
           ⟨(some 27), .mv (.t 28), none, [0]⟩])
          (.cond (.t 27) (.seq (.region false [⟨(some 29), .load (.t 2) 4 true, none, []⟩,
             ⟨(some 30), .call (.k (.d (.fn (N 426)))) [(.t 29), (.k (.d (.bool true)))], none, [0]⟩,
             ⟨(some 31), .mv (.t 30), none, [1]⟩,
             ⟨(some 32), .faddr (.t 2) 1, (some (31, true)), [2]⟩,
             ⟨(some 33), .load (.t 32) 1 false, (some (31, true)), [3, 2]⟩,
             ⟨(some 34), .call (.k (.d (.fn (N 351)))) [(.t 33)], (some (31, true)), [4, 2]⟩,
             ⟨(some 35), .pick (.t 31) (.t 34) (.k (.d (.bool false))), none, [2, 5]⟩,
             ⟨none, .store (.t 4) (.t 35) 1, none, [6, 5, 0, 1, 2, 3, 4]⟩])
            .ret)
           (.seq (.region false [⟨(some 37), .bin .eql (.t 11) (.k (.d (.int .i64 6))), none, []⟩,
             ⟨(some 36), .mv (.t 37), none, [0]⟩])
            (.cond (.t 36) (.seq (.region false [⟨(some 38), .faddr (.t 2) 3, none, []⟩,
               ⟨(some 39), .load (.t 38) 1 false, none, [0]⟩,
               ⟨(some 40), .len (.t 39), none, [1]⟩,
               ⟨(some 41), .bin .gtr (.t 40) (.k (.d (.int .i64 0))), none, [2]⟩])
              (.cond (.t 41) (.seq (.region false [⟨none, .store (.t 4) (.k (.d (.bool false))) 1, none, []⟩])
                .ret)
               (.skip)))
             (.seq (.region false [⟨(some 43), .bin .eql (.t 11) (.k (.d (.int .i64 7))), none, []⟩,
               ⟨(some 42), .mv (.t 43), none, [0]⟩])
              (.cond (.t 42) (.seq (.seq (.region false [⟨(some 44), .faddr (.t 2) 3, none, []⟩,
                  ⟨(some 45), .load (.t 44) 1 false, none, [0]⟩,
                  ⟨(some 46), .len (.t 45), none, [1]⟩,
                  ⟨(some 47), .faddr (.t 2) 2, none, []⟩,
                  ⟨(some 48), .load (.t 47) 1 false, none, [3]⟩,
                  ⟨(some 49), .len (.t 48), none, [4]⟩,
                  ⟨(some 50), .bin .neq (.t 46) (.t 49), none, [2, 5]⟩])
                 (.cond (.t 50) (.seq (.region false [⟨none, .store (.t 4) (.k (.d (.bool false))) 1, none, []⟩])
                   .ret)
                  (.skip)))
                (.seq (.region false [⟨(some 51), .bad, none, []⟩,
                  ⟨(some 5), .alloc [.nilm], none, []⟩,
                  ⟨none, .store (.t 5) (.t 51) 1, none, [1, 0]⟩])
                 (.seq (.region false [⟨(some 52), .faddr (.t 2) 3, none, []⟩,
                   ⟨(some 53), .load (.t 52) 1 false, none, [0]⟩,
                   ⟨(some 54), .call (.k (.d (.fn (N 427)))) [(.t 53)], none, [1]⟩])
                  (.block 1 (.rangeFunc (.t 54) [55, 56] (L425_0a N) (L425_0b N))))))
               (.seq (.region false [⟨none, .store (.t 4) (.k (.d (.bool false))) 1, none, []⟩])
                .ret)))))))))))))
   (.seq (.region false [⟨(some 72), .faddr (.t 2) 1, none, []⟩,
     ⟨(some 73), .load (.t 72) 1 false, none, [0]⟩,
     ⟨(some 74), .bin .eql (.t 73) (.k (.d (.str []))), none, [1]⟩,
     ⟨(some 75), .mv (.t 74), none, [2]⟩,
     ⟨(some 76), .load (.t 3) 1 false, (some (75, true)), [3]⟩,
     ⟨(some 77), .bin .lss (.t 76) (.k (.d (.int .i64 64))), (some (75, true)), [4, 3]⟩,
     ⟨(some 78), .pick (.t 75) (.t 77) (.k (.d (.bool false))), none, [3, 5]⟩,
     ⟨(some 79), .mv (.t 78), none, [6, 3]⟩,
     ⟨(some 80), .faddr (.t 2) 2, (some (79, true)), [7]⟩,
     ⟨(some 81), .load (.t 80) 1 false, (some (79, true)), [8, 7]⟩,
     ⟨(some 82), .mkfn (N 428) [(.t 3)], (some (79, true)), [7]⟩,
     ⟨(some 83), .call (.k (.d (.fn (N 429)))) [(.t 81), (.t 82)], (some (79, true)), [9, 10, 7]⟩,
     ⟨(some 84), .un .not (.t 83), (some (79, true)), [11, 7]⟩,
     ⟨(some 85), .pick (.t 79) (.t 84) (.k (.d (.bool false))), none, [7, 12]⟩,
     ⟨none, .store (.t 4) (.t 85) 1, none, [13, 11, 0, 1, 2, 3, 4, 5, 6, 7, 8, 9, 10, 12]⟩])
    .ret))) }
def HC425 (P : Program) (N : Nat → Nat) : Prop := HasF P (N 425) (C425 N) ∧ HC426 P N ∧ HC406 P N ∧ HC351 P N ∧ HC429 P N
def f425_j33 (k : Nat) (a0 : TJson) (a1 : Int) (rc425 : TJson → Int → Option Bool) (j33_1 : Bool) : Option Bool := cond j33_1 ((f426 k (TJson.mk a0.fKind a0.fText a0.fL a0.fKeys) false).bind fun r38 => some r38) (cond (decide (a0.fKind = (4 : Int))) ((f426 k (TJson.mk a0.fKind a0.fText a0.fL a0.fKeys) true).bind fun r51 => cond r51 ((f406 k a0.fText).bind fun r55 => some r55) (some false)) (cond (decide (a0.fKind = (5 : Int))) ((f426 k (TJson.mk a0.fKind a0.fText a0.fL a0.fKeys) true).bind fun r69 => cond r69 ((f351 k a0.fText).bind fun r73 => some true) (some false)) (cond (decide (a0.fKind = (6 : Int))) (cond (decide (((a0.fKeys.length : Nat) : Int) > (0 : Int))) (some false) (cond (decide (a0.fText = ([] : List UInt8))) (cond (decide (a1 < (64 : Int))) ((f429 rc425 k a0.fL a1).bind fun r197 => some (!r197)) (some false)) (some false))) (cond (decide (a0.fKind = (7 : Int))) (cond (decide (((a0.fKeys.length : Nat) : Int) ≠ ((a0.fL.length : Nat) : Int))) (some false) (none)) (some false)))))
def f425_s (rc425 : TJson → Int → Option Bool) (k : Nat) (a0 : TJson) (a1 : Int) : Option Bool := cond (decide (a0.fKind = (1 : Int))) (f425_j33 k a0 a1 rc425 (decide (a0.fKind = (1 : Int)))) (cond (decide (a0.fKind = (2 : Int))) (f425_j33 k a0 a1 rc425 (decide (a0.fKind = (2 : Int)))) (f425_j33 k a0 a1 rc425 (decide (a0.fKind = (3 : Int)))))
theorem F425_s {P : Program} {N : Nat → Nat} (hmix : P.follows .mixedOrders = true) (hc : HC425 P N) {rc425 : TJson → Int → Option Bool} (hrc425 : RH425 P N rc425) {k : Nat} {a0 : TJson} {a1 : Int} {r : Bool} (h : f425_s rc425 k a0 a1 = some r) :
    ACalls P (N 425) [(.d (TJson.enc a0)), (.d (.int .i64 a1))] [] (.d (.bool r)) [] := by
  refine acalls_canon (F := C425 N) hc.1 0 0 rfl ?_
  unfold f425_s at h
  dsimp only [C425, startL]
  refine AWc.seq ?_
  refine AWc.rE hmix [] ?_
  refine AWc.seq ?_
  refine AWc.seq ?_
  refine AWc.rE hmix [] ?_
  refine AWc.block ?_
  refine AWc.seqS (N := 86) 3 (fun (z : Bool) => [(2, (.ptr 0 0)), (3, (.ptr 1 0)), (4, (.ptr 2 0)), (11, (.d (.int .i64 a0.fKind))), (12, (.d (.bool z)))]) (fun z => [(0, (.cells [(.d (.int .i64 a0.fKind)), (.d (.str a0.fText)), (.d (.sl (List.map (rtE (z := 4)) a0.fL))), (.d (.sl (List.map D.str a0.fKeys)))])), (1, (.cells [(.d (.int .i64 a1))])), (2, (.cells [(.d (.bool false))]))]) (fun z => f425_j33 k a0 a1 rc425 z = some r) rfl_le ?_ ?_
  · refine AWc.seq ?_
    refine AWc.rE hmix [] ?_
    rcases cc h with ⟨c20, h⟩ | ⟨c20, h⟩
    · refine AWc.cT c20 ?_
      refine AWc.skip ?_
      exact ⟨(decide (a0.fKind = (1 : Int))), h, (inT [] [])⟩
    · refine AWc.cF c20 ?_
      refine AWc.seq ?_
      refine AWc.rE hmix [] ?_
      rcases cc h with ⟨c27, h⟩ | ⟨c27, h⟩
      · refine AWc.cT c27 ?_
        refine AWc.skip ?_
        exact ⟨(decide (a0.fKind = (2 : Int))), h, (inT [] [])⟩
      · refine AWc.cF c27 ?_
        refine AWc.rE hmix [] ?_
        exact ⟨(decide (a0.fKind = (3 : Int))), h, (inT [] [])⟩
  · intro j33_1 h
    unfold f425_j33 at h
    rcases cc h with ⟨c33, h⟩ | ⟨c33, h⟩
    · refine AWc.cT c33 ?_
      refine AWc.seq ?_
      obtain ⟨r38, e38, h⟩ := bind_some h
      refine AWc.rE hmix [.call (F426 hmix hc.2.1 e38) [] 0] ?_
      have hr := Option.some.inj h
      subst hr
      exact AWc.ret (canQ (N := 86) (k := 1) (l' := [(4, (.ptr 0 0))]) (H' := [(0, (.cells [(.d (.bool r38))]))]) rfl (inT [(0, 2)] []) (doneA (.inr rfl) rfl ⟨trivial, trivial⟩ (.refl _) hasNil))
    · refine AWc.cF c33 ?_
      refine AWc.seq ?_
      refine AWc.rE hmix [] ?_
      rcases cc h with ⟨c46, h⟩ | ⟨c46, h⟩
      · refine AWc.cT c46 ?_
        refine AWc.seq ?_
        obtain ⟨r51, e51, h⟩ := bind_some h
        rcases cc h with ⟨c52, h⟩ | ⟨c52, h⟩
        · obtain ⟨r55, e55, h⟩ := bind_some h
          refine AWc.rE hmix [.call (F426 hmix hc.2.1 e51) [] 0, .br c52, .call (F406 hmix hc.2.2.1 e55) [] 0] ?_
          have hr := Option.some.inj h
          subst hr
          exact AWc.ret (canQ (N := 86) (k := 1) (l' := [(4, (.ptr 0 0))]) (H' := [(0, (.cells [(.d (.bool r55))]))]) rfl (inT [(0, 2)] []) (doneA (.inr rfl) rfl ⟨trivial, trivial⟩ (.refl _) hasNil))
        · refine AWc.rE hmix [.call (F426 hmix hc.2.1 e51) [] 0, .br c52] ?_
          have hr := Option.some.inj h
          subst hr
          exact AWc.ret (canQ (N := 86) (k := 1) (l' := [(4, (.ptr 0 0))]) (H' := [(0, (.cells [(.d (.bool false))]))]) rfl (inT [(0, 2)] []) (doneA (.inr rfl) rfl ⟨trivial, trivial⟩ (.refl _) hasNil))
      · refine AWc.cF c46 ?_
        refine AWc.seq ?_
        refine AWc.rE hmix [] ?_
        rcases cc h with ⟨c64, h⟩ | ⟨c64, h⟩
        · refine AWc.cT c64 ?_
          refine AWc.seq ?_
          obtain ⟨r69, e69, h⟩ := bind_some h
          rcases cc h with ⟨c70, h⟩ | ⟨c70, h⟩
          · obtain ⟨r73, e73, h⟩ := bind_some h
            refine AWc.rE hmix [.call (F426 hmix hc.2.1 e69) [] 0, .br c70, .call (F351 hmix hc.2.2.2.1 e73) [] 0] ?_
            have hr := Option.some.inj h
            subst hr
            exact AWc.ret (canQ (N := 86) (k := 1) (l' := [(4, (.ptr 0 0))]) (H' := [(0, (.cells [(.d (.bool true))]))]) rfl (inT [(0, 2)] []) (doneA (.inr rfl) rfl ⟨trivial, trivial⟩ (.refl _) hasNil))
          · refine AWc.rE hmix [.call (F426 hmix hc.2.1 e69) [] 0, .br c70] ?_
            have hr := Option.some.inj h
            subst hr
            exact AWc.ret (canQ (N := 86) (k := 1) (l' := [(4, (.ptr 0 0))]) (H' := [(0, (.cells [(.d (.bool false))]))]) rfl (inT [(0, 2)] []) (doneA (.inr rfl) rfl ⟨trivial, trivial⟩ (.refl _) hasNil))
        · refine AWc.cF c64 ?_
          refine AWc.seq ?_
          refine AWc.rE hmix [] ?_
          rcases cc h with ⟨c82, h⟩ | ⟨c82, h⟩
          · refine AWc.cT c82 ?_
            refine AWc.seq ?_
            refine AWc.rE hmix [.ln D.str a0.fKeys] ?_
            rcases cc h with ⟨c90, h⟩ | ⟨c90, h⟩
            · refine AWc.cT c90 ?_
              refine AWc.seq ?_
              refine AWc.rE hmix [] ?_
              have hr := Option.some.inj h
              subst hr
              exact AWc.ret (canQ (N := 86) (k := 1) (l' := [(4, (.ptr 0 0))]) (H' := [(0, (.cells [(.d (.bool false))]))]) rfl (inT [(0, 2)] []) (doneA (.inr rfl) rfl ⟨trivial, trivial⟩ (.refl _) hasNil))
            · refine AWc.cF c90 ?_
              refine AWc.skip ?_
              refine AWc.seq ?_
              rcases cc h with ⟨c189, h⟩ | ⟨c189, h⟩
              · rcases cc h with ⟨c193, h⟩ | ⟨c193, h⟩
                · obtain ⟨r197, e197, h⟩ := bind_some h
                  refine AWc.rE hmix [.br c189, .br c193, .cq (F429 hmix hc.2.2.2.2 hrc425 e197) [(0, 1)] 1] ?_
                  have hr := Option.some.inj h
                  subst hr
                  exact AWc.ret (canQ (N := 86) (k := 1) (l' := [(4, (.ptr 0 0))]) (H' := [(0, (.cells [(.d (.bool (!r197)))]))]) rfl (inT [(0, 2)] []) (doneA (.inr rfl) rfl ⟨trivial, trivial⟩ (.refl _) hasNil))
                · refine AWc.rE hmix [.br c189, .br c193] ?_
                  have hr := Option.some.inj h
                  subst hr
                  exact AWc.ret (canQ (N := 86) (k := 1) (l' := [(4, (.ptr 0 0))]) (H' := [(0, (.cells [(.d (.bool false))]))]) rfl (inT [(0, 2)] []) (doneA (.inr rfl) rfl ⟨trivial, trivial⟩ (.refl _) hasNil))
              · refine AWc.rE hmix [.br c189, .br (rfl : false = false)] ?_
                have hr := Option.some.inj h
                subst hr
                exact AWc.ret (canQ (N := 86) (k := 1) (l' := [(4, (.ptr 0 0))]) (H' := [(0, (.cells [(.d (.bool false))]))]) rfl (inT [(0, 2)] []) (doneA (.inr rfl) rfl ⟨trivial, trivial⟩ (.refl _) hasNil))
          · refine AWc.cF c82 ?_
            refine AWc.seq ?_
            refine AWc.rE hmix [] ?_
            rcases cc h with ⟨c102, h⟩ | ⟨c102, h⟩
            · refine AWc.cT c102 ?_
              refine AWc.seq ?_
              refine AWc.seq ?_
              refine AWc.rE hmix [.ln D.str a0.fKeys, .ln (rtE (z := 4)) a0.fL] ?_
              rcases cc h with ⟨c114, h⟩ | ⟨c114, h⟩
              · refine AWc.cT c114 ?_
                refine AWc.seq ?_
                refine AWc.rE hmix [] ?_
                have hr := Option.some.inj h
                subst hr
                exact AWc.ret (canQ (N := 86) (k := 1) (l' := [(4, (.ptr 0 0))]) (H' := [(0, (.cells [(.d (.bool false))]))]) rfl (inT [(0, 2)] []) (doneA (.inr rfl) rfl ⟨trivial, trivial⟩ (.refl _) hasNil))
              · refine AWc.cF c114 ?_
                refine AWc.skip ?_
                refine AWc.seq ?_
                cases h
            · refine AWc.cF c102 ?_
              refine AWc.seq ?_
              refine AWc.rE hmix [] ?_
              have hr := Option.some.inj h
              subst hr
              exact AWc.ret (canQ (N := 86) (k := 1) (l' := [(4, (.ptr 0 0))]) (H' := [(0, (.cells [(.d (.bool false))]))]) rfl (inT [(0, 2)] []) (doneA (.inr rfl) rfl ⟨trivial, trivial⟩ (.refl _) hasNil))
def f425 : Nat → TJson → Int → Option Bool
  | 0, _, _ => none
  | k + 1, a0, a1 => f425_s (f425 k) k a0 a1
theorem F425 {P : Program} {N : Nat → Nat} (hmix : P.follows .mixedOrders = true) (hc : HC425 P N) {k : Nat} {a0 : TJson} {a1 : Int} {r : Bool} (h : f425 k a0 a1 = some r) :
    ACalls P (N 425) [(.d (TJson.enc a0)), (.d (.int .i64 a1))] [] (.d (.bool r)) [] := by
  induction k generalizing a0 a1 r with
  | zero => exact absurd (show (none : Option _) = some r from h) (fun h2 => by cases h2)
  | succ k ih => exact F425_s hmix hc (fun _ _ _ h => ih h) h
/-- courant/json.Right -/
def C422 (N : Nat → Nat) : AFunc := { n := 5, params := 1, res := [.tmp 2], body :=
 (.seq (.region false [⟨(some 1), .box (.t 0), none, []⟩,
   ⟨(some 2), .mv (.k (.d (.bool false))), none, []⟩])
  (.seq (.region false [⟨(some 3), .load (.t 1) 4 true, none, []⟩,
    ⟨(some 4), .call (.k (.d (.fn (N 425)))) [(.t 3), (.k (.d (.int .i64 0)))], none, [0]⟩,
    ⟨(some 2), .mv (.t 4), none, [1, 0]⟩])
   .ret)) }
def HC422 (P : Program) (N : Nat → Nat) : Prop := HasF P (N 422) (C422 N) ∧ HC425 P N
def f422 (k : Nat) (a0 : TJson) : Option Bool := (f425 k (TJson.mk a0.fKind a0.fText a0.fL a0.fKeys) (0 : Int)).bind fun r10 => some r10
theorem F422 {P : Program} {N : Nat → Nat} (hmix : P.follows .mixedOrders = true) (hc : HC422 P N) {k : Nat} {a0 : TJson} {r : Bool} (h : f422 k a0 = some r) :
    ACalls P (N 422) [(.d (TJson.enc a0))] [] (.d (.bool r)) [] := by
  refine acalls_canon (F := C422 N) hc.1 0 0 rfl ?_
  unfold f422 at h
  dsimp only [C422, startL]
  refine AWc.seq ?_
  refine AWc.rE hmix [] ?_
  refine AWc.seq ?_
  obtain ⟨r10, e10, h⟩ := bind_some h
  refine AWc.rE hmix [.call (F425 hmix hc.2 e10) [] 0] ?_
  have hr := Option.some.inj h
  subst hr
  exact AWc.ret (canQ (N := 5) (k := 0) (l' := [(2, (.d (.bool r10)))]) (H' := []) rfl (inT [] []) (doneA (.inr rfl) rfl ⟨trivial, trivial⟩ (.refl _) hasNil))
def RH423 (P : Program) (N : Nat → Nat) (rc423 : (List UInt8) → TJson → Option (List UInt8)) : Prop := ∀ (a0 : (List UInt8)) (a1 : TJson) (r : (List UInt8)), rc423 a0 a1 = some r → ACalls P (N 423) [(.ap 0 1 (List.map byteD a0)), (.d (TJson.enc a1))] [(0, (.tok ((List.map byteD a0).length * 1)))] (.ap 1 1 (List.map byteD r)) [(1, (.tok ((List.map byteD r).length * 1)))]
/-- courant/json.quoted -/
def C424 (N : Nat → Nat) : AFunc := { n := 49, params := 2, res := [.tmp 4], body :=
 (.seq (.region false [⟨(some 4), .mv (.k .nils), none, []⟩])
  (.seq (.region false [⟨(some 7), .mv (.t 0), none, []⟩,
    ⟨(some 8), .bslice 1 1 [(.int .u8 0)] [(0, (.k (.d (.int .u8 34))))], none, []⟩,
    ⟨(some 9), .app (.t 7) (.t 8) 1 1 [(.int .u8 0)], none, [0, 1]⟩,
    ⟨(some 0), .mv (.t 9), none, [2, 0, 1]⟩])
   (.seq (.seq (.region false [⟨(some 10), .mv (.t 1), none, []⟩,
      ⟨(some 11), .slen (.t 10), none, [0]⟩,
      ⟨(some 12), .mv (.k (.d (.int .i64 0))), none, []⟩])
     (.block 0 (.loop (.seq (.region false [⟨(some 13), .bin .lss (.t 12) (.t 11), none, []⟩])
        (.seq (.cond (.t 13) (.skip)
          (.exit 0))
         (.seq (.block 1 (.seq (.region false [⟨(some 14), .mv (.t 12), none, []⟩,
             ⟨(some 5), .mv (.t 14), none, [0]⟩])
            (.seq (.region false [⟨(some 15), .mv (.t 1), none, []⟩,
              ⟨(some 16), .mv (.t 5), none, []⟩,
              ⟨(some 17), .idx (.t 15) (.t 16), none, [0, 1]⟩,
              ⟨(some 6), .mv (.t 17), none, [2, 0, 1]⟩])
             (.block 2 (.seq (.region false [⟨(some 23), .mv (.t 6), none, []⟩,
                ⟨(some 24), .bin .eql (.t 23) (.k (.d (.int .u8 34))), none, [0]⟩,
                ⟨(some 25), .mv (.t 24), none, [1]⟩,
                ⟨(some 26), .mv (.t 6), (some (25, false)), [2]⟩,
                ⟨(some 27), .bin .eql (.t 26) (.k (.d (.int .u8 92))), (some (25, false)), [3, 2]⟩,
                ⟨(some 28), .pick (.t 25) (.k (.d (.bool true))) (.t 27), none, [2, 4]⟩,
                ⟨(some 22), .mv (.t 28), none, [5, 2]⟩])
               (.cond (.t 22) (.region false [⟨(some 29), .mv (.t 0), none, []⟩,
                 ⟨(some 30), .mv (.t 6), none, []⟩,
                 ⟨(some 31), .bslice 2 1 [(.int .u8 0)] [(0, (.k (.d (.int .u8 92)))), (1, (.t 30))], none, [1]⟩,
                 ⟨(some 32), .app (.t 29) (.t 31) 1 1 [(.int .u8 0)], none, [0, 2]⟩,
                 ⟨(some 0), .mv (.t 32), none, [3, 0, 1, 2]⟩])
                (.seq (.region false [⟨(some 34), .mv (.t 6), none, []⟩,
                  ⟨(some 35), .bin .lss (.t 34) (.k (.d (.int .u8 32))), none, [0]⟩,
                  ⟨(some 33), .mv (.t 35), none, [1]⟩])
                 (.cond (.t 33) (.region true [⟨(some 36), .mv (.t 0), none, []⟩,
                   ⟨(some 37), .mv (.t 6), none, []⟩,
                   ⟨(some 38), .bin .shr (.t 37) (.k (.d (.int .u64 4))), none, [1]⟩,
                   ⟨(some 39), .idx (.k (.d (.str [48, 49, 50, 51, 52, 53, 54, 55, 56, 57, 97, 98, 99, 100, 101, 102]))) (.t 38), none, [2]⟩,
                   ⟨(some 40), .mv (.t 6), none, []⟩,
                   ⟨(some 41), .bin .and (.t 40) (.k (.d (.int .u8 15))), none, [4]⟩,
                   ⟨(some 42), .idx (.k (.d (.str [48, 49, 50, 51, 52, 53, 54, 55, 56, 57, 97, 98, 99, 100, 101, 102]))) (.t 41), none, [5]⟩,
                   ⟨(some 43), .bslice 6 1 [(.int .u8 0)] [(0, (.k (.d (.int .u8 92)))), (1, (.k (.d (.int .u8 117)))), (2, (.k (.d (.int .u8 48)))), (3, (.k (.d (.int .u8 48)))), (4, (.t 39)), (5, (.t 42))], none, [3, 6]⟩,
                   ⟨(some 44), .app (.t 36) (.t 43) 1 1 [(.int .u8 0)], none, [0, 7]⟩,
                   ⟨(some 0), .mv (.t 44), none, [8, 0, 1, 2, 3, 4, 5, 6, 7]⟩])
                  (.region false [⟨(some 18), .mv (.t 0), none, []⟩,
                   ⟨(some 19), .mv (.t 6), none, []⟩,
                   ⟨(some 20), .bslice 1 1 [(.int .u8 0)] [(0, (.t 19))], none, [1]⟩,
                   ⟨(some 21), .app (.t 18) (.t 20) 1 1 [(.int .u8 0)], none, [0, 2]⟩,
                   ⟨(some 0), .mv (.t 21), none, [3, 0, 1, 2]⟩])))))))))
          (.region false [⟨(some 45), .bin .add (.t 12) (.k (.d (.int .i64 1))), none, []⟩,
           ⟨(some 12), .mv (.t 45), none, [0]⟩])))))))
    (.seq (.region false [⟨(some 46), .mv (.t 0), none, []⟩,
      ⟨(some 47), .bslice 1 1 [(.int .u8 0)] [(0, (.k (.d (.int .u8 34))))], none, []⟩,
      ⟨(some 48), .app (.t 46) (.t 47) 1 1 [(.int .u8 0)], none, [0, 1]⟩,
      ⟨(some 4), .mv (.t 48), none, [2, 0, 1]⟩])
     .ret)))) }
def HC424 (P : Program) (N : Nat → Nat) : Prop := HasF P (N 424) (C424 N)
def f424_j92 (k : Nat) (j92_1 : (List UInt8)) : Option (List UInt8) := gd ((j92_1.length + ([(34 : UInt8)] : List UInt8).length) * 2 * 1 ≤ 281474976710656) (some (j92_1 ++ ([(34 : UInt8)] : List UInt8)))
def f424_j54 (L : (List UInt8) → Int → Option (LR2 (List UInt8) Unit (List UInt8))) (k : Nat) (y19_1 : (List UInt8)) (a1 : (List UInt8)) (y19_2 : Int) (j54_1 : Bool) : Option (LR2 (List UInt8) Unit (List UInt8)) := cond j54_1 (gd ((y19_1.length + ([(92 : UInt8), (a1.getD (y19_2).toNat 0)] : List UInt8).length) * 2 * 1 ≤ 281474976710656) (L (y19_1 ++ ([(92 : UInt8), (a1.getD (y19_2).toNat 0)] : List UInt8)) (IntKind.i64.wrap (y19_2 + (1 : Int))))) (cond (decide ((((a1.getD (y19_2).toNat 0).toNat : Nat) : Int) < (32 : Int))) (gd (0 ≤ (Int.fdiv (((a1.getD (y19_2).toNat 0).toNat : Nat) : Int) (2 ^ (min ((4 : Int)).toNat IntKind.u8.bits))) ∧ (Int.fdiv (((a1.getD (y19_2).toNat 0).toNat : Nat) : Int) (2 ^ (min ((4 : Int)).toNat IntKind.u8.bits))) < ((([48, 49, 50, 51, 52, 53, 54, 55, 56, 57, 97, 98, 99, 100, 101, 102] : List UInt8).length : Nat) : Int)) (gd (0 ≤ (((u8 (bitsA .and .u8 (((a1.getD (y19_2).toNat 0).toNat : Nat) : Int) (15 : Int))).toNat : Nat) : Int) ∧ (((u8 (bitsA .and .u8 (((a1.getD (y19_2).toNat 0).toNat : Nat) : Int) (15 : Int))).toNat : Nat) : Int) < ((([48, 49, 50, 51, 52, 53, 54, 55, 56, 57, 97, 98, 99, 100, 101, 102] : List UInt8).length : Nat) : Int)) (gd ((y19_1.length + ([(92 : UInt8), (117 : UInt8), (48 : UInt8), (48 : UInt8), (([48, 49, 50, 51, 52, 53, 54, 55, 56, 57, 97, 98, 99, 100, 101, 102] : List UInt8).getD ((Int.fdiv (((a1.getD (y19_2).toNat 0).toNat : Nat) : Int) (2 ^ (min ((4 : Int)).toNat IntKind.u8.bits)))).toNat 0), (([48, 49, 50, 51, 52, 53, 54, 55, 56, 57, 97, 98, 99, 100, 101, 102] : List UInt8).getD ((((u8 (bitsA .and .u8 (((a1.getD (y19_2).toNat 0).toNat : Nat) : Int) (15 : Int))).toNat : Nat) : Int)).toNat 0)] : List UInt8).length) * 2 * 1 ≤ 281474976710656) (L (y19_1 ++ ([(92 : UInt8), (117 : UInt8), (48 : UInt8), (48 : UInt8), (([48, 49, 50, 51, 52, 53, 54, 55, 56, 57, 97, 98, 99, 100, 101, 102] : List UInt8).getD ((Int.fdiv (((a1.getD (y19_2).toNat 0).toNat : Nat) : Int) (2 ^ (min ((4 : Int)).toNat IntKind.u8.bits)))).toNat 0), (([48, 49, 50, 51, 52, 53, 54, 55, 56, 57, 97, 98, 99, 100, 101, 102] : List UInt8).getD ((((u8 (bitsA .and .u8 (((a1.getD (y19_2).toNat 0).toNat : Nat) : Int) (15 : Int))).toNat : Nat) : Int)).toNat 0)] : List UInt8)) (IntKind.i64.wrap (y19_2 + (1 : Int))))))) (gd ((y19_1.length + ([(a1.getD (y19_2).toNat 0)] : List UInt8).length) * 2 * 1 ≤ 281474976710656) (L (y19_1 ++ ([(a1.getD (y19_2).toNat 0)] : List UInt8)) (IntKind.i64.wrap (y19_2 + (1 : Int))))))
def f424_l19 (a1 : (List UInt8)) : Nat → (List UInt8) → Int → Option (LR2 (List UInt8) Unit (List UInt8))
  | 0, _, _ => none
  | k + 1, y19_1, y19_2 => cond (decide (y19_2 < ((a1.length : Nat) : Int))) (gd (0 ≤ y19_2 ∧ y19_2 < ((a1.length : Nat) : Int)) (cond (decide ((((a1.getD (y19_2).toNat 0).toNat : Nat) : Int) = (34 : Int))) (f424_j54 (f424_l19 a1 k) k y19_1 a1 y19_2 true) (f424_j54 (f424_l19 a1 k) k y19_1 a1 y19_2 (decide ((((a1.getD (y19_2).toNat 0).toNat : Nat) : Int) = (92 : Int)))))) (some (.b0 y19_1))
def f424 (k : Nat) (a0 : (List UInt8)) (a1 : (List UInt8)) : Option (List UInt8) := gd ((a0.length + ([(34 : UInt8)] : List UInt8).length) * 2 * 1 ≤ 281474976710656) ((f424_l19 a1 k (a0 ++ ([(34 : UInt8)] : List UInt8)) (0 : Int)).bind fun o19 => (match o19 with | .b0 x19_1 => f424_j92 k x19_1 | _ => none))
theorem F424 {P : Program} {N : Nat → Nat} (hmix : P.follows .mixedOrders = true) (hc : HC424 P N) {k : Nat} {a0 : (List UInt8)} {a1 : (List UInt8)} {r : (List UInt8)} (h : f424 k a0 a1 = some r) :
    ACalls P (N 424) [(.ap 0 1 (List.map byteD a0)), (.d (.str a1))] [(0, (.tok ((List.map byteD a0).length * 1)))] (.ap 1 1 (List.map byteD r)) [(1, (.tok ((List.map byteD r).length * 1)))] := by
  refine acalls_canon (F := C424 N) hc 1 2 rfl ?_
  unfold f424 at h
  dsimp only [C424, startL]
  refine AWc.seq ?_
  refine AWc.rE hmix [] ?_
  refine AWc.seq ?_
  obtain ⟨b10, h⟩ := gd_some h
  refine AWc.rE hmix [.apA byteD a0 ([(34 : UInt8)] : List UInt8) 1 (fun _ => rfl) b10] ?_
  refine AWc.seqS (N := 49) 2 (fun (z : (List UInt8)) => [(0, (.ap 1 1 (List.map byteD z)))]) (fun z => [(1, (.tok ((List.map byteD z).length * 1)))]) (fun z => f424_j92 k z = some r) rfl_le ?_ ?_
  · refine AWc.seq ?_
    refine AWc.rE hmix [] ?_
    obtain ⟨o19, h19, h⟩ := bind_some h
    refine AWc.block ?_
    refine AWc.loopK (N := 49) 2 (fun (x : ((List UInt8) × Int)) => [(0, (.ap 1 1 (List.map byteD x.1))), (1, (.d (.str a1))), (11, (.d (.int .i64 ((a1.length : Nat) : Int)))), (12, (.d (.int .i64 x.2)))]) (fun x => [(1, (.tok ((List.map byteD x.1).length * 1)))]) (fun k x => f424_l19 a1 k x.1 x.2 = some o19) k ((a0 ++ ([(34 : UInt8)] : List UInt8)), (0 : Int)) rfl_le (fun x hx => by cases hx) h19 (inT [] []) ?_
    clear h19
    intro k
    rintro ⟨y19_1, y19_2⟩ h19
    dsimp only at h19 ⊢
    rw [f424_l19] at h19
    refine AWc.seq ?_
    refine AWc.rE hmix [] ?_
    refine AWc.seq ?_
    rcases cc h19 with ⟨c26, h19⟩ | ⟨c26, h19⟩
    · refine AWc.cT c26 ?_
      refine AWc.skip ?_
      refine AWc.seq ?_
      refine AWc.block ?_
      refine AWc.seq ?_
      refine AWc.rE hmix [] ?_
      refine AWc.seq ?_
      obtain ⟨b41, h19⟩ := gd_some h19
      refine AWc.rE hmix [.sd b41] ?_
      refine AWc.block ?_
      refine AWc.seqS (N := 49) 2 (fun (z : Bool) => [(0, (.ap 1 1 (List.map byteD y19_1))), (1, (.d (.str a1))), (6, (.d (.int .u8 (((a1.getD (y19_2).toNat 0).toNat : Nat) : Int)))), (11, (.d (.int .i64 ((a1.length : Nat) : Int)))), (12, (.d (.int .i64 y19_2))), (22, (.d (.bool z))), (26, .any), (27, .any)]) (fun z => [(1, (.tok ((List.map byteD y19_1).length * 1)))]) (fun z => f424_j54 (f424_l19 a1 k) k y19_1 a1 y19_2 z = some o19) rfl_le ?_ ?_
      · rcases cc h19 with ⟨c49, h19⟩ | ⟨c49, h19⟩
        · refine AWc.rE hmix [.br c49] ?_
          exact ⟨true, h19, (inT [] [])⟩
        · refine AWc.rE hmix [.br c49] ?_
          exact ⟨(decide ((((a1.getD (y19_2).toNat 0).toNat : Nat) : Int) = (92 : Int))), h19, (inT [] [])⟩
      · intro j54_1 h19
        unfold f424_j54 at h19
        rcases cc h19 with ⟨c54, h19⟩ | ⟨c54, h19⟩
        · refine AWc.cT c54 ?_
          obtain ⟨b60, h19⟩ := gd_some h19
          refine AWc.rE hmix [.apA byteD y19_1 ([(92 : UInt8), (a1.getD (y19_2).toNat 0)] : List UInt8) 1 (fun _ => rfl) b60] ?_
          refine AWc.rE hmix [] ?_
          exact ⟨((y19_1 ++ ([(92 : UInt8), (a1.getD (y19_2).toNat 0)] : List UInt8)), (IntKind.i64.wrap (y19_2 + (1 : Int)))), h19, (inT [(1, 2)] [])⟩
        · refine AWc.cF c54 ?_
          refine AWc.seq ?_
          refine AWc.rE hmix [] ?_
          rcases cc h19 with ⟨c68, h19⟩ | ⟨c68, h19⟩
          · refine AWc.cT c68 ?_
            obtain ⟨b74, h19⟩ := gd_some h19
            obtain ⟨b77, h19⟩ := gd_some h19
            obtain ⟨b79, h19⟩ := gd_some h19
            refine AWc.rE hmix [.sd (p := 0 ≤ (4 : Int)) (by decide), .sd b74, .sd b77, .apA byteD y19_1 ([(92 : UInt8), (117 : UInt8), (48 : UInt8), (48 : UInt8), (([48, 49, 50, 51, 52, 53, 54, 55, 56, 57, 97, 98, 99, 100, 101, 102] : List UInt8).getD ((Int.fdiv (((a1.getD (y19_2).toNat 0).toNat : Nat) : Int) (2 ^ (min ((4 : Int)).toNat IntKind.u8.bits)))).toNat 0), (([48, 49, 50, 51, 52, 53, 54, 55, 56, 57, 97, 98, 99, 100, 101, 102] : List UInt8).getD ((((u8 (bitsA .and .u8 (((a1.getD (y19_2).toNat 0).toNat : Nat) : Int) (15 : Int))).toNat : Nat) : Int)).toNat 0)] : List UInt8) 1 (fun _ => rfl) b79] ?_
            refine AWc.rE hmix [] ?_
            exact ⟨((y19_1 ++ ([(92 : UInt8), (117 : UInt8), (48 : UInt8), (48 : UInt8), (([48, 49, 50, 51, 52, 53, 54, 55, 56, 57, 97, 98, 99, 100, 101, 102] : List UInt8).getD ((Int.fdiv (((a1.getD (y19_2).toNat 0).toNat : Nat) : Int) (2 ^ (min ((4 : Int)).toNat IntKind.u8.bits)))).toNat 0), (([48, 49, 50, 51, 52, 53, 54, 55, 56, 57, 97, 98, 99, 100, 101, 102] : List UInt8).getD ((((u8 (bitsA .and .u8 (((a1.getD (y19_2).toNat 0).toNat : Nat) : Int) (15 : Int))).toNat : Nat) : Int)).toNat 0)] : List UInt8)), (IntKind.i64.wrap (y19_2 + (1 : Int)))), h19, (inT [(1, 2)] [])⟩
          · refine AWc.cF c68 ?_
            obtain ⟨b86, h19⟩ := gd_some h19
            refine AWc.rE hmix [.apA byteD y19_1 ([(a1.getD (y19_2).toNat 0)] : List UInt8) 1 (fun _ => rfl) b86] ?_
            refine AWc.rE hmix [] ?_
            exact ⟨((y19_1 ++ ([(a1.getD (y19_2).toNat 0)] : List UInt8)), (IntKind.i64.wrap (y19_2 + (1 : Int)))), h19, (inT [(1, 2)] [])⟩
    · refine AWc.cF c26 ?_
      cases h19
      dsimp only at h
      refine AWc.exit ?_
      refine inBlk_eq ?_
      exact ⟨y19_1, h, (inT [] [])⟩
  · intro j92_1 h
    unfold f424_j92 at h
    refine AWc.seq ?_
    obtain ⟨b97, h⟩ := gd_some h
    refine AWc.rE hmix [.apA byteD j92_1 ([(34 : UInt8)] : List UInt8) 1 (fun _ => rfl) b97] ?_
    have hr := Option.some.inj h
    subst hr
    exact AWc.ret (canQ (N := 49) (k := 2) (l' := [(4, (.ap 1 1 (List.map byteD (j92_1 ++ ([(34 : UInt8)] : List UInt8)))))]) (H' := [(1, (.tok ((List.map byteD (j92_1 ++ ([(34 : UInt8)] : List UInt8))).length * 1)))]) rfl (inT [(1, 2)] []) (doneA (.inr rfl) rfl ⟨trivial, trivial⟩ (.refl _) (hasCons rfl hasNil)))
/-- courant/json.printed -/
def C423 (N : Nat → Nat) : AFunc := { n := 76, params := 2, res := [.tmp 4], body :=
 (.seq (.region false [⟨(some 3), .box (.t 1), none, []⟩,
   ⟨(some 4), .mv (.k .nils), none, []⟩])
  (.seq (.seq (.region false [⟨(some 8), .faddr (.t 3) 0, none, []⟩,
     ⟨(some 9), .load (.t 8) 1 false, none, [0]⟩])
    (.block 0 (.seq (.region false [⟨(some 11), .bin .eql (.t 9) (.k (.d (.int .i64 1))), none, []⟩,
       ⟨(some 10), .mv (.t 11), none, [0]⟩])
      (.cond (.t 10) (.seq (.region false [⟨(some 12), .mv (.t 0), none, []⟩,
         ⟨(some 13), .app (.t 12) (.k (.d (.str [110, 117, 108, 108]))) 1 1 [(.int .u8 0)], none, [0]⟩,
         ⟨(some 4), .mv (.t 13), none, [1, 0]⟩])
        .ret)
       (.seq (.region false [⟨(some 15), .bin .eql (.t 9) (.k (.d (.int .i64 2))), none, []⟩,
         ⟨(some 14), .mv (.t 15), none, [0]⟩])
        (.cond (.t 14) (.seq (.region false [⟨(some 16), .mv (.t 0), none, []⟩,
           ⟨(some 17), .app (.t 16) (.k (.d (.str [102, 97, 108, 115, 101]))) 1 1 [(.int .u8 0)], none, [0]⟩,
           ⟨(some 4), .mv (.t 17), none, [1, 0]⟩])
          .ret)
         (.seq (.region false [⟨(some 19), .bin .eql (.t 9) (.k (.d (.int .i64 3))), none, []⟩,
           ⟨(some 18), .mv (.t 19), none, [0]⟩])
          (.cond (.t 18) (.seq (.region false [⟨(some 20), .mv (.t 0), none, []⟩,
             ⟨(some 21), .app (.t 20) (.k (.d (.str [116, 114, 117, 101]))) 1 1 [(.int .u8 0)], none, [0]⟩,
             ⟨(some 4), .mv (.t 21), none, [1, 0]⟩])
            .ret)
           (.seq (.region false [⟨(some 23), .bin .eql (.t 9) (.k (.d (.int .i64 4))), none, []⟩,
             ⟨(some 22), .mv (.t 23), none, [0]⟩])
            (.cond (.t 22) (.seq (.region false [⟨(some 24), .mv (.t 0), none, []⟩,
               ⟨(some 25), .faddr (.t 3) 1, none, []⟩,
               ⟨(some 26), .load (.t 25) 1 false, none, [1]⟩,
               ⟨(some 27), .app (.t 24) (.t 26) 1 1 [(.int .u8 0)], none, [0, 2]⟩,
               ⟨(some 4), .mv (.t 27), none, [3, 0, 1, 2]⟩])
              .ret)
             (.seq (.region false [⟨(some 29), .bin .eql (.t 9) (.k (.d (.int .i64 5))), none, []⟩,
               ⟨(some 28), .mv (.t 29), none, [0]⟩])
              (.cond (.t 28) (.seq (.region false [⟨(some 30), .mv (.t 0), none, []⟩,
                 ⟨(some 31), .faddr (.t 3) 1, none, []⟩,
                 ⟨(some 32), .load (.t 31) 1 false, none, [1]⟩,
                 ⟨(some 33), .call (.k (.d (.fn (N 424)))) [(.t 30), (.t 32)], none, [0, 2]⟩,
                 ⟨(some 4), .mv (.t 33), none, [3, 0, 1, 2]⟩])
                .ret)
               (.skip)))))))))))))
   (.seq (.region false [⟨(some 5), .mv (.k (.d (.str [91, 93]))), none, []⟩])
    (.seq (.seq (.region false [⟨(some 34), .faddr (.t 3) 0, none, []⟩,
       ⟨(some 35), .load (.t 34) 1 false, none, [0]⟩,
       ⟨(some 36), .bin .eql (.t 35) (.k (.d (.int .i64 7))), none, [1]⟩])
      (.cond (.t 36) (.region false [⟨(some 5), .mv (.k (.d (.str [123, 125]))), none, []⟩])
       (.skip)))
     (.seq (.region false [⟨(some 37), .mv (.t 0), none, []⟩,
       ⟨(some 38), .mv (.t 5), none, []⟩,
       ⟨(some 39), .idx (.t 38) (.k (.d (.int .i64 0))), none, [1]⟩,
       ⟨(some 40), .bslice 1 1 [(.int .u8 0)] [(0, (.t 39))], none, [2]⟩,
       ⟨(some 41), .app (.t 37) (.t 40) 1 1 [(.int .u8 0)], none, [0, 3]⟩,
       ⟨(some 0), .mv (.t 41), none, [4, 0, 1, 2, 3]⟩])
      (.seq (.seq (.region false [⟨(some 42), .faddr (.t 3) 2, none, []⟩,
         ⟨(some 43), .load (.t 42) 1 false, none, [0]⟩,
         ⟨(some 44), .len (.t 43), none, [1]⟩,
         ⟨(some 45), .mv (.k (.d (.int .i64 0))), none, []⟩])
        (.block 1 (.loop (.seq (.region false [⟨(some 46), .bin .lss (.t 45) (.t 44), none, []⟩])
           (.seq (.cond (.t 46) (.skip)
             (.exit 1))
            (.seq (.block 2 (.seq (.region false [⟨(some 47), .mv (.t 45), none, []⟩,
                ⟨(some 48), .iaddr (.t 43) (.t 45) 4, none, []⟩,
                ⟨(some 49), .load (.t 48) 4 true, none, [1]⟩,
                ⟨(some 7), .alloc [(.int .i64 0), (.str []), (.sl []), (.sl [])], none, []⟩,
                ⟨(some 6), .mv (.t 47), none, [0, 1, 2, 3]⟩,
                ⟨none, .store (.t 7) (.t 49) 4, none, [3, 2, 4, 0, 1]⟩])
               (.seq (.seq (.region false [⟨(some 50), .mv (.t 6), none, []⟩,
                  ⟨(some 51), .bin .gtr (.t 50) (.k (.d (.int .i64 0))), none, [0]⟩])
                 (.cond (.t 51) (.region false [⟨(some 52), .mv (.t 0), none, []⟩,
                   ⟨(some 53), .bslice 1 1 [(.int .u8 0)] [(0, (.k (.d (.int .u8 44))))], none, []⟩,
                   ⟨(some 54), .app (.t 52) (.t 53) 1 1 [(.int .u8 0)], none, [0, 1]⟩,
                   ⟨(some 0), .mv (.t 54), none, [2, 0, 1]⟩])
                  (.skip)))
                (.seq (.seq (.region false [⟨(some 55), .faddr (.t 3) 0, none, []⟩,
                   ⟨(some 56), .load (.t 55) 1 false, none, [0]⟩,
                   ⟨(some 57), .bin .eql (.t 56) (.k (.d (.int .i64 7))), none, [1]⟩])
                  (.cond (.t 57) (.region false [⟨(some 58), .mv (.t 0), none, []⟩,
                    ⟨(some 59), .faddr (.t 3) 3, none, []⟩,
                    ⟨(some 60), .load (.t 59) 1 false, none, [1]⟩,
                    ⟨(some 61), .mv (.t 6), none, []⟩,
                    ⟨(some 62), .iaddr (.t 60) (.t 61) 1, none, [2, 3]⟩,
                    ⟨(some 63), .load (.t 62) 1 false, none, [4]⟩,
                    ⟨(some 64), .call (.k (.d (.fn (N 424)))) [(.t 58), (.t 63)], none, [0, 5]⟩,
                    ⟨(some 65), .bslice 1 1 [(.int .u8 0)] [(0, (.k (.d (.int .u8 58))))], none, []⟩,
                    ⟨(some 66), .app (.t 64) (.t 65) 1 1 [(.int .u8 0)], none, [6, 7]⟩,
                    ⟨(some 0), .mv (.t 66), none, [8, 0, 1, 2, 3, 4, 5, 6, 7]⟩])
                   (.skip)))
                 (.region false [⟨(some 67), .mv (.t 0), none, []⟩,
                  ⟨(some 68), .load (.t 7) 4 true, none, []⟩,
                  ⟨(some 69), .call (.k (.d (.fn (N 423)))) [(.t 67), (.t 68)], none, [0, 1]⟩,
                  ⟨(some 0), .mv (.t 69), none, [2, 0, 1]⟩])))))
             (.region false [⟨(some 70), .bin .add (.t 45) (.k (.d (.int .i64 1))), none, []⟩,
              ⟨(some 45), .mv (.t 70), none, [0]⟩])))))))
       (.seq (.region false [⟨(some 71), .mv (.t 0), none, []⟩,
         ⟨(some 72), .mv (.t 5), none, []⟩,
         ⟨(some 73), .idx (.t 72) (.k (.d (.int .i64 1))), none, [1]⟩,
         ⟨(some 74), .bslice 1 1 [(.int .u8 0)] [(0, (.t 73))], none, [2]⟩,
         ⟨(some 75), .app (.t 71) (.t 74) 1 1 [(.int .u8 0)], none, [0, 3]⟩,
         ⟨(some 4), .mv (.t 75), none, [4, 0, 1, 2, 3]⟩])
        .ret))))))) }
def HC423 (P : Program) (N : Nat → Nat) : Prop := HasF P (N 423) (C423 N) ∧ HC424 P N
def f423_j182 (k : Nat) (j99_1 : (List UInt8)) (j182_1 : (List UInt8)) : Option (List UInt8) := gd (0 ≤ (1 : Int) ∧ (1 : Int) < ((j99_1.length : Nat) : Int)) (gd ((j182_1.length + ([(j99_1.getD ((1 : Int)).toNat 0)] : List UInt8).length) * 2 * 1 ≤ 281474976710656) (some (j182_1 ++ ([(j99_1.getD ((1 : Int)).toNat 0)] : List UInt8))))
def f423_j172 (L : (List UInt8) → Int → Option (LR2 (List UInt8) Unit (List UInt8))) (k : Nat) (rc423 : (List UInt8) → TJson → Option (List UInt8)) (rx132 : TJson) (y116_2 : Int) (j172_1 : (List UInt8)) : Option (LR2 (List UInt8) Unit (List UInt8)) := (rc423 j172_1 (TJson.mk rx132.fKind rx132.fText rx132.fL rx132.fKeys)).bind fun r176 => L r176 (IntKind.i64.wrap (y116_2 + (1 : Int)))
def f423_j151 (L : (List UInt8) → Int → Option (LR2 (List UInt8) Unit (List UInt8))) (k : Nat) (a1 : TJson) (y116_2 : Int) (rc423 : (List UInt8) → TJson → Option (List UInt8)) (rx132 : TJson) (j151_1 : (List UInt8)) : Option (LR2 (List UInt8) Unit (List UInt8)) := cond (decide (a1.fKind = (7 : Int))) (gd (0 ≤ y116_2 ∧ y116_2 < ((a1.fKeys.length : Nat) : Int)) ((f424 k j151_1 (rd a1.fKeys y116_2)).bind fun r167 => gd ((r167.length + ([(58 : UInt8)] : List UInt8).length) * 2 * 1 ≤ 281474976710656) (f423_j172 (L) k rc423 rx132 y116_2 (r167 ++ ([(58 : UInt8)] : List UInt8))))) (f423_j172 (L) k rc423 rx132 y116_2 j151_1)
def f423_l116 (a1 : TJson) (rc423 : (List UInt8) → TJson → Option (List UInt8)) : Nat → (List UInt8) → Int → Option (LR2 (List UInt8) Unit (List UInt8))
  | 0, _, _ => none
  | k + 1, y116_1, y116_2 => cond (decide (y116_2 < ((a1.fL.length : Nat) : Int))) (gd (0 ≤ y116_2 ∧ y116_2 < ((a1.fL.length : Nat) : Int)) ((TJson.dec (rtE (rd a1.fL y116_2))).bind fun rx132 => cond (decide (y116_2 > (0 : Int))) (gd ((y116_1.length + ([(44 : UInt8)] : List UInt8).length) * 2 * 1 ≤ 281474976710656) (f423_j151 (f423_l116 a1 rc423 k) k a1 y116_2 rc423 rx132 (y116_1 ++ ([(44 : UInt8)] : List UInt8)))) (f423_j151 (f423_l116 a1 rc423 k) k a1 y116_2 rc423 rx132 y116_1))) (some (.b0 y116_1))
def f423_j99 (k : Nat) (a0 : (List UInt8)) (a1 : TJson) (rc423 : (List UInt8) → TJson → Option (List UInt8)) (j99_1 : (List UInt8)) : Option (List UInt8) := gd (0 ≤ (0 : Int) ∧ (0 : Int) < ((j99_1.length : Nat) : Int)) (gd ((a0.length + ([(j99_1.getD ((0 : Int)).toNat 0)] : List UInt8).length) * 2 * 1 ≤ 281474976710656) ((f423_l116 a1 rc423 k (a0 ++ ([(j99_1.getD ((0 : Int)).toNat 0)] : List UInt8)) (0 : Int)).bind fun o116 => (match o116 with | .b0 x116_1 => f423_j182 k j99_1 x116_1 | _ => none)))
def f423_s (rc423 : (List UInt8) → TJson → Option (List UInt8)) (k : Nat) (a0 : (List UInt8)) (a1 : TJson) : Option (List UInt8) := cond (decide (a1.fKind = (1 : Int))) (gd ((a0.length + ([110, 117, 108, 108] : List UInt8).length) * 2 * 1 ≤ 281474976710656) (some (a0 ++ ([110, 117, 108, 108] : List UInt8)))) (cond (decide (a1.fKind = (2 : Int))) (gd ((a0.length + ([102, 97, 108, 115, 101] : List UInt8).length) * 2 * 1 ≤ 281474976710656) (some (a0 ++ ([102, 97, 108, 115, 101] : List UInt8)))) (cond (decide (a1.fKind = (3 : Int))) (gd ((a0.length + ([116, 114, 117, 101] : List UInt8).length) * 2 * 1 ≤ 281474976710656) (some (a0 ++ ([116, 114, 117, 101] : List UInt8)))) (cond (decide (a1.fKind = (4 : Int))) (gd ((a0.length + a1.fText.length) * 2 * 1 ≤ 281474976710656) (some (a0 ++ a1.fText))) (cond (decide (a1.fKind = (5 : Int))) ((f424 k a0 a1.fText).bind fun r79 => some r79) (cond (decide (a1.fKind = (7 : Int))) (f423_j99 k a0 a1 rc423 ([123, 125] : List UInt8)) (f423_j99 k a0 a1 rc423 ([91, 93] : List UInt8)))))))
theorem F423_s {P : Program} {N : Nat → Nat} (hmix : P.follows .mixedOrders = true) (hc : HC423 P N) {rc423 : (List UInt8) → TJson → Option (List UInt8)} (hrc423 : RH423 P N rc423) {k : Nat} {a0 : (List UInt8)} {a1 : TJson} {r : (List UInt8)} (h : f423_s rc423 k a0 a1 = some r) :
    ACalls P (N 423) [(.ap 0 1 (List.map byteD a0)), (.d (TJson.enc a1))] [(0, (.tok ((List.map byteD a0).length * 1)))] (.ap 1 1 (List.map byteD r)) [(1, (.tok ((List.map byteD r).length * 1)))] := by
  refine acalls_canon (F := C423 N) hc.1 1 2 rfl ?_
  unfold f423_s at h
  dsimp only [C423, startL]
  refine AWc.seq ?_
  refine AWc.rE hmix [] ?_
  refine AWc.seq ?_
  refine AWc.seq ?_
  refine AWc.rE hmix [] ?_
  refine AWc.block ?_
  refine AWc.seq ?_
  refine AWc.rE hmix [] ?_
  rcases cc h with ⟨c18, h⟩ | ⟨c18, h⟩
  · refine AWc.cT c18 ?_
    refine AWc.seq ?_
    obtain ⟨b23, h⟩ := gd_some h
    refine AWc.rE hmix [.apA byteD a0 ([110, 117, 108, 108] : List UInt8) 1 (fun _ => rfl) b23] ?_
    have hr := Option.some.inj h
    subst hr
    exact AWc.ret (canQ (N := 76) (k := 2) (l' := [(4, (.ap 1 1 (List.map byteD (a0 ++ ([110, 117, 108, 108] : List UInt8)))))]) (H' := [(1, (.tok ((List.map byteD (a0 ++ ([110, 117, 108, 108] : List UInt8))).length * 1)))]) rfl (inT [(1, 2)] []) (doneA (.inr rfl) rfl ⟨trivial, trivial⟩ (.refl _) (hasCons rfl hasNil)))
  · refine AWc.cF c18 ?_
    refine AWc.seq ?_
    refine AWc.rE hmix [] ?_
    rcases cc h with ⟨c31, h⟩ | ⟨c31, h⟩
    · refine AWc.cT c31 ?_
      refine AWc.seq ?_
      obtain ⟨b36, h⟩ := gd_some h
      refine AWc.rE hmix [.apA byteD a0 ([102, 97, 108, 115, 101] : List UInt8) 1 (fun _ => rfl) b36] ?_
      have hr := Option.some.inj h
      subst hr
      exact AWc.ret (canQ (N := 76) (k := 2) (l' := [(4, (.ap 1 1 (List.map byteD (a0 ++ ([102, 97, 108, 115, 101] : List UInt8)))))]) (H' := [(1, (.tok ((List.map byteD (a0 ++ ([102, 97, 108, 115, 101] : List UInt8))).length * 1)))]) rfl (inT [(1, 2)] []) (doneA (.inr rfl) rfl ⟨trivial, trivial⟩ (.refl _) (hasCons rfl hasNil)))
    · refine AWc.cF c31 ?_
      refine AWc.seq ?_
      refine AWc.rE hmix [] ?_
      rcases cc h with ⟨c44, h⟩ | ⟨c44, h⟩
      · refine AWc.cT c44 ?_
        refine AWc.seq ?_
        obtain ⟨b49, h⟩ := gd_some h
        refine AWc.rE hmix [.apA byteD a0 ([116, 114, 117, 101] : List UInt8) 1 (fun _ => rfl) b49] ?_
        have hr := Option.some.inj h
        subst hr
        exact AWc.ret (canQ (N := 76) (k := 2) (l' := [(4, (.ap 1 1 (List.map byteD (a0 ++ ([116, 114, 117, 101] : List UInt8)))))]) (H' := [(1, (.tok ((List.map byteD (a0 ++ ([116, 114, 117, 101] : List UInt8))).length * 1)))]) rfl (inT [(1, 2)] []) (doneA (.inr rfl) rfl ⟨trivial, trivial⟩ (.refl _) (hasCons rfl hasNil)))
      · refine AWc.cF c44 ?_
        refine AWc.seq ?_
        refine AWc.rE hmix [] ?_
        rcases cc h with ⟨c57, h⟩ | ⟨c57, h⟩
        · refine AWc.cT c57 ?_
          refine AWc.seq ?_
          obtain ⟨b64, h⟩ := gd_some h
          refine AWc.rE hmix [.apA byteD a0 a1.fText 1 (fun _ => rfl) b64] ?_
          have hr := Option.some.inj h
          subst hr
          exact AWc.ret (canQ (N := 76) (k := 2) (l' := [(4, (.ap 1 1 (List.map byteD (a0 ++ a1.fText))))]) (H' := [(1, (.tok ((List.map byteD (a0 ++ a1.fText)).length * 1)))]) rfl (inT [(1, 2)] []) (doneA (.inr rfl) rfl ⟨trivial, trivial⟩ (.refl _) (hasCons rfl hasNil)))
        · refine AWc.cF c57 ?_
          refine AWc.seq ?_
          refine AWc.rE hmix [] ?_
          rcases cc h with ⟨c72, h⟩ | ⟨c72, h⟩
          · refine AWc.cT c72 ?_
            refine AWc.seq ?_
            obtain ⟨r79, e79, h⟩ := bind_some h
            refine AWc.rE hmix [.call (F424 hmix hc.2 e79) [(1, 2)] 2] ?_
            have hr := Option.some.inj h
            subst hr
            exact AWc.ret (canQ (N := 76) (k := 2) (l' := [(4, (.ap 1 1 (List.map byteD r79)))]) (H' := [(1, (.tok ((List.map byteD r79).length * 1)))]) rfl (inT [(1, 2)] []) (doneA (.inr rfl) rfl ⟨trivial, trivial⟩ (.refl _) (hasCons rfl hasNil)))
          · refine AWc.cF c72 ?_
            refine AWc.skip ?_
            refine AWc.seq ?_
            refine AWc.rE hmix [] ?_
            refine AWc.seqS (N := 76) 2 (fun (z : (List UInt8)) => [(0, (.ap 0 1 (List.map byteD a0))), (3, (.ptr 1 0)), (5, (.d (.str z)))]) (fun z => [(0, (.tok ((List.map byteD a0).length * 1))), (1, (.cells [(.d (.int .i64 a1.fKind)), (.d (.str a1.fText)), (.d (.sl (List.map (rtE (z := 4)) a1.fL))), (.d (.sl (List.map D.str a1.fKeys)))]))]) (fun z => f423_j99 k a0 a1 rc423 z = some r) rfl_le ?_ ?_
            · refine AWc.seq ?_
              refine AWc.rE hmix [] ?_
              rcases cc h with ⟨c94, h⟩ | ⟨c94, h⟩
              · refine AWc.cT c94 ?_
                refine AWc.rE hmix [] ?_
                exact ⟨([123, 125] : List UInt8), h, (inT [] [])⟩
              · refine AWc.cF c94 ?_
                refine AWc.skip ?_
                exact ⟨([91, 93] : List UInt8), h, (inT [] [])⟩
            · intro j99_1 h
              unfold f423_j99 at h
              refine AWc.seq ?_
              obtain ⟨b104, h⟩ := gd_some h
              obtain ⟨b106, h⟩ := gd_some h
              refine AWc.rE hmix [.sd b104, .apA byteD a0 ([(j99_1.getD ((0 : Int)).toNat 0)] : List UInt8) 1 (fun _ => rfl) b106] ?_
              refine AWc.seqS (N := 76) 2 (fun (z : (List UInt8)) => [(0, (.ap 1 1 (List.map byteD z))), (5, (.d (.str j99_1)))]) (fun z => [(1, (.tok ((List.map byteD z).length * 1)))]) (fun z => f423_j182 k j99_1 z = some r) rfl_le ?_ ?_
              · refine AWc.seq ?_
                refine AWc.rE hmix [.ln (rtE (z := 4)) a1.fL] ?_
                obtain ⟨o116, h116, h⟩ := bind_some h
                refine AWc.block ?_
                refine AWc.loopK (N := 76) 3 (fun (x : ((List UInt8) × Int)) => [(0, (.ap 1 1 (List.map byteD x.1))), (3, (.ptr 2 0)), (5, (.d (.str j99_1))), (43, (.d (.sl (List.map (rtE (z := 4)) a1.fL)))), (44, (.d (.int .i64 ((a1.fL.length : Nat) : Int)))), (45, (.d (.int .i64 x.2)))]) (fun x => [(1, (.tok ((List.map byteD x.1).length * 1))), (2, (.cells [(.d (.int .i64 a1.fKind)), (.d (.str a1.fText)), (.d (.sl (List.map (rtE (z := 4)) a1.fL))), (.d (.sl (List.map D.str a1.fKeys)))]))]) (fun k x => f423_l116 a1 rc423 k x.1 x.2 = some o116) k ((a0 ++ ([(j99_1.getD ((0 : Int)).toNat 0)] : List UInt8)), (0 : Int)) rfl_le (fun x hx => by cases hx) h116 (inT [(1, 2), (2, 1)] []) ?_
                clear h116
                intro k
                rintro ⟨y116_1, y116_2⟩ h116
                dsimp only at h116 ⊢
                rw [f423_l116] at h116
                refine AWc.seq ?_
                refine AWc.rE hmix [] ?_
                refine AWc.seq ?_
                rcases cc h116 with ⟨c123, h116⟩ | ⟨c123, h116⟩
                · refine AWc.cT c123 ?_
                  refine AWc.skip ?_
                  refine AWc.seq ?_
                  refine AWc.block ?_
                  refine AWc.seq ?_
                  obtain ⟨b132, h116⟩ := gd_some h116
                  obtain ⟨rx132, ex132, h116⟩ := bind_some h116
                  refine AWc.rE hmix [.iadE (rtE (z := 4)) a1.fL 4 rtE_ok.len b132 (TJson.dec_eq ex132)] ?_
                  refine AWc.seqS (N := 76) 4 (fun (z : (List UInt8)) => [(0, (.ap 1 1 (List.map byteD z))), (3, (.ptr 2 0)), (5, (.d (.str j99_1))), (6, (.d (.int .i64 y116_2))), (7, (.ptr 3 0)), (43, (.d (.sl (List.map (rtE (z := 4)) a1.fL)))), (44, (.d (.int .i64 ((a1.fL.length : Nat) : Int)))), (45, (.d (.int .i64 y116_2)))]) (fun z => [(1, (.tok ((List.map byteD z).length * 1))), (2, (.cells [(.d (.int .i64 a1.fKind)), (.d (.str a1.fText)), (.d (.sl (List.map (rtE (z := 4)) a1.fL))), (.d (.sl (List.map D.str a1.fKeys)))])), (3, (.cells [(.d (.int .i64 rx132.fKind)), (.d (.str rx132.fText)), (.d (.sl (List.map (rtE (z := 4)) rx132.fL))), (.d (.sl (List.map D.str rx132.fKeys)))]))]) (fun z => f423_j151 (f423_l116 a1 rc423 k) k a1 y116_2 rc423 rx132 z = some o116) rfl_le ?_ ?_
                  · refine AWc.seq ?_
                    refine AWc.rE hmix [] ?_
                    rcases cc h116 with ⟨c143, h116⟩ | ⟨c143, h116⟩
                    · refine AWc.cT c143 ?_
                      obtain ⟨b148, h116⟩ := gd_some h116
                      refine AWc.rE hmix [.apA byteD y116_1 ([(44 : UInt8)] : List UInt8) 1 (fun _ => rfl) b148] ?_
                      exact ⟨(y116_1 ++ ([(44 : UInt8)] : List UInt8)), h116, (inT [(1, 4)] [])⟩
                    · refine AWc.cF c143 ?_
                      refine AWc.skip ?_
                      exact ⟨y116_1, h116, (inT [] [])⟩
                  · intro j151_1 h116
                    unfold f423_j151 at h116
                    refine AWc.seqS (N := 76) 4 (fun (z : (List UInt8)) => [(0, (.ap 1 1 (List.map byteD z))), (3, (.ptr 2 0)), (5, (.d (.str j99_1))), (7, (.ptr 3 0)), (43, (.d (.sl (List.map (rtE (z := 4)) a1.fL)))), (44, (.d (.int .i64 ((a1.fL.length : Nat) : Int)))), (45, (.d (.int .i64 y116_2)))]) (fun z => [(1, (.tok ((List.map byteD z).length * 1))), (2, (.cells [(.d (.int .i64 a1.fKind)), (.d (.str a1.fText)), (.d (.sl (List.map (rtE (z := 4)) a1.fL))), (.d (.sl (List.map D.str a1.fKeys)))])), (3, (.cells [(.d (.int .i64 rx132.fKind)), (.d (.str rx132.fText)), (.d (.sl (List.map (rtE (z := 4)) rx132.fL))), (.d (.sl (List.map D.str rx132.fKeys)))]))]) (fun z => f423_j172 (f423_l116 a1 rc423 k) k rc423 rx132 y116_2 z = some o116) rfl_le ?_ ?_
                    · refine AWc.seq ?_
                      refine AWc.rE hmix [] ?_
                      rcases cc h116 with ⟨c158, h116⟩ | ⟨c158, h116⟩
                      · refine AWc.cT c158 ?_
                        obtain ⟨b165, h116⟩ := gd_some h116
                        obtain ⟨r167, e167, h116⟩ := bind_some h116
                        obtain ⟨b169, h116⟩ := gd_some h116
                        refine AWc.rE hmix [.iad D.str a1.fKeys 1 (fun _ => rfl) b165, .call (F424 hmix hc.2 e167) [(0, 1), (1, 4)] 2, .apA byteD r167 ([(58 : UInt8)] : List UInt8) 1 (fun _ => rfl) b169] ?_
                        exact ⟨(r167 ++ ([(58 : UInt8)] : List UInt8)), h116, (inT [(1, 5)] [])⟩
                      · refine AWc.cF c158 ?_
                        refine AWc.skip ?_
                        exact ⟨j151_1, h116, (inT [] [])⟩
                    · intro j172_1 h116
                      unfold f423_j172 at h116
                      obtain ⟨r176, e176, h116⟩ := bind_some h116
                      refine AWc.rE hmix [.call (hrc423 _ _ _ e176) [(0, 1), (1, 4)] 2] ?_
                      refine AWc.rE hmix [] ?_
                      exact ⟨(r176, (IntKind.i64.wrap (y116_2 + (1 : Int)))), h116, (inT [(1, 4)] [])⟩
                · refine AWc.cF c123 ?_
                  cases h116
                  dsimp only at h
                  refine AWc.exit ?_
                  refine inBlk_eq ?_
                  exact ⟨y116_1, h, (inT [] [])⟩
              · intro j182_1 h
                unfold f423_j182 at h
                refine AWc.seq ?_
                obtain ⟨b187, h⟩ := gd_some h
                obtain ⟨b189, h⟩ := gd_some h
                refine AWc.rE hmix [.sd b187, .apA byteD j182_1 ([(j99_1.getD ((1 : Int)).toNat 0)] : List UInt8) 1 (fun _ => rfl) b189] ?_
                have hr := Option.some.inj h
                subst hr
                exact AWc.ret (canQ (N := 76) (k := 2) (l' := [(4, (.ap 1 1 (List.map byteD (j182_1 ++ ([(j99_1.getD ((1 : Int)).toNat 0)] : List UInt8)))))]) (H' := [(1, (.tok ((List.map byteD (j182_1 ++ ([(j99_1.getD ((1 : Int)).toNat 0)] : List UInt8))).length * 1)))]) rfl (inT [(1, 2)] []) (doneA (.inr rfl) rfl ⟨trivial, trivial⟩ (.refl _) (hasCons rfl hasNil)))
def f423 : Nat → (List UInt8) → TJson → Option (List UInt8)
  | 0, _, _ => none
  | k + 1, a0, a1 => f423_s (f423 k) k a0 a1
theorem F423 {P : Program} {N : Nat → Nat} (hmix : P.follows .mixedOrders = true) (hc : HC423 P N) {k : Nat} {a0 : (List UInt8)} {a1 : TJson} {r : (List UInt8)} (h : f423 k a0 a1 = some r) :
    ACalls P (N 423) [(.ap 0 1 (List.map byteD a0)), (.d (TJson.enc a1))] [(0, (.tok ((List.map byteD a0).length * 1)))] (.ap 1 1 (List.map byteD r)) [(1, (.tok ((List.map byteD r).length * 1)))] := by
  induction k generalizing a0 a1 r with
  | zero => exact absurd (show (none : Option _) = some r from h) (fun h2 => by cases h2)
  | succ k ih => exact F423_s hmix hc (fun _ _ _ h => ih h) h
/-- courant/json.Print -/
def C421 (N : Nat → Nat) : AFunc := { n := 9, params := 1, res := [.tmp 2], body :=
 (.seq (.region false [⟨(some 1), .box (.t 0), none, []⟩,
   ⟨(some 2), .mv (.k (.d (.str []))), none, []⟩])
  (.seq (.seq (.region false [⟨(some 3), .load (.t 1) 4 true, none, []⟩,
     ⟨(some 4), .call (.k (.d (.fn (N 422)))) [(.t 3)], none, [0]⟩,
     ⟨(some 5), .un .not (.t 4), none, [1]⟩])
    (.cond (.t 5) (.seq (.region false [⟨(some 2), .mv (.k (.d (.str []))), none, []⟩])
      .ret)
     (.skip)))
   (.seq (.region false [⟨(some 6), .load (.t 1) 4 true, none, []⟩,
     ⟨(some 7), .call (.k (.d (.fn (N 423)))) [(.k .nils), (.t 6)], none, [0]⟩,
     ⟨(some 8), .bs2s (.t 7), none, [1]⟩,
     ⟨(some 2), .mv (.t 8), none, [2, 1, 0]⟩])
    .ret))) }
def HC421 (P : Program) (N : Nat → Nat) : Prop := HasF P (N 421) (C421 N) ∧ HC422 P N ∧ HC423 P N
def f421 (k : Nat) (a0 : TJson) : Option (List UInt8) := (f422 k (TJson.mk a0.fKind a0.fText a0.fL a0.fKeys)).bind fun r11 => cond (!r11) (some ([] : List UInt8)) ((f423 k ([] : List UInt8) (TJson.mk a0.fKind a0.fText a0.fL a0.fKeys)).bind fun r24 => some r24)
theorem F421 {P : Program} {N : Nat → Nat} (hmix : P.follows .mixedOrders = true) (hc : HC421 P N) {k : Nat} {a0 : TJson} {r : (List UInt8)} (h : f421 k a0 = some r) :
    ACalls P (N 421) [(.d (TJson.enc a0))] [] (.d (.str r)) [] := by
  refine acalls_canon (F := C421 N) hc.1 0 0 rfl ?_
  unfold f421 at h
  dsimp only [C421, startL]
  refine AWc.seq ?_
  refine AWc.rE hmix [] ?_
  refine AWc.seq ?_
  refine AWc.seq ?_
  obtain ⟨r11, e11, h⟩ := bind_some h
  refine AWc.rE hmix [.call (F422 hmix hc.2.1 e11) [] 0] ?_
  rcases cc h with ⟨c13, h⟩ | ⟨c13, h⟩
  · refine AWc.cT c13 ?_
    refine AWc.seq ?_
    refine AWc.rE hmix [] ?_
    have hr := Option.some.inj h
    subst hr
    exact AWc.ret (canQ (N := 9) (k := 0) (l' := [(2, (.d (.str ([] : List UInt8))))]) (H' := []) rfl (inT [] []) (doneA (.inr rfl) rfl ⟨trivial, trivial⟩ (.refl _) hasNil))
  · refine AWc.cF c13 ?_
    refine AWc.skip ?_
    refine AWc.seq ?_
    obtain ⟨r24, e24, h⟩ := bind_some h
    refine AWc.rE hmix [.call (ACalls.nilA (F423 hmix hc.2.2 e24) 0 0 1) [] 2, .bs r24] ?_
    have hr := Option.some.inj h
    subst hr
    exact AWc.ret (canQ (N := 9) (k := 0) (l' := [(2, (.d (.str r24)))]) (H' := []) rfl (inT [] []) (doneA (.inr rfl) rfl ⟨trivial, trivial⟩ (.refl _) hasNil))
/-- courant/courantlaw02.awake -/
def C395 (N : Nat → Nat) : AFunc := { n := 20, params := 0, res := [.tmp 0], body :=
 (.seq (.region false [⟨(some 0), .mv (.k (.d (.bool false))), none, []⟩])
  (.seq (.region false [⟨(some 4), .call (.k (.d (.fn (N 396)))) [(.k (.d (.str [91, 49, 44, 32, 34, 97, 34, 93])))], none, []⟩,
    ⟨(some 3), .mv (.t 4), none, [0]⟩,
    ⟨(some 5), .ext (.t 3) 0, none, [1]⟩,
    ⟨(some 6), .ext (.t 3) 1, none, [1]⟩,
    ⟨(some 1), .alloc [(.int .i64 0), (.str []), (.sl []), (.sl [])], none, []⟩,
    ⟨none, .store (.t 1) (.t 5) 4, none, [4, 2, 0, 1]⟩,
    ⟨(some 2), .mv (.t 6), none, [3, 5, 0, 1, 2, 4]⟩])
   (.seq (.region false [⟨(some 7), .mv (.t 2), none, []⟩,
     ⟨(some 8), .bin .eql (.t 7) (.k (.d (.int .i64 0))), none, [0]⟩,
     ⟨(some 9), .mv (.t 8), none, [1]⟩,
     ⟨(some 10), .faddr (.t 1) 2, (some (9, true)), [2]⟩,
     ⟨(some 11), .load (.t 10) 1 false, (some (9, true)), [3, 2]⟩,
     ⟨(some 12), .len (.t 11), (some (9, true)), [4, 2]⟩,
     ⟨(some 13), .bin .eql (.t 12) (.k (.d (.int .i64 2))), (some (9, true)), [5, 2]⟩,
     ⟨(some 14), .pick (.t 9) (.t 13) (.k (.d (.bool false))), none, [2, 6]⟩,
     ⟨(some 15), .mv (.t 14), none, [7, 2]⟩,
     ⟨(some 16), .load (.t 1) 4 true, (some (15, true)), [8]⟩,
     ⟨(some 17), .call (.k (.d (.fn (N 421)))) [(.t 16)], (some (15, true)), [9, 8]⟩,
     ⟨(some 18), .bin .eql (.t 17) (.k (.d (.str [91, 49, 44, 34, 97, 34, 93]))), (some (15, true)), [10, 8]⟩,
     ⟨(some 19), .pick (.t 15) (.t 18) (.k (.d (.bool false))), none, [8, 11]⟩,
     ⟨(some 0), .mv (.t 19), none, [12, 10, 0, 1, 2, 3, 4, 5, 6, 7, 8, 9, 11]⟩])
    .ret))) }
def HC395 (P : Program) (N : Nat → Nat) : Prop := HasF P (N 395) (C395 N) ∧ HC396 P N ∧ HC421 P N
def f395 (k : Nat) : Option Bool := (f396 k ([91, 49, 44, 32, 34, 97, 34, 93] : List UInt8)).bind fun r8 => cond (decide (r8.1 = (0 : Int))) (cond (decide (((r8.2.2.2.1.length : Nat) : Int) = (2 : Int))) ((f421 k (TJson.mk r8.2.1 r8.2.2.1 r8.2.2.2.1 r8.2.2.2.2)).bind fun r28 => some (decide (r28 = ([91, 49, 44, 34, 97, 34, 93] : List UInt8)))) (some false)) (some false)
theorem F395 {P : Program} {N : Nat → Nat} (hmix : P.follows .mixedOrders = true) (hc : HC395 P N) {k : Nat} {r : Bool} (h : f395 k = some r) :
    ACalls P (N 395) [] [] (.d (.bool r)) [] := by
  refine acalls_canon (F := C395 N) hc.1 0 0 rfl ?_
  unfold f395 at h
  dsimp only [C395, startL]
  refine AWc.seq ?_
  refine AWc.rE hmix [] ?_
  refine AWc.seq ?_
  obtain ⟨r8, e8, h⟩ := bind_some h
  refine AWc.rE hmix [.call (F396 hmix hc.2.1 e8) [] 0] ?_
  refine AWc.seq ?_
  rcases cc h with ⟨c20, h⟩ | ⟨c20, h⟩
  · rcases cc h with ⟨c26, h⟩ | ⟨c26, h⟩
    · obtain ⟨r28, e28, h⟩ := bind_some h
      refine AWc.rE hmix [.br c20, .ln (rtE (z := 4)) r8.2.2.2.1, .br c26, .call (F421 hmix hc.2.2 e28) [] 0] ?_
      have hr := Option.some.inj h
      subst hr
      exact AWc.ret (canQ (N := 20) (k := 0) (l' := [(0, (.d (.bool (decide (r28 = ([91, 49, 44, 34, 97, 34, 93] : List UInt8))))))]) (H' := []) rfl (inT [] []) (doneA (.inr rfl) rfl ⟨trivial, trivial⟩ (.refl _) hasNil))
    · refine AWc.rE hmix [.br c20, .ln (rtE (z := 4)) r8.2.2.2.1, .br c26] ?_
      have hr := Option.some.inj h
      subst hr
      exact AWc.ret (canQ (N := 20) (k := 0) (l' := [(0, (.d (.bool false)))]) (H' := []) rfl (inT [] []) (doneA (.inr rfl) rfl ⟨trivial, trivial⟩ (.refl _) hasNil))
  · refine AWc.rE hmix [.br c20, .br (rfl : false = false)] ?_
    have hr := Option.some.inj h
    subst hr
    exact AWc.ret (canQ (N := 20) (k := 0) (l' := [(0, (.d (.bool false)))]) (H' := []) rfl (inT [] []) (doneA (.inr rfl) rfl ⟨trivial, trivial⟩ (.refl _) hasNil))
/-- courant/courantlaw02.JsonDepths -/
def C412 (N : Nat → Nat) : AFunc := { n := 77, params := 2, res := [.tmp 4], body :=
 (.seq (.region false [⟨(some 4), .mv (.k (.d (.bool false))), none, []⟩])
  (.seq (.region false [⟨(some 12), .mv (.t 0), none, []⟩,
    ⟨(some 13), .cvi .u64 (.t 12), none, [0]⟩,
    ⟨(some 14), .bin .rem (.t 13) (.k (.d (.int .u64 70))), none, [1]⟩,
    ⟨(some 15), .cvi .i64 (.t 14), none, [2]⟩,
    ⟨(some 16), .bin .add (.k (.d (.int .i64 1))) (.t 15), none, [3]⟩,
    ⟨(some 0), .mv (.t 16), none, [4, 0, 1, 2, 3]⟩])
   (.seq (.region false [⟨(some 5), .mv (.k (.d (.str []))), none, []⟩,
     ⟨(some 6), .mv (.k (.d (.str []))), none, [0]⟩])
    (.seq (.seq (.region false [⟨(some 7), .mv (.k (.d (.int .i64 0))), none, []⟩])
      (.block 0 (.loop (.seq (.seq (.region false [⟨(some 17), .mv (.t 7), none, []⟩,
           ⟨(some 18), .mv (.t 0), none, []⟩,
           ⟨(some 19), .bin .lss (.t 17) (.t 18), none, [0, 1]⟩])
          (.cond (.t 19) (.skip)
           (.exit 0)))
         (.seq (.block 1 (.seq (.region false [⟨(some 22), .mv (.t 1), none, []⟩])
            (.cond (.t 22) (.region false [⟨(some 23), .mv (.t 5), none, []⟩,
              ⟨(some 24), .bin .add (.t 23) (.k (.d (.str [123, 34, 97, 34, 58]))), none, [0]⟩,
              ⟨(some 25), .mv (.t 6), none, []⟩,
              ⟨(some 26), .bin .add (.t 25) (.k (.d (.str [125]))), none, [2]⟩,
              ⟨(some 5), .mv (.t 24), none, [1, 0]⟩,
              ⟨(some 6), .mv (.t 26), none, [3, 4, 0, 1, 2]⟩])
             (.region false [⟨(some 27), .mv (.t 5), none, []⟩,
              ⟨(some 28), .bin .add (.t 27) (.k (.d (.str [91]))), none, [0]⟩,
              ⟨(some 29), .mv (.t 6), none, []⟩,
              ⟨(some 30), .bin .add (.t 29) (.k (.d (.str [93]))), none, [2]⟩,
              ⟨(some 5), .mv (.t 28), none, [1, 0]⟩,
              ⟨(some 6), .mv (.t 30), none, [3, 4, 0, 1, 2]⟩]))))
          (.region false [⟨(some 20), .mv (.t 7), none, []⟩,
           ⟨(some 21), .bin .add (.t 20) (.k (.d (.int .i64 1))), none, [0]⟩,
           ⟨(some 7), .mv (.t 21), none, [1, 0]⟩]))))))
     (.seq (.region false [⟨(some 32), .mv (.t 5), none, []⟩,
       ⟨(some 33), .bin .add (.t 32) (.k (.d (.str [49]))), none, [0]⟩,
       ⟨(some 34), .mv (.t 6), none, []⟩,
       ⟨(some 35), .bin .add (.t 33) (.t 34), none, [1, 2]⟩,
       ⟨(some 36), .call (.k (.d (.fn (N 396)))) [(.t 35)], none, [3]⟩,
       ⟨(some 31), .mv (.t 36), none, [4]⟩,
       ⟨(some 37), .ext (.t 31) 0, none, [5]⟩,
       ⟨(some 38), .ext (.t 31) 1, none, [5]⟩,
       ⟨(some 8), .alloc [(.int .i64 0), (.str []), (.sl []), (.sl [])], none, []⟩,
       ⟨none, .store (.t 8) (.t 37) 4, none, [8, 6, 4, 0, 1, 2, 3, 5]⟩,
       ⟨(some 9), .mv (.t 38), none, [7, 9, 0, 1, 2, 3, 4, 5, 6, 8]⟩])
      (.seq (.region false [⟨(some 10), .mv (.k (.d (.int .i64 0))), none, []⟩])
       (.seq (.seq (.region false [⟨(some 39), .load (.t 8) 4 true, none, []⟩,
          ⟨(some 11), .alloc [(.int .i64 0), (.str []), (.sl []), (.sl [])], none, []⟩,
          ⟨none, .store (.t 11) (.t 39) 4, none, [1, 0]⟩])
         (.block 2 (.loop (.seq (.seq (.region false [⟨(some 40), .faddr (.t 11) 2, none, []⟩,
              ⟨(some 41), .load (.t 40) 1 false, none, [0]⟩,
              ⟨(some 42), .len (.t 41), none, [1]⟩,
              ⟨(some 43), .bin .eql (.t 42) (.k (.d (.int .i64 1))), none, [2]⟩])
             (.cond (.t 43) (.skip)
              (.exit 2)))
            (.seq (.block 3 (.region false [⟨(some 48), .mv (.t 10), none, []⟩,
               ⟨(some 49), .bin .add (.t 48) (.k (.d (.int .i64 1))), none, [0]⟩,
               ⟨(some 10), .mv (.t 49), none, [1, 0]⟩]))
             (.seq (.seq (.region false [⟨(some 50), .load (.t 11) 4 true, none, []⟩])
               (.region false [⟨(some 11), .alloc [(.int .i64 0), (.str []), (.sl []), (.sl [])], none, []⟩,
                ⟨none, .store (.t 11) (.t 50) 4, none, [0]⟩]))
              (.region false [⟨(some 44), .faddr (.t 11) 2, none, []⟩,
               ⟨(some 45), .load (.t 44) 1 false, none, [0]⟩,
               ⟨(some 46), .iaddr (.t 45) (.k (.d (.int .i64 0))) 4, none, [1]⟩,
               ⟨(some 47), .load (.t 46) 4 true, none, [2]⟩,
               ⟨none, .store (.t 11) (.t 47) 4, none, [3, 0, 1, 2]⟩])))))))
        (.seq (.region false [⟨(some 51), .call (.k (.d (.fn (N 395)))) [], none, []⟩,
          ⟨(some 52), .mv (.t 51), none, [0]⟩,
          ⟨(some 53), .mv (.t 0), (some (52, true)), [1]⟩,
          ⟨(some 54), .bin .leq (.t 53) (.k (.d (.int .i64 64))), (some (52, true)), [2, 1]⟩,
          ⟨(some 55), .mv (.t 54), (some (52, true)), [3, 1]⟩,
          ⟨(some 56), .mv (.t 9), (some (55, true)), [4]⟩,
          ⟨(some 57), .bin .eql (.t 56) (.k (.d (.int .i64 0))), (some (55, true)), [5, 4]⟩,
          ⟨(some 58), .pick (.t 55) (.t 57) (.k (.d (.bool false))), (some (52, true)), [4, 6, 1]⟩,
          ⟨(some 59), .mv (.t 58), (some (52, true)), [7, 4, 1]⟩,
          ⟨(some 60), .mv (.t 10), (some (59, true)), [8]⟩,
          ⟨(some 61), .mv (.t 0), (some (59, true)), [8]⟩,
          ⟨(some 62), .bin .eql (.t 60) (.t 61), (some (59, true)), [9, 10, 8]⟩,
          ⟨(some 63), .pick (.t 59) (.t 62) (.k (.d (.bool false))), (some (52, true)), [8, 11, 1]⟩,
          ⟨(some 64), .mv (.t 63), (some (52, true)), [12, 8, 1]⟩,
          ⟨(some 65), .mv (.t 0), (some (64, false)), [13]⟩,
          ⟨(some 66), .bin .gtr (.t 65) (.k (.d (.int .i64 64))), (some (64, false)), [14, 13]⟩,
          ⟨(some 67), .mv (.t 66), (some (64, false)), [15, 13]⟩,
          ⟨(some 68), .mv (.t 9), (some (67, true)), [16]⟩,
          ⟨(some 69), .bin .eql (.t 68) (.k (.d (.int .i64 5))), (some (67, true)), [17, 16]⟩,
          ⟨(some 70), .pick (.t 67) (.t 69) (.k (.d (.bool false))), (some (64, false)), [16, 18, 13]⟩,
          ⟨(some 71), .mv (.t 70), (some (64, false)), [19, 16, 13]⟩,
          ⟨(some 72), .mv (.t 10), (some (71, true)), [20]⟩,
          ⟨(some 73), .bin .eql (.t 72) (.k (.d (.int .i64 0))), (some (71, true)), [21, 20]⟩,
          ⟨(some 74), .pick (.t 71) (.t 73) (.k (.d (.bool false))), (some (64, false)), [20, 22, 13]⟩,
          ⟨(some 75), .pick (.t 64) (.k (.d (.bool true))) (.t 74), (some (52, true)), [13, 23, 1]⟩,
          ⟨(some 76), .pick (.t 52) (.t 75) (.k (.d (.bool false))), none, [1, 24]⟩,
          ⟨(some 4), .mv (.t 76), none, [25, 20, 0, 1, 2, 3, 4, 5, 6, 7, 8, 9, 10, 11, 12, 13, 14, 15, 16, 17, 18, 19, 21, 22, 23, 24]⟩])
         .ret)))))))) }
def HC412 (P : Program) (N : Nat → Nat) : Prop := HasF P (N 412) (C412 N) ∧ HC396 P N ∧ HC395 P N
def f412_j125 (k : Nat) (a0 : Int) (r71 : (Int × Int × (List UInt8) × (List (RT 4)) × (List (List UInt8)))) (j125_1 : Int) : Option Bool := (f395 k).bind fun r128 => cond r128 (cond (decide ((IntKind.i64.wrap ((1 : Int) + (IntKind.i64.wrap (Int.tmod (IntKind.u64.wrap a0) (70 : Int))))) ≤ (64 : Int))) (cond (decide (r71.1 = (0 : Int))) (cond (decide (j125_1 = (IntKind.i64.wrap ((1 : Int) + (IntKind.i64.wrap (Int.tmod (IntKind.u64.wrap a0) (70 : Int))))))) (some true) (cond (decide ((IntKind.i64.wrap ((1 : Int) + (IntKind.i64.wrap (Int.tmod (IntKind.u64.wrap a0) (70 : Int))))) > (64 : Int))) (cond (decide (r71.1 = (5 : Int))) (some (decide (j125_1 = (0 : Int)))) (some false)) (some false))) (cond (decide ((IntKind.i64.wrap ((1 : Int) + (IntKind.i64.wrap (Int.tmod (IntKind.u64.wrap a0) (70 : Int))))) > (64 : Int))) (cond (decide (r71.1 = (5 : Int))) (some (decide (j125_1 = (0 : Int)))) (some false)) (some false))) (cond (decide ((IntKind.i64.wrap ((1 : Int) + (IntKind.i64.wrap (Int.tmod (IntKind.u64.wrap a0) (70 : Int))))) > (64 : Int))) (cond (decide (r71.1 = (5 : Int))) (some (decide (j125_1 = (0 : Int)))) (some false)) (some false))) (some false)
def f412_l89 : Nat → Int → Int → (List UInt8) → (List (RT 4)) → (List (List UInt8)) → Option (LR2 Int Unit Bool)
  | 0, _, _, _, _, _ => none
  | k + 1, y89_1, y89_2, y89_3, y89_4, y89_5 => cond (decide (((y89_4.length : Nat) : Int) = (1 : Int))) (gd (0 ≤ (0 : Int) ∧ (0 : Int) < ((y89_4.length : Nat) : Int)) ((TJson.dec (rtE (rd y89_4 (0 : Int)))).bind fun rx122 => f412_l89 k (IntKind.i64.wrap (y89_1 + (1 : Int))) rx122.fKind rx122.fText rx122.fL rx122.fKeys)) (some (.b0 y89_1))
def f412_j64 (k : Nat) (a0 : Int) (j64_1 : (List UInt8)) (j64_2 : (List UInt8)) : Option Bool := gd (j64_1.length + ([49] : List UInt8).length ≤ 9223372036854775807) (gd ((j64_1 ++ ([49] : List UInt8)).length + j64_2.length ≤ 9223372036854775807) ((f396 k ((j64_1 ++ ([49] : List UInt8)) ++ j64_2)).bind fun r71 => (f412_l89 k (0 : Int) r71.2.1 r71.2.2.1 r71.2.2.2.1 r71.2.2.2.2).bind fun o89 => (match o89 with | .b0 x89_1 => f412_j125 k a0 r71 x89_1 | _ => none)))
def f412_l24 (a0 : Int) (a1 : Bool) : Nat → (List UInt8) → (List UInt8) → Int → Option (LR2 ((List UInt8) × (List UInt8)) Unit Bool)
  | 0, _, _, _ => none
  | k + 1, y24_1, y24_2, y24_3 => cond (decide (y24_3 < (IntKind.i64.wrap ((1 : Int) + (IntKind.i64.wrap (Int.tmod (IntKind.u64.wrap a0) (70 : Int))))))) (cond a1 (gd (y24_1.length + ([123, 34, 97, 34, 58] : List UInt8).length ≤ 9223372036854775807) (gd (y24_2.length + ([125] : List UInt8).length ≤ 9223372036854775807) (f412_l24 a0 a1 k (y24_1 ++ ([123, 34, 97, 34, 58] : List UInt8)) (y24_2 ++ ([125] : List UInt8)) (IntKind.i64.wrap (y24_3 + (1 : Int)))))) (gd (y24_1.length + ([91] : List UInt8).length ≤ 9223372036854775807) (gd (y24_2.length + ([93] : List UInt8).length ≤ 9223372036854775807) (f412_l24 a0 a1 k (y24_1 ++ ([91] : List UInt8)) (y24_2 ++ ([93] : List UInt8)) (IntKind.i64.wrap (y24_3 + (1 : Int))))))) (some (.b0 (y24_1, y24_2)))
def f412 (k : Nat) (a0 : Int) (a1 : Bool) : Option Bool := (f412_l24 a0 a1 k ([] : List UInt8) ([] : List UInt8) (0 : Int)).bind fun o24 => (match o24 with | .b0 (x24_1, x24_2) => f412_j64 k a0 x24_1 x24_2 | _ => none)
theorem F412 {P : Program} {N : Nat → Nat} (hmix : P.follows .mixedOrders = true) (hc : HC412 P N) {k : Nat} {a0 : Int} {a1 : Bool} {r : Bool} (h : f412 k a0 a1 = some r) :
    ACalls P (N 412) [(.d (.int .i64 a0)), (.d (.bool a1))] [] (.d (.bool r)) [] := by
  refine acalls_canon (F := C412 N) hc.1 0 0 rfl ?_
  unfold f412 at h
  dsimp only [C412, startL]
  refine AWc.seq ?_
  refine AWc.rE hmix [] ?_
  refine AWc.seq ?_
  refine AWc.rE hmix [.sd (p := (70 : Int) ≠ 0) (by decide)] ?_
  refine AWc.seq ?_
  refine AWc.rE hmix [] ?_
  refine AWc.seqS (N := 77) 0 (fun (z : ((List UInt8) × (List UInt8))) => [(0, (.d (.int .i64 (IntKind.i64.wrap ((1 : Int) + (IntKind.i64.wrap (Int.tmod (IntKind.u64.wrap a0) (70 : Int)))))))), (5, (.d (.str z.1))), (6, (.d (.str z.2)))]) (fun z => []) (fun z => f412_j64 k a0 z.1 z.2 = some r) rfl_le ?_ ?_
  · refine AWc.seq ?_
    refine AWc.rE hmix [] ?_
    obtain ⟨o24, h24, h⟩ := bind_some h
    refine AWc.block ?_
    refine AWc.loopK (N := 77) 0 (fun (x : ((List UInt8) × (List UInt8) × Int)) => [(0, (.d (.int .i64 (IntKind.i64.wrap ((1 : Int) + (IntKind.i64.wrap (Int.tmod (IntKind.u64.wrap a0) (70 : Int)))))))), (1, (.d (.bool a1))), (5, (.d (.str x.1))), (6, (.d (.str x.2.1))), (7, (.d (.int .i64 x.2.2)))]) (fun x => []) (fun k x => f412_l24 a0 a1 k x.1 x.2.1 x.2.2 = some o24) k (([] : List UInt8), ([] : List UInt8), (0 : Int)) rfl_le (fun x hx => by cases hx) h24 (inT [] []) ?_
    clear h24
    intro k
    rintro ⟨y24_1, y24_2, y24_3⟩ h24
    dsimp only at h24 ⊢
    rw [f412_l24] at h24
    refine AWc.seq ?_
    refine AWc.seq ?_
    refine AWc.rE hmix [] ?_
    rcases cc h24 with ⟨c33, h24⟩ | ⟨c33, h24⟩
    · refine AWc.cT c33 ?_
      refine AWc.skip ?_
      refine AWc.seq ?_
      refine AWc.block ?_
      refine AWc.seq ?_
      refine AWc.rE hmix [] ?_
      rcases cc h24 with ⟨c42, h24⟩ | ⟨c42, h24⟩
      · refine AWc.cT c42 ?_
        obtain ⟨b46, h24⟩ := gd_some h24
        obtain ⟨b48, h24⟩ := gd_some h24
        refine AWc.rE hmix [.sd b46, .sd b48] ?_
        refine AWc.rE hmix [] ?_
        exact ⟨((y24_1 ++ ([123, 34, 97, 34, 58] : List UInt8)), (y24_2 ++ ([125] : List UInt8)), (IntKind.i64.wrap (y24_3 + (1 : Int)))), h24, (inT [] [])⟩
      · refine AWc.cF c42 ?_
        obtain ⟨b54, h24⟩ := gd_some h24
        obtain ⟨b56, h24⟩ := gd_some h24
        refine AWc.rE hmix [.sd b54, .sd b56] ?_
        refine AWc.rE hmix [] ?_
        exact ⟨((y24_1 ++ ([91] : List UInt8)), (y24_2 ++ ([93] : List UInt8)), (IntKind.i64.wrap (y24_3 + (1 : Int)))), h24, (inT [] [])⟩
    · refine AWc.cF c33 ?_
      cases h24
      dsimp only at h
      refine AWc.exit ?_
      refine inBlk_eq ?_
      exact ⟨(y24_1, y24_2), h, (inT [] [])⟩
  · rintro ⟨j64_1, j64_2⟩ h
    dsimp only at h ⊢
    unfold f412_j64 at h
    refine AWc.seq ?_
    obtain ⟨b68, h⟩ := gd_some h
    obtain ⟨b70, h⟩ := gd_some h
    obtain ⟨r71, e71, h⟩ := bind_some h
    refine AWc.rE hmix [.sd b68, .sd b70, .call (F396 hmix hc.2.1 e71) [] 0] ?_
    refine AWc.seq ?_
    refine AWc.rE hmix [] ?_
    refine AWc.seqS (N := 77) 0 (fun (z : Int) => [(0, (.d (.int .i64 (IntKind.i64.wrap ((1 : Int) + (IntKind.i64.wrap (Int.tmod (IntKind.u64.wrap a0) (70 : Int)))))))), (9, (.d (.int .i64 r71.1))), (10, (.d (.int .i64 z)))]) (fun z => []) (fun z => f412_j125 k a0 r71 z = some r) rfl_le ?_ ?_
    · refine AWc.seq ?_
      refine AWc.rE hmix [] ?_
      obtain ⟨o89, h89, h⟩ := bind_some h
      refine AWc.block ?_
      refine AWc.loopK (N := 77) 1 (fun (x : (Int × Int × (List UInt8) × (List (RT 4)) × (List (List UInt8)))) => [(0, (.d (.int .i64 (IntKind.i64.wrap ((1 : Int) + (IntKind.i64.wrap (Int.tmod (IntKind.u64.wrap a0) (70 : Int)))))))), (9, (.d (.int .i64 r71.1))), (10, (.d (.int .i64 x.1))), (11, (.ptr 0 0))]) (fun x => [(0, (.cells [(.d (.int .i64 x.2.1)), (.d (.str x.2.2.1)), (.d (.sl (List.map (rtE (z := 4)) x.2.2.2.1))), (.d (.sl (List.map D.str x.2.2.2.2)))]))]) (fun k x => f412_l89 k x.1 x.2.1 x.2.2.1 x.2.2.2.1 x.2.2.2.2 = some o89) k ((0 : Int), r71.2.1, r71.2.2.1, r71.2.2.2.1, r71.2.2.2.2) rfl_le (fun x hx => by cases hx) h89 (inT [(0, 1)] []) ?_
      clear h89
      intro k
      rintro ⟨y89_1, y89_2, y89_3, y89_4, y89_5⟩ h89
      dsimp only at h89 ⊢
      rw [f412_l89] at h89
      refine AWc.seq ?_
      refine AWc.seq ?_
      refine AWc.rE hmix [.ln (rtE (z := 4)) y89_4] ?_
      rcases cc h89 with ⟨c99, h89⟩ | ⟨c99, h89⟩
      · refine AWc.cT c99 ?_
        refine AWc.skip ?_
        refine AWc.seq ?_
        refine AWc.block ?_
        refine AWc.rE hmix [] ?_
        refine AWc.seq ?_
        refine AWc.seq ?_
        refine AWc.rE hmix [] ?_
        refine AWc.rE hmix [] ?_
        obtain ⟨b122, h89⟩ := gd_some h89
        obtain ⟨rx122, ex122, h89⟩ := bind_some h89
        refine AWc.rE hmix [.iadE (rtE (z := 4)) y89_4 4 rtE_ok.len b122 (TJson.dec_eq ex122)] ?_
        exact ⟨((IntKind.i64.wrap (y89_1 + (1 : Int))), rx122.fKind, rx122.fText, rx122.fL, rx122.fKeys), h89, (inT [(0, 1)] [])⟩
      · refine AWc.cF c99 ?_
        cases h89
        dsimp only at h
        refine AWc.exit ?_
        refine inBlk_eq ?_
        exact ⟨y89_1, h, (inT [] [])⟩
    · intro j125_1 h
      unfold f412_j125 at h
      refine AWc.seq ?_
      obtain ⟨r128, e128, h⟩ := bind_some h
      rcases cc h with ⟨c129, h⟩ | ⟨c129, h⟩
      · rcases cc h with ⟨c132, h⟩ | ⟨c132, h⟩
        · rcases cc h with ⟨c136, h⟩ | ⟨c136, h⟩
          · rcases cc h with ⟨c141, h⟩ | ⟨c141, h⟩
            · refine AWc.rE hmix [.call (F395 hmix hc.2.2 e128) [] 0, .br c129, .br c132, .br c136, .br c141] ?_
              have hr := Option.some.inj h
              subst hr
              exact AWc.ret (canQ (N := 77) (k := 0) (l' := [(4, (.d (.bool true)))]) (H' := []) rfl (inT [] []) (doneA (.inr rfl) rfl ⟨trivial, trivial⟩ (.refl _) hasNil))
            · rcases cc h with ⟨c144, h⟩ | ⟨c144, h⟩
              · rcases cc h with ⟨c148, h⟩ | ⟨c148, h⟩
                · refine AWc.rE hmix [.call (F395 hmix hc.2.2 e128) [] 0, .br c129, .br c132, .br c136, .br c141, .br c144, .br c148] ?_
                  have hr := Option.some.inj h
                  subst hr
                  exact AWc.ret (canQ (N := 77) (k := 0) (l' := [(4, (.d (.bool (decide (j125_1 = (0 : Int))))))]) (H' := []) rfl (inT [] []) (doneA (.inr rfl) rfl ⟨trivial, trivial⟩ (.refl _) hasNil))
                · refine AWc.rE hmix [.call (F395 hmix hc.2.2 e128) [] 0, .br c129, .br c132, .br c136, .br c141, .br c144, .br c148] ?_
                  have hr := Option.some.inj h
                  subst hr
                  exact AWc.ret (canQ (N := 77) (k := 0) (l' := [(4, (.d (.bool false)))]) (H' := []) rfl (inT [] []) (doneA (.inr rfl) rfl ⟨trivial, trivial⟩ (.refl _) hasNil))
              · refine AWc.rE hmix [.call (F395 hmix hc.2.2 e128) [] 0, .br c129, .br c132, .br c136, .br c141, .br c144, .br (rfl : false = false)] ?_
                have hr := Option.some.inj h
                subst hr
                exact AWc.ret (canQ (N := 77) (k := 0) (l' := [(4, (.d (.bool false)))]) (H' := []) rfl (inT [] []) (doneA (.inr rfl) rfl ⟨trivial, trivial⟩ (.refl _) hasNil))
          · rcases cc h with ⟨c144, h⟩ | ⟨c144, h⟩
            · rcases cc h with ⟨c148, h⟩ | ⟨c148, h⟩
              · refine AWc.rE hmix [.call (F395 hmix hc.2.2 e128) [] 0, .br c129, .br c132, .br c136, .br (rfl : false = false), .br c144, .br c148] ?_
                have hr := Option.some.inj h
                subst hr
                exact AWc.ret (canQ (N := 77) (k := 0) (l' := [(4, (.d (.bool (decide (j125_1 = (0 : Int))))))]) (H' := []) rfl (inT [] []) (doneA (.inr rfl) rfl ⟨trivial, trivial⟩ (.refl _) hasNil))
              · refine AWc.rE hmix [.call (F395 hmix hc.2.2 e128) [] 0, .br c129, .br c132, .br c136, .br (rfl : false = false), .br c144, .br c148] ?_
                have hr := Option.some.inj h
                subst hr
                exact AWc.ret (canQ (N := 77) (k := 0) (l' := [(4, (.d (.bool false)))]) (H' := []) rfl (inT [] []) (doneA (.inr rfl) rfl ⟨trivial, trivial⟩ (.refl _) hasNil))
            · refine AWc.rE hmix [.call (F395 hmix hc.2.2 e128) [] 0, .br c129, .br c132, .br c136, .br (rfl : false = false), .br c144, .br (rfl : false = false)] ?_
              have hr := Option.some.inj h
              subst hr
              exact AWc.ret (canQ (N := 77) (k := 0) (l' := [(4, (.d (.bool false)))]) (H' := []) rfl (inT [] []) (doneA (.inr rfl) rfl ⟨trivial, trivial⟩ (.refl _) hasNil))
        · rcases cc h with ⟨c144, h⟩ | ⟨c144, h⟩
          · rcases cc h with ⟨c148, h⟩ | ⟨c148, h⟩
            · refine AWc.rE hmix [.call (F395 hmix hc.2.2 e128) [] 0, .br c129, .br c132, .br (rfl : false = false), .br (rfl : false = false), .br c144, .br c148] ?_
              have hr := Option.some.inj h
              subst hr
              exact AWc.ret (canQ (N := 77) (k := 0) (l' := [(4, (.d (.bool (decide (j125_1 = (0 : Int))))))]) (H' := []) rfl (inT [] []) (doneA (.inr rfl) rfl ⟨trivial, trivial⟩ (.refl _) hasNil))
            · refine AWc.rE hmix [.call (F395 hmix hc.2.2 e128) [] 0, .br c129, .br c132, .br (rfl : false = false), .br (rfl : false = false), .br c144, .br c148] ?_
              have hr := Option.some.inj h
              subst hr
              exact AWc.ret (canQ (N := 77) (k := 0) (l' := [(4, (.d (.bool false)))]) (H' := []) rfl (inT [] []) (doneA (.inr rfl) rfl ⟨trivial, trivial⟩ (.refl _) hasNil))
          · refine AWc.rE hmix [.call (F395 hmix hc.2.2 e128) [] 0, .br c129, .br c132, .br (rfl : false = false), .br (rfl : false = false), .br c144, .br (rfl : false = false)] ?_
            have hr := Option.some.inj h
            subst hr
            exact AWc.ret (canQ (N := 77) (k := 0) (l' := [(4, (.d (.bool false)))]) (H' := []) rfl (inT [] []) (doneA (.inr rfl) rfl ⟨trivial, trivial⟩ (.refl _) hasNil))
      · refine AWc.rE hmix [.call (F395 hmix hc.2.2 e128) [] 0, .br c129] ?_
        have hr := Option.some.inj h
        subst hr
        exact AWc.ret (canQ (N := 77) (k := 0) (l' := [(4, (.d (.bool false)))]) (H' := []) rfl (inT [] []) (doneA (.inr rfl) rfl ⟨trivial, trivial⟩ (.refl _) hasNil))
end Go.Proofs.Abs
