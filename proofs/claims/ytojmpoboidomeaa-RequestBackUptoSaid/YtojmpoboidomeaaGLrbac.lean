/- Written by gen.py: functions of the program as Lean functions, and that the code comes to them. -/
import Derived.Test.YtojmpoboidomeaaGLrbab
set_option linter.unusedVariables false
set_option linter.unusedSimpArgs false
set_option maxRecDepth 100000
set_option maxHeartbeats 4000000
namespace Go.Proofs.Abs
open Go
/-- courant/courantlaw27.RequestBack -/
def C17 (N : Nat → Nat) : AFunc := { n := 160, params := 4, res := [.tmp 8], body :=
 (.seq (.region false [⟨(some 4), .box (.t 0), none, []⟩,
   ⟨(some 5), .box (.t 1), none, []⟩,
   ⟨(some 8), .mv (.k (.d (.bool false))), none, []⟩])
  (.seq (.seq (.region false [⟨(some 22), .faddr (.t 4) 10, none, []⟩,
     ⟨(some 23), .load (.t 22) 1 false, none, [0]⟩,
     ⟨(some 24), .len (.t 23), none, [1]⟩,
     ⟨(some 25), .faddr (.t 4) 1, none, []⟩,
     ⟨(some 26), .load (.t 25) 1 false, none, [3]⟩,
     ⟨(some 27), .slen (.t 26), none, [4]⟩,
     ⟨(some 28), .bin .add (.t 24) (.t 27), none, [2, 5]⟩,
     ⟨(some 29), .faddr (.t 4) 2, none, []⟩,
     ⟨(some 30), .load (.t 29) 1 false, none, [7]⟩,
     ⟨(some 31), .slen (.t 30), none, [8]⟩,
     ⟨(some 32), .bin .add (.t 28) (.t 31), none, [6, 9]⟩,
     ⟨(some 33), .faddr (.t 4) 3, none, []⟩,
     ⟨(some 34), .load (.t 33) 1 false, none, [11]⟩,
     ⟨(some 35), .slen (.t 34), none, [12]⟩,
     ⟨(some 36), .bin .add (.t 32) (.t 35), none, [10, 13]⟩,
     ⟨(some 37), .bin .gtr (.t 36) (.k (.d (.int .i64 15000))), none, [14]⟩,
     ⟨(some 38), .mv (.t 37), none, [15]⟩,
     ⟨(some 39), .mv (.t 2), (some (38, false)), [16]⟩,
     ⟨(some 40), .len (.t 39), (some (38, false)), [17, 16]⟩,
     ⟨(some 41), .bin .gtr (.t 40) (.k (.d (.int .i64 10000))), (some (38, false)), [18, 16]⟩,
     ⟨(some 42), .pick (.t 38) (.k (.d (.bool true))) (.t 41), none, [16, 19]⟩,
     ⟨(some 43), .mv (.t 42), none, [20, 16]⟩,
     ⟨(some 44), .faddr (.t 5) 5, (some (43, false)), [21]⟩,
     ⟨(some 45), .load (.t 44) 1 false, (some (43, false)), [22, 21]⟩,
     ⟨(some 46), .len (.t 45), (some (43, false)), [23, 21]⟩,
     ⟨(some 47), .bin .gtr (.t 46) (.k (.d (.int .i64 50))), (some (43, false)), [24, 21]⟩,
     ⟨(some 48), .pick (.t 43) (.k (.d (.bool true))) (.t 47), none, [21, 25]⟩,
     ⟨(some 49), .mv (.t 48), none, [26, 21]⟩,
     ⟨(some 50), .faddr (.t 5) 4, (some (49, false)), [27]⟩,
     ⟨(some 51), .load (.t 50) 1 false, (some (49, false)), [28, 27]⟩,
     ⟨(some 52), .slen (.t 51), (some (49, false)), [29, 27]⟩,
     ⟨(some 53), .bin .gtr (.t 52) (.k (.d (.int .i64 10000))), (some (49, false)), [30, 27]⟩,
     ⟨(some 54), .pick (.t 49) (.k (.d (.bool true))) (.t 53), none, [27, 31]⟩])
    (.cond (.t 54) (.seq (.region false [⟨(some 55), .call (.k (.d (.fn (N 56)))) [], none, []⟩,
       ⟨(some 8), .mv (.t 55), none, [0]⟩])
      .ret)
     (.skip)))
   (.seq (.seq (.region false [⟨(some 9), .mv (.k (.d (.int .i64 0))), none, []⟩])
     (.block 0 (.loop (.seq (.seq (.region false [⟨(some 56), .mv (.t 9), none, []⟩,
          ⟨(some 57), .faddr (.t 5) 5, none, []⟩,
          ⟨(some 58), .load (.t 57) 1 false, none, [1]⟩,
          ⟨(some 59), .len (.t 58), none, [2]⟩,
          ⟨(some 60), .bin .lss (.t 56) (.t 59), none, [0, 3]⟩])
         (.cond (.t 60) (.skip)
          (.exit 0)))
        (.seq (.block 1 (.seq (.region false [⟨(some 63), .faddr (.t 5) 5, none, []⟩,
            ⟨(some 64), .load (.t 63) 1 false, none, [0]⟩,
            ⟨(some 65), .mv (.t 9), none, []⟩,
            ⟨(some 66), .iaddr (.t 64) (.t 65) 5, none, [1, 2]⟩,
            ⟨(some 67), .faddr (.t 66) 4, none, [3]⟩,
            ⟨(some 68), .load (.t 67) 1 false, none, [4]⟩,
            ⟨(some 69), .len (.t 68), none, [5]⟩,
            ⟨(some 70), .bin .gtr (.t 69) (.k (.d (.int .i64 500))), none, [6]⟩])
           (.cond (.t 70) (.seq (.region false [⟨(some 71), .call (.k (.d (.fn (N 56)))) [], none, []⟩,
              ⟨(some 8), .mv (.t 71), none, [0]⟩])
             .ret)
            (.skip))))
         (.region false [⟨(some 61), .mv (.t 9), none, []⟩,
          ⟨(some 62), .bin .add (.t 61) (.k (.d (.int .i64 1))), none, [0]⟩,
          ⟨(some 9), .mv (.t 62), none, [1, 0]⟩]))))))
    (.seq (.region false [⟨(some 73), .load (.t 4) 11 true, none, []⟩,
      ⟨(some 74), .call (.k (.d (.fn (N 59)))) [(.t 73)], none, [0]⟩,
      ⟨(some 75), .call (.k (.d (.fn (N 57)))) [(.t 74)], none, [1]⟩,
      ⟨(some 72), .mv (.t 75), none, [2]⟩,
      ⟨(some 76), .ext (.t 72) 0, none, [3]⟩,
      ⟨(some 77), .ext (.t 72) 1, none, [3]⟩,
      ⟨(some 10), .alloc [(.int .i64 0), (.str []), (.str []), (.str []), (.int .i64 0), (.int .i64 0), (.int .u64 0), (.int .u64 0), (.int .u64 0), (.int .i64 0), (.sl [])], none, []⟩,
      ⟨none, .store (.t 10) (.t 76) 11, none, [6, 4, 2, 0, 1, 3]⟩,
      ⟨(some 11), .mv (.t 77), none, [5, 7, 0, 1, 2, 3, 4, 6]⟩])
     (.seq (.region false [⟨(some 79), .load (.t 4) 11 true, none, []⟩,
       ⟨(some 80), .call (.k (.d (.fn (N 59)))) [(.t 79)], none, [0]⟩,
       ⟨(some 81), .mv (.t 3), none, []⟩,
       ⟨(some 82), .bslice 1 1 [(.int .u8 0)] [(0, (.t 81))], none, [2]⟩,
       ⟨(some 83), .app (.t 80) (.t 82) 1 1 [(.int .u8 0)], none, [1, 3]⟩,
       ⟨(some 84), .call (.k (.d (.fn (N 57)))) [(.t 83)], none, [4]⟩,
       ⟨(some 78), .mv (.t 84), none, [5]⟩,
       ⟨(some 85), .ext (.t 78) 0, none, [6]⟩,
       ⟨(some 86), .ext (.t 78) 1, none, [6]⟩,
       ⟨(some 12), .alloc [(.int .i64 0), (.str []), (.str []), (.str []), (.int .i64 0), (.int .i64 0), (.int .u64 0), (.int .u64 0), (.int .u64 0), (.int .i64 0), (.sl [])], none, []⟩,
       ⟨none, .store (.t 12) (.t 85) 11, none, [9, 7, 5, 0, 1, 2, 3, 4, 6]⟩,
       ⟨(some 13), .mv (.t 86), none, [8, 10, 0, 1, 2, 3, 4, 5, 6, 7, 9]⟩])
      (.seq (.region false [⟨(some 88), .load (.t 5) 6 true, none, []⟩,
        ⟨(some 89), .call (.k (.d (.fn (N 65)))) [(.t 88)], none, [0]⟩,
        ⟨(some 90), .call (.k (.d (.fn (N 63)))) [(.t 89)], none, [1]⟩,
        ⟨(some 87), .mv (.t 90), none, [2]⟩,
        ⟨(some 91), .ext (.t 87) 0, none, [3]⟩,
        ⟨(some 92), .ext (.t 87) 1, none, [3]⟩,
        ⟨(some 14), .alloc [(.int .i64 0), (.int .i64 0), (.int .i64 0), (.int .u64 0), (.str []), (.sl [])], none, []⟩,
        ⟨none, .store (.t 14) (.t 91) 6, none, [6, 4, 2, 0, 1, 3]⟩,
        ⟨(some 15), .mv (.t 92), none, [5, 7, 0, 1, 2, 3, 4, 6]⟩])
       (.seq (.region false [⟨(some 94), .load (.t 5) 6 true, none, []⟩,
         ⟨(some 95), .call (.k (.d (.fn (N 65)))) [(.t 94)], none, [0]⟩,
         ⟨(some 96), .mv (.t 3), none, []⟩,
         ⟨(some 97), .bslice 1 1 [(.int .u8 0)] [(0, (.t 96))], none, [2]⟩,
         ⟨(some 98), .app (.t 95) (.t 97) 1 1 [(.int .u8 0)], none, [1, 3]⟩,
         ⟨(some 99), .call (.k (.d (.fn (N 63)))) [(.t 98)], none, [4]⟩,
         ⟨(some 93), .mv (.t 99), none, [5]⟩,
         ⟨(some 100), .ext (.t 93) 0, none, [6]⟩,
         ⟨(some 101), .ext (.t 93) 1, none, [6]⟩,
         ⟨(some 16), .alloc [(.int .i64 0), (.int .i64 0), (.int .i64 0), (.int .u64 0), (.str []), (.sl [])], none, []⟩,
         ⟨none, .store (.t 16) (.t 100) 6, none, [9, 7, 5, 0, 1, 2, 3, 4, 6]⟩,
         ⟨(some 17), .mv (.t 101), none, [8, 10, 0, 1, 2, 3, 4, 5, 6, 7, 9]⟩])
        (.seq (.seq (.region false [⟨(some 102), .call (.k (.d (.fn (N 56)))) [], none, []⟩,
           ⟨(some 103), .un .not (.t 102), none, [0]⟩,
           ⟨(some 104), .mv (.t 103), none, [1, 0]⟩,
           ⟨(some 105), .mv (.t 11), (some (104, false)), [2]⟩,
           ⟨(some 106), .bin .neq (.t 105) (.k (.d (.int .i64 0))), (some (104, false)), [3, 2]⟩,
           ⟨(some 107), .pick (.t 104) (.k (.d (.bool true))) (.t 106), none, [2, 4]⟩,
           ⟨(some 108), .mv (.t 107), none, [5, 2]⟩,
           ⟨(some 109), .load (.t 10) 11 true, (some (108, false)), [6]⟩,
           ⟨(some 110), .load (.t 4) 11 true, (some (108, false)), [6]⟩,
           ⟨(some 111), .call (.k (.d (.fn (N 61)))) [(.t 109), (.t 110)], (some (108, false)), [7, 8, 6]⟩,
           ⟨(some 112), .un .not (.t 111), (some (108, false)), [9, 6]⟩,
           ⟨(some 113), .pick (.t 108) (.k (.d (.bool true))) (.t 112), none, [6, 10]⟩,
           ⟨(some 114), .mv (.t 113), none, [11, 9]⟩,
           ⟨(some 115), .mv (.t 13), (some (114, false)), [12]⟩,
           ⟨(some 116), .bin .neq (.t 115) (.k (.d (.int .i64 4))), (some (114, false)), [13, 12]⟩,
           ⟨(some 117), .pick (.t 114) (.k (.d (.bool true))) (.t 116), none, [12, 14]⟩,
           ⟨(some 118), .mv (.t 117), none, [15, 12]⟩,
           ⟨(some 119), .mv (.t 15), (some (118, false)), [16]⟩,
           ⟨(some 120), .bin .neq (.t 119) (.k (.d (.int .i64 0))), (some (118, false)), [17, 16]⟩,
           ⟨(some 121), .pick (.t 118) (.k (.d (.bool true))) (.t 120), none, [16, 18]⟩,
           ⟨(some 122), .mv (.t 121), none, [19, 16]⟩,
           ⟨(some 123), .load (.t 14) 6 true, (some (122, false)), [20]⟩,
           ⟨(some 124), .load (.t 5) 6 true, (some (122, false)), [20]⟩,
           ⟨(some 125), .call (.k (.d (.fn (N 67)))) [(.t 123), (.t 124)], (some (122, false)), [21, 22, 20]⟩,
           ⟨(some 126), .un .not (.t 125), (some (122, false)), [23, 20]⟩,
           ⟨(some 127), .pick (.t 122) (.k (.d (.bool true))) (.t 126), none, [20, 24]⟩,
           ⟨(some 128), .mv (.t 127), none, [25, 23]⟩,
           ⟨(some 129), .mv (.t 17), (some (128, false)), [26]⟩,
           ⟨(some 130), .bin .neq (.t 129) (.k (.d (.int .i64 4))), (some (128, false)), [27, 26]⟩,
           ⟨(some 131), .pick (.t 128) (.k (.d (.bool true))) (.t 130), none, [26, 28]⟩])
          (.cond (.t 131) (.seq (.region false [⟨(some 8), .mv (.k (.d (.bool false))), none, []⟩])
            .ret)
           (.skip)))
         (.seq (.region false [⟨(some 133), .mv (.t 2), none, []⟩,
           ⟨(some 134), .call (.k (.d (.fn (N 57)))) [(.t 133)], none, [0]⟩,
           ⟨(some 132), .mv (.t 134), none, [1]⟩,
           ⟨(some 135), .ext (.t 132) 0, none, [2]⟩,
           ⟨(some 136), .ext (.t 132) 1, none, [2]⟩,
           ⟨(some 18), .alloc [(.int .i64 0), (.str []), (.str []), (.str []), (.int .i64 0), (.int .i64 0), (.int .u64 0), (.int .u64 0), (.int .u64 0), (.int .i64 0), (.sl [])], none, []⟩,
           ⟨none, .store (.t 18) (.t 135) 11, none, [5, 3, 1, 0, 2]⟩,
           ⟨(some 19), .mv (.t 136), none, [4, 6, 0, 1, 2, 3, 5]⟩])
          (.seq (.region false [⟨(some 138), .mv (.t 2), none, []⟩,
            ⟨(some 139), .call (.k (.d (.fn (N 63)))) [(.t 138)], none, [0]⟩,
            ⟨(some 137), .mv (.t 139), none, [1]⟩,
            ⟨(some 140), .ext (.t 137) 0, none, [2]⟩,
            ⟨(some 141), .ext (.t 137) 1, none, [2]⟩,
            ⟨(some 20), .alloc [(.int .i64 0), (.int .i64 0), (.int .i64 0), (.int .u64 0), (.str []), (.sl [])], none, []⟩,
            ⟨none, .store (.t 20) (.t 140) 6, none, [5, 3, 1, 0, 2]⟩,
            ⟨(some 21), .mv (.t 141), none, [4, 6, 0, 1, 2, 3, 5]⟩])
           (.seq (.region false [⟨(some 142), .mv (.t 19), none, []⟩,
             ⟨(some 143), .bin .neq (.t 142) (.k (.d (.int .i64 0))), none, [0]⟩,
             ⟨(some 144), .mv (.t 143), none, [1]⟩,
             ⟨(some 145), .load (.t 18) 11 true, (some (144, false)), [2]⟩,
             ⟨(some 146), .call (.k (.d (.fn (N 59)))) [(.t 145)], (some (144, false)), [3, 2]⟩,
             ⟨(some 147), .mv (.t 2), (some (144, false)), [2]⟩,
             ⟨(some 148), .call (.k (.d (.fn (N 22)))) [(.t 146), (.t 147)], (some (144, false)), [4, 5, 2]⟩,
             ⟨(some 149), .pick (.t 144) (.k (.d (.bool true))) (.t 148), none, [2, 6]⟩,
             ⟨(some 150), .mv (.t 149), none, [7, 6]⟩,
             ⟨(some 151), .mv (.t 21), (some (150, true)), [8]⟩,
             ⟨(some 152), .bin .neq (.t 151) (.k (.d (.int .i64 0))), (some (150, true)), [9, 8]⟩,
             ⟨(some 153), .mv (.t 152), (some (150, true)), [10, 8]⟩,
             ⟨(some 154), .load (.t 20) 6 true, (some (153, false)), [11]⟩,
             ⟨(some 155), .call (.k (.d (.fn (N 65)))) [(.t 154)], (some (153, false)), [12, 11]⟩,
             ⟨(some 156), .mv (.t 2), (some (153, false)), [11]⟩,
             ⟨(some 157), .call (.k (.d (.fn (N 22)))) [(.t 155), (.t 156)], (some (153, false)), [13, 14, 11]⟩,
             ⟨(some 158), .pick (.t 153) (.k (.d (.bool true))) (.t 157), (some (150, true)), [11, 15, 8]⟩,
             ⟨(some 159), .pick (.t 150) (.t 158) (.k (.d (.bool false))), none, [8, 16]⟩,
             ⟨(some 8), .mv (.t 159), none, [17, 15, 0, 1, 2, 3, 4, 5, 6, 7, 8, 9, 10, 11, 12, 13, 14, 16]⟩])
            .ret))))))))))) }
def HC17 (P : Program) (N : Nat → Nat) : Prop := HasF P (N 17) (C17 N) ∧ HC56 P N ∧ HC59 P N ∧ HC57 P N ∧ HC65 P N ∧ HC63 P N ∧ HC61 P N ∧ HC67 P N ∧ HC22 P N
def f17_j97 (k : Nat) (a0 : TRequest) (a3 : UInt8) (a1 : TReply) (a2 : (List UInt8)) : Option Bool := (f59 k (TRequest.mk a0.fKind a0.fName a0.fText a0.fGroup a0.fN a0.fVersion a0.fProducer a0.fSeq a0.fOffset a0.fMost a0.fData)).bind fun r101 => (f57 k r101).bind fun r102 => (f59 k (TRequest.mk a0.fKind a0.fName a0.fText a0.fGroup a0.fN a0.fVersion a0.fProducer a0.fSeq a0.fOffset a0.fMost a0.fData)).bind fun r113 => gd ((r113.length + ([a3] : List UInt8).length) * 2 * 1 ≤ 281474976710656) ((f57 k (r113 ++ ([a3] : List UInt8))).bind fun r117 => (f65 k (TReply.mk a1.fErr a1.fN a1.fID a1.fOffset a1.fText a1.fMessages)).bind fun r128 => (f63 k r128).bind fun r129 => (f65 k (TReply.mk a1.fErr a1.fN a1.fID a1.fOffset a1.fText a1.fMessages)).bind fun r140 => gd ((r140.length + ([a3] : List UInt8).length) * 2 * 1 ≤ 281474976710656) ((f63 k (r140 ++ ([a3] : List UInt8))).bind fun r144 => (f56 k).bind fun r155 => cond (!r155) (some false) (cond (decide (r102.1 ≠ (0 : Int))) (some false) ((f61 k (TRequest.mk r102.2.1 r102.2.2.1 r102.2.2.2.1 r102.2.2.2.2.1 r102.2.2.2.2.2.1 r102.2.2.2.2.2.2.1 r102.2.2.2.2.2.2.2.1 r102.2.2.2.2.2.2.2.2.1 r102.2.2.2.2.2.2.2.2.2.1 r102.2.2.2.2.2.2.2.2.2.2.1 r102.2.2.2.2.2.2.2.2.2.2.2) (TRequest.mk a0.fKind a0.fName a0.fText a0.fGroup a0.fN a0.fVersion a0.fProducer a0.fSeq a0.fOffset a0.fMost a0.fData)).bind fun r164 => cond (!r164) (some false) (cond (decide (r117.1 ≠ (4 : Int))) (some false) (cond (decide (r129.1 ≠ (0 : Int))) (some false) ((f67 k (TReply.mk r129.2.1 r129.2.2.1 r129.2.2.2.1 r129.2.2.2.2.1 r129.2.2.2.2.2.1 r129.2.2.2.2.2.2) (TReply.mk a1.fErr a1.fN a1.fID a1.fOffset a1.fText a1.fMessages)).bind fun r178 => cond (!r178) (some false) (cond (decide (r144.1 ≠ (4 : Int))) (some false) ((f57 k a2).bind fun r196 => (f63 k a2).bind fun r207 => cond (decide (r196.1 ≠ (0 : Int))) (cond (decide (r207.1 ≠ (0 : Int))) (some true) ((f65 k (TReply.mk r207.2.1 r207.2.2.1 r207.2.2.2.1 r207.2.2.2.2.1 r207.2.2.2.2.2.1 r207.2.2.2.2.2.2)).bind fun r230 => (f22 k r230 a2).bind fun r232 => some (decide (r230 = a2)))) ((f59 k (TRequest.mk r196.2.1 r196.2.2.1 r196.2.2.2.1 r196.2.2.2.2.1 r196.2.2.2.2.2.1 r196.2.2.2.2.2.2.1 r196.2.2.2.2.2.2.2.1 r196.2.2.2.2.2.2.2.2.1 r196.2.2.2.2.2.2.2.2.2.1 r196.2.2.2.2.2.2.2.2.2.2.1 r196.2.2.2.2.2.2.2.2.2.2.2)).bind fun r221 => (f22 k r221 a2).bind fun r223 => cond (decide (r221 = a2)) (cond (decide (r207.1 ≠ (0 : Int))) (some true) ((f65 k (TReply.mk r207.2.1 r207.2.2.1 r207.2.2.2.1 r207.2.2.2.2.1 r207.2.2.2.2.2.1 r207.2.2.2.2.2.2)).bind fun r230 => (f22 k r230 a2).bind fun r232 => some (decide (r230 = a2)))) (some false)))))))))))
def f17_l57 (a1 : TReply) : Nat → Int → Option (LR2 Unit Unit Bool)
  | 0, _ => none
  | k + 1, y57_1 => cond (decide (y57_1 < ((a1.fMessages.length : Nat) : Int))) (gd (0 ≤ y57_1 ∧ y57_1 < ((a1.fMessages.length : Nat) : Int)) (cond (decide (((((rd a1.fMessages y57_1).fData).length : Nat) : Int) > (500 : Int))) ((f56 k).bind fun r88 => some (.r r88)) (f17_l57 a1 k (IntKind.i64.wrap (y57_1 + (1 : Int)))))) (some (.b0 ()))
def f17 (k : Nat) (a0 : TRequest) (a1 : TReply) (a2 : (List UInt8)) (a3 : UInt8) : Option Bool := cond (decide ((IntKind.i64.wrap ((IntKind.i64.wrap ((IntKind.i64.wrap (((a0.fData.length : Nat) : Int) + ((a0.fName.length : Nat) : Int))) + ((a0.fText.length : Nat) : Int))) + ((a0.fGroup.length : Nat) : Int))) > (15000 : Int))) ((f56 k).bind fun r48 => some r48) (cond (decide (((a2.length : Nat) : Int) > (10000 : Int))) ((f56 k).bind fun r48 => some r48) (cond (decide (((a1.fMessages.length : Nat) : Int) > (50 : Int))) ((f56 k).bind fun r48 => some r48) (cond (decide (((a1.fText.length : Nat) : Int) > (10000 : Int))) ((f56 k).bind fun r48 => some r48) ((f17_l57 a1 k (0 : Int)).bind fun o57 => match o57 with | .b0 () => f17_j97 k a0 a3 a1 a2 | .r x => some x | _ => none))))
theorem F17 {P : Program} {N : Nat → Nat} (hmix : P.follows .mixedOrders = true) (hc : HC17 P N) {k : Nat} {a0 : TRequest} {a1 : TReply} {a2 : (List UInt8)} {a3 : UInt8} {r : Bool} (h : f17 k a0 a1 a2 a3 = some r) :
    ACalls P (N 17) [(.d (TRequest.enc a0)), (.d (TReply.enc a1)), (.d (.sl (List.map byteD a2))), (.d (.int .u8 ((a3.toNat : Nat) : Int)))] [] (.d (.bool r)) [] := by
  refine acalls_canon (F := C17 N) hc.1 0 0 rfl ?_
  unfold f17 at h
  dsimp only [C17, startL]
  refine AWc.seq ?_
  refine AWc.rg hmix rfl rfl ?_
  refine RegV.evS (own := false) (v := (.ptr 0 0)) (H' := [(0, (.cells [(.d (.int .i64 a0.fKind)), (.d (.str a0.fName)), (.d (.str a0.fText)), (.d (.str a0.fGroup)), (.d (.int .i64 a0.fN)), (.d (.int .i64 a0.fVersion)), (.d (.int .u64 a0.fProducer)), (.d (.int .u64 a0.fSeq)), (.d (.int .u64 a0.fOffset)), (.d (.int .i64 a0.fMost)), (.d (.sl (List.map byteD a0.fData)))]))]) (c' := 1) rfl rfl trivial rfl rfl rfl rfl rfl rfl ?_
  refine RegV.evS (own := false) (v := (.ptr 1 0)) (H' := [(1, (.cells [(.d (.int .i64 a1.fErr)), (.d (.int .i64 a1.fN)), (.d (.int .i64 a1.fID)), (.d (.int .u64 a1.fOffset)), (.d (.str a1.fText)), (.d (.sl (List.map TMessage.enc a1.fMessages)))])), (0, (.cells [(.d (.int .i64 a0.fKind)), (.d (.str a0.fName)), (.d (.str a0.fText)), (.d (.str a0.fGroup)), (.d (.int .i64 a0.fN)), (.d (.int .i64 a0.fVersion)), (.d (.int .u64 a0.fProducer)), (.d (.int .u64 a0.fSeq)), (.d (.int .u64 a0.fOffset)), (.d (.int .i64 a0.fMost)), (.d (.sl (List.map byteD a0.fData)))]))]) (c' := 2) rfl rfl trivial rfl rfl rfl rfl rfl rfl ?_
  refine RegV.p0 rfl rfl rfl ?_
  refine RegV.nil0 ?_
  refine AWc.seq ?_
  refine AWc.seq ?_
  refine AWc.rg hmix rfl rfl ?_
  refine RegV.p0 (v := (.ptr 0 10)) rfl rfl rfl ?_
  refine RegV.ld (v := (.d (.sl (List.map byteD a0.fData)))) (H' := [(0, (.cells [(.d (.int .i64 a0.fKind)), (.d (.str a0.fName)), (.d (.str a0.fText)), (.d (.str a0.fGroup)), (.d (.int .i64 a0.fN)), (.d (.int .i64 a0.fVersion)), (.d (.int .u64 a0.fProducer)), (.d (.int .u64 a0.fSeq)), (.d (.int .u64 a0.fOffset)), (.d (.int .i64 a0.fMost)), (.d (.sl (List.map byteD a0.fData)))])), (1, (.cells [(.d (.int .i64 a1.fErr)), (.d (.int .i64 a1.fN)), (.d (.int .i64 a1.fID)), (.d (.int .u64 a1.fOffset)), (.d (.str a1.fText)), (.d (.sl (List.map TMessage.enc a1.fMessages)))]))]) rfl rfl trivial rfl rfl rfl rfl rfl ?_
  refine RegV.len (xs := a0.fData) (e := byteD) rfl rfl rfl rfl ?_
  refine RegV.p0 (v := (.ptr 0 1)) rfl rfl rfl ?_
  refine RegV.ld (v := (.d (.str a0.fName))) (H' := [(0, (.cells [(.d (.int .i64 a0.fKind)), (.d (.str a0.fName)), (.d (.str a0.fText)), (.d (.str a0.fGroup)), (.d (.int .i64 a0.fN)), (.d (.int .i64 a0.fVersion)), (.d (.int .u64 a0.fProducer)), (.d (.int .u64 a0.fSeq)), (.d (.int .u64 a0.fOffset)), (.d (.int .i64 a0.fMost)), (.d (.sl (List.map byteD a0.fData)))])), (1, (.cells [(.d (.int .i64 a1.fErr)), (.d (.int .i64 a1.fN)), (.d (.int .i64 a1.fID)), (.d (.int .u64 a1.fOffset)), (.d (.str a1.fText)), (.d (.sl (List.map TMessage.enc a1.fMessages)))]))]) rfl rfl trivial rfl rfl rfl rfl rfl ?_
  refine RegV.p0 (v := (.d (.int .i64 ((a0.fName.length : Nat) : Int)))) rfl rfl rfl ?_
  refine RegV.p0 (v := (.d (.int .i64 (IntKind.i64.wrap (((a0.fData.length : Nat) : Int) + ((a0.fName.length : Nat) : Int)))))) rfl rfl rfl ?_
  refine RegV.p0 (v := (.ptr 0 2)) rfl rfl rfl ?_
  refine RegV.ld (v := (.d (.str a0.fText))) (H' := [(0, (.cells [(.d (.int .i64 a0.fKind)), (.d (.str a0.fName)), (.d (.str a0.fText)), (.d (.str a0.fGroup)), (.d (.int .i64 a0.fN)), (.d (.int .i64 a0.fVersion)), (.d (.int .u64 a0.fProducer)), (.d (.int .u64 a0.fSeq)), (.d (.int .u64 a0.fOffset)), (.d (.int .i64 a0.fMost)), (.d (.sl (List.map byteD a0.fData)))])), (1, (.cells [(.d (.int .i64 a1.fErr)), (.d (.int .i64 a1.fN)), (.d (.int .i64 a1.fID)), (.d (.int .u64 a1.fOffset)), (.d (.str a1.fText)), (.d (.sl (List.map TMessage.enc a1.fMessages)))]))]) rfl rfl trivial rfl rfl rfl rfl rfl ?_
  refine RegV.p0 (v := (.d (.int .i64 ((a0.fText.length : Nat) : Int)))) rfl rfl rfl ?_
  refine RegV.p0 (v := (.d (.int .i64 (IntKind.i64.wrap ((IntKind.i64.wrap (((a0.fData.length : Nat) : Int) + ((a0.fName.length : Nat) : Int))) + ((a0.fText.length : Nat) : Int)))))) rfl rfl rfl ?_
  refine RegV.p0 (v := (.ptr 0 3)) rfl rfl rfl ?_
  refine RegV.ld (v := (.d (.str a0.fGroup))) (H' := [(0, (.cells [(.d (.int .i64 a0.fKind)), (.d (.str a0.fName)), (.d (.str a0.fText)), (.d (.str a0.fGroup)), (.d (.int .i64 a0.fN)), (.d (.int .i64 a0.fVersion)), (.d (.int .u64 a0.fProducer)), (.d (.int .u64 a0.fSeq)), (.d (.int .u64 a0.fOffset)), (.d (.int .i64 a0.fMost)), (.d (.sl (List.map byteD a0.fData)))])), (1, (.cells [(.d (.int .i64 a1.fErr)), (.d (.int .i64 a1.fN)), (.d (.int .i64 a1.fID)), (.d (.int .u64 a1.fOffset)), (.d (.str a1.fText)), (.d (.sl (List.map TMessage.enc a1.fMessages)))]))]) rfl rfl trivial rfl rfl rfl rfl rfl ?_
  refine RegV.p0 (v := (.d (.int .i64 ((a0.fGroup.length : Nat) : Int)))) rfl rfl rfl ?_
  refine RegV.p0 (v := (.d (.int .i64 (IntKind.i64.wrap ((IntKind.i64.wrap ((IntKind.i64.wrap (((a0.fData.length : Nat) : Int) + ((a0.fName.length : Nat) : Int))) + ((a0.fText.length : Nat) : Int))) + ((a0.fGroup.length : Nat) : Int)))))) rfl rfl rfl ?_
  refine RegV.p0 (v := (.d (.bool (decide ((IntKind.i64.wrap ((IntKind.i64.wrap ((IntKind.i64.wrap (((a0.fData.length : Nat) : Int) + ((a0.fName.length : Nat) : Int))) + ((a0.fText.length : Nat) : Int))) + ((a0.fGroup.length : Nat) : Int))) > (15000 : Int)))))) rfl rfl rfl ?_
  refine RegV.p0 rfl rfl rfl ?_
  refine RegV.split (fun c27 => ?_) (fun c27 => ?_)
  · have h := cond_pos c27 h
    refine RegV.noS rfl rfl ?_
    refine RegV.noS rfl rfl ?_
    refine RegV.noS rfl rfl ?_
    refine RegV.p0 rfl rfl rfl ?_
    refine RegV.p0 rfl rfl rfl ?_
    refine RegV.noS rfl rfl ?_
    refine RegV.noS rfl rfl ?_
    refine RegV.noS rfl rfl ?_
    refine RegV.noS rfl rfl ?_
    refine RegV.p0 rfl rfl rfl ?_
    refine RegV.p0 rfl rfl rfl ?_
    refine RegV.noS rfl rfl ?_
    refine RegV.noS rfl rfl ?_
    refine RegV.noS rfl rfl ?_
    refine RegV.noS rfl rfl ?_
    refine RegV.p0 rfl rfl rfl ?_
    refine RegV.nil0 ?_
    refine AWc.cond rfl (fun _ => ?_) (fun hc => by cases hc)
    refine AWc.seq ?_
    refine AWc.rg hmix rfl rfl ?_
    obtain ⟨r48, e48, h⟩ := bind_some h
    refine RegV.call0 (F56 hmix hc.2.1 e48) rfl rfl rfl rfl .nil rfl ?_
    refine RegV.p0 rfl rfl rfl ?_
    refine RegV.nil0 ?_
    have hr := Option.some.inj h
    subst hr
    exact AWc.ret (canQ (N := 160) (k := 0) (l' := [(8, (.d (.bool r48)))]) (H' := []) rfl ⟨rfl, [], [], rfl, rfl, ⟨⟨_, rfl, (.refl _)⟩, rfl, trivial⟩,  trivial⟩ (doneA (.inr rfl) rfl ⟨trivial, trivial⟩ (.refl _) hasNil))
  · have h := cond_neg c27 h
    refine RegV.p0 rfl rfl rfl ?_
    refine RegV.len (xs := a2) (e := byteD) rfl rfl rfl rfl ?_
    refine RegV.p0 (v := (.d (.bool (decide (((a2.length : Nat) : Int) > (10000 : Int)))))) rfl rfl rfl ?_
    refine RegV.p0 rfl rfl rfl ?_
    refine RegV.p0 rfl rfl rfl ?_
    refine RegV.split (fun c32 => ?_) (fun c32 => ?_)
    · have h := cond_pos c32 h
      refine RegV.noS rfl rfl ?_
      refine RegV.noS rfl rfl ?_
      refine RegV.noS rfl rfl ?_
      refine RegV.noS rfl rfl ?_
      refine RegV.p0 rfl rfl rfl ?_
      refine RegV.p0 rfl rfl rfl ?_
      refine RegV.noS rfl rfl ?_
      refine RegV.noS rfl rfl ?_
      refine RegV.noS rfl rfl ?_
      refine RegV.noS rfl rfl ?_
      refine RegV.p0 rfl rfl rfl ?_
      refine RegV.nil0 ?_
      refine AWc.cond rfl (fun _ => ?_) (fun hc => by cases hc)
      refine AWc.seq ?_
      refine AWc.rg hmix rfl rfl ?_
      obtain ⟨r48, e48, h⟩ := bind_some h
      refine RegV.call0 (F56 hmix hc.2.1 e48) rfl rfl rfl rfl .nil rfl ?_
      refine RegV.p0 rfl rfl rfl ?_
      refine RegV.nil0 ?_
      have hr := Option.some.inj h
      subst hr
      exact AWc.ret (canQ (N := 160) (k := 0) (l' := [(8, (.d (.bool r48)))]) (H' := []) rfl ⟨rfl, [], [], rfl, rfl, ⟨⟨_, rfl, (.refl _)⟩, rfl, trivial⟩,  trivial⟩ (doneA (.inr rfl) rfl ⟨trivial, trivial⟩ (.refl _) hasNil))
    · have h := cond_neg c32 h
      refine RegV.p0 (v := (.ptr 1 5)) rfl rfl rfl ?_
      refine RegV.ld (v := (.d (.sl (List.map TMessage.enc a1.fMessages)))) (H' := [(1, (.cells [(.d (.int .i64 a1.fErr)), (.d (.int .i64 a1.fN)), (.d (.int .i64 a1.fID)), (.d (.int .u64 a1.fOffset)), (.d (.str a1.fText)), (.d (.sl (List.map TMessage.enc a1.fMessages)))])), (0, (.cells [(.d (.int .i64 a0.fKind)), (.d (.str a0.fName)), (.d (.str a0.fText)), (.d (.str a0.fGroup)), (.d (.int .i64 a0.fN)), (.d (.int .i64 a0.fVersion)), (.d (.int .u64 a0.fProducer)), (.d (.int .u64 a0.fSeq)), (.d (.int .u64 a0.fOffset)), (.d (.int .i64 a0.fMost)), (.d (.sl (List.map byteD a0.fData)))]))]) rfl rfl trivial rfl rfl rfl rfl rfl ?_
      refine RegV.len (xs := a1.fMessages) (e := TMessage.enc) rfl rfl rfl rfl ?_
      refine RegV.p0 (v := (.d (.bool (decide (((a1.fMessages.length : Nat) : Int) > (50 : Int)))))) rfl rfl rfl ?_
      refine RegV.p0 rfl rfl rfl ?_
      refine RegV.p0 rfl rfl rfl ?_
      refine RegV.split (fun c38 => ?_) (fun c38 => ?_)
      · have h := cond_pos c38 h
        refine RegV.noS rfl rfl ?_
        refine RegV.noS rfl rfl ?_
        refine RegV.noS rfl rfl ?_
        refine RegV.noS rfl rfl ?_
        refine RegV.p0 rfl rfl rfl ?_
        refine RegV.nil0 ?_
        refine AWc.cond rfl (fun _ => ?_) (fun hc => by cases hc)
        refine AWc.seq ?_
        refine AWc.rg hmix rfl rfl ?_
        obtain ⟨r48, e48, h⟩ := bind_some h
        refine RegV.call0 (F56 hmix hc.2.1 e48) rfl rfl rfl rfl .nil rfl ?_
        refine RegV.p0 rfl rfl rfl ?_
        refine RegV.nil0 ?_
        have hr := Option.some.inj h
        subst hr
        exact AWc.ret (canQ (N := 160) (k := 0) (l' := [(8, (.d (.bool r48)))]) (H' := []) rfl ⟨rfl, [], [], rfl, rfl, ⟨⟨_, rfl, (.refl _)⟩, rfl, trivial⟩,  trivial⟩ (doneA (.inr rfl) rfl ⟨trivial, trivial⟩ (.refl _) hasNil))
      · have h := cond_neg c38 h
        refine RegV.p0 (v := (.ptr 1 4)) rfl rfl rfl ?_
        refine RegV.ld (v := (.d (.str a1.fText))) (H' := [(1, (.cells [(.d (.int .i64 a1.fErr)), (.d (.int .i64 a1.fN)), (.d (.int .i64 a1.fID)), (.d (.int .u64 a1.fOffset)), (.d (.str a1.fText)), (.d (.sl (List.map TMessage.enc a1.fMessages)))])), (0, (.cells [(.d (.int .i64 a0.fKind)), (.d (.str a0.fName)), (.d (.str a0.fText)), (.d (.str a0.fGroup)), (.d (.int .i64 a0.fN)), (.d (.int .i64 a0.fVersion)), (.d (.int .u64 a0.fProducer)), (.d (.int .u64 a0.fSeq)), (.d (.int .u64 a0.fOffset)), (.d (.int .i64 a0.fMost)), (.d (.sl (List.map byteD a0.fData)))]))]) rfl rfl trivial rfl rfl rfl rfl rfl ?_
        refine RegV.p0 (v := (.d (.int .i64 ((a1.fText.length : Nat) : Int)))) rfl rfl rfl ?_
        refine RegV.p0 (v := (.d (.bool (decide (((a1.fText.length : Nat) : Int) > (10000 : Int)))))) rfl rfl rfl ?_
        refine RegV.p0 rfl rfl rfl ?_
        refine RegV.nil0 ?_
        refine AWc.cond rfl (fun c44 => ?_) (fun c44 => ?_)
        · have h := cond_pos c44 h
          refine AWc.seq ?_
          refine AWc.rg hmix rfl rfl ?_
          obtain ⟨r48, e48, h⟩ := bind_some h
          refine RegV.call0 (F56 hmix hc.2.1 e48) rfl rfl rfl rfl .nil rfl ?_
          refine RegV.p0 rfl rfl rfl ?_
          refine RegV.nil0 ?_
          have hr := Option.some.inj h
          subst hr
          exact AWc.ret (canQ (N := 160) (k := 0) (l' := [(8, (.d (.bool r48)))]) (H' := []) rfl ⟨rfl, [], [], rfl, rfl, ⟨⟨_, rfl, (.refl _)⟩, rfl, trivial⟩,  trivial⟩ (doneA (.inr rfl) rfl ⟨trivial, trivial⟩ (.refl _) hasNil))
        · have h := cond_neg c44 h
          refine AWc.skip ?_
          refine AWc.seqS (N := 160) 2 (fun (z : Unit) => [(2, (.d (.sl (List.map byteD a2)))), (3, (.d (.int .u8 ((a3.toNat : Nat) : Int)))), (4, (.ptr 0 0)), (5, (.ptr 1 0))]) (fun z => [(0, (.cells [(.d (.int .i64 a0.fKind)), (.d (.str a0.fName)), (.d (.str a0.fText)), (.d (.str a0.fGroup)), (.d (.int .i64 a0.fN)), (.d (.int .i64 a0.fVersion)), (.d (.int .u64 a0.fProducer)), (.d (.int .u64 a0.fSeq)), (.d (.int .u64 a0.fOffset)), (.d (.int .i64 a0.fMost)), (.d (.sl (List.map byteD a0.fData)))])), (1, (.cells [(.d (.int .i64 a1.fErr)), (.d (.int .i64 a1.fN)), (.d (.int .i64 a1.fID)), (.d (.int .u64 a1.fOffset)), (.d (.str a1.fText)), (.d (.sl (List.map TMessage.enc a1.fMessages)))]))]) (fun z => f17_j97 k a0 a3 a1 a2 = some r) rfl_le ?_ ?_
          · refine AWc.seq ?_
            refine AWc.rg hmix rfl rfl ?_
            refine RegV.p0 rfl rfl rfl ?_
            refine RegV.nil0 ?_
            obtain ⟨o57, h57, h⟩ := bind_some h
            refine AWc.block ?_
            refine AWc.loopK (N := 160) 2 (fun (x : Int) => [(2, (.d (.sl (List.map byteD a2)))), (3, (.d (.int .u8 ((a3.toNat : Nat) : Int)))), (4, (.ptr 0 0)), (5, (.ptr 1 0)), (9, (.d (.int .i64 x)))]) (fun x => [(0, (.cells [(.d (.int .i64 a0.fKind)), (.d (.str a0.fName)), (.d (.str a0.fText)), (.d (.str a0.fGroup)), (.d (.int .i64 a0.fN)), (.d (.int .i64 a0.fVersion)), (.d (.int .u64 a0.fProducer)), (.d (.int .u64 a0.fSeq)), (.d (.int .u64 a0.fOffset)), (.d (.int .i64 a0.fMost)), (.d (.sl (List.map byteD a0.fData)))])), (1, (.cells [(.d (.int .i64 a1.fErr)), (.d (.int .i64 a1.fN)), (.d (.int .i64 a1.fID)), (.d (.int .u64 a1.fOffset)), (.d (.str a1.fText)), (.d (.sl (List.map TMessage.enc a1.fMessages)))]))]) (fun k x => f17_l57 a1 k x = some o57) k (0 : Int) rfl_le (fun x hx => by cases hx) h57 ⟨rfl, [], [], rfl, rfl, ⟨⟨_, rfl, (.refl _)⟩, rfl, ⟨⟨_, rfl, (.refl _)⟩, rfl, ⟨⟨_, rfl, (.refl _)⟩, rfl, ⟨⟨_, rfl, (.refl _)⟩, rfl, ⟨⟨_, rfl, (.refl _)⟩, rfl, trivial⟩⟩⟩⟩⟩, ⟨⟨_, rfl, (.refl _)⟩, rfl, rfl, ⟨⟨_, rfl, (.refl _)⟩, rfl, rfl, trivial⟩⟩⟩ ?_
            clear h57
            intro k
            intro y57_1 h57
            rw [f17_l57] at h57
            refine AWc.seq ?_
            refine AWc.seq ?_
            refine AWc.rg hmix rfl rfl ?_
            refine RegV.p0 rfl rfl rfl ?_
            refine RegV.p0 (v := (.ptr 1 5)) rfl rfl rfl ?_
            refine RegV.ld (v := (.d (.sl (List.map TMessage.enc a1.fMessages)))) (H' := [(1, (.cells [(.d (.int .i64 a1.fErr)), (.d (.int .i64 a1.fN)), (.d (.int .i64 a1.fID)), (.d (.int .u64 a1.fOffset)), (.d (.str a1.fText)), (.d (.sl (List.map TMessage.enc a1.fMessages)))])), (0, (.cells [(.d (.int .i64 a0.fKind)), (.d (.str a0.fName)), (.d (.str a0.fText)), (.d (.str a0.fGroup)), (.d (.int .i64 a0.fN)), (.d (.int .i64 a0.fVersion)), (.d (.int .u64 a0.fProducer)), (.d (.int .u64 a0.fSeq)), (.d (.int .u64 a0.fOffset)), (.d (.int .i64 a0.fMost)), (.d (.sl (List.map byteD a0.fData)))]))]) rfl rfl trivial rfl rfl rfl rfl rfl ?_
            refine RegV.len (xs := a1.fMessages) (e := TMessage.enc) rfl rfl rfl rfl ?_
            refine RegV.p0 (v := (.d (.bool (decide (y57_1 < ((a1.fMessages.length : Nat) : Int)))))) rfl rfl rfl ?_
            refine RegV.nil0 ?_
            refine AWc.cond rfl (fun c68 => ?_) (fun c68 => ?_)
            · have h57 := cond_pos c68 h57
              refine AWc.skip ?_
              refine AWc.seq ?_
              refine AWc.block ?_
              refine AWc.seq ?_
              refine AWc.rg hmix rfl rfl ?_
              refine RegV.p0 (v := (.ptr 1 5)) rfl rfl rfl ?_
              refine RegV.ld (v := (.d (.sl (List.map TMessage.enc a1.fMessages)))) (H' := [(1, (.cells [(.d (.int .i64 a1.fErr)), (.d (.int .i64 a1.fN)), (.d (.int .i64 a1.fID)), (.d (.int .u64 a1.fOffset)), (.d (.str a1.fText)), (.d (.sl (List.map TMessage.enc a1.fMessages)))])), (0, (.cells [(.d (.int .i64 a0.fKind)), (.d (.str a0.fName)), (.d (.str a0.fText)), (.d (.str a0.fGroup)), (.d (.int .i64 a0.fN)), (.d (.int .i64 a0.fVersion)), (.d (.int .u64 a0.fProducer)), (.d (.int .u64 a0.fSeq)), (.d (.int .u64 a0.fOffset)), (.d (.int .i64 a0.fMost)), (.d (.sl (List.map byteD a0.fData)))]))]) rfl rfl trivial rfl rfl rfl rfl rfl ?_
              refine RegV.p0 rfl rfl rfl ?_
              obtain ⟨b79, h57⟩ := gd_some h57
              refine RegV.iad (xs := a1.fMessages) (e := TMessage.enc) rfl rfl rfl rfl (fun _ => rfl) b79 rfl ?_
              refine RegV.p0 (v := (.cp (TMessage.enc (rd a1.fMessages y57_1)) 4)) rfl rfl rfl ?_
              refine RegV.p0 (v := (.d (.sl (List.map byteD (rd a1.fMessages y57_1).fData)))) rfl rfl rfl ?_
              refine RegV.len (xs := (rd a1.fMessages y57_1).fData) (e := byteD) rfl rfl rfl rfl ?_
              refine RegV.p0 (v := (.d (.bool (decide (((((rd a1.fMessages y57_1).fData).length : Nat) : Int) > (500 : Int)))))) rfl rfl rfl ?_
              refine RegV.nil0 ?_
              refine AWc.cond rfl (fun c84 => ?_) (fun c84 => ?_)
              · have h57 := cond_pos c84 h57
                refine AWc.seq ?_
                refine AWc.rg hmix rfl rfl ?_
                obtain ⟨r88, e88, h57⟩ := bind_some h57
                refine RegV.call0 (F56 hmix hc.2.1 e88) rfl rfl rfl rfl .nil rfl ?_
                refine RegV.p0 rfl rfl rfl ?_
                refine RegV.nil0 ?_
                cases h57
                dsimp only at h
                have hr := Option.some.inj h
                subst hr
                exact AWc.ret (canQ (N := 160) (k := 0) (l' := [(8, (.d (.bool r88)))]) (H' := []) rfl ⟨rfl, [], [], rfl, rfl, ⟨⟨_, rfl, (.refl _)⟩, rfl, trivial⟩,  trivial⟩ (doneA (.inr rfl) rfl ⟨trivial, trivial⟩ (.refl _) hasNil))
              · have h57 := cond_neg c84 h57
                refine AWc.skip ?_
                refine AWc.rg hmix rfl rfl ?_
                refine RegV.p0 rfl rfl rfl ?_
                refine RegV.p0 (v := (.d (.int .i64 (IntKind.i64.wrap (y57_1 + (1 : Int)))))) rfl rfl rfl ?_
                refine RegV.p0 rfl rfl rfl ?_
                refine RegV.nil0 ?_
                exact ⟨(IntKind.i64.wrap (y57_1 + (1 : Int))), h57, ⟨rfl, [], [], rfl, rfl, ⟨⟨_, rfl, (.refl _)⟩, rfl, ⟨⟨_, rfl, (.refl _)⟩, rfl, ⟨⟨_, rfl, (.refl _)⟩, rfl, ⟨⟨_, rfl, (.refl _)⟩, rfl, ⟨⟨_, rfl, (.refl _)⟩, rfl, trivial⟩⟩⟩⟩⟩, ⟨⟨_, rfl, (.refl _)⟩, rfl, rfl, ⟨⟨_, rfl, (.refl _)⟩, rfl, rfl, trivial⟩⟩⟩⟩
            · have h57 := cond_neg c68 h57
              cases h57
              dsimp only at h
              refine AWc.exit ?_
              refine inBlk_eq ?_
              exact ⟨(), h, ⟨rfl, [], [], rfl, rfl, ⟨⟨_, rfl, (.refl _)⟩, rfl, ⟨⟨_, rfl, (.refl _)⟩, rfl, ⟨⟨_, rfl, (.refl _)⟩, rfl, ⟨⟨_, rfl, (.refl _)⟩, rfl, trivial⟩⟩⟩⟩, ⟨⟨_, rfl, (.refl _)⟩, rfl, rfl, ⟨⟨_, rfl, (.refl _)⟩, rfl, rfl, trivial⟩⟩⟩⟩
          · rintro ⟨⟩ h
            unfold f17_j97 at h
            refine AWc.seq ?_
            refine AWc.rg hmix rfl rfl ?_
            refine RegV.ld (v := (.d (.agg [(.int .i64 a0.fKind), (.str a0.fName), (.str a0.fText), (.str a0.fGroup), (.int .i64 a0.fN), (.int .i64 a0.fVersion), (.int .u64 a0.fProducer), (.int .u64 a0.fSeq), (.int .u64 a0.fOffset), (.int .i64 a0.fMost), (.sl (List.map byteD a0.fData))]))) (H' := [(0, (.cells [(.d (.int .i64 a0.fKind)), (.d (.str a0.fName)), (.d (.str a0.fText)), (.d (.str a0.fGroup)), (.d (.int .i64 a0.fN)), (.d (.int .i64 a0.fVersion)), (.d (.int .u64 a0.fProducer)), (.d (.int .u64 a0.fSeq)), (.d (.int .u64 a0.fOffset)), (.d (.int .i64 a0.fMost)), (.d (.sl (List.map byteD a0.fData)))])), (1, (.cells [(.d (.int .i64 a1.fErr)), (.d (.int .i64 a1.fN)), (.d (.int .i64 a1.fID)), (.d (.int .u64 a1.fOffset)), (.d (.str a1.fText)), (.d (.sl (List.map TMessage.enc a1.fMessages)))]))]) rfl rfl (Nat.le_of_ble_eq_true rfl) rfl rfl rfl rfl rfl ?_
            obtain ⟨r101, e101, h⟩ := bind_some h
            refine RegV.callS (q := false) (H' := [(2, (.tok ((List.map byteD r101).length * 1))), (0, (.cells [(.d (.int .i64 a0.fKind)), (.d (.str a0.fName)), (.d (.str a0.fText)), (.d (.str a0.fGroup)), (.d (.int .i64 a0.fN)), (.d (.int .i64 a0.fVersion)), (.d (.int .u64 a0.fProducer)), (.d (.int .u64 a0.fSeq)), (.d (.int .u64 a0.fOffset)), (.d (.int .i64 a0.fMost)), (.d (.sl (List.map byteD a0.fData)))])), (1, (.cells [(.d (.int .i64 a1.fErr)), (.d (.int .i64 a1.fN)), (.d (.int .i64 a1.fID)), (.d (.int .u64 a1.fOffset)), (.d (.str a1.fText)), (.d (.sl (List.map TMessage.enc a1.fMessages)))]))]) (c' := 3) (show ACalls P (N 59) [(.d (TRequest.enc (TRequest.mk a0.fKind a0.fName a0.fText a0.fGroup a0.fN a0.fVersion a0.fProducer a0.fSeq a0.fOffset a0.fMost a0.fData)))] [] (.ap 2 1 (List.map byteD r101)) [(2, (.tok ((List.map byteD r101).length * 1)))] from ACalls.use (F59 hmix hc.2.2.1 e101) [(0, 2)] 1 rfl) rfl rfl rfl rfl (.cons (.refl _) .nil) (.refl _) (fun h => by cases h) rfl hasNil rfl rfl rfl rfl ?_
            obtain ⟨r102, e102, h⟩ := bind_some h
            refine RegV.call0 (F57 hmix hc.2.2.2.1 e102) rfl rfl rfl rfl (.cons (.sl rfl) .nil) rfl ?_
            refine RegV.p0 rfl rfl rfl ?_
            refine RegV.p0 rfl rfl rfl ?_
            refine RegV.p0 rfl rfl rfl ?_
            refine RegV.evS (own := false) (v := (.ptr 3 0)) (H' := [(3, (.cells [(.d (.int .i64 (0 : Int))), (.d (.str ([] : List UInt8))), (.d (.str ([] : List UInt8))), (.d (.str ([] : List UInt8))), (.d (.int .i64 (0 : Int))), (.d (.int .i64 (0 : Int))), (.d (.int .u64 (0 : Int))), (.d (.int .u64 (0 : Int))), (.d (.int .u64 (0 : Int))), (.d (.int .i64 (0 : Int))), .nils])), (2, (.tok ((List.map byteD r101).length * 1))), (0, (.cells [(.d (.int .i64 a0.fKind)), (.d (.str a0.fName)), (.d (.str a0.fText)), (.d (.str a0.fGroup)), (.d (.int .i64 a0.fN)), (.d (.int .i64 a0.fVersion)), (.d (.int .u64 a0.fProducer)), (.d (.int .u64 a0.fSeq)), (.d (.int .u64 a0.fOffset)), (.d (.int .i64 a0.fMost)), (.d (.sl (List.map byteD a0.fData)))])), (1, (.cells [(.d (.int .i64 a1.fErr)), (.d (.int .i64 a1.fN)), (.d (.int .i64 a1.fID)), (.d (.int .u64 a1.fOffset)), (.d (.str a1.fText)), (.d (.sl (List.map TMessage.enc a1.fMessages)))]))]) (c' := 4) rfl rfl trivial rfl rfl rfl rfl rfl rfl ?_
            refine RegV.evN (own := false) (H' := [(3, (.cells [(.d (.int .i64 r102.2.1)), (.d (.str r102.2.2.1)), (.d (.str r102.2.2.2.1)), (.d (.str r102.2.2.2.2.1)), (.d (.int .i64 r102.2.2.2.2.2.1)), (.d (.int .i64 r102.2.2.2.2.2.2.1)), (.d (.int .u64 r102.2.2.2.2.2.2.2.1)), (.d (.int .u64 r102.2.2.2.2.2.2.2.2.1)), (.d (.int .u64 r102.2.2.2.2.2.2.2.2.2.1)), (.d (.int .i64 r102.2.2.2.2.2.2.2.2.2.2.1)), (.d (.sl (List.map byteD r102.2.2.2.2.2.2.2.2.2.2.2)))])), (2, (.tok ((List.map byteD r101).length * 1))), (0, (.cells [(.d (.int .i64 a0.fKind)), (.d (.str a0.fName)), (.d (.str a0.fText)), (.d (.str a0.fGroup)), (.d (.int .i64 a0.fN)), (.d (.int .i64 a0.fVersion)), (.d (.int .u64 a0.fProducer)), (.d (.int .u64 a0.fSeq)), (.d (.int .u64 a0.fOffset)), (.d (.int .i64 a0.fMost)), (.d (.sl (List.map byteD a0.fData)))])), (1, (.cells [(.d (.int .i64 a1.fErr)), (.d (.int .i64 a1.fN)), (.d (.int .i64 a1.fID)), (.d (.int .u64 a1.fOffset)), (.d (.str a1.fText)), (.d (.sl (List.map TMessage.enc a1.fMessages)))]))]) (c' := 4) rfl rfl (by exact ⟨rfl, Nat.le_of_ble_eq_true rfl, rfl⟩) rfl rfl rfl rfl ?_
            refine RegV.p0 rfl rfl rfl ?_
            refine RegV.nil0 ?_
            refine AWc.seq ?_
            refine AWc.rg hmix rfl rfl ?_
            refine RegV.ld (v := (.d (.agg [(.int .i64 a0.fKind), (.str a0.fName), (.str a0.fText), (.str a0.fGroup), (.int .i64 a0.fN), (.int .i64 a0.fVersion), (.int .u64 a0.fProducer), (.int .u64 a0.fSeq), (.int .u64 a0.fOffset), (.int .i64 a0.fMost), (.sl (List.map byteD a0.fData))]))) (H' := [(0, (.cells [(.d (.int .i64 a0.fKind)), (.d (.str a0.fName)), (.d (.str a0.fText)), (.d (.str a0.fGroup)), (.d (.int .i64 a0.fN)), (.d (.int .i64 a0.fVersion)), (.d (.int .u64 a0.fProducer)), (.d (.int .u64 a0.fSeq)), (.d (.int .u64 a0.fOffset)), (.d (.int .i64 a0.fMost)), (.d (.sl (List.map byteD a0.fData)))])), (3, (.cells [(.d (.int .i64 r102.2.1)), (.d (.str r102.2.2.1)), (.d (.str r102.2.2.2.1)), (.d (.str r102.2.2.2.2.1)), (.d (.int .i64 r102.2.2.2.2.2.1)), (.d (.int .i64 r102.2.2.2.2.2.2.1)), (.d (.int .u64 r102.2.2.2.2.2.2.2.1)), (.d (.int .u64 r102.2.2.2.2.2.2.2.2.1)), (.d (.int .u64 r102.2.2.2.2.2.2.2.2.2.1)), (.d (.int .i64 r102.2.2.2.2.2.2.2.2.2.2.1)), (.d (.sl (List.map byteD r102.2.2.2.2.2.2.2.2.2.2.2)))])), (2, (.tok ((List.map byteD r101).length * 1))), (1, (.cells [(.d (.int .i64 a1.fErr)), (.d (.int .i64 a1.fN)), (.d (.int .i64 a1.fID)), (.d (.int .u64 a1.fOffset)), (.d (.str a1.fText)), (.d (.sl (List.map TMessage.enc a1.fMessages)))]))]) rfl rfl (Nat.le_of_ble_eq_true rfl) rfl rfl rfl rfl rfl ?_
            obtain ⟨r113, e113, h⟩ := bind_some h
            refine RegV.callS (q := false) (H' := [(4, (.tok ((List.map byteD r113).length * 1))), (0, (.cells [(.d (.int .i64 a0.fKind)), (.d (.str a0.fName)), (.d (.str a0.fText)), (.d (.str a0.fGroup)), (.d (.int .i64 a0.fN)), (.d (.int .i64 a0.fVersion)), (.d (.int .u64 a0.fProducer)), (.d (.int .u64 a0.fSeq)), (.d (.int .u64 a0.fOffset)), (.d (.int .i64 a0.fMost)), (.d (.sl (List.map byteD a0.fData)))])), (3, (.cells [(.d (.int .i64 r102.2.1)), (.d (.str r102.2.2.1)), (.d (.str r102.2.2.2.1)), (.d (.str r102.2.2.2.2.1)), (.d (.int .i64 r102.2.2.2.2.2.1)), (.d (.int .i64 r102.2.2.2.2.2.2.1)), (.d (.int .u64 r102.2.2.2.2.2.2.2.1)), (.d (.int .u64 r102.2.2.2.2.2.2.2.2.1)), (.d (.int .u64 r102.2.2.2.2.2.2.2.2.2.1)), (.d (.int .i64 r102.2.2.2.2.2.2.2.2.2.2.1)), (.d (.sl (List.map byteD r102.2.2.2.2.2.2.2.2.2.2.2)))])), (2, (.tok ((List.map byteD r101).length * 1))), (1, (.cells [(.d (.int .i64 a1.fErr)), (.d (.int .i64 a1.fN)), (.d (.int .i64 a1.fID)), (.d (.int .u64 a1.fOffset)), (.d (.str a1.fText)), (.d (.sl (List.map TMessage.enc a1.fMessages)))]))]) (c' := 5) (show ACalls P (N 59) [(.d (TRequest.enc (TRequest.mk a0.fKind a0.fName a0.fText a0.fGroup a0.fN a0.fVersion a0.fProducer a0.fSeq a0.fOffset a0.fMost a0.fData)))] [] (.ap 4 1 (List.map byteD r113)) [(4, (.tok ((List.map byteD r113).length * 1)))] from ACalls.use (F59 hmix hc.2.2.1 e113) [(0, 4)] 1 rfl) rfl rfl rfl rfl (.cons (.refl _) .nil) (.refl _) (fun h => by cases h) rfl hasNil rfl rfl rfl rfl ?_
            refine RegV.p0 rfl rfl rfl ?_
            refine RegV.p1 (v := (.d (.sl (List.map byteD ([a3] : List UInt8))))) rfl rfl (by exact ⟨rfl, Nat.le_of_ble_eq_true rfl, mapLen (e := byteD) (xs := ([a3] : List UInt8)) (z := 1) (fun _ => rfl)⟩) rfl rfl ?_
            obtain ⟨b116, h⟩ := gd_some h
            refine RegV.appA (xs := r113) (ys := ([a3] : List UInt8)) (e := byteD) (H1 := [(0, (.cells [(.d (.int .i64 a0.fKind)), (.d (.str a0.fName)), (.d (.str a0.fText)), (.d (.str a0.fGroup)), (.d (.int .i64 a0.fN)), (.d (.int .i64 a0.fVersion)), (.d (.int .u64 a0.fProducer)), (.d (.int .u64 a0.fSeq)), (.d (.int .u64 a0.fOffset)), (.d (.int .i64 a0.fMost)), (.d (.sl (List.map byteD a0.fData)))])), (3, (.cells [(.d (.int .i64 r102.2.1)), (.d (.str r102.2.2.1)), (.d (.str r102.2.2.2.1)), (.d (.str r102.2.2.2.2.1)), (.d (.int .i64 r102.2.2.2.2.2.1)), (.d (.int .i64 r102.2.2.2.2.2.2.1)), (.d (.int .u64 r102.2.2.2.2.2.2.2.1)), (.d (.int .u64 r102.2.2.2.2.2.2.2.2.1)), (.d (.int .u64 r102.2.2.2.2.2.2.2.2.2.1)), (.d (.int .i64 r102.2.2.2.2.2.2.2.2.2.2.1)), (.d (.sl (List.map byteD r102.2.2.2.2.2.2.2.2.2.2.2)))])), (2, (.tok ((List.map byteD r101).length * 1))), (1, (.cells [(.d (.int .i64 a1.fErr)), (.d (.int .i64 a1.fN)), (.d (.int .i64 a1.fID)), (.d (.int .u64 a1.fOffset)), (.d (.str a1.fText)), (.d (.sl (List.map TMessage.enc a1.fMessages)))]))]) rfl rfl rfl rfl (fun _ => rfl) rfl rfl b116 rfl rfl rfl ?_
            obtain ⟨r117, e117, h⟩ := bind_some h
            refine RegV.call0 (F57 hmix hc.2.2.2.1 e117) rfl rfl rfl rfl (.cons (.sl rfl) .nil) rfl ?_
            refine RegV.p0 rfl rfl rfl ?_
            refine RegV.p0 rfl rfl rfl ?_
            refine RegV.p0 rfl rfl rfl ?_
            refine RegV.evS (own := false) (v := (.ptr 6 0)) (H' := [(6, (.cells [(.d (.int .i64 (0 : Int))), (.d (.str ([] : List UInt8))), (.d (.str ([] : List UInt8))), (.d (.str ([] : List UInt8))), (.d (.int .i64 (0 : Int))), (.d (.int .i64 (0 : Int))), (.d (.int .u64 (0 : Int))), (.d (.int .u64 (0 : Int))), (.d (.int .u64 (0 : Int))), (.d (.int .i64 (0 : Int))), .nils])), (5, (.tok ((List.map byteD (r113 ++ ([a3] : List UInt8))).length * 1))), (0, (.cells [(.d (.int .i64 a0.fKind)), (.d (.str a0.fName)), (.d (.str a0.fText)), (.d (.str a0.fGroup)), (.d (.int .i64 a0.fN)), (.d (.int .i64 a0.fVersion)), (.d (.int .u64 a0.fProducer)), (.d (.int .u64 a0.fSeq)), (.d (.int .u64 a0.fOffset)), (.d (.int .i64 a0.fMost)), (.d (.sl (List.map byteD a0.fData)))])), (3, (.cells [(.d (.int .i64 r102.2.1)), (.d (.str r102.2.2.1)), (.d (.str r102.2.2.2.1)), (.d (.str r102.2.2.2.2.1)), (.d (.int .i64 r102.2.2.2.2.2.1)), (.d (.int .i64 r102.2.2.2.2.2.2.1)), (.d (.int .u64 r102.2.2.2.2.2.2.2.1)), (.d (.int .u64 r102.2.2.2.2.2.2.2.2.1)), (.d (.int .u64 r102.2.2.2.2.2.2.2.2.2.1)), (.d (.int .i64 r102.2.2.2.2.2.2.2.2.2.2.1)), (.d (.sl (List.map byteD r102.2.2.2.2.2.2.2.2.2.2.2)))])), (2, (.tok ((List.map byteD r101).length * 1))), (1, (.cells [(.d (.int .i64 a1.fErr)), (.d (.int .i64 a1.fN)), (.d (.int .i64 a1.fID)), (.d (.int .u64 a1.fOffset)), (.d (.str a1.fText)), (.d (.sl (List.map TMessage.enc a1.fMessages)))]))]) (c' := 7) rfl rfl trivial rfl rfl rfl rfl rfl rfl ?_
            refine RegV.evN (own := false) (H' := [(6, (.cells [(.d (.int .i64 r117.2.1)), (.d (.str r117.2.2.1)), (.d (.str r117.2.2.2.1)), (.d (.str r117.2.2.2.2.1)), (.d (.int .i64 r117.2.2.2.2.2.1)), (.d (.int .i64 r117.2.2.2.2.2.2.1)), (.d (.int .u64 r117.2.2.2.2.2.2.2.1)), (.d (.int .u64 r117.2.2.2.2.2.2.2.2.1)), (.d (.int .u64 r117.2.2.2.2.2.2.2.2.2.1)), (.d (.int .i64 r117.2.2.2.2.2.2.2.2.2.2.1)), (.d (.sl (List.map byteD r117.2.2.2.2.2.2.2.2.2.2.2)))])), (5, (.tok ((List.map byteD (r113 ++ ([a3] : List UInt8))).length * 1))), (0, (.cells [(.d (.int .i64 a0.fKind)), (.d (.str a0.fName)), (.d (.str a0.fText)), (.d (.str a0.fGroup)), (.d (.int .i64 a0.fN)), (.d (.int .i64 a0.fVersion)), (.d (.int .u64 a0.fProducer)), (.d (.int .u64 a0.fSeq)), (.d (.int .u64 a0.fOffset)), (.d (.int .i64 a0.fMost)), (.d (.sl (List.map byteD a0.fData)))])), (3, (.cells [(.d (.int .i64 r102.2.1)), (.d (.str r102.2.2.1)), (.d (.str r102.2.2.2.1)), (.d (.str r102.2.2.2.2.1)), (.d (.int .i64 r102.2.2.2.2.2.1)), (.d (.int .i64 r102.2.2.2.2.2.2.1)), (.d (.int .u64 r102.2.2.2.2.2.2.2.1)), (.d (.int .u64 r102.2.2.2.2.2.2.2.2.1)), (.d (.int .u64 r102.2.2.2.2.2.2.2.2.2.1)), (.d (.int .i64 r102.2.2.2.2.2.2.2.2.2.2.1)), (.d (.sl (List.map byteD r102.2.2.2.2.2.2.2.2.2.2.2)))])), (2, (.tok ((List.map byteD r101).length * 1))), (1, (.cells [(.d (.int .i64 a1.fErr)), (.d (.int .i64 a1.fN)), (.d (.int .i64 a1.fID)), (.d (.int .u64 a1.fOffset)), (.d (.str a1.fText)), (.d (.sl (List.map TMessage.enc a1.fMessages)))]))]) (c' := 7) rfl rfl (by exact ⟨rfl, Nat.le_of_ble_eq_true rfl, rfl⟩) rfl rfl rfl rfl ?_
            refine RegV.p0 rfl rfl rfl ?_
            refine RegV.nil0 ?_
            refine AWc.seq ?_
            refine AWc.rg hmix rfl rfl ?_
            refine RegV.ld (v := (.d (.agg [(.int .i64 a1.fErr), (.int .i64 a1.fN), (.int .i64 a1.fID), (.int .u64 a1.fOffset), (.str a1.fText), (.sl (List.map TMessage.enc a1.fMessages))]))) (H' := [(1, (.cells [(.d (.int .i64 a1.fErr)), (.d (.int .i64 a1.fN)), (.d (.int .i64 a1.fID)), (.d (.int .u64 a1.fOffset)), (.d (.str a1.fText)), (.d (.sl (List.map TMessage.enc a1.fMessages)))])), (6, (.cells [(.d (.int .i64 r117.2.1)), (.d (.str r117.2.2.1)), (.d (.str r117.2.2.2.1)), (.d (.str r117.2.2.2.2.1)), (.d (.int .i64 r117.2.2.2.2.2.1)), (.d (.int .i64 r117.2.2.2.2.2.2.1)), (.d (.int .u64 r117.2.2.2.2.2.2.2.1)), (.d (.int .u64 r117.2.2.2.2.2.2.2.2.1)), (.d (.int .u64 r117.2.2.2.2.2.2.2.2.2.1)), (.d (.int .i64 r117.2.2.2.2.2.2.2.2.2.2.1)), (.d (.sl (List.map byteD r117.2.2.2.2.2.2.2.2.2.2.2)))])), (5, (.tok ((List.map byteD (r113 ++ ([a3] : List UInt8))).length * 1))), (0, (.cells [(.d (.int .i64 a0.fKind)), (.d (.str a0.fName)), (.d (.str a0.fText)), (.d (.str a0.fGroup)), (.d (.int .i64 a0.fN)), (.d (.int .i64 a0.fVersion)), (.d (.int .u64 a0.fProducer)), (.d (.int .u64 a0.fSeq)), (.d (.int .u64 a0.fOffset)), (.d (.int .i64 a0.fMost)), (.d (.sl (List.map byteD a0.fData)))])), (3, (.cells [(.d (.int .i64 r102.2.1)), (.d (.str r102.2.2.1)), (.d (.str r102.2.2.2.1)), (.d (.str r102.2.2.2.2.1)), (.d (.int .i64 r102.2.2.2.2.2.1)), (.d (.int .i64 r102.2.2.2.2.2.2.1)), (.d (.int .u64 r102.2.2.2.2.2.2.2.1)), (.d (.int .u64 r102.2.2.2.2.2.2.2.2.1)), (.d (.int .u64 r102.2.2.2.2.2.2.2.2.2.1)), (.d (.int .i64 r102.2.2.2.2.2.2.2.2.2.2.1)), (.d (.sl (List.map byteD r102.2.2.2.2.2.2.2.2.2.2.2)))])), (2, (.tok ((List.map byteD r101).length * 1)))]) rfl rfl (Nat.le_of_ble_eq_true rfl) rfl rfl rfl rfl rfl ?_
            obtain ⟨r128, e128, h⟩ := bind_some h
            refine RegV.callS (q := false) (H' := [(7, (.tok ((List.map byteD r128).length * 1))), (1, (.cells [(.d (.int .i64 a1.fErr)), (.d (.int .i64 a1.fN)), (.d (.int .i64 a1.fID)), (.d (.int .u64 a1.fOffset)), (.d (.str a1.fText)), (.d (.sl (List.map TMessage.enc a1.fMessages)))])), (6, (.cells [(.d (.int .i64 r117.2.1)), (.d (.str r117.2.2.1)), (.d (.str r117.2.2.2.1)), (.d (.str r117.2.2.2.2.1)), (.d (.int .i64 r117.2.2.2.2.2.1)), (.d (.int .i64 r117.2.2.2.2.2.2.1)), (.d (.int .u64 r117.2.2.2.2.2.2.2.1)), (.d (.int .u64 r117.2.2.2.2.2.2.2.2.1)), (.d (.int .u64 r117.2.2.2.2.2.2.2.2.2.1)), (.d (.int .i64 r117.2.2.2.2.2.2.2.2.2.2.1)), (.d (.sl (List.map byteD r117.2.2.2.2.2.2.2.2.2.2.2)))])), (5, (.tok ((List.map byteD (r113 ++ ([a3] : List UInt8))).length * 1))), (0, (.cells [(.d (.int .i64 a0.fKind)), (.d (.str a0.fName)), (.d (.str a0.fText)), (.d (.str a0.fGroup)), (.d (.int .i64 a0.fN)), (.d (.int .i64 a0.fVersion)), (.d (.int .u64 a0.fProducer)), (.d (.int .u64 a0.fSeq)), (.d (.int .u64 a0.fOffset)), (.d (.int .i64 a0.fMost)), (.d (.sl (List.map byteD a0.fData)))])), (3, (.cells [(.d (.int .i64 r102.2.1)), (.d (.str r102.2.2.1)), (.d (.str r102.2.2.2.1)), (.d (.str r102.2.2.2.2.1)), (.d (.int .i64 r102.2.2.2.2.2.1)), (.d (.int .i64 r102.2.2.2.2.2.2.1)), (.d (.int .u64 r102.2.2.2.2.2.2.2.1)), (.d (.int .u64 r102.2.2.2.2.2.2.2.2.1)), (.d (.int .u64 r102.2.2.2.2.2.2.2.2.2.1)), (.d (.int .i64 r102.2.2.2.2.2.2.2.2.2.2.1)), (.d (.sl (List.map byteD r102.2.2.2.2.2.2.2.2.2.2.2)))])), (2, (.tok ((List.map byteD r101).length * 1)))]) (c' := 8) (show ACalls P (N 65) [(.d (TReply.enc (TReply.mk a1.fErr a1.fN a1.fID a1.fOffset a1.fText a1.fMessages)))] [] (.ap 7 1 (List.map byteD r128)) [(7, (.tok ((List.map byteD r128).length * 1)))] from ACalls.use (F65 hmix hc.2.2.2.2.1 e128) [(0, 7)] 1 rfl) rfl rfl rfl rfl (.cons (.refl _) .nil) (.refl _) (fun h => by cases h) rfl hasNil rfl rfl rfl rfl ?_
            obtain ⟨r129, e129, h⟩ := bind_some h
            refine RegV.call0 (F63 hmix hc.2.2.2.2.2.1 e129) rfl rfl rfl rfl (.cons (.sl rfl) .nil) rfl ?_
            refine RegV.p0 rfl rfl rfl ?_
            refine RegV.p0 rfl rfl rfl ?_
            refine RegV.p0 rfl rfl rfl ?_
            refine RegV.evS (own := false) (v := (.ptr 8 0)) (H' := [(8, (.cells [(.d (.int .i64 (0 : Int))), (.d (.int .i64 (0 : Int))), (.d (.int .i64 (0 : Int))), (.d (.int .u64 (0 : Int))), (.d (.str ([] : List UInt8))), .nils])), (7, (.tok ((List.map byteD r128).length * 1))), (1, (.cells [(.d (.int .i64 a1.fErr)), (.d (.int .i64 a1.fN)), (.d (.int .i64 a1.fID)), (.d (.int .u64 a1.fOffset)), (.d (.str a1.fText)), (.d (.sl (List.map TMessage.enc a1.fMessages)))])), (6, (.cells [(.d (.int .i64 r117.2.1)), (.d (.str r117.2.2.1)), (.d (.str r117.2.2.2.1)), (.d (.str r117.2.2.2.2.1)), (.d (.int .i64 r117.2.2.2.2.2.1)), (.d (.int .i64 r117.2.2.2.2.2.2.1)), (.d (.int .u64 r117.2.2.2.2.2.2.2.1)), (.d (.int .u64 r117.2.2.2.2.2.2.2.2.1)), (.d (.int .u64 r117.2.2.2.2.2.2.2.2.2.1)), (.d (.int .i64 r117.2.2.2.2.2.2.2.2.2.2.1)), (.d (.sl (List.map byteD r117.2.2.2.2.2.2.2.2.2.2.2)))])), (5, (.tok ((List.map byteD (r113 ++ ([a3] : List UInt8))).length * 1))), (0, (.cells [(.d (.int .i64 a0.fKind)), (.d (.str a0.fName)), (.d (.str a0.fText)), (.d (.str a0.fGroup)), (.d (.int .i64 a0.fN)), (.d (.int .i64 a0.fVersion)), (.d (.int .u64 a0.fProducer)), (.d (.int .u64 a0.fSeq)), (.d (.int .u64 a0.fOffset)), (.d (.int .i64 a0.fMost)), (.d (.sl (List.map byteD a0.fData)))])), (3, (.cells [(.d (.int .i64 r102.2.1)), (.d (.str r102.2.2.1)), (.d (.str r102.2.2.2.1)), (.d (.str r102.2.2.2.2.1)), (.d (.int .i64 r102.2.2.2.2.2.1)), (.d (.int .i64 r102.2.2.2.2.2.2.1)), (.d (.int .u64 r102.2.2.2.2.2.2.2.1)), (.d (.int .u64 r102.2.2.2.2.2.2.2.2.1)), (.d (.int .u64 r102.2.2.2.2.2.2.2.2.2.1)), (.d (.int .i64 r102.2.2.2.2.2.2.2.2.2.2.1)), (.d (.sl (List.map byteD r102.2.2.2.2.2.2.2.2.2.2.2)))])), (2, (.tok ((List.map byteD r101).length * 1)))]) (c' := 9) rfl rfl trivial rfl rfl rfl rfl rfl rfl ?_
            refine RegV.evN (own := false) (H' := [(8, (.cells [(.d (.int .i64 r129.2.1)), (.d (.int .i64 r129.2.2.1)), (.d (.int .i64 r129.2.2.2.1)), (.d (.int .u64 r129.2.2.2.2.1)), (.d (.str r129.2.2.2.2.2.1)), (.d (.sl (List.map TMessage.enc r129.2.2.2.2.2.2)))])), (7, (.tok ((List.map byteD r128).length * 1))), (1, (.cells [(.d (.int .i64 a1.fErr)), (.d (.int .i64 a1.fN)), (.d (.int .i64 a1.fID)), (.d (.int .u64 a1.fOffset)), (.d (.str a1.fText)), (.d (.sl (List.map TMessage.enc a1.fMessages)))])), (6, (.cells [(.d (.int .i64 r117.2.1)), (.d (.str r117.2.2.1)), (.d (.str r117.2.2.2.1)), (.d (.str r117.2.2.2.2.1)), (.d (.int .i64 r117.2.2.2.2.2.1)), (.d (.int .i64 r117.2.2.2.2.2.2.1)), (.d (.int .u64 r117.2.2.2.2.2.2.2.1)), (.d (.int .u64 r117.2.2.2.2.2.2.2.2.1)), (.d (.int .u64 r117.2.2.2.2.2.2.2.2.2.1)), (.d (.int .i64 r117.2.2.2.2.2.2.2.2.2.2.1)), (.d (.sl (List.map byteD r117.2.2.2.2.2.2.2.2.2.2.2)))])), (5, (.tok ((List.map byteD (r113 ++ ([a3] : List UInt8))).length * 1))), (0, (.cells [(.d (.int .i64 a0.fKind)), (.d (.str a0.fName)), (.d (.str a0.fText)), (.d (.str a0.fGroup)), (.d (.int .i64 a0.fN)), (.d (.int .i64 a0.fVersion)), (.d (.int .u64 a0.fProducer)), (.d (.int .u64 a0.fSeq)), (.d (.int .u64 a0.fOffset)), (.d (.int .i64 a0.fMost)), (.d (.sl (List.map byteD a0.fData)))])), (3, (.cells [(.d (.int .i64 r102.2.1)), (.d (.str r102.2.2.1)), (.d (.str r102.2.2.2.1)), (.d (.str r102.2.2.2.2.1)), (.d (.int .i64 r102.2.2.2.2.2.1)), (.d (.int .i64 r102.2.2.2.2.2.2.1)), (.d (.int .u64 r102.2.2.2.2.2.2.2.1)), (.d (.int .u64 r102.2.2.2.2.2.2.2.2.1)), (.d (.int .u64 r102.2.2.2.2.2.2.2.2.2.1)), (.d (.int .i64 r102.2.2.2.2.2.2.2.2.2.2.1)), (.d (.sl (List.map byteD r102.2.2.2.2.2.2.2.2.2.2.2)))])), (2, (.tok ((List.map byteD r101).length * 1)))]) (c' := 9) rfl rfl (by exact ⟨rfl, Nat.le_of_ble_eq_true rfl, rfl⟩) rfl rfl rfl rfl ?_
            refine RegV.p0 rfl rfl rfl ?_
            refine RegV.nil0 ?_
            refine AWc.seq ?_
            refine AWc.rg hmix rfl rfl ?_
            refine RegV.ld (v := (.d (.agg [(.int .i64 a1.fErr), (.int .i64 a1.fN), (.int .i64 a1.fID), (.int .u64 a1.fOffset), (.str a1.fText), (.sl (List.map TMessage.enc a1.fMessages))]))) (H' := [(1, (.cells [(.d (.int .i64 a1.fErr)), (.d (.int .i64 a1.fN)), (.d (.int .i64 a1.fID)), (.d (.int .u64 a1.fOffset)), (.d (.str a1.fText)), (.d (.sl (List.map TMessage.enc a1.fMessages)))])), (8, (.cells [(.d (.int .i64 r129.2.1)), (.d (.int .i64 r129.2.2.1)), (.d (.int .i64 r129.2.2.2.1)), (.d (.int .u64 r129.2.2.2.2.1)), (.d (.str r129.2.2.2.2.2.1)), (.d (.sl (List.map TMessage.enc r129.2.2.2.2.2.2)))])), (7, (.tok ((List.map byteD r128).length * 1))), (6, (.cells [(.d (.int .i64 r117.2.1)), (.d (.str r117.2.2.1)), (.d (.str r117.2.2.2.1)), (.d (.str r117.2.2.2.2.1)), (.d (.int .i64 r117.2.2.2.2.2.1)), (.d (.int .i64 r117.2.2.2.2.2.2.1)), (.d (.int .u64 r117.2.2.2.2.2.2.2.1)), (.d (.int .u64 r117.2.2.2.2.2.2.2.2.1)), (.d (.int .u64 r117.2.2.2.2.2.2.2.2.2.1)), (.d (.int .i64 r117.2.2.2.2.2.2.2.2.2.2.1)), (.d (.sl (List.map byteD r117.2.2.2.2.2.2.2.2.2.2.2)))])), (5, (.tok ((List.map byteD (r113 ++ ([a3] : List UInt8))).length * 1))), (0, (.cells [(.d (.int .i64 a0.fKind)), (.d (.str a0.fName)), (.d (.str a0.fText)), (.d (.str a0.fGroup)), (.d (.int .i64 a0.fN)), (.d (.int .i64 a0.fVersion)), (.d (.int .u64 a0.fProducer)), (.d (.int .u64 a0.fSeq)), (.d (.int .u64 a0.fOffset)), (.d (.int .i64 a0.fMost)), (.d (.sl (List.map byteD a0.fData)))])), (3, (.cells [(.d (.int .i64 r102.2.1)), (.d (.str r102.2.2.1)), (.d (.str r102.2.2.2.1)), (.d (.str r102.2.2.2.2.1)), (.d (.int .i64 r102.2.2.2.2.2.1)), (.d (.int .i64 r102.2.2.2.2.2.2.1)), (.d (.int .u64 r102.2.2.2.2.2.2.2.1)), (.d (.int .u64 r102.2.2.2.2.2.2.2.2.1)), (.d (.int .u64 r102.2.2.2.2.2.2.2.2.2.1)), (.d (.int .i64 r102.2.2.2.2.2.2.2.2.2.2.1)), (.d (.sl (List.map byteD r102.2.2.2.2.2.2.2.2.2.2.2)))])), (2, (.tok ((List.map byteD r101).length * 1)))]) rfl rfl (Nat.le_of_ble_eq_true rfl) rfl rfl rfl rfl rfl ?_
            obtain ⟨r140, e140, h⟩ := bind_some h
            refine RegV.callS (q := false) (H' := [(9, (.tok ((List.map byteD r140).length * 1))), (1, (.cells [(.d (.int .i64 a1.fErr)), (.d (.int .i64 a1.fN)), (.d (.int .i64 a1.fID)), (.d (.int .u64 a1.fOffset)), (.d (.str a1.fText)), (.d (.sl (List.map TMessage.enc a1.fMessages)))])), (8, (.cells [(.d (.int .i64 r129.2.1)), (.d (.int .i64 r129.2.2.1)), (.d (.int .i64 r129.2.2.2.1)), (.d (.int .u64 r129.2.2.2.2.1)), (.d (.str r129.2.2.2.2.2.1)), (.d (.sl (List.map TMessage.enc r129.2.2.2.2.2.2)))])), (7, (.tok ((List.map byteD r128).length * 1))), (6, (.cells [(.d (.int .i64 r117.2.1)), (.d (.str r117.2.2.1)), (.d (.str r117.2.2.2.1)), (.d (.str r117.2.2.2.2.1)), (.d (.int .i64 r117.2.2.2.2.2.1)), (.d (.int .i64 r117.2.2.2.2.2.2.1)), (.d (.int .u64 r117.2.2.2.2.2.2.2.1)), (.d (.int .u64 r117.2.2.2.2.2.2.2.2.1)), (.d (.int .u64 r117.2.2.2.2.2.2.2.2.2.1)), (.d (.int .i64 r117.2.2.2.2.2.2.2.2.2.2.1)), (.d (.sl (List.map byteD r117.2.2.2.2.2.2.2.2.2.2.2)))])), (5, (.tok ((List.map byteD (r113 ++ ([a3] : List UInt8))).length * 1))), (0, (.cells [(.d (.int .i64 a0.fKind)), (.d (.str a0.fName)), (.d (.str a0.fText)), (.d (.str a0.fGroup)), (.d (.int .i64 a0.fN)), (.d (.int .i64 a0.fVersion)), (.d (.int .u64 a0.fProducer)), (.d (.int .u64 a0.fSeq)), (.d (.int .u64 a0.fOffset)), (.d (.int .i64 a0.fMost)), (.d (.sl (List.map byteD a0.fData)))])), (3, (.cells [(.d (.int .i64 r102.2.1)), (.d (.str r102.2.2.1)), (.d (.str r102.2.2.2.1)), (.d (.str r102.2.2.2.2.1)), (.d (.int .i64 r102.2.2.2.2.2.1)), (.d (.int .i64 r102.2.2.2.2.2.2.1)), (.d (.int .u64 r102.2.2.2.2.2.2.2.1)), (.d (.int .u64 r102.2.2.2.2.2.2.2.2.1)), (.d (.int .u64 r102.2.2.2.2.2.2.2.2.2.1)), (.d (.int .i64 r102.2.2.2.2.2.2.2.2.2.2.1)), (.d (.sl (List.map byteD r102.2.2.2.2.2.2.2.2.2.2.2)))])), (2, (.tok ((List.map byteD r101).length * 1)))]) (c' := 10) (show ACalls P (N 65) [(.d (TReply.enc (TReply.mk a1.fErr a1.fN a1.fID a1.fOffset a1.fText a1.fMessages)))] [] (.ap 9 1 (List.map byteD r140)) [(9, (.tok ((List.map byteD r140).length * 1)))] from ACalls.use (F65 hmix hc.2.2.2.2.1 e140) [(0, 9)] 1 rfl) rfl rfl rfl rfl (.cons (.refl _) .nil) (.refl _) (fun h => by cases h) rfl hasNil rfl rfl rfl rfl ?_
            refine RegV.p0 rfl rfl rfl ?_
            refine RegV.p1 (v := (.d (.sl (List.map byteD ([a3] : List UInt8))))) rfl rfl (by exact ⟨rfl, Nat.le_of_ble_eq_true rfl, mapLen (e := byteD) (xs := ([a3] : List UInt8)) (z := 1) (fun _ => rfl)⟩) rfl rfl ?_
            obtain ⟨b143, h⟩ := gd_some h
            refine RegV.appA (xs := r140) (ys := ([a3] : List UInt8)) (e := byteD) (H1 := [(1, (.cells [(.d (.int .i64 a1.fErr)), (.d (.int .i64 a1.fN)), (.d (.int .i64 a1.fID)), (.d (.int .u64 a1.fOffset)), (.d (.str a1.fText)), (.d (.sl (List.map TMessage.enc a1.fMessages)))])), (8, (.cells [(.d (.int .i64 r129.2.1)), (.d (.int .i64 r129.2.2.1)), (.d (.int .i64 r129.2.2.2.1)), (.d (.int .u64 r129.2.2.2.2.1)), (.d (.str r129.2.2.2.2.2.1)), (.d (.sl (List.map TMessage.enc r129.2.2.2.2.2.2)))])), (7, (.tok ((List.map byteD r128).length * 1))), (6, (.cells [(.d (.int .i64 r117.2.1)), (.d (.str r117.2.2.1)), (.d (.str r117.2.2.2.1)), (.d (.str r117.2.2.2.2.1)), (.d (.int .i64 r117.2.2.2.2.2.1)), (.d (.int .i64 r117.2.2.2.2.2.2.1)), (.d (.int .u64 r117.2.2.2.2.2.2.2.1)), (.d (.int .u64 r117.2.2.2.2.2.2.2.2.1)), (.d (.int .u64 r117.2.2.2.2.2.2.2.2.2.1)), (.d (.int .i64 r117.2.2.2.2.2.2.2.2.2.2.1)), (.d (.sl (List.map byteD r117.2.2.2.2.2.2.2.2.2.2.2)))])), (5, (.tok ((List.map byteD (r113 ++ ([a3] : List UInt8))).length * 1))), (0, (.cells [(.d (.int .i64 a0.fKind)), (.d (.str a0.fName)), (.d (.str a0.fText)), (.d (.str a0.fGroup)), (.d (.int .i64 a0.fN)), (.d (.int .i64 a0.fVersion)), (.d (.int .u64 a0.fProducer)), (.d (.int .u64 a0.fSeq)), (.d (.int .u64 a0.fOffset)), (.d (.int .i64 a0.fMost)), (.d (.sl (List.map byteD a0.fData)))])), (3, (.cells [(.d (.int .i64 r102.2.1)), (.d (.str r102.2.2.1)), (.d (.str r102.2.2.2.1)), (.d (.str r102.2.2.2.2.1)), (.d (.int .i64 r102.2.2.2.2.2.1)), (.d (.int .i64 r102.2.2.2.2.2.2.1)), (.d (.int .u64 r102.2.2.2.2.2.2.2.1)), (.d (.int .u64 r102.2.2.2.2.2.2.2.2.1)), (.d (.int .u64 r102.2.2.2.2.2.2.2.2.2.1)), (.d (.int .i64 r102.2.2.2.2.2.2.2.2.2.2.1)), (.d (.sl (List.map byteD r102.2.2.2.2.2.2.2.2.2.2.2)))])), (2, (.tok ((List.map byteD r101).length * 1)))]) rfl rfl rfl rfl (fun _ => rfl) rfl rfl b143 rfl rfl rfl ?_
            obtain ⟨r144, e144, h⟩ := bind_some h
            refine RegV.call0 (F63 hmix hc.2.2.2.2.2.1 e144) rfl rfl rfl rfl (.cons (.sl rfl) .nil) rfl ?_
            refine RegV.p0 rfl rfl rfl ?_
            refine RegV.p0 rfl rfl rfl ?_
            refine RegV.p0 rfl rfl rfl ?_
            refine RegV.evS (own := false) (v := (.ptr 11 0)) (H' := [(11, (.cells [(.d (.int .i64 (0 : Int))), (.d (.int .i64 (0 : Int))), (.d (.int .i64 (0 : Int))), (.d (.int .u64 (0 : Int))), (.d (.str ([] : List UInt8))), .nils])), (10, (.tok ((List.map byteD (r140 ++ ([a3] : List UInt8))).length * 1))), (1, (.cells [(.d (.int .i64 a1.fErr)), (.d (.int .i64 a1.fN)), (.d (.int .i64 a1.fID)), (.d (.int .u64 a1.fOffset)), (.d (.str a1.fText)), (.d (.sl (List.map TMessage.enc a1.fMessages)))])), (8, (.cells [(.d (.int .i64 r129.2.1)), (.d (.int .i64 r129.2.2.1)), (.d (.int .i64 r129.2.2.2.1)), (.d (.int .u64 r129.2.2.2.2.1)), (.d (.str r129.2.2.2.2.2.1)), (.d (.sl (List.map TMessage.enc r129.2.2.2.2.2.2)))])), (7, (.tok ((List.map byteD r128).length * 1))), (6, (.cells [(.d (.int .i64 r117.2.1)), (.d (.str r117.2.2.1)), (.d (.str r117.2.2.2.1)), (.d (.str r117.2.2.2.2.1)), (.d (.int .i64 r117.2.2.2.2.2.1)), (.d (.int .i64 r117.2.2.2.2.2.2.1)), (.d (.int .u64 r117.2.2.2.2.2.2.2.1)), (.d (.int .u64 r117.2.2.2.2.2.2.2.2.1)), (.d (.int .u64 r117.2.2.2.2.2.2.2.2.2.1)), (.d (.int .i64 r117.2.2.2.2.2.2.2.2.2.2.1)), (.d (.sl (List.map byteD r117.2.2.2.2.2.2.2.2.2.2.2)))])), (5, (.tok ((List.map byteD (r113 ++ ([a3] : List UInt8))).length * 1))), (0, (.cells [(.d (.int .i64 a0.fKind)), (.d (.str a0.fName)), (.d (.str a0.fText)), (.d (.str a0.fGroup)), (.d (.int .i64 a0.fN)), (.d (.int .i64 a0.fVersion)), (.d (.int .u64 a0.fProducer)), (.d (.int .u64 a0.fSeq)), (.d (.int .u64 a0.fOffset)), (.d (.int .i64 a0.fMost)), (.d (.sl (List.map byteD a0.fData)))])), (3, (.cells [(.d (.int .i64 r102.2.1)), (.d (.str r102.2.2.1)), (.d (.str r102.2.2.2.1)), (.d (.str r102.2.2.2.2.1)), (.d (.int .i64 r102.2.2.2.2.2.1)), (.d (.int .i64 r102.2.2.2.2.2.2.1)), (.d (.int .u64 r102.2.2.2.2.2.2.2.1)), (.d (.int .u64 r102.2.2.2.2.2.2.2.2.1)), (.d (.int .u64 r102.2.2.2.2.2.2.2.2.2.1)), (.d (.int .i64 r102.2.2.2.2.2.2.2.2.2.2.1)), (.d (.sl (List.map byteD r102.2.2.2.2.2.2.2.2.2.2.2)))])), (2, (.tok ((List.map byteD r101).length * 1)))]) (c' := 12) rfl rfl trivial rfl rfl rfl rfl rfl rfl ?_
            refine RegV.evN (own := false) (H' := [(11, (.cells [(.d (.int .i64 r144.2.1)), (.d (.int .i64 r144.2.2.1)), (.d (.int .i64 r144.2.2.2.1)), (.d (.int .u64 r144.2.2.2.2.1)), (.d (.str r144.2.2.2.2.2.1)), (.d (.sl (List.map TMessage.enc r144.2.2.2.2.2.2)))])), (10, (.tok ((List.map byteD (r140 ++ ([a3] : List UInt8))).length * 1))), (1, (.cells [(.d (.int .i64 a1.fErr)), (.d (.int .i64 a1.fN)), (.d (.int .i64 a1.fID)), (.d (.int .u64 a1.fOffset)), (.d (.str a1.fText)), (.d (.sl (List.map TMessage.enc a1.fMessages)))])), (8, (.cells [(.d (.int .i64 r129.2.1)), (.d (.int .i64 r129.2.2.1)), (.d (.int .i64 r129.2.2.2.1)), (.d (.int .u64 r129.2.2.2.2.1)), (.d (.str r129.2.2.2.2.2.1)), (.d (.sl (List.map TMessage.enc r129.2.2.2.2.2.2)))])), (7, (.tok ((List.map byteD r128).length * 1))), (6, (.cells [(.d (.int .i64 r117.2.1)), (.d (.str r117.2.2.1)), (.d (.str r117.2.2.2.1)), (.d (.str r117.2.2.2.2.1)), (.d (.int .i64 r117.2.2.2.2.2.1)), (.d (.int .i64 r117.2.2.2.2.2.2.1)), (.d (.int .u64 r117.2.2.2.2.2.2.2.1)), (.d (.int .u64 r117.2.2.2.2.2.2.2.2.1)), (.d (.int .u64 r117.2.2.2.2.2.2.2.2.2.1)), (.d (.int .i64 r117.2.2.2.2.2.2.2.2.2.2.1)), (.d (.sl (List.map byteD r117.2.2.2.2.2.2.2.2.2.2.2)))])), (5, (.tok ((List.map byteD (r113 ++ ([a3] : List UInt8))).length * 1))), (0, (.cells [(.d (.int .i64 a0.fKind)), (.d (.str a0.fName)), (.d (.str a0.fText)), (.d (.str a0.fGroup)), (.d (.int .i64 a0.fN)), (.d (.int .i64 a0.fVersion)), (.d (.int .u64 a0.fProducer)), (.d (.int .u64 a0.fSeq)), (.d (.int .u64 a0.fOffset)), (.d (.int .i64 a0.fMost)), (.d (.sl (List.map byteD a0.fData)))])), (3, (.cells [(.d (.int .i64 r102.2.1)), (.d (.str r102.2.2.1)), (.d (.str r102.2.2.2.1)), (.d (.str r102.2.2.2.2.1)), (.d (.int .i64 r102.2.2.2.2.2.1)), (.d (.int .i64 r102.2.2.2.2.2.2.1)), (.d (.int .u64 r102.2.2.2.2.2.2.2.1)), (.d (.int .u64 r102.2.2.2.2.2.2.2.2.1)), (.d (.int .u64 r102.2.2.2.2.2.2.2.2.2.1)), (.d (.int .i64 r102.2.2.2.2.2.2.2.2.2.2.1)), (.d (.sl (List.map byteD r102.2.2.2.2.2.2.2.2.2.2.2)))])), (2, (.tok ((List.map byteD r101).length * 1)))]) (c' := 12) rfl rfl (by exact ⟨rfl, Nat.le_of_ble_eq_true rfl, rfl⟩) rfl rfl rfl rfl ?_
            refine RegV.p0 rfl rfl rfl ?_
            refine RegV.nil0 ?_
            refine AWc.seq ?_
            refine AWc.seq ?_
            refine AWc.rg hmix rfl rfl ?_
            obtain ⟨r155, e155, h⟩ := bind_some h
            refine RegV.call0 (F56 hmix hc.2.1 e155) rfl rfl rfl rfl .nil rfl ?_
            refine RegV.p0 (v := (.d (.bool (!r155)))) rfl rfl rfl ?_
            refine RegV.p0 rfl rfl rfl ?_
            refine RegV.split (fun c157 => ?_) (fun c157 => ?_)
            · have h := cond_pos c157 h
              refine RegV.noS rfl rfl ?_
              refine RegV.noS rfl rfl ?_
              refine RegV.p0 rfl rfl rfl ?_
              refine RegV.p0 rfl rfl rfl ?_
              refine RegV.noS rfl rfl ?_
              refine RegV.noS rfl rfl ?_
              refine RegV.noS rfl rfl ?_
              refine RegV.noS rfl rfl ?_
              refine RegV.p0 rfl rfl rfl ?_
              refine RegV.p0 rfl rfl rfl ?_
              refine RegV.noS rfl rfl ?_
              refine RegV.noS rfl rfl ?_
              refine RegV.p0 rfl rfl rfl ?_
              refine RegV.p0 rfl rfl rfl ?_
              refine RegV.noS rfl rfl ?_
              refine RegV.noS rfl rfl ?_
              refine RegV.p0 rfl rfl rfl ?_
              refine RegV.p0 rfl rfl rfl ?_
              refine RegV.noS rfl rfl ?_
              refine RegV.noS rfl rfl ?_
              refine RegV.noS rfl rfl ?_
              refine RegV.noS rfl rfl ?_
              refine RegV.p0 rfl rfl rfl ?_
              refine RegV.p0 rfl rfl rfl ?_
              refine RegV.noS rfl rfl ?_
              refine RegV.noS rfl rfl ?_
              refine RegV.p0 rfl rfl rfl ?_
              refine RegV.nil0 ?_
              refine AWc.cond rfl (fun _ => ?_) (fun hc => by cases hc)
              refine AWc.seq ?_
              refine AWc.rg hmix rfl rfl ?_
              refine RegV.p0 rfl rfl rfl ?_
              refine RegV.nil0 ?_
              have hr := Option.some.inj h
              subst hr
              exact AWc.ret (canQ (N := 160) (k := 0) (l' := [(8, (.d (.bool false)))]) (H' := []) rfl ⟨rfl, [], [], rfl, rfl, ⟨⟨_, rfl, (.refl _)⟩, rfl, trivial⟩,  trivial⟩ (doneA (.inr rfl) rfl ⟨trivial, trivial⟩ (.refl _) hasNil))
            · have h := cond_neg c157 h
              refine RegV.p0 rfl rfl rfl ?_
              refine RegV.p0 (v := (.d (.bool (decide (r102.1 ≠ (0 : Int)))))) rfl rfl rfl ?_
              refine RegV.p0 rfl rfl rfl ?_
              refine RegV.p0 rfl rfl rfl ?_
              refine RegV.split (fun c161 => ?_) (fun c161 => ?_)
              · have h := cond_pos c161 h
                refine RegV.noS rfl rfl ?_
                refine RegV.noS rfl rfl ?_
                refine RegV.noS rfl rfl ?_
                refine RegV.noS rfl rfl ?_
                refine RegV.p0 rfl rfl rfl ?_
                refine RegV.p0 rfl rfl rfl ?_
                refine RegV.noS rfl rfl ?_
                refine RegV.noS rfl rfl ?_
                refine RegV.p0 rfl rfl rfl ?_
                refine RegV.p0 rfl rfl rfl ?_
                refine RegV.noS rfl rfl ?_
                refine RegV.noS rfl rfl ?_
                refine RegV.p0 rfl rfl rfl ?_
                refine RegV.p0 rfl rfl rfl ?_
                refine RegV.noS rfl rfl ?_
                refine RegV.noS rfl rfl ?_
                refine RegV.noS rfl rfl ?_
                refine RegV.noS rfl rfl ?_
                refine RegV.p0 rfl rfl rfl ?_
                refine RegV.p0 rfl rfl rfl ?_
                refine RegV.noS rfl rfl ?_
                refine RegV.noS rfl rfl ?_
                refine RegV.p0 rfl rfl rfl ?_
                refine RegV.nil0 ?_
                refine AWc.cond rfl (fun _ => ?_) (fun hc => by cases hc)
                refine AWc.seq ?_
                refine AWc.rg hmix rfl rfl ?_
                refine RegV.p0 rfl rfl rfl ?_
                refine RegV.nil0 ?_
                have hr := Option.some.inj h
                subst hr
                exact AWc.ret (canQ (N := 160) (k := 0) (l' := [(8, (.d (.bool false)))]) (H' := []) rfl ⟨rfl, [], [], rfl, rfl, ⟨⟨_, rfl, (.refl _)⟩, rfl, trivial⟩,  trivial⟩ (doneA (.inr rfl) rfl ⟨trivial, trivial⟩ (.refl _) hasNil))
              · have h := cond_neg c161 h
                refine RegV.ld (v := (.d (.agg [(.int .i64 r102.2.1), (.str r102.2.2.1), (.str r102.2.2.2.1), (.str r102.2.2.2.2.1), (.int .i64 r102.2.2.2.2.2.1), (.int .i64 r102.2.2.2.2.2.2.1), (.int .u64 r102.2.2.2.2.2.2.2.1), (.int .u64 r102.2.2.2.2.2.2.2.2.1), (.int .u64 r102.2.2.2.2.2.2.2.2.2.1), (.int .i64 r102.2.2.2.2.2.2.2.2.2.2.1), (.sl (List.map byteD r102.2.2.2.2.2.2.2.2.2.2.2))]))) (H' := [(3, (.cells [(.d (.int .i64 r102.2.1)), (.d (.str r102.2.2.1)), (.d (.str r102.2.2.2.1)), (.d (.str r102.2.2.2.2.1)), (.d (.int .i64 r102.2.2.2.2.2.1)), (.d (.int .i64 r102.2.2.2.2.2.2.1)), (.d (.int .u64 r102.2.2.2.2.2.2.2.1)), (.d (.int .u64 r102.2.2.2.2.2.2.2.2.1)), (.d (.int .u64 r102.2.2.2.2.2.2.2.2.2.1)), (.d (.int .i64 r102.2.2.2.2.2.2.2.2.2.2.1)), (.d (.sl (List.map byteD r102.2.2.2.2.2.2.2.2.2.2.2)))])), (11, (.cells [(.d (.int .i64 r144.2.1)), (.d (.int .i64 r144.2.2.1)), (.d (.int .i64 r144.2.2.2.1)), (.d (.int .u64 r144.2.2.2.2.1)), (.d (.str r144.2.2.2.2.2.1)), (.d (.sl (List.map TMessage.enc r144.2.2.2.2.2.2)))])), (10, (.tok ((List.map byteD (r140 ++ ([a3] : List UInt8))).length * 1))), (1, (.cells [(.d (.int .i64 a1.fErr)), (.d (.int .i64 a1.fN)), (.d (.int .i64 a1.fID)), (.d (.int .u64 a1.fOffset)), (.d (.str a1.fText)), (.d (.sl (List.map TMessage.enc a1.fMessages)))])), (8, (.cells [(.d (.int .i64 r129.2.1)), (.d (.int .i64 r129.2.2.1)), (.d (.int .i64 r129.2.2.2.1)), (.d (.int .u64 r129.2.2.2.2.1)), (.d (.str r129.2.2.2.2.2.1)), (.d (.sl (List.map TMessage.enc r129.2.2.2.2.2.2)))])), (7, (.tok ((List.map byteD r128).length * 1))), (6, (.cells [(.d (.int .i64 r117.2.1)), (.d (.str r117.2.2.1)), (.d (.str r117.2.2.2.1)), (.d (.str r117.2.2.2.2.1)), (.d (.int .i64 r117.2.2.2.2.2.1)), (.d (.int .i64 r117.2.2.2.2.2.2.1)), (.d (.int .u64 r117.2.2.2.2.2.2.2.1)), (.d (.int .u64 r117.2.2.2.2.2.2.2.2.1)), (.d (.int .u64 r117.2.2.2.2.2.2.2.2.2.1)), (.d (.int .i64 r117.2.2.2.2.2.2.2.2.2.2.1)), (.d (.sl (List.map byteD r117.2.2.2.2.2.2.2.2.2.2.2)))])), (5, (.tok ((List.map byteD (r113 ++ ([a3] : List UInt8))).length * 1))), (0, (.cells [(.d (.int .i64 a0.fKind)), (.d (.str a0.fName)), (.d (.str a0.fText)), (.d (.str a0.fGroup)), (.d (.int .i64 a0.fN)), (.d (.int .i64 a0.fVersion)), (.d (.int .u64 a0.fProducer)), (.d (.int .u64 a0.fSeq)), (.d (.int .u64 a0.fOffset)), (.d (.int .i64 a0.fMost)), (.d (.sl (List.map byteD a0.fData)))])), (2, (.tok ((List.map byteD r101).length * 1)))]) rfl rfl (Nat.le_of_ble_eq_true rfl) rfl rfl rfl rfl rfl ?_
                refine RegV.ld (v := (.d (.agg [(.int .i64 a0.fKind), (.str a0.fName), (.str a0.fText), (.str a0.fGroup), (.int .i64 a0.fN), (.int .i64 a0.fVersion), (.int .u64 a0.fProducer), (.int .u64 a0.fSeq), (.int .u64 a0.fOffset), (.int .i64 a0.fMost), (.sl (List.map byteD a0.fData))]))) (H' := [(0, (.cells [(.d (.int .i64 a0.fKind)), (.d (.str a0.fName)), (.d (.str a0.fText)), (.d (.str a0.fGroup)), (.d (.int .i64 a0.fN)), (.d (.int .i64 a0.fVersion)), (.d (.int .u64 a0.fProducer)), (.d (.int .u64 a0.fSeq)), (.d (.int .u64 a0.fOffset)), (.d (.int .i64 a0.fMost)), (.d (.sl (List.map byteD a0.fData)))])), (3, (.cells [(.d (.int .i64 r102.2.1)), (.d (.str r102.2.2.1)), (.d (.str r102.2.2.2.1)), (.d (.str r102.2.2.2.2.1)), (.d (.int .i64 r102.2.2.2.2.2.1)), (.d (.int .i64 r102.2.2.2.2.2.2.1)), (.d (.int .u64 r102.2.2.2.2.2.2.2.1)), (.d (.int .u64 r102.2.2.2.2.2.2.2.2.1)), (.d (.int .u64 r102.2.2.2.2.2.2.2.2.2.1)), (.d (.int .i64 r102.2.2.2.2.2.2.2.2.2.2.1)), (.d (.sl (List.map byteD r102.2.2.2.2.2.2.2.2.2.2.2)))])), (11, (.cells [(.d (.int .i64 r144.2.1)), (.d (.int .i64 r144.2.2.1)), (.d (.int .i64 r144.2.2.2.1)), (.d (.int .u64 r144.2.2.2.2.1)), (.d (.str r144.2.2.2.2.2.1)), (.d (.sl (List.map TMessage.enc r144.2.2.2.2.2.2)))])), (10, (.tok ((List.map byteD (r140 ++ ([a3] : List UInt8))).length * 1))), (1, (.cells [(.d (.int .i64 a1.fErr)), (.d (.int .i64 a1.fN)), (.d (.int .i64 a1.fID)), (.d (.int .u64 a1.fOffset)), (.d (.str a1.fText)), (.d (.sl (List.map TMessage.enc a1.fMessages)))])), (8, (.cells [(.d (.int .i64 r129.2.1)), (.d (.int .i64 r129.2.2.1)), (.d (.int .i64 r129.2.2.2.1)), (.d (.int .u64 r129.2.2.2.2.1)), (.d (.str r129.2.2.2.2.2.1)), (.d (.sl (List.map TMessage.enc r129.2.2.2.2.2.2)))])), (7, (.tok ((List.map byteD r128).length * 1))), (6, (.cells [(.d (.int .i64 r117.2.1)), (.d (.str r117.2.2.1)), (.d (.str r117.2.2.2.1)), (.d (.str r117.2.2.2.2.1)), (.d (.int .i64 r117.2.2.2.2.2.1)), (.d (.int .i64 r117.2.2.2.2.2.2.1)), (.d (.int .u64 r117.2.2.2.2.2.2.2.1)), (.d (.int .u64 r117.2.2.2.2.2.2.2.2.1)), (.d (.int .u64 r117.2.2.2.2.2.2.2.2.2.1)), (.d (.int .i64 r117.2.2.2.2.2.2.2.2.2.2.1)), (.d (.sl (List.map byteD r117.2.2.2.2.2.2.2.2.2.2.2)))])), (5, (.tok ((List.map byteD (r113 ++ ([a3] : List UInt8))).length * 1))), (2, (.tok ((List.map byteD r101).length * 1)))]) rfl rfl (Nat.le_of_ble_eq_true rfl) rfl rfl rfl rfl rfl ?_
                obtain ⟨r164, e164, h⟩ := bind_some h
                refine RegV.call0 (F61 hmix hc.2.2.2.2.2.2.1 e164) rfl rfl rfl rfl (.cons (.refl _) (.cons (.refl _) .nil)) rfl ?_
                refine RegV.p0 (v := (.d (.bool (!r164)))) rfl rfl rfl ?_
                refine RegV.p0 rfl rfl rfl ?_
                refine RegV.p0 rfl rfl rfl ?_
                refine RegV.split (fun c167 => ?_) (fun c167 => ?_)
                · have h := cond_pos c167 h
                  refine RegV.noS rfl rfl ?_
                  refine RegV.noS rfl rfl ?_
                  refine RegV.p0 rfl rfl rfl ?_
                  refine RegV.p0 rfl rfl rfl ?_
                  refine RegV.noS rfl rfl ?_
                  refine RegV.noS rfl rfl ?_
                  refine RegV.p0 rfl rfl rfl ?_
                  refine RegV.p0 rfl rfl rfl ?_
                  refine RegV.noS rfl rfl ?_
                  refine RegV.noS rfl rfl ?_
                  refine RegV.noS rfl rfl ?_
                  refine RegV.noS rfl rfl ?_
                  refine RegV.p0 rfl rfl rfl ?_
                  refine RegV.p0 rfl rfl rfl ?_
                  refine RegV.noS rfl rfl ?_
                  refine RegV.noS rfl rfl ?_
                  refine RegV.p0 rfl rfl rfl ?_
                  refine RegV.nil0 ?_
                  refine AWc.cond rfl (fun _ => ?_) (fun hc => by cases hc)
                  refine AWc.seq ?_
                  refine AWc.rg hmix rfl rfl ?_
                  refine RegV.p0 rfl rfl rfl ?_
                  refine RegV.nil0 ?_
                  have hr := Option.some.inj h
                  subst hr
                  exact AWc.ret (canQ (N := 160) (k := 0) (l' := [(8, (.d (.bool false)))]) (H' := []) rfl ⟨rfl, [], [], rfl, rfl, ⟨⟨_, rfl, (.refl _)⟩, rfl, trivial⟩,  trivial⟩ (doneA (.inr rfl) rfl ⟨trivial, trivial⟩ (.refl _) hasNil))
                · have h := cond_neg c167 h
                  refine RegV.p0 rfl rfl rfl ?_
                  refine RegV.p0 (v := (.d (.bool (decide (r117.1 ≠ (4 : Int)))))) rfl rfl rfl ?_
                  refine RegV.p0 rfl rfl rfl ?_
                  refine RegV.p0 rfl rfl rfl ?_
                  refine RegV.split (fun c171 => ?_) (fun c171 => ?_)
                  · have h := cond_pos c171 h
                    refine RegV.noS rfl rfl ?_
                    refine RegV.noS rfl rfl ?_
                    refine RegV.p0 rfl rfl rfl ?_
                    refine RegV.p0 rfl rfl rfl ?_
                    refine RegV.noS rfl rfl ?_
                    refine RegV.noS rfl rfl ?_
                    refine RegV.noS rfl rfl ?_
                    refine RegV.noS rfl rfl ?_
                    refine RegV.p0 rfl rfl rfl ?_
                    refine RegV.p0 rfl rfl rfl ?_
                    refine RegV.noS rfl rfl ?_
                    refine RegV.noS rfl rfl ?_
                    refine RegV.p0 rfl rfl rfl ?_
                    refine RegV.nil0 ?_
                    refine AWc.cond rfl (fun _ => ?_) (fun hc => by cases hc)
                    refine AWc.seq ?_
                    refine AWc.rg hmix rfl rfl ?_
                    refine RegV.p0 rfl rfl rfl ?_
                    refine RegV.nil0 ?_
                    have hr := Option.some.inj h
                    subst hr
                    exact AWc.ret (canQ (N := 160) (k := 0) (l' := [(8, (.d (.bool false)))]) (H' := []) rfl ⟨rfl, [], [], rfl, rfl, ⟨⟨_, rfl, (.refl _)⟩, rfl, trivial⟩,  trivial⟩ (doneA (.inr rfl) rfl ⟨trivial, trivial⟩ (.refl _) hasNil))
                  · have h := cond_neg c171 h
                    refine RegV.p0 rfl rfl rfl ?_
                    refine RegV.p0 (v := (.d (.bool (decide (r129.1 ≠ (0 : Int)))))) rfl rfl rfl ?_
                    refine RegV.p0 rfl rfl rfl ?_
                    refine RegV.p0 rfl rfl rfl ?_
                    refine RegV.split (fun c175 => ?_) (fun c175 => ?_)
                    · have h := cond_pos c175 h
                      refine RegV.noS rfl rfl ?_
                      refine RegV.noS rfl rfl ?_
                      refine RegV.noS rfl rfl ?_
                      refine RegV.noS rfl rfl ?_
                      refine RegV.p0 rfl rfl rfl ?_
                      refine RegV.p0 rfl rfl rfl ?_
                      refine RegV.noS rfl rfl ?_
                      refine RegV.noS rfl rfl ?_
                      refine RegV.p0 rfl rfl rfl ?_
                      refine RegV.nil0 ?_
                      refine AWc.cond rfl (fun _ => ?_) (fun hc => by cases hc)
                      refine AWc.seq ?_
                      refine AWc.rg hmix rfl rfl ?_
                      refine RegV.p0 rfl rfl rfl ?_
                      refine RegV.nil0 ?_
                      have hr := Option.some.inj h
                      subst hr
                      exact AWc.ret (canQ (N := 160) (k := 0) (l' := [(8, (.d (.bool false)))]) (H' := []) rfl ⟨rfl, [], [], rfl, rfl, ⟨⟨_, rfl, (.refl _)⟩, rfl, trivial⟩,  trivial⟩ (doneA (.inr rfl) rfl ⟨trivial, trivial⟩ (.refl _) hasNil))
                    · have h := cond_neg c175 h
                      refine RegV.ld (v := (.d (.agg [(.int .i64 r129.2.1), (.int .i64 r129.2.2.1), (.int .i64 r129.2.2.2.1), (.int .u64 r129.2.2.2.2.1), (.str r129.2.2.2.2.2.1), (.sl (List.map TMessage.enc r129.2.2.2.2.2.2))]))) (H' := [(8, (.cells [(.d (.int .i64 r129.2.1)), (.d (.int .i64 r129.2.2.1)), (.d (.int .i64 r129.2.2.2.1)), (.d (.int .u64 r129.2.2.2.2.1)), (.d (.str r129.2.2.2.2.2.1)), (.d (.sl (List.map TMessage.enc r129.2.2.2.2.2.2)))])), (0, (.cells [(.d (.int .i64 a0.fKind)), (.d (.str a0.fName)), (.d (.str a0.fText)), (.d (.str a0.fGroup)), (.d (.int .i64 a0.fN)), (.d (.int .i64 a0.fVersion)), (.d (.int .u64 a0.fProducer)), (.d (.int .u64 a0.fSeq)), (.d (.int .u64 a0.fOffset)), (.d (.int .i64 a0.fMost)), (.d (.sl (List.map byteD a0.fData)))])), (3, (.cells [(.d (.int .i64 r102.2.1)), (.d (.str r102.2.2.1)), (.d (.str r102.2.2.2.1)), (.d (.str r102.2.2.2.2.1)), (.d (.int .i64 r102.2.2.2.2.2.1)), (.d (.int .i64 r102.2.2.2.2.2.2.1)), (.d (.int .u64 r102.2.2.2.2.2.2.2.1)), (.d (.int .u64 r102.2.2.2.2.2.2.2.2.1)), (.d (.int .u64 r102.2.2.2.2.2.2.2.2.2.1)), (.d (.int .i64 r102.2.2.2.2.2.2.2.2.2.2.1)), (.d (.sl (List.map byteD r102.2.2.2.2.2.2.2.2.2.2.2)))])), (11, (.cells [(.d (.int .i64 r144.2.1)), (.d (.int .i64 r144.2.2.1)), (.d (.int .i64 r144.2.2.2.1)), (.d (.int .u64 r144.2.2.2.2.1)), (.d (.str r144.2.2.2.2.2.1)), (.d (.sl (List.map TMessage.enc r144.2.2.2.2.2.2)))])), (10, (.tok ((List.map byteD (r140 ++ ([a3] : List UInt8))).length * 1))), (1, (.cells [(.d (.int .i64 a1.fErr)), (.d (.int .i64 a1.fN)), (.d (.int .i64 a1.fID)), (.d (.int .u64 a1.fOffset)), (.d (.str a1.fText)), (.d (.sl (List.map TMessage.enc a1.fMessages)))])), (7, (.tok ((List.map byteD r128).length * 1))), (6, (.cells [(.d (.int .i64 r117.2.1)), (.d (.str r117.2.2.1)), (.d (.str r117.2.2.2.1)), (.d (.str r117.2.2.2.2.1)), (.d (.int .i64 r117.2.2.2.2.2.1)), (.d (.int .i64 r117.2.2.2.2.2.2.1)), (.d (.int .u64 r117.2.2.2.2.2.2.2.1)), (.d (.int .u64 r117.2.2.2.2.2.2.2.2.1)), (.d (.int .u64 r117.2.2.2.2.2.2.2.2.2.1)), (.d (.int .i64 r117.2.2.2.2.2.2.2.2.2.2.1)), (.d (.sl (List.map byteD r117.2.2.2.2.2.2.2.2.2.2.2)))])), (5, (.tok ((List.map byteD (r113 ++ ([a3] : List UInt8))).length * 1))), (2, (.tok ((List.map byteD r101).length * 1)))]) rfl rfl (Nat.le_of_ble_eq_true rfl) rfl rfl rfl rfl rfl ?_
                      refine RegV.ld (v := (.d (.agg [(.int .i64 a1.fErr), (.int .i64 a1.fN), (.int .i64 a1.fID), (.int .u64 a1.fOffset), (.str a1.fText), (.sl (List.map TMessage.enc a1.fMessages))]))) (H' := [(1, (.cells [(.d (.int .i64 a1.fErr)), (.d (.int .i64 a1.fN)), (.d (.int .i64 a1.fID)), (.d (.int .u64 a1.fOffset)), (.d (.str a1.fText)), (.d (.sl (List.map TMessage.enc a1.fMessages)))])), (8, (.cells [(.d (.int .i64 r129.2.1)), (.d (.int .i64 r129.2.2.1)), (.d (.int .i64 r129.2.2.2.1)), (.d (.int .u64 r129.2.2.2.2.1)), (.d (.str r129.2.2.2.2.2.1)), (.d (.sl (List.map TMessage.enc r129.2.2.2.2.2.2)))])), (0, (.cells [(.d (.int .i64 a0.fKind)), (.d (.str a0.fName)), (.d (.str a0.fText)), (.d (.str a0.fGroup)), (.d (.int .i64 a0.fN)), (.d (.int .i64 a0.fVersion)), (.d (.int .u64 a0.fProducer)), (.d (.int .u64 a0.fSeq)), (.d (.int .u64 a0.fOffset)), (.d (.int .i64 a0.fMost)), (.d (.sl (List.map byteD a0.fData)))])), (3, (.cells [(.d (.int .i64 r102.2.1)), (.d (.str r102.2.2.1)), (.d (.str r102.2.2.2.1)), (.d (.str r102.2.2.2.2.1)), (.d (.int .i64 r102.2.2.2.2.2.1)), (.d (.int .i64 r102.2.2.2.2.2.2.1)), (.d (.int .u64 r102.2.2.2.2.2.2.2.1)), (.d (.int .u64 r102.2.2.2.2.2.2.2.2.1)), (.d (.int .u64 r102.2.2.2.2.2.2.2.2.2.1)), (.d (.int .i64 r102.2.2.2.2.2.2.2.2.2.2.1)), (.d (.sl (List.map byteD r102.2.2.2.2.2.2.2.2.2.2.2)))])), (11, (.cells [(.d (.int .i64 r144.2.1)), (.d (.int .i64 r144.2.2.1)), (.d (.int .i64 r144.2.2.2.1)), (.d (.int .u64 r144.2.2.2.2.1)), (.d (.str r144.2.2.2.2.2.1)), (.d (.sl (List.map TMessage.enc r144.2.2.2.2.2.2)))])), (10, (.tok ((List.map byteD (r140 ++ ([a3] : List UInt8))).length * 1))), (7, (.tok ((List.map byteD r128).length * 1))), (6, (.cells [(.d (.int .i64 r117.2.1)), (.d (.str r117.2.2.1)), (.d (.str r117.2.2.2.1)), (.d (.str r117.2.2.2.2.1)), (.d (.int .i64 r117.2.2.2.2.2.1)), (.d (.int .i64 r117.2.2.2.2.2.2.1)), (.d (.int .u64 r117.2.2.2.2.2.2.2.1)), (.d (.int .u64 r117.2.2.2.2.2.2.2.2.1)), (.d (.int .u64 r117.2.2.2.2.2.2.2.2.2.1)), (.d (.int .i64 r117.2.2.2.2.2.2.2.2.2.2.1)), (.d (.sl (List.map byteD r117.2.2.2.2.2.2.2.2.2.2.2)))])), (5, (.tok ((List.map byteD (r113 ++ ([a3] : List UInt8))).length * 1))), (2, (.tok ((List.map byteD r101).length * 1)))]) rfl rfl (Nat.le_of_ble_eq_true rfl) rfl rfl rfl rfl rfl ?_
                      obtain ⟨r178, e178, h⟩ := bind_some h
                      refine RegV.call0 (F67 hmix hc.2.2.2.2.2.2.2.1 e178) rfl rfl rfl rfl (.cons (.refl _) (.cons (.refl _) .nil)) rfl ?_
                      refine RegV.p0 (v := (.d (.bool (!r178)))) rfl rfl rfl ?_
                      refine RegV.p0 rfl rfl rfl ?_
                      refine RegV.p0 rfl rfl rfl ?_
                      refine RegV.split (fun c181 => ?_) (fun c181 => ?_)
                      · have h := cond_pos c181 h
                        refine RegV.noS rfl rfl ?_
                        refine RegV.noS rfl rfl ?_
                        refine RegV.p0 rfl rfl rfl ?_
                        refine RegV.nil0 ?_
                        refine AWc.cond rfl (fun _ => ?_) (fun hc => by cases hc)
                        refine AWc.seq ?_
                        refine AWc.rg hmix rfl rfl ?_
                        refine RegV.p0 rfl rfl rfl ?_
                        refine RegV.nil0 ?_
                        have hr := Option.some.inj h
                        subst hr
                        exact AWc.ret (canQ (N := 160) (k := 0) (l' := [(8, (.d (.bool false)))]) (H' := []) rfl ⟨rfl, [], [], rfl, rfl, ⟨⟨_, rfl, (.refl _)⟩, rfl, trivial⟩,  trivial⟩ (doneA (.inr rfl) rfl ⟨trivial, trivial⟩ (.refl _) hasNil))
                      · have h := cond_neg c181 h
                        refine RegV.p0 rfl rfl rfl ?_
                        refine RegV.p0 (v := (.d (.bool (decide (r144.1 ≠ (4 : Int)))))) rfl rfl rfl ?_
                        refine RegV.p0 rfl rfl rfl ?_
                        refine RegV.nil0 ?_
                        refine AWc.cond rfl (fun c185 => ?_) (fun c185 => ?_)
                        · have h := cond_pos c185 h
                          refine AWc.seq ?_
                          refine AWc.rg hmix rfl rfl ?_
                          refine RegV.p0 rfl rfl rfl ?_
                          refine RegV.nil0 ?_
                          have hr := Option.some.inj h
                          subst hr
                          exact AWc.ret (canQ (N := 160) (k := 0) (l' := [(8, (.d (.bool false)))]) (H' := []) rfl ⟨rfl, [], [], rfl, rfl, ⟨⟨_, rfl, (.refl _)⟩, rfl, trivial⟩,  trivial⟩ (doneA (.inr rfl) rfl ⟨trivial, trivial⟩ (.refl _) hasNil))
                        · have h := cond_neg c185 h
                          refine AWc.skip ?_
                          refine AWc.seq ?_
                          refine AWc.rg hmix rfl rfl ?_
                          refine RegV.p0 rfl rfl rfl ?_
                          obtain ⟨r196, e196, h⟩ := bind_some h
                          refine RegV.call0 (F57 hmix hc.2.2.2.1 e196) rfl rfl rfl rfl (.cons (.refl _) .nil) rfl ?_
                          refine RegV.p0 rfl rfl rfl ?_
                          refine RegV.p0 rfl rfl rfl ?_
                          refine RegV.p0 rfl rfl rfl ?_
                          refine RegV.evS (own := false) (v := (.ptr 12 0)) (H' := [(12, (.cells [(.d (.int .i64 (0 : Int))), (.d (.str ([] : List UInt8))), (.d (.str ([] : List UInt8))), (.d (.str ([] : List UInt8))), (.d (.int .i64 (0 : Int))), (.d (.int .i64 (0 : Int))), (.d (.int .u64 (0 : Int))), (.d (.int .u64 (0 : Int))), (.d (.int .u64 (0 : Int))), (.d (.int .i64 (0 : Int))), .nils])), (1, (.cells [(.d (.int .i64 a1.fErr)), (.d (.int .i64 a1.fN)), (.d (.int .i64 a1.fID)), (.d (.int .u64 a1.fOffset)), (.d (.str a1.fText)), (.d (.sl (List.map TMessage.enc a1.fMessages)))])), (8, (.cells [(.d (.int .i64 r129.2.1)), (.d (.int .i64 r129.2.2.1)), (.d (.int .i64 r129.2.2.2.1)), (.d (.int .u64 r129.2.2.2.2.1)), (.d (.str r129.2.2.2.2.2.1)), (.d (.sl (List.map TMessage.enc r129.2.2.2.2.2.2)))])), (0, (.cells [(.d (.int .i64 a0.fKind)), (.d (.str a0.fName)), (.d (.str a0.fText)), (.d (.str a0.fGroup)), (.d (.int .i64 a0.fN)), (.d (.int .i64 a0.fVersion)), (.d (.int .u64 a0.fProducer)), (.d (.int .u64 a0.fSeq)), (.d (.int .u64 a0.fOffset)), (.d (.int .i64 a0.fMost)), (.d (.sl (List.map byteD a0.fData)))])), (3, (.cells [(.d (.int .i64 r102.2.1)), (.d (.str r102.2.2.1)), (.d (.str r102.2.2.2.1)), (.d (.str r102.2.2.2.2.1)), (.d (.int .i64 r102.2.2.2.2.2.1)), (.d (.int .i64 r102.2.2.2.2.2.2.1)), (.d (.int .u64 r102.2.2.2.2.2.2.2.1)), (.d (.int .u64 r102.2.2.2.2.2.2.2.2.1)), (.d (.int .u64 r102.2.2.2.2.2.2.2.2.2.1)), (.d (.int .i64 r102.2.2.2.2.2.2.2.2.2.2.1)), (.d (.sl (List.map byteD r102.2.2.2.2.2.2.2.2.2.2.2)))])), (11, (.cells [(.d (.int .i64 r144.2.1)), (.d (.int .i64 r144.2.2.1)), (.d (.int .i64 r144.2.2.2.1)), (.d (.int .u64 r144.2.2.2.2.1)), (.d (.str r144.2.2.2.2.2.1)), (.d (.sl (List.map TMessage.enc r144.2.2.2.2.2.2)))])), (10, (.tok ((List.map byteD (r140 ++ ([a3] : List UInt8))).length * 1))), (7, (.tok ((List.map byteD r128).length * 1))), (6, (.cells [(.d (.int .i64 r117.2.1)), (.d (.str r117.2.2.1)), (.d (.str r117.2.2.2.1)), (.d (.str r117.2.2.2.2.1)), (.d (.int .i64 r117.2.2.2.2.2.1)), (.d (.int .i64 r117.2.2.2.2.2.2.1)), (.d (.int .u64 r117.2.2.2.2.2.2.2.1)), (.d (.int .u64 r117.2.2.2.2.2.2.2.2.1)), (.d (.int .u64 r117.2.2.2.2.2.2.2.2.2.1)), (.d (.int .i64 r117.2.2.2.2.2.2.2.2.2.2.1)), (.d (.sl (List.map byteD r117.2.2.2.2.2.2.2.2.2.2.2)))])), (5, (.tok ((List.map byteD (r113 ++ ([a3] : List UInt8))).length * 1))), (2, (.tok ((List.map byteD r101).length * 1)))]) (c' := 13) rfl rfl trivial rfl rfl rfl rfl rfl rfl ?_
                          refine RegV.evN (own := false) (H' := [(12, (.cells [(.d (.int .i64 r196.2.1)), (.d (.str r196.2.2.1)), (.d (.str r196.2.2.2.1)), (.d (.str r196.2.2.2.2.1)), (.d (.int .i64 r196.2.2.2.2.2.1)), (.d (.int .i64 r196.2.2.2.2.2.2.1)), (.d (.int .u64 r196.2.2.2.2.2.2.2.1)), (.d (.int .u64 r196.2.2.2.2.2.2.2.2.1)), (.d (.int .u64 r196.2.2.2.2.2.2.2.2.2.1)), (.d (.int .i64 r196.2.2.2.2.2.2.2.2.2.2.1)), (.d (.sl (List.map byteD r196.2.2.2.2.2.2.2.2.2.2.2)))])), (1, (.cells [(.d (.int .i64 a1.fErr)), (.d (.int .i64 a1.fN)), (.d (.int .i64 a1.fID)), (.d (.int .u64 a1.fOffset)), (.d (.str a1.fText)), (.d (.sl (List.map TMessage.enc a1.fMessages)))])), (8, (.cells [(.d (.int .i64 r129.2.1)), (.d (.int .i64 r129.2.2.1)), (.d (.int .i64 r129.2.2.2.1)), (.d (.int .u64 r129.2.2.2.2.1)), (.d (.str r129.2.2.2.2.2.1)), (.d (.sl (List.map TMessage.enc r129.2.2.2.2.2.2)))])), (0, (.cells [(.d (.int .i64 a0.fKind)), (.d (.str a0.fName)), (.d (.str a0.fText)), (.d (.str a0.fGroup)), (.d (.int .i64 a0.fN)), (.d (.int .i64 a0.fVersion)), (.d (.int .u64 a0.fProducer)), (.d (.int .u64 a0.fSeq)), (.d (.int .u64 a0.fOffset)), (.d (.int .i64 a0.fMost)), (.d (.sl (List.map byteD a0.fData)))])), (3, (.cells [(.d (.int .i64 r102.2.1)), (.d (.str r102.2.2.1)), (.d (.str r102.2.2.2.1)), (.d (.str r102.2.2.2.2.1)), (.d (.int .i64 r102.2.2.2.2.2.1)), (.d (.int .i64 r102.2.2.2.2.2.2.1)), (.d (.int .u64 r102.2.2.2.2.2.2.2.1)), (.d (.int .u64 r102.2.2.2.2.2.2.2.2.1)), (.d (.int .u64 r102.2.2.2.2.2.2.2.2.2.1)), (.d (.int .i64 r102.2.2.2.2.2.2.2.2.2.2.1)), (.d (.sl (List.map byteD r102.2.2.2.2.2.2.2.2.2.2.2)))])), (11, (.cells [(.d (.int .i64 r144.2.1)), (.d (.int .i64 r144.2.2.1)), (.d (.int .i64 r144.2.2.2.1)), (.d (.int .u64 r144.2.2.2.2.1)), (.d (.str r144.2.2.2.2.2.1)), (.d (.sl (List.map TMessage.enc r144.2.2.2.2.2.2)))])), (10, (.tok ((List.map byteD (r140 ++ ([a3] : List UInt8))).length * 1))), (7, (.tok ((List.map byteD r128).length * 1))), (6, (.cells [(.d (.int .i64 r117.2.1)), (.d (.str r117.2.2.1)), (.d (.str r117.2.2.2.1)), (.d (.str r117.2.2.2.2.1)), (.d (.int .i64 r117.2.2.2.2.2.1)), (.d (.int .i64 r117.2.2.2.2.2.2.1)), (.d (.int .u64 r117.2.2.2.2.2.2.2.1)), (.d (.int .u64 r117.2.2.2.2.2.2.2.2.1)), (.d (.int .u64 r117.2.2.2.2.2.2.2.2.2.1)), (.d (.int .i64 r117.2.2.2.2.2.2.2.2.2.2.1)), (.d (.sl (List.map byteD r117.2.2.2.2.2.2.2.2.2.2.2)))])), (5, (.tok ((List.map byteD (r113 ++ ([a3] : List UInt8))).length * 1))), (2, (.tok ((List.map byteD r101).length * 1)))]) (c' := 13) rfl rfl (by exact ⟨rfl, Nat.le_of_ble_eq_true rfl, rfl⟩) rfl rfl rfl rfl ?_
                          refine RegV.p0 rfl rfl rfl ?_
                          refine RegV.nil0 ?_
                          refine AWc.seq ?_
                          refine AWc.rg hmix rfl rfl ?_
                          refine RegV.p0 rfl rfl rfl ?_
                          obtain ⟨r207, e207, h⟩ := bind_some h
                          refine RegV.call0 (F63 hmix hc.2.2.2.2.2.1 e207) rfl rfl rfl rfl (.cons (.refl _) .nil) rfl ?_
                          refine RegV.p0 rfl rfl rfl ?_
                          refine RegV.p0 rfl rfl rfl ?_
                          refine RegV.p0 rfl rfl rfl ?_
                          refine RegV.evS (own := false) (v := (.ptr 13 0)) (H' := [(13, (.cells [(.d (.int .i64 (0 : Int))), (.d (.int .i64 (0 : Int))), (.d (.int .i64 (0 : Int))), (.d (.int .u64 (0 : Int))), (.d (.str ([] : List UInt8))), .nils])), (12, (.cells [(.d (.int .i64 r196.2.1)), (.d (.str r196.2.2.1)), (.d (.str r196.2.2.2.1)), (.d (.str r196.2.2.2.2.1)), (.d (.int .i64 r196.2.2.2.2.2.1)), (.d (.int .i64 r196.2.2.2.2.2.2.1)), (.d (.int .u64 r196.2.2.2.2.2.2.2.1)), (.d (.int .u64 r196.2.2.2.2.2.2.2.2.1)), (.d (.int .u64 r196.2.2.2.2.2.2.2.2.2.1)), (.d (.int .i64 r196.2.2.2.2.2.2.2.2.2.2.1)), (.d (.sl (List.map byteD r196.2.2.2.2.2.2.2.2.2.2.2)))])), (1, (.cells [(.d (.int .i64 a1.fErr)), (.d (.int .i64 a1.fN)), (.d (.int .i64 a1.fID)), (.d (.int .u64 a1.fOffset)), (.d (.str a1.fText)), (.d (.sl (List.map TMessage.enc a1.fMessages)))])), (8, (.cells [(.d (.int .i64 r129.2.1)), (.d (.int .i64 r129.2.2.1)), (.d (.int .i64 r129.2.2.2.1)), (.d (.int .u64 r129.2.2.2.2.1)), (.d (.str r129.2.2.2.2.2.1)), (.d (.sl (List.map TMessage.enc r129.2.2.2.2.2.2)))])), (0, (.cells [(.d (.int .i64 a0.fKind)), (.d (.str a0.fName)), (.d (.str a0.fText)), (.d (.str a0.fGroup)), (.d (.int .i64 a0.fN)), (.d (.int .i64 a0.fVersion)), (.d (.int .u64 a0.fProducer)), (.d (.int .u64 a0.fSeq)), (.d (.int .u64 a0.fOffset)), (.d (.int .i64 a0.fMost)), (.d (.sl (List.map byteD a0.fData)))])), (3, (.cells [(.d (.int .i64 r102.2.1)), (.d (.str r102.2.2.1)), (.d (.str r102.2.2.2.1)), (.d (.str r102.2.2.2.2.1)), (.d (.int .i64 r102.2.2.2.2.2.1)), (.d (.int .i64 r102.2.2.2.2.2.2.1)), (.d (.int .u64 r102.2.2.2.2.2.2.2.1)), (.d (.int .u64 r102.2.2.2.2.2.2.2.2.1)), (.d (.int .u64 r102.2.2.2.2.2.2.2.2.2.1)), (.d (.int .i64 r102.2.2.2.2.2.2.2.2.2.2.1)), (.d (.sl (List.map byteD r102.2.2.2.2.2.2.2.2.2.2.2)))])), (11, (.cells [(.d (.int .i64 r144.2.1)), (.d (.int .i64 r144.2.2.1)), (.d (.int .i64 r144.2.2.2.1)), (.d (.int .u64 r144.2.2.2.2.1)), (.d (.str r144.2.2.2.2.2.1)), (.d (.sl (List.map TMessage.enc r144.2.2.2.2.2.2)))])), (10, (.tok ((List.map byteD (r140 ++ ([a3] : List UInt8))).length * 1))), (7, (.tok ((List.map byteD r128).length * 1))), (6, (.cells [(.d (.int .i64 r117.2.1)), (.d (.str r117.2.2.1)), (.d (.str r117.2.2.2.1)), (.d (.str r117.2.2.2.2.1)), (.d (.int .i64 r117.2.2.2.2.2.1)), (.d (.int .i64 r117.2.2.2.2.2.2.1)), (.d (.int .u64 r117.2.2.2.2.2.2.2.1)), (.d (.int .u64 r117.2.2.2.2.2.2.2.2.1)), (.d (.int .u64 r117.2.2.2.2.2.2.2.2.2.1)), (.d (.int .i64 r117.2.2.2.2.2.2.2.2.2.2.1)), (.d (.sl (List.map byteD r117.2.2.2.2.2.2.2.2.2.2.2)))])), (5, (.tok ((List.map byteD (r113 ++ ([a3] : List UInt8))).length * 1))), (2, (.tok ((List.map byteD r101).length * 1)))]) (c' := 14) rfl rfl trivial rfl rfl rfl rfl rfl rfl ?_
                          refine RegV.evN (own := false) (H' := [(13, (.cells [(.d (.int .i64 r207.2.1)), (.d (.int .i64 r207.2.2.1)), (.d (.int .i64 r207.2.2.2.1)), (.d (.int .u64 r207.2.2.2.2.1)), (.d (.str r207.2.2.2.2.2.1)), (.d (.sl (List.map TMessage.enc r207.2.2.2.2.2.2)))])), (12, (.cells [(.d (.int .i64 r196.2.1)), (.d (.str r196.2.2.1)), (.d (.str r196.2.2.2.1)), (.d (.str r196.2.2.2.2.1)), (.d (.int .i64 r196.2.2.2.2.2.1)), (.d (.int .i64 r196.2.2.2.2.2.2.1)), (.d (.int .u64 r196.2.2.2.2.2.2.2.1)), (.d (.int .u64 r196.2.2.2.2.2.2.2.2.1)), (.d (.int .u64 r196.2.2.2.2.2.2.2.2.2.1)), (.d (.int .i64 r196.2.2.2.2.2.2.2.2.2.2.1)), (.d (.sl (List.map byteD r196.2.2.2.2.2.2.2.2.2.2.2)))])), (1, (.cells [(.d (.int .i64 a1.fErr)), (.d (.int .i64 a1.fN)), (.d (.int .i64 a1.fID)), (.d (.int .u64 a1.fOffset)), (.d (.str a1.fText)), (.d (.sl (List.map TMessage.enc a1.fMessages)))])), (8, (.cells [(.d (.int .i64 r129.2.1)), (.d (.int .i64 r129.2.2.1)), (.d (.int .i64 r129.2.2.2.1)), (.d (.int .u64 r129.2.2.2.2.1)), (.d (.str r129.2.2.2.2.2.1)), (.d (.sl (List.map TMessage.enc r129.2.2.2.2.2.2)))])), (0, (.cells [(.d (.int .i64 a0.fKind)), (.d (.str a0.fName)), (.d (.str a0.fText)), (.d (.str a0.fGroup)), (.d (.int .i64 a0.fN)), (.d (.int .i64 a0.fVersion)), (.d (.int .u64 a0.fProducer)), (.d (.int .u64 a0.fSeq)), (.d (.int .u64 a0.fOffset)), (.d (.int .i64 a0.fMost)), (.d (.sl (List.map byteD a0.fData)))])), (3, (.cells [(.d (.int .i64 r102.2.1)), (.d (.str r102.2.2.1)), (.d (.str r102.2.2.2.1)), (.d (.str r102.2.2.2.2.1)), (.d (.int .i64 r102.2.2.2.2.2.1)), (.d (.int .i64 r102.2.2.2.2.2.2.1)), (.d (.int .u64 r102.2.2.2.2.2.2.2.1)), (.d (.int .u64 r102.2.2.2.2.2.2.2.2.1)), (.d (.int .u64 r102.2.2.2.2.2.2.2.2.2.1)), (.d (.int .i64 r102.2.2.2.2.2.2.2.2.2.2.1)), (.d (.sl (List.map byteD r102.2.2.2.2.2.2.2.2.2.2.2)))])), (11, (.cells [(.d (.int .i64 r144.2.1)), (.d (.int .i64 r144.2.2.1)), (.d (.int .i64 r144.2.2.2.1)), (.d (.int .u64 r144.2.2.2.2.1)), (.d (.str r144.2.2.2.2.2.1)), (.d (.sl (List.map TMessage.enc r144.2.2.2.2.2.2)))])), (10, (.tok ((List.map byteD (r140 ++ ([a3] : List UInt8))).length * 1))), (7, (.tok ((List.map byteD r128).length * 1))), (6, (.cells [(.d (.int .i64 r117.2.1)), (.d (.str r117.2.2.1)), (.d (.str r117.2.2.2.1)), (.d (.str r117.2.2.2.2.1)), (.d (.int .i64 r117.2.2.2.2.2.1)), (.d (.int .i64 r117.2.2.2.2.2.2.1)), (.d (.int .u64 r117.2.2.2.2.2.2.2.1)), (.d (.int .u64 r117.2.2.2.2.2.2.2.2.1)), (.d (.int .u64 r117.2.2.2.2.2.2.2.2.2.1)), (.d (.int .i64 r117.2.2.2.2.2.2.2.2.2.2.1)), (.d (.sl (List.map byteD r117.2.2.2.2.2.2.2.2.2.2.2)))])), (5, (.tok ((List.map byteD (r113 ++ ([a3] : List UInt8))).length * 1))), (2, (.tok ((List.map byteD r101).length * 1)))]) (c' := 14) rfl rfl (by exact ⟨rfl, Nat.le_of_ble_eq_true rfl, rfl⟩) rfl rfl rfl rfl ?_
                          refine RegV.p0 rfl rfl rfl ?_
                          refine RegV.nil0 ?_
                          refine AWc.seq ?_
                          refine AWc.rg hmix rfl rfl ?_
                          refine RegV.p0 rfl rfl rfl ?_
                          refine RegV.p0 (v := (.d (.bool (decide (r196.1 ≠ (0 : Int)))))) rfl rfl rfl ?_
                          refine RegV.p0 rfl rfl rfl ?_
                          refine RegV.split (fun c219 => ?_) (fun c219 => ?_)
                          · have h := cond_pos c219 h
                            refine RegV.noS rfl rfl ?_
                            refine RegV.noS rfl rfl ?_
                            refine RegV.noS rfl rfl ?_
                            refine RegV.noS rfl rfl ?_
                            refine RegV.p0 rfl rfl rfl ?_
                            refine RegV.p0 rfl rfl rfl ?_
                            refine RegV.p0 rfl rfl rfl ?_
                            refine RegV.p0 (v := (.d (.bool (decide (r207.1 ≠ (0 : Int)))))) rfl rfl rfl ?_
                            refine RegV.p0 rfl rfl rfl ?_
                            refine RegV.split (fun c228 => ?_) (fun c228 => ?_)
                            · have h := cond_pos c228 h
                              refine RegV.noS rfl rfl ?_
                              refine RegV.noS rfl rfl ?_
                              refine RegV.noS rfl rfl ?_
                              refine RegV.noS rfl rfl ?_
                              refine RegV.p0 rfl rfl rfl ?_
                              refine RegV.p0 rfl rfl rfl ?_
                              refine RegV.p0 rfl rfl rfl ?_
                              refine RegV.nil0 ?_
                              have hr := Option.some.inj h
                              subst hr
                              exact AWc.ret (canQ (N := 160) (k := 0) (l' := [(8, (.d (.bool true)))]) (H' := []) rfl ⟨rfl, [], [], rfl, rfl, ⟨⟨_, rfl, (.refl _)⟩, rfl, trivial⟩,  trivial⟩ (doneA (.inr rfl) rfl ⟨trivial, trivial⟩ (.refl _) hasNil))
                            · have h := cond_neg c228 h
                              refine RegV.ld (v := (.d (.agg [(.int .i64 r207.2.1), (.int .i64 r207.2.2.1), (.int .i64 r207.2.2.2.1), (.int .u64 r207.2.2.2.2.1), (.str r207.2.2.2.2.2.1), (.sl (List.map TMessage.enc r207.2.2.2.2.2.2))]))) (H' := [(13, (.cells [(.d (.int .i64 r207.2.1)), (.d (.int .i64 r207.2.2.1)), (.d (.int .i64 r207.2.2.2.1)), (.d (.int .u64 r207.2.2.2.2.1)), (.d (.str r207.2.2.2.2.2.1)), (.d (.sl (List.map TMessage.enc r207.2.2.2.2.2.2)))])), (12, (.cells [(.d (.int .i64 r196.2.1)), (.d (.str r196.2.2.1)), (.d (.str r196.2.2.2.1)), (.d (.str r196.2.2.2.2.1)), (.d (.int .i64 r196.2.2.2.2.2.1)), (.d (.int .i64 r196.2.2.2.2.2.2.1)), (.d (.int .u64 r196.2.2.2.2.2.2.2.1)), (.d (.int .u64 r196.2.2.2.2.2.2.2.2.1)), (.d (.int .u64 r196.2.2.2.2.2.2.2.2.2.1)), (.d (.int .i64 r196.2.2.2.2.2.2.2.2.2.2.1)), (.d (.sl (List.map byteD r196.2.2.2.2.2.2.2.2.2.2.2)))])), (1, (.cells [(.d (.int .i64 a1.fErr)), (.d (.int .i64 a1.fN)), (.d (.int .i64 a1.fID)), (.d (.int .u64 a1.fOffset)), (.d (.str a1.fText)), (.d (.sl (List.map TMessage.enc a1.fMessages)))])), (8, (.cells [(.d (.int .i64 r129.2.1)), (.d (.int .i64 r129.2.2.1)), (.d (.int .i64 r129.2.2.2.1)), (.d (.int .u64 r129.2.2.2.2.1)), (.d (.str r129.2.2.2.2.2.1)), (.d (.sl (List.map TMessage.enc r129.2.2.2.2.2.2)))])), (0, (.cells [(.d (.int .i64 a0.fKind)), (.d (.str a0.fName)), (.d (.str a0.fText)), (.d (.str a0.fGroup)), (.d (.int .i64 a0.fN)), (.d (.int .i64 a0.fVersion)), (.d (.int .u64 a0.fProducer)), (.d (.int .u64 a0.fSeq)), (.d (.int .u64 a0.fOffset)), (.d (.int .i64 a0.fMost)), (.d (.sl (List.map byteD a0.fData)))])), (3, (.cells [(.d (.int .i64 r102.2.1)), (.d (.str r102.2.2.1)), (.d (.str r102.2.2.2.1)), (.d (.str r102.2.2.2.2.1)), (.d (.int .i64 r102.2.2.2.2.2.1)), (.d (.int .i64 r102.2.2.2.2.2.2.1)), (.d (.int .u64 r102.2.2.2.2.2.2.2.1)), (.d (.int .u64 r102.2.2.2.2.2.2.2.2.1)), (.d (.int .u64 r102.2.2.2.2.2.2.2.2.2.1)), (.d (.int .i64 r102.2.2.2.2.2.2.2.2.2.2.1)), (.d (.sl (List.map byteD r102.2.2.2.2.2.2.2.2.2.2.2)))])), (11, (.cells [(.d (.int .i64 r144.2.1)), (.d (.int .i64 r144.2.2.1)), (.d (.int .i64 r144.2.2.2.1)), (.d (.int .u64 r144.2.2.2.2.1)), (.d (.str r144.2.2.2.2.2.1)), (.d (.sl (List.map TMessage.enc r144.2.2.2.2.2.2)))])), (10, (.tok ((List.map byteD (r140 ++ ([a3] : List UInt8))).length * 1))), (7, (.tok ((List.map byteD r128).length * 1))), (6, (.cells [(.d (.int .i64 r117.2.1)), (.d (.str r117.2.2.1)), (.d (.str r117.2.2.2.1)), (.d (.str r117.2.2.2.2.1)), (.d (.int .i64 r117.2.2.2.2.2.1)), (.d (.int .i64 r117.2.2.2.2.2.2.1)), (.d (.int .u64 r117.2.2.2.2.2.2.2.1)), (.d (.int .u64 r117.2.2.2.2.2.2.2.2.1)), (.d (.int .u64 r117.2.2.2.2.2.2.2.2.2.1)), (.d (.int .i64 r117.2.2.2.2.2.2.2.2.2.2.1)), (.d (.sl (List.map byteD r117.2.2.2.2.2.2.2.2.2.2.2)))])), (5, (.tok ((List.map byteD (r113 ++ ([a3] : List UInt8))).length * 1))), (2, (.tok ((List.map byteD r101).length * 1)))]) rfl rfl (Nat.le_of_ble_eq_true rfl) rfl rfl rfl rfl rfl ?_
                              obtain ⟨r230, e230, h⟩ := bind_some h
                              refine RegV.callS (q := false) (H' := [(14, (.tok ((List.map byteD r230).length * 1))), (13, (.cells [(.d (.int .i64 r207.2.1)), (.d (.int .i64 r207.2.2.1)), (.d (.int .i64 r207.2.2.2.1)), (.d (.int .u64 r207.2.2.2.2.1)), (.d (.str r207.2.2.2.2.2.1)), (.d (.sl (List.map TMessage.enc r207.2.2.2.2.2.2)))])), (12, (.cells [(.d (.int .i64 r196.2.1)), (.d (.str r196.2.2.1)), (.d (.str r196.2.2.2.1)), (.d (.str r196.2.2.2.2.1)), (.d (.int .i64 r196.2.2.2.2.2.1)), (.d (.int .i64 r196.2.2.2.2.2.2.1)), (.d (.int .u64 r196.2.2.2.2.2.2.2.1)), (.d (.int .u64 r196.2.2.2.2.2.2.2.2.1)), (.d (.int .u64 r196.2.2.2.2.2.2.2.2.2.1)), (.d (.int .i64 r196.2.2.2.2.2.2.2.2.2.2.1)), (.d (.sl (List.map byteD r196.2.2.2.2.2.2.2.2.2.2.2)))])), (1, (.cells [(.d (.int .i64 a1.fErr)), (.d (.int .i64 a1.fN)), (.d (.int .i64 a1.fID)), (.d (.int .u64 a1.fOffset)), (.d (.str a1.fText)), (.d (.sl (List.map TMessage.enc a1.fMessages)))])), (8, (.cells [(.d (.int .i64 r129.2.1)), (.d (.int .i64 r129.2.2.1)), (.d (.int .i64 r129.2.2.2.1)), (.d (.int .u64 r129.2.2.2.2.1)), (.d (.str r129.2.2.2.2.2.1)), (.d (.sl (List.map TMessage.enc r129.2.2.2.2.2.2)))])), (0, (.cells [(.d (.int .i64 a0.fKind)), (.d (.str a0.fName)), (.d (.str a0.fText)), (.d (.str a0.fGroup)), (.d (.int .i64 a0.fN)), (.d (.int .i64 a0.fVersion)), (.d (.int .u64 a0.fProducer)), (.d (.int .u64 a0.fSeq)), (.d (.int .u64 a0.fOffset)), (.d (.int .i64 a0.fMost)), (.d (.sl (List.map byteD a0.fData)))])), (3, (.cells [(.d (.int .i64 r102.2.1)), (.d (.str r102.2.2.1)), (.d (.str r102.2.2.2.1)), (.d (.str r102.2.2.2.2.1)), (.d (.int .i64 r102.2.2.2.2.2.1)), (.d (.int .i64 r102.2.2.2.2.2.2.1)), (.d (.int .u64 r102.2.2.2.2.2.2.2.1)), (.d (.int .u64 r102.2.2.2.2.2.2.2.2.1)), (.d (.int .u64 r102.2.2.2.2.2.2.2.2.2.1)), (.d (.int .i64 r102.2.2.2.2.2.2.2.2.2.2.1)), (.d (.sl (List.map byteD r102.2.2.2.2.2.2.2.2.2.2.2)))])), (11, (.cells [(.d (.int .i64 r144.2.1)), (.d (.int .i64 r144.2.2.1)), (.d (.int .i64 r144.2.2.2.1)), (.d (.int .u64 r144.2.2.2.2.1)), (.d (.str r144.2.2.2.2.2.1)), (.d (.sl (List.map TMessage.enc r144.2.2.2.2.2.2)))])), (10, (.tok ((List.map byteD (r140 ++ ([a3] : List UInt8))).length * 1))), (7, (.tok ((List.map byteD r128).length * 1))), (6, (.cells [(.d (.int .i64 r117.2.1)), (.d (.str r117.2.2.1)), (.d (.str r117.2.2.2.1)), (.d (.str r117.2.2.2.2.1)), (.d (.int .i64 r117.2.2.2.2.2.1)), (.d (.int .i64 r117.2.2.2.2.2.2.1)), (.d (.int .u64 r117.2.2.2.2.2.2.2.1)), (.d (.int .u64 r117.2.2.2.2.2.2.2.2.1)), (.d (.int .u64 r117.2.2.2.2.2.2.2.2.2.1)), (.d (.int .i64 r117.2.2.2.2.2.2.2.2.2.2.1)), (.d (.sl (List.map byteD r117.2.2.2.2.2.2.2.2.2.2.2)))])), (5, (.tok ((List.map byteD (r113 ++ ([a3] : List UInt8))).length * 1))), (2, (.tok ((List.map byteD r101).length * 1)))]) (c' := 15) (show ACalls P (N 65) [(.d (TReply.enc (TReply.mk r207.2.1 r207.2.2.1 r207.2.2.2.1 r207.2.2.2.2.1 r207.2.2.2.2.2.1 r207.2.2.2.2.2.2)))] [] (.ap 14 1 (List.map byteD r230)) [(14, (.tok ((List.map byteD r230).length * 1)))] from ACalls.use (F65 hmix hc.2.2.2.2.1 e230) [(0, 14)] 1 rfl) rfl rfl rfl rfl (.cons (.refl _) .nil) (.refl _) (fun h => by cases h) rfl hasNil rfl rfl rfl rfl ?_
                              refine RegV.p0 rfl rfl rfl ?_
                              obtain ⟨r232, e232, h⟩ := bind_some h
                              refine RegV.call0 (F22 hmix hc.2.2.2.2.2.2.2.2 e232) rfl rfl rfl rfl (.cons (.sl rfl) (.cons (.refl _) .nil)) rfl ?_
                              refine RegV.p0 rfl rfl rfl ?_
                              refine RegV.p0 rfl rfl rfl ?_
                              refine RegV.p0 rfl rfl rfl ?_
                              refine RegV.nil0 ?_
                              have hr := Option.some.inj h
                              subst hr
                              exact AWc.ret (canQ (N := 160) (k := 0) (l' := [(8, (.d (.bool (decide (r230 = a2)))))]) (H' := []) rfl ⟨rfl, [], [], rfl, rfl, ⟨⟨_, rfl, (.refl _)⟩, rfl, trivial⟩,  trivial⟩ (doneA (.inr rfl) rfl ⟨trivial, trivial⟩ (.refl _) hasNil))
                          · have h := cond_neg c219 h
                            refine RegV.ld (v := (.d (.agg [(.int .i64 r196.2.1), (.str r196.2.2.1), (.str r196.2.2.2.1), (.str r196.2.2.2.2.1), (.int .i64 r196.2.2.2.2.2.1), (.int .i64 r196.2.2.2.2.2.2.1), (.int .u64 r196.2.2.2.2.2.2.2.1), (.int .u64 r196.2.2.2.2.2.2.2.2.1), (.int .u64 r196.2.2.2.2.2.2.2.2.2.1), (.int .i64 r196.2.2.2.2.2.2.2.2.2.2.1), (.sl (List.map byteD r196.2.2.2.2.2.2.2.2.2.2.2))]))) (H' := [(12, (.cells [(.d (.int .i64 r196.2.1)), (.d (.str r196.2.2.1)), (.d (.str r196.2.2.2.1)), (.d (.str r196.2.2.2.2.1)), (.d (.int .i64 r196.2.2.2.2.2.1)), (.d (.int .i64 r196.2.2.2.2.2.2.1)), (.d (.int .u64 r196.2.2.2.2.2.2.2.1)), (.d (.int .u64 r196.2.2.2.2.2.2.2.2.1)), (.d (.int .u64 r196.2.2.2.2.2.2.2.2.2.1)), (.d (.int .i64 r196.2.2.2.2.2.2.2.2.2.2.1)), (.d (.sl (List.map byteD r196.2.2.2.2.2.2.2.2.2.2.2)))])), (13, (.cells [(.d (.int .i64 r207.2.1)), (.d (.int .i64 r207.2.2.1)), (.d (.int .i64 r207.2.2.2.1)), (.d (.int .u64 r207.2.2.2.2.1)), (.d (.str r207.2.2.2.2.2.1)), (.d (.sl (List.map TMessage.enc r207.2.2.2.2.2.2)))])), (1, (.cells [(.d (.int .i64 a1.fErr)), (.d (.int .i64 a1.fN)), (.d (.int .i64 a1.fID)), (.d (.int .u64 a1.fOffset)), (.d (.str a1.fText)), (.d (.sl (List.map TMessage.enc a1.fMessages)))])), (8, (.cells [(.d (.int .i64 r129.2.1)), (.d (.int .i64 r129.2.2.1)), (.d (.int .i64 r129.2.2.2.1)), (.d (.int .u64 r129.2.2.2.2.1)), (.d (.str r129.2.2.2.2.2.1)), (.d (.sl (List.map TMessage.enc r129.2.2.2.2.2.2)))])), (0, (.cells [(.d (.int .i64 a0.fKind)), (.d (.str a0.fName)), (.d (.str a0.fText)), (.d (.str a0.fGroup)), (.d (.int .i64 a0.fN)), (.d (.int .i64 a0.fVersion)), (.d (.int .u64 a0.fProducer)), (.d (.int .u64 a0.fSeq)), (.d (.int .u64 a0.fOffset)), (.d (.int .i64 a0.fMost)), (.d (.sl (List.map byteD a0.fData)))])), (3, (.cells [(.d (.int .i64 r102.2.1)), (.d (.str r102.2.2.1)), (.d (.str r102.2.2.2.1)), (.d (.str r102.2.2.2.2.1)), (.d (.int .i64 r102.2.2.2.2.2.1)), (.d (.int .i64 r102.2.2.2.2.2.2.1)), (.d (.int .u64 r102.2.2.2.2.2.2.2.1)), (.d (.int .u64 r102.2.2.2.2.2.2.2.2.1)), (.d (.int .u64 r102.2.2.2.2.2.2.2.2.2.1)), (.d (.int .i64 r102.2.2.2.2.2.2.2.2.2.2.1)), (.d (.sl (List.map byteD r102.2.2.2.2.2.2.2.2.2.2.2)))])), (11, (.cells [(.d (.int .i64 r144.2.1)), (.d (.int .i64 r144.2.2.1)), (.d (.int .i64 r144.2.2.2.1)), (.d (.int .u64 r144.2.2.2.2.1)), (.d (.str r144.2.2.2.2.2.1)), (.d (.sl (List.map TMessage.enc r144.2.2.2.2.2.2)))])), (10, (.tok ((List.map byteD (r140 ++ ([a3] : List UInt8))).length * 1))), (7, (.tok ((List.map byteD r128).length * 1))), (6, (.cells [(.d (.int .i64 r117.2.1)), (.d (.str r117.2.2.1)), (.d (.str r117.2.2.2.1)), (.d (.str r117.2.2.2.2.1)), (.d (.int .i64 r117.2.2.2.2.2.1)), (.d (.int .i64 r117.2.2.2.2.2.2.1)), (.d (.int .u64 r117.2.2.2.2.2.2.2.1)), (.d (.int .u64 r117.2.2.2.2.2.2.2.2.1)), (.d (.int .u64 r117.2.2.2.2.2.2.2.2.2.1)), (.d (.int .i64 r117.2.2.2.2.2.2.2.2.2.2.1)), (.d (.sl (List.map byteD r117.2.2.2.2.2.2.2.2.2.2.2)))])), (5, (.tok ((List.map byteD (r113 ++ ([a3] : List UInt8))).length * 1))), (2, (.tok ((List.map byteD r101).length * 1)))]) rfl rfl (Nat.le_of_ble_eq_true rfl) rfl rfl rfl rfl rfl ?_
                            obtain ⟨r221, e221, h⟩ := bind_some h
                            refine RegV.callS (q := false) (H' := [(14, (.tok ((List.map byteD r221).length * 1))), (12, (.cells [(.d (.int .i64 r196.2.1)), (.d (.str r196.2.2.1)), (.d (.str r196.2.2.2.1)), (.d (.str r196.2.2.2.2.1)), (.d (.int .i64 r196.2.2.2.2.2.1)), (.d (.int .i64 r196.2.2.2.2.2.2.1)), (.d (.int .u64 r196.2.2.2.2.2.2.2.1)), (.d (.int .u64 r196.2.2.2.2.2.2.2.2.1)), (.d (.int .u64 r196.2.2.2.2.2.2.2.2.2.1)), (.d (.int .i64 r196.2.2.2.2.2.2.2.2.2.2.1)), (.d (.sl (List.map byteD r196.2.2.2.2.2.2.2.2.2.2.2)))])), (13, (.cells [(.d (.int .i64 r207.2.1)), (.d (.int .i64 r207.2.2.1)), (.d (.int .i64 r207.2.2.2.1)), (.d (.int .u64 r207.2.2.2.2.1)), (.d (.str r207.2.2.2.2.2.1)), (.d (.sl (List.map TMessage.enc r207.2.2.2.2.2.2)))])), (1, (.cells [(.d (.int .i64 a1.fErr)), (.d (.int .i64 a1.fN)), (.d (.int .i64 a1.fID)), (.d (.int .u64 a1.fOffset)), (.d (.str a1.fText)), (.d (.sl (List.map TMessage.enc a1.fMessages)))])), (8, (.cells [(.d (.int .i64 r129.2.1)), (.d (.int .i64 r129.2.2.1)), (.d (.int .i64 r129.2.2.2.1)), (.d (.int .u64 r129.2.2.2.2.1)), (.d (.str r129.2.2.2.2.2.1)), (.d (.sl (List.map TMessage.enc r129.2.2.2.2.2.2)))])), (0, (.cells [(.d (.int .i64 a0.fKind)), (.d (.str a0.fName)), (.d (.str a0.fText)), (.d (.str a0.fGroup)), (.d (.int .i64 a0.fN)), (.d (.int .i64 a0.fVersion)), (.d (.int .u64 a0.fProducer)), (.d (.int .u64 a0.fSeq)), (.d (.int .u64 a0.fOffset)), (.d (.int .i64 a0.fMost)), (.d (.sl (List.map byteD a0.fData)))])), (3, (.cells [(.d (.int .i64 r102.2.1)), (.d (.str r102.2.2.1)), (.d (.str r102.2.2.2.1)), (.d (.str r102.2.2.2.2.1)), (.d (.int .i64 r102.2.2.2.2.2.1)), (.d (.int .i64 r102.2.2.2.2.2.2.1)), (.d (.int .u64 r102.2.2.2.2.2.2.2.1)), (.d (.int .u64 r102.2.2.2.2.2.2.2.2.1)), (.d (.int .u64 r102.2.2.2.2.2.2.2.2.2.1)), (.d (.int .i64 r102.2.2.2.2.2.2.2.2.2.2.1)), (.d (.sl (List.map byteD r102.2.2.2.2.2.2.2.2.2.2.2)))])), (11, (.cells [(.d (.int .i64 r144.2.1)), (.d (.int .i64 r144.2.2.1)), (.d (.int .i64 r144.2.2.2.1)), (.d (.int .u64 r144.2.2.2.2.1)), (.d (.str r144.2.2.2.2.2.1)), (.d (.sl (List.map TMessage.enc r144.2.2.2.2.2.2)))])), (10, (.tok ((List.map byteD (r140 ++ ([a3] : List UInt8))).length * 1))), (7, (.tok ((List.map byteD r128).length * 1))), (6, (.cells [(.d (.int .i64 r117.2.1)), (.d (.str r117.2.2.1)), (.d (.str r117.2.2.2.1)), (.d (.str r117.2.2.2.2.1)), (.d (.int .i64 r117.2.2.2.2.2.1)), (.d (.int .i64 r117.2.2.2.2.2.2.1)), (.d (.int .u64 r117.2.2.2.2.2.2.2.1)), (.d (.int .u64 r117.2.2.2.2.2.2.2.2.1)), (.d (.int .u64 r117.2.2.2.2.2.2.2.2.2.1)), (.d (.int .i64 r117.2.2.2.2.2.2.2.2.2.2.1)), (.d (.sl (List.map byteD r117.2.2.2.2.2.2.2.2.2.2.2)))])), (5, (.tok ((List.map byteD (r113 ++ ([a3] : List UInt8))).length * 1))), (2, (.tok ((List.map byteD r101).length * 1)))]) (c' := 15) (show ACalls P (N 59) [(.d (TRequest.enc (TRequest.mk r196.2.1 r196.2.2.1 r196.2.2.2.1 r196.2.2.2.2.1 r196.2.2.2.2.2.1 r196.2.2.2.2.2.2.1 r196.2.2.2.2.2.2.2.1 r196.2.2.2.2.2.2.2.2.1 r196.2.2.2.2.2.2.2.2.2.1 r196.2.2.2.2.2.2.2.2.2.2.1 r196.2.2.2.2.2.2.2.2.2.2.2)))] [] (.ap 14 1 (List.map byteD r221)) [(14, (.tok ((List.map byteD r221).length * 1)))] from ACalls.use (F59 hmix hc.2.2.1 e221) [(0, 14)] 1 rfl) rfl rfl rfl rfl (.cons (.refl _) .nil) (.refl _) (fun h => by cases h) rfl hasNil rfl rfl rfl rfl ?_
                            refine RegV.p0 rfl rfl rfl ?_
                            obtain ⟨r223, e223, h⟩ := bind_some h
                            refine RegV.call0 (F22 hmix hc.2.2.2.2.2.2.2.2 e223) rfl rfl rfl rfl (.cons (.sl rfl) (.cons (.refl _) .nil)) rfl ?_
                            refine RegV.p0 rfl rfl rfl ?_
                            refine RegV.p0 rfl rfl rfl ?_
                            refine RegV.split (fun c225 => ?_) (fun c225 => ?_)
                            · have h := cond_pos c225 h
                              refine RegV.p0 rfl rfl rfl ?_
                              refine RegV.p0 (v := (.d (.bool (decide (r207.1 ≠ (0 : Int)))))) rfl rfl rfl ?_
                              refine RegV.p0 rfl rfl rfl ?_
                              refine RegV.split (fun c228 => ?_) (fun c228 => ?_)
                              · have h := cond_pos c228 h
                                refine RegV.noS rfl rfl ?_
                                refine RegV.noS rfl rfl ?_
                                refine RegV.noS rfl rfl ?_
                                refine RegV.noS rfl rfl ?_
                                refine RegV.p0 rfl rfl rfl ?_
                                refine RegV.p0 rfl rfl rfl ?_
                                refine RegV.p0 rfl rfl rfl ?_
                                refine RegV.nil0 ?_
                                have hr := Option.some.inj h
                                subst hr
                                exact AWc.ret (canQ (N := 160) (k := 0) (l' := [(8, (.d (.bool true)))]) (H' := []) rfl ⟨rfl, [], [], rfl, rfl, ⟨⟨_, rfl, (.refl _)⟩, rfl, trivial⟩,  trivial⟩ (doneA (.inr rfl) rfl ⟨trivial, trivial⟩ (.refl _) hasNil))
                              · have h := cond_neg c228 h
                                refine RegV.ld (v := (.d (.agg [(.int .i64 r207.2.1), (.int .i64 r207.2.2.1), (.int .i64 r207.2.2.2.1), (.int .u64 r207.2.2.2.2.1), (.str r207.2.2.2.2.2.1), (.sl (List.map TMessage.enc r207.2.2.2.2.2.2))]))) (H' := [(13, (.cells [(.d (.int .i64 r207.2.1)), (.d (.int .i64 r207.2.2.1)), (.d (.int .i64 r207.2.2.2.1)), (.d (.int .u64 r207.2.2.2.2.1)), (.d (.str r207.2.2.2.2.2.1)), (.d (.sl (List.map TMessage.enc r207.2.2.2.2.2.2)))])), (14, (.tok ((List.map byteD r221).length * 1))), (12, (.cells [(.d (.int .i64 r196.2.1)), (.d (.str r196.2.2.1)), (.d (.str r196.2.2.2.1)), (.d (.str r196.2.2.2.2.1)), (.d (.int .i64 r196.2.2.2.2.2.1)), (.d (.int .i64 r196.2.2.2.2.2.2.1)), (.d (.int .u64 r196.2.2.2.2.2.2.2.1)), (.d (.int .u64 r196.2.2.2.2.2.2.2.2.1)), (.d (.int .u64 r196.2.2.2.2.2.2.2.2.2.1)), (.d (.int .i64 r196.2.2.2.2.2.2.2.2.2.2.1)), (.d (.sl (List.map byteD r196.2.2.2.2.2.2.2.2.2.2.2)))])), (1, (.cells [(.d (.int .i64 a1.fErr)), (.d (.int .i64 a1.fN)), (.d (.int .i64 a1.fID)), (.d (.int .u64 a1.fOffset)), (.d (.str a1.fText)), (.d (.sl (List.map TMessage.enc a1.fMessages)))])), (8, (.cells [(.d (.int .i64 r129.2.1)), (.d (.int .i64 r129.2.2.1)), (.d (.int .i64 r129.2.2.2.1)), (.d (.int .u64 r129.2.2.2.2.1)), (.d (.str r129.2.2.2.2.2.1)), (.d (.sl (List.map TMessage.enc r129.2.2.2.2.2.2)))])), (0, (.cells [(.d (.int .i64 a0.fKind)), (.d (.str a0.fName)), (.d (.str a0.fText)), (.d (.str a0.fGroup)), (.d (.int .i64 a0.fN)), (.d (.int .i64 a0.fVersion)), (.d (.int .u64 a0.fProducer)), (.d (.int .u64 a0.fSeq)), (.d (.int .u64 a0.fOffset)), (.d (.int .i64 a0.fMost)), (.d (.sl (List.map byteD a0.fData)))])), (3, (.cells [(.d (.int .i64 r102.2.1)), (.d (.str r102.2.2.1)), (.d (.str r102.2.2.2.1)), (.d (.str r102.2.2.2.2.1)), (.d (.int .i64 r102.2.2.2.2.2.1)), (.d (.int .i64 r102.2.2.2.2.2.2.1)), (.d (.int .u64 r102.2.2.2.2.2.2.2.1)), (.d (.int .u64 r102.2.2.2.2.2.2.2.2.1)), (.d (.int .u64 r102.2.2.2.2.2.2.2.2.2.1)), (.d (.int .i64 r102.2.2.2.2.2.2.2.2.2.2.1)), (.d (.sl (List.map byteD r102.2.2.2.2.2.2.2.2.2.2.2)))])), (11, (.cells [(.d (.int .i64 r144.2.1)), (.d (.int .i64 r144.2.2.1)), (.d (.int .i64 r144.2.2.2.1)), (.d (.int .u64 r144.2.2.2.2.1)), (.d (.str r144.2.2.2.2.2.1)), (.d (.sl (List.map TMessage.enc r144.2.2.2.2.2.2)))])), (10, (.tok ((List.map byteD (r140 ++ ([a3] : List UInt8))).length * 1))), (7, (.tok ((List.map byteD r128).length * 1))), (6, (.cells [(.d (.int .i64 r117.2.1)), (.d (.str r117.2.2.1)), (.d (.str r117.2.2.2.1)), (.d (.str r117.2.2.2.2.1)), (.d (.int .i64 r117.2.2.2.2.2.1)), (.d (.int .i64 r117.2.2.2.2.2.2.1)), (.d (.int .u64 r117.2.2.2.2.2.2.2.1)), (.d (.int .u64 r117.2.2.2.2.2.2.2.2.1)), (.d (.int .u64 r117.2.2.2.2.2.2.2.2.2.1)), (.d (.int .i64 r117.2.2.2.2.2.2.2.2.2.2.1)), (.d (.sl (List.map byteD r117.2.2.2.2.2.2.2.2.2.2.2)))])), (5, (.tok ((List.map byteD (r113 ++ ([a3] : List UInt8))).length * 1))), (2, (.tok ((List.map byteD r101).length * 1)))]) rfl rfl (Nat.le_of_ble_eq_true rfl) rfl rfl rfl rfl rfl ?_
                                obtain ⟨r230, e230, h⟩ := bind_some h
                                refine RegV.callS (q := false) (H' := [(15, (.tok ((List.map byteD r230).length * 1))), (13, (.cells [(.d (.int .i64 r207.2.1)), (.d (.int .i64 r207.2.2.1)), (.d (.int .i64 r207.2.2.2.1)), (.d (.int .u64 r207.2.2.2.2.1)), (.d (.str r207.2.2.2.2.2.1)), (.d (.sl (List.map TMessage.enc r207.2.2.2.2.2.2)))])), (14, (.tok ((List.map byteD r221).length * 1))), (12, (.cells [(.d (.int .i64 r196.2.1)), (.d (.str r196.2.2.1)), (.d (.str r196.2.2.2.1)), (.d (.str r196.2.2.2.2.1)), (.d (.int .i64 r196.2.2.2.2.2.1)), (.d (.int .i64 r196.2.2.2.2.2.2.1)), (.d (.int .u64 r196.2.2.2.2.2.2.2.1)), (.d (.int .u64 r196.2.2.2.2.2.2.2.2.1)), (.d (.int .u64 r196.2.2.2.2.2.2.2.2.2.1)), (.d (.int .i64 r196.2.2.2.2.2.2.2.2.2.2.1)), (.d (.sl (List.map byteD r196.2.2.2.2.2.2.2.2.2.2.2)))])), (1, (.cells [(.d (.int .i64 a1.fErr)), (.d (.int .i64 a1.fN)), (.d (.int .i64 a1.fID)), (.d (.int .u64 a1.fOffset)), (.d (.str a1.fText)), (.d (.sl (List.map TMessage.enc a1.fMessages)))])), (8, (.cells [(.d (.int .i64 r129.2.1)), (.d (.int .i64 r129.2.2.1)), (.d (.int .i64 r129.2.2.2.1)), (.d (.int .u64 r129.2.2.2.2.1)), (.d (.str r129.2.2.2.2.2.1)), (.d (.sl (List.map TMessage.enc r129.2.2.2.2.2.2)))])), (0, (.cells [(.d (.int .i64 a0.fKind)), (.d (.str a0.fName)), (.d (.str a0.fText)), (.d (.str a0.fGroup)), (.d (.int .i64 a0.fN)), (.d (.int .i64 a0.fVersion)), (.d (.int .u64 a0.fProducer)), (.d (.int .u64 a0.fSeq)), (.d (.int .u64 a0.fOffset)), (.d (.int .i64 a0.fMost)), (.d (.sl (List.map byteD a0.fData)))])), (3, (.cells [(.d (.int .i64 r102.2.1)), (.d (.str r102.2.2.1)), (.d (.str r102.2.2.2.1)), (.d (.str r102.2.2.2.2.1)), (.d (.int .i64 r102.2.2.2.2.2.1)), (.d (.int .i64 r102.2.2.2.2.2.2.1)), (.d (.int .u64 r102.2.2.2.2.2.2.2.1)), (.d (.int .u64 r102.2.2.2.2.2.2.2.2.1)), (.d (.int .u64 r102.2.2.2.2.2.2.2.2.2.1)), (.d (.int .i64 r102.2.2.2.2.2.2.2.2.2.2.1)), (.d (.sl (List.map byteD r102.2.2.2.2.2.2.2.2.2.2.2)))])), (11, (.cells [(.d (.int .i64 r144.2.1)), (.d (.int .i64 r144.2.2.1)), (.d (.int .i64 r144.2.2.2.1)), (.d (.int .u64 r144.2.2.2.2.1)), (.d (.str r144.2.2.2.2.2.1)), (.d (.sl (List.map TMessage.enc r144.2.2.2.2.2.2)))])), (10, (.tok ((List.map byteD (r140 ++ ([a3] : List UInt8))).length * 1))), (7, (.tok ((List.map byteD r128).length * 1))), (6, (.cells [(.d (.int .i64 r117.2.1)), (.d (.str r117.2.2.1)), (.d (.str r117.2.2.2.1)), (.d (.str r117.2.2.2.2.1)), (.d (.int .i64 r117.2.2.2.2.2.1)), (.d (.int .i64 r117.2.2.2.2.2.2.1)), (.d (.int .u64 r117.2.2.2.2.2.2.2.1)), (.d (.int .u64 r117.2.2.2.2.2.2.2.2.1)), (.d (.int .u64 r117.2.2.2.2.2.2.2.2.2.1)), (.d (.int .i64 r117.2.2.2.2.2.2.2.2.2.2.1)), (.d (.sl (List.map byteD r117.2.2.2.2.2.2.2.2.2.2.2)))])), (5, (.tok ((List.map byteD (r113 ++ ([a3] : List UInt8))).length * 1))), (2, (.tok ((List.map byteD r101).length * 1)))]) (c' := 16) (show ACalls P (N 65) [(.d (TReply.enc (TReply.mk r207.2.1 r207.2.2.1 r207.2.2.2.1 r207.2.2.2.2.1 r207.2.2.2.2.2.1 r207.2.2.2.2.2.2)))] [] (.ap 15 1 (List.map byteD r230)) [(15, (.tok ((List.map byteD r230).length * 1)))] from ACalls.use (F65 hmix hc.2.2.2.2.1 e230) [(0, 15)] 1 rfl) rfl rfl rfl rfl (.cons (.refl _) .nil) (.refl _) (fun h => by cases h) rfl hasNil rfl rfl rfl rfl ?_
                                refine RegV.p0 rfl rfl rfl ?_
                                obtain ⟨r232, e232, h⟩ := bind_some h
                                refine RegV.call0 (F22 hmix hc.2.2.2.2.2.2.2.2 e232) rfl rfl rfl rfl (.cons (.sl rfl) (.cons (.refl _) .nil)) rfl ?_
                                refine RegV.p0 rfl rfl rfl ?_
                                refine RegV.p0 rfl rfl rfl ?_
                                refine RegV.p0 rfl rfl rfl ?_
                                refine RegV.nil0 ?_
                                have hr := Option.some.inj h
                                subst hr
                                exact AWc.ret (canQ (N := 160) (k := 0) (l' := [(8, (.d (.bool (decide (r230 = a2)))))]) (H' := []) rfl ⟨rfl, [], [], rfl, rfl, ⟨⟨_, rfl, (.refl _)⟩, rfl, trivial⟩,  trivial⟩ (doneA (.inr rfl) rfl ⟨trivial, trivial⟩ (.refl _) hasNil))
                            · have h := cond_neg c225 h
                              refine RegV.noS rfl rfl ?_
                              refine RegV.noS rfl rfl ?_
                              refine RegV.noS rfl rfl ?_
                              refine RegV.noS rfl rfl ?_
                              refine RegV.noS rfl rfl ?_
                              refine RegV.noS rfl rfl ?_
                              refine RegV.noS rfl rfl ?_
                              refine RegV.noS rfl rfl ?_
                              refine RegV.p0 rfl rfl rfl ?_
                              refine RegV.p0 rfl rfl rfl ?_
                              refine RegV.nil0 ?_
                              have hr := Option.some.inj h
                              subst hr
                              exact AWc.ret (canQ (N := 160) (k := 0) (l' := [(8, (.d (.bool false)))]) (H' := []) rfl ⟨rfl, [], [], rfl, rfl, ⟨⟨_, rfl, (.refl _)⟩, rfl, trivial⟩,  trivial⟩ (doneA (.inr rfl) rfl ⟨trivial, trivial⟩ (.refl _) hasNil))
end Go.Proofs.Abs
