/- Contracts: a reader that is nil. -/
import Derived.Test.YtojmpoboidomeaaAbsC4
import Derived.Test.YtojmpoboidomeaaAbs25
namespace Go.Proofs.Abs
open Go
set_option linter.unusedSimpArgs false
set_option linter.unusedVariables false
theorem acalls_nils {P : Program} {k : FuncId} {F : AFunc} (hF : HasF P k F) (xs : List D) (l : List (Nat × AV)) (hl : startL 0 (xs.map .d) = l) (hn : xs.length ≤ F.n)
    (hb : AWc P none 0 F.body ⟨F.n, l⟩ [] 0 (Done F.res .nils [])) : ACalls P k (xs.map .d) [] .nils [] :=
  acalls_of_body hF 0 (fun x hx => by obtain ⟨d, _, rfl⟩ := List.mem_map.1 hx; exact .d) (fun l o h => by cases h) .nils (fun l o h => by cases h) (by simpa using hn) (hl ▸ hb)
/-- (*courant/code.Reader).ready -/
def C84 (N : Nat → Nat) : AFunc := { n := 12, params := 1, res := [.tmp 2], body :=
 (.seq (.region false [⟨(some 2), .mv (.k (.d (.bool false))), none, []⟩])
  (.seq (.region false [⟨(some 3), .mv (.t 0), none, []⟩,
    ⟨(some 4), .nileq 1 true (.t 3) (.k (.d .nilp)), none, [0]⟩,
    ⟨(some 5), .mv (.t 4), none, [1]⟩,
    ⟨(some 6), .mv (.t 0), (some (5, true)), [2]⟩,
    ⟨(some 7), .nilchk (.t 6), (some (5, true)), [3, 2]⟩,
    ⟨(some 8), .faddr (.t 7) 2, (some (5, true)), [4, 2]⟩,
    ⟨(some 9), .load (.t 8) 1 false, (some (5, true)), [5, 2]⟩,
    ⟨(some 10), .bin .eql (.t 9) (.k (.d (.int .i64 0))), (some (5, true)), [6, 2]⟩,
    ⟨(some 11), .pick (.t 5) (.t 10) (.k (.d (.bool false))), none, [2, 7]⟩,
    ⟨(some 2), .mv (.t 11), none, [8, 2, 0, 1, 3, 4, 5, 6, 7]⟩])
   .ret)) }

/-- (*courant/code.Reader).Num -/
def C39 (N : Nat → Nat) : AFunc := { n := 73, params := 1, res := [.tmp 2], body :=
 (.seq (.region false [⟨(some 2), .mv (.k (.d (.int .u64 0))), none, []⟩])
  (.scope (.seq (.seq (.region false [⟨(some 8), .mv (.t 0), none, []⟩,
      ⟨(some 9), .call (.k (.d (.fn (N 84)))) [(.t 8)], none, [0]⟩,
      ⟨(some 10), .un .not (.t 9), none, [1]⟩])
     (.cond (.t 10) (.seq (.region false [⟨(some 2), .mv (.k (.d (.int .u64 0))), none, []⟩])
       .ret)
      (.skip)))
    (.seq (.region false [⟨(some 11), .mv (.t 0), none, []⟩,
      ⟨(some 12), .nilchk (.t 11), none, [0]⟩,
      ⟨(some 13), .faddr (.t 12) 1, none, [1]⟩,
      ⟨(some 14), .load (.t 13) 1 false, none, [2]⟩,
      ⟨(some 3), .mv (.t 14), none, [3, 0, 1, 2]⟩,
      ⟨(some 4), .mv (.k (.d (.int .u64 0))), none, [4, 0, 1, 2, 3]⟩,
      ⟨(some 5), .mv (.k (.d (.int .i64 3))), none, [5, 0, 1, 2, 3, 4]⟩])
     (.seq (.label 0)
      (.seq (.seq (.region false [⟨(some 6), .mv (.k (.d (.int .i64 0))), none, []⟩])
        (.block 0 (.loop (.seq (.seq (.region true [⟨(some 15), .mv (.t 0), none, []⟩,
             ⟨(some 16), .nilchk (.t 15), none, [0]⟩,
             ⟨(some 17), .faddr (.t 16) 1, none, [1]⟩,
             ⟨(some 18), .load (.t 17) 1 false, none, [2]⟩,
             ⟨(some 19), .mv (.t 0), none, []⟩,
             ⟨(some 20), .nilchk (.t 19), none, [4]⟩,
             ⟨(some 21), .faddr (.t 20) 0, none, [5]⟩,
             ⟨(some 22), .load (.t 21) 1 false, none, [6]⟩,
             ⟨(some 23), .len (.t 22), none, [7]⟩,
             ⟨(some 24), .bin .lss (.t 18) (.t 23), none, [3, 8]⟩])
            (.cond (.t 24) (.skip)
             (.exit 0)))
           (.seq (.block 1 (.seq (.region true [⟨(some 27), .mv (.t 0), none, []⟩,
               ⟨(some 28), .nilchk (.t 27), none, [0]⟩,
               ⟨(some 29), .faddr (.t 28) 0, none, [1]⟩,
               ⟨(some 30), .load (.t 29) 1 false, none, [2]⟩,
               ⟨(some 31), .mv (.t 0), none, []⟩,
               ⟨(some 32), .nilchk (.t 31), none, [4]⟩,
               ⟨(some 33), .faddr (.t 32) 1, none, [5]⟩,
               ⟨(some 34), .load (.t 33) 1 false, none, [6]⟩,
               ⟨(some 35), .iaddr (.t 30) (.t 34) 1, none, [3, 7]⟩,
               ⟨(some 36), .load (.t 35) 1 false, none, [8]⟩,
               ⟨(some 7), .mv (.t 36), none, [9, 0, 1, 2, 3, 4, 5, 6, 7, 8]⟩])
              (.seq (.region false [⟨(some 37), .mv (.t 0), none, []⟩,
                ⟨(some 38), .nilchk (.t 37), none, [0]⟩,
                ⟨(some 39), .faddr (.t 38) 1, none, [1]⟩,
                ⟨(some 40), .load (.t 39) 1 false, none, [2]⟩,
                ⟨(some 41), .bin .add (.t 40) (.k (.d (.int .i64 1))), none, [3]⟩,
                ⟨(some 42), .nilchk (.t 37), none, [0, 1, 2, 3, 4]⟩,
                ⟨(some 43), .faddr (.t 42) 1, none, [5, 0, 1, 2, 3, 4]⟩,
                ⟨none, .store (.t 43) (.t 41) 1, none, [6, 4, 0, 1, 2, 3]⟩])
               (.seq (.region false [⟨(some 44), .mv (.t 4), none, []⟩,
                 ⟨(some 45), .mv (.t 7), none, []⟩,
                 ⟨(some 46), .bin .and (.t 45) (.k (.d (.int .u8 127))), none, [1]⟩,
                 ⟨(some 47), .cvi .u64 (.t 46), none, [2]⟩,
                 ⟨(some 48), .mv (.t 6), none, []⟩,
                 ⟨(some 49), .bin .mul (.k (.d (.int .i64 7))) (.t 48), none, [4]⟩,
                 ⟨(some 50), .bin .shl (.t 47) (.t 49), none, [3, 5]⟩,
                 ⟨(some 51), .bin .or (.t 44) (.t 50), none, [0, 6]⟩,
                 ⟨(some 4), .mv (.t 51), none, [7, 0, 1, 2, 3, 4, 5, 6]⟩])
                (.block 2 (.seq (.seq (.region false [⟨(some 53), .mv (.t 6), none, []⟩,
                    ⟨(some 54), .bin .eql (.t 53) (.k (.d (.int .i64 9))), none, [0]⟩,
                    ⟨(some 55), .mv (.t 54), none, [1]⟩,
                    ⟨(some 56), .mv (.t 7), (some (55, true)), [2]⟩,
                    ⟨(some 57), .bin .gtr (.t 56) (.k (.d (.int .u8 1))), (some (55, true)), [3, 2]⟩,
                    ⟨(some 58), .pick (.t 55) (.t 57) (.k (.d (.bool false))), none, [2, 4]⟩,
                    ⟨(some 52), .mv (.t 58), none, [5, 2]⟩])
                   (.cond (.t 52) (.skip)
                    (.region false [⟨(some 59), .mv (.t 6), none, []⟩,
                     ⟨(some 60), .bin .gtr (.t 59) (.k (.d (.int .i64 0))), none, [0]⟩,
                     ⟨(some 61), .mv (.t 60), none, [1]⟩,
                     ⟨(some 62), .mv (.t 7), (some (61, true)), [2]⟩,
                     ⟨(some 63), .bin .eql (.t 62) (.k (.d (.int .u8 0))), (some (61, true)), [3, 2]⟩,
                     ⟨(some 64), .pick (.t 61) (.t 63) (.k (.d (.bool false))), none, [2, 4]⟩,
                     ⟨(some 52), .mv (.t 64), none, [5, 2]⟩])))
                  (.cond (.t 52) (.seq (.region false [⟨(some 5), .mv (.k (.d (.int .i64 4))), none, []⟩])
                    (.exit 0))
                   (.seq (.region false [⟨(some 66), .mv (.t 7), none, []⟩,
                     ⟨(some 67), .bin .lss (.t 66) (.k (.d (.int .u8 128))), none, [0]⟩,
                     ⟨(some 65), .mv (.t 67), none, [1]⟩])
                    (.cond (.t 65) (.seq (.region false [⟨(some 68), .mv (.t 4), none, []⟩,
                       ⟨(some 2), .mv (.t 68), none, [0]⟩])
                      .ret)
                     (.skip))))))))))
            (.region false [⟨(some 25), .mv (.t 6), none, []⟩,
             ⟨(some 26), .bin .add (.t 25) (.k (.d (.int .i64 1))), none, [0]⟩,
             ⟨(some 6), .mv (.t 26), none, [1, 0]⟩]))))))
       (.seq (.region false [⟨(some 69), .mv (.t 0), none, []⟩,
         ⟨(some 70), .mv (.t 3), none, []⟩,
         ⟨(some 71), .mv (.t 5), none, []⟩,
         ⟨(some 72), .call (.k (.d (.fn (N 85)))) [(.t 69), (.t 70), (.t 71)], none, [0, 1, 2]⟩])
        (.seq (.region false [⟨(some 2), .mv (.k (.d (.int .u64 0))), none, []⟩])
         .ret)))))))) }

/-- (*courant/code.Reader).Zig -/
def C40 (N : Nat → Nat) : AFunc := { n := 6, params := 1, res := [.tmp 2], body :=
 (.seq (.region false [⟨(some 2), .mv (.k (.d (.int .i64 0))), none, []⟩])
  (.seq (.region false [⟨(some 3), .mv (.t 0), none, []⟩,
    ⟨(some 4), .call (.k (.d (.fn (N 39)))) [(.t 3)], none, [0]⟩,
    ⟨(some 5), .call (.k (.d (.fn (N 88)))) [(.t 4)], none, [1]⟩,
    ⟨(some 2), .mv (.t 5), none, [2, 0, 1]⟩])
   .ret)) }

/-- courant/code.unfold -/
def C88 (N : Nat → Nat) : AFunc := { n := 11, params := 1, res := [.tmp 2], body :=
 (.seq (.region false [⟨(some 2), .mv (.k (.d (.int .i64 0))), none, []⟩])
  (.seq (.region false [⟨(some 3), .mv (.t 0), none, []⟩,
    ⟨(some 4), .bin .shr (.t 3) (.k (.d (.int .u64 1))), none, [0]⟩,
    ⟨(some 5), .cvi .i64 (.t 4), none, [1]⟩,
    ⟨(some 6), .mv (.t 0), none, []⟩,
    ⟨(some 7), .bin .and (.t 6) (.k (.d (.int .u64 1))), none, [3]⟩,
    ⟨(some 8), .cvi .i64 (.t 7), none, [4]⟩,
    ⟨(some 9), .un .neg (.t 8), none, [5]⟩,
    ⟨(some 10), .bin .xor (.t 5) (.t 9), none, [2, 6]⟩,
    ⟨(some 2), .mv (.t 10), none, [7, 0, 1, 2, 3, 4, 5, 6]⟩])
   .ret)) }

/-- (*courant/code.Reader).Text -/
def C31 (N : Nat → Nat) : AFunc := { n := 53, params := 2, res := [.tmp 4], body :=
 (.seq (.region false [⟨(some 4), .mv (.k .nils), none, []⟩])
  (.seq (.seq (.region false [⟨(some 8), .mv (.t 0), none, []⟩,
     ⟨(some 9), .call (.k (.d (.fn (N 84)))) [(.t 8)], none, [0]⟩,
     ⟨(some 10), .un .not (.t 9), none, [1]⟩])
    (.cond (.t 10) (.seq (.region false [⟨(some 4), .mv (.k .nils), none, []⟩])
      .ret)
     (.skip)))
   (.seq (.region false [⟨(some 11), .mv (.t 0), none, []⟩,
     ⟨(some 12), .nilchk (.t 11), none, [0]⟩,
     ⟨(some 13), .faddr (.t 12) 1, none, [1]⟩,
     ⟨(some 14), .load (.t 13) 1 false, none, [2]⟩,
     ⟨(some 5), .mv (.t 14), none, [3, 0, 1, 2]⟩])
    (.seq (.region false [⟨(some 15), .mv (.t 0), none, []⟩,
      ⟨(some 16), .call (.k (.d (.fn (N 40)))) [(.t 15)], none, [0]⟩,
      ⟨(some 6), .mv (.t 16), none, [1, 0]⟩])
     (.seq (.block 0 (.seq (.region false [⟨(some 18), .mv (.t 0), none, []⟩,
         ⟨(some 19), .nilchk (.t 18), none, [0]⟩,
         ⟨(some 20), .faddr (.t 19) 2, none, [1]⟩,
         ⟨(some 21), .load (.t 20) 1 false, none, [2]⟩,
         ⟨(some 22), .bin .neq (.t 21) (.k (.d (.int .i64 0))), none, [3]⟩,
         ⟨(some 17), .mv (.t 22), none, [4]⟩])
        (.cond (.t 17) (.seq (.region false [⟨(some 4), .mv (.k .nils), none, []⟩])
          .ret)
         (.seq (.region false [⟨(some 24), .mv (.t 6), none, []⟩,
           ⟨(some 25), .bin .lss (.t 24) (.k (.d (.int .i64 0))), none, [0]⟩,
           ⟨(some 23), .mv (.t 25), none, [1]⟩])
          (.cond (.t 23) (.seq (.region false [⟨(some 26), .mv (.t 0), none, []⟩,
             ⟨(some 27), .mv (.t 5), none, []⟩,
             ⟨(some 28), .call (.k (.d (.fn (N 85)))) [(.t 26), (.t 27), (.k (.d (.int .i64 4)))], none, [0, 1]⟩])
            (.seq (.region false [⟨(some 4), .mv (.k .nils), none, []⟩])
             .ret))
           (.seq (.region false [⟨(some 30), .mv (.t 6), none, []⟩,
             ⟨(some 31), .mv (.t 1), none, []⟩,
             ⟨(some 32), .mm true [(.t 31), (.k (.d (.int .i64 0)))], none, [1]⟩,
             ⟨(some 33), .bin .gtr (.t 30) (.t 32), none, [0, 2]⟩,
             ⟨(some 29), .mv (.t 33), none, [3]⟩])
            (.cond (.t 29) (.seq (.region false [⟨(some 34), .mv (.t 0), none, []⟩,
               ⟨(some 35), .mv (.t 5), none, []⟩,
               ⟨(some 36), .call (.k (.d (.fn (N 85)))) [(.t 34), (.t 35), (.k (.d (.int .i64 5)))], none, [0, 1]⟩])
              (.seq (.region false [⟨(some 4), .mv (.k .nils), none, []⟩])
               .ret))
             (.skip))))))))
      (.seq (.region false [⟨(some 37), .mv (.t 0), none, []⟩,
        ⟨(some 38), .mv (.t 6), none, []⟩,
        ⟨(some 39), .call (.k (.d (.fn (N 41)))) [(.t 37), (.t 38)], none, [0, 1]⟩,
        ⟨(some 7), .mv (.t 39), none, [2, 0, 1]⟩])
       (.seq (.seq (.region false [⟨(some 40), .mv (.t 0), none, []⟩,
          ⟨(some 41), .nilchk (.t 40), none, [0]⟩,
          ⟨(some 42), .faddr (.t 41) 2, none, [1]⟩,
          ⟨(some 43), .load (.t 42) 1 false, none, [2]⟩,
          ⟨(some 44), .bin .neq (.t 43) (.k (.d (.int .i64 0))), none, [3]⟩])
         (.cond (.t 44) (.region false [⟨(some 45), .mv (.t 0), none, []⟩,
           ⟨(some 46), .mv (.t 5), none, []⟩,
           ⟨(some 47), .mv (.t 0), none, []⟩,
           ⟨(some 48), .nilchk (.t 47), none, [2]⟩,
           ⟨(some 49), .faddr (.t 48) 2, none, [3]⟩,
           ⟨(some 50), .load (.t 49) 1 false, none, [4]⟩,
           ⟨(some 51), .call (.k (.d (.fn (N 85)))) [(.t 45), (.t 46), (.t 50)], none, [0, 1, 5]⟩])
          (.skip)))
        (.seq (.region false [⟨(some 52), .mv (.t 7), none, []⟩,
          ⟨(some 4), .mv (.t 52), none, [0]⟩])
         .ret)))))))) }

/-- (*courant/code.Reader).Raw -/
def C41 (N : Nat → Nat) : AFunc := { n := 46, params := 2, res := [.tmp 4], body :=
 (.seq (.region false [⟨(some 4), .mv (.k .nils), none, []⟩])
  (.seq (.seq (.region false [⟨(some 5), .mv (.t 0), none, []⟩,
     ⟨(some 6), .call (.k (.d (.fn (N 84)))) [(.t 5)], none, [0]⟩,
     ⟨(some 7), .un .not (.t 6), none, [1]⟩,
     ⟨(some 8), .mv (.t 7), none, [2, 1]⟩,
     ⟨(some 9), .mv (.t 1), (some (8, false)), [3]⟩,
     ⟨(some 10), .bin .leq (.t 9) (.k (.d (.int .i64 0))), (some (8, false)), [4, 3]⟩,
     ⟨(some 11), .pick (.t 8) (.k (.d (.bool true))) (.t 10), none, [3, 5]⟩])
    (.cond (.t 11) (.seq (.region false [⟨(some 4), .mv (.k .nils), none, []⟩])
      .ret)
     (.skip)))
   (.seq (.seq (.region false [⟨(some 12), .mv (.t 1), none, []⟩,
      ⟨(some 13), .mv (.t 0), none, []⟩,
      ⟨(some 14), .call (.k (.d (.fn (N 32)))) [(.t 13)], none, [1]⟩,
      ⟨(some 15), .bin .gtr (.t 12) (.t 14), none, [0, 2]⟩])
     (.cond (.t 15) (.seq (.region false [⟨(some 16), .mv (.t 0), none, []⟩,
        ⟨(some 17), .mv (.t 0), none, []⟩,
        ⟨(some 18), .nilchk (.t 17), none, [1]⟩,
        ⟨(some 19), .faddr (.t 18) 1, none, [2]⟩,
        ⟨(some 20), .load (.t 19) 1 false, none, [3]⟩,
        ⟨(some 21), .call (.k (.d (.fn (N 85)))) [(.t 16), (.t 20), (.k (.d (.int .i64 3)))], none, [0, 4]⟩])
       (.seq (.region false [⟨(some 4), .mv (.k .nils), none, []⟩])
        .ret))
      (.skip)))
    (.seq (.region false [⟨(some 22), .mv (.t 0), none, []⟩,
      ⟨(some 23), .nilchk (.t 22), none, [0]⟩,
      ⟨(some 24), .faddr (.t 23) 1, none, [1]⟩,
      ⟨(some 25), .load (.t 24) 1 false, none, [2]⟩,
      ⟨(some 26), .mv (.t 1), none, []⟩,
      ⟨(some 27), .bin .add (.t 25) (.t 26), none, [3, 4]⟩,
      ⟨(some 28), .nilchk (.t 22), none, [0, 1, 2, 3, 4, 5]⟩,
      ⟨(some 29), .faddr (.t 28) 1, none, [6, 0, 1, 2, 3, 4, 5]⟩,
      ⟨none, .store (.t 29) (.t 27) 1, none, [7, 5, 0, 1, 2, 3, 4]⟩])
     (.seq (.region true [⟨(some 30), .mv (.t 0), none, []⟩,
       ⟨(some 31), .nilchk (.t 30), none, [0]⟩,
       ⟨(some 32), .faddr (.t 31) 0, none, [1]⟩,
       ⟨(some 33), .load (.t 32) 1 false, none, [2]⟩,
       ⟨(some 34), .mv (.t 0), none, []⟩,
       ⟨(some 35), .nilchk (.t 34), none, [4]⟩,
       ⟨(some 36), .faddr (.t 35) 1, none, [5]⟩,
       ⟨(some 37), .load (.t 36) 1 false, none, [6]⟩,
       ⟨(some 38), .mv (.t 1), none, []⟩,
       ⟨(some 39), .bin .sub (.t 37) (.t 38), none, [7, 8]⟩,
       ⟨(some 40), .mv (.t 0), none, []⟩,
       ⟨(some 41), .nilchk (.t 40), none, [10]⟩,
       ⟨(some 42), .faddr (.t 41) 1, none, [11]⟩,
       ⟨(some 43), .load (.t 42) 1 false, none, [12]⟩,
       ⟨(some 44), .slc (.t 33) (some (.t 39)) (some (.t 43)) none 1, none, [3, 9, 13]⟩,
       ⟨(some 45), .app (.k .nils) (.t 44) 1 1 [(.int .u8 0)], none, [14]⟩,
       ⟨(some 4), .mv (.t 45), none, [15, 0, 1, 2, 3, 4, 5, 6, 7, 8, 9, 10, 11, 12, 13, 14]⟩])
      .ret))))) }

/-- (*courant/code.Reader).Left -/
def C32 (N : Nat → Nat) : AFunc := { n := 15, params := 1, res := [.tmp 2], body :=
 (.seq (.region false [⟨(some 2), .mv (.k (.d (.int .i64 0))), none, []⟩])
  (.seq (.seq (.region false [⟨(some 3), .mv (.t 0), none, []⟩,
     ⟨(some 4), .nileq 1 false (.t 3) (.k (.d .nilp)), none, [0]⟩])
    (.cond (.t 4) (.seq (.region false [⟨(some 2), .mv (.k (.d (.int .i64 0))), none, []⟩])
      .ret)
     (.skip)))
   (.seq (.region true [⟨(some 5), .mv (.t 0), none, []⟩,
     ⟨(some 6), .nilchk (.t 5), none, [0]⟩,
     ⟨(some 7), .faddr (.t 6) 0, none, [1]⟩,
     ⟨(some 8), .load (.t 7) 1 false, none, [2]⟩,
     ⟨(some 9), .len (.t 8), none, [3]⟩,
     ⟨(some 10), .mv (.t 0), none, []⟩,
     ⟨(some 11), .nilchk (.t 10), none, [5]⟩,
     ⟨(some 12), .faddr (.t 11) 1, none, [6]⟩,
     ⟨(some 13), .load (.t 12) 1 false, none, [7]⟩,
     ⟨(some 14), .bin .sub (.t 9) (.t 13), none, [4, 8]⟩,
     ⟨(some 2), .mv (.t 14), none, [9, 0, 1, 2, 3, 4, 5, 6, 7, 8]⟩])
    .ret))) }

/-- (*courant/code.Reader).Err -/
def C42 (N : Nat → Nat) : AFunc := { n := 9, params := 1, res := [.tmp 2], body :=
 (.seq (.region false [⟨(some 2), .mv (.k (.d (.int .i64 0))), none, []⟩])
  (.seq (.seq (.region false [⟨(some 3), .mv (.t 0), none, []⟩,
     ⟨(some 4), .nileq 1 false (.t 3) (.k (.d .nilp)), none, [0]⟩])
    (.cond (.t 4) (.seq (.region false [⟨(some 2), .mv (.k (.d (.int .i64 2))), none, []⟩])
      .ret)
     (.skip)))
   (.seq (.region false [⟨(some 5), .mv (.t 0), none, []⟩,
     ⟨(some 6), .nilchk (.t 5), none, [0]⟩,
     ⟨(some 7), .faddr (.t 6) 2, none, [1]⟩,
     ⟨(some 8), .load (.t 7) 1 false, none, [2]⟩,
     ⟨(some 2), .mv (.t 8), none, [3, 0, 1, 2]⟩])
    .ret))) }

/-- (*courant/code.Reader).End -/
def C43 (N : Nat → Nat) : AFunc := { n := 12, params := 1, res := [.tmp 2], body :=
 (.seq (.region false [⟨(some 2), .mv (.k (.d (.int .i64 0))), none, []⟩])
  (.seq (.seq (.region false [⟨(some 4), .mv (.t 0), none, []⟩,
     ⟨(some 5), .call (.k (.d (.fn (N 42)))) [(.t 4)], none, [0]⟩,
     ⟨(some 3), .mv (.t 5), none, [1, 0]⟩])
    (.seq (.region false [⟨(some 6), .mv (.t 3), none, []⟩,
      ⟨(some 7), .bin .neq (.t 6) (.k (.d (.int .i64 0))), none, [0]⟩])
     (.cond (.t 7) (.seq (.region false [⟨(some 8), .mv (.t 3), none, []⟩,
        ⟨(some 2), .mv (.t 8), none, [0]⟩])
       .ret)
      (.skip))))
   (.seq (.seq (.region false [⟨(some 9), .mv (.t 0), none, []⟩,
      ⟨(some 10), .call (.k (.d (.fn (N 32)))) [(.t 9)], none, [0]⟩,
      ⟨(some 11), .bin .gtr (.t 10) (.k (.d (.int .i64 0))), none, [1]⟩])
     (.cond (.t 11) (.seq (.region false [⟨(some 2), .mv (.k (.d (.int .i64 4))), none, []⟩])
       .ret)
      (.skip)))
    (.seq (.region false [⟨(some 2), .mv (.k (.d (.int .i64 0))), none, []⟩])
     .ret)))) }

/-- courant/courantlaw01.CodeNil -/
def C8 (N : Nat → Nat) : AFunc := { n := 44, params := 1, res := [.tmp 2], body :=
 (.seq (.region false [⟨(some 2), .mv (.k (.d (.bool false))), none, []⟩])
  (.seq (.region false [⟨(some 3), .mv (.k (.d .nilp)), none, []⟩])
   (.seq (.region false [⟨(some 4), .call (.k (.d (.fn (N 20)))) [], none, []⟩,
     ⟨(some 5), .mv (.t 4), none, [0]⟩,
     ⟨(some 6), .mv (.t 3), (some (5, true)), [1]⟩,
     ⟨(some 7), .call (.k (.d (.fn (N 39)))) [(.t 6)], (some (5, true)), [2, 1]⟩,
     ⟨(some 8), .bin .eql (.t 7) (.k (.d (.int .u64 0))), (some (5, true)), [3, 1]⟩,
     ⟨(some 9), .pick (.t 5) (.t 8) (.k (.d (.bool false))), none, [1, 4]⟩,
     ⟨(some 10), .mv (.t 9), none, [5, 3]⟩,
     ⟨(some 11), .mv (.t 3), (some (10, true)), [6]⟩,
     ⟨(some 12), .call (.k (.d (.fn (N 40)))) [(.t 11)], (some (10, true)), [7, 6]⟩,
     ⟨(some 13), .bin .eql (.t 12) (.k (.d (.int .i64 0))), (some (10, true)), [8, 6]⟩,
     ⟨(some 14), .pick (.t 10) (.t 13) (.k (.d (.bool false))), none, [6, 9]⟩,
     ⟨(some 15), .mv (.t 14), none, [10, 8]⟩,
     ⟨(some 16), .mv (.t 3), (some (15, true)), [11]⟩,
     ⟨(some 17), .mv (.t 0), (some (15, true)), [11]⟩,
     ⟨(some 18), .call (.k (.d (.fn (N 31)))) [(.t 16), (.t 17)], (some (15, true)), [12, 13, 11]⟩,
     ⟨(some 19), .len (.t 18), (some (15, true)), [14, 11]⟩,
     ⟨(some 20), .bin .eql (.t 19) (.k (.d (.int .i64 0))), (some (15, true)), [15, 11]⟩,
     ⟨(some 21), .pick (.t 15) (.t 20) (.k (.d (.bool false))), none, [11, 16]⟩,
     ⟨(some 22), .mv (.t 21), none, [17, 14]⟩,
     ⟨(some 23), .mv (.t 3), (some (22, true)), [18]⟩,
     ⟨(some 24), .mv (.t 0), (some (22, true)), [18]⟩,
     ⟨(some 25), .call (.k (.d (.fn (N 41)))) [(.t 23), (.t 24)], (some (22, true)), [19, 20, 18]⟩,
     ⟨(some 26), .len (.t 25), (some (22, true)), [21, 18]⟩,
     ⟨(some 27), .bin .eql (.t 26) (.k (.d (.int .i64 0))), (some (22, true)), [22, 18]⟩,
     ⟨(some 28), .pick (.t 22) (.t 27) (.k (.d (.bool false))), none, [18, 23]⟩,
     ⟨(some 29), .mv (.t 28), none, [24, 21]⟩,
     ⟨(some 30), .mv (.t 3), (some (29, true)), [25]⟩,
     ⟨(some 31), .call (.k (.d (.fn (N 32)))) [(.t 30)], (some (29, true)), [26, 25]⟩,
     ⟨(some 32), .bin .eql (.t 31) (.k (.d (.int .i64 0))), (some (29, true)), [27, 25]⟩,
     ⟨(some 33), .pick (.t 29) (.t 32) (.k (.d (.bool false))), none, [25, 28]⟩,
     ⟨(some 34), .mv (.t 33), none, [29, 27]⟩,
     ⟨(some 35), .mv (.t 3), (some (34, true)), [30]⟩,
     ⟨(some 36), .call (.k (.d (.fn (N 42)))) [(.t 35)], (some (34, true)), [31, 30]⟩,
     ⟨(some 37), .bin .eql (.t 36) (.k (.d (.int .i64 2))), (some (34, true)), [32, 30]⟩,
     ⟨(some 38), .pick (.t 34) (.t 37) (.k (.d (.bool false))), none, [30, 33]⟩,
     ⟨(some 39), .mv (.t 38), none, [34, 32]⟩,
     ⟨(some 40), .mv (.t 3), (some (39, true)), [35]⟩,
     ⟨(some 41), .call (.k (.d (.fn (N 43)))) [(.t 40)], (some (39, true)), [36, 35]⟩,
     ⟨(some 42), .bin .eql (.t 41) (.k (.d (.int .i64 2))), (some (39, true)), [37, 35]⟩,
     ⟨(some 43), .pick (.t 39) (.t 42) (.k (.d (.bool false))), none, [35, 38]⟩,
     ⟨(some 2), .mv (.t 43), none, [39, 37, 0, 1, 2, 3, 4, 5, 6, 7, 8, 9, 10, 11, 12, 13, 14, 15, 16, 17, 18, 19, 20, 21, 22, 23, 24, 25, 26, 27, 28, 29, 30, 31, 32, 33, 34, 35, 36, 38]⟩])
    .ret))) }

section
variable {P : Program} {N : Nat → Nat}
theorem n84 (h : HasF P (N 84) (C84 N)) : ACalls P (N 84) [.d .nilp] [] (.d (.bool false)) [] := by
  refine acalls_data h [.nilp] [(0, .d .nilp)] rfl (Nat.le_of_ble_eq_true rfl) ?_
  dsimp only [C84]
  refine AWc.seq ?_
  refine AWc.run (l' := ?l1) (H' := ?h1) (n' := ?n1) (s := ?s1) [] (fun _ => false) (by omega) ?e1 ?p1 ?q1
  case e1 => simp only [runReg, gOn, evOp, evA, lk, cond_true, cond_false, Nat.beq, stepR, dstOK, newOK, topK, putL, appK, restK, hasK, addS, Option.bind_some, out, binA, toSrc, toSl, toEs, toE, toD, toDs, allAV, natListBeq, List.map_cons, List.map_nil, List.range, List.range.loop, lkH, decide_true, Nat.blt, Nat.ble, callOf, AV.scalar, D.isAgg, cellsAV, cellsAll, cells_int, cells_bool, cells_str, cells_sl, cells_agg, cells_fn, cells_nilp, cells_nilf, cells_nili, mkAgg, upd, loadA, oInt, zAV, buildF, nilEq, nilOf, nil0, nil1, nil2, mmA, mmL, zElem, Int.toNat_natCast, List.drop_zero, List.append_nil, List.cons_append, List.nil_append, Int.toNat_zero, Nat.zero_mul, Nat.mul_one, Nat.zero_add]; rfl
  case p1 => simp
  simp only [then', inBlk, noGo]
  refine AWc.seq ?_
  refine AWc.run (l' := ?l2) (H' := ?h2) (n' := ?n2) (s := ?s2) [] (fun _ => false) (by omega) ?e2 ?p2 ?q2
  case e2 => simp only [runReg, gOn, evOp, evA, lk, cond_true, cond_false, Nat.beq, stepR, dstOK, newOK, topK, putL, appK, restK, hasK, addS, Option.bind_some, out, binA, toSrc, toSl, toEs, toE, toD, toDs, allAV, natListBeq, List.map_cons, List.map_nil, List.range, List.range.loop, lkH, decide_true, Nat.blt, Nat.ble, callOf, AV.scalar, D.isAgg, cellsAV, cellsAll, cells_int, cells_bool, cells_str, cells_sl, cells_agg, cells_fn, cells_nilp, cells_nilf, cells_nili, mkAgg, upd, loadA, oInt, zAV, buildF, nilEq, nilOf, nil0, nil1, nil2, mmA, mmL, zElem, Int.toNat_natCast, List.drop_zero, List.append_nil, List.cons_append, List.nil_append, Int.toNat_zero, Nat.zero_mul, Nat.mul_one, Nat.zero_add, Bool.not_true]; rfl
  case p2 => simp
  simp only [then', inBlk, noGo]
  exact AWc.ret ⟨.inr rfl, _, _, rfl, by simp, rfl, fun x hx => hx⟩
theorem n39 (h84 : HasF P (N 84) (C84 N)) (h : HasF P (N 39) (C39 N)) : ACalls P (N 39) [.d .nilp] [] (.d (.int .u64 0)) [] := by
  refine acalls_data h [.nilp] [(0, .d .nilp)] rfl (Nat.le_of_ble_eq_true rfl) ?_
  dsimp only [C39]
  refine AWc.seq ?_
  refine AWc.run (l' := ?l3) (H' := ?h3) (n' := ?n3) (s := ?s3) [] (fun _ => false) (by omega) ?e3 ?p3 ?q3
  case e3 => simp only [runReg, gOn, evOp, evA, lk, cond_true, cond_false, Nat.beq, stepR, dstOK, newOK, topK, putL, appK, restK, hasK, addS, Option.bind_some, out, binA, toSrc, toSl, toEs, toE, toD, toDs, allAV, natListBeq, List.map_cons, List.map_nil, List.range, List.range.loop, lkH, decide_true, Nat.blt, Nat.ble, callOf, AV.scalar, D.isAgg, cellsAV, cellsAll, cells_int, cells_bool, cells_str, cells_sl, cells_agg, cells_fn, cells_nilp, cells_nilf, cells_nili, mkAgg, upd, loadA, oInt, zAV, buildF, nilEq, nilOf, nil0, nil1, nil2, mmA, mmL, zElem, Int.toNat_natCast, List.drop_zero, List.append_nil, List.cons_append, List.nil_append, Int.toNat_zero, Nat.zero_mul, Nat.mul_one, Nat.zero_add]; rfl
  case p3 => simp
  simp only [then', inBlk, noGo]
  refine AWc.scope ?_
  refine AWc.seq ?_
  refine AWc.seq ?_
  refine AWc.run (l' := ?l4) (H' := ?h4) (n' := ?n4) (s := ?s4) [⟨.d (.bool false), [], []⟩] (fun _ => false) (by omega) ?e4 ?p4 ?q4
  case e4 => simp only [runReg, gOn, evOp, evA, lk, cond_true, cond_false, Nat.beq, stepR, dstOK, newOK, topK, putL, appK, restK, hasK, addS, Option.bind_some, out, binA, toSrc, toSl, toEs, toE, toD, toDs, allAV, natListBeq, List.map_cons, List.map_nil, List.range, List.range.loop, lkH, decide_true, Nat.blt, Nat.ble, callOf, AV.scalar, D.isAgg, cellsAV, cellsAll, cells_int, cells_bool, cells_str, cells_sl, cells_agg, cells_fn, cells_nilp, cells_nilf, cells_nili, mkAgg, upd, loadA, oInt, zAV, buildF, nilEq, nilOf, nil0, nil1, nil2, mmA, mmL, zElem, Int.toNat_natCast, List.drop_zero, List.append_nil, List.cons_append, List.nil_append, Int.toNat_zero, Nat.zero_mul, Nat.mul_one, Nat.zero_add]; rfl
  case p4 => simp [n84 h84]
  simp only [then', inBlk, noGo]
  refine AWc.cond rfl (fun hc => ?_) (fun hc => ?_)
  · refine AWc.seq ?_
    refine AWc.run (l' := ?l5) (H' := ?h5) (n' := ?n5) (s := ?s5) [] (fun _ => false) (by omega) ?e5 ?p5 ?q5
    case e5 => simp only [runReg, gOn, evOp, evA, lk, cond_true, cond_false, Nat.beq, stepR, dstOK, newOK, topK, putL, appK, restK, hasK, addS, Option.bind_some, out, binA, toSrc, toSl, toEs, toE, toD, toDs, allAV, natListBeq, List.map_cons, List.map_nil, List.range, List.range.loop, lkH, decide_true, Nat.blt, Nat.ble, callOf, AV.scalar, D.isAgg, cellsAV, cellsAll, cells_int, cells_bool, cells_str, cells_sl, cells_agg, cells_fn, cells_nilp, cells_nilf, cells_nili, mkAgg, upd, loadA, oInt, zAV, buildF, nilEq, nilOf, nil0, nil1, nil2, mmA, mmL, zElem, Int.toNat_natCast, List.drop_zero, List.append_nil, List.cons_append, List.nil_append, Int.toNat_zero, Nat.zero_mul, Nat.mul_one, Nat.zero_add]; rfl
    case p5 => simp
    simp only [then', inBlk, noGo]
    exact AWc.ret ⟨.inr rfl, _, _, rfl, by simp, rfl, fun x hx => hx⟩
  · cases hc
theorem n88 (h : HasF P (N 88) (C88 N)) : ACalls P (N 88) [.d (.int .u64 0)] [] (.d (.int .i64 0)) [] := by
  refine acalls_data h [.int .u64 0] [(0, .d (.int .u64 0))] rfl (Nat.le_of_ble_eq_true rfl) ?_
  dsimp only [C88]
  refine AWc.seq ?_
  refine AWc.run (l' := ?l6) (H' := ?h6) (n' := ?n6) (s := ?s6) [] (fun _ => false) (by omega) ?e6 ?p6 ?q6
  case e6 => simp only [runReg, gOn, evOp, evA, lk, cond_true, cond_false, Nat.beq, stepR, dstOK, newOK, topK, putL, appK, restK, hasK, addS, Option.bind_some, out, binA, toSrc, toSl, toEs, toE, toD, toDs, allAV, natListBeq, List.map_cons, List.map_nil, List.range, List.range.loop, lkH, decide_true, Nat.blt, Nat.ble, callOf, AV.scalar, D.isAgg, cellsAV, cellsAll, cells_int, cells_bool, cells_str, cells_sl, cells_agg, cells_fn, cells_nilp, cells_nilf, cells_nili, mkAgg, upd, loadA, oInt, zAV, buildF, nilEq, nilOf, nil0, nil1, nil2, mmA, mmL, zElem, Int.toNat_natCast, List.drop_zero, List.append_nil, List.cons_append, List.nil_append, Int.toNat_zero, Nat.zero_mul, Nat.mul_one, Nat.zero_add]; rfl
  case p6 => simp
  simp only [then', inBlk, noGo]
  refine AWc.seq ?_
  refine AWc.run (l' := ?l7) (H' := ?h7) (n' := ?n7) (s := ?s7) [] (fun _ => false) (by omega) ?e7 ?p7 ?q7
  case e7 => simp only [runReg, gOn, evOp, evA, lk, cond_true, cond_false, Nat.beq, stepR, dstOK, newOK, topK, putL, appK, restK, hasK, addS, Option.bind_some, out, binA, toSrc, toSl, toEs, toE, toD, toDs, allAV, natListBeq, List.map_cons, List.map_nil, List.range, List.range.loop, lkH, decide_true, Nat.blt, Nat.ble, callOf, AV.scalar, D.isAgg, cellsAV, cellsAll, cells_int, cells_bool, cells_str, cells_sl, cells_agg, cells_fn, cells_nilp, cells_nilf, cells_nili, mkAgg, upd, loadA, oInt, zAV, buildF, nilEq, nilOf, nil0, nil1, nil2, mmA, mmL, zElem, Int.toNat_natCast, List.drop_zero, List.append_nil, List.cons_append, List.nil_append, Int.toNat_zero, Nat.zero_mul, Nat.mul_one, Nat.zero_add]; rfl
  case p7 => simp
  simp only [then', inBlk, noGo]
  refine AWc.ret ⟨.inr rfl, _, _, rfl, by simp, ?_, fun x hx => hx⟩
  have : bitsA .xor .i64 (IntKind.i64.wrap (Int.fdiv 0 (2 ^ min (Int.toNat 1) IntKind.u64.bits))) (IntKind.i64.wrap (0 - IntKind.i64.wrap (bitsA .and .u64 0 1))) = 0 := by decide
  simp only [resV, this]
theorem n40 (h84 : HasF P (N 84) (C84 N)) (h39 : HasF P (N 39) (C39 N)) (h88 : HasF P (N 88) (C88 N)) (h : HasF P (N 40) (C40 N)) : ACalls P (N 40) [.d .nilp] [] (.d (.int .i64 0)) [] := by
  refine acalls_data h [.nilp] [(0, .d .nilp)] rfl (Nat.le_of_ble_eq_true rfl) ?_
  dsimp only [C40]
  refine AWc.seq ?_
  refine AWc.run (l' := ?l8) (H' := ?h8) (n' := ?n8) (s := ?s8) [] (fun _ => false) (by omega) ?e8 ?p8 ?q8
  case e8 => simp only [runReg, gOn, evOp, evA, lk, cond_true, cond_false, Nat.beq, stepR, dstOK, newOK, topK, putL, appK, restK, hasK, addS, Option.bind_some, out, binA, toSrc, toSl, toEs, toE, toD, toDs, allAV, natListBeq, List.map_cons, List.map_nil, List.range, List.range.loop, lkH, decide_true, Nat.blt, Nat.ble, callOf, AV.scalar, D.isAgg, cellsAV, cellsAll, cells_int, cells_bool, cells_str, cells_sl, cells_agg, cells_fn, cells_nilp, cells_nilf, cells_nili, mkAgg, upd, loadA, oInt, zAV, buildF, nilEq, nilOf, nil0, nil1, nil2, mmA, mmL, zElem, Int.toNat_natCast, List.drop_zero, List.append_nil, List.cons_append, List.nil_append, Int.toNat_zero, Nat.zero_mul, Nat.mul_one, Nat.zero_add]; rfl
  case p8 => simp
  simp only [then', inBlk, noGo]
  refine AWc.seq ?_
  refine AWc.run (l' := ?l9) (H' := ?h9) (n' := ?n9) (s := ?s9) [⟨.d (.int .u64 0), [], []⟩, ⟨.d (.int .i64 0), [], []⟩] (fun _ => false) (by omega) ?e9 ?p9 ?q9
  case e9 => simp only [runReg, gOn, evOp, evA, lk, cond_true, cond_false, Nat.beq, stepR, dstOK, newOK, topK, putL, appK, restK, hasK, addS, Option.bind_some, out, binA, toSrc, toSl, toEs, toE, toD, toDs, allAV, natListBeq, List.map_cons, List.map_nil, List.range, List.range.loop, lkH, decide_true, Nat.blt, Nat.ble, callOf, AV.scalar, D.isAgg, cellsAV, cellsAll, cells_int, cells_bool, cells_str, cells_sl, cells_agg, cells_fn, cells_nilp, cells_nilf, cells_nili, mkAgg, upd, loadA, oInt, zAV, buildF, nilEq, nilOf, nil0, nil1, nil2, mmA, mmL, zElem, Int.toNat_natCast, List.drop_zero, List.append_nil, List.cons_append, List.nil_append, Int.toNat_zero, Nat.zero_mul, Nat.mul_one, Nat.zero_add]; rfl
  case p9 => simp [n39 h84 h39, n88 h88]
  simp only [then', inBlk, noGo]
  exact AWc.ret ⟨.inr rfl, _, _, rfl, by simp, rfl, fun x hx => hx⟩
theorem n31 (h84 : HasF P (N 84) (C84 N)) (h : HasF P (N 31) (C31 N)) (n : Int) : ACalls P (N 31) [.d .nilp, .d (.int .i64 n)] [] .nils [] := by
  refine acalls_nils h [.nilp, .int .i64 n] [(0, .d .nilp), (1, .d (.int .i64 n))] rfl (Nat.le_of_ble_eq_true rfl) ?_
  dsimp only [C31]
  refine AWc.seq ?_
  refine AWc.run (l' := ?l10) (H' := ?h10) (n' := ?n10) (s := ?s10) [] (fun _ => false) (by omega) ?e10 ?p10 ?q10
  case e10 => simp only [runReg, gOn, evOp, evA, lk, cond_true, cond_false, Nat.beq, stepR, dstOK, newOK, topK, putL, appK, restK, hasK, addS, Option.bind_some, out, binA, toSrc, toSl, toEs, toE, toD, toDs, allAV, natListBeq, List.map_cons, List.map_nil, List.range, List.range.loop, lkH, decide_true, Nat.blt, Nat.ble, callOf, AV.scalar, D.isAgg, cellsAV, cellsAll, cells_int, cells_bool, cells_str, cells_sl, cells_agg, cells_fn, cells_nilp, cells_nilf, cells_nili, mkAgg, upd, loadA, oInt, zAV, buildF, nilEq, nilOf, nil0, nil1, nil2, mmA, mmL, zElem, Int.toNat_natCast, List.drop_zero, List.append_nil, List.cons_append, List.nil_append, Int.toNat_zero, Nat.zero_mul, Nat.mul_one, Nat.zero_add]; rfl
  case p10 => simp
  simp only [then', inBlk, noGo]
  refine AWc.seq ?_
  refine AWc.seq ?_
  refine AWc.run (l' := ?l11) (H' := ?h11) (n' := ?n11) (s := ?s11) [⟨.d (.bool false), [], []⟩] (fun _ => false) (by omega) ?e11 ?p11 ?q11
  case e11 => simp only [runReg, gOn, evOp, evA, lk, cond_true, cond_false, Nat.beq, stepR, dstOK, newOK, topK, putL, appK, restK, hasK, addS, Option.bind_some, out, binA, toSrc, toSl, toEs, toE, toD, toDs, allAV, natListBeq, List.map_cons, List.map_nil, List.range, List.range.loop, lkH, decide_true, Nat.blt, Nat.ble, callOf, AV.scalar, D.isAgg, cellsAV, cellsAll, cells_int, cells_bool, cells_str, cells_sl, cells_agg, cells_fn, cells_nilp, cells_nilf, cells_nili, mkAgg, upd, loadA, oInt, zAV, buildF, nilEq, nilOf, nil0, nil1, nil2, mmA, mmL, zElem, Int.toNat_natCast, List.drop_zero, List.append_nil, List.cons_append, List.nil_append, Int.toNat_zero, Nat.zero_mul, Nat.mul_one, Nat.zero_add]; rfl
  case p11 => simp [n84 h84]
  simp only [then', inBlk, noGo]
  refine AWc.cond rfl (fun hc => ?_) (fun hc => ?_)
  · refine AWc.seq ?_
    refine AWc.run (l' := ?l12) (H' := ?h12) (n' := ?n12) (s := ?s12) [] (fun _ => false) (by omega) ?e12 ?p12 ?q12
    case e12 => simp only [runReg, gOn, evOp, evA, lk, cond_true, cond_false, Nat.beq, stepR, dstOK, newOK, topK, putL, appK, restK, hasK, addS, Option.bind_some, out, binA, toSrc, toSl, toEs, toE, toD, toDs, allAV, natListBeq, List.map_cons, List.map_nil, List.range, List.range.loop, lkH, decide_true, Nat.blt, Nat.ble, callOf, AV.scalar, D.isAgg, cellsAV, cellsAll, cells_int, cells_bool, cells_str, cells_sl, cells_agg, cells_fn, cells_nilp, cells_nilf, cells_nili, mkAgg, upd, loadA, oInt, zAV, buildF, nilEq, nilOf, nil0, nil1, nil2, mmA, mmL, zElem, Int.toNat_natCast, List.drop_zero, List.append_nil, List.cons_append, List.nil_append, Int.toNat_zero, Nat.zero_mul, Nat.mul_one, Nat.zero_add]; rfl
    case p12 => simp
    simp only [then', inBlk, noGo]
    exact AWc.ret ⟨.inr rfl, _, _, rfl, by simp, rfl, fun x hx => hx⟩
  · cases hc
theorem n41 (h84 : HasF P (N 84) (C84 N)) (h : HasF P (N 41) (C41 N)) (n : Int) : ACalls P (N 41) [.d .nilp, .d (.int .i64 n)] [] .nils [] := by
  refine acalls_nils h [.nilp, .int .i64 n] [(0, .d .nilp), (1, .d (.int .i64 n))] rfl (Nat.le_of_ble_eq_true rfl) ?_
  dsimp only [C41]
  refine AWc.seq ?_
  refine AWc.run (l' := ?l13) (H' := ?h13) (n' := ?n13) (s := ?s13) [] (fun _ => false) (by omega) ?e13 ?p13 ?q13
  case e13 => simp only [runReg, gOn, evOp, evA, lk, cond_true, cond_false, Nat.beq, stepR, dstOK, newOK, topK, putL, appK, restK, hasK, addS, Option.bind_some, out, binA, toSrc, toSl, toEs, toE, toD, toDs, allAV, natListBeq, List.map_cons, List.map_nil, List.range, List.range.loop, lkH, decide_true, Nat.blt, Nat.ble, callOf, AV.scalar, D.isAgg, cellsAV, cellsAll, cells_int, cells_bool, cells_str, cells_sl, cells_agg, cells_fn, cells_nilp, cells_nilf, cells_nili, mkAgg, upd, loadA, oInt, zAV, buildF, nilEq, nilOf, nil0, nil1, nil2, mmA, mmL, zElem, Int.toNat_natCast, List.drop_zero, List.append_nil, List.cons_append, List.nil_append, Int.toNat_zero, Nat.zero_mul, Nat.mul_one, Nat.zero_add]; rfl
  case p13 => simp
  simp only [then', inBlk, noGo]
  refine AWc.seq ?_
  refine AWc.seq ?_
  refine AWc.run (l' := ?l14) (H' := ?h14) (n' := ?n14) (s := ?s14) [⟨.d (.bool false), [], []⟩] (fun _ => false) (by omega) ?e14 ?p14 ?q14
  case e14 => simp only [runReg, gOn, evOp, evA, lk, cond_true, cond_false, Nat.beq, stepR, dstOK, newOK, topK, putL, appK, restK, hasK, addS, Option.bind_some, out, binA, toSrc, toSl, toEs, toE, toD, toDs, allAV, natListBeq, List.map_cons, List.map_nil, List.range, List.range.loop, lkH, decide_true, Nat.blt, Nat.ble, callOf, AV.scalar, D.isAgg, cellsAV, cellsAll, cells_int, cells_bool, cells_str, cells_sl, cells_agg, cells_fn, cells_nilp, cells_nilf, cells_nili, mkAgg, upd, loadA, oInt, zAV, buildF, nilEq, nilOf, nil0, nil1, nil2, mmA, mmL, zElem, Int.toNat_natCast, List.drop_zero, List.append_nil, List.cons_append, List.nil_append, Int.toNat_zero, Nat.zero_mul, Nat.mul_one, Nat.zero_add, Bool.not_false]; rfl
  case p14 => simp [n84 h84]
  simp only [then', inBlk, noGo]
  refine AWc.cond rfl (fun hc => ?_) (fun hc => ?_)
  · refine AWc.seq ?_
    refine AWc.run (l' := ?l15) (H' := ?h15) (n' := ?n15) (s := ?s15) [] (fun _ => false) (by omega) ?e15 ?p15 ?q15
    case e15 => simp only [runReg, gOn, evOp, evA, lk, cond_true, cond_false, Nat.beq, stepR, dstOK, newOK, topK, putL, appK, restK, hasK, addS, Option.bind_some, out, binA, toSrc, toSl, toEs, toE, toD, toDs, allAV, natListBeq, List.map_cons, List.map_nil, List.range, List.range.loop, lkH, decide_true, Nat.blt, Nat.ble, callOf, AV.scalar, D.isAgg, cellsAV, cellsAll, cells_int, cells_bool, cells_str, cells_sl, cells_agg, cells_fn, cells_nilp, cells_nilf, cells_nili, mkAgg, upd, loadA, oInt, zAV, buildF, nilEq, nilOf, nil0, nil1, nil2, mmA, mmL, zElem, Int.toNat_natCast, List.drop_zero, List.append_nil, List.cons_append, List.nil_append, Int.toNat_zero, Nat.zero_mul, Nat.mul_one, Nat.zero_add]; rfl
    case p15 => simp
    simp only [then', inBlk, noGo]
    exact AWc.ret ⟨.inr rfl, _, _, rfl, by simp, rfl, fun x hx => hx⟩
  · cases hc
theorem n32 (h : HasF P (N 32) (C32 N)) : ACalls P (N 32) [.d .nilp] [] (.d (.int .i64 0)) [] := by
  refine acalls_data h [.nilp] [(0, .d .nilp)] rfl (Nat.le_of_ble_eq_true rfl) ?_
  dsimp only [C32]
  refine AWc.seq ?_
  refine AWc.run (l' := ?l16) (H' := ?h16) (n' := ?n16) (s := ?s16) [] (fun _ => false) (by omega) ?e16 ?p16 ?q16
  case e16 => simp only [runReg, gOn, evOp, evA, lk, cond_true, cond_false, Nat.beq, stepR, dstOK, newOK, topK, putL, appK, restK, hasK, addS, Option.bind_some, out, binA, toSrc, toSl, toEs, toE, toD, toDs, allAV, natListBeq, List.map_cons, List.map_nil, List.range, List.range.loop, lkH, decide_true, Nat.blt, Nat.ble, callOf, AV.scalar, D.isAgg, cellsAV, cellsAll, cells_int, cells_bool, cells_str, cells_sl, cells_agg, cells_fn, cells_nilp, cells_nilf, cells_nili, mkAgg, upd, loadA, oInt, zAV, buildF, nilEq, nilOf, nil0, nil1, nil2, mmA, mmL, zElem, Int.toNat_natCast, List.drop_zero, List.append_nil, List.cons_append, List.nil_append, Int.toNat_zero, Nat.zero_mul, Nat.mul_one, Nat.zero_add]; rfl
  case p16 => simp
  simp only [then', inBlk, noGo]
  refine AWc.seq ?_
  refine AWc.seq ?_
  refine AWc.run (l' := ?l17) (H' := ?h17) (n' := ?n17) (s := ?s17) [] (fun _ => false) (by omega) ?e17 ?p17 ?q17
  case e17 => simp only [runReg, gOn, evOp, evA, lk, cond_true, cond_false, Nat.beq, stepR, dstOK, newOK, topK, putL, appK, restK, hasK, addS, Option.bind_some, out, binA, toSrc, toSl, toEs, toE, toD, toDs, allAV, natListBeq, List.map_cons, List.map_nil, List.range, List.range.loop, lkH, decide_true, Nat.blt, Nat.ble, callOf, AV.scalar, D.isAgg, cellsAV, cellsAll, cells_int, cells_bool, cells_str, cells_sl, cells_agg, cells_fn, cells_nilp, cells_nilf, cells_nili, mkAgg, upd, loadA, oInt, zAV, buildF, nilEq, nilOf, nil0, nil1, nil2, mmA, mmL, zElem, Int.toNat_natCast, List.drop_zero, List.append_nil, List.cons_append, List.nil_append, Int.toNat_zero, Nat.zero_mul, Nat.mul_one, Nat.zero_add]; rfl
  case p17 => simp
  simp only [then', inBlk, noGo]
  refine AWc.cond rfl (fun hc => ?_) (fun hc => ?_)
  · refine AWc.seq ?_
    refine AWc.run (l' := ?l18) (H' := ?h18) (n' := ?n18) (s := ?s18) [] (fun _ => false) (by omega) ?e18 ?p18 ?q18
    case e18 => simp only [runReg, gOn, evOp, evA, lk, cond_true, cond_false, Nat.beq, stepR, dstOK, newOK, topK, putL, appK, restK, hasK, addS, Option.bind_some, out, binA, toSrc, toSl, toEs, toE, toD, toDs, allAV, natListBeq, List.map_cons, List.map_nil, List.range, List.range.loop, lkH, decide_true, Nat.blt, Nat.ble, callOf, AV.scalar, D.isAgg, cellsAV, cellsAll, cells_int, cells_bool, cells_str, cells_sl, cells_agg, cells_fn, cells_nilp, cells_nilf, cells_nili, mkAgg, upd, loadA, oInt, zAV, buildF, nilEq, nilOf, nil0, nil1, nil2, mmA, mmL, zElem, Int.toNat_natCast, List.drop_zero, List.append_nil, List.cons_append, List.nil_append, Int.toNat_zero, Nat.zero_mul, Nat.mul_one, Nat.zero_add]; rfl
    case p18 => simp
    simp only [then', inBlk, noGo]
    exact AWc.ret ⟨.inr rfl, _, _, rfl, by simp, rfl, fun x hx => hx⟩
  · cases hc
theorem n42 (h : HasF P (N 42) (C42 N)) : ACalls P (N 42) [.d .nilp] [] (.d (.int .i64 2)) [] := by
  refine acalls_data h [.nilp] [(0, .d .nilp)] rfl (Nat.le_of_ble_eq_true rfl) ?_
  dsimp only [C42]
  refine AWc.seq ?_
  refine AWc.run (l' := ?l19) (H' := ?h19) (n' := ?n19) (s := ?s19) [] (fun _ => false) (by omega) ?e19 ?p19 ?q19
  case e19 => simp only [runReg, gOn, evOp, evA, lk, cond_true, cond_false, Nat.beq, stepR, dstOK, newOK, topK, putL, appK, restK, hasK, addS, Option.bind_some, out, binA, toSrc, toSl, toEs, toE, toD, toDs, allAV, natListBeq, List.map_cons, List.map_nil, List.range, List.range.loop, lkH, decide_true, Nat.blt, Nat.ble, callOf, AV.scalar, D.isAgg, cellsAV, cellsAll, cells_int, cells_bool, cells_str, cells_sl, cells_agg, cells_fn, cells_nilp, cells_nilf, cells_nili, mkAgg, upd, loadA, oInt, zAV, buildF, nilEq, nilOf, nil0, nil1, nil2, mmA, mmL, zElem, Int.toNat_natCast, List.drop_zero, List.append_nil, List.cons_append, List.nil_append, Int.toNat_zero, Nat.zero_mul, Nat.mul_one, Nat.zero_add]; rfl
  case p19 => simp
  simp only [then', inBlk, noGo]
  refine AWc.seq ?_
  refine AWc.seq ?_
  refine AWc.run (l' := ?l20) (H' := ?h20) (n' := ?n20) (s := ?s20) [] (fun _ => false) (by omega) ?e20 ?p20 ?q20
  case e20 => simp only [runReg, gOn, evOp, evA, lk, cond_true, cond_false, Nat.beq, stepR, dstOK, newOK, topK, putL, appK, restK, hasK, addS, Option.bind_some, out, binA, toSrc, toSl, toEs, toE, toD, toDs, allAV, natListBeq, List.map_cons, List.map_nil, List.range, List.range.loop, lkH, decide_true, Nat.blt, Nat.ble, callOf, AV.scalar, D.isAgg, cellsAV, cellsAll, cells_int, cells_bool, cells_str, cells_sl, cells_agg, cells_fn, cells_nilp, cells_nilf, cells_nili, mkAgg, upd, loadA, oInt, zAV, buildF, nilEq, nilOf, nil0, nil1, nil2, mmA, mmL, zElem, Int.toNat_natCast, List.drop_zero, List.append_nil, List.cons_append, List.nil_append, Int.toNat_zero, Nat.zero_mul, Nat.mul_one, Nat.zero_add]; rfl
  case p20 => simp
  simp only [then', inBlk, noGo]
  refine AWc.cond rfl (fun hc => ?_) (fun hc => ?_)
  · refine AWc.seq ?_
    refine AWc.run (l' := ?l21) (H' := ?h21) (n' := ?n21) (s := ?s21) [] (fun _ => false) (by omega) ?e21 ?p21 ?q21
    case e21 => simp only [runReg, gOn, evOp, evA, lk, cond_true, cond_false, Nat.beq, stepR, dstOK, newOK, topK, putL, appK, restK, hasK, addS, Option.bind_some, out, binA, toSrc, toSl, toEs, toE, toD, toDs, allAV, natListBeq, List.map_cons, List.map_nil, List.range, List.range.loop, lkH, decide_true, Nat.blt, Nat.ble, callOf, AV.scalar, D.isAgg, cellsAV, cellsAll, cells_int, cells_bool, cells_str, cells_sl, cells_agg, cells_fn, cells_nilp, cells_nilf, cells_nili, mkAgg, upd, loadA, oInt, zAV, buildF, nilEq, nilOf, nil0, nil1, nil2, mmA, mmL, zElem, Int.toNat_natCast, List.drop_zero, List.append_nil, List.cons_append, List.nil_append, Int.toNat_zero, Nat.zero_mul, Nat.mul_one, Nat.zero_add]; rfl
    case p21 => simp
    simp only [then', inBlk, noGo]
    exact AWc.ret ⟨.inr rfl, _, _, rfl, by simp, rfl, fun x hx => hx⟩
  · cases hc
theorem n43 (h42 : HasF P (N 42) (C42 N)) (h : HasF P (N 43) (C43 N)) : ACalls P (N 43) [.d .nilp] [] (.d (.int .i64 2)) [] := by
  refine acalls_data h [.nilp] [(0, .d .nilp)] rfl (Nat.le_of_ble_eq_true rfl) ?_
  dsimp only [C43]
  refine AWc.seq ?_
  refine AWc.run (l' := ?l22) (H' := ?h22) (n' := ?n22) (s := ?s22) [] (fun _ => false) (by omega) ?e22 ?p22 ?q22
  case e22 => simp only [runReg, gOn, evOp, evA, lk, cond_true, cond_false, Nat.beq, stepR, dstOK, newOK, topK, putL, appK, restK, hasK, addS, Option.bind_some, out, binA, toSrc, toSl, toEs, toE, toD, toDs, allAV, natListBeq, List.map_cons, List.map_nil, List.range, List.range.loop, lkH, decide_true, Nat.blt, Nat.ble, callOf, AV.scalar, D.isAgg, cellsAV, cellsAll, cells_int, cells_bool, cells_str, cells_sl, cells_agg, cells_fn, cells_nilp, cells_nilf, cells_nili, mkAgg, upd, loadA, oInt, zAV, buildF, nilEq, nilOf, nil0, nil1, nil2, mmA, mmL, zElem, Int.toNat_natCast, List.drop_zero, List.append_nil, List.cons_append, List.nil_append, Int.toNat_zero, Nat.zero_mul, Nat.mul_one, Nat.zero_add]; rfl
  case p22 => simp
  simp only [then', inBlk, noGo]
  refine AWc.seq ?_
  refine AWc.seq ?_
  refine AWc.run (l' := ?l23) (H' := ?h23) (n' := ?n23) (s := ?s23) [⟨.d (.int .i64 2), [], []⟩] (fun _ => false) (by omega) ?e23 ?p23 ?q23
  case e23 => simp only [runReg, gOn, evOp, evA, lk, cond_true, cond_false, Nat.beq, stepR, dstOK, newOK, topK, putL, appK, restK, hasK, addS, Option.bind_some, out, binA, toSrc, toSl, toEs, toE, toD, toDs, allAV, natListBeq, List.map_cons, List.map_nil, List.range, List.range.loop, lkH, decide_true, Nat.blt, Nat.ble, callOf, AV.scalar, D.isAgg, cellsAV, cellsAll, cells_int, cells_bool, cells_str, cells_sl, cells_agg, cells_fn, cells_nilp, cells_nilf, cells_nili, mkAgg, upd, loadA, oInt, zAV, buildF, nilEq, nilOf, nil0, nil1, nil2, mmA, mmL, zElem, Int.toNat_natCast, List.drop_zero, List.append_nil, List.cons_append, List.nil_append, Int.toNat_zero, Nat.zero_mul, Nat.mul_one, Nat.zero_add]; rfl
  case p23 => simp [n42 h42]
  simp only [then', inBlk, noGo]
  refine AWc.seq ?_
  refine AWc.run (l' := ?l24) (H' := ?h24) (n' := ?n24) (s := ?s24) [] (fun _ => false) (by omega) ?e24 ?p24 ?q24
  case e24 => simp only [runReg, gOn, evOp, evA, lk, cond_true, cond_false, Nat.beq, stepR, dstOK, newOK, topK, putL, appK, restK, hasK, addS, Option.bind_some, out, binA, toSrc, toSl, toEs, toE, toD, toDs, allAV, natListBeq, List.map_cons, List.map_nil, List.range, List.range.loop, lkH, decide_true, Nat.blt, Nat.ble, callOf, AV.scalar, D.isAgg, cellsAV, cellsAll, cells_int, cells_bool, cells_str, cells_sl, cells_agg, cells_fn, cells_nilp, cells_nilf, cells_nili, mkAgg, upd, loadA, oInt, zAV, buildF, nilEq, nilOf, nil0, nil1, nil2, mmA, mmL, zElem, Int.toNat_natCast, List.drop_zero, List.append_nil, List.cons_append, List.nil_append, Int.toNat_zero, Nat.zero_mul, Nat.mul_one, Nat.zero_add]; rfl
  case p24 => simp
  simp only [then', inBlk, noGo]
  refine AWc.cond rfl (fun hc => ?_) (fun hc => ?_)
  · refine AWc.seq ?_
    refine AWc.run (l' := ?l25) (H' := ?h25) (n' := ?n25) (s := ?s25) [] (fun _ => false) (by omega) ?e25 ?p25 ?q25
    case e25 => simp only [runReg, gOn, evOp, evA, lk, cond_true, cond_false, Nat.beq, stepR, dstOK, newOK, topK, putL, appK, restK, hasK, addS, Option.bind_some, out, binA, toSrc, toSl, toEs, toE, toD, toDs, allAV, natListBeq, List.map_cons, List.map_nil, List.range, List.range.loop, lkH, decide_true, Nat.blt, Nat.ble, callOf, AV.scalar, D.isAgg, cellsAV, cellsAll, cells_int, cells_bool, cells_str, cells_sl, cells_agg, cells_fn, cells_nilp, cells_nilf, cells_nili, mkAgg, upd, loadA, oInt, zAV, buildF, nilEq, nilOf, nil0, nil1, nil2, mmA, mmL, zElem, Int.toNat_natCast, List.drop_zero, List.append_nil, List.cons_append, List.nil_append, Int.toNat_zero, Nat.zero_mul, Nat.mul_one, Nat.zero_add]; rfl
    case p25 => simp
    simp only [then', inBlk, noGo]
    exact AWc.ret ⟨.inr rfl, _, _, rfl, by simp, rfl, fun x hx => hx⟩
  · cases hc
theorem c8 (h20 : ACalls P (N 20) [] [] (.d (.bool true)) []) (h84 : HasF P (N 84) (C84 N)) (h39 : HasF P (N 39) (C39 N)) (h40 : HasF P (N 40) (C40 N)) (h88 : HasF P (N 88) (C88 N)) (h31 : HasF P (N 31) (C31 N)) (h41 : HasF P (N 41) (C41 N))
    (h32 : HasF P (N 32) (C32 N)) (h42 : HasF P (N 42) (C42 N)) (h43 : HasF P (N 43) (C43 N)) (h : HasF P (N 8) (C8 N)) (n : Int) : ACalls P (N 8) [.d (.int .i64 n)] [] (.d (.bool true)) [] := by
  refine acalls_data h [.int .i64 n] [(0, .d (.int .i64 n))] rfl (Nat.le_of_ble_eq_true rfl) ?_
  dsimp only [C8]
  refine AWc.seq ?_
  refine AWc.run (l' := ?l26) (H' := ?h26) (n' := ?n26) (s := ?s26) [] (fun _ => false) (by omega) ?e26 ?p26 ?q26
  case e26 => simp only [runReg, gOn, evOp, evA, lk, cond_true, cond_false, Nat.beq, stepR, dstOK, newOK, topK, putL, appK, restK, hasK, addS, Option.bind_some, out, binA, toSrc, toSl, toEs, toE, toD, toDs, allAV, natListBeq, List.map_cons, List.map_nil, List.range, List.range.loop, lkH, decide_true, Nat.blt, Nat.ble, callOf, AV.scalar, D.isAgg, cellsAV, cellsAll, cells_int, cells_bool, cells_str, cells_sl, cells_agg, cells_fn, cells_nilp, cells_nilf, cells_nili, mkAgg, upd, loadA, oInt, zAV, buildF, nilEq, nilOf, nil0, nil1, nil2, mmA, mmL, zElem, Int.toNat_natCast, List.drop_zero, List.append_nil, List.cons_append, List.nil_append, Int.toNat_zero, Nat.zero_mul, Nat.mul_one, Nat.zero_add]; rfl
  case p26 => simp
  simp only [then', inBlk, noGo]
  refine AWc.seq ?_
  refine AWc.run (l' := ?l27) (H' := ?h27) (n' := ?n27) (s := ?s27) [] (fun _ => false) (by omega) ?e27 ?p27 ?q27
  case e27 => simp only [runReg, gOn, evOp, evA, lk, cond_true, cond_false, Nat.beq, stepR, dstOK, newOK, topK, putL, appK, restK, hasK, addS, Option.bind_some, out, binA, toSrc, toSl, toEs, toE, toD, toDs, allAV, natListBeq, List.map_cons, List.map_nil, List.range, List.range.loop, lkH, decide_true, Nat.blt, Nat.ble, callOf, AV.scalar, D.isAgg, cellsAV, cellsAll, cells_int, cells_bool, cells_str, cells_sl, cells_agg, cells_fn, cells_nilp, cells_nilf, cells_nili, mkAgg, upd, loadA, oInt, zAV, buildF, nilEq, nilOf, nil0, nil1, nil2, mmA, mmL, zElem, Int.toNat_natCast, List.drop_zero, List.append_nil, List.cons_append, List.nil_append, Int.toNat_zero, Nat.zero_mul, Nat.mul_one, Nat.zero_add]; rfl
  case p27 => simp
  simp only [then', inBlk, noGo]
  refine AWc.seq ?_
  refine AWc.pieces (Nat.zero_le _) ?_
  refine RegTo.piece (k' := 10) (l' := ?l28) (H' := ?h28) (c' := ?n28) (s := ?s28) 10 [⟨.d (.bool true), [], []⟩, ⟨.d (.int .u64 0), [], []⟩, ⟨.d (.int .i64 0), [], []⟩] (fun _ => false) _ rfl (Nat.le_of_ble_eq_true rfl) rfl ?e28 ?p28 ?q28
  case e28 => simp only [List.drop_succ_cons, List.take_succ_cons, List.take_zero, runReg, gOn, evOp, evA, lk, cond_true, cond_false, Nat.beq, stepR, dstOK, newOK, topK, putL, appK, restK, hasK, addS, Option.bind_some, out, binA, toSrc, toSl, toEs, toE, toD, toDs, allAV, natListBeq, List.map_cons, List.map_nil, List.range, List.range.loop, lkH, decide_true, Nat.blt, Nat.ble, callOf, AV.scalar, D.isAgg, cellsAV, cellsAll, cells_int, cells_bool, cells_str, cells_sl, cells_agg, cells_fn, cells_nilp, cells_nilf, cells_nili, mkAgg, upd, loadA, oInt, zAV, buildF, nilEq, nilOf, nil0, nil1, nil2, mmA, mmL, zElem, Int.toNat_natCast, List.drop_zero, List.append_nil, List.cons_append, List.nil_append, Int.toNat_zero, Nat.zero_mul, Nat.mul_one, Nat.zero_add]; rfl
  case p28 => simp [h20, n39 h84 h39, n40 h84 h39 h88 h40]
  refine RegTo.piece (k' := 19) (l' := ?l29) (H' := ?h29) (c' := ?n29) (s := ?s29) 9 [⟨.nils, [], []⟩] (fun _ => false) _ rfl (Nat.le_of_ble_eq_true rfl) rfl ?e29 ?p29 ?q29
  case e29 => simp only [List.drop_succ_cons, List.take_succ_cons, List.take_zero, runReg, gOn, evOp, evA, lk, cond_true, cond_false, Nat.beq, stepR, dstOK, newOK, topK, putL, appK, restK, hasK, addS, Option.bind_some, out, binA, toSrc, toSl, toEs, toE, toD, toDs, allAV, natListBeq, List.map_cons, List.map_nil, List.range, List.range.loop, lkH, decide_true, Nat.blt, Nat.ble, callOf, AV.scalar, D.isAgg, cellsAV, cellsAll, cells_int, cells_bool, cells_str, cells_sl, cells_agg, cells_fn, cells_nilp, cells_nilf, cells_nili, mkAgg, upd, loadA, oInt, zAV, buildF, nilEq, nilOf, nil0, nil1, nil2, mmA, mmL, zElem, Int.toNat_natCast, List.drop_zero, List.append_nil, List.cons_append, List.nil_append, Int.toNat_zero, Nat.zero_mul, Nat.mul_one, Nat.zero_add, List.length_nil, Int.cast_ofNat_Int]; rfl
  case p29 => simp [n31 h84 h31 n]
  refine RegTo.piece (k' := 26) (l' := ?l30) (H' := ?h30) (c' := ?n30) (s := ?s30) 7 [⟨.nils, [], []⟩] (fun _ => false) _ rfl (Nat.le_of_ble_eq_true rfl) rfl ?e30 ?p30 ?q30
  case e30 => simp only [List.drop_succ_cons, List.take_succ_cons, List.take_zero, runReg, gOn, evOp, evA, lk, cond_true, cond_false, Nat.beq, stepR, dstOK, newOK, topK, putL, appK, restK, hasK, addS, Option.bind_some, out, binA, toSrc, toSl, toEs, toE, toD, toDs, allAV, natListBeq, List.map_cons, List.map_nil, List.range, List.range.loop, lkH, decide_true, Nat.blt, Nat.ble, callOf, AV.scalar, D.isAgg, cellsAV, cellsAll, cells_int, cells_bool, cells_str, cells_sl, cells_agg, cells_fn, cells_nilp, cells_nilf, cells_nili, mkAgg, upd, loadA, oInt, zAV, buildF, nilEq, nilOf, nil0, nil1, nil2, mmA, mmL, zElem, Int.toNat_natCast, List.drop_zero, List.append_nil, List.cons_append, List.nil_append, Int.toNat_zero, Nat.zero_mul, Nat.mul_one, Nat.zero_add, List.length_nil, Int.cast_ofNat_Int]; rfl
  case p30 => simp [n41 h84 h41 n]
  refine RegTo.piece (k' := 34) (l' := ?l31) (H' := ?h31) (c' := ?n31) (s := ?s31) 8 [⟨.d (.int .i64 0), [], []⟩, ⟨.d (.int .i64 2), [], []⟩] (fun _ => false) _ rfl (Nat.le_of_ble_eq_true rfl) rfl ?e31 ?p31 ?q31
  case e31 => simp only [List.drop_succ_cons, List.take_succ_cons, List.take_zero, runReg, gOn, evOp, evA, lk, cond_true, cond_false, Nat.beq, stepR, dstOK, newOK, topK, putL, appK, restK, hasK, addS, Option.bind_some, out, binA, toSrc, toSl, toEs, toE, toD, toDs, allAV, natListBeq, List.map_cons, List.map_nil, List.range, List.range.loop, lkH, decide_true, Nat.blt, Nat.ble, callOf, AV.scalar, D.isAgg, cellsAV, cellsAll, cells_int, cells_bool, cells_str, cells_sl, cells_agg, cells_fn, cells_nilp, cells_nilf, cells_nili, mkAgg, upd, loadA, oInt, zAV, buildF, nilEq, nilOf, nil0, nil1, nil2, mmA, mmL, zElem, Int.toNat_natCast, List.drop_zero, List.append_nil, List.cons_append, List.nil_append, Int.toNat_zero, Nat.zero_mul, Nat.mul_one, Nat.zero_add]; rfl
  case p31 => simp [n32 h32, n42 h42]
  refine RegTo.piece (k' := 41) (l' := ?l32) (H' := ?h32) (c' := ?n32) (s := ?s32) 7 [⟨.d (.int .i64 2), [], []⟩] (fun _ => false) _ rfl (Nat.le_of_ble_eq_true rfl) rfl ?e32 ?p32 ?q32
  case e32 => simp only [List.drop_succ_cons, List.take_succ_cons, List.take_zero, runReg, gOn, evOp, evA, lk, cond_true, cond_false, Nat.beq, stepR, dstOK, newOK, topK, putL, appK, restK, hasK, addS, Option.bind_some, out, binA, toSrc, toSl, toEs, toE, toD, toDs, allAV, natListBeq, List.map_cons, List.map_nil, List.range, List.range.loop, lkH, decide_true, Nat.blt, Nat.ble, callOf, AV.scalar, D.isAgg, cellsAV, cellsAll, cells_int, cells_bool, cells_str, cells_sl, cells_agg, cells_fn, cells_nilp, cells_nilf, cells_nili, mkAgg, upd, loadA, oInt, zAV, buildF, nilEq, nilOf, nil0, nil1, nil2, mmA, mmL, zElem, Int.toNat_natCast, List.drop_zero, List.append_nil, List.cons_append, List.nil_append, Int.toNat_zero, Nat.zero_mul, Nat.mul_one, Nat.zero_add]; rfl
  case p32 => simp [n43 h42 h43]
  refine RegTo.done rfl ?_
  simp only [then', inBlk]
  exact AWc.ret ⟨.inr rfl, _, _, rfl, by simp, rfl, fun x hx => hx⟩
end
end Go.Proofs.Abs
