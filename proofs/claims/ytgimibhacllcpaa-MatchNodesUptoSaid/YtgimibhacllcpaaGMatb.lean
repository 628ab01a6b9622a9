/- Written by gen.py: functions of the program as Lean functions, and that the code comes to them. -/
import Derived.Test.YtgimibhacllcpaaGMat
set_option linter.unusedVariables false
set_option linter.unusedSimpArgs false
set_option maxRecDepth 100000
set_option maxHeartbeats 4000000
namespace Go.Proofs.Abs
open Go
/-- courant/courantlaw09.MatchNodes -/
def C242 (N : Nat → Nat) : AFunc := { n := 84, params := 2, res := [.tmp 4], body :=
 (.seq (.region false [⟨(some 4), .mv (.k (.d (.bool false))), none, []⟩])
  (.seq (.region false [⟨(some 8), .mv (.t 0), none, []⟩,
    ⟨(some 9), .cvi .u64 (.t 8), none, [0]⟩,
    ⟨(some 10), .bin .rem (.t 9) (.k (.d (.int .u64 8))), none, [1]⟩,
    ⟨(some 11), .cvi .i64 (.t 10), none, [2]⟩,
    ⟨(some 12), .bin .add (.k (.d (.int .i64 1))) (.t 11), none, [3]⟩,
    ⟨(some 13), .mv (.t 1), none, []⟩,
    ⟨(some 14), .cvi .u64 (.t 13), none, [5]⟩,
    ⟨(some 15), .bin .rem (.t 14) (.k (.d (.int .u64 8))), none, [6]⟩,
    ⟨(some 16), .cvi .i64 (.t 15), none, [7]⟩,
    ⟨(some 17), .bin .add (.k (.d (.int .i64 1))) (.t 16), none, [8]⟩,
    ⟨(some 0), .mv (.t 12), none, [4, 0, 1, 2, 3]⟩,
    ⟨(some 1), .mv (.t 17), none, [9, 10, 0, 1, 2, 3, 4, 5, 6, 7, 8]⟩])
   (.seq (.region false [⟨(some 5), .mv (.k (.d (.fn (N 243)))), none, []⟩])
    (.seq (.region false [⟨(some 18), .bslice 1 1 [(.int .i64 0)] [(0, (.k (.d (.int .i64 1))))], none, []⟩,
      ⟨(some 19), .build [(.int .i64 0), (.str []), (.sl []), (.sl []), (.sl []), (.bool false), (.str []), (.int .i64 0), (.sl []), (.int .i64 0)] [(0, 1, (.k (.d (.int .i64 13)))), (8, 1, (.t 18))], none, [0]⟩,
      ⟨(some 20), .mv (.t 0), none, []⟩,
      ⟨(some 21), .build [(.int .i64 0), (.str []), (.sl []), (.sl []), (.sl []), (.bool false), (.str []), (.int .i64 0), (.sl []), (.int .i64 0)] [(0, 1, (.t 20))], none, [2]⟩,
      ⟨(some 22), .bslice 2 10 [(.int .i64 0), (.str []), (.sl []), (.sl []), (.sl []), (.bool false), (.str []), (.int .i64 0), (.sl []), (.int .i64 0)] [(0, (.t 19)), (1, (.t 21))], none, [1, 3]⟩,
      ⟨(some 23), .build [(.sl [])] [(0, 1, (.t 22))], none, [4]⟩,
      ⟨(some 6), .alloc [(.sl [])], none, []⟩,
      ⟨none, .store (.t 6) (.t 23) 1, none, [6, 5, 0, 1, 2, 3, 4]⟩])
     (.seq (.region false [⟨(some 24), .mv (.t 0), none, []⟩,
       ⟨(some 25), .mv (.t 1), none, []⟩,
       ⟨(some 26), .bin .eql (.t 24) (.t 25), none, [0, 1]⟩,
       ⟨(some 27), .mv (.t 26), none, [2]⟩,
       ⟨(some 28), .mv (.t 0), (some (27, false)), [3]⟩,
       ⟨(some 29), .bin .eql (.t 28) (.k (.d (.int .i64 3))), (some (27, false)), [4, 3]⟩,
       ⟨(some 30), .mv (.t 29), (some (27, false)), [5, 3]⟩,
       ⟨(some 31), .mv (.t 1), (some (30, true)), [6]⟩,
       ⟨(some 32), .bin .eql (.t 31) (.k (.d (.int .i64 4))), (some (30, true)), [7, 6]⟩,
       ⟨(some 33), .pick (.t 30) (.t 32) (.k (.d (.bool false))), (some (27, false)), [6, 8, 3]⟩,
       ⟨(some 34), .pick (.t 27) (.k (.d (.bool true))) (.t 33), none, [3, 9]⟩,
       ⟨(some 35), .mv (.t 34), none, [10, 6]⟩,
       ⟨(some 36), .mv (.t 0), (some (35, false)), [11]⟩,
       ⟨(some 37), .bin .eql (.t 36) (.k (.d (.int .i64 8))), (some (35, false)), [12, 11]⟩,
       ⟨(some 38), .mv (.t 37), (some (35, false)), [13, 11]⟩,
       ⟨(some 39), .mv (.t 1), (some (38, true)), [14]⟩,
       ⟨(some 40), .bin .eql (.t 39) (.k (.d (.int .i64 7))), (some (38, true)), [15, 14]⟩,
       ⟨(some 41), .pick (.t 38) (.t 40) (.k (.d (.bool false))), (some (35, false)), [14, 16, 11]⟩,
       ⟨(some 42), .pick (.t 35) (.k (.d (.bool true))) (.t 41), none, [11, 17]⟩,
       ⟨(some 7), .mv (.t 42), none, [18, 14, 0, 1, 2, 3, 4, 5, 6, 7, 8, 9, 10, 11, 12, 13, 15, 16, 17]⟩])
      (.seq (.region true [⟨(some 43), .call (.k (.d (.fn (N 230)))) [], none, []⟩,
        ⟨(some 44), .mv (.t 43), none, [0]⟩,
        ⟨(some 45), .mv (.t 5), (some (44, true)), [1]⟩,
        ⟨(some 46), .mv (.t 0), (some (44, true)), [1]⟩,
        ⟨(some 47), .call (.t 45) [(.t 46)], (some (44, true)), [2, 3, 1]⟩,
        ⟨(some 48), .mv (.t 5), (some (44, true)), [1]⟩,
        ⟨(some 49), .mv (.t 1), (some (44, true)), [1]⟩,
        ⟨(some 50), .call (.t 48) [(.t 49)], (some (44, true)), [5, 6, 4, 1]⟩,
        ⟨(some 51), .call (.k (.d (.fn (N 231)))) [(.t 47), (.k (.d (.int .i64 0))), (.t 50), (.k (.d (.int .i64 0)))], (some (44, true)), [4, 7, 1]⟩,
        ⟨(some 52), .mv (.t 7), (some (44, true)), [1]⟩,
        ⟨(some 53), .beq false (.t 51) (.t 52), (some (44, true)), [8, 9, 1]⟩,
        ⟨(some 54), .pick (.t 44) (.t 53) (.k (.d (.bool false))), none, [1, 10]⟩,
        ⟨(some 55), .mv (.t 54), none, [11, 8]⟩,
        ⟨(some 56), .load (.t 6) 1 true, (some (55, true)), [12]⟩,
        ⟨(some 57), .mv (.t 5), (some (55, true)), [12]⟩,
        ⟨(some 58), .mv (.t 1), (some (55, true)), [12]⟩,
        ⟨(some 59), .call (.t 57) [(.t 58)], (some (55, true)), [14, 15, 12]⟩,
        ⟨(some 60), .call (.k (.d (.fn (N 231)))) [(.t 56), (.k (.d (.int .i64 0))), (.t 59), (.k (.d (.int .i64 0)))], (some (55, true)), [13, 16, 12]⟩,
        ⟨(some 61), .pick (.t 55) (.t 60) (.k (.d (.bool false))), none, [12, 17]⟩,
        ⟨(some 62), .mv (.t 61), none, [18, 17]⟩,
        ⟨(some 63), .mv (.t 5), (some (62, true)), [19]⟩,
        ⟨(some 64), .mv (.t 1), (some (62, true)), [19]⟩,
        ⟨(some 65), .call (.t 63) [(.t 64)], (some (62, true)), [20, 21, 19]⟩,
        ⟨(some 66), .load (.t 6) 1 true, (some (62, true)), [19]⟩,
        ⟨(some 67), .call (.k (.d (.fn (N 231)))) [(.t 65), (.k (.d (.int .i64 0))), (.t 66), (.k (.d (.int .i64 0)))], (some (62, true)), [22, 23, 19]⟩,
        ⟨(some 68), .pick (.t 62) (.t 67) (.k (.d (.bool false))), none, [19, 24]⟩,
        ⟨(some 69), .mv (.t 68), none, [25, 24]⟩,
        ⟨(some 70), .mv (.t 5), (some (69, true)), [26]⟩,
        ⟨(some 71), .mv (.t 0), (some (69, true)), [26]⟩,
        ⟨(some 72), .call (.t 70) [(.t 71)], (some (69, true)), [27, 28, 26]⟩,
        ⟨(some 73), .bslice 1 1 [(.int .i64 0)] [(0, (.k (.d (.int .i64 1))))], (some (69, true)), [26]⟩,
        ⟨(some 74), .build [(.int .i64 0), (.str []), (.sl []), (.sl []), (.sl []), (.bool false), (.str []), (.int .i64 0), (.sl []), (.int .i64 0)] [(0, 1, (.k (.d (.int .i64 13)))), (8, 1, (.t 73))], (some (69, true)), [30, 26]⟩,
        ⟨(some 75), .mv (.t 1), (some (69, true)), [26]⟩,
        ⟨(some 76), .build [(.int .i64 0), (.str []), (.sl []), (.sl []), (.sl []), (.bool false), (.str []), (.int .i64 0), (.sl []), (.int .i64 0)] [(0, 1, (.t 75))], (some (69, true)), [32, 26]⟩,
        ⟨(some 77), .bslice 2 10 [(.int .i64 0), (.str []), (.sl []), (.sl []), (.sl []), (.bool false), (.str []), (.int .i64 0), (.sl []), (.int .i64 0)] [(0, (.t 74)), (1, (.t 76))], (some (69, true)), [31, 33, 26]⟩,
        ⟨(some 78), .build [(.sl [])] [(0, 1, (.t 77))], (some (69, true)), [34, 26]⟩,
        ⟨(some 79), .call (.k (.d (.fn (N 241)))) [(.t 72), (.k (.d (.int .i64 0))), (.t 78), (.k (.d (.int .i64 0)))], (some (69, true)), [29, 35, 26]⟩,
        ⟨(some 80), .bin .eql (.t 79) (.k (.d (.int .i64 0))), (some (69, true)), [36, 26]⟩,
        ⟨(some 81), .mv (.t 7), (some (69, true)), [26]⟩,
        ⟨(some 82), .beq false (.t 80) (.t 81), (some (69, true)), [37, 38, 26]⟩,
        ⟨(some 83), .pick (.t 69) (.t 82) (.k (.d (.bool false))), none, [26, 39]⟩,
        ⟨(some 4), .mv (.t 83), none, [40, 36, 0, 1, 2, 3, 4, 5, 6, 7, 8, 9, 10, 11, 12, 13, 14, 15, 16, 17, 18, 19, 20, 21, 22, 23, 24, 25, 26, 27, 28, 29, 30, 31, 32, 33, 34, 35, 37, 38, 39]⟩])
       .ret)))))) }
def HC242 (P : Program) (N : Nat → Nat) : Prop := HasF P (N 242) (C242 N) ∧ HC230 P N ∧ HC243 P N ∧ HC231 P N ∧ HC241 P N
def f242_j58 (k : Nat) (a0 : Int) (a1 : Int) (j58_1 : Bool) : Option Bool := (f230 k).bind fun r61 => cond r61 ((f243 k (IntKind.i64.wrap ((1 : Int) + (IntKind.i64.wrap (Int.tmod (IntKind.u64.wrap a0) (8 : Int)))))).bind fun r65 => (f243 k (IntKind.i64.wrap ((1 : Int) + (IntKind.i64.wrap (Int.tmod (IntKind.u64.wrap a1) (8 : Int)))))).bind fun r68 => (f231 k (TSchema.mk ([(TNode.mk (IntKind.i64.wrap ((1 : Int) + (IntKind.i64.wrap (Int.tmod (IntKind.u64.wrap a0) (8 : Int))))) ([] : List UInt8) ([] : List (List UInt8)) ([] : List TField) ([] : List (List UInt8)) false ([] : List UInt8) (0 : Int) ([] : List Int) (0 : Int))] : List TNode)) (0 : Int) (TSchema.mk ([(TNode.mk (IntKind.i64.wrap ((1 : Int) + (IntKind.i64.wrap (Int.tmod (IntKind.u64.wrap a1) (8 : Int))))) ([] : List UInt8) ([] : List (List UInt8)) ([] : List TField) ([] : List (List UInt8)) false ([] : List UInt8) (0 : Int) ([] : List Int) (0 : Int))] : List TNode)) (0 : Int)).bind fun r69 => cond (r69 == j58_1) ((f243 k (IntKind.i64.wrap ((1 : Int) + (IntKind.i64.wrap (Int.tmod (IntKind.u64.wrap a1) (8 : Int)))))).bind fun r77 => (f231 k (TSchema.mk ([(TNode.mk (13 : Int) ([] : List UInt8) ([] : List (List UInt8)) ([] : List TField) ([] : List (List UInt8)) false ([] : List UInt8) (0 : Int) ([(1 : Int)] : List Int) (0 : Int)), (TNode.mk (IntKind.i64.wrap ((1 : Int) + (IntKind.i64.wrap (Int.tmod (IntKind.u64.wrap a0) (8 : Int))))) ([] : List UInt8) ([] : List (List UInt8)) ([] : List TField) ([] : List (List UInt8)) false ([] : List UInt8) (0 : Int) ([] : List Int) (0 : Int))] : List TNode)) (0 : Int) (TSchema.mk ([(TNode.mk (IntKind.i64.wrap ((1 : Int) + (IntKind.i64.wrap (Int.tmod (IntKind.u64.wrap a1) (8 : Int))))) ([] : List UInt8) ([] : List (List UInt8)) ([] : List TField) ([] : List (List UInt8)) false ([] : List UInt8) (0 : Int) ([] : List Int) (0 : Int))] : List TNode)) (0 : Int)).bind fun r78 => cond r78 ((f243 k (IntKind.i64.wrap ((1 : Int) + (IntKind.i64.wrap (Int.tmod (IntKind.u64.wrap a1) (8 : Int)))))).bind fun r83 => (f231 k (TSchema.mk ([(TNode.mk (IntKind.i64.wrap ((1 : Int) + (IntKind.i64.wrap (Int.tmod (IntKind.u64.wrap a1) (8 : Int))))) ([] : List UInt8) ([] : List (List UInt8)) ([] : List TField) ([] : List (List UInt8)) false ([] : List UInt8) (0 : Int) ([] : List Int) (0 : Int))] : List TNode)) (0 : Int) (TSchema.mk ([(TNode.mk (13 : Int) ([] : List UInt8) ([] : List (List UInt8)) ([] : List TField) ([] : List (List UInt8)) false ([] : List UInt8) (0 : Int) ([(1 : Int)] : List Int) (0 : Int)), (TNode.mk (IntKind.i64.wrap ((1 : Int) + (IntKind.i64.wrap (Int.tmod (IntKind.u64.wrap a0) (8 : Int))))) ([] : List UInt8) ([] : List (List UInt8)) ([] : List TField) ([] : List (List UInt8)) false ([] : List UInt8) (0 : Int) ([] : List Int) (0 : Int))] : List TNode)) (0 : Int)).bind fun r85 => cond r85 ((f243 k (IntKind.i64.wrap ((1 : Int) + (IntKind.i64.wrap (Int.tmod (IntKind.u64.wrap a0) (8 : Int)))))).bind fun r90 => (f241 k (TSchema.mk ([(TNode.mk (IntKind.i64.wrap ((1 : Int) + (IntKind.i64.wrap (Int.tmod (IntKind.u64.wrap a0) (8 : Int))))) ([] : List UInt8) ([] : List (List UInt8)) ([] : List TField) ([] : List (List UInt8)) false ([] : List UInt8) (0 : Int) ([] : List Int) (0 : Int))] : List TNode)) (0 : Int) (TSchema.mk ([(TNode.mk (13 : Int) ([] : List UInt8) ([] : List (List UInt8)) ([] : List TField) ([] : List (List UInt8)) false ([] : List UInt8) (0 : Int) ([(1 : Int)] : List Int) (0 : Int)), (TNode.mk (IntKind.i64.wrap ((1 : Int) + (IntKind.i64.wrap (Int.tmod (IntKind.u64.wrap a1) (8 : Int))))) ([] : List UInt8) ([] : List (List UInt8)) ([] : List TField) ([] : List (List UInt8)) false ([] : List UInt8) (0 : Int) ([] : List Int) (0 : Int))] : List TNode)) (0 : Int)).bind fun r97 => some ((decide (r97 = (0 : Int))) == j58_1)) (some false)) (some false)) (some false)) (some false)
def f242 (k : Nat) (a0 : Int) (a1 : Int) : Option Bool := cond (decide ((IntKind.i64.wrap ((1 : Int) + (IntKind.i64.wrap (Int.tmod (IntKind.u64.wrap a0) (8 : Int))))) = (IntKind.i64.wrap ((1 : Int) + (IntKind.i64.wrap (Int.tmod (IntKind.u64.wrap a1) (8 : Int))))))) (f242_j58 k a0 a1 true) (cond (decide ((IntKind.i64.wrap ((1 : Int) + (IntKind.i64.wrap (Int.tmod (IntKind.u64.wrap a0) (8 : Int))))) = (3 : Int))) (cond (decide ((IntKind.i64.wrap ((1 : Int) + (IntKind.i64.wrap (Int.tmod (IntKind.u64.wrap a1) (8 : Int))))) = (4 : Int))) (f242_j58 k a0 a1 true) (cond (decide ((IntKind.i64.wrap ((1 : Int) + (IntKind.i64.wrap (Int.tmod (IntKind.u64.wrap a0) (8 : Int))))) = (8 : Int))) (f242_j58 k a0 a1 (decide ((IntKind.i64.wrap ((1 : Int) + (IntKind.i64.wrap (Int.tmod (IntKind.u64.wrap a1) (8 : Int))))) = (7 : Int)))) (f242_j58 k a0 a1 false))) (cond (decide ((IntKind.i64.wrap ((1 : Int) + (IntKind.i64.wrap (Int.tmod (IntKind.u64.wrap a0) (8 : Int))))) = (8 : Int))) (f242_j58 k a0 a1 (decide ((IntKind.i64.wrap ((1 : Int) + (IntKind.i64.wrap (Int.tmod (IntKind.u64.wrap a1) (8 : Int))))) = (7 : Int)))) (f242_j58 k a0 a1 false)))
theorem F242 {P : Program} {N : Nat → Nat} (hmix : P.follows .mixedOrders = true) (hc : HC242 P N) {k : Nat} {a0 : Int} {a1 : Int} {r : Bool} (h : f242 k a0 a1 = some r) :
    ACalls P (N 242) [(.d (.int .i64 a0)), (.d (.int .i64 a1))] [] (.d (.bool r)) [] := by
  refine acalls_canon (F := C242 N) hc.1 0 0 rfl ?_
  unfold f242 at h
  dsimp only [C242, startL]
  refine AWc.seq ?_
  refine AWc.rg hmix rfl rfl ?_
  refine RegV.p0 rfl rfl rfl ?_
  refine RegV.nil0 ?_
  refine AWc.seq ?_
  refine AWc.rg hmix rfl rfl ?_
  refine RegV.p0 rfl rfl rfl ?_
  refine RegV.p0 (v := (.d (.int .u64 (IntKind.u64.wrap a0)))) rfl rfl rfl ?_
  refine RegV.p1 (v := (.d (.int .u64 (Int.tmod (IntKind.u64.wrap a0) (8 : Int))))) rfl rfl (by decide) rfl rfl ?_
  refine RegV.p0 (v := (.d (.int .i64 (IntKind.i64.wrap (Int.tmod (IntKind.u64.wrap a0) (8 : Int)))))) rfl rfl rfl ?_
  refine RegV.p0 (v := (.d (.int .i64 (IntKind.i64.wrap ((1 : Int) + (IntKind.i64.wrap (Int.tmod (IntKind.u64.wrap a0) (8 : Int)))))))) rfl rfl rfl ?_
  refine RegV.p0 rfl rfl rfl ?_
  refine RegV.p0 (v := (.d (.int .u64 (IntKind.u64.wrap a1)))) rfl rfl rfl ?_
  refine RegV.p1 (v := (.d (.int .u64 (Int.tmod (IntKind.u64.wrap a1) (8 : Int))))) rfl rfl (by decide) rfl rfl ?_
  refine RegV.p0 (v := (.d (.int .i64 (IntKind.i64.wrap (Int.tmod (IntKind.u64.wrap a1) (8 : Int)))))) rfl rfl rfl ?_
  refine RegV.p0 (v := (.d (.int .i64 (IntKind.i64.wrap ((1 : Int) + (IntKind.i64.wrap (Int.tmod (IntKind.u64.wrap a1) (8 : Int)))))))) rfl rfl rfl ?_
  refine RegV.p0 rfl rfl rfl ?_
  refine RegV.p0 rfl rfl rfl ?_
  refine RegV.nil0 ?_
  refine AWc.seq ?_
  refine AWc.rg hmix rfl rfl ?_
  refine RegV.p0 rfl rfl rfl ?_
  refine RegV.nil0 ?_
  refine AWc.seq ?_
  refine AWc.rg hmix rfl rfl ?_
  refine RegV.p1 (v := (.d (.sl (List.map (D.int .i64) ([(1 : Int)] : List Int))))) rfl rfl (by exact ⟨rfl, Nat.le_of_ble_eq_true rfl, mapLen (e := (D.int .i64)) (xs := ([(1 : Int)] : List Int)) (z := 1) (fun _ => rfl)⟩) rfl rfl ?_
  refine RegV.p1 (v := (.d (.agg [(.int .i64 (13 : Int)), (.str ([] : List UInt8)), (.sl (List.map D.str ([] : List (List UInt8)))), (.sl (List.map TField.enc ([] : List TField))), (.sl (List.map D.str ([] : List (List UInt8)))), (.bool false), (.str ([] : List UInt8)), (.int .i64 (0 : Int)), (.sl (List.map (D.int .i64) ([(1 : Int)] : List Int))), (.int .i64 (0 : Int))]))) rfl rfl (by exact ⟨⟨rfl, Nat.le_of_ble_eq_true rfl⟩, ⟨⟨rfl, Nat.le_of_ble_eq_true rfl⟩, trivial⟩⟩) rfl rfl ?_
  refine RegV.p0 rfl rfl rfl ?_
  refine RegV.p1 (v := (.d (.agg [(.int .i64 (IntKind.i64.wrap ((1 : Int) + (IntKind.i64.wrap (Int.tmod (IntKind.u64.wrap a0) (8 : Int)))))), (.str ([] : List UInt8)), (.sl (List.map D.str ([] : List (List UInt8)))), (.sl (List.map TField.enc ([] : List TField))), (.sl (List.map D.str ([] : List (List UInt8)))), (.bool false), (.str ([] : List UInt8)), (.int .i64 (0 : Int)), (.sl (List.map (D.int .i64) ([] : List Int))), (.int .i64 (0 : Int))]))) rfl rfl (by exact ⟨⟨rfl, Nat.le_of_ble_eq_true rfl⟩, trivial⟩) rfl rfl ?_
  refine RegV.p1 (v := (.d (.sl (List.map TNode.enc ([(TNode.mk (13 : Int) ([] : List UInt8) ([] : List (List UInt8)) ([] : List TField) ([] : List (List UInt8)) false ([] : List UInt8) (0 : Int) ([(1 : Int)] : List Int) (0 : Int)), (TNode.mk (IntKind.i64.wrap ((1 : Int) + (IntKind.i64.wrap (Int.tmod (IntKind.u64.wrap a0) (8 : Int))))) ([] : List UInt8) ([] : List (List UInt8)) ([] : List TField) ([] : List (List UInt8)) false ([] : List UInt8) (0 : Int) ([] : List Int) (0 : Int))] : List TNode))))) rfl rfl (by exact ⟨rfl, Nat.le_of_ble_eq_true rfl, mapLen (e := TNode.enc) (xs := ([(TNode.mk (13 : Int) ([] : List UInt8) ([] : List (List UInt8)) ([] : List TField) ([] : List (List UInt8)) false ([] : List UInt8) (0 : Int) ([(1 : Int)] : List Int) (0 : Int)), (TNode.mk (IntKind.i64.wrap ((1 : Int) + (IntKind.i64.wrap (Int.tmod (IntKind.u64.wrap a0) (8 : Int))))) ([] : List UInt8) ([] : List (List UInt8)) ([] : List TField) ([] : List (List UInt8)) false ([] : List UInt8) (0 : Int) ([] : List Int) (0 : Int))] : List TNode)) (z := 10) (fun _ => rfl)⟩) rfl rfl ?_
  refine RegV.p1 (v := (.d (.agg [(.sl (List.map TNode.enc ([(TNode.mk (13 : Int) ([] : List UInt8) ([] : List (List UInt8)) ([] : List TField) ([] : List (List UInt8)) false ([] : List UInt8) (0 : Int) ([(1 : Int)] : List Int) (0 : Int)), (TNode.mk (IntKind.i64.wrap ((1 : Int) + (IntKind.i64.wrap (Int.tmod (IntKind.u64.wrap a0) (8 : Int))))) ([] : List UInt8) ([] : List (List UInt8)) ([] : List TField) ([] : List (List UInt8)) false ([] : List UInt8) (0 : Int) ([] : List Int) (0 : Int))] : List TNode)))]))) rfl rfl (by exact ⟨⟨rfl, Nat.le_of_ble_eq_true rfl⟩, trivial⟩) rfl rfl ?_
  refine RegV.evS (own := false) (v := (.ptr 0 0)) (H' := [(0, (.cells [.nils]))]) (c' := 1) rfl rfl trivial rfl rfl rfl rfl rfl rfl ?_
  refine RegV.evN (own := false) (H' := [(0, (.cells [(.d (.sl (List.map TNode.enc ([(TNode.mk (13 : Int) ([] : List UInt8) ([] : List (List UInt8)) ([] : List TField) ([] : List (List UInt8)) false ([] : List UInt8) (0 : Int) ([(1 : Int)] : List Int) (0 : Int)), (TNode.mk (IntKind.i64.wrap ((1 : Int) + (IntKind.i64.wrap (Int.tmod (IntKind.u64.wrap a0) (8 : Int))))) ([] : List UInt8) ([] : List (List UInt8)) ([] : List TField) ([] : List (List UInt8)) false ([] : List UInt8) (0 : Int) ([] : List Int) (0 : Int))] : List TNode))))]))]) (c' := 1) rfl rfl (by exact ⟨rfl, Nat.le_of_ble_eq_true rfl, rfl⟩) rfl rfl rfl rfl ?_
  refine RegV.nil0 ?_
  refine AWc.seqS (N := 84) 1 (fun (z : Bool) => [(0, (.d (.int .i64 (IntKind.i64.wrap ((1 : Int) + (IntKind.i64.wrap (Int.tmod (IntKind.u64.wrap a0) (8 : Int)))))))), (1, (.d (.int .i64 (IntKind.i64.wrap ((1 : Int) + (IntKind.i64.wrap (Int.tmod (IntKind.u64.wrap a1) (8 : Int)))))))), (5, (.d (.fn (N 243)))), (6, (.ptr 0 0)), (7, (.d (.bool z)))]) (fun z => [(0, (.cells [(.d (.sl (List.map TNode.enc ([(TNode.mk (13 : Int) ([] : List UInt8) ([] : List (List UInt8)) ([] : List TField) ([] : List (List UInt8)) false ([] : List UInt8) (0 : Int) ([(1 : Int)] : List Int) (0 : Int)), (TNode.mk (IntKind.i64.wrap ((1 : Int) + (IntKind.i64.wrap (Int.tmod (IntKind.u64.wrap a0) (8 : Int))))) ([] : List UInt8) ([] : List (List UInt8)) ([] : List TField) ([] : List (List UInt8)) false ([] : List UInt8) (0 : Int) ([] : List Int) (0 : Int))] : List TNode))))]))]) (fun z => f242_j58 k a0 a1 z = some r) rfl_le ?_ ?_
  · refine AWc.rg hmix rfl rfl ?_
    refine RegV.p0 rfl rfl rfl ?_
    refine RegV.p0 rfl rfl rfl ?_
    refine RegV.p0 (v := (.d (.bool (decide ((IntKind.i64.wrap ((1 : Int) + (IntKind.i64.wrap (Int.tmod (IntKind.u64.wrap a0) (8 : Int))))) = (IntKind.i64.wrap ((1 : Int) + (IntKind.i64.wrap (Int.tmod (IntKind.u64.wrap a1) (8 : Int)))))))))) rfl rfl rfl ?_
    refine RegV.p0 rfl rfl rfl ?_
    refine RegV.split (fun c41 => ?_) (fun c41 => ?_)
    · have h := cond_pos c41 h
      refine RegV.noS rfl rfl ?_
      refine RegV.noS rfl rfl ?_
      refine RegV.noS rfl rfl ?_
      refine RegV.noS rfl rfl ?_
      refine RegV.noS rfl rfl ?_
      refine RegV.noS rfl rfl ?_
      refine RegV.p0 rfl rfl rfl ?_
      refine RegV.p0 rfl rfl rfl ?_
      refine RegV.noS rfl rfl ?_
      refine RegV.noS rfl rfl ?_
      refine RegV.noS rfl rfl ?_
      refine RegV.noS rfl rfl ?_
      refine RegV.noS rfl rfl ?_
      refine RegV.noS rfl rfl ?_
      refine RegV.p0 rfl rfl rfl ?_
      refine RegV.p0 rfl rfl rfl ?_
      refine RegV.nil0 ?_
      exact ⟨true, h, ⟨rfl, [], [], rfl, rfl, ⟨⟨_, rfl, (.refl _)⟩, rfl, ⟨⟨_, rfl, (.refl _)⟩, rfl, ⟨⟨_, rfl, (.refl _)⟩, rfl, ⟨⟨_, rfl, (.refl _)⟩, rfl, ⟨⟨_, rfl, (.refl _)⟩, rfl, trivial⟩⟩⟩⟩⟩, ⟨⟨_, rfl, (.refl _)⟩, rfl, rfl, trivial⟩⟩⟩
    · have h := cond_neg c41 h
      refine RegV.p0 rfl rfl rfl ?_
      refine RegV.p0 (v := (.d (.bool (decide ((IntKind.i64.wrap ((1 : Int) + (IntKind.i64.wrap (Int.tmod (IntKind.u64.wrap a0) (8 : Int))))) = (3 : Int)))))) rfl rfl rfl ?_
      refine RegV.p0 rfl rfl rfl ?_
      refine RegV.split (fun c44 => ?_) (fun c44 => ?_)
      · have h := cond_pos c44 h
        refine RegV.p0 rfl rfl rfl ?_
        refine RegV.p0 (v := (.d (.bool (decide ((IntKind.i64.wrap ((1 : Int) + (IntKind.i64.wrap (Int.tmod (IntKind.u64.wrap a1) (8 : Int))))) = (4 : Int)))))) rfl rfl rfl ?_
        refine RegV.p0 rfl rfl rfl ?_
        refine RegV.p0 rfl rfl rfl ?_
        refine RegV.p0 rfl rfl rfl ?_
        refine RegV.split (fun c49 => ?_) (fun c49 => ?_)
        · have h := cond_pos c49 h
          refine RegV.noS rfl rfl ?_
          refine RegV.noS rfl rfl ?_
          refine RegV.noS rfl rfl ?_
          refine RegV.noS rfl rfl ?_
          refine RegV.noS rfl rfl ?_
          refine RegV.noS rfl rfl ?_
          refine RegV.p0 rfl rfl rfl ?_
          refine RegV.p0 rfl rfl rfl ?_
          refine RegV.nil0 ?_
          exact ⟨true, h, ⟨rfl, [], [], rfl, rfl, ⟨⟨_, rfl, (.refl _)⟩, rfl, ⟨⟨_, rfl, (.refl _)⟩, rfl, ⟨⟨_, rfl, (.refl _)⟩, rfl, ⟨⟨_, rfl, (.refl _)⟩, rfl, ⟨⟨_, rfl, (.refl _)⟩, rfl, trivial⟩⟩⟩⟩⟩, ⟨⟨_, rfl, (.refl _)⟩, rfl, rfl, trivial⟩⟩⟩
        · have h := cond_neg c49 h
          refine RegV.p0 rfl rfl rfl ?_
          refine RegV.p0 (v := (.d (.bool (decide ((IntKind.i64.wrap ((1 : Int) + (IntKind.i64.wrap (Int.tmod (IntKind.u64.wrap a0) (8 : Int))))) = (8 : Int)))))) rfl rfl rfl ?_
          refine RegV.p0 rfl rfl rfl ?_
          refine RegV.split (fun c52 => ?_) (fun c52 => ?_)
          · have h := cond_pos c52 h
            refine RegV.p0 rfl rfl rfl ?_
            refine RegV.p0 (v := (.d (.bool (decide ((IntKind.i64.wrap ((1 : Int) + (IntKind.i64.wrap (Int.tmod (IntKind.u64.wrap a1) (8 : Int))))) = (7 : Int)))))) rfl rfl rfl ?_
            refine RegV.p0 rfl rfl rfl ?_
            refine RegV.p0 rfl rfl rfl ?_
            refine RegV.p0 rfl rfl rfl ?_
            refine RegV.nil0 ?_
            exact ⟨(decide ((IntKind.i64.wrap ((1 : Int) + (IntKind.i64.wrap (Int.tmod (IntKind.u64.wrap a1) (8 : Int))))) = (7 : Int))), h, ⟨rfl, [], [], rfl, rfl, ⟨⟨_, rfl, (.refl _)⟩, rfl, ⟨⟨_, rfl, (.refl _)⟩, rfl, ⟨⟨_, rfl, (.refl _)⟩, rfl, ⟨⟨_, rfl, (.refl _)⟩, rfl, ⟨⟨_, rfl, (.refl _)⟩, rfl, trivial⟩⟩⟩⟩⟩, ⟨⟨_, rfl, (.refl _)⟩, rfl, rfl, trivial⟩⟩⟩
          · have h := cond_neg c52 h
            refine RegV.noS rfl rfl ?_
            refine RegV.noS rfl rfl ?_
            refine RegV.p0 rfl rfl rfl ?_
            refine RegV.p0 rfl rfl rfl ?_
            refine RegV.p0 rfl rfl rfl ?_
            refine RegV.nil0 ?_
            exact ⟨false, h, ⟨rfl, [], [], rfl, rfl, ⟨⟨_, rfl, (.refl _)⟩, rfl, ⟨⟨_, rfl, (.refl _)⟩, rfl, ⟨⟨_, rfl, (.refl _)⟩, rfl, ⟨⟨_, rfl, (.refl _)⟩, rfl, ⟨⟨_, rfl, (.refl _)⟩, rfl, trivial⟩⟩⟩⟩⟩, ⟨⟨_, rfl, (.refl _)⟩, rfl, rfl, trivial⟩⟩⟩
      · have h := cond_neg c44 h
        refine RegV.noS rfl rfl ?_
        refine RegV.noS rfl rfl ?_
        refine RegV.p0 rfl rfl rfl ?_
        refine RegV.p0 rfl rfl rfl ?_
        refine RegV.p0 rfl rfl rfl ?_
        refine RegV.p0 rfl rfl rfl ?_
        refine RegV.p0 (v := (.d (.bool (decide ((IntKind.i64.wrap ((1 : Int) + (IntKind.i64.wrap (Int.tmod (IntKind.u64.wrap a0) (8 : Int))))) = (8 : Int)))))) rfl rfl rfl ?_
        refine RegV.p0 rfl rfl rfl ?_
        refine RegV.split (fun c52 => ?_) (fun c52 => ?_)
        · have h := cond_pos c52 h
          refine RegV.p0 rfl rfl rfl ?_
          refine RegV.p0 (v := (.d (.bool (decide ((IntKind.i64.wrap ((1 : Int) + (IntKind.i64.wrap (Int.tmod (IntKind.u64.wrap a1) (8 : Int))))) = (7 : Int)))))) rfl rfl rfl ?_
          refine RegV.p0 rfl rfl rfl ?_
          refine RegV.p0 rfl rfl rfl ?_
          refine RegV.p0 rfl rfl rfl ?_
          refine RegV.nil0 ?_
          exact ⟨(decide ((IntKind.i64.wrap ((1 : Int) + (IntKind.i64.wrap (Int.tmod (IntKind.u64.wrap a1) (8 : Int))))) = (7 : Int))), h, ⟨rfl, [], [], rfl, rfl, ⟨⟨_, rfl, (.refl _)⟩, rfl, ⟨⟨_, rfl, (.refl _)⟩, rfl, ⟨⟨_, rfl, (.refl _)⟩, rfl, ⟨⟨_, rfl, (.refl _)⟩, rfl, ⟨⟨_, rfl, (.refl _)⟩, rfl, trivial⟩⟩⟩⟩⟩, ⟨⟨_, rfl, (.refl _)⟩, rfl, rfl, trivial⟩⟩⟩
        · have h := cond_neg c52 h
          refine RegV.noS rfl rfl ?_
          refine RegV.noS rfl rfl ?_
          refine RegV.p0 rfl rfl rfl ?_
          refine RegV.p0 rfl rfl rfl ?_
          refine RegV.p0 rfl rfl rfl ?_
          refine RegV.nil0 ?_
          exact ⟨false, h, ⟨rfl, [], [], rfl, rfl, ⟨⟨_, rfl, (.refl _)⟩, rfl, ⟨⟨_, rfl, (.refl _)⟩, rfl, ⟨⟨_, rfl, (.refl _)⟩, rfl, ⟨⟨_, rfl, (.refl _)⟩, rfl, ⟨⟨_, rfl, (.refl _)⟩, rfl, trivial⟩⟩⟩⟩⟩, ⟨⟨_, rfl, (.refl _)⟩, rfl, rfl, trivial⟩⟩⟩
  · intro j58_1 h
    unfold f242_j58 at h
    refine AWc.seq ?_
    refine AWc.rg hmix rfl rfl ?_
    obtain ⟨r61, e61, h⟩ := bind_some h
    refine RegV.call0 (F230 hmix hc.2.1 e61) rfl rfl rfl rfl .nil rfl ?_
    refine RegV.p0 rfl rfl rfl ?_
    refine RegV.split (fun c62 => ?_) (fun c62 => ?_)
    · have h := cond_pos c62 h
      refine RegV.p0 rfl rfl rfl ?_
      refine RegV.p0 rfl rfl rfl ?_
      obtain ⟨r65, e65, h⟩ := bind_some h
      refine RegV.call0 (F243 hmix hc.2.2.1 e65) rfl rfl rfl rfl (.cons (.refl _) .nil) rfl ?_
      refine RegV.p0 rfl rfl rfl ?_
      refine RegV.p0 rfl rfl rfl ?_
      obtain ⟨r68, e68, h⟩ := bind_some h
      refine RegV.call0 (F243 hmix hc.2.2.1 e68) rfl rfl rfl rfl (.cons (.refl _) .nil) rfl ?_
      obtain ⟨r69, e69, h⟩ := bind_some h
      refine RegV.call0 (F231 hmix hc.2.2.2.1 e69) rfl rfl rfl rfl (.cons (.refl _) (.cons (.refl _) (.cons (.refl _) (.cons (.refl _) .nil)))) rfl ?_
      refine RegV.p0 rfl rfl rfl ?_
      refine RegV.p0 (v := (.d (.bool (r69 == j58_1)))) rfl rfl rfl ?_
      refine RegV.p0 rfl rfl rfl ?_
      refine RegV.p0 rfl rfl rfl ?_
      refine RegV.split (fun c73 => ?_) (fun c73 => ?_)
      · have h := cond_pos c73 h
        refine RegV.ld (v := (.d (.agg [(.sl (List.map TNode.enc ([(TNode.mk (13 : Int) ([] : List UInt8) ([] : List (List UInt8)) ([] : List TField) ([] : List (List UInt8)) false ([] : List UInt8) (0 : Int) ([(1 : Int)] : List Int) (0 : Int)), (TNode.mk (IntKind.i64.wrap ((1 : Int) + (IntKind.i64.wrap (Int.tmod (IntKind.u64.wrap a0) (8 : Int))))) ([] : List UInt8) ([] : List (List UInt8)) ([] : List TField) ([] : List (List UInt8)) false ([] : List UInt8) (0 : Int) ([] : List Int) (0 : Int))] : List TNode)))]))) (H' := [(0, (.cells [(.d (.sl (List.map TNode.enc ([(TNode.mk (13 : Int) ([] : List UInt8) ([] : List (List UInt8)) ([] : List TField) ([] : List (List UInt8)) false ([] : List UInt8) (0 : Int) ([(1 : Int)] : List Int) (0 : Int)), (TNode.mk (IntKind.i64.wrap ((1 : Int) + (IntKind.i64.wrap (Int.tmod (IntKind.u64.wrap a0) (8 : Int))))) ([] : List UInt8) ([] : List (List UInt8)) ([] : List TField) ([] : List (List UInt8)) false ([] : List UInt8) (0 : Int) ([] : List Int) (0 : Int))] : List TNode))))]))]) rfl rfl (Nat.le_of_ble_eq_true rfl) rfl rfl rfl rfl rfl ?_
        refine RegV.p0 rfl rfl rfl ?_
        refine RegV.p0 rfl rfl rfl ?_
        obtain ⟨r77, e77, h⟩ := bind_some h
        refine RegV.call0 (F243 hmix hc.2.2.1 e77) rfl rfl rfl rfl (.cons (.refl _) .nil) rfl ?_
        obtain ⟨r78, e78, h⟩ := bind_some h
        refine RegV.call0 (F231 hmix hc.2.2.2.1 e78) rfl rfl rfl rfl (.cons (.refl _) (.cons (.refl _) (.cons (.refl _) (.cons (.refl _) .nil)))) rfl ?_
        refine RegV.p0 rfl rfl rfl ?_
        refine RegV.p0 rfl rfl rfl ?_
        refine RegV.split (fun c80 => ?_) (fun c80 => ?_)
        · have h := cond_pos c80 h
          refine RegV.p0 rfl rfl rfl ?_
          refine RegV.p0 rfl rfl rfl ?_
          obtain ⟨r83, e83, h⟩ := bind_some h
          refine RegV.call0 (F243 hmix hc.2.2.1 e83) rfl rfl rfl rfl (.cons (.refl _) .nil) rfl ?_
          refine RegV.ld (v := (.d (.agg [(.sl (List.map TNode.enc ([(TNode.mk (13 : Int) ([] : List UInt8) ([] : List (List UInt8)) ([] : List TField) ([] : List (List UInt8)) false ([] : List UInt8) (0 : Int) ([(1 : Int)] : List Int) (0 : Int)), (TNode.mk (IntKind.i64.wrap ((1 : Int) + (IntKind.i64.wrap (Int.tmod (IntKind.u64.wrap a0) (8 : Int))))) ([] : List UInt8) ([] : List (List UInt8)) ([] : List TField) ([] : List (List UInt8)) false ([] : List UInt8) (0 : Int) ([] : List Int) (0 : Int))] : List TNode)))]))) (H' := [(0, (.cells [(.d (.sl (List.map TNode.enc ([(TNode.mk (13 : Int) ([] : List UInt8) ([] : List (List UInt8)) ([] : List TField) ([] : List (List UInt8)) false ([] : List UInt8) (0 : Int) ([(1 : Int)] : List Int) (0 : Int)), (TNode.mk (IntKind.i64.wrap ((1 : Int) + (IntKind.i64.wrap (Int.tmod (IntKind.u64.wrap a0) (8 : Int))))) ([] : List UInt8) ([] : List (List UInt8)) ([] : List TField) ([] : List (List UInt8)) false ([] : List UInt8) (0 : Int) ([] : List Int) (0 : Int))] : List TNode))))]))]) rfl rfl (Nat.le_of_ble_eq_true rfl) rfl rfl rfl rfl rfl ?_
          obtain ⟨r85, e85, h⟩ := bind_some h
          refine RegV.call0 (F231 hmix hc.2.2.2.1 e85) rfl rfl rfl rfl (.cons (.refl _) (.cons (.refl _) (.cons (.refl _) (.cons (.refl _) .nil)))) rfl ?_
          refine RegV.p0 rfl rfl rfl ?_
          refine RegV.p0 rfl rfl rfl ?_
          refine RegV.split (fun c87 => ?_) (fun c87 => ?_)
          · have h := cond_pos c87 h
            refine RegV.p0 rfl rfl rfl ?_
            refine RegV.p0 rfl rfl rfl ?_
            obtain ⟨r90, e90, h⟩ := bind_some h
            refine RegV.call0 (F243 hmix hc.2.2.1 e90) rfl rfl rfl rfl (.cons (.refl _) .nil) rfl ?_
            refine RegV.p1 (v := (.d (.sl (List.map (D.int .i64) ([(1 : Int)] : List Int))))) rfl rfl (by exact ⟨rfl, Nat.le_of_ble_eq_true rfl, mapLen (e := (D.int .i64)) (xs := ([(1 : Int)] : List Int)) (z := 1) (fun _ => rfl)⟩) rfl rfl ?_
            refine RegV.p1 (v := (.d (.agg [(.int .i64 (13 : Int)), (.str ([] : List UInt8)), (.sl (List.map D.str ([] : List (List UInt8)))), (.sl (List.map TField.enc ([] : List TField))), (.sl (List.map D.str ([] : List (List UInt8)))), (.bool false), (.str ([] : List UInt8)), (.int .i64 (0 : Int)), (.sl (List.map (D.int .i64) ([(1 : Int)] : List Int))), (.int .i64 (0 : Int))]))) rfl rfl (by exact ⟨⟨rfl, Nat.le_of_ble_eq_true rfl⟩, ⟨⟨rfl, Nat.le_of_ble_eq_true rfl⟩, trivial⟩⟩) rfl rfl ?_
            refine RegV.p0 rfl rfl rfl ?_
            refine RegV.p1 (v := (.d (.agg [(.int .i64 (IntKind.i64.wrap ((1 : Int) + (IntKind.i64.wrap (Int.tmod (IntKind.u64.wrap a1) (8 : Int)))))), (.str ([] : List UInt8)), (.sl (List.map D.str ([] : List (List UInt8)))), (.sl (List.map TField.enc ([] : List TField))), (.sl (List.map D.str ([] : List (List UInt8)))), (.bool false), (.str ([] : List UInt8)), (.int .i64 (0 : Int)), (.sl (List.map (D.int .i64) ([] : List Int))), (.int .i64 (0 : Int))]))) rfl rfl (by exact ⟨⟨rfl, Nat.le_of_ble_eq_true rfl⟩, trivial⟩) rfl rfl ?_
            refine RegV.p1 (v := (.d (.sl (List.map TNode.enc ([(TNode.mk (13 : Int) ([] : List UInt8) ([] : List (List UInt8)) ([] : List TField) ([] : List (List UInt8)) false ([] : List UInt8) (0 : Int) ([(1 : Int)] : List Int) (0 : Int)), (TNode.mk (IntKind.i64.wrap ((1 : Int) + (IntKind.i64.wrap (Int.tmod (IntKind.u64.wrap a1) (8 : Int))))) ([] : List UInt8) ([] : List (List UInt8)) ([] : List TField) ([] : List (List UInt8)) false ([] : List UInt8) (0 : Int) ([] : List Int) (0 : Int))] : List TNode))))) rfl rfl (by exact ⟨rfl, Nat.le_of_ble_eq_true rfl, mapLen (e := TNode.enc) (xs := ([(TNode.mk (13 : Int) ([] : List UInt8) ([] : List (List UInt8)) ([] : List TField) ([] : List (List UInt8)) false ([] : List UInt8) (0 : Int) ([(1 : Int)] : List Int) (0 : Int)), (TNode.mk (IntKind.i64.wrap ((1 : Int) + (IntKind.i64.wrap (Int.tmod (IntKind.u64.wrap a1) (8 : Int))))) ([] : List UInt8) ([] : List (List UInt8)) ([] : List TField) ([] : List (List UInt8)) false ([] : List UInt8) (0 : Int) ([] : List Int) (0 : Int))] : List TNode)) (z := 10) (fun _ => rfl)⟩) rfl rfl ?_
            refine RegV.p1 (v := (.d (.agg [(.sl (List.map TNode.enc ([(TNode.mk (13 : Int) ([] : List UInt8) ([] : List (List UInt8)) ([] : List TField) ([] : List (List UInt8)) false ([] : List UInt8) (0 : Int) ([(1 : Int)] : List Int) (0 : Int)), (TNode.mk (IntKind.i64.wrap ((1 : Int) + (IntKind.i64.wrap (Int.tmod (IntKind.u64.wrap a1) (8 : Int))))) ([] : List UInt8) ([] : List (List UInt8)) ([] : List TField) ([] : List (List UInt8)) false ([] : List UInt8) (0 : Int) ([] : List Int) (0 : Int))] : List TNode)))]))) rfl rfl (by exact ⟨⟨rfl, Nat.le_of_ble_eq_true rfl⟩, trivial⟩) rfl rfl ?_
            obtain ⟨r97, e97, h⟩ := bind_some h
            refine RegV.call0 (F241 hmix hc.2.2.2.2 e97) rfl rfl rfl rfl (.cons (.refl _) (.cons (.refl _) (.cons (.refl _) (.cons (.refl _) .nil)))) rfl ?_
            refine RegV.p0 (v := (.d (.bool (decide (r97 = (0 : Int)))))) rfl rfl rfl ?_
            refine RegV.p0 rfl rfl rfl ?_
            refine RegV.p0 (v := (.d (.bool ((decide (r97 = (0 : Int))) == j58_1)))) rfl rfl rfl ?_
            refine RegV.p0 rfl rfl rfl ?_
            refine RegV.p0 rfl rfl rfl ?_
            refine RegV.nil1 (by kernel_rfl) ?_
            have hr := Option.some.inj h
            subst hr
            exact AWc.ret (canQ (N := 84) (k := 0) (l' := [(4, (.d (.bool ((decide (r97 = (0 : Int))) == j58_1))))]) (H' := []) rfl ⟨rfl, [], [], rfl, rfl, ⟨⟨_, rfl, (.refl _)⟩, rfl, trivial⟩,  trivial⟩ (doneA (.inr rfl) rfl ⟨trivial, trivial⟩ (.refl _) hasNil))
          · have h := cond_neg c87 h
            refine RegV.noS rfl rfl ?_
            refine RegV.noS rfl rfl ?_
            refine RegV.noS rfl rfl ?_
            refine RegV.noS rfl rfl ?_
            refine RegV.noS rfl rfl ?_
            refine RegV.noS rfl rfl ?_
            refine RegV.noS rfl rfl ?_
            refine RegV.noS rfl rfl ?_
            refine RegV.noS rfl rfl ?_
            refine RegV.noS rfl rfl ?_
            refine RegV.noS rfl rfl ?_
            refine RegV.noS rfl rfl ?_
            refine RegV.noS rfl rfl ?_
            refine RegV.p0 rfl rfl rfl ?_
            refine RegV.p0 rfl rfl rfl ?_
            refine RegV.nil1 (by kernel_rfl) ?_
            have hr := Option.some.inj h
            subst hr
            exact AWc.ret (canQ (N := 84) (k := 0) (l' := [(4, (.d (.bool false)))]) (H' := []) rfl ⟨rfl, [], [], rfl, rfl, ⟨⟨_, rfl, (.refl _)⟩, rfl, trivial⟩,  trivial⟩ (doneA (.inr rfl) rfl ⟨trivial, trivial⟩ (.refl _) hasNil))
        · have h := cond_neg c80 h
          refine RegV.noS rfl rfl ?_
          refine RegV.noS rfl rfl ?_
          refine RegV.noS rfl rfl ?_
          refine RegV.noS rfl rfl ?_
          refine RegV.noS rfl rfl ?_
          refine RegV.p0 rfl rfl rfl ?_
          refine RegV.p0 rfl rfl rfl ?_
          refine RegV.noS rfl rfl ?_
          refine RegV.noS rfl rfl ?_
          refine RegV.noS rfl rfl ?_
          refine RegV.noS rfl rfl ?_
          refine RegV.noS rfl rfl ?_
          refine RegV.noS rfl rfl ?_
          refine RegV.noS rfl rfl ?_
          refine RegV.noS rfl rfl ?_
          refine RegV.noS rfl rfl ?_
          refine RegV.noS rfl rfl ?_
          refine RegV.noS rfl rfl ?_
          refine RegV.noS rfl rfl ?_
          refine RegV.noS rfl rfl ?_
          refine RegV.p0 rfl rfl rfl ?_
          refine RegV.p0 rfl rfl rfl ?_
          refine RegV.nil1 (by kernel_rfl) ?_
          have hr := Option.some.inj h
          subst hr
          exact AWc.ret (canQ (N := 84) (k := 0) (l' := [(4, (.d (.bool false)))]) (H' := []) rfl ⟨rfl, [], [], rfl, rfl, ⟨⟨_, rfl, (.refl _)⟩, rfl, trivial⟩,  trivial⟩ (doneA (.inr rfl) rfl ⟨trivial, trivial⟩ (.refl _) hasNil))
      · have h := cond_neg c73 h
        refine RegV.noS rfl rfl ?_
        refine RegV.noS rfl rfl ?_
        refine RegV.noS rfl rfl ?_
        refine RegV.noS rfl rfl ?_
        refine RegV.noS rfl rfl ?_
        refine RegV.p0 rfl rfl rfl ?_
        refine RegV.p0 rfl rfl rfl ?_
        refine RegV.noS rfl rfl ?_
        refine RegV.noS rfl rfl ?_
        refine RegV.noS rfl rfl ?_
        refine RegV.noS rfl rfl ?_
        refine RegV.noS rfl rfl ?_
        refine RegV.p0 rfl rfl rfl ?_
        refine RegV.p0 rfl rfl rfl ?_
        refine RegV.noS rfl rfl ?_
        refine RegV.noS rfl rfl ?_
        refine RegV.noS rfl rfl ?_
        refine RegV.noS rfl rfl ?_
        refine RegV.noS rfl rfl ?_
        refine RegV.noS rfl rfl ?_
        refine RegV.noS rfl rfl ?_
        refine RegV.noS rfl rfl ?_
        refine RegV.noS rfl rfl ?_
        refine RegV.noS rfl rfl ?_
        refine RegV.noS rfl rfl ?_
        refine RegV.noS rfl rfl ?_
        refine RegV.noS rfl rfl ?_
        refine RegV.p0 rfl rfl rfl ?_
        refine RegV.p0 rfl rfl rfl ?_
        refine RegV.nil1 (by kernel_rfl) ?_
        have hr := Option.some.inj h
        subst hr
        exact AWc.ret (canQ (N := 84) (k := 0) (l' := [(4, (.d (.bool false)))]) (H' := []) rfl ⟨rfl, [], [], rfl, rfl, ⟨⟨_, rfl, (.refl _)⟩, rfl, trivial⟩,  trivial⟩ (doneA (.inr rfl) rfl ⟨trivial, trivial⟩ (.refl _) hasNil))
    · have h := cond_neg c62 h
      refine RegV.noS rfl rfl ?_
      refine RegV.noS rfl rfl ?_
      refine RegV.noS rfl rfl ?_
      refine RegV.noS rfl rfl ?_
      refine RegV.noS rfl rfl ?_
      refine RegV.noS rfl rfl ?_
      refine RegV.noS rfl rfl ?_
      refine RegV.noS rfl rfl ?_
      refine RegV.noS rfl rfl ?_
      refine RegV.p0 rfl rfl rfl ?_
      refine RegV.p0 rfl rfl rfl ?_
      refine RegV.noS rfl rfl ?_
      refine RegV.noS rfl rfl ?_
      refine RegV.noS rfl rfl ?_
      refine RegV.noS rfl rfl ?_
      refine RegV.noS rfl rfl ?_
      refine RegV.p0 rfl rfl rfl ?_
      refine RegV.p0 rfl rfl rfl ?_
      refine RegV.noS rfl rfl ?_
      refine RegV.noS rfl rfl ?_
      refine RegV.noS rfl rfl ?_
      refine RegV.noS rfl rfl ?_
      refine RegV.noS rfl rfl ?_
      refine RegV.p0 rfl rfl rfl ?_
      refine RegV.p0 rfl rfl rfl ?_
      refine RegV.noS rfl rfl ?_
      refine RegV.noS rfl rfl ?_
      refine RegV.noS rfl rfl ?_
      refine RegV.noS rfl rfl ?_
      refine RegV.noS rfl rfl ?_
      refine RegV.noS rfl rfl ?_
      refine RegV.noS rfl rfl ?_
      refine RegV.noS rfl rfl ?_
      refine RegV.noS rfl rfl ?_
      refine RegV.noS rfl rfl ?_
      refine RegV.noS rfl rfl ?_
      refine RegV.noS rfl rfl ?_
      refine RegV.noS rfl rfl ?_
      refine RegV.p0 rfl rfl rfl ?_
      refine RegV.p0 rfl rfl rfl ?_
      refine RegV.nil1 (by kernel_rfl) ?_
      have hr := Option.some.inj h
      subst hr
      exact AWc.ret (canQ (N := 84) (k := 0) (l' := [(4, (.d (.bool false)))]) (H' := []) rfl ⟨rfl, [], [], rfl, rfl, ⟨⟨_, rfl, (.refl _)⟩, rfl, trivial⟩,  trivial⟩ (doneA (.inr rfl) rfl ⟨trivial, trivial⟩ (.refl _) hasNil))
/-- courant/courantref03.last -/
def C257 (N : Nat → Nat) : AFunc := { n := 16, params := 1, res := [.tmp 2], body :=
 (.seq (.region false [⟨(some 2), .mv (.k (.d (.int .i64 0))), none, []⟩])
  (.seq (.seq (.region false [⟨(some 4), .mv (.t 0), none, []⟩,
     ⟨(some 5), .slen (.t 4), none, [0]⟩,
     ⟨(some 6), .bin .sub (.t 5) (.k (.d (.int .i64 1))), none, [1]⟩,
     ⟨(some 3), .mv (.t 6), none, [2, 0, 1]⟩])
    (.block 0 (.loop (.seq (.seq (.region false [⟨(some 7), .mv (.t 3), none, []⟩,
         ⟨(some 8), .bin .geq (.t 7) (.k (.d (.int .i64 0))), none, [0]⟩])
        (.cond (.t 8) (.skip)
         (.exit 0)))
       (.seq (.block 1 (.seq (.region false [⟨(some 11), .mv (.t 0), none, []⟩,
           ⟨(some 12), .mv (.t 3), none, []⟩,
           ⟨(some 13), .idx (.t 11) (.t 12), none, [0, 1]⟩,
           ⟨(some 14), .bin .eql (.t 13) (.k (.d (.int .u8 46))), none, [2]⟩])
          (.cond (.t 14) (.seq (.region false [⟨(some 15), .mv (.t 3), none, []⟩,
             ⟨(some 2), .mv (.t 15), none, [0]⟩])
            .ret)
           (.skip))))
        (.region false [⟨(some 9), .mv (.t 3), none, []⟩,
         ⟨(some 10), .bin .sub (.t 9) (.k (.d (.int .i64 1))), none, [0]⟩,
         ⟨(some 3), .mv (.t 10), none, [1, 0]⟩]))))))
   (.seq (.region false [⟨(some 2), .mv (.k (.d (.int .i64 (-1)))), none, []⟩])
    .ret))) }
def HC257 (P : Program) (N : Nat → Nat) : Prop := HasF P (N 257) (C257 N)
def f257_l13 (a0 : (List UInt8)) : Nat → Int → Option (LR2 Unit Unit Int)
  | 0, _ => none
  | k + 1, y13_1 => cond (decide (y13_1 ≥ (0 : Int))) (gd (0 ≤ y13_1 ∧ y13_1 < ((a0.length : Nat) : Int)) (cond (decide ((((a0.getD (y13_1).toNat 0).toNat : Nat) : Int) = (46 : Int))) (some (.r y13_1)) (f257_l13 a0 k (IntKind.i64.wrap (y13_1 - (1 : Int)))))) (some (.b0 ()))
def f257 (k : Nat) (a0 : (List UInt8)) : Option Int := (f257_l13 a0 k (IntKind.i64.wrap (((a0.length : Nat) : Int) - (1 : Int)))).bind fun o13 => match o13 with | .b0 () => some (-1 : Int) | .r x => some x | _ => none
theorem F257 {P : Program} {N : Nat → Nat} (hmix : P.follows .mixedOrders = true) (hc : HC257 P N) {k : Nat} {a0 : (List UInt8)} {r : Int} (h : f257 k a0 = some r) :
    ACalls P (N 257) [(.d (.str a0))] [] (.d (.int .i64 r)) [] := by
  refine acalls_canon (F := C257 N) hc 0 0 rfl ?_
  unfold f257 at h
  dsimp only [C257, startL]
  refine AWc.seq ?_
  refine AWc.rg hmix rfl rfl ?_
  refine RegV.p0 rfl rfl rfl ?_
  refine RegV.nil0 ?_
  refine AWc.seq ?_
  refine AWc.seq ?_
  refine AWc.rg hmix rfl rfl ?_
  refine RegV.p0 rfl rfl rfl ?_
  refine RegV.p0 (v := (.d (.int .i64 ((a0.length : Nat) : Int)))) rfl rfl rfl ?_
  refine RegV.p0 (v := (.d (.int .i64 (IntKind.i64.wrap (((a0.length : Nat) : Int) - (1 : Int)))))) rfl rfl rfl ?_
  refine RegV.p0 rfl rfl rfl ?_
  refine RegV.nil0 ?_
  obtain ⟨o13, h13, h⟩ := bind_some h
  refine AWc.block ?_
  refine AWc.loopK (N := 16) 0 (fun (x : Int) => [(0, (.d (.str a0))), (3, (.d (.int .i64 x)))]) (fun x => []) (fun k x => f257_l13 a0 k x = some o13) k (IntKind.i64.wrap (((a0.length : Nat) : Int) - (1 : Int))) rfl_le (fun x hx => by cases hx) h13 ⟨rfl, [], [], rfl, rfl, ⟨⟨_, rfl, (.refl _)⟩, rfl, ⟨⟨_, rfl, (.refl _)⟩, rfl, trivial⟩⟩,  trivial⟩ ?_
  clear h13
  intro k
  intro y13_1 h13
  rw [f257_l13] at h13
  refine AWc.seq ?_
  refine AWc.seq ?_
  refine AWc.rg hmix rfl rfl ?_
  refine RegV.p0 rfl rfl rfl ?_
  refine RegV.p0 (v := (.d (.bool (decide (y13_1 ≥ (0 : Int)))))) rfl rfl rfl ?_
  refine RegV.nil0 ?_
  refine AWc.cond rfl (fun c21 => ?_) (fun c21 => ?_)
  · have h13 := cond_pos c21 h13
    refine AWc.skip ?_
    refine AWc.seq ?_
    refine AWc.block ?_
    refine AWc.seq ?_
    refine AWc.rg hmix rfl rfl ?_
    refine RegV.p0 rfl rfl rfl ?_
    refine RegV.p0 rfl rfl rfl ?_
    obtain ⟨b31, h13⟩ := gd_some h13
    refine RegV.p1 (v := (.d (.int .u8 (((a0.getD (y13_1).toNat 0).toNat : Nat) : Int)))) rfl rfl b31 rfl rfl ?_
    refine RegV.p0 (v := (.d (.bool (decide ((((a0.getD (y13_1).toNat 0).toNat : Nat) : Int) = (46 : Int)))))) rfl rfl rfl ?_
    refine RegV.nil0 ?_
    refine AWc.cond rfl (fun c33 => ?_) (fun c33 => ?_)
    · have h13 := cond_pos c33 h13
      refine AWc.seq ?_
      refine AWc.rg hmix rfl rfl ?_
      refine RegV.p0 rfl rfl rfl ?_
      refine RegV.p0 rfl rfl rfl ?_
      refine RegV.nil0 ?_
      cases h13
      dsimp only at h
      have hr := Option.some.inj h
      subst hr
      exact AWc.ret (canQ (N := 16) (k := 0) (l' := [(2, (.d (.int .i64 y13_1)))]) (H' := []) rfl ⟨rfl, [], [], rfl, rfl, ⟨⟨_, rfl, (.refl _)⟩, rfl, trivial⟩,  trivial⟩ (doneA (.inr rfl) rfl ⟨trivial, trivial⟩ (.refl _) hasNil))
    · have h13 := cond_neg c33 h13
      refine AWc.skip ?_
      refine AWc.rg hmix rfl rfl ?_
      refine RegV.p0 rfl rfl rfl ?_
      refine RegV.p0 (v := (.d (.int .i64 (IntKind.i64.wrap (y13_1 - (1 : Int)))))) rfl rfl rfl ?_
      refine RegV.p0 rfl rfl rfl ?_
      refine RegV.nil0 ?_
      exact ⟨(IntKind.i64.wrap (y13_1 - (1 : Int))), h13, ⟨rfl, [], [], rfl, rfl, ⟨⟨_, rfl, (.refl _)⟩, rfl, ⟨⟨_, rfl, (.refl _)⟩, rfl, trivial⟩⟩,  trivial⟩⟩
  · have h13 := cond_neg c21 h13
    cases h13
    dsimp only at h
    refine AWc.exit ?_
    refine inBlk_eq ?_
    refine AWc.seq ?_
    refine AWc.rg hmix rfl rfl ?_
    refine RegV.p0 rfl rfl rfl ?_
    refine RegV.nil0 ?_
    have hr := Option.some.inj h
    subst hr
    exact AWc.ret (canQ (N := 16) (k := 0) (l' := [(2, (.d (.int .i64 (-1 : Int))))]) (H' := []) rfl ⟨rfl, [], [], rfl, rfl, ⟨⟨_, rfl, (.refl _)⟩, rfl, trivial⟩,  trivial⟩ (doneA (.inr rfl) rfl ⟨trivial, trivial⟩ (.refl _) hasNil))
/-- courant/courantref03.Short -/
def C256 (N : Nat → Nat) : AFunc := { n := 8, params := 1, res := [.tmp 2], body :=
 (.seq (.region false [⟨(some 2), .mv (.k (.d (.str []))), none, []⟩])
  (.seq (.region false [⟨(some 3), .mv (.t 0), none, []⟩,
    ⟨(some 4), .mv (.t 0), none, []⟩,
    ⟨(some 5), .call (.k (.d (.fn (N 257)))) [(.t 4)], none, [1]⟩,
    ⟨(some 6), .bin .add (.t 5) (.k (.d (.int .i64 1))), none, [2]⟩,
    ⟨(some 7), .ssl (.t 3) (some (.t 6)) none, none, [0, 3]⟩,
    ⟨(some 2), .mv (.t 7), none, [4, 2, 0, 1, 3]⟩])
   .ret)) }
def HC256 (P : Program) (N : Nat → Nat) : Prop := HasF P (N 256) (C256 N) ∧ HC257 P N
def f256 (k : Nat) (a0 : (List UInt8)) : Option (List UInt8) := (f257 k a0).bind fun r10 => gd (0 ≤ (IntKind.i64.wrap (r10 + (1 : Int))) ∧ (IntKind.i64.wrap (r10 + (1 : Int))) ≤ ((a0.length : Nat) : Int) ∧ ((a0.length : Nat) : Int) ≤ ((a0.length : Nat) : Int)) (some (sl a0 (IntKind.i64.wrap (r10 + (1 : Int))) ((a0.length : Nat) : Int)))
theorem F256 {P : Program} {N : Nat → Nat} (hmix : P.follows .mixedOrders = true) (hc : HC256 P N) {k : Nat} {a0 : (List UInt8)} {r : (List UInt8)} (h : f256 k a0 = some r) :
    ACalls P (N 256) [(.d (.str a0))] [] (.d (.str r)) [] := by
  refine acalls_canon (F := C256 N) hc.1 0 0 rfl ?_
  unfold f256 at h
  dsimp only [C256, startL]
  refine AWc.seq ?_
  refine AWc.rg hmix rfl rfl ?_
  refine RegV.p0 rfl rfl rfl ?_
  refine RegV.nil0 ?_
  refine AWc.seq ?_
  refine AWc.rg hmix rfl rfl ?_
  refine RegV.p0 rfl rfl rfl ?_
  refine RegV.p0 rfl rfl rfl ?_
  obtain ⟨r10, e10, h⟩ := bind_some h
  refine RegV.call0 (F257 hmix hc.2 e10) rfl rfl rfl rfl (.cons (.refl _) .nil) rfl ?_
  refine RegV.p0 (v := (.d (.int .i64 (IntKind.i64.wrap (r10 + (1 : Int)))))) rfl rfl rfl ?_
  obtain ⟨b12, h⟩ := gd_some h
  refine RegV.p1 (v := (.d (.str (sl a0 (IntKind.i64.wrap (r10 + (1 : Int))) ((a0.length : Nat) : Int))))) rfl rfl b12 rfl rfl ?_
  refine RegV.p0 rfl rfl rfl ?_
  refine RegV.nil0 ?_
  have hr := Option.some.inj h
  subst hr
  exact AWc.ret (canQ (N := 8) (k := 0) (l' := [(2, (.d (.str (sl a0 (IntKind.i64.wrap (r10 + (1 : Int))) ((a0.length : Nat) : Int)))))]) (H' := []) rfl ⟨rfl, [], [], rfl, rfl, ⟨⟨_, rfl, (.refl _)⟩, rfl, trivial⟩,  trivial⟩ (doneA (.inr rfl) rfl ⟨trivial, trivial⟩ (.refl _) hasNil))
/-- courant/couranthelp.In[string] -/
def C77 (N : Nat → Nat) : AFunc := { n := 18, params := 2, res := [.tmp 4], body :=
 (.seq (.region false [⟨(some 4), .mv (.k (.d (.bool false))), none, []⟩])
  (.seq (.seq (.region false [⟨(some 5), .mv (.k (.d (.int .i64 0))), none, []⟩])
    (.block 0 (.loop (.seq (.seq (.region false [⟨(some 6), .mv (.t 5), none, []⟩,
         ⟨(some 7), .mv (.t 0), none, []⟩,
         ⟨(some 8), .len (.t 7), none, [1]⟩,
         ⟨(some 9), .bin .lss (.t 6) (.t 8), none, [0, 2]⟩])
        (.cond (.t 9) (.skip)
         (.exit 0)))
       (.seq (.block 1 (.seq (.region false [⟨(some 12), .mv (.t 0), none, []⟩,
           ⟨(some 13), .mv (.t 5), none, []⟩,
           ⟨(some 14), .iaddr (.t 12) (.t 13) 1, none, [0, 1]⟩,
           ⟨(some 15), .load (.t 14) 1 false, none, [2]⟩,
           ⟨(some 16), .mv (.t 1), none, []⟩,
           ⟨(some 17), .bin .eql (.t 15) (.t 16), none, [3, 4]⟩])
          (.cond (.t 17) (.seq (.region false [⟨(some 4), .mv (.k (.d (.bool true))), none, []⟩])
            .ret)
           (.skip))))
        (.region false [⟨(some 10), .mv (.t 5), none, []⟩,
         ⟨(some 11), .bin .add (.t 10) (.k (.d (.int .i64 1))), none, [0]⟩,
         ⟨(some 5), .mv (.t 11), none, [1, 0]⟩]))))))
   (.seq (.region false [⟨(some 4), .mv (.k (.d (.bool false))), none, []⟩])
    .ret))) }
def HC77 (P : Program) (N : Nat → Nat) : Prop := HasF P (N 77) (C77 N)
def f77_l10 (a0 : (List (List UInt8))) (a1 : (List UInt8)) : Nat → Int → Option (LR2 Unit Unit Bool)
  | 0, _ => none
  | k + 1, y10_1 => cond (decide (y10_1 < ((a0.length : Nat) : Int))) (gd (0 ≤ y10_1 ∧ y10_1 < ((a0.length : Nat) : Int)) (cond (decide ((rd a0 y10_1) = a1)) (some (.r true)) (f77_l10 a0 a1 k (IntKind.i64.wrap (y10_1 + (1 : Int)))))) (some (.b0 ()))
def f77 (k : Nat) (a0 : (List (List UInt8))) (a1 : (List UInt8)) : Option Bool := (f77_l10 a0 a1 k (0 : Int)).bind fun o10 => match o10 with | .b0 () => some false | .r x => some x | _ => none
theorem F77 {P : Program} {N : Nat → Nat} (hmix : P.follows .mixedOrders = true) (hc : HC77 P N) {k : Nat} {a0 : (List (List UInt8))} {a1 : (List UInt8)} {r : Bool} (h : f77 k a0 a1 = some r) :
    ACalls P (N 77) [(.d (.sl (List.map D.str a0))), (.d (.str a1))] [] (.d (.bool r)) [] := by
  refine acalls_canon (F := C77 N) hc 0 0 rfl ?_
  unfold f77 at h
  dsimp only [C77, startL]
  refine AWc.seq ?_
  refine AWc.rg hmix rfl rfl ?_
  refine RegV.p0 rfl rfl rfl ?_
  refine RegV.nil0 ?_
  refine AWc.seq ?_
  refine AWc.seq ?_
  refine AWc.rg hmix rfl rfl ?_
  refine RegV.p0 rfl rfl rfl ?_
  refine RegV.nil0 ?_
  obtain ⟨o10, h10, h⟩ := bind_some h
  refine AWc.block ?_
  refine AWc.loopK (N := 18) 0 (fun (x : Int) => [(0, (.d (.sl (List.map D.str a0)))), (1, (.d (.str a1))), (5, (.d (.int .i64 x)))]) (fun x => []) (fun k x => f77_l10 a0 a1 k x = some o10) k (0 : Int) rfl_le (fun x hx => by cases hx) h10 ⟨rfl, [], [], rfl, rfl, ⟨⟨_, rfl, (.refl _)⟩, rfl, ⟨⟨_, rfl, (.refl _)⟩, rfl, ⟨⟨_, rfl, (.refl _)⟩, rfl, trivial⟩⟩⟩,  trivial⟩ ?_
  clear h10
  intro k
  intro y10_1 h10
  rw [f77_l10] at h10
  refine AWc.seq ?_
  refine AWc.seq ?_
  refine AWc.rg hmix rfl rfl ?_
  refine RegV.p0 rfl rfl rfl ?_
  refine RegV.p0 rfl rfl rfl ?_
  refine RegV.len (xs := a0) (e := D.str) rfl rfl rfl rfl ?_
  refine RegV.p0 (v := (.d (.bool (decide (y10_1 < ((a0.length : Nat) : Int)))))) rfl rfl rfl ?_
  refine RegV.nil0 ?_
  refine AWc.cond rfl (fun c20 => ?_) (fun c20 => ?_)
  · have h10 := cond_pos c20 h10
    refine AWc.skip ?_
    refine AWc.seq ?_
    refine AWc.block ?_
    refine AWc.seq ?_
    refine AWc.rg hmix rfl rfl ?_
    refine RegV.p0 rfl rfl rfl ?_
    refine RegV.p0 rfl rfl rfl ?_
    obtain ⟨b30, h10⟩ := gd_some h10
    refine RegV.iad (xs := a0) (e := D.str) rfl rfl rfl rfl (fun _ => rfl) b30 rfl ?_
    refine RegV.p0 (v := (.d (.str (rd a0 y10_1)))) rfl rfl rfl ?_
    refine RegV.p0 rfl rfl rfl ?_
    refine RegV.p0 (v := (.d (.bool (decide ((rd a0 y10_1) = a1))))) rfl rfl rfl ?_
    refine RegV.nil0 ?_
    refine AWc.cond rfl (fun c34 => ?_) (fun c34 => ?_)
    · have h10 := cond_pos c34 h10
      refine AWc.seq ?_
      refine AWc.rg hmix rfl rfl ?_
      refine RegV.p0 rfl rfl rfl ?_
      refine RegV.nil0 ?_
      cases h10
      dsimp only at h
      have hr := Option.some.inj h
      subst hr
      exact AWc.ret (canQ (N := 18) (k := 0) (l' := [(4, (.d (.bool true)))]) (H' := []) rfl ⟨rfl, [], [], rfl, rfl, ⟨⟨_, rfl, (.refl _)⟩, rfl, trivial⟩,  trivial⟩ (doneA (.inr rfl) rfl ⟨trivial, trivial⟩ (.refl _) hasNil))
    · have h10 := cond_neg c34 h10
      refine AWc.skip ?_
      refine AWc.rg hmix rfl rfl ?_
      refine RegV.p0 rfl rfl rfl ?_
      refine RegV.p0 (v := (.d (.int .i64 (IntKind.i64.wrap (y10_1 + (1 : Int)))))) rfl rfl rfl ?_
      refine RegV.p0 rfl rfl rfl ?_
      refine RegV.nil0 ?_
      exact ⟨(IntKind.i64.wrap (y10_1 + (1 : Int))), h10, ⟨rfl, [], [], rfl, rfl, ⟨⟨_, rfl, (.refl _)⟩, rfl, ⟨⟨_, rfl, (.refl _)⟩, rfl, ⟨⟨_, rfl, (.refl _)⟩, rfl, trivial⟩⟩⟩,  trivial⟩⟩
  · have h10 := cond_neg c20 h10
    cases h10
    dsimp only at h
    refine AWc.exit ?_
    refine inBlk_eq ?_
    refine AWc.seq ?_
    refine AWc.rg hmix rfl rfl ?_
    refine RegV.p0 rfl rfl rfl ?_
    refine RegV.nil0 ?_
    have hr := Option.some.inj h
    subst hr
    exact AWc.ret (canQ (N := 18) (k := 0) (l' := [(4, (.d (.bool false)))]) (H' := []) rfl ⟨rfl, [], [], rfl, rfl, ⟨⟨_, rfl, (.refl _)⟩, rfl, trivial⟩,  trivial⟩ (doneA (.inr rfl) rfl ⟨trivial, trivial⟩ (.refl _) hasNil))
/-- courant/courantref09.Named -/
def C255 (N : Nat → Nat) : AFunc := { n := 19, params := 2, res := [.tmp 4], body :=
 (.seq (.region false [⟨(some 2), .box (.t 0), none, []⟩,
   ⟨(some 3), .box (.t 1), none, []⟩,
   ⟨(some 4), .mv (.k (.d (.bool false))), none, []⟩])
  (.seq (.region true [⟨(some 5), .faddr (.t 2) 1, none, []⟩,
    ⟨(some 6), .load (.t 5) 1 false, none, [0]⟩,
    ⟨(some 7), .call (.k (.d (.fn (N 256)))) [(.t 6)], none, [1]⟩,
    ⟨(some 8), .faddr (.t 3) 1, none, []⟩,
    ⟨(some 9), .load (.t 8) 1 false, none, [3]⟩,
    ⟨(some 10), .call (.k (.d (.fn (N 256)))) [(.t 9)], none, [4, 2]⟩,
    ⟨(some 11), .bin .eql (.t 7) (.t 10), none, [2, 5]⟩,
    ⟨(some 12), .mv (.t 11), none, [6, 5]⟩,
    ⟨(some 13), .faddr (.t 3) 2, (some (12, false)), [7]⟩,
    ⟨(some 14), .load (.t 13) 1 false, (some (12, false)), [8, 7]⟩,
    ⟨(some 15), .faddr (.t 2) 1, (some (12, false)), [7]⟩,
    ⟨(some 16), .load (.t 15) 1 false, (some (12, false)), [10, 7]⟩,
    ⟨(some 17), .call (.k (.d (.fn (N 77)))) [(.t 14), (.t 16)], (some (12, false)), [9, 11, 7]⟩,
    ⟨(some 18), .pick (.t 12) (.k (.d (.bool true))) (.t 17), none, [7, 12]⟩,
    ⟨(some 4), .mv (.t 18), none, [13, 12, 0, 1, 2, 3, 4, 5, 6, 7, 8, 9, 10, 11]⟩])
   .ret)) }
def HC255 (P : Program) (N : Nat → Nat) : Prop := HasF P (N 255) (C255 N) ∧ HC256 P N ∧ HC77 P N
def f255 (k : Nat) (a0 : TNode) (a1 : TNode) : Option Bool := (f256 k a0.fName).bind fun r12 => (f256 k a1.fName).bind fun r15 => cond (decide (r12 = r15)) (some true) ((f77 k a1.fAliases a0.fName).bind fun r22 => some r22)
theorem F255 {P : Program} {N : Nat → Nat} (hmix : P.follows .mixedOrders = true) (hc : HC255 P N) {k : Nat} {a0 : TNode} {a1 : TNode} {r : Bool} (h : f255 k a0 a1 = some r) :
    ACalls P (N 255) [(.d (TNode.enc a0)), (.d (TNode.enc a1))] [] (.d (.bool r)) [] := by
  refine acalls_canon (F := C255 N) hc.1 0 0 rfl ?_
  unfold f255 at h
  dsimp only [C255, startL]
  refine AWc.seq ?_
  refine AWc.rg hmix rfl rfl ?_
  refine RegV.evS (own := false) (v := (.ptr 0 0)) (H' := [(0, (.cells [(.d (.int .i64 a0.fKind)), (.d (.str a0.fName)), (.d (.sl (List.map D.str a0.fAliases))), (.d (.sl (List.map TField.enc a0.fFields))), (.d (.sl (List.map D.str a0.fSymbols))), (.d (.bool a0.fHas)), (.d (.str a0.fDefault)), (.d (.int .i64 a0.fItems)), (.d (.sl (List.map (D.int .i64) a0.fBranches))), (.d (.int .i64 a0.fSize))]))]) (c' := 1) rfl rfl trivial rfl rfl rfl rfl rfl rfl ?_
  refine RegV.evS (own := false) (v := (.ptr 1 0)) (H' := [(1, (.cells [(.d (.int .i64 a1.fKind)), (.d (.str a1.fName)), (.d (.sl (List.map D.str a1.fAliases))), (.d (.sl (List.map TField.enc a1.fFields))), (.d (.sl (List.map D.str a1.fSymbols))), (.d (.bool a1.fHas)), (.d (.str a1.fDefault)), (.d (.int .i64 a1.fItems)), (.d (.sl (List.map (D.int .i64) a1.fBranches))), (.d (.int .i64 a1.fSize))])), (0, (.cells [(.d (.int .i64 a0.fKind)), (.d (.str a0.fName)), (.d (.sl (List.map D.str a0.fAliases))), (.d (.sl (List.map TField.enc a0.fFields))), (.d (.sl (List.map D.str a0.fSymbols))), (.d (.bool a0.fHas)), (.d (.str a0.fDefault)), (.d (.int .i64 a0.fItems)), (.d (.sl (List.map (D.int .i64) a0.fBranches))), (.d (.int .i64 a0.fSize))]))]) (c' := 2) rfl rfl trivial rfl rfl rfl rfl rfl rfl ?_
  refine RegV.p0 rfl rfl rfl ?_
  refine RegV.nil0 ?_
  refine AWc.seq ?_
  refine AWc.rg hmix rfl rfl ?_
  refine RegV.p0 (v := (.ptr 0 1)) rfl rfl rfl ?_
  refine RegV.ld (v := (.d (.str a0.fName))) (H' := [(0, (.cells [(.d (.int .i64 a0.fKind)), (.d (.str a0.fName)), (.d (.sl (List.map D.str a0.fAliases))), (.d (.sl (List.map TField.enc a0.fFields))), (.d (.sl (List.map D.str a0.fSymbols))), (.d (.bool a0.fHas)), (.d (.str a0.fDefault)), (.d (.int .i64 a0.fItems)), (.d (.sl (List.map (D.int .i64) a0.fBranches))), (.d (.int .i64 a0.fSize))])), (1, (.cells [(.d (.int .i64 a1.fKind)), (.d (.str a1.fName)), (.d (.sl (List.map D.str a1.fAliases))), (.d (.sl (List.map TField.enc a1.fFields))), (.d (.sl (List.map D.str a1.fSymbols))), (.d (.bool a1.fHas)), (.d (.str a1.fDefault)), (.d (.int .i64 a1.fItems)), (.d (.sl (List.map (D.int .i64) a1.fBranches))), (.d (.int .i64 a1.fSize))]))]) rfl rfl trivial rfl rfl rfl rfl rfl ?_
  obtain ⟨r12, e12, h⟩ := bind_some h
  refine RegV.call0 (F256 hmix hc.2.1 e12) rfl rfl rfl rfl (.cons (.refl _) .nil) rfl ?_
  refine RegV.p0 (v := (.ptr 1 1)) rfl rfl rfl ?_
  refine RegV.ld (v := (.d (.str a1.fName))) (H' := [(1, (.cells [(.d (.int .i64 a1.fKind)), (.d (.str a1.fName)), (.d (.sl (List.map D.str a1.fAliases))), (.d (.sl (List.map TField.enc a1.fFields))), (.d (.sl (List.map D.str a1.fSymbols))), (.d (.bool a1.fHas)), (.d (.str a1.fDefault)), (.d (.int .i64 a1.fItems)), (.d (.sl (List.map (D.int .i64) a1.fBranches))), (.d (.int .i64 a1.fSize))])), (0, (.cells [(.d (.int .i64 a0.fKind)), (.d (.str a0.fName)), (.d (.sl (List.map D.str a0.fAliases))), (.d (.sl (List.map TField.enc a0.fFields))), (.d (.sl (List.map D.str a0.fSymbols))), (.d (.bool a0.fHas)), (.d (.str a0.fDefault)), (.d (.int .i64 a0.fItems)), (.d (.sl (List.map (D.int .i64) a0.fBranches))), (.d (.int .i64 a0.fSize))]))]) rfl rfl trivial rfl rfl rfl rfl rfl ?_
  obtain ⟨r15, e15, h⟩ := bind_some h
  refine RegV.call0 (F256 hmix hc.2.1 e15) rfl rfl rfl rfl (.cons (.refl _) .nil) rfl ?_
  refine RegV.p0 (v := (.d (.bool (decide (r12 = r15))))) rfl rfl rfl ?_
  refine RegV.p0 rfl rfl rfl ?_
  refine RegV.split (fun c17 => ?_) (fun c17 => ?_)
  · have h := cond_pos c17 h
    refine RegV.noS rfl rfl ?_
    refine RegV.noS rfl rfl ?_
    refine RegV.noS rfl rfl ?_
    refine RegV.noS rfl rfl ?_
    refine RegV.noS rfl rfl ?_
    refine RegV.p0 rfl rfl rfl ?_
    refine RegV.p0 rfl rfl rfl ?_
    refine RegV.nil1 (by kernel_rfl) ?_
    have hr := Option.some.inj h
    subst hr
    exact AWc.ret (canQ (N := 19) (k := 0) (l' := [(4, (.d (.bool true)))]) (H' := []) rfl ⟨rfl, [], [], rfl, rfl, ⟨⟨_, rfl, (.refl _)⟩, rfl, trivial⟩,  trivial⟩ (doneA (.inr rfl) rfl ⟨trivial, trivial⟩ (.refl _) hasNil))
  · have h := cond_neg c17 h
    refine RegV.p0 (v := (.ptr 1 2)) rfl rfl rfl ?_
    refine RegV.ld (v := (.d (.sl (List.map D.str a1.fAliases)))) (H' := [(1, (.cells [(.d (.int .i64 a1.fKind)), (.d (.str a1.fName)), (.d (.sl (List.map D.str a1.fAliases))), (.d (.sl (List.map TField.enc a1.fFields))), (.d (.sl (List.map D.str a1.fSymbols))), (.d (.bool a1.fHas)), (.d (.str a1.fDefault)), (.d (.int .i64 a1.fItems)), (.d (.sl (List.map (D.int .i64) a1.fBranches))), (.d (.int .i64 a1.fSize))])), (0, (.cells [(.d (.int .i64 a0.fKind)), (.d (.str a0.fName)), (.d (.sl (List.map D.str a0.fAliases))), (.d (.sl (List.map TField.enc a0.fFields))), (.d (.sl (List.map D.str a0.fSymbols))), (.d (.bool a0.fHas)), (.d (.str a0.fDefault)), (.d (.int .i64 a0.fItems)), (.d (.sl (List.map (D.int .i64) a0.fBranches))), (.d (.int .i64 a0.fSize))]))]) rfl rfl trivial rfl rfl rfl rfl rfl ?_
    refine RegV.p0 (v := (.ptr 0 1)) rfl rfl rfl ?_
    refine RegV.ld (v := (.d (.str a0.fName))) (H' := [(0, (.cells [(.d (.int .i64 a0.fKind)), (.d (.str a0.fName)), (.d (.sl (List.map D.str a0.fAliases))), (.d (.sl (List.map TField.enc a0.fFields))), (.d (.sl (List.map D.str a0.fSymbols))), (.d (.bool a0.fHas)), (.d (.str a0.fDefault)), (.d (.int .i64 a0.fItems)), (.d (.sl (List.map (D.int .i64) a0.fBranches))), (.d (.int .i64 a0.fSize))])), (1, (.cells [(.d (.int .i64 a1.fKind)), (.d (.str a1.fName)), (.d (.sl (List.map D.str a1.fAliases))), (.d (.sl (List.map TField.enc a1.fFields))), (.d (.sl (List.map D.str a1.fSymbols))), (.d (.bool a1.fHas)), (.d (.str a1.fDefault)), (.d (.int .i64 a1.fItems)), (.d (.sl (List.map (D.int .i64) a1.fBranches))), (.d (.int .i64 a1.fSize))]))]) rfl rfl trivial rfl rfl rfl rfl rfl ?_
    obtain ⟨r22, e22, h⟩ := bind_some h
    refine RegV.call0 (F77 hmix hc.2.2 e22) rfl rfl rfl rfl (.cons (.refl _) (.cons (.refl _) .nil)) rfl ?_
    refine RegV.p0 rfl rfl rfl ?_
    refine RegV.p0 rfl rfl rfl ?_
    refine RegV.nil1 (by kernel_rfl) ?_
    have hr := Option.some.inj h
    subst hr
    exact AWc.ret (canQ (N := 19) (k := 0) (l' := [(4, (.d (.bool r22)))]) (H' := []) rfl ⟨rfl, [], [], rfl, rfl, ⟨⟨_, rfl, (.refl _)⟩, rfl, trivial⟩,  trivial⟩ (doneA (.inr rfl) rfl ⟨trivial, trivial⟩ (.refl _) hasNil))
/-- slices.Grow[[]string,string] -/
def C260 (N : Nat → Nat) : AFunc := { n := 27, params := 2, res := [.tmp 4], body :=
 (.seq (.region false [⟨(some 4), .mv (.k .nils), none, []⟩])
  (.seq (.seq (.region false [⟨(some 5), .mv (.t 1), none, []⟩,
     ⟨(some 6), .bin .lss (.t 5) (.k (.d (.int .i64 0))), none, [0]⟩])
    (.cond (.t 6) (.region false [⟨(some 7), .bad, none, []⟩,
      ⟨none, .bad, none, [0]⟩])
     (.skip)))
   (.seq (.seq (.region false [⟨(some 8), .mv (.t 1), none, []⟩,
      ⟨(some 9), .mv (.t 0), none, []⟩,
      ⟨(some 10), .cap (.t 9), none, [1]⟩,
      ⟨(some 11), .mv (.t 0), none, []⟩,
      ⟨(some 12), .len (.t 11), none, [3]⟩,
      ⟨(some 13), .bin .sub (.t 10) (.t 12), none, [2, 4]⟩,
      ⟨(some 14), .bin .sub (.t 8) (.t 13), none, [0, 5]⟩,
      ⟨(some 1), .mv (.t 14), none, [6, 0, 1, 2, 3, 4, 5]⟩])
     (.seq (.region false [⟨(some 15), .mv (.t 1), none, []⟩,
       ⟨(some 16), .bin .gtr (.t 15) (.k (.d (.int .i64 0))), none, [0]⟩])
      (.cond (.t 16) (.region false [⟨(some 17), .mv (.t 0), none, []⟩,
        ⟨(some 18), .mv (.t 0), none, []⟩,
        ⟨(some 19), .cap (.t 18), none, [1]⟩,
        ⟨(some 20), .slc (.t 17) none (some (.t 19)) none 1, none, [0, 2]⟩,
        ⟨(some 21), .mv (.t 1), none, []⟩,
        ⟨(some 22), .grow (.t 20) (.t 21) 1 16 [(.str [])], none, [3, 4]⟩,
        ⟨(some 23), .mv (.t 0), none, []⟩,
        ⟨(some 24), .len (.t 23), none, [6]⟩,
        ⟨(some 25), .slc (.t 22) none (some (.t 24)) none 1, none, [5, 7]⟩,
        ⟨(some 0), .mv (.t 25), none, [8, 5, 0, 1, 2, 3, 4, 6, 7]⟩])
       (.skip))))
    (.seq (.region false [⟨(some 26), .mv (.t 0), none, []⟩,
      ⟨(some 4), .mv (.t 26), none, [0]⟩])
     .ret)))) }
def HC260 (P : Program) (N : Nat → Nat) : Prop := HasF P (N 260) (C260 N)
def f260 (k : Nat) (a0 : Int) : Option Unit := gd (0 ≤ a0 ∧ a0 * 16 ≤ 281474976710656) (some ())
theorem F260 {P : Program} {N : Nat → Nat} (hmix : P.follows .mixedOrders = true) (hc : HC260 P N) {k : Nat} {a0 : Int} {r : Unit} (h : f260 k a0 = some r) :
    ACalls P (N 260) [.nils, .d (.int .i64 a0)] [] (.ap 0 1 (List.map D.str ([] : List (List UInt8)))) [(0, (.tok ((List.map D.str ([] : List (List UInt8))).length * 1)))] := by
  unfold f260 at h
  obtain ⟨⟨b, b'⟩, h⟩ := gd_some h
  exact grow_gen hmix hc rfl rfl rfl b b' (by omega)
/-- slices.Concat[[]string,string] -/
def C259 (N : Nat → Nat) : AFunc := { n := 36, params := 1, res := [.tmp 2], body :=
 (.seq (.region false [⟨(some 2), .mv (.k .nils), none, []⟩])
  (.seq (.region false [⟨(some 3), .mv (.k (.d (.int .i64 0))), none, []⟩])
   (.seq (.seq (.region false [⟨(some 9), .mv (.t 0), none, []⟩,
      ⟨(some 10), .len (.t 9), none, [0]⟩,
      ⟨(some 11), .mv (.k (.d (.int .i64 0))), none, []⟩])
     (.block 0 (.loop (.seq (.region false [⟨(some 12), .bin .lss (.t 11) (.t 10), none, []⟩])
        (.seq (.cond (.t 12) (.skip)
          (.exit 0))
         (.seq (.block 1 (.seq (.region false [⟨(some 13), .iaddr (.t 9) (.t 11) 1, none, []⟩,
             ⟨(some 14), .load (.t 13) 1 false, none, [0]⟩,
             ⟨(some 5), .mv (.t 14), none, [1, 0]⟩])
            (.seq (.region false [⟨(some 15), .mv (.t 3), none, []⟩,
              ⟨(some 16), .mv (.t 5), none, []⟩,
              ⟨(some 17), .len (.t 16), none, [1]⟩,
              ⟨(some 18), .bin .add (.t 15) (.t 17), none, [0, 2]⟩,
              ⟨(some 3), .mv (.t 18), none, [3, 0, 1, 2]⟩])
             (.seq (.region false [⟨(some 19), .mv (.t 3), none, []⟩,
               ⟨(some 20), .bin .lss (.t 19) (.k (.d (.int .i64 0))), none, [0]⟩])
              (.cond (.t 20) (.region false [⟨(some 21), .bad, none, []⟩,
                ⟨none, .bad, none, [0]⟩])
               (.skip))))))
          (.region false [⟨(some 22), .bin .add (.t 11) (.k (.d (.int .i64 1))), none, []⟩,
           ⟨(some 11), .mv (.t 22), none, [0]⟩])))))))
    (.seq (.region false [⟨(some 23), .mv (.t 3), none, []⟩,
      ⟨(some 24), .call (.k (.d (.fn (N 260)))) [(.k .nils), (.t 23)], none, [0]⟩,
      ⟨(some 6), .mv (.t 24), none, [1, 0]⟩])
     (.seq (.seq (.region false [⟨(some 25), .mv (.t 0), none, []⟩,
        ⟨(some 26), .len (.t 25), none, [0]⟩,
        ⟨(some 27), .mv (.k (.d (.int .i64 0))), none, []⟩])
       (.block 2 (.loop (.seq (.region false [⟨(some 28), .bin .lss (.t 27) (.t 26), none, []⟩])
          (.seq (.cond (.t 28) (.skip)
            (.exit 2))
           (.seq (.block 3 (.seq (.region false [⟨(some 29), .iaddr (.t 25) (.t 27) 1, none, []⟩,
               ⟨(some 30), .load (.t 29) 1 false, none, [0]⟩,
               ⟨(some 8), .mv (.t 30), none, [1, 0]⟩])
              (.region false [⟨(some 31), .mv (.t 6), none, []⟩,
               ⟨(some 32), .mv (.t 8), none, []⟩,
               ⟨(some 33), .app (.t 31) (.t 32) 1 16 [(.str [])], none, [0, 1]⟩,
               ⟨(some 6), .mv (.t 33), none, [2, 0, 1]⟩])))
            (.region false [⟨(some 34), .bin .add (.t 27) (.k (.d (.int .i64 1))), none, []⟩,
             ⟨(some 27), .mv (.t 34), none, [0]⟩])))))))
      (.seq (.region false [⟨(some 35), .mv (.t 6), none, []⟩,
        ⟨(some 2), .mv (.t 35), none, [0]⟩])
       .ret)))))) }
def HC259 (P : Program) (N : Nat → Nat) : Prop := HasF P (N 259) (C259 N) ∧ HC260 P N
def f259_l70 (a0 : (List (List (List UInt8)))) : Nat → (List (List UInt8)) → Int → Option (LR2 (List (List UInt8)) Unit (List (List UInt8)))
  | 0, _, _ => none
  | k + 1, y70_1, y70_2 => cond (decide (y70_2 < ((a0.length : Nat) : Int))) (gd (0 ≤ y70_2 ∧ y70_2 < ((a0.length : Nat) : Int)) (gd ((y70_1.length + (rd a0 y70_2).length) * 2 * 16 ≤ 281474976710656) (f259_l70 a0 k (y70_1 ++ (rd a0 y70_2)) (IntKind.i64.wrap (y70_2 + (1 : Int)))))) (some (.b0 y70_1))
def f259_j57 (k : Nat) (a0 : (List (List (List UInt8)))) (j57_1 : Int) : Option (List (List UInt8)) := (f260 k j57_1).bind fun r61 => (f259_l70 a0 k ([] : List (List UInt8)) (0 : Int)).bind fun o70 => match o70 with | .b0 x70_1 => some x70_1 | _ => none
def f259_l16 (a0 : (List (List (List UInt8)))) : Nat → Int → Int → Option (LR2 Int Unit (List (List UInt8)))
  | 0, _, _ => none
  | k + 1, y16_1, y16_2 => cond (decide (y16_2 < ((a0.length : Nat) : Int))) (gd (0 ≤ y16_2 ∧ y16_2 < ((a0.length : Nat) : Int)) (cond (decide ((IntKind.i64.wrap (y16_1 + (((rd a0 y16_2).length : Nat) : Int))) < (0 : Int))) (none) (f259_l16 a0 k (IntKind.i64.wrap (y16_1 + (((rd a0 y16_2).length : Nat) : Int))) (IntKind.i64.wrap (y16_2 + (1 : Int)))))) (some (.b0 y16_1))
def f259 (k : Nat) (a0 : (List (List (List UInt8)))) : Option (List (List UInt8)) := (f259_l16 a0 k (0 : Int) (0 : Int)).bind fun o16 => match o16 with | .b0 x16_1 => f259_j57 k a0 x16_1 | _ => none
theorem F259 {P : Program} {N : Nat → Nat} (hmix : P.follows .mixedOrders = true) (hc : HC259 P N) {k : Nat} {a0 : (List (List (List UInt8)))} {r : (List (List UInt8))} (h : f259 k a0 = some r) :
    ACalls P (N 259) [(.d (.sl (List.map (slE D.str) a0)))] [] (.ap 0 1 (List.map D.str r)) [(0, (.tok ((List.map D.str r).length * 1)))] := by
  refine acalls_canon (F := C259 N) hc.1 0 1 rfl ?_
  unfold f259 at h
  dsimp only [C259, startL]
  refine AWc.seq ?_
  refine AWc.rg hmix rfl rfl ?_
  refine RegV.p0 rfl rfl rfl ?_
  refine RegV.nil0 ?_
  refine AWc.seq ?_
  refine AWc.rg hmix rfl rfl ?_
  refine RegV.p0 rfl rfl rfl ?_
  refine RegV.nil0 ?_
  refine AWc.seqS (N := 36) 0 (fun (z : Int) => [(0, (.d (.sl (List.map (slE D.str) a0)))), (3, (.d (.int .i64 z)))]) (fun z => []) (fun z => f259_j57 k a0 z = some r) rfl_le ?_ ?_
  · refine AWc.seq ?_
    refine AWc.rg hmix rfl rfl ?_
    refine RegV.p0 rfl rfl rfl ?_
    refine RegV.len (xs := a0) (e := (slE D.str)) rfl rfl rfl rfl ?_
    refine RegV.p0 rfl rfl rfl ?_
    refine RegV.nil0 ?_
    obtain ⟨o16, h16, h⟩ := bind_some h
    refine AWc.block ?_
    refine AWc.loopK (N := 36) 0 (fun (x : (Int × Int)) => [(0, (.d (.sl (List.map (slE D.str) a0)))), (3, (.d (.int .i64 x.1))), (9, (.d (.sl (List.map (slE D.str) a0)))), (10, (.d (.int .i64 ((a0.length : Nat) : Int)))), (11, (.d (.int .i64 x.2)))]) (fun x => []) (fun k x => f259_l16 a0 k x.1 x.2 = some o16) k ((0 : Int), (0 : Int)) rfl_le (fun x hx => by cases hx) h16 ⟨rfl, [], [], rfl, rfl, ⟨⟨_, rfl, (.refl _)⟩, rfl, ⟨⟨_, rfl, (.refl _)⟩, rfl, ⟨⟨_, rfl, (.refl _)⟩, rfl, ⟨⟨_, rfl, (.refl _)⟩, rfl, ⟨⟨_, rfl, (.refl _)⟩, rfl, trivial⟩⟩⟩⟩⟩,  trivial⟩ ?_
    clear h16
    intro k
    rintro ⟨y16_1, y16_2⟩ h16
    dsimp only at h16 ⊢
    rw [f259_l16] at h16
    refine AWc.seq ?_
    refine AWc.rg hmix rfl rfl ?_
    refine RegV.p0 (v := (.d (.bool (decide (y16_2 < ((a0.length : Nat) : Int)))))) rfl rfl rfl ?_
    refine RegV.nil0 ?_
    refine AWc.seq ?_
    refine AWc.cond rfl (fun c23 => ?_) (fun c23 => ?_)
    · have h16 := cond_pos c23 h16
      refine AWc.skip ?_
      refine AWc.seq ?_
      refine AWc.block ?_
      refine AWc.seq ?_
      refine AWc.rg hmix rfl rfl ?_
      obtain ⟨b31, h16⟩ := gd_some h16
      refine RegV.iad (xs := a0) (e := (slE D.str)) rfl rfl rfl rfl (fun _ => rfl) b31 rfl ?_
      refine RegV.p0 (v := (.d (.sl (List.map D.str (rd a0 y16_2))))) rfl rfl rfl ?_
      refine RegV.p0 rfl rfl rfl ?_
      refine RegV.nil0 ?_
      refine AWc.seq ?_
      refine AWc.rg hmix rfl rfl ?_
      refine RegV.p0 rfl rfl rfl ?_
      refine RegV.p0 rfl rfl rfl ?_
      refine RegV.len (xs := (rd a0 y16_2)) (e := D.str) rfl rfl rfl rfl ?_
      refine RegV.p0 (v := (.d (.int .i64 (IntKind.i64.wrap (y16_1 + (((rd a0 y16_2).length : Nat) : Int)))))) rfl rfl rfl ?_
      refine RegV.p0 rfl rfl rfl ?_
      refine RegV.nil0 ?_
      refine AWc.seq ?_
      refine AWc.rg hmix rfl rfl ?_
      refine RegV.p0 rfl rfl rfl ?_
      refine RegV.p0 (v := (.d (.bool (decide ((IntKind.i64.wrap (y16_1 + (((rd a0 y16_2).length : Nat) : Int))) < (0 : Int)))))) rfl rfl rfl ?_
      refine RegV.nil0 ?_
      refine AWc.cond rfl (fun c47 => ?_) (fun c47 => ?_)
      · have h16 := cond_pos c47 h16
        refine AWc.rg hmix rfl rfl ?_
        cases h16
      · have h16 := cond_neg c47 h16
        refine AWc.skip ?_
        refine AWc.rg hmix rfl rfl ?_
        refine RegV.p0 (v := (.d (.int .i64 (IntKind.i64.wrap (y16_2 + (1 : Int)))))) rfl rfl rfl ?_
        refine RegV.p0 rfl rfl rfl ?_
        refine RegV.nil0 ?_
        exact ⟨((IntKind.i64.wrap (y16_1 + (((rd a0 y16_2).length : Nat) : Int))), (IntKind.i64.wrap (y16_2 + (1 : Int)))), h16, ⟨rfl, [], [], rfl, rfl, ⟨⟨_, rfl, (.refl _)⟩, rfl, ⟨⟨_, rfl, (.refl _)⟩, rfl, ⟨⟨_, rfl, (.refl _)⟩, rfl, ⟨⟨_, rfl, (.refl _)⟩, rfl, ⟨⟨_, rfl, (.refl _)⟩, rfl, trivial⟩⟩⟩⟩⟩,  trivial⟩⟩
    · have h16 := cond_neg c23 h16
      cases h16
      dsimp only at h
      refine AWc.exit ?_
      refine inBlk_eq ?_
      exact ⟨y16_1, h, ⟨rfl, [], [], rfl, rfl, ⟨⟨_, rfl, (.refl _)⟩, rfl, ⟨⟨_, rfl, (.refl _)⟩, rfl, trivial⟩⟩,  trivial⟩⟩
  · intro j57_1 h
    unfold f259_j57 at h
    refine AWc.seq ?_
    refine AWc.rg hmix rfl rfl ?_
    refine RegV.p0 rfl rfl rfl ?_
    obtain ⟨r61, e61, h⟩ := bind_some h
    refine RegV.callS (q := false) (H' := [(0, (.tok ((List.map D.str ([] : List (List UInt8))).length * 1)))]) (c' := 1) (show ACalls P (N 260) [.nils, (.d (.int .i64 j57_1))] [] (.ap 0 1 (List.map D.str ([] : List (List UInt8)))) [(0, (.tok ((List.map D.str ([] : List (List UInt8))).length * 1)))] from ACalls.use (F260 hmix hc.2 e61) [(0, 0)] 1 rfl) rfl rfl rfl rfl (.cons (.refl _) (.cons (.refl _) .nil)) (.refl _) (fun h => by cases h) rfl hasNil rfl rfl rfl rfl ?_
    refine RegV.p0 rfl rfl rfl ?_
    refine RegV.nil0 ?_
    refine AWc.seq ?_
    refine AWc.seq ?_
    refine AWc.rg hmix rfl rfl ?_
    refine RegV.p0 rfl rfl rfl ?_
    refine RegV.len (xs := a0) (e := (slE D.str)) rfl rfl rfl rfl ?_
    refine RegV.p0 rfl rfl rfl ?_
    refine RegV.nil0 ?_
    obtain ⟨o70, h70, h⟩ := bind_some h
    refine AWc.block ?_
    refine AWc.loopK (N := 36) 1 (fun (x : ((List (List UInt8)) × Int)) => [(6, (.ap 0 1 (List.map D.str x.1))), (25, (.d (.sl (List.map (slE D.str) a0)))), (26, (.d (.int .i64 ((a0.length : Nat) : Int)))), (27, (.d (.int .i64 x.2)))]) (fun x => [(0, (.tok ((List.map D.str x.1).length * 1)))]) (fun k x => f259_l70 a0 k x.1 x.2 = some o70) k (([] : List (List UInt8)), (0 : Int)) rfl_le (fun x hx => by cases hx) h70 ⟨rfl, [], [], rfl, rfl, ⟨⟨_, rfl, (.refl _)⟩, rfl, ⟨⟨_, rfl, (.refl _)⟩, rfl, ⟨⟨_, rfl, (.refl _)⟩, rfl, ⟨⟨_, rfl, (.refl _)⟩, rfl, trivial⟩⟩⟩⟩, ⟨⟨_, rfl, (.refl _)⟩, rfl, rfl, trivial⟩⟩ ?_
    clear h70
    intro k
    rintro ⟨y70_1, y70_2⟩ h70
    dsimp only at h70 ⊢
    rw [f259_l70] at h70
    refine AWc.seq ?_
    refine AWc.rg hmix rfl rfl ?_
    refine RegV.p0 (v := (.d (.bool (decide (y70_2 < ((a0.length : Nat) : Int)))))) rfl rfl rfl ?_
    refine RegV.nil0 ?_
    refine AWc.seq ?_
    refine AWc.cond rfl (fun c77 => ?_) (fun c77 => ?_)
    · have h70 := cond_pos c77 h70
      refine AWc.skip ?_
      refine AWc.seq ?_
      refine AWc.block ?_
      refine AWc.seq ?_
      refine AWc.rg hmix rfl rfl ?_
      obtain ⟨b85, h70⟩ := gd_some h70
      refine RegV.iad (xs := a0) (e := (slE D.str)) rfl rfl rfl rfl (fun _ => rfl) b85 rfl ?_
      refine RegV.p0 (v := (.d (.sl (List.map D.str (rd a0 y70_2))))) rfl rfl rfl ?_
      refine RegV.p0 rfl rfl rfl ?_
      refine RegV.nil0 ?_
      refine AWc.rg hmix rfl rfl ?_
      refine RegV.p0 rfl rfl rfl ?_
      refine RegV.p0 rfl rfl rfl ?_
      obtain ⟨b92, h70⟩ := gd_some h70
      refine RegV.appA (xs := y70_1) (ys := (rd a0 y70_2)) (e := D.str) (H1 := []) rfl rfl rfl rfl (fun _ => rfl) rfl rfl b92 rfl rfl rfl ?_
      refine RegV.p0 rfl rfl rfl ?_
      refine RegV.nil0 ?_
      refine AWc.rg hmix rfl rfl ?_
      refine RegV.p0 (v := (.d (.int .i64 (IntKind.i64.wrap (y70_2 + (1 : Int)))))) rfl rfl rfl ?_
      refine RegV.p0 rfl rfl rfl ?_
      refine RegV.nil0 ?_
      exact ⟨((y70_1 ++ (rd a0 y70_2)), (IntKind.i64.wrap (y70_2 + (1 : Int)))), h70, ⟨rfl, [], [(0, 1)], rfl, rfl, ⟨⟨_, rfl, (.refl _)⟩, rfl, ⟨⟨_, rfl, (.refl _)⟩, rfl, ⟨⟨_, rfl, (.refl _)⟩, rfl, ⟨⟨_, rfl, (.refl _)⟩, rfl, trivial⟩⟩⟩⟩, ⟨⟨_, rfl, (.refl _)⟩, rfl, rfl, trivial⟩⟩⟩
    · have h70 := cond_neg c77 h70
      cases h70
      dsimp only at h
      refine AWc.exit ?_
      refine inBlk_eq ?_
      refine AWc.seq ?_
      refine AWc.rg hmix rfl rfl ?_
      refine RegV.p0 rfl rfl rfl ?_
      refine RegV.p0 rfl rfl rfl ?_
      refine RegV.nil0 ?_
      have hr := Option.some.inj h
      subst hr
      exact AWc.ret (canQ (N := 36) (k := 1) (l' := [(2, (.ap 0 1 (List.map D.str y70_1)))]) (H' := [(0, (.tok ((List.map D.str y70_1).length * 1)))]) rfl ⟨rfl, [], [], rfl, rfl, ⟨⟨_, rfl, (.refl _)⟩, rfl, trivial⟩, ⟨⟨_, rfl, (.refl _)⟩, rfl, rfl, trivial⟩⟩ (doneA (.inr rfl) rfl ⟨trivial, trivial⟩ (.refl _) (hasCons rfl hasNil)))
/-- courant/match.Field$1 -/
def C291 (N : Nat → Nat) : AFunc := { n := 8, params := 2, res := [.tmp 3], body :=
 (.seq (.region false [⟨(some 2), .box (.t 0), none, []⟩,
   ⟨(some 3), .mv (.k (.d (.bool false))), none, []⟩])
  (.seq (.region false [⟨(some 4), .faddr (.t 2) 0, none, []⟩,
    ⟨(some 5), .load (.t 4) 1 false, none, [0]⟩,
    ⟨(some 6), .load (.t 1) 1 false, none, []⟩,
    ⟨(some 7), .bin .eql (.t 5) (.t 6), none, [1, 2]⟩,
    ⟨(some 3), .mv (.t 7), none, [3, 0, 1, 2]⟩])
   .ret)) }
def HC291 (P : Program) (N : Nat → Nat) : Prop := HasF P (N 291) (C291 N)
def f291 (k : Nat) (a0 : TField) (a1 : (List UInt8)) : Option Unit := some ()
theorem F291 {P : Program} {N : Nat → Nat} (hmix : P.follows .mixedOrders = true) (hc : HC291 P N) {k : Nat} {a0 : TField} {a1 : (List UInt8)} {r : Unit} (h : f291 k a0 a1 = some r) :
    ACalls P (N 291) [(.d (TField.enc a0)), (.ptr 0 0)] [(0, (.cells [(.d (.str a1))]))] (.d (.bool (decide (a0.fName = a1)))) [(0, (.cells [(.d (.str a1))]))] := by
  refine acalls_canon (F := C291 N) hc 1 1 rfl ?_
  unfold f291 at h
  dsimp only [C291, startL]
  refine AWc.seq ?_
  refine AWc.rg hmix rfl rfl ?_
  refine RegV.evS (own := false) (v := (.ptr 1 0)) (H' := [(1, (.cells [(.d (.str a0.fName)), (.d (.sl (List.map D.str a0.fAliases))), (.d (.int .i64 a0.fType)), (.d (.bool a0.fHas)), (.d (.str a0.fDefault))])), (0, (.cells [(.d (.str a1))]))]) (c' := 2) rfl rfl trivial rfl rfl rfl rfl rfl rfl ?_
  refine RegV.p0 rfl rfl rfl ?_
  refine RegV.nil0 ?_
  refine AWc.seq ?_
  refine AWc.rg hmix rfl rfl ?_
  refine RegV.p0 (v := (.ptr 1 0)) rfl rfl rfl ?_
  refine RegV.ld (v := (.d (.str a0.fName))) (H' := [(1, (.cells [(.d (.str a0.fName)), (.d (.sl (List.map D.str a0.fAliases))), (.d (.int .i64 a0.fType)), (.d (.bool a0.fHas)), (.d (.str a0.fDefault))])), (0, (.cells [(.d (.str a1))]))]) rfl rfl trivial rfl rfl rfl rfl rfl ?_
  refine RegV.ld (v := (.d (.str a1))) (H' := [(0, (.cells [(.d (.str a1))])), (1, (.cells [(.d (.str a0.fName)), (.d (.sl (List.map D.str a0.fAliases))), (.d (.int .i64 a0.fType)), (.d (.bool a0.fHas)), (.d (.str a0.fDefault))]))]) rfl rfl trivial rfl rfl rfl rfl rfl ?_
  refine RegV.p0 (v := (.d (.bool (decide (a0.fName = a1))))) rfl rfl rfl ?_
  refine RegV.p0 rfl rfl rfl ?_
  refine RegV.nil0 ?_
  have hr := Option.some.inj h
  subst hr
  exact AWc.ret (canQ (N := 8) (k := 1) (l' := [(3, (.d (.bool (decide (a0.fName = a1)))))]) (H' := [(0, (.cells [(.d (.str a1))]))]) rfl ⟨rfl, [], [], rfl, rfl, ⟨⟨_, rfl, (.refl _)⟩, rfl, trivial⟩, ⟨⟨_, rfl, (.refl _)⟩, rfl, rfl, trivial⟩⟩ (doneA (.inr rfl) rfl ⟨trivial, trivial⟩ (.refl _) (hasCons rfl hasNil)))
/-- slices.IndexFunc[[]courant/api.Field,courant/api.Field] -/
def C290 (N : Nat → Nat) : AFunc := { n := 19, params := 2, res := [.tmp 4], body :=
 (.seq (.region false [⟨(some 4), .mv (.k (.d (.int .i64 0))), none, []⟩])
  (.seq (.seq (.region false [⟨(some 6), .mv (.t 0), none, []⟩,
     ⟨(some 7), .len (.t 6), none, [0]⟩,
     ⟨(some 8), .mv (.k (.d (.int .i64 0))), none, []⟩])
    (.block 0 (.loop (.seq (.region false [⟨(some 9), .bin .lss (.t 8) (.t 7), none, []⟩])
       (.seq (.cond (.t 9) (.skip)
         (.exit 0))
        (.seq (.block 1 (.seq (.region false [⟨(some 10), .mv (.t 8), none, []⟩,
            ⟨(some 5), .mv (.t 10), none, [0]⟩])
           (.seq (.region false [⟨(some 11), .mv (.t 1), none, []⟩,
             ⟨(some 12), .mv (.t 0), none, []⟩,
             ⟨(some 13), .mv (.t 5), none, []⟩,
             ⟨(some 14), .iaddr (.t 12) (.t 13) 5, none, [1, 2]⟩,
             ⟨(some 15), .load (.t 14) 5 true, none, [3]⟩,
             ⟨(some 16), .call (.t 11) [(.t 15)], none, [0, 4]⟩])
            (.cond (.t 16) (.seq (.region false [⟨(some 17), .mv (.t 5), none, []⟩,
               ⟨(some 4), .mv (.t 17), none, [0]⟩])
              .ret)
             (.skip)))))
         (.region false [⟨(some 18), .bin .add (.t 8) (.k (.d (.int .i64 1))), none, []⟩,
          ⟨(some 8), .mv (.t 18), none, [0]⟩])))))))
   (.seq (.region false [⟨(some 4), .mv (.k (.d (.int .i64 (-1)))), none, []⟩])
    .ret))) }
def HC290 (P : Program) (N : Nat → Nat) : Prop := HasF P (N 290) (C290 N) ∧ HC291 P N
def f290_l12 (a0 : (List TField)) (a1 : (List UInt8)) : Nat → Int → Option (LR2 Unit Unit Int)
  | 0, _ => none
  | k + 1, y12_1 => cond (decide (y12_1 < ((a0.length : Nat) : Int))) (gd (0 ≤ y12_1 ∧ y12_1 < ((a0.length : Nat) : Int)) ((f291 k (rd a0 y12_1) a1).bind fun r37 => cond (decide ((rd a0 y12_1).fName = a1)) (some (.r y12_1)) (f290_l12 a0 a1 k (IntKind.i64.wrap (y12_1 + (1 : Int)))))) (some (.b0 ()))
def f290 (k : Nat) (a0 : (List TField)) (a1 : (List UInt8)) : Option Int := (f290_l12 a0 a1 k (0 : Int)).bind fun o12 => match o12 with | .b0 () => some (-1 : Int) | .r x => some x | _ => none
theorem F290 {P : Program} {N : Nat → Nat} (hmix : P.follows .mixedOrders = true) (hc : HC290 P N) {k : Nat} {a0 : (List TField)} {a1 : (List UInt8)} {r : Int} (h : f290 k a0 a1 = some r) :
    ACalls P (N 290) [(.d (.sl (List.map TField.enc a0))), (.fn (N 291) [(.ptr 0 0)])] [(0, (.cells [(.d (.str a1))]))] (.d (.int .i64 r)) [(0, (.cells [(.d (.str a1))]))] := by
  refine acalls_canon (F := C290 N) hc.1 1 1 rfl ?_
  unfold f290 at h
  dsimp only [C290, startL]
  refine AWc.seq ?_
  refine AWc.rg hmix rfl rfl ?_
  refine RegV.p0 rfl rfl rfl ?_
  refine RegV.nil0 ?_
  refine AWc.seq ?_
  refine AWc.seq ?_
  refine AWc.rg hmix rfl rfl ?_
  refine RegV.p0 rfl rfl rfl ?_
  refine RegV.len (xs := a0) (e := TField.enc) rfl rfl rfl rfl ?_
  refine RegV.p0 rfl rfl rfl ?_
  refine RegV.nil0 ?_
  obtain ⟨o12, h12, h⟩ := bind_some h
  refine AWc.block ?_
  refine AWc.loopK (N := 19) 1 (fun (x : Int) => [(0, (.d (.sl (List.map TField.enc a0)))), (1, (.fn (N 291) [(.ptr 0 0)])), (7, (.d (.int .i64 ((a0.length : Nat) : Int)))), (8, (.d (.int .i64 x)))]) (fun x => [(0, (.cells [(.d (.str a1))]))]) (fun k x => f290_l12 a0 a1 k x = some o12) k (0 : Int) rfl_le (fun x hx => by cases hx) h12 ⟨rfl, [], [], rfl, rfl, ⟨⟨_, rfl, (.refl _)⟩, rfl, ⟨⟨_, rfl, (.refl _)⟩, rfl, ⟨⟨_, rfl, (.refl _)⟩, rfl, ⟨⟨_, rfl, (.refl _)⟩, rfl, trivial⟩⟩⟩⟩, ⟨⟨_, rfl, (.refl _)⟩, rfl, rfl, trivial⟩⟩ ?_
  clear h12
  intro k
  intro y12_1 h12
  rw [f290_l12] at h12
  refine AWc.seq ?_
  refine AWc.rg hmix rfl rfl ?_
  refine RegV.p0 (v := (.d (.bool (decide (y12_1 < ((a0.length : Nat) : Int)))))) rfl rfl rfl ?_
  refine RegV.nil0 ?_
  refine AWc.seq ?_
  refine AWc.cond rfl (fun c19 => ?_) (fun c19 => ?_)
  · have h12 := cond_pos c19 h12
    refine AWc.skip ?_
    refine AWc.seq ?_
    refine AWc.block ?_
    refine AWc.seq ?_
    refine AWc.rg hmix rfl rfl ?_
    refine RegV.p0 rfl rfl rfl ?_
    refine RegV.p0 rfl rfl rfl ?_
    refine RegV.nil0 ?_
    refine AWc.seq ?_
    refine AWc.rg hmix rfl rfl ?_
    refine RegV.p0 rfl rfl rfl ?_
    refine RegV.p0 rfl rfl rfl ?_
    refine RegV.p0 rfl rfl rfl ?_
    obtain ⟨b35, h12⟩ := gd_some h12
    refine RegV.iad (xs := a0) (e := TField.enc) rfl rfl rfl rfl (fun _ => rfl) b35 rfl ?_
    refine RegV.p1 (v := (.d (TField.enc (rd a0 y12_1)))) rfl rfl rfl rfl rfl ?_
    obtain ⟨r37, e37, h12⟩ := bind_some h12
    refine RegV.callS (q := true) (H' := [(0, (.cells [(.d (.str a1))]))]) (c' := 1) (show ACalls P (N 291) [(.d (TField.enc (rd a0 y12_1))), (.ptr 0 0)] [(0, (.cells [(.d (.str a1))]))] (.d (.bool (decide ((rd a0 y12_1).fName = a1)))) [(0, (.cells [(.d (.str a1))]))] from ACalls.use (F291 hmix hc.2 e37) [(0, 0)] 1 rfl) rfl rfl rfl rfl (.cons (.refl _) (.cons (.refl _) .nil)) (.refl _) (fun _ => rfl) rfl (hasCons rfl hasNil) rfl rfl rfl rfl ?_
    refine RegV.nil0 ?_
    refine AWc.cond rfl (fun c38 => ?_) (fun c38 => ?_)
    · have h12 := cond_pos c38 h12
      refine AWc.seq ?_
      refine AWc.rg hmix rfl rfl ?_
      refine RegV.p0 rfl rfl rfl ?_
      refine RegV.p0 rfl rfl rfl ?_
      refine RegV.nil0 ?_
      cases h12
      dsimp only at h
      have hr := Option.some.inj h
      subst hr
      exact AWc.ret (canQ (N := 19) (k := 1) (l' := [(4, (.d (.int .i64 y12_1)))]) (H' := [(0, (.cells [(.d (.str a1))]))]) rfl ⟨rfl, [], [], rfl, rfl, ⟨⟨_, rfl, (.refl _)⟩, rfl, trivial⟩, ⟨⟨_, rfl, (.refl _)⟩, rfl, rfl, trivial⟩⟩ (doneA (.inr rfl) rfl ⟨trivial, trivial⟩ (.refl _) (hasCons rfl hasNil)))
    · have h12 := cond_neg c38 h12
      refine AWc.skip ?_
      refine AWc.rg hmix rfl rfl ?_
      refine RegV.p0 (v := (.d (.int .i64 (IntKind.i64.wrap (y12_1 + (1 : Int)))))) rfl rfl rfl ?_
      refine RegV.p0 rfl rfl rfl ?_
      refine RegV.nil0 ?_
      exact ⟨(IntKind.i64.wrap (y12_1 + (1 : Int))), h12, ⟨rfl, [], [], rfl, rfl, ⟨⟨_, rfl, (.refl _)⟩, rfl, ⟨⟨_, rfl, (.refl _)⟩, rfl, ⟨⟨_, rfl, (.refl _)⟩, rfl, ⟨⟨_, rfl, (.refl _)⟩, rfl, trivial⟩⟩⟩⟩, ⟨⟨_, rfl, (.refl _)⟩, rfl, rfl, trivial⟩⟩⟩
  · have h12 := cond_neg c19 h12
    cases h12
    dsimp only at h
    refine AWc.exit ?_
    refine inBlk_eq ?_
    refine AWc.seq ?_
    refine AWc.rg hmix rfl rfl ?_
    refine RegV.p0 rfl rfl rfl ?_
    refine RegV.nil0 ?_
    have hr := Option.some.inj h
    subst hr
    exact AWc.ret (canQ (N := 19) (k := 1) (l' := [(4, (.d (.int .i64 (-1 : Int))))]) (H' := [(0, (.cells [(.d (.str a1))]))]) rfl ⟨rfl, [], [], rfl, rfl, ⟨⟨_, rfl, (.refl _)⟩, rfl, trivial⟩, ⟨⟨_, rfl, (.refl _)⟩, rfl, rfl, trivial⟩⟩ (doneA (.inr rfl) rfl ⟨trivial, trivial⟩ (.refl _) (hasCons rfl hasNil)))
/-- courant/match.Field -/
def C258 (N : Nat → Nat) : AFunc := { n := 28, params := 2, res := [.tmp 4], body :=
 (.seq (.region false [⟨(some 2), .box (.t 0), none, []⟩,
   ⟨(some 3), .box (.t 1), none, []⟩,
   ⟨(some 4), .mv (.k (.d (.int .i64 0))), none, []⟩])
  (.seq (.seq (.region false [⟨(some 8), .faddr (.t 3) 0, none, []⟩,
     ⟨(some 9), .load (.t 8) 1 false, none, [0]⟩,
     ⟨(some 10), .bslice 1 1 [(.str [])] [(0, (.t 9))], none, [1]⟩,
     ⟨(some 11), .faddr (.t 3) 1, none, []⟩,
     ⟨(some 12), .load (.t 11) 1 false, none, [3]⟩,
     ⟨(some 13), .bslice 2 1 [(.sl [])] [(0, (.t 10)), (1, (.t 12))], none, [2, 4]⟩,
     ⟨(some 14), .call (.k (.d (.fn (N 259)))) [(.t 13)], none, [5]⟩,
     ⟨(some 15), .len (.t 14), none, [6]⟩,
     ⟨(some 16), .mv (.k (.d (.int .i64 0))), none, []⟩])
    (.block 0 (.loop (.seq (.region false [⟨(some 17), .bin .lss (.t 16) (.t 15), none, []⟩])
       (.seq (.cond (.t 17) (.skip)
         (.exit 0))
        (.seq (.block 1 (.seq (.region false [⟨(some 18), .iaddr (.t 14) (.t 16) 1, none, []⟩,
            ⟨(some 19), .load (.t 18) 1 false, none, [0]⟩,
            ⟨(some 6), .alloc [(.str [])], none, []⟩,
            ⟨none, .store (.t 6) (.t 19) 1, none, [2, 1, 0]⟩])
           (.seq (.region false [⟨(some 20), .faddr (.t 2) 3, none, []⟩,
             ⟨(some 21), .load (.t 20) 1 false, none, [0]⟩,
             ⟨(some 22), .mkfn (N 291) [(.t 6)], none, []⟩,
             ⟨(some 23), .call (.k (.d (.fn (N 290)))) [(.t 21), (.t 22)], none, [1, 2]⟩,
             ⟨(some 7), .mv (.t 23), none, [3, 0, 1, 2]⟩])
            (.seq (.region false [⟨(some 24), .mv (.t 7), none, []⟩,
              ⟨(some 25), .bin .geq (.t 24) (.k (.d (.int .i64 0))), none, [0]⟩])
             (.cond (.t 25) (.seq (.region false [⟨(some 26), .mv (.t 7), none, []⟩,
                ⟨(some 4), .mv (.t 26), none, [0]⟩])
               .ret)
              (.skip))))))
         (.region false [⟨(some 27), .bin .add (.t 16) (.k (.d (.int .i64 1))), none, []⟩,
          ⟨(some 16), .mv (.t 27), none, [0]⟩])))))))
   (.seq (.region false [⟨(some 4), .mv (.k (.d (.int .i64 (-1)))), none, []⟩])
    .ret))) }
def HC258 (P : Program) (N : Nat → Nat) : Prop := HasF P (N 258) (C258 N) ∧ HC259 P N ∧ HC290 P N
def f258_l20 (r17 : (List (List UInt8))) (a0 : TNode) : Nat → Int → Option (LR2 Unit Unit Int)
  | 0, _ => none
  | k + 1, y20_1 => cond (decide (y20_1 < ((r17.length : Nat) : Int))) (gd (0 ≤ y20_1 ∧ y20_1 < ((r17.length : Nat) : Int)) ((f290 k a0.fFields (rd r17 y20_1)).bind fun r45 => cond (decide (r45 ≥ (0 : Int))) (some (.r r45)) (f258_l20 r17 a0 k (IntKind.i64.wrap (y20_1 + (1 : Int)))))) (some (.b0 ()))
def f258 (k : Nat) (a0 : TNode) (a1 : TField) : Option Int := (f259 k ([([a1.fName] : List (List UInt8)), a1.fAliases] : List (List (List UInt8)))).bind fun r17 => (f258_l20 r17 a0 k (0 : Int)).bind fun o20 => match o20 with | .b0 () => some (-1 : Int) | .r x => some x | _ => none
theorem F258 {P : Program} {N : Nat → Nat} (hmix : P.follows .mixedOrders = true) (hc : HC258 P N) {k : Nat} {a0 : TNode} {a1 : TField} {r : Int} (h : f258 k a0 a1 = some r) :
    ACalls P (N 258) [(.d (TNode.enc a0)), (.d (TField.enc a1))] [] (.d (.int .i64 r)) [] := by
  refine acalls_canon (F := C258 N) hc.1 0 0 rfl ?_
  unfold f258 at h
  dsimp only [C258, startL]
  refine AWc.seq ?_
  refine AWc.rg hmix rfl rfl ?_
  refine RegV.evS (own := false) (v := (.ptr 0 0)) (H' := [(0, (.cells [(.d (.int .i64 a0.fKind)), (.d (.str a0.fName)), (.d (.sl (List.map D.str a0.fAliases))), (.d (.sl (List.map TField.enc a0.fFields))), (.d (.sl (List.map D.str a0.fSymbols))), (.d (.bool a0.fHas)), (.d (.str a0.fDefault)), (.d (.int .i64 a0.fItems)), (.d (.sl (List.map (D.int .i64) a0.fBranches))), (.d (.int .i64 a0.fSize))]))]) (c' := 1) rfl rfl trivial rfl rfl rfl rfl rfl rfl ?_
  refine RegV.evS (own := false) (v := (.ptr 1 0)) (H' := [(1, (.cells [(.d (.str a1.fName)), (.d (.sl (List.map D.str a1.fAliases))), (.d (.int .i64 a1.fType)), (.d (.bool a1.fHas)), (.d (.str a1.fDefault))])), (0, (.cells [(.d (.int .i64 a0.fKind)), (.d (.str a0.fName)), (.d (.sl (List.map D.str a0.fAliases))), (.d (.sl (List.map TField.enc a0.fFields))), (.d (.sl (List.map D.str a0.fSymbols))), (.d (.bool a0.fHas)), (.d (.str a0.fDefault)), (.d (.int .i64 a0.fItems)), (.d (.sl (List.map (D.int .i64) a0.fBranches))), (.d (.int .i64 a0.fSize))]))]) (c' := 2) rfl rfl trivial rfl rfl rfl rfl rfl rfl ?_
  refine RegV.p0 rfl rfl rfl ?_
  refine RegV.nil0 ?_
  refine AWc.seq ?_
  refine AWc.seq ?_
  refine AWc.rg hmix rfl rfl ?_
  refine RegV.p0 (v := (.ptr 1 0)) rfl rfl rfl ?_
  refine RegV.ld (v := (.d (.str a1.fName))) (H' := [(1, (.cells [(.d (.str a1.fName)), (.d (.sl (List.map D.str a1.fAliases))), (.d (.int .i64 a1.fType)), (.d (.bool a1.fHas)), (.d (.str a1.fDefault))])), (0, (.cells [(.d (.int .i64 a0.fKind)), (.d (.str a0.fName)), (.d (.sl (List.map D.str a0.fAliases))), (.d (.sl (List.map TField.enc a0.fFields))), (.d (.sl (List.map D.str a0.fSymbols))), (.d (.bool a0.fHas)), (.d (.str a0.fDefault)), (.d (.int .i64 a0.fItems)), (.d (.sl (List.map (D.int .i64) a0.fBranches))), (.d (.int .i64 a0.fSize))]))]) rfl rfl trivial rfl rfl rfl rfl rfl ?_
  refine RegV.p1 (v := (.d (.sl (List.map D.str ([a1.fName] : List (List UInt8)))))) rfl rfl (by exact ⟨rfl, Nat.le_of_ble_eq_true rfl, mapLen (e := D.str) (xs := ([a1.fName] : List (List UInt8))) (z := 1) (fun _ => rfl)⟩) rfl rfl ?_
  refine RegV.p0 (v := (.ptr 1 1)) rfl rfl rfl ?_
  refine RegV.ld (v := (.d (.sl (List.map D.str a1.fAliases)))) (H' := [(1, (.cells [(.d (.str a1.fName)), (.d (.sl (List.map D.str a1.fAliases))), (.d (.int .i64 a1.fType)), (.d (.bool a1.fHas)), (.d (.str a1.fDefault))])), (0, (.cells [(.d (.int .i64 a0.fKind)), (.d (.str a0.fName)), (.d (.sl (List.map D.str a0.fAliases))), (.d (.sl (List.map TField.enc a0.fFields))), (.d (.sl (List.map D.str a0.fSymbols))), (.d (.bool a0.fHas)), (.d (.str a0.fDefault)), (.d (.int .i64 a0.fItems)), (.d (.sl (List.map (D.int .i64) a0.fBranches))), (.d (.int .i64 a0.fSize))]))]) rfl rfl trivial rfl rfl rfl rfl rfl ?_
  refine RegV.p1 (v := (.d (.sl (List.map (slE D.str) ([([a1.fName] : List (List UInt8)), a1.fAliases] : List (List (List UInt8))))))) rfl rfl (by exact ⟨rfl, Nat.le_of_ble_eq_true rfl, mapLen (e := (slE D.str)) (xs := ([([a1.fName] : List (List UInt8)), a1.fAliases] : List (List (List UInt8)))) (z := 1) (fun _ => rfl)⟩) rfl rfl ?_
  obtain ⟨r17, e17, h⟩ := bind_some h
  refine RegV.callS (q := false) (H' := [(2, (.tok ((List.map D.str r17).length * 1))), (1, (.cells [(.d (.str a1.fName)), (.d (.sl (List.map D.str a1.fAliases))), (.d (.int .i64 a1.fType)), (.d (.bool a1.fHas)), (.d (.str a1.fDefault))])), (0, (.cells [(.d (.int .i64 a0.fKind)), (.d (.str a0.fName)), (.d (.sl (List.map D.str a0.fAliases))), (.d (.sl (List.map TField.enc a0.fFields))), (.d (.sl (List.map D.str a0.fSymbols))), (.d (.bool a0.fHas)), (.d (.str a0.fDefault)), (.d (.int .i64 a0.fItems)), (.d (.sl (List.map (D.int .i64) a0.fBranches))), (.d (.int .i64 a0.fSize))]))]) (c' := 3) (show ACalls P (N 259) [(.d (.sl (List.map (slE D.str) ([([a1.fName] : List (List UInt8)), a1.fAliases] : List (List (List UInt8))))))] [] (.ap 2 1 (List.map D.str r17)) [(2, (.tok ((List.map D.str r17).length * 1)))] from ACalls.use (F259 hmix hc.2.1 e17) [(0, 2)] 1 rfl) rfl rfl rfl rfl (.cons (.refl _) .nil) (.refl _) (fun h => by cases h) rfl hasNil rfl rfl rfl rfl ?_
  refine RegV.len (xs := r17) (e := D.str) rfl rfl rfl rfl ?_
  refine RegV.p0 rfl rfl rfl ?_
  refine RegV.nil0 ?_
  obtain ⟨o20, h20, h⟩ := bind_some h
  refine AWc.block ?_
  refine AWc.loopK (N := 28) 2 (fun (x : Int) => [(2, (.ptr 0 0)), (14, (.ap 1 1 (List.map D.str r17))), (15, (.d (.int .i64 ((r17.length : Nat) : Int)))), (16, (.d (.int .i64 x)))]) (fun x => [(0, (.cells [(.d (.int .i64 a0.fKind)), (.d (.str a0.fName)), (.d (.sl (List.map D.str a0.fAliases))), (.d (.sl (List.map TField.enc a0.fFields))), (.d (.sl (List.map D.str a0.fSymbols))), (.d (.bool a0.fHas)), (.d (.str a0.fDefault)), (.d (.int .i64 a0.fItems)), (.d (.sl (List.map (D.int .i64) a0.fBranches))), (.d (.int .i64 a0.fSize))])), (1, (.tok ((List.map D.str r17).length * 1)))]) (fun k x => f258_l20 r17 a0 k x = some o20) k (0 : Int) rfl_le (fun x hx => by cases hx) h20 ⟨rfl, [], [(1, 2)], rfl, rfl, ⟨⟨_, rfl, (.refl _)⟩, rfl, ⟨⟨_, rfl, (.refl _)⟩, rfl, ⟨⟨_, rfl, (.refl _)⟩, rfl, ⟨⟨_, rfl, (.refl _)⟩, rfl, trivial⟩⟩⟩⟩, ⟨⟨_, rfl, (.refl _)⟩, rfl, rfl, ⟨⟨_, rfl, (.refl _)⟩, rfl, rfl, trivial⟩⟩⟩ ?_
  clear h20
  intro k
  intro y20_1 h20
  rw [f258_l20] at h20
  refine AWc.seq ?_
  refine AWc.rg hmix rfl rfl ?_
  refine RegV.p0 (v := (.d (.bool (decide (y20_1 < ((r17.length : Nat) : Int)))))) rfl rfl rfl ?_
  refine RegV.nil0 ?_
  refine AWc.seq ?_
  refine AWc.cond rfl (fun c27 => ?_) (fun c27 => ?_)
  · have h20 := cond_pos c27 h20
    refine AWc.skip ?_
    refine AWc.seq ?_
    refine AWc.block ?_
    refine AWc.seq ?_
    refine AWc.rg hmix rfl rfl ?_
    obtain ⟨b35, h20⟩ := gd_some h20
    refine RegV.iad (xs := r17) (e := D.str) rfl rfl rfl rfl (fun _ => rfl) b35 rfl ?_
    refine RegV.p0 (v := (.d (.str (rd r17 y20_1)))) rfl rfl rfl ?_
    refine RegV.evS (own := false) (v := (.ptr 2 0)) (H' := [(2, (.cells [(.d (.str ([] : List UInt8)))])), (0, (.cells [(.d (.int .i64 a0.fKind)), (.d (.str a0.fName)), (.d (.sl (List.map D.str a0.fAliases))), (.d (.sl (List.map TField.enc a0.fFields))), (.d (.sl (List.map D.str a0.fSymbols))), (.d (.bool a0.fHas)), (.d (.str a0.fDefault)), (.d (.int .i64 a0.fItems)), (.d (.sl (List.map (D.int .i64) a0.fBranches))), (.d (.int .i64 a0.fSize))])), (1, (.tok ((List.map D.str r17).length * 1)))]) (c' := 3) rfl rfl trivial rfl rfl rfl rfl rfl rfl ?_
    refine RegV.evN (own := false) (H' := [(2, (.cells [(.d (.str (rd r17 y20_1)))])), (0, (.cells [(.d (.int .i64 a0.fKind)), (.d (.str a0.fName)), (.d (.sl (List.map D.str a0.fAliases))), (.d (.sl (List.map TField.enc a0.fFields))), (.d (.sl (List.map D.str a0.fSymbols))), (.d (.bool a0.fHas)), (.d (.str a0.fDefault)), (.d (.int .i64 a0.fItems)), (.d (.sl (List.map (D.int .i64) a0.fBranches))), (.d (.int .i64 a0.fSize))])), (1, (.tok ((List.map D.str r17).length * 1)))]) (c' := 3) rfl rfl (by exact ⟨rfl, Nat.le_of_ble_eq_true rfl, rfl⟩) rfl rfl rfl rfl ?_
    refine RegV.nil0 ?_
    refine AWc.seq ?_
    refine AWc.rg hmix rfl rfl ?_
    refine RegV.p0 (v := (.ptr 0 3)) rfl rfl rfl ?_
    refine RegV.ld (v := (.d (.sl (List.map TField.enc a0.fFields)))) (H' := [(0, (.cells [(.d (.int .i64 a0.fKind)), (.d (.str a0.fName)), (.d (.sl (List.map D.str a0.fAliases))), (.d (.sl (List.map TField.enc a0.fFields))), (.d (.sl (List.map D.str a0.fSymbols))), (.d (.bool a0.fHas)), (.d (.str a0.fDefault)), (.d (.int .i64 a0.fItems)), (.d (.sl (List.map (D.int .i64) a0.fBranches))), (.d (.int .i64 a0.fSize))])), (2, (.cells [(.d (.str (rd r17 y20_1)))])), (1, (.tok ((List.map D.str r17).length * 1)))]) rfl rfl trivial rfl rfl rfl rfl rfl ?_
    refine RegV.p0 (v := (.fn (N 291) [(.ptr 2 0)])) rfl rfl rfl ?_
    obtain ⟨r45, e45, h20⟩ := bind_some h20
    refine RegV.callS (q := true) (H' := [(2, (.cells [(.d (.str (rd r17 y20_1)))])), (0, (.cells [(.d (.int .i64 a0.fKind)), (.d (.str a0.fName)), (.d (.sl (List.map D.str a0.fAliases))), (.d (.sl (List.map TField.enc a0.fFields))), (.d (.sl (List.map D.str a0.fSymbols))), (.d (.bool a0.fHas)), (.d (.str a0.fDefault)), (.d (.int .i64 a0.fItems)), (.d (.sl (List.map (D.int .i64) a0.fBranches))), (.d (.int .i64 a0.fSize))])), (1, (.tok ((List.map D.str r17).length * 1)))]) (c' := 3) (show ACalls P (N 290) [(.d (.sl (List.map TField.enc a0.fFields))), (.fn (N 291) [(.ptr 2 0)])] [(2, (.cells [(.d (.str (rd r17 y20_1)))]))] (.d (.int .i64 r45)) [(2, (.cells [(.d (.str (rd r17 y20_1)))]))] from ACalls.use (F290 hmix hc.2.2 e45) [(0, 2)] 1 rfl) rfl rfl rfl rfl (.cons (.refl _) (.cons (.refl _) .nil)) (.refl _) (fun _ => rfl) rfl (hasCons rfl hasNil) rfl rfl rfl rfl ?_
    refine RegV.p0 rfl rfl rfl ?_
    refine RegV.nil0 ?_
    refine AWc.seq ?_
    refine AWc.rg hmix rfl rfl ?_
    refine RegV.p0 rfl rfl rfl ?_
    refine RegV.p0 (v := (.d (.bool (decide (r45 ≥ (0 : Int)))))) rfl rfl rfl ?_
    refine RegV.nil0 ?_
    refine AWc.cond rfl (fun c52 => ?_) (fun c52 => ?_)
    · have h20 := cond_pos c52 h20
      refine AWc.seq ?_
      refine AWc.rg hmix rfl rfl ?_
      refine RegV.p0 rfl rfl rfl ?_
      refine RegV.p0 rfl rfl rfl ?_
      refine RegV.nil0 ?_
      cases h20
      dsimp only at h
      have hr := Option.some.inj h
      subst hr
      exact AWc.ret (canQ (N := 28) (k := 0) (l' := [(4, (.d (.int .i64 r45)))]) (H' := []) rfl ⟨rfl, [], [], rfl, rfl, ⟨⟨_, rfl, (.refl _)⟩, rfl, trivial⟩,  trivial⟩ (doneA (.inr rfl) rfl ⟨trivial, trivial⟩ (.refl _) hasNil))
    · have h20 := cond_neg c52 h20
      refine AWc.skip ?_
      refine AWc.rg hmix rfl rfl ?_
      refine RegV.p0 (v := (.d (.int .i64 (IntKind.i64.wrap (y20_1 + (1 : Int)))))) rfl rfl rfl ?_
      refine RegV.p0 rfl rfl rfl ?_
      refine RegV.nil0 ?_
      exact ⟨(IntKind.i64.wrap (y20_1 + (1 : Int))), h20, ⟨rfl, [], [], rfl, rfl, ⟨⟨_, rfl, (.refl _)⟩, rfl, ⟨⟨_, rfl, (.refl _)⟩, rfl, ⟨⟨_, rfl, (.refl _)⟩, rfl, ⟨⟨_, rfl, (.refl _)⟩, rfl, trivial⟩⟩⟩⟩, ⟨⟨_, rfl, (.refl _)⟩, rfl, rfl, ⟨⟨_, rfl, (.refl _)⟩, rfl, rfl, trivial⟩⟩⟩⟩
  · have h20 := cond_neg c27 h20
    cases h20
    dsimp only at h
    refine AWc.exit ?_
    refine inBlk_eq ?_
    refine AWc.seq ?_
    refine AWc.rg hmix rfl rfl ?_
    refine RegV.p0 rfl rfl rfl ?_
    refine RegV.nil0 ?_
    have hr := Option.some.inj h
    subst hr
    exact AWc.ret (canQ (N := 28) (k := 0) (l' := [(4, (.d (.int .i64 (-1 : Int))))]) (H' := []) rfl ⟨rfl, [], [], rfl, rfl, ⟨⟨_, rfl, (.refl _)⟩, rfl, trivial⟩,  trivial⟩ (doneA (.inr rfl) rfl ⟨trivial, trivial⟩ (.refl _) hasNil))
/-- courant/courantref09.named -/
def C293 (N : Nat → Nat) : AFunc := { n := 22, params := 2, res := [.tmp 4], body :=
 (.seq (.region false [⟨(some 2), .box (.t 0), none, []⟩,
   ⟨(some 4), .mv (.k (.d (.int .i64 0))), none, []⟩])
  (.seq (.seq (.region false [⟨(some 5), .mv (.k (.d (.int .i64 0))), none, []⟩])
    (.block 0 (.loop (.seq (.seq (.region false [⟨(some 6), .mv (.t 5), none, []⟩,
         ⟨(some 7), .faddr (.t 2) 3, none, []⟩,
         ⟨(some 8), .load (.t 7) 1 false, none, [1]⟩,
         ⟨(some 9), .len (.t 8), none, [2]⟩,
         ⟨(some 10), .bin .lss (.t 6) (.t 9), none, [0, 3]⟩])
        (.cond (.t 10) (.skip)
         (.exit 0)))
       (.seq (.block 1 (.seq (.region false [⟨(some 13), .faddr (.t 2) 3, none, []⟩,
           ⟨(some 14), .load (.t 13) 1 false, none, [0]⟩,
           ⟨(some 15), .mv (.t 5), none, []⟩,
           ⟨(some 16), .iaddr (.t 14) (.t 15) 5, none, [1, 2]⟩,
           ⟨(some 17), .faddr (.t 16) 0, none, [3]⟩,
           ⟨(some 18), .load (.t 17) 1 false, none, [4]⟩,
           ⟨(some 19), .mv (.t 1), none, []⟩,
           ⟨(some 20), .bin .eql (.t 18) (.t 19), none, [5, 6]⟩])
          (.cond (.t 20) (.seq (.region false [⟨(some 21), .mv (.t 5), none, []⟩,
             ⟨(some 4), .mv (.t 21), none, [0]⟩])
            .ret)
           (.skip))))
        (.region false [⟨(some 11), .mv (.t 5), none, []⟩,
         ⟨(some 12), .bin .add (.t 11) (.k (.d (.int .i64 1))), none, [0]⟩,
         ⟨(some 5), .mv (.t 12), none, [1, 0]⟩]))))))
   (.seq (.region false [⟨(some 4), .mv (.k (.d (.int .i64 (-1)))), none, []⟩])
    .ret))) }
def HC293 (P : Program) (N : Nat → Nat) : Prop := HasF P (N 293) (C293 N)
def f293_l11 (a0 : TNode) (a1 : (List UInt8)) : Nat → Int → Option (LR2 Unit Unit Int)
  | 0, _ => none
  | k + 1, y11_1 => cond (decide (y11_1 < ((a0.fFields.length : Nat) : Int))) (gd (0 ≤ y11_1 ∧ y11_1 < ((a0.fFields.length : Nat) : Int)) (cond (decide ((rd a0.fFields y11_1).fName = a1)) (some (.r y11_1)) (f293_l11 a0 a1 k (IntKind.i64.wrap (y11_1 + (1 : Int)))))) (some (.b0 ()))
def f293 (k : Nat) (a0 : TNode) (a1 : (List UInt8)) : Option Int := (f293_l11 a0 a1 k (0 : Int)).bind fun o11 => match o11 with | .b0 () => some (-1 : Int) | .r x => some x | _ => none
theorem F293 {P : Program} {N : Nat → Nat} (hmix : P.follows .mixedOrders = true) (hc : HC293 P N) {k : Nat} {a0 : TNode} {a1 : (List UInt8)} {r : Int} (h : f293 k a0 a1 = some r) :
    ACalls P (N 293) [(.d (TNode.enc a0)), (.d (.str a1))] [] (.d (.int .i64 r)) [] := by
  refine acalls_canon (F := C293 N) hc 0 0 rfl ?_
  unfold f293 at h
  dsimp only [C293, startL]
  refine AWc.seq ?_
  refine AWc.rg hmix rfl rfl ?_
  refine RegV.evS (own := false) (v := (.ptr 0 0)) (H' := [(0, (.cells [(.d (.int .i64 a0.fKind)), (.d (.str a0.fName)), (.d (.sl (List.map D.str a0.fAliases))), (.d (.sl (List.map TField.enc a0.fFields))), (.d (.sl (List.map D.str a0.fSymbols))), (.d (.bool a0.fHas)), (.d (.str a0.fDefault)), (.d (.int .i64 a0.fItems)), (.d (.sl (List.map (D.int .i64) a0.fBranches))), (.d (.int .i64 a0.fSize))]))]) (c' := 1) rfl rfl trivial rfl rfl rfl rfl rfl rfl ?_
  refine RegV.p0 rfl rfl rfl ?_
  refine RegV.nil0 ?_
  refine AWc.seq ?_
  refine AWc.seq ?_
  refine AWc.rg hmix rfl rfl ?_
  refine RegV.p0 rfl rfl rfl ?_
  refine RegV.nil0 ?_
  obtain ⟨o11, h11, h⟩ := bind_some h
  refine AWc.block ?_
  refine AWc.loopK (N := 22) 1 (fun (x : Int) => [(1, (.d (.str a1))), (2, (.ptr 0 0)), (5, (.d (.int .i64 x)))]) (fun x => [(0, (.cells [(.d (.int .i64 a0.fKind)), (.d (.str a0.fName)), (.d (.sl (List.map D.str a0.fAliases))), (.d (.sl (List.map TField.enc a0.fFields))), (.d (.sl (List.map D.str a0.fSymbols))), (.d (.bool a0.fHas)), (.d (.str a0.fDefault)), (.d (.int .i64 a0.fItems)), (.d (.sl (List.map (D.int .i64) a0.fBranches))), (.d (.int .i64 a0.fSize))]))]) (fun k x => f293_l11 a0 a1 k x = some o11) k (0 : Int) rfl_le (fun x hx => by cases hx) h11 ⟨rfl, [], [], rfl, rfl, ⟨⟨_, rfl, (.refl _)⟩, rfl, ⟨⟨_, rfl, (.refl _)⟩, rfl, ⟨⟨_, rfl, (.refl _)⟩, rfl, trivial⟩⟩⟩, ⟨⟨_, rfl, (.refl _)⟩, rfl, rfl, trivial⟩⟩ ?_
  clear h11
  intro k
  intro y11_1 h11
  rw [f293_l11] at h11
  refine AWc.seq ?_
  refine AWc.seq ?_
  refine AWc.rg hmix rfl rfl ?_
  refine RegV.p0 rfl rfl rfl ?_
  refine RegV.p0 (v := (.ptr 0 3)) rfl rfl rfl ?_
  refine RegV.ld (v := (.d (.sl (List.map TField.enc a0.fFields)))) (H' := [(0, (.cells [(.d (.int .i64 a0.fKind)), (.d (.str a0.fName)), (.d (.sl (List.map D.str a0.fAliases))), (.d (.sl (List.map TField.enc a0.fFields))), (.d (.sl (List.map D.str a0.fSymbols))), (.d (.bool a0.fHas)), (.d (.str a0.fDefault)), (.d (.int .i64 a0.fItems)), (.d (.sl (List.map (D.int .i64) a0.fBranches))), (.d (.int .i64 a0.fSize))]))]) rfl rfl trivial rfl rfl rfl rfl rfl ?_
  refine RegV.len (xs := a0.fFields) (e := TField.enc) rfl rfl rfl rfl ?_
  refine RegV.p0 (v := (.d (.bool (decide (y11_1 < ((a0.fFields.length : Nat) : Int)))))) rfl rfl rfl ?_
  refine RegV.nil0 ?_
  refine AWc.cond rfl (fun c22 => ?_) (fun c22 => ?_)
  · have h11 := cond_pos c22 h11
    refine AWc.skip ?_
    refine AWc.seq ?_
    refine AWc.block ?_
    refine AWc.seq ?_
    refine AWc.rg hmix rfl rfl ?_
    refine RegV.p0 (v := (.ptr 0 3)) rfl rfl rfl ?_
    refine RegV.ld (v := (.d (.sl (List.map TField.enc a0.fFields)))) (H' := [(0, (.cells [(.d (.int .i64 a0.fKind)), (.d (.str a0.fName)), (.d (.sl (List.map D.str a0.fAliases))), (.d (.sl (List.map TField.enc a0.fFields))), (.d (.sl (List.map D.str a0.fSymbols))), (.d (.bool a0.fHas)), (.d (.str a0.fDefault)), (.d (.int .i64 a0.fItems)), (.d (.sl (List.map (D.int .i64) a0.fBranches))), (.d (.int .i64 a0.fSize))]))]) rfl rfl trivial rfl rfl rfl rfl rfl ?_
    refine RegV.p0 rfl rfl rfl ?_
    obtain ⟨b33, h11⟩ := gd_some h11
    refine RegV.iad (xs := a0.fFields) (e := TField.enc) rfl rfl rfl rfl (fun _ => rfl) b33 rfl ?_
    refine RegV.p0 (v := (.cp (TField.enc (rd a0.fFields y11_1)) 0)) rfl rfl rfl ?_
    refine RegV.p0 (v := (.d (.str (rd a0.fFields y11_1).fName))) rfl rfl rfl ?_
    refine RegV.p0 rfl rfl rfl ?_
    refine RegV.p0 (v := (.d (.bool (decide ((rd a0.fFields y11_1).fName = a1))))) rfl rfl rfl ?_
    refine RegV.nil0 ?_
    refine AWc.cond rfl (fun c38 => ?_) (fun c38 => ?_)
    · have h11 := cond_pos c38 h11
      refine AWc.seq ?_
      refine AWc.rg hmix rfl rfl ?_
      refine RegV.p0 rfl rfl rfl ?_
      refine RegV.p0 rfl rfl rfl ?_
      refine RegV.nil0 ?_
      cases h11
      dsimp only at h
      have hr := Option.some.inj h
      subst hr
      exact AWc.ret (canQ (N := 22) (k := 0) (l' := [(4, (.d (.int .i64 y11_1)))]) (H' := []) rfl ⟨rfl, [], [], rfl, rfl, ⟨⟨_, rfl, (.refl _)⟩, rfl, trivial⟩,  trivial⟩ (doneA (.inr rfl) rfl ⟨trivial, trivial⟩ (.refl _) hasNil))
    · have h11 := cond_neg c38 h11
      refine AWc.skip ?_
      refine AWc.rg hmix rfl rfl ?_
      refine RegV.p0 rfl rfl rfl ?_
      refine RegV.p0 (v := (.d (.int .i64 (IntKind.i64.wrap (y11_1 + (1 : Int)))))) rfl rfl rfl ?_
      refine RegV.p0 rfl rfl rfl ?_
      refine RegV.nil0 ?_
      exact ⟨(IntKind.i64.wrap (y11_1 + (1 : Int))), h11, ⟨rfl, [], [], rfl, rfl, ⟨⟨_, rfl, (.refl _)⟩, rfl, ⟨⟨_, rfl, (.refl _)⟩, rfl, ⟨⟨_, rfl, (.refl _)⟩, rfl, trivial⟩⟩⟩, ⟨⟨_, rfl, (.refl _)⟩, rfl, rfl, trivial⟩⟩⟩
  · have h11 := cond_neg c22 h11
    cases h11
    dsimp only at h
    refine AWc.exit ?_
    refine inBlk_eq ?_
    refine AWc.seq ?_
    refine AWc.rg hmix rfl rfl ?_
    refine RegV.p0 rfl rfl rfl ?_
    refine RegV.nil0 ?_
    have hr := Option.some.inj h
    subst hr
    exact AWc.ret (canQ (N := 22) (k := 0) (l' := [(4, (.d (.int .i64 (-1 : Int))))]) (H' := []) rfl ⟨rfl, [], [], rfl, rfl, ⟨⟨_, rfl, (.refl _)⟩, rfl, trivial⟩,  trivial⟩ (doneA (.inr rfl) rfl ⟨trivial, trivial⟩ (.refl _) hasNil))
/-- courant/courantref09.Field -/
def C292 (N : Nat → Nat) : AFunc := { n := 30, params := 2, res := [.tmp 4], body :=
 (.seq (.region false [⟨(some 2), .box (.t 0), none, []⟩,
   ⟨(some 3), .box (.t 1), none, []⟩,
   ⟨(some 4), .mv (.k (.d (.int .i64 0))), none, []⟩])
  (.seq (.region false [⟨(some 7), .load (.t 2) 10 true, none, []⟩,
    ⟨(some 8), .faddr (.t 3) 0, none, []⟩,
    ⟨(some 9), .load (.t 8) 1 false, none, [1]⟩,
    ⟨(some 10), .call (.k (.d (.fn (N 293)))) [(.t 7), (.t 9)], none, [0, 2]⟩,
    ⟨(some 5), .mv (.t 10), none, [3, 0, 1, 2]⟩])
   (.seq (.seq (.region false [⟨(some 6), .mv (.k (.d (.int .i64 0))), none, []⟩])
     (.block 0 (.loop (.seq (.seq (.region false [⟨(some 11), .mv (.t 6), none, []⟩,
          ⟨(some 12), .faddr (.t 3) 1, none, []⟩,
          ⟨(some 13), .load (.t 12) 1 false, none, [1]⟩,
          ⟨(some 14), .len (.t 13), none, [2]⟩,
          ⟨(some 15), .bin .lss (.t 11) (.t 14), none, [0, 3]⟩,
          ⟨(some 16), .mv (.t 15), none, [4]⟩,
          ⟨(some 17), .mv (.t 5), (some (16, true)), [5]⟩,
          ⟨(some 18), .bin .lss (.t 17) (.k (.d (.int .i64 0))), (some (16, true)), [6, 5]⟩,
          ⟨(some 19), .pick (.t 16) (.t 18) (.k (.d (.bool false))), none, [5, 7]⟩])
         (.cond (.t 19) (.skip)
          (.exit 0)))
        (.seq (.block 1 (.region true [⟨(some 22), .load (.t 2) 10 true, none, []⟩,
           ⟨(some 23), .faddr (.t 3) 1, none, []⟩,
           ⟨(some 24), .load (.t 23) 1 false, none, [1]⟩,
           ⟨(some 25), .mv (.t 6), none, []⟩,
           ⟨(some 26), .iaddr (.t 24) (.t 25) 1, none, [2, 3]⟩,
           ⟨(some 27), .load (.t 26) 1 false, none, [4]⟩,
           ⟨(some 28), .call (.k (.d (.fn (N 293)))) [(.t 22), (.t 27)], none, [0, 5]⟩,
           ⟨(some 5), .mv (.t 28), none, [6, 0, 1, 2, 3, 4, 5]⟩]))
         (.region false [⟨(some 20), .mv (.t 6), none, []⟩,
          ⟨(some 21), .bin .add (.t 20) (.k (.d (.int .i64 1))), none, [0]⟩,
          ⟨(some 6), .mv (.t 21), none, [1, 0]⟩]))))))
    (.seq (.region false [⟨(some 29), .mv (.t 5), none, []⟩,
      ⟨(some 4), .mv (.t 29), none, [0]⟩])
     .ret)))) }
def HC292 (P : Program) (N : Nat → Nat) : Prop := HasF P (N 292) (C292 N) ∧ HC293 P N
def f292_l20 (a1 : TField) (a0 : TNode) : Nat → Int → Int → Option (LR2 Int Unit Int)
  | 0, _, _ => none
  | k + 1, y20_1, y20_2 => cond (decide (y20_2 < ((a1.fAliases.length : Nat) : Int))) (cond (decide (y20_1 < (0 : Int))) (gd (0 ≤ y20_2 ∧ y20_2 < ((a1.fAliases.length : Nat) : Int)) ((f293 k (TNode.mk a0.fKind a0.fName a0.fAliases a0.fFields a0.fSymbols a0.fHas a0.fDefault a0.fItems a0.fBranches a0.fSize) (rd a1.fAliases y20_2)).bind fun r48 => f292_l20 a1 a0 k r48 (IntKind.i64.wrap (y20_2 + (1 : Int))))) (some (.b0 y20_1))) (some (.b0 y20_1))
def f292 (k : Nat) (a0 : TNode) (a1 : TField) : Option Int := (f293 k (TNode.mk a0.fKind a0.fName a0.fAliases a0.fFields a0.fSymbols a0.fHas a0.fDefault a0.fItems a0.fBranches a0.fSize) a1.fName).bind fun r13 => (f292_l20 a1 a0 k r13 (0 : Int)).bind fun o20 => match o20 with | .b0 x20_1 => some x20_1 | _ => none
theorem F292 {P : Program} {N : Nat → Nat} (hmix : P.follows .mixedOrders = true) (hc : HC292 P N) {k : Nat} {a0 : TNode} {a1 : TField} {r : Int} (h : f292 k a0 a1 = some r) :
    ACalls P (N 292) [(.d (TNode.enc a0)), (.d (TField.enc a1))] [] (.d (.int .i64 r)) [] := by
  refine acalls_canon (F := C292 N) hc.1 0 0 rfl ?_
  unfold f292 at h
  dsimp only [C292, startL]
  refine AWc.seq ?_
  refine AWc.rg hmix rfl rfl ?_
  refine RegV.evS (own := false) (v := (.ptr 0 0)) (H' := [(0, (.cells [(.d (.int .i64 a0.fKind)), (.d (.str a0.fName)), (.d (.sl (List.map D.str a0.fAliases))), (.d (.sl (List.map TField.enc a0.fFields))), (.d (.sl (List.map D.str a0.fSymbols))), (.d (.bool a0.fHas)), (.d (.str a0.fDefault)), (.d (.int .i64 a0.fItems)), (.d (.sl (List.map (D.int .i64) a0.fBranches))), (.d (.int .i64 a0.fSize))]))]) (c' := 1) rfl rfl trivial rfl rfl rfl rfl rfl rfl ?_
  refine RegV.evS (own := false) (v := (.ptr 1 0)) (H' := [(1, (.cells [(.d (.str a1.fName)), (.d (.sl (List.map D.str a1.fAliases))), (.d (.int .i64 a1.fType)), (.d (.bool a1.fHas)), (.d (.str a1.fDefault))])), (0, (.cells [(.d (.int .i64 a0.fKind)), (.d (.str a0.fName)), (.d (.sl (List.map D.str a0.fAliases))), (.d (.sl (List.map TField.enc a0.fFields))), (.d (.sl (List.map D.str a0.fSymbols))), (.d (.bool a0.fHas)), (.d (.str a0.fDefault)), (.d (.int .i64 a0.fItems)), (.d (.sl (List.map (D.int .i64) a0.fBranches))), (.d (.int .i64 a0.fSize))]))]) (c' := 2) rfl rfl trivial rfl rfl rfl rfl rfl rfl ?_
  refine RegV.p0 rfl rfl rfl ?_
  refine RegV.nil0 ?_
  refine AWc.seq ?_
  refine AWc.rg hmix rfl rfl ?_
  refine RegV.ld (v := (.d (.agg [(.int .i64 a0.fKind), (.str a0.fName), (.sl (List.map D.str a0.fAliases)), (.sl (List.map TField.enc a0.fFields)), (.sl (List.map D.str a0.fSymbols)), (.bool a0.fHas), (.str a0.fDefault), (.int .i64 a0.fItems), (.sl (List.map (D.int .i64) a0.fBranches)), (.int .i64 a0.fSize)]))) (H' := [(0, (.cells [(.d (.int .i64 a0.fKind)), (.d (.str a0.fName)), (.d (.sl (List.map D.str a0.fAliases))), (.d (.sl (List.map TField.enc a0.fFields))), (.d (.sl (List.map D.str a0.fSymbols))), (.d (.bool a0.fHas)), (.d (.str a0.fDefault)), (.d (.int .i64 a0.fItems)), (.d (.sl (List.map (D.int .i64) a0.fBranches))), (.d (.int .i64 a0.fSize))])), (1, (.cells [(.d (.str a1.fName)), (.d (.sl (List.map D.str a1.fAliases))), (.d (.int .i64 a1.fType)), (.d (.bool a1.fHas)), (.d (.str a1.fDefault))]))]) rfl rfl (Nat.le_of_ble_eq_true rfl) rfl rfl rfl rfl rfl ?_
  refine RegV.p0 (v := (.ptr 1 0)) rfl rfl rfl ?_
  refine RegV.ld (v := (.d (.str a1.fName))) (H' := [(1, (.cells [(.d (.str a1.fName)), (.d (.sl (List.map D.str a1.fAliases))), (.d (.int .i64 a1.fType)), (.d (.bool a1.fHas)), (.d (.str a1.fDefault))])), (0, (.cells [(.d (.int .i64 a0.fKind)), (.d (.str a0.fName)), (.d (.sl (List.map D.str a0.fAliases))), (.d (.sl (List.map TField.enc a0.fFields))), (.d (.sl (List.map D.str a0.fSymbols))), (.d (.bool a0.fHas)), (.d (.str a0.fDefault)), (.d (.int .i64 a0.fItems)), (.d (.sl (List.map (D.int .i64) a0.fBranches))), (.d (.int .i64 a0.fSize))]))]) rfl rfl trivial rfl rfl rfl rfl rfl ?_
  obtain ⟨r13, e13, h⟩ := bind_some h
  refine RegV.call0 (F293 hmix hc.2 e13) rfl rfl rfl rfl (.cons (.refl _) (.cons (.refl _) .nil)) rfl ?_
  refine RegV.p0 rfl rfl rfl ?_
  refine RegV.nil0 ?_
  refine AWc.seq ?_
  refine AWc.seq ?_
  refine AWc.rg hmix rfl rfl ?_
  refine RegV.p0 rfl rfl rfl ?_
  refine RegV.nil0 ?_
  obtain ⟨o20, h20, h⟩ := bind_some h
  refine AWc.block ?_
  refine AWc.loopK (N := 30) 2 (fun (x : (Int × Int)) => [(2, (.ptr 0 0)), (3, (.ptr 1 0)), (5, (.d (.int .i64 x.1))), (6, (.d (.int .i64 x.2)))]) (fun x => [(0, (.cells [(.d (.int .i64 a0.fKind)), (.d (.str a0.fName)), (.d (.sl (List.map D.str a0.fAliases))), (.d (.sl (List.map TField.enc a0.fFields))), (.d (.sl (List.map D.str a0.fSymbols))), (.d (.bool a0.fHas)), (.d (.str a0.fDefault)), (.d (.int .i64 a0.fItems)), (.d (.sl (List.map (D.int .i64) a0.fBranches))), (.d (.int .i64 a0.fSize))])), (1, (.cells [(.d (.str a1.fName)), (.d (.sl (List.map D.str a1.fAliases))), (.d (.int .i64 a1.fType)), (.d (.bool a1.fHas)), (.d (.str a1.fDefault))]))]) (fun k x => f292_l20 a1 a0 k x.1 x.2 = some o20) k (r13, (0 : Int)) rfl_le (fun x hx => by cases hx) h20 ⟨rfl, [], [], rfl, rfl, ⟨⟨_, rfl, (.refl _)⟩, rfl, ⟨⟨_, rfl, (.refl _)⟩, rfl, ⟨⟨_, rfl, (.refl _)⟩, rfl, ⟨⟨_, rfl, (.refl _)⟩, rfl, trivial⟩⟩⟩⟩, ⟨⟨_, rfl, (.refl _)⟩, rfl, rfl, ⟨⟨_, rfl, (.refl _)⟩, rfl, rfl, trivial⟩⟩⟩ ?_
  clear h20
  intro k
  rintro ⟨y20_1, y20_2⟩ h20
  dsimp only at h20 ⊢
  rw [f292_l20] at h20
  refine AWc.seq ?_
  refine AWc.seq ?_
  refine AWc.rg hmix rfl rfl ?_
  refine RegV.p0 rfl rfl rfl ?_
  refine RegV.p0 (v := (.ptr 1 1)) rfl rfl rfl ?_
  refine RegV.ld (v := (.d (.sl (List.map D.str a1.fAliases)))) (H' := [(1, (.cells [(.d (.str a1.fName)), (.d (.sl (List.map D.str a1.fAliases))), (.d (.int .i64 a1.fType)), (.d (.bool a1.fHas)), (.d (.str a1.fDefault))])), (0, (.cells [(.d (.int .i64 a0.fKind)), (.d (.str a0.fName)), (.d (.sl (List.map D.str a0.fAliases))), (.d (.sl (List.map TField.enc a0.fFields))), (.d (.sl (List.map D.str a0.fSymbols))), (.d (.bool a0.fHas)), (.d (.str a0.fDefault)), (.d (.int .i64 a0.fItems)), (.d (.sl (List.map (D.int .i64) a0.fBranches))), (.d (.int .i64 a0.fSize))]))]) rfl rfl trivial rfl rfl rfl rfl rfl ?_
  refine RegV.len (xs := a1.fAliases) (e := D.str) rfl rfl rfl rfl ?_
  refine RegV.p0 (v := (.d (.bool (decide (y20_2 < ((a1.fAliases.length : Nat) : Int)))))) rfl rfl rfl ?_
  refine RegV.p0 rfl rfl rfl ?_
  refine RegV.split (fun c31 => ?_) (fun c31 => ?_)
  · have h20 := cond_pos c31 h20
    refine RegV.p0 rfl rfl rfl ?_
    refine RegV.p0 (v := (.d (.bool (decide (y20_1 < (0 : Int)))))) rfl rfl rfl ?_
    refine RegV.p0 rfl rfl rfl ?_
    refine RegV.nil0 ?_
    refine AWc.cond rfl (fun c35 => ?_) (fun c35 => ?_)
    · have h20 := cond_pos c35 h20
      refine AWc.skip ?_
      refine AWc.seq ?_
      refine AWc.block ?_
      refine AWc.rg hmix rfl rfl ?_
      refine RegV.ld (v := (.d (.agg [(.int .i64 a0.fKind), (.str a0.fName), (.sl (List.map D.str a0.fAliases)), (.sl (List.map TField.enc a0.fFields)), (.sl (List.map D.str a0.fSymbols)), (.bool a0.fHas), (.str a0.fDefault), (.int .i64 a0.fItems), (.sl (List.map (D.int .i64) a0.fBranches)), (.int .i64 a0.fSize)]))) (H' := [(0, (.cells [(.d (.int .i64 a0.fKind)), (.d (.str a0.fName)), (.d (.sl (List.map D.str a0.fAliases))), (.d (.sl (List.map TField.enc a0.fFields))), (.d (.sl (List.map D.str a0.fSymbols))), (.d (.bool a0.fHas)), (.d (.str a0.fDefault)), (.d (.int .i64 a0.fItems)), (.d (.sl (List.map (D.int .i64) a0.fBranches))), (.d (.int .i64 a0.fSize))])), (1, (.cells [(.d (.str a1.fName)), (.d (.sl (List.map D.str a1.fAliases))), (.d (.int .i64 a1.fType)), (.d (.bool a1.fHas)), (.d (.str a1.fDefault))]))]) rfl rfl (Nat.le_of_ble_eq_true rfl) rfl rfl rfl rfl rfl ?_
      refine RegV.p0 (v := (.ptr 1 1)) rfl rfl rfl ?_
      refine RegV.ld (v := (.d (.sl (List.map D.str a1.fAliases)))) (H' := [(1, (.cells [(.d (.str a1.fName)), (.d (.sl (List.map D.str a1.fAliases))), (.d (.int .i64 a1.fType)), (.d (.bool a1.fHas)), (.d (.str a1.fDefault))])), (0, (.cells [(.d (.int .i64 a0.fKind)), (.d (.str a0.fName)), (.d (.sl (List.map D.str a0.fAliases))), (.d (.sl (List.map TField.enc a0.fFields))), (.d (.sl (List.map D.str a0.fSymbols))), (.d (.bool a0.fHas)), (.d (.str a0.fDefault)), (.d (.int .i64 a0.fItems)), (.d (.sl (List.map (D.int .i64) a0.fBranches))), (.d (.int .i64 a0.fSize))]))]) rfl rfl trivial rfl rfl rfl rfl rfl ?_
      refine RegV.p0 rfl rfl rfl ?_
      obtain ⟨b46, h20⟩ := gd_some h20
      refine RegV.iad (xs := a1.fAliases) (e := D.str) rfl rfl rfl rfl (fun _ => rfl) b46 rfl ?_
      refine RegV.p0 (v := (.d (.str (rd a1.fAliases y20_2)))) rfl rfl rfl ?_
      obtain ⟨r48, e48, h20⟩ := bind_some h20
      refine RegV.call0 (F293 hmix hc.2 e48) rfl rfl rfl rfl (.cons (.refl _) (.cons (.refl _) .nil)) rfl ?_
      refine RegV.p0 rfl rfl rfl ?_
      refine RegV.nil1 (by kernel_rfl) ?_
      refine AWc.rg hmix rfl rfl ?_
      refine RegV.p0 rfl rfl rfl ?_
      refine RegV.p0 (v := (.d (.int .i64 (IntKind.i64.wrap (y20_2 + (1 : Int)))))) rfl rfl rfl ?_
      refine RegV.p0 rfl rfl rfl ?_
      refine RegV.nil0 ?_
      exact ⟨(r48, (IntKind.i64.wrap (y20_2 + (1 : Int)))), h20, ⟨rfl, [], [], rfl, rfl, ⟨⟨_, rfl, (.refl _)⟩, rfl, ⟨⟨_, rfl, (.refl _)⟩, rfl, ⟨⟨_, rfl, (.refl _)⟩, rfl, ⟨⟨_, rfl, (.refl _)⟩, rfl, trivial⟩⟩⟩⟩, ⟨⟨_, rfl, (.refl _)⟩, rfl, rfl, ⟨⟨_, rfl, (.refl _)⟩, rfl, rfl, trivial⟩⟩⟩⟩
    · have h20 := cond_neg c35 h20
      cases h20
      dsimp only at h
      refine AWc.exit ?_
      refine inBlk_eq ?_
      refine AWc.seq ?_
      refine AWc.rg hmix rfl rfl ?_
      refine RegV.p0 rfl rfl rfl ?_
      refine RegV.p0 rfl rfl rfl ?_
      refine RegV.nil0 ?_
      have hr := Option.some.inj h
      subst hr
      exact AWc.ret (canQ (N := 30) (k := 0) (l' := [(4, (.d (.int .i64 y20_1)))]) (H' := []) rfl ⟨rfl, [], [], rfl, rfl, ⟨⟨_, rfl, (.refl _)⟩, rfl, trivial⟩,  trivial⟩ (doneA (.inr rfl) rfl ⟨trivial, trivial⟩ (.refl _) hasNil))
  · have h20 := cond_neg c31 h20
    refine RegV.noS rfl rfl ?_
    refine RegV.noS rfl rfl ?_
    refine RegV.p0 rfl rfl rfl ?_
    refine RegV.nil0 ?_
    refine AWc.cond rfl (fun hc => by cases hc) (fun _ => ?_)
    cases h20
    dsimp only at h
    refine AWc.exit ?_
    refine inBlk_eq ?_
    refine AWc.seq ?_
    refine AWc.rg hmix rfl rfl ?_
    refine RegV.p0 rfl rfl rfl ?_
    refine RegV.p0 rfl rfl rfl ?_
    refine RegV.nil0 ?_
    have hr := Option.some.inj h
    subst hr
    exact AWc.ret (canQ (N := 30) (k := 0) (l' := [(4, (.d (.int .i64 y20_1)))]) (H' := []) rfl ⟨rfl, [], [], rfl, rfl, ⟨⟨_, rfl, (.refl _)⟩, rfl, trivial⟩,  trivial⟩ (doneA (.inr rfl) rfl ⟨trivial, trivial⟩ (.refl _) hasNil))
/-- courant/courantlaw09.MatchNames -/
def C254 (N : Nat → Nat) : AFunc := { n := 43, params := 3, res := [.tmp 6], body :=
 (.seq (.region false [⟨(some 3), .box (.t 0), none, []⟩,
   ⟨(some 4), .box (.t 1), none, []⟩,
   ⟨(some 5), .box (.t 2), none, []⟩,
   ⟨(some 6), .mv (.k (.d (.bool false))), none, []⟩])
  (.seq (.seq (.region false [⟨(some 7), .faddr (.t 3) 3, none, []⟩,
     ⟨(some 8), .load (.t 7) 1 false, none, [0]⟩,
     ⟨(some 9), .len (.t 8), none, [1]⟩,
     ⟨(some 10), .bin .gtr (.t 9) (.k (.d (.int .i64 100))), none, [2]⟩,
     ⟨(some 11), .mv (.t 10), none, [3]⟩,
     ⟨(some 12), .faddr (.t 5) 1, (some (11, false)), [4]⟩,
     ⟨(some 13), .load (.t 12) 1 false, (some (11, false)), [5, 4]⟩,
     ⟨(some 14), .len (.t 13), (some (11, false)), [6, 4]⟩,
     ⟨(some 15), .bin .gtr (.t 14) (.k (.d (.int .i64 100))), (some (11, false)), [7, 4]⟩,
     ⟨(some 16), .pick (.t 11) (.k (.d (.bool true))) (.t 15), none, [4, 8]⟩,
     ⟨(some 17), .mv (.t 16), none, [9, 4]⟩,
     ⟨(some 18), .faddr (.t 4) 2, (some (17, false)), [10]⟩,
     ⟨(some 19), .load (.t 18) 1 false, (some (17, false)), [11, 10]⟩,
     ⟨(some 20), .len (.t 19), (some (17, false)), [12, 10]⟩,
     ⟨(some 21), .bin .gtr (.t 20) (.k (.d (.int .i64 100))), (some (17, false)), [13, 10]⟩,
     ⟨(some 22), .pick (.t 17) (.k (.d (.bool true))) (.t 21), none, [10, 14]⟩])
    (.cond (.t 22) (.seq (.region false [⟨(some 23), .call (.k (.d (.fn (N 230)))) [], none, []⟩,
       ⟨(some 6), .mv (.t 23), none, [0]⟩])
      .ret)
     (.skip)))
   (.seq (.region true [⟨(some 24), .call (.k (.d (.fn (N 230)))) [], none, []⟩,
     ⟨(some 25), .mv (.t 24), none, [0]⟩,
     ⟨(some 26), .load (.t 3) 10 true, (some (25, true)), [1]⟩,
     ⟨(some 27), .load (.t 4) 10 true, (some (25, true)), [1]⟩,
     ⟨(some 28), .call (.k (.d (.fn (N 234)))) [(.t 26), (.t 27)], (some (25, true)), [2, 3, 1]⟩,
     ⟨(some 29), .load (.t 3) 10 true, (some (25, true)), [1]⟩,
     ⟨(some 30), .load (.t 4) 10 true, (some (25, true)), [1]⟩,
     ⟨(some 31), .call (.k (.d (.fn (N 255)))) [(.t 29), (.t 30)], (some (25, true)), [5, 6, 4, 1]⟩,
     ⟨(some 32), .beq false (.t 28) (.t 31), (some (25, true)), [4, 7, 1]⟩,
     ⟨(some 33), .pick (.t 25) (.t 32) (.k (.d (.bool false))), none, [1, 8]⟩,
     ⟨(some 34), .mv (.t 33), none, [9, 7]⟩,
     ⟨(some 35), .load (.t 3) 10 true, (some (34, true)), [10]⟩,
     ⟨(some 36), .load (.t 5) 5 true, (some (34, true)), [10]⟩,
     ⟨(some 37), .call (.k (.d (.fn (N 258)))) [(.t 35), (.t 36)], (some (34, true)), [11, 12, 10]⟩,
     ⟨(some 38), .load (.t 3) 10 true, (some (34, true)), [10]⟩,
     ⟨(some 39), .load (.t 5) 5 true, (some (34, true)), [10]⟩,
     ⟨(some 40), .call (.k (.d (.fn (N 292)))) [(.t 38), (.t 39)], (some (34, true)), [14, 15, 13, 10]⟩,
     ⟨(some 41), .bin .eql (.t 37) (.t 40), (some (34, true)), [13, 16, 10]⟩,
     ⟨(some 42), .pick (.t 34) (.t 41) (.k (.d (.bool false))), none, [10, 17]⟩,
     ⟨(some 6), .mv (.t 42), none, [18, 16, 0, 1, 2, 3, 4, 5, 6, 7, 8, 9, 10, 11, 12, 13, 14, 15, 17]⟩])
    .ret))) }
def HC254 (P : Program) (N : Nat → Nat) : Prop := HasF P (N 254) (C254 N) ∧ HC230 P N ∧ HC234 P N ∧ HC255 P N ∧ HC258 P N ∧ HC292 P N
def f254 (k : Nat) (a0 : TNode) (a1 : TNode) (a2 : TField) : Option Bool := cond (decide (((a0.fFields.length : Nat) : Int) > (100 : Int))) ((f230 k).bind fun r32 => some r32) (cond (decide (((a2.fAliases.length : Nat) : Int) > (100 : Int))) ((f230 k).bind fun r32 => some r32) (cond (decide (((a1.fAliases.length : Nat) : Int) > (100 : Int))) ((f230 k).bind fun r32 => some r32) ((f230 k).bind fun r39 => cond r39 ((f234 k (TNode.mk a0.fKind a0.fName a0.fAliases a0.fFields a0.fSymbols a0.fHas a0.fDefault a0.fItems a0.fBranches a0.fSize) (TNode.mk a1.fKind a1.fName a1.fAliases a1.fFields a1.fSymbols a1.fHas a1.fDefault a1.fItems a1.fBranches a1.fSize)).bind fun r43 => (f255 k (TNode.mk a0.fKind a0.fName a0.fAliases a0.fFields a0.fSymbols a0.fHas a0.fDefault a0.fItems a0.fBranches a0.fSize) (TNode.mk a1.fKind a1.fName a1.fAliases a1.fFields a1.fSymbols a1.fHas a1.fDefault a1.fItems a1.fBranches a1.fSize)).bind fun r46 => cond (r43 == r46) ((f258 k (TNode.mk a0.fKind a0.fName a0.fAliases a0.fFields a0.fSymbols a0.fHas a0.fDefault a0.fItems a0.fBranches a0.fSize) (TField.mk a2.fName a2.fAliases a2.fType a2.fHas a2.fDefault)).bind fun r52 => (f292 k (TNode.mk a0.fKind a0.fName a0.fAliases a0.fFields a0.fSymbols a0.fHas a0.fDefault a0.fItems a0.fBranches a0.fSize) (TField.mk a2.fName a2.fAliases a2.fType a2.fHas a2.fDefault)).bind fun r55 => some (decide (r52 = r55))) (some false)) (some false))))
theorem F254 {P : Program} {N : Nat → Nat} (hmix : P.follows .mixedOrders = true) (hc : HC254 P N) {k : Nat} {a0 : TNode} {a1 : TNode} {a2 : TField} {r : Bool} (h : f254 k a0 a1 a2 = some r) :
    ACalls P (N 254) [(.d (TNode.enc a0)), (.d (TNode.enc a1)), (.d (TField.enc a2))] [] (.d (.bool r)) [] := by
  refine acalls_canon (F := C254 N) hc.1 0 0 rfl ?_
  unfold f254 at h
  dsimp only [C254, startL]
  refine AWc.seq ?_
  refine AWc.rg hmix rfl rfl ?_
  refine RegV.evS (own := false) (v := (.ptr 0 0)) (H' := [(0, (.cells [(.d (.int .i64 a0.fKind)), (.d (.str a0.fName)), (.d (.sl (List.map D.str a0.fAliases))), (.d (.sl (List.map TField.enc a0.fFields))), (.d (.sl (List.map D.str a0.fSymbols))), (.d (.bool a0.fHas)), (.d (.str a0.fDefault)), (.d (.int .i64 a0.fItems)), (.d (.sl (List.map (D.int .i64) a0.fBranches))), (.d (.int .i64 a0.fSize))]))]) (c' := 1) rfl rfl trivial rfl rfl rfl rfl rfl rfl ?_
  refine RegV.evS (own := false) (v := (.ptr 1 0)) (H' := [(1, (.cells [(.d (.int .i64 a1.fKind)), (.d (.str a1.fName)), (.d (.sl (List.map D.str a1.fAliases))), (.d (.sl (List.map TField.enc a1.fFields))), (.d (.sl (List.map D.str a1.fSymbols))), (.d (.bool a1.fHas)), (.d (.str a1.fDefault)), (.d (.int .i64 a1.fItems)), (.d (.sl (List.map (D.int .i64) a1.fBranches))), (.d (.int .i64 a1.fSize))])), (0, (.cells [(.d (.int .i64 a0.fKind)), (.d (.str a0.fName)), (.d (.sl (List.map D.str a0.fAliases))), (.d (.sl (List.map TField.enc a0.fFields))), (.d (.sl (List.map D.str a0.fSymbols))), (.d (.bool a0.fHas)), (.d (.str a0.fDefault)), (.d (.int .i64 a0.fItems)), (.d (.sl (List.map (D.int .i64) a0.fBranches))), (.d (.int .i64 a0.fSize))]))]) (c' := 2) rfl rfl trivial rfl rfl rfl rfl rfl rfl ?_
  refine RegV.evS (own := false) (v := (.ptr 2 0)) (H' := [(2, (.cells [(.d (.str a2.fName)), (.d (.sl (List.map D.str a2.fAliases))), (.d (.int .i64 a2.fType)), (.d (.bool a2.fHas)), (.d (.str a2.fDefault))])), (1, (.cells [(.d (.int .i64 a1.fKind)), (.d (.str a1.fName)), (.d (.sl (List.map D.str a1.fAliases))), (.d (.sl (List.map TField.enc a1.fFields))), (.d (.sl (List.map D.str a1.fSymbols))), (.d (.bool a1.fHas)), (.d (.str a1.fDefault)), (.d (.int .i64 a1.fItems)), (.d (.sl (List.map (D.int .i64) a1.fBranches))), (.d (.int .i64 a1.fSize))])), (0, (.cells [(.d (.int .i64 a0.fKind)), (.d (.str a0.fName)), (.d (.sl (List.map D.str a0.fAliases))), (.d (.sl (List.map TField.enc a0.fFields))), (.d (.sl (List.map D.str a0.fSymbols))), (.d (.bool a0.fHas)), (.d (.str a0.fDefault)), (.d (.int .i64 a0.fItems)), (.d (.sl (List.map (D.int .i64) a0.fBranches))), (.d (.int .i64 a0.fSize))]))]) (c' := 3) rfl rfl trivial rfl rfl rfl rfl rfl rfl ?_
  refine RegV.p0 rfl rfl rfl ?_
  refine RegV.nil0 ?_
  refine AWc.seq ?_
  refine AWc.seq ?_
  refine AWc.rg hmix rfl rfl ?_
  refine RegV.p0 (v := (.ptr 0 3)) rfl rfl rfl ?_
  refine RegV.ld (v := (.d (.sl (List.map TField.enc a0.fFields)))) (H' := [(0, (.cells [(.d (.int .i64 a0.fKind)), (.d (.str a0.fName)), (.d (.sl (List.map D.str a0.fAliases))), (.d (.sl (List.map TField.enc a0.fFields))), (.d (.sl (List.map D.str a0.fSymbols))), (.d (.bool a0.fHas)), (.d (.str a0.fDefault)), (.d (.int .i64 a0.fItems)), (.d (.sl (List.map (D.int .i64) a0.fBranches))), (.d (.int .i64 a0.fSize))])), (2, (.cells [(.d (.str a2.fName)), (.d (.sl (List.map D.str a2.fAliases))), (.d (.int .i64 a2.fType)), (.d (.bool a2.fHas)), (.d (.str a2.fDefault))])), (1, (.cells [(.d (.int .i64 a1.fKind)), (.d (.str a1.fName)), (.d (.sl (List.map D.str a1.fAliases))), (.d (.sl (List.map TField.enc a1.fFields))), (.d (.sl (List.map D.str a1.fSymbols))), (.d (.bool a1.fHas)), (.d (.str a1.fDefault)), (.d (.int .i64 a1.fItems)), (.d (.sl (List.map (D.int .i64) a1.fBranches))), (.d (.int .i64 a1.fSize))]))]) rfl rfl trivial rfl rfl rfl rfl rfl ?_
  refine RegV.len (xs := a0.fFields) (e := TField.enc) rfl rfl rfl rfl ?_
  refine RegV.p0 (v := (.d (.bool (decide (((a0.fFields.length : Nat) : Int) > (100 : Int)))))) rfl rfl rfl ?_
  refine RegV.p0 rfl rfl rfl ?_
  refine RegV.split (fun c16 => ?_) (fun c16 => ?_)
  · have h := cond_pos c16 h
    refine RegV.noS rfl rfl ?_
    refine RegV.noS rfl rfl ?_
    refine RegV.noS rfl rfl ?_
    refine RegV.noS rfl rfl ?_
    refine RegV.p0 rfl rfl rfl ?_
    refine RegV.p0 rfl rfl rfl ?_
    refine RegV.noS rfl rfl ?_
    refine RegV.noS rfl rfl ?_
    refine RegV.noS rfl rfl ?_
    refine RegV.noS rfl rfl ?_
    refine RegV.p0 rfl rfl rfl ?_
    refine RegV.nil0 ?_
    refine AWc.cond rfl (fun _ => ?_) (fun hc => by cases hc)
    refine AWc.seq ?_
    refine AWc.rg hmix rfl rfl ?_
    obtain ⟨r32, e32, h⟩ := bind_some h
    refine RegV.call0 (F230 hmix hc.2.1 e32) rfl rfl rfl rfl .nil rfl ?_
    refine RegV.p0 rfl rfl rfl ?_
    refine RegV.nil0 ?_
    have hr := Option.some.inj h
    subst hr
    exact AWc.ret (canQ (N := 43) (k := 0) (l' := [(6, (.d (.bool r32)))]) (H' := []) rfl ⟨rfl, [], [], rfl, rfl, ⟨⟨_, rfl, (.refl _)⟩, rfl, trivial⟩,  trivial⟩ (doneA (.inr rfl) rfl ⟨trivial, trivial⟩ (.refl _) hasNil))
  · have h := cond_neg c16 h
    refine RegV.p0 (v := (.ptr 2 1)) rfl rfl rfl ?_
    refine RegV.ld (v := (.d (.sl (List.map D.str a2.fAliases)))) (H' := [(2, (.cells [(.d (.str a2.fName)), (.d (.sl (List.map D.str a2.fAliases))), (.d (.int .i64 a2.fType)), (.d (.bool a2.fHas)), (.d (.str a2.fDefault))])), (0, (.cells [(.d (.int .i64 a0.fKind)), (.d (.str a0.fName)), (.d (.sl (List.map D.str a0.fAliases))), (.d (.sl (List.map TField.enc a0.fFields))), (.d (.sl (List.map D.str a0.fSymbols))), (.d (.bool a0.fHas)), (.d (.str a0.fDefault)), (.d (.int .i64 a0.fItems)), (.d (.sl (List.map (D.int .i64) a0.fBranches))), (.d (.int .i64 a0.fSize))])), (1, (.cells [(.d (.int .i64 a1.fKind)), (.d (.str a1.fName)), (.d (.sl (List.map D.str a1.fAliases))), (.d (.sl (List.map TField.enc a1.fFields))), (.d (.sl (List.map D.str a1.fSymbols))), (.d (.bool a1.fHas)), (.d (.str a1.fDefault)), (.d (.int .i64 a1.fItems)), (.d (.sl (List.map (D.int .i64) a1.fBranches))), (.d (.int .i64 a1.fSize))]))]) rfl rfl trivial rfl rfl rfl rfl rfl ?_
    refine RegV.len (xs := a2.fAliases) (e := D.str) rfl rfl rfl rfl ?_
    refine RegV.p0 (v := (.d (.bool (decide (((a2.fAliases.length : Nat) : Int) > (100 : Int)))))) rfl rfl rfl ?_
    refine RegV.p0 rfl rfl rfl ?_
    refine RegV.p0 rfl rfl rfl ?_
    refine RegV.split (fun c22 => ?_) (fun c22 => ?_)
    · have h := cond_pos c22 h
      refine RegV.noS rfl rfl ?_
      refine RegV.noS rfl rfl ?_
      refine RegV.noS rfl rfl ?_
      refine RegV.noS rfl rfl ?_
      refine RegV.p0 rfl rfl rfl ?_
      refine RegV.nil0 ?_
      refine AWc.cond rfl (fun _ => ?_) (fun hc => by cases hc)
      refine AWc.seq ?_
      refine AWc.rg hmix rfl rfl ?_
      obtain ⟨r32, e32, h⟩ := bind_some h
      refine RegV.call0 (F230 hmix hc.2.1 e32) rfl rfl rfl rfl .nil rfl ?_
      refine RegV.p0 rfl rfl rfl ?_
      refine RegV.nil0 ?_
      have hr := Option.some.inj h
      subst hr
      exact AWc.ret (canQ (N := 43) (k := 0) (l' := [(6, (.d (.bool r32)))]) (H' := []) rfl ⟨rfl, [], [], rfl, rfl, ⟨⟨_, rfl, (.refl _)⟩, rfl, trivial⟩,  trivial⟩ (doneA (.inr rfl) rfl ⟨trivial, trivial⟩ (.refl _) hasNil))
    · have h := cond_neg c22 h
      refine RegV.p0 (v := (.ptr 1 2)) rfl rfl rfl ?_
      refine RegV.ld (v := (.d (.sl (List.map D.str a1.fAliases)))) (H' := [(1, (.cells [(.d (.int .i64 a1.fKind)), (.d (.str a1.fName)), (.d (.sl (List.map D.str a1.fAliases))), (.d (.sl (List.map TField.enc a1.fFields))), (.d (.sl (List.map D.str a1.fSymbols))), (.d (.bool a1.fHas)), (.d (.str a1.fDefault)), (.d (.int .i64 a1.fItems)), (.d (.sl (List.map (D.int .i64) a1.fBranches))), (.d (.int .i64 a1.fSize))])), (2, (.cells [(.d (.str a2.fName)), (.d (.sl (List.map D.str a2.fAliases))), (.d (.int .i64 a2.fType)), (.d (.bool a2.fHas)), (.d (.str a2.fDefault))])), (0, (.cells [(.d (.int .i64 a0.fKind)), (.d (.str a0.fName)), (.d (.sl (List.map D.str a0.fAliases))), (.d (.sl (List.map TField.enc a0.fFields))), (.d (.sl (List.map D.str a0.fSymbols))), (.d (.bool a0.fHas)), (.d (.str a0.fDefault)), (.d (.int .i64 a0.fItems)), (.d (.sl (List.map (D.int .i64) a0.fBranches))), (.d (.int .i64 a0.fSize))]))]) rfl rfl trivial rfl rfl rfl rfl rfl ?_
      refine RegV.len (xs := a1.fAliases) (e := D.str) rfl rfl rfl rfl ?_
      refine RegV.p0 (v := (.d (.bool (decide (((a1.fAliases.length : Nat) : Int) > (100 : Int)))))) rfl rfl rfl ?_
      refine RegV.p0 rfl rfl rfl ?_
      refine RegV.nil0 ?_
      refine AWc.cond rfl (fun c28 => ?_) (fun c28 => ?_)
      · have h := cond_pos c28 h
        refine AWc.seq ?_
        refine AWc.rg hmix rfl rfl ?_
        obtain ⟨r32, e32, h⟩ := bind_some h
        refine RegV.call0 (F230 hmix hc.2.1 e32) rfl rfl rfl rfl .nil rfl ?_
        refine RegV.p0 rfl rfl rfl ?_
        refine RegV.nil0 ?_
        have hr := Option.some.inj h
        subst hr
        exact AWc.ret (canQ (N := 43) (k := 0) (l' := [(6, (.d (.bool r32)))]) (H' := []) rfl ⟨rfl, [], [], rfl, rfl, ⟨⟨_, rfl, (.refl _)⟩, rfl, trivial⟩,  trivial⟩ (doneA (.inr rfl) rfl ⟨trivial, trivial⟩ (.refl _) hasNil))
      · have h := cond_neg c28 h
        refine AWc.skip ?_
        refine AWc.seq ?_
        refine AWc.rg hmix rfl rfl ?_
        obtain ⟨r39, e39, h⟩ := bind_some h
        refine RegV.call0 (F230 hmix hc.2.1 e39) rfl rfl rfl rfl .nil rfl ?_
        refine RegV.p0 rfl rfl rfl ?_
        refine RegV.split (fun c40 => ?_) (fun c40 => ?_)
        · have h := cond_pos c40 h
          refine RegV.ld (v := (.d (.agg [(.int .i64 a0.fKind), (.str a0.fName), (.sl (List.map D.str a0.fAliases)), (.sl (List.map TField.enc a0.fFields)), (.sl (List.map D.str a0.fSymbols)), (.bool a0.fHas), (.str a0.fDefault), (.int .i64 a0.fItems), (.sl (List.map (D.int .i64) a0.fBranches)), (.int .i64 a0.fSize)]))) (H' := [(0, (.cells [(.d (.int .i64 a0.fKind)), (.d (.str a0.fName)), (.d (.sl (List.map D.str a0.fAliases))), (.d (.sl (List.map TField.enc a0.fFields))), (.d (.sl (List.map D.str a0.fSymbols))), (.d (.bool a0.fHas)), (.d (.str a0.fDefault)), (.d (.int .i64 a0.fItems)), (.d (.sl (List.map (D.int .i64) a0.fBranches))), (.d (.int .i64 a0.fSize))])), (1, (.cells [(.d (.int .i64 a1.fKind)), (.d (.str a1.fName)), (.d (.sl (List.map D.str a1.fAliases))), (.d (.sl (List.map TField.enc a1.fFields))), (.d (.sl (List.map D.str a1.fSymbols))), (.d (.bool a1.fHas)), (.d (.str a1.fDefault)), (.d (.int .i64 a1.fItems)), (.d (.sl (List.map (D.int .i64) a1.fBranches))), (.d (.int .i64 a1.fSize))])), (2, (.cells [(.d (.str a2.fName)), (.d (.sl (List.map D.str a2.fAliases))), (.d (.int .i64 a2.fType)), (.d (.bool a2.fHas)), (.d (.str a2.fDefault))]))]) rfl rfl (Nat.le_of_ble_eq_true rfl) rfl rfl rfl rfl rfl ?_
          refine RegV.ld (v := (.d (.agg [(.int .i64 a1.fKind), (.str a1.fName), (.sl (List.map D.str a1.fAliases)), (.sl (List.map TField.enc a1.fFields)), (.sl (List.map D.str a1.fSymbols)), (.bool a1.fHas), (.str a1.fDefault), (.int .i64 a1.fItems), (.sl (List.map (D.int .i64) a1.fBranches)), (.int .i64 a1.fSize)]))) (H' := [(1, (.cells [(.d (.int .i64 a1.fKind)), (.d (.str a1.fName)), (.d (.sl (List.map D.str a1.fAliases))), (.d (.sl (List.map TField.enc a1.fFields))), (.d (.sl (List.map D.str a1.fSymbols))), (.d (.bool a1.fHas)), (.d (.str a1.fDefault)), (.d (.int .i64 a1.fItems)), (.d (.sl (List.map (D.int .i64) a1.fBranches))), (.d (.int .i64 a1.fSize))])), (0, (.cells [(.d (.int .i64 a0.fKind)), (.d (.str a0.fName)), (.d (.sl (List.map D.str a0.fAliases))), (.d (.sl (List.map TField.enc a0.fFields))), (.d (.sl (List.map D.str a0.fSymbols))), (.d (.bool a0.fHas)), (.d (.str a0.fDefault)), (.d (.int .i64 a0.fItems)), (.d (.sl (List.map (D.int .i64) a0.fBranches))), (.d (.int .i64 a0.fSize))])), (2, (.cells [(.d (.str a2.fName)), (.d (.sl (List.map D.str a2.fAliases))), (.d (.int .i64 a2.fType)), (.d (.bool a2.fHas)), (.d (.str a2.fDefault))]))]) rfl rfl (Nat.le_of_ble_eq_true rfl) rfl rfl rfl rfl rfl ?_
          obtain ⟨r43, e43, h⟩ := bind_some h
          refine RegV.call0 (F234 hmix hc.2.2.1 e43) rfl rfl rfl rfl (.cons (.refl _) (.cons (.refl _) .nil)) rfl ?_
          refine RegV.ld (v := (.d (.agg [(.int .i64 a0.fKind), (.str a0.fName), (.sl (List.map D.str a0.fAliases)), (.sl (List.map TField.enc a0.fFields)), (.sl (List.map D.str a0.fSymbols)), (.bool a0.fHas), (.str a0.fDefault), (.int .i64 a0.fItems), (.sl (List.map (D.int .i64) a0.fBranches)), (.int .i64 a0.fSize)]))) (H' := [(0, (.cells [(.d (.int .i64 a0.fKind)), (.d (.str a0.fName)), (.d (.sl (List.map D.str a0.fAliases))), (.d (.sl (List.map TField.enc a0.fFields))), (.d (.sl (List.map D.str a0.fSymbols))), (.d (.bool a0.fHas)), (.d (.str a0.fDefault)), (.d (.int .i64 a0.fItems)), (.d (.sl (List.map (D.int .i64) a0.fBranches))), (.d (.int .i64 a0.fSize))])), (1, (.cells [(.d (.int .i64 a1.fKind)), (.d (.str a1.fName)), (.d (.sl (List.map D.str a1.fAliases))), (.d (.sl (List.map TField.enc a1.fFields))), (.d (.sl (List.map D.str a1.fSymbols))), (.d (.bool a1.fHas)), (.d (.str a1.fDefault)), (.d (.int .i64 a1.fItems)), (.d (.sl (List.map (D.int .i64) a1.fBranches))), (.d (.int .i64 a1.fSize))])), (2, (.cells [(.d (.str a2.fName)), (.d (.sl (List.map D.str a2.fAliases))), (.d (.int .i64 a2.fType)), (.d (.bool a2.fHas)), (.d (.str a2.fDefault))]))]) rfl rfl (Nat.le_of_ble_eq_true rfl) rfl rfl rfl rfl rfl ?_
          refine RegV.ld (v := (.d (.agg [(.int .i64 a1.fKind), (.str a1.fName), (.sl (List.map D.str a1.fAliases)), (.sl (List.map TField.enc a1.fFields)), (.sl (List.map D.str a1.fSymbols)), (.bool a1.fHas), (.str a1.fDefault), (.int .i64 a1.fItems), (.sl (List.map (D.int .i64) a1.fBranches)), (.int .i64 a1.fSize)]))) (H' := [(1, (.cells [(.d (.int .i64 a1.fKind)), (.d (.str a1.fName)), (.d (.sl (List.map D.str a1.fAliases))), (.d (.sl (List.map TField.enc a1.fFields))), (.d (.sl (List.map D.str a1.fSymbols))), (.d (.bool a1.fHas)), (.d (.str a1.fDefault)), (.d (.int .i64 a1.fItems)), (.d (.sl (List.map (D.int .i64) a1.fBranches))), (.d (.int .i64 a1.fSize))])), (0, (.cells [(.d (.int .i64 a0.fKind)), (.d (.str a0.fName)), (.d (.sl (List.map D.str a0.fAliases))), (.d (.sl (List.map TField.enc a0.fFields))), (.d (.sl (List.map D.str a0.fSymbols))), (.d (.bool a0.fHas)), (.d (.str a0.fDefault)), (.d (.int .i64 a0.fItems)), (.d (.sl (List.map (D.int .i64) a0.fBranches))), (.d (.int .i64 a0.fSize))])), (2, (.cells [(.d (.str a2.fName)), (.d (.sl (List.map D.str a2.fAliases))), (.d (.int .i64 a2.fType)), (.d (.bool a2.fHas)), (.d (.str a2.fDefault))]))]) rfl rfl (Nat.le_of_ble_eq_true rfl) rfl rfl rfl rfl rfl ?_
          obtain ⟨r46, e46, h⟩ := bind_some h
          refine RegV.call0 (F255 hmix hc.2.2.2.1 e46) rfl rfl rfl rfl (.cons (.refl _) (.cons (.refl _) .nil)) rfl ?_
          refine RegV.p0 (v := (.d (.bool (r43 == r46)))) rfl rfl rfl ?_
          refine RegV.p0 rfl rfl rfl ?_
          refine RegV.p0 rfl rfl rfl ?_
          refine RegV.split (fun c49 => ?_) (fun c49 => ?_)
          · have h := cond_pos c49 h
            refine RegV.ld (v := (.d (.agg [(.int .i64 a0.fKind), (.str a0.fName), (.sl (List.map D.str a0.fAliases)), (.sl (List.map TField.enc a0.fFields)), (.sl (List.map D.str a0.fSymbols)), (.bool a0.fHas), (.str a0.fDefault), (.int .i64 a0.fItems), (.sl (List.map (D.int .i64) a0.fBranches)), (.int .i64 a0.fSize)]))) (H' := [(0, (.cells [(.d (.int .i64 a0.fKind)), (.d (.str a0.fName)), (.d (.sl (List.map D.str a0.fAliases))), (.d (.sl (List.map TField.enc a0.fFields))), (.d (.sl (List.map D.str a0.fSymbols))), (.d (.bool a0.fHas)), (.d (.str a0.fDefault)), (.d (.int .i64 a0.fItems)), (.d (.sl (List.map (D.int .i64) a0.fBranches))), (.d (.int .i64 a0.fSize))])), (1, (.cells [(.d (.int .i64 a1.fKind)), (.d (.str a1.fName)), (.d (.sl (List.map D.str a1.fAliases))), (.d (.sl (List.map TField.enc a1.fFields))), (.d (.sl (List.map D.str a1.fSymbols))), (.d (.bool a1.fHas)), (.d (.str a1.fDefault)), (.d (.int .i64 a1.fItems)), (.d (.sl (List.map (D.int .i64) a1.fBranches))), (.d (.int .i64 a1.fSize))])), (2, (.cells [(.d (.str a2.fName)), (.d (.sl (List.map D.str a2.fAliases))), (.d (.int .i64 a2.fType)), (.d (.bool a2.fHas)), (.d (.str a2.fDefault))]))]) rfl rfl (Nat.le_of_ble_eq_true rfl) rfl rfl rfl rfl rfl ?_
            refine RegV.ld (v := (.d (.agg [(.str a2.fName), (.sl (List.map D.str a2.fAliases)), (.int .i64 a2.fType), (.bool a2.fHas), (.str a2.fDefault)]))) (H' := [(2, (.cells [(.d (.str a2.fName)), (.d (.sl (List.map D.str a2.fAliases))), (.d (.int .i64 a2.fType)), (.d (.bool a2.fHas)), (.d (.str a2.fDefault))])), (0, (.cells [(.d (.int .i64 a0.fKind)), (.d (.str a0.fName)), (.d (.sl (List.map D.str a0.fAliases))), (.d (.sl (List.map TField.enc a0.fFields))), (.d (.sl (List.map D.str a0.fSymbols))), (.d (.bool a0.fHas)), (.d (.str a0.fDefault)), (.d (.int .i64 a0.fItems)), (.d (.sl (List.map (D.int .i64) a0.fBranches))), (.d (.int .i64 a0.fSize))])), (1, (.cells [(.d (.int .i64 a1.fKind)), (.d (.str a1.fName)), (.d (.sl (List.map D.str a1.fAliases))), (.d (.sl (List.map TField.enc a1.fFields))), (.d (.sl (List.map D.str a1.fSymbols))), (.d (.bool a1.fHas)), (.d (.str a1.fDefault)), (.d (.int .i64 a1.fItems)), (.d (.sl (List.map (D.int .i64) a1.fBranches))), (.d (.int .i64 a1.fSize))]))]) rfl rfl (Nat.le_of_ble_eq_true rfl) rfl rfl rfl rfl rfl ?_
            obtain ⟨r52, e52, h⟩ := bind_some h
            refine RegV.call0 (F258 hmix hc.2.2.2.2.1 e52) rfl rfl rfl rfl (.cons (.refl _) (.cons (.refl _) .nil)) rfl ?_
            refine RegV.ld (v := (.d (.agg [(.int .i64 a0.fKind), (.str a0.fName), (.sl (List.map D.str a0.fAliases)), (.sl (List.map TField.enc a0.fFields)), (.sl (List.map D.str a0.fSymbols)), (.bool a0.fHas), (.str a0.fDefault), (.int .i64 a0.fItems), (.sl (List.map (D.int .i64) a0.fBranches)), (.int .i64 a0.fSize)]))) (H' := [(0, (.cells [(.d (.int .i64 a0.fKind)), (.d (.str a0.fName)), (.d (.sl (List.map D.str a0.fAliases))), (.d (.sl (List.map TField.enc a0.fFields))), (.d (.sl (List.map D.str a0.fSymbols))), (.d (.bool a0.fHas)), (.d (.str a0.fDefault)), (.d (.int .i64 a0.fItems)), (.d (.sl (List.map (D.int .i64) a0.fBranches))), (.d (.int .i64 a0.fSize))])), (2, (.cells [(.d (.str a2.fName)), (.d (.sl (List.map D.str a2.fAliases))), (.d (.int .i64 a2.fType)), (.d (.bool a2.fHas)), (.d (.str a2.fDefault))])), (1, (.cells [(.d (.int .i64 a1.fKind)), (.d (.str a1.fName)), (.d (.sl (List.map D.str a1.fAliases))), (.d (.sl (List.map TField.enc a1.fFields))), (.d (.sl (List.map D.str a1.fSymbols))), (.d (.bool a1.fHas)), (.d (.str a1.fDefault)), (.d (.int .i64 a1.fItems)), (.d (.sl (List.map (D.int .i64) a1.fBranches))), (.d (.int .i64 a1.fSize))]))]) rfl rfl (Nat.le_of_ble_eq_true rfl) rfl rfl rfl rfl rfl ?_
            refine RegV.ld (v := (.d (.agg [(.str a2.fName), (.sl (List.map D.str a2.fAliases)), (.int .i64 a2.fType), (.bool a2.fHas), (.str a2.fDefault)]))) (H' := [(2, (.cells [(.d (.str a2.fName)), (.d (.sl (List.map D.str a2.fAliases))), (.d (.int .i64 a2.fType)), (.d (.bool a2.fHas)), (.d (.str a2.fDefault))])), (0, (.cells [(.d (.int .i64 a0.fKind)), (.d (.str a0.fName)), (.d (.sl (List.map D.str a0.fAliases))), (.d (.sl (List.map TField.enc a0.fFields))), (.d (.sl (List.map D.str a0.fSymbols))), (.d (.bool a0.fHas)), (.d (.str a0.fDefault)), (.d (.int .i64 a0.fItems)), (.d (.sl (List.map (D.int .i64) a0.fBranches))), (.d (.int .i64 a0.fSize))])), (1, (.cells [(.d (.int .i64 a1.fKind)), (.d (.str a1.fName)), (.d (.sl (List.map D.str a1.fAliases))), (.d (.sl (List.map TField.enc a1.fFields))), (.d (.sl (List.map D.str a1.fSymbols))), (.d (.bool a1.fHas)), (.d (.str a1.fDefault)), (.d (.int .i64 a1.fItems)), (.d (.sl (List.map (D.int .i64) a1.fBranches))), (.d (.int .i64 a1.fSize))]))]) rfl rfl (Nat.le_of_ble_eq_true rfl) rfl rfl rfl rfl rfl ?_
            obtain ⟨r55, e55, h⟩ := bind_some h
            refine RegV.call0 (F292 hmix hc.2.2.2.2.2 e55) rfl rfl rfl rfl (.cons (.refl _) (.cons (.refl _) .nil)) rfl ?_
            refine RegV.p0 (v := (.d (.bool (decide (r52 = r55))))) rfl rfl rfl ?_
            refine RegV.p0 rfl rfl rfl ?_
            refine RegV.p0 rfl rfl rfl ?_
            refine RegV.nil1 (by kernel_rfl) ?_
            have hr := Option.some.inj h
            subst hr
            exact AWc.ret (canQ (N := 43) (k := 0) (l' := [(6, (.d (.bool (decide (r52 = r55)))))]) (H' := []) rfl ⟨rfl, [], [], rfl, rfl, ⟨⟨_, rfl, (.refl _)⟩, rfl, trivial⟩,  trivial⟩ (doneA (.inr rfl) rfl ⟨trivial, trivial⟩ (.refl _) hasNil))
          · have h := cond_neg c49 h
            refine RegV.noS rfl rfl ?_
            refine RegV.noS rfl rfl ?_
            refine RegV.noS rfl rfl ?_
            refine RegV.noS rfl rfl ?_
            refine RegV.noS rfl rfl ?_
            refine RegV.noS rfl rfl ?_
            refine RegV.noS rfl rfl ?_
            refine RegV.p0 rfl rfl rfl ?_
            refine RegV.p0 rfl rfl rfl ?_
            refine RegV.nil1 (by kernel_rfl) ?_
            have hr := Option.some.inj h
            subst hr
            exact AWc.ret (canQ (N := 43) (k := 0) (l' := [(6, (.d (.bool false)))]) (H' := []) rfl ⟨rfl, [], [], rfl, rfl, ⟨⟨_, rfl, (.refl _)⟩, rfl, trivial⟩,  trivial⟩ (doneA (.inr rfl) rfl ⟨trivial, trivial⟩ (.refl _) hasNil))
        · have h := cond_neg c40 h
          refine RegV.noS rfl rfl ?_
          refine RegV.noS rfl rfl ?_
          refine RegV.noS rfl rfl ?_
          refine RegV.noS rfl rfl ?_
          refine RegV.noS rfl rfl ?_
          refine RegV.noS rfl rfl ?_
          refine RegV.noS rfl rfl ?_
          refine RegV.p0 rfl rfl rfl ?_
          refine RegV.p0 rfl rfl rfl ?_
          refine RegV.noS rfl rfl ?_
          refine RegV.noS rfl rfl ?_
          refine RegV.noS rfl rfl ?_
          refine RegV.noS rfl rfl ?_
          refine RegV.noS rfl rfl ?_
          refine RegV.noS rfl rfl ?_
          refine RegV.noS rfl rfl ?_
          refine RegV.p0 rfl rfl rfl ?_
          refine RegV.p0 rfl rfl rfl ?_
          refine RegV.nil1 (by kernel_rfl) ?_
          have hr := Option.some.inj h
          subst hr
          exact AWc.ret (canQ (N := 43) (k := 0) (l' := [(6, (.d (.bool false)))]) (H' := []) rfl ⟨rfl, [], [], rfl, rfl, ⟨⟨_, rfl, (.refl _)⟩, rfl, trivial⟩,  trivial⟩ (doneA (.inr rfl) rfl ⟨trivial, trivial⟩ (.refl _) hasNil))
end Go.Proofs.Abs
