/- Written by gen.py: functions of the program as Lean functions, and that the code comes to them. -/
import Derived.Test.YtlpffigmcnahcaaDoorGCdb
set_option linter.unusedVariables false
set_option linter.unusedSimpArgs false
set_option maxRecDepth 100000
set_option maxHeartbeats 4000000
namespace Go.Proofs.Abs
open Go
/-- courant/courantlaw08.CodecDeep -/
def C464 (N : Nat → Nat) : AFunc := { n := 81, params := 1, res := [.tmp 2], body :=
 (.seq (.region false [⟨(some 2), .mv (.k (.d (.bool false))), none, []⟩])
  (.seq (.region false [⟨(some 11), .mv (.t 0), none, []⟩,
    ⟨(some 12), .cvi .u64 (.t 11), none, [0]⟩,
    ⟨(some 13), .bin .rem (.t 12) (.k (.d (.int .u64 70))), none, [1]⟩,
    ⟨(some 14), .cvi .i64 (.t 13), none, [2]⟩,
    ⟨(some 15), .bin .add (.k (.d (.int .i64 1))) (.t 14), none, [3]⟩,
    ⟨(some 0), .mv (.t 15), none, [4, 0, 1, 2, 3]⟩])
   (.seq (.region false [⟨(some 16), .build [(.int .i64 0), (.str []), (.sl []), (.sl []), (.sl []), (.bool false), (.str []), (.int .i64 0), (.sl []), (.int .i64 0)] [(0, 1, (.k (.d (.int .i64 11)))), (7, 1, (.k (.d (.int .i64 0))))], none, []⟩,
     ⟨(some 17), .bslice 1 10 [(.int .i64 0), (.str []), (.sl []), (.sl []), (.sl []), (.bool false), (.str []), (.int .i64 0), (.sl []), (.int .i64 0)] [(0, (.t 16))], none, [0]⟩,
     ⟨(some 18), .build [(.sl [])] [(0, 1, (.t 17))], none, [1]⟩,
     ⟨(some 3), .alloc [(.sl [])], none, []⟩,
     ⟨none, .store (.t 3) (.t 18) 1, none, [3, 2, 0, 1]⟩])
    (.seq (.region false [⟨(some 19), .build [(.int .i64 0), (.int .i64 0), (.sl []), (.sl []), (.sl [])] [(0, 1, (.k (.d (.int .i64 11))))], none, []⟩,
      ⟨(some 4), .alloc [(.int .i64 0), (.int .i64 0), (.sl []), (.sl []), (.sl [])], none, []⟩,
      ⟨none, .store (.t 4) (.t 19) 5, none, [1, 0]⟩])
     (.seq (.region false [⟨(some 20), .bslice 1 1 [(.int .u8 0)] [(0, (.k (.d (.int .u8 0))))], none, []⟩,
       ⟨(some 5), .mv (.t 20), none, [0]⟩])
      (.seq (.seq (.region false [⟨(some 6), .mv (.k (.d (.int .i64 1))), none, []⟩])
        (.block 0 (.loop (.seq (.seq (.region false [⟨(some 21), .mv (.t 6), none, []⟩,
             ⟨(some 22), .mv (.t 0), none, []⟩,
             ⟨(some 23), .bin .lss (.t 21) (.t 22), none, [0, 1]⟩])
            (.cond (.t 23) (.skip)
             (.exit 0)))
           (.seq (.block 1 (.seq (.region false [⟨(some 26), .load (.t 4) 5 true, none, []⟩,
               ⟨(some 27), .bslice 1 5 [(.int .i64 0), (.int .i64 0), (.sl []), (.sl []), (.sl [])] [(0, (.t 26))], none, [0]⟩,
               ⟨(some 28), .build [(.int .i64 0), (.int .i64 0), (.sl []), (.sl []), (.sl [])] [(0, 1, (.k (.d (.int .i64 11)))), (3, 1, (.t 27))], none, [1]⟩,
               ⟨none, .store (.t 4) (.t 28) 5, none, [2, 0, 1]⟩])
              (.region false [⟨(some 29), .bslice 1 1 [(.int .u8 0)] [(0, (.k (.d (.int .u8 2))))], none, []⟩,
               ⟨(some 30), .mv (.t 5), none, []⟩,
               ⟨(some 31), .app (.t 29) (.t 30) 1 1 [(.int .u8 0)], none, [0, 1]⟩,
               ⟨(some 32), .bslice 1 1 [(.int .u8 0)] [(0, (.k (.d (.int .u8 0))))], none, []⟩,
               ⟨(some 33), .app (.t 31) (.t 32) 1 1 [(.int .u8 0)], none, [2, 3]⟩,
               ⟨(some 5), .mv (.t 33), none, [4, 0, 1, 2, 3]⟩])))
            (.region false [⟨(some 24), .mv (.t 6), none, []⟩,
             ⟨(some 25), .bin .add (.t 24) (.k (.d (.int .i64 1))), none, [0]⟩,
             ⟨(some 6), .mv (.t 25), none, [1, 0]⟩]))))))
       (.seq (.region false [⟨(some 35), .load (.t 3) 1 true, none, []⟩,
         ⟨(some 36), .load (.t 4) 5 true, none, []⟩,
         ⟨(some 37), .call (.k (.d (.fn (N 460)))) [(.t 35), (.t 36)], none, [0, 1]⟩,
         ⟨(some 34), .mv (.t 37), none, [2]⟩,
         ⟨(some 38), .ext (.t 34) 0, none, [3]⟩,
         ⟨(some 39), .ext (.t 34) 1, none, [3]⟩,
         ⟨(some 7), .mv (.t 38), none, [4, 2, 0, 1, 3]⟩,
         ⟨(some 8), .mv (.t 39), none, [5, 6, 0, 1, 2, 3, 4]⟩])
        (.seq (.region false [⟨(some 41), .load (.t 3) 1 true, none, []⟩,
          ⟨(some 42), .mv (.t 5), none, []⟩,
          ⟨(some 43), .call (.k (.d (.fn (N 449)))) [(.t 41), (.t 42)], none, [0, 1]⟩,
          ⟨(some 40), .mv (.t 43), none, [2]⟩,
          ⟨(some 44), .ext (.t 40) 0, none, [3]⟩,
          ⟨(some 45), .ext (.t 40) 1, none, [3]⟩,
          ⟨(some 9), .alloc [(.int .i64 0), (.int .i64 0), (.sl []), (.sl []), (.sl [])], none, []⟩,
          ⟨none, .store (.t 9) (.t 44) 5, none, [6, 4, 2, 0, 1, 3]⟩,
          ⟨(some 10), .mv (.t 45), none, [5, 7, 0, 1, 2, 3, 4, 6]⟩])
         (.seq (.seq (.region false [⟨(some 46), .mv (.t 0), none, []⟩,
            ⟨(some 47), .bin .gtr (.t 46) (.k (.d (.int .i64 64))), none, [0]⟩])
           (.cond (.t 47) (.seq (.region false [⟨(some 48), .call (.k (.d (.fn (N 459)))) [], none, []⟩,
              ⟨(some 49), .mv (.t 48), none, [0]⟩,
              ⟨(some 50), .mv (.t 8), (some (49, true)), [1]⟩,
              ⟨(some 51), .bin .eql (.t 50) (.k (.d (.int .i64 5))), (some (49, true)), [2, 1]⟩,
              ⟨(some 52), .pick (.t 49) (.t 51) (.k (.d (.bool false))), none, [1, 3]⟩,
              ⟨(some 53), .mv (.t 52), none, [4, 1]⟩,
              ⟨(some 54), .mv (.t 7), (some (53, true)), [5]⟩,
              ⟨(some 55), .len (.t 54), (some (53, true)), [6, 5]⟩,
              ⟨(some 56), .bin .eql (.t 55) (.k (.d (.int .i64 0))), (some (53, true)), [7, 5]⟩,
              ⟨(some 57), .pick (.t 53) (.t 56) (.k (.d (.bool false))), none, [5, 8]⟩,
              ⟨(some 58), .mv (.t 57), none, [9, 5]⟩,
              ⟨(some 59), .mv (.t 10), (some (58, true)), [10]⟩,
              ⟨(some 60), .bin .eql (.t 59) (.k (.d (.int .i64 5))), (some (58, true)), [11, 10]⟩,
              ⟨(some 61), .pick (.t 58) (.t 60) (.k (.d (.bool false))), none, [10, 12]⟩,
              ⟨(some 2), .mv (.t 61), none, [13, 10, 0, 1, 2, 3, 4, 5, 6, 7, 8, 9, 11, 12]⟩])
             .ret)
            (.skip)))
          (.seq (.region false [⟨(some 62), .call (.k (.d (.fn (N 459)))) [], none, []⟩,
            ⟨(some 63), .mv (.t 62), none, [0]⟩,
            ⟨(some 64), .mv (.t 8), (some (63, true)), [1]⟩,
            ⟨(some 65), .bin .eql (.t 64) (.k (.d (.int .i64 0))), (some (63, true)), [2, 1]⟩,
            ⟨(some 66), .pick (.t 63) (.t 65) (.k (.d (.bool false))), none, [1, 3]⟩,
            ⟨(some 67), .mv (.t 66), none, [4, 1]⟩,
            ⟨(some 68), .mv (.t 7), (some (67, true)), [5]⟩,
            ⟨(some 69), .mv (.t 5), (some (67, true)), [5]⟩,
            ⟨(some 70), .call (.k (.d (.fn (N 22)))) [(.t 68), (.t 69)], (some (67, true)), [6, 7, 5]⟩,
            ⟨(some 71), .pick (.t 67) (.t 70) (.k (.d (.bool false))), none, [5, 8]⟩,
            ⟨(some 72), .mv (.t 71), none, [9, 8]⟩,
            ⟨(some 73), .mv (.t 10), (some (72, true)), [10]⟩,
            ⟨(some 74), .bin .eql (.t 73) (.k (.d (.int .i64 0))), (some (72, true)), [11, 10]⟩,
            ⟨(some 75), .pick (.t 72) (.t 74) (.k (.d (.bool false))), none, [10, 12]⟩,
            ⟨(some 76), .mv (.t 75), none, [13, 10]⟩,
            ⟨(some 77), .load (.t 4) 5 true, (some (76, true)), [14]⟩,
            ⟨(some 78), .load (.t 9) 5 true, (some (76, true)), [14]⟩,
            ⟨(some 79), .call (.k (.d (.fn (N 432)))) [(.t 77), (.t 78)], (some (76, true)), [15, 16, 14]⟩,
            ⟨(some 80), .pick (.t 76) (.t 79) (.k (.d (.bool false))), none, [14, 17]⟩,
            ⟨(some 2), .mv (.t 80), none, [18, 17, 0, 1, 2, 3, 4, 5, 6, 7, 8, 9, 10, 11, 12, 13, 14, 15, 16]⟩])
           .ret)))))))))) }
def HC464 (P : Program) (N : Nat → Nat) : Prop := HasF P (N 464) (C464 N) ∧ HC460 P N ∧ HC449 P N ∧ HC459 P N ∧ HC22 P N ∧ HC432 P N
def f464_j72 (k : Nat) (a0 : Int) (j72_1 : (List UInt8)) (j72_2 : (List (RT 5))) : Option Bool := (f460 k (TSchema.mk ([(TNode.mk (11 : Int) ([] : List UInt8) ([] : List (List UInt8)) ([] : List TField) ([] : List (List UInt8)) false ([] : List UInt8) (0 : Int) ([] : List Int) (0 : Int))] : List TNode)) (TValue.mk (11 : Int) (0 : Int) ([] : List UInt8) j72_2 ([] : List (List UInt8)))).bind fun r77 => (f449 k (TSchema.mk ([(TNode.mk (11 : Int) ([] : List UInt8) ([] : List (List UInt8)) ([] : List TField) ([] : List (List UInt8)) false ([] : List UInt8) (0 : Int) ([] : List Int) (0 : Int))] : List TNode)) j72_1).bind fun r88 => cond (decide ((IntKind.i64.wrap ((1 : Int) + (IntKind.i64.wrap (Int.tmod (IntKind.u64.wrap a0) (70 : Int))))) > (64 : Int))) ((f459 k).bind fun r105 => cond r105 (cond (decide (r77.2 = (5 : Int))) (cond (decide (((r77.1.length : Nat) : Int) = (0 : Int))) (some (decide (r88.1 = (5 : Int)))) (some false)) (some false)) (some false)) ((f459 k).bind fun r125 => cond r125 (cond (decide (r77.2 = (0 : Int))) ((f22 k r77.1 j72_1).bind fun r133 => cond (decide (r77.1 = j72_1)) (cond (decide (r88.1 = (0 : Int))) ((f432 k (TValue.mk (11 : Int) (0 : Int) ([] : List UInt8) j72_2 ([] : List (List UInt8))) (TValue.mk r88.2.1 r88.2.2.1 r88.2.2.2.1 r88.2.2.2.2.1 r88.2.2.2.2.2)).bind fun r142 => some r142) (some false)) (some false)) (some false)) (some false))
def f464_l38 (a0 : Int) : Nat → (List UInt8) → Int → (List (RT 5)) → Option (LR2 ((List UInt8) × (List (RT 5))) Unit Bool)
  | 0, _, _, _ => none
  | k + 1, y38_1, y38_2, y38_3 => cond (decide (y38_2 < (IntKind.i64.wrap ((1 : Int) + (IntKind.i64.wrap (Int.tmod (IntKind.u64.wrap a0) (70 : Int))))))) (gd ((([(2 : UInt8)] : List UInt8).length + y38_1.length) * 2 * 1 ≤ 281474976710656) (gd (((([(2 : UInt8)] : List UInt8) ++ y38_1).length + ([(0 : UInt8)] : List UInt8).length) * 2 * 1 ≤ 281474976710656) (f464_l38 a0 k ((([(2 : UInt8)] : List UInt8) ++ y38_1) ++ ([(0 : UInt8)] : List UInt8)) (IntKind.i64.wrap (y38_2 + (1 : Int))) ([(RT.of TValue.ok (TValue.mk (11 : Int) (0 : Int) ([] : List UInt8) y38_3 ([] : List (List UInt8))))] : List (RT 5))))) (some (.b0 (y38_1, y38_3)))
def f464 (k : Nat) (a0 : Int) : Option Bool := (f464_l38 a0 k ([(0 : UInt8)] : List UInt8) (1 : Int) ([] : List (RT 5))).bind fun o38 => (match o38 with | .b0 (x38_1, x38_2) => f464_j72 k a0 x38_1 x38_2 | _ => none)
theorem F464 {P : Program} {N : Nat → Nat} (hmix : P.follows .mixedOrders = true) (hc : HC464 P N) {k : Nat} {a0 : Int} {r : Bool} (h : f464 k a0 = some r) :
    ACalls P (N 464) [(.d (.int .i64 a0))] [] (.d (.bool r)) [] := by
  refine acalls_canon (F := C464 N) hc.1 0 0 rfl ?_
  unfold f464 at h
  dsimp only [C464, startL]
  refine AWc.seq ?_
  refine AWc.rg hmix rfl rfl ?_
  refine RegV.p0 rfl rfl rfl ?_
  refine RegV.nil0 ?_
  refine AWc.seq ?_
  refine AWc.rg hmix rfl rfl ?_
  refine RegV.p0 rfl rfl rfl ?_
  refine RegV.p0 (v := (.d (.int .u64 (IntKind.u64.wrap a0)))) rfl rfl rfl ?_
  refine RegV.p1 (v := (.d (.int .u64 (Int.tmod (IntKind.u64.wrap a0) (70 : Int))))) rfl rfl (by decide) rfl rfl ?_
  refine RegV.p0 (v := (.d (.int .i64 (IntKind.i64.wrap (Int.tmod (IntKind.u64.wrap a0) (70 : Int)))))) rfl rfl rfl ?_
  refine RegV.p0 (v := (.d (.int .i64 (IntKind.i64.wrap ((1 : Int) + (IntKind.i64.wrap (Int.tmod (IntKind.u64.wrap a0) (70 : Int)))))))) rfl rfl rfl ?_
  refine RegV.p0 rfl rfl rfl ?_
  refine RegV.nil0 ?_
  refine AWc.seq ?_
  refine AWc.rg hmix rfl rfl ?_
  refine RegV.p1 (v := (.d (.agg [(.int .i64 (11 : Int)), (.str ([] : List UInt8)), (.sl (List.map D.str ([] : List (List UInt8)))), (.sl (List.map TField.enc ([] : List TField))), (.sl (List.map D.str ([] : List (List UInt8)))), (.bool false), (.str ([] : List UInt8)), (.int .i64 (0 : Int)), (.sl (List.map (D.int .i64) ([] : List Int))), (.int .i64 (0 : Int))]))) rfl rfl (by exact ⟨⟨rfl, Nat.le_of_ble_eq_true rfl⟩, ⟨⟨rfl, Nat.le_of_ble_eq_true rfl⟩, trivial⟩⟩) rfl rfl ?_
  refine RegV.p1 (v := (.d (.sl (List.map TNode.enc ([(TNode.mk (11 : Int) ([] : List UInt8) ([] : List (List UInt8)) ([] : List TField) ([] : List (List UInt8)) false ([] : List UInt8) (0 : Int) ([] : List Int) (0 : Int))] : List TNode))))) rfl rfl (by exact ⟨rfl, Nat.le_of_ble_eq_true rfl, mapLen (e := TNode.enc) (xs := ([(TNode.mk (11 : Int) ([] : List UInt8) ([] : List (List UInt8)) ([] : List TField) ([] : List (List UInt8)) false ([] : List UInt8) (0 : Int) ([] : List Int) (0 : Int))] : List TNode)) (z := 10) (fun _ => rfl)⟩) rfl rfl ?_
  refine RegV.p1 (v := (.d (.agg [(.sl (List.map TNode.enc ([(TNode.mk (11 : Int) ([] : List UInt8) ([] : List (List UInt8)) ([] : List TField) ([] : List (List UInt8)) false ([] : List UInt8) (0 : Int) ([] : List Int) (0 : Int))] : List TNode)))]))) rfl rfl (by exact ⟨⟨rfl, Nat.le_of_ble_eq_true rfl⟩, trivial⟩) rfl rfl ?_
  refine RegV.evS (own := false) (v := (.ptr 0 0)) (H' := [(0, (.cells [.nils]))]) (c' := 1) rfl rfl trivial rfl rfl rfl rfl rfl rfl ?_
  refine RegV.evN (own := false) (H' := [(0, (.cells [(.d (.sl (List.map TNode.enc ([(TNode.mk (11 : Int) ([] : List UInt8) ([] : List (List UInt8)) ([] : List TField) ([] : List (List UInt8)) false ([] : List UInt8) (0 : Int) ([] : List Int) (0 : Int))] : List TNode))))]))]) (c' := 1) rfl rfl (by exact ⟨rfl, Nat.le_of_ble_eq_true rfl, rfl⟩) rfl rfl rfl rfl ?_
  refine RegV.nil0 ?_
  refine AWc.seq ?_
  refine AWc.rg hmix rfl rfl ?_
  refine RegV.p1 (v := (.d (.agg [(.int .i64 (11 : Int)), (.int .i64 (0 : Int)), (.sl (List.map byteD ([] : List UInt8))), (.sl (List.map (rtE (z := 5)) ([] : List (RT 5)))), (.sl (List.map D.str ([] : List (List UInt8))))]))) rfl rfl (by exact ⟨⟨rfl, Nat.le_of_ble_eq_true rfl⟩, trivial⟩) rfl rfl ?_
  refine RegV.evS (own := false) (v := (.ptr 1 0)) (H' := [(1, (.cells [(.d (.int .i64 (0 : Int))), (.d (.int .i64 (0 : Int))), .nils, .nils, .nils])), (0, (.cells [(.d (.sl (List.map TNode.enc ([(TNode.mk (11 : Int) ([] : List UInt8) ([] : List (List UInt8)) ([] : List TField) ([] : List (List UInt8)) false ([] : List UInt8) (0 : Int) ([] : List Int) (0 : Int))] : List TNode))))]))]) (c' := 2) rfl rfl trivial rfl rfl rfl rfl rfl rfl ?_
  refine RegV.evN (own := false) (H' := [(1, (.cells [(.d (.int .i64 (11 : Int))), (.d (.int .i64 (0 : Int))), (.d (.sl (List.map byteD ([] : List UInt8)))), (.d (.sl (List.map (rtE (z := 5)) ([] : List (RT 5))))), (.d (.sl (List.map D.str ([] : List (List UInt8)))))])), (0, (.cells [(.d (.sl (List.map TNode.enc ([(TNode.mk (11 : Int) ([] : List UInt8) ([] : List (List UInt8)) ([] : List TField) ([] : List (List UInt8)) false ([] : List UInt8) (0 : Int) ([] : List Int) (0 : Int))] : List TNode))))]))]) (c' := 2) rfl rfl (by exact ⟨rfl, Nat.le_of_ble_eq_true rfl, rfl⟩) rfl rfl rfl rfl ?_
  refine RegV.nil0 ?_
  refine AWc.seq ?_
  refine AWc.rg hmix rfl rfl ?_
  refine RegV.p1 (v := (.d (.sl (List.map byteD ([(0 : UInt8)] : List UInt8))))) rfl rfl (by exact ⟨rfl, Nat.le_of_ble_eq_true rfl, mapLen (e := byteD) (xs := ([(0 : UInt8)] : List UInt8)) (z := 1) (fun _ => rfl)⟩) rfl rfl ?_
  refine RegV.p0 rfl rfl rfl ?_
  refine RegV.nil0 ?_
  refine AWc.seqS (N := 81) 2 (fun (z : ((List UInt8) × (List (RT 5)))) => [(0, (.d (.int .i64 (IntKind.i64.wrap ((1 : Int) + (IntKind.i64.wrap (Int.tmod (IntKind.u64.wrap a0) (70 : Int)))))))), (3, (.ptr 0 0)), (4, (.ptr 1 0)), (5, (.d (.sl (List.map byteD z.1))))]) (fun z => [(0, (.cells [(.d (.sl (List.map TNode.enc ([(TNode.mk (11 : Int) ([] : List UInt8) ([] : List (List UInt8)) ([] : List TField) ([] : List (List UInt8)) false ([] : List UInt8) (0 : Int) ([] : List Int) (0 : Int))] : List TNode))))])), (1, (.cells [(.d (.int .i64 (11 : Int))), (.d (.int .i64 (0 : Int))), (.d (.sl (List.map byteD ([] : List UInt8)))), (.d (.sl (List.map (rtE (z := 5)) z.2))), (.d (.sl (List.map D.str ([] : List (List UInt8)))))]))]) (fun z => f464_j72 k a0 z.1 z.2 = some r) rfl_le ?_ ?_
  · refine AWc.seq ?_
    refine AWc.rg hmix rfl rfl ?_
    refine RegV.p0 rfl rfl rfl ?_
    refine RegV.nil0 ?_
    obtain ⟨o38, h38, h⟩ := bind_some h
    refine AWc.block ?_
    refine AWc.loopK (N := 81) 2 (fun (x : ((List UInt8) × Int × (List (RT 5)))) => [(0, (.d (.int .i64 (IntKind.i64.wrap ((1 : Int) + (IntKind.i64.wrap (Int.tmod (IntKind.u64.wrap a0) (70 : Int)))))))), (3, (.ptr 0 0)), (4, (.ptr 1 0)), (5, (.d (.sl (List.map byteD x.1)))), (6, (.d (.int .i64 x.2.1)))]) (fun x => [(0, (.cells [(.d (.sl (List.map TNode.enc ([(TNode.mk (11 : Int) ([] : List UInt8) ([] : List (List UInt8)) ([] : List TField) ([] : List (List UInt8)) false ([] : List UInt8) (0 : Int) ([] : List Int) (0 : Int))] : List TNode))))])), (1, (.cells [(.d (.int .i64 (11 : Int))), (.d (.int .i64 (0 : Int))), (.d (.sl (List.map byteD ([] : List UInt8)))), (.d (.sl (List.map (rtE (z := 5)) x.2.2))), (.d (.sl (List.map D.str ([] : List (List UInt8)))))]))]) (fun k x => f464_l38 a0 k x.1 x.2.1 x.2.2 = some o38) k (([(0 : UInt8)] : List UInt8), (1 : Int), ([] : List (RT 5))) rfl_le (fun x hx => by cases hx) h38 ⟨rfl, [], [], rfl, rfl, ⟨⟨_, rfl, (.refl _)⟩, rfl, ⟨⟨_, rfl, (.refl _)⟩, rfl, ⟨⟨_, rfl, (.refl _)⟩, rfl, ⟨⟨_, rfl, (.refl _)⟩, rfl, ⟨⟨_, rfl, (.refl _)⟩, rfl, trivial⟩⟩⟩⟩⟩, ⟨⟨_, rfl, (.refl _)⟩, rfl, rfl, ⟨⟨_, rfl, (.refl _)⟩, rfl, rfl, trivial⟩⟩⟩ ?_
    clear h38
    intro k
    rintro ⟨y38_1, y38_2, y38_3⟩ h38
    dsimp only at h38 ⊢
    rw [f464_l38] at h38
    refine AWc.seq ?_
    refine AWc.seq ?_
    refine AWc.rg hmix rfl rfl ?_
    refine RegV.p0 rfl rfl rfl ?_
    refine RegV.p0 rfl rfl rfl ?_
    refine RegV.p0 (v := (.d (.bool (decide (y38_2 < (IntKind.i64.wrap ((1 : Int) + (IntKind.i64.wrap (Int.tmod (IntKind.u64.wrap a0) (70 : Int)))))))))) rfl rfl rfl ?_
    refine RegV.nil0 ?_
    refine AWc.cond rfl (fun c47 => ?_) (fun c47 => ?_)
    · have h38 := cond_pos c47 h38
      refine AWc.skip ?_
      refine AWc.seq ?_
      refine AWc.block ?_
      refine AWc.seq ?_
      refine AWc.rg hmix rfl rfl ?_
      refine RegV.ld (v := (.d (.agg [(.int .i64 (11 : Int)), (.int .i64 (0 : Int)), (.sl (List.map byteD ([] : List UInt8))), (.sl (List.map (rtE (z := 5)) y38_3)), (.sl (List.map D.str ([] : List (List UInt8))))]))) (H' := [(1, (.cells [(.d (.int .i64 (11 : Int))), (.d (.int .i64 (0 : Int))), (.d (.sl (List.map byteD ([] : List UInt8)))), (.d (.sl (List.map (rtE (z := 5)) y38_3))), (.d (.sl (List.map D.str ([] : List (List UInt8)))))])), (0, (.cells [(.d (.sl (List.map TNode.enc ([(TNode.mk (11 : Int) ([] : List UInt8) ([] : List (List UInt8)) ([] : List TField) ([] : List (List UInt8)) false ([] : List UInt8) (0 : Int) ([] : List Int) (0 : Int))] : List TNode))))]))]) rfl rfl (Nat.le_of_ble_eq_true rfl) rfl rfl rfl rfl rfl ?_
      refine RegV.p1 (v := (.d (.sl (List.map (rtE (z := 5)) ([(RT.of TValue.ok (TValue.mk (11 : Int) (0 : Int) ([] : List UInt8) y38_3 ([] : List (List UInt8))))] : List (RT 5)))))) rfl rfl (by exact ⟨rfl, Nat.le_of_ble_eq_true rfl, mapLen (e := (rtE (z := 5))) (xs := ([(RT.of TValue.ok (TValue.mk (11 : Int) (0 : Int) ([] : List UInt8) y38_3 ([] : List (List UInt8))))] : List (RT 5))) (z := 5) rtE_ok.len⟩) rfl rfl ?_
      refine RegV.p1 (v := (.d (.agg [(.int .i64 (11 : Int)), (.int .i64 (0 : Int)), (.sl (List.map byteD ([] : List UInt8))), (.sl (List.map (rtE (z := 5)) ([(RT.of TValue.ok (TValue.mk (11 : Int) (0 : Int) ([] : List UInt8) y38_3 ([] : List (List UInt8))))] : List (RT 5)))), (.sl (List.map D.str ([] : List (List UInt8))))]))) rfl rfl (by exact ⟨⟨rfl, Nat.le_of_ble_eq_true rfl⟩, ⟨⟨rfl, Nat.le_of_ble_eq_true rfl⟩, trivial⟩⟩) rfl rfl ?_
      refine RegV.evN (own := false) (H' := [(1, (.cells [(.d (.int .i64 (11 : Int))), (.d (.int .i64 (0 : Int))), (.d (.sl (List.map byteD ([] : List UInt8)))), (.d (.sl (List.map (rtE (z := 5)) ([(RT.of TValue.ok (TValue.mk (11 : Int) (0 : Int) ([] : List UInt8) y38_3 ([] : List (List UInt8))))] : List (RT 5))))), (.d (.sl (List.map D.str ([] : List (List UInt8)))))])), (0, (.cells [(.d (.sl (List.map TNode.enc ([(TNode.mk (11 : Int) ([] : List UInt8) ([] : List (List UInt8)) ([] : List TField) ([] : List (List UInt8)) false ([] : List UInt8) (0 : Int) ([] : List Int) (0 : Int))] : List TNode))))]))]) (c' := 2) rfl rfl (by exact ⟨rfl, Nat.le_of_ble_eq_true rfl, rfl⟩) rfl rfl rfl rfl ?_
      refine RegV.nil0 ?_
      refine AWc.rg hmix rfl rfl ?_
      refine RegV.bsA (xs := ([(2 : UInt8)] : List UInt8)) (e := byteD) rfl rfl rfl rfl rfl rfl rfl (fun _ => rfl) rfl rfl ?_
      refine RegV.p0 rfl rfl rfl ?_
      obtain ⟨b63, h38⟩ := gd_some h38
      refine RegV.appA (xs := ([(2 : UInt8)] : List UInt8)) (ys := y38_1) (e := byteD) (H1 := [(1, (.cells [(.d (.int .i64 (11 : Int))), (.d (.int .i64 (0 : Int))), (.d (.sl (List.map byteD ([] : List UInt8)))), (.d (.sl (List.map (rtE (z := 5)) ([(RT.of TValue.ok (TValue.mk (11 : Int) (0 : Int) ([] : List UInt8) y38_3 ([] : List (List UInt8))))] : List (RT 5))))), (.d (.sl (List.map D.str ([] : List (List UInt8)))))])), (0, (.cells [(.d (.sl (List.map TNode.enc ([(TNode.mk (11 : Int) ([] : List UInt8) ([] : List (List UInt8)) ([] : List TField) ([] : List (List UInt8)) false ([] : List UInt8) (0 : Int) ([] : List Int) (0 : Int))] : List TNode))))]))]) rfl rfl rfl rfl (fun _ => rfl) rfl rfl b63 rfl rfl rfl ?_
      refine RegV.p1 (v := (.d (.sl (List.map byteD ([(0 : UInt8)] : List UInt8))))) rfl rfl (by exact ⟨rfl, Nat.le_of_ble_eq_true rfl, mapLen (e := byteD) (xs := ([(0 : UInt8)] : List UInt8)) (z := 1) (fun _ => rfl)⟩) rfl rfl ?_
      obtain ⟨b65, h38⟩ := gd_some h38
      refine RegV.appA (xs := (([(2 : UInt8)] : List UInt8) ++ y38_1)) (ys := ([(0 : UInt8)] : List UInt8)) (e := byteD) (H1 := [(1, (.cells [(.d (.int .i64 (11 : Int))), (.d (.int .i64 (0 : Int))), (.d (.sl (List.map byteD ([] : List UInt8)))), (.d (.sl (List.map (rtE (z := 5)) ([(RT.of TValue.ok (TValue.mk (11 : Int) (0 : Int) ([] : List UInt8) y38_3 ([] : List (List UInt8))))] : List (RT 5))))), (.d (.sl (List.map D.str ([] : List (List UInt8)))))])), (0, (.cells [(.d (.sl (List.map TNode.enc ([(TNode.mk (11 : Int) ([] : List UInt8) ([] : List (List UInt8)) ([] : List TField) ([] : List (List UInt8)) false ([] : List UInt8) (0 : Int) ([] : List Int) (0 : Int))] : List TNode))))]))]) rfl rfl rfl rfl (fun _ => rfl) rfl rfl b65 rfl rfl rfl ?_
      refine RegV.p0 rfl rfl rfl ?_
      refine RegV.nil0 ?_
      refine AWc.rg hmix rfl rfl ?_
      refine RegV.p0 rfl rfl rfl ?_
      refine RegV.p0 (v := (.d (.int .i64 (IntKind.i64.wrap (y38_2 + (1 : Int)))))) rfl rfl rfl ?_
      refine RegV.p0 rfl rfl rfl ?_
      refine RegV.nil0 ?_
      exact ⟨(((([(2 : UInt8)] : List UInt8) ++ y38_1) ++ ([(0 : UInt8)] : List UInt8)), (IntKind.i64.wrap (y38_2 + (1 : Int))), ([(RT.of TValue.ok (TValue.mk (11 : Int) (0 : Int) ([] : List UInt8) y38_3 ([] : List (List UInt8))))] : List (RT 5))), h38, ⟨rfl, [], [], rfl, rfl, ⟨⟨_, rfl, (.refl _)⟩, rfl, ⟨⟨_, rfl, (.refl _)⟩, rfl, ⟨⟨_, rfl, (.refl _)⟩, rfl, ⟨⟨_, rfl, (.sl rfl)⟩, rfl, ⟨⟨_, rfl, (.refl _)⟩, rfl, trivial⟩⟩⟩⟩⟩, ⟨⟨_, rfl, (.refl _)⟩, rfl, rfl, ⟨⟨_, rfl, (.refl _)⟩, rfl, rfl, trivial⟩⟩⟩⟩
    · have h38 := cond_neg c47 h38
      cases h38
      dsimp only at h
      refine AWc.exit ?_
      refine inBlk_eq ?_
      exact ⟨(y38_1, y38_3), h, ⟨rfl, [], [], rfl, rfl, ⟨⟨_, rfl, (.refl _)⟩, rfl, ⟨⟨_, rfl, (.refl _)⟩, rfl, ⟨⟨_, rfl, (.refl _)⟩, rfl, ⟨⟨_, rfl, (.refl _)⟩, rfl, trivial⟩⟩⟩⟩, ⟨⟨_, rfl, (.refl _)⟩, rfl, rfl, ⟨⟨_, rfl, (.refl _)⟩, rfl, rfl, trivial⟩⟩⟩⟩
  · rintro ⟨j72_1, j72_2⟩ h
    dsimp only at h ⊢
    unfold f464_j72 at h
    refine AWc.seq ?_
    refine AWc.rg hmix rfl rfl ?_
    refine RegV.ld (v := (.d (.agg [(.sl (List.map TNode.enc ([(TNode.mk (11 : Int) ([] : List UInt8) ([] : List (List UInt8)) ([] : List TField) ([] : List (List UInt8)) false ([] : List UInt8) (0 : Int) ([] : List Int) (0 : Int))] : List TNode)))]))) (H' := [(0, (.cells [(.d (.sl (List.map TNode.enc ([(TNode.mk (11 : Int) ([] : List UInt8) ([] : List (List UInt8)) ([] : List TField) ([] : List (List UInt8)) false ([] : List UInt8) (0 : Int) ([] : List Int) (0 : Int))] : List TNode))))])), (1, (.cells [(.d (.int .i64 (11 : Int))), (.d (.int .i64 (0 : Int))), (.d (.sl (List.map byteD ([] : List UInt8)))), (.d (.sl (List.map (rtE (z := 5)) j72_2))), (.d (.sl (List.map D.str ([] : List (List UInt8)))))]))]) rfl rfl (Nat.le_of_ble_eq_true rfl) rfl rfl rfl rfl rfl ?_
    refine RegV.ld (v := (.d (.agg [(.int .i64 (11 : Int)), (.int .i64 (0 : Int)), (.sl (List.map byteD ([] : List UInt8))), (.sl (List.map (rtE (z := 5)) j72_2)), (.sl (List.map D.str ([] : List (List UInt8))))]))) (H' := [(1, (.cells [(.d (.int .i64 (11 : Int))), (.d (.int .i64 (0 : Int))), (.d (.sl (List.map byteD ([] : List UInt8)))), (.d (.sl (List.map (rtE (z := 5)) j72_2))), (.d (.sl (List.map D.str ([] : List (List UInt8)))))])), (0, (.cells [(.d (.sl (List.map TNode.enc ([(TNode.mk (11 : Int) ([] : List UInt8) ([] : List (List UInt8)) ([] : List TField) ([] : List (List UInt8)) false ([] : List UInt8) (0 : Int) ([] : List Int) (0 : Int))] : List TNode))))]))]) rfl rfl (Nat.le_of_ble_eq_true rfl) rfl rfl rfl rfl rfl ?_
    obtain ⟨r77, e77, h⟩ := bind_some h
    refine RegV.callS (q := false) (H' := [(2, (.tok ((List.map byteD r77.1).length * 1))), (1, (.cells [(.d (.int .i64 (11 : Int))), (.d (.int .i64 (0 : Int))), (.d (.sl (List.map byteD ([] : List UInt8)))), (.d (.sl (List.map (rtE (z := 5)) j72_2))), (.d (.sl (List.map D.str ([] : List (List UInt8)))))])), (0, (.cells [(.d (.sl (List.map TNode.enc ([(TNode.mk (11 : Int) ([] : List UInt8) ([] : List (List UInt8)) ([] : List TField) ([] : List (List UInt8)) false ([] : List UInt8) (0 : Int) ([] : List Int) (0 : Int))] : List TNode))))]))]) (c' := 3) (show ACalls P (N 460) [(.d (TSchema.enc (TSchema.mk ([(TNode.mk (11 : Int) ([] : List UInt8) ([] : List (List UInt8)) ([] : List TField) ([] : List (List UInt8)) false ([] : List UInt8) (0 : Int) ([] : List Int) (0 : Int))] : List TNode)))), (.d (TValue.enc (TValue.mk (11 : Int) (0 : Int) ([] : List UInt8) j72_2 ([] : List (List UInt8)))))] [] (.tup [(.ap 2 1 (List.map byteD r77.1)), (.d (.int .i64 r77.2))]) [(2, (.tok ((List.map byteD r77.1).length * 1)))] from ACalls.use (F460 hmix hc.2.1 e77) [(0, 2)] 1 rfl) rfl rfl rfl rfl (.cons (.refl _) (.cons (.refl _) .nil)) (.refl _) (fun h => by cases h) rfl hasNil rfl rfl rfl rfl ?_
    refine RegV.p0 rfl rfl rfl ?_
    refine RegV.p0 rfl rfl rfl ?_
    refine RegV.p0 rfl rfl rfl ?_
    refine RegV.p0 rfl rfl rfl ?_
    refine RegV.p0 rfl rfl rfl ?_
    refine RegV.nil0 ?_
    refine AWc.seq ?_
    refine AWc.rg hmix rfl rfl ?_
    refine RegV.ld (v := (.d (.agg [(.sl (List.map TNode.enc ([(TNode.mk (11 : Int) ([] : List UInt8) ([] : List (List UInt8)) ([] : List TField) ([] : List (List UInt8)) false ([] : List UInt8) (0 : Int) ([] : List Int) (0 : Int))] : List TNode)))]))) (H' := [(0, (.cells [(.d (.sl (List.map TNode.enc ([(TNode.mk (11 : Int) ([] : List UInt8) ([] : List (List UInt8)) ([] : List TField) ([] : List (List UInt8)) false ([] : List UInt8) (0 : Int) ([] : List Int) (0 : Int))] : List TNode))))])), (2, (.tok ((List.map byteD r77.1).length * 1))), (1, (.cells [(.d (.int .i64 (11 : Int))), (.d (.int .i64 (0 : Int))), (.d (.sl (List.map byteD ([] : List UInt8)))), (.d (.sl (List.map (rtE (z := 5)) j72_2))), (.d (.sl (List.map D.str ([] : List (List UInt8)))))]))]) rfl rfl (Nat.le_of_ble_eq_true rfl) rfl rfl rfl rfl rfl ?_
    refine RegV.p0 rfl rfl rfl ?_
    obtain ⟨r88, e88, h⟩ := bind_some h
    refine RegV.call0 (F449 hmix hc.2.2.1 e88) rfl rfl rfl rfl (.cons (.refl _) (.cons (.refl _) .nil)) rfl ?_
    refine RegV.p0 rfl rfl rfl ?_
    refine RegV.p0 rfl rfl rfl ?_
    refine RegV.p0 rfl rfl rfl ?_
    refine RegV.evS (own := false) (v := (.ptr 3 0)) (H' := [(3, (.cells [(.d (.int .i64 (0 : Int))), (.d (.int .i64 (0 : Int))), .nils, .nils, .nils])), (0, (.cells [(.d (.sl (List.map TNode.enc ([(TNode.mk (11 : Int) ([] : List UInt8) ([] : List (List UInt8)) ([] : List TField) ([] : List (List UInt8)) false ([] : List UInt8) (0 : Int) ([] : List Int) (0 : Int))] : List TNode))))])), (2, (.tok ((List.map byteD r77.1).length * 1))), (1, (.cells [(.d (.int .i64 (11 : Int))), (.d (.int .i64 (0 : Int))), (.d (.sl (List.map byteD ([] : List UInt8)))), (.d (.sl (List.map (rtE (z := 5)) j72_2))), (.d (.sl (List.map D.str ([] : List (List UInt8)))))]))]) (c' := 4) rfl rfl trivial rfl rfl rfl rfl rfl rfl ?_
    refine RegV.evN (own := false) (H' := [(3, (.cells [(.d (.int .i64 r88.2.1)), (.d (.int .i64 r88.2.2.1)), (.d (.sl (List.map byteD r88.2.2.2.1))), (.d (.sl (List.map (rtE (z := 5)) r88.2.2.2.2.1))), (.d (.sl (List.map D.str r88.2.2.2.2.2)))])), (0, (.cells [(.d (.sl (List.map TNode.enc ([(TNode.mk (11 : Int) ([] : List UInt8) ([] : List (List UInt8)) ([] : List TField) ([] : List (List UInt8)) false ([] : List UInt8) (0 : Int) ([] : List Int) (0 : Int))] : List TNode))))])), (2, (.tok ((List.map byteD r77.1).length * 1))), (1, (.cells [(.d (.int .i64 (11 : Int))), (.d (.int .i64 (0 : Int))), (.d (.sl (List.map byteD ([] : List UInt8)))), (.d (.sl (List.map (rtE (z := 5)) j72_2))), (.d (.sl (List.map D.str ([] : List (List UInt8)))))]))]) (c' := 4) rfl rfl (by exact ⟨rfl, Nat.le_of_ble_eq_true rfl, rfl⟩) rfl rfl rfl rfl ?_
    refine RegV.p0 rfl rfl rfl ?_
    refine RegV.nil0 ?_
    refine AWc.seq ?_
    refine AWc.seq ?_
    refine AWc.rg hmix rfl rfl ?_
    refine RegV.p0 rfl rfl rfl ?_
    refine RegV.p0 (v := (.d (.bool (decide ((IntKind.i64.wrap ((1 : Int) + (IntKind.i64.wrap (Int.tmod (IntKind.u64.wrap a0) (70 : Int))))) > (64 : Int)))))) rfl rfl rfl ?_
    refine RegV.nil0 ?_
    refine AWc.cond rfl (fun c101 => ?_) (fun c101 => ?_)
    · have h := cond_pos c101 h
      refine AWc.seq ?_
      refine AWc.rg hmix rfl rfl ?_
      obtain ⟨r105, e105, h⟩ := bind_some h
      refine RegV.call0 (F459 hmix hc.2.2.2.1 e105) rfl rfl rfl rfl .nil rfl ?_
      refine RegV.p0 rfl rfl rfl ?_
      refine RegV.split (fun c106 => ?_) (fun c106 => ?_)
      · have h := cond_pos c106 h
        refine RegV.p0 rfl rfl rfl ?_
        refine RegV.p0 (v := (.d (.bool (decide (r77.2 = (5 : Int)))))) rfl rfl rfl ?_
        refine RegV.p0 rfl rfl rfl ?_
        refine RegV.p0 rfl rfl rfl ?_
        refine RegV.split (fun c110 => ?_) (fun c110 => ?_)
        · have h := cond_pos c110 h
          refine RegV.p0 rfl rfl rfl ?_
          refine RegV.len (xs := r77.1) (e := byteD) rfl rfl rfl rfl ?_
          refine RegV.p0 (v := (.d (.bool (decide (((r77.1.length : Nat) : Int) = (0 : Int)))))) rfl rfl rfl ?_
          refine RegV.p0 rfl rfl rfl ?_
          refine RegV.p0 rfl rfl rfl ?_
          refine RegV.split (fun c115 => ?_) (fun c115 => ?_)
          · have h := cond_pos c115 h
            refine RegV.p0 rfl rfl rfl ?_
            refine RegV.p0 (v := (.d (.bool (decide (r88.1 = (5 : Int)))))) rfl rfl rfl ?_
            refine RegV.p0 rfl rfl rfl ?_
            refine RegV.p0 rfl rfl rfl ?_
            refine RegV.nil0 ?_
            have hr := Option.some.inj h
            subst hr
            exact AWc.ret (canQ (N := 81) (k := 0) (l' := [(2, (.d (.bool (decide (r88.1 = (5 : Int))))))]) (H' := []) rfl ⟨rfl, [], [], rfl, rfl, ⟨⟨_, rfl, (.refl _)⟩, rfl, trivial⟩,  trivial⟩ (doneA (.inr rfl) rfl ⟨trivial, trivial⟩ (.refl _) hasNil))
          · have h := cond_neg c115 h
            refine RegV.noS rfl rfl ?_
            refine RegV.noS rfl rfl ?_
            refine RegV.p0 rfl rfl rfl ?_
            refine RegV.p0 rfl rfl rfl ?_
            refine RegV.nil0 ?_
            have hr := Option.some.inj h
            subst hr
            exact AWc.ret (canQ (N := 81) (k := 0) (l' := [(2, (.d (.bool false)))]) (H' := []) rfl ⟨rfl, [], [], rfl, rfl, ⟨⟨_, rfl, (.refl _)⟩, rfl, trivial⟩,  trivial⟩ (doneA (.inr rfl) rfl ⟨trivial, trivial⟩ (.refl _) hasNil))
        · have h := cond_neg c110 h
          refine RegV.noS rfl rfl ?_
          refine RegV.noS rfl rfl ?_
          refine RegV.noS rfl rfl ?_
          refine RegV.p0 rfl rfl rfl ?_
          refine RegV.p0 rfl rfl rfl ?_
          refine RegV.noS rfl rfl ?_
          refine RegV.noS rfl rfl ?_
          refine RegV.p0 rfl rfl rfl ?_
          refine RegV.p0 rfl rfl rfl ?_
          refine RegV.nil0 ?_
          have hr := Option.some.inj h
          subst hr
          exact AWc.ret (canQ (N := 81) (k := 0) (l' := [(2, (.d (.bool false)))]) (H' := []) rfl ⟨rfl, [], [], rfl, rfl, ⟨⟨_, rfl, (.refl _)⟩, rfl, trivial⟩,  trivial⟩ (doneA (.inr rfl) rfl ⟨trivial, trivial⟩ (.refl _) hasNil))
      · have h := cond_neg c106 h
        refine RegV.noS rfl rfl ?_
        refine RegV.noS rfl rfl ?_
        refine RegV.p0 rfl rfl rfl ?_
        refine RegV.p0 rfl rfl rfl ?_
        refine RegV.noS rfl rfl ?_
        refine RegV.noS rfl rfl ?_
        refine RegV.noS rfl rfl ?_
        refine RegV.p0 rfl rfl rfl ?_
        refine RegV.p0 rfl rfl rfl ?_
        refine RegV.noS rfl rfl ?_
        refine RegV.noS rfl rfl ?_
        refine RegV.p0 rfl rfl rfl ?_
        refine RegV.p0 rfl rfl rfl ?_
        refine RegV.nil0 ?_
        have hr := Option.some.inj h
        subst hr
        exact AWc.ret (canQ (N := 81) (k := 0) (l' := [(2, (.d (.bool false)))]) (H' := []) rfl ⟨rfl, [], [], rfl, rfl, ⟨⟨_, rfl, (.refl _)⟩, rfl, trivial⟩,  trivial⟩ (doneA (.inr rfl) rfl ⟨trivial, trivial⟩ (.refl _) hasNil))
    · have h := cond_neg c101 h
      refine AWc.skip ?_
      refine AWc.seq ?_
      refine AWc.rg hmix rfl rfl ?_
      obtain ⟨r125, e125, h⟩ := bind_some h
      refine RegV.call0 (F459 hmix hc.2.2.2.1 e125) rfl rfl rfl rfl .nil rfl ?_
      refine RegV.p0 rfl rfl rfl ?_
      refine RegV.split (fun c126 => ?_) (fun c126 => ?_)
      · have h := cond_pos c126 h
        refine RegV.p0 rfl rfl rfl ?_
        refine RegV.p0 (v := (.d (.bool (decide (r77.2 = (0 : Int)))))) rfl rfl rfl ?_
        refine RegV.p0 rfl rfl rfl ?_
        refine RegV.p0 rfl rfl rfl ?_
        refine RegV.split (fun c130 => ?_) (fun c130 => ?_)
        · have h := cond_pos c130 h
          refine RegV.p0 rfl rfl rfl ?_
          refine RegV.p0 rfl rfl rfl ?_
          obtain ⟨r133, e133, h⟩ := bind_some h
          refine RegV.call0 (F22 hmix hc.2.2.2.2.1 e133) rfl rfl rfl rfl (.cons (.sl rfl) (.cons (.refl _) .nil)) rfl ?_
          refine RegV.p0 rfl rfl rfl ?_
          refine RegV.p0 rfl rfl rfl ?_
          refine RegV.split (fun c135 => ?_) (fun c135 => ?_)
          · have h := cond_pos c135 h
            refine RegV.p0 rfl rfl rfl ?_
            refine RegV.p0 (v := (.d (.bool (decide (r88.1 = (0 : Int)))))) rfl rfl rfl ?_
            refine RegV.p0 rfl rfl rfl ?_
            refine RegV.p0 rfl rfl rfl ?_
            refine RegV.split (fun c139 => ?_) (fun c139 => ?_)
            · have h := cond_pos c139 h
              refine RegV.ld (v := (.d (.agg [(.int .i64 (11 : Int)), (.int .i64 (0 : Int)), (.sl (List.map byteD ([] : List UInt8))), (.sl (List.map (rtE (z := 5)) j72_2)), (.sl (List.map D.str ([] : List (List UInt8))))]))) (H' := [(1, (.cells [(.d (.int .i64 (11 : Int))), (.d (.int .i64 (0 : Int))), (.d (.sl (List.map byteD ([] : List UInt8)))), (.d (.sl (List.map (rtE (z := 5)) j72_2))), (.d (.sl (List.map D.str ([] : List (List UInt8)))))])), (3, (.cells [(.d (.int .i64 r88.2.1)), (.d (.int .i64 r88.2.2.1)), (.d (.sl (List.map byteD r88.2.2.2.1))), (.d (.sl (List.map (rtE (z := 5)) r88.2.2.2.2.1))), (.d (.sl (List.map D.str r88.2.2.2.2.2)))])), (0, (.cells [(.d (.sl (List.map TNode.enc ([(TNode.mk (11 : Int) ([] : List UInt8) ([] : List (List UInt8)) ([] : List TField) ([] : List (List UInt8)) false ([] : List UInt8) (0 : Int) ([] : List Int) (0 : Int))] : List TNode))))])), (2, (.tok ((List.map byteD r77.1).length * 1)))]) rfl rfl (Nat.le_of_ble_eq_true rfl) rfl rfl rfl rfl rfl ?_
              refine RegV.ld (v := (.d (.agg [(.int .i64 r88.2.1), (.int .i64 r88.2.2.1), (.sl (List.map byteD r88.2.2.2.1)), (.sl (List.map (rtE (z := 5)) r88.2.2.2.2.1)), (.sl (List.map D.str r88.2.2.2.2.2))]))) (H' := [(3, (.cells [(.d (.int .i64 r88.2.1)), (.d (.int .i64 r88.2.2.1)), (.d (.sl (List.map byteD r88.2.2.2.1))), (.d (.sl (List.map (rtE (z := 5)) r88.2.2.2.2.1))), (.d (.sl (List.map D.str r88.2.2.2.2.2)))])), (1, (.cells [(.d (.int .i64 (11 : Int))), (.d (.int .i64 (0 : Int))), (.d (.sl (List.map byteD ([] : List UInt8)))), (.d (.sl (List.map (rtE (z := 5)) j72_2))), (.d (.sl (List.map D.str ([] : List (List UInt8)))))])), (0, (.cells [(.d (.sl (List.map TNode.enc ([(TNode.mk (11 : Int) ([] : List UInt8) ([] : List (List UInt8)) ([] : List TField) ([] : List (List UInt8)) false ([] : List UInt8) (0 : Int) ([] : List Int) (0 : Int))] : List TNode))))])), (2, (.tok ((List.map byteD r77.1).length * 1)))]) rfl rfl (Nat.le_of_ble_eq_true rfl) rfl rfl rfl rfl rfl ?_
              obtain ⟨r142, e142, h⟩ := bind_some h
              refine RegV.call0 (F432 hmix hc.2.2.2.2.2 e142) rfl rfl rfl rfl (.cons (.refl _) (.cons (.refl _) .nil)) rfl ?_
              refine RegV.p0 rfl rfl rfl ?_
              refine RegV.p0 rfl rfl rfl ?_
              refine RegV.nil0 ?_
              have hr := Option.some.inj h
              subst hr
              exact AWc.ret (canQ (N := 81) (k := 0) (l' := [(2, (.d (.bool r142)))]) (H' := []) rfl ⟨rfl, [], [], rfl, rfl, ⟨⟨_, rfl, (.refl _)⟩, rfl, trivial⟩,  trivial⟩ (doneA (.inr rfl) rfl ⟨trivial, trivial⟩ (.refl _) hasNil))
            · have h := cond_neg c139 h
              refine RegV.noS rfl rfl ?_
              refine RegV.noS rfl rfl ?_
              refine RegV.noS rfl rfl ?_
              refine RegV.p0 rfl rfl rfl ?_
              refine RegV.p0 rfl rfl rfl ?_
              refine RegV.nil0 ?_
              have hr := Option.some.inj h
              subst hr
              exact AWc.ret (canQ (N := 81) (k := 0) (l' := [(2, (.d (.bool false)))]) (H' := []) rfl ⟨rfl, [], [], rfl, rfl, ⟨⟨_, rfl, (.refl _)⟩, rfl, trivial⟩,  trivial⟩ (doneA (.inr rfl) rfl ⟨trivial, trivial⟩ (.refl _) hasNil))
          · have h := cond_neg c135 h
            refine RegV.noS rfl rfl ?_
            refine RegV.noS rfl rfl ?_
            refine RegV.p0 rfl rfl rfl ?_
            refine RegV.p0 rfl rfl rfl ?_
            refine RegV.noS rfl rfl ?_
            refine RegV.noS rfl rfl ?_
            refine RegV.noS rfl rfl ?_
            refine RegV.p0 rfl rfl rfl ?_
            refine RegV.p0 rfl rfl rfl ?_
            refine RegV.nil0 ?_
            have hr := Option.some.inj h
            subst hr
            exact AWc.ret (canQ (N := 81) (k := 0) (l' := [(2, (.d (.bool false)))]) (H' := []) rfl ⟨rfl, [], [], rfl, rfl, ⟨⟨_, rfl, (.refl _)⟩, rfl, trivial⟩,  trivial⟩ (doneA (.inr rfl) rfl ⟨trivial, trivial⟩ (.refl _) hasNil))
        · have h := cond_neg c130 h
          refine RegV.noS rfl rfl ?_
          refine RegV.noS rfl rfl ?_
          refine RegV.noS rfl rfl ?_
          refine RegV.p0 rfl rfl rfl ?_
          refine RegV.p0 rfl rfl rfl ?_
          refine RegV.noS rfl rfl ?_
          refine RegV.noS rfl rfl ?_
          refine RegV.p0 rfl rfl rfl ?_
          refine RegV.p0 rfl rfl rfl ?_
          refine RegV.noS rfl rfl ?_
          refine RegV.noS rfl rfl ?_
          refine RegV.noS rfl rfl ?_
          refine RegV.p0 rfl rfl rfl ?_
          refine RegV.p0 rfl rfl rfl ?_
          refine RegV.nil0 ?_
          have hr := Option.some.inj h
          subst hr
          exact AWc.ret (canQ (N := 81) (k := 0) (l' := [(2, (.d (.bool false)))]) (H' := []) rfl ⟨rfl, [], [], rfl, rfl, ⟨⟨_, rfl, (.refl _)⟩, rfl, trivial⟩,  trivial⟩ (doneA (.inr rfl) rfl ⟨trivial, trivial⟩ (.refl _) hasNil))
      · have h := cond_neg c126 h
        refine RegV.noS rfl rfl ?_
        refine RegV.noS rfl rfl ?_
        refine RegV.p0 rfl rfl rfl ?_
        refine RegV.p0 rfl rfl rfl ?_
        refine RegV.noS rfl rfl ?_
        refine RegV.noS rfl rfl ?_
        refine RegV.noS rfl rfl ?_
        refine RegV.p0 rfl rfl rfl ?_
        refine RegV.p0 rfl rfl rfl ?_
        refine RegV.noS rfl rfl ?_
        refine RegV.noS rfl rfl ?_
        refine RegV.p0 rfl rfl rfl ?_
        refine RegV.p0 rfl rfl rfl ?_
        refine RegV.noS rfl rfl ?_
        refine RegV.noS rfl rfl ?_
        refine RegV.noS rfl rfl ?_
        refine RegV.p0 rfl rfl rfl ?_
        refine RegV.p0 rfl rfl rfl ?_
        refine RegV.nil0 ?_
        have hr := Option.some.inj h
        subst hr
        exact AWc.ret (canQ (N := 81) (k := 0) (l' := [(2, (.d (.bool false)))]) (H' := []) rfl ⟨rfl, [], [], rfl, rfl, ⟨⟨_, rfl, (.refl _)⟩, rfl, trivial⟩,  trivial⟩ (doneA (.inr rfl) rfl ⟨trivial, trivial⟩ (.refl _) hasNil))
end Go.Proofs.Abs
