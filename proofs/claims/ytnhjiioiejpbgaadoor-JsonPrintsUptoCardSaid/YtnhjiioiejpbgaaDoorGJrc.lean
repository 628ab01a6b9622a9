/- Written by gen.py: functions of the program as Lean functions, and that the code comes to them. -/
import Derived.Test.YtnhjiioiejpbgaaDoorGJrb
set_option linter.unusedVariables false
set_option linter.unusedSimpArgs false
set_option maxRecDepth 100000
set_option maxHeartbeats 4000000
namespace Go.Proofs.Abs
open Go
/-- courant/courantref02.Quote -/
def C356 (N : Nat → Nat) : AFunc := { n := 58, params := 1, res := [.tmp 2], body :=
 (.seq (.region false [⟨(some 2), .mv (.k (.d (.str []))), none, []⟩])
  (.seq (.region false [⟨(some 3), .mv (.k (.d (.str [34]))), none, []⟩])
   (.seq (.seq (.region false [⟨(some 4), .mv (.k (.d (.int .i64 0))), none, []⟩])
     (.block 0 (.loop (.seq (.seq (.region false [⟨(some 6), .mv (.t 4), none, []⟩,
          ⟨(some 7), .mv (.t 0), none, []⟩,
          ⟨(some 8), .slen (.t 7), none, [1]⟩,
          ⟨(some 9), .bin .lss (.t 6) (.t 8), none, [0, 2]⟩])
         (.cond (.t 9) (.skip)
          (.exit 0)))
        (.seq (.block 1 (.seq (.region false [⟨(some 12), .mv (.t 0), none, []⟩,
            ⟨(some 13), .mv (.t 4), none, []⟩,
            ⟨(some 14), .idx (.t 12) (.t 13), none, [0, 1]⟩,
            ⟨(some 5), .mv (.t 14), none, [2, 0, 1]⟩])
           (.block 2 (.seq (.region false [⟨(some 23), .mv (.t 5), none, []⟩,
              ⟨(some 24), .bin .eql (.t 23) (.k (.d (.int .u8 34))), none, [0]⟩,
              ⟨(some 25), .mv (.t 24), none, [1]⟩,
              ⟨(some 26), .mv (.t 5), (some (25, false)), [2]⟩,
              ⟨(some 27), .bin .eql (.t 26) (.k (.d (.int .u8 92))), (some (25, false)), [3, 2]⟩,
              ⟨(some 28), .pick (.t 25) (.k (.d (.bool true))) (.t 27), none, [2, 4]⟩,
              ⟨(some 22), .mv (.t 28), none, [5, 2]⟩])
             (.cond (.t 22) (.region false [⟨(some 29), .mv (.t 3), none, []⟩,
               ⟨(some 30), .bin .add (.t 29) (.k (.d (.str [92]))), none, [0]⟩,
               ⟨(some 31), .mv (.t 0), none, []⟩,
               ⟨(some 32), .mv (.t 4), none, []⟩,
               ⟨(some 33), .mv (.t 4), none, []⟩,
               ⟨(some 34), .bin .add (.t 33) (.k (.d (.int .i64 1))), none, [4]⟩,
               ⟨(some 35), .ssl (.t 31) (some (.t 32)) (some (.t 34)), none, [2, 3, 5]⟩,
               ⟨(some 36), .bin .add (.t 30) (.t 35), none, [1, 6]⟩,
               ⟨(some 3), .mv (.t 36), none, [7, 0, 1, 2, 3, 4, 5, 6]⟩])
              (.seq (.region false [⟨(some 38), .mv (.t 5), none, []⟩,
                ⟨(some 39), .bin .lss (.t 38) (.k (.d (.int .u8 32))), none, [0]⟩,
                ⟨(some 37), .mv (.t 39), none, [1]⟩])
               (.cond (.t 37) (.region true [⟨(some 40), .mv (.t 3), none, []⟩,
                 ⟨(some 41), .bin .add (.t 40) (.k (.d (.str [92, 117, 48, 48]))), none, [0]⟩,
                 ⟨(some 42), .mv (.t 5), none, []⟩,
                 ⟨(some 43), .bin .shr (.t 42) (.k (.d (.int .u64 4))), none, [2]⟩,
                 ⟨(some 44), .mv (.t 5), none, []⟩,
                 ⟨(some 45), .bin .shr (.t 44) (.k (.d (.int .u64 4))), none, [4]⟩,
                 ⟨(some 46), .bin .add (.t 45) (.k (.d (.int .u8 1))), none, [5]⟩,
                 ⟨(some 47), .ssl (.k (.d (.str [48, 49, 50, 51, 52, 53, 54, 55, 56, 57, 97, 98, 99, 100, 101, 102]))) (some (.t 43)) (some (.t 46)), none, [3, 6]⟩,
                 ⟨(some 48), .bin .add (.t 41) (.t 47), none, [1, 7]⟩,
                 ⟨(some 49), .mv (.t 5), none, []⟩,
                 ⟨(some 50), .bin .and (.t 49) (.k (.d (.int .u8 15))), none, [9]⟩,
                 ⟨(some 51), .mv (.t 5), none, []⟩,
                 ⟨(some 52), .bin .and (.t 51) (.k (.d (.int .u8 15))), none, [11]⟩,
                 ⟨(some 53), .bin .add (.t 52) (.k (.d (.int .u8 1))), none, [12]⟩,
                 ⟨(some 54), .ssl (.k (.d (.str [48, 49, 50, 51, 52, 53, 54, 55, 56, 57, 97, 98, 99, 100, 101, 102]))) (some (.t 50)) (some (.t 53)), none, [10, 13]⟩,
                 ⟨(some 55), .bin .add (.t 48) (.t 54), none, [8, 14]⟩,
                 ⟨(some 3), .mv (.t 55), none, [15, 0, 1, 2, 3, 4, 5, 6, 7, 8, 9, 10, 11, 12, 13, 14]⟩])
                (.region false [⟨(some 15), .mv (.t 3), none, []⟩,
                 ⟨(some 16), .mv (.t 0), none, []⟩,
                 ⟨(some 17), .mv (.t 4), none, []⟩,
                 ⟨(some 18), .mv (.t 4), none, []⟩,
                 ⟨(some 19), .bin .add (.t 18) (.k (.d (.int .i64 1))), none, [3]⟩,
                 ⟨(some 20), .ssl (.t 16) (some (.t 17)) (some (.t 19)), none, [1, 2, 4]⟩,
                 ⟨(some 21), .bin .add (.t 15) (.t 20), none, [0, 5]⟩,
                 ⟨(some 3), .mv (.t 21), none, [6, 0, 1, 2, 3, 4, 5]⟩]))))))))
         (.region false [⟨(some 10), .mv (.t 4), none, []⟩,
          ⟨(some 11), .bin .add (.t 10) (.k (.d (.int .i64 1))), none, [0]⟩,
          ⟨(some 4), .mv (.t 11), none, [1, 0]⟩]))))))
    (.seq (.region false [⟨(some 56), .mv (.t 3), none, []⟩,
      ⟨(some 57), .bin .add (.t 56) (.k (.d (.str [34]))), none, [0]⟩,
      ⟨(some 2), .mv (.t 57), none, [1, 0]⟩])
     .ret)))) }
def HC356 (P : Program) (N : Nat → Nat) : Prop := HasF P (N 356) (C356 N)
def f356_j100 (k : Nat) (j100_1 : (List UInt8)) : Option (List UInt8) := gd (j100_1.length + ([34] : List UInt8).length ≤ 9223372036854775807) (some (j100_1 ++ ([34] : List UInt8)))
def f356_j47 (L : (List UInt8) → Int → Option (LR2 (List UInt8) Unit (List UInt8))) (k : Nat) (y14_1 : (List UInt8)) (y14_2 : Int) (a0 : (List UInt8)) (j47_1 : Bool) : Option (LR2 (List UInt8) Unit (List UInt8)) := cond j47_1 (gd (y14_1.length + ([92] : List UInt8).length ≤ 9223372036854775807) (gd (0 ≤ y14_2 ∧ y14_2 ≤ (IntKind.i64.wrap (y14_2 + (1 : Int))) ∧ (IntKind.i64.wrap (y14_2 + (1 : Int))) ≤ ((a0.length : Nat) : Int)) (gd ((y14_1 ++ ([92] : List UInt8)).length + (sl a0 y14_2 (IntKind.i64.wrap (y14_2 + (1 : Int)))).length ≤ 9223372036854775807) (L ((y14_1 ++ ([92] : List UInt8)) ++ (sl a0 y14_2 (IntKind.i64.wrap (y14_2 + (1 : Int))))) (IntKind.i64.wrap (y14_2 + (1 : Int))))))) (cond (decide ((((a0.getD (y14_2).toNat 0).toNat : Nat) : Int) < (32 : Int))) (gd (y14_1.length + ([92, 117, 48, 48] : List UInt8).length ≤ 9223372036854775807) (gd (0 ≤ (Int.fdiv (((a0.getD (y14_2).toNat 0).toNat : Nat) : Int) (2 ^ (min ((4 : Int)).toNat IntKind.u8.bits))) ∧ (Int.fdiv (((a0.getD (y14_2).toNat 0).toNat : Nat) : Int) (2 ^ (min ((4 : Int)).toNat IntKind.u8.bits))) ≤ (((u8 (IntKind.u8.wrap ((Int.fdiv (((a0.getD (y14_2).toNat 0).toNat : Nat) : Int) (2 ^ (min ((4 : Int)).toNat IntKind.u8.bits))) + (1 : Int)))).toNat : Nat) : Int) ∧ (((u8 (IntKind.u8.wrap ((Int.fdiv (((a0.getD (y14_2).toNat 0).toNat : Nat) : Int) (2 ^ (min ((4 : Int)).toNat IntKind.u8.bits))) + (1 : Int)))).toNat : Nat) : Int) ≤ ((([48, 49, 50, 51, 52, 53, 54, 55, 56, 57, 97, 98, 99, 100, 101, 102] : List UInt8).length : Nat) : Int)) (gd ((y14_1 ++ ([92, 117, 48, 48] : List UInt8)).length + (sl ([48, 49, 50, 51, 52, 53, 54, 55, 56, 57, 97, 98, 99, 100, 101, 102] : List UInt8) (Int.fdiv (((a0.getD (y14_2).toNat 0).toNat : Nat) : Int) (2 ^ (min ((4 : Int)).toNat IntKind.u8.bits))) (((u8 (IntKind.u8.wrap ((Int.fdiv (((a0.getD (y14_2).toNat 0).toNat : Nat) : Int) (2 ^ (min ((4 : Int)).toNat IntKind.u8.bits))) + (1 : Int)))).toNat : Nat) : Int)).length ≤ 9223372036854775807) (gd (0 ≤ (((u8 (bitsA .and .u8 (((a0.getD (y14_2).toNat 0).toNat : Nat) : Int) (15 : Int))).toNat : Nat) : Int) ∧ (((u8 (bitsA .and .u8 (((a0.getD (y14_2).toNat 0).toNat : Nat) : Int) (15 : Int))).toNat : Nat) : Int) ≤ (((u8 (IntKind.u8.wrap ((((u8 (bitsA .and .u8 (((a0.getD (y14_2).toNat 0).toNat : Nat) : Int) (15 : Int))).toNat : Nat) : Int) + (1 : Int)))).toNat : Nat) : Int) ∧ (((u8 (IntKind.u8.wrap ((((u8 (bitsA .and .u8 (((a0.getD (y14_2).toNat 0).toNat : Nat) : Int) (15 : Int))).toNat : Nat) : Int) + (1 : Int)))).toNat : Nat) : Int) ≤ ((([48, 49, 50, 51, 52, 53, 54, 55, 56, 57, 97, 98, 99, 100, 101, 102] : List UInt8).length : Nat) : Int)) (gd (((y14_1 ++ ([92, 117, 48, 48] : List UInt8)) ++ (sl ([48, 49, 50, 51, 52, 53, 54, 55, 56, 57, 97, 98, 99, 100, 101, 102] : List UInt8) (Int.fdiv (((a0.getD (y14_2).toNat 0).toNat : Nat) : Int) (2 ^ (min ((4 : Int)).toNat IntKind.u8.bits))) (((u8 (IntKind.u8.wrap ((Int.fdiv (((a0.getD (y14_2).toNat 0).toNat : Nat) : Int) (2 ^ (min ((4 : Int)).toNat IntKind.u8.bits))) + (1 : Int)))).toNat : Nat) : Int))).length + (sl ([48, 49, 50, 51, 52, 53, 54, 55, 56, 57, 97, 98, 99, 100, 101, 102] : List UInt8) (((u8 (bitsA .and .u8 (((a0.getD (y14_2).toNat 0).toNat : Nat) : Int) (15 : Int))).toNat : Nat) : Int) (((u8 (IntKind.u8.wrap ((((u8 (bitsA .and .u8 (((a0.getD (y14_2).toNat 0).toNat : Nat) : Int) (15 : Int))).toNat : Nat) : Int) + (1 : Int)))).toNat : Nat) : Int)).length ≤ 9223372036854775807) (L (((y14_1 ++ ([92, 117, 48, 48] : List UInt8)) ++ (sl ([48, 49, 50, 51, 52, 53, 54, 55, 56, 57, 97, 98, 99, 100, 101, 102] : List UInt8) (Int.fdiv (((a0.getD (y14_2).toNat 0).toNat : Nat) : Int) (2 ^ (min ((4 : Int)).toNat IntKind.u8.bits))) (((u8 (IntKind.u8.wrap ((Int.fdiv (((a0.getD (y14_2).toNat 0).toNat : Nat) : Int) (2 ^ (min ((4 : Int)).toNat IntKind.u8.bits))) + (1 : Int)))).toNat : Nat) : Int))) ++ (sl ([48, 49, 50, 51, 52, 53, 54, 55, 56, 57, 97, 98, 99, 100, 101, 102] : List UInt8) (((u8 (bitsA .and .u8 (((a0.getD (y14_2).toNat 0).toNat : Nat) : Int) (15 : Int))).toNat : Nat) : Int) (((u8 (IntKind.u8.wrap ((((u8 (bitsA .and .u8 (((a0.getD (y14_2).toNat 0).toNat : Nat) : Int) (15 : Int))).toNat : Nat) : Int) + (1 : Int)))).toNat : Nat) : Int))) (IntKind.i64.wrap (y14_2 + (1 : Int))))))))) (gd (0 ≤ y14_2 ∧ y14_2 ≤ (IntKind.i64.wrap (y14_2 + (1 : Int))) ∧ (IntKind.i64.wrap (y14_2 + (1 : Int))) ≤ ((a0.length : Nat) : Int)) (gd (y14_1.length + (sl a0 y14_2 (IntKind.i64.wrap (y14_2 + (1 : Int)))).length ≤ 9223372036854775807) (L (y14_1 ++ (sl a0 y14_2 (IntKind.i64.wrap (y14_2 + (1 : Int))))) (IntKind.i64.wrap (y14_2 + (1 : Int)))))))
def f356_l14 (a0 : (List UInt8)) : Nat → (List UInt8) → Int → Option (LR2 (List UInt8) Unit (List UInt8))
  | 0, _, _ => none
  | k + 1, y14_1, y14_2 => cond (decide (y14_2 < ((a0.length : Nat) : Int))) (gd (0 ≤ y14_2 ∧ y14_2 < ((a0.length : Nat) : Int)) (cond (decide ((((a0.getD (y14_2).toNat 0).toNat : Nat) : Int) = (34 : Int))) (f356_j47 (f356_l14 a0 k) k y14_1 y14_2 a0 true) (f356_j47 (f356_l14 a0 k) k y14_1 y14_2 a0 (decide ((((a0.getD (y14_2).toNat 0).toNat : Nat) : Int) = (92 : Int)))))) (some (.b0 y14_1))
def f356 (k : Nat) (a0 : (List UInt8)) : Option (List UInt8) := (f356_l14 a0 k ([34] : List UInt8) (0 : Int)).bind fun o14 => (match o14 with | .b0 x14_1 => f356_j100 k x14_1 | _ => none)
theorem F356 {P : Program} {N : Nat → Nat} (hmix : P.follows .mixedOrders = true) (hc : HC356 P N) {k : Nat} {a0 : (List UInt8)} {r : (List UInt8)} (h : f356 k a0 = some r) :
    ACalls P (N 356) [(.d (.str a0))] [] (.d (.str r)) [] := by
  refine acalls_canon (F := C356 N) hc 0 0 rfl ?_
  unfold f356 at h
  dsimp only [C356, startL]
  refine AWc.seq ?_
  refine AWc.rE hmix [] ?_
  refine AWc.seq ?_
  refine AWc.rE hmix [] ?_
  refine AWc.seqS (N := 58) 0 (fun (z : (List UInt8)) => [(3, (.d (.str z)))]) (fun z => []) (fun z => f356_j100 k z = some r) rfl_le ?_ ?_
  · refine AWc.seq ?_
    refine AWc.rE hmix [] ?_
    obtain ⟨o14, h14, h⟩ := bind_some h
    refine AWc.block ?_
    refine AWc.loopK (N := 58) 0 (fun (x : ((List UInt8) × Int)) => [(0, (.d (.str a0))), (3, (.d (.str x.1))), (4, (.d (.int .i64 x.2)))]) (fun x => []) (fun k x => f356_l14 a0 k x.1 x.2 = some o14) k (([34] : List UInt8), (0 : Int)) rfl_le (fun x hx => by cases hx) h14 (inT [] []) ?_
    clear h14
    intro k
    rintro ⟨y14_1, y14_2⟩ h14
    dsimp only at h14 ⊢
    rw [f356_l14] at h14
    refine AWc.seq ?_
    refine AWc.seq ?_
    refine AWc.rE hmix [] ?_
    rcases cc h14 with ⟨c24, h14⟩ | ⟨c24, h14⟩
    · refine AWc.cT c24 ?_
      refine AWc.skip ?_
      refine AWc.seq ?_
      refine AWc.block ?_
      refine AWc.seq ?_
      obtain ⟨b34, h14⟩ := gd_some h14
      refine AWc.rE hmix [.sd b34] ?_
      refine AWc.block ?_
      refine AWc.seqS (N := 58) 0 (fun (z : Bool) => [(0, (.d (.str a0))), (3, (.d (.str y14_1))), (4, (.d (.int .i64 y14_2))), (5, (.d (.int .u8 (((a0.getD (y14_2).toNat 0).toNat : Nat) : Int)))), (22, (.d (.bool z))), (26, .any), (27, .any)]) (fun z => []) (fun z => f356_j47 (f356_l14 a0 k) k y14_1 y14_2 a0 z = some o14) rfl_le ?_ ?_
      · rcases cc h14 with ⟨c42, h14⟩ | ⟨c42, h14⟩
        · refine AWc.rE hmix [.br c42] ?_
          exact ⟨true, h14, (inT [] [])⟩
        · refine AWc.rE hmix [.br c42] ?_
          exact ⟨(decide ((((a0.getD (y14_2).toNat 0).toNat : Nat) : Int) = (92 : Int))), h14, (inT [] [])⟩
      · intro j47_1 h14
        unfold f356_j47 at h14
        rcases cc h14 with ⟨c47, h14⟩ | ⟨c47, h14⟩
        · refine AWc.cT c47 ?_
          obtain ⟨b51, h14⟩ := gd_some h14
          obtain ⟨b56, h14⟩ := gd_some h14
          obtain ⟨b57, h14⟩ := gd_some h14
          refine AWc.rE hmix [.sd b51, .sd b56, .sd b57] ?_
          refine AWc.rE hmix [] ?_
          exact ⟨(((y14_1 ++ ([92] : List UInt8)) ++ (sl a0 y14_2 (IntKind.i64.wrap (y14_2 + (1 : Int))))), (IntKind.i64.wrap (y14_2 + (1 : Int)))), h14, (inT [] [])⟩
        · refine AWc.cF c47 ?_
          refine AWc.seq ?_
          refine AWc.rE hmix [] ?_
          rcases cc h14 with ⟨c65, h14⟩ | ⟨c65, h14⟩
          · refine AWc.cT c65 ?_
            obtain ⟨b69, h14⟩ := gd_some h14
            obtain ⟨b75, h14⟩ := gd_some h14
            obtain ⟨b76, h14⟩ := gd_some h14
            obtain ⟨b82, h14⟩ := gd_some h14
            obtain ⟨b83, h14⟩ := gd_some h14
            refine AWc.rE hmix [.sd b69, .sd (p := 0 ≤ (4 : Int)) (by decide), .sd (p := 0 ≤ (4 : Int)) (by decide), .sd b75, .sd b76, .sd b82, .sd b83] ?_
            refine AWc.rE hmix [] ?_
            exact ⟨((((y14_1 ++ ([92, 117, 48, 48] : List UInt8)) ++ (sl ([48, 49, 50, 51, 52, 53, 54, 55, 56, 57, 97, 98, 99, 100, 101, 102] : List UInt8) (Int.fdiv (((a0.getD (y14_2).toNat 0).toNat : Nat) : Int) (2 ^ (min ((4 : Int)).toNat IntKind.u8.bits))) (((u8 (IntKind.u8.wrap ((Int.fdiv (((a0.getD (y14_2).toNat 0).toNat : Nat) : Int) (2 ^ (min ((4 : Int)).toNat IntKind.u8.bits))) + (1 : Int)))).toNat : Nat) : Int))) ++ (sl ([48, 49, 50, 51, 52, 53, 54, 55, 56, 57, 97, 98, 99, 100, 101, 102] : List UInt8) (((u8 (bitsA .and .u8 (((a0.getD (y14_2).toNat 0).toNat : Nat) : Int) (15 : Int))).toNat : Nat) : Int) (((u8 (IntKind.u8.wrap ((((u8 (bitsA .and .u8 (((a0.getD (y14_2).toNat 0).toNat : Nat) : Int) (15 : Int))).toNat : Nat) : Int) + (1 : Int)))).toNat : Nat) : Int))), (IntKind.i64.wrap (y14_2 + (1 : Int)))), h14, (inT [] [])⟩
          · refine AWc.cF c65 ?_
            obtain ⟨b92, h14⟩ := gd_some h14
            obtain ⟨b93, h14⟩ := gd_some h14
            refine AWc.rE hmix [.sd b92, .sd b93] ?_
            refine AWc.rE hmix [] ?_
            exact ⟨((y14_1 ++ (sl a0 y14_2 (IntKind.i64.wrap (y14_2 + (1 : Int))))), (IntKind.i64.wrap (y14_2 + (1 : Int)))), h14, (inT [] [])⟩
    · refine AWc.cF c24 ?_
      cases h14
      dsimp only at h
      refine AWc.exit ?_
      refine inBlk_eq ?_
      exact ⟨y14_1, h, (inT [] [])⟩
  · intro j100_1 h
    unfold f356_j100 at h
    refine AWc.seq ?_
    obtain ⟨b104, h⟩ := gd_some h
    refine AWc.rE hmix [.sd b104] ?_
    have hr := Option.some.inj h
    subst hr
    exact AWc.ret (canQ (N := 58) (k := 0) (l' := [(2, (.d (.str (j100_1 ++ ([34] : List UInt8)))))]) (H' := []) rfl (inT [] []) (doneA (.inr rfl) rfl ⟨trivial, trivial⟩ (.refl _) hasNil))
/-- courant/courantref02.print -/
def C355 (N : Nat → Nat) : AFunc := { n := 63, params := 1, res := [.tmp 2], body :=
 (.seq (.region false [⟨(some 1), .box (.t 0), none, []⟩,
   ⟨(some 2), .mv (.k (.d (.str []))), none, []⟩])
  (.seq (.seq (.region false [⟨(some 5), .faddr (.t 1) 0, none, []⟩,
     ⟨(some 6), .load (.t 5) 1 false, none, [0]⟩])
    (.block 0 (.seq (.region false [⟨(some 8), .bin .eql (.t 6) (.k (.d (.int .i64 1))), none, []⟩,
       ⟨(some 7), .mv (.t 8), none, [0]⟩])
      (.cond (.t 7) (.seq (.region false [⟨(some 2), .mv (.k (.d (.str [110, 117, 108, 108]))), none, []⟩])
        .ret)
       (.seq (.region false [⟨(some 10), .bin .eql (.t 6) (.k (.d (.int .i64 2))), none, []⟩,
         ⟨(some 9), .mv (.t 10), none, [0]⟩])
        (.cond (.t 9) (.seq (.region false [⟨(some 2), .mv (.k (.d (.str [102, 97, 108, 115, 101]))), none, []⟩])
          .ret)
         (.seq (.region false [⟨(some 12), .bin .eql (.t 6) (.k (.d (.int .i64 3))), none, []⟩,
           ⟨(some 11), .mv (.t 12), none, [0]⟩])
          (.cond (.t 11) (.seq (.region false [⟨(some 2), .mv (.k (.d (.str [116, 114, 117, 101]))), none, []⟩])
            .ret)
           (.seq (.region false [⟨(some 14), .bin .eql (.t 6) (.k (.d (.int .i64 4))), none, []⟩,
             ⟨(some 13), .mv (.t 14), none, [0]⟩])
            (.cond (.t 13) (.seq (.region false [⟨(some 15), .faddr (.t 1) 1, none, []⟩,
               ⟨(some 16), .load (.t 15) 1 false, none, [0]⟩,
               ⟨(some 2), .mv (.t 16), none, [1, 0]⟩])
              .ret)
             (.seq (.region false [⟨(some 18), .bin .eql (.t 6) (.k (.d (.int .i64 5))), none, []⟩,
               ⟨(some 17), .mv (.t 18), none, [0]⟩])
              (.cond (.t 17) (.seq (.region false [⟨(some 19), .faddr (.t 1) 1, none, []⟩,
                 ⟨(some 20), .load (.t 19) 1 false, none, [0]⟩,
                 ⟨(some 21), .call (.k (.d (.fn (N 356)))) [(.t 20)], none, [1]⟩,
                 ⟨(some 2), .mv (.t 21), none, [2, 0, 1]⟩])
                .ret)
               (.skip)))))))))))))
   (.seq (.region false [⟨(some 3), .mv (.k (.d (.str [91]))), none, []⟩])
    (.seq (.seq (.region false [⟨(some 22), .faddr (.t 1) 0, none, []⟩,
       ⟨(some 23), .load (.t 22) 1 false, none, [0]⟩,
       ⟨(some 24), .bin .eql (.t 23) (.k (.d (.int .i64 7))), none, [1]⟩])
      (.cond (.t 24) (.region false [⟨(some 3), .mv (.k (.d (.str [123]))), none, []⟩])
       (.skip)))
     (.seq (.seq (.region false [⟨(some 4), .mv (.k (.d (.int .i64 0))), none, []⟩])
       (.block 1 (.loop (.seq (.seq (.region false [⟨(some 25), .mv (.t 4), none, []⟩,
            ⟨(some 26), .faddr (.t 1) 2, none, []⟩,
            ⟨(some 27), .load (.t 26) 1 false, none, [1]⟩,
            ⟨(some 28), .len (.t 27), none, [2]⟩,
            ⟨(some 29), .bin .lss (.t 25) (.t 28), none, [0, 3]⟩])
           (.cond (.t 29) (.skip)
            (.exit 1)))
          (.seq (.block 2 (.seq (.seq (.region false [⟨(some 32), .mv (.t 4), none, []⟩,
               ⟨(some 33), .bin .gtr (.t 32) (.k (.d (.int .i64 0))), none, [0]⟩])
              (.cond (.t 33) (.region false [⟨(some 34), .mv (.t 3), none, []⟩,
                ⟨(some 35), .bin .add (.t 34) (.k (.d (.str [44]))), none, [0]⟩,
                ⟨(some 3), .mv (.t 35), none, [1, 0]⟩])
               (.skip)))
             (.seq (.seq (.region false [⟨(some 36), .faddr (.t 1) 0, none, []⟩,
                ⟨(some 37), .load (.t 36) 1 false, none, [0]⟩,
                ⟨(some 38), .bin .eql (.t 37) (.k (.d (.int .i64 7))), none, [1]⟩])
               (.cond (.t 38) (.region false [⟨(some 39), .mv (.t 3), none, []⟩,
                 ⟨(some 40), .faddr (.t 1) 3, none, []⟩,
                 ⟨(some 41), .load (.t 40) 1 false, none, [1]⟩,
                 ⟨(some 42), .mv (.t 4), none, []⟩,
                 ⟨(some 43), .iaddr (.t 41) (.t 42) 1, none, [2, 3]⟩,
                 ⟨(some 44), .load (.t 43) 1 false, none, [4]⟩,
                 ⟨(some 45), .call (.k (.d (.fn (N 356)))) [(.t 44)], none, [5]⟩,
                 ⟨(some 46), .bin .add (.t 39) (.t 45), none, [0, 6]⟩,
                 ⟨(some 47), .bin .add (.t 46) (.k (.d (.str [58]))), none, [7]⟩,
                 ⟨(some 3), .mv (.t 47), none, [8, 6, 0, 1, 2, 3, 4, 5, 7]⟩])
                (.skip)))
              (.region false [⟨(some 48), .mv (.t 3), none, []⟩,
               ⟨(some 49), .faddr (.t 1) 2, none, []⟩,
               ⟨(some 50), .load (.t 49) 1 false, none, [1]⟩,
               ⟨(some 51), .mv (.t 4), none, []⟩,
               ⟨(some 52), .iaddr (.t 50) (.t 51) 4, none, [2, 3]⟩,
               ⟨(some 53), .load (.t 52) 4 true, none, [4]⟩,
               ⟨(some 54), .call (.k (.d (.fn (N 355)))) [(.t 53)], none, [5]⟩,
               ⟨(some 55), .bin .add (.t 48) (.t 54), none, [0, 6]⟩,
               ⟨(some 3), .mv (.t 55), none, [7, 6, 0, 1, 2, 3, 4, 5]⟩]))))
           (.region false [⟨(some 30), .mv (.t 4), none, []⟩,
            ⟨(some 31), .bin .add (.t 30) (.k (.d (.int .i64 1))), none, [0]⟩,
            ⟨(some 4), .mv (.t 31), none, [1, 0]⟩]))))))
      (.seq (.seq (.region false [⟨(some 56), .faddr (.t 1) 0, none, []⟩,
         ⟨(some 57), .load (.t 56) 1 false, none, [0]⟩,
         ⟨(some 58), .bin .eql (.t 57) (.k (.d (.int .i64 7))), none, [1]⟩])
        (.cond (.t 58) (.seq (.region false [⟨(some 59), .mv (.t 3), none, []⟩,
           ⟨(some 60), .bin .add (.t 59) (.k (.d (.str [125]))), none, [0]⟩,
           ⟨(some 2), .mv (.t 60), none, [1, 0]⟩])
          .ret)
         (.skip)))
       (.seq (.region false [⟨(some 61), .mv (.t 3), none, []⟩,
         ⟨(some 62), .bin .add (.t 61) (.k (.d (.str [93]))), none, [0]⟩,
         ⟨(some 2), .mv (.t 62), none, [1, 0]⟩])
        .ret))))))) }
def HC355 (P : Program) (N : Nat → Nat) : Prop := HasF P (N 355) (C355 N) ∧ HC356 P N
def f355_j161 (k : Nat) (a0 : TJson) (j161_1 : (List UInt8)) : Option (List UInt8) := cond (decide (a0.fKind = (7 : Int))) (gd (j161_1.length + ([125] : List UInt8).length ≤ 9223372036854775807) (some (j161_1 ++ ([125] : List UInt8)))) (gd (j161_1.length + ([93] : List UInt8).length ≤ 9223372036854775807) (some (j161_1 ++ ([93] : List UInt8))))
def f355_j145 (L : (List UInt8) → Int → Option (LR2 (List UInt8) Unit (List UInt8))) (k : Nat) (y95_2 : Int) (a0 : TJson) (rc355 : TJson → Option (List UInt8)) (j145_1 : (List UInt8)) : Option (LR2 (List UInt8) Unit (List UInt8)) := gd (0 ≤ y95_2 ∧ y95_2 < ((a0.fL.length : Nat) : Int)) ((TJson.dec (rtE (rd a0.fL y95_2))).bind fun rx151 => (rc355 rx151).bind fun r153 => gd (j145_1.length + r153.length ≤ 9223372036854775807) (L (j145_1 ++ r153) (IntKind.i64.wrap (y95_2 + (1 : Int)))))
def f355_j124 (L : (List UInt8) → Int → Option (LR2 (List UInt8) Unit (List UInt8))) (k : Nat) (a0 : TJson) (y95_2 : Int) (rc355 : TJson → Option (List UInt8)) (j124_1 : (List UInt8)) : Option (LR2 (List UInt8) Unit (List UInt8)) := cond (decide (a0.fKind = (7 : Int))) (gd (0 ≤ y95_2 ∧ y95_2 < ((a0.fKeys.length : Nat) : Int)) ((f356 k (rd a0.fKeys y95_2)).bind fun r140 => gd (j124_1.length + r140.length ≤ 9223372036854775807) (gd ((j124_1 ++ r140).length + ([58] : List UInt8).length ≤ 9223372036854775807) (f355_j145 (L) k y95_2 a0 rc355 ((j124_1 ++ r140) ++ ([58] : List UInt8)))))) (f355_j145 (L) k y95_2 a0 rc355 j124_1)
def f355_l95 (a0 : TJson) (rc355 : TJson → Option (List UInt8)) : Nat → (List UInt8) → Int → Option (LR2 (List UInt8) Unit (List UInt8))
  | 0, _, _ => none
  | k + 1, y95_1, y95_2 => cond (decide (y95_2 < ((a0.fL.length : Nat) : Int))) (cond (decide (y95_2 > (0 : Int))) (gd (y95_1.length + ([44] : List UInt8).length ≤ 9223372036854775807) (f355_j124 (f355_l95 a0 rc355 k) k a0 y95_2 rc355 (y95_1 ++ ([44] : List UInt8)))) (f355_j124 (f355_l95 a0 rc355 k) k a0 y95_2 rc355 y95_1)) (some (.b0 y95_1))
def f355_j90 (k : Nat) (a0 : TJson) (rc355 : TJson → Option (List UInt8)) (j90_1 : (List UInt8)) : Option (List UInt8) := (f355_l95 a0 rc355 k j90_1 (0 : Int)).bind fun o95 => (match o95 with | .b0 x95_1 => f355_j161 k a0 x95_1 | _ => none)
def f355_s (rc355 : TJson → Option (List UInt8)) (k : Nat) (a0 : TJson) : Option (List UInt8) := cond (decide (a0.fKind = (1 : Int))) (some ([110, 117, 108, 108] : List UInt8)) (cond (decide (a0.fKind = (2 : Int))) (some ([102, 97, 108, 115, 101] : List UInt8)) (cond (decide (a0.fKind = (3 : Int))) (some ([116, 114, 117, 101] : List UInt8)) (cond (decide (a0.fKind = (4 : Int))) (some a0.fText) (cond (decide (a0.fKind = (5 : Int))) ((f356 k a0.fText).bind fun r70 => some r70) (cond (decide (a0.fKind = (7 : Int))) (f355_j90 k a0 rc355 ([123] : List UInt8)) (f355_j90 k a0 rc355 ([91] : List UInt8)))))))
theorem F355_s {P : Program} {N : Nat → Nat} (hmix : P.follows .mixedOrders = true) (hc : HC355 P N) {rc355 : TJson → Option (List UInt8)} (hrc355 : RH355 P N rc355) {k : Nat} {a0 : TJson} {r : (List UInt8)} (h : f355_s rc355 k a0 = some r) :
    ACalls P (N 355) [(.d (TJson.enc a0))] [] (.d (.str r)) [] := by
  refine acalls_canon (F := C355 N) hc.1 0 0 rfl ?_
  unfold f355_s at h
  dsimp only [C355, startL]
  refine AWc.seq ?_
  refine AWc.rE hmix [] ?_
  refine AWc.seq ?_
  refine AWc.seq ?_
  refine AWc.rE hmix [] ?_
  refine AWc.block ?_
  refine AWc.seq ?_
  refine AWc.rE hmix [] ?_
  rcases cc h with ⟨c18, h⟩ | ⟨c18, h⟩
  · refine AWc.cT c18 ?_
    refine AWc.seq ?_
    refine AWc.rE hmix [] ?_
    have hr := Option.some.inj h
    subst hr
    exact AWc.ret (canQ (N := 63) (k := 0) (l' := [(2, (.d (.str ([110, 117, 108, 108] : List UInt8))))]) (H' := []) rfl (inT [] []) (doneA (.inr rfl) rfl ⟨trivial, trivial⟩ (.refl _) hasNil))
  · refine AWc.cF c18 ?_
    refine AWc.seq ?_
    refine AWc.rE hmix [] ?_
    rcases cc h with ⟨c29, h⟩ | ⟨c29, h⟩
    · refine AWc.cT c29 ?_
      refine AWc.seq ?_
      refine AWc.rE hmix [] ?_
      have hr := Option.some.inj h
      subst hr
      exact AWc.ret (canQ (N := 63) (k := 0) (l' := [(2, (.d (.str ([102, 97, 108, 115, 101] : List UInt8))))]) (H' := []) rfl (inT [] []) (doneA (.inr rfl) rfl ⟨trivial, trivial⟩ (.refl _) hasNil))
    · refine AWc.cF c29 ?_
      refine AWc.seq ?_
      refine AWc.rE hmix [] ?_
      rcases cc h with ⟨c40, h⟩ | ⟨c40, h⟩
      · refine AWc.cT c40 ?_
        refine AWc.seq ?_
        refine AWc.rE hmix [] ?_
        have hr := Option.some.inj h
        subst hr
        exact AWc.ret (canQ (N := 63) (k := 0) (l' := [(2, (.d (.str ([116, 114, 117, 101] : List UInt8))))]) (H' := []) rfl (inT [] []) (doneA (.inr rfl) rfl ⟨trivial, trivial⟩ (.refl _) hasNil))
      · refine AWc.cF c40 ?_
        refine AWc.seq ?_
        refine AWc.rE hmix [] ?_
        rcases cc h with ⟨c51, h⟩ | ⟨c51, h⟩
        · refine AWc.cT c51 ?_
          refine AWc.seq ?_
          refine AWc.rE hmix [] ?_
          have hr := Option.some.inj h
          subst hr
          exact AWc.ret (canQ (N := 63) (k := 0) (l' := [(2, (.d (.str a0.fText)))]) (H' := []) rfl (inT [] []) (doneA (.inr rfl) rfl ⟨trivial, trivial⟩ (.refl _) hasNil))
        · refine AWc.cF c51 ?_
          refine AWc.seq ?_
          refine AWc.rE hmix [] ?_
          rcases cc h with ⟨c64, h⟩ | ⟨c64, h⟩
          · refine AWc.cT c64 ?_
            refine AWc.seq ?_
            obtain ⟨r70, e70, h⟩ := bind_some h
            refine AWc.rE hmix [.call (F356 hmix hc.2 e70) [] 0] ?_
            have hr := Option.some.inj h
            subst hr
            exact AWc.ret (canQ (N := 63) (k := 0) (l' := [(2, (.d (.str r70)))]) (H' := []) rfl (inT [] []) (doneA (.inr rfl) rfl ⟨trivial, trivial⟩ (.refl _) hasNil))
          · refine AWc.cF c64 ?_
            refine AWc.skip ?_
            refine AWc.seq ?_
            refine AWc.rE hmix [] ?_
            refine AWc.seqS (N := 63) 1 (fun (z : (List UInt8)) => [(1, (.ptr 0 0)), (3, (.d (.str z)))]) (fun z => [(0, (.cells [(.d (.int .i64 a0.fKind)), (.d (.str a0.fText)), (.d (.sl (List.map (rtE (z := 4)) a0.fL))), (.d (.sl (List.map D.str a0.fKeys)))]))]) (fun z => f355_j90 k a0 rc355 z = some r) rfl_le ?_ ?_
            · refine AWc.seq ?_
              refine AWc.rE hmix [] ?_
              rcases cc h with ⟨c85, h⟩ | ⟨c85, h⟩
              · refine AWc.cT c85 ?_
                refine AWc.rE hmix [] ?_
                exact ⟨([123] : List UInt8), h, (inT [] [])⟩
              · refine AWc.cF c85 ?_
                refine AWc.skip ?_
                exact ⟨([91] : List UInt8), h, (inT [] [])⟩
            · intro j90_1 h
              unfold f355_j90 at h
              refine AWc.seqS (N := 63) 1 (fun (z : (List UInt8)) => [(1, (.ptr 0 0)), (3, (.d (.str z)))]) (fun z => [(0, (.cells [(.d (.int .i64 a0.fKind)), (.d (.str a0.fText)), (.d (.sl (List.map (rtE (z := 4)) a0.fL))), (.d (.sl (List.map D.str a0.fKeys)))]))]) (fun z => f355_j161 k a0 z = some r) rfl_le ?_ ?_
              · refine AWc.seq ?_
                refine AWc.rE hmix [] ?_
                obtain ⟨o95, h95, h⟩ := bind_some h
                refine AWc.block ?_
                refine AWc.loopK (N := 63) 1 (fun (x : ((List UInt8) × Int)) => [(1, (.ptr 0 0)), (3, (.d (.str x.1))), (4, (.d (.int .i64 x.2)))]) (fun x => [(0, (.cells [(.d (.int .i64 a0.fKind)), (.d (.str a0.fText)), (.d (.sl (List.map (rtE (z := 4)) a0.fL))), (.d (.sl (List.map D.str a0.fKeys)))]))]) (fun k x => f355_l95 a0 rc355 k x.1 x.2 = some o95) k (j90_1, (0 : Int)) rfl_le (fun x hx => by cases hx) h95 (inT [] []) ?_
                clear h95
                intro k
                rintro ⟨y95_1, y95_2⟩ h95
                dsimp only at h95 ⊢
                rw [f355_l95] at h95
                refine AWc.seq ?_
                refine AWc.seq ?_
                refine AWc.rE hmix [.ln (rtE (z := 4)) a0.fL] ?_
                rcases cc h95 with ⟨c106, h95⟩ | ⟨c106, h95⟩
                · refine AWc.cT c106 ?_
                  refine AWc.skip ?_
                  refine AWc.seq ?_
                  refine AWc.block ?_
                  refine AWc.seqS (N := 63) 1 (fun (z : (List UInt8)) => [(1, (.ptr 0 0)), (3, (.d (.str z))), (4, (.d (.int .i64 y95_2)))]) (fun z => [(0, (.cells [(.d (.int .i64 a0.fKind)), (.d (.str a0.fText)), (.d (.sl (List.map (rtE (z := 4)) a0.fL))), (.d (.sl (List.map D.str a0.fKeys)))]))]) (fun z => f355_j124 (f355_l95 a0 rc355 k) k a0 y95_2 rc355 z = some o95) rfl_le ?_ ?_
                  · refine AWc.seq ?_
                    refine AWc.rE hmix [] ?_
                    rcases cc h95 with ⟨c117, h95⟩ | ⟨c117, h95⟩
                    · refine AWc.cT c117 ?_
                      obtain ⟨b121, h95⟩ := gd_some h95
                      refine AWc.rE hmix [.sd b121] ?_
                      exact ⟨(y95_1 ++ ([44] : List UInt8)), h95, (inT [] [])⟩
                    · refine AWc.cF c117 ?_
                      refine AWc.skip ?_
                      exact ⟨y95_1, h95, (inT [] [])⟩
                  · intro j124_1 h95
                    unfold f355_j124 at h95
                    refine AWc.seqS (N := 63) 1 (fun (z : (List UInt8)) => [(1, (.ptr 0 0)), (3, (.d (.str z))), (4, (.d (.int .i64 y95_2)))]) (fun z => [(0, (.cells [(.d (.int .i64 a0.fKind)), (.d (.str a0.fText)), (.d (.sl (List.map (rtE (z := 4)) a0.fL))), (.d (.sl (List.map D.str a0.fKeys)))]))]) (fun z => f355_j145 (f355_l95 a0 rc355 k) k y95_2 a0 rc355 z = some o95) rfl_le ?_ ?_
                    · refine AWc.seq ?_
                      refine AWc.rE hmix [] ?_
                      rcases cc h95 with ⟨c131, h95⟩ | ⟨c131, h95⟩
                      · refine AWc.cT c131 ?_
                        obtain ⟨b138, h95⟩ := gd_some h95
                        obtain ⟨r140, e140, h95⟩ := bind_some h95
                        obtain ⟨b141, h95⟩ := gd_some h95
                        obtain ⟨b142, h95⟩ := gd_some h95
                        refine AWc.rE hmix [.iad D.str a0.fKeys 1 (fun _ => rfl) b138, .call (F356 hmix hc.2 e140) [] 0, .sd b141, .sd b142] ?_
                        exact ⟨((j124_1 ++ r140) ++ ([58] : List UInt8)), h95, (inT [] [])⟩
                      · refine AWc.cF c131 ?_
                        refine AWc.skip ?_
                        exact ⟨j124_1, h95, (inT [] [])⟩
                    · intro j145_1 h95
                      unfold f355_j145 at h95
                      obtain ⟨b151, h95⟩ := gd_some h95
                      obtain ⟨rx151, ex151, h95⟩ := bind_some h95
                      obtain ⟨r153, e153, h95⟩ := bind_some h95
                      obtain ⟨b154, h95⟩ := gd_some h95
                      refine AWc.rE hmix [.iadE (rtE (z := 4)) a0.fL 4 rtE_ok.len b151 (TJson.dec_eq ex151), .call (hrc355 _ _ e153) [] 0, .sd b154] ?_
                      refine AWc.rE hmix [] ?_
                      exact ⟨((j145_1 ++ r153), (IntKind.i64.wrap (y95_2 + (1 : Int)))), h95, (inT [] [])⟩
                · refine AWc.cF c106 ?_
                  cases h95
                  dsimp only at h
                  refine AWc.exit ?_
                  refine inBlk_eq ?_
                  exact ⟨y95_1, h, (inT [] [])⟩
              · intro j161_1 h
                unfold f355_j161 at h
                refine AWc.seq ?_
                refine AWc.seq ?_
                refine AWc.rE hmix [] ?_
                rcases cc h with ⟨c168, h⟩ | ⟨c168, h⟩
                · refine AWc.cT c168 ?_
                  refine AWc.seq ?_
                  obtain ⟨b173, h⟩ := gd_some h
                  refine AWc.rE hmix [.sd b173] ?_
                  have hr := Option.some.inj h
                  subst hr
                  exact AWc.ret (canQ (N := 63) (k := 0) (l' := [(2, (.d (.str (j161_1 ++ ([125] : List UInt8)))))]) (H' := []) rfl (inT [] []) (doneA (.inr rfl) rfl ⟨trivial, trivial⟩ (.refl _) hasNil))
                · refine AWc.cF c168 ?_
                  refine AWc.skip ?_
                  refine AWc.seq ?_
                  obtain ⟨b181, h⟩ := gd_some h
                  refine AWc.rE hmix [.sd b181] ?_
                  have hr := Option.some.inj h
                  subst hr
                  exact AWc.ret (canQ (N := 63) (k := 0) (l' := [(2, (.d (.str (j161_1 ++ ([93] : List UInt8)))))]) (H' := []) rfl (inT [] []) (doneA (.inr rfl) rfl ⟨trivial, trivial⟩ (.refl _) hasNil))
def f355 : Nat → TJson → Option (List UInt8)
  | 0, _ => none
  | k + 1, a0 => f355_s (f355 k) k a0
theorem F355 {P : Program} {N : Nat → Nat} (hmix : P.follows .mixedOrders = true) (hc : HC355 P N) {k : Nat} {a0 : TJson} {r : (List UInt8)} (h : f355 k a0 = some r) :
    ACalls P (N 355) [(.d (TJson.enc a0))] [] (.d (.str r)) [] := by
  induction k generalizing a0 r with
  | zero => exact absurd (show (none : Option _) = some r from h) (fun h2 => by cases h2)
  | succ k ih => exact F355_s hmix hc (fun _ _ h => ih h) h
/-- courant/courantref02.Print -/
def C354 (N : Nat → Nat) : AFunc := { n := 8, params := 1, res := [.tmp 2], body :=
 (.seq (.region false [⟨(some 1), .box (.t 0), none, []⟩,
   ⟨(some 2), .mv (.k (.d (.str []))), none, []⟩])
  (.seq (.seq (.region false [⟨(some 3), .load (.t 1) 4 true, none, []⟩,
     ⟨(some 4), .call (.k (.d (.fn (N 347)))) [(.t 3)], none, [0]⟩,
     ⟨(some 5), .un .not (.t 4), none, [1]⟩])
    (.cond (.t 5) (.seq (.region false [⟨(some 2), .mv (.k (.d (.str []))), none, []⟩])
      .ret)
     (.skip)))
   (.seq (.region false [⟨(some 6), .load (.t 1) 4 true, none, []⟩,
     ⟨(some 7), .call (.k (.d (.fn (N 355)))) [(.t 6)], none, [0]⟩,
     ⟨(some 2), .mv (.t 7), none, [1, 0]⟩])
    .ret))) }
def HC354 (P : Program) (N : Nat → Nat) : Prop := HasF P (N 354) (C354 N) ∧ HC347 P N ∧ HC355 P N
def f354 (k : Nat) (a0 : TJson) : Option (List UInt8) := (f347 k (TJson.mk a0.fKind a0.fText a0.fL a0.fKeys)).bind fun r11 => cond (!r11) (some ([] : List UInt8)) ((f355 k (TJson.mk a0.fKind a0.fText a0.fL a0.fKeys)).bind fun r24 => some r24)
theorem F354 {P : Program} {N : Nat → Nat} (hmix : P.follows .mixedOrders = true) (hc : HC354 P N) {k : Nat} {a0 : TJson} {r : (List UInt8)} (h : f354 k a0 = some r) :
    ACalls P (N 354) [(.d (TJson.enc a0))] [] (.d (.str r)) [] := by
  refine acalls_canon (F := C354 N) hc.1 0 0 rfl ?_
  unfold f354 at h
  dsimp only [C354, startL]
  refine AWc.seq ?_
  refine AWc.rE hmix [] ?_
  refine AWc.seq ?_
  refine AWc.seq ?_
  obtain ⟨r11, e11, h⟩ := bind_some h
  refine AWc.rE hmix [.call (F347 hmix hc.2.1 e11) [] 0] ?_
  rcases cc h with ⟨c13, h⟩ | ⟨c13, h⟩
  · refine AWc.cT c13 ?_
    refine AWc.seq ?_
    refine AWc.rE hmix [] ?_
    have hr := Option.some.inj h
    subst hr
    exact AWc.ret (canQ (N := 8) (k := 0) (l' := [(2, (.d (.str ([] : List UInt8))))]) (H' := []) rfl (inT [] []) (doneA (.inr rfl) rfl ⟨trivial, trivial⟩ (.refl _) hasNil))
  · refine AWc.cF c13 ?_
    refine AWc.skip ?_
    refine AWc.seq ?_
    obtain ⟨r24, e24, h⟩ := bind_some h
    refine AWc.rE hmix [.call (F355 hmix hc.2.2 e24) [] 0] ?_
    have hr := Option.some.inj h
    subst hr
    exact AWc.ret (canQ (N := 8) (k := 0) (l' := [(2, (.d (.str r24)))]) (H' := []) rfl (inT [] []) (doneA (.inr rfl) rfl ⟨trivial, trivial⟩ (.refl _) hasNil))
def RH437 (P : Program) (N : Nat → Nat) (rc437 : TJson → TJson → Option Bool) : Prop := ∀ (a0 : TJson) (a1 : TJson) (r : Bool), rc437 a0 a1 = some r → ACalls P (N 437) [(.d (TJson.enc a0)), (.d (TJson.enc a1))] [] (.d (.bool r)) []
/-- courant/couranthelp.Same[courant/api.Json] -/
def C438 (N : Nat → Nat) : AFunc := { n := 30, params := 3, res := [.tmp 6], body :=
 (.seq (.region false [⟨(some 6), .mv (.k (.d (.bool false))), none, []⟩])
  (.seq (.seq (.region false [⟨(some 8), .mv (.t 0), none, []⟩,
     ⟨(some 9), .len (.t 8), none, [0]⟩,
     ⟨(some 10), .mv (.t 1), none, []⟩,
     ⟨(some 11), .len (.t 10), none, [2]⟩,
     ⟨(some 12), .bin .neq (.t 9) (.t 11), none, [1, 3]⟩])
    (.cond (.t 12) (.seq (.region false [⟨(some 6), .mv (.k (.d (.bool false))), none, []⟩])
      .ret)
     (.skip)))
   (.seq (.seq (.region false [⟨(some 7), .mv (.k (.d (.int .i64 0))), none, []⟩])
     (.block 0 (.loop (.seq (.seq (.region false [⟨(some 13), .mv (.t 7), none, []⟩,
          ⟨(some 14), .mv (.t 0), none, []⟩,
          ⟨(some 15), .len (.t 14), none, [1]⟩,
          ⟨(some 16), .bin .lss (.t 13) (.t 15), none, [0, 2]⟩])
         (.cond (.t 16) (.skip)
          (.exit 0)))
        (.seq (.block 1 (.seq (.region true [⟨(some 19), .mv (.t 2), none, []⟩,
            ⟨(some 20), .mv (.t 0), none, []⟩,
            ⟨(some 21), .mv (.t 7), none, []⟩,
            ⟨(some 22), .iaddr (.t 20) (.t 21) 4, none, [1, 2]⟩,
            ⟨(some 23), .load (.t 22) 4 true, none, [3]⟩,
            ⟨(some 24), .mv (.t 1), none, []⟩,
            ⟨(some 25), .mv (.t 7), none, []⟩,
            ⟨(some 26), .iaddr (.t 24) (.t 25) 4, none, [5, 6]⟩,
            ⟨(some 27), .load (.t 26) 4 true, none, [7]⟩,
            ⟨(some 28), .call (.t 19) [(.t 23), (.t 27)], none, [0, 4, 8]⟩,
            ⟨(some 29), .un .not (.t 28), none, [9]⟩])
           (.cond (.t 29) (.seq (.region false [⟨(some 6), .mv (.k (.d (.bool false))), none, []⟩])
             .ret)
            (.skip))))
         (.region false [⟨(some 17), .mv (.t 7), none, []⟩,
          ⟨(some 18), .bin .add (.t 17) (.k (.d (.int .i64 1))), none, [0]⟩,
          ⟨(some 7), .mv (.t 18), none, [1, 0]⟩]))))))
    (.seq (.region false [⟨(some 6), .mv (.k (.d (.bool true))), none, []⟩])
     .ret)))) }
def HC438 (P : Program) (N : Nat → Nat) : Prop := HasF P (N 438) (C438 N)
def f438_l26 (a0 : (List (RT 4))) (a1 : (List (RT 4))) (rc437 : TJson → TJson → Option Bool) : Nat → Int → Option (LR2 Unit Unit Bool)
  | 0, _ => none
  | k + 1, y26_1 => cond (decide (y26_1 < ((a0.length : Nat) : Int))) (gd (0 ≤ y26_1 ∧ y26_1 < ((a0.length : Nat) : Int)) ((TJson.dec (rtE (rd a0 y26_1))).bind fun rx47 => gd (0 ≤ y26_1 ∧ y26_1 < ((a1.length : Nat) : Int)) ((TJson.dec (rtE (rd a1 y26_1))).bind fun rx51 => (rc437 rx47 rx51).bind fun r53 => cond (!r53) (some (.r false)) (f438_l26 a0 a1 rc437 k (IntKind.i64.wrap (y26_1 + (1 : Int))))))) (some (.b0 ()))
def f438 (rc437 : TJson → TJson → Option Bool) (k : Nat) (a0 : (List (RT 4))) (a1 : (List (RT 4))) : Option Bool := cond (decide (((a0.length : Nat) : Int) ≠ ((a1.length : Nat) : Int))) (some false) ((f438_l26 a0 a1 rc437 k (0 : Int)).bind fun o26 => (match o26 with | .b0 () => some true | .r x => some x | _ => none))
theorem F438 {P : Program} {N : Nat → Nat} (hmix : P.follows .mixedOrders = true) (hc : HC438 P N) {rc437 : TJson → TJson → Option Bool} (hrc437 : RH437 P N rc437) {k : Nat} {a0 : (List (RT 4))} {a1 : (List (RT 4))} {r : Bool} (h : f438 rc437 k a0 a1 = some r) :
    ACalls P (N 438) [(.d (.sl (List.map (rtE (z := 4)) a0))), (.d (.sl (List.map (rtE (z := 4)) a1))), (.d (.fn (N 437)))] [] (.d (.bool r)) [] := by
  refine acalls_canon (F := C438 N) hc 0 0 rfl ?_
  unfold f438 at h
  dsimp only [C438, startL]
  refine AWc.seq ?_
  refine AWc.rE hmix [] ?_
  refine AWc.seq ?_
  refine AWc.seq ?_
  refine AWc.rE hmix [.ln (rtE (z := 4)) a0, .ln (rtE (z := 4)) a1] ?_
  rcases cc h with ⟨c14, h⟩ | ⟨c14, h⟩
  · refine AWc.cT c14 ?_
    refine AWc.seq ?_
    refine AWc.rE hmix [] ?_
    have hr := Option.some.inj h
    subst hr
    exact AWc.ret (canQ (N := 30) (k := 0) (l' := [(6, (.d (.bool false)))]) (H' := []) rfl (inT [] []) (doneA (.inr rfl) rfl ⟨trivial, trivial⟩ (.refl _) hasNil))
  · refine AWc.cF c14 ?_
    refine AWc.skip ?_
    refine AWc.seq ?_
    refine AWc.seq ?_
    refine AWc.rE hmix [] ?_
    obtain ⟨o26, h26, h⟩ := bind_some h
    refine AWc.block ?_
    refine AWc.loopK (N := 30) 0 (fun (x : Int) => [(0, (.d (.sl (List.map (rtE (z := 4)) a0)))), (1, (.d (.sl (List.map (rtE (z := 4)) a1)))), (2, (.d (.fn (N 437)))), (7, (.d (.int .i64 x)))]) (fun x => []) (fun k x => f438_l26 a0 a1 rc437 k x = some o26) k (0 : Int) rfl_le (fun x hx => by cases hx) h26 (inT [] []) ?_
    clear h26
    intro k
    intro y26_1 h26
    rw [f438_l26] at h26
    refine AWc.seq ?_
    refine AWc.seq ?_
    refine AWc.rE hmix [.ln (rtE (z := 4)) a0] ?_
    rcases cc h26 with ⟨c36, h26⟩ | ⟨c36, h26⟩
    · refine AWc.cT c36 ?_
      refine AWc.skip ?_
      refine AWc.seq ?_
      refine AWc.block ?_
      refine AWc.seq ?_
      obtain ⟨b47, h26⟩ := gd_some h26
      obtain ⟨rx47, ex47, h26⟩ := bind_some h26
      obtain ⟨b51, h26⟩ := gd_some h26
      obtain ⟨rx51, ex51, h26⟩ := bind_some h26
      obtain ⟨r53, e53, h26⟩ := bind_some h26
      refine AWc.rE hmix [.iadE (rtE (z := 4)) a0 4 rtE_ok.len b47 (TJson.dec_eq ex47), .iadE (rtE (z := 4)) a1 4 rtE_ok.len b51 (TJson.dec_eq ex51), .call (hrc437 _ _ _ e53) [] 0] ?_
      rcases cc h26 with ⟨c55, h26⟩ | ⟨c55, h26⟩
      · refine AWc.cT c55 ?_
        refine AWc.seq ?_
        refine AWc.rE hmix [] ?_
        cases h26
        dsimp only at h
        have hr := Option.some.inj h
        subst hr
        exact AWc.ret (canQ (N := 30) (k := 0) (l' := [(6, (.d (.bool false)))]) (H' := []) rfl (inT [] []) (doneA (.inr rfl) rfl ⟨trivial, trivial⟩ (.refl _) hasNil))
      · refine AWc.cF c55 ?_
        refine AWc.skip ?_
        refine AWc.rE hmix [] ?_
        exact ⟨(IntKind.i64.wrap (y26_1 + (1 : Int))), h26, (inT [] [])⟩
    · refine AWc.cF c36 ?_
      cases h26
      dsimp only at h
      refine AWc.exit ?_
      refine inBlk_eq ?_
      refine AWc.seq ?_
      refine AWc.rE hmix [] ?_
      have hr := Option.some.inj h
      subst hr
      exact AWc.ret (canQ (N := 30) (k := 0) (l' := [(6, (.d (.bool true)))]) (H' := []) rfl (inT [] []) (doneA (.inr rfl) rfl ⟨trivial, trivial⟩ (.refl _) hasNil))
/-- courant/couranthelp.Plain[string]$1 -/
def C436 (N : Nat → Nat) : AFunc := { n := 8, params := 2, res := [.tmp 4], body :=
 (.seq (.region false [⟨(some 4), .mv (.k (.d (.bool false))), none, []⟩])
  (.seq (.region false [⟨(some 5), .mv (.t 0), none, []⟩,
    ⟨(some 6), .mv (.t 1), none, []⟩,
    ⟨(some 7), .bin .eql (.t 5) (.t 6), none, [0, 1]⟩,
    ⟨(some 4), .mv (.t 7), none, [2, 0, 1]⟩])
   .ret)) }
def HC436 (P : Program) (N : Nat → Nat) : Prop := HasF P (N 436) (C436 N)
def f436 (k : Nat) (a0 : (List UInt8)) (a1 : (List UInt8)) : Option Unit := some ()
theorem F436 {P : Program} {N : Nat → Nat} (hmix : P.follows .mixedOrders = true) (hc : HC436 P N) {k : Nat} {a0 : (List UInt8)} {a1 : (List UInt8)} {r : Unit} (h : f436 k a0 a1 = some r) :
    ACalls P (N 436) [(.d (.str a0)), (.d (.str a1))] [] (.d (.bool (decide (a0 = a1)))) [] := by
  refine acalls_canon (F := C436 N) hc 0 0 rfl ?_
  unfold f436 at h
  dsimp only [C436, startL]
  refine AWc.seq ?_
  refine AWc.rE hmix [] ?_
  refine AWc.seq ?_
  refine AWc.rE hmix [] ?_
  have hr := Option.some.inj h
  subst hr
  exact AWc.ret (canQ (N := 8) (k := 0) (l' := [(4, (.d (.bool (decide (a0 = a1)))))]) (H' := []) rfl (inT [] []) (doneA (.inr rfl) rfl ⟨trivial, trivial⟩ (.refl _) hasNil))
/-- courant/couranthelp.Same[string] -/
def C435 (N : Nat → Nat) : AFunc := { n := 30, params := 3, res := [.tmp 6], body :=
 (.seq (.region false [⟨(some 6), .mv (.k (.d (.bool false))), none, []⟩])
  (.seq (.seq (.region false [⟨(some 8), .mv (.t 0), none, []⟩,
     ⟨(some 9), .len (.t 8), none, [0]⟩,
     ⟨(some 10), .mv (.t 1), none, []⟩,
     ⟨(some 11), .len (.t 10), none, [2]⟩,
     ⟨(some 12), .bin .neq (.t 9) (.t 11), none, [1, 3]⟩])
    (.cond (.t 12) (.seq (.region false [⟨(some 6), .mv (.k (.d (.bool false))), none, []⟩])
      .ret)
     (.skip)))
   (.seq (.seq (.region false [⟨(some 7), .mv (.k (.d (.int .i64 0))), none, []⟩])
     (.block 0 (.loop (.seq (.seq (.region false [⟨(some 13), .mv (.t 7), none, []⟩,
          ⟨(some 14), .mv (.t 0), none, []⟩,
          ⟨(some 15), .len (.t 14), none, [1]⟩,
          ⟨(some 16), .bin .lss (.t 13) (.t 15), none, [0, 2]⟩])
         (.cond (.t 16) (.skip)
          (.exit 0)))
        (.seq (.block 1 (.seq (.region true [⟨(some 19), .mv (.t 2), none, []⟩,
            ⟨(some 20), .mv (.t 0), none, []⟩,
            ⟨(some 21), .mv (.t 7), none, []⟩,
            ⟨(some 22), .iaddr (.t 20) (.t 21) 1, none, [1, 2]⟩,
            ⟨(some 23), .load (.t 22) 1 false, none, [3]⟩,
            ⟨(some 24), .mv (.t 1), none, []⟩,
            ⟨(some 25), .mv (.t 7), none, []⟩,
            ⟨(some 26), .iaddr (.t 24) (.t 25) 1, none, [5, 6]⟩,
            ⟨(some 27), .load (.t 26) 1 false, none, [7]⟩,
            ⟨(some 28), .call (.t 19) [(.t 23), (.t 27)], none, [0, 4, 8]⟩,
            ⟨(some 29), .un .not (.t 28), none, [9]⟩])
           (.cond (.t 29) (.seq (.region false [⟨(some 6), .mv (.k (.d (.bool false))), none, []⟩])
             .ret)
            (.skip))))
         (.region false [⟨(some 17), .mv (.t 7), none, []⟩,
          ⟨(some 18), .bin .add (.t 17) (.k (.d (.int .i64 1))), none, [0]⟩,
          ⟨(some 7), .mv (.t 18), none, [1, 0]⟩]))))))
    (.seq (.region false [⟨(some 6), .mv (.k (.d (.bool true))), none, []⟩])
     .ret)))) }
def HC435 (P : Program) (N : Nat → Nat) : Prop := HasF P (N 435) (C435 N) ∧ HC436 P N
def f435_l26 (a0 : (List (List UInt8))) (a1 : (List (List UInt8))) : Nat → Int → Option (LR2 Unit Unit Bool)
  | 0, _ => none
  | k + 1, y26_1 => cond (decide (y26_1 < ((a0.length : Nat) : Int))) (gd (0 ≤ y26_1 ∧ y26_1 < ((a0.length : Nat) : Int)) (gd (0 ≤ y26_1 ∧ y26_1 < ((a1.length : Nat) : Int)) ((f436 k (rd a0 y26_1) (rd a1 y26_1)).bind fun r53 => cond (!(decide ((rd a0 y26_1) = (rd a1 y26_1)))) (some (.r false)) (f435_l26 a0 a1 k (IntKind.i64.wrap (y26_1 + (1 : Int))))))) (some (.b0 ()))
def f435 (k : Nat) (a0 : (List (List UInt8))) (a1 : (List (List UInt8))) : Option Bool := cond (decide (((a0.length : Nat) : Int) ≠ ((a1.length : Nat) : Int))) (some false) ((f435_l26 a0 a1 k (0 : Int)).bind fun o26 => (match o26 with | .b0 () => some true | .r x => some x | _ => none))
theorem F435 {P : Program} {N : Nat → Nat} (hmix : P.follows .mixedOrders = true) (hc : HC435 P N) {k : Nat} {a0 : (List (List UInt8))} {a1 : (List (List UInt8))} {r : Bool} (h : f435 k a0 a1 = some r) :
    ACalls P (N 435) [(.d (.sl (List.map D.str a0))), (.d (.sl (List.map D.str a1))), (.d (.fn (N 436)))] [] (.d (.bool r)) [] := by
  refine acalls_canon (F := C435 N) hc.1 0 0 rfl ?_
  unfold f435 at h
  dsimp only [C435, startL]
  refine AWc.seq ?_
  refine AWc.rE hmix [] ?_
  refine AWc.seq ?_
  refine AWc.seq ?_
  refine AWc.rE hmix [.ln D.str a0, .ln D.str a1] ?_
  rcases cc h with ⟨c14, h⟩ | ⟨c14, h⟩
  · refine AWc.cT c14 ?_
    refine AWc.seq ?_
    refine AWc.rE hmix [] ?_
    have hr := Option.some.inj h
    subst hr
    exact AWc.ret (canQ (N := 30) (k := 0) (l' := [(6, (.d (.bool false)))]) (H' := []) rfl (inT [] []) (doneA (.inr rfl) rfl ⟨trivial, trivial⟩ (.refl _) hasNil))
  · refine AWc.cF c14 ?_
    refine AWc.skip ?_
    refine AWc.seq ?_
    refine AWc.seq ?_
    refine AWc.rE hmix [] ?_
    obtain ⟨o26, h26, h⟩ := bind_some h
    refine AWc.block ?_
    refine AWc.loopK (N := 30) 0 (fun (x : Int) => [(0, (.d (.sl (List.map D.str a0)))), (1, (.d (.sl (List.map D.str a1)))), (2, (.d (.fn (N 436)))), (7, (.d (.int .i64 x)))]) (fun x => []) (fun k x => f435_l26 a0 a1 k x = some o26) k (0 : Int) rfl_le (fun x hx => by cases hx) h26 (inT [] []) ?_
    clear h26
    intro k
    intro y26_1 h26
    rw [f435_l26] at h26
    refine AWc.seq ?_
    refine AWc.seq ?_
    refine AWc.rE hmix [.ln D.str a0] ?_
    rcases cc h26 with ⟨c36, h26⟩ | ⟨c36, h26⟩
    · refine AWc.cT c36 ?_
      refine AWc.skip ?_
      refine AWc.seq ?_
      refine AWc.block ?_
      refine AWc.seq ?_
      obtain ⟨b47, h26⟩ := gd_some h26
      obtain ⟨b51, h26⟩ := gd_some h26
      obtain ⟨r53, e53, h26⟩ := bind_some h26
      refine AWc.rE hmix [.iad D.str a0 1 (fun _ => rfl) b47, .iad D.str a1 1 (fun _ => rfl) b51, .call (F436 hmix hc.2 e53) [] 0] ?_
      rcases cc h26 with ⟨c55, h26⟩ | ⟨c55, h26⟩
      · refine AWc.cT c55 ?_
        refine AWc.seq ?_
        refine AWc.rE hmix [] ?_
        cases h26
        dsimp only at h
        have hr := Option.some.inj h
        subst hr
        exact AWc.ret (canQ (N := 30) (k := 0) (l' := [(6, (.d (.bool false)))]) (H' := []) rfl (inT [] []) (doneA (.inr rfl) rfl ⟨trivial, trivial⟩ (.refl _) hasNil))
      · refine AWc.cF c55 ?_
        refine AWc.skip ?_
        refine AWc.rE hmix [] ?_
        exact ⟨(IntKind.i64.wrap (y26_1 + (1 : Int))), h26, (inT [] [])⟩
    · refine AWc.cF c36 ?_
      cases h26
      dsimp only at h
      refine AWc.exit ?_
      refine inBlk_eq ?_
      refine AWc.seq ?_
      refine AWc.rE hmix [] ?_
      have hr := Option.some.inj h
      subst hr
      exact AWc.ret (canQ (N := 30) (k := 0) (l' := [(6, (.d (.bool true)))]) (H' := []) rfl (inT [] []) (doneA (.inr rfl) rfl ⟨trivial, trivial⟩ (.refl _) hasNil))
/-- courant/couranthelp.Plain[string] -/
def C434 (N : Nat → Nat) : AFunc := { n := 8, params := 2, res := [.tmp 4], body :=
 (.seq (.region false [⟨(some 4), .mv (.k (.d (.bool false))), none, []⟩])
  (.seq (.region false [⟨(some 5), .mv (.t 0), none, []⟩,
    ⟨(some 6), .mv (.t 1), none, []⟩,
    ⟨(some 7), .call (.k (.d (.fn (N 435)))) [(.t 5), (.t 6), (.k (.d (.fn (N 436))))], none, [0, 1]⟩,
    ⟨(some 4), .mv (.t 7), none, [2, 0, 1]⟩])
   .ret)) }
def HC434 (P : Program) (N : Nat → Nat) : Prop := HasF P (N 434) (C434 N) ∧ HC435 P N
def f434 (k : Nat) (a0 : (List (List UInt8))) (a1 : (List (List UInt8))) : Option Bool := (f435 k a0 a1).bind fun r10 => some r10
theorem F434 {P : Program} {N : Nat → Nat} (hmix : P.follows .mixedOrders = true) (hc : HC434 P N) {k : Nat} {a0 : (List (List UInt8))} {a1 : (List (List UInt8))} {r : Bool} (h : f434 k a0 a1 = some r) :
    ACalls P (N 434) [(.d (.sl (List.map D.str a0))), (.d (.sl (List.map D.str a1)))] [] (.d (.bool r)) [] := by
  refine acalls_canon (F := C434 N) hc.1 0 0 rfl ?_
  unfold f434 at h
  dsimp only [C434, startL]
  refine AWc.seq ?_
  refine AWc.rE hmix [] ?_
  refine AWc.seq ?_
  obtain ⟨r10, e10, h⟩ := bind_some h
  refine AWc.rE hmix [.call (F435 hmix hc.2 e10) [] 0] ?_
  have hr := Option.some.inj h
  subst hr
  exact AWc.ret (canQ (N := 8) (k := 0) (l' := [(4, (.d (.bool r10)))]) (H' := []) rfl (inT [] []) (doneA (.inr rfl) rfl ⟨trivial, trivial⟩ (.refl _) hasNil))
/-- courant/couranthelp.Json -/
def C437 (N : Nat → Nat) : AFunc := { n := 31, params := 2, res := [.tmp 4], body :=
 (.seq (.region false [⟨(some 2), .box (.t 0), none, []⟩,
   ⟨(some 3), .box (.t 1), none, []⟩,
   ⟨(some 4), .mv (.k (.d (.bool false))), none, []⟩])
  (.seq (.region false [⟨(some 5), .faddr (.t 2) 0, none, []⟩,
    ⟨(some 6), .load (.t 5) 1 false, none, [0]⟩,
    ⟨(some 7), .faddr (.t 3) 0, none, []⟩,
    ⟨(some 8), .load (.t 7) 1 false, none, [2]⟩,
    ⟨(some 9), .bin .eql (.t 6) (.t 8), none, [1, 3]⟩,
    ⟨(some 10), .mv (.t 9), none, [4]⟩,
    ⟨(some 11), .faddr (.t 2) 1, (some (10, true)), [5]⟩,
    ⟨(some 12), .load (.t 11) 1 false, (some (10, true)), [6, 5]⟩,
    ⟨(some 13), .faddr (.t 3) 1, (some (10, true)), [5]⟩,
    ⟨(some 14), .load (.t 13) 1 false, (some (10, true)), [8, 5]⟩,
    ⟨(some 15), .bin .eql (.t 12) (.t 14), (some (10, true)), [7, 9, 5]⟩,
    ⟨(some 16), .pick (.t 10) (.t 15) (.k (.d (.bool false))), none, [5, 10]⟩,
    ⟨(some 17), .mv (.t 16), none, [11, 5]⟩,
    ⟨(some 18), .faddr (.t 2) 2, (some (17, true)), [12]⟩,
    ⟨(some 19), .load (.t 18) 1 false, (some (17, true)), [13, 12]⟩,
    ⟨(some 20), .faddr (.t 3) 2, (some (17, true)), [12]⟩,
    ⟨(some 21), .load (.t 20) 1 false, (some (17, true)), [15, 12]⟩,
    ⟨(some 22), .call (.k (.d (.fn (N 438)))) [(.t 19), (.t 21), (.k (.d (.fn (N 437))))], (some (17, true)), [14, 16, 12]⟩,
    ⟨(some 23), .pick (.t 17) (.t 22) (.k (.d (.bool false))), none, [12, 17]⟩,
    ⟨(some 24), .mv (.t 23), none, [18, 17]⟩,
    ⟨(some 25), .faddr (.t 2) 3, (some (24, true)), [19]⟩,
    ⟨(some 26), .load (.t 25) 1 false, (some (24, true)), [20, 19]⟩,
    ⟨(some 27), .faddr (.t 3) 3, (some (24, true)), [19]⟩,
    ⟨(some 28), .load (.t 27) 1 false, (some (24, true)), [22, 19]⟩,
    ⟨(some 29), .call (.k (.d (.fn (N 434)))) [(.t 26), (.t 28)], (some (24, true)), [21, 23, 19]⟩,
    ⟨(some 30), .pick (.t 24) (.t 29) (.k (.d (.bool false))), none, [19, 24]⟩,
    ⟨(some 4), .mv (.t 30), none, [25, 24, 0, 1, 2, 3, 4, 5, 6, 7, 8, 9, 10, 11, 12, 13, 14, 15, 16, 17, 18, 19, 20, 21, 22, 23]⟩])
   .ret)) }
def HC437 (P : Program) (N : Nat → Nat) : Prop := HasF P (N 437) (C437 N) ∧ HC438 P N ∧ HC434 P N
def f437_s (rc437 : TJson → TJson → Option Bool) (k : Nat) (a0 : TJson) (a1 : TJson) : Option Bool := cond (decide (a0.fKind = a1.fKind)) (cond (decide (a0.fText = a1.fText)) ((f438 rc437 k a0.fL a1.fL).bind fun r27 => cond r27 ((f434 k a0.fKeys a1.fKeys).bind fun r34 => some r34) (some false)) (some false)) (some false)
theorem F437_s {P : Program} {N : Nat → Nat} (hmix : P.follows .mixedOrders = true) (hc : HC437 P N) {rc437 : TJson → TJson → Option Bool} (hrc437 : RH437 P N rc437) {k : Nat} {a0 : TJson} {a1 : TJson} {r : Bool} (h : f437_s rc437 k a0 a1 = some r) :
    ACalls P (N 437) [(.d (TJson.enc a0)), (.d (TJson.enc a1))] [] (.d (.bool r)) [] := by
  refine acalls_canon (F := C437 N) hc.1 0 0 rfl ?_
  unfold f437_s at h
  dsimp only [C437, startL]
  refine AWc.seq ?_
  refine AWc.rE hmix [] ?_
  refine AWc.seq ?_
  rcases cc h with ⟨c15, h⟩ | ⟨c15, h⟩
  · rcases cc h with ⟨c22, h⟩ | ⟨c22, h⟩
    · obtain ⟨r27, e27, h⟩ := bind_some h
      rcases cc h with ⟨c29, h⟩ | ⟨c29, h⟩
      · obtain ⟨r34, e34, h⟩ := bind_some h
        refine AWc.rE hmix [.br c15, .br c22, .call (F438 hmix hc.2.1 hrc437 e27) [] 0, .br c29, .call (F434 hmix hc.2.2 e34) [] 0] ?_
        have hr := Option.some.inj h
        subst hr
        exact AWc.ret (canQ (N := 31) (k := 0) (l' := [(4, (.d (.bool r34)))]) (H' := []) rfl (inT [] []) (doneA (.inr rfl) rfl ⟨trivial, trivial⟩ (.refl _) hasNil))
      · refine AWc.rE hmix [.br c15, .br c22, .call (F438 hmix hc.2.1 hrc437 e27) [] 0, .br c29] ?_
        have hr := Option.some.inj h
        subst hr
        exact AWc.ret (canQ (N := 31) (k := 0) (l' := [(4, (.d (.bool false)))]) (H' := []) rfl (inT [] []) (doneA (.inr rfl) rfl ⟨trivial, trivial⟩ (.refl _) hasNil))
    · refine AWc.rE hmix [.br c15, .br c22, .br (rfl : false = false)] ?_
      have hr := Option.some.inj h
      subst hr
      exact AWc.ret (canQ (N := 31) (k := 0) (l' := [(4, (.d (.bool false)))]) (H' := []) rfl (inT [] []) (doneA (.inr rfl) rfl ⟨trivial, trivial⟩ (.refl _) hasNil))
  · refine AWc.rE hmix [.br c15, .br (rfl : false = false), .br (rfl : false = false)] ?_
    have hr := Option.some.inj h
    subst hr
    exact AWc.ret (canQ (N := 31) (k := 0) (l' := [(4, (.d (.bool false)))]) (H' := []) rfl (inT [] []) (doneA (.inr rfl) rfl ⟨trivial, trivial⟩ (.refl _) hasNil))
def f437 : Nat → TJson → TJson → Option Bool
  | 0, _, _ => none
  | k + 1, a0, a1 => f437_s (f437 k) k a0 a1
theorem F437 {P : Program} {N : Nat → Nat} (hmix : P.follows .mixedOrders = true) (hc : HC437 P N) {k : Nat} {a0 : TJson} {a1 : TJson} {r : Bool} (h : f437 k a0 a1 = some r) :
    ACalls P (N 437) [(.d (TJson.enc a0)), (.d (TJson.enc a1))] [] (.d (.bool r)) [] := by
  induction k generalizing a0 a1 r with
  | zero => exact absurd (show (none : Option _) = some r from h) (fun h2 => by cases h2)
  | succ k ih => exact F437_s hmix hc (fun _ _ _ h => ih h) h
/-- courant/courantlaw02.JsonPrints -/
def C413 (N : Nat → Nat) : AFunc := { n := 50, params := 2, res := [.tmp 4], body :=
 (.seq (.region false [⟨(some 2), .box (.t 0), none, []⟩,
   ⟨(some 4), .mv (.k (.d (.bool false))), none, []⟩])
  (.seq (.seq (.region false [⟨(some 9), .load (.t 2) 4 true, none, []⟩,
     ⟨(some 10), .call (.k (.d (.fn (N 408)))) [(.t 9), (.k (.d (.int .i64 2000)))], none, [0]⟩,
     ⟨(some 11), .un .not (.t 10), none, [1]⟩])
    (.cond (.t 11) (.seq (.region false [⟨(some 12), .call (.k (.d (.fn (N 395)))) [], none, []⟩,
       ⟨(some 4), .mv (.t 12), none, [0]⟩])
      .ret)
     (.skip)))
   (.seq (.region false [⟨(some 14), .load (.t 2) 4 true, none, []⟩,
     ⟨(some 15), .mv (.t 1), none, []⟩,
     ⟨(some 16), .call (.k (.d (.fn (N 440)))) [(.t 14), (.t 15)], none, [0, 1]⟩,
     ⟨(some 13), .mv (.t 16), none, [2]⟩,
     ⟨(some 17), .ext (.t 13) 0, none, [3]⟩,
     ⟨(some 18), .ext (.t 13) 1, none, [3]⟩,
     ⟨(some 5), .alloc [(.int .i64 0), (.str []), (.sl []), (.sl [])], none, []⟩,
     ⟨none, .store (.t 5) (.t 17) 4, none, [6, 4, 2, 0, 1, 3]⟩,
     ⟨(some 6), .mv (.t 18), none, [5, 7, 0, 1, 2, 3, 4, 6]⟩])
    (.seq (.region false [⟨(some 20), .load (.t 2) 4 true, none, []⟩,
      ⟨(some 21), .mv (.t 1), none, []⟩,
      ⟨(some 22), .call (.k (.d (.fn (N 346)))) [(.t 20), (.t 21)], none, [0, 1]⟩,
      ⟨(some 19), .mv (.t 22), none, [2]⟩,
      ⟨(some 23), .ext (.t 19) 0, none, [3]⟩,
      ⟨(some 24), .ext (.t 19) 1, none, [3]⟩,
      ⟨(some 7), .alloc [(.int .i64 0), (.str []), (.sl []), (.sl [])], none, []⟩,
      ⟨none, .store (.t 7) (.t 23) 4, none, [6, 4, 2, 0, 1, 3]⟩,
      ⟨(some 8), .mv (.t 24), none, [5, 7, 0, 1, 2, 3, 4, 6]⟩])
     (.seq (.region true [⟨(some 25), .call (.k (.d (.fn (N 395)))) [], none, []⟩,
       ⟨(some 26), .mv (.t 25), none, [0]⟩,
       ⟨(some 27), .load (.t 2) 4 true, (some (26, true)), [1]⟩,
       ⟨(some 28), .call (.k (.d (.fn (N 422)))) [(.t 27)], (some (26, true)), [2, 1]⟩,
       ⟨(some 29), .load (.t 2) 4 true, (some (26, true)), [1]⟩,
       ⟨(some 30), .call (.k (.d (.fn (N 347)))) [(.t 29)], (some (26, true)), [4, 3, 1]⟩,
       ⟨(some 31), .beq false (.t 28) (.t 30), (some (26, true)), [3, 5, 1]⟩,
       ⟨(some 32), .pick (.t 26) (.t 31) (.k (.d (.bool false))), none, [1, 6]⟩,
       ⟨(some 33), .mv (.t 32), none, [7, 5]⟩,
       ⟨(some 34), .load (.t 2) 4 true, (some (33, true)), [8]⟩,
       ⟨(some 35), .call (.k (.d (.fn (N 421)))) [(.t 34)], (some (33, true)), [9, 8]⟩,
       ⟨(some 36), .load (.t 2) 4 true, (some (33, true)), [8]⟩,
       ⟨(some 37), .call (.k (.d (.fn (N 354)))) [(.t 36)], (some (33, true)), [11, 10, 8]⟩,
       ⟨(some 38), .bin .eql (.t 35) (.t 37), (some (33, true)), [10, 12, 8]⟩,
       ⟨(some 39), .pick (.t 33) (.t 38) (.k (.d (.bool false))), none, [8, 13]⟩,
       ⟨(some 40), .mv (.t 39), none, [14, 12]⟩,
       ⟨(some 41), .load (.t 5) 4 true, (some (40, true)), [15]⟩,
       ⟨(some 42), .load (.t 7) 4 true, (some (40, true)), [15]⟩,
       ⟨(some 43), .call (.k (.d (.fn (N 437)))) [(.t 41), (.t 42)], (some (40, true)), [16, 17, 15]⟩,
       ⟨(some 44), .pick (.t 40) (.t 43) (.k (.d (.bool false))), none, [15, 18]⟩,
       ⟨(some 45), .mv (.t 44), none, [19, 18]⟩,
       ⟨(some 46), .mv (.t 6), (some (45, true)), [20]⟩,
       ⟨(some 47), .mv (.t 8), (some (45, true)), [20]⟩,
       ⟨(some 48), .beq false (.t 46) (.t 47), (some (45, true)), [21, 22, 20]⟩,
       ⟨(some 49), .pick (.t 45) (.t 48) (.k (.d (.bool false))), none, [20, 23]⟩,
       ⟨(some 4), .mv (.t 49), none, [24, 20, 0, 1, 2, 3, 4, 5, 6, 7, 8, 9, 10, 11, 12, 13, 14, 15, 16, 17, 18, 19, 21, 22, 23]⟩])
      .ret))))) }
def HC413 (P : Program) (N : Nat → Nat) : Prop := HasF P (N 413) (C413 N) ∧ HC408 P N ∧ HC395 P N ∧ HC440 P N ∧ HC346 P N ∧ HC422 P N ∧ HC347 P N ∧ HC421 P N ∧ HC354 P N ∧ HC437 P N
def f413 (k : Nat) (a0 : TJson) (a1 : (List UInt8)) : Option Bool := (f408 k (TJson.mk a0.fKind a0.fText a0.fL a0.fKeys) (2000 : Int)).bind fun r11 => cond (!r11) ((f395 k).bind fun r17 => some r17) ((f440 k (TJson.mk a0.fKind a0.fText a0.fL a0.fKeys) a1).bind fun r26 => (f346 k (TJson.mk a0.fKind a0.fText a0.fL a0.fKeys) a1).bind fun r38 => (f395 k).bind fun r48 => cond r48 ((f422 k (TJson.mk a0.fKind a0.fText a0.fL a0.fKeys)).bind fun r51 => (f347 k (TJson.mk a0.fKind a0.fText a0.fL a0.fKeys)).bind fun r53 => cond (r51 == r53) ((f421 k (TJson.mk a0.fKind a0.fText a0.fL a0.fKeys)).bind fun r58 => (f354 k (TJson.mk a0.fKind a0.fText a0.fL a0.fKeys)).bind fun r60 => cond (decide (r58 = r60)) ((f437 k (TJson.mk r26.2.1 r26.2.2.1 r26.2.2.2.1 r26.2.2.2.2) (TJson.mk r38.2.1 r38.2.2.1 r38.2.2.2.1 r38.2.2.2.2)).bind fun r66 => cond r66 (some (r26.1 == r38.1)) (some false)) (some false)) (some false)) (some false))
theorem F413 {P : Program} {N : Nat → Nat} (hmix : P.follows .mixedOrders = true) (hc : HC413 P N) {k : Nat} {a0 : TJson} {a1 : (List UInt8)} {r : Bool} (h : f413 k a0 a1 = some r) :
    ACalls P (N 413) [(.d (TJson.enc a0)), (.d (.str a1))] [] (.d (.bool r)) [] := by
  refine acalls_canon (F := C413 N) hc.1 0 0 rfl ?_
  unfold f413 at h
  dsimp only [C413, startL]
  refine AWc.seq ?_
  refine AWc.rE hmix [] ?_
  refine AWc.seq ?_
  refine AWc.seq ?_
  obtain ⟨r11, e11, h⟩ := bind_some h
  refine AWc.rE hmix [.call (F408 hmix hc.2.1 e11) [] 0] ?_
  rcases cc h with ⟨c13, h⟩ | ⟨c13, h⟩
  · refine AWc.cT c13 ?_
    refine AWc.seq ?_
    obtain ⟨r17, e17, h⟩ := bind_some h
    refine AWc.rE hmix [.call (F395 hmix hc.2.2.1 e17) [] 0] ?_
    have hr := Option.some.inj h
    subst hr
    exact AWc.ret (canQ (N := 50) (k := 0) (l' := [(4, (.d (.bool r17)))]) (H' := []) rfl (inT [] []) (doneA (.inr rfl) rfl ⟨trivial, trivial⟩ (.refl _) hasNil))
  · refine AWc.cF c13 ?_
    refine AWc.skip ?_
    refine AWc.seq ?_
    obtain ⟨r26, e26, h⟩ := bind_some h
    refine AWc.rE hmix [.call (F440 hmix hc.2.2.2.1 e26) [] 0] ?_
    refine AWc.seq ?_
    obtain ⟨r38, e38, h⟩ := bind_some h
    refine AWc.rE hmix [.call (F346 hmix hc.2.2.2.2.1 e38) [] 0] ?_
    refine AWc.seq ?_
    obtain ⟨r48, e48, h⟩ := bind_some h
    rcases cc h with ⟨c49, h⟩ | ⟨c49, h⟩
    · obtain ⟨r51, e51, h⟩ := bind_some h
      obtain ⟨r53, e53, h⟩ := bind_some h
      rcases cc h with ⟨c56, h⟩ | ⟨c56, h⟩
      · obtain ⟨r58, e58, h⟩ := bind_some h
        obtain ⟨r60, e60, h⟩ := bind_some h
        rcases cc h with ⟨c63, h⟩ | ⟨c63, h⟩
        · obtain ⟨r66, e66, h⟩ := bind_some h
          rcases cc h with ⟨c68, h⟩ | ⟨c68, h⟩
          · refine AWc.rE hmix [.call (F395 hmix hc.2.2.1 e48) [] 0, .br c49, .call (F422 hmix hc.2.2.2.2.2.1 e51) [] 0, .call (F347 hmix hc.2.2.2.2.2.2.1 e53) [] 0, .br c56, .call (F421 hmix hc.2.2.2.2.2.2.2.1 e58) [] 0, .call (F354 hmix hc.2.2.2.2.2.2.2.2.1 e60) [] 0, .br c63, .call (F437 hmix hc.2.2.2.2.2.2.2.2.2 e66) [] 0, .br c68] ?_
            have hr := Option.some.inj h
            subst hr
            exact AWc.ret (canQ (N := 50) (k := 0) (l' := [(4, (.d (.bool (r26.1 == r38.1))))]) (H' := []) rfl (inT [] []) (doneA (.inr rfl) rfl ⟨trivial, trivial⟩ (.refl _) hasNil))
          · refine AWc.rE hmix [.call (F395 hmix hc.2.2.1 e48) [] 0, .br c49, .call (F422 hmix hc.2.2.2.2.2.1 e51) [] 0, .call (F347 hmix hc.2.2.2.2.2.2.1 e53) [] 0, .br c56, .call (F421 hmix hc.2.2.2.2.2.2.2.1 e58) [] 0, .call (F354 hmix hc.2.2.2.2.2.2.2.2.1 e60) [] 0, .br c63, .call (F437 hmix hc.2.2.2.2.2.2.2.2.2 e66) [] 0, .br c68] ?_
            have hr := Option.some.inj h
            subst hr
            exact AWc.ret (canQ (N := 50) (k := 0) (l' := [(4, (.d (.bool false)))]) (H' := []) rfl (inT [] []) (doneA (.inr rfl) rfl ⟨trivial, trivial⟩ (.refl _) hasNil))
        · refine AWc.rE hmix [.call (F395 hmix hc.2.2.1 e48) [] 0, .br c49, .call (F422 hmix hc.2.2.2.2.2.1 e51) [] 0, .call (F347 hmix hc.2.2.2.2.2.2.1 e53) [] 0, .br c56, .call (F421 hmix hc.2.2.2.2.2.2.2.1 e58) [] 0, .call (F354 hmix hc.2.2.2.2.2.2.2.2.1 e60) [] 0, .br c63, .br (rfl : false = false)] ?_
          have hr := Option.some.inj h
          subst hr
          exact AWc.ret (canQ (N := 50) (k := 0) (l' := [(4, (.d (.bool false)))]) (H' := []) rfl (inT [] []) (doneA (.inr rfl) rfl ⟨trivial, trivial⟩ (.refl _) hasNil))
      · refine AWc.rE hmix [.call (F395 hmix hc.2.2.1 e48) [] 0, .br c49, .call (F422 hmix hc.2.2.2.2.2.1 e51) [] 0, .call (F347 hmix hc.2.2.2.2.2.2.1 e53) [] 0, .br c56, .br (rfl : false = false), .br (rfl : false = false)] ?_
        have hr := Option.some.inj h
        subst hr
        exact AWc.ret (canQ (N := 50) (k := 0) (l' := [(4, (.d (.bool false)))]) (H' := []) rfl (inT [] []) (doneA (.inr rfl) rfl ⟨trivial, trivial⟩ (.refl _) hasNil))
    · refine AWc.rE hmix [.call (F395 hmix hc.2.2.1 e48) [] 0, .br c49, .br (rfl : false = false), .br (rfl : false = false), .br (rfl : false = false)] ?_
      have hr := Option.some.inj h
      subst hr
      exact AWc.ret (canQ (N := 50) (k := 0) (l' := [(4, (.d (.bool false)))]) (H' := []) rfl (inT [] []) (doneA (.inr rfl) rfl ⟨trivial, trivial⟩ (.refl _) hasNil))
end Go.Proofs.Abs
