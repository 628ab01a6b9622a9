/- Written by gen.py: functions of the program as Lean functions, and that the code comes to them. -/
import Derived.Test.YtgimibhacllcpaaGLlra
set_option linter.unusedVariables false
set_option linter.unusedSimpArgs false
set_option maxRecDepth 100000
set_option maxHeartbeats 4000000
namespace Go.Proofs.Abs
open Go
/-- courant/courantref11.rank -/
def C310 (N : Nat → Nat) : AFunc := { n := 77, params := 2, res := [.tmp 4], body :=
 (.seq (.region false [⟨(some 2), .box (.t 0), none, []⟩,
   ⟨(some 4), .mv (.k (.d (.int .i64 0))), none, []⟩])
  (.seq (.seq (.region false [⟨(some 11), .faddr (.t 2) 0, none, []⟩,
     ⟨(some 12), .load (.t 11) 1 false, none, [0]⟩])
    (.block 0 (.seq (.region false [⟨(some 14), .bin .eql (.t 12) (.k (.d (.int .i64 9))), none, []⟩,
       ⟨(some 13), .mv (.t 14), none, [0]⟩])
      (.cond (.t 13) (.seq (.region false [⟨(some 5), .mv (.k (.d (.int .i64 0))), none, []⟩])
        (.seq (.seq (.region false [⟨(some 6), .mv (.k (.d (.int .i64 0))), none, []⟩])
          (.block 1 (.loop (.seq (.seq (.region false [⟨(some 15), .mv (.t 6), none, []⟩,
               ⟨(some 16), .faddr (.t 2) 3, none, []⟩,
               ⟨(some 17), .load (.t 16) 1 false, none, [1]⟩,
               ⟨(some 18), .len (.t 17), none, [2]⟩,
               ⟨(some 19), .bin .lss (.t 15) (.t 18), none, [0, 3]⟩])
              (.cond (.t 19) (.skip)
               (.exit 1)))
             (.seq (.block 2 (.seq (.region false [⟨(some 22), .mv (.t 1), none, []⟩,
                 ⟨(some 23), .faddr (.t 2) 3, none, []⟩,
                 ⟨(some 24), .load (.t 23) 1 false, none, [1]⟩,
                 ⟨(some 25), .mv (.t 6), none, []⟩,
                 ⟨(some 26), .iaddr (.t 24) (.t 25) 5, none, [2, 3]⟩,
                 ⟨(some 27), .faddr (.t 26) 2, none, [4]⟩,
                 ⟨(some 28), .load (.t 27) 1 false, none, [5]⟩,
                 ⟨(some 29), .call (.k (.d (.fn (N 311)))) [(.t 22), (.t 28)], none, [0, 6]⟩,
                 ⟨(some 7), .mv (.t 29), none, [7, 0, 1, 2, 3, 4, 5, 6]⟩])
                (.seq (.seq (.region false [⟨(some 30), .mv (.t 7), none, []⟩,
                   ⟨(some 31), .bin .lss (.t 30) (.k (.d (.int .i64 0))), none, [0]⟩])
                  (.cond (.t 31) (.seq (.region false [⟨(some 4), .mv (.k (.d (.int .i64 (-1)))), none, []⟩])
                    .ret)
                   (.skip)))
                 (.region false [⟨(some 32), .mv (.t 5), none, []⟩,
                  ⟨(some 33), .mv (.t 7), none, []⟩,
                  ⟨(some 34), .mm true [(.t 32), (.t 33)], none, [0, 1]⟩,
                  ⟨(some 5), .mv (.t 34), none, [2, 0, 1]⟩]))))
              (.region false [⟨(some 20), .mv (.t 6), none, []⟩,
               ⟨(some 21), .bin .add (.t 20) (.k (.d (.int .i64 1))), none, [0]⟩,
               ⟨(some 6), .mv (.t 21), none, [1, 0]⟩]))))))
         (.seq (.region false [⟨(some 35), .mv (.t 5), none, []⟩,
           ⟨(some 36), .bin .add (.t 35) (.k (.d (.int .i64 1))), none, [0]⟩,
           ⟨(some 4), .mv (.t 36), none, [1, 0]⟩])
          .ret)))
       (.seq (.region false [⟨(some 38), .bin .eql (.t 12) (.k (.d (.int .i64 13))), none, []⟩,
         ⟨(some 37), .mv (.t 38), none, [0]⟩])
        (.cond (.t 37) (.seq (.region false [⟨(some 8), .mv (.k (.d (.int .i64 (-1)))), none, []⟩])
          (.seq (.seq (.region false [⟨(some 9), .mv (.k (.d (.int .i64 0))), none, []⟩])
            (.block 3 (.loop (.seq (.seq (.region false [⟨(some 39), .mv (.t 9), none, []⟩,
                 ⟨(some 40), .faddr (.t 2) 8, none, []⟩,
                 ⟨(some 41), .load (.t 40) 1 false, none, [1]⟩,
                 ⟨(some 42), .len (.t 41), none, [2]⟩,
                 ⟨(some 43), .bin .lss (.t 39) (.t 42), none, [0, 3]⟩])
                (.cond (.t 43) (.skip)
                 (.exit 3)))
               (.seq (.block 4 (.seq (.region false [⟨(some 46), .mv (.t 1), none, []⟩,
                   ⟨(some 47), .faddr (.t 2) 8, none, []⟩,
                   ⟨(some 48), .load (.t 47) 1 false, none, [1]⟩,
                   ⟨(some 49), .mv (.t 9), none, []⟩,
                   ⟨(some 50), .iaddr (.t 48) (.t 49) 1, none, [2, 3]⟩,
                   ⟨(some 51), .load (.t 50) 1 false, none, [4]⟩,
                   ⟨(some 52), .call (.k (.d (.fn (N 311)))) [(.t 46), (.t 51)], none, [0, 5]⟩,
                   ⟨(some 10), .mv (.t 52), none, [6, 0, 1, 2, 3, 4, 5]⟩])
                  (.seq (.region false [⟨(some 53), .mv (.t 10), none, []⟩,
                    ⟨(some 54), .bin .geq (.t 53) (.k (.d (.int .i64 0))), none, [0]⟩,
                    ⟨(some 55), .mv (.t 54), none, [1]⟩,
                    ⟨(some 56), .mv (.t 8), (some (55, true)), [2]⟩,
                    ⟨(some 57), .bin .lss (.t 56) (.k (.d (.int .i64 0))), (some (55, true)), [3, 2]⟩,
                    ⟨(some 58), .mv (.t 57), (some (55, true)), [4, 2]⟩,
                    ⟨(some 59), .mv (.t 10), (some (58, false)), [5]⟩,
                    ⟨(some 60), .mv (.t 8), (some (58, false)), [5]⟩,
                    ⟨(some 61), .bin .lss (.t 59) (.t 60), (some (58, false)), [6, 7, 5]⟩,
                    ⟨(some 62), .pick (.t 58) (.k (.d (.bool true))) (.t 61), (some (55, true)), [5, 8, 2]⟩,
                    ⟨(some 63), .pick (.t 55) (.t 62) (.k (.d (.bool false))), none, [2, 9]⟩])
                   (.cond (.t 63) (.region false [⟨(some 64), .mv (.t 10), none, []⟩,
                     ⟨(some 8), .mv (.t 64), none, [0]⟩])
                    (.skip)))))
                (.region false [⟨(some 44), .mv (.t 9), none, []⟩,
                 ⟨(some 45), .bin .add (.t 44) (.k (.d (.int .i64 1))), none, [0]⟩,
                 ⟨(some 9), .mv (.t 45), none, [1, 0]⟩]))))))
           (.seq (.seq (.region false [⟨(some 65), .mv (.t 8), none, []⟩,
              ⟨(some 66), .bin .lss (.t 65) (.k (.d (.int .i64 0))), none, [0]⟩])
             (.cond (.t 66) (.seq (.region false [⟨(some 4), .mv (.k (.d (.int .i64 (-1)))), none, []⟩])
               .ret)
              (.skip)))
            (.seq (.region false [⟨(some 67), .mv (.t 8), none, []⟩,
              ⟨(some 68), .bin .add (.t 67) (.k (.d (.int .i64 1))), none, [0]⟩,
              ⟨(some 4), .mv (.t 68), none, [1, 0]⟩])
             .ret))))
         (.skip)))))))
   (.seq (.seq (.region false [⟨(some 69), .faddr (.t 2) 0, none, []⟩,
      ⟨(some 70), .load (.t 69) 1 false, none, [0]⟩,
      ⟨(some 71), .bin .lss (.t 70) (.k (.d (.int .i64 1))), none, [1]⟩,
      ⟨(some 72), .mv (.t 71), none, [2]⟩,
      ⟨(some 73), .faddr (.t 2) 0, (some (72, false)), [3]⟩,
      ⟨(some 74), .load (.t 73) 1 false, (some (72, false)), [4, 3]⟩,
      ⟨(some 75), .bin .gtr (.t 74) (.k (.d (.int .i64 14))), (some (72, false)), [5, 3]⟩,
      ⟨(some 76), .pick (.t 72) (.k (.d (.bool true))) (.t 75), none, [3, 6]⟩])
     (.cond (.t 76) (.seq (.region false [⟨(some 4), .mv (.k (.d (.int .i64 (-1)))), none, []⟩])
       .ret)
      (.skip)))
    (.seq (.region false [⟨(some 4), .mv (.k (.d (.int .i64 0))), none, []⟩])
     .ret)))) }
def HC310 (P : Program) (N : Nat → Nat) : Prop := HasF P (N 310) (C310 N) ∧ HC311 P N
def f310_j80 (k : Nat) (j80_1 : Int) : Option Int := some (IntKind.i64.wrap (j80_1 + (1 : Int)))
def f310_l28 (a0 : TNode) (a1 : (List Int)) : Nat → Int → Int → Option (LR2 Int Unit Int)
  | 0, _, _ => none
  | k + 1, y28_1, y28_2 => cond (decide (y28_2 < ((a0.fFields.length : Nat) : Int))) (gd (0 ≤ y28_2 ∧ y28_2 < ((a0.fFields.length : Nat) : Int)) ((f311 k a1 ((rd a0.fFields y28_2).fType)).bind fun r54 => cond (decide (r54 < (0 : Int))) (some (.r (-1 : Int))) (f310_l28 a0 a1 k (max y28_1 r54) (IntKind.i64.wrap (y28_2 + (1 : Int)))))) (some (.b0 y28_1))
def f310_j154 (k : Nat) (j154_1 : Int) : Option Int := cond (decide (j154_1 < (0 : Int))) (some (-1 : Int)) (some (IntKind.i64.wrap (j154_1 + (1 : Int))))
def f310_l102 (a0 : TNode) (a1 : (List Int)) : Nat → Int → Int → Option (LR2 Int Unit Int)
  | 0, _, _ => none
  | k + 1, y102_1, y102_2 => cond (decide (y102_2 < ((a0.fBranches.length : Nat) : Int))) (gd (0 ≤ y102_2 ∧ y102_2 < ((a0.fBranches.length : Nat) : Int)) ((f311 k a1 (rd a0.fBranches y102_2)).bind fun r127 => cond (decide (r127 ≥ (0 : Int))) (cond (decide (y102_1 < (0 : Int))) (f310_l102 a0 a1 k r127 (IntKind.i64.wrap (y102_2 + (1 : Int)))) (cond (decide (r127 < y102_1)) (f310_l102 a0 a1 k r127 (IntKind.i64.wrap (y102_2 + (1 : Int)))) (f310_l102 a0 a1 k y102_1 (IntKind.i64.wrap (y102_2 + (1 : Int)))))) (f310_l102 a0 a1 k y102_1 (IntKind.i64.wrap (y102_2 + (1 : Int)))))) (some (.b0 y102_1))
def f310 (k : Nat) (a0 : TNode) (a1 : (List Int)) : Option Int := cond (decide (a0.fKind = (9 : Int))) ((f310_l28 a0 a1 k (0 : Int) (0 : Int)).bind fun o28 => match o28 with | .b0 x28_1 => f310_j80 k x28_1 | .r x => some x | _ => none) (cond (decide (a0.fKind = (13 : Int))) ((f310_l102 a0 a1 k (-1 : Int) (0 : Int)).bind fun o102 => match o102 with | .b0 x102_1 => f310_j154 k x102_1 | _ => none) (cond (decide (a0.fKind < (1 : Int))) (some (-1 : Int)) (cond (decide (a0.fKind > (14 : Int))) (some (-1 : Int)) (some (0 : Int)))))
theorem F310 {P : Program} {N : Nat → Nat} (hmix : P.follows .mixedOrders = true) (hc : HC310 P N) {k : Nat} {a0 : TNode} {a1 : (List Int)} {r : Int} (h : f310 k a0 a1 = some r) :
    ACalls P (N 310) [(.d (TNode.enc a0)), (.d (.sl (List.map (D.int .i64) a1)))] [] (.d (.int .i64 r)) [] := by
  refine acalls_canon (F := C310 N) hc.1 0 0 rfl ?_
  unfold f310 at h
  dsimp only [C310, startL]
  refine AWc.seq ?_
  refine AWc.rg hmix rfl rfl ?_
  refine RegV.evS (own := false) (v := (.ptr 0 0)) (H' := [(0, (.cells [(.d (.int .i64 a0.fKind)), (.d (.str a0.fName)), (.d (.sl (List.map D.str a0.fAliases))), (.d (.sl (List.map TField.enc a0.fFields))), (.d (.sl (List.map D.str a0.fSymbols))), (.d (.bool a0.fHas)), (.d (.str a0.fDefault)), (.d (.int .i64 a0.fItems)), (.d (.sl (List.map (D.int .i64) a0.fBranches))), (.d (.int .i64 a0.fSize))]))]) (c' := 1) rfl rfl trivial rfl rfl rfl rfl rfl rfl ?_
  refine RegV.p0 rfl rfl rfl ?_
  refine RegV.nil0 ?_
  refine AWc.seq ?_
  refine AWc.seq ?_
  refine AWc.rg hmix rfl rfl ?_
  refine RegV.p0 (v := (.ptr 0 0)) rfl rfl rfl ?_
  refine RegV.ld (v := (.d (.int .i64 a0.fKind))) (H' := [(0, (.cells [(.d (.int .i64 a0.fKind)), (.d (.str a0.fName)), (.d (.sl (List.map D.str a0.fAliases))), (.d (.sl (List.map TField.enc a0.fFields))), (.d (.sl (List.map D.str a0.fSymbols))), (.d (.bool a0.fHas)), (.d (.str a0.fDefault)), (.d (.int .i64 a0.fItems)), (.d (.sl (List.map (D.int .i64) a0.fBranches))), (.d (.int .i64 a0.fSize))]))]) rfl rfl trivial rfl rfl rfl rfl rfl ?_
  refine RegV.nil0 ?_
  refine AWc.block ?_
  refine AWc.seq ?_
  refine AWc.rg hmix rfl rfl ?_
  refine RegV.p0 (v := (.d (.bool (decide (a0.fKind = (9 : Int)))))) rfl rfl rfl ?_
  refine RegV.p0 rfl rfl rfl ?_
  refine RegV.nil0 ?_
  refine AWc.cond rfl (fun c18 => ?_) (fun c18 => ?_)
  · have h := cond_pos c18 h
    refine AWc.seq ?_
    refine AWc.rg hmix rfl rfl ?_
    refine RegV.p0 rfl rfl rfl ?_
    refine RegV.nil0 ?_
    refine AWc.seqS (N := 77) 0 (fun (z : Int) => [(5, (.d (.int .i64 z)))]) (fun z => []) (fun z => f310_j80 k z = some r) rfl_le ?_ ?_
    · refine AWc.seq ?_
      refine AWc.rg hmix rfl rfl ?_
      refine RegV.p0 rfl rfl rfl ?_
      refine RegV.nil0 ?_
      obtain ⟨o28, h28, h⟩ := bind_some h
      refine AWc.block ?_
      refine AWc.loopK (N := 77) 1 (fun (x : (Int × Int)) => [(1, (.d (.sl (List.map (D.int .i64) a1)))), (2, (.ptr 0 0)), (5, (.d (.int .i64 x.1))), (6, (.d (.int .i64 x.2)))]) (fun x => [(0, (.cells [(.d (.int .i64 a0.fKind)), (.d (.str a0.fName)), (.d (.sl (List.map D.str a0.fAliases))), (.d (.sl (List.map TField.enc a0.fFields))), (.d (.sl (List.map D.str a0.fSymbols))), (.d (.bool a0.fHas)), (.d (.str a0.fDefault)), (.d (.int .i64 a0.fItems)), (.d (.sl (List.map (D.int .i64) a0.fBranches))), (.d (.int .i64 a0.fSize))]))]) (fun k x => f310_l28 a0 a1 k x.1 x.2 = some o28) k ((0 : Int), (0 : Int)) rfl_le (fun x hx => by cases hx) h28 ⟨rfl, [], [], rfl, rfl, ⟨⟨_, rfl, (.refl _)⟩, rfl, ⟨⟨_, rfl, (.refl _)⟩, rfl, ⟨⟨_, rfl, (.refl _)⟩, rfl, ⟨⟨_, rfl, (.refl _)⟩, rfl, trivial⟩⟩⟩⟩, ⟨⟨_, rfl, (.refl _)⟩, rfl, rfl, trivial⟩⟩ ?_
      clear h28
      intro k
      rintro ⟨y28_1, y28_2⟩ h28
      dsimp only at h28 ⊢
      rw [f310_l28] at h28
      refine AWc.seq ?_
      refine AWc.seq ?_
      refine AWc.rg hmix rfl rfl ?_
      refine RegV.p0 rfl rfl rfl ?_
      refine RegV.p0 (v := (.ptr 0 3)) rfl rfl rfl ?_
      refine RegV.ld (v := (.d (.sl (List.map TField.enc a0.fFields)))) (H' := [(0, (.cells [(.d (.int .i64 a0.fKind)), (.d (.str a0.fName)), (.d (.sl (List.map D.str a0.fAliases))), (.d (.sl (List.map TField.enc a0.fFields))), (.d (.sl (List.map D.str a0.fSymbols))), (.d (.bool a0.fHas)), (.d (.str a0.fDefault)), (.d (.int .i64 a0.fItems)), (.d (.sl (List.map (D.int .i64) a0.fBranches))), (.d (.int .i64 a0.fSize))]))]) rfl rfl trivial rfl rfl rfl rfl rfl ?_
      refine RegV.len (xs := a0.fFields) (e := TField.enc) rfl rfl rfl rfl ?_
      refine RegV.p0 (v := (.d (.bool (decide (y28_2 < ((a0.fFields.length : Nat) : Int)))))) rfl rfl rfl ?_
      refine RegV.nil0 ?_
      refine AWc.cond rfl (fun c39 => ?_) (fun c39 => ?_)
      · have h28 := cond_pos c39 h28
        refine AWc.skip ?_
        refine AWc.seq ?_
        refine AWc.block ?_
        refine AWc.seq ?_
        refine AWc.rg hmix rfl rfl ?_
        refine RegV.p0 rfl rfl rfl ?_
        refine RegV.p0 (v := (.ptr 0 3)) rfl rfl rfl ?_
        refine RegV.ld (v := (.d (.sl (List.map TField.enc a0.fFields)))) (H' := [(0, (.cells [(.d (.int .i64 a0.fKind)), (.d (.str a0.fName)), (.d (.sl (List.map D.str a0.fAliases))), (.d (.sl (List.map TField.enc a0.fFields))), (.d (.sl (List.map D.str a0.fSymbols))), (.d (.bool a0.fHas)), (.d (.str a0.fDefault)), (.d (.int .i64 a0.fItems)), (.d (.sl (List.map (D.int .i64) a0.fBranches))), (.d (.int .i64 a0.fSize))]))]) rfl rfl trivial rfl rfl rfl rfl rfl ?_
        refine RegV.p0 rfl rfl rfl ?_
        obtain ⟨b51, h28⟩ := gd_some h28
        refine RegV.iad (xs := a0.fFields) (e := TField.enc) rfl rfl rfl rfl (fun _ => rfl) b51 rfl ?_
        refine RegV.p0 (v := (.cp (TField.enc (rd a0.fFields y28_2)) 2)) rfl rfl rfl ?_
        refine RegV.p0 (v := (.d (.int .i64 (rd a0.fFields y28_2).fType))) rfl rfl rfl ?_
        obtain ⟨r54, e54, h28⟩ := bind_some h28
        refine RegV.call0 (F311 hmix hc.2 e54) rfl rfl rfl rfl (.cons (.refl _) (.cons (.refl _) .nil)) rfl ?_
        refine RegV.p0 rfl rfl rfl ?_
        refine RegV.nil0 ?_
        refine AWc.seq ?_
        refine AWc.seq ?_
        refine AWc.rg hmix rfl rfl ?_
        refine RegV.p0 rfl rfl rfl ?_
        refine RegV.p0 (v := (.d (.bool (decide (r54 < (0 : Int)))))) rfl rfl rfl ?_
        refine RegV.nil0 ?_
        refine AWc.cond rfl (fun c62 => ?_) (fun c62 => ?_)
        · have h28 := cond_pos c62 h28
          refine AWc.seq ?_
          refine AWc.rg hmix rfl rfl ?_
          refine RegV.p0 rfl rfl rfl ?_
          refine RegV.nil0 ?_
          cases h28
          dsimp only at h
          have hr := Option.some.inj h
          subst hr
          exact AWc.ret (canQ (N := 77) (k := 0) (l' := [(4, (.d (.int .i64 (-1 : Int))))]) (H' := []) rfl ⟨rfl, [], [], rfl, rfl, ⟨⟨_, rfl, (.refl _)⟩, rfl, trivial⟩,  trivial⟩ (doneA (.inr rfl) rfl ⟨trivial, trivial⟩ (.refl _) hasNil))
        · have h28 := cond_neg c62 h28
          refine AWc.skip ?_
          refine AWc.rg hmix rfl rfl ?_
          refine RegV.p0 rfl rfl rfl ?_
          refine RegV.p0 rfl rfl rfl ?_
          refine RegV.p0 (v := (.d (.int .i64 (max y28_1 r54)))) rfl rfl rfl ?_
          refine RegV.p0 rfl rfl rfl ?_
          refine RegV.nil0 ?_
          refine AWc.rg hmix rfl rfl ?_
          refine RegV.p0 rfl rfl rfl ?_
          refine RegV.p0 (v := (.d (.int .i64 (IntKind.i64.wrap (y28_2 + (1 : Int)))))) rfl rfl rfl ?_
          refine RegV.p0 rfl rfl rfl ?_
          refine RegV.nil0 ?_
          exact ⟨((max y28_1 r54), (IntKind.i64.wrap (y28_2 + (1 : Int)))), h28, ⟨rfl, [], [], rfl, rfl, ⟨⟨_, rfl, (.refl _)⟩, rfl, ⟨⟨_, rfl, (.refl _)⟩, rfl, ⟨⟨_, rfl, (.refl _)⟩, rfl, ⟨⟨_, rfl, (.refl _)⟩, rfl, trivial⟩⟩⟩⟩, ⟨⟨_, rfl, (.refl _)⟩, rfl, rfl, trivial⟩⟩⟩
      · have h28 := cond_neg c39 h28
        cases h28
        dsimp only at h
        refine AWc.exit ?_
        refine inBlk_eq ?_
        exact ⟨y28_1, h, ⟨rfl, [], [], rfl, rfl, ⟨⟨_, rfl, (.refl _)⟩, rfl, trivial⟩,  trivial⟩⟩
    · intro j80_1 h
      unfold f310_j80 at h
      refine AWc.seq ?_
      refine AWc.rg hmix rfl rfl ?_
      refine RegV.p0 rfl rfl rfl ?_
      refine RegV.p0 (v := (.d (.int .i64 (IntKind.i64.wrap (j80_1 + (1 : Int)))))) rfl rfl rfl ?_
      refine RegV.p0 rfl rfl rfl ?_
      refine RegV.nil0 ?_
      have hr := Option.some.inj h
      subst hr
      exact AWc.ret (canQ (N := 77) (k := 0) (l' := [(4, (.d (.int .i64 (IntKind.i64.wrap (j80_1 + (1 : Int))))))]) (H' := []) rfl ⟨rfl, [], [], rfl, rfl, ⟨⟨_, rfl, (.refl _)⟩, rfl, trivial⟩,  trivial⟩ (doneA (.inr rfl) rfl ⟨trivial, trivial⟩ (.refl _) hasNil))
  · have h := cond_neg c18 h
    refine AWc.seq ?_
    refine AWc.rg hmix rfl rfl ?_
    refine RegV.p0 (v := (.d (.bool (decide (a0.fKind = (13 : Int)))))) rfl rfl rfl ?_
    refine RegV.p0 rfl rfl rfl ?_
    refine RegV.nil0 ?_
    refine AWc.cond rfl (fun c92 => ?_) (fun c92 => ?_)
    · have h := cond_pos c92 h
      refine AWc.seq ?_
      refine AWc.rg hmix rfl rfl ?_
      refine RegV.p0 rfl rfl rfl ?_
      refine RegV.nil0 ?_
      refine AWc.seqS (N := 77) 0 (fun (z : Int) => [(8, (.d (.int .i64 z)))]) (fun z => []) (fun z => f310_j154 k z = some r) rfl_le ?_ ?_
      · refine AWc.seq ?_
        refine AWc.rg hmix rfl rfl ?_
        refine RegV.p0 rfl rfl rfl ?_
        refine RegV.nil0 ?_
        obtain ⟨o102, h102, h⟩ := bind_some h
        refine AWc.block ?_
        refine AWc.loopK (N := 77) 1 (fun (x : (Int × Int)) => [(1, (.d (.sl (List.map (D.int .i64) a1)))), (2, (.ptr 0 0)), (8, (.d (.int .i64 x.1))), (9, (.d (.int .i64 x.2)))]) (fun x => [(0, (.cells [(.d (.int .i64 a0.fKind)), (.d (.str a0.fName)), (.d (.sl (List.map D.str a0.fAliases))), (.d (.sl (List.map TField.enc a0.fFields))), (.d (.sl (List.map D.str a0.fSymbols))), (.d (.bool a0.fHas)), (.d (.str a0.fDefault)), (.d (.int .i64 a0.fItems)), (.d (.sl (List.map (D.int .i64) a0.fBranches))), (.d (.int .i64 a0.fSize))]))]) (fun k x => f310_l102 a0 a1 k x.1 x.2 = some o102) k ((-1 : Int), (0 : Int)) rfl_le (fun x hx => by cases hx) h102 ⟨rfl, [], [], rfl, rfl, ⟨⟨_, rfl, (.refl _)⟩, rfl, ⟨⟨_, rfl, (.refl _)⟩, rfl, ⟨⟨_, rfl, (.refl _)⟩, rfl, ⟨⟨_, rfl, (.refl _)⟩, rfl, trivial⟩⟩⟩⟩, ⟨⟨_, rfl, (.refl _)⟩, rfl, rfl, trivial⟩⟩ ?_
        clear h102
        intro k
        rintro ⟨y102_1, y102_2⟩ h102
        dsimp only at h102 ⊢
        rw [f310_l102] at h102
        refine AWc.seq ?_
        refine AWc.seq ?_
        refine AWc.rg hmix rfl rfl ?_
        refine RegV.p0 rfl rfl rfl ?_
        refine RegV.p0 (v := (.ptr 0 8)) rfl rfl rfl ?_
        refine RegV.ld (v := (.d (.sl (List.map (D.int .i64) a0.fBranches)))) (H' := [(0, (.cells [(.d (.int .i64 a0.fKind)), (.d (.str a0.fName)), (.d (.sl (List.map D.str a0.fAliases))), (.d (.sl (List.map TField.enc a0.fFields))), (.d (.sl (List.map D.str a0.fSymbols))), (.d (.bool a0.fHas)), (.d (.str a0.fDefault)), (.d (.int .i64 a0.fItems)), (.d (.sl (List.map (D.int .i64) a0.fBranches))), (.d (.int .i64 a0.fSize))]))]) rfl rfl trivial rfl rfl rfl rfl rfl ?_
        refine RegV.len (xs := a0.fBranches) (e := (D.int .i64)) rfl rfl rfl rfl ?_
        refine RegV.p0 (v := (.d (.bool (decide (y102_2 < ((a0.fBranches.length : Nat) : Int)))))) rfl rfl rfl ?_
        refine RegV.nil0 ?_
        refine AWc.cond rfl (fun c113 => ?_) (fun c113 => ?_)
        · have h102 := cond_pos c113 h102
          refine AWc.skip ?_
          refine AWc.seq ?_
          refine AWc.block ?_
          refine AWc.seq ?_
          refine AWc.rg hmix rfl rfl ?_
          refine RegV.p0 rfl rfl rfl ?_
          refine RegV.p0 (v := (.ptr 0 8)) rfl rfl rfl ?_
          refine RegV.ld (v := (.d (.sl (List.map (D.int .i64) a0.fBranches)))) (H' := [(0, (.cells [(.d (.int .i64 a0.fKind)), (.d (.str a0.fName)), (.d (.sl (List.map D.str a0.fAliases))), (.d (.sl (List.map TField.enc a0.fFields))), (.d (.sl (List.map D.str a0.fSymbols))), (.d (.bool a0.fHas)), (.d (.str a0.fDefault)), (.d (.int .i64 a0.fItems)), (.d (.sl (List.map (D.int .i64) a0.fBranches))), (.d (.int .i64 a0.fSize))]))]) rfl rfl trivial rfl rfl rfl rfl rfl ?_
          refine RegV.p0 rfl rfl rfl ?_
          obtain ⟨b125, h102⟩ := gd_some h102
          refine RegV.iad (xs := a0.fBranches) (e := (D.int .i64)) rfl rfl rfl rfl (fun _ => rfl) b125 rfl ?_
          refine RegV.p0 (v := (.d (.int .i64 (rd a0.fBranches y102_2)))) rfl rfl rfl ?_
          obtain ⟨r127, e127, h102⟩ := bind_some h102
          refine RegV.call0 (F311 hmix hc.2 e127) rfl rfl rfl rfl (.cons (.refl _) (.cons (.refl _) .nil)) rfl ?_
          refine RegV.p0 rfl rfl rfl ?_
          refine RegV.nil0 ?_
          refine AWc.seq ?_
          refine AWc.rg hmix rfl rfl ?_
          refine RegV.p0 rfl rfl rfl ?_
          refine RegV.p0 (v := (.d (.bool (decide (r127 ≥ (0 : Int)))))) rfl rfl rfl ?_
          refine RegV.p0 rfl rfl rfl ?_
          refine RegV.split (fun c134 => ?_) (fun c134 => ?_)
          · have h102 := cond_pos c134 h102
            refine RegV.p0 rfl rfl rfl ?_
            refine RegV.p0 (v := (.d (.bool (decide (y102_1 < (0 : Int)))))) rfl rfl rfl ?_
            refine RegV.p0 rfl rfl rfl ?_
            refine RegV.split (fun c137 => ?_) (fun c137 => ?_)
            · have h102 := cond_pos c137 h102
              refine RegV.noS rfl rfl ?_
              refine RegV.noS rfl rfl ?_
              refine RegV.noS rfl rfl ?_
              refine RegV.p0 rfl rfl rfl ?_
              refine RegV.p0 rfl rfl rfl ?_
              refine RegV.nil0 ?_
              refine AWc.cond rfl (fun _ => ?_) (fun hc => by cases hc)
              refine AWc.rg hmix rfl rfl ?_
              refine RegV.p0 rfl rfl rfl ?_
              refine RegV.p0 rfl rfl rfl ?_
              refine RegV.nil0 ?_
              refine AWc.rg hmix rfl rfl ?_
              refine RegV.p0 rfl rfl rfl ?_
              refine RegV.p0 (v := (.d (.int .i64 (IntKind.i64.wrap (y102_2 + (1 : Int)))))) rfl rfl rfl ?_
              refine RegV.p0 rfl rfl rfl ?_
              refine RegV.nil0 ?_
              exact ⟨(r127, (IntKind.i64.wrap (y102_2 + (1 : Int)))), h102, ⟨rfl, [], [], rfl, rfl, ⟨⟨_, rfl, (.refl _)⟩, rfl, ⟨⟨_, rfl, (.refl _)⟩, rfl, ⟨⟨_, rfl, (.refl _)⟩, rfl, ⟨⟨_, rfl, (.refl _)⟩, rfl, trivial⟩⟩⟩⟩, ⟨⟨_, rfl, (.refl _)⟩, rfl, rfl, trivial⟩⟩⟩
            · have h102 := cond_neg c137 h102
              refine RegV.p0 rfl rfl rfl ?_
              refine RegV.p0 rfl rfl rfl ?_
              refine RegV.p0 (v := (.d (.bool (decide (r127 < y102_1))))) rfl rfl rfl ?_
              refine RegV.p0 rfl rfl rfl ?_
              refine RegV.p0 rfl rfl rfl ?_
              refine RegV.nil0 ?_
              refine AWc.cond rfl (fun c143 => ?_) (fun c143 => ?_)
              · have h102 := cond_pos c143 h102
                refine AWc.rg hmix rfl rfl ?_
                refine RegV.p0 rfl rfl rfl ?_
                refine RegV.p0 rfl rfl rfl ?_
                refine RegV.nil0 ?_
                refine AWc.rg hmix rfl rfl ?_
                refine RegV.p0 rfl rfl rfl ?_
                refine RegV.p0 (v := (.d (.int .i64 (IntKind.i64.wrap (y102_2 + (1 : Int)))))) rfl rfl rfl ?_
                refine RegV.p0 rfl rfl rfl ?_
                refine RegV.nil0 ?_
                exact ⟨(r127, (IntKind.i64.wrap (y102_2 + (1 : Int)))), h102, ⟨rfl, [], [], rfl, rfl, ⟨⟨_, rfl, (.refl _)⟩, rfl, ⟨⟨_, rfl, (.refl _)⟩, rfl, ⟨⟨_, rfl, (.refl _)⟩, rfl, ⟨⟨_, rfl, (.refl _)⟩, rfl, trivial⟩⟩⟩⟩, ⟨⟨_, rfl, (.refl _)⟩, rfl, rfl, trivial⟩⟩⟩
              · have h102 := cond_neg c143 h102
                refine AWc.skip ?_
                refine AWc.rg hmix rfl rfl ?_
                refine RegV.p0 rfl rfl rfl ?_
                refine RegV.p0 (v := (.d (.int .i64 (IntKind.i64.wrap (y102_2 + (1 : Int)))))) rfl rfl rfl ?_
                refine RegV.p0 rfl rfl rfl ?_
                refine RegV.nil0 ?_
                exact ⟨(y102_1, (IntKind.i64.wrap (y102_2 + (1 : Int)))), h102, ⟨rfl, [], [], rfl, rfl, ⟨⟨_, rfl, (.refl _)⟩, rfl, ⟨⟨_, rfl, (.refl _)⟩, rfl, ⟨⟨_, rfl, (.refl _)⟩, rfl, ⟨⟨_, rfl, (.refl _)⟩, rfl, trivial⟩⟩⟩⟩, ⟨⟨_, rfl, (.refl _)⟩, rfl, rfl, trivial⟩⟩⟩
          · have h102 := cond_neg c134 h102
            refine RegV.noS rfl rfl ?_
            refine RegV.noS rfl rfl ?_
            refine RegV.noS rfl rfl ?_
            refine RegV.noS rfl rfl ?_
            refine RegV.noS rfl rfl ?_
            refine RegV.noS rfl rfl ?_
            refine RegV.noS rfl rfl ?_
            refine RegV.p0 rfl rfl rfl ?_
            refine RegV.nil0 ?_
            refine AWc.cond rfl (fun hc => by cases hc) (fun _ => ?_)
            refine AWc.skip ?_
            refine AWc.rg hmix rfl rfl ?_
            refine RegV.p0 rfl rfl rfl ?_
            refine RegV.p0 (v := (.d (.int .i64 (IntKind.i64.wrap (y102_2 + (1 : Int)))))) rfl rfl rfl ?_
            refine RegV.p0 rfl rfl rfl ?_
            refine RegV.nil0 ?_
            exact ⟨(y102_1, (IntKind.i64.wrap (y102_2 + (1 : Int)))), h102, ⟨rfl, [], [], rfl, rfl, ⟨⟨_, rfl, (.refl _)⟩, rfl, ⟨⟨_, rfl, (.refl _)⟩, rfl, ⟨⟨_, rfl, (.refl _)⟩, rfl, ⟨⟨_, rfl, (.refl _)⟩, rfl, trivial⟩⟩⟩⟩, ⟨⟨_, rfl, (.refl _)⟩, rfl, rfl, trivial⟩⟩⟩
        · have h102 := cond_neg c113 h102
          cases h102
          dsimp only at h
          refine AWc.exit ?_
          refine inBlk_eq ?_
          exact ⟨y102_1, h, ⟨rfl, [], [], rfl, rfl, ⟨⟨_, rfl, (.refl _)⟩, rfl, trivial⟩,  trivial⟩⟩
      · intro j154_1 h
        unfold f310_j154 at h
        refine AWc.seq ?_
        refine AWc.seq ?_
        refine AWc.rg hmix rfl rfl ?_
        refine RegV.p0 rfl rfl rfl ?_
        refine RegV.p0 (v := (.d (.bool (decide (j154_1 < (0 : Int)))))) rfl rfl rfl ?_
        refine RegV.nil0 ?_
        refine AWc.cond rfl (fun c160 => ?_) (fun c160 => ?_)
        · have h := cond_pos c160 h
          refine AWc.seq ?_
          refine AWc.rg hmix rfl rfl ?_
          refine RegV.p0 rfl rfl rfl ?_
          refine RegV.nil0 ?_
          have hr := Option.some.inj h
          subst hr
          exact AWc.ret (canQ (N := 77) (k := 0) (l' := [(4, (.d (.int .i64 (-1 : Int))))]) (H' := []) rfl ⟨rfl, [], [], rfl, rfl, ⟨⟨_, rfl, (.refl _)⟩, rfl, trivial⟩,  trivial⟩ (doneA (.inr rfl) rfl ⟨trivial, trivial⟩ (.refl _) hasNil))
        · have h := cond_neg c160 h
          refine AWc.skip ?_
          refine AWc.seq ?_
          refine AWc.rg hmix rfl rfl ?_
          refine RegV.p0 rfl rfl rfl ?_
          refine RegV.p0 (v := (.d (.int .i64 (IntKind.i64.wrap (j154_1 + (1 : Int)))))) rfl rfl rfl ?_
          refine RegV.p0 rfl rfl rfl ?_
          refine RegV.nil0 ?_
          have hr := Option.some.inj h
          subst hr
          exact AWc.ret (canQ (N := 77) (k := 0) (l' := [(4, (.d (.int .i64 (IntKind.i64.wrap (j154_1 + (1 : Int))))))]) (H' := []) rfl ⟨rfl, [], [], rfl, rfl, ⟨⟨_, rfl, (.refl _)⟩, rfl, trivial⟩,  trivial⟩ (doneA (.inr rfl) rfl ⟨trivial, trivial⟩ (.refl _) hasNil))
    · have h := cond_neg c92 h
      refine AWc.skip ?_
      refine AWc.seq ?_
      refine AWc.seq ?_
      refine AWc.rg hmix rfl rfl ?_
      refine RegV.p0 (v := (.ptr 0 0)) rfl rfl rfl ?_
      refine RegV.ld (v := (.d (.int .i64 a0.fKind))) (H' := [(0, (.cells [(.d (.int .i64 a0.fKind)), (.d (.str a0.fName)), (.d (.sl (List.map D.str a0.fAliases))), (.d (.sl (List.map TField.enc a0.fFields))), (.d (.sl (List.map D.str a0.fSymbols))), (.d (.bool a0.fHas)), (.d (.str a0.fDefault)), (.d (.int .i64 a0.fItems)), (.d (.sl (List.map (D.int .i64) a0.fBranches))), (.d (.int .i64 a0.fSize))]))]) rfl rfl trivial rfl rfl rfl rfl rfl ?_
      refine RegV.p0 (v := (.d (.bool (decide (a0.fKind < (1 : Int)))))) rfl rfl rfl ?_
      refine RegV.p0 rfl rfl rfl ?_
      refine RegV.split (fun c182 => ?_) (fun c182 => ?_)
      · have h := cond_pos c182 h
        refine RegV.noS rfl rfl ?_
        refine RegV.noS rfl rfl ?_
        refine RegV.noS rfl rfl ?_
        refine RegV.p0 rfl rfl rfl ?_
        refine RegV.nil0 ?_
        refine AWc.cond rfl (fun _ => ?_) (fun hc => by cases hc)
        refine AWc.seq ?_
        refine AWc.rg hmix rfl rfl ?_
        refine RegV.p0 rfl rfl rfl ?_
        refine RegV.nil0 ?_
        have hr := Option.some.inj h
        subst hr
        exact AWc.ret (canQ (N := 77) (k := 0) (l' := [(4, (.d (.int .i64 (-1 : Int))))]) (H' := []) rfl ⟨rfl, [], [], rfl, rfl, ⟨⟨_, rfl, (.refl _)⟩, rfl, trivial⟩,  trivial⟩ (doneA (.inr rfl) rfl ⟨trivial, trivial⟩ (.refl _) hasNil))
      · have h := cond_neg c182 h
        refine RegV.p0 (v := (.ptr 0 0)) rfl rfl rfl ?_
        refine RegV.ld (v := (.d (.int .i64 a0.fKind))) (H' := [(0, (.cells [(.d (.int .i64 a0.fKind)), (.d (.str a0.fName)), (.d (.sl (List.map D.str a0.fAliases))), (.d (.sl (List.map TField.enc a0.fFields))), (.d (.sl (List.map D.str a0.fSymbols))), (.d (.bool a0.fHas)), (.d (.str a0.fDefault)), (.d (.int .i64 a0.fItems)), (.d (.sl (List.map (D.int .i64) a0.fBranches))), (.d (.int .i64 a0.fSize))]))]) rfl rfl trivial rfl rfl rfl rfl rfl ?_
        refine RegV.p0 (v := (.d (.bool (decide (a0.fKind > (14 : Int)))))) rfl rfl rfl ?_
        refine RegV.p0 rfl rfl rfl ?_
        refine RegV.nil0 ?_
        refine AWc.cond rfl (fun c187 => ?_) (fun c187 => ?_)
        · have h := cond_pos c187 h
          refine AWc.seq ?_
          refine AWc.rg hmix rfl rfl ?_
          refine RegV.p0 rfl rfl rfl ?_
          refine RegV.nil0 ?_
          have hr := Option.some.inj h
          subst hr
          exact AWc.ret (canQ (N := 77) (k := 0) (l' := [(4, (.d (.int .i64 (-1 : Int))))]) (H' := []) rfl ⟨rfl, [], [], rfl, rfl, ⟨⟨_, rfl, (.refl _)⟩, rfl, trivial⟩,  trivial⟩ (doneA (.inr rfl) rfl ⟨trivial, trivial⟩ (.refl _) hasNil))
        · have h := cond_neg c187 h
          refine AWc.skip ?_
          refine AWc.seq ?_
          refine AWc.rg hmix rfl rfl ?_
          refine RegV.p0 rfl rfl rfl ?_
          refine RegV.nil0 ?_
          have hr := Option.some.inj h
          subst hr
          exact AWc.ret (canQ (N := 77) (k := 0) (l' := [(4, (.d (.int .i64 (0 : Int))))]) (H' := []) rfl ⟨rfl, [], [], rfl, rfl, ⟨⟨_, rfl, (.refl _)⟩, rfl, trivial⟩,  trivial⟩ (doneA (.inr rfl) rfl ⟨trivial, trivial⟩ (.refl _) hasNil))
/-- courant/courantref11.ranks -/
def C309 (N : Nat → Nat) : AFunc := { n := 51, params := 1, res := [.tmp 2], body :=
 (.seq (.region false [⟨(some 1), .box (.t 0), none, []⟩,
   ⟨(some 2), .mv (.k .nils), none, []⟩])
  (.seq (.region false [⟨(some 3), .mv (.k .nils), none, []⟩])
   (.seq (.seq (.region false [⟨(some 4), .mv (.k (.d (.int .i64 0))), none, []⟩])
     (.block 0 (.loop (.seq (.seq (.region false [⟨(some 8), .mv (.t 4), none, []⟩,
          ⟨(some 9), .faddr (.t 1) 0, none, []⟩,
          ⟨(some 10), .load (.t 9) 1 false, none, [1]⟩,
          ⟨(some 11), .len (.t 10), none, [2]⟩,
          ⟨(some 12), .bin .lss (.t 8) (.t 11), none, [0, 3]⟩])
         (.cond (.t 12) (.skip)
          (.exit 0)))
        (.seq (.block 1 (.region false [⟨(some 15), .mv (.t 3), none, []⟩,
           ⟨(some 16), .bslice 1 1 [(.int .i64 0)] [(0, (.k (.d (.int .i64 (-1)))))], none, []⟩,
           ⟨(some 17), .app (.t 15) (.t 16) 1 8 [(.int .i64 0)], none, [0, 1]⟩,
           ⟨(some 3), .mv (.t 17), none, [2, 0, 1]⟩]))
         (.region false [⟨(some 13), .mv (.t 4), none, []⟩,
          ⟨(some 14), .bin .add (.t 13) (.k (.d (.int .i64 1))), none, [0]⟩,
          ⟨(some 4), .mv (.t 14), none, [1, 0]⟩]))))))
    (.seq (.seq (.region false [⟨(some 5), .mv (.k (.d (.int .i64 0))), none, []⟩])
      (.block 2 (.loop (.seq (.seq (.region false [⟨(some 18), .mv (.t 5), none, []⟩,
           ⟨(some 19), .faddr (.t 1) 0, none, []⟩,
           ⟨(some 20), .load (.t 19) 1 false, none, [1]⟩,
           ⟨(some 21), .len (.t 20), none, [2]⟩,
           ⟨(some 22), .bin .leq (.t 18) (.t 21), none, [0, 3]⟩])
          (.cond (.t 22) (.skip)
           (.exit 2)))
         (.seq (.block 3 (.seq (.region false [⟨(some 25), .mv (.t 3), none, []⟩,
             ⟨(some 26), .app (.k .nils) (.t 25) 1 8 [(.int .i64 0)], none, [0]⟩,
             ⟨(some 6), .mv (.t 26), none, [1, 0]⟩])
            (.seq (.seq (.region false [⟨(some 7), .mv (.k (.d (.int .i64 0))), none, []⟩])
              (.block 4 (.loop (.seq (.seq (.region false [⟨(some 27), .mv (.t 7), none, []⟩,
                   ⟨(some 28), .faddr (.t 1) 0, none, []⟩,
                   ⟨(some 29), .load (.t 28) 1 false, none, [1]⟩,
                   ⟨(some 30), .len (.t 29), none, [2]⟩,
                   ⟨(some 31), .bin .lss (.t 27) (.t 30), none, [0, 3]⟩])
                  (.cond (.t 31) (.skip)
                   (.exit 4)))
                 (.seq (.block 5 (.seq (.region false [⟨(some 34), .mv (.t 3), none, []⟩,
                     ⟨(some 35), .mv (.t 7), none, []⟩,
                     ⟨(some 36), .iaddr (.t 34) (.t 35) 1, none, [0, 1]⟩,
                     ⟨(some 37), .load (.t 36) 1 false, none, [2]⟩,
                     ⟨(some 38), .bin .lss (.t 37) (.k (.d (.int .i64 0))), none, [3]⟩])
                    (.cond (.t 38) (.region false [⟨(some 39), .mv (.t 6), none, []⟩,
                      ⟨(some 40), .mv (.t 7), none, []⟩,
                      ⟨(some 41), .faddr (.t 1) 0, none, []⟩,
                      ⟨(some 42), .load (.t 41) 1 false, none, [2]⟩,
                      ⟨(some 43), .mv (.t 7), none, []⟩,
                      ⟨(some 44), .iaddr (.t 42) (.t 43) 10, none, [3, 4]⟩,
                      ⟨(some 45), .load (.t 44) 10 true, none, [5]⟩,
                      ⟨(some 46), .mv (.t 3), none, []⟩,
                      ⟨(some 47), .call (.k (.d (.fn (N 310)))) [(.t 45), (.t 46)], none, [6, 7]⟩,
                      ⟨(some 48), .iaddr (.t 39) (.t 40) 1, none, [0, 1, 2, 3, 4, 5, 6, 7, 8]⟩,
                      ⟨none, .store (.t 48) (.t 47) 1, none, [9, 8, 0, 1, 2, 3, 4, 5, 6, 7]⟩])
                     (.skip))))
                  (.region false [⟨(some 32), .mv (.t 7), none, []⟩,
                   ⟨(some 33), .bin .add (.t 32) (.k (.d (.int .i64 1))), none, [0]⟩,
                   ⟨(some 7), .mv (.t 33), none, [1, 0]⟩]))))))
             (.region false [⟨(some 49), .mv (.t 6), none, []⟩,
              ⟨(some 3), .mv (.t 49), none, [0]⟩]))))
          (.region false [⟨(some 23), .mv (.t 5), none, []⟩,
           ⟨(some 24), .bin .add (.t 23) (.k (.d (.int .i64 1))), none, [0]⟩,
           ⟨(some 5), .mv (.t 24), none, [1, 0]⟩]))))))
     (.seq (.region false [⟨(some 50), .mv (.t 3), none, []⟩,
       ⟨(some 2), .mv (.t 50), none, [0]⟩])
      .ret))))) }
def HC309 (P : Program) (N : Nat → Nat) : Prop := HasF P (N 309) (C309 N) ∧ HC310 P N
def f309_l74 (a0 : TSchema) (y47_1 : (List Int)) : Nat → Int → (List Int) → Option (LR2 (List Int) Unit (List Int))
  | 0, _, _ => none
  | k + 1, y74_1, y74_2 => cond (decide (y74_1 < ((a0.fNodes.length : Nat) : Int))) (gd (0 ≤ y74_1 ∧ y74_1 < ((y47_1.length : Nat) : Int)) (cond (decide ((rd y47_1 y74_1) < (0 : Int))) (gd (0 ≤ y74_1 ∧ y74_1 < ((a0.fNodes.length : Nat) : Int)) ((f310 k (rd a0.fNodes y74_1) y47_1).bind fun r109 => gd (0 ≤ y74_1 ∧ y74_1 < ((y47_1.length : Nat) : Int)) (gd ((y74_1).toNat < y74_2.length) (f309_l74 a0 y47_1 k (IntKind.i64.wrap (y74_1 + (1 : Int))) (List.set y74_2 (y74_1).toNat r109))))) (f309_l74 a0 y47_1 k (IntKind.i64.wrap (y74_1 + (1 : Int))) y74_2))) (some (.b0 y74_2))
def f309_l47 (a0 : TSchema) : Nat → (List Int) → Int → Option (LR2 (List Int) Unit (List Int))
  | 0, _, _ => none
  | k + 1, y47_1, y47_2 => cond (decide (y47_2 ≤ ((a0.fNodes.length : Nat) : Int))) (gd (y47_1.length * 8 ≤ 281474976710656) ((f309_l74 a0 y47_1 k (0 : Int) y47_1).bind fun o74 => match o74 with | .b0 x74_1 => gd (y47_1.length ≤ x74_1.length) (f309_l47 a0 k (List.take y47_1.length x74_1) (IntKind.i64.wrap (y47_2 + (1 : Int)))) | _ => none)) (some (.b0 y47_1))
def f309_j42 (k : Nat) (a0 : TSchema) (j42_1 : (List Int)) : Option (List Int) := (f309_l47 a0 k j42_1 (0 : Int)).bind fun o47 => match o47 with | .b0 x47_1 => some x47_1 | _ => none
def f309_l15 (a0 : TSchema) : Nat → (List Int) → Int → Option (LR2 (List Int) Unit (List Int))
  | 0, _, _ => none
  | k + 1, y15_1, y15_2 => cond (decide (y15_2 < ((a0.fNodes.length : Nat) : Int))) (gd ((y15_1.length + ([(-1 : Int)] : List Int).length) * 2 * 8 ≤ 281474976710656) (f309_l15 a0 k (y15_1 ++ ([(-1 : Int)] : List Int)) (IntKind.i64.wrap (y15_2 + (1 : Int))))) (some (.b0 y15_1))
def f309 (k : Nat) (a0 : TSchema) : Option (List Int) := (f309_l15 a0 k ([] : List Int) (0 : Int)).bind fun o15 => match o15 with | .b0 x15_1 => f309_j42 k a0 x15_1 | _ => none
theorem F309 {P : Program} {N : Nat → Nat} (hmix : P.follows .mixedOrders = true) (hc : HC309 P N) {k : Nat} {a0 : TSchema} {r : (List Int)} (h : f309 k a0 = some r) :
    ACalls P (N 309) [(.d (TSchema.enc a0))] [] (.d (.sl (List.map (D.int .i64) r))) [] := by
  refine acalls_canon (F := C309 N) hc.1 0 0 rfl ?_
  unfold f309 at h
  dsimp only [C309, startL]
  refine AWc.seq ?_
  refine AWc.rg hmix rfl rfl ?_
  refine RegV.evS (own := false) (v := (.ptr 0 0)) (H' := [(0, (.cells [(.d (.sl (List.map TNode.enc a0.fNodes)))]))]) (c' := 1) rfl rfl trivial rfl rfl rfl rfl rfl rfl ?_
  refine RegV.p0 rfl rfl rfl ?_
  refine RegV.nil0 ?_
  refine AWc.seq ?_
  refine AWc.rg hmix rfl rfl ?_
  refine RegV.p0 rfl rfl rfl ?_
  refine RegV.nil0 ?_
  refine AWc.seqS (N := 51) 2 (fun (z : (List Int)) => [(1, (.ptr 0 0)), (3, (.ap 1 1 (List.map (D.int .i64) z)))]) (fun z => [(0, (.cells [(.d (.sl (List.map TNode.enc a0.fNodes)))])), (1, (.tok ((List.map (D.int .i64) z).length * 1)))]) (fun z => f309_j42 k a0 z = some r) rfl_le ?_ ?_
  · refine AWc.seq ?_
    refine AWc.rg hmix rfl rfl ?_
    refine RegV.p0 rfl rfl rfl ?_
    refine RegV.nil0 ?_
    obtain ⟨o15, h15, h⟩ := bind_some h
    refine AWc.block ?_
    refine AWc.loopK (N := 51) 2 (fun (x : ((List Int) × Int)) => [(1, (.ptr 0 0)), (3, (.ap 1 1 (List.map (D.int .i64) x.1))), (4, (.d (.int .i64 x.2)))]) (fun x => [(0, (.cells [(.d (.sl (List.map TNode.enc a0.fNodes)))])), (1, (.tok ((List.map (D.int .i64) x.1).length * 1)))]) (fun k x => f309_l15 a0 k x.1 x.2 = some o15) k (([] : List Int), (0 : Int)) rfl_le (fun x hx => by cases hx) h15 ⟨rfl, [.tok 0], [(1, 1)], rfl, rfl, ⟨⟨_, rfl, (.refl _)⟩, rfl, ⟨⟨_, rfl, .nil⟩, rfl, ⟨⟨_, rfl, (.refl _)⟩, rfl, trivial⟩⟩⟩, ⟨⟨_, rfl, (.refl _)⟩, rfl, rfl, ⟨⟨_, rfl, (.refl _)⟩, rfl, rfl, trivial⟩⟩⟩ ?_
    clear h15
    intro k
    rintro ⟨y15_1, y15_2⟩ h15
    dsimp only at h15 ⊢
    rw [f309_l15] at h15
    refine AWc.seq ?_
    refine AWc.seq ?_
    refine AWc.rg hmix rfl rfl ?_
    refine RegV.p0 rfl rfl rfl ?_
    refine RegV.p0 (v := (.ptr 0 0)) rfl rfl rfl ?_
    refine RegV.ld (v := (.d (.sl (List.map TNode.enc a0.fNodes)))) (H' := [(0, (.cells [(.d (.sl (List.map TNode.enc a0.fNodes)))])), (1, (.tok ((List.map (D.int .i64) y15_1).length * 1)))]) rfl rfl trivial rfl rfl rfl rfl rfl ?_
    refine RegV.len (xs := a0.fNodes) (e := TNode.enc) rfl rfl rfl rfl ?_
    refine RegV.p0 (v := (.d (.bool (decide (y15_2 < ((a0.fNodes.length : Nat) : Int)))))) rfl rfl rfl ?_
    refine RegV.nil0 ?_
    refine AWc.cond rfl (fun c26 => ?_) (fun c26 => ?_)
    · have h15 := cond_pos c26 h15
      refine AWc.skip ?_
      refine AWc.seq ?_
      refine AWc.block ?_
      refine AWc.rg hmix rfl rfl ?_
      refine RegV.p0 rfl rfl rfl ?_
      refine RegV.p1 (v := (.d (.sl (List.map (D.int .i64) ([(-1 : Int)] : List Int))))) rfl rfl (by exact ⟨rfl, Nat.le_of_ble_eq_true rfl, mapLen (e := (D.int .i64)) (xs := ([(-1 : Int)] : List Int)) (z := 1) (fun _ => rfl)⟩) rfl rfl ?_
      obtain ⟨b35, h15⟩ := gd_some h15
      refine RegV.appA (xs := y15_1) (ys := ([(-1 : Int)] : List Int)) (e := (D.int .i64)) (H1 := [(0, (.cells [(.d (.sl (List.map TNode.enc a0.fNodes)))]))]) rfl rfl rfl rfl (fun _ => rfl) rfl rfl b35 rfl rfl rfl ?_
      refine RegV.p0 rfl rfl rfl ?_
      refine RegV.nil0 ?_
      refine AWc.rg hmix rfl rfl ?_
      refine RegV.p0 rfl rfl rfl ?_
      refine RegV.p0 (v := (.d (.int .i64 (IntKind.i64.wrap (y15_2 + (1 : Int)))))) rfl rfl rfl ?_
      refine RegV.p0 rfl rfl rfl ?_
      refine RegV.nil0 ?_
      exact ⟨((y15_1 ++ ([(-1 : Int)] : List Int)), (IntKind.i64.wrap (y15_2 + (1 : Int)))), h15, ⟨rfl, [], [(1, 2)], rfl, rfl, ⟨⟨_, rfl, (.refl _)⟩, rfl, ⟨⟨_, rfl, (.refl _)⟩, rfl, ⟨⟨_, rfl, (.refl _)⟩, rfl, trivial⟩⟩⟩, ⟨⟨_, rfl, (.refl _)⟩, rfl, rfl, ⟨⟨_, rfl, (.refl _)⟩, rfl, rfl, trivial⟩⟩⟩⟩
    · have h15 := cond_neg c26 h15
      cases h15
      dsimp only at h
      refine AWc.exit ?_
      refine inBlk_eq ?_
      exact ⟨y15_1, h, ⟨rfl, [], [], rfl, rfl, ⟨⟨_, rfl, (.refl _)⟩, rfl, ⟨⟨_, rfl, (.refl _)⟩, rfl, trivial⟩⟩, ⟨⟨_, rfl, (.refl _)⟩, rfl, rfl, ⟨⟨_, rfl, (.refl _)⟩, rfl, rfl, trivial⟩⟩⟩⟩
  · intro j42_1 h
    unfold f309_j42 at h
    refine AWc.seq ?_
    refine AWc.seq ?_
    refine AWc.rg hmix rfl rfl ?_
    refine RegV.p0 rfl rfl rfl ?_
    refine RegV.nil0 ?_
    obtain ⟨o47, h47, h⟩ := bind_some h
    refine AWc.block ?_
    refine AWc.loopK (N := 51) 1 (fun (x : ((List Int) × Int)) => [(1, (.ptr 0 0)), (3, (.d (.sl (List.map (D.int .i64) x.1)))), (5, (.d (.int .i64 x.2)))]) (fun x => [(0, (.cells [(.d (.sl (List.map TNode.enc a0.fNodes)))]))]) (fun k x => f309_l47 a0 k x.1 x.2 = some o47) k (j42_1, (0 : Int)) rfl_le (fun x hx => by cases hx) h47 ⟨rfl, [], [], rfl, rfl, ⟨⟨_, rfl, (.refl _)⟩, rfl, ⟨⟨_, rfl, (.sl rfl)⟩, rfl, ⟨⟨_, rfl, (.refl _)⟩, rfl, trivial⟩⟩⟩, ⟨⟨_, rfl, (.refl _)⟩, rfl, rfl, trivial⟩⟩ ?_
    clear h47
    intro k
    rintro ⟨y47_1, y47_2⟩ h47
    dsimp only at h47 ⊢
    rw [f309_l47] at h47
    refine AWc.seq ?_
    refine AWc.seq ?_
    refine AWc.rg hmix rfl rfl ?_
    refine RegV.p0 rfl rfl rfl ?_
    refine RegV.p0 (v := (.ptr 0 0)) rfl rfl rfl ?_
    refine RegV.ld (v := (.d (.sl (List.map TNode.enc a0.fNodes)))) (H' := [(0, (.cells [(.d (.sl (List.map TNode.enc a0.fNodes)))]))]) rfl rfl trivial rfl rfl rfl rfl rfl ?_
    refine RegV.len (xs := a0.fNodes) (e := TNode.enc) rfl rfl rfl rfl ?_
    refine RegV.p0 (v := (.d (.bool (decide (y47_2 ≤ ((a0.fNodes.length : Nat) : Int)))))) rfl rfl rfl ?_
    refine RegV.nil0 ?_
    refine AWc.cond rfl (fun c58 => ?_) (fun c58 => ?_)
    · have h47 := cond_pos c58 h47
      refine AWc.skip ?_
      refine AWc.seq ?_
      refine AWc.block ?_
      refine AWc.seq ?_
      refine AWc.rg hmix rfl rfl ?_
      refine RegV.p0 rfl rfl rfl ?_
      obtain ⟨b67, h47⟩ := gd_some h47
      refine RegV.appR (ys := y47_1) (e := (D.int .i64)) rfl rfl rfl (int_ok _) rfl rfl b67 rfl rfl ?_
      refine RegV.p0 rfl rfl rfl ?_
      refine RegV.nil0 ?_
      refine AWc.seq ?_
      refine AWc.seq ?_
      refine AWc.rg hmix rfl rfl ?_
      refine RegV.p0 rfl rfl rfl ?_
      refine RegV.nil0 ?_
      obtain ⟨o74, h74, h47⟩ := bind_some h47
      refine AWc.block ?_
      refine AWc.loopK (N := 51) 2 (fun (x : (Int × (List Int))) => [(1, (.ptr 0 0)), (3, (.d (.sl (List.map (D.int .i64) y47_1)))), (5, (.d (.int .i64 y47_2))), (6, (.row 1 1 y47_1.length)), (7, (.d (.int .i64 x.1)))]) (fun x => [(0, (.cells [(.d (.sl (List.map TNode.enc a0.fNodes)))])), (1, (rowO (D.int .i64) x.2))]) (fun k x => f309_l74 a0 y47_1 k x.1 x.2 = some o74) k ((0 : Int), y47_1) rfl_le (fun x hx => by cases hx) h74 ⟨rfl, [], [], rfl, rfl, ⟨⟨_, rfl, (.refl _)⟩, rfl, ⟨⟨_, rfl, (.refl _)⟩, rfl, ⟨⟨_, rfl, (.refl _)⟩, rfl, ⟨⟨_, rfl, (.refl _)⟩, rfl, ⟨⟨_, rfl, (.refl _)⟩, rfl, trivial⟩⟩⟩⟩⟩, ⟨⟨_, rfl, (.refl _)⟩, rfl, rfl, ⟨⟨_, rfl, (.refl _)⟩, rfl, rfl, trivial⟩⟩⟩ ?_
      clear h74
      intro k
      rintro ⟨y74_1, y74_2⟩ h74
      dsimp only at h74 ⊢
      rw [f309_l74] at h74
      refine AWc.seq ?_
      refine AWc.seq ?_
      refine AWc.rg hmix rfl rfl ?_
      refine RegV.p0 rfl rfl rfl ?_
      refine RegV.p0 (v := (.ptr 0 0)) rfl rfl rfl ?_
      refine RegV.ld (v := (.d (.sl (List.map TNode.enc a0.fNodes)))) (H' := [(0, (.cells [(.d (.sl (List.map TNode.enc a0.fNodes)))])), (1, (rowO (D.int .i64) y74_2))]) rfl rfl trivial rfl rfl rfl rfl rfl ?_
      refine RegV.len (xs := a0.fNodes) (e := TNode.enc) rfl rfl rfl rfl ?_
      refine RegV.p0 (v := (.d (.bool (decide (y74_1 < ((a0.fNodes.length : Nat) : Int)))))) rfl rfl rfl ?_
      refine RegV.nil0 ?_
      refine AWc.cond rfl (fun c85 => ?_) (fun c85 => ?_)
      · have h74 := cond_pos c85 h74
        refine AWc.skip ?_
        refine AWc.seq ?_
        refine AWc.block ?_
        refine AWc.seq ?_
        refine AWc.rg hmix rfl rfl ?_
        refine RegV.p0 rfl rfl rfl ?_
        refine RegV.p0 rfl rfl rfl ?_
        obtain ⟨b95, h74⟩ := gd_some h74
        refine RegV.iad (xs := y47_1) (e := (D.int .i64)) rfl rfl rfl rfl (fun _ => rfl) b95 rfl ?_
        refine RegV.p0 (v := (.d (.int .i64 (rd y47_1 y74_1)))) rfl rfl rfl ?_
        refine RegV.p0 (v := (.d (.bool (decide ((rd y47_1 y74_1) < (0 : Int)))))) rfl rfl rfl ?_
        refine RegV.nil0 ?_
        refine AWc.cond rfl (fun c98 => ?_) (fun c98 => ?_)
        · have h74 := cond_pos c98 h74
          refine AWc.rg hmix rfl rfl ?_
          refine RegV.p0 rfl rfl rfl ?_
          refine RegV.p0 rfl rfl rfl ?_
          refine RegV.p0 (v := (.ptr 0 0)) rfl rfl rfl ?_
          refine RegV.ld (v := (.d (.sl (List.map TNode.enc a0.fNodes)))) (H' := [(0, (.cells [(.d (.sl (List.map TNode.enc a0.fNodes)))])), (1, (rowO (D.int .i64) y74_2))]) rfl rfl trivial rfl rfl rfl rfl rfl ?_
          refine RegV.p0 rfl rfl rfl ?_
          obtain ⟨b106, h74⟩ := gd_some h74
          refine RegV.iad (xs := a0.fNodes) (e := TNode.enc) rfl rfl rfl rfl (fun _ => rfl) b106 rfl ?_
          refine RegV.p1 (v := (.d (TNode.enc (rd a0.fNodes y74_1)))) rfl rfl rfl rfl rfl ?_
          refine RegV.p0 rfl rfl rfl ?_
          obtain ⟨r109, e109, h74⟩ := bind_some h74
          refine RegV.call0 (F310 hmix hc.2 e109) rfl rfl rfl rfl (.cons (.refl _) (.cons (.refl _) .nil)) rfl ?_
          obtain ⟨b110, h74⟩ := gd_some h74
          refine RegV.iaR (z := 1) rfl rfl (fun _ => rfl) b110 rfl ?_
          obtain ⟨b111, h74⟩ := gd_some h74
          refine RegV.stR (e := (D.int .i64)) (xs := y74_2) (i := (y74_1).toNat) (v := r109) (H' := [(1, (rowO (D.int .i64) (List.set y74_2 (y74_1).toNat r109))), (0, (.cells [(.d (.sl (List.map TNode.enc a0.fNodes)))]))]) rfl rfl rfl rfl rfl (int_ok _) rfl b111 rfl rfl rfl ?_
          refine RegV.nil0 ?_
          refine AWc.rg hmix rfl rfl ?_
          refine RegV.p0 rfl rfl rfl ?_
          refine RegV.p0 (v := (.d (.int .i64 (IntKind.i64.wrap (y74_1 + (1 : Int)))))) rfl rfl rfl ?_
          refine RegV.p0 rfl rfl rfl ?_
          refine RegV.nil0 ?_
          exact ⟨((IntKind.i64.wrap (y74_1 + (1 : Int))), (List.set y74_2 (y74_1).toNat r109)), h74, ⟨rfl, [], [], rfl, rfl, ⟨⟨_, rfl, (.refl _)⟩, rfl, ⟨⟨_, rfl, (.refl _)⟩, rfl, ⟨⟨_, rfl, (.refl _)⟩, rfl, ⟨⟨_, rfl, (.refl _)⟩, rfl, ⟨⟨_, rfl, (.refl _)⟩, rfl, trivial⟩⟩⟩⟩⟩, ⟨⟨_, rfl, (.refl _)⟩, rfl, rfl, ⟨⟨_, rfl, (.refl _)⟩, rfl, rfl, trivial⟩⟩⟩⟩
        · have h74 := cond_neg c98 h74
          refine AWc.skip ?_
          refine AWc.rg hmix rfl rfl ?_
          refine RegV.p0 rfl rfl rfl ?_
          refine RegV.p0 (v := (.d (.int .i64 (IntKind.i64.wrap (y74_1 + (1 : Int)))))) rfl rfl rfl ?_
          refine RegV.p0 rfl rfl rfl ?_
          refine RegV.nil0 ?_
          exact ⟨((IntKind.i64.wrap (y74_1 + (1 : Int))), y74_2), h74, ⟨rfl, [], [], rfl, rfl, ⟨⟨_, rfl, (.refl _)⟩, rfl, ⟨⟨_, rfl, (.refl _)⟩, rfl, ⟨⟨_, rfl, (.refl _)⟩, rfl, ⟨⟨_, rfl, (.refl _)⟩, rfl, ⟨⟨_, rfl, (.refl _)⟩, rfl, trivial⟩⟩⟩⟩⟩, ⟨⟨_, rfl, (.refl _)⟩, rfl, rfl, ⟨⟨_, rfl, (.refl _)⟩, rfl, rfl, trivial⟩⟩⟩⟩
      · have h74 := cond_neg c85 h74
        cases h74
        dsimp only at h47
        refine AWc.exit ?_
        refine inBlk_eq ?_
        refine AWc.rg hmix rfl rfl ?_
        refine RegV.p0 rfl rfl rfl ?_
        refine RegV.p0 rfl rfl rfl ?_
        refine RegV.nil0 ?_
        obtain ⟨bz1_0, h47⟩ := gd_some h47
        refine AWc.sealB (l0 := 1) (xs := y74_2) (l' := [(1, (.ptr 0 0)), (3, (.d (.sl (List.map (D.int .i64) (List.take y47_1.length y74_2))))), (5, (.d (.int .i64 y47_2)))]) (H' := [(0, (.cells [(.d (.sl (List.map TNode.enc a0.fNodes)))])), (1, (.tok (y74_2.length * 1)))]) (int_ok _) rfl (.inr rfl) ⟨⟨_, rfl, .same⟩, ⟨_, rfl, (.row bz1_0)⟩, ⟨_, rfl, .same⟩, trivial⟩ rfl ?_
        refine AWc.rg hmix rfl rfl ?_
        refine RegV.p0 rfl rfl rfl ?_
        refine RegV.p0 (v := (.d (.int .i64 (IntKind.i64.wrap (y47_2 + (1 : Int)))))) rfl rfl rfl ?_
        refine RegV.p0 rfl rfl rfl ?_
        refine RegV.nil0 ?_
        exact ⟨((List.take y47_1.length y74_2), (IntKind.i64.wrap (y47_2 + (1 : Int)))), h47, ⟨rfl, [], [], rfl, rfl, ⟨⟨_, rfl, (.refl _)⟩, rfl, ⟨⟨_, rfl, (.refl _)⟩, rfl, ⟨⟨_, rfl, (.refl _)⟩, rfl, trivial⟩⟩⟩, ⟨⟨_, rfl, (.refl _)⟩, rfl, rfl, trivial⟩⟩⟩
    · have h47 := cond_neg c58 h47
      cases h47
      dsimp only at h
      refine AWc.exit ?_
      refine inBlk_eq ?_
      refine AWc.seq ?_
      refine AWc.rg hmix rfl rfl ?_
      refine RegV.p0 rfl rfl rfl ?_
      refine RegV.p0 rfl rfl rfl ?_
      refine RegV.nil0 ?_
      have hr := Option.some.inj h
      subst hr
      exact AWc.ret (canQ (N := 51) (k := 0) (l' := [(2, (.d (.sl (List.map (D.int .i64) y47_1))))]) (H' := []) rfl ⟨rfl, [], [], rfl, rfl, ⟨⟨_, rfl, (.refl _)⟩, rfl, trivial⟩,  trivial⟩ (doneA (.inr rfl) rfl ⟨trivial, trivial⟩ (.refl _) hasNil))
/-- courant/courantref11.Nodes -/
def C308 (N : Nat → Nat) : AFunc := { n := 23, params := 1, res := [.tmp 2], body :=
 (.seq (.region false [⟨(some 1), .box (.t 0), none, []⟩,
   ⟨(some 2), .mv (.k .nils), none, []⟩])
  (.seq (.region false [⟨(some 6), .load (.t 1) 1 true, none, []⟩,
    ⟨(some 7), .call (.k (.d (.fn (N 309)))) [(.t 6)], none, [0]⟩,
    ⟨(some 3), .mv (.t 7), none, [1, 0]⟩])
   (.seq (.region false [⟨(some 4), .mv (.k .nils), none, []⟩])
    (.seq (.seq (.region false [⟨(some 5), .mv (.k (.d (.int .i64 0))), none, []⟩])
      (.block 0 (.loop (.seq (.seq (.region false [⟨(some 8), .mv (.t 5), none, []⟩,
           ⟨(some 9), .mv (.t 3), none, []⟩,
           ⟨(some 10), .len (.t 9), none, [1]⟩,
           ⟨(some 11), .bin .lss (.t 8) (.t 10), none, [0, 2]⟩])
          (.cond (.t 11) (.skip)
           (.exit 0)))
         (.seq (.block 1 (.region false [⟨(some 14), .mv (.t 4), none, []⟩,
            ⟨(some 15), .mv (.t 3), none, []⟩,
            ⟨(some 16), .mv (.t 5), none, []⟩,
            ⟨(some 17), .iaddr (.t 15) (.t 16) 1, none, [1, 2]⟩,
            ⟨(some 18), .load (.t 17) 1 false, none, [3]⟩,
            ⟨(some 19), .bin .geq (.t 18) (.k (.d (.int .i64 0))), none, [4]⟩,
            ⟨(some 20), .bslice 1 1 [(.bool false)] [(0, (.t 19))], none, [5]⟩,
            ⟨(some 21), .app (.t 14) (.t 20) 1 1 [(.bool false)], none, [0, 6]⟩,
            ⟨(some 4), .mv (.t 21), none, [7, 0, 1, 2, 3, 4, 5, 6]⟩]))
          (.region false [⟨(some 12), .mv (.t 5), none, []⟩,
           ⟨(some 13), .bin .add (.t 12) (.k (.d (.int .i64 1))), none, [0]⟩,
           ⟨(some 5), .mv (.t 13), none, [1, 0]⟩]))))))
     (.seq (.region false [⟨(some 22), .mv (.t 4), none, []⟩,
       ⟨(some 2), .mv (.t 22), none, [0]⟩])
      .ret))))) }
def HC308 (P : Program) (N : Nat → Nat) : Prop := HasF P (N 308) (C308 N) ∧ HC309 P N
def f308_l21 (r10 : (List Int)) : Nat → (List Bool) → Int → Option (LR2 (List Bool) Unit (List Bool))
  | 0, _, _ => none
  | k + 1, y21_1, y21_2 => cond (decide (y21_2 < ((r10.length : Nat) : Int))) (gd (0 ≤ y21_2 ∧ y21_2 < ((r10.length : Nat) : Int)) (gd ((y21_1.length + ([(decide ((rd r10 y21_2) ≥ (0 : Int)))] : List Bool).length) * 2 * 1 ≤ 281474976710656) (f308_l21 r10 k (y21_1 ++ ([(decide ((rd r10 y21_2) ≥ (0 : Int)))] : List Bool)) (IntKind.i64.wrap (y21_2 + (1 : Int)))))) (some (.b0 y21_1))
def f308 (k : Nat) (a0 : TSchema) : Option (List Bool) := (f309 k (TSchema.mk a0.fNodes)).bind fun r10 => (f308_l21 r10 k ([] : List Bool) (0 : Int)).bind fun o21 => match o21 with | .b0 x21_1 => some x21_1 | _ => none
theorem F308 {P : Program} {N : Nat → Nat} (hmix : P.follows .mixedOrders = true) (hc : HC308 P N) {k : Nat} {a0 : TSchema} {r : (List Bool)} (h : f308 k a0 = some r) :
    ACalls P (N 308) [(.d (TSchema.enc a0))] [] (.ap 0 1 (List.map D.bool r)) [(0, (.tok ((List.map D.bool r).length * 1)))] := by
  refine acalls_canon (F := C308 N) hc.1 0 1 rfl ?_
  unfold f308 at h
  dsimp only [C308, startL]
  refine AWc.seq ?_
  refine AWc.rg hmix rfl rfl ?_
  refine RegV.evS (own := false) (v := (.ptr 0 0)) (H' := [(0, (.cells [(.d (.sl (List.map TNode.enc a0.fNodes)))]))]) (c' := 1) rfl rfl trivial rfl rfl rfl rfl rfl rfl ?_
  refine RegV.p0 rfl rfl rfl ?_
  refine RegV.nil0 ?_
  refine AWc.seq ?_
  refine AWc.rg hmix rfl rfl ?_
  refine RegV.ld (v := (.d (.agg [(.sl (List.map TNode.enc a0.fNodes))]))) (H' := [(0, (.cells [(.d (.sl (List.map TNode.enc a0.fNodes)))]))]) rfl rfl (Nat.le_of_ble_eq_true rfl) rfl rfl rfl rfl rfl ?_
  obtain ⟨r10, e10, h⟩ := bind_some h
  refine RegV.call0 (F309 hmix hc.2 e10) rfl rfl rfl rfl (.cons (.refl _) .nil) rfl ?_
  refine RegV.p0 rfl rfl rfl ?_
  refine RegV.nil0 ?_
  refine AWc.seq ?_
  refine AWc.rg hmix rfl rfl ?_
  refine RegV.p0 rfl rfl rfl ?_
  refine RegV.nil0 ?_
  refine AWc.seq ?_
  refine AWc.seq ?_
  refine AWc.rg hmix rfl rfl ?_
  refine RegV.p0 rfl rfl rfl ?_
  refine RegV.nil0 ?_
  obtain ⟨o21, h21, h⟩ := bind_some h
  refine AWc.block ?_
  refine AWc.loopK (N := 23) 1 (fun (x : ((List Bool) × Int)) => [(3, (.d (.sl (List.map (D.int .i64) r10)))), (4, (.ap 0 1 (List.map D.bool x.1))), (5, (.d (.int .i64 x.2)))]) (fun x => [(0, (.tok ((List.map D.bool x.1).length * 1)))]) (fun k x => f308_l21 r10 k x.1 x.2 = some o21) k (([] : List Bool), (0 : Int)) rfl_le (fun x hx => by cases hx) h21 ⟨rfl, [.tok 0], [(0, 1)], rfl, rfl, ⟨⟨_, rfl, (.refl _)⟩, rfl, ⟨⟨_, rfl, .nil⟩, rfl, ⟨⟨_, rfl, (.refl _)⟩, rfl, trivial⟩⟩⟩, ⟨⟨_, rfl, (.refl _)⟩, rfl, rfl, trivial⟩⟩ ?_
  clear h21
  intro k
  rintro ⟨y21_1, y21_2⟩ h21
  dsimp only at h21 ⊢
  rw [f308_l21] at h21
  refine AWc.seq ?_
  refine AWc.seq ?_
  refine AWc.rg hmix rfl rfl ?_
  refine RegV.p0 rfl rfl rfl ?_
  refine RegV.p0 rfl rfl rfl ?_
  refine RegV.len (xs := r10) (e := (D.int .i64)) rfl rfl rfl rfl ?_
  refine RegV.p0 (v := (.d (.bool (decide (y21_2 < ((r10.length : Nat) : Int)))))) rfl rfl rfl ?_
  refine RegV.nil0 ?_
  refine AWc.cond rfl (fun c31 => ?_) (fun c31 => ?_)
  · have h21 := cond_pos c31 h21
    refine AWc.skip ?_
    refine AWc.seq ?_
    refine AWc.block ?_
    refine AWc.rg hmix rfl rfl ?_
    refine RegV.p0 rfl rfl rfl ?_
    refine RegV.p0 rfl rfl rfl ?_
    refine RegV.p0 rfl rfl rfl ?_
    obtain ⟨b41, h21⟩ := gd_some h21
    refine RegV.iad (xs := r10) (e := (D.int .i64)) rfl rfl rfl rfl (fun _ => rfl) b41 rfl ?_
    refine RegV.p0 (v := (.d (.int .i64 (rd r10 y21_2)))) rfl rfl rfl ?_
    refine RegV.p0 (v := (.d (.bool (decide ((rd r10 y21_2) ≥ (0 : Int)))))) rfl rfl rfl ?_
    refine RegV.p1 (v := (.d (.sl (List.map D.bool ([(decide ((rd r10 y21_2) ≥ (0 : Int)))] : List Bool))))) rfl rfl (by exact ⟨rfl, Nat.le_of_ble_eq_true rfl, mapLen (e := D.bool) (xs := ([(decide ((rd r10 y21_2) ≥ (0 : Int)))] : List Bool)) (z := 1) (fun _ => rfl)⟩) rfl rfl ?_
    obtain ⟨b45, h21⟩ := gd_some h21
    refine RegV.appA (xs := y21_1) (ys := ([(decide ((rd r10 y21_2) ≥ (0 : Int)))] : List Bool)) (e := D.bool) (H1 := []) rfl rfl rfl rfl (fun _ => rfl) rfl rfl b45 rfl rfl rfl ?_
    refine RegV.p0 rfl rfl rfl ?_
    refine RegV.nil0 ?_
    refine AWc.rg hmix rfl rfl ?_
    refine RegV.p0 rfl rfl rfl ?_
    refine RegV.p0 (v := (.d (.int .i64 (IntKind.i64.wrap (y21_2 + (1 : Int)))))) rfl rfl rfl ?_
    refine RegV.p0 rfl rfl rfl ?_
    refine RegV.nil0 ?_
    exact ⟨((y21_1 ++ ([(decide ((rd r10 y21_2) ≥ (0 : Int)))] : List Bool)), (IntKind.i64.wrap (y21_2 + (1 : Int)))), h21, ⟨rfl, [], [(0, 1)], rfl, rfl, ⟨⟨_, rfl, (.refl _)⟩, rfl, ⟨⟨_, rfl, (.refl _)⟩, rfl, ⟨⟨_, rfl, (.refl _)⟩, rfl, trivial⟩⟩⟩, ⟨⟨_, rfl, (.refl _)⟩, rfl, rfl, trivial⟩⟩⟩
  · have h21 := cond_neg c31 h21
    cases h21
    dsimp only at h
    refine AWc.exit ?_
    refine inBlk_eq ?_
    refine AWc.seq ?_
    refine AWc.rg hmix rfl rfl ?_
    refine RegV.p0 rfl rfl rfl ?_
    refine RegV.p0 rfl rfl rfl ?_
    refine RegV.nil0 ?_
    have hr := Option.some.inj h
    subst hr
    exact AWc.ret (canQ (N := 23) (k := 1) (l' := [(2, (.ap 0 1 (List.map D.bool y21_1)))]) (H' := [(0, (.tok ((List.map D.bool y21_1).length * 1)))]) rfl ⟨rfl, [], [], rfl, rfl, ⟨⟨_, rfl, (.refl _)⟩, rfl, trivial⟩, ⟨⟨_, rfl, (.refl _)⟩, rfl, rfl, trivial⟩⟩ (doneA (.inr rfl) rfl ⟨trivial, trivial⟩ (.refl _) (hasCons rfl hasNil)))
/-- courant/couranthelp.Plain[bool]$1 -/
def C314 (N : Nat → Nat) : AFunc := { n := 8, params := 2, res := [.tmp 4], body :=
 (.seq (.region false [⟨(some 4), .mv (.k (.d (.bool false))), none, []⟩])
  (.seq (.region false [⟨(some 5), .mv (.t 0), none, []⟩,
    ⟨(some 6), .mv (.t 1), none, []⟩,
    ⟨(some 7), .beq false (.t 5) (.t 6), none, [0, 1]⟩,
    ⟨(some 4), .mv (.t 7), none, [2, 0, 1]⟩])
   .ret)) }
def HC314 (P : Program) (N : Nat → Nat) : Prop := HasF P (N 314) (C314 N)
def f314 (k : Nat) (a0 : Bool) (a1 : Bool) : Option Unit := some ()
theorem F314 {P : Program} {N : Nat → Nat} (hmix : P.follows .mixedOrders = true) (hc : HC314 P N) {k : Nat} {a0 : Bool} {a1 : Bool} {r : Unit} (h : f314 k a0 a1 = some r) :
    ACalls P (N 314) [(.d (.bool a0)), (.d (.bool a1))] [] (.d (.bool (a0 == a1))) [] := by
  refine acalls_canon (F := C314 N) hc 0 0 rfl ?_
  unfold f314 at h
  dsimp only [C314, startL]
  refine AWc.seq ?_
  refine AWc.rg hmix rfl rfl ?_
  refine RegV.p0 rfl rfl rfl ?_
  refine RegV.nil0 ?_
  refine AWc.seq ?_
  refine AWc.rg hmix rfl rfl ?_
  refine RegV.p0 rfl rfl rfl ?_
  refine RegV.p0 rfl rfl rfl ?_
  refine RegV.p0 (v := (.d (.bool (a0 == a1)))) rfl rfl rfl ?_
  refine RegV.p0 rfl rfl rfl ?_
  refine RegV.nil0 ?_
  have hr := Option.some.inj h
  subst hr
  exact AWc.ret (canQ (N := 8) (k := 0) (l' := [(4, (.d (.bool (a0 == a1))))]) (H' := []) rfl ⟨rfl, [], [], rfl, rfl, ⟨⟨_, rfl, (.refl _)⟩, rfl, trivial⟩,  trivial⟩ (doneA (.inr rfl) rfl ⟨trivial, trivial⟩ (.refl _) hasNil))
/-- courant/couranthelp.Same[bool] -/
def C313 (N : Nat → Nat) : AFunc := { n := 30, params := 3, res := [.tmp 6], body :=
 (.seq (.region false [⟨(some 6), .mv (.k (.d (.bool false))), none, []⟩])
  (.seq (.seq (.region false [⟨(some 8), .mv (.t 0), none, []⟩,
     ⟨(some 9), .len (.t 8), none, [0]⟩,
     ⟨(some 10), .mv (.t 1), none, []⟩,
     ⟨(some 11), .len (.t 10), none, [2]⟩,
     ⟨(some 12), .bin .neq (.t 9) (.t 11), none, [1, 3]⟩])
    (.cond (.t 12) (.seq (.region false [⟨(some 6), .mv (.k (.d (.bool false))), none, []⟩])
      .ret)
     (.skip)))
   (.seq (.seq (.region false [⟨(some 7), .mv (.k (.d (.int .i64 0))), none, []⟩])
     (.block 0 (.loop (.seq (.seq (.region false [⟨(some 13), .mv (.t 7), none, []⟩,
          ⟨(some 14), .mv (.t 0), none, []⟩,
          ⟨(some 15), .len (.t 14), none, [1]⟩,
          ⟨(some 16), .bin .lss (.t 13) (.t 15), none, [0, 2]⟩])
         (.cond (.t 16) (.skip)
          (.exit 0)))
        (.seq (.block 1 (.seq (.region true [⟨(some 19), .mv (.t 2), none, []⟩,
            ⟨(some 20), .mv (.t 0), none, []⟩,
            ⟨(some 21), .mv (.t 7), none, []⟩,
            ⟨(some 22), .iaddr (.t 20) (.t 21) 1, none, [1, 2]⟩,
            ⟨(some 23), .load (.t 22) 1 false, none, [3]⟩,
            ⟨(some 24), .mv (.t 1), none, []⟩,
            ⟨(some 25), .mv (.t 7), none, []⟩,
            ⟨(some 26), .iaddr (.t 24) (.t 25) 1, none, [5, 6]⟩,
            ⟨(some 27), .load (.t 26) 1 false, none, [7]⟩,
            ⟨(some 28), .call (.t 19) [(.t 23), (.t 27)], none, [0, 4, 8]⟩,
            ⟨(some 29), .un .not (.t 28), none, [9]⟩])
           (.cond (.t 29) (.seq (.region false [⟨(some 6), .mv (.k (.d (.bool false))), none, []⟩])
             .ret)
            (.skip))))
         (.region false [⟨(some 17), .mv (.t 7), none, []⟩,
          ⟨(some 18), .bin .add (.t 17) (.k (.d (.int .i64 1))), none, [0]⟩,
          ⟨(some 7), .mv (.t 18), none, [1, 0]⟩]))))))
    (.seq (.region false [⟨(some 6), .mv (.k (.d (.bool true))), none, []⟩])
     .ret)))) }
def HC313 (P : Program) (N : Nat → Nat) : Prop := HasF P (N 313) (C313 N) ∧ HC314 P N
def f313_l26 (a0 : (List Bool)) (a1 : (List Bool)) : Nat → Int → Option (LR2 Unit Unit Bool)
  | 0, _ => none
  | k + 1, y26_1 => cond (decide (y26_1 < ((a0.length : Nat) : Int))) (gd (0 ≤ y26_1 ∧ y26_1 < ((a0.length : Nat) : Int)) (gd (0 ≤ y26_1 ∧ y26_1 < ((a1.length : Nat) : Int)) ((f314 k (rd a0 y26_1) (rd a1 y26_1)).bind fun r53 => cond (!((rd a0 y26_1) == (rd a1 y26_1))) (some (.r false)) (f313_l26 a0 a1 k (IntKind.i64.wrap (y26_1 + (1 : Int))))))) (some (.b0 ()))
def f313 (k : Nat) (a0 : (List Bool)) (a1 : (List Bool)) : Option Bool := cond (decide (((a0.length : Nat) : Int) ≠ ((a1.length : Nat) : Int))) (some false) ((f313_l26 a0 a1 k (0 : Int)).bind fun o26 => match o26 with | .b0 () => some true | .r x => some x | _ => none)
theorem F313 {P : Program} {N : Nat → Nat} (hmix : P.follows .mixedOrders = true) (hc : HC313 P N) {k : Nat} {a0 : (List Bool)} {a1 : (List Bool)} {r : Bool} (h : f313 k a0 a1 = some r) :
    ACalls P (N 313) [(.d (.sl (List.map D.bool a0))), (.d (.sl (List.map D.bool a1))), (.d (.fn (N 314)))] [] (.d (.bool r)) [] := by
  refine acalls_canon (F := C313 N) hc.1 0 0 rfl ?_
  unfold f313 at h
  dsimp only [C313, startL]
  refine AWc.seq ?_
  refine AWc.rg hmix rfl rfl ?_
  refine RegV.p0 rfl rfl rfl ?_
  refine RegV.nil0 ?_
  refine AWc.seq ?_
  refine AWc.seq ?_
  refine AWc.rg hmix rfl rfl ?_
  refine RegV.p0 rfl rfl rfl ?_
  refine RegV.len (xs := a0) (e := D.bool) rfl rfl rfl rfl ?_
  refine RegV.p0 rfl rfl rfl ?_
  refine RegV.len (xs := a1) (e := D.bool) rfl rfl rfl rfl ?_
  refine RegV.p0 (v := (.d (.bool (decide (((a0.length : Nat) : Int) ≠ ((a1.length : Nat) : Int)))))) rfl rfl rfl ?_
  refine RegV.nil0 ?_
  refine AWc.cond rfl (fun c14 => ?_) (fun c14 => ?_)
  · have h := cond_pos c14 h
    refine AWc.seq ?_
    refine AWc.rg hmix rfl rfl ?_
    refine RegV.p0 rfl rfl rfl ?_
    refine RegV.nil0 ?_
    have hr := Option.some.inj h
    subst hr
    exact AWc.ret (canQ (N := 30) (k := 0) (l' := [(6, (.d (.bool false)))]) (H' := []) rfl ⟨rfl, [], [], rfl, rfl, ⟨⟨_, rfl, (.refl _)⟩, rfl, trivial⟩,  trivial⟩ (doneA (.inr rfl) rfl ⟨trivial, trivial⟩ (.refl _) hasNil))
  · have h := cond_neg c14 h
    refine AWc.skip ?_
    refine AWc.seq ?_
    refine AWc.seq ?_
    refine AWc.rg hmix rfl rfl ?_
    refine RegV.p0 rfl rfl rfl ?_
    refine RegV.nil0 ?_
    obtain ⟨o26, h26, h⟩ := bind_some h
    refine AWc.block ?_
    refine AWc.loopK (N := 30) 0 (fun (x : Int) => [(0, (.d (.sl (List.map D.bool a0)))), (1, (.d (.sl (List.map D.bool a1)))), (2, (.d (.fn (N 314)))), (7, (.d (.int .i64 x)))]) (fun x => []) (fun k x => f313_l26 a0 a1 k x = some o26) k (0 : Int) rfl_le (fun x hx => by cases hx) h26 ⟨rfl, [], [], rfl, rfl, ⟨⟨_, rfl, (.refl _)⟩, rfl, ⟨⟨_, rfl, (.refl _)⟩, rfl, ⟨⟨_, rfl, (.refl _)⟩, rfl, ⟨⟨_, rfl, (.refl _)⟩, rfl, trivial⟩⟩⟩⟩,  trivial⟩ ?_
    clear h26
    intro k
    intro y26_1 h26
    rw [f313_l26] at h26
    refine AWc.seq ?_
    refine AWc.seq ?_
    refine AWc.rg hmix rfl rfl ?_
    refine RegV.p0 rfl rfl rfl ?_
    refine RegV.p0 rfl rfl rfl ?_
    refine RegV.len (xs := a0) (e := D.bool) rfl rfl rfl rfl ?_
    refine RegV.p0 (v := (.d (.bool (decide (y26_1 < ((a0.length : Nat) : Int)))))) rfl rfl rfl ?_
    refine RegV.nil0 ?_
    refine AWc.cond rfl (fun c36 => ?_) (fun c36 => ?_)
    · have h26 := cond_pos c36 h26
      refine AWc.skip ?_
      refine AWc.seq ?_
      refine AWc.block ?_
      refine AWc.seq ?_
      refine AWc.rg hmix rfl rfl ?_
      refine RegV.p0 rfl rfl rfl ?_
      refine RegV.p0 rfl rfl rfl ?_
      refine RegV.p0 rfl rfl rfl ?_
      obtain ⟨b47, h26⟩ := gd_some h26
      refine RegV.iad (xs := a0) (e := D.bool) rfl rfl rfl rfl (fun _ => rfl) b47 rfl ?_
      refine RegV.p0 (v := (.d (.bool (rd a0 y26_1)))) rfl rfl rfl ?_
      refine RegV.p0 rfl rfl rfl ?_
      refine RegV.p0 rfl rfl rfl ?_
      obtain ⟨b51, h26⟩ := gd_some h26
      refine RegV.iad (xs := a1) (e := D.bool) rfl rfl rfl rfl (fun _ => rfl) b51 rfl ?_
      refine RegV.p0 (v := (.d (.bool (rd a1 y26_1)))) rfl rfl rfl ?_
      obtain ⟨r53, e53, h26⟩ := bind_some h26
      refine RegV.call0 (F314 hmix hc.2 e53) rfl rfl rfl rfl (.cons (.refl _) (.cons (.refl _) .nil)) rfl ?_
      refine RegV.p0 (v := (.d (.bool (!((rd a0 y26_1) == (rd a1 y26_1)))))) rfl rfl rfl ?_
      refine RegV.nil1 (by kernel_rfl) ?_
      refine AWc.cond rfl (fun c55 => ?_) (fun c55 => ?_)
      · have h26 := cond_pos c55 h26
        refine AWc.seq ?_
        refine AWc.rg hmix rfl rfl ?_
        refine RegV.p0 rfl rfl rfl ?_
        refine RegV.nil0 ?_
        cases h26
        dsimp only at h
        have hr := Option.some.inj h
        subst hr
        exact AWc.ret (canQ (N := 30) (k := 0) (l' := [(6, (.d (.bool false)))]) (H' := []) rfl ⟨rfl, [], [], rfl, rfl, ⟨⟨_, rfl, (.refl _)⟩, rfl, trivial⟩,  trivial⟩ (doneA (.inr rfl) rfl ⟨trivial, trivial⟩ (.refl _) hasNil))
      · have h26 := cond_neg c55 h26
        refine AWc.skip ?_
        refine AWc.rg hmix rfl rfl ?_
        refine RegV.p0 rfl rfl rfl ?_
        refine RegV.p0 (v := (.d (.int .i64 (IntKind.i64.wrap (y26_1 + (1 : Int)))))) rfl rfl rfl ?_
        refine RegV.p0 rfl rfl rfl ?_
        refine RegV.nil0 ?_
        exact ⟨(IntKind.i64.wrap (y26_1 + (1 : Int))), h26, ⟨rfl, [], [], rfl, rfl, ⟨⟨_, rfl, (.refl _)⟩, rfl, ⟨⟨_, rfl, (.refl _)⟩, rfl, ⟨⟨_, rfl, (.refl _)⟩, rfl, ⟨⟨_, rfl, (.refl _)⟩, rfl, trivial⟩⟩⟩⟩,  trivial⟩⟩
    · have h26 := cond_neg c36 h26
      cases h26
      dsimp only at h
      refine AWc.exit ?_
      refine inBlk_eq ?_
      refine AWc.seq ?_
      refine AWc.rg hmix rfl rfl ?_
      refine RegV.p0 rfl rfl rfl ?_
      refine RegV.nil0 ?_
      have hr := Option.some.inj h
      subst hr
      exact AWc.ret (canQ (N := 30) (k := 0) (l' := [(6, (.d (.bool true)))]) (H' := []) rfl ⟨rfl, [], [], rfl, rfl, ⟨⟨_, rfl, (.refl _)⟩, rfl, trivial⟩,  trivial⟩ (doneA (.inr rfl) rfl ⟨trivial, trivial⟩ (.refl _) hasNil))
/-- courant/couranthelp.Plain[bool] -/
def C312 (N : Nat → Nat) : AFunc := { n := 8, params := 2, res := [.tmp 4], body :=
 (.seq (.region false [⟨(some 4), .mv (.k (.d (.bool false))), none, []⟩])
  (.seq (.region false [⟨(some 5), .mv (.t 0), none, []⟩,
    ⟨(some 6), .mv (.t 1), none, []⟩,
    ⟨(some 7), .call (.k (.d (.fn (N 313)))) [(.t 5), (.t 6), (.k (.d (.fn (N 314))))], none, [0, 1]⟩,
    ⟨(some 4), .mv (.t 7), none, [2, 0, 1]⟩])
   .ret)) }
def HC312 (P : Program) (N : Nat → Nat) : Prop := HasF P (N 312) (C312 N) ∧ HC313 P N
def f312 (k : Nat) (a0 : (List Bool)) (a1 : (List Bool)) : Option Bool := (f313 k a0 a1).bind fun r10 => some r10
theorem F312 {P : Program} {N : Nat → Nat} (hmix : P.follows .mixedOrders = true) (hc : HC312 P N) {k : Nat} {a0 : (List Bool)} {a1 : (List Bool)} {r : Bool} (h : f312 k a0 a1 = some r) :
    ACalls P (N 312) [(.d (.sl (List.map D.bool a0))), (.d (.sl (List.map D.bool a1)))] [] (.d (.bool r)) [] := by
  refine acalls_canon (F := C312 N) hc.1 0 0 rfl ?_
  unfold f312 at h
  dsimp only [C312, startL]
  refine AWc.seq ?_
  refine AWc.rg hmix rfl rfl ?_
  refine RegV.p0 rfl rfl rfl ?_
  refine RegV.nil0 ?_
  refine AWc.seq ?_
  refine AWc.rg hmix rfl rfl ?_
  refine RegV.p0 rfl rfl rfl ?_
  refine RegV.p0 rfl rfl rfl ?_
  obtain ⟨r10, e10, h⟩ := bind_some h
  refine RegV.call0 (F313 hmix hc.2 e10) rfl rfl rfl rfl (.cons (.refl _) (.cons (.refl _) (.cons (.refl _) .nil))) rfl ?_
  refine RegV.p0 rfl rfl rfl ?_
  refine RegV.nil0 ?_
  have hr := Option.some.inj h
  subst hr
  exact AWc.ret (canQ (N := 8) (k := 0) (l' := [(4, (.d (.bool r10)))]) (H' := []) rfl ⟨rfl, [], [], rfl, rfl, ⟨⟨_, rfl, (.refl _)⟩, rfl, trivial⟩,  trivial⟩ (doneA (.inr rfl) rfl ⟨trivial, trivial⟩ (.refl _) hasNil))
/-- courant/courantlaw11.LiveRaw -/
def C247 (N : Nat → Nat) : AFunc := { n := 43, params := 1, res := [.tmp 2], body :=
 (.seq (.region false [⟨(some 1), .box (.t 0), none, []⟩,
   ⟨(some 2), .mv (.k (.d (.bool false))), none, []⟩])
  (.seq (.seq (.region false [⟨(some 4), .faddr (.t 1) 0, none, []⟩,
     ⟨(some 5), .load (.t 4) 1 false, none, [0]⟩,
     ⟨(some 6), .len (.t 5), none, [1]⟩,
     ⟨(some 7), .bin .gtr (.t 6) (.k (.d (.int .i64 40))), none, [2]⟩])
    (.cond (.t 7) (.seq (.region false [⟨(some 8), .call (.k (.d (.fn (N 248)))) [], none, []⟩,
       ⟨(some 2), .mv (.t 8), none, [0]⟩])
      .ret)
     (.skip)))
   (.seq (.seq (.region false [⟨(some 3), .mv (.k (.d (.int .i64 0))), none, []⟩])
     (.block 0 (.loop (.seq (.seq (.region false [⟨(some 9), .mv (.t 3), none, []⟩,
          ⟨(some 10), .faddr (.t 1) 0, none, []⟩,
          ⟨(some 11), .load (.t 10) 1 false, none, [1]⟩,
          ⟨(some 12), .len (.t 11), none, [2]⟩,
          ⟨(some 13), .bin .lss (.t 9) (.t 12), none, [0, 3]⟩])
         (.cond (.t 13) (.skip)
          (.exit 0)))
        (.seq (.block 1 (.seq (.region false [⟨(some 16), .faddr (.t 1) 0, none, []⟩,
            ⟨(some 17), .load (.t 16) 1 false, none, [0]⟩,
            ⟨(some 18), .mv (.t 3), none, []⟩,
            ⟨(some 19), .iaddr (.t 17) (.t 18) 10, none, [1, 2]⟩,
            ⟨(some 20), .faddr (.t 19) 3, none, [3]⟩,
            ⟨(some 21), .load (.t 20) 1 false, none, [4]⟩,
            ⟨(some 22), .len (.t 21), none, [5]⟩,
            ⟨(some 23), .bin .gtr (.t 22) (.k (.d (.int .i64 20))), none, [6]⟩,
            ⟨(some 24), .mv (.t 23), none, [7]⟩,
            ⟨(some 25), .faddr (.t 1) 0, (some (24, false)), [8]⟩,
            ⟨(some 26), .load (.t 25) 1 false, (some (24, false)), [9, 8]⟩,
            ⟨(some 27), .mv (.t 3), (some (24, false)), [8]⟩,
            ⟨(some 28), .iaddr (.t 26) (.t 27) 10, (some (24, false)), [10, 11, 8]⟩,
            ⟨(some 29), .faddr (.t 28) 8, (some (24, false)), [12, 8]⟩,
            ⟨(some 30), .load (.t 29) 1 false, (some (24, false)), [13, 8]⟩,
            ⟨(some 31), .len (.t 30), (some (24, false)), [14, 8]⟩,
            ⟨(some 32), .bin .gtr (.t 31) (.k (.d (.int .i64 20))), (some (24, false)), [15, 8]⟩,
            ⟨(some 33), .pick (.t 24) (.k (.d (.bool true))) (.t 32), none, [8, 16]⟩])
           (.cond (.t 33) (.seq (.region false [⟨(some 34), .call (.k (.d (.fn (N 248)))) [], none, []⟩,
              ⟨(some 2), .mv (.t 34), none, [0]⟩])
             .ret)
            (.skip))))
         (.region false [⟨(some 14), .mv (.t 3), none, []⟩,
          ⟨(some 15), .bin .add (.t 14) (.k (.d (.int .i64 1))), none, [0]⟩,
          ⟨(some 3), .mv (.t 15), none, [1, 0]⟩]))))))
    (.seq (.region true [⟨(some 35), .call (.k (.d (.fn (N 248)))) [], none, []⟩,
      ⟨(some 36), .mv (.t 35), none, [0]⟩,
      ⟨(some 37), .load (.t 1) 1 true, (some (36, true)), [1]⟩,
      ⟨(some 38), .call (.k (.d (.fn (N 307)))) [(.t 37)], (some (36, true)), [2, 1]⟩,
      ⟨(some 39), .load (.t 1) 1 true, (some (36, true)), [1]⟩,
      ⟨(some 40), .call (.k (.d (.fn (N 308)))) [(.t 39)], (some (36, true)), [4, 3, 1]⟩,
      ⟨(some 41), .call (.k (.d (.fn (N 312)))) [(.t 38), (.t 40)], (some (36, true)), [3, 5, 1]⟩,
      ⟨(some 42), .pick (.t 36) (.t 41) (.k (.d (.bool false))), none, [1, 6]⟩,
      ⟨(some 2), .mv (.t 42), none, [7, 6, 0, 1, 2, 3, 4, 5]⟩])
     .ret)))) }
def HC247 (P : Program) (N : Nat → Nat) : Prop := HasF P (N 247) (C247 N) ∧ HC248 P N ∧ HC307 P N ∧ HC308 P N ∧ HC312 P N
def f247_j77 (k : Nat) (a0 : TSchema) : Option Bool := (f248 k).bind fun r80 => cond r80 ((f307 k (TSchema.mk a0.fNodes)).bind fun r83 => (f308 k (TSchema.mk a0.fNodes)).bind fun r85 => (f312 k r83 r85).bind fun r86 => some r86) (some false)
def f247_l27 (a0 : TSchema) : Nat → Int → Option (LR2 Unit Unit Bool)
  | 0, _ => none
  | k + 1, y27_1 => cond (decide (y27_1 < ((a0.fNodes.length : Nat) : Int))) (gd (0 ≤ y27_1 ∧ y27_1 < ((a0.fNodes.length : Nat) : Int)) (cond (decide (((((rd a0.fNodes y27_1).fFields).length : Nat) : Int) > (20 : Int))) ((f248 k).bind fun r68 => some (.r r68)) (gd (0 ≤ y27_1 ∧ y27_1 < ((a0.fNodes.length : Nat) : Int)) (cond (decide (((((rd a0.fNodes y27_1).fBranches).length : Nat) : Int) > (20 : Int))) ((f248 k).bind fun r68 => some (.r r68)) (f247_l27 a0 k (IntKind.i64.wrap (y27_1 + (1 : Int)))))))) (some (.b0 ()))
def f247 (k : Nat) (a0 : TSchema) : Option Bool := cond (decide (((a0.fNodes.length : Nat) : Int) > (40 : Int))) ((f248 k).bind fun r18 => some r18) ((f247_l27 a0 k (0 : Int)).bind fun o27 => match o27 with | .b0 () => f247_j77 k a0 | .r x => some x | _ => none)
theorem F247 {P : Program} {N : Nat → Nat} (hmix : P.follows .mixedOrders = true) (hc : HC247 P N) {k : Nat} {a0 : TSchema} {r : Bool} (h : f247 k a0 = some r) :
    ACalls P (N 247) [(.d (TSchema.enc a0))] [] (.d (.bool r)) [] := by
  refine acalls_canon (F := C247 N) hc.1 0 0 rfl ?_
  unfold f247 at h
  dsimp only [C247, startL]
  refine AWc.seq ?_
  refine AWc.rg hmix rfl rfl ?_
  refine RegV.evS (own := false) (v := (.ptr 0 0)) (H' := [(0, (.cells [(.d (.sl (List.map TNode.enc a0.fNodes)))]))]) (c' := 1) rfl rfl trivial rfl rfl rfl rfl rfl rfl ?_
  refine RegV.p0 rfl rfl rfl ?_
  refine RegV.nil0 ?_
  refine AWc.seq ?_
  refine AWc.seq ?_
  refine AWc.rg hmix rfl rfl ?_
  refine RegV.p0 (v := (.ptr 0 0)) rfl rfl rfl ?_
  refine RegV.ld (v := (.d (.sl (List.map TNode.enc a0.fNodes)))) (H' := [(0, (.cells [(.d (.sl (List.map TNode.enc a0.fNodes)))]))]) rfl rfl trivial rfl rfl rfl rfl rfl ?_
  refine RegV.len (xs := a0.fNodes) (e := TNode.enc) rfl rfl rfl rfl ?_
  refine RegV.p0 (v := (.d (.bool (decide (((a0.fNodes.length : Nat) : Int) > (40 : Int)))))) rfl rfl rfl ?_
  refine RegV.nil0 ?_
  refine AWc.cond rfl (fun c14 => ?_) (fun c14 => ?_)
  · have h := cond_pos c14 h
    refine AWc.seq ?_
    refine AWc.rg hmix rfl rfl ?_
    obtain ⟨r18, e18, h⟩ := bind_some h
    refine RegV.call0 (F248 hmix hc.2.1 e18) rfl rfl rfl rfl .nil rfl ?_
    refine RegV.p0 rfl rfl rfl ?_
    refine RegV.nil0 ?_
    have hr := Option.some.inj h
    subst hr
    exact AWc.ret (canQ (N := 43) (k := 0) (l' := [(2, (.d (.bool r18)))]) (H' := []) rfl ⟨rfl, [], [], rfl, rfl, ⟨⟨_, rfl, (.refl _)⟩, rfl, trivial⟩,  trivial⟩ (doneA (.inr rfl) rfl ⟨trivial, trivial⟩ (.refl _) hasNil))
  · have h := cond_neg c14 h
    refine AWc.skip ?_
    refine AWc.seqS (N := 43) 1 (fun (z : Unit) => [(1, (.ptr 0 0))]) (fun z => [(0, (.cells [(.d (.sl (List.map TNode.enc a0.fNodes)))]))]) (fun z => f247_j77 k a0 = some r) rfl_le ?_ ?_
    · refine AWc.seq ?_
      refine AWc.rg hmix rfl rfl ?_
      refine RegV.p0 rfl rfl rfl ?_
      refine RegV.nil0 ?_
      obtain ⟨o27, h27, h⟩ := bind_some h
      refine AWc.block ?_
      refine AWc.loopK (N := 43) 1 (fun (x : Int) => [(1, (.ptr 0 0)), (3, (.d (.int .i64 x)))]) (fun x => [(0, (.cells [(.d (.sl (List.map TNode.enc a0.fNodes)))]))]) (fun k x => f247_l27 a0 k x = some o27) k (0 : Int) rfl_le (fun x hx => by cases hx) h27 ⟨rfl, [], [], rfl, rfl, ⟨⟨_, rfl, (.refl _)⟩, rfl, ⟨⟨_, rfl, (.refl _)⟩, rfl, trivial⟩⟩, ⟨⟨_, rfl, (.refl _)⟩, rfl, rfl, trivial⟩⟩ ?_
      clear h27
      intro k
      intro y27_1 h27
      rw [f247_l27] at h27
      refine AWc.seq ?_
      refine AWc.seq ?_
      refine AWc.rg hmix rfl rfl ?_
      refine RegV.p0 rfl rfl rfl ?_
      refine RegV.p0 (v := (.ptr 0 0)) rfl rfl rfl ?_
      refine RegV.ld (v := (.d (.sl (List.map TNode.enc a0.fNodes)))) (H' := [(0, (.cells [(.d (.sl (List.map TNode.enc a0.fNodes)))]))]) rfl rfl trivial rfl rfl rfl rfl rfl ?_
      refine RegV.len (xs := a0.fNodes) (e := TNode.enc) rfl rfl rfl rfl ?_
      refine RegV.p0 (v := (.d (.bool (decide (y27_1 < ((a0.fNodes.length : Nat) : Int)))))) rfl rfl rfl ?_
      refine RegV.nil0 ?_
      refine AWc.cond rfl (fun c38 => ?_) (fun c38 => ?_)
      · have h27 := cond_pos c38 h27
        refine AWc.skip ?_
        refine AWc.seq ?_
        refine AWc.block ?_
        refine AWc.seq ?_
        refine AWc.rg hmix rfl rfl ?_
        refine RegV.p0 (v := (.ptr 0 0)) rfl rfl rfl ?_
        refine RegV.ld (v := (.d (.sl (List.map TNode.enc a0.fNodes)))) (H' := [(0, (.cells [(.d (.sl (List.map TNode.enc a0.fNodes)))]))]) rfl rfl trivial rfl rfl rfl rfl rfl ?_
        refine RegV.p0 rfl rfl rfl ?_
        obtain ⟨b49, h27⟩ := gd_some h27
        refine RegV.iad (xs := a0.fNodes) (e := TNode.enc) rfl rfl rfl rfl (fun _ => rfl) b49 rfl ?_
        refine RegV.p0 (v := (.cp (TNode.enc (rd a0.fNodes y27_1)) 3)) rfl rfl rfl ?_
        refine RegV.p0 (v := (.d (.sl (List.map TField.enc (rd a0.fNodes y27_1).fFields)))) rfl rfl rfl ?_
        refine RegV.len (xs := (rd a0.fNodes y27_1).fFields) (e := TField.enc) rfl rfl rfl rfl ?_
        refine RegV.p0 (v := (.d (.bool (decide (((((rd a0.fNodes y27_1).fFields).length : Nat) : Int) > (20 : Int)))))) rfl rfl rfl ?_
        refine RegV.p0 rfl rfl rfl ?_
        refine RegV.split (fun c54 => ?_) (fun c54 => ?_)
        · have h27 := cond_pos c54 h27
          refine RegV.noS rfl rfl ?_
          refine RegV.noS rfl rfl ?_
          refine RegV.noS rfl rfl ?_
          refine RegV.noS rfl rfl ?_
          refine RegV.noS rfl rfl ?_
          refine RegV.noS rfl rfl ?_
          refine RegV.noS rfl rfl ?_
          refine RegV.noS rfl rfl ?_
          refine RegV.p0 rfl rfl rfl ?_
          refine RegV.nil0 ?_
          refine AWc.cond rfl (fun _ => ?_) (fun hc => by cases hc)
          refine AWc.seq ?_
          refine AWc.rg hmix rfl rfl ?_
          obtain ⟨r68, e68, h27⟩ := bind_some h27
          refine RegV.call0 (F248 hmix hc.2.1 e68) rfl rfl rfl rfl .nil rfl ?_
          refine RegV.p0 rfl rfl rfl ?_
          refine RegV.nil0 ?_
          cases h27
          dsimp only at h
          have hr := Option.some.inj h
          subst hr
          exact AWc.ret (canQ (N := 43) (k := 0) (l' := [(2, (.d (.bool r68)))]) (H' := []) rfl ⟨rfl, [], [], rfl, rfl, ⟨⟨_, rfl, (.refl _)⟩, rfl, trivial⟩,  trivial⟩ (doneA (.inr rfl) rfl ⟨trivial, trivial⟩ (.refl _) hasNil))
        · have h27 := cond_neg c54 h27
          refine RegV.p0 (v := (.ptr 0 0)) rfl rfl rfl ?_
          refine RegV.ld (v := (.d (.sl (List.map TNode.enc a0.fNodes)))) (H' := [(0, (.cells [(.d (.sl (List.map TNode.enc a0.fNodes)))]))]) rfl rfl trivial rfl rfl rfl rfl rfl ?_
          refine RegV.p0 rfl rfl rfl ?_
          obtain ⟨b58, h27⟩ := gd_some h27
          refine RegV.iad (xs := a0.fNodes) (e := TNode.enc) rfl rfl rfl rfl (fun _ => rfl) b58 rfl ?_
          refine RegV.p0 (v := (.cp (TNode.enc (rd a0.fNodes y27_1)) 8)) rfl rfl rfl ?_
          refine RegV.p0 (v := (.d (.sl (List.map (D.int .i64) (rd a0.fNodes y27_1).fBranches)))) rfl rfl rfl ?_
          refine RegV.len (xs := (rd a0.fNodes y27_1).fBranches) (e := (D.int .i64)) rfl rfl rfl rfl ?_
          refine RegV.p0 (v := (.d (.bool (decide (((((rd a0.fNodes y27_1).fBranches).length : Nat) : Int) > (20 : Int)))))) rfl rfl rfl ?_
          refine RegV.p0 rfl rfl rfl ?_
          refine RegV.nil0 ?_
          refine AWc.cond rfl (fun c64 => ?_) (fun c64 => ?_)
          · have h27 := cond_pos c64 h27
            refine AWc.seq ?_
            refine AWc.rg hmix rfl rfl ?_
            obtain ⟨r68, e68, h27⟩ := bind_some h27
            refine RegV.call0 (F248 hmix hc.2.1 e68) rfl rfl rfl rfl .nil rfl ?_
            refine RegV.p0 rfl rfl rfl ?_
            refine RegV.nil0 ?_
            cases h27
            dsimp only at h
            have hr := Option.some.inj h
            subst hr
            exact AWc.ret (canQ (N := 43) (k := 0) (l' := [(2, (.d (.bool r68)))]) (H' := []) rfl ⟨rfl, [], [], rfl, rfl, ⟨⟨_, rfl, (.refl _)⟩, rfl, trivial⟩,  trivial⟩ (doneA (.inr rfl) rfl ⟨trivial, trivial⟩ (.refl _) hasNil))
          · have h27 := cond_neg c64 h27
            refine AWc.skip ?_
            refine AWc.rg hmix rfl rfl ?_
            refine RegV.p0 rfl rfl rfl ?_
            refine RegV.p0 (v := (.d (.int .i64 (IntKind.i64.wrap (y27_1 + (1 : Int)))))) rfl rfl rfl ?_
            refine RegV.p0 rfl rfl rfl ?_
            refine RegV.nil0 ?_
            exact ⟨(IntKind.i64.wrap (y27_1 + (1 : Int))), h27, ⟨rfl, [], [], rfl, rfl, ⟨⟨_, rfl, (.refl _)⟩, rfl, ⟨⟨_, rfl, (.refl _)⟩, rfl, trivial⟩⟩, ⟨⟨_, rfl, (.refl _)⟩, rfl, rfl, trivial⟩⟩⟩
      · have h27 := cond_neg c38 h27
        cases h27
        dsimp only at h
        refine AWc.exit ?_
        refine inBlk_eq ?_
        exact ⟨(), h, ⟨rfl, [], [], rfl, rfl, ⟨⟨_, rfl, (.refl _)⟩, rfl, trivial⟩, ⟨⟨_, rfl, (.refl _)⟩, rfl, rfl, trivial⟩⟩⟩
    · rintro ⟨⟩ h
      unfold f247_j77 at h
      refine AWc.seq ?_
      refine AWc.rg hmix rfl rfl ?_
      obtain ⟨r80, e80, h⟩ := bind_some h
      refine RegV.call0 (F248 hmix hc.2.1 e80) rfl rfl rfl rfl .nil rfl ?_
      refine RegV.p0 rfl rfl rfl ?_
      refine RegV.split (fun c81 => ?_) (fun c81 => ?_)
      · have h := cond_pos c81 h
        refine RegV.ld (v := (.d (.agg [(.sl (List.map TNode.enc a0.fNodes))]))) (H' := [(0, (.cells [(.d (.sl (List.map TNode.enc a0.fNodes)))]))]) rfl rfl (Nat.le_of_ble_eq_true rfl) rfl rfl rfl rfl rfl ?_
        obtain ⟨r83, e83, h⟩ := bind_some h
        refine RegV.callS (q := false) (H' := [(1, (.tok ((List.map D.bool r83).length * 1))), (0, (.cells [(.d (.sl (List.map TNode.enc a0.fNodes)))]))]) (c' := 2) (show ACalls P (N 307) [(.d (TSchema.enc (TSchema.mk a0.fNodes)))] [] (.ap 1 1 (List.map D.bool r83)) [(1, (.tok ((List.map D.bool r83).length * 1)))] from ACalls.use (F307 hmix hc.2.2.1 e83) [(0, 1)] 1 rfl) rfl rfl rfl rfl (.cons (.refl _) .nil) (.refl _) (fun h => by cases h) rfl hasNil rfl rfl rfl rfl ?_
        refine RegV.ld (v := (.d (.agg [(.sl (List.map TNode.enc a0.fNodes))]))) (H' := [(0, (.cells [(.d (.sl (List.map TNode.enc a0.fNodes)))])), (1, (.tok ((List.map D.bool r83).length * 1)))]) rfl rfl (Nat.le_of_ble_eq_true rfl) rfl rfl rfl rfl rfl ?_
        obtain ⟨r85, e85, h⟩ := bind_some h
        refine RegV.callS (q := false) (H' := [(2, (.tok ((List.map D.bool r85).length * 1))), (0, (.cells [(.d (.sl (List.map TNode.enc a0.fNodes)))])), (1, (.tok ((List.map D.bool r83).length * 1)))]) (c' := 3) (show ACalls P (N 308) [(.d (TSchema.enc (TSchema.mk a0.fNodes)))] [] (.ap 2 1 (List.map D.bool r85)) [(2, (.tok ((List.map D.bool r85).length * 1)))] from ACalls.use (F308 hmix hc.2.2.2.1 e85) [(0, 2)] 1 rfl) rfl rfl rfl rfl (.cons (.refl _) .nil) (.refl _) (fun h => by cases h) rfl hasNil rfl rfl rfl rfl ?_
        obtain ⟨r86, e86, h⟩ := bind_some h
        refine RegV.call0 (F312 hmix hc.2.2.2.2 e86) rfl rfl rfl rfl (.cons (.sl rfl) (.cons (.sl rfl) .nil)) rfl ?_
        refine RegV.p0 rfl rfl rfl ?_
        refine RegV.p0 rfl rfl rfl ?_
        refine RegV.nil1 (by kernel_rfl) ?_
        have hr := Option.some.inj h
        subst hr
        exact AWc.ret (canQ (N := 43) (k := 0) (l' := [(2, (.d (.bool r86)))]) (H' := []) rfl ⟨rfl, [], [], rfl, rfl, ⟨⟨_, rfl, (.refl _)⟩, rfl, trivial⟩,  trivial⟩ (doneA (.inr rfl) rfl ⟨trivial, trivial⟩ (.refl _) hasNil))
      · have h := cond_neg c81 h
        refine RegV.noS rfl rfl ?_
        refine RegV.noS rfl rfl ?_
        refine RegV.noS rfl rfl ?_
        refine RegV.noS rfl rfl ?_
        refine RegV.noS rfl rfl ?_
        refine RegV.p0 rfl rfl rfl ?_
        refine RegV.p0 rfl rfl rfl ?_
        refine RegV.nil1 (by kernel_rfl) ?_
        have hr := Option.some.inj h
        subst hr
        exact AWc.ret (canQ (N := 43) (k := 0) (l' := [(2, (.d (.bool false)))]) (H' := []) rfl ⟨rfl, [], [], rfl, rfl, ⟨⟨_, rfl, (.refl _)⟩, rfl, trivial⟩,  trivial⟩ (doneA (.inr rfl) rfl ⟨trivial, trivial⟩ (.refl _) hasNil))
end Go.Proofs.Abs
