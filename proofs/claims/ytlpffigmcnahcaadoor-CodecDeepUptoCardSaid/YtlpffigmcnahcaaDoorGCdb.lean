/- Written by gen.py: functions of the program as Lean functions, and that the code comes to them. -/
import Derived.Test.YtlpffigmcnahcaaDoorGCd
set_option linter.unusedVariables false
set_option linter.unusedSimpArgs false
set_option maxRecDepth 100000
set_option maxHeartbeats 4000000
namespace Go.Proofs.Abs
open Go
/-- (*courant/code.Reader).Err -/
def C42 (N : Nat → Nat) : AFunc := { n := 9, params := 1, res := [.tmp 2], body :=
 (.seq (.region false [⟨(some 2), .mv (.k (.d (.int .i64 0))), none, []⟩])
  (.seq (.seq (.region false [⟨(some 3), .mv (.t 0), none, []⟩,
     ⟨(some 4), .nileq 1 false (.t 3) (.k (.d .nilp)), none, [0]⟩])
    (.cond (.t 4) (.seq (.region false [⟨(some 2), .mv (.k (.d (.int .i64 2))), none, []⟩])
      .ret)
     (.skip)))
   (.seq (.region false [⟨(some 5), .mv (.t 0), none, []⟩,
     ⟨(some 6), .nilchk (.t 5), none, [0]⟩,
     ⟨(some 7), .faddr (.t 6) 2, none, [1]⟩,
     ⟨(some 8), .load (.t 7) 1 false, none, [2]⟩,
     ⟨(some 2), .mv (.t 8), none, [3, 0, 1, 2]⟩])
    .ret))) }
def HC42 (P : Program) (N : Nat → Nat) : Prop := HasF P (N 42) (C42 N)
def f42 (k : Nat) (a0 : (List UInt8)) (a1 : Int) (a2 : Int) : Option Unit := some ()
theorem F42 {P : Program} {N : Nat → Nat} (hmix : P.follows .mixedOrders = true) (hc : HC42 P N) {k : Nat} {a0 : (List UInt8)} {a1 : Int} {a2 : Int} {r : Unit} (h : f42 k a0 a1 a2 = some r) :
    ACalls P (N 42) [(.ptr 0 0)] [(0, (.cells [(.d (.sl (List.map byteD a0))), (.d (.int .i64 a1)), (.d (.int .i64 a2))]))] (.d (.int .i64 a2)) [(0, (.cells [(.d (.sl (List.map byteD a0))), (.d (.int .i64 a1)), (.d (.int .i64 a2))]))] := by
  refine acalls_canon (F := C42 N) hc 1 1 rfl ?_
  unfold f42 at h
  dsimp only [C42, startL]
  refine AWc.seq ?_
  refine AWc.rE hmix [] ?_
  refine AWc.seq ?_
  refine AWc.seq ?_
  refine AWc.rE hmix [] ?_
  refine AWc.cF rfl ?_
  refine AWc.skip ?_
  refine AWc.seq ?_
  refine AWc.rE hmix [] ?_
  have hr := Option.some.inj h
  subst hr
  exact AWc.ret (canQ (N := 9) (k := 1) (l' := [(2, (.d (.int .i64 a2)))]) (H' := [(0, (.cells [(.d (.sl (List.map byteD a0))), (.d (.int .i64 a1)), (.d (.int .i64 a2))]))]) rfl (inT [] []) (doneA (.inr rfl) rfl ⟨trivial, trivial⟩ (.refl _) (hasCons rfl hasNil)))
/-- (*courant/codec.taker).number -/
def C454 (N : Nat → Nat) : AFunc := { n := 36, params := 3, res := [.tmp 6, .tmp 7], body :=
 (.seq (.region false [⟨(some 6), .mv (.k (.d (.int .i64 0))), none, []⟩,
   ⟨(some 7), .mv (.k (.d (.int .i64 0))), none, [0]⟩])
  (.seq (.region false [⟨(some 9), .mv (.t 0), none, []⟩,
    ⟨(some 10), .nilchk (.t 9), none, [0]⟩,
    ⟨(some 11), .faddr (.t 10) 1, none, [1]⟩,
    ⟨(some 12), .load (.t 11) 1 false, none, [2]⟩,
    ⟨(some 13), .call (.k (.d (.fn (N 40)))) [(.t 12)], none, [3]⟩,
    ⟨(some 8), .mv (.t 13), none, [4, 0, 1, 2, 3]⟩])
   (.seq (.block 0 (.seq (.region false [⟨(some 15), .mv (.t 0), none, []⟩,
       ⟨(some 16), .nilchk (.t 15), none, [0]⟩,
       ⟨(some 17), .faddr (.t 16) 1, none, [1]⟩,
       ⟨(some 18), .load (.t 17) 1 false, none, [2]⟩,
       ⟨(some 19), .call (.k (.d (.fn (N 42)))) [(.t 18)], none, [3]⟩,
       ⟨(some 20), .bin .neq (.t 19) (.k (.d (.int .i64 0))), none, [4]⟩,
       ⟨(some 14), .mv (.t 20), none, [5, 4]⟩])
      (.cond (.t 14) (.seq (.region false [⟨(some 21), .mv (.t 0), none, []⟩,
         ⟨(some 22), .nilchk (.t 21), none, [0]⟩,
         ⟨(some 23), .faddr (.t 22) 1, none, [1]⟩,
         ⟨(some 24), .load (.t 23) 1 false, none, [2]⟩,
         ⟨(some 25), .call (.k (.d (.fn (N 42)))) [(.t 24)], none, [3]⟩,
         ⟨(some 6), .mv (.k (.d (.int .i64 0))), none, [4]⟩,
         ⟨(some 7), .mv (.t 25), none, [4, 5, 0, 1, 2, 3]⟩])
        .ret)
       (.seq (.region false [⟨(some 27), .mv (.t 8), none, []⟩,
         ⟨(some 28), .mv (.t 1), none, []⟩,
         ⟨(some 29), .bin .lss (.t 27) (.t 28), none, [0, 1]⟩,
         ⟨(some 30), .mv (.t 29), none, [2]⟩,
         ⟨(some 31), .mv (.t 8), (some (30, false)), [3]⟩,
         ⟨(some 32), .mv (.t 2), (some (30, false)), [3]⟩,
         ⟨(some 33), .bin .gtr (.t 31) (.t 32), (some (30, false)), [4, 5, 3]⟩,
         ⟨(some 34), .pick (.t 30) (.k (.d (.bool true))) (.t 33), none, [3, 6]⟩,
         ⟨(some 26), .mv (.t 34), none, [7, 3]⟩])
        (.cond (.t 26) (.seq (.region false [⟨(some 6), .mv (.k (.d (.int .i64 0))), none, []⟩,
           ⟨(some 7), .mv (.k (.d (.int .i64 4))), none, [0]⟩])
          .ret)
         (.skip))))))
    (.seq (.region false [⟨(some 35), .mv (.t 8), none, []⟩,
      ⟨(some 6), .mv (.t 35), none, [0]⟩,
      ⟨(some 7), .mv (.k (.d (.int .i64 0))), none, [1, 0]⟩])
     .ret)))) }
def HC454 (P : Program) (N : Nat → Nat) : Prop := HasF P (N 454) (C454 N) ∧ HC40 P N ∧ HC42 P N
def f454 (k : Nat) (a0 : (List TNode)) (a1 : (List UInt8)) (a2 : Int) (a3 : Int) (a4 : Int) (a5 : Int) (a6 : Int) : Option (Int × Int × Int × Int) := (f40 k a1 a2 a3).bind fun r13 => (f42 k a1 r13.2.1 r13.2.2).bind fun r24 => cond (decide (r13.2.2 ≠ (0 : Int))) ((f42 k a1 r13.2.1 r13.2.2).bind fun r35 => some ((0 : Int), r13.2.2, r13.2.1, r13.2.2)) (cond (decide (r13.1 < a5)) (some ((0 : Int), (4 : Int), r13.2.1, r13.2.2)) (cond (decide (r13.1 > a6)) (some ((0 : Int), (4 : Int), r13.2.1, r13.2.2)) (some (r13.1, (0 : Int), r13.2.1, r13.2.2))))
theorem F454 {P : Program} {N : Nat → Nat} (hmix : P.follows .mixedOrders = true) (hc : HC454 P N) {k : Nat} {a0 : (List TNode)} {a1 : (List UInt8)} {a2 : Int} {a3 : Int} {a4 : Int} {a5 : Int} {a6 : Int} {r : (Int × Int × Int × Int)} (h : f454 k a0 a1 a2 a3 a4 a5 a6 = some r) :
    ACalls P (N 454) [(.ptr 0 0), (.d (.int .i64 a5)), (.d (.int .i64 a6))] [(0, (.cells [(.d (.sl (List.map TNode.enc a0))), (.ptr 1 0), (.d (.int .i64 a4))])), (1, (.cells [(.d (.sl (List.map byteD a1))), (.d (.int .i64 a2)), (.d (.int .i64 a3))]))] (.tup [(.d (.int .i64 r.1)), (.d (.int .i64 r.2.1))]) [(0, (.cells [(.d (.sl (List.map TNode.enc a0))), (.ptr 1 0), (.d (.int .i64 a4))])), (1, (.cells [(.d (.sl (List.map byteD a1))), (.d (.int .i64 r.2.2.1)), (.d (.int .i64 r.2.2.2))]))] := by
  refine acalls_canon (F := C454 N) hc.1 2 2 rfl ?_
  unfold f454 at h
  dsimp only [C454, startL]
  refine AWc.seq ?_
  refine AWc.rE hmix [] ?_
  refine AWc.seq ?_
  obtain ⟨r13, e13, h⟩ := bind_some h
  refine AWc.rE hmix [.call (F40 hmix hc.2.1 e13) [(0, 1)] 1] ?_
  refine AWc.seq ?_
  refine AWc.block ?_
  refine AWc.seq ?_
  obtain ⟨r24, e24, h⟩ := bind_some h
  refine AWc.rE hmix [.cq (F42 hmix hc.2.2 e24) [(0, 1)] 1] ?_
  rcases cc h with ⟨c27, h⟩ | ⟨c27, h⟩
  · refine AWc.cT c27 ?_
    refine AWc.seq ?_
    obtain ⟨r35, e35, h⟩ := bind_some h
    refine AWc.rE hmix [.cq (F42 hmix hc.2.2 e35) [(0, 1)] 1] ?_
    have hr := Option.some.inj h
    subst hr
    exact AWc.ret (canQ (N := 36) (k := 2) (l' := [(6, (.d (.int .i64 (0 : Int)))), (7, (.d (.int .i64 r13.2.2)))]) (H' := [(0, (.cells [(.d (.sl (List.map TNode.enc a0))), (.ptr 1 0), (.d (.int .i64 a4))])), (1, (.cells [(.d (.sl (List.map byteD a1))), (.d (.int .i64 r13.2.1)), (.d (.int .i64 r13.2.2))]))]) rfl (inT [] []) (doneA (.inr rfl) rfl ⟨trivial, ⟨trivial, trivial⟩⟩ (.refl _) (hasCons rfl (hasCons rfl hasNil))))
  · refine AWc.cF c27 ?_
    refine AWc.seq ?_
    rcases cc h with ⟨c45, h⟩ | ⟨c45, h⟩
    · refine AWc.rE hmix [.br c45] ?_
      refine AWc.cT rfl ?_
      refine AWc.seq ?_
      refine AWc.rE hmix [] ?_
      have hr := Option.some.inj h
      subst hr
      exact AWc.ret (canQ (N := 36) (k := 2) (l' := [(6, (.d (.int .i64 (0 : Int)))), (7, (.d (.int .i64 (4 : Int))))]) (H' := [(0, (.cells [(.d (.sl (List.map TNode.enc a0))), (.ptr 1 0), (.d (.int .i64 a4))])), (1, (.cells [(.d (.sl (List.map byteD a1))), (.d (.int .i64 r13.2.1)), (.d (.int .i64 r13.2.2))]))]) rfl (inT [] []) (doneA (.inr rfl) rfl ⟨trivial, ⟨trivial, trivial⟩⟩ (.refl _) (hasCons rfl (hasCons rfl hasNil))))
    · refine AWc.rE hmix [.br c45] ?_
      rcases cc h with ⟨c51, h⟩ | ⟨c51, h⟩
      · refine AWc.cT c51 ?_
        refine AWc.seq ?_
        refine AWc.rE hmix [] ?_
        have hr := Option.some.inj h
        subst hr
        exact AWc.ret (canQ (N := 36) (k := 2) (l' := [(6, (.d (.int .i64 (0 : Int)))), (7, (.d (.int .i64 (4 : Int))))]) (H' := [(0, (.cells [(.d (.sl (List.map TNode.enc a0))), (.ptr 1 0), (.d (.int .i64 a4))])), (1, (.cells [(.d (.sl (List.map byteD a1))), (.d (.int .i64 r13.2.1)), (.d (.int .i64 r13.2.2))]))]) rfl (inT [] []) (doneA (.inr rfl) rfl ⟨trivial, ⟨trivial, trivial⟩⟩ (.refl _) (hasCons rfl (hasCons rfl hasNil))))
      · refine AWc.cF c51 ?_
        refine AWc.skip ?_
        refine AWc.seq ?_
        refine AWc.rE hmix [] ?_
        have hr := Option.some.inj h
        subst hr
        exact AWc.ret (canQ (N := 36) (k := 2) (l' := [(6, (.d (.int .i64 r13.1))), (7, (.d (.int .i64 (0 : Int))))]) (H' := [(0, (.cells [(.d (.sl (List.map TNode.enc a0))), (.ptr 1 0), (.d (.int .i64 a4))])), (1, (.cells [(.d (.sl (List.map byteD a1))), (.d (.int .i64 r13.2.1)), (.d (.int .i64 r13.2.2))]))]) rfl (inT [] []) (doneA (.inr rfl) rfl ⟨trivial, ⟨trivial, trivial⟩⟩ (.refl _) (hasCons rfl (hasCons rfl hasNil))))
/-- (*courant/codec.taker).block -/
def C453 (N : Nat → Nat) : AFunc := { n := 36, params := 1, res := [.tmp 2, .tmp 3, .tmp 4], body :=
 (.seq (.region false [⟨(some 2), .mv (.k (.d (.int .i64 0))), none, []⟩,
   ⟨(some 3), .mv (.k (.d (.int .i64 0))), none, [0]⟩,
   ⟨(some 4), .mv (.k (.d (.int .i64 0))), none, [1]⟩])
  (.seq (.region false [⟨(some 9), .mv (.t 0), none, []⟩,
    ⟨(some 10), .call (.k (.d (.fn (N 454)))) [(.t 9), (.k (.d (.int .i64 (-9223372036854775808)))), (.k (.d (.int .i64 9223372036854775807)))], none, [0]⟩,
    ⟨(some 8), .mv (.t 10), none, [1]⟩,
    ⟨(some 11), .ext (.t 8) 0, none, [2]⟩,
    ⟨(some 12), .ext (.t 8) 1, none, [2]⟩,
    ⟨(some 5), .mv (.t 11), none, [3, 1, 0, 2]⟩,
    ⟨(some 6), .mv (.t 12), none, [4, 5, 0, 1, 2, 3]⟩])
   (.seq (.seq (.region false [⟨(some 13), .mv (.t 6), none, []⟩,
      ⟨(some 14), .bin .neq (.t 13) (.k (.d (.int .i64 0))), none, [0]⟩,
      ⟨(some 15), .mv (.t 14), none, [1]⟩,
      ⟨(some 16), .mv (.t 5), (some (15, false)), [2]⟩,
      ⟨(some 17), .bin .geq (.t 16) (.k (.d (.int .i64 0))), (some (15, false)), [3, 2]⟩,
      ⟨(some 18), .pick (.t 15) (.k (.d (.bool true))) (.t 17), none, [2, 4]⟩])
     (.cond (.t 18) (.seq (.region false [⟨(some 19), .mv (.t 5), none, []⟩,
        ⟨(some 20), .mv (.t 6), none, []⟩,
        ⟨(some 2), .mv (.t 19), none, [0]⟩,
        ⟨(some 3), .mv (.k (.d (.int .i64 (-1)))), none, [2, 0]⟩,
        ⟨(some 4), .mv (.t 20), none, [1, 3, 0, 2]⟩])
       .ret)
      (.skip)))
    (.seq (.region false [⟨(some 22), .mv (.t 0), none, []⟩,
      ⟨(some 23), .call (.k (.d (.fn (N 454)))) [(.t 22), (.k (.d (.int .i64 0))), (.k (.d (.int .i64 9223372036854775807)))], none, [0]⟩,
      ⟨(some 21), .mv (.t 23), none, [1]⟩,
      ⟨(some 24), .ext (.t 21) 0, none, [2]⟩,
      ⟨(some 25), .ext (.t 21) 1, none, [2]⟩,
      ⟨(some 7), .mv (.t 24), none, [3, 1, 0, 2]⟩,
      ⟨(some 6), .mv (.t 25), none, [4, 5, 0, 1, 2, 3]⟩])
     (.seq (.block 0 (.seq (.region false [⟨(some 27), .mv (.t 6), none, []⟩,
         ⟨(some 28), .bin .neq (.t 27) (.k (.d (.int .i64 0))), none, [0]⟩,
         ⟨(some 26), .mv (.t 28), none, [1]⟩])
        (.cond (.t 26) (.seq (.region false [⟨(some 29), .mv (.t 6), none, []⟩,
           ⟨(some 2), .mv (.k (.d (.int .i64 0))), none, []⟩,
           ⟨(some 3), .mv (.k (.d (.int .i64 0))), none, [1]⟩,
           ⟨(some 4), .mv (.t 29), none, [0, 2, 1]⟩])
          .ret)
         (.seq (.region false [⟨(some 31), .mv (.t 5), none, []⟩,
           ⟨(some 32), .bin .eql (.t 31) (.k (.d (.int .i64 (-9223372036854775808)))), none, [0]⟩,
           ⟨(some 30), .mv (.t 32), none, [1]⟩])
          (.cond (.t 30) (.seq (.region false [⟨(some 2), .mv (.k (.d (.int .i64 0))), none, []⟩,
             ⟨(some 3), .mv (.k (.d (.int .i64 0))), none, [0]⟩,
             ⟨(some 4), .mv (.k (.d (.int .i64 4))), none, [1, 0]⟩])
            .ret)
           (.skip))))))
      (.seq (.region false [⟨(some 33), .mv (.t 5), none, []⟩,
        ⟨(some 34), .un .neg (.t 33), none, [0]⟩,
        ⟨(some 35), .mv (.t 7), none, []⟩,
        ⟨(some 2), .mv (.t 34), none, [1, 0]⟩,
        ⟨(some 3), .mv (.t 35), none, [2, 3, 0, 1]⟩,
        ⟨(some 4), .mv (.k (.d (.int .i64 0))), none, [4, 0, 1, 2, 3]⟩])
       .ret)))))) }
def HC453 (P : Program) (N : Nat → Nat) : Prop := HasF P (N 453) (C453 N) ∧ HC454 P N
def f453_j27 (k : Nat) (r11 : (Int × Int × Int × Int)) (a0 : (List TNode)) (a1 : (List UInt8)) (a4 : Int) (j27_1 : Bool) : Option (Int × Int × Int × Int × Int) := cond j27_1 (some (r11.1, (-1 : Int), r11.2.1, r11.2.2.1, r11.2.2.2)) ((f454 k a0 a1 r11.2.2.1 r11.2.2.2 a4 (0 : Int) (9223372036854775807 : Int)).bind fun r42 => cond (decide (r42.2.1 ≠ (0 : Int))) (some ((0 : Int), (0 : Int), r42.2.1, r42.2.2.1, r42.2.2.2)) (cond (decide (r11.1 = (-9223372036854775808 : Int))) (some ((0 : Int), (0 : Int), (4 : Int), r42.2.2.1, r42.2.2.2)) (some ((IntKind.i64.wrap (0 - r11.1)), r42.1, (0 : Int), r42.2.2.1, r42.2.2.2))))
def f453 (k : Nat) (a0 : (List TNode)) (a1 : (List UInt8)) (a2 : Int) (a3 : Int) (a4 : Int) : Option (Int × Int × Int × Int × Int) := (f454 k a0 a1 a2 a3 a4 (-9223372036854775808 : Int) (9223372036854775807 : Int)).bind fun r11 => cond (decide (r11.2.1 ≠ (0 : Int))) (f453_j27 k r11 a0 a1 a4 true) (f453_j27 k r11 a0 a1 a4 (decide (r11.1 ≥ (0 : Int))))
theorem F453 {P : Program} {N : Nat → Nat} (hmix : P.follows .mixedOrders = true) (hc : HC453 P N) {k : Nat} {a0 : (List TNode)} {a1 : (List UInt8)} {a2 : Int} {a3 : Int} {a4 : Int} {r : (Int × Int × Int × Int × Int)} (h : f453 k a0 a1 a2 a3 a4 = some r) :
    ACalls P (N 453) [(.ptr 0 0)] [(0, (.cells [(.d (.sl (List.map TNode.enc a0))), (.ptr 1 0), (.d (.int .i64 a4))])), (1, (.cells [(.d (.sl (List.map byteD a1))), (.d (.int .i64 a2)), (.d (.int .i64 a3))]))] (.tup [(.d (.int .i64 r.1)), (.d (.int .i64 r.2.1)), (.d (.int .i64 r.2.2.1))]) [(0, (.cells [(.d (.sl (List.map TNode.enc a0))), (.ptr 1 0), (.d (.int .i64 a4))])), (1, (.cells [(.d (.sl (List.map byteD a1))), (.d (.int .i64 r.2.2.2.1)), (.d (.int .i64 r.2.2.2.2))]))] := by
  refine acalls_canon (F := C453 N) hc.1 2 2 rfl ?_
  unfold f453 at h
  dsimp only [C453, startL]
  refine AWc.seq ?_
  refine AWc.rE hmix [] ?_
  refine AWc.seq ?_
  obtain ⟨r11, e11, h⟩ := bind_some h
  refine AWc.rE hmix [.call (F454 hmix hc.2 e11) [] 2] ?_
  refine AWc.seq ?_
  refine AWc.seqS (N := 36) 2 (fun (z : Bool) => [(0, (.ptr 0 0)), (5, (.d (.int .i64 r11.1))), (6, (.d (.int .i64 r11.2.1))), (18, (.d (.bool z)))]) (fun z => [(0, (.cells [(.d (.sl (List.map TNode.enc a0))), (.ptr 1 0), (.d (.int .i64 a4))])), (1, (.cells [(.d (.sl (List.map byteD a1))), (.d (.int .i64 r11.2.2.1)), (.d (.int .i64 r11.2.2.2))]))]) (fun z => f453_j27 k r11 a0 a1 a4 z = some r) rfl_le ?_ ?_
  · rcases cc h with ⟨c23, h⟩ | ⟨c23, h⟩
    · refine AWc.rE hmix [.br c23] ?_
      exact ⟨true, h, (inT [] [])⟩
    · refine AWc.rE hmix [.br c23] ?_
      exact ⟨(decide (r11.1 ≥ (0 : Int))), h, (inT [] [])⟩
  · intro j27_1 h
    unfold f453_j27 at h
    rcases cc h with ⟨c27, h⟩ | ⟨c27, h⟩
    · refine AWc.cT c27 ?_
      refine AWc.seq ?_
      refine AWc.rE hmix [] ?_
      have hr := Option.some.inj h
      subst hr
      exact AWc.ret (canQ (N := 36) (k := 2) (l' := [(2, (.d (.int .i64 r11.1))), (3, (.d (.int .i64 (-1 : Int)))), (4, (.d (.int .i64 r11.2.1)))]) (H' := [(0, (.cells [(.d (.sl (List.map TNode.enc a0))), (.ptr 1 0), (.d (.int .i64 a4))])), (1, (.cells [(.d (.sl (List.map byteD a1))), (.d (.int .i64 r11.2.2.1)), (.d (.int .i64 r11.2.2.2))]))]) rfl (inT [] []) (doneA (.inr rfl) rfl ⟨trivial, ⟨trivial, ⟨trivial, trivial⟩⟩⟩ (.refl _) (hasCons rfl (hasCons rfl hasNil))))
    · refine AWc.cF c27 ?_
      refine AWc.skip ?_
      refine AWc.seq ?_
      obtain ⟨r42, e42, h⟩ := bind_some h
      refine AWc.rE hmix [.call (F454 hmix hc.2 e42) [] 2] ?_
      refine AWc.seq ?_
      refine AWc.block ?_
      refine AWc.seq ?_
      refine AWc.rE hmix [] ?_
      rcases cc h with ⟨c56, h⟩ | ⟨c56, h⟩
      · refine AWc.cT c56 ?_
        refine AWc.seq ?_
        refine AWc.rE hmix [] ?_
        have hr := Option.some.inj h
        subst hr
        exact AWc.ret (canQ (N := 36) (k := 2) (l' := [(2, (.d (.int .i64 (0 : Int)))), (3, (.d (.int .i64 (0 : Int)))), (4, (.d (.int .i64 r42.2.1)))]) (H' := [(0, (.cells [(.d (.sl (List.map TNode.enc a0))), (.ptr 1 0), (.d (.int .i64 a4))])), (1, (.cells [(.d (.sl (List.map byteD a1))), (.d (.int .i64 r42.2.2.1)), (.d (.int .i64 r42.2.2.2))]))]) rfl (inT [] []) (doneA (.inr rfl) rfl ⟨trivial, ⟨trivial, ⟨trivial, trivial⟩⟩⟩ (.refl _) (hasCons rfl (hasCons rfl hasNil))))
      · refine AWc.cF c56 ?_
        refine AWc.seq ?_
        refine AWc.rE hmix [] ?_
        rcases cc h with ⟨c71, h⟩ | ⟨c71, h⟩
        · refine AWc.cT c71 ?_
          refine AWc.seq ?_
          refine AWc.rE hmix [] ?_
          have hr := Option.some.inj h
          subst hr
          exact AWc.ret (canQ (N := 36) (k := 2) (l' := [(2, (.d (.int .i64 (0 : Int)))), (3, (.d (.int .i64 (0 : Int)))), (4, (.d (.int .i64 (4 : Int))))]) (H' := [(0, (.cells [(.d (.sl (List.map TNode.enc a0))), (.ptr 1 0), (.d (.int .i64 a4))])), (1, (.cells [(.d (.sl (List.map byteD a1))), (.d (.int .i64 r42.2.2.1)), (.d (.int .i64 r42.2.2.2))]))]) rfl (inT [] []) (doneA (.inr rfl) rfl ⟨trivial, ⟨trivial, ⟨trivial, trivial⟩⟩⟩ (.refl _) (hasCons rfl (hasCons rfl hasNil))))
        · refine AWc.cF c71 ?_
          refine AWc.skip ?_
          refine AWc.seq ?_
          refine AWc.rE hmix [] ?_
          have hr := Option.some.inj h
          subst hr
          exact AWc.ret (canQ (N := 36) (k := 2) (l' := [(2, (.d (.int .i64 (IntKind.i64.wrap (0 - r11.1))))), (3, (.d (.int .i64 r42.1))), (4, (.d (.int .i64 (0 : Int))))]) (H' := [(0, (.cells [(.d (.sl (List.map TNode.enc a0))), (.ptr 1 0), (.d (.int .i64 a4))])), (1, (.cells [(.d (.sl (List.map byteD a1))), (.d (.int .i64 r42.2.2.1)), (.d (.int .i64 r42.2.2.2))]))]) rfl (inT [] []) (doneA (.inr rfl) rfl ⟨trivial, ⟨trivial, ⟨trivial, trivial⟩⟩⟩ (.refl _) (hasCons rfl (hasCons rfl hasNil))))
/-- (*courant/code.Reader).Left -/
def C32 (N : Nat → Nat) : AFunc := { n := 15, params := 1, res := [.tmp 2], body :=
 (.seq (.region false [⟨(some 2), .mv (.k (.d (.int .i64 0))), none, []⟩])
  (.seq (.seq (.region false [⟨(some 3), .mv (.t 0), none, []⟩,
     ⟨(some 4), .nileq 1 false (.t 3) (.k (.d .nilp)), none, [0]⟩])
    (.cond (.t 4) (.seq (.region false [⟨(some 2), .mv (.k (.d (.int .i64 0))), none, []⟩])
      .ret)
     (.skip)))
   (.seq (.region true [⟨(some 5), .mv (.t 0), none, []⟩,
     ⟨(some 6), .nilchk (.t 5), none, [0]⟩,
     ⟨(some 7), .faddr (.t 6) 0, none, [1]⟩,
     ⟨(some 8), .load (.t 7) 1 false, none, [2]⟩,
     ⟨(some 9), .len (.t 8), none, [3]⟩,
     ⟨(some 10), .mv (.t 0), none, []⟩,
     ⟨(some 11), .nilchk (.t 10), none, [5]⟩,
     ⟨(some 12), .faddr (.t 11) 1, none, [6]⟩,
     ⟨(some 13), .load (.t 12) 1 false, none, [7]⟩,
     ⟨(some 14), .bin .sub (.t 9) (.t 13), none, [4, 8]⟩,
     ⟨(some 2), .mv (.t 14), none, [9, 0, 1, 2, 3, 4, 5, 6, 7, 8]⟩])
    .ret))) }
def HC32 (P : Program) (N : Nat → Nat) : Prop := HasF P (N 32) (C32 N)
def f32 (k : Nat) (a0 : (List UInt8)) (a1 : Int) (a2 : Int) : Option Unit := some ()
theorem F32 {P : Program} {N : Nat → Nat} (hmix : P.follows .mixedOrders = true) (hc : HC32 P N) {k : Nat} {a0 : (List UInt8)} {a1 : Int} {a2 : Int} {r : Unit} (h : f32 k a0 a1 a2 = some r) :
    ACalls P (N 32) [(.ptr 0 0)] [(0, (.cells [(.d (.sl (List.map byteD a0))), (.d (.int .i64 a1)), (.d (.int .i64 a2))]))] (.d (.int .i64 (IntKind.i64.wrap (((a0.length : Nat) : Int) - a1)))) [(0, (.cells [(.d (.sl (List.map byteD a0))), (.d (.int .i64 a1)), (.d (.int .i64 a2))]))] := by
  refine acalls_canon (F := C32 N) hc 1 1 rfl ?_
  unfold f32 at h
  dsimp only [C32, startL]
  refine AWc.seq ?_
  refine AWc.rE hmix [] ?_
  refine AWc.seq ?_
  refine AWc.seq ?_
  refine AWc.rE hmix [] ?_
  refine AWc.cF rfl ?_
  refine AWc.skip ?_
  refine AWc.seq ?_
  refine AWc.rE hmix [.ln byteD a0] ?_
  have hr := Option.some.inj h
  subst hr
  exact AWc.ret (canQ (N := 15) (k := 1) (l' := [(2, (.d (.int .i64 (IntKind.i64.wrap (((a0.length : Nat) : Int) - a1)))))]) (H' := [(0, (.cells [(.d (.sl (List.map byteD a0))), (.d (.int .i64 a1)), (.d (.int .i64 a2))]))]) rfl (inT [] []) (doneA (.inr rfl) rfl ⟨trivial, trivial⟩ (.refl _) (hasCons rfl hasNil)))
/-- (*courant/code.Reader).Raw -/
def C41 (N : Nat → Nat) : AFunc := { n := 46, params := 2, res := [.tmp 4], body :=
 (.seq (.region false [⟨(some 4), .mv (.k .nils), none, []⟩])
  (.seq (.seq (.region false [⟨(some 5), .mv (.t 0), none, []⟩,
     ⟨(some 6), .call (.k (.d (.fn (N 84)))) [(.t 5)], none, [0]⟩,
     ⟨(some 7), .un .not (.t 6), none, [1]⟩,
     ⟨(some 8), .mv (.t 7), none, [2, 1]⟩,
     ⟨(some 9), .mv (.t 1), (some (8, false)), [3]⟩,
     ⟨(some 10), .bin .leq (.t 9) (.k (.d (.int .i64 0))), (some (8, false)), [4, 3]⟩,
     ⟨(some 11), .pick (.t 8) (.k (.d (.bool true))) (.t 10), none, [3, 5]⟩])
    (.cond (.t 11) (.seq (.region false [⟨(some 4), .mv (.k .nils), none, []⟩])
      .ret)
     (.skip)))
   (.seq (.seq (.region false [⟨(some 12), .mv (.t 1), none, []⟩,
      ⟨(some 13), .mv (.t 0), none, []⟩,
      ⟨(some 14), .call (.k (.d (.fn (N 32)))) [(.t 13)], none, [1]⟩,
      ⟨(some 15), .bin .gtr (.t 12) (.t 14), none, [0, 2]⟩])
     (.cond (.t 15) (.seq (.region false [⟨(some 16), .mv (.t 0), none, []⟩,
        ⟨(some 17), .mv (.t 0), none, []⟩,
        ⟨(some 18), .nilchk (.t 17), none, [1]⟩,
        ⟨(some 19), .faddr (.t 18) 1, none, [2]⟩,
        ⟨(some 20), .load (.t 19) 1 false, none, [3]⟩,
        ⟨(some 21), .call (.k (.d (.fn (N 85)))) [(.t 16), (.t 20), (.k (.d (.int .i64 3)))], none, [0, 4]⟩])
       (.seq (.region false [⟨(some 4), .mv (.k .nils), none, []⟩])
        .ret))
      (.skip)))
    (.seq (.region false [⟨(some 22), .mv (.t 0), none, []⟩,
      ⟨(some 23), .nilchk (.t 22), none, [0]⟩,
      ⟨(some 24), .faddr (.t 23) 1, none, [1]⟩,
      ⟨(some 25), .load (.t 24) 1 false, none, [2]⟩,
      ⟨(some 26), .mv (.t 1), none, []⟩,
      ⟨(some 27), .bin .add (.t 25) (.t 26), none, [3, 4]⟩,
      ⟨(some 28), .nilchk (.t 22), none, [0, 1, 2, 3, 4, 5]⟩,
      ⟨(some 29), .faddr (.t 28) 1, none, [6, 0, 1, 2, 3, 4, 5]⟩,
      ⟨none, .store (.t 29) (.t 27) 1, none, [7, 5, 0, 1, 2, 3, 4]⟩])
     (.seq (.region true [⟨(some 30), .mv (.t 0), none, []⟩,
       ⟨(some 31), .nilchk (.t 30), none, [0]⟩,
       ⟨(some 32), .faddr (.t 31) 0, none, [1]⟩,
       ⟨(some 33), .load (.t 32) 1 false, none, [2]⟩,
       ⟨(some 34), .mv (.t 0), none, []⟩,
       ⟨(some 35), .nilchk (.t 34), none, [4]⟩,
       ⟨(some 36), .faddr (.t 35) 1, none, [5]⟩,
       ⟨(some 37), .load (.t 36) 1 false, none, [6]⟩,
       ⟨(some 38), .mv (.t 1), none, []⟩,
       ⟨(some 39), .bin .sub (.t 37) (.t 38), none, [7, 8]⟩,
       ⟨(some 40), .mv (.t 0), none, []⟩,
       ⟨(some 41), .nilchk (.t 40), none, [10]⟩,
       ⟨(some 42), .faddr (.t 41) 1, none, [11]⟩,
       ⟨(some 43), .load (.t 42) 1 false, none, [12]⟩,
       ⟨(some 44), .slc (.t 33) (some (.t 39)) (some (.t 43)) none 1, none, [3, 9, 13]⟩,
       ⟨(some 45), .app (.k .nils) (.t 44) 1 1 [(.int .u8 0)], none, [14]⟩,
       ⟨(some 4), .mv (.t 45), none, [15, 0, 1, 2, 3, 4, 5, 6, 7, 8, 9, 10, 11, 12, 13, 14]⟩])
      .ret))))) }
def HC41 (P : Program) (N : Nat → Nat) : Prop := HasF P (N 41) (C41 N) ∧ HC84 P N ∧ HC32 P N ∧ HC85 P N
def f41 (k : Nat) (a0 : (List UInt8)) (a1 : Int) (a2 : Int) (a3 : Int) : Option ((List UInt8) × Int × Int) := (f84 k a0 a1 a2).bind fun r10 => cond (!(decide (a2 = (0 : Int)))) (some (([] : List UInt8), a1, a2)) (cond (decide (a3 ≤ (0 : Int))) (some (([] : List UInt8), a1, a2)) ((f32 k a0 a1 a2).bind fun r29 => cond (decide (a3 > (IntKind.i64.wrap (((a0.length : Nat) : Int) - a1)))) ((f85 k a0 a1 a2 a1 (3 : Int)).bind fun r40 => some (([] : List UInt8), a1, (3 : Int))) (gd (0 ≤ (IntKind.i64.wrap ((IntKind.i64.wrap (a1 + a3)) - a3)) ∧ (IntKind.i64.wrap ((IntKind.i64.wrap (a1 + a3)) - a3)) ≤ (IntKind.i64.wrap (a1 + a3)) ∧ (IntKind.i64.wrap (a1 + a3)) ≤ ((a0.length : Nat) : Int)) (gd ((sl a0 (IntKind.i64.wrap ((IntKind.i64.wrap (a1 + a3)) - a3)) (IntKind.i64.wrap (a1 + a3))).length * 1 ≤ 281474976710656) (some ((sl a0 (IntKind.i64.wrap ((IntKind.i64.wrap (a1 + a3)) - a3)) (IntKind.i64.wrap (a1 + a3))), (IntKind.i64.wrap (a1 + a3)), a2))))))
theorem F41 {P : Program} {N : Nat → Nat} (hmix : P.follows .mixedOrders = true) (hc : HC41 P N) {k : Nat} {a0 : (List UInt8)} {a1 : Int} {a2 : Int} {a3 : Int} {r : ((List UInt8) × Int × Int)} (h : f41 k a0 a1 a2 a3 = some r) :
    ACalls P (N 41) [(.ptr 0 0), (.d (.int .i64 a3))] [(0, (.cells [(.d (.sl (List.map byteD a0))), (.d (.int .i64 a1)), (.d (.int .i64 a2))]))] (.ap 1 1 (List.map byteD r.1)) [(1, (.tok ((List.map byteD r.1).length * 1))), (0, (.cells [(.d (.sl (List.map byteD a0))), (.d (.int .i64 r.2.1)), (.d (.int .i64 r.2.2))]))] := by
  refine acalls_canon (F := C41 N) hc.1 1 2 rfl ?_
  unfold f41 at h
  dsimp only [C41, startL]
  refine AWc.seq ?_
  refine AWc.rE hmix [] ?_
  refine AWc.seq ?_
  refine AWc.seq ?_
  obtain ⟨r10, e10, h⟩ := bind_some h
  rcases cc h with ⟨c12, h⟩ | ⟨c12, h⟩
  · refine AWc.rE hmix [.cq (F84 hmix hc.2.1 e10) [] 1, .br c12] ?_
    refine AWc.cT rfl ?_
    refine AWc.seq ?_
    refine AWc.rE hmix [] ?_
    have hr := Option.some.inj h
    subst hr
    exact AWc.ret (canQ (N := 46) (k := 2) (l' := [(4, (.ap 1 1 (List.map byteD ([] : List UInt8))))]) (H' := [(1, (.tok ((List.map byteD ([] : List UInt8)).length * 1))), (0, (.cells [(.d (.sl (List.map byteD a0))), (.d (.int .i64 a1)), (.d (.int .i64 a2))]))]) rfl (inT [(1, 1)] [.tok 0]) (doneA (.inr rfl) rfl ⟨trivial, trivial⟩ (.refl _) (hasCons rfl (hasCons rfl hasNil))))
  · refine AWc.rE hmix [.cq (F84 hmix hc.2.1 e10) [] 1, .br c12] ?_
    rcases cc h with ⟨c16, h⟩ | ⟨c16, h⟩
    · refine AWc.cT c16 ?_
      refine AWc.seq ?_
      refine AWc.rE hmix [] ?_
      have hr := Option.some.inj h
      subst hr
      exact AWc.ret (canQ (N := 46) (k := 2) (l' := [(4, (.ap 1 1 (List.map byteD ([] : List UInt8))))]) (H' := [(1, (.tok ((List.map byteD ([] : List UInt8)).length * 1))), (0, (.cells [(.d (.sl (List.map byteD a0))), (.d (.int .i64 a1)), (.d (.int .i64 a2))]))]) rfl (inT [(1, 1)] [.tok 0]) (doneA (.inr rfl) rfl ⟨trivial, trivial⟩ (.refl _) (hasCons rfl (hasCons rfl hasNil))))
    · refine AWc.cF c16 ?_
      refine AWc.skip ?_
      refine AWc.seq ?_
      refine AWc.seq ?_
      obtain ⟨r29, e29, h⟩ := bind_some h
      refine AWc.rE hmix [.cq (F32 hmix hc.2.2.1 e29) [] 1] ?_
      rcases cc h with ⟨c31, h⟩ | ⟨c31, h⟩
      · refine AWc.cT c31 ?_
        refine AWc.seq ?_
        obtain ⟨r40, e40, h⟩ := bind_some h
        refine AWc.rE hmix [.call (F85 hmix hc.2.2.2 e40) [] 1] ?_
        refine AWc.seq ?_
        refine AWc.rE hmix [] ?_
        have hr := Option.some.inj h
        subst hr
        exact AWc.ret (canQ (N := 46) (k := 2) (l' := [(4, (.ap 1 1 (List.map byteD ([] : List UInt8))))]) (H' := [(1, (.tok ((List.map byteD ([] : List UInt8)).length * 1))), (0, (.cells [(.d (.sl (List.map byteD a0))), (.d (.int .i64 a1)), (.d (.int .i64 (3 : Int)))]))]) rfl (inT [(1, 1)] [.tok 0]) (doneA (.inr rfl) rfl ⟨trivial, trivial⟩ (.refl _) (hasCons rfl (hasCons rfl hasNil))))
      · refine AWc.cF c31 ?_
        refine AWc.skip ?_
        refine AWc.seq ?_
        refine AWc.rE hmix [] ?_
        refine AWc.seq ?_
        obtain ⟨b76, h⟩ := gd_some h
        obtain ⟨b77, h⟩ := gd_some h
        refine AWc.rE hmix [.slc byteD a0 1 (fun _ => rfl) b76, .apN byteD (sl a0 (IntKind.i64.wrap ((IntKind.i64.wrap (a1 + a3)) - a3)) (IntKind.i64.wrap (a1 + a3))) 1 (fun _ => rfl) b77] ?_
        have hr := Option.some.inj h
        subst hr
        exact AWc.ret (canQ (N := 46) (k := 2) (l' := [(4, (.ap 1 1 (List.map byteD (sl a0 (IntKind.i64.wrap ((IntKind.i64.wrap (a1 + a3)) - a3)) (IntKind.i64.wrap (a1 + a3))))))]) (H' := [(1, (.tok ((List.map byteD (sl a0 (IntKind.i64.wrap ((IntKind.i64.wrap (a1 + a3)) - a3)) (IntKind.i64.wrap (a1 + a3)))).length * 1))), (0, (.cells [(.d (.sl (List.map byteD a0))), (.d (.int .i64 (IntKind.i64.wrap (a1 + a3)))), (.d (.int .i64 a2))]))]) rfl (inT [] []) (doneA (.inr rfl) rfl ⟨trivial, trivial⟩ (.refl _) (hasCons rfl (hasCons rfl hasNil))))
/-- (*courant/code.Reader).Text -/
def C31 (N : Nat → Nat) : AFunc := { n := 53, params := 2, res := [.tmp 4], body :=
 (.seq (.region false [⟨(some 4), .mv (.k .nils), none, []⟩])
  (.seq (.seq (.region false [⟨(some 8), .mv (.t 0), none, []⟩,
     ⟨(some 9), .call (.k (.d (.fn (N 84)))) [(.t 8)], none, [0]⟩,
     ⟨(some 10), .un .not (.t 9), none, [1]⟩])
    (.cond (.t 10) (.seq (.region false [⟨(some 4), .mv (.k .nils), none, []⟩])
      .ret)
     (.skip)))
   (.seq (.region false [⟨(some 11), .mv (.t 0), none, []⟩,
     ⟨(some 12), .nilchk (.t 11), none, [0]⟩,
     ⟨(some 13), .faddr (.t 12) 1, none, [1]⟩,
     ⟨(some 14), .load (.t 13) 1 false, none, [2]⟩,
     ⟨(some 5), .mv (.t 14), none, [3, 0, 1, 2]⟩])
    (.seq (.region false [⟨(some 15), .mv (.t 0), none, []⟩,
      ⟨(some 16), .call (.k (.d (.fn (N 40)))) [(.t 15)], none, [0]⟩,
      ⟨(some 6), .mv (.t 16), none, [1, 0]⟩])
     (.seq (.block 0 (.seq (.region false [⟨(some 18), .mv (.t 0), none, []⟩,
         ⟨(some 19), .nilchk (.t 18), none, [0]⟩,
         ⟨(some 20), .faddr (.t 19) 2, none, [1]⟩,
         ⟨(some 21), .load (.t 20) 1 false, none, [2]⟩,
         ⟨(some 22), .bin .neq (.t 21) (.k (.d (.int .i64 0))), none, [3]⟩,
         ⟨(some 17), .mv (.t 22), none, [4]⟩])
        (.cond (.t 17) (.seq (.region false [⟨(some 4), .mv (.k .nils), none, []⟩])
          .ret)
         (.seq (.region false [⟨(some 24), .mv (.t 6), none, []⟩,
           ⟨(some 25), .bin .lss (.t 24) (.k (.d (.int .i64 0))), none, [0]⟩,
           ⟨(some 23), .mv (.t 25), none, [1]⟩])
          (.cond (.t 23) (.seq (.region false [⟨(some 26), .mv (.t 0), none, []⟩,
             ⟨(some 27), .mv (.t 5), none, []⟩,
             ⟨(some 28), .call (.k (.d (.fn (N 85)))) [(.t 26), (.t 27), (.k (.d (.int .i64 4)))], none, [0, 1]⟩])
            (.seq (.region false [⟨(some 4), .mv (.k .nils), none, []⟩])
             .ret))
           (.seq (.region false [⟨(some 30), .mv (.t 6), none, []⟩,
             ⟨(some 31), .mv (.t 1), none, []⟩,
             ⟨(some 32), .mm true [(.t 31), (.k (.d (.int .i64 0)))], none, [1]⟩,
             ⟨(some 33), .bin .gtr (.t 30) (.t 32), none, [0, 2]⟩,
             ⟨(some 29), .mv (.t 33), none, [3]⟩])
            (.cond (.t 29) (.seq (.region false [⟨(some 34), .mv (.t 0), none, []⟩,
               ⟨(some 35), .mv (.t 5), none, []⟩,
               ⟨(some 36), .call (.k (.d (.fn (N 85)))) [(.t 34), (.t 35), (.k (.d (.int .i64 5)))], none, [0, 1]⟩])
              (.seq (.region false [⟨(some 4), .mv (.k .nils), none, []⟩])
               .ret))
             (.skip))))))))
      (.seq (.region false [⟨(some 37), .mv (.t 0), none, []⟩,
        ⟨(some 38), .mv (.t 6), none, []⟩,
        ⟨(some 39), .call (.k (.d (.fn (N 41)))) [(.t 37), (.t 38)], none, [0, 1]⟩,
        ⟨(some 7), .mv (.t 39), none, [2, 0, 1]⟩])
       (.seq (.seq (.region false [⟨(some 40), .mv (.t 0), none, []⟩,
          ⟨(some 41), .nilchk (.t 40), none, [0]⟩,
          ⟨(some 42), .faddr (.t 41) 2, none, [1]⟩,
          ⟨(some 43), .load (.t 42) 1 false, none, [2]⟩,
          ⟨(some 44), .bin .neq (.t 43) (.k (.d (.int .i64 0))), none, [3]⟩])
         (.cond (.t 44) (.region false [⟨(some 45), .mv (.t 0), none, []⟩,
           ⟨(some 46), .mv (.t 5), none, []⟩,
           ⟨(some 47), .mv (.t 0), none, []⟩,
           ⟨(some 48), .nilchk (.t 47), none, [2]⟩,
           ⟨(some 49), .faddr (.t 48) 2, none, [3]⟩,
           ⟨(some 50), .load (.t 49) 1 false, none, [4]⟩,
           ⟨(some 51), .call (.k (.d (.fn (N 85)))) [(.t 45), (.t 46), (.t 50)], none, [0, 1, 5]⟩])
          (.skip)))
        (.seq (.region false [⟨(some 52), .mv (.t 7), none, []⟩,
          ⟨(some 4), .mv (.t 52), none, [0]⟩])
         .ret)))))))) }
def HC31 (P : Program) (N : Nat → Nat) : Prop := HasF P (N 31) (C31 N) ∧ HC84 P N ∧ HC40 P N ∧ HC85 P N ∧ HC41 P N
def f31 (k : Nat) (a0 : (List UInt8)) (a1 : Int) (a2 : Int) (a3 : Int) : Option ((List UInt8) × Int × Int) := (f84 k a0 a1 a2).bind fun r10 => cond (!(decide (a2 = (0 : Int)))) (some (([] : List UInt8), a1, a2)) ((f40 k a0 a1 a2).bind fun r31 => cond (decide (r31.2.2 ≠ (0 : Int))) (some (([] : List UInt8), r31.2.1, r31.2.2)) (cond (decide (r31.1 < (0 : Int))) ((f85 k a0 r31.2.1 r31.2.2 a1 (4 : Int)).bind fun r62 => some (([] : List UInt8), a1, (4 : Int))) (cond (decide (r31.1 > (max a3 (0 : Int)))) ((f85 k a0 r31.2.1 r31.2.2 a1 (5 : Int)).bind fun r82 => some (([] : List UInt8), a1, (5 : Int))) ((f41 k a0 r31.2.1 r31.2.2 r31.1).bind fun r94 => cond (decide (r94.2.2 ≠ (0 : Int))) ((f85 k a0 r94.2.1 r94.2.2 a1 r94.2.2).bind fun r114 => some (r94.1, a1, r94.2.2)) (some (r94.1, r94.2.1, r94.2.2))))))
theorem F31 {P : Program} {N : Nat → Nat} (hmix : P.follows .mixedOrders = true) (hc : HC31 P N) {k : Nat} {a0 : (List UInt8)} {a1 : Int} {a2 : Int} {a3 : Int} {r : ((List UInt8) × Int × Int)} (h : f31 k a0 a1 a2 a3 = some r) :
    ACalls P (N 31) [(.ptr 0 0), (.d (.int .i64 a3))] [(0, (.cells [(.d (.sl (List.map byteD a0))), (.d (.int .i64 a1)), (.d (.int .i64 a2))]))] (.ap 1 1 (List.map byteD r.1)) [(1, (.tok ((List.map byteD r.1).length * 1))), (0, (.cells [(.d (.sl (List.map byteD a0))), (.d (.int .i64 r.2.1)), (.d (.int .i64 r.2.2))]))] := by
  refine acalls_canon (F := C31 N) hc.1 1 2 rfl ?_
  unfold f31 at h
  dsimp only [C31, startL]
  refine AWc.seq ?_
  refine AWc.rE hmix [] ?_
  refine AWc.seq ?_
  refine AWc.seq ?_
  obtain ⟨r10, e10, h⟩ := bind_some h
  refine AWc.rE hmix [.cq (F84 hmix hc.2.1 e10) [] 1] ?_
  rcases cc h with ⟨c12, h⟩ | ⟨c12, h⟩
  · refine AWc.cT c12 ?_
    refine AWc.seq ?_
    refine AWc.rE hmix [] ?_
    have hr := Option.some.inj h
    subst hr
    exact AWc.ret (canQ (N := 53) (k := 2) (l' := [(4, (.ap 1 1 (List.map byteD ([] : List UInt8))))]) (H' := [(1, (.tok ((List.map byteD ([] : List UInt8)).length * 1))), (0, (.cells [(.d (.sl (List.map byteD a0))), (.d (.int .i64 a1)), (.d (.int .i64 a2))]))]) rfl (inT [(1, 1)] [.tok 0]) (doneA (.inr rfl) rfl ⟨trivial, trivial⟩ (.refl _) (hasCons rfl (hasCons rfl hasNil))))
  · refine AWc.cF c12 ?_
    refine AWc.skip ?_
    refine AWc.seq ?_
    refine AWc.rE hmix [] ?_
    refine AWc.seq ?_
    obtain ⟨r31, e31, h⟩ := bind_some h
    refine AWc.rE hmix [.call (F40 hmix hc.2.2.1 e31) [] 1] ?_
    refine AWc.seq ?_
    refine AWc.block ?_
    refine AWc.seq ?_
    refine AWc.rE hmix [] ?_
    rcases cc h with ⟨c44, h⟩ | ⟨c44, h⟩
    · refine AWc.cT c44 ?_
      refine AWc.seq ?_
      refine AWc.rE hmix [] ?_
      have hr := Option.some.inj h
      subst hr
      exact AWc.ret (canQ (N := 53) (k := 2) (l' := [(4, (.ap 1 1 (List.map byteD ([] : List UInt8))))]) (H' := [(1, (.tok ((List.map byteD ([] : List UInt8)).length * 1))), (0, (.cells [(.d (.sl (List.map byteD a0))), (.d (.int .i64 r31.2.1)), (.d (.int .i64 r31.2.2))]))]) rfl (inT [(1, 1)] [.tok 0]) (doneA (.inr rfl) rfl ⟨trivial, trivial⟩ (.refl _) (hasCons rfl (hasCons rfl hasNil))))
    · refine AWc.cF c44 ?_
      refine AWc.seq ?_
      refine AWc.rE hmix [] ?_
      rcases cc h with ⟨c56, h⟩ | ⟨c56, h⟩
      · refine AWc.cT c56 ?_
        refine AWc.seq ?_
        obtain ⟨r62, e62, h⟩ := bind_some h
        refine AWc.rE hmix [.call (F85 hmix hc.2.2.2.1 e62) [] 1] ?_
        refine AWc.seq ?_
        refine AWc.rE hmix [] ?_
        have hr := Option.some.inj h
        subst hr
        exact AWc.ret (canQ (N := 53) (k := 2) (l' := [(4, (.ap 1 1 (List.map byteD ([] : List UInt8))))]) (H' := [(1, (.tok ((List.map byteD ([] : List UInt8)).length * 1))), (0, (.cells [(.d (.sl (List.map byteD a0))), (.d (.int .i64 a1)), (.d (.int .i64 (4 : Int)))]))]) rfl (inT [(1, 1)] [.tok 0]) (doneA (.inr rfl) rfl ⟨trivial, trivial⟩ (.refl _) (hasCons rfl (hasCons rfl hasNil))))
      · refine AWc.cF c56 ?_
        refine AWc.seq ?_
        refine AWc.rE hmix [] ?_
        rcases cc h with ⟨c76, h⟩ | ⟨c76, h⟩
        · refine AWc.cT c76 ?_
          refine AWc.seq ?_
          obtain ⟨r82, e82, h⟩ := bind_some h
          refine AWc.rE hmix [.call (F85 hmix hc.2.2.2.1 e82) [] 1] ?_
          refine AWc.seq ?_
          refine AWc.rE hmix [] ?_
          have hr := Option.some.inj h
          subst hr
          exact AWc.ret (canQ (N := 53) (k := 2) (l' := [(4, (.ap 1 1 (List.map byteD ([] : List UInt8))))]) (H' := [(1, (.tok ((List.map byteD ([] : List UInt8)).length * 1))), (0, (.cells [(.d (.sl (List.map byteD a0))), (.d (.int .i64 a1)), (.d (.int .i64 (5 : Int)))]))]) rfl (inT [(1, 1)] [.tok 0]) (doneA (.inr rfl) rfl ⟨trivial, trivial⟩ (.refl _) (hasCons rfl (hasCons rfl hasNil))))
        · refine AWc.cF c76 ?_
          refine AWc.skip ?_
          refine AWc.seq ?_
          obtain ⟨r94, e94, h⟩ := bind_some h
          refine AWc.rE hmix [.call (F41 hmix hc.2.2.2.2 e94) [] 2] ?_
          refine AWc.seq ?_
          refine AWc.seq ?_
          refine AWc.rE hmix [] ?_
          rcases cc h with ⟨c105, h⟩ | ⟨c105, h⟩
          · refine AWc.cT c105 ?_
            obtain ⟨r114, e114, h⟩ := bind_some h
            refine AWc.rE hmix [.call (F85 hmix hc.2.2.2.1 e114) [] 1] ?_
            refine AWc.seq ?_
            refine AWc.rE hmix [] ?_
            have hr := Option.some.inj h
            subst hr
            exact AWc.ret (canQ (N := 53) (k := 2) (l' := [(4, (.ap 1 1 (List.map byteD r94.1)))]) (H' := [(1, (.tok ((List.map byteD r94.1).length * 1))), (0, (.cells [(.d (.sl (List.map byteD a0))), (.d (.int .i64 a1)), (.d (.int .i64 r94.2.2))]))]) rfl (inT [] []) (doneA (.inr rfl) rfl ⟨trivial, trivial⟩ (.refl _) (hasCons rfl (hasCons rfl hasNil))))
          · refine AWc.cF c105 ?_
            refine AWc.skip ?_
            refine AWc.seq ?_
            refine AWc.rE hmix [] ?_
            have hr := Option.some.inj h
            subst hr
            exact AWc.ret (canQ (N := 53) (k := 2) (l' := [(4, (.ap 1 1 (List.map byteD r94.1)))]) (H' := [(1, (.tok ((List.map byteD r94.1).length * 1))), (0, (.cells [(.d (.sl (List.map byteD a0))), (.d (.int .i64 r94.2.1)), (.d (.int .i64 r94.2.2))]))]) rfl (inT [] []) (doneA (.inr rfl) rfl ⟨trivial, trivial⟩ (.refl _) (hasCons rfl (hasCons rfl hasNil))))
/-- (*courant/codec.taker).text -/
def C456 (N : Nat → Nat) : AFunc := { n := 32, params := 2, res := [.tmp 4, .tmp 5], body :=
 (.seq (.region false [⟨(some 4), .mv (.k .nils), none, []⟩,
   ⟨(some 5), .mv (.k (.d (.int .i64 0))), none, [0]⟩])
  (.seq (.region false [⟨(some 7), .mv (.t 0), none, []⟩,
    ⟨(some 8), .nilchk (.t 7), none, [0]⟩,
    ⟨(some 9), .faddr (.t 8) 1, none, [1]⟩,
    ⟨(some 10), .load (.t 9) 1 false, none, [2]⟩,
    ⟨(some 11), .call (.k (.d (.fn (N 31)))) [(.t 10), (.k (.d (.int .i64 4096)))], none, [3]⟩,
    ⟨(some 6), .mv (.t 11), none, [4, 0, 1, 2, 3]⟩])
   (.seq (.block 0 (.seq (.region false [⟨(some 13), .mv (.t 0), none, []⟩,
       ⟨(some 14), .nilchk (.t 13), none, [0]⟩,
       ⟨(some 15), .faddr (.t 14) 1, none, [1]⟩,
       ⟨(some 16), .load (.t 15) 1 false, none, [2]⟩,
       ⟨(some 17), .call (.k (.d (.fn (N 42)))) [(.t 16)], none, [3]⟩,
       ⟨(some 18), .bin .neq (.t 17) (.k (.d (.int .i64 0))), none, [4]⟩,
       ⟨(some 12), .mv (.t 18), none, [5, 4]⟩])
      (.cond (.t 12) (.seq (.region false [⟨(some 19), .mv (.t 0), none, []⟩,
         ⟨(some 20), .nilchk (.t 19), none, [0]⟩,
         ⟨(some 21), .faddr (.t 20) 1, none, [1]⟩,
         ⟨(some 22), .load (.t 21) 1 false, none, [2]⟩,
         ⟨(some 23), .call (.k (.d (.fn (N 42)))) [(.t 22)], none, [3]⟩,
         ⟨(some 4), .mv (.k .nils), none, [4]⟩,
         ⟨(some 5), .mv (.t 23), none, [4, 5, 0, 1, 2, 3]⟩])
        .ret)
       (.seq (.region false [⟨(some 25), .mv (.t 1), none, []⟩,
         ⟨(some 26), .mv (.t 25), none, [0]⟩,
         ⟨(some 27), .mv (.t 6), (some (26, true)), [1]⟩,
         ⟨(some 28), .call (.k (.d (.fn (N 457)))) [(.t 27)], (some (26, true)), [2, 1]⟩,
         ⟨(some 29), .un .not (.t 28), (some (26, true)), [3, 1]⟩,
         ⟨(some 30), .pick (.t 26) (.t 29) (.k (.d (.bool false))), none, [1, 4]⟩,
         ⟨(some 24), .mv (.t 30), none, [5, 3]⟩])
        (.cond (.t 24) (.seq (.region false [⟨(some 4), .mv (.k .nils), none, []⟩,
           ⟨(some 5), .mv (.k (.d (.int .i64 4))), none, [0]⟩])
          .ret)
         (.skip))))))
    (.seq (.region false [⟨(some 31), .mv (.t 6), none, []⟩,
      ⟨(some 4), .mv (.t 31), none, [0]⟩,
      ⟨(some 5), .mv (.k (.d (.int .i64 0))), none, [1, 0]⟩])
     .ret)))) }
def HC456 (P : Program) (N : Nat → Nat) : Prop := HasF P (N 456) (C456 N) ∧ HC31 P N ∧ HC42 P N
def f456 (k : Nat) (a0 : (List TNode)) (a1 : (List UInt8)) (a2 : Int) (a3 : Int) (a4 : Int) (a5 : Bool) : Option ((List UInt8) × Int × Int × Int) := (f31 k a1 a2 a3 (4096 : Int)).bind fun r13 => (f42 k a1 r13.2.1 r13.2.2).bind fun r24 => cond (decide (r13.2.2 ≠ (0 : Int))) ((f42 k a1 r13.2.1 r13.2.2).bind fun r35 => some (([] : List UInt8), r13.2.2, r13.2.1, r13.2.2)) (cond a5 (none) (some (r13.1, (0 : Int), r13.2.1, r13.2.2)))
theorem F456 {P : Program} {N : Nat → Nat} (hmix : P.follows .mixedOrders = true) (hc : HC456 P N) {k : Nat} {a0 : (List TNode)} {a1 : (List UInt8)} {a2 : Int} {a3 : Int} {a4 : Int} {a5 : Bool} {r : ((List UInt8) × Int × Int × Int)} (h : f456 k a0 a1 a2 a3 a4 a5 = some r) :
    ACalls P (N 456) [(.ptr 0 0), (.d (.bool a5))] [(0, (.cells [(.d (.sl (List.map TNode.enc a0))), (.ptr 1 0), (.d (.int .i64 a4))])), (1, (.cells [(.d (.sl (List.map byteD a1))), (.d (.int .i64 a2)), (.d (.int .i64 a3))]))] (.tup [(.ap 2 1 (List.map byteD r.1)), (.d (.int .i64 r.2.1))]) [(2, (.tok ((List.map byteD r.1).length * 1))), (0, (.cells [(.d (.sl (List.map TNode.enc a0))), (.ptr 1 0), (.d (.int .i64 a4))])), (1, (.cells [(.d (.sl (List.map byteD a1))), (.d (.int .i64 r.2.2.1)), (.d (.int .i64 r.2.2.2))]))] := by
  refine acalls_canon (F := C456 N) hc.1 2 3 rfl ?_
  unfold f456 at h
  dsimp only [C456, startL]
  refine AWc.seq ?_
  refine AWc.rE hmix [] ?_
  refine AWc.seq ?_
  obtain ⟨r13, e13, h⟩ := bind_some h
  refine AWc.rE hmix [.call (F31 hmix hc.2.1 e13) [(0, 1), (1, 2)] 2] ?_
  refine AWc.seq ?_
  refine AWc.block ?_
  refine AWc.seq ?_
  obtain ⟨r24, e24, h⟩ := bind_some h
  refine AWc.rE hmix [.cq (F42 hmix hc.2.2 e24) [(0, 1)] 1] ?_
  rcases cc h with ⟨c27, h⟩ | ⟨c27, h⟩
  · refine AWc.cT c27 ?_
    refine AWc.seq ?_
    obtain ⟨r35, e35, h⟩ := bind_some h
    refine AWc.rE hmix [.cq (F42 hmix hc.2.2 e35) [(0, 1)] 1] ?_
    have hr := Option.some.inj h
    subst hr
    exact AWc.ret (canQ (N := 32) (k := 3) (l' := [(4, (.ap 2 1 (List.map byteD ([] : List UInt8)))), (5, (.d (.int .i64 r13.2.2)))]) (H' := [(2, (.tok ((List.map byteD ([] : List UInt8)).length * 1))), (0, (.cells [(.d (.sl (List.map TNode.enc a0))), (.ptr 1 0), (.d (.int .i64 a4))])), (1, (.cells [(.d (.sl (List.map byteD a1))), (.d (.int .i64 r13.2.1)), (.d (.int .i64 r13.2.2))]))]) rfl (inT [(2, 3)] [.tok 0]) (doneA (.inr rfl) rfl ⟨trivial, ⟨trivial, trivial⟩⟩ (.refl _) (hasCons rfl (hasCons rfl (hasCons rfl hasNil)))))
  · refine AWc.cF c27 ?_
    refine AWc.seq ?_
    rcases cc h with ⟨c43, h⟩ | ⟨c43, h⟩
    · cases h
    · refine AWc.rE hmix [.br c43] ?_
      refine AWc.cF rfl ?_
      refine AWc.skip ?_
      refine AWc.seq ?_
      refine AWc.rE hmix [] ?_
      have hr := Option.some.inj h
      subst hr
      exact AWc.ret (canQ (N := 32) (k := 3) (l' := [(4, (.ap 2 1 (List.map byteD r13.1))), (5, (.d (.int .i64 (0 : Int))))]) (H' := [(2, (.tok ((List.map byteD r13.1).length * 1))), (0, (.cells [(.d (.sl (List.map TNode.enc a0))), (.ptr 1 0), (.d (.int .i64 a4))])), (1, (.cells [(.d (.sl (List.map byteD a1))), (.d (.int .i64 r13.2.1)), (.d (.int .i64 r13.2.2))]))]) rfl (inT [] []) (doneA (.inr rfl) rfl ⟨trivial, ⟨trivial, trivial⟩⟩ (.refl _) (hasCons rfl (hasCons rfl (hasCons rfl hasNil)))))
/-- slices.Index[[]string,string] -/
def C240 (N : Nat → Nat) : AFunc := { n := 19, params := 2, res := [.tmp 4], body :=
 (.seq (.region false [⟨(some 4), .mv (.k (.d (.int .i64 0))), none, []⟩])
  (.seq (.seq (.region false [⟨(some 6), .mv (.t 0), none, []⟩,
     ⟨(some 7), .len (.t 6), none, [0]⟩,
     ⟨(some 8), .mv (.k (.d (.int .i64 0))), none, []⟩])
    (.block 0 (.loop (.seq (.region false [⟨(some 9), .bin .lss (.t 8) (.t 7), none, []⟩])
       (.seq (.cond (.t 9) (.skip)
         (.exit 0))
        (.seq (.block 1 (.seq (.region false [⟨(some 10), .mv (.t 8), none, []⟩,
            ⟨(some 5), .mv (.t 10), none, [0]⟩])
           (.seq (.region false [⟨(some 11), .mv (.t 1), none, []⟩,
             ⟨(some 12), .mv (.t 0), none, []⟩,
             ⟨(some 13), .mv (.t 5), none, []⟩,
             ⟨(some 14), .iaddr (.t 12) (.t 13) 1, none, [1, 2]⟩,
             ⟨(some 15), .load (.t 14) 1 false, none, [3]⟩,
             ⟨(some 16), .bin .eql (.t 11) (.t 15), none, [0, 4]⟩])
            (.cond (.t 16) (.seq (.region false [⟨(some 17), .mv (.t 5), none, []⟩,
               ⟨(some 4), .mv (.t 17), none, [0]⟩])
              .ret)
             (.skip)))))
         (.region false [⟨(some 18), .bin .add (.t 8) (.k (.d (.int .i64 1))), none, []⟩,
          ⟨(some 8), .mv (.t 18), none, [0]⟩])))))))
   (.seq (.region false [⟨(some 4), .mv (.k (.d (.int .i64 (-1)))), none, []⟩])
    .ret))) }
def HC240 (P : Program) (N : Nat → Nat) : Prop := HasF P (N 240) (C240 N)
def f240_l12 (a0 : (List (List UInt8))) (a1 : (List UInt8)) : Nat → Int → Option (LR2 Unit Unit Int)
  | 0, _ => none
  | k + 1, y12_1 => cond (decide (y12_1 < ((a0.length : Nat) : Int))) (gd (0 ≤ y12_1 ∧ y12_1 < ((a0.length : Nat) : Int)) (cond (decide (a1 = (rd a0 y12_1))) (some (.r y12_1)) (f240_l12 a0 a1 k (IntKind.i64.wrap (y12_1 + (1 : Int)))))) (some (.b0 ()))
def f240 (k : Nat) (a0 : (List (List UInt8))) (a1 : (List UInt8)) : Option Int := (f240_l12 a0 a1 k (0 : Int)).bind fun o12 => (match o12 with | .b0 () => some (-1 : Int) | .r x => some x | _ => none)
theorem F240 {P : Program} {N : Nat → Nat} (hmix : P.follows .mixedOrders = true) (hc : HC240 P N) {k : Nat} {a0 : (List (List UInt8))} {a1 : (List UInt8)} {r : Int} (h : f240 k a0 a1 = some r) :
    ACalls P (N 240) [(.d (.sl (List.map D.str a0))), (.d (.str a1))] [] (.d (.int .i64 r)) [] := by
  refine acalls_canon (F := C240 N) hc 0 0 rfl ?_
  unfold f240 at h
  dsimp only [C240, startL]
  refine AWc.seq ?_
  refine AWc.rE hmix [] ?_
  refine AWc.seq ?_
  refine AWc.seq ?_
  refine AWc.rE hmix [.ln D.str a0] ?_
  obtain ⟨o12, h12, h⟩ := bind_some h
  refine AWc.block ?_
  refine AWc.loopK (N := 19) 0 (fun (x : Int) => [(0, (.d (.sl (List.map D.str a0)))), (1, (.d (.str a1))), (7, (.d (.int .i64 ((a0.length : Nat) : Int)))), (8, (.d (.int .i64 x)))]) (fun x => []) (fun k x => f240_l12 a0 a1 k x = some o12) k (0 : Int) rfl_le (fun x hx => by cases hx) h12 (inT [] []) ?_
  clear h12
  intro k
  intro y12_1 h12
  rw [f240_l12] at h12
  refine AWc.seq ?_
  refine AWc.rE hmix [] ?_
  refine AWc.seq ?_
  rcases cc h12 with ⟨c19, h12⟩ | ⟨c19, h12⟩
  · refine AWc.cT c19 ?_
    refine AWc.skip ?_
    refine AWc.seq ?_
    refine AWc.block ?_
    refine AWc.seq ?_
    refine AWc.rE hmix [] ?_
    refine AWc.seq ?_
    obtain ⟨b35, h12⟩ := gd_some h12
    refine AWc.rE hmix [.iad D.str a0 1 (fun _ => rfl) b35] ?_
    rcases cc h12 with ⟨c38, h12⟩ | ⟨c38, h12⟩
    · refine AWc.cT c38 ?_
      refine AWc.seq ?_
      refine AWc.rE hmix [] ?_
      cases h12
      dsimp only at h
      have hr := Option.some.inj h
      subst hr
      exact AWc.ret (canQ (N := 19) (k := 0) (l' := [(4, (.d (.int .i64 y12_1)))]) (H' := []) rfl (inT [] []) (doneA (.inr rfl) rfl ⟨trivial, trivial⟩ (.refl _) hasNil))
    · refine AWc.cF c38 ?_
      refine AWc.skip ?_
      refine AWc.rE hmix [] ?_
      exact ⟨(IntKind.i64.wrap (y12_1 + (1 : Int))), h12, (inT [] [])⟩
  · refine AWc.cF c19 ?_
    cases h12
    dsimp only at h
    refine AWc.exit ?_
    refine inBlk_eq ?_
    refine AWc.seq ?_
    refine AWc.rE hmix [] ?_
    have hr := Option.some.inj h
    subst hr
    exact AWc.ret (canQ (N := 19) (k := 0) (l' := [(4, (.d (.int .i64 (-1 : Int))))]) (H' := []) rfl (inT [] []) (doneA (.inr rfl) rfl ⟨trivial, trivial⟩ (.refl _) hasNil))
/-- slices.Contains[[]string,string] -/
def C239 (N : Nat → Nat) : AFunc := { n := 9, params := 2, res := [.tmp 4], body :=
 (.seq (.region false [⟨(some 4), .mv (.k (.d (.bool false))), none, []⟩])
  (.seq (.region false [⟨(some 5), .mv (.t 0), none, []⟩,
    ⟨(some 6), .mv (.t 1), none, []⟩,
    ⟨(some 7), .call (.k (.d (.fn (N 240)))) [(.t 5), (.t 6)], none, [0, 1]⟩,
    ⟨(some 8), .bin .geq (.t 7) (.k (.d (.int .i64 0))), none, [2]⟩,
    ⟨(some 4), .mv (.t 8), none, [3, 2, 0, 1]⟩])
   .ret)) }
def HC239 (P : Program) (N : Nat → Nat) : Prop := HasF P (N 239) (C239 N) ∧ HC240 P N
def f239 (k : Nat) (a0 : (List (List UInt8))) (a1 : (List UInt8)) : Option Bool := (f240 k a0 a1).bind fun r10 => some (decide (r10 ≥ (0 : Int)))
theorem F239 {P : Program} {N : Nat → Nat} (hmix : P.follows .mixedOrders = true) (hc : HC239 P N) {k : Nat} {a0 : (List (List UInt8))} {a1 : (List UInt8)} {r : Bool} (h : f239 k a0 a1 = some r) :
    ACalls P (N 239) [(.d (.sl (List.map D.str a0))), (.d (.str a1))] [] (.d (.bool r)) [] := by
  refine acalls_canon (F := C239 N) hc.1 0 0 rfl ?_
  unfold f239 at h
  dsimp only [C239, startL]
  refine AWc.seq ?_
  refine AWc.rE hmix [] ?_
  refine AWc.seq ?_
  obtain ⟨r10, e10, h⟩ := bind_some h
  refine AWc.rE hmix [.call (F240 hmix hc.2 e10) [] 0] ?_
  have hr := Option.some.inj h
  subst hr
  exact AWc.ret (canQ (N := 9) (k := 0) (l' := [(4, (.d (.bool (decide (r10 ≥ (0 : Int))))))]) (H' := []) rfl (inT [] []) (doneA (.inr rfl) rfl ⟨trivial, trivial⟩ (.refl _) hasNil))
/-- (*courant/codec.taker).item -/
def C455 (N : Nat → Nat) : AFunc := { n := 67, params := 4, res := [.tmp 8], body :=
 (.seq (.region false [⟨(some 5), .box (.t 1), none, []⟩,
   ⟨(some 8), .mv (.k (.d (.int .i64 0))), none, []⟩])
  (.seq (.region false [⟨(some 9), .mv (.k .nils), none, []⟩])
   (.seq (.seq (.region false [⟨(some 13), .faddr (.t 5) 0, none, []⟩,
      ⟨(some 14), .load (.t 13) 1 false, none, [0]⟩,
      ⟨(some 15), .bin .eql (.t 14) (.k (.d (.int .i64 12))), none, [1]⟩])
     (.cond (.t 15) (.seq (.region false [⟨(some 10), .mv (.k (.d (.int .i64 0))), none, []⟩])
       (.seq (.region false [⟨(some 17), .mv (.t 0), none, []⟩,
         ⟨(some 18), .call (.k (.d (.fn (N 456)))) [(.t 17), (.k (.d (.bool true)))], none, [0]⟩,
         ⟨(some 16), .mv (.t 18), none, [1]⟩,
         ⟨(some 19), .ext (.t 16) 0, none, [2]⟩,
         ⟨(some 20), .ext (.t 16) 1, none, [2]⟩,
         ⟨(some 9), .mv (.t 19), none, [3, 1, 0, 2]⟩,
         ⟨(some 10), .mv (.t 20), none, [4, 5, 0, 1, 2, 3]⟩])
        (.seq (.region false [⟨(some 21), .mv (.t 10), none, []⟩,
          ⟨(some 22), .bin .neq (.t 21) (.k (.d (.int .i64 0))), none, [0]⟩])
         (.cond (.t 22) (.seq (.region false [⟨(some 23), .mv (.t 10), none, []⟩,
            ⟨(some 8), .mv (.t 23), none, [0]⟩])
           .ret)
          (.skip)))))
      (.skip)))
    (.seq (.region false [⟨(some 25), .mv (.t 0), none, []⟩,
      ⟨(some 26), .faddr (.t 5) 7, none, []⟩,
      ⟨(some 27), .load (.t 26) 1 false, none, [1]⟩,
      ⟨(some 28), .mv (.t 3), none, []⟩,
      ⟨(some 29), .call (.k (.d (.fn (N 451)))) [(.t 25), (.t 27), (.t 28)], none, [0, 2, 3]⟩,
      ⟨(some 24), .mv (.t 29), none, [4]⟩,
      ⟨(some 30), .ext (.t 24) 0, none, [5]⟩,
      ⟨(some 31), .ext (.t 24) 1, none, [5]⟩,
      ⟨(some 11), .alloc [(.int .i64 0), (.int .i64 0), (.sl []), (.sl []), (.sl [])], none, []⟩,
      ⟨none, .store (.t 11) (.t 30) 5, none, [8, 6, 4, 0, 1, 2, 3, 5]⟩,
      ⟨(some 12), .mv (.t 31), none, [7, 9, 0, 1, 2, 3, 4, 5, 6, 8]⟩])
     (.seq (.seq (.region false [⟨(some 32), .mv (.t 12), none, []⟩,
        ⟨(some 33), .bin .neq (.t 32) (.k (.d (.int .i64 0))), none, [0]⟩])
       (.cond (.t 33) (.seq (.region false [⟨(some 34), .mv (.t 12), none, []⟩,
          ⟨(some 8), .mv (.t 34), none, [0]⟩])
         .ret)
        (.skip)))
      (.seq (.seq (.region false [⟨(some 35), .faddr (.t 5) 0, none, []⟩,
         ⟨(some 36), .load (.t 35) 1 false, none, [0]⟩,
         ⟨(some 37), .bin .eql (.t 36) (.k (.d (.int .i64 12))), none, [1]⟩])
        (.cond (.t 37) (.seq (.seq (.region true [⟨(some 38), .mv (.t 2), none, []⟩,
            ⟨(some 39), .nilchk (.t 38), none, [0]⟩,
            ⟨(some 40), .faddr (.t 39) 4, none, [1]⟩,
            ⟨(some 41), .load (.t 40) 1 false, none, [2]⟩,
            ⟨(some 42), .mv (.t 9), none, []⟩,
            ⟨(some 43), .bs2s (.t 42), none, [4]⟩,
            ⟨(some 44), .call (.k (.d (.fn (N 239)))) [(.t 41), (.t 43)], none, [3, 5]⟩])
           (.cond (.t 44) (.seq (.region false [⟨(some 8), .mv (.k (.d (.int .i64 4))), none, []⟩])
             .ret)
            (.skip)))
          (.region true [⟨(some 45), .mv (.t 2), none, []⟩,
           ⟨(some 46), .mv (.t 2), none, []⟩,
           ⟨(some 47), .nilchk (.t 46), none, [1]⟩,
           ⟨(some 48), .faddr (.t 47) 4, none, [2]⟩,
           ⟨(some 49), .load (.t 48) 1 false, none, [3]⟩,
           ⟨(some 50), .mv (.t 9), none, []⟩,
           ⟨(some 51), .bs2s (.t 50), none, [5]⟩,
           ⟨(some 52), .bslice 1 1 [(.str [])] [(0, (.t 51))], none, [6]⟩,
           ⟨(some 53), .app (.t 49) (.t 52) 1 16 [(.str [])], none, [4, 7]⟩,
           ⟨(some 54), .nilchk (.t 45), none, [0, 1, 2, 3, 4, 5, 6, 7, 8]⟩,
           ⟨(some 55), .faddr (.t 54) 4, none, [9, 0, 1, 2, 3, 4, 5, 6, 7, 8]⟩,
           ⟨none, .store (.t 55) (.t 53) 1, none, [10, 8, 0, 1, 2, 3, 4, 5, 6, 7]⟩]))
         (.skip)))
       (.seq (.region true [⟨(some 56), .mv (.t 2), none, []⟩,
         ⟨(some 57), .nilchk (.t 56), none, [0]⟩,
         ⟨(some 58), .faddr (.t 57) 3, none, [1]⟩,
         ⟨(some 59), .load (.t 58) 1 false, none, [2]⟩,
         ⟨(some 60), .load (.t 11) 5 true, none, []⟩,
         ⟨(some 61), .len (.t 59), none, [3]⟩,
         ⟨(some 62), .bslice 1 5 [(.int .i64 0), (.int .i64 0), (.sl []), (.sl []), (.sl [])] [(0, (.k (.d (.agg [(.int .i64 0), (.int .i64 0), (.sl []), (.sl []), (.sl [])]))))], none, []⟩,
         ⟨(some 63), .app (.t 59) (.t 62) 5 88 [(.int .i64 0), (.int .i64 0), (.sl []), (.sl []), (.sl [])], none, [3, 6, 0, 1, 2, 4, 5]⟩,
         ⟨(some 64), .iaddr (.t 63) (.t 61) 5, none, [7, 5, 0, 1, 2, 3, 4, 6]⟩,
         ⟨none, .store (.t 64) (.t 60) 5, none, [8, 4, 7, 0, 1, 2, 3, 5, 6]⟩,
         ⟨(some 65), .nilchk (.t 56), none, [0, 1, 2, 3, 4, 5, 6, 7]⟩,
         ⟨(some 66), .faddr (.t 65) 3, none, [10, 0, 1, 2, 3, 4, 5, 6, 7]⟩,
         ⟨none, .store (.t 66) (.t 63) 1, none, [11, 7, 0, 1, 2, 3, 4, 5, 6]⟩])
        (.seq (.region false [⟨(some 8), .mv (.k (.d (.int .i64 0))), none, []⟩])
         .ret)))))))) }
def HC455 (P : Program) (N : Nat → Nat) : Prop := HasF P (N 455) (C455 N) ∧ HC456 P N ∧ HC239 P N
def f455_j115 (k : Nat) (r53 : (Int × Int × Int × (List UInt8) × (List (RT 5)) × (List (List UInt8)) × Int × Int × Int)) (j115_1 : (List (List UInt8))) : Option (Int × Int × Int × Int × (List (RT 5)) × (List (List UInt8))) := gd ((([] : List (RT 5)).length + 1) * 2 * 88 ≤ 281474976710656) (some ((0 : Int), r53.2.2.2.2.2.2.1, r53.2.2.2.2.2.2.2.1, r53.2.2.2.2.2.2.2.2, (([] : List (RT 5)) ++ [(RT.of TValue.ok (TValue.mk r53.2.1 r53.2.2.1 r53.2.2.2.1 r53.2.2.2.2.1 r53.2.2.2.2.2.1))]), j115_1))
def f455_j46 (k : Nat) (rc451 : (List TNode) → (List UInt8) → Int → Int → Int → Int → Int → Option (Int × Int × Int × (List UInt8) × (List (RT 5)) × (List (List UInt8)) × Int × Int × Int)) (a0 : (List TNode)) (a1 : (List UInt8)) (a4 : Int) (a5 : TNode) (a8 : Int) (j46_1 : (List UInt8)) (j46_2 : Int) (j46_3 : Int) : Option (Int × Int × Int × Int × (List (RT 5)) × (List (List UInt8))) := (rc451 a0 a1 j46_2 j46_3 a4 a5.fItems a8).bind fun r53 => cond (decide (r53.1 ≠ (0 : Int))) (some (r53.1, r53.2.2.2.2.2.2.1, r53.2.2.2.2.2.2.2.1, r53.2.2.2.2.2.2.2.2, ([] : List (RT 5)), ([] : List (List UInt8)))) (cond (decide (a5.fKind = (12 : Int))) ((f239 k ([] : List (List UInt8)) j46_1).bind fun r92 => cond r92 (some ((4 : Int), r53.2.2.2.2.2.2.1, r53.2.2.2.2.2.2.2.1, r53.2.2.2.2.2.2.2.2, ([] : List (RT 5)), ([] : List (List UInt8)))) (gd (([j46_1] : List (List UInt8)).length * 16 ≤ 281474976710656) (f455_j115 k r53 ([j46_1] : List (List UInt8))))) (f455_j115 k r53 ([] : List (List UInt8))))
def f455 (rc451 : (List TNode) → (List UInt8) → Int → Int → Int → Int → Int → Option (Int × Int × Int × (List UInt8) × (List (RT 5)) × (List (List UInt8)) × Int × Int × Int)) (k : Nat) (a0 : (List TNode)) (a1 : (List UInt8)) (a2 : Int) (a3 : Int) (a4 : Int) (a5 : TNode) (a6 : Int) (a7 : Int) (a8 : Int) : Option (Int × Int × Int × Int × (List (RT 5)) × (List (List UInt8))) := cond (decide (a5.fKind = (12 : Int))) ((f456 k a0 a1 a2 a3 a4 true).bind fun r26 => cond (decide (r26.2.1 ≠ (0 : Int))) (some (r26.2.1, a4, r26.2.2.1, r26.2.2.2, ([] : List (RT 5)), ([] : List (List UInt8)))) (f455_j46 k rc451 a0 a1 a4 a5 a8 r26.1 r26.2.2.1 r26.2.2.2)) (f455_j46 k rc451 a0 a1 a4 a5 a8 ([] : List UInt8) a2 a3)
theorem F455 {P : Program} {N : Nat → Nat} (hmix : P.follows .mixedOrders = true) (hc : HC455 P N) {rc451 : (List TNode) → (List UInt8) → Int → Int → Int → Int → Int → Option (Int × Int × Int × (List UInt8) × (List (RT 5)) × (List (List UInt8)) × Int × Int × Int)} (hrc451 : RH451 P N rc451) {k : Nat} {a0 : (List TNode)} {a1 : (List UInt8)} {a2 : Int} {a3 : Int} {a4 : Int} {a5 : TNode} {a6 : Int} {a7 : Int} {a8 : Int} {r : (Int × Int × Int × Int × (List (RT 5)) × (List (List UInt8)))} (h : f455 rc451 k a0 a1 a2 a3 a4 a5 a6 a7 a8 = some r) :
    ACalls P (N 455) [(.ptr 0 0), (.d (TNode.enc a5)), (.ptr 2 0), (.d (.int .i64 a8))] [(0, (.cells [(.d (.sl (List.map TNode.enc a0))), (.ptr 1 0), (.d (.int .i64 a4))])), (1, (.cells [(.d (.sl (List.map byteD a1))), (.d (.int .i64 a2)), (.d (.int .i64 a3))])), (2, (.cells [(.d (.int .i64 a6)), (.d (.int .i64 a7)), .nils, .nils, .nils]))] (.d (.int .i64 r.1)) [(0, (.cells [(.d (.sl (List.map TNode.enc a0))), (.ptr 1 0), (.d (.int .i64 r.2.1))])), (1, (.cells [(.d (.sl (List.map byteD a1))), (.d (.int .i64 r.2.2.1)), (.d (.int .i64 r.2.2.2.1))])), (2, (.cells [(.d (.int .i64 a6)), (.d (.int .i64 a7)), .nils, (.ap 3 5 (List.map (rtE (z := 5)) r.2.2.2.2.1)), (.ap 4 1 (List.map D.str r.2.2.2.2.2))])), (3, (.tok ((List.map (rtE (z := 5)) r.2.2.2.2.1).length * 5))), (4, (.tok ((List.map D.str r.2.2.2.2.2).length * 1)))] := by
  refine acalls_canon (F := C455 N) hc.1 3 5 rfl ?_
  unfold f455 at h
  dsimp only [C455, startL]
  refine AWc.seq ?_
  refine AWc.rE hmix [] ?_
  refine AWc.seq ?_
  refine AWc.rE hmix [] ?_
  refine AWc.seqS (N := 67) 5 (fun (z : ((List UInt8) × Int × Int)) => [(0, (.ptr 0 0)), (2, (.ptr 2 0)), (3, (.d (.int .i64 a8))), (5, (.ptr 3 0)), (9, (.ap 4 1 (List.map byteD z.1)))]) (fun z => [(0, (.cells [(.d (.sl (List.map TNode.enc a0))), (.ptr 1 0), (.d (.int .i64 a4))])), (2, (.cells [(.d (.int .i64 a6)), (.d (.int .i64 a7)), .nils, .nils, .nils])), (3, (.cells [(.d (.int .i64 a5.fKind)), (.d (.str a5.fName)), (.d (.sl (List.map D.str a5.fAliases))), (.d (.sl (List.map TField.enc a5.fFields))), (.d (.sl (List.map D.str a5.fSymbols))), (.d (.bool a5.fHas)), (.d (.str a5.fDefault)), (.d (.int .i64 a5.fItems)), (.d (.sl (List.map (D.int .i64) a5.fBranches))), (.d (.int .i64 a5.fSize))])), (4, (.tok ((List.map byteD z.1).length * 1))), (1, (.cells [(.d (.sl (List.map byteD a1))), (.d (.int .i64 z.2.1)), (.d (.int .i64 z.2.2))]))]) (fun z => f455_j46 k rc451 a0 a1 a4 a5 a8 z.1 z.2.1 z.2.2 = some r) rfl_le ?_ ?_
  · refine AWc.seq ?_
    refine AWc.rE hmix [] ?_
    rcases cc h with ⟨c17, h⟩ | ⟨c17, h⟩
    · refine AWc.cT c17 ?_
      refine AWc.seq ?_
      refine AWc.rE hmix [] ?_
      refine AWc.seq ?_
      obtain ⟨r26, e26, h⟩ := bind_some h
      refine AWc.rE hmix [.call (F456 hmix hc.2.1 e26) [(2, 4)] 3] ?_
      refine AWc.seq ?_
      refine AWc.rE hmix [] ?_
      rcases cc h with ⟨c37, h⟩ | ⟨c37, h⟩
      · refine AWc.cT c37 ?_
        refine AWc.seq ?_
        refine AWc.rE hmix [] ?_
        have hr := Option.some.inj h
        subst hr
        exact AWc.ret (canQ (N := 67) (k := 5) (l' := [(8, (.d (.int .i64 r26.2.1)))]) (H' := [(0, (.cells [(.d (.sl (List.map TNode.enc a0))), (.ptr 1 0), (.d (.int .i64 a4))])), (1, (.cells [(.d (.sl (List.map byteD a1))), (.d (.int .i64 r26.2.2.1)), (.d (.int .i64 r26.2.2.2))])), (2, (.cells [(.d (.int .i64 a6)), (.d (.int .i64 a7)), .nils, (.ap 3 5 (List.map (rtE (z := 5)) ([] : List (RT 5)))), (.ap 4 1 (List.map D.str ([] : List (List UInt8))))])), (3, (.tok ((List.map (rtE (z := 5)) ([] : List (RT 5))).length * 5))), (4, (.tok ((List.map D.str ([] : List (List UInt8))).length * 1)))]) rfl (inT [(3, 5), (4, 6)] [.tok 0, .tok 0]) (doneA (.inr rfl) rfl ⟨trivial, trivial⟩ (.refl _) (hasCons rfl (hasCons rfl (hasCons rfl (hasCons rfl (hasCons rfl hasNil)))))))
      · refine AWc.cF c37 ?_
        refine AWc.skip ?_
        exact ⟨(r26.1, r26.2.2.1, r26.2.2.2), h, (inT [] [])⟩
    · refine AWc.cF c17 ?_
      refine AWc.skip ?_
      exact ⟨(([] : List UInt8), a2, a3), h, (inT [(4, 4)] [.tok 0])⟩
  · rintro ⟨j46_1, j46_2, j46_3⟩ h
    dsimp only at h ⊢
    unfold f455_j46 at h
    refine AWc.seq ?_
    obtain ⟨r53, e53, h⟩ := bind_some h
    refine AWc.rE hmix [.call (hrc451 _ _ _ _ _ _ _ _ e53) [] 2] ?_
    refine AWc.seq ?_
    refine AWc.seq ?_
    refine AWc.rE hmix [] ?_
    rcases cc h with ⟨c66, h⟩ | ⟨c66, h⟩
    · refine AWc.cT c66 ?_
      refine AWc.seq ?_
      refine AWc.rE hmix [] ?_
      have hr := Option.some.inj h
      subst hr
      exact AWc.ret (canQ (N := 67) (k := 5) (l' := [(8, (.d (.int .i64 r53.1)))]) (H' := [(0, (.cells [(.d (.sl (List.map TNode.enc a0))), (.ptr 1 0), (.d (.int .i64 r53.2.2.2.2.2.2.1))])), (1, (.cells [(.d (.sl (List.map byteD a1))), (.d (.int .i64 r53.2.2.2.2.2.2.2.1)), (.d (.int .i64 r53.2.2.2.2.2.2.2.2))])), (2, (.cells [(.d (.int .i64 a6)), (.d (.int .i64 a7)), .nils, (.ap 3 5 (List.map (rtE (z := 5)) ([] : List (RT 5)))), (.ap 4 1 (List.map D.str ([] : List (List UInt8))))])), (3, (.tok ((List.map (rtE (z := 5)) ([] : List (RT 5))).length * 5))), (4, (.tok ((List.map D.str ([] : List (List UInt8))).length * 1)))]) rfl (inT [(3, 6), (4, 7)] [.tok 0, .tok 0]) (doneA (.inr rfl) rfl ⟨trivial, trivial⟩ (.refl _) (hasCons rfl (hasCons rfl (hasCons rfl (hasCons rfl (hasCons rfl hasNil)))))))
    · refine AWc.cF c66 ?_
      refine AWc.skip ?_
      refine AWc.seqS (N := 67) 5 (fun (z : (List (List UInt8))) => [(2, (.ptr 2 0)), (11, (.ptr 3 0))]) (fun z => [(2, (.cells [(.d (.int .i64 a6)), (.d (.int .i64 a7)), .nils, .nils, (.ap 4 1 (List.map D.str z))])), (3, (.cells [(.d (.int .i64 r53.2.1)), (.d (.int .i64 r53.2.2.1)), (.d (.sl (List.map byteD r53.2.2.2.1))), (.d (.sl (List.map (rtE (z := 5)) r53.2.2.2.2.1))), (.d (.sl (List.map D.str r53.2.2.2.2.2.1)))])), (0, (.cells [(.d (.sl (List.map TNode.enc a0))), (.ptr 1 0), (.d (.int .i64 r53.2.2.2.2.2.2.1))])), (1, (.cells [(.d (.sl (List.map byteD a1))), (.d (.int .i64 r53.2.2.2.2.2.2.2.1)), (.d (.int .i64 r53.2.2.2.2.2.2.2.2))])), (4, (.tok ((List.map D.str z).length * 1)))]) (fun z => f455_j115 k r53 z = some r) rfl_le ?_ ?_
      · refine AWc.seq ?_
        refine AWc.rE hmix [] ?_
        rcases cc h with ⟨c81, h⟩ | ⟨c81, h⟩
        · refine AWc.cT c81 ?_
          refine AWc.seq ?_
          refine AWc.seq ?_
          obtain ⟨r92, e92, h⟩ := bind_some h
          refine AWc.rE hmix [.bs j46_1, .call (F239 hmix hc.2.2 e92) [] 0] ?_
          rcases cc h with ⟨c93, h⟩ | ⟨c93, h⟩
          · refine AWc.cT c93 ?_
            refine AWc.seq ?_
            refine AWc.rE hmix [] ?_
            have hr := Option.some.inj h
            subst hr
            exact AWc.ret (canQ (N := 67) (k := 5) (l' := [(8, (.d (.int .i64 (4 : Int))))]) (H' := [(0, (.cells [(.d (.sl (List.map TNode.enc a0))), (.ptr 1 0), (.d (.int .i64 r53.2.2.2.2.2.2.1))])), (1, (.cells [(.d (.sl (List.map byteD a1))), (.d (.int .i64 r53.2.2.2.2.2.2.2.1)), (.d (.int .i64 r53.2.2.2.2.2.2.2.2))])), (2, (.cells [(.d (.int .i64 a6)), (.d (.int .i64 a7)), .nils, (.ap 3 5 (List.map (rtE (z := 5)) ([] : List (RT 5)))), (.ap 4 1 (List.map D.str ([] : List (List UInt8))))])), (3, (.tok ((List.map (rtE (z := 5)) ([] : List (RT 5))).length * 5))), (4, (.tok ((List.map D.str ([] : List (List UInt8))).length * 1)))]) rfl (inT [(3, 6), (4, 7)] [.tok 0, .tok 0]) (doneA (.inr rfl) rfl ⟨trivial, trivial⟩ (.refl _) (hasCons rfl (hasCons rfl (hasCons rfl (hasCons rfl (hasCons rfl hasNil)))))))
          · refine AWc.cF c93 ?_
            refine AWc.skip ?_
            obtain ⟨b110, h⟩ := gd_some h
            refine AWc.rE hmix [.bs j46_1, .apN D.str ([j46_1] : List (List UInt8)) 1 (fun _ => rfl) b110] ?_
            exact ⟨([j46_1] : List (List UInt8)), h, (inT [(3, 5), (4, 6)] [])⟩
        · refine AWc.cF c81 ?_
          refine AWc.skip ?_
          exact ⟨([] : List (List UInt8)), h, (inT [(3, 5), (4, 6)] [.tok 0])⟩
      · intro j115_1 h
        unfold f455_j115 at h
        refine AWc.seq ?_
        obtain ⟨b125, h⟩ := gd_some h
        refine AWc.rE hmix [.apO (rtE (z := 5)) ([] : List (RT 5)) b125, .iao (rtE (z := 5)) ([] : List (RT 5))] ?_
        refine AWc.clT rtE_ok 5 ([] : List (RT 5)) (RT.of TValue.ok (TValue.mk r53.2.1 r53.2.2.1 r53.2.2.2.1 r53.2.2.2.2.1 r53.2.2.2.2.2.1)) ?_
        refine AWc.seq ?_
        refine AWc.rE hmix [] ?_
        have hr := Option.some.inj h
        subst hr
        exact AWc.ret (canQ (N := 67) (k := 5) (l' := [(8, (.d (.int .i64 (0 : Int))))]) (H' := [(0, (.cells [(.d (.sl (List.map TNode.enc a0))), (.ptr 1 0), (.d (.int .i64 r53.2.2.2.2.2.2.1))])), (1, (.cells [(.d (.sl (List.map byteD a1))), (.d (.int .i64 r53.2.2.2.2.2.2.2.1)), (.d (.int .i64 r53.2.2.2.2.2.2.2.2))])), (2, (.cells [(.d (.int .i64 a6)), (.d (.int .i64 a7)), .nils, (.ap 3 5 (List.map (rtE (z := 5)) (([] : List (RT 5)) ++ [(RT.of TValue.ok (TValue.mk r53.2.1 r53.2.2.1 r53.2.2.2.1 r53.2.2.2.2.1 r53.2.2.2.2.2.1))]))), (.ap 4 1 (List.map D.str j115_1))])), (3, (.tok ((List.map (rtE (z := 5)) (([] : List (RT 5)) ++ [(RT.of TValue.ok (TValue.mk r53.2.1 r53.2.2.1 r53.2.2.2.1 r53.2.2.2.2.1 r53.2.2.2.2.2.1))])).length * 5))), (4, (.tok ((List.map D.str j115_1).length * 1)))]) rfl (inT [(3, 5)] []) (doneA (.inr rfl) rfl ⟨trivial, trivial⟩ (.refl _) (hasCons rfl (hasCons rfl (hasCons rfl (hasCons rfl (hasCons rfl hasNil)))))))
def HC455v2 (P : Program) (N : Nat → Nat) : Prop := HasF P (N 455) (C455 N) ∧ HC456 P N ∧ HC239 P N
def f455v2_j115 (k : Nat) (a8 : (List (RT 5))) (r53 : (Int × Int × Int × (List UInt8) × (List (RT 5)) × (List (List UInt8)) × Int × Int × Int)) (j115_1 : (List (List UInt8))) : Option (Int × Int × Int × Int × (List (RT 5)) × (List (List UInt8))) := gd ((a8.length + 1) * 2 * 88 ≤ 281474976710656) (some ((0 : Int), r53.2.2.2.2.2.2.1, r53.2.2.2.2.2.2.2.1, r53.2.2.2.2.2.2.2.2, (a8 ++ [(RT.of TValue.ok (TValue.mk r53.2.1 r53.2.2.1 r53.2.2.2.1 r53.2.2.2.2.1 r53.2.2.2.2.2.1))]), j115_1))
def f455v2_j46 (k : Nat) (rc451 : (List TNode) → (List UInt8) → Int → Int → Int → Int → Int → Option (Int × Int × Int × (List UInt8) × (List (RT 5)) × (List (List UInt8)) × Int × Int × Int)) (a0 : (List TNode)) (a1 : (List UInt8)) (a4 : Int) (a5 : TNode) (a10 : Int) (a8 : (List (RT 5))) (a9 : (List (List UInt8))) (j46_1 : (List UInt8)) (j46_2 : Int) (j46_3 : Int) : Option (Int × Int × Int × Int × (List (RT 5)) × (List (List UInt8))) := (rc451 a0 a1 j46_2 j46_3 a4 a5.fItems a10).bind fun r53 => cond (decide (r53.1 ≠ (0 : Int))) (some (r53.1, r53.2.2.2.2.2.2.1, r53.2.2.2.2.2.2.2.1, r53.2.2.2.2.2.2.2.2, a8, a9)) (cond (decide (a5.fKind = (12 : Int))) ((f239 k a9 j46_1).bind fun r92 => cond r92 (some ((4 : Int), r53.2.2.2.2.2.2.1, r53.2.2.2.2.2.2.2.1, r53.2.2.2.2.2.2.2.2, a8, a9)) (gd ((a9.length + ([j46_1] : List (List UInt8)).length) * 2 * 16 ≤ 281474976710656) (f455v2_j115 k a8 r53 (a9 ++ ([j46_1] : List (List UInt8)))))) (f455v2_j115 k a8 r53 a9))
def f455v2 (rc451 : (List TNode) → (List UInt8) → Int → Int → Int → Int → Int → Option (Int × Int × Int × (List UInt8) × (List (RT 5)) × (List (List UInt8)) × Int × Int × Int)) (k : Nat) (a0 : (List TNode)) (a1 : (List UInt8)) (a2 : Int) (a3 : Int) (a4 : Int) (a5 : TNode) (a6 : Int) (a7 : Int) (a8 : (List (RT 5))) (a9 : (List (List UInt8))) (a10 : Int) : Option (Int × Int × Int × Int × (List (RT 5)) × (List (List UInt8))) := cond (decide (a5.fKind = (12 : Int))) ((f456 k a0 a1 a2 a3 a4 true).bind fun r26 => cond (decide (r26.2.1 ≠ (0 : Int))) (some (r26.2.1, a4, r26.2.2.1, r26.2.2.2, a8, a9)) (f455v2_j46 k rc451 a0 a1 a4 a5 a10 a8 a9 r26.1 r26.2.2.1 r26.2.2.2)) (f455v2_j46 k rc451 a0 a1 a4 a5 a10 a8 a9 ([] : List UInt8) a2 a3)
theorem F455v2 {P : Program} {N : Nat → Nat} (hmix : P.follows .mixedOrders = true) (hc : HC455v2 P N) {rc451 : (List TNode) → (List UInt8) → Int → Int → Int → Int → Int → Option (Int × Int × Int × (List UInt8) × (List (RT 5)) × (List (List UInt8)) × Int × Int × Int)} (hrc451 : RH451 P N rc451) {k : Nat} {a0 : (List TNode)} {a1 : (List UInt8)} {a2 : Int} {a3 : Int} {a4 : Int} {a5 : TNode} {a6 : Int} {a7 : Int} {a8 : (List (RT 5))} {a9 : (List (List UInt8))} {a10 : Int} {r : (Int × Int × Int × Int × (List (RT 5)) × (List (List UInt8)))} (h : f455v2 rc451 k a0 a1 a2 a3 a4 a5 a6 a7 a8 a9 a10 = some r) :
    ACalls P (N 455) [(.ptr 0 0), (.d (TNode.enc a5)), (.ptr 2 0), (.d (.int .i64 a10))] [(0, (.cells [(.d (.sl (List.map TNode.enc a0))), (.ptr 1 0), (.d (.int .i64 a4))])), (1, (.cells [(.d (.sl (List.map byteD a1))), (.d (.int .i64 a2)), (.d (.int .i64 a3))])), (2, (.cells [(.d (.int .i64 a6)), (.d (.int .i64 a7)), .nils, (.ap 3 5 (List.map (rtE (z := 5)) a8)), (.ap 4 1 (List.map D.str a9))])), (3, (.tok ((List.map (rtE (z := 5)) a8).length * 5))), (4, (.tok ((List.map D.str a9).length * 1)))] (.d (.int .i64 r.1)) [(0, (.cells [(.d (.sl (List.map TNode.enc a0))), (.ptr 1 0), (.d (.int .i64 r.2.1))])), (1, (.cells [(.d (.sl (List.map byteD a1))), (.d (.int .i64 r.2.2.1)), (.d (.int .i64 r.2.2.2.1))])), (2, (.cells [(.d (.int .i64 a6)), (.d (.int .i64 a7)), .nils, (.ap 5 5 (List.map (rtE (z := 5)) r.2.2.2.2.1)), (.ap 6 1 (List.map D.str r.2.2.2.2.2))])), (5, (.tok ((List.map (rtE (z := 5)) r.2.2.2.2.1).length * 5))), (6, (.tok ((List.map D.str r.2.2.2.2.2).length * 1)))] := by
  refine acalls_canon (F := C455 N) hc.1 5 7 rfl ?_
  unfold f455v2 at h
  dsimp only [C455, startL]
  refine AWc.seq ?_
  refine AWc.rE hmix [] ?_
  refine AWc.seq ?_
  refine AWc.rE hmix [] ?_
  refine AWc.seqS (N := 67) 7 (fun (z : ((List UInt8) × Int × Int)) => [(0, (.ptr 0 0)), (2, (.ptr 2 0)), (3, (.d (.int .i64 a10))), (5, (.ptr 5 0)), (9, (.ap 6 1 (List.map byteD z.1)))]) (fun z => [(0, (.cells [(.d (.sl (List.map TNode.enc a0))), (.ptr 1 0), (.d (.int .i64 a4))])), (2, (.cells [(.d (.int .i64 a6)), (.d (.int .i64 a7)), .nils, (.ap 3 5 (List.map (rtE (z := 5)) a8)), (.ap 4 1 (List.map D.str a9))])), (5, (.cells [(.d (.int .i64 a5.fKind)), (.d (.str a5.fName)), (.d (.sl (List.map D.str a5.fAliases))), (.d (.sl (List.map TField.enc a5.fFields))), (.d (.sl (List.map D.str a5.fSymbols))), (.d (.bool a5.fHas)), (.d (.str a5.fDefault)), (.d (.int .i64 a5.fItems)), (.d (.sl (List.map (D.int .i64) a5.fBranches))), (.d (.int .i64 a5.fSize))])), (6, (.tok ((List.map byteD z.1).length * 1))), (1, (.cells [(.d (.sl (List.map byteD a1))), (.d (.int .i64 z.2.1)), (.d (.int .i64 z.2.2))])), (3, (.tok ((List.map (rtE (z := 5)) a8).length * 5))), (4, (.tok ((List.map D.str a9).length * 1)))]) (fun z => f455v2_j46 k rc451 a0 a1 a4 a5 a10 a8 a9 z.1 z.2.1 z.2.2 = some r) rfl_le ?_ ?_
  · refine AWc.seq ?_
    refine AWc.rE hmix [] ?_
    rcases cc h with ⟨c17, h⟩ | ⟨c17, h⟩
    · refine AWc.cT c17 ?_
      refine AWc.seq ?_
      refine AWc.rE hmix [] ?_
      refine AWc.seq ?_
      obtain ⟨r26, e26, h⟩ := bind_some h
      refine AWc.rE hmix [.call (F456 hmix hc.2.1 e26) [(2, 6)] 3] ?_
      refine AWc.seq ?_
      refine AWc.rE hmix [] ?_
      rcases cc h with ⟨c37, h⟩ | ⟨c37, h⟩
      · refine AWc.cT c37 ?_
        refine AWc.seq ?_
        refine AWc.rE hmix [] ?_
        have hr := Option.some.inj h
        subst hr
        exact AWc.ret (canQ (N := 67) (k := 7) (l' := [(8, (.d (.int .i64 r26.2.1)))]) (H' := [(0, (.cells [(.d (.sl (List.map TNode.enc a0))), (.ptr 1 0), (.d (.int .i64 a4))])), (1, (.cells [(.d (.sl (List.map byteD a1))), (.d (.int .i64 r26.2.2.1)), (.d (.int .i64 r26.2.2.2))])), (2, (.cells [(.d (.int .i64 a6)), (.d (.int .i64 a7)), .nils, (.ap 5 5 (List.map (rtE (z := 5)) a8)), (.ap 6 1 (List.map D.str a9))])), (5, (.tok ((List.map (rtE (z := 5)) a8).length * 5))), (6, (.tok ((List.map D.str a9).length * 1)))]) rfl (inT [(5, 3), (6, 4)] []) (doneA (.inr rfl) rfl ⟨trivial, trivial⟩ (.refl _) (hasCons rfl (hasCons rfl (hasCons rfl (hasCons rfl (hasCons rfl hasNil)))))))
      · refine AWc.cF c37 ?_
        refine AWc.skip ?_
        exact ⟨(r26.1, r26.2.2.1, r26.2.2.2), h, (inT [] [])⟩
    · refine AWc.cF c17 ?_
      refine AWc.skip ?_
      exact ⟨(([] : List UInt8), a2, a3), h, (inT [(6, 6)] [.tok 0])⟩
  · rintro ⟨j46_1, j46_2, j46_3⟩ h
    dsimp only at h ⊢
    unfold f455v2_j46 at h
    refine AWc.seq ?_
    obtain ⟨r53, e53, h⟩ := bind_some h
    refine AWc.rE hmix [.call (hrc451 _ _ _ _ _ _ _ _ e53) [] 2] ?_
    refine AWc.seq ?_
    refine AWc.seq ?_
    refine AWc.rE hmix [] ?_
    rcases cc h with ⟨c66, h⟩ | ⟨c66, h⟩
    · refine AWc.cT c66 ?_
      refine AWc.seq ?_
      refine AWc.rE hmix [] ?_
      have hr := Option.some.inj h
      subst hr
      exact AWc.ret (canQ (N := 67) (k := 7) (l' := [(8, (.d (.int .i64 r53.1)))]) (H' := [(0, (.cells [(.d (.sl (List.map TNode.enc a0))), (.ptr 1 0), (.d (.int .i64 r53.2.2.2.2.2.2.1))])), (1, (.cells [(.d (.sl (List.map byteD a1))), (.d (.int .i64 r53.2.2.2.2.2.2.2.1)), (.d (.int .i64 r53.2.2.2.2.2.2.2.2))])), (2, (.cells [(.d (.int .i64 a6)), (.d (.int .i64 a7)), .nils, (.ap 5 5 (List.map (rtE (z := 5)) a8)), (.ap 6 1 (List.map D.str a9))])), (5, (.tok ((List.map (rtE (z := 5)) a8).length * 5))), (6, (.tok ((List.map D.str a9).length * 1)))]) rfl (inT [(5, 3), (6, 4)] []) (doneA (.inr rfl) rfl ⟨trivial, trivial⟩ (.refl _) (hasCons rfl (hasCons rfl (hasCons rfl (hasCons rfl (hasCons rfl hasNil)))))))
    · refine AWc.cF c66 ?_
      refine AWc.skip ?_
      refine AWc.seqS (N := 67) 7 (fun (z : (List (List UInt8))) => [(2, (.ptr 2 0)), (11, (.ptr 5 0))]) (fun z => [(2, (.cells [(.d (.int .i64 a6)), (.d (.int .i64 a7)), .nils, (.ap 3 5 (List.map (rtE (z := 5)) a8)), (.ap 6 1 (List.map D.str z))])), (5, (.cells [(.d (.int .i64 r53.2.1)), (.d (.int .i64 r53.2.2.1)), (.d (.sl (List.map byteD r53.2.2.2.1))), (.d (.sl (List.map (rtE (z := 5)) r53.2.2.2.2.1))), (.d (.sl (List.map D.str r53.2.2.2.2.2.1)))])), (0, (.cells [(.d (.sl (List.map TNode.enc a0))), (.ptr 1 0), (.d (.int .i64 r53.2.2.2.2.2.2.1))])), (1, (.cells [(.d (.sl (List.map byteD a1))), (.d (.int .i64 r53.2.2.2.2.2.2.2.1)), (.d (.int .i64 r53.2.2.2.2.2.2.2.2))])), (3, (.tok ((List.map (rtE (z := 5)) a8).length * 5))), (6, (.tok ((List.map D.str z).length * 1)))]) (fun z => f455v2_j115 k a8 r53 z = some r) rfl_le ?_ ?_
      · refine AWc.seq ?_
        refine AWc.rE hmix [] ?_
        rcases cc h with ⟨c81, h⟩ | ⟨c81, h⟩
        · refine AWc.cT c81 ?_
          refine AWc.seq ?_
          refine AWc.seq ?_
          obtain ⟨r92, e92, h⟩ := bind_some h
          refine AWc.rE hmix [.bs j46_1, .call (F239 hmix hc.2.2 e92) [] 0] ?_
          rcases cc h with ⟨c93, h⟩ | ⟨c93, h⟩
          · refine AWc.cT c93 ?_
            refine AWc.seq ?_
            refine AWc.rE hmix [] ?_
            have hr := Option.some.inj h
            subst hr
            exact AWc.ret (canQ (N := 67) (k := 7) (l' := [(8, (.d (.int .i64 (4 : Int))))]) (H' := [(0, (.cells [(.d (.sl (List.map TNode.enc a0))), (.ptr 1 0), (.d (.int .i64 r53.2.2.2.2.2.2.1))])), (1, (.cells [(.d (.sl (List.map byteD a1))), (.d (.int .i64 r53.2.2.2.2.2.2.2.1)), (.d (.int .i64 r53.2.2.2.2.2.2.2.2))])), (2, (.cells [(.d (.int .i64 a6)), (.d (.int .i64 a7)), .nils, (.ap 5 5 (List.map (rtE (z := 5)) a8)), (.ap 6 1 (List.map D.str a9))])), (5, (.tok ((List.map (rtE (z := 5)) a8).length * 5))), (6, (.tok ((List.map D.str a9).length * 1)))]) rfl (inT [(5, 3), (6, 4)] []) (doneA (.inr rfl) rfl ⟨trivial, trivial⟩ (.refl _) (hasCons rfl (hasCons rfl (hasCons rfl (hasCons rfl (hasCons rfl hasNil)))))))
          · refine AWc.cF c93 ?_
            refine AWc.skip ?_
            obtain ⟨b110, h⟩ := gd_some h
            refine AWc.rE hmix [.bs j46_1, .apA D.str a9 ([j46_1] : List (List UInt8)) 1 (fun _ => rfl) b110] ?_
            exact ⟨(a9 ++ ([j46_1] : List (List UInt8))), h, (inT [(5, 7), (6, 8)] [])⟩
        · refine AWc.cF c81 ?_
          refine AWc.skip ?_
          exact ⟨a9, h, (inT [(5, 7), (6, 4)] [])⟩
      · intro j115_1 h
        unfold f455v2_j115 at h
        refine AWc.seq ?_
        obtain ⟨b125, h⟩ := gd_some h
        refine AWc.rE hmix [.ln (rtE (z := 5)) a8, .apO (rtE (z := 5)) a8 b125, .iao (rtE (z := 5)) a8] ?_
        refine AWc.clT rtE_ok 7 a8 (RT.of TValue.ok (TValue.mk r53.2.1 r53.2.2.1 r53.2.2.2.1 r53.2.2.2.2.1 r53.2.2.2.2.2.1)) ?_
        refine AWc.seq ?_
        refine AWc.rE hmix [] ?_
        have hr := Option.some.inj h
        subst hr
        exact AWc.ret (canQ (N := 67) (k := 7) (l' := [(8, (.d (.int .i64 (0 : Int))))]) (H' := [(0, (.cells [(.d (.sl (List.map TNode.enc a0))), (.ptr 1 0), (.d (.int .i64 r53.2.2.2.2.2.2.1))])), (1, (.cells [(.d (.sl (List.map byteD a1))), (.d (.int .i64 r53.2.2.2.2.2.2.2.1)), (.d (.int .i64 r53.2.2.2.2.2.2.2.2))])), (2, (.cells [(.d (.int .i64 a6)), (.d (.int .i64 a7)), .nils, (.ap 5 5 (List.map (rtE (z := 5)) (a8 ++ [(RT.of TValue.ok (TValue.mk r53.2.1 r53.2.2.1 r53.2.2.2.1 r53.2.2.2.2.1 r53.2.2.2.2.2.1))]))), (.ap 6 1 (List.map D.str j115_1))])), (5, (.tok ((List.map (rtE (z := 5)) (a8 ++ [(RT.of TValue.ok (TValue.mk r53.2.1 r53.2.2.1 r53.2.2.2.1 r53.2.2.2.2.1 r53.2.2.2.2.2.1))])).length * 5))), (6, (.tok ((List.map D.str j115_1).length * 1)))]) rfl (inT [(5, 7)] []) (doneA (.inr rfl) rfl ⟨trivial, trivial⟩ (.refl _) (hasCons rfl (hasCons rfl (hasCons rfl (hasCons rfl (hasCons rfl hasNil)))))))
/-- (*courant/codec.taker).items -/
def C452 (N : Nat → Nat) : AFunc := { n := 55, params := 4, res := [.tmp 8], body :=
 (.seq (.region false [⟨(some 5), .box (.t 1), none, []⟩,
   ⟨(some 8), .mv (.k (.d (.int .i64 0))), none, []⟩])
  (.scope (.seq (.label 0)
    (.seq (.block 0 (.loop (.block 1 (.seq (.region false [⟨(some 15), .mv (.t 0), none, []⟩,
          ⟨(some 16), .call (.k (.d (.fn (N 453)))) [(.t 15)], none, [0]⟩,
          ⟨(some 14), .mv (.t 16), none, [1]⟩,
          ⟨(some 17), .ext (.t 14) 0, none, [2]⟩,
          ⟨(some 18), .ext (.t 14) 1, none, [2]⟩,
          ⟨(some 19), .ext (.t 14) 2, none, [2]⟩,
          ⟨(some 9), .mv (.t 17), none, [3, 1, 0, 2]⟩,
          ⟨(some 10), .mv (.t 18), none, [4, 6, 0, 1, 2, 3]⟩,
          ⟨(some 11), .mv (.t 19), none, [5, 7, 0, 1, 2, 3, 4, 6]⟩])
         (.seq (.seq (.region false [⟨(some 20), .mv (.t 11), none, []⟩,
            ⟨(some 21), .bin .neq (.t 20) (.k (.d (.int .i64 0))), none, [0]⟩])
           (.cond (.t 21) (.seq (.region false [⟨(some 22), .mv (.t 11), none, []⟩,
              ⟨(some 8), .mv (.t 22), none, [0]⟩])
             .ret)
            (.skip)))
          (.seq (.seq (.region false [⟨(some 23), .mv (.t 9), none, []⟩,
             ⟨(some 24), .bin .eql (.t 23) (.k (.d (.int .i64 0))), none, [0]⟩])
            (.cond (.t 24) (.exit 0)
             (.skip)))
           (.seq (.region false [⟨(some 25), .mv (.t 0), none, []⟩,
             ⟨(some 26), .nilchk (.t 25), none, [0]⟩,
             ⟨(some 27), .faddr (.t 26) 1, none, [1]⟩,
             ⟨(some 28), .load (.t 27) 1 false, none, [2]⟩,
             ⟨(some 29), .call (.k (.d (.fn (N 32)))) [(.t 28)], none, [3]⟩,
             ⟨(some 12), .mv (.t 29), none, [4, 0, 1, 2, 3]⟩])
            (.seq (.seq (.region false [⟨(some 30), .mv (.t 9), none, []⟩,
               ⟨(some 31), .mv (.k (.d (.int .i64 0))), none, []⟩])
              (.block 2 (.loop (.seq (.region false [⟨(some 32), .bin .lss (.t 31) (.t 30), none, []⟩])
                 (.seq (.cond (.t 32) (.skip)
                   (.exit 2))
                  (.seq (.block 3 (.seq (.region false [⟨(some 33), .mv (.t 0), none, []⟩,
                      ⟨(some 34), .load (.t 5) 10 true, none, []⟩,
                      ⟨(some 35), .mv (.t 2), none, []⟩,
                      ⟨(some 36), .mv (.t 3), none, []⟩,
                      ⟨(some 37), .call (.k (.d (.fn (N 455)))) [(.t 33), (.t 34), (.t 35), (.t 36)], none, [0, 1, 2, 3]⟩,
                      ⟨(some 13), .mv (.t 37), none, [4, 0, 1, 2, 3]⟩])
                     (.seq (.region false [⟨(some 38), .mv (.t 13), none, []⟩,
                       ⟨(some 39), .bin .neq (.t 38) (.k (.d (.int .i64 0))), none, [0]⟩])
                      (.cond (.t 39) (.seq (.region false [⟨(some 40), .mv (.t 13), none, []⟩,
                         ⟨(some 8), .mv (.t 40), none, [0]⟩])
                        .ret)
                       (.skip)))))
                   (.region false [⟨(some 41), .bin .add (.t 31) (.k (.d (.int .i64 1))), none, []⟩,
                    ⟨(some 31), .mv (.t 41), none, [0]⟩])))))))
             (.seq (.region false [⟨(some 42), .mv (.t 10), none, []⟩,
               ⟨(some 43), .bin .geq (.t 42) (.k (.d (.int .i64 0))), none, [0]⟩,
               ⟨(some 44), .mv (.t 43), none, [1]⟩,
               ⟨(some 45), .mv (.t 10), (some (44, true)), [2]⟩,
               ⟨(some 46), .mv (.t 12), (some (44, true)), [2]⟩,
               ⟨(some 47), .mv (.t 0), (some (44, true)), [2]⟩,
               ⟨(some 48), .nilchk (.t 47), (some (44, true)), [5, 2]⟩,
               ⟨(some 49), .faddr (.t 48) 1, (some (44, true)), [6, 2]⟩,
               ⟨(some 50), .load (.t 49) 1 false, (some (44, true)), [7, 2]⟩,
               ⟨(some 51), .call (.k (.d (.fn (N 32)))) [(.t 50)], (some (44, true)), [8, 2]⟩,
               ⟨(some 52), .bin .sub (.t 46) (.t 51), (some (44, true)), [4, 9, 2]⟩,
               ⟨(some 53), .bin .neq (.t 45) (.t 52), (some (44, true)), [3, 10, 2]⟩,
               ⟨(some 54), .pick (.t 44) (.t 53) (.k (.d (.bool false))), none, [2, 11]⟩])
              (.cond (.t 54) (.seq (.region false [⟨(some 8), .mv (.k (.d (.int .i64 4))), none, []⟩])
                .ret)
               (.skip)))))))))))
     (.seq (.region false [⟨(some 8), .mv (.k (.d (.int .i64 0))), none, []⟩])
      .ret))))) }
def HC452 (P : Program) (N : Nat → Nat) : Prop := HasF P (N 452) (C452 N) ∧ HC453 P N ∧ HC32 P N ∧ HC455 P N ∧ HC455v2 P N
def f452_j101 (L : Int → (List (RT 5)) → (List (List UInt8)) → Int → Int → Option (LR2 (Int × Int × Int × (List (RT 5)) × (List (List UInt8))) Unit (Int × Int × Int × Int × (List (RT 5)) × (List (List UInt8))))) (k : Nat) (r17 : (Int × Int × Int × Int × Int)) (a1 : (List UInt8)) (j101_1 : Int) (j101_2 : (List (RT 5))) (j101_3 : (List (List UInt8))) (j101_4 : Int) (j101_5 : Int) : Option (LR2 (Int × Int × Int × (List (RT 5)) × (List (List UInt8))) Unit (Int × Int × Int × Int × (List (RT 5)) × (List (List UInt8)))) := cond (decide (r17.2.1 ≥ (0 : Int))) ((f32 k a1 j101_4 j101_5).bind fun r113 => cond (decide (r17.2.1 ≠ (IntKind.i64.wrap ((IntKind.i64.wrap (((a1.length : Nat) : Int) - r17.2.2.2.1)) - (IntKind.i64.wrap (((a1.length : Nat) : Int) - j101_4)))))) (some (.r ((4 : Int), j101_1, j101_4, j101_5, j101_2, j101_3))) (L j101_1 j101_2 j101_3 j101_4 j101_5)) (L j101_1 j101_2 j101_3 j101_4 j101_5)
def f452_l63 (r17 : (Int × Int × Int × Int × Int)) (rc451 : (List TNode) → (List UInt8) → Int → Int → Int → Int → Int → Option (Int × Int × Int × (List UInt8) × (List (RT 5)) × (List (List UInt8)) × Int × Int × Int)) (a0 : (List TNode)) (a1 : (List UInt8)) (a5 : TNode) (a6 : Int) (a7 : Int) (a8 : Int) : Nat → Int → Int → (List (RT 5)) → (List (List UInt8)) → Int → Int → Option (LR2 (Int × (List (RT 5)) × (List (List UInt8)) × Int × Int) Unit (Int × Int × Int × Int × (List (RT 5)) × (List (List UInt8))))
  | 0, _, _, _, _, _, _ => none
  | k + 1, y63_1, y63_2, y63_3, y63_4, y63_5, y63_6 => cond (decide (y63_1 < r17.1)) ((f455v2 rc451 k a0 a1 y63_5 y63_6 y63_2 (TNode.mk a5.fKind a5.fName a5.fAliases a5.fFields a5.fSymbols a5.fHas a5.fDefault a5.fItems a5.fBranches a5.fSize) a6 a7 y63_3 y63_4 a8).bind fun r82 => cond (decide (r82.1 ≠ (0 : Int))) (some (.r (r82.1, r82.2.1, r82.2.2.1, r82.2.2.2.1, r82.2.2.2.2.1, r82.2.2.2.2.2))) (f452_l63 r17 rc451 a0 a1 a5 a6 a7 a8 k (IntKind.i64.wrap (y63_1 + (1 : Int))) r82.2.1 r82.2.2.2.2.1 r82.2.2.2.2.2 r82.2.2.1 r82.2.2.2.1)) (some (.b0 (y63_2, y63_3, y63_4, y63_5, y63_6)))
def f452_l10 (a0 : (List TNode)) (a1 : (List UInt8)) (rc451 : (List TNode) → (List UInt8) → Int → Int → Int → Int → Int → Option (Int × Int × Int × (List UInt8) × (List (RT 5)) × (List (List UInt8)) × Int × Int × Int)) (a5 : TNode) (a6 : Int) (a7 : Int) (a8 : Int) : Nat → Int → (List (RT 5)) → (List (List UInt8)) → Int → Int → Option (LR2 (Int × Int × Int × (List (RT 5)) × (List (List UInt8))) Unit (Int × Int × Int × Int × (List (RT 5)) × (List (List UInt8))))
  | 0, _, _, _, _, _ => none
  | k + 1, y10_1, y10_2, y10_3, y10_4, y10_5 => (f453 k a0 a1 y10_4 y10_5 y10_1).bind fun r17 => cond (decide (r17.2.2.1 ≠ (0 : Int))) (some (.r (r17.2.2.1, y10_1, r17.2.2.2.1, r17.2.2.2.2, y10_2, y10_3))) (cond (decide (r17.1 = (0 : Int))) (some (.b0 (y10_1, r17.2.2.2.1, r17.2.2.2.2, y10_2, y10_3))) ((f32 k a1 r17.2.2.2.1 r17.2.2.2.2).bind fun r55 => (f452_l63 r17 rc451 a0 a1 a5 a6 a7 a8 k (0 : Int) y10_1 y10_2 y10_3 r17.2.2.2.1 r17.2.2.2.2).bind fun o63 => (match o63 with | .b0 (x63_1, x63_2, x63_3, x63_4, x63_5) => f452_j101 (f452_l10 a0 a1 rc451 a5 a6 a7 a8 k) k r17 a1 x63_1 x63_2 x63_3 x63_4 x63_5 | .r x => some (.r x) | _ => none)))
def f452 (rc451 : (List TNode) → (List UInt8) → Int → Int → Int → Int → Int → Option (Int × Int × Int × (List UInt8) × (List (RT 5)) × (List (List UInt8)) × Int × Int × Int)) (k : Nat) (a0 : (List TNode)) (a1 : (List UInt8)) (a2 : Int) (a3 : Int) (a4 : Int) (a5 : TNode) (a6 : Int) (a7 : Int) (a8 : Int) : Option (Int × Int × Int × Int × (List (RT 5)) × (List (List UInt8))) := (f452_l10 a0 a1 rc451 a5 a6 a7 a8 k a4 ([] : List (RT 5)) ([] : List (List UInt8)) a2 a3).bind fun o10 => (match o10 with | .b0 (x10_1, x10_2, x10_3, x10_4, x10_5) => some ((0 : Int), x10_1, x10_2, x10_3, x10_4, x10_5) | .r x => some x | _ => none)
theorem F452 {P : Program} {N : Nat → Nat} (hmix : P.follows .mixedOrders = true) (hc : HC452 P N) {rc451 : (List TNode) → (List UInt8) → Int → Int → Int → Int → Int → Option (Int × Int × Int × (List UInt8) × (List (RT 5)) × (List (List UInt8)) × Int × Int × Int)} (hrc451 : RH451 P N rc451) {k : Nat} {a0 : (List TNode)} {a1 : (List UInt8)} {a2 : Int} {a3 : Int} {a4 : Int} {a5 : TNode} {a6 : Int} {a7 : Int} {a8 : Int} {r : (Int × Int × Int × Int × (List (RT 5)) × (List (List UInt8)))} (h : f452 rc451 k a0 a1 a2 a3 a4 a5 a6 a7 a8 = some r) :
    ACalls P (N 452) [(.ptr 0 0), (.d (TNode.enc a5)), (.ptr 2 0), (.d (.int .i64 a8))] [(0, (.cells [(.d (.sl (List.map TNode.enc a0))), (.ptr 1 0), (.d (.int .i64 a4))])), (1, (.cells [(.d (.sl (List.map byteD a1))), (.d (.int .i64 a2)), (.d (.int .i64 a3))])), (2, (.cells [(.d (.int .i64 a6)), (.d (.int .i64 a7)), .nils, .nils, .nils]))] (.d (.int .i64 r.1)) [(0, (.cells [(.d (.sl (List.map TNode.enc a0))), (.ptr 1 0), (.d (.int .i64 r.2.1))])), (1, (.cells [(.d (.sl (List.map byteD a1))), (.d (.int .i64 r.2.2.1)), (.d (.int .i64 r.2.2.2.1))])), (2, (.cells [(.d (.int .i64 a6)), (.d (.int .i64 a7)), .nils, (.ap 3 5 (List.map (rtE (z := 5)) r.2.2.2.2.1)), (.ap 4 1 (List.map D.str r.2.2.2.2.2))])), (3, (.tok ((List.map (rtE (z := 5)) r.2.2.2.2.1).length * 5))), (4, (.tok ((List.map D.str r.2.2.2.2.2).length * 1)))] := by
  refine acalls_canon (F := C452 N) hc.1 3 5 rfl ?_
  unfold f452 at h
  dsimp only [C452, startL]
  refine AWc.seq ?_
  refine AWc.rE hmix [] ?_
  refine AWc.scope ?_
  refine AWc.seq ?_
  refine AWc.label ?_
  obtain ⟨o10, h10, h⟩ := bind_some h
  refine AWc.seqS (N := 55) 5 (fun (z : (Int × Int × Int × (List (RT 5)) × (List (List UInt8)))) => []) (fun z => [(0, (.cells [(.d (.sl (List.map TNode.enc a0))), (.ptr 1 0), (.d (.int .i64 z.1))])), (1, (.cells [(.d (.sl (List.map byteD a1))), (.d (.int .i64 z.2.1)), (.d (.int .i64 z.2.2.1))])), (2, (.cells [(.d (.int .i64 a6)), (.d (.int .i64 a7)), .nils, (.ap 3 5 (List.map (rtE (z := 5)) z.2.2.2.1)), (.ap 4 1 (List.map D.str z.2.2.2.2))])), (3, (.tok ((List.map (rtE (z := 5)) z.2.2.2.1).length * 5))), (4, (.tok ((List.map D.str z.2.2.2.2).length * 1)))]) (fun z => o10 = .b0 z) rfl_le ?_ ?_
  · refine AWc.block ?_
    refine AWc.loopK (N := 55) 6 (fun (x : (Int × (List (RT 5)) × (List (List UInt8)) × Int × Int)) => [(0, (.ptr 0 0)), (2, (.ptr 2 0)), (3, (.d (.int .i64 a8))), (5, (.ptr 3 0))]) (fun x => [(0, (.cells [(.d (.sl (List.map TNode.enc a0))), (.ptr 1 0), (.d (.int .i64 x.1))])), (2, (.cells [(.d (.int .i64 a6)), (.d (.int .i64 a7)), .nils, (.ap 4 5 (List.map (rtE (z := 5)) x.2.1)), (.ap 5 1 (List.map D.str x.2.2.1))])), (3, (.cells [(.d (.int .i64 a5.fKind)), (.d (.str a5.fName)), (.d (.sl (List.map D.str a5.fAliases))), (.d (.sl (List.map TField.enc a5.fFields))), (.d (.sl (List.map D.str a5.fSymbols))), (.d (.bool a5.fHas)), (.d (.str a5.fDefault)), (.d (.int .i64 a5.fItems)), (.d (.sl (List.map (D.int .i64) a5.fBranches))), (.d (.int .i64 a5.fSize))])), (1, (.cells [(.d (.sl (List.map byteD a1))), (.d (.int .i64 x.2.2.2.1)), (.d (.int .i64 x.2.2.2.2))])), (4, (.tok ((List.map (rtE (z := 5)) x.2.1).length * 5))), (5, (.tok ((List.map D.str x.2.2.1).length * 1)))]) (fun k x => f452_l10 a0 a1 rc451 a5 a6 a7 a8 k x.1 x.2.1 x.2.2.1 x.2.2.2.1 x.2.2.2.2 = some o10) k (a4, ([] : List (RT 5)), ([] : List (List UInt8)), a2, a3) rfl_le (fun x hx => by cases hx) h10 (inT [(4, 4), (5, 5)] [.tok 0, .tok 0]) ?_
    clear h10
    intro k
    rintro ⟨y10_1, y10_2, y10_3, y10_4, y10_5⟩ h10
    dsimp only at h10 ⊢
    rw [f452_l10] at h10
    refine AWc.block ?_
    refine AWc.seq ?_
    obtain ⟨r17, e17, h10⟩ := bind_some h10
    refine AWc.rE hmix [.call (F453 hmix hc.2.1 e17) [] 2] ?_
    refine AWc.seq ?_
    refine AWc.seq ?_
    refine AWc.rE hmix [] ?_
    rcases cc h10 with ⟨c31, h10⟩ | ⟨c31, h10⟩
    · refine AWc.cT c31 ?_
      refine AWc.seq ?_
      refine AWc.rE hmix [] ?_
      cases h10
      dsimp only at h
      have hr := Option.some.inj h
      subst hr
      exact AWc.ret (canQ (N := 55) (k := 5) (l' := [(8, (.d (.int .i64 r17.2.2.1)))]) (H' := [(0, (.cells [(.d (.sl (List.map TNode.enc a0))), (.ptr 1 0), (.d (.int .i64 y10_1))])), (1, (.cells [(.d (.sl (List.map byteD a1))), (.d (.int .i64 r17.2.2.2.1)), (.d (.int .i64 r17.2.2.2.2))])), (2, (.cells [(.d (.int .i64 a6)), (.d (.int .i64 a7)), .nils, (.ap 3 5 (List.map (rtE (z := 5)) y10_2)), (.ap 4 1 (List.map D.str y10_3))])), (3, (.tok ((List.map (rtE (z := 5)) y10_2).length * 5))), (4, (.tok ((List.map D.str y10_3).length * 1)))]) rfl (inT [(3, 4), (4, 5)] []) (doneA (.inr rfl) rfl ⟨trivial, trivial⟩ (.refl _) (hasCons rfl (hasCons rfl (hasCons rfl (hasCons rfl (hasCons rfl hasNil)))))))
    · refine AWc.cF c31 ?_
      refine AWc.skip ?_
      refine AWc.seq ?_
      refine AWc.seq ?_
      refine AWc.rE hmix [] ?_
      rcases cc h10 with ⟨c45, h10⟩ | ⟨c45, h10⟩
      · refine AWc.cT c45 ?_
        cases h10
        dsimp only at h
        refine AWc.exit ?_
        refine inBlk_ne rfl ?_
        refine inBlk_eq ?_
        exact ⟨(y10_1, r17.2.2.2.1, r17.2.2.2.2, y10_2, y10_3), rfl, (inT [(3, 4), (4, 5)] [])⟩
      · refine AWc.cF c45 ?_
        refine AWc.skip ?_
        refine AWc.seq ?_
        obtain ⟨r55, e55, h10⟩ := bind_some h10
        refine AWc.rE hmix [.cq (F32 hmix hc.2.2.1 e55) [(0, 1)] 1] ?_
        refine AWc.seqS (N := 55) 6 (fun (z : (Int × (List (RT 5)) × (List (List UInt8)) × Int × Int)) => [(0, (.ptr 0 0)), (2, (.ptr 2 0)), (3, (.d (.int .i64 a8))), (5, (.ptr 3 0)), (10, (.d (.int .i64 r17.2.1))), (12, (.d (.int .i64 (IntKind.i64.wrap (((a1.length : Nat) : Int) - r17.2.2.2.1)))))]) (fun z => [(0, (.cells [(.d (.sl (List.map TNode.enc a0))), (.ptr 1 0), (.d (.int .i64 z.1))])), (2, (.cells [(.d (.int .i64 a6)), (.d (.int .i64 a7)), .nils, (.ap 4 5 (List.map (rtE (z := 5)) z.2.1)), (.ap 5 1 (List.map D.str z.2.2.1))])), (3, (.cells [(.d (.int .i64 a5.fKind)), (.d (.str a5.fName)), (.d (.sl (List.map D.str a5.fAliases))), (.d (.sl (List.map TField.enc a5.fFields))), (.d (.sl (List.map D.str a5.fSymbols))), (.d (.bool a5.fHas)), (.d (.str a5.fDefault)), (.d (.int .i64 a5.fItems)), (.d (.sl (List.map (D.int .i64) a5.fBranches))), (.d (.int .i64 a5.fSize))])), (1, (.cells [(.d (.sl (List.map byteD a1))), (.d (.int .i64 z.2.2.2.1)), (.d (.int .i64 z.2.2.2.2))])), (4, (.tok ((List.map (rtE (z := 5)) z.2.1).length * 5))), (5, (.tok ((List.map D.str z.2.2.1).length * 1)))]) (fun z => f452_j101 (f452_l10 a0 a1 rc451 a5 a6 a7 a8 k) k r17 a1 z.1 z.2.1 z.2.2.1 z.2.2.2.1 z.2.2.2.2 = some o10) rfl_le ?_ ?_
        · refine AWc.seq ?_
          refine AWc.rE hmix [] ?_
          obtain ⟨o63, h63, h10⟩ := bind_some h10
          refine AWc.block ?_
          refine AWc.loopK (N := 55) 6 (fun (x : (Int × Int × (List (RT 5)) × (List (List UInt8)) × Int × Int)) => [(0, (.ptr 0 0)), (2, (.ptr 2 0)), (3, (.d (.int .i64 a8))), (5, (.ptr 3 0)), (10, (.d (.int .i64 r17.2.1))), (12, (.d (.int .i64 (IntKind.i64.wrap (((a1.length : Nat) : Int) - r17.2.2.2.1))))), (30, (.d (.int .i64 r17.1))), (31, (.d (.int .i64 x.1)))]) (fun x => [(0, (.cells [(.d (.sl (List.map TNode.enc a0))), (.ptr 1 0), (.d (.int .i64 x.2.1))])), (2, (.cells [(.d (.int .i64 a6)), (.d (.int .i64 a7)), .nils, (.ap 4 5 (List.map (rtE (z := 5)) x.2.2.1)), (.ap 5 1 (List.map D.str x.2.2.2.1))])), (3, (.cells [(.d (.int .i64 a5.fKind)), (.d (.str a5.fName)), (.d (.sl (List.map D.str a5.fAliases))), (.d (.sl (List.map TField.enc a5.fFields))), (.d (.sl (List.map D.str a5.fSymbols))), (.d (.bool a5.fHas)), (.d (.str a5.fDefault)), (.d (.int .i64 a5.fItems)), (.d (.sl (List.map (D.int .i64) a5.fBranches))), (.d (.int .i64 a5.fSize))])), (1, (.cells [(.d (.sl (List.map byteD a1))), (.d (.int .i64 x.2.2.2.2.1)), (.d (.int .i64 x.2.2.2.2.2))])), (4, (.tok ((List.map (rtE (z := 5)) x.2.2.1).length * 5))), (5, (.tok ((List.map D.str x.2.2.2.1).length * 1)))]) (fun k x => f452_l63 r17 rc451 a0 a1 a5 a6 a7 a8 k x.1 x.2.1 x.2.2.1 x.2.2.2.1 x.2.2.2.2.1 x.2.2.2.2.2 = some o63) k ((0 : Int), y10_1, y10_2, y10_3, r17.2.2.2.1, r17.2.2.2.2) rfl_le (fun x hx => by cases hx) h63 (inT [] []) ?_
          clear h63
          intro k
          rintro ⟨y63_1, y63_2, y63_3, y63_4, y63_5, y63_6⟩ h63
          dsimp only at h63 ⊢
          rw [f452_l63] at h63
          refine AWc.seq ?_
          refine AWc.rE hmix [] ?_
          refine AWc.seq ?_
          rcases cc h63 with ⟨c70, h63⟩ | ⟨c70, h63⟩
          · refine AWc.cT c70 ?_
            refine AWc.skip ?_
            refine AWc.seq ?_
            refine AWc.block ?_
            refine AWc.seq ?_
            obtain ⟨r82, e82, h63⟩ := bind_some h63
            refine AWc.rE hmix [.call (F455v2 hmix hc.2.2.2.2 hrc451 e82) [(3, 4), (4, 5), (5, 6), (6, 7)] 7] ?_
            refine AWc.seq ?_
            refine AWc.rE hmix [] ?_
            rcases cc h63 with ⟨c89, h63⟩ | ⟨c89, h63⟩
            · refine AWc.cT c89 ?_
              refine AWc.seq ?_
              refine AWc.rE hmix [] ?_
              cases h63
              dsimp only at h10
              cases h10
              dsimp only at h
              have hr := Option.some.inj h
              subst hr
              exact AWc.ret (canQ (N := 55) (k := 5) (l' := [(8, (.d (.int .i64 r82.1)))]) (H' := [(0, (.cells [(.d (.sl (List.map TNode.enc a0))), (.ptr 1 0), (.d (.int .i64 r82.2.1))])), (1, (.cells [(.d (.sl (List.map byteD a1))), (.d (.int .i64 r82.2.2.1)), (.d (.int .i64 r82.2.2.2.1))])), (2, (.cells [(.d (.int .i64 a6)), (.d (.int .i64 a7)), .nils, (.ap 3 5 (List.map (rtE (z := 5)) r82.2.2.2.2.1)), (.ap 4 1 (List.map D.str r82.2.2.2.2.2))])), (3, (.tok ((List.map (rtE (z := 5)) r82.2.2.2.2.1).length * 5))), (4, (.tok ((List.map D.str r82.2.2.2.2.2).length * 1)))]) rfl (inT [(3, 6), (4, 7)] []) (doneA (.inr rfl) rfl ⟨trivial, trivial⟩ (.refl _) (hasCons rfl (hasCons rfl (hasCons rfl (hasCons rfl (hasCons rfl hasNil)))))))
            · refine AWc.cF c89 ?_
              refine AWc.skip ?_
              refine AWc.rE hmix [] ?_
              exact ⟨((IntKind.i64.wrap (y63_1 + (1 : Int))), r82.2.1, r82.2.2.2.2.1, r82.2.2.2.2.2, r82.2.2.1, r82.2.2.2.1), h63, (inT [(4, 6), (5, 7)] [])⟩
          · refine AWc.cF c70 ?_
            cases h63
            dsimp only at h10
            refine AWc.exit ?_
            refine inBlk_eq ?_
            exact ⟨(y63_2, y63_3, y63_4, y63_5, y63_6), h10, (inT [] [])⟩
        · rintro ⟨j101_1, j101_2, j101_3, j101_4, j101_5⟩ h10
          dsimp only at h10 ⊢
          unfold f452_j101 at h10
          refine AWc.seq ?_
          rcases cc h10 with ⟨c106, h10⟩ | ⟨c106, h10⟩
          · obtain ⟨r113, e113, h10⟩ := bind_some h10
            refine AWc.rE hmix [.br c106, .cq (F32 hmix hc.2.2.1 e113) [(0, 1)] 1] ?_
            rcases cc h10 with ⟨c117, h10⟩ | ⟨c117, h10⟩
            · refine AWc.cT c117 ?_
              refine AWc.seq ?_
              refine AWc.rE hmix [] ?_
              cases h10
              dsimp only at h
              have hr := Option.some.inj h
              subst hr
              exact AWc.ret (canQ (N := 55) (k := 5) (l' := [(8, (.d (.int .i64 (4 : Int))))]) (H' := [(0, (.cells [(.d (.sl (List.map TNode.enc a0))), (.ptr 1 0), (.d (.int .i64 j101_1))])), (1, (.cells [(.d (.sl (List.map byteD a1))), (.d (.int .i64 j101_4)), (.d (.int .i64 j101_5))])), (2, (.cells [(.d (.int .i64 a6)), (.d (.int .i64 a7)), .nils, (.ap 3 5 (List.map (rtE (z := 5)) j101_2)), (.ap 4 1 (List.map D.str j101_3))])), (3, (.tok ((List.map (rtE (z := 5)) j101_2).length * 5))), (4, (.tok ((List.map D.str j101_3).length * 1)))]) rfl (inT [(3, 4), (4, 5)] []) (doneA (.inr rfl) rfl ⟨trivial, trivial⟩ (.refl _) (hasCons rfl (hasCons rfl (hasCons rfl (hasCons rfl (hasCons rfl hasNil)))))))
            · refine AWc.cF c117 ?_
              refine AWc.skip ?_
              exact ⟨(j101_1, j101_2, j101_3, j101_4, j101_5), h10, (inT [] [])⟩
          · refine AWc.rE hmix [.br c106] ?_
            refine AWc.cF rfl ?_
            refine AWc.skip ?_
            exact ⟨(j101_1, j101_2, j101_3, j101_4, j101_5), h10, (inT [] [])⟩
  · rintro ⟨x10_1, x10_2, x10_3, x10_4, x10_5⟩ ho
    subst ho
    dsimp only at h ⊢
    refine AWc.seq ?_
    refine AWc.rE hmix [] ?_
    have hr := Option.some.inj h
    subst hr
    exact AWc.ret (canQ (N := 55) (k := 5) (l' := [(8, (.d (.int .i64 (0 : Int))))]) (H' := [(0, (.cells [(.d (.sl (List.map TNode.enc a0))), (.ptr 1 0), (.d (.int .i64 x10_1))])), (1, (.cells [(.d (.sl (List.map byteD a1))), (.d (.int .i64 x10_2)), (.d (.int .i64 x10_3))])), (2, (.cells [(.d (.int .i64 a6)), (.d (.int .i64 a7)), .nils, (.ap 3 5 (List.map (rtE (z := 5)) x10_4)), (.ap 4 1 (List.map D.str x10_5))])), (3, (.tok ((List.map (rtE (z := 5)) x10_4).length * 5))), (4, (.tok ((List.map D.str x10_5).length * 1)))]) rfl (inT [] []) (doneA (.inr rfl) rfl ⟨trivial, trivial⟩ (.refl _) (hasCons rfl (hasCons rfl (hasCons rfl (hasCons rfl (hasCons rfl hasNil)))))))
/-- (*courant/codec.taker).raw -/
def C466 (N : Nat → Nat) : AFunc := { n := 19, params := 2, res := [.tmp 4, .tmp 5], body :=
 (.seq (.region false [⟨(some 4), .mv (.k .nils), none, []⟩,
   ⟨(some 5), .mv (.k (.d (.int .i64 0))), none, [0]⟩])
  (.seq (.region false [⟨(some 7), .mv (.t 0), none, []⟩,
    ⟨(some 8), .nilchk (.t 7), none, [0]⟩,
    ⟨(some 9), .faddr (.t 8) 1, none, [1]⟩,
    ⟨(some 10), .load (.t 9) 1 false, none, [2]⟩,
    ⟨(some 11), .mv (.t 1), none, []⟩,
    ⟨(some 12), .call (.k (.d (.fn (N 41)))) [(.t 10), (.t 11)], none, [3, 4]⟩,
    ⟨(some 6), .mv (.t 12), none, [5, 0, 1, 2, 3, 4]⟩])
   (.seq (.region false [⟨(some 13), .mv (.t 6), none, []⟩,
     ⟨(some 14), .mv (.t 0), none, []⟩,
     ⟨(some 15), .nilchk (.t 14), none, [1]⟩,
     ⟨(some 16), .faddr (.t 15) 1, none, [2]⟩,
     ⟨(some 17), .load (.t 16) 1 false, none, [3]⟩,
     ⟨(some 18), .call (.k (.d (.fn (N 42)))) [(.t 17)], none, [4]⟩,
     ⟨(some 4), .mv (.t 13), none, [0, 5]⟩,
     ⟨(some 5), .mv (.t 18), none, [5, 6, 0, 1, 2, 3, 4]⟩])
    .ret))) }
def HC466 (P : Program) (N : Nat → Nat) : Prop := HasF P (N 466) (C466 N) ∧ HC41 P N ∧ HC42 P N
def f466 (k : Nat) (a0 : (List TNode)) (a1 : (List UInt8)) (a2 : Int) (a3 : Int) (a4 : Int) (a5 : Int) : Option ((List UInt8) × Int × Int × Int) := (f41 k a1 a2 a3 a5).bind fun r14 => (f42 k a1 r14.2.1 r14.2.2).bind fun r24 => some (r14.1, r14.2.2, r14.2.1, r14.2.2)
theorem F466 {P : Program} {N : Nat → Nat} (hmix : P.follows .mixedOrders = true) (hc : HC466 P N) {k : Nat} {a0 : (List TNode)} {a1 : (List UInt8)} {a2 : Int} {a3 : Int} {a4 : Int} {a5 : Int} {r : ((List UInt8) × Int × Int × Int)} (h : f466 k a0 a1 a2 a3 a4 a5 = some r) :
    ACalls P (N 466) [(.ptr 0 0), (.d (.int .i64 a5))] [(0, (.cells [(.d (.sl (List.map TNode.enc a0))), (.ptr 1 0), (.d (.int .i64 a4))])), (1, (.cells [(.d (.sl (List.map byteD a1))), (.d (.int .i64 a2)), (.d (.int .i64 a3))]))] (.tup [(.ap 2 1 (List.map byteD r.1)), (.d (.int .i64 r.2.1))]) [(2, (.tok ((List.map byteD r.1).length * 1))), (0, (.cells [(.d (.sl (List.map TNode.enc a0))), (.ptr 1 0), (.d (.int .i64 a4))])), (1, (.cells [(.d (.sl (List.map byteD a1))), (.d (.int .i64 r.2.2.1)), (.d (.int .i64 r.2.2.2))]))] := by
  refine acalls_canon (F := C466 N) hc.1 2 3 rfl ?_
  unfold f466 at h
  dsimp only [C466, startL]
  refine AWc.seq ?_
  refine AWc.rE hmix [] ?_
  refine AWc.seq ?_
  obtain ⟨r14, e14, h⟩ := bind_some h
  refine AWc.rE hmix [.call (F41 hmix hc.2.1 e14) [(0, 1), (1, 2)] 2] ?_
  refine AWc.seq ?_
  obtain ⟨r24, e24, h⟩ := bind_some h
  refine AWc.rE hmix [.cq (F42 hmix hc.2.2 e24) [(0, 1)] 1] ?_
  have hr := Option.some.inj h
  subst hr
  exact AWc.ret (canQ (N := 19) (k := 3) (l' := [(4, (.ap 2 1 (List.map byteD r14.1))), (5, (.d (.int .i64 r14.2.2)))]) (H' := [(2, (.tok ((List.map byteD r14.1).length * 1))), (0, (.cells [(.d (.sl (List.map TNode.enc a0))), (.ptr 1 0), (.d (.int .i64 a4))])), (1, (.cells [(.d (.sl (List.map byteD a1))), (.d (.int .i64 r14.2.1)), (.d (.int .i64 r14.2.2))]))]) rfl (inT [] []) (doneA (.inr rfl) rfl ⟨trivial, ⟨trivial, trivial⟩⟩ (.refl _) (hasCons rfl (hasCons rfl (hasCons rfl hasNil)))))
/-- (*courant/codec.taker).single -/
def C465 (N : Nat → Nat) : AFunc := { n := 114, params := 3, res := [.tmp 6], body :=
 (.seq (.region false [⟨(some 4), .box (.t 1), none, []⟩,
   ⟨(some 6), .mv (.k (.d (.int .i64 0))), none, []⟩])
  (.seq (.seq (.region false [⟨(some 8), .faddr (.t 4) 0, none, []⟩,
     ⟨(some 9), .load (.t 8) 1 false, none, [0]⟩])
    (.block 0 (.seq (.region false [⟨(some 11), .bin .eql (.t 9) (.k (.d (.int .i64 2))), none, []⟩,
       ⟨(some 10), .mv (.t 11), none, [0]⟩])
      (.cond (.t 10) (.seq (.region false [⟨(some 7), .mv (.k .nils), none, []⟩])
        (.seq (.seq (.region false [⟨(some 13), .mv (.t 0), none, []⟩,
           ⟨(some 14), .call (.k (.d (.fn (N 466)))) [(.t 13), (.k (.d (.int .i64 1)))], none, [0]⟩,
           ⟨(some 12), .mv (.t 14), none, [1]⟩,
           ⟨(some 15), .ext (.t 12) 0, none, [2]⟩,
           ⟨(some 16), .ext (.t 12) 1, none, [2]⟩,
           ⟨(some 7), .mv (.t 15), none, [3, 1, 0, 2]⟩,
           ⟨(some 6), .mv (.t 16), none, [4, 5, 0, 1, 2, 3]⟩])
          (.seq (.region false [⟨(some 17), .mv (.t 6), none, []⟩,
            ⟨(some 18), .bin .eql (.t 17) (.k (.d (.int .i64 0))), none, [0]⟩])
           (.cond (.t 18) (.region false [⟨(some 19), .mv (.t 2), none, []⟩,
             ⟨(some 20), .mv (.t 7), none, []⟩,
             ⟨(some 21), .iaddr (.t 20) (.k (.d (.int .i64 0))) 1, none, [1]⟩,
             ⟨(some 22), .load (.t 21) 1 false, none, [2]⟩,
             ⟨(some 23), .cvi .i64 (.t 22), none, [3]⟩,
             ⟨(some 24), .nilchk (.t 19), none, [0, 1, 2, 3, 4]⟩,
             ⟨(some 25), .faddr (.t 24) 1, none, [5, 0, 1, 2, 3, 4]⟩,
             ⟨none, .store (.t 25) (.t 23) 1, none, [6, 4, 0, 1, 2, 3]⟩])
            (.skip))))
         (.seq (.region false [⟨(some 26), .mv (.t 2), none, []⟩,
           ⟨(some 27), .nilchk (.t 26), none, [0]⟩,
           ⟨(some 28), .faddr (.t 27) 1, none, [1]⟩,
           ⟨(some 29), .load (.t 28) 1 false, none, [2]⟩,
           ⟨(some 30), .bin .gtr (.t 29) (.k (.d (.int .i64 1))), none, [3]⟩])
          (.cond (.t 30) (.seq (.region false [⟨(some 6), .mv (.k (.d (.int .i64 4))), none, []⟩])
            .ret)
           (.skip)))))
       (.seq (.region false [⟨(some 32), .bin .eql (.t 9) (.k (.d (.int .i64 3))), none, []⟩,
         ⟨(some 31), .mv (.t 32), none, [0]⟩])
        (.cond (.t 31) (.region false [⟨(some 34), .mv (.t 2), none, []⟩,
          ⟨(some 35), .mv (.t 0), none, []⟩,
          ⟨(some 36), .call (.k (.d (.fn (N 454)))) [(.t 35), (.k (.d (.int .i64 (-2147483648)))), (.k (.d (.int .i64 2147483647)))], none, [1]⟩,
          ⟨(some 33), .mv (.t 36), none, [2]⟩,
          ⟨(some 37), .ext (.t 33) 0, none, [3]⟩,
          ⟨(some 38), .ext (.t 33) 1, none, [3]⟩,
          ⟨(some 39), .nilchk (.t 34), none, [0, 1, 2, 3, 4]⟩,
          ⟨(some 40), .faddr (.t 39) 1, none, [6, 0, 1, 2, 3, 4]⟩,
          ⟨none, .store (.t 40) (.t 37) 1, none, [7, 4, 2, 0, 1, 3]⟩,
          ⟨(some 6), .mv (.t 38), none, [5, 8, 0, 1, 2, 3, 4, 6, 7]⟩])
         (.seq (.region false [⟨(some 42), .bin .eql (.t 9) (.k (.d (.int .i64 4))), none, []⟩,
           ⟨(some 41), .mv (.t 42), none, [0]⟩])
          (.cond (.t 41) (.region false [⟨(some 44), .mv (.t 2), none, []⟩,
            ⟨(some 45), .mv (.t 0), none, []⟩,
            ⟨(some 46), .call (.k (.d (.fn (N 454)))) [(.t 45), (.k (.d (.int .i64 (-9223372036854775808)))), (.k (.d (.int .i64 9223372036854775807)))], none, [1]⟩,
            ⟨(some 43), .mv (.t 46), none, [2]⟩,
            ⟨(some 47), .ext (.t 43) 0, none, [3]⟩,
            ⟨(some 48), .ext (.t 43) 1, none, [3]⟩,
            ⟨(some 49), .nilchk (.t 44), none, [0, 1, 2, 3, 4]⟩,
            ⟨(some 50), .faddr (.t 49) 1, none, [6, 0, 1, 2, 3, 4]⟩,
            ⟨none, .store (.t 50) (.t 47) 1, none, [7, 4, 2, 0, 1, 3]⟩,
            ⟨(some 6), .mv (.t 48), none, [5, 8, 0, 1, 2, 3, 4, 6, 7]⟩])
           (.seq (.region false [⟨(some 52), .bin .eql (.t 9) (.k (.d (.int .i64 10))), none, []⟩,
             ⟨(some 51), .mv (.t 52), none, [0]⟩])
            (.cond (.t 51) (.region false [⟨(some 54), .mv (.t 2), none, []⟩,
              ⟨(some 55), .mv (.t 0), none, []⟩,
              ⟨(some 56), .faddr (.t 4) 4, none, []⟩,
              ⟨(some 57), .load (.t 56) 1 false, none, [2]⟩,
              ⟨(some 58), .len (.t 57), none, [3]⟩,
              ⟨(some 59), .bin .sub (.t 58) (.k (.d (.int .i64 1))), none, [4]⟩,
              ⟨(some 60), .call (.k (.d (.fn (N 454)))) [(.t 55), (.k (.d (.int .i64 0))), (.t 59)], none, [1, 5]⟩,
              ⟨(some 53), .mv (.t 60), none, [6]⟩,
              ⟨(some 61), .ext (.t 53) 0, none, [7]⟩,
              ⟨(some 62), .ext (.t 53) 1, none, [7]⟩,
              ⟨(some 63), .nilchk (.t 54), none, [0, 1, 2, 3, 4, 5, 6, 7, 8]⟩,
              ⟨(some 64), .faddr (.t 63) 1, none, [10, 0, 1, 2, 3, 4, 5, 6, 7, 8]⟩,
              ⟨none, .store (.t 64) (.t 61) 1, none, [11, 8, 6, 0, 1, 2, 3, 4, 5, 7]⟩,
              ⟨(some 6), .mv (.t 62), none, [9, 12, 0, 1, 2, 3, 4, 5, 6, 7, 8, 10, 11]⟩])
             (.seq (.region false [⟨(some 66), .bin .eql (.t 9) (.k (.d (.int .i64 5))), none, []⟩,
               ⟨(some 65), .mv (.t 66), none, [0]⟩])
              (.cond (.t 65) (.region false [⟨(some 68), .mv (.t 2), none, []⟩,
                ⟨(some 69), .mv (.t 0), none, []⟩,
                ⟨(some 70), .call (.k (.d (.fn (N 466)))) [(.t 69), (.k (.d (.int .i64 4)))], none, [1]⟩,
                ⟨(some 67), .mv (.t 70), none, [2]⟩,
                ⟨(some 71), .ext (.t 67) 0, none, [3]⟩,
                ⟨(some 72), .ext (.t 67) 1, none, [3]⟩,
                ⟨(some 73), .nilchk (.t 68), none, [0, 1, 2, 3, 4]⟩,
                ⟨(some 74), .faddr (.t 73) 2, none, [6, 0, 1, 2, 3, 4]⟩,
                ⟨none, .store (.t 74) (.t 71) 1, none, [7, 4, 2, 0, 1, 3]⟩,
                ⟨(some 6), .mv (.t 72), none, [5, 8, 0, 1, 2, 3, 4, 6, 7]⟩])
               (.seq (.region false [⟨(some 76), .bin .eql (.t 9) (.k (.d (.int .i64 6))), none, []⟩,
                 ⟨(some 75), .mv (.t 76), none, [0]⟩])
                (.cond (.t 75) (.region false [⟨(some 78), .mv (.t 2), none, []⟩,
                  ⟨(some 79), .mv (.t 0), none, []⟩,
                  ⟨(some 80), .call (.k (.d (.fn (N 466)))) [(.t 79), (.k (.d (.int .i64 8)))], none, [1]⟩,
                  ⟨(some 77), .mv (.t 80), none, [2]⟩,
                  ⟨(some 81), .ext (.t 77) 0, none, [3]⟩,
                  ⟨(some 82), .ext (.t 77) 1, none, [3]⟩,
                  ⟨(some 83), .nilchk (.t 78), none, [0, 1, 2, 3, 4]⟩,
                  ⟨(some 84), .faddr (.t 83) 2, none, [6, 0, 1, 2, 3, 4]⟩,
                  ⟨none, .store (.t 84) (.t 81) 1, none, [7, 4, 2, 0, 1, 3]⟩,
                  ⟨(some 6), .mv (.t 82), none, [5, 8, 0, 1, 2, 3, 4, 6, 7]⟩])
                 (.seq (.region false [⟨(some 86), .bin .eql (.t 9) (.k (.d (.int .i64 14))), none, []⟩,
                   ⟨(some 85), .mv (.t 86), none, [0]⟩])
                  (.cond (.t 85) (.region false [⟨(some 88), .mv (.t 2), none, []⟩,
                    ⟨(some 89), .mv (.t 0), none, []⟩,
                    ⟨(some 90), .faddr (.t 4) 9, none, []⟩,
                    ⟨(some 91), .load (.t 90) 1 false, none, [2]⟩,
                    ⟨(some 92), .call (.k (.d (.fn (N 466)))) [(.t 89), (.t 91)], none, [1, 3]⟩,
                    ⟨(some 87), .mv (.t 92), none, [4]⟩,
                    ⟨(some 93), .ext (.t 87) 0, none, [5]⟩,
                    ⟨(some 94), .ext (.t 87) 1, none, [5]⟩,
                    ⟨(some 95), .nilchk (.t 88), none, [0, 1, 2, 3, 4, 5, 6]⟩,
                    ⟨(some 96), .faddr (.t 95) 2, none, [8, 0, 1, 2, 3, 4, 5, 6]⟩,
                    ⟨none, .store (.t 96) (.t 93) 1, none, [9, 6, 4, 0, 1, 2, 3, 5]⟩,
                    ⟨(some 6), .mv (.t 94), none, [7, 10, 0, 1, 2, 3, 4, 5, 6, 8, 9]⟩])
                   (.seq (.seq (.region false [⟨(some 98), .bin .eql (.t 9) (.k (.d (.int .i64 7))), none, []⟩,
                      ⟨(some 97), .mv (.t 98), none, [0]⟩])
                     (.cond (.t 97) (.skip)
                      (.region false [⟨(some 99), .bin .eql (.t 9) (.k (.d (.int .i64 8))), none, []⟩,
                       ⟨(some 97), .mv (.t 99), none, [0]⟩])))
                    (.cond (.t 97) (.region false [⟨(some 101), .mv (.t 2), none, []⟩,
                      ⟨(some 102), .mv (.t 0), none, []⟩,
                      ⟨(some 103), .faddr (.t 4) 0, none, []⟩,
                      ⟨(some 104), .load (.t 103) 1 false, none, [2]⟩,
                      ⟨(some 105), .bin .eql (.t 104) (.k (.d (.int .i64 8))), none, [3]⟩,
                      ⟨(some 106), .call (.k (.d (.fn (N 456)))) [(.t 102), (.t 105)], none, [1, 4]⟩,
                      ⟨(some 100), .mv (.t 106), none, [5]⟩,
                      ⟨(some 107), .ext (.t 100) 0, none, [6]⟩,
                      ⟨(some 108), .ext (.t 100) 1, none, [6]⟩,
                      ⟨(some 109), .nilchk (.t 101), none, [0, 1, 2, 3, 4, 5, 6, 7]⟩,
                      ⟨(some 110), .faddr (.t 109) 2, none, [9, 0, 1, 2, 3, 4, 5, 6, 7]⟩,
                      ⟨none, .store (.t 110) (.t 107) 1, none, [10, 7, 5, 0, 1, 2, 3, 4, 6]⟩,
                      ⟨(some 6), .mv (.t 108), none, [8, 11, 0, 1, 2, 3, 4, 5, 6, 7, 9, 10]⟩])
                     (.seq (.region false [⟨(some 112), .bin .eql (.t 9) (.k (.d (.int .i64 1))), none, []⟩,
                       ⟨(some 111), .mv (.t 112), none, [0]⟩])
                      (.cond (.t 111) (.skip)
                       (.region false [⟨(some 6), .mv (.k (.d (.int .i64 9))), none, []⟩])))))))))))))))))))))
   (.seq (.region false [⟨(some 113), .mv (.t 6), none, []⟩,
     ⟨(some 6), .mv (.t 113), none, [0]⟩])
    .ret))) }
def HC465 (P : Program) (N : Nat → Nat) : Prop := HasF P (N 465) (C465 N) ∧ HC466 P N ∧ HC454 P N ∧ HC456 P N
def f465_j51 (k : Nat) (j51_1 : Int) (j51_2 : Int) (j51_3 : Int) (j51_4 : Int) : Option (Int × Int × Int × Int × (List UInt8)) := cond (decide (j51_2 > (1 : Int))) (some ((4 : Int), j51_3, j51_4, j51_2, ([] : List UInt8))) (some (j51_1, j51_3, j51_4, j51_2, ([] : List UInt8)))
def f465_j192 (k : Nat) (a0 : (List TNode)) (a1 : (List UInt8)) (a2 : Int) (a3 : Int) (a4 : Int) (a5 : TNode) (a7 : Int) (j192_1 : Bool) : Option (Int × Int × Int × Int × (List UInt8)) := cond j192_1 ((f456 k a0 a1 a2 a3 a4 (decide (a5.fKind = (8 : Int)))).bind fun r200 => some (r200.2.1, r200.2.2.1, r200.2.2.2, a7, r200.1)) (cond (decide (a5.fKind = (1 : Int))) (some ((0 : Int), a2, a3, a7, ([] : List UInt8))) (some ((9 : Int), a2, a3, a7, ([] : List UInt8))))
def f465 (k : Nat) (a0 : (List TNode)) (a1 : (List UInt8)) (a2 : Int) (a3 : Int) (a4 : Int) (a5 : TNode) (a6 : Int) (a7 : Int) : Option (Int × Int × Int × Int × (List UInt8)) := cond (decide (a5.fKind = (2 : Int))) ((f466 k a0 a1 a2 a3 a4 (1 : Int)).bind fun r28 => cond (decide (r28.2.1 = (0 : Int))) (gd (0 ≤ (0 : Int) ∧ (0 : Int) < ((r28.1.length : Nat) : Int)) (f465_j51 k r28.2.1 (IntKind.i64.wrap (((rd r28.1 (0 : Int)).toNat : Nat) : Int)) r28.2.2.1 r28.2.2.2)) (f465_j51 k r28.2.1 a7 r28.2.2.1 r28.2.2.2)) (cond (decide (a5.fKind = (3 : Int))) ((f454 k a0 a1 a2 a3 a4 (-2147483648 : Int) (2147483647 : Int)).bind fun r76 => some (r76.2.1, r76.2.2.1, r76.2.2.2, r76.1, ([] : List UInt8))) (cond (decide (a5.fKind = (4 : Int))) ((f454 k a0 a1 a2 a3 a4 (-9223372036854775808 : Int) (9223372036854775807 : Int)).bind fun r94 => some (r94.2.1, r94.2.2.1, r94.2.2.2, r94.1, ([] : List UInt8))) (cond (decide (a5.fKind = (10 : Int))) ((f454 k a0 a1 a2 a3 a4 (0 : Int) (IntKind.i64.wrap (((a5.fSymbols.length : Nat) : Int) - (1 : Int)))).bind fun r116 => some (r116.2.1, r116.2.2.1, r116.2.2.2, r116.1, ([] : List UInt8))) (cond (decide (a5.fKind = (5 : Int))) ((f466 k a0 a1 a2 a3 a4 (4 : Int)).bind fun r134 => some (r134.2.1, r134.2.2.1, r134.2.2.2, a7, r134.1)) (cond (decide (a5.fKind = (6 : Int))) ((f466 k a0 a1 a2 a3 a4 (8 : Int)).bind fun r152 => some (r152.2.1, r152.2.2.1, r152.2.2.2, a7, r152.1)) (cond (decide (a5.fKind = (14 : Int))) ((f466 k a0 a1 a2 a3 a4 a5.fSize).bind fun r172 => some (r172.2.1, r172.2.2.1, r172.2.2.2, a7, r172.1)) (cond (decide (a5.fKind = (7 : Int))) (f465_j192 k a0 a1 a2 a3 a4 a5 a7 (decide (a5.fKind = (7 : Int)))) (f465_j192 k a0 a1 a2 a3 a4 a5 a7 (decide (a5.fKind = (8 : Int)))))))))))
theorem F465 {P : Program} {N : Nat → Nat} (hmix : P.follows .mixedOrders = true) (hc : HC465 P N) {k : Nat} {a0 : (List TNode)} {a1 : (List UInt8)} {a2 : Int} {a3 : Int} {a4 : Int} {a5 : TNode} {a6 : Int} {a7 : Int} {r : (Int × Int × Int × Int × (List UInt8))} (h : f465 k a0 a1 a2 a3 a4 a5 a6 a7 = some r) :
    ACalls P (N 465) [(.ptr 0 0), (.d (TNode.enc a5)), (.ptr 2 0)] [(0, (.cells [(.d (.sl (List.map TNode.enc a0))), (.ptr 1 0), (.d (.int .i64 a4))])), (1, (.cells [(.d (.sl (List.map byteD a1))), (.d (.int .i64 a2)), (.d (.int .i64 a3))])), (2, (.cells [(.d (.int .i64 a6)), (.d (.int .i64 a7)), .nils, .nils, .nils]))] (.d (.int .i64 r.1)) [(0, (.cells [(.d (.sl (List.map TNode.enc a0))), (.ptr 1 0), (.d (.int .i64 a4))])), (1, (.cells [(.d (.sl (List.map byteD a1))), (.d (.int .i64 r.2.1)), (.d (.int .i64 r.2.2.1))])), (2, (.cells [(.d (.int .i64 a6)), (.d (.int .i64 r.2.2.2.1)), (.ap 3 1 (List.map byteD r.2.2.2.2)), .nils, .nils])), (3, (.tok ((List.map byteD r.2.2.2.2).length * 1)))] := by
  refine acalls_canon (F := C465 N) hc.1 3 4 rfl ?_
  unfold f465 at h
  dsimp only [C465, startL]
  refine AWc.seq ?_
  refine AWc.rE hmix [] ?_
  refine AWc.seq ?_
  refine AWc.seq ?_
  refine AWc.rE hmix [] ?_
  refine AWc.block ?_
  refine AWc.seq ?_
  refine AWc.rE hmix [] ?_
  rcases cc h with ⟨c18, h⟩ | ⟨c18, h⟩
  · refine AWc.cT c18 ?_
    refine AWc.seq ?_
    refine AWc.rE hmix [] ?_
    refine AWc.seqS (N := 114) 3 (fun (z : (Int × Int × Int × Int)) => [(2, (.ptr 2 0)), (6, (.d (.int .i64 z.1)))]) (fun z => [(2, (.cells [(.d (.int .i64 a6)), (.d (.int .i64 z.2.1)), .nils, .nils, .nils])), (0, (.cells [(.d (.sl (List.map TNode.enc a0))), (.ptr 1 0), (.d (.int .i64 a4))])), (1, (.cells [(.d (.sl (List.map byteD a1))), (.d (.int .i64 z.2.2.1)), (.d (.int .i64 z.2.2.2))]))]) (fun z => f465_j51 k z.1 z.2.1 z.2.2.1 z.2.2.2 = some r) rfl_le ?_ ?_
    · refine AWc.seq ?_
      obtain ⟨r28, e28, h⟩ := bind_some h
      refine AWc.rE hmix [.call (F466 hmix hc.2.1 e28) [(2, 4)] 3] ?_
      refine AWc.seq ?_
      refine AWc.rE hmix [] ?_
      rcases cc h with ⟨c39, h⟩ | ⟨c39, h⟩
      · refine AWc.cT c39 ?_
        obtain ⟨b44, h⟩ := gd_some h
        refine AWc.rE hmix [.iad byteD r28.1 1 (fun _ => rfl) b44] ?_
        exact ⟨(r28.2.1, (IntKind.i64.wrap (((rd r28.1 (0 : Int)).toNat : Nat) : Int)), r28.2.2.1, r28.2.2.2), h, (inT [] [])⟩
      · refine AWc.cF c39 ?_
        refine AWc.skip ?_
        exact ⟨(r28.2.1, a7, r28.2.2.1, r28.2.2.2), h, (inT [] [])⟩
    · rintro ⟨j51_1, j51_2, j51_3, j51_4⟩ h
      dsimp only at h ⊢
      unfold f465_j51 at h
      refine AWc.seq ?_
      refine AWc.rE hmix [] ?_
      rcases cc h with ⟨c59, h⟩ | ⟨c59, h⟩
      · refine AWc.cT c59 ?_
        refine AWc.seq ?_
        refine AWc.rE hmix [] ?_
        have hr := Option.some.inj h
        subst hr
        exact AWc.ret (canQ (N := 114) (k := 4) (l' := [(6, (.d (.int .i64 (4 : Int))))]) (H' := [(0, (.cells [(.d (.sl (List.map TNode.enc a0))), (.ptr 1 0), (.d (.int .i64 a4))])), (1, (.cells [(.d (.sl (List.map byteD a1))), (.d (.int .i64 j51_3)), (.d (.int .i64 j51_4))])), (2, (.cells [(.d (.int .i64 a6)), (.d (.int .i64 j51_2)), (.ap 3 1 (List.map byteD ([] : List UInt8))), .nils, .nils])), (3, (.tok ((List.map byteD ([] : List UInt8)).length * 1)))]) rfl (inT [(3, 3)] [.tok 0]) (doneA (.inr rfl) rfl ⟨trivial, trivial⟩ (.refl _) (hasCons rfl (hasCons rfl (hasCons rfl (hasCons rfl hasNil))))))
      · refine AWc.cF c59 ?_
        refine AWc.skip ?_
        refine AWc.seq ?_
        refine AWc.rE hmix [] ?_
        have hr := Option.some.inj h
        subst hr
        exact AWc.ret (canQ (N := 114) (k := 4) (l' := [(6, (.d (.int .i64 j51_1)))]) (H' := [(0, (.cells [(.d (.sl (List.map TNode.enc a0))), (.ptr 1 0), (.d (.int .i64 a4))])), (1, (.cells [(.d (.sl (List.map byteD a1))), (.d (.int .i64 j51_3)), (.d (.int .i64 j51_4))])), (2, (.cells [(.d (.int .i64 a6)), (.d (.int .i64 j51_2)), (.ap 3 1 (List.map byteD ([] : List UInt8))), .nils, .nils])), (3, (.tok ((List.map byteD ([] : List UInt8)).length * 1)))]) rfl (inT [(3, 3)] [.tok 0]) (doneA (.inr rfl) rfl ⟨trivial, trivial⟩ (.refl _) (hasCons rfl (hasCons rfl (hasCons rfl (hasCons rfl hasNil))))))
  · refine AWc.cF c18 ?_
    refine AWc.seq ?_
    refine AWc.rE hmix [] ?_
    rcases cc h with ⟨c71, h⟩ | ⟨c71, h⟩
    · refine AWc.cT c71 ?_
      obtain ⟨r76, e76, h⟩ := bind_some h
      refine AWc.rE hmix [.call (F454 hmix hc.2.2.1 e76) [] 2] ?_
      refine AWc.seq ?_
      refine AWc.rE hmix [] ?_
      have hr := Option.some.inj h
      subst hr
      exact AWc.ret (canQ (N := 114) (k := 4) (l' := [(6, (.d (.int .i64 r76.2.1)))]) (H' := [(0, (.cells [(.d (.sl (List.map TNode.enc a0))), (.ptr 1 0), (.d (.int .i64 a4))])), (1, (.cells [(.d (.sl (List.map byteD a1))), (.d (.int .i64 r76.2.2.1)), (.d (.int .i64 r76.2.2.2))])), (2, (.cells [(.d (.int .i64 a6)), (.d (.int .i64 r76.1)), (.ap 3 1 (List.map byteD ([] : List UInt8))), .nils, .nils])), (3, (.tok ((List.map byteD ([] : List UInt8)).length * 1)))]) rfl (inT [(3, 4)] [.tok 0]) (doneA (.inr rfl) rfl ⟨trivial, trivial⟩ (.refl _) (hasCons rfl (hasCons rfl (hasCons rfl (hasCons rfl hasNil))))))
    · refine AWc.cF c71 ?_
      refine AWc.seq ?_
      refine AWc.rE hmix [] ?_
      rcases cc h with ⟨c89, h⟩ | ⟨c89, h⟩
      · refine AWc.cT c89 ?_
        obtain ⟨r94, e94, h⟩ := bind_some h
        refine AWc.rE hmix [.call (F454 hmix hc.2.2.1 e94) [] 2] ?_
        refine AWc.seq ?_
        refine AWc.rE hmix [] ?_
        have hr := Option.some.inj h
        subst hr
        exact AWc.ret (canQ (N := 114) (k := 4) (l' := [(6, (.d (.int .i64 r94.2.1)))]) (H' := [(0, (.cells [(.d (.sl (List.map TNode.enc a0))), (.ptr 1 0), (.d (.int .i64 a4))])), (1, (.cells [(.d (.sl (List.map byteD a1))), (.d (.int .i64 r94.2.2.1)), (.d (.int .i64 r94.2.2.2))])), (2, (.cells [(.d (.int .i64 a6)), (.d (.int .i64 r94.1)), (.ap 3 1 (List.map byteD ([] : List UInt8))), .nils, .nils])), (3, (.tok ((List.map byteD ([] : List UInt8)).length * 1)))]) rfl (inT [(3, 4)] [.tok 0]) (doneA (.inr rfl) rfl ⟨trivial, trivial⟩ (.refl _) (hasCons rfl (hasCons rfl (hasCons rfl (hasCons rfl hasNil))))))
      · refine AWc.cF c89 ?_
        refine AWc.seq ?_
        refine AWc.rE hmix [] ?_
        rcases cc h with ⟨c107, h⟩ | ⟨c107, h⟩
        · refine AWc.cT c107 ?_
          obtain ⟨r116, e116, h⟩ := bind_some h
          refine AWc.rE hmix [.ln D.str a5.fSymbols, .call (F454 hmix hc.2.2.1 e116) [] 2] ?_
          refine AWc.seq ?_
          refine AWc.rE hmix [] ?_
          have hr := Option.some.inj h
          subst hr
          exact AWc.ret (canQ (N := 114) (k := 4) (l' := [(6, (.d (.int .i64 r116.2.1)))]) (H' := [(0, (.cells [(.d (.sl (List.map TNode.enc a0))), (.ptr 1 0), (.d (.int .i64 a4))])), (1, (.cells [(.d (.sl (List.map byteD a1))), (.d (.int .i64 r116.2.2.1)), (.d (.int .i64 r116.2.2.2))])), (2, (.cells [(.d (.int .i64 a6)), (.d (.int .i64 r116.1)), (.ap 3 1 (List.map byteD ([] : List UInt8))), .nils, .nils])), (3, (.tok ((List.map byteD ([] : List UInt8)).length * 1)))]) rfl (inT [(3, 4)] [.tok 0]) (doneA (.inr rfl) rfl ⟨trivial, trivial⟩ (.refl _) (hasCons rfl (hasCons rfl (hasCons rfl (hasCons rfl hasNil))))))
        · refine AWc.cF c107 ?_
          refine AWc.seq ?_
          refine AWc.rE hmix [] ?_
          rcases cc h with ⟨c129, h⟩ | ⟨c129, h⟩
          · refine AWc.cT c129 ?_
            obtain ⟨r134, e134, h⟩ := bind_some h
            refine AWc.rE hmix [.call (F466 hmix hc.2.1 e134) [(2, 4)] 3] ?_
            refine AWc.seq ?_
            refine AWc.rE hmix [] ?_
            have hr := Option.some.inj h
            subst hr
            exact AWc.ret (canQ (N := 114) (k := 4) (l' := [(6, (.d (.int .i64 r134.2.1)))]) (H' := [(0, (.cells [(.d (.sl (List.map TNode.enc a0))), (.ptr 1 0), (.d (.int .i64 a4))])), (1, (.cells [(.d (.sl (List.map byteD a1))), (.d (.int .i64 r134.2.2.1)), (.d (.int .i64 r134.2.2.2))])), (2, (.cells [(.d (.int .i64 a6)), (.d (.int .i64 a7)), (.ap 3 1 (List.map byteD r134.1)), .nils, .nils])), (3, (.tok ((List.map byteD r134.1).length * 1)))]) rfl (inT [(3, 4)] []) (doneA (.inr rfl) rfl ⟨trivial, trivial⟩ (.refl _) (hasCons rfl (hasCons rfl (hasCons rfl (hasCons rfl hasNil))))))
          · refine AWc.cF c129 ?_
            refine AWc.seq ?_
            refine AWc.rE hmix [] ?_
            rcases cc h with ⟨c147, h⟩ | ⟨c147, h⟩
            · refine AWc.cT c147 ?_
              obtain ⟨r152, e152, h⟩ := bind_some h
              refine AWc.rE hmix [.call (F466 hmix hc.2.1 e152) [(2, 4)] 3] ?_
              refine AWc.seq ?_
              refine AWc.rE hmix [] ?_
              have hr := Option.some.inj h
              subst hr
              exact AWc.ret (canQ (N := 114) (k := 4) (l' := [(6, (.d (.int .i64 r152.2.1)))]) (H' := [(0, (.cells [(.d (.sl (List.map TNode.enc a0))), (.ptr 1 0), (.d (.int .i64 a4))])), (1, (.cells [(.d (.sl (List.map byteD a1))), (.d (.int .i64 r152.2.2.1)), (.d (.int .i64 r152.2.2.2))])), (2, (.cells [(.d (.int .i64 a6)), (.d (.int .i64 a7)), (.ap 3 1 (List.map byteD r152.1)), .nils, .nils])), (3, (.tok ((List.map byteD r152.1).length * 1)))]) rfl (inT [(3, 4)] []) (doneA (.inr rfl) rfl ⟨trivial, trivial⟩ (.refl _) (hasCons rfl (hasCons rfl (hasCons rfl (hasCons rfl hasNil))))))
            · refine AWc.cF c147 ?_
              refine AWc.seq ?_
              refine AWc.rE hmix [] ?_
              rcases cc h with ⟨c165, h⟩ | ⟨c165, h⟩
              · refine AWc.cT c165 ?_
                obtain ⟨r172, e172, h⟩ := bind_some h
                refine AWc.rE hmix [.call (F466 hmix hc.2.1 e172) [(2, 4)] 3] ?_
                refine AWc.seq ?_
                refine AWc.rE hmix [] ?_
                have hr := Option.some.inj h
                subst hr
                exact AWc.ret (canQ (N := 114) (k := 4) (l' := [(6, (.d (.int .i64 r172.2.1)))]) (H' := [(0, (.cells [(.d (.sl (List.map TNode.enc a0))), (.ptr 1 0), (.d (.int .i64 a4))])), (1, (.cells [(.d (.sl (List.map byteD a1))), (.d (.int .i64 r172.2.2.1)), (.d (.int .i64 r172.2.2.2))])), (2, (.cells [(.d (.int .i64 a6)), (.d (.int .i64 a7)), (.ap 3 1 (List.map byteD r172.1)), .nils, .nils])), (3, (.tok ((List.map byteD r172.1).length * 1)))]) rfl (inT [(3, 4)] []) (doneA (.inr rfl) rfl ⟨trivial, trivial⟩ (.refl _) (hasCons rfl (hasCons rfl (hasCons rfl (hasCons rfl hasNil))))))
              · refine AWc.cF c165 ?_
                refine AWc.seqS (N := 114) 4 (fun (z : Bool) => [(0, (.ptr 0 0)), (2, (.ptr 2 0)), (4, (.ptr 3 0)), (6, (.d (.int .i64 (0 : Int)))), (9, (.d (.int .i64 a5.fKind))), (97, (.d (.bool z)))]) (fun z => [(0, (.cells [(.d (.sl (List.map TNode.enc a0))), (.ptr 1 0), (.d (.int .i64 a4))])), (2, (.cells [(.d (.int .i64 a6)), (.d (.int .i64 a7)), .nils, .nils, .nils])), (3, (.cells [(.d (.int .i64 a5.fKind)), (.d (.str a5.fName)), (.d (.sl (List.map D.str a5.fAliases))), (.d (.sl (List.map TField.enc a5.fFields))), (.d (.sl (List.map D.str a5.fSymbols))), (.d (.bool a5.fHas)), (.d (.str a5.fDefault)), (.d (.int .i64 a5.fItems)), (.d (.sl (List.map (D.int .i64) a5.fBranches))), (.d (.int .i64 a5.fSize))])), (1, (.cells [(.d (.sl (List.map byteD a1))), (.d (.int .i64 a2)), (.d (.int .i64 a3))]))]) (fun z => f465_j192 k a0 a1 a2 a3 a4 a5 a7 z = some r) rfl_le ?_ ?_
                · refine AWc.seq ?_
                  refine AWc.rE hmix [] ?_
                  rcases cc h with ⟨c186, h⟩ | ⟨c186, h⟩
                  · refine AWc.cT c186 ?_
                    refine AWc.skip ?_
                    exact ⟨(decide (a5.fKind = (7 : Int))), h, (inT [] [])⟩
                  · refine AWc.cF c186 ?_
                    refine AWc.rE hmix [] ?_
                    exact ⟨(decide (a5.fKind = (8 : Int))), h, (inT [] [])⟩
                · intro j192_1 h
                  unfold f465_j192 at h
                  rcases cc h with ⟨c192, h⟩ | ⟨c192, h⟩
                  · refine AWc.cT c192 ?_
                    obtain ⟨r200, e200, h⟩ := bind_some h
                    refine AWc.rE hmix [.call (F456 hmix hc.2.2.2 e200) [(2, 4)] 3] ?_
                    refine AWc.seq ?_
                    refine AWc.rE hmix [] ?_
                    have hr := Option.some.inj h
                    subst hr
                    exact AWc.ret (canQ (N := 114) (k := 4) (l' := [(6, (.d (.int .i64 r200.2.1)))]) (H' := [(0, (.cells [(.d (.sl (List.map TNode.enc a0))), (.ptr 1 0), (.d (.int .i64 a4))])), (1, (.cells [(.d (.sl (List.map byteD a1))), (.d (.int .i64 r200.2.2.1)), (.d (.int .i64 r200.2.2.2))])), (2, (.cells [(.d (.int .i64 a6)), (.d (.int .i64 a7)), (.ap 3 1 (List.map byteD r200.1)), .nils, .nils])), (3, (.tok ((List.map byteD r200.1).length * 1)))]) rfl (inT [(3, 4)] []) (doneA (.inr rfl) rfl ⟨trivial, trivial⟩ (.refl _) (hasCons rfl (hasCons rfl (hasCons rfl (hasCons rfl hasNil))))))
                  · refine AWc.cF c192 ?_
                    refine AWc.seq ?_
                    refine AWc.rE hmix [] ?_
                    rcases cc h with ⟨c213, h⟩ | ⟨c213, h⟩
                    · refine AWc.cT c213 ?_
                      refine AWc.skip ?_
                      refine AWc.seq ?_
                      refine AWc.rE hmix [] ?_
                      have hr := Option.some.inj h
                      subst hr
                      exact AWc.ret (canQ (N := 114) (k := 4) (l' := [(6, (.d (.int .i64 (0 : Int))))]) (H' := [(0, (.cells [(.d (.sl (List.map TNode.enc a0))), (.ptr 1 0), (.d (.int .i64 a4))])), (1, (.cells [(.d (.sl (List.map byteD a1))), (.d (.int .i64 a2)), (.d (.int .i64 a3))])), (2, (.cells [(.d (.int .i64 a6)), (.d (.int .i64 a7)), (.ap 3 1 (List.map byteD ([] : List UInt8))), .nils, .nils])), (3, (.tok ((List.map byteD ([] : List UInt8)).length * 1)))]) rfl (inT [(3, 4)] [.tok 0]) (doneA (.inr rfl) rfl ⟨trivial, trivial⟩ (.refl _) (hasCons rfl (hasCons rfl (hasCons rfl (hasCons rfl hasNil))))))
                    · refine AWc.cF c213 ?_
                      refine AWc.rE hmix [] ?_
                      refine AWc.seq ?_
                      refine AWc.rE hmix [] ?_
                      have hr := Option.some.inj h
                      subst hr
                      exact AWc.ret (canQ (N := 114) (k := 4) (l' := [(6, (.d (.int .i64 (9 : Int))))]) (H' := [(0, (.cells [(.d (.sl (List.map TNode.enc a0))), (.ptr 1 0), (.d (.int .i64 a4))])), (1, (.cells [(.d (.sl (List.map byteD a1))), (.d (.int .i64 a2)), (.d (.int .i64 a3))])), (2, (.cells [(.d (.int .i64 a6)), (.d (.int .i64 a7)), (.ap 3 1 (List.map byteD ([] : List UInt8))), .nils, .nils])), (3, (.tok ((List.map byteD ([] : List UInt8)).length * 1)))]) rfl (inT [(3, 4)] [.tok 0]) (doneA (.inr rfl) rfl ⟨trivial, trivial⟩ (.refl _) (hasCons rfl (hasCons rfl (hasCons rfl (hasCons rfl hasNil))))))
/-- (*courant/codec.taker).value -/
def C451 (N : Nat → Nat) : AFunc := { n := 137, params := 3, res := [.cell 6 5 true, .tmp 7], body :=
 (.seq (.region false [⟨(some 6), .alloc [(.int .i64 0), (.int .i64 0), (.sl []), (.sl []), (.sl [])], none, []⟩,
   ⟨(some 7), .mv (.k (.d (.int .i64 0))), none, []⟩])
  (.seq (.seq (.region false [⟨(some 14), .mv (.t 1), none, []⟩,
     ⟨(some 15), .bin .lss (.t 14) (.k (.d (.int .i64 0))), none, [0]⟩,
     ⟨(some 16), .mv (.t 15), none, [1]⟩,
     ⟨(some 17), .mv (.t 1), (some (16, false)), [2]⟩,
     ⟨(some 18), .mv (.t 0), (some (16, false)), [2]⟩,
     ⟨(some 19), .nilchk (.t 18), (some (16, false)), [4, 2]⟩,
     ⟨(some 20), .faddr (.t 19) 0, (some (16, false)), [5, 2]⟩,
     ⟨(some 21), .faddr (.t 20) 0, (some (16, false)), [6, 2]⟩,
     ⟨(some 22), .load (.t 21) 1 false, (some (16, false)), [7, 2]⟩,
     ⟨(some 23), .len (.t 22), (some (16, false)), [8, 2]⟩,
     ⟨(some 24), .bin .geq (.t 17) (.t 23), (some (16, false)), [3, 9, 2]⟩,
     ⟨(some 25), .pick (.t 16) (.k (.d (.bool true))) (.t 24), none, [2, 10]⟩])
    (.cond (.t 25) (.seq (.region false [⟨(some 26), .build [(.int .i64 0), (.int .i64 0), (.sl []), (.sl []), (.sl [])] [], none, []⟩,
       ⟨none, .store (.t 6) (.t 26) 5, none, [0]⟩,
       ⟨(some 7), .mv (.k (.d (.int .i64 9))), none, [1, 0]⟩])
      .ret)
     (.skip)))
   (.seq (.seq (.region false [⟨(some 27), .mv (.t 2), none, []⟩,
      ⟨(some 28), .bin .gtr (.t 27) (.k (.d (.int .i64 64))), none, [0]⟩,
      ⟨(some 29), .mv (.t 28), none, [1]⟩,
      ⟨(some 30), .mv (.t 0), (some (29, false)), [2]⟩,
      ⟨(some 31), .nilchk (.t 30), (some (29, false)), [3, 2]⟩,
      ⟨(some 32), .faddr (.t 31) 2, (some (29, false)), [4, 2]⟩,
      ⟨(some 33), .load (.t 32) 1 false, (some (29, false)), [5, 2]⟩,
      ⟨(some 34), .bin .eql (.t 33) (.k (.d (.int .i64 0))), (some (29, false)), [6, 2]⟩,
      ⟨(some 35), .pick (.t 29) (.k (.d (.bool true))) (.t 34), none, [2, 7]⟩])
     (.cond (.t 35) (.seq (.region false [⟨(some 36), .build [(.int .i64 0), (.int .i64 0), (.sl []), (.sl []), (.sl [])] [], none, []⟩,
        ⟨none, .store (.t 6) (.t 36) 5, none, [0]⟩,
        ⟨(some 7), .mv (.k (.d (.int .i64 5))), none, [1, 0]⟩])
       .ret)
      (.skip)))
    (.seq (.region false [⟨(some 37), .mv (.t 0), none, []⟩,
      ⟨(some 38), .nilchk (.t 37), none, [0]⟩,
      ⟨(some 39), .faddr (.t 38) 2, none, [1]⟩,
      ⟨(some 40), .load (.t 39) 1 false, none, [2]⟩,
      ⟨(some 41), .bin .sub (.t 40) (.k (.d (.int .i64 1))), none, [3]⟩,
      ⟨(some 42), .nilchk (.t 37), none, [0, 1, 2, 3, 4]⟩,
      ⟨(some 43), .faddr (.t 42) 2, none, [5, 0, 1, 2, 3, 4]⟩,
      ⟨none, .store (.t 43) (.t 41) 1, none, [6, 4, 0, 1, 2, 3]⟩])
     (.seq (.region false [⟨(some 44), .mv (.t 0), none, []⟩,
       ⟨(some 45), .nilchk (.t 44), none, [0]⟩,
       ⟨(some 46), .faddr (.t 45) 0, none, [1]⟩,
       ⟨(some 47), .faddr (.t 46) 0, none, [2]⟩,
       ⟨(some 48), .load (.t 47) 1 false, none, [3]⟩,
       ⟨(some 49), .mv (.t 1), none, []⟩,
       ⟨(some 50), .iaddr (.t 48) (.t 49) 10, none, [4, 5]⟩,
       ⟨(some 51), .load (.t 50) 10 true, none, [6]⟩,
       ⟨(some 8), .alloc [(.int .i64 0), (.str []), (.sl []), (.sl []), (.sl []), (.bool false), (.str []), (.int .i64 0), (.sl []), (.int .i64 0)], none, []⟩,
       ⟨none, .store (.t 8) (.t 51) 10, none, [8, 7, 0, 1, 2, 3, 4, 5, 6]⟩])
      (.seq (.region false [⟨(some 52), .faddr (.t 8) 0, none, []⟩,
        ⟨(some 53), .load (.t 52) 1 false, none, [0]⟩,
        ⟨(some 54), .build [(.int .i64 0), (.int .i64 0), (.sl []), (.sl []), (.sl [])] [(0, 1, (.t 53))], none, [1]⟩,
        ⟨(some 9), .alloc [(.int .i64 0), (.int .i64 0), (.sl []), (.sl []), (.sl [])], none, []⟩,
        ⟨none, .store (.t 9) (.t 54) 5, none, [3, 2, 0, 1]⟩,
        ⟨(some 10), .mv (.k (.d (.int .i64 0))), none, [4, 0, 1, 2, 3]⟩])
       (.seq (.seq (.region false [⟨(some 55), .faddr (.t 8) 0, none, []⟩,
          ⟨(some 56), .load (.t 55) 1 false, none, [0]⟩])
         (.block 0 (.seq (.seq (.region false [⟨(some 61), .bin .eql (.t 56) (.k (.d (.int .i64 11))), none, []⟩,
             ⟨(some 60), .mv (.t 61), none, [0]⟩])
            (.cond (.t 60) (.skip)
             (.region false [⟨(some 62), .bin .eql (.t 56) (.k (.d (.int .i64 12))), none, []⟩,
              ⟨(some 60), .mv (.t 62), none, [0]⟩])))
           (.cond (.t 60) (.region false [⟨(some 63), .mv (.t 0), none, []⟩,
             ⟨(some 64), .load (.t 8) 10 true, none, []⟩,
             ⟨(some 65), .mv (.t 2), none, []⟩,
             ⟨(some 66), .bin .add (.t 65) (.k (.d (.int .i64 1))), none, [2]⟩,
             ⟨(some 67), .call (.k (.d (.fn (N 452)))) [(.t 63), (.t 64), (.t 9), (.t 66)], none, [0, 1, 3]⟩,
             ⟨(some 10), .mv (.t 67), none, [4, 0, 1, 2, 3]⟩])
            (.seq (.region false [⟨(some 69), .bin .eql (.t 56) (.k (.d (.int .i64 9))), none, []⟩,
              ⟨(some 68), .mv (.t 69), none, [0]⟩])
             (.cond (.t 68) (.seq (.region false [⟨(some 11), .mv (.k (.d (.int .i64 0))), none, []⟩])
               (.block 1 (.loop (.seq (.seq (.region false [⟨(some 70), .mv (.t 11), none, []⟩,
                    ⟨(some 71), .faddr (.t 8) 3, none, []⟩,
                    ⟨(some 72), .load (.t 71) 1 false, none, [1]⟩,
                    ⟨(some 73), .len (.t 72), none, [2]⟩,
                    ⟨(some 74), .bin .lss (.t 70) (.t 73), none, [0, 3]⟩,
                    ⟨(some 75), .mv (.t 74), none, [4]⟩,
                    ⟨(some 76), .mv (.t 10), (some (75, true)), [5]⟩,
                    ⟨(some 77), .bin .eql (.t 76) (.k (.d (.int .i64 0))), (some (75, true)), [6, 5]⟩,
                    ⟨(some 78), .pick (.t 75) (.t 77) (.k (.d (.bool false))), none, [5, 7]⟩])
                   (.cond (.t 78) (.skip)
                    (.exit 1)))
                  (.seq (.block 2 (.seq (.region false [⟨(some 12), .alloc [(.int .i64 0), (.int .i64 0), (.sl []), (.sl []), (.sl [])], none, []⟩])
                     (.seq (.region false [⟨(some 82), .mv (.t 0), none, []⟩,
                       ⟨(some 83), .faddr (.t 8) 3, none, []⟩,
                       ⟨(some 84), .load (.t 83) 1 false, none, [1]⟩,
                       ⟨(some 85), .mv (.t 11), none, []⟩,
                       ⟨(some 86), .iaddr (.t 84) (.t 85) 5, none, [2, 3]⟩,
                       ⟨(some 87), .faddr (.t 86) 2, none, [4]⟩,
                       ⟨(some 88), .load (.t 87) 1 false, none, [5]⟩,
                       ⟨(some 89), .mv (.t 2), none, []⟩,
                       ⟨(some 90), .bin .add (.t 89) (.k (.d (.int .i64 1))), none, [7]⟩,
                       ⟨(some 91), .call (.k (.d (.fn (N 451)))) [(.t 82), (.t 88), (.t 90)], none, [0, 6, 8]⟩,
                       ⟨(some 81), .mv (.t 91), none, [9]⟩,
                       ⟨(some 92), .ext (.t 81) 0, none, [10]⟩,
                       ⟨(some 93), .ext (.t 81) 1, none, [10]⟩,
                       ⟨none, .store (.t 12) (.t 92) 5, none, [11, 9, 0, 1, 2, 3, 4, 5, 6, 7, 8, 10]⟩,
                       ⟨(some 10), .mv (.t 93), none, [12, 13, 0, 1, 2, 3, 4, 5, 6, 7, 8, 9, 10, 11]⟩])
                      (.region true [⟨(some 94), .faddr (.t 9) 3, none, []⟩,
                       ⟨(some 95), .load (.t 94) 1 false, none, [0]⟩,
                       ⟨(some 96), .load (.t 12) 5 true, none, []⟩,
                       ⟨(some 97), .len (.t 95), none, [1]⟩,
                       ⟨(some 98), .bslice 1 5 [(.int .i64 0), (.int .i64 0), (.sl []), (.sl []), (.sl [])] [(0, (.k (.d (.agg [(.int .i64 0), (.int .i64 0), (.sl []), (.sl []), (.sl [])]))))], none, []⟩,
                       ⟨(some 99), .app (.t 95) (.t 98) 5 88 [(.int .i64 0), (.int .i64 0), (.sl []), (.sl []), (.sl [])], none, [1, 4, 0, 2, 3]⟩,
                       ⟨(some 100), .iaddr (.t 99) (.t 97) 5, none, [5, 3, 0, 1, 2, 4]⟩,
                       ⟨none, .store (.t 100) (.t 96) 5, none, [6, 2, 5, 0, 1, 3, 4]⟩,
                       ⟨(some 101), .faddr (.t 9) 3, none, [0, 1, 2, 3, 4, 5]⟩,
                       ⟨none, .store (.t 101) (.t 99) 1, none, [8, 5, 0, 1, 2, 3, 4]⟩]))))
                   (.region false [⟨(some 79), .mv (.t 11), none, []⟩,
                    ⟨(some 80), .bin .add (.t 79) (.k (.d (.int .i64 1))), none, [0]⟩,
                    ⟨(some 11), .mv (.t 80), none, [1, 0]⟩]))))))
              (.seq (.region false [⟨(some 103), .bin .eql (.t 56) (.k (.d (.int .i64 13))), none, []⟩,
                ⟨(some 102), .mv (.t 103), none, [0]⟩])
               (.cond (.t 102) (.seq (.region false [⟨(some 105), .mv (.t 0), none, []⟩,
                  ⟨(some 106), .faddr (.t 8) 8, none, []⟩,
                  ⟨(some 107), .load (.t 106) 1 false, none, [1]⟩,
                  ⟨(some 108), .len (.t 107), none, [2]⟩,
                  ⟨(some 109), .bin .sub (.t 108) (.k (.d (.int .i64 1))), none, [3]⟩,
                  ⟨(some 110), .call (.k (.d (.fn (N 454)))) [(.t 105), (.k (.d (.int .i64 0))), (.t 109)], none, [0, 4]⟩,
                  ⟨(some 104), .mv (.t 110), none, [5]⟩,
                  ⟨(some 111), .ext (.t 104) 0, none, [6]⟩,
                  ⟨(some 112), .ext (.t 104) 1, none, [6]⟩,
                  ⟨(some 113), .faddr (.t 9) 1, none, [0, 1, 2, 3, 4, 5, 6, 7]⟩,
                  ⟨none, .store (.t 113) (.t 111) 1, none, [9, 7, 5, 0, 1, 2, 3, 4, 6]⟩,
                  ⟨(some 10), .mv (.t 112), none, [8, 10, 0, 1, 2, 3, 4, 5, 6, 7, 9]⟩])
                 (.seq (.region false [⟨(some 114), .mv (.t 10), none, []⟩,
                   ⟨(some 115), .bin .eql (.t 114) (.k (.d (.int .i64 0))), none, [0]⟩])
                  (.cond (.t 115) (.seq (.region false [⟨(some 13), .alloc [(.int .i64 0), (.int .i64 0), (.sl []), (.sl []), (.sl [])], none, []⟩])
                    (.seq (.region false [⟨(some 117), .mv (.t 0), none, []⟩,
                      ⟨(some 118), .faddr (.t 8) 8, none, []⟩,
                      ⟨(some 119), .load (.t 118) 1 false, none, [1]⟩,
                      ⟨(some 120), .faddr (.t 9) 1, none, []⟩,
                      ⟨(some 121), .load (.t 120) 1 false, none, [3]⟩,
                      ⟨(some 122), .iaddr (.t 119) (.t 121) 1, none, [2, 4]⟩,
                      ⟨(some 123), .load (.t 122) 1 false, none, [5]⟩,
                      ⟨(some 124), .mv (.t 2), none, []⟩,
                      ⟨(some 125), .bin .add (.t 124) (.k (.d (.int .i64 1))), none, [7]⟩,
                      ⟨(some 126), .call (.k (.d (.fn (N 451)))) [(.t 117), (.t 123), (.t 125)], none, [0, 6, 8]⟩,
                      ⟨(some 116), .mv (.t 126), none, [9]⟩,
                      ⟨(some 127), .ext (.t 116) 0, none, [10]⟩,
                      ⟨(some 128), .ext (.t 116) 1, none, [10]⟩,
                      ⟨none, .store (.t 13) (.t 127) 5, none, [11, 9, 0, 1, 2, 3, 4, 5, 6, 7, 8, 10]⟩,
                      ⟨(some 10), .mv (.t 128), none, [12, 13, 0, 1, 2, 3, 4, 5, 6, 7, 8, 9, 10, 11]⟩])
                     (.region false [⟨(some 129), .load (.t 13) 5 true, none, []⟩,
                      ⟨(some 130), .bslice 1 5 [(.int .i64 0), (.int .i64 0), (.sl []), (.sl []), (.sl [])] [(0, (.t 129))], none, [0]⟩,
                      ⟨(some 131), .faddr (.t 9) 3, none, [0, 1]⟩,
                      ⟨none, .store (.t 131) (.t 130) 1, none, [2, 1, 0]⟩])))
                   (.skip))))
                (.region false [⟨(some 57), .mv (.t 0), none, []⟩,
                 ⟨(some 58), .load (.t 8) 10 true, none, []⟩,
                 ⟨(some 59), .call (.k (.d (.fn (N 465)))) [(.t 57), (.t 58), (.t 9)], none, [0, 1]⟩,
                 ⟨(some 10), .mv (.t 59), none, [2, 0, 1]⟩])))))))))
        (.seq (.seq (.region false [⟨(some 132), .mv (.t 10), none, []⟩,
           ⟨(some 133), .bin .neq (.t 132) (.k (.d (.int .i64 0))), none, [0]⟩])
          (.cond (.t 133) (.seq (.region false [⟨(some 134), .build [(.int .i64 0), (.int .i64 0), (.sl []), (.sl []), (.sl [])] [], none, []⟩,
             ⟨(some 135), .mv (.t 10), none, []⟩,
             ⟨none, .store (.t 6) (.t 134) 5, none, [0]⟩,
             ⟨(some 7), .mv (.t 135), none, [1, 2, 0]⟩])
            .ret)
           (.skip)))
         (.seq (.region false [⟨(some 136), .load (.t 9) 5 true, none, []⟩,
           ⟨none, .store (.t 6) (.t 136) 5, none, [0]⟩,
           ⟨(some 7), .mv (.k (.d (.int .i64 0))), none, [1, 0]⟩])
          .ret))))))))) }
def HC451 (P : Program) (N : Nat → Nat) : Prop := HasF P (N 451) (C451 N) ∧ HC452 P N ∧ HC454 P N ∧ HC465 P N
def f451_j245 (k : Nat) (j245_1 : Int) (j245_2 : Int) (j245_3 : Int) (j245_4 : (List UInt8)) (j245_5 : (List (RT 5))) (j245_6 : (List (List UInt8))) (j245_7 : Int) (j245_8 : Int) (j245_9 : Int) : Option (Int × Int × Int × (List UInt8) × (List (RT 5)) × (List (List UInt8)) × Int × Int × Int) := cond (decide (j245_1 ≠ (0 : Int))) (some (j245_1, (0 : Int), (0 : Int), ([] : List UInt8), ([] : List (RT 5)), ([] : List (List UInt8)), j245_7, j245_8, j245_9)) (some ((0 : Int), j245_2, j245_3, j245_4, j245_5, j245_6, j245_7, j245_8, j245_9))
def f451_l124 (a0 : (List TNode)) (a5 : Int) (rc451 : (List TNode) → (List UInt8) → Int → Int → Int → Int → Int → Option (Int × Int × Int × (List UInt8) × (List (RT 5)) × (List (List UInt8)) × Int × Int × Int)) (a1 : (List UInt8)) (a6 : Int) : Nat → Int → Int → Int → (List (RT 5)) → Int → Int → Option (LR2 (Int × (List (RT 5)) × Int × Int × Int) Unit (Int × Int × Int × (List UInt8) × (List (RT 5)) × (List (List UInt8)) × Int × Int × Int))
  | 0, _, _, _, _, _, _ => none
  | k + 1, y124_1, y124_2, y124_3, y124_4, y124_5, y124_6 => cond (decide (y124_2 < ((((rd a0 a5).fFields).length : Nat) : Int))) (cond (decide (y124_1 = (0 : Int))) (gd (0 ≤ y124_2 ∧ y124_2 < ((((rd a0 a5).fFields).length : Nat) : Int)) ((rc451 a0 a1 y124_5 y124_6 y124_3 ((rd ((rd a0 a5).fFields) y124_2).fType) (IntKind.i64.wrap (a6 + (1 : Int)))).bind fun r160 => gd ((y124_4.length + 1) * 2 * 88 ≤ 281474976710656) (f451_l124 a0 a5 rc451 a1 a6 k r160.1 (IntKind.i64.wrap (y124_2 + (1 : Int))) r160.2.2.2.2.2.2.1 (y124_4 ++ [(RT.of TValue.ok (TValue.mk r160.2.1 r160.2.2.1 r160.2.2.2.1 r160.2.2.2.2.1 r160.2.2.2.2.2.1))]) r160.2.2.2.2.2.2.2.1 r160.2.2.2.2.2.2.2.2))) (some (.b0 (y124_1, y124_4, y124_3, y124_5, y124_6)))) (some (.b0 (y124_1, y124_4, y124_3, y124_5, y124_6)))
def f451_j105 (k : Nat) (rc451 : (List TNode) → (List UInt8) → Int → Int → Int → Int → Int → Option (Int × Int × Int × (List UInt8) × (List (RT 5)) × (List (List UInt8)) × Int × Int × Int)) (a0 : (List TNode)) (a1 : (List UInt8)) (a2 : Int) (a3 : Int) (a4 : Int) (a5 : Int) (a6 : Int) (j105_1 : Bool) : Option (Int × Int × Int × (List UInt8) × (List (RT 5)) × (List (List UInt8)) × Int × Int × Int) := cond j105_1 ((f452 rc451 k a0 a1 a2 a3 (IntKind.i64.wrap (a4 - (1 : Int))) (TNode.mk ((rd a0 a5).fKind) ((rd a0 a5).fName) ((rd a0 a5).fAliases) ((rd a0 a5).fFields) ((rd a0 a5).fSymbols) ((rd a0 a5).fHas) ((rd a0 a5).fDefault) ((rd a0 a5).fItems) ((rd a0 a5).fBranches) ((rd a0 a5).fSize)) ((rd a0 a5).fKind) (0 : Int) (IntKind.i64.wrap (a6 + (1 : Int)))).bind fun r112 => f451_j245 k r112.1 ((rd a0 a5).fKind) (0 : Int) ([] : List UInt8) r112.2.2.2.2.1 r112.2.2.2.2.2 r112.2.1 r112.2.2.1 r112.2.2.2.1) (cond (decide ((rd a0 a5).fKind = (9 : Int))) ((f451_l124 a0 a5 rc451 a1 a6 k (0 : Int) (0 : Int) (IntKind.i64.wrap (a4 - (1 : Int))) ([] : List (RT 5)) a2 a3).bind fun o124 => (match o124 with | .b0 (x124_1, x124_2, x124_3, x124_4, x124_5) => f451_j245 k x124_1 ((rd a0 a5).fKind) (0 : Int) ([] : List UInt8) x124_2 ([] : List (List UInt8)) x124_3 x124_4 x124_5 | _ => none)) (cond (decide ((rd a0 a5).fKind = (13 : Int))) ((f454 k a0 a1 a2 a3 (IntKind.i64.wrap (a4 - (1 : Int))) (0 : Int) (IntKind.i64.wrap (((((rd a0 a5).fBranches).length : Nat) : Int) - (1 : Int)))).bind fun r197 => cond (decide (r197.2.1 = (0 : Int))) (gd (0 ≤ r197.1 ∧ r197.1 < ((((rd a0 a5).fBranches).length : Nat) : Int)) ((rc451 a0 a1 r197.2.2.1 r197.2.2.2 (IntKind.i64.wrap (a4 - (1 : Int))) (rd ((rd a0 a5).fBranches) r197.1) (IntKind.i64.wrap (a6 + (1 : Int)))).bind fun r226 => f451_j245 k r226.1 ((rd a0 a5).fKind) r197.1 ([] : List UInt8) ([(RT.of TValue.ok (TValue.mk r226.2.1 r226.2.2.1 r226.2.2.2.1 r226.2.2.2.2.1 r226.2.2.2.2.2.1))] : List (RT 5)) ([] : List (List UInt8)) r226.2.2.2.2.2.2.1 r226.2.2.2.2.2.2.2.1 r226.2.2.2.2.2.2.2.2)) (f451_j245 k r197.2.1 ((rd a0 a5).fKind) r197.1 ([] : List UInt8) ([] : List (RT 5)) ([] : List (List UInt8)) (IntKind.i64.wrap (a4 - (1 : Int))) r197.2.2.1 r197.2.2.2)) ((f465 k a0 a1 a2 a3 (IntKind.i64.wrap (a4 - (1 : Int))) (TNode.mk ((rd a0 a5).fKind) ((rd a0 a5).fName) ((rd a0 a5).fAliases) ((rd a0 a5).fFields) ((rd a0 a5).fSymbols) ((rd a0 a5).fHas) ((rd a0 a5).fDefault) ((rd a0 a5).fItems) ((rd a0 a5).fBranches) ((rd a0 a5).fSize)) ((rd a0 a5).fKind) (0 : Int)).bind fun r243 => f451_j245 k r243.1 ((rd a0 a5).fKind) r243.2.2.2.1 r243.2.2.2.2 ([] : List (RT 5)) ([] : List (List UInt8)) (IntKind.i64.wrap (a4 - (1 : Int))) r243.2.1 r243.2.2.1)))
def f451_j44 (k : Nat) (a4 : Int) (a2 : Int) (a3 : Int) (a5 : Int) (a0 : (List TNode)) (rc451 : (List TNode) → (List UInt8) → Int → Int → Int → Int → Int → Option (Int × Int × Int × (List UInt8) × (List (RT 5)) × (List (List UInt8)) × Int × Int × Int)) (a1 : (List UInt8)) (a6 : Int) (j44_1 : Bool) : Option (Int × Int × Int × (List UInt8) × (List (RT 5)) × (List (List UInt8)) × Int × Int × Int) := cond j44_1 (some ((5 : Int), (0 : Int), (0 : Int), ([] : List UInt8), ([] : List (RT 5)), ([] : List (List UInt8)), a4, a2, a3)) (gd (0 ≤ a5 ∧ a5 < ((a0.length : Nat) : Int)) (cond (decide ((rd a0 a5).fKind = (11 : Int))) (f451_j105 k rc451 a0 a1 a2 a3 a4 a5 a6 (decide ((rd a0 a5).fKind = (11 : Int)))) (f451_j105 k rc451 a0 a1 a2 a3 a4 a5 a6 (decide ((rd a0 a5).fKind = (12 : Int))))))
def f451_j22 (k : Nat) (a4 : Int) (a2 : Int) (a3 : Int) (a6 : Int) (a5 : Int) (a0 : (List TNode)) (rc451 : (List TNode) → (List UInt8) → Int → Int → Int → Int → Int → Option (Int × Int × Int × (List UInt8) × (List (RT 5)) × (List (List UInt8)) × Int × Int × Int)) (a1 : (List UInt8)) (j22_1 : Bool) : Option (Int × Int × Int × (List UInt8) × (List (RT 5)) × (List (List UInt8)) × Int × Int × Int) := cond j22_1 (some ((9 : Int), (0 : Int), (0 : Int), ([] : List UInt8), ([] : List (RT 5)), ([] : List (List UInt8)), a4, a2, a3)) (cond (decide (a6 > (64 : Int))) (f451_j44 k a4 a2 a3 a5 a0 rc451 a1 a6 true) (f451_j44 k a4 a2 a3 a5 a0 rc451 a1 a6 (decide (a4 = (0 : Int)))))
def f451_s (rc451 : (List TNode) → (List UInt8) → Int → Int → Int → Int → Int → Option (Int × Int × Int × (List UInt8) × (List (RT 5)) × (List (List UInt8)) × Int × Int × Int)) (k : Nat) (a0 : (List TNode)) (a1 : (List UInt8)) (a2 : Int) (a3 : Int) (a4 : Int) (a5 : Int) (a6 : Int) : Option (Int × Int × Int × (List UInt8) × (List (RT 5)) × (List (List UInt8)) × Int × Int × Int) := cond (decide (a5 < (0 : Int))) (f451_j22 k a4 a2 a3 a6 a5 a0 rc451 a1 true) (f451_j22 k a4 a2 a3 a6 a5 a0 rc451 a1 (decide (a5 ≥ ((a0.length : Nat) : Int))))
theorem F451_s {P : Program} {N : Nat → Nat} (hmix : P.follows .mixedOrders = true) (hc : HC451 P N) {rc451 : (List TNode) → (List UInt8) → Int → Int → Int → Int → Int → Option (Int × Int × Int × (List UInt8) × (List (RT 5)) × (List (List UInt8)) × Int × Int × Int)} (hrc451 : RH451 P N rc451) {k : Nat} {a0 : (List TNode)} {a1 : (List UInt8)} {a2 : Int} {a3 : Int} {a4 : Int} {a5 : Int} {a6 : Int} {r : (Int × Int × Int × (List UInt8) × (List (RT 5)) × (List (List UInt8)) × Int × Int × Int)} (h : f451_s rc451 k a0 a1 a2 a3 a4 a5 a6 = some r) :
    ACalls P (N 451) [(.ptr 0 0), (.d (.int .i64 a5)), (.d (.int .i64 a6))] [(0, (.cells [(.d (.sl (List.map TNode.enc a0))), (.ptr 1 0), (.d (.int .i64 a4))])), (1, (.cells [(.d (.sl (List.map byteD a1))), (.d (.int .i64 a2)), (.d (.int .i64 a3))]))] (.tup [(.d (.agg [(.int .i64 r.2.1), (.int .i64 r.2.2.1), (.sl (List.map byteD r.2.2.2.1)), (.sl (List.map (rtE (z := 5)) r.2.2.2.2.1)), (.sl (List.map D.str r.2.2.2.2.2.1))])), (.d (.int .i64 r.1))]) [(0, (.cells [(.d (.sl (List.map TNode.enc a0))), (.ptr 1 0), (.d (.int .i64 r.2.2.2.2.2.2.1))])), (1, (.cells [(.d (.sl (List.map byteD a1))), (.d (.int .i64 r.2.2.2.2.2.2.2.1)), (.d (.int .i64 r.2.2.2.2.2.2.2.2))]))] := by
  refine acalls_canon (F := C451 N) hc.1 2 2 rfl ?_
  unfold f451_s at h
  dsimp only [C451, startL]
  refine AWc.seq ?_
  refine AWc.rE hmix [] ?_
  refine AWc.seq ?_
  refine AWc.seqS (N := 137) 3 (fun (z : Bool) => [(0, (.ptr 0 0)), (1, (.d (.int .i64 a5))), (2, (.d (.int .i64 a6))), (6, (.ptr 2 0)), (25, (.d (.bool z)))]) (fun z => [(0, (.cells [(.d (.sl (List.map TNode.enc a0))), (.ptr 1 0), (.d (.int .i64 a4))])), (2, (.cells [(.d (.int .i64 (0 : Int))), (.d (.int .i64 (0 : Int))), .nils, .nils, .nils])), (1, (.cells [(.d (.sl (List.map byteD a1))), (.d (.int .i64 a2)), (.d (.int .i64 a3))]))]) (fun z => f451_j22 k a4 a2 a3 a6 a5 a0 rc451 a1 z = some r) rfl_le ?_ ?_
  · rcases cc h with ⟨c12, h⟩ | ⟨c12, h⟩
    · refine AWc.rE hmix [.br c12] ?_
      exact ⟨true, h, (inT [] [])⟩
    · refine AWc.rE hmix [.br c12, .ln TNode.enc a0] ?_
      exact ⟨(decide (a5 ≥ ((a0.length : Nat) : Int))), h, (inT [] [])⟩
  · intro j22_1 h
    unfold f451_j22 at h
    rcases cc h with ⟨c22, h⟩ | ⟨c22, h⟩
    · refine AWc.cT c22 ?_
      refine AWc.seq ?_
      refine AWc.rE hmix [] ?_
      have hr := Option.some.inj h
      subst hr
      exact AWc.ret (canQ (N := 137) (k := 3) (l' := [(6, (.ptr 2 0)), (7, (.d (.int .i64 (9 : Int))))]) (H' := [(2, (.cells [(.d (.int .i64 (0 : Int))), (.d (.int .i64 (0 : Int))), (.d (.sl (List.map byteD ([] : List UInt8)))), (.d (.sl (List.map (rtE (z := 5)) ([] : List (RT 5))))), (.d (.sl (List.map D.str ([] : List (List UInt8)))))])), (0, (.cells [(.d (.sl (List.map TNode.enc a0))), (.ptr 1 0), (.d (.int .i64 a4))])), (1, (.cells [(.d (.sl (List.map byteD a1))), (.d (.int .i64 a2)), (.d (.int .i64 a3))]))]) rfl (inT [] []) (doneA (.inr rfl) rfl ⟨(Nat.le_of_ble_eq_true rfl), ⟨trivial, trivial⟩⟩ (.refl _) (hasCons rfl (hasCons rfl hasNil))))
    · refine AWc.cF c22 ?_
      refine AWc.skip ?_
      refine AWc.seq ?_
      refine AWc.seqS (N := 137) 3 (fun (z : Bool) => [(0, (.ptr 0 0)), (1, (.d (.int .i64 a5))), (2, (.d (.int .i64 a6))), (6, (.ptr 2 0)), (35, (.d (.bool z)))]) (fun z => [(0, (.cells [(.d (.sl (List.map TNode.enc a0))), (.ptr 1 0), (.d (.int .i64 a4))])), (2, (.cells [(.d (.int .i64 (0 : Int))), (.d (.int .i64 (0 : Int))), .nils, .nils, .nils])), (1, (.cells [(.d (.sl (List.map byteD a1))), (.d (.int .i64 a2)), (.d (.int .i64 a3))]))]) (fun z => f451_j44 k a4 a2 a3 a5 a0 rc451 a1 a6 z = some r) rfl_le ?_ ?_
      · rcases cc h with ⟨c37, h⟩ | ⟨c37, h⟩
        · refine AWc.rE hmix [.br c37] ?_
          exact ⟨true, h, (inT [] [])⟩
        · refine AWc.rE hmix [.br c37] ?_
          exact ⟨(decide (a4 = (0 : Int))), h, (inT [] [])⟩
      · intro j44_1 h
        unfold f451_j44 at h
        rcases cc h with ⟨c44, h⟩ | ⟨c44, h⟩
        · refine AWc.cT c44 ?_
          refine AWc.seq ?_
          refine AWc.rE hmix [] ?_
          have hr := Option.some.inj h
          subst hr
          exact AWc.ret (canQ (N := 137) (k := 3) (l' := [(6, (.ptr 2 0)), (7, (.d (.int .i64 (5 : Int))))]) (H' := [(2, (.cells [(.d (.int .i64 (0 : Int))), (.d (.int .i64 (0 : Int))), (.d (.sl (List.map byteD ([] : List UInt8)))), (.d (.sl (List.map (rtE (z := 5)) ([] : List (RT 5))))), (.d (.sl (List.map D.str ([] : List (List UInt8)))))])), (0, (.cells [(.d (.sl (List.map TNode.enc a0))), (.ptr 1 0), (.d (.int .i64 a4))])), (1, (.cells [(.d (.sl (List.map byteD a1))), (.d (.int .i64 a2)), (.d (.int .i64 a3))]))]) rfl (inT [] []) (doneA (.inr rfl) rfl ⟨(Nat.le_of_ble_eq_true rfl), ⟨trivial, trivial⟩⟩ (.refl _) (hasCons rfl (hasCons rfl hasNil))))
        · refine AWc.cF c44 ?_
          refine AWc.skip ?_
          refine AWc.seq ?_
          refine AWc.rE hmix [] ?_
          refine AWc.seq ?_
          obtain ⟨b73, h⟩ := gd_some h
          refine AWc.rE hmix [.iad TNode.enc a0 10 (fun _ => rfl) b73] ?_
          refine AWc.seq ?_
          refine AWc.rE hmix [.raw] ?_
          refine AWc.seqS (N := 137) 6 (fun (z : (Int × Int × Int × (List UInt8) × (List (RT 5)) × (List (List UInt8)) × Int × Int × Int)) => [(6, (.ptr 2 0)), (9, (.ptr 3 0)), (10, (.d (.int .i64 z.1)))]) (fun z => [(2, (.cells [(.d (.int .i64 (0 : Int))), (.d (.int .i64 (0 : Int))), .nils, .nils, .nils])), (3, (.cells [(.d (.int .i64 z.2.1)), (.d (.int .i64 z.2.2.1)), (.ap 4 1 (List.map byteD z.2.2.2.1)), (.d (.sl (List.map (rtE (z := 5)) z.2.2.2.2.1))), (.ap 5 1 (List.map D.str z.2.2.2.2.2.1))])), (0, (.cells [(.d (.sl (List.map TNode.enc a0))), (.ptr 1 0), (.d (.int .i64 z.2.2.2.2.2.2.1))])), (1, (.cells [(.d (.sl (List.map byteD a1))), (.d (.int .i64 z.2.2.2.2.2.2.2.1)), (.d (.int .i64 z.2.2.2.2.2.2.2.2))])), (4, (.tok ((List.map byteD z.2.2.2.1).length * 1))), (5, (.tok ((List.map D.str z.2.2.2.2.2.1).length * 1)))]) (fun z => f451_j245 k z.1 z.2.1 z.2.2.1 z.2.2.2.1 z.2.2.2.2.1 z.2.2.2.2.2.1 z.2.2.2.2.2.2.1 z.2.2.2.2.2.2.2.1 z.2.2.2.2.2.2.2.2 = some r) rfl_le ?_ ?_
          · refine AWc.seq ?_
            refine AWc.rE hmix [] ?_
            refine AWc.block ?_
            refine AWc.seqS (N := 137) 5 (fun (z : Bool) => [(0, (.ptr 0 0)), (2, (.d (.int .i64 a6))), (6, (.ptr 2 0)), (8, (.ptr 3 0)), (9, (.ptr 4 0)), (10, (.d (.int .i64 (0 : Int)))), (56, (.d (.int .i64 (rd a0 a5).fKind))), (60, (.d (.bool z)))]) (fun z => [(0, (.cells [(.d (.sl (List.map TNode.enc a0))), (.ptr 1 0), (.d (.int .i64 (IntKind.i64.wrap (a4 - (1 : Int)))))])), (2, (.cells [(.d (.int .i64 (0 : Int))), (.d (.int .i64 (0 : Int))), .nils, .nils, .nils])), (3, (.cells [(.d (.int .i64 (rd a0 a5).fKind)), (.d (.str (rd a0 a5).fName)), (.d (.sl (List.map D.str (rd a0 a5).fAliases))), (.d (.sl (List.map TField.enc (rd a0 a5).fFields))), (.d (.sl (List.map D.str (rd a0 a5).fSymbols))), (.d (.bool (rd a0 a5).fHas)), (.d (.str (rd a0 a5).fDefault)), (.d (.int .i64 (rd a0 a5).fItems)), (.d (.sl (List.map (D.int .i64) (rd a0 a5).fBranches))), (.d (.int .i64 (rd a0 a5).fSize))])), (4, (.cells [(.d (.int .i64 (rd a0 a5).fKind)), (.d (.int .i64 (0 : Int))), .nils, .nils, .nils])), (1, (.cells [(.d (.sl (List.map byteD a1))), (.d (.int .i64 a2)), (.d (.int .i64 a3))]))]) (fun z => f451_j105 k rc451 a0 a1 a2 a3 a4 a5 a6 z = some r) rfl_le ?_ ?_
            · refine AWc.seq ?_
              refine AWc.rE hmix [] ?_
              rcases cc h with ⟨c99, h⟩ | ⟨c99, h⟩
              · refine AWc.cT c99 ?_
                refine AWc.skip ?_
                exact ⟨(decide ((rd a0 a5).fKind = (11 : Int))), h, (inT [] [])⟩
              · refine AWc.cF c99 ?_
                refine AWc.rE hmix [] ?_
                exact ⟨(decide ((rd a0 a5).fKind = (12 : Int))), h, (inT [] [])⟩
            · intro j105_1 h
              unfold f451_j105 at h
              rcases cc h with ⟨c105, h⟩ | ⟨c105, h⟩
              · refine AWc.cT c105 ?_
                obtain ⟨r112, e112, h⟩ := bind_some h
                refine AWc.rE hmix [.call (F452 hmix hc.2.1 hrc451 e112) [(2, 4), (3, 5), (4, 6)] 5] ?_
                exact ⟨(r112.1, ((rd a0 a5).fKind), (0 : Int), ([] : List UInt8), r112.2.2.2.2.1, r112.2.2.2.2.2, r112.2.1, r112.2.2.1, r112.2.2.2.1), h, (inT [(3, 4), (5, 6), (4, 7)] [.tok 0])⟩
              · refine AWc.cF c105 ?_
                refine AWc.seq ?_
                refine AWc.rE hmix [] ?_
                rcases cc h with ⟨c119, h⟩ | ⟨c119, h⟩
                · refine AWc.cT c119 ?_
                  refine AWc.seq ?_
                  refine AWc.rE hmix [] ?_
                  obtain ⟨o124, h124, h⟩ := bind_some h
                  refine AWc.block ?_
                  refine AWc.loopK (N := 137) 6 (fun (x : (Int × Int × Int × (List (RT 5)) × Int × Int)) => [(0, (.ptr 0 0)), (2, (.d (.int .i64 a6))), (6, (.ptr 2 0)), (8, (.ptr 3 0)), (9, (.ptr 4 0)), (10, (.d (.int .i64 x.1))), (11, (.d (.int .i64 x.2.1)))]) (fun x => [(0, (.cells [(.d (.sl (List.map TNode.enc a0))), (.ptr 1 0), (.d (.int .i64 x.2.2.1))])), (2, (.cells [(.d (.int .i64 (0 : Int))), (.d (.int .i64 (0 : Int))), .nils, .nils, .nils])), (3, (.cells [(.d (.int .i64 (rd a0 a5).fKind)), (.d (.str (rd a0 a5).fName)), (.d (.sl (List.map D.str (rd a0 a5).fAliases))), (.d (.sl (List.map TField.enc (rd a0 a5).fFields))), (.d (.sl (List.map D.str (rd a0 a5).fSymbols))), (.d (.bool (rd a0 a5).fHas)), (.d (.str (rd a0 a5).fDefault)), (.d (.int .i64 (rd a0 a5).fItems)), (.d (.sl (List.map (D.int .i64) (rd a0 a5).fBranches))), (.d (.int .i64 (rd a0 a5).fSize))])), (4, (.cells [(.d (.int .i64 (rd a0 a5).fKind)), (.d (.int .i64 (0 : Int))), .nils, (.ap 5 5 (List.map (rtE (z := 5)) x.2.2.2.1)), .nils])), (1, (.cells [(.d (.sl (List.map byteD a1))), (.d (.int .i64 x.2.2.2.2.1)), (.d (.int .i64 x.2.2.2.2.2))])), (5, (.tok ((List.map (rtE (z := 5)) x.2.2.2.1).length * 5)))]) (fun k x => f451_l124 a0 a5 rc451 a1 a6 k x.1 x.2.1 x.2.2.1 x.2.2.2.1 x.2.2.2.2.1 x.2.2.2.2.2 = some o124) k ((0 : Int), (0 : Int), (IntKind.i64.wrap (a4 - (1 : Int))), ([] : List (RT 5)), a2, a3) rfl_le (fun x hx => by cases hx) h124 (inT [(5, 5)] [.tok 0]) ?_
                  clear h124
                  intro k
                  rintro ⟨y124_1, y124_2, y124_3, y124_4, y124_5, y124_6⟩ h124
                  dsimp only at h124 ⊢
                  rw [f451_l124] at h124
                  refine AWc.seq ?_
                  refine AWc.seq ?_
                  rcases cc h124 with ⟨c135, h124⟩ | ⟨c135, h124⟩
                  · refine AWc.rE hmix [.ln TField.enc ((rd a0 a5).fFields), .br c135] ?_
                    rcases cc h124 with ⟨c139, h124⟩ | ⟨c139, h124⟩
                    · refine AWc.cT c139 ?_
                      refine AWc.skip ?_
                      refine AWc.seq ?_
                      refine AWc.block ?_
                      refine AWc.seq ?_
                      refine AWc.rE hmix [] ?_
                      refine AWc.seq ?_
                      obtain ⟨b155, h124⟩ := gd_some h124
                      obtain ⟨r160, e160, h124⟩ := bind_some h124
                      refine AWc.rE hmix [.iad TField.enc ((rd a0 a5).fFields) 5 (fun _ => rfl) b155, .call (hrc451 _ _ _ _ _ _ _ _ e160) [] 2] ?_
                      obtain ⟨b173, h124⟩ := gd_some h124
                      refine AWc.rE hmix [.ln (rtE (z := 5)) y124_4, .apO (rtE (z := 5)) y124_4 b173, .iao (rtE (z := 5)) y124_4] ?_
                      refine AWc.clT rtE_ok 7 y124_4 (RT.of TValue.ok (TValue.mk r160.2.1 r160.2.2.1 r160.2.2.2.1 r160.2.2.2.2.1 r160.2.2.2.2.2.1)) ?_
                      refine AWc.rE hmix [] ?_
                      exact ⟨(r160.1, (IntKind.i64.wrap (y124_2 + (1 : Int))), r160.2.2.2.2.2.2.1, (y124_4 ++ [(RT.of TValue.ok (TValue.mk r160.2.1 r160.2.2.1 r160.2.2.2.1 r160.2.2.2.2.1 r160.2.2.2.2.2.1))]), r160.2.2.2.2.2.2.2.1, r160.2.2.2.2.2.2.2.2), h124, (inT [(5, 7)] [])⟩
                    · refine AWc.cF c139 ?_
                      cases h124
                      dsimp only at h
                      refine AWc.exit ?_
                      refine inBlk_eq ?_
                      exact ⟨(y124_1, (rd a0 a5).fKind, (0 : Int), ([] : List UInt8), y124_4, ([] : List (List UInt8)), y124_3, y124_5, y124_6), h, (inT [(3, 4), (4, 6), (5, 7)] [.tok 0, .tok 0])⟩
                  · refine AWc.rE hmix [.ln TField.enc ((rd a0 a5).fFields), .br c135] ?_
                    refine AWc.cF rfl ?_
                    cases h124
                    dsimp only at h
                    refine AWc.exit ?_
                    refine inBlk_eq ?_
                    exact ⟨(y124_1, (rd a0 a5).fKind, (0 : Int), ([] : List UInt8), y124_4, ([] : List (List UInt8)), y124_3, y124_5, y124_6), h, (inT [(3, 4), (4, 6), (5, 7)] [.tok 0, .tok 0])⟩
                · refine AWc.cF c119 ?_
                  refine AWc.seq ?_
                  refine AWc.rE hmix [] ?_
                  rcases cc h with ⟨c188, h⟩ | ⟨c188, h⟩
                  · refine AWc.cT c188 ?_
                    refine AWc.seq ?_
                    obtain ⟨r197, e197, h⟩ := bind_some h
                    refine AWc.rE hmix [.ln (D.int .i64) ((rd a0 a5).fBranches), .call (F454 hmix hc.2.2.1 e197) [] 2] ?_
                    refine AWc.seq ?_
                    refine AWc.rE hmix [] ?_
                    rcases cc h with ⟨c209, h⟩ | ⟨c209, h⟩
                    · refine AWc.cT c209 ?_
                      refine AWc.seq ?_
                      refine AWc.rE hmix [] ?_
                      refine AWc.seq ?_
                      obtain ⟨b222, h⟩ := gd_some h
                      obtain ⟨r226, e226, h⟩ := bind_some h
                      refine AWc.rE hmix [.iad (D.int .i64) ((rd a0 a5).fBranches) 1 (fun _ => rfl) b222, .call (hrc451 _ _ _ _ _ _ _ _ e226) [] 2] ?_
                      refine AWc.rE hmix [] ?_
                      exact ⟨(r226.1, (rd a0 a5).fKind, r197.1, ([] : List UInt8), ([(RT.of TValue.ok (TValue.mk r226.2.1 r226.2.2.1 r226.2.2.2.1 r226.2.2.2.2.1 r226.2.2.2.2.2.1))] : List (RT 5)), ([] : List (List UInt8)), r226.2.2.2.2.2.2.1, r226.2.2.2.2.2.2.2.1, r226.2.2.2.2.2.2.2.2), h, (inT [(3, 4), (4, 6), (5, 7)] [.tok 0, .tok 0])⟩
                    · refine AWc.cF c209 ?_
                      refine AWc.skip ?_
                      exact ⟨(r197.2.1, (rd a0 a5).fKind, r197.1, ([] : List UInt8), ([] : List (RT 5)), ([] : List (List UInt8)), (IntKind.i64.wrap (a4 - (1 : Int))), r197.2.2.1, r197.2.2.2), h, (inT [(3, 4), (4, 5), (5, 6)] [.tok 0, .tok 0])⟩
                  · refine AWc.cF c188 ?_
                    obtain ⟨r243, e243, h⟩ := bind_some h
                    refine AWc.rE hmix [.call (F465 hmix hc.2.2.2 e243) [(2, 4), (3, 5)] 4] ?_
                    exact ⟨(r243.1, ((rd a0 a5).fKind), r243.2.2.2.1, r243.2.2.2.2, ([] : List (RT 5)), ([] : List (List UInt8)), (IntKind.i64.wrap (a4 - (1 : Int))), r243.2.1, r243.2.2.1), h, (inT [(3, 4), (4, 5), (5, 6)] [.tok 0])⟩
          · rintro ⟨j245_1, j245_2, j245_3, j245_4, j245_5, j245_6, j245_7, j245_8, j245_9⟩ h
            dsimp only at h ⊢
            unfold f451_j245 at h
            refine AWc.seq ?_
            refine AWc.seq ?_
            refine AWc.rE hmix [] ?_
            rcases cc h with ⟨c251, h⟩ | ⟨c251, h⟩
            · refine AWc.cT c251 ?_
              refine AWc.seq ?_
              refine AWc.rE hmix [] ?_
              have hr := Option.some.inj h
              subst hr
              exact AWc.ret (canQ (N := 137) (k := 3) (l' := [(6, (.ptr 2 0)), (7, (.d (.int .i64 j245_1)))]) (H' := [(2, (.cells [(.d (.int .i64 (0 : Int))), (.d (.int .i64 (0 : Int))), (.d (.sl (List.map byteD ([] : List UInt8)))), (.d (.sl (List.map (rtE (z := 5)) ([] : List (RT 5))))), (.d (.sl (List.map D.str ([] : List (List UInt8)))))])), (0, (.cells [(.d (.sl (List.map TNode.enc a0))), (.ptr 1 0), (.d (.int .i64 j245_7))])), (1, (.cells [(.d (.sl (List.map byteD a1))), (.d (.int .i64 j245_8)), (.d (.int .i64 j245_9))]))]) rfl (inT [] []) (doneA (.inr rfl) rfl ⟨(Nat.le_of_ble_eq_true rfl), ⟨trivial, trivial⟩⟩ (.refl _) (hasCons rfl (hasCons rfl hasNil))))
            · refine AWc.cF c251 ?_
              refine AWc.skip ?_
              refine AWc.seq ?_
              refine AWc.rE hmix [] ?_
              have hr := Option.some.inj h
              subst hr
              exact AWc.ret (canQ (N := 137) (k := 3) (l' := [(6, (.ptr 2 0)), (7, (.d (.int .i64 (0 : Int))))]) (H' := [(2, (.cells [(.d (.int .i64 j245_2)), (.d (.int .i64 j245_3)), (.d (.sl (List.map byteD j245_4))), (.d (.sl (List.map (rtE (z := 5)) j245_5))), (.d (.sl (List.map D.str j245_6)))])), (0, (.cells [(.d (.sl (List.map TNode.enc a0))), (.ptr 1 0), (.d (.int .i64 j245_7))])), (1, (.cells [(.d (.sl (List.map byteD a1))), (.d (.int .i64 j245_8)), (.d (.int .i64 j245_9))]))]) rfl (inT [] []) (doneA (.inr rfl) rfl ⟨(Nat.le_of_ble_eq_true rfl), ⟨trivial, trivial⟩⟩ (.refl _) (hasCons rfl (hasCons rfl hasNil))))
def f451 : Nat → (List TNode) → (List UInt8) → Int → Int → Int → Int → Int → Option (Int × Int × Int × (List UInt8) × (List (RT 5)) × (List (List UInt8)) × Int × Int × Int)
  | 0, _, _, _, _, _, _, _ => none
  | k + 1, a0, a1, a2, a3, a4, a5, a6 => f451_s (f451 k) k a0 a1 a2 a3 a4 a5 a6
theorem F451 {P : Program} {N : Nat → Nat} (hmix : P.follows .mixedOrders = true) (hc : HC451 P N) {k : Nat} {a0 : (List TNode)} {a1 : (List UInt8)} {a2 : Int} {a3 : Int} {a4 : Int} {a5 : Int} {a6 : Int} {r : (Int × Int × Int × (List UInt8) × (List (RT 5)) × (List (List UInt8)) × Int × Int × Int)} (h : f451 k a0 a1 a2 a3 a4 a5 a6 = some r) :
    ACalls P (N 451) [(.ptr 0 0), (.d (.int .i64 a5)), (.d (.int .i64 a6))] [(0, (.cells [(.d (.sl (List.map TNode.enc a0))), (.ptr 1 0), (.d (.int .i64 a4))])), (1, (.cells [(.d (.sl (List.map byteD a1))), (.d (.int .i64 a2)), (.d (.int .i64 a3))]))] (.tup [(.d (.agg [(.int .i64 r.2.1), (.int .i64 r.2.2.1), (.sl (List.map byteD r.2.2.2.1)), (.sl (List.map (rtE (z := 5)) r.2.2.2.2.1)), (.sl (List.map D.str r.2.2.2.2.2.1))])), (.d (.int .i64 r.1))]) [(0, (.cells [(.d (.sl (List.map TNode.enc a0))), (.ptr 1 0), (.d (.int .i64 r.2.2.2.2.2.2.1))])), (1, (.cells [(.d (.sl (List.map byteD a1))), (.d (.int .i64 r.2.2.2.2.2.2.2.1)), (.d (.int .i64 r.2.2.2.2.2.2.2.2))]))] := by
  induction k generalizing a0 a1 a2 a3 a4 a5 a6 r with
  | zero => exact absurd (show (none : Option _) = some r from h) (fun h2 => by cases h2)
  | succ k ih => exact F451_s hmix hc (fun _ _ _ _ _ _ _ _ h => ih h) h
/-- courant/codec.Take -/
def C450 (N : Nat → Nat) : AFunc := { n := 33, params := 2, res := [.cell 4 5 true, .tmp 5, .tmp 6], body :=
 (.seq (.region false [⟨(some 2), .box (.t 0), none, []⟩,
   ⟨(some 4), .alloc [(.int .i64 0), (.int .i64 0), (.sl []), (.sl []), (.sl [])], none, []⟩,
   ⟨(some 5), .mv (.k (.d (.int .i64 0))), none, []⟩,
   ⟨(some 6), .mv (.k (.d (.int .i64 0))), none, [2]⟩])
  (.seq (.region true [⟨(some 10), .load (.t 2) 1 true, none, []⟩,
    ⟨(some 11), .mv (.t 1), none, []⟩,
    ⟨(some 12), .call (.k (.d (.fn (N 30)))) [(.t 11)], none, [1]⟩,
    ⟨(some 13), .build [(.sl []), .nilp, (.int .i64 0)] [(0, 1, (.t 10)), (1, 1, (.t 12)), (2, 1, (.k (.d (.int .i64 10000))))], none, [0, 2]⟩,
    ⟨(some 14), .box (.t 13), none, [3]⟩,
    ⟨(some 7), .mv (.t 14), none, [4, 2, 0, 1, 3]⟩])
   (.seq (.region false [⟨(some 16), .mv (.t 7), none, []⟩,
     ⟨(some 17), .call (.k (.d (.fn (N 451)))) [(.t 16), (.k (.d (.int .i64 0))), (.k (.d (.int .i64 1)))], none, [0]⟩,
     ⟨(some 15), .mv (.t 17), none, [1]⟩,
     ⟨(some 18), .ext (.t 15) 0, none, [2]⟩,
     ⟨(some 19), .ext (.t 15) 1, none, [2]⟩,
     ⟨(some 8), .alloc [(.int .i64 0), (.int .i64 0), (.sl []), (.sl []), (.sl [])], none, []⟩,
     ⟨none, .store (.t 8) (.t 18) 5, none, [5, 3, 1, 0, 2]⟩,
     ⟨(some 9), .mv (.t 19), none, [4, 6, 0, 1, 2, 3, 5]⟩])
    (.seq (.seq (.region false [⟨(some 20), .mv (.t 9), none, []⟩,
       ⟨(some 21), .bin .neq (.t 20) (.k (.d (.int .i64 0))), none, [0]⟩])
      (.cond (.t 21) (.seq (.region false [⟨(some 22), .build [(.int .i64 0), (.int .i64 0), (.sl []), (.sl []), (.sl [])] [], none, []⟩,
         ⟨(some 23), .mv (.t 9), none, []⟩,
         ⟨none, .store (.t 4) (.t 22) 5, none, [0]⟩,
         ⟨(some 5), .mv (.k (.d (.int .i64 0))), none, [2, 0]⟩,
         ⟨(some 6), .mv (.t 23), none, [1, 3, 0, 2]⟩])
        .ret)
       (.skip)))
     (.seq (.region true [⟨(some 24), .load (.t 8) 5 true, none, []⟩,
       ⟨(some 25), .mv (.t 1), none, []⟩,
       ⟨(some 26), .len (.t 25), none, [1]⟩,
       ⟨(some 27), .mv (.t 7), none, []⟩,
       ⟨(some 28), .nilchk (.t 27), none, [3]⟩,
       ⟨(some 29), .faddr (.t 28) 1, none, [4]⟩,
       ⟨(some 30), .load (.t 29) 1 false, none, [5]⟩,
       ⟨(some 31), .call (.k (.d (.fn (N 32)))) [(.t 30)], none, [6]⟩,
       ⟨(some 32), .bin .sub (.t 26) (.t 31), none, [2, 7]⟩,
       ⟨none, .store (.t 4) (.t 24) 5, none, [0, 7]⟩,
       ⟨(some 5), .mv (.t 32), none, [8, 9, 0, 1, 2, 3, 4, 5, 6, 7]⟩,
       ⟨(some 6), .mv (.k (.d (.int .i64 0))), none, [10, 0, 1, 2, 3, 4, 5, 6, 7, 8, 9]⟩])
      .ret))))) }
def HC450 (P : Program) (N : Nat → Nat) : Prop := HasF P (N 450) (C450 N) ∧ HC30 P N ∧ HC451 P N ∧ HC32 P N
def f450 (k : Nat) (a0 : TSchema) (a1 : (List UInt8)) : Option (Int × Int × Int × Int × (List UInt8) × (List (RT 5)) × (List (List UInt8))) := (f30 k a1).bind fun r13 => (f451 k a0.fNodes a1 (0 : Int) (0 : Int) (10000 : Int) (0 : Int) (1 : Int)).bind fun r21 => cond (decide (r21.1 ≠ (0 : Int))) (some ((0 : Int), r21.1, (0 : Int), (0 : Int), ([] : List UInt8), ([] : List (RT 5)), ([] : List (List UInt8)))) ((f32 k a1 r21.2.2.2.2.2.2.2.1 r21.2.2.2.2.2.2.2.2).bind fun r55 => some ((IntKind.i64.wrap (((a1.length : Nat) : Int) - (IntKind.i64.wrap (((a1.length : Nat) : Int) - r21.2.2.2.2.2.2.2.1)))), (0 : Int), r21.2.1, r21.2.2.1, r21.2.2.2.1, r21.2.2.2.2.1, r21.2.2.2.2.2.1))
theorem F450 {P : Program} {N : Nat → Nat} (hmix : P.follows .mixedOrders = true) (hc : HC450 P N) {k : Nat} {a0 : TSchema} {a1 : (List UInt8)} {r : (Int × Int × Int × Int × (List UInt8) × (List (RT 5)) × (List (List UInt8)))} (h : f450 k a0 a1 = some r) :
    ACalls P (N 450) [(.d (TSchema.enc a0)), (.d (.sl (List.map byteD a1)))] [] (.tup [(.d (.agg [(.int .i64 r.2.2.1), (.int .i64 r.2.2.2.1), (.sl (List.map byteD r.2.2.2.2.1)), (.sl (List.map (rtE (z := 5)) r.2.2.2.2.2.1)), (.sl (List.map D.str r.2.2.2.2.2.2))])), (.d (.int .i64 r.1)), (.d (.int .i64 r.2.1))]) [] := by
  refine acalls_canon (F := C450 N) hc.1 0 0 rfl ?_
  unfold f450 at h
  dsimp only [C450, startL]
  refine AWc.seq ?_
  refine AWc.rE hmix [] ?_
  refine AWc.seq ?_
  obtain ⟨r13, e13, h⟩ := bind_some h
  refine AWc.rE hmix [.call (F30 hmix hc.2.1 e13) [(0, 2)] 1] ?_
  refine AWc.seq ?_
  obtain ⟨r21, e21, h⟩ := bind_some h
  refine AWc.rE hmix [.call (F451 hmix hc.2.2.1 e21) [(0, 3), (1, 2)] 2] ?_
  refine AWc.seq ?_
  refine AWc.seq ?_
  refine AWc.rE hmix [] ?_
  rcases cc h with ⟨c34, h⟩ | ⟨c34, h⟩
  · refine AWc.cT c34 ?_
    refine AWc.seq ?_
    refine AWc.rE hmix [] ?_
    have hr := Option.some.inj h
    subst hr
    exact AWc.ret (canQ (N := 33) (k := 1) (l' := [(4, (.ptr 0 0)), (5, (.d (.int .i64 (0 : Int)))), (6, (.d (.int .i64 r21.1)))]) (H' := [(0, (.cells [(.d (.int .i64 (0 : Int))), (.d (.int .i64 (0 : Int))), (.d (.sl (List.map byteD ([] : List UInt8)))), (.d (.sl (List.map (rtE (z := 5)) ([] : List (RT 5))))), (.d (.sl (List.map D.str ([] : List (List UInt8)))))]))]) rfl (inT [(0, 1)] []) (doneA (.inr rfl) rfl ⟨(Nat.le_of_ble_eq_true rfl), ⟨trivial, ⟨trivial, trivial⟩⟩⟩ (.refl _) hasNil))
  · refine AWc.cF c34 ?_
    refine AWc.skip ?_
    refine AWc.seq ?_
    obtain ⟨r55, e55, h⟩ := bind_some h
    refine AWc.rE hmix [.ln byteD a1, .cq (F32 hmix hc.2.2.2 e55) [(0, 2)] 1] ?_
    have hr := Option.some.inj h
    subst hr
    exact AWc.ret (canQ (N := 33) (k := 1) (l' := [(4, (.ptr 0 0)), (5, (.d (.int .i64 (IntKind.i64.wrap (((a1.length : Nat) : Int) - (IntKind.i64.wrap (((a1.length : Nat) : Int) - r21.2.2.2.2.2.2.2.1))))))), (6, (.d (.int .i64 (0 : Int))))]) (H' := [(0, (.cells [(.d (.int .i64 r21.2.1)), (.d (.int .i64 r21.2.2.1)), (.d (.sl (List.map byteD r21.2.2.2.1))), (.d (.sl (List.map (rtE (z := 5)) r21.2.2.2.2.1))), (.d (.sl (List.map D.str r21.2.2.2.2.2.1)))]))]) rfl (inT [(0, 1)] []) (doneA (.inr rfl) rfl ⟨(Nat.le_of_ble_eq_true rfl), ⟨trivial, ⟨trivial, trivial⟩⟩⟩ (.refl _) hasNil))
/-- courant/codec.Decode -/
def C449 (N : Nat → Nat) : AFunc := { n := 28, params := 2, res := [.cell 4 5 true, .tmp 5], body :=
 (.seq (.region false [⟨(some 2), .box (.t 0), none, []⟩,
   ⟨(some 4), .alloc [(.int .i64 0), (.int .i64 0), (.sl []), (.sl []), (.sl [])], none, []⟩,
   ⟨(some 5), .mv (.k (.d (.int .i64 0))), none, []⟩])
  (.seq (.region false [⟨(some 10), .load (.t 2) 1 true, none, []⟩,
    ⟨(some 11), .mv (.t 1), none, []⟩,
    ⟨(some 12), .call (.k (.d (.fn (N 450)))) [(.t 10), (.t 11)], none, [0, 1]⟩,
    ⟨(some 9), .mv (.t 12), none, [2]⟩,
    ⟨(some 13), .ext (.t 9) 0, none, [3]⟩,
    ⟨(some 14), .ext (.t 9) 1, none, [3]⟩,
    ⟨(some 15), .ext (.t 9) 2, none, [3]⟩,
    ⟨(some 6), .alloc [(.int .i64 0), (.int .i64 0), (.sl []), (.sl []), (.sl [])], none, []⟩,
    ⟨none, .store (.t 6) (.t 13) 5, none, [7, 4, 2, 0, 1, 3]⟩,
    ⟨(some 7), .mv (.t 14), none, [5, 8, 0, 1, 2, 3, 4, 7]⟩,
    ⟨(some 8), .mv (.t 15), none, [6, 9, 0, 1, 2, 3, 4, 5, 7, 8]⟩])
   (.seq (.block 0 (.seq (.region false [⟨(some 17), .mv (.t 8), none, []⟩,
       ⟨(some 18), .bin .neq (.t 17) (.k (.d (.int .i64 0))), none, [0]⟩,
       ⟨(some 16), .mv (.t 18), none, [1]⟩])
      (.cond (.t 16) (.seq (.region false [⟨(some 19), .build [(.int .i64 0), (.int .i64 0), (.sl []), (.sl []), (.sl [])] [], none, []⟩,
         ⟨(some 20), .mv (.t 8), none, []⟩,
         ⟨none, .store (.t 4) (.t 19) 5, none, [0]⟩,
         ⟨(some 5), .mv (.t 20), none, [1, 2, 0]⟩])
        .ret)
       (.seq (.region false [⟨(some 22), .mv (.t 7), none, []⟩,
         ⟨(some 23), .mv (.t 1), none, []⟩,
         ⟨(some 24), .len (.t 23), none, [1]⟩,
         ⟨(some 25), .bin .lss (.t 22) (.t 24), none, [0, 2]⟩,
         ⟨(some 21), .mv (.t 25), none, [3]⟩])
        (.cond (.t 21) (.seq (.region false [⟨(some 26), .build [(.int .i64 0), (.int .i64 0), (.sl []), (.sl []), (.sl [])] [], none, []⟩,
           ⟨none, .store (.t 4) (.t 26) 5, none, [0]⟩,
           ⟨(some 5), .mv (.k (.d (.int .i64 4))), none, [1, 0]⟩])
          .ret)
         (.skip))))))
    (.seq (.region false [⟨(some 27), .load (.t 6) 5 true, none, []⟩,
      ⟨none, .store (.t 4) (.t 27) 5, none, [0]⟩,
      ⟨(some 5), .mv (.k (.d (.int .i64 0))), none, [1, 0]⟩])
     .ret)))) }
def HC449 (P : Program) (N : Nat → Nat) : Prop := HasF P (N 449) (C449 N) ∧ HC450 P N
def f449 (k : Nat) (a0 : TSchema) (a1 : (List UInt8)) : Option (Int × Int × Int × (List UInt8) × (List (RT 5)) × (List (List UInt8))) := (f450 k (TSchema.mk a0.fNodes) a1).bind fun r12 => cond (decide (r12.2.1 ≠ (0 : Int))) (some (r12.2.1, (0 : Int), (0 : Int), ([] : List UInt8), ([] : List (RT 5)), ([] : List (List UInt8)))) (cond (decide (r12.1 < ((a1.length : Nat) : Int))) (some ((4 : Int), (0 : Int), (0 : Int), ([] : List UInt8), ([] : List (RT 5)), ([] : List (List UInt8)))) (some ((0 : Int), r12.2.2.1, r12.2.2.2.1, r12.2.2.2.2.1, r12.2.2.2.2.2.1, r12.2.2.2.2.2.2)))
theorem F449 {P : Program} {N : Nat → Nat} (hmix : P.follows .mixedOrders = true) (hc : HC449 P N) {k : Nat} {a0 : TSchema} {a1 : (List UInt8)} {r : (Int × Int × Int × (List UInt8) × (List (RT 5)) × (List (List UInt8)))} (h : f449 k a0 a1 = some r) :
    ACalls P (N 449) [(.d (TSchema.enc a0)), (.d (.sl (List.map byteD a1)))] [] (.tup [(.d (.agg [(.int .i64 r.2.1), (.int .i64 r.2.2.1), (.sl (List.map byteD r.2.2.2.1)), (.sl (List.map (rtE (z := 5)) r.2.2.2.2.1)), (.sl (List.map D.str r.2.2.2.2.2))])), (.d (.int .i64 r.1))]) [] := by
  refine acalls_canon (F := C449 N) hc.1 0 0 rfl ?_
  unfold f449 at h
  dsimp only [C449, startL]
  refine AWc.seq ?_
  refine AWc.rE hmix [] ?_
  refine AWc.seq ?_
  obtain ⟨r12, e12, h⟩ := bind_some h
  refine AWc.rE hmix [.call (F450 hmix hc.2 e12) [] 0] ?_
  refine AWc.seq ?_
  refine AWc.block ?_
  refine AWc.seq ?_
  refine AWc.rE hmix [] ?_
  rcases cc h with ⟨c29, h⟩ | ⟨c29, h⟩
  · refine AWc.cT c29 ?_
    refine AWc.seq ?_
    refine AWc.rE hmix [] ?_
    have hr := Option.some.inj h
    subst hr
    exact AWc.ret (canQ (N := 28) (k := 1) (l' := [(4, (.ptr 0 0)), (5, (.d (.int .i64 r12.2.1)))]) (H' := [(0, (.cells [(.d (.int .i64 (0 : Int))), (.d (.int .i64 (0 : Int))), (.d (.sl (List.map byteD ([] : List UInt8)))), (.d (.sl (List.map (rtE (z := 5)) ([] : List (RT 5))))), (.d (.sl (List.map D.str ([] : List (List UInt8)))))]))]) rfl (inT [(0, 1)] []) (doneA (.inr rfl) rfl ⟨(Nat.le_of_ble_eq_true rfl), ⟨trivial, trivial⟩⟩ (.refl _) hasNil))
  · refine AWc.cF c29 ?_
    refine AWc.seq ?_
    refine AWc.rE hmix [.ln byteD a1] ?_
    rcases cc h with ⟨c46, h⟩ | ⟨c46, h⟩
    · refine AWc.cT c46 ?_
      refine AWc.seq ?_
      refine AWc.rE hmix [] ?_
      have hr := Option.some.inj h
      subst hr
      exact AWc.ret (canQ (N := 28) (k := 1) (l' := [(4, (.ptr 0 0)), (5, (.d (.int .i64 (4 : Int))))]) (H' := [(0, (.cells [(.d (.int .i64 (0 : Int))), (.d (.int .i64 (0 : Int))), (.d (.sl (List.map byteD ([] : List UInt8)))), (.d (.sl (List.map (rtE (z := 5)) ([] : List (RT 5))))), (.d (.sl (List.map D.str ([] : List (List UInt8)))))]))]) rfl (inT [(0, 1)] []) (doneA (.inr rfl) rfl ⟨(Nat.le_of_ble_eq_true rfl), ⟨trivial, trivial⟩⟩ (.refl _) hasNil))
    · refine AWc.cF c46 ?_
      refine AWc.skip ?_
      refine AWc.seq ?_
      refine AWc.rE hmix [] ?_
      have hr := Option.some.inj h
      subst hr
      exact AWc.ret (canQ (N := 28) (k := 1) (l' := [(4, (.ptr 0 0)), (5, (.d (.int .i64 (0 : Int))))]) (H' := [(0, (.cells [(.d (.int .i64 r12.2.2.1)), (.d (.int .i64 r12.2.2.2.1)), (.d (.sl (List.map byteD r12.2.2.2.2.1))), (.d (.sl (List.map (rtE (z := 5)) r12.2.2.2.2.2.1))), (.d (.sl (List.map D.str r12.2.2.2.2.2.2)))]))]) rfl (inT [(0, 1)] []) (doneA (.inr rfl) rfl ⟨(Nat.le_of_ble_eq_true rfl), ⟨trivial, trivial⟩⟩ (.refl _) hasNil))
/-- courant/courantlaw08.awake -/
def C459 (N : Nat → Nat) : AFunc := { n := 48, params := 0, res := [.tmp 0], body :=
 (.seq (.region false [⟨(some 0), .mv (.k (.d (.bool false))), none, []⟩])
  (.seq (.region false [⟨(some 4), .build [(.int .i64 0), (.str []), (.sl []), (.sl []), (.sl []), (.bool false), (.str []), (.int .i64 0), (.sl []), (.int .i64 0)] [(0, 1, (.k (.d (.int .i64 11)))), (7, 1, (.k (.d (.int .i64 1))))], none, []⟩,
    ⟨(some 5), .build [(.int .i64 0), (.str []), (.sl []), (.sl []), (.sl []), (.bool false), (.str []), (.int .i64 0), (.sl []), (.int .i64 0)] [(0, 1, (.k (.d (.int .i64 4))))], none, []⟩,
    ⟨(some 6), .bslice 2 10 [(.int .i64 0), (.str []), (.sl []), (.sl []), (.sl []), (.bool false), (.str []), (.int .i64 0), (.sl []), (.int .i64 0)] [(0, (.t 4)), (1, (.t 5))], none, [0, 1]⟩,
    ⟨(some 7), .build [(.sl [])] [(0, 1, (.t 6))], none, [2]⟩,
    ⟨(some 1), .alloc [(.sl [])], none, []⟩,
    ⟨none, .store (.t 1) (.t 7) 1, none, [4, 3, 0, 1, 2]⟩])
   (.seq (.region false [⟨(some 9), .load (.t 1) 1 true, none, []⟩,
     ⟨(some 10), .build [(.int .i64 0), (.int .i64 0), (.sl []), (.sl []), (.sl [])] [(0, 1, (.k (.d (.int .i64 4)))), (1, 1, (.k (.d (.int .i64 1))))], none, []⟩,
     ⟨(some 11), .build [(.int .i64 0), (.int .i64 0), (.sl []), (.sl []), (.sl [])] [(0, 1, (.k (.d (.int .i64 4)))), (1, 1, (.k (.d (.int .i64 2))))], none, []⟩,
     ⟨(some 12), .bslice 2 5 [(.int .i64 0), (.int .i64 0), (.sl []), (.sl []), (.sl [])] [(0, (.t 10)), (1, (.t 11))], none, [1, 2]⟩,
     ⟨(some 13), .build [(.int .i64 0), (.int .i64 0), (.sl []), (.sl []), (.sl [])] [(0, 1, (.k (.d (.int .i64 11)))), (3, 1, (.t 12))], none, [3]⟩,
     ⟨(some 14), .call (.k (.d (.fn (N 460)))) [(.t 9), (.t 13)], none, [0, 4]⟩,
     ⟨(some 8), .mv (.t 14), none, [5]⟩,
     ⟨(some 15), .ext (.t 8) 0, none, [6]⟩,
     ⟨(some 16), .ext (.t 8) 1, none, [6]⟩,
     ⟨(some 2), .mv (.t 15), none, [7, 5, 0, 1, 2, 3, 4, 6]⟩,
     ⟨(some 3), .mv (.t 16), none, [8, 9, 0, 1, 2, 3, 4, 5, 6, 7]⟩])
    (.seq (.region false [⟨(some 17), .mv (.t 3), none, []⟩,
      ⟨(some 18), .bin .eql (.t 17) (.k (.d (.int .i64 0))), none, [0]⟩,
      ⟨(some 19), .mv (.t 18), none, [1]⟩,
      ⟨(some 20), .mv (.t 2), (some (19, true)), [2]⟩,
      ⟨(some 21), .len (.t 20), (some (19, true)), [3, 2]⟩,
      ⟨(some 22), .bin .eql (.t 21) (.k (.d (.int .i64 4))), (some (19, true)), [4, 2]⟩,
      ⟨(some 23), .pick (.t 19) (.t 22) (.k (.d (.bool false))), none, [2, 5]⟩,
      ⟨(some 24), .mv (.t 23), none, [6, 2]⟩,
      ⟨(some 25), .mv (.t 2), (some (24, true)), [7]⟩,
      ⟨(some 26), .iaddr (.t 25) (.k (.d (.int .i64 0))) 1, (some (24, true)), [8, 7]⟩,
      ⟨(some 27), .load (.t 26) 1 false, (some (24, true)), [9, 7]⟩,
      ⟨(some 28), .bin .eql (.t 27) (.k (.d (.int .u8 4))), (some (24, true)), [10, 7]⟩,
      ⟨(some 29), .pick (.t 24) (.t 28) (.k (.d (.bool false))), none, [7, 11]⟩,
      ⟨(some 30), .mv (.t 29), none, [12, 7]⟩,
      ⟨(some 31), .mv (.t 2), (some (30, true)), [13]⟩,
      ⟨(some 32), .iaddr (.t 31) (.k (.d (.int .i64 1))) 1, (some (30, true)), [14, 13]⟩,
      ⟨(some 33), .load (.t 32) 1 false, (some (30, true)), [15, 13]⟩,
      ⟨(some 34), .bin .eql (.t 33) (.k (.d (.int .u8 2))), (some (30, true)), [16, 13]⟩,
      ⟨(some 35), .pick (.t 30) (.t 34) (.k (.d (.bool false))), none, [13, 17]⟩,
      ⟨(some 36), .mv (.t 35), none, [18, 13]⟩,
      ⟨(some 37), .mv (.t 2), (some (36, true)), [19]⟩,
      ⟨(some 38), .iaddr (.t 37) (.k (.d (.int .i64 2))) 1, (some (36, true)), [20, 19]⟩,
      ⟨(some 39), .load (.t 38) 1 false, (some (36, true)), [21, 19]⟩,
      ⟨(some 40), .bin .eql (.t 39) (.k (.d (.int .u8 4))), (some (36, true)), [22, 19]⟩,
      ⟨(some 41), .pick (.t 36) (.t 40) (.k (.d (.bool false))), none, [19, 23]⟩,
      ⟨(some 42), .mv (.t 41), none, [24, 19]⟩,
      ⟨(some 43), .mv (.t 2), (some (42, true)), [25]⟩,
      ⟨(some 44), .iaddr (.t 43) (.k (.d (.int .i64 3))) 1, (some (42, true)), [26, 25]⟩,
      ⟨(some 45), .load (.t 44) 1 false, (some (42, true)), [27, 25]⟩,
      ⟨(some 46), .bin .eql (.t 45) (.k (.d (.int .u8 0))), (some (42, true)), [28, 25]⟩,
      ⟨(some 47), .pick (.t 42) (.t 46) (.k (.d (.bool false))), none, [25, 29]⟩,
      ⟨(some 0), .mv (.t 47), none, [30, 25, 0, 1, 2, 3, 4, 5, 6, 7, 8, 9, 10, 11, 12, 13, 14, 15, 16, 17, 18, 19, 20, 21, 22, 23, 24, 26, 27, 28, 29]⟩])
     .ret)))) }
def HC459 (P : Program) (N : Nat → Nat) : Prop := HasF P (N 459) (C459 N) ∧ HC460 P N
def f459 (k : Nat) : Option Bool := (f460 k (TSchema.mk ([(TNode.mk (11 : Int) ([] : List UInt8) ([] : List (List UInt8)) ([] : List TField) ([] : List (List UInt8)) false ([] : List UInt8) (1 : Int) ([] : List Int) (0 : Int)), (TNode.mk (4 : Int) ([] : List UInt8) ([] : List (List UInt8)) ([] : List TField) ([] : List (List UInt8)) false ([] : List UInt8) (0 : Int) ([] : List Int) (0 : Int))] : List TNode)) (TValue.mk (11 : Int) (0 : Int) ([] : List UInt8) ([(RT.of TValue.ok (TValue.mk (4 : Int) (1 : Int) ([] : List UInt8) ([] : List (RT 5)) ([] : List (List UInt8)))), (RT.of TValue.ok (TValue.mk (4 : Int) (2 : Int) ([] : List UInt8) ([] : List (RT 5)) ([] : List (List UInt8))))] : List (RT 5)) ([] : List (List UInt8)))).bind fun r22 => cond (decide (r22.2 = (0 : Int))) (cond (decide (((r22.1.length : Nat) : Int) = (4 : Int))) (gd (0 ≤ (0 : Int) ∧ (0 : Int) < ((r22.1.length : Nat) : Int)) (cond (decide ((((rd r22.1 (0 : Int)).toNat : Nat) : Int) = (4 : Int))) (gd (0 ≤ (1 : Int) ∧ (1 : Int) < ((r22.1.length : Nat) : Int)) (cond (decide ((((rd r22.1 (1 : Int)).toNat : Nat) : Int) = (2 : Int))) (gd (0 ≤ (2 : Int) ∧ (2 : Int) < ((r22.1.length : Nat) : Int)) (cond (decide ((((rd r22.1 (2 : Int)).toNat : Nat) : Int) = (4 : Int))) (gd (0 ≤ (3 : Int) ∧ (3 : Int) < ((r22.1.length : Nat) : Int)) (some (decide ((((rd r22.1 (3 : Int)).toNat : Nat) : Int) = (0 : Int))))) (some false))) (some false))) (some false))) (some false)) (some false)
theorem F459 {P : Program} {N : Nat → Nat} (hmix : P.follows .mixedOrders = true) (hc : HC459 P N) {k : Nat} {r : Bool} (h : f459 k = some r) :
    ACalls P (N 459) [] [] (.d (.bool r)) [] := by
  refine acalls_canon (F := C459 N) hc.1 0 0 rfl ?_
  unfold f459 at h
  dsimp only [C459, startL]
  refine AWc.seq ?_
  refine AWc.rE hmix [] ?_
  refine AWc.seq ?_
  refine AWc.rE hmix [] ?_
  refine AWc.seq ?_
  obtain ⟨r22, e22, h⟩ := bind_some h
  refine AWc.rE hmix [.call (F460 hmix hc.2 e22) [(0, 1)] 1] ?_
  refine AWc.seq ?_
  rcases cc h with ⟨c33, h⟩ | ⟨c33, h⟩
  · rcases cc h with ⟨c38, h⟩ | ⟨c38, h⟩
    · obtain ⟨b40, h⟩ := gd_some h
      rcases cc h with ⟨c44, h⟩ | ⟨c44, h⟩
      · obtain ⟨b46, h⟩ := gd_some h
        rcases cc h with ⟨c50, h⟩ | ⟨c50, h⟩
        · obtain ⟨b52, h⟩ := gd_some h
          rcases cc h with ⟨c56, h⟩ | ⟨c56, h⟩
          · obtain ⟨b58, h⟩ := gd_some h
            refine AWc.rE hmix [.br c33, .ln byteD r22.1, .br c38, .iad byteD r22.1 1 (fun _ => rfl) b40, .br c44, .iad byteD r22.1 1 (fun _ => rfl) b46, .br c50, .iad byteD r22.1 1 (fun _ => rfl) b52, .br c56, .iad byteD r22.1 1 (fun _ => rfl) b58] ?_
            have hr := Option.some.inj h
            subst hr
            exact AWc.ret (canQ (N := 48) (k := 0) (l' := [(0, (.d (.bool (decide ((((rd r22.1 (3 : Int)).toNat : Nat) : Int) = (0 : Int))))))]) (H' := []) rfl (inT [] []) (doneA (.inr rfl) rfl ⟨trivial, trivial⟩ (.refl _) hasNil))
          · refine AWc.rE hmix [.br c33, .ln byteD r22.1, .br c38, .iad byteD r22.1 1 (fun _ => rfl) b40, .br c44, .iad byteD r22.1 1 (fun _ => rfl) b46, .br c50, .iad byteD r22.1 1 (fun _ => rfl) b52, .br c56] ?_
            have hr := Option.some.inj h
            subst hr
            exact AWc.ret (canQ (N := 48) (k := 0) (l' := [(0, (.d (.bool false)))]) (H' := []) rfl (inT [] []) (doneA (.inr rfl) rfl ⟨trivial, trivial⟩ (.refl _) hasNil))
        · refine AWc.rE hmix [.br c33, .ln byteD r22.1, .br c38, .iad byteD r22.1 1 (fun _ => rfl) b40, .br c44, .iad byteD r22.1 1 (fun _ => rfl) b46, .br c50, .br (rfl : false = false)] ?_
          have hr := Option.some.inj h
          subst hr
          exact AWc.ret (canQ (N := 48) (k := 0) (l' := [(0, (.d (.bool false)))]) (H' := []) rfl (inT [] []) (doneA (.inr rfl) rfl ⟨trivial, trivial⟩ (.refl _) hasNil))
      · refine AWc.rE hmix [.br c33, .ln byteD r22.1, .br c38, .iad byteD r22.1 1 (fun _ => rfl) b40, .br c44, .br (rfl : false = false), .br (rfl : false = false)] ?_
        have hr := Option.some.inj h
        subst hr
        exact AWc.ret (canQ (N := 48) (k := 0) (l' := [(0, (.d (.bool false)))]) (H' := []) rfl (inT [] []) (doneA (.inr rfl) rfl ⟨trivial, trivial⟩ (.refl _) hasNil))
    · refine AWc.rE hmix [.br c33, .ln byteD r22.1, .br c38, .br (rfl : false = false), .br (rfl : false = false), .br (rfl : false = false)] ?_
      have hr := Option.some.inj h
      subst hr
      exact AWc.ret (canQ (N := 48) (k := 0) (l' := [(0, (.d (.bool false)))]) (H' := []) rfl (inT [] []) (doneA (.inr rfl) rfl ⟨trivial, trivial⟩ (.refl _) hasNil))
  · refine AWc.rE hmix [.br c33, .br (rfl : false = false), .br (rfl : false = false), .br (rfl : false = false), .br (rfl : false = false)] ?_
    have hr := Option.some.inj h
    subst hr
    exact AWc.ret (canQ (N := 48) (k := 0) (l' := [(0, (.d (.bool false)))]) (H' := []) rfl (inT [] []) (doneA (.inr rfl) rfl ⟨trivial, trivial⟩ (.refl _) hasNil))
/-- courant/couranthelp.Bytes -/
def C22 (N : Nat → Nat) : AFunc := { n := 10, params := 2, res := [.tmp 4], body :=
 (.seq (.region false [⟨(some 4), .mv (.k (.d (.bool false))), none, []⟩])
  (.seq (.region false [⟨(some 5), .mv (.t 0), none, []⟩,
    ⟨(some 6), .bs2s (.t 5), none, [0]⟩,
    ⟨(some 7), .mv (.t 1), none, []⟩,
    ⟨(some 8), .bs2s (.t 7), none, [2]⟩,
    ⟨(some 9), .bin .eql (.t 6) (.t 8), none, [1, 3]⟩,
    ⟨(some 4), .mv (.t 9), none, [4, 0, 1, 2, 3]⟩])
   .ret)) }
def HC22 (P : Program) (N : Nat → Nat) : Prop := HasF P (N 22) (C22 N)
def f22 (k : Nat) (a0 : (List UInt8)) (a1 : (List UInt8)) : Option Unit := some ()
theorem F22 {P : Program} {N : Nat → Nat} (hmix : P.follows .mixedOrders = true) (hc : HC22 P N) {k : Nat} {a0 : (List UInt8)} {a1 : (List UInt8)} {r : Unit} (h : f22 k a0 a1 = some r) :
    ACalls P (N 22) [(.d (.sl (List.map byteD a0))), (.d (.sl (List.map byteD a1)))] [] (.d (.bool (decide (a0 = a1)))) [] := by
  refine acalls_canon (F := C22 N) hc 0 0 rfl ?_
  unfold f22 at h
  dsimp only [C22, startL]
  refine AWc.seq ?_
  refine AWc.rE hmix [] ?_
  refine AWc.seq ?_
  refine AWc.rE hmix [.bs a0, .bs a1] ?_
  have hr := Option.some.inj h
  subst hr
  exact AWc.ret (canQ (N := 10) (k := 0) (l' := [(4, (.d (.bool (decide (a0 = a1)))))]) (H' := []) rfl (inT [] []) (doneA (.inr rfl) rfl ⟨trivial, trivial⟩ (.refl _) hasNil))
def RH432 (P : Program) (N : Nat → Nat) (rc432 : TValue → TValue → Option Bool) : Prop := ∀ (a0 : TValue) (a1 : TValue) (r : Bool), rc432 a0 a1 = some r → ACalls P (N 432) [(.d (TValue.enc a0)), (.d (TValue.enc a1))] [] (.d (.bool r)) []
/-- courant/couranthelp.Same[courant/api.Value] -/
def C433 (N : Nat → Nat) : AFunc := { n := 30, params := 3, res := [.tmp 6], body :=
 (.seq (.region false [⟨(some 6), .mv (.k (.d (.bool false))), none, []⟩])
  (.seq (.seq (.region false [⟨(some 8), .mv (.t 0), none, []⟩,
     ⟨(some 9), .len (.t 8), none, [0]⟩,
     ⟨(some 10), .mv (.t 1), none, []⟩,
     ⟨(some 11), .len (.t 10), none, [2]⟩,
     ⟨(some 12), .bin .neq (.t 9) (.t 11), none, [1, 3]⟩])
    (.cond (.t 12) (.seq (.region false [⟨(some 6), .mv (.k (.d (.bool false))), none, []⟩])
      .ret)
     (.skip)))
   (.seq (.seq (.region false [⟨(some 7), .mv (.k (.d (.int .i64 0))), none, []⟩])
     (.block 0 (.loop (.seq (.seq (.region false [⟨(some 13), .mv (.t 7), none, []⟩,
          ⟨(some 14), .mv (.t 0), none, []⟩,
          ⟨(some 15), .len (.t 14), none, [1]⟩,
          ⟨(some 16), .bin .lss (.t 13) (.t 15), none, [0, 2]⟩])
         (.cond (.t 16) (.skip)
          (.exit 0)))
        (.seq (.block 1 (.seq (.region true [⟨(some 19), .mv (.t 2), none, []⟩,
            ⟨(some 20), .mv (.t 0), none, []⟩,
            ⟨(some 21), .mv (.t 7), none, []⟩,
            ⟨(some 22), .iaddr (.t 20) (.t 21) 5, none, [1, 2]⟩,
            ⟨(some 23), .load (.t 22) 5 true, none, [3]⟩,
            ⟨(some 24), .mv (.t 1), none, []⟩,
            ⟨(some 25), .mv (.t 7), none, []⟩,
            ⟨(some 26), .iaddr (.t 24) (.t 25) 5, none, [5, 6]⟩,
            ⟨(some 27), .load (.t 26) 5 true, none, [7]⟩,
            ⟨(some 28), .call (.t 19) [(.t 23), (.t 27)], none, [0, 4, 8]⟩,
            ⟨(some 29), .un .not (.t 28), none, [9]⟩])
           (.cond (.t 29) (.seq (.region false [⟨(some 6), .mv (.k (.d (.bool false))), none, []⟩])
             .ret)
            (.skip))))
         (.region false [⟨(some 17), .mv (.t 7), none, []⟩,
          ⟨(some 18), .bin .add (.t 17) (.k (.d (.int .i64 1))), none, [0]⟩,
          ⟨(some 7), .mv (.t 18), none, [1, 0]⟩]))))))
    (.seq (.region false [⟨(some 6), .mv (.k (.d (.bool true))), none, []⟩])
     .ret)))) }
def HC433 (P : Program) (N : Nat → Nat) : Prop := HasF P (N 433) (C433 N)
def f433_l26 (a0 : (List (RT 5))) (a1 : (List (RT 5))) (rc432 : TValue → TValue → Option Bool) : Nat → Int → Option (LR2 Unit Unit Bool)
  | 0, _ => none
  | k + 1, y26_1 => cond (decide (y26_1 < ((a0.length : Nat) : Int))) (gd (0 ≤ y26_1 ∧ y26_1 < ((a0.length : Nat) : Int)) ((TValue.dec (rtE (rd a0 y26_1))).bind fun rx47 => gd (0 ≤ y26_1 ∧ y26_1 < ((a1.length : Nat) : Int)) ((TValue.dec (rtE (rd a1 y26_1))).bind fun rx51 => (rc432 rx47 rx51).bind fun r53 => cond (!r53) (some (.r false)) (f433_l26 a0 a1 rc432 k (IntKind.i64.wrap (y26_1 + (1 : Int))))))) (some (.b0 ()))
def f433 (rc432 : TValue → TValue → Option Bool) (k : Nat) (a0 : (List (RT 5))) (a1 : (List (RT 5))) : Option Bool := cond (decide (((a0.length : Nat) : Int) ≠ ((a1.length : Nat) : Int))) (some false) ((f433_l26 a0 a1 rc432 k (0 : Int)).bind fun o26 => (match o26 with | .b0 () => some true | .r x => some x | _ => none))
theorem F433 {P : Program} {N : Nat → Nat} (hmix : P.follows .mixedOrders = true) (hc : HC433 P N) {rc432 : TValue → TValue → Option Bool} (hrc432 : RH432 P N rc432) {k : Nat} {a0 : (List (RT 5))} {a1 : (List (RT 5))} {r : Bool} (h : f433 rc432 k a0 a1 = some r) :
    ACalls P (N 433) [(.d (.sl (List.map (rtE (z := 5)) a0))), (.d (.sl (List.map (rtE (z := 5)) a1))), (.d (.fn (N 432)))] [] (.d (.bool r)) [] := by
  refine acalls_canon (F := C433 N) hc 0 0 rfl ?_
  unfold f433 at h
  dsimp only [C433, startL]
  refine AWc.seq ?_
  refine AWc.rE hmix [] ?_
  refine AWc.seq ?_
  refine AWc.seq ?_
  refine AWc.rE hmix [.ln (rtE (z := 5)) a0, .ln (rtE (z := 5)) a1] ?_
  rcases cc h with ⟨c14, h⟩ | ⟨c14, h⟩
  · refine AWc.cT c14 ?_
    refine AWc.seq ?_
    refine AWc.rE hmix [] ?_
    have hr := Option.some.inj h
    subst hr
    exact AWc.ret (canQ (N := 30) (k := 0) (l' := [(6, (.d (.bool false)))]) (H' := []) rfl (inT [] []) (doneA (.inr rfl) rfl ⟨trivial, trivial⟩ (.refl _) hasNil))
  · refine AWc.cF c14 ?_
    refine AWc.skip ?_
    refine AWc.seq ?_
    refine AWc.seq ?_
    refine AWc.rE hmix [] ?_
    obtain ⟨o26, h26, h⟩ := bind_some h
    refine AWc.block ?_
    refine AWc.loopK (N := 30) 0 (fun (x : Int) => [(0, (.d (.sl (List.map (rtE (z := 5)) a0)))), (1, (.d (.sl (List.map (rtE (z := 5)) a1)))), (2, (.d (.fn (N 432)))), (7, (.d (.int .i64 x)))]) (fun x => []) (fun k x => f433_l26 a0 a1 rc432 k x = some o26) k (0 : Int) rfl_le (fun x hx => by cases hx) h26 (inT [] []) ?_
    clear h26
    intro k
    intro y26_1 h26
    rw [f433_l26] at h26
    refine AWc.seq ?_
    refine AWc.seq ?_
    refine AWc.rE hmix [.ln (rtE (z := 5)) a0] ?_
    rcases cc h26 with ⟨c36, h26⟩ | ⟨c36, h26⟩
    · refine AWc.cT c36 ?_
      refine AWc.skip ?_
      refine AWc.seq ?_
      refine AWc.block ?_
      refine AWc.seq ?_
      obtain ⟨b47, h26⟩ := gd_some h26
      obtain ⟨rx47, ex47, h26⟩ := bind_some h26
      obtain ⟨b51, h26⟩ := gd_some h26
      obtain ⟨rx51, ex51, h26⟩ := bind_some h26
      obtain ⟨r53, e53, h26⟩ := bind_some h26
      refine AWc.rE hmix [.iadE (rtE (z := 5)) a0 5 rtE_ok.len b47 (TValue.dec_eq ex47), .iadE (rtE (z := 5)) a1 5 rtE_ok.len b51 (TValue.dec_eq ex51), .call (hrc432 _ _ _ e53) [] 0] ?_
      rcases cc h26 with ⟨c55, h26⟩ | ⟨c55, h26⟩
      · refine AWc.cT c55 ?_
        refine AWc.seq ?_
        refine AWc.rE hmix [] ?_
        cases h26
        dsimp only at h
        have hr := Option.some.inj h
        subst hr
        exact AWc.ret (canQ (N := 30) (k := 0) (l' := [(6, (.d (.bool false)))]) (H' := []) rfl (inT [] []) (doneA (.inr rfl) rfl ⟨trivial, trivial⟩ (.refl _) hasNil))
      · refine AWc.cF c55 ?_
        refine AWc.skip ?_
        refine AWc.rE hmix [] ?_
        exact ⟨(IntKind.i64.wrap (y26_1 + (1 : Int))), h26, (inT [] [])⟩
    · refine AWc.cF c36 ?_
      cases h26
      dsimp only at h
      refine AWc.exit ?_
      refine inBlk_eq ?_
      refine AWc.seq ?_
      refine AWc.rE hmix [] ?_
      have hr := Option.some.inj h
      subst hr
      exact AWc.ret (canQ (N := 30) (k := 0) (l' := [(6, (.d (.bool true)))]) (H' := []) rfl (inT [] []) (doneA (.inr rfl) rfl ⟨trivial, trivial⟩ (.refl _) hasNil))
/-- courant/couranthelp.Plain[string]$1 -/
def C436 (N : Nat → Nat) : AFunc := { n := 8, params := 2, res := [.tmp 4], body :=
 (.seq (.region false [⟨(some 4), .mv (.k (.d (.bool false))), none, []⟩])
  (.seq (.region false [⟨(some 5), .mv (.t 0), none, []⟩,
    ⟨(some 6), .mv (.t 1), none, []⟩,
    ⟨(some 7), .bin .eql (.t 5) (.t 6), none, [0, 1]⟩,
    ⟨(some 4), .mv (.t 7), none, [2, 0, 1]⟩])
   .ret)) }
def HC436 (P : Program) (N : Nat → Nat) : Prop := HasF P (N 436) (C436 N)
def f436 (k : Nat) (a0 : (List UInt8)) (a1 : (List UInt8)) : Option Unit := some ()
theorem F436 {P : Program} {N : Nat → Nat} (hmix : P.follows .mixedOrders = true) (hc : HC436 P N) {k : Nat} {a0 : (List UInt8)} {a1 : (List UInt8)} {r : Unit} (h : f436 k a0 a1 = some r) :
    ACalls P (N 436) [(.d (.str a0)), (.d (.str a1))] [] (.d (.bool (decide (a0 = a1)))) [] := by
  refine acalls_canon (F := C436 N) hc 0 0 rfl ?_
  unfold f436 at h
  dsimp only [C436, startL]
  refine AWc.seq ?_
  refine AWc.rE hmix [] ?_
  refine AWc.seq ?_
  refine AWc.rE hmix [] ?_
  have hr := Option.some.inj h
  subst hr
  exact AWc.ret (canQ (N := 8) (k := 0) (l' := [(4, (.d (.bool (decide (a0 = a1)))))]) (H' := []) rfl (inT [] []) (doneA (.inr rfl) rfl ⟨trivial, trivial⟩ (.refl _) hasNil))
/-- courant/couranthelp.Same[string] -/
def C435 (N : Nat → Nat) : AFunc := { n := 30, params := 3, res := [.tmp 6], body :=
 (.seq (.region false [⟨(some 6), .mv (.k (.d (.bool false))), none, []⟩])
  (.seq (.seq (.region false [⟨(some 8), .mv (.t 0), none, []⟩,
     ⟨(some 9), .len (.t 8), none, [0]⟩,
     ⟨(some 10), .mv (.t 1), none, []⟩,
     ⟨(some 11), .len (.t 10), none, [2]⟩,
     ⟨(some 12), .bin .neq (.t 9) (.t 11), none, [1, 3]⟩])
    (.cond (.t 12) (.seq (.region false [⟨(some 6), .mv (.k (.d (.bool false))), none, []⟩])
      .ret)
     (.skip)))
   (.seq (.seq (.region false [⟨(some 7), .mv (.k (.d (.int .i64 0))), none, []⟩])
     (.block 0 (.loop (.seq (.seq (.region false [⟨(some 13), .mv (.t 7), none, []⟩,
          ⟨(some 14), .mv (.t 0), none, []⟩,
          ⟨(some 15), .len (.t 14), none, [1]⟩,
          ⟨(some 16), .bin .lss (.t 13) (.t 15), none, [0, 2]⟩])
         (.cond (.t 16) (.skip)
          (.exit 0)))
        (.seq (.block 1 (.seq (.region true [⟨(some 19), .mv (.t 2), none, []⟩,
            ⟨(some 20), .mv (.t 0), none, []⟩,
            ⟨(some 21), .mv (.t 7), none, []⟩,
            ⟨(some 22), .iaddr (.t 20) (.t 21) 1, none, [1, 2]⟩,
            ⟨(some 23), .load (.t 22) 1 false, none, [3]⟩,
            ⟨(some 24), .mv (.t 1), none, []⟩,
            ⟨(some 25), .mv (.t 7), none, []⟩,
            ⟨(some 26), .iaddr (.t 24) (.t 25) 1, none, [5, 6]⟩,
            ⟨(some 27), .load (.t 26) 1 false, none, [7]⟩,
            ⟨(some 28), .call (.t 19) [(.t 23), (.t 27)], none, [0, 4, 8]⟩,
            ⟨(some 29), .un .not (.t 28), none, [9]⟩])
           (.cond (.t 29) (.seq (.region false [⟨(some 6), .mv (.k (.d (.bool false))), none, []⟩])
             .ret)
            (.skip))))
         (.region false [⟨(some 17), .mv (.t 7), none, []⟩,
          ⟨(some 18), .bin .add (.t 17) (.k (.d (.int .i64 1))), none, [0]⟩,
          ⟨(some 7), .mv (.t 18), none, [1, 0]⟩]))))))
    (.seq (.region false [⟨(some 6), .mv (.k (.d (.bool true))), none, []⟩])
     .ret)))) }
def HC435 (P : Program) (N : Nat → Nat) : Prop := HasF P (N 435) (C435 N) ∧ HC436 P N
def f435_l26 (a0 : (List (List UInt8))) (a1 : (List (List UInt8))) : Nat → Int → Option (LR2 Unit Unit Bool)
  | 0, _ => none
  | k + 1, y26_1 => cond (decide (y26_1 < ((a0.length : Nat) : Int))) (gd (0 ≤ y26_1 ∧ y26_1 < ((a0.length : Nat) : Int)) (gd (0 ≤ y26_1 ∧ y26_1 < ((a1.length : Nat) : Int)) ((f436 k (rd a0 y26_1) (rd a1 y26_1)).bind fun r53 => cond (!(decide ((rd a0 y26_1) = (rd a1 y26_1)))) (some (.r false)) (f435_l26 a0 a1 k (IntKind.i64.wrap (y26_1 + (1 : Int))))))) (some (.b0 ()))
def f435 (k : Nat) (a0 : (List (List UInt8))) (a1 : (List (List UInt8))) : Option Bool := cond (decide (((a0.length : Nat) : Int) ≠ ((a1.length : Nat) : Int))) (some false) ((f435_l26 a0 a1 k (0 : Int)).bind fun o26 => (match o26 with | .b0 () => some true | .r x => some x | _ => none))
theorem F435 {P : Program} {N : Nat → Nat} (hmix : P.follows .mixedOrders = true) (hc : HC435 P N) {k : Nat} {a0 : (List (List UInt8))} {a1 : (List (List UInt8))} {r : Bool} (h : f435 k a0 a1 = some r) :
    ACalls P (N 435) [(.d (.sl (List.map D.str a0))), (.d (.sl (List.map D.str a1))), (.d (.fn (N 436)))] [] (.d (.bool r)) [] := by
  refine acalls_canon (F := C435 N) hc.1 0 0 rfl ?_
  unfold f435 at h
  dsimp only [C435, startL]
  refine AWc.seq ?_
  refine AWc.rE hmix [] ?_
  refine AWc.seq ?_
  refine AWc.seq ?_
  refine AWc.rE hmix [.ln D.str a0, .ln D.str a1] ?_
  rcases cc h with ⟨c14, h⟩ | ⟨c14, h⟩
  · refine AWc.cT c14 ?_
    refine AWc.seq ?_
    refine AWc.rE hmix [] ?_
    have hr := Option.some.inj h
    subst hr
    exact AWc.ret (canQ (N := 30) (k := 0) (l' := [(6, (.d (.bool false)))]) (H' := []) rfl (inT [] []) (doneA (.inr rfl) rfl ⟨trivial, trivial⟩ (.refl _) hasNil))
  · refine AWc.cF c14 ?_
    refine AWc.skip ?_
    refine AWc.seq ?_
    refine AWc.seq ?_
    refine AWc.rE hmix [] ?_
    obtain ⟨o26, h26, h⟩ := bind_some h
    refine AWc.block ?_
    refine AWc.loopK (N := 30) 0 (fun (x : Int) => [(0, (.d (.sl (List.map D.str a0)))), (1, (.d (.sl (List.map D.str a1)))), (2, (.d (.fn (N 436)))), (7, (.d (.int .i64 x)))]) (fun x => []) (fun k x => f435_l26 a0 a1 k x = some o26) k (0 : Int) rfl_le (fun x hx => by cases hx) h26 (inT [] []) ?_
    clear h26
    intro k
    intro y26_1 h26
    rw [f435_l26] at h26
    refine AWc.seq ?_
    refine AWc.seq ?_
    refine AWc.rE hmix [.ln D.str a0] ?_
    rcases cc h26 with ⟨c36, h26⟩ | ⟨c36, h26⟩
    · refine AWc.cT c36 ?_
      refine AWc.skip ?_
      refine AWc.seq ?_
      refine AWc.block ?_
      refine AWc.seq ?_
      obtain ⟨b47, h26⟩ := gd_some h26
      obtain ⟨b51, h26⟩ := gd_some h26
      obtain ⟨r53, e53, h26⟩ := bind_some h26
      refine AWc.rE hmix [.iad D.str a0 1 (fun _ => rfl) b47, .iad D.str a1 1 (fun _ => rfl) b51, .call (F436 hmix hc.2 e53) [] 0] ?_
      rcases cc h26 with ⟨c55, h26⟩ | ⟨c55, h26⟩
      · refine AWc.cT c55 ?_
        refine AWc.seq ?_
        refine AWc.rE hmix [] ?_
        cases h26
        dsimp only at h
        have hr := Option.some.inj h
        subst hr
        exact AWc.ret (canQ (N := 30) (k := 0) (l' := [(6, (.d (.bool false)))]) (H' := []) rfl (inT [] []) (doneA (.inr rfl) rfl ⟨trivial, trivial⟩ (.refl _) hasNil))
      · refine AWc.cF c55 ?_
        refine AWc.skip ?_
        refine AWc.rE hmix [] ?_
        exact ⟨(IntKind.i64.wrap (y26_1 + (1 : Int))), h26, (inT [] [])⟩
    · refine AWc.cF c36 ?_
      cases h26
      dsimp only at h
      refine AWc.exit ?_
      refine inBlk_eq ?_
      refine AWc.seq ?_
      refine AWc.rE hmix [] ?_
      have hr := Option.some.inj h
      subst hr
      exact AWc.ret (canQ (N := 30) (k := 0) (l' := [(6, (.d (.bool true)))]) (H' := []) rfl (inT [] []) (doneA (.inr rfl) rfl ⟨trivial, trivial⟩ (.refl _) hasNil))
/-- courant/couranthelp.Plain[string] -/
def C434 (N : Nat → Nat) : AFunc := { n := 8, params := 2, res := [.tmp 4], body :=
 (.seq (.region false [⟨(some 4), .mv (.k (.d (.bool false))), none, []⟩])
  (.seq (.region false [⟨(some 5), .mv (.t 0), none, []⟩,
    ⟨(some 6), .mv (.t 1), none, []⟩,
    ⟨(some 7), .call (.k (.d (.fn (N 435)))) [(.t 5), (.t 6), (.k (.d (.fn (N 436))))], none, [0, 1]⟩,
    ⟨(some 4), .mv (.t 7), none, [2, 0, 1]⟩])
   .ret)) }
def HC434 (P : Program) (N : Nat → Nat) : Prop := HasF P (N 434) (C434 N) ∧ HC435 P N
def f434 (k : Nat) (a0 : (List (List UInt8))) (a1 : (List (List UInt8))) : Option Bool := (f435 k a0 a1).bind fun r10 => some r10
theorem F434 {P : Program} {N : Nat → Nat} (hmix : P.follows .mixedOrders = true) (hc : HC434 P N) {k : Nat} {a0 : (List (List UInt8))} {a1 : (List (List UInt8))} {r : Bool} (h : f434 k a0 a1 = some r) :
    ACalls P (N 434) [(.d (.sl (List.map D.str a0))), (.d (.sl (List.map D.str a1)))] [] (.d (.bool r)) [] := by
  refine acalls_canon (F := C434 N) hc.1 0 0 rfl ?_
  unfold f434 at h
  dsimp only [C434, startL]
  refine AWc.seq ?_
  refine AWc.rE hmix [] ?_
  refine AWc.seq ?_
  obtain ⟨r10, e10, h⟩ := bind_some h
  refine AWc.rE hmix [.call (F435 hmix hc.2 e10) [] 0] ?_
  have hr := Option.some.inj h
  subst hr
  exact AWc.ret (canQ (N := 8) (k := 0) (l' := [(4, (.d (.bool r10)))]) (H' := []) rfl (inT [] []) (doneA (.inr rfl) rfl ⟨trivial, trivial⟩ (.refl _) hasNil))
/-- courant/couranthelp.Value -/
def C432 (N : Nat → Nat) : AFunc := { n := 38, params := 2, res := [.tmp 4], body :=
 (.seq (.region false [⟨(some 2), .box (.t 0), none, []⟩,
   ⟨(some 3), .box (.t 1), none, []⟩,
   ⟨(some 4), .mv (.k (.d (.bool false))), none, []⟩])
  (.seq (.region false [⟨(some 5), .faddr (.t 2) 0, none, []⟩,
    ⟨(some 6), .load (.t 5) 1 false, none, [0]⟩,
    ⟨(some 7), .faddr (.t 3) 0, none, []⟩,
    ⟨(some 8), .load (.t 7) 1 false, none, [2]⟩,
    ⟨(some 9), .bin .eql (.t 6) (.t 8), none, [1, 3]⟩,
    ⟨(some 10), .mv (.t 9), none, [4]⟩,
    ⟨(some 11), .faddr (.t 2) 1, (some (10, true)), [5]⟩,
    ⟨(some 12), .load (.t 11) 1 false, (some (10, true)), [6, 5]⟩,
    ⟨(some 13), .faddr (.t 3) 1, (some (10, true)), [5]⟩,
    ⟨(some 14), .load (.t 13) 1 false, (some (10, true)), [8, 5]⟩,
    ⟨(some 15), .bin .eql (.t 12) (.t 14), (some (10, true)), [7, 9, 5]⟩,
    ⟨(some 16), .pick (.t 10) (.t 15) (.k (.d (.bool false))), none, [5, 10]⟩,
    ⟨(some 17), .mv (.t 16), none, [11, 5]⟩,
    ⟨(some 18), .faddr (.t 2) 2, (some (17, true)), [12]⟩,
    ⟨(some 19), .load (.t 18) 1 false, (some (17, true)), [13, 12]⟩,
    ⟨(some 20), .faddr (.t 3) 2, (some (17, true)), [12]⟩,
    ⟨(some 21), .load (.t 20) 1 false, (some (17, true)), [15, 12]⟩,
    ⟨(some 22), .call (.k (.d (.fn (N 22)))) [(.t 19), (.t 21)], (some (17, true)), [14, 16, 12]⟩,
    ⟨(some 23), .pick (.t 17) (.t 22) (.k (.d (.bool false))), none, [12, 17]⟩,
    ⟨(some 24), .mv (.t 23), none, [18, 17]⟩,
    ⟨(some 25), .faddr (.t 2) 3, (some (24, true)), [19]⟩,
    ⟨(some 26), .load (.t 25) 1 false, (some (24, true)), [20, 19]⟩,
    ⟨(some 27), .faddr (.t 3) 3, (some (24, true)), [19]⟩,
    ⟨(some 28), .load (.t 27) 1 false, (some (24, true)), [22, 19]⟩,
    ⟨(some 29), .call (.k (.d (.fn (N 433)))) [(.t 26), (.t 28), (.k (.d (.fn (N 432))))], (some (24, true)), [21, 23, 19]⟩,
    ⟨(some 30), .pick (.t 24) (.t 29) (.k (.d (.bool false))), none, [19, 24]⟩,
    ⟨(some 31), .mv (.t 30), none, [25, 24]⟩,
    ⟨(some 32), .faddr (.t 2) 4, (some (31, true)), [26]⟩,
    ⟨(some 33), .load (.t 32) 1 false, (some (31, true)), [27, 26]⟩,
    ⟨(some 34), .faddr (.t 3) 4, (some (31, true)), [26]⟩,
    ⟨(some 35), .load (.t 34) 1 false, (some (31, true)), [29, 26]⟩,
    ⟨(some 36), .call (.k (.d (.fn (N 434)))) [(.t 33), (.t 35)], (some (31, true)), [28, 30, 26]⟩,
    ⟨(some 37), .pick (.t 31) (.t 36) (.k (.d (.bool false))), none, [26, 31]⟩,
    ⟨(some 4), .mv (.t 37), none, [32, 31, 0, 1, 2, 3, 4, 5, 6, 7, 8, 9, 10, 11, 12, 13, 14, 15, 16, 17, 18, 19, 20, 21, 22, 23, 24, 25, 26, 27, 28, 29, 30]⟩])
   .ret)) }
def HC432 (P : Program) (N : Nat → Nat) : Prop := HasF P (N 432) (C432 N) ∧ HC22 P N ∧ HC433 P N ∧ HC434 P N
def f432_s (rc432 : TValue → TValue → Option Bool) (k : Nat) (a0 : TValue) (a1 : TValue) : Option Bool := cond (decide (a0.fKind = a1.fKind)) (cond (decide (a0.fN = a1.fN)) ((f22 k a0.fB a1.fB).bind fun r27 => cond (decide (a0.fB = a1.fB)) ((f433 rc432 k a0.fL a1.fL).bind fun r34 => cond r34 ((f434 k a0.fKeys a1.fKeys).bind fun r41 => some r41) (some false)) (some false)) (some false)) (some false)
theorem F432_s {P : Program} {N : Nat → Nat} (hmix : P.follows .mixedOrders = true) (hc : HC432 P N) {rc432 : TValue → TValue → Option Bool} (hrc432 : RH432 P N rc432) {k : Nat} {a0 : TValue} {a1 : TValue} {r : Bool} (h : f432_s rc432 k a0 a1 = some r) :
    ACalls P (N 432) [(.d (TValue.enc a0)), (.d (TValue.enc a1))] [] (.d (.bool r)) [] := by
  refine acalls_canon (F := C432 N) hc.1 0 0 rfl ?_
  unfold f432_s at h
  dsimp only [C432, startL]
  refine AWc.seq ?_
  refine AWc.rE hmix [] ?_
  refine AWc.seq ?_
  rcases cc h with ⟨c15, h⟩ | ⟨c15, h⟩
  · rcases cc h with ⟨c22, h⟩ | ⟨c22, h⟩
    · obtain ⟨r27, e27, h⟩ := bind_some h
      rcases cc h with ⟨c29, h⟩ | ⟨c29, h⟩
      · obtain ⟨r34, e34, h⟩ := bind_some h
        rcases cc h with ⟨c36, h⟩ | ⟨c36, h⟩
        · obtain ⟨r41, e41, h⟩ := bind_some h
          refine AWc.rE hmix [.br c15, .br c22, .call (F22 hmix hc.2.1 e27) [] 0, .br c29, .call (F433 hmix hc.2.2.1 hrc432 e34) [] 0, .br c36, .call (F434 hmix hc.2.2.2 e41) [] 0] ?_
          have hr := Option.some.inj h
          subst hr
          exact AWc.ret (canQ (N := 38) (k := 0) (l' := [(4, (.d (.bool r41)))]) (H' := []) rfl (inT [] []) (doneA (.inr rfl) rfl ⟨trivial, trivial⟩ (.refl _) hasNil))
        · refine AWc.rE hmix [.br c15, .br c22, .call (F22 hmix hc.2.1 e27) [] 0, .br c29, .call (F433 hmix hc.2.2.1 hrc432 e34) [] 0, .br c36] ?_
          have hr := Option.some.inj h
          subst hr
          exact AWc.ret (canQ (N := 38) (k := 0) (l' := [(4, (.d (.bool false)))]) (H' := []) rfl (inT [] []) (doneA (.inr rfl) rfl ⟨trivial, trivial⟩ (.refl _) hasNil))
      · refine AWc.rE hmix [.br c15, .br c22, .call (F22 hmix hc.2.1 e27) [] 0, .br c29, .br (rfl : false = false)] ?_
        have hr := Option.some.inj h
        subst hr
        exact AWc.ret (canQ (N := 38) (k := 0) (l' := [(4, (.d (.bool false)))]) (H' := []) rfl (inT [] []) (doneA (.inr rfl) rfl ⟨trivial, trivial⟩ (.refl _) hasNil))
    · refine AWc.rE hmix [.br c15, .br c22, .br (rfl : false = false), .br (rfl : false = false)] ?_
      have hr := Option.some.inj h
      subst hr
      exact AWc.ret (canQ (N := 38) (k := 0) (l' := [(4, (.d (.bool false)))]) (H' := []) rfl (inT [] []) (doneA (.inr rfl) rfl ⟨trivial, trivial⟩ (.refl _) hasNil))
  · refine AWc.rE hmix [.br c15, .br (rfl : false = false), .br (rfl : false = false), .br (rfl : false = false)] ?_
    have hr := Option.some.inj h
    subst hr
    exact AWc.ret (canQ (N := 38) (k := 0) (l' := [(4, (.d (.bool false)))]) (H' := []) rfl (inT [] []) (doneA (.inr rfl) rfl ⟨trivial, trivial⟩ (.refl _) hasNil))
def f432 : Nat → TValue → TValue → Option Bool
  | 0, _, _ => none
  | k + 1, a0, a1 => f432_s (f432 k) k a0 a1
theorem F432 {P : Program} {N : Nat → Nat} (hmix : P.follows .mixedOrders = true) (hc : HC432 P N) {k : Nat} {a0 : TValue} {a1 : TValue} {r : Bool} (h : f432 k a0 a1 = some r) :
    ACalls P (N 432) [(.d (TValue.enc a0)), (.d (TValue.enc a1))] [] (.d (.bool r)) [] := by
  induction k generalizing a0 a1 r with
  | zero => exact absurd (show (none : Option _) = some r from h) (fun h2 => by cases h2)
  | succ k ih => exact F432_s hmix hc (fun _ _ _ h => ih h) h
end Go.Proofs.Abs
