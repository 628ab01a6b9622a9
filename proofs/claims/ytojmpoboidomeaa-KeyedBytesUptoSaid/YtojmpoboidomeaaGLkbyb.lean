/- Written by gen.py: functions of the program as Lean functions, and that the code comes to them. -/
import Derived.Test.YtojmpoboidomeaaGLkby
set_option linter.unusedVariables false
set_option linter.unusedSimpArgs false
set_option maxRecDepth 100000
set_option maxHeartbeats 4000000
namespace Go.Proofs.Abs
open Go
/-- courant/keyed.Take -/
def C78 (N : Nat → Nat) : AFunc := { n := 48, params := 1, res := [.tmp 2, .tmp 3], body :=
 (.seq (.region false [⟨(some 2), .mv (.k .nils), none, []⟩,
   ⟨(some 3), .mv (.k (.d (.int .i64 0))), none, [0]⟩])
  (.seq (.region false [⟨(some 10), .mv (.t 0), none, []⟩,
    ⟨(some 11), .call (.k (.d (.fn (N 30)))) [(.t 10)], none, [0]⟩,
    ⟨(some 4), .mv (.t 11), none, [1, 0]⟩])
   (.seq (.region false [⟨(some 12), .mv (.t 4), none, []⟩,
     ⟨(some 13), .call (.k (.d (.fn (N 40)))) [(.t 12)], none, [0]⟩,
     ⟨(some 5), .mv (.t 13), none, [1, 0]⟩])
    (.seq (.block 0 (.seq (.region false [⟨(some 15), .mv (.t 4), none, []⟩,
        ⟨(some 16), .call (.k (.d (.fn (N 42)))) [(.t 15)], none, [0]⟩,
        ⟨(some 17), .bin .neq (.t 16) (.k (.d (.int .i64 0))), none, [1]⟩,
        ⟨(some 14), .mv (.t 17), none, [2, 1]⟩])
       (.cond (.t 14) (.seq (.region false [⟨(some 18), .mv (.t 4), none, []⟩,
          ⟨(some 19), .call (.k (.d (.fn (N 42)))) [(.t 18)], none, [0]⟩,
          ⟨(some 2), .mv (.k .nils), none, [1]⟩,
          ⟨(some 3), .mv (.t 19), none, [1, 2, 0]⟩])
         .ret)
        (.seq (.region false [⟨(some 21), .mv (.t 5), none, []⟩,
          ⟨(some 22), .bin .lss (.t 21) (.k (.d (.int .i64 0))), none, [0]⟩,
          ⟨(some 20), .mv (.t 22), none, [1]⟩])
         (.cond (.t 20) (.seq (.region false [⟨(some 2), .mv (.k .nils), none, []⟩,
            ⟨(some 3), .mv (.k (.d (.int .i64 4))), none, [0]⟩])
           .ret)
          (.seq (.region false [⟨(some 24), .mv (.t 5), none, []⟩,
            ⟨(some 25), .bin .gtr (.t 24) (.k (.d (.int .i64 10000))), none, [0]⟩,
            ⟨(some 23), .mv (.t 25), none, [1]⟩])
           (.cond (.t 23) (.seq (.region false [⟨(some 2), .mv (.k .nils), none, []⟩,
              ⟨(some 3), .mv (.k (.d (.int .i64 5))), none, [0]⟩])
             .ret)
            (.skip))))))))
     (.seq (.region false [⟨(some 6), .mv (.k .nils), none, []⟩])
      (.seq (.seq (.region false [⟨(some 26), .mv (.t 5), none, []⟩,
         ⟨(some 27), .mv (.k (.d (.int .i64 0))), none, []⟩])
        (.block 1 (.loop (.seq (.region false [⟨(some 28), .bin .lss (.t 27) (.t 26), none, []⟩])
           (.seq (.cond (.t 28) (.skip)
             (.exit 1))
            (.seq (.block 2 (.seq (.region false [⟨(some 30), .mv (.t 4), none, []⟩,
                ⟨(some 31), .call (.k (.d (.fn (N 107)))) [(.t 30)], none, [0]⟩,
                ⟨(some 29), .mv (.t 31), none, [1]⟩,
                ⟨(some 32), .ext (.t 29) 0, none, [2]⟩,
                ⟨(some 33), .ext (.t 29) 1, none, [2]⟩,
                ⟨(some 7), .alloc [(.str []), (.sl []), (.bool false)], none, []⟩,
                ⟨none, .store (.t 7) (.t 32) 3, none, [5, 3, 1, 0, 2]⟩,
                ⟨(some 8), .mv (.t 33), none, [4, 6, 0, 1, 2, 3, 5]⟩])
               (.seq (.seq (.region false [⟨(some 34), .mv (.t 8), none, []⟩,
                  ⟨(some 35), .bin .neq (.t 34) (.k (.d (.int .i64 0))), none, [0]⟩])
                 (.cond (.t 35) (.seq (.region false [⟨(some 36), .mv (.t 8), none, []⟩,
                    ⟨(some 2), .mv (.k .nils), none, []⟩,
                    ⟨(some 3), .mv (.t 36), none, [0, 1]⟩])
                   .ret)
                  (.skip)))
                (.region false [⟨(some 37), .mv (.t 6), none, []⟩,
                 ⟨(some 38), .load (.t 7) 3 true, none, []⟩,
                 ⟨(some 39), .bslice 1 3 [(.str []), (.sl []), (.bool false)] [(0, (.t 38))], none, [1]⟩,
                 ⟨(some 40), .app (.t 37) (.t 39) 3 48 [(.str []), (.sl []), (.bool false)], none, [0, 2]⟩,
                 ⟨(some 6), .mv (.t 40), none, [3, 0, 1, 2]⟩]))))
             (.region false [⟨(some 41), .bin .add (.t 27) (.k (.d (.int .i64 1))), none, []⟩,
              ⟨(some 27), .mv (.t 41), none, [0]⟩])))))))
       (.seq (.seq (.region false [⟨(some 42), .mv (.t 4), none, []⟩,
          ⟨(some 43), .call (.k (.d (.fn (N 43)))) [(.t 42)], none, [0]⟩,
          ⟨(some 9), .mv (.t 43), none, [1, 0]⟩])
         (.seq (.region false [⟨(some 44), .mv (.t 9), none, []⟩,
           ⟨(some 45), .bin .neq (.t 44) (.k (.d (.int .i64 0))), none, [0]⟩])
          (.cond (.t 45) (.seq (.region false [⟨(some 46), .mv (.t 9), none, []⟩,
             ⟨(some 2), .mv (.k .nils), none, []⟩,
             ⟨(some 3), .mv (.t 46), none, [0, 1]⟩])
            .ret)
           (.skip))))
        (.seq (.region false [⟨(some 47), .mv (.t 6), none, []⟩,
          ⟨(some 2), .mv (.t 47), none, [0]⟩,
          ⟨(some 3), .mv (.k (.d (.int .i64 0))), none, [1, 0]⟩])
         .ret)))))))) }
def HC78 (P : Program) (N : Nat → Nat) : Prop := HasF P (N 78) (C78 N) ∧ HC30 P N ∧ HC40 P N ∧ HC42 P N ∧ HC107 P N ∧ HC43 P N
def f78_j122 (k : Nat) (a0 : (List UInt8)) (j122_1 : (List TPair)) (j122_2 : Int) (j122_3 : Int) : Option ((List TPair) × Int) := (f43 k a0 j122_2 j122_3).bind fun r127 => cond (decide (r127 ≠ (0 : Int))) (some (([] : List TPair), r127)) (some (j122_1, (0 : Int)))
def f78_l73 (r16 : (Int × Int × Int)) (a0 : (List UInt8)) : Nat → (List TPair) → Int → Int → Int → Option (LR2 ((List TPair) × Int × Int) Unit ((List TPair) × Int))
  | 0, _, _, _, _ => none
  | k + 1, y73_1, y73_2, y73_3, y73_4 => cond (decide (y73_2 < r16.1)) ((f107 k a0 y73_3 y73_4).bind fun r89 => cond (decide (r89.1 ≠ (0 : Int))) (some (.r (([] : List TPair), r89.1))) (gd ((y73_1.length + ([(TPair.mk r89.2.1 r89.2.2.1 r89.2.2.2.1)] : List TPair).length) * 2 * 48 ≤ 281474976710656) (f78_l73 r16 a0 k (y73_1 ++ ([(TPair.mk r89.2.1 r89.2.2.1 r89.2.2.2.1)] : List TPair)) (IntKind.i64.wrap (y73_2 + (1 : Int))) r89.2.2.2.2.1 r89.2.2.2.2.2))) (some (.b0 (y73_1, y73_3, y73_4)))
def f78 (k : Nat) (a0 : (List UInt8)) : Option ((List TPair) × Int) := (f30 k a0).bind fun r10 => (f40 k a0 (0 : Int) (0 : Int)).bind fun r16 => (f42 k a0 r16.2.1 r16.2.2).bind fun r24 => cond (decide (r16.2.2 ≠ (0 : Int))) ((f42 k a0 r16.2.1 r16.2.2).bind fun r32 => some (([] : List TPair), r16.2.2)) (cond (decide (r16.1 < (0 : Int))) (some (([] : List TPair), (4 : Int))) (cond (decide (r16.1 > (10000 : Int))) (some (([] : List TPair), (5 : Int))) ((f78_l73 r16 a0 k ([] : List TPair) (0 : Int) r16.2.1 r16.2.2).bind fun o73 => (match o73 with | .b0 (x73_1, x73_2, x73_3) => f78_j122 k a0 x73_1 x73_2 x73_3 | .r x => some x | _ => none))))
theorem F78 {P : Program} {N : Nat → Nat} (hmix : P.follows .mixedOrders = true) (hc : HC78 P N) {k : Nat} {a0 : (List UInt8)} {r : ((List TPair) × Int)} (h : f78 k a0 = some r) :
    ACalls P (N 78) [(.d (.sl (List.map byteD a0)))] [] (.tup [(.ap 0 3 (List.map TPair.enc r.1)), (.d (.int .i64 r.2))]) [(0, (.tok ((List.map TPair.enc r.1).length * 3)))] := by
  refine acalls_canon (F := C78 N) hc.1 0 1 rfl ?_
  unfold f78 at h
  dsimp only [C78, startL]
  refine AWc.seq ?_
  refine AWc.rg hmix rfl rfl ?_
  refine RegV.p0 rfl rfl rfl ?_
  refine RegV.p0 rfl rfl rfl ?_
  refine RegV.nil0 ?_
  refine AWc.seq ?_
  refine AWc.rg hmix rfl rfl ?_
  refine RegV.p0 rfl rfl rfl ?_
  obtain ⟨r10, e10, h⟩ := bind_some h
  refine RegV.callS (q := false) (H' := [(0, (.cells [(.d (.sl (List.map byteD a0))), (.d (.int .i64 (0 : Int))), (.d (.int .i64 (0 : Int)))]))]) (c' := 1) (show ACalls P (N 30) [(.d (.sl (List.map byteD a0)))] [] (.ptr 0 0) [(0, (.cells [(.d (.sl (List.map byteD a0))), (.d (.int .i64 (0 : Int))), (.d (.int .i64 (0 : Int)))]))] from ACalls.use (F30 hmix hc.2.1 e10) [(0, 0)] 1 rfl) rfl rfl rfl rfl (.cons (.refl _) .nil) (.refl _) (fun h => by cases h) rfl hasNil rfl rfl rfl rfl ?_
  refine RegV.p0 rfl rfl rfl ?_
  refine RegV.nil0 ?_
  refine AWc.seq ?_
  refine AWc.rg hmix rfl rfl ?_
  refine RegV.p0 rfl rfl rfl ?_
  obtain ⟨r16, e16, h⟩ := bind_some h
  refine RegV.callS (q := false) (H' := [(0, (.cells [(.d (.sl (List.map byteD a0))), (.d (.int .i64 r16.2.1)), (.d (.int .i64 r16.2.2))]))]) (c' := 1) (show ACalls P (N 40) [(.ptr 0 0)] [(0, (.cells [(.d (.sl (List.map byteD a0))), (.d (.int .i64 (0 : Int))), (.d (.int .i64 (0 : Int)))]))] (.d (.int .i64 r16.1)) [(0, (.cells [(.d (.sl (List.map byteD a0))), (.d (.int .i64 r16.2.1)), (.d (.int .i64 r16.2.2))]))] from ACalls.use (F40 hmix hc.2.2.1 e16) [(0, 0)] 1 rfl) rfl rfl rfl rfl (.cons (.refl _) .nil) (.refl _) (fun h => by cases h) rfl (hasCons rfl hasNil) rfl rfl rfl rfl ?_
  refine RegV.p0 rfl rfl rfl ?_
  refine RegV.nil0 ?_
  refine AWc.seq ?_
  refine AWc.block ?_
  refine AWc.seq ?_
  refine AWc.rg hmix rfl rfl ?_
  refine RegV.p0 rfl rfl rfl ?_
  obtain ⟨r24, e24, h⟩ := bind_some h
  refine RegV.callS (q := true) (H' := [(0, (.cells [(.d (.sl (List.map byteD a0))), (.d (.int .i64 r16.2.1)), (.d (.int .i64 r16.2.2))]))]) (c' := 1) (show ACalls P (N 42) [(.ptr 0 0)] [(0, (.cells [(.d (.sl (List.map byteD a0))), (.d (.int .i64 r16.2.1)), (.d (.int .i64 r16.2.2))]))] (.d (.int .i64 r16.2.2)) [(0, (.cells [(.d (.sl (List.map byteD a0))), (.d (.int .i64 r16.2.1)), (.d (.int .i64 r16.2.2))]))] from ACalls.use (F42 hmix hc.2.2.2.1 e24) [(0, 0)] 1 rfl) rfl rfl rfl rfl (.cons (.refl _) .nil) (.refl _) (fun _ => rfl) rfl (hasCons rfl hasNil) rfl rfl rfl rfl ?_
  refine RegV.p0 (v := (.d (.bool (decide (r16.2.2 ≠ (0 : Int)))))) rfl rfl rfl ?_
  refine RegV.p0 rfl rfl rfl ?_
  refine RegV.nil0 ?_
  refine AWc.cond rfl (fun c27 => ?_) (fun c27 => ?_)
  · have h := cond_pos c27 h
    refine AWc.seq ?_
    refine AWc.rg hmix rfl rfl ?_
    refine RegV.p0 rfl rfl rfl ?_
    obtain ⟨r32, e32, h⟩ := bind_some h
    refine RegV.callS (q := true) (H' := [(0, (.cells [(.d (.sl (List.map byteD a0))), (.d (.int .i64 r16.2.1)), (.d (.int .i64 r16.2.2))]))]) (c' := 1) (show ACalls P (N 42) [(.ptr 0 0)] [(0, (.cells [(.d (.sl (List.map byteD a0))), (.d (.int .i64 r16.2.1)), (.d (.int .i64 r16.2.2))]))] (.d (.int .i64 r16.2.2)) [(0, (.cells [(.d (.sl (List.map byteD a0))), (.d (.int .i64 r16.2.1)), (.d (.int .i64 r16.2.2))]))] from ACalls.use (F42 hmix hc.2.2.2.1 e32) [(0, 0)] 1 rfl) rfl rfl rfl rfl (.cons (.refl _) .nil) (.refl _) (fun _ => rfl) rfl (hasCons rfl hasNil) rfl rfl rfl rfl ?_
    refine RegV.p0 rfl rfl rfl ?_
    refine RegV.p0 rfl rfl rfl ?_
    refine RegV.nil0 ?_
    have hr := Option.some.inj h
    subst hr
    exact AWc.ret (canQ (N := 48) (k := 1) (l' := [(2, (.ap 0 3 (List.map TPair.enc ([] : List TPair)))), (3, (.d (.int .i64 r16.2.2)))]) (H' := [(0, (.tok ((List.map TPair.enc ([] : List TPair)).length * 3)))]) rfl ⟨rfl, [.tok 0], [(0, 1)], rfl, rfl, ⟨⟨_, rfl, .nil⟩, rfl, ⟨⟨_, rfl, (.refl _)⟩, rfl, trivial⟩⟩, ⟨⟨_, rfl, (.refl _)⟩, rfl, rfl, trivial⟩⟩ (doneA (.inr rfl) rfl ⟨trivial, ⟨trivial, trivial⟩⟩ (.refl _) (hasCons rfl hasNil)))
  · have h := cond_neg c27 h
    refine AWc.seq ?_
    refine AWc.rg hmix rfl rfl ?_
    refine RegV.p0 rfl rfl rfl ?_
    refine RegV.p0 (v := (.d (.bool (decide (r16.1 < (0 : Int)))))) rfl rfl rfl ?_
    refine RegV.p0 rfl rfl rfl ?_
    refine RegV.nil0 ?_
    refine AWc.cond rfl (fun c42 => ?_) (fun c42 => ?_)
    · have h := cond_pos c42 h
      refine AWc.seq ?_
      refine AWc.rg hmix rfl rfl ?_
      refine RegV.p0 rfl rfl rfl ?_
      refine RegV.p0 rfl rfl rfl ?_
      refine RegV.nil0 ?_
      have hr := Option.some.inj h
      subst hr
      exact AWc.ret (canQ (N := 48) (k := 1) (l' := [(2, (.ap 0 3 (List.map TPair.enc ([] : List TPair)))), (3, (.d (.int .i64 (4 : Int))))]) (H' := [(0, (.tok ((List.map TPair.enc ([] : List TPair)).length * 3)))]) rfl ⟨rfl, [.tok 0], [(0, 1)], rfl, rfl, ⟨⟨_, rfl, .nil⟩, rfl, ⟨⟨_, rfl, (.refl _)⟩, rfl, trivial⟩⟩, ⟨⟨_, rfl, (.refl _)⟩, rfl, rfl, trivial⟩⟩ (doneA (.inr rfl) rfl ⟨trivial, ⟨trivial, trivial⟩⟩ (.refl _) (hasCons rfl hasNil)))
    · have h := cond_neg c42 h
      refine AWc.seq ?_
      refine AWc.rg hmix rfl rfl ?_
      refine RegV.p0 rfl rfl rfl ?_
      refine RegV.p0 (v := (.d (.bool (decide (r16.1 > (10000 : Int)))))) rfl rfl rfl ?_
      refine RegV.p0 rfl rfl rfl ?_
      refine RegV.nil0 ?_
      refine AWc.cond rfl (fun c55 => ?_) (fun c55 => ?_)
      · have h := cond_pos c55 h
        refine AWc.seq ?_
        refine AWc.rg hmix rfl rfl ?_
        refine RegV.p0 rfl rfl rfl ?_
        refine RegV.p0 rfl rfl rfl ?_
        refine RegV.nil0 ?_
        have hr := Option.some.inj h
        subst hr
        exact AWc.ret (canQ (N := 48) (k := 1) (l' := [(2, (.ap 0 3 (List.map TPair.enc ([] : List TPair)))), (3, (.d (.int .i64 (5 : Int))))]) (H' := [(0, (.tok ((List.map TPair.enc ([] : List TPair)).length * 3)))]) rfl ⟨rfl, [.tok 0], [(0, 1)], rfl, rfl, ⟨⟨_, rfl, .nil⟩, rfl, ⟨⟨_, rfl, (.refl _)⟩, rfl, trivial⟩⟩, ⟨⟨_, rfl, (.refl _)⟩, rfl, rfl, trivial⟩⟩ (doneA (.inr rfl) rfl ⟨trivial, ⟨trivial, trivial⟩⟩ (.refl _) (hasCons rfl hasNil)))
      · have h := cond_neg c55 h
        refine AWc.skip ?_
        refine AWc.seq ?_
        refine AWc.rg hmix rfl rfl ?_
        refine RegV.p0 rfl rfl rfl ?_
        refine RegV.nil0 ?_
        refine AWc.seqS (N := 48) 2 (fun (z : ((List TPair) × Int × Int)) => [(4, (.ptr 0 0)), (6, (.ap 1 3 (List.map TPair.enc z.1)))]) (fun z => [(0, (.cells [(.d (.sl (List.map byteD a0))), (.d (.int .i64 z.2.1)), (.d (.int .i64 z.2.2))])), (1, (.tok ((List.map TPair.enc z.1).length * 3)))]) (fun z => f78_j122 k a0 z.1 z.2.1 z.2.2 = some r) rfl_le ?_ ?_
        · refine AWc.seq ?_
          refine AWc.rg hmix rfl rfl ?_
          refine RegV.p0 rfl rfl rfl ?_
          refine RegV.p0 rfl rfl rfl ?_
          refine RegV.nil0 ?_
          obtain ⟨o73, h73, h⟩ := bind_some h
          refine AWc.block ?_
          refine AWc.loopK (N := 48) 2 (fun (x : ((List TPair) × Int × Int × Int)) => [(4, (.ptr 0 0)), (6, (.ap 1 3 (List.map TPair.enc x.1))), (26, (.d (.int .i64 r16.1))), (27, (.d (.int .i64 x.2.1)))]) (fun x => [(0, (.cells [(.d (.sl (List.map byteD a0))), (.d (.int .i64 x.2.2.1)), (.d (.int .i64 x.2.2.2))])), (1, (.tok ((List.map TPair.enc x.1).length * 3)))]) (fun k x => f78_l73 r16 a0 k x.1 x.2.1 x.2.2.1 x.2.2.2 = some o73) k (([] : List TPair), (0 : Int), r16.2.1, r16.2.2) rfl_le (fun x hx => by cases hx) h73 ⟨rfl, [.tok 0], [(1, 1)], rfl, rfl, ⟨⟨_, rfl, (.refl _)⟩, rfl, ⟨⟨_, rfl, .nil⟩, rfl, ⟨⟨_, rfl, (.refl _)⟩, rfl, ⟨⟨_, rfl, (.refl _)⟩, rfl, trivial⟩⟩⟩⟩, ⟨⟨_, rfl, (.refl _)⟩, rfl, rfl, ⟨⟨_, rfl, (.refl _)⟩, rfl, rfl, trivial⟩⟩⟩ ?_
          clear h73
          intro k
          rintro ⟨y73_1, y73_2, y73_3, y73_4⟩ h73
          dsimp only at h73 ⊢
          rw [f78_l73] at h73
          refine AWc.seq ?_
          refine AWc.rg hmix rfl rfl ?_
          refine RegV.p0 (v := (.d (.bool (decide (y73_2 < r16.1))))) rfl rfl rfl ?_
          refine RegV.nil0 ?_
          refine AWc.seq ?_
          refine AWc.cond rfl (fun c80 => ?_) (fun c80 => ?_)
          · have h73 := cond_pos c80 h73
            refine AWc.skip ?_
            refine AWc.seq ?_
            refine AWc.block ?_
            refine AWc.seq ?_
            refine AWc.rg hmix rfl rfl ?_
            refine RegV.p0 rfl rfl rfl ?_
            obtain ⟨r89, e89, h73⟩ := bind_some h73
            refine RegV.callS (q := false) (H' := [(0, (.cells [(.d (.sl (List.map byteD a0))), (.d (.int .i64 r89.2.2.2.2.1)), (.d (.int .i64 r89.2.2.2.2.2))])), (1, (.tok ((List.map TPair.enc y73_1).length * 3)))]) (c' := 2) (show ACalls P (N 107) [(.ptr 0 0)] [(0, (.cells [(.d (.sl (List.map byteD a0))), (.d (.int .i64 y73_3)), (.d (.int .i64 y73_4))]))] (.tup [(.d (.agg [(.str r89.2.1), (.sl (List.map byteD r89.2.2.1)), (.bool r89.2.2.2.1)])), (.d (.int .i64 r89.1))]) [(0, (.cells [(.d (.sl (List.map byteD a0))), (.d (.int .i64 r89.2.2.2.2.1)), (.d (.int .i64 r89.2.2.2.2.2))]))] from ACalls.use (F107 hmix hc.2.2.2.2.1 e89) [(0, 0)] 1 rfl) rfl rfl rfl rfl (.cons (.refl _) .nil) (.refl _) (fun h => by cases h) rfl (hasCons rfl hasNil) rfl rfl rfl rfl ?_
            refine RegV.p0 rfl rfl rfl ?_
            refine RegV.p0 rfl rfl rfl ?_
            refine RegV.p0 rfl rfl rfl ?_
            refine RegV.evS (own := false) (v := (.ptr 2 0)) (H' := [(2, (.cells [(.d (.str ([] : List UInt8))), .nils, (.d (.bool false))])), (0, (.cells [(.d (.sl (List.map byteD a0))), (.d (.int .i64 r89.2.2.2.2.1)), (.d (.int .i64 r89.2.2.2.2.2))])), (1, (.tok ((List.map TPair.enc y73_1).length * 3)))]) (c' := 3) rfl rfl trivial rfl rfl rfl rfl rfl rfl ?_
            refine RegV.evN (own := false) (H' := [(2, (.cells [(.d (.str r89.2.1)), (.d (.sl (List.map byteD r89.2.2.1))), (.d (.bool r89.2.2.2.1))])), (0, (.cells [(.d (.sl (List.map byteD a0))), (.d (.int .i64 r89.2.2.2.2.1)), (.d (.int .i64 r89.2.2.2.2.2))])), (1, (.tok ((List.map TPair.enc y73_1).length * 3)))]) (c' := 3) rfl rfl (by exact ⟨rfl, Nat.le_of_ble_eq_true rfl, rfl⟩) rfl rfl rfl rfl ?_
            refine RegV.p0 rfl rfl rfl ?_
            refine RegV.nil0 ?_
            refine AWc.seq ?_
            refine AWc.seq ?_
            refine AWc.rg hmix rfl rfl ?_
            refine RegV.p0 rfl rfl rfl ?_
            refine RegV.p0 (v := (.d (.bool (decide (r89.1 ≠ (0 : Int)))))) rfl rfl rfl ?_
            refine RegV.nil0 ?_
            refine AWc.cond rfl (fun c102 => ?_) (fun c102 => ?_)
            · have h73 := cond_pos c102 h73
              refine AWc.seq ?_
              refine AWc.rg hmix rfl rfl ?_
              refine RegV.p0 rfl rfl rfl ?_
              refine RegV.p0 rfl rfl rfl ?_
              refine RegV.p0 rfl rfl rfl ?_
              refine RegV.nil0 ?_
              cases h73
              dsimp only at h
              have hr := Option.some.inj h
              subst hr
              exact AWc.ret (canQ (N := 48) (k := 1) (l' := [(2, (.ap 0 3 (List.map TPair.enc ([] : List TPair)))), (3, (.d (.int .i64 r89.1)))]) (H' := [(0, (.tok ((List.map TPair.enc ([] : List TPair)).length * 3)))]) rfl ⟨rfl, [.tok 0], [(0, 3)], rfl, rfl, ⟨⟨_, rfl, .nil⟩, rfl, ⟨⟨_, rfl, (.refl _)⟩, rfl, trivial⟩⟩, ⟨⟨_, rfl, (.refl _)⟩, rfl, rfl, trivial⟩⟩ (doneA (.inr rfl) rfl ⟨trivial, ⟨trivial, trivial⟩⟩ (.refl _) (hasCons rfl hasNil)))
            · have h73 := cond_neg c102 h73
              refine AWc.skip ?_
              refine AWc.rg hmix rfl rfl ?_
              refine RegV.p0 rfl rfl rfl ?_
              refine RegV.ld (v := (.d (.agg [(.str r89.2.1), (.sl (List.map byteD r89.2.2.1)), (.bool r89.2.2.2.1)]))) (H' := [(2, (.cells [(.d (.str r89.2.1)), (.d (.sl (List.map byteD r89.2.2.1))), (.d (.bool r89.2.2.2.1))])), (0, (.cells [(.d (.sl (List.map byteD a0))), (.d (.int .i64 r89.2.2.2.2.1)), (.d (.int .i64 r89.2.2.2.2.2))])), (1, (.tok ((List.map TPair.enc y73_1).length * 3)))]) rfl rfl (Nat.le_of_ble_eq_true rfl) rfl rfl rfl rfl rfl ?_
              refine RegV.p1 (v := (.d (.sl (List.map TPair.enc ([(TPair.mk r89.2.1 r89.2.2.1 r89.2.2.2.1)] : List TPair))))) rfl rfl (by exact ⟨rfl, Nat.le_of_ble_eq_true rfl, mapLen (e := TPair.enc) (xs := ([(TPair.mk r89.2.1 r89.2.2.1 r89.2.2.2.1)] : List TPair)) (z := 3) (fun _ => rfl)⟩) rfl rfl ?_
              obtain ⟨b116, h73⟩ := gd_some h73
              refine RegV.appA (xs := y73_1) (ys := ([(TPair.mk r89.2.1 r89.2.2.1 r89.2.2.2.1)] : List TPair)) (e := TPair.enc) (H1 := [(2, (.cells [(.d (.str r89.2.1)), (.d (.sl (List.map byteD r89.2.2.1))), (.d (.bool r89.2.2.2.1))])), (0, (.cells [(.d (.sl (List.map byteD a0))), (.d (.int .i64 r89.2.2.2.2.1)), (.d (.int .i64 r89.2.2.2.2.2))]))]) rfl rfl rfl rfl (fun _ => rfl) rfl rfl b116 rfl rfl rfl ?_
              refine RegV.p0 rfl rfl rfl ?_
              refine RegV.nil0 ?_
              refine AWc.rg hmix rfl rfl ?_
              refine RegV.p0 (v := (.d (.int .i64 (IntKind.i64.wrap (y73_2 + (1 : Int)))))) rfl rfl rfl ?_
              refine RegV.p0 rfl rfl rfl ?_
              refine RegV.nil0 ?_
              exact ⟨((y73_1 ++ ([(TPair.mk r89.2.1 r89.2.2.1 r89.2.2.2.1)] : List TPair)), (IntKind.i64.wrap (y73_2 + (1 : Int))), r89.2.2.2.2.1, r89.2.2.2.2.2), h73, ⟨rfl, [], [(1, 3)], rfl, rfl, ⟨⟨_, rfl, (.refl _)⟩, rfl, ⟨⟨_, rfl, (.refl _)⟩, rfl, ⟨⟨_, rfl, (.refl _)⟩, rfl, ⟨⟨_, rfl, (.refl _)⟩, rfl, trivial⟩⟩⟩⟩, ⟨⟨_, rfl, (.refl _)⟩, rfl, rfl, ⟨⟨_, rfl, (.refl _)⟩, rfl, rfl, trivial⟩⟩⟩⟩
          · have h73 := cond_neg c80 h73
            cases h73
            dsimp only at h
            refine AWc.exit ?_
            refine inBlk_eq ?_
            exact ⟨(y73_1, y73_3, y73_4), h, ⟨rfl, [], [], rfl, rfl, ⟨⟨_, rfl, (.refl _)⟩, rfl, ⟨⟨_, rfl, (.refl _)⟩, rfl, trivial⟩⟩, ⟨⟨_, rfl, (.refl _)⟩, rfl, rfl, ⟨⟨_, rfl, (.refl _)⟩, rfl, rfl, trivial⟩⟩⟩⟩
        · rintro ⟨j122_1, j122_2, j122_3⟩ h
          dsimp only at h ⊢
          unfold f78_j122 at h
          refine AWc.seq ?_
          refine AWc.seq ?_
          refine AWc.rg hmix rfl rfl ?_
          refine RegV.p0 rfl rfl rfl ?_
          obtain ⟨r127, e127, h⟩ := bind_some h
          refine RegV.callS (q := true) (H' := [(0, (.cells [(.d (.sl (List.map byteD a0))), (.d (.int .i64 j122_2)), (.d (.int .i64 j122_3))])), (1, (.tok ((List.map TPair.enc j122_1).length * 3)))]) (c' := 2) (show ACalls P (N 43) [(.ptr 0 0)] [(0, (.cells [(.d (.sl (List.map byteD a0))), (.d (.int .i64 j122_2)), (.d (.int .i64 j122_3))]))] (.d (.int .i64 r127)) [(0, (.cells [(.d (.sl (List.map byteD a0))), (.d (.int .i64 j122_2)), (.d (.int .i64 j122_3))]))] from ACalls.use (F43 hmix hc.2.2.2.2.2 e127) [(0, 0)] 1 rfl) rfl rfl rfl rfl (.cons (.refl _) .nil) (.refl _) (fun _ => rfl) rfl (hasCons rfl hasNil) rfl rfl rfl rfl ?_
          refine RegV.p0 rfl rfl rfl ?_
          refine RegV.nil0 ?_
          refine AWc.seq ?_
          refine AWc.rg hmix rfl rfl ?_
          refine RegV.p0 rfl rfl rfl ?_
          refine RegV.p0 (v := (.d (.bool (decide (r127 ≠ (0 : Int)))))) rfl rfl rfl ?_
          refine RegV.nil0 ?_
          refine AWc.cond rfl (fun c134 => ?_) (fun c134 => ?_)
          · have h := cond_pos c134 h
            refine AWc.seq ?_
            refine AWc.rg hmix rfl rfl ?_
            refine RegV.p0 rfl rfl rfl ?_
            refine RegV.p0 rfl rfl rfl ?_
            refine RegV.p0 rfl rfl rfl ?_
            refine RegV.nil0 ?_
            have hr := Option.some.inj h
            subst hr
            exact AWc.ret (canQ (N := 48) (k := 1) (l' := [(2, (.ap 0 3 (List.map TPair.enc ([] : List TPair)))), (3, (.d (.int .i64 r127)))]) (H' := [(0, (.tok ((List.map TPair.enc ([] : List TPair)).length * 3)))]) rfl ⟨rfl, [.tok 0], [(0, 2)], rfl, rfl, ⟨⟨_, rfl, .nil⟩, rfl, ⟨⟨_, rfl, (.refl _)⟩, rfl, trivial⟩⟩, ⟨⟨_, rfl, (.refl _)⟩, rfl, rfl, trivial⟩⟩ (doneA (.inr rfl) rfl ⟨trivial, ⟨trivial, trivial⟩⟩ (.refl _) (hasCons rfl hasNil)))
          · have h := cond_neg c134 h
            refine AWc.skip ?_
            refine AWc.seq ?_
            refine AWc.rg hmix rfl rfl ?_
            refine RegV.p0 rfl rfl rfl ?_
            refine RegV.p0 rfl rfl rfl ?_
            refine RegV.p0 rfl rfl rfl ?_
            refine RegV.nil0 ?_
            have hr := Option.some.inj h
            subst hr
            exact AWc.ret (canQ (N := 48) (k := 1) (l' := [(2, (.ap 0 3 (List.map TPair.enc j122_1))), (3, (.d (.int .i64 (0 : Int))))]) (H' := [(0, (.tok ((List.map TPair.enc j122_1).length * 3)))]) rfl ⟨rfl, [], [(0, 1)], rfl, rfl, ⟨⟨_, rfl, (.refl _)⟩, rfl, ⟨⟨_, rfl, (.refl _)⟩, rfl, trivial⟩⟩, ⟨⟨_, rfl, (.refl _)⟩, rfl, rfl, trivial⟩⟩ (doneA (.inr rfl) rfl ⟨trivial, ⟨trivial, trivial⟩⟩ (.refl _) (hasCons rfl hasNil)))
/-- courant/courantref01.New -/
def C44 (N : Nat → Nat) : AFunc := { n := 7, params := 1, res := [.tmp 2], body :=
 (.seq (.region false [⟨(some 2), .mv (.k (.d .nilp)), none, []⟩])
  (.seq (.region false [⟨(some 3), .mv (.t 0), none, []⟩,
    ⟨(some 4), .app (.k .nils) (.t 3) 1 1 [(.int .u8 0)], none, [0]⟩,
    ⟨(some 5), .build [(.sl []), (.int .i64 0), (.int .i64 0)] [(0, 1, (.t 4))], none, [1]⟩,
    ⟨(some 6), .box (.t 5), none, [2]⟩,
    ⟨(some 2), .mv (.t 6), none, [3, 1, 0, 2]⟩])
   .ret)) }
def HC44 (P : Program) (N : Nat → Nat) : Prop := HasF P (N 44) (C44 N)
def f44 (k : Nat) (a0 : (List UInt8)) : Option Unit := gd (a0.length * 1 ≤ 281474976710656) (some ())
theorem F44 {P : Program} {N : Nat → Nat} (hmix : P.follows .mixedOrders = true) (hc : HC44 P N) {k : Nat} {a0 : (List UInt8)} {r : Unit} (h : f44 k a0 = some r) :
    ACalls P (N 44) [(.d (.sl (List.map byteD a0)))] [] (.ptr 0 0) [(0, (.cells [(.d (.sl (List.map byteD a0))), (.d (.int .i64 (0 : Int))), (.d (.int .i64 (0 : Int)))]))] := by
  refine acalls_canon (F := C44 N) hc 0 1 rfl ?_
  unfold f44 at h
  dsimp only [C44, startL]
  refine AWc.seq ?_
  refine AWc.rg hmix rfl rfl ?_
  refine RegV.p0 rfl rfl rfl ?_
  refine RegV.nil0 ?_
  refine AWc.seq ?_
  refine AWc.rg hmix rfl rfl ?_
  refine RegV.p0 rfl rfl rfl ?_
  obtain ⟨b9, h⟩ := gd_some h
  refine RegV.appN (ys := a0) (e := byteD) rfl rfl rfl (fun _ => rfl) rfl rfl b9 rfl rfl ?_
  refine RegV.p1 (v := (.d (.agg [(.sl (List.map byteD a0)), (.int .i64 (0 : Int)), (.int .i64 (0 : Int))]))) rfl rfl (by exact ⟨⟨rfl, Nat.le_of_ble_eq_true rfl⟩, trivial⟩) rfl rfl ?_
  refine RegV.evS (own := false) (v := (.ptr 1 0)) (H' := [(1, (.cells [(.d (.sl (List.map byteD a0))), (.d (.int .i64 (0 : Int))), (.d (.int .i64 (0 : Int)))])), (0, (.tok ((List.map byteD a0).length * 1)))]) (c' := 2) rfl rfl trivial rfl rfl rfl rfl rfl rfl ?_
  refine RegV.p0 rfl rfl rfl ?_
  refine RegV.nil0 ?_
  have hr := Option.some.inj h
  subst hr
  exact AWc.ret (canQ (N := 7) (k := 1) (l' := [(2, (.ptr 0 0))]) (H' := [(0, (.cells [(.d (.sl (List.map byteD a0))), (.d (.int .i64 (0 : Int))), (.d (.int .i64 (0 : Int)))]))]) rfl ⟨rfl, [], [(0, 1)], rfl, rfl, ⟨⟨_, rfl, (.refl _)⟩, rfl, trivial⟩, ⟨⟨_, rfl, (.refl _)⟩, rfl, rfl, trivial⟩⟩ (doneA (.inr rfl) rfl ⟨trivial, trivial⟩ (.refl _) (hasCons rfl hasNil)))
/-- (*courant/courantref01.Reader).number -/
def C89 (N : Nat → Nat) : AFunc := { n := 60, params := 1, res := [.tmp 2, .tmp 3, .tmp 4], body :=
 (.seq (.region false [⟨(some 2), .mv (.k (.d (.int .u64 0))), none, []⟩,
   ⟨(some 3), .mv (.k (.d (.int .i64 0))), none, [0]⟩,
   ⟨(some 4), .mv (.k (.d (.int .i64 0))), none, [1]⟩])
  (.seq (.region false [⟨(some 5), .mv (.k (.d (.int .u64 0))), none, []⟩])
   (.seq (.region false [⟨(some 6), .mv (.k (.d (.int .i64 0))), none, []⟩])
    (.block 0 (.loop (.seq (.block 1 (.seq (.seq (.region true [⟨(some 10), .mv (.t 0), none, []⟩,
           ⟨(some 11), .nilchk (.t 10), none, [0]⟩,
           ⟨(some 12), .faddr (.t 11) 1, none, [1]⟩,
           ⟨(some 13), .load (.t 12) 1 false, none, [2]⟩,
           ⟨(some 14), .mv (.t 6), none, []⟩,
           ⟨(some 15), .bin .add (.t 13) (.t 14), none, [3, 4]⟩,
           ⟨(some 16), .mv (.t 0), none, []⟩,
           ⟨(some 17), .nilchk (.t 16), none, [6]⟩,
           ⟨(some 18), .faddr (.t 17) 0, none, [7]⟩,
           ⟨(some 19), .load (.t 18) 1 false, none, [8]⟩,
           ⟨(some 20), .len (.t 19), none, [9]⟩,
           ⟨(some 21), .bin .geq (.t 15) (.t 20), none, [5, 10]⟩])
          (.cond (.t 21) (.seq (.region false [⟨(some 2), .mv (.k (.d (.int .u64 0))), none, []⟩,
             ⟨(some 3), .mv (.k (.d (.int .i64 0))), none, [0]⟩,
             ⟨(some 4), .mv (.k (.d (.int .i64 3))), none, [1, 0]⟩])
            .ret)
           (.skip)))
         (.seq (.region true [⟨(some 22), .mv (.t 0), none, []⟩,
           ⟨(some 23), .nilchk (.t 22), none, [0]⟩,
           ⟨(some 24), .faddr (.t 23) 0, none, [1]⟩,
           ⟨(some 25), .load (.t 24) 1 false, none, [2]⟩,
           ⟨(some 26), .mv (.t 0), none, []⟩,
           ⟨(some 27), .nilchk (.t 26), none, [4]⟩,
           ⟨(some 28), .faddr (.t 27) 1, none, [5]⟩,
           ⟨(some 29), .load (.t 28) 1 false, none, [6]⟩,
           ⟨(some 30), .mv (.t 6), none, []⟩,
           ⟨(some 31), .bin .add (.t 29) (.t 30), none, [7, 8]⟩,
           ⟨(some 32), .iaddr (.t 25) (.t 31) 1, none, [3, 9]⟩,
           ⟨(some 33), .load (.t 32) 1 false, none, [10]⟩,
           ⟨(some 7), .mv (.t 33), none, [11, 0, 1, 2, 3, 4, 5, 6, 7, 8, 9, 10]⟩])
          (.seq (.seq (.region false [⟨(some 34), .mv (.t 6), none, []⟩,
             ⟨(some 35), .bin .eql (.t 34) (.k (.d (.int .i64 9))), none, [0]⟩,
             ⟨(some 36), .mv (.t 35), none, [1]⟩,
             ⟨(some 37), .mv (.t 7), (some (36, true)), [2]⟩,
             ⟨(some 38), .bin .gtr (.t 37) (.k (.d (.int .u8 1))), (some (36, true)), [3, 2]⟩,
             ⟨(some 39), .pick (.t 36) (.t 38) (.k (.d (.bool false))), none, [2, 4]⟩])
            (.cond (.t 39) (.seq (.region false [⟨(some 2), .mv (.k (.d (.int .u64 0))), none, []⟩,
               ⟨(some 3), .mv (.k (.d (.int .i64 0))), none, [0]⟩,
               ⟨(some 4), .mv (.k (.d (.int .i64 4))), none, [1, 0]⟩])
              .ret)
             (.skip)))
           (.seq (.region false [⟨(some 40), .mv (.t 5), none, []⟩,
             ⟨(some 41), .mv (.t 7), none, []⟩,
             ⟨(some 42), .bin .and (.t 41) (.k (.d (.int .u8 127))), none, [1]⟩,
             ⟨(some 43), .cvi .u64 (.t 42), none, [2]⟩,
             ⟨(some 44), .mv (.t 6), none, []⟩,
             ⟨(some 45), .bin .mul (.k (.d (.int .i64 7))) (.t 44), none, [4]⟩,
             ⟨(some 46), .cvi .u64 (.t 45), none, [5]⟩,
             ⟨(some 47), .bin .shl (.t 43) (.t 46), none, [3, 6]⟩,
             ⟨(some 48), .bin .or (.t 40) (.t 47), none, [0, 7]⟩,
             ⟨(some 5), .mv (.t 48), none, [8, 0, 1, 2, 3, 4, 5, 6, 7]⟩])
            (.seq (.region false [⟨(some 49), .mv (.t 7), none, []⟩,
              ⟨(some 50), .bin .lss (.t 49) (.k (.d (.int .u8 128))), none, [0]⟩])
             (.cond (.t 50) (.seq (.seq (.region false [⟨(some 51), .mv (.t 7), none, []⟩,
                 ⟨(some 52), .bin .eql (.t 51) (.k (.d (.int .u8 0))), none, [0]⟩,
                 ⟨(some 53), .mv (.t 52), none, [1]⟩,
                 ⟨(some 54), .mv (.t 6), (some (53, true)), [2]⟩,
                 ⟨(some 55), .bin .gtr (.t 54) (.k (.d (.int .i64 0))), (some (53, true)), [3, 2]⟩,
                 ⟨(some 56), .pick (.t 53) (.t 55) (.k (.d (.bool false))), none, [2, 4]⟩])
                (.cond (.t 56) (.seq (.region false [⟨(some 2), .mv (.k (.d (.int .u64 0))), none, []⟩,
                   ⟨(some 3), .mv (.k (.d (.int .i64 0))), none, [0]⟩,
                   ⟨(some 4), .mv (.k (.d (.int .i64 4))), none, [1, 0]⟩])
                  .ret)
                 (.skip)))
               (.seq (.region false [⟨(some 57), .mv (.t 5), none, []⟩,
                 ⟨(some 58), .mv (.t 6), none, []⟩,
                 ⟨(some 59), .bin .add (.t 58) (.k (.d (.int .i64 1))), none, [1]⟩,
                 ⟨(some 2), .mv (.t 57), none, [0]⟩,
                 ⟨(some 3), .mv (.t 59), none, [2, 3, 0, 1]⟩,
                 ⟨(some 4), .mv (.k (.d (.int .i64 0))), none, [4, 0, 1, 2, 3]⟩])
                .ret))
              (.skip))))))))
       (.region false [⟨(some 8), .mv (.t 6), none, []⟩,
        ⟨(some 9), .bin .add (.t 8) (.k (.d (.int .i64 1))), none, [0]⟩,
        ⟨(some 6), .mv (.t 9), none, [1, 0]⟩]))))))) }
def HC89 (P : Program) (N : Nat → Nat) : Prop := HasF P (N 89) (C89 N)
def f89_j108 (k : Nat) (y15_1 : Int) (a0 : (List UInt8)) (a1 : Int) (y15_2 : Int) (j108_1 : Bool) : Option (LR2 Unit Unit (Int × Int × Int)) := cond j108_1 (some (.r ((0 : Int), (0 : Int), (4 : Int)))) (some (.r ((bitsA .or .u64 y15_1 (IntKind.u64.wrap ((IntKind.u64.wrap (bitsA .and .u8 (((rd a0 (IntKind.i64.wrap (a1 + y15_2))).toNat : Nat) : Int) (127 : Int))) * 2 ^ (min ((IntKind.u64.wrap (IntKind.i64.wrap ((7 : Int) * y15_2)))).toNat IntKind.u64.bits)))), (IntKind.i64.wrap (y15_2 + (1 : Int))), (0 : Int))))
def f89_j70 (L : Int → Int → Option (LR2 Unit Unit (Int × Int × Int))) (k : Nat) (y15_2 : Int) (a0 : (List UInt8)) (a1 : Int) (y15_1 : Int) (j70_1 : Bool) : Option (LR2 Unit Unit (Int × Int × Int)) := cond j70_1 (some (.r ((0 : Int), (0 : Int), (4 : Int)))) (gd (0 ≤ (IntKind.u64.wrap (IntKind.i64.wrap ((7 : Int) * y15_2)))) (cond (decide ((((rd a0 (IntKind.i64.wrap (a1 + y15_2))).toNat : Nat) : Int) < (128 : Int))) (cond (decide ((((rd a0 (IntKind.i64.wrap (a1 + y15_2))).toNat : Nat) : Int) = (0 : Int))) (f89_j108 k y15_1 a0 a1 y15_2 (decide (y15_2 > (0 : Int)))) (f89_j108 k y15_1 a0 a1 y15_2 false)) (L (bitsA .or .u64 y15_1 (IntKind.u64.wrap ((IntKind.u64.wrap (bitsA .and .u8 (((rd a0 (IntKind.i64.wrap (a1 + y15_2))).toNat : Nat) : Int) (127 : Int))) * 2 ^ (min ((IntKind.u64.wrap (IntKind.i64.wrap ((7 : Int) * y15_2)))).toNat IntKind.u64.bits)))) (IntKind.i64.wrap (y15_2 + (1 : Int))))))
def f89_l15 (a1 : Int) (a0 : (List UInt8)) : Nat → Int → Int → Option (LR2 Unit Unit (Int × Int × Int))
  | 0, _, _ => none
  | k + 1, y15_1, y15_2 => cond (decide ((IntKind.i64.wrap (a1 + y15_2)) ≥ ((a0.length : Nat) : Int))) (some (.r ((0 : Int), (0 : Int), (3 : Int)))) (gd (0 ≤ (IntKind.i64.wrap (a1 + y15_2)) ∧ (IntKind.i64.wrap (a1 + y15_2)) < ((a0.length : Nat) : Int)) (cond (decide (y15_2 = (9 : Int))) (f89_j70 (f89_l15 a1 a0 k) k y15_2 a0 a1 y15_1 (decide ((((rd a0 (IntKind.i64.wrap (a1 + y15_2))).toNat : Nat) : Int) > (1 : Int)))) (f89_j70 (f89_l15 a1 a0 k) k y15_2 a0 a1 y15_1 false)))
def f89 (k : Nat) (a0 : (List UInt8)) (a1 : Int) (a2 : Int) : Option (Int × Int × Int) := (f89_l15 a1 a0 k (0 : Int) (0 : Int)).bind fun o15 => (match o15 with | .r x => some x | _ => none)
theorem F89 {P : Program} {N : Nat → Nat} (hmix : P.follows .mixedOrders = true) (hc : HC89 P N) {k : Nat} {a0 : (List UInt8)} {a1 : Int} {a2 : Int} {r : (Int × Int × Int)} (h : f89 k a0 a1 a2 = some r) :
    ACalls P (N 89) [(.ptr 0 0)] [(0, (.cells [(.d (.sl (List.map byteD a0))), (.d (.int .i64 a1)), (.d (.int .i64 a2))]))] (.tup [(.d (.int .u64 r.1)), (.d (.int .i64 r.2.1)), (.d (.int .i64 r.2.2))]) [(0, (.cells [(.d (.sl (List.map byteD a0))), (.d (.int .i64 a1)), (.d (.int .i64 a2))]))] := by
  refine acalls_canon (F := C89 N) hc 1 1 rfl ?_
  unfold f89 at h
  dsimp only [C89, startL]
  refine AWc.seq ?_
  refine AWc.rg hmix rfl rfl ?_
  refine RegV.p0 rfl rfl rfl ?_
  refine RegV.p0 rfl rfl rfl ?_
  refine RegV.p0 rfl rfl rfl ?_
  refine RegV.nil0 ?_
  refine AWc.seq ?_
  refine AWc.rg hmix rfl rfl ?_
  refine RegV.p0 rfl rfl rfl ?_
  refine RegV.nil0 ?_
  refine AWc.seq ?_
  refine AWc.rg hmix rfl rfl ?_
  refine RegV.p0 rfl rfl rfl ?_
  refine RegV.nil0 ?_
  obtain ⟨o15, h15, h⟩ := bind_some h
  refine AWc.block ?_
  refine AWc.loopK (N := 60) 1 (fun (x : (Int × Int)) => [(0, (.ptr 0 0)), (5, (.d (.int .u64 x.1))), (6, (.d (.int .i64 x.2)))]) (fun x => [(0, (.cells [(.d (.sl (List.map byteD a0))), (.d (.int .i64 a1)), (.d (.int .i64 a2))]))]) (fun k x => f89_l15 a1 a0 k x.1 x.2 = some o15) k ((0 : Int), (0 : Int)) rfl_le (fun x hx => by cases hx) h15 ⟨rfl, [], [], rfl, rfl, ⟨⟨_, rfl, (.refl _)⟩, rfl, ⟨⟨_, rfl, (.refl _)⟩, rfl, ⟨⟨_, rfl, (.refl _)⟩, rfl, trivial⟩⟩⟩, ⟨⟨_, rfl, (.refl _)⟩, rfl, rfl, trivial⟩⟩ ?_
  clear h15
  intro k
  rintro ⟨y15_1, y15_2⟩ h15
  dsimp only at h15 ⊢
  rw [f89_l15] at h15
  refine AWc.seq ?_
  refine AWc.block ?_
  refine AWc.seq ?_
  refine AWc.seq ?_
  refine AWc.rg hmix rfl rfl ?_
  refine RegV.p0 rfl rfl rfl ?_
  refine RegV.p0 rfl rfl rfl ?_
  refine RegV.p0 (v := (.ptr 0 1)) rfl rfl rfl ?_
  refine RegV.ld (v := (.d (.int .i64 a1))) (H' := [(0, (.cells [(.d (.sl (List.map byteD a0))), (.d (.int .i64 a1)), (.d (.int .i64 a2))]))]) rfl rfl trivial rfl rfl rfl rfl rfl ?_
  refine RegV.p0 rfl rfl rfl ?_
  refine RegV.p0 (v := (.d (.int .i64 (IntKind.i64.wrap (a1 + y15_2))))) rfl rfl rfl ?_
  refine RegV.p0 rfl rfl rfl ?_
  refine RegV.p0 rfl rfl rfl ?_
  refine RegV.p0 (v := (.ptr 0 0)) rfl rfl rfl ?_
  refine RegV.ld (v := (.d (.sl (List.map byteD a0)))) (H' := [(0, (.cells [(.d (.sl (List.map byteD a0))), (.d (.int .i64 a1)), (.d (.int .i64 a2))]))]) rfl rfl trivial rfl rfl rfl rfl rfl ?_
  refine RegV.len (xs := a0) (e := byteD) rfl rfl rfl rfl ?_
  refine RegV.p0 (v := (.d (.bool (decide ((IntKind.i64.wrap (a1 + y15_2)) ≥ ((a0.length : Nat) : Int)))))) rfl rfl rfl ?_
  refine RegV.nil1 (by kernel_rfl) ?_
  refine AWc.cond rfl (fun c35 => ?_) (fun c35 => ?_)
  · have h15 := cond_pos c35 h15
    refine AWc.seq ?_
    refine AWc.rg hmix rfl rfl ?_
    refine RegV.p0 rfl rfl rfl ?_
    refine RegV.p0 rfl rfl rfl ?_
    refine RegV.p0 rfl rfl rfl ?_
    refine RegV.nil0 ?_
    cases h15
    dsimp only at h
    have hr := Option.some.inj h
    subst hr
    exact AWc.ret (canQ (N := 60) (k := 1) (l' := [(2, (.d (.int .u64 (0 : Int)))), (3, (.d (.int .i64 (0 : Int)))), (4, (.d (.int .i64 (3 : Int))))]) (H' := [(0, (.cells [(.d (.sl (List.map byteD a0))), (.d (.int .i64 a1)), (.d (.int .i64 a2))]))]) rfl ⟨rfl, [], [], rfl, rfl, ⟨⟨_, rfl, (.refl _)⟩, rfl, ⟨⟨_, rfl, (.refl _)⟩, rfl, ⟨⟨_, rfl, (.refl _)⟩, rfl, trivial⟩⟩⟩, ⟨⟨_, rfl, (.refl _)⟩, rfl, rfl, trivial⟩⟩ (doneA (.inr rfl) rfl ⟨trivial, ⟨trivial, ⟨trivial, trivial⟩⟩⟩ (.refl _) (hasCons rfl hasNil)))
  · have h15 := cond_neg c35 h15
    refine AWc.skip ?_
    refine AWc.seq ?_
    refine AWc.rg hmix rfl rfl ?_
    refine RegV.p0 rfl rfl rfl ?_
    refine RegV.p0 rfl rfl rfl ?_
    refine RegV.p0 (v := (.ptr 0 0)) rfl rfl rfl ?_
    refine RegV.ld (v := (.d (.sl (List.map byteD a0)))) (H' := [(0, (.cells [(.d (.sl (List.map byteD a0))), (.d (.int .i64 a1)), (.d (.int .i64 a2))]))]) rfl rfl trivial rfl rfl rfl rfl rfl ?_
    refine RegV.p0 rfl rfl rfl ?_
    refine RegV.p0 rfl rfl rfl ?_
    refine RegV.p0 (v := (.ptr 0 1)) rfl rfl rfl ?_
    refine RegV.ld (v := (.d (.int .i64 a1))) (H' := [(0, (.cells [(.d (.sl (List.map byteD a0))), (.d (.int .i64 a1)), (.d (.int .i64 a2))]))]) rfl rfl trivial rfl rfl rfl rfl rfl ?_
    refine RegV.p0 rfl rfl rfl ?_
    refine RegV.p0 (v := (.d (.int .i64 (IntKind.i64.wrap (a1 + y15_2))))) rfl rfl rfl ?_
    obtain ⟨b57, h15⟩ := gd_some h15
    refine RegV.iad (xs := a0) (e := byteD) rfl rfl rfl rfl (fun _ => rfl) b57 rfl ?_
    refine RegV.p0 (v := (.d (.int .u8 (((rd a0 (IntKind.i64.wrap (a1 + y15_2))).toNat : Nat) : Int)))) rfl rfl rfl ?_
    refine RegV.p0 rfl rfl rfl ?_
    refine RegV.nil1 (by kernel_rfl) ?_
    refine AWc.seq ?_
    refine AWc.seqS (N := 60) 1 (fun (z : Bool) => [(0, (.ptr 0 0)), (5, (.d (.int .u64 y15_1))), (6, (.d (.int .i64 y15_2))), (7, (.d (.int .u8 (((rd a0 (IntKind.i64.wrap (a1 + y15_2))).toNat : Nat) : Int)))), (37, .any), (38, .any), (39, (.d (.bool z)))]) (fun z => [(0, (.cells [(.d (.sl (List.map byteD a0))), (.d (.int .i64 a1)), (.d (.int .i64 a2))]))]) (fun z => f89_j70 (f89_l15 a1 a0 k) k y15_2 a0 a1 y15_1 z = some o15) rfl_le ?_ ?_
    · refine AWc.rg hmix rfl rfl ?_
      refine RegV.p0 rfl rfl rfl ?_
      refine RegV.p0 (v := (.d (.bool (decide (y15_2 = (9 : Int)))))) rfl rfl rfl ?_
      refine RegV.p0 rfl rfl rfl ?_
      refine RegV.split (fun c66 => ?_) (fun c66 => ?_)
      · have h15 := cond_pos c66 h15
        refine RegV.p0 rfl rfl rfl ?_
        refine RegV.p0 (v := (.d (.bool (decide ((((rd a0 (IntKind.i64.wrap (a1 + y15_2))).toNat : Nat) : Int) > (1 : Int)))))) rfl rfl rfl ?_
        refine RegV.p0 rfl rfl rfl ?_
        refine RegV.nil0 ?_
        exact ⟨(decide ((((rd a0 (IntKind.i64.wrap (a1 + y15_2))).toNat : Nat) : Int) > (1 : Int))), h15, ⟨rfl, [], [], rfl, rfl, ⟨⟨_, rfl, (.refl _)⟩, rfl, ⟨⟨_, rfl, (.refl _)⟩, rfl, ⟨⟨_, rfl, (.refl _)⟩, rfl, ⟨⟨_, rfl, (.refl _)⟩, rfl, ⟨⟨_, rfl, (.any _)⟩, rfl, ⟨⟨_, rfl, (.any _)⟩, rfl, ⟨⟨_, rfl, (.refl _)⟩, rfl, trivial⟩⟩⟩⟩⟩⟩⟩, ⟨⟨_, rfl, (.refl _)⟩, rfl, rfl, trivial⟩⟩⟩
      · have h15 := cond_neg c66 h15
        refine RegV.noS rfl rfl ?_
        refine RegV.noS rfl rfl ?_
        refine RegV.p0 rfl rfl rfl ?_
        refine RegV.nil0 ?_
        exact ⟨false, h15, ⟨rfl, [], [], rfl, rfl, ⟨⟨_, rfl, (.refl _)⟩, rfl, ⟨⟨_, rfl, (.refl _)⟩, rfl, ⟨⟨_, rfl, (.refl _)⟩, rfl, ⟨⟨_, rfl, (.refl _)⟩, rfl, ⟨⟨_, rfl, (.any _)⟩, rfl, ⟨⟨_, rfl, (.any _)⟩, rfl, ⟨⟨_, rfl, (.refl _)⟩, rfl, trivial⟩⟩⟩⟩⟩⟩⟩, ⟨⟨_, rfl, (.refl _)⟩, rfl, rfl, trivial⟩⟩⟩
    · intro j70_1 h15
      unfold f89_j70 at h15
      refine AWc.cond rfl (fun c70 => ?_) (fun c70 => ?_)
      · have h15 := cond_pos c70 h15
        refine AWc.seq ?_
        refine AWc.rg hmix rfl rfl ?_
        refine RegV.p0 rfl rfl rfl ?_
        refine RegV.p0 rfl rfl rfl ?_
        refine RegV.p0 rfl rfl rfl ?_
        refine RegV.nil0 ?_
        cases h15
        dsimp only at h
        have hr := Option.some.inj h
        subst hr
        exact AWc.ret (canQ (N := 60) (k := 1) (l' := [(2, (.d (.int .u64 (0 : Int)))), (3, (.d (.int .i64 (0 : Int)))), (4, (.d (.int .i64 (4 : Int))))]) (H' := [(0, (.cells [(.d (.sl (List.map byteD a0))), (.d (.int .i64 a1)), (.d (.int .i64 a2))]))]) rfl ⟨rfl, [], [], rfl, rfl, ⟨⟨_, rfl, (.refl _)⟩, rfl, ⟨⟨_, rfl, (.refl _)⟩, rfl, ⟨⟨_, rfl, (.refl _)⟩, rfl, trivial⟩⟩⟩, ⟨⟨_, rfl, (.refl _)⟩, rfl, rfl, trivial⟩⟩ (doneA (.inr rfl) rfl ⟨trivial, ⟨trivial, ⟨trivial, trivial⟩⟩⟩ (.refl _) (hasCons rfl hasNil)))
      · have h15 := cond_neg c70 h15
        refine AWc.skip ?_
        refine AWc.seq ?_
        refine AWc.rg hmix rfl rfl ?_
        refine RegV.p0 rfl rfl rfl ?_
        refine RegV.p0 rfl rfl rfl ?_
        refine RegV.p0 (v := (.d (.int .u8 (bitsA .and .u8 (((rd a0 (IntKind.i64.wrap (a1 + y15_2))).toNat : Nat) : Int) (127 : Int))))) rfl rfl rfl ?_
        refine RegV.p0 (v := (.d (.int .u64 (IntKind.u64.wrap (bitsA .and .u8 (((rd a0 (IntKind.i64.wrap (a1 + y15_2))).toNat : Nat) : Int) (127 : Int)))))) rfl rfl rfl ?_
        refine RegV.p0 rfl rfl rfl ?_
        refine RegV.p0 (v := (.d (.int .i64 (IntKind.i64.wrap ((7 : Int) * y15_2))))) rfl rfl rfl ?_
        refine RegV.p0 (v := (.d (.int .u64 (IntKind.u64.wrap (IntKind.i64.wrap ((7 : Int) * y15_2)))))) rfl rfl rfl ?_
        obtain ⟨b89, h15⟩ := gd_some h15
        refine RegV.p1 (v := (.d (.int .u64 (IntKind.u64.wrap ((IntKind.u64.wrap (bitsA .and .u8 (((rd a0 (IntKind.i64.wrap (a1 + y15_2))).toNat : Nat) : Int) (127 : Int))) * 2 ^ (min ((IntKind.u64.wrap (IntKind.i64.wrap ((7 : Int) * y15_2)))).toNat IntKind.u64.bits)))))) rfl rfl b89 rfl rfl ?_
        refine RegV.p0 (v := (.d (.int .u64 (bitsA .or .u64 y15_1 (IntKind.u64.wrap ((IntKind.u64.wrap (bitsA .and .u8 (((rd a0 (IntKind.i64.wrap (a1 + y15_2))).toNat : Nat) : Int) (127 : Int))) * 2 ^ (min ((IntKind.u64.wrap (IntKind.i64.wrap ((7 : Int) * y15_2)))).toNat IntKind.u64.bits))))))) rfl rfl rfl ?_
        refine RegV.p0 rfl rfl rfl ?_
        refine RegV.nil0 ?_
        refine AWc.seq ?_
        refine AWc.rg hmix rfl rfl ?_
        refine RegV.p0 rfl rfl rfl ?_
        refine RegV.p0 (v := (.d (.bool (decide ((((rd a0 (IntKind.i64.wrap (a1 + y15_2))).toNat : Nat) : Int) < (128 : Int)))))) rfl rfl rfl ?_
        refine RegV.nil0 ?_
        refine AWc.cond rfl (fun c97 => ?_) (fun c97 => ?_)
        · have h15 := cond_pos c97 h15
          refine AWc.seq ?_
          refine AWc.seqS (N := 60) 1 (fun (z : Bool) => [(5, (.d (.int .u64 (bitsA .or .u64 y15_1 (IntKind.u64.wrap ((IntKind.u64.wrap (bitsA .and .u8 (((rd a0 (IntKind.i64.wrap (a1 + y15_2))).toNat : Nat) : Int) (127 : Int))) * 2 ^ (min ((IntKind.u64.wrap (IntKind.i64.wrap ((7 : Int) * y15_2)))).toNat IntKind.u64.bits))))))), (6, (.d (.int .i64 y15_2))), (56, (.d (.bool z)))]) (fun z => [(0, (.cells [(.d (.sl (List.map byteD a0))), (.d (.int .i64 a1)), (.d (.int .i64 a2))]))]) (fun z => f89_j108 k y15_1 a0 a1 y15_2 z = some o15) rfl_le ?_ ?_
          · refine AWc.rg hmix rfl rfl ?_
            refine RegV.p0 rfl rfl rfl ?_
            refine RegV.p0 (v := (.d (.bool (decide ((((rd a0 (IntKind.i64.wrap (a1 + y15_2))).toNat : Nat) : Int) = (0 : Int)))))) rfl rfl rfl ?_
            refine RegV.p0 rfl rfl rfl ?_
            refine RegV.split (fun c104 => ?_) (fun c104 => ?_)
            · have h15 := cond_pos c104 h15
              refine RegV.p0 rfl rfl rfl ?_
              refine RegV.p0 (v := (.d (.bool (decide (y15_2 > (0 : Int)))))) rfl rfl rfl ?_
              refine RegV.p0 rfl rfl rfl ?_
              refine RegV.nil0 ?_
              exact ⟨(decide (y15_2 > (0 : Int))), h15, ⟨rfl, [], [], rfl, rfl, ⟨⟨_, rfl, (.refl _)⟩, rfl, ⟨⟨_, rfl, (.refl _)⟩, rfl, ⟨⟨_, rfl, (.refl _)⟩, rfl, trivial⟩⟩⟩, ⟨⟨_, rfl, (.refl _)⟩, rfl, rfl, trivial⟩⟩⟩
            · have h15 := cond_neg c104 h15
              refine RegV.noS rfl rfl ?_
              refine RegV.noS rfl rfl ?_
              refine RegV.p0 rfl rfl rfl ?_
              refine RegV.nil0 ?_
              exact ⟨false, h15, ⟨rfl, [], [], rfl, rfl, ⟨⟨_, rfl, (.refl _)⟩, rfl, ⟨⟨_, rfl, (.refl _)⟩, rfl, ⟨⟨_, rfl, (.refl _)⟩, rfl, trivial⟩⟩⟩, ⟨⟨_, rfl, (.refl _)⟩, rfl, rfl, trivial⟩⟩⟩
          · intro j108_1 h15
            unfold f89_j108 at h15
            refine AWc.cond rfl (fun c108 => ?_) (fun c108 => ?_)
            · have h15 := cond_pos c108 h15
              refine AWc.seq ?_
              refine AWc.rg hmix rfl rfl ?_
              refine RegV.p0 rfl rfl rfl ?_
              refine RegV.p0 rfl rfl rfl ?_
              refine RegV.p0 rfl rfl rfl ?_
              refine RegV.nil0 ?_
              cases h15
              dsimp only at h
              have hr := Option.some.inj h
              subst hr
              exact AWc.ret (canQ (N := 60) (k := 1) (l' := [(2, (.d (.int .u64 (0 : Int)))), (3, (.d (.int .i64 (0 : Int)))), (4, (.d (.int .i64 (4 : Int))))]) (H' := [(0, (.cells [(.d (.sl (List.map byteD a0))), (.d (.int .i64 a1)), (.d (.int .i64 a2))]))]) rfl ⟨rfl, [], [], rfl, rfl, ⟨⟨_, rfl, (.refl _)⟩, rfl, ⟨⟨_, rfl, (.refl _)⟩, rfl, ⟨⟨_, rfl, (.refl _)⟩, rfl, trivial⟩⟩⟩, ⟨⟨_, rfl, (.refl _)⟩, rfl, rfl, trivial⟩⟩ (doneA (.inr rfl) rfl ⟨trivial, ⟨trivial, ⟨trivial, trivial⟩⟩⟩ (.refl _) (hasCons rfl hasNil)))
            · have h15 := cond_neg c108 h15
              refine AWc.skip ?_
              refine AWc.seq ?_
              refine AWc.rg hmix rfl rfl ?_
              refine RegV.p0 rfl rfl rfl ?_
              refine RegV.p0 rfl rfl rfl ?_
              refine RegV.p0 (v := (.d (.int .i64 (IntKind.i64.wrap (y15_2 + (1 : Int)))))) rfl rfl rfl ?_
              refine RegV.p0 rfl rfl rfl ?_
              refine RegV.p0 rfl rfl rfl ?_
              refine RegV.p0 rfl rfl rfl ?_
              refine RegV.nil0 ?_
              cases h15
              dsimp only at h
              have hr := Option.some.inj h
              subst hr
              exact AWc.ret (canQ (N := 60) (k := 1) (l' := [(2, (.d (.int .u64 (bitsA .or .u64 y15_1 (IntKind.u64.wrap ((IntKind.u64.wrap (bitsA .and .u8 (((rd a0 (IntKind.i64.wrap (a1 + y15_2))).toNat : Nat) : Int) (127 : Int))) * 2 ^ (min ((IntKind.u64.wrap (IntKind.i64.wrap ((7 : Int) * y15_2)))).toNat IntKind.u64.bits))))))), (3, (.d (.int .i64 (IntKind.i64.wrap (y15_2 + (1 : Int)))))), (4, (.d (.int .i64 (0 : Int))))]) (H' := [(0, (.cells [(.d (.sl (List.map byteD a0))), (.d (.int .i64 a1)), (.d (.int .i64 a2))]))]) rfl ⟨rfl, [], [], rfl, rfl, ⟨⟨_, rfl, (.refl _)⟩, rfl, ⟨⟨_, rfl, (.refl _)⟩, rfl, ⟨⟨_, rfl, (.refl _)⟩, rfl, trivial⟩⟩⟩, ⟨⟨_, rfl, (.refl _)⟩, rfl, rfl, trivial⟩⟩ (doneA (.inr rfl) rfl ⟨trivial, ⟨trivial, ⟨trivial, trivial⟩⟩⟩ (.refl _) (hasCons rfl hasNil)))
        · have h15 := cond_neg c97 h15
          refine AWc.skip ?_
          refine AWc.rg hmix rfl rfl ?_
          refine RegV.p0 rfl rfl rfl ?_
          refine RegV.p0 (v := (.d (.int .i64 (IntKind.i64.wrap (y15_2 + (1 : Int)))))) rfl rfl rfl ?_
          refine RegV.p0 rfl rfl rfl ?_
          refine RegV.nil0 ?_
          exact ⟨((bitsA .or .u64 y15_1 (IntKind.u64.wrap ((IntKind.u64.wrap (bitsA .and .u8 (((rd a0 (IntKind.i64.wrap (a1 + y15_2))).toNat : Nat) : Int) (127 : Int))) * 2 ^ (min ((IntKind.u64.wrap (IntKind.i64.wrap ((7 : Int) * y15_2)))).toNat IntKind.u64.bits)))), (IntKind.i64.wrap (y15_2 + (1 : Int)))), h15, ⟨rfl, [], [], rfl, rfl, ⟨⟨_, rfl, (.refl _)⟩, rfl, ⟨⟨_, rfl, (.refl _)⟩, rfl, ⟨⟨_, rfl, (.refl _)⟩, rfl, trivial⟩⟩⟩, ⟨⟨_, rfl, (.refl _)⟩, rfl, rfl, trivial⟩⟩⟩
/-- (*courant/courantref01.Reader).Num -/
def C46 (N : Nat → Nat) : AFunc := { n := 31, params := 1, res := [.tmp 2], body :=
 (.seq (.region false [⟨(some 2), .mv (.k (.d (.int .u64 0))), none, []⟩])
  (.seq (.seq (.region false [⟨(some 6), .mv (.t 0), none, []⟩,
     ⟨(some 7), .nilchk (.t 6), none, [0]⟩,
     ⟨(some 8), .faddr (.t 7) 2, none, [1]⟩,
     ⟨(some 9), .load (.t 8) 1 false, none, [2]⟩,
     ⟨(some 10), .bin .neq (.t 9) (.k (.d (.int .i64 0))), none, [3]⟩])
    (.cond (.t 10) (.seq (.region false [⟨(some 2), .mv (.k (.d (.int .u64 0))), none, []⟩])
      .ret)
     (.skip)))
   (.seq (.region false [⟨(some 12), .mv (.t 0), none, []⟩,
     ⟨(some 13), .call (.k (.d (.fn (N 89)))) [(.t 12)], none, [0]⟩,
     ⟨(some 11), .mv (.t 13), none, [1]⟩,
     ⟨(some 14), .ext (.t 11) 0, none, [2]⟩,
     ⟨(some 15), .ext (.t 11) 1, none, [2]⟩,
     ⟨(some 16), .ext (.t 11) 2, none, [2]⟩,
     ⟨(some 3), .mv (.t 14), none, [3, 1, 0, 2]⟩,
     ⟨(some 4), .mv (.t 15), none, [4, 6, 0, 1, 2, 3]⟩,
     ⟨(some 5), .mv (.t 16), none, [5, 7, 0, 1, 2, 3, 4, 6]⟩])
    (.seq (.region false [⟨(some 17), .mv (.t 0), none, []⟩,
      ⟨(some 18), .mv (.t 5), none, []⟩,
      ⟨(some 19), .nilchk (.t 17), none, [0, 1]⟩,
      ⟨(some 20), .faddr (.t 19) 2, none, [2, 0, 1]⟩,
      ⟨none, .store (.t 20) (.t 18) 1, none, [3, 1, 0]⟩])
     (.seq (.region false [⟨(some 21), .mv (.t 0), none, []⟩,
       ⟨(some 22), .mv (.t 0), none, []⟩,
       ⟨(some 23), .nilchk (.t 22), none, [1]⟩,
       ⟨(some 24), .faddr (.t 23) 1, none, [2]⟩,
       ⟨(some 25), .load (.t 24) 1 false, none, [3]⟩,
       ⟨(some 26), .mv (.t 4), none, []⟩,
       ⟨(some 27), .bin .add (.t 25) (.t 26), none, [4, 5]⟩,
       ⟨(some 28), .nilchk (.t 21), none, [0, 1, 2, 3, 4, 5, 6]⟩,
       ⟨(some 29), .faddr (.t 28) 1, none, [7, 0, 1, 2, 3, 4, 5, 6]⟩,
       ⟨none, .store (.t 29) (.t 27) 1, none, [8, 6, 0, 1, 2, 3, 4, 5]⟩])
      (.seq (.region false [⟨(some 30), .mv (.t 3), none, []⟩,
        ⟨(some 2), .mv (.t 30), none, [0]⟩])
       .ret)))))) }
def HC46 (P : Program) (N : Nat → Nat) : Prop := HasF P (N 46) (C46 N) ∧ HC89 P N
def f46 (k : Nat) (a0 : (List UInt8)) (a1 : Int) (a2 : Int) : Option (Int × Int × Int) := cond (decide (a2 ≠ (0 : Int))) (some ((0 : Int), a1, a2)) ((f89 k a0 a1 a2).bind fun r25 => some (r25.1, (IntKind.i64.wrap (a1 + r25.2.1)), r25.2.2))
theorem F46 {P : Program} {N : Nat → Nat} (hmix : P.follows .mixedOrders = true) (hc : HC46 P N) {k : Nat} {a0 : (List UInt8)} {a1 : Int} {a2 : Int} {r : (Int × Int × Int)} (h : f46 k a0 a1 a2 = some r) :
    ACalls P (N 46) [(.ptr 0 0)] [(0, (.cells [(.d (.sl (List.map byteD a0))), (.d (.int .i64 a1)), (.d (.int .i64 a2))]))] (.d (.int .u64 r.1)) [(0, (.cells [(.d (.sl (List.map byteD a0))), (.d (.int .i64 r.2.1)), (.d (.int .i64 r.2.2))]))] := by
  refine acalls_canon (F := C46 N) hc.1 1 1 rfl ?_
  unfold f46 at h
  dsimp only [C46, startL]
  refine AWc.seq ?_
  refine AWc.rg hmix rfl rfl ?_
  refine RegV.p0 rfl rfl rfl ?_
  refine RegV.nil0 ?_
  refine AWc.seq ?_
  refine AWc.seq ?_
  refine AWc.rg hmix rfl rfl ?_
  refine RegV.p0 rfl rfl rfl ?_
  refine RegV.p0 rfl rfl rfl ?_
  refine RegV.p0 (v := (.ptr 0 2)) rfl rfl rfl ?_
  refine RegV.ld (v := (.d (.int .i64 a2))) (H' := [(0, (.cells [(.d (.sl (List.map byteD a0))), (.d (.int .i64 a1)), (.d (.int .i64 a2))]))]) rfl rfl trivial rfl rfl rfl rfl rfl ?_
  refine RegV.p0 (v := (.d (.bool (decide (a2 ≠ (0 : Int)))))) rfl rfl rfl ?_
  refine RegV.nil0 ?_
  refine AWc.cond rfl (fun c14 => ?_) (fun c14 => ?_)
  · have h := cond_pos c14 h
    refine AWc.seq ?_
    refine AWc.rg hmix rfl rfl ?_
    refine RegV.p0 rfl rfl rfl ?_
    refine RegV.nil0 ?_
    have hr := Option.some.inj h
    subst hr
    exact AWc.ret (canQ (N := 31) (k := 1) (l' := [(2, (.d (.int .u64 (0 : Int))))]) (H' := [(0, (.cells [(.d (.sl (List.map byteD a0))), (.d (.int .i64 a1)), (.d (.int .i64 a2))]))]) rfl ⟨rfl, [], [], rfl, rfl, ⟨⟨_, rfl, (.refl _)⟩, rfl, trivial⟩, ⟨⟨_, rfl, (.refl _)⟩, rfl, rfl, trivial⟩⟩ (doneA (.inr rfl) rfl ⟨trivial, trivial⟩ (.refl _) (hasCons rfl hasNil)))
  · have h := cond_neg c14 h
    refine AWc.skip ?_
    refine AWc.seq ?_
    refine AWc.rg hmix rfl rfl ?_
    refine RegV.p0 rfl rfl rfl ?_
    obtain ⟨r25, e25, h⟩ := bind_some h
    refine RegV.callS (q := true) (H' := [(0, (.cells [(.d (.sl (List.map byteD a0))), (.d (.int .i64 a1)), (.d (.int .i64 a2))]))]) (c' := 1) (show ACalls P (N 89) [(.ptr 0 0)] [(0, (.cells [(.d (.sl (List.map byteD a0))), (.d (.int .i64 a1)), (.d (.int .i64 a2))]))] (.tup [(.d (.int .u64 r25.1)), (.d (.int .i64 r25.2.1)), (.d (.int .i64 r25.2.2))]) [(0, (.cells [(.d (.sl (List.map byteD a0))), (.d (.int .i64 a1)), (.d (.int .i64 a2))]))] from ACalls.use (F89 hmix hc.2 e25) [(0, 0)] 1 rfl) rfl rfl rfl rfl (.cons (.refl _) .nil) (.refl _) (fun _ => rfl) rfl (hasCons rfl hasNil) rfl rfl rfl rfl ?_
    refine RegV.p0 rfl rfl rfl ?_
    refine RegV.p0 rfl rfl rfl ?_
    refine RegV.p0 rfl rfl rfl ?_
    refine RegV.p0 rfl rfl rfl ?_
    refine RegV.p0 rfl rfl rfl ?_
    refine RegV.p0 rfl rfl rfl ?_
    refine RegV.p0 rfl rfl rfl ?_
    refine RegV.nil0 ?_
    refine AWc.seq ?_
    refine AWc.rg hmix rfl rfl ?_
    refine RegV.p0 rfl rfl rfl ?_
    refine RegV.p0 rfl rfl rfl ?_
    refine RegV.p0 rfl rfl rfl ?_
    refine RegV.p0 (v := (.ptr 0 2)) rfl rfl rfl ?_
    refine RegV.evN (own := false) (H' := [(0, (.cells [(.d (.sl (List.map byteD a0))), (.d (.int .i64 a1)), (.d (.int .i64 r25.2.2))]))]) (c' := 1) rfl rfl (by exact ⟨rfl, Nat.le_of_ble_eq_true rfl, rfl⟩) rfl rfl rfl rfl ?_
    refine RegV.nil0 ?_
    refine AWc.seq ?_
    refine AWc.rg hmix rfl rfl ?_
    refine RegV.p0 rfl rfl rfl ?_
    refine RegV.p0 rfl rfl rfl ?_
    refine RegV.p0 rfl rfl rfl ?_
    refine RegV.p0 (v := (.ptr 0 1)) rfl rfl rfl ?_
    refine RegV.ld (v := (.d (.int .i64 a1))) (H' := [(0, (.cells [(.d (.sl (List.map byteD a0))), (.d (.int .i64 a1)), (.d (.int .i64 r25.2.2))]))]) rfl rfl trivial rfl rfl rfl rfl rfl ?_
    refine RegV.p0 rfl rfl rfl ?_
    refine RegV.p0 (v := (.d (.int .i64 (IntKind.i64.wrap (a1 + r25.2.1))))) rfl rfl rfl ?_
    refine RegV.p0 rfl rfl rfl ?_
    refine RegV.p0 (v := (.ptr 0 1)) rfl rfl rfl ?_
    refine RegV.evN (own := false) (H' := [(0, (.cells [(.d (.sl (List.map byteD a0))), (.d (.int .i64 (IntKind.i64.wrap (a1 + r25.2.1)))), (.d (.int .i64 r25.2.2))]))]) (c' := 1) rfl rfl (by exact ⟨rfl, Nat.le_of_ble_eq_true rfl, rfl⟩) rfl rfl rfl rfl ?_
    refine RegV.nil0 ?_
    refine AWc.seq ?_
    refine AWc.rg hmix rfl rfl ?_
    refine RegV.p0 rfl rfl rfl ?_
    refine RegV.p0 rfl rfl rfl ?_
    refine RegV.nil0 ?_
    have hr := Option.some.inj h
    subst hr
    exact AWc.ret (canQ (N := 31) (k := 1) (l' := [(2, (.d (.int .u64 r25.1)))]) (H' := [(0, (.cells [(.d (.sl (List.map byteD a0))), (.d (.int .i64 (IntKind.i64.wrap (a1 + r25.2.1)))), (.d (.int .i64 r25.2.2))]))]) rfl ⟨rfl, [], [], rfl, rfl, ⟨⟨_, rfl, (.refl _)⟩, rfl, trivial⟩, ⟨⟨_, rfl, (.refl _)⟩, rfl, rfl, trivial⟩⟩ (doneA (.inr rfl) rfl ⟨trivial, trivial⟩ (.refl _) (hasCons rfl hasNil)))
/-- courant/courantref01.signed -/
def C90 (N : Nat → Nat) : AFunc := { n := 14, params := 1, res := [.tmp 2], body :=
 (.seq (.region false [⟨(some 2), .mv (.k (.d (.int .i64 0))), none, []⟩])
  (.seq (.seq (.region false [⟨(some 3), .mv (.t 0), none, []⟩,
     ⟨(some 4), .bin .rem (.t 3) (.k (.d (.int .u64 2))), none, [0]⟩,
     ⟨(some 5), .bin .eql (.t 4) (.k (.d (.int .u64 0))), none, [1]⟩])
    (.cond (.t 5) (.seq (.region false [⟨(some 6), .mv (.t 0), none, []⟩,
       ⟨(some 7), .bin .quo (.t 6) (.k (.d (.int .u64 2))), none, [0]⟩,
       ⟨(some 8), .cvi .i64 (.t 7), none, [1]⟩,
       ⟨(some 2), .mv (.t 8), none, [2, 0, 1]⟩])
      .ret)
     (.skip)))
   (.seq (.region false [⟨(some 9), .mv (.t 0), none, []⟩,
     ⟨(some 10), .bin .quo (.t 9) (.k (.d (.int .u64 2))), none, [0]⟩,
     ⟨(some 11), .cvi .i64 (.t 10), none, [1]⟩,
     ⟨(some 12), .un .neg (.t 11), none, [2]⟩,
     ⟨(some 13), .bin .sub (.t 12) (.k (.d (.int .i64 1))), none, [3]⟩,
     ⟨(some 2), .mv (.t 13), none, [4, 0, 1, 2, 3]⟩])
    .ret))) }
def HC90 (P : Program) (N : Nat → Nat) : Prop := HasF P (N 90) (C90 N)
def f90 (k : Nat) (a0 : Int) : Option Int := cond (decide ((Int.tmod a0 (2 : Int)) = (0 : Int))) (some (IntKind.i64.wrap (IntKind.u64.wrap (Int.tdiv a0 (2 : Int))))) (some (IntKind.i64.wrap ((IntKind.i64.wrap (0 - (IntKind.i64.wrap (IntKind.u64.wrap (Int.tdiv a0 (2 : Int)))))) - (1 : Int))))
theorem F90 {P : Program} {N : Nat → Nat} (hmix : P.follows .mixedOrders = true) (hc : HC90 P N) {k : Nat} {a0 : Int} {r : Int} (h : f90 k a0 = some r) :
    ACalls P (N 90) [(.d (.int .u64 a0))] [] (.d (.int .i64 r)) [] := by
  refine acalls_canon (F := C90 N) hc 0 0 rfl ?_
  unfold f90 at h
  dsimp only [C90, startL]
  refine AWc.seq ?_
  refine AWc.rg hmix rfl rfl ?_
  refine RegV.p0 rfl rfl rfl ?_
  refine RegV.nil0 ?_
  refine AWc.seq ?_
  refine AWc.seq ?_
  refine AWc.rg hmix rfl rfl ?_
  refine RegV.p0 rfl rfl rfl ?_
  refine RegV.p1 (v := (.d (.int .u64 (Int.tmod a0 (2 : Int))))) rfl rfl (by decide) rfl rfl ?_
  refine RegV.p0 (v := (.d (.bool (decide ((Int.tmod a0 (2 : Int)) = (0 : Int)))))) rfl rfl rfl ?_
  refine RegV.nil0 ?_
  refine AWc.cond rfl (fun c12 => ?_) (fun c12 => ?_)
  · have h := cond_pos c12 h
    refine AWc.seq ?_
    refine AWc.rg hmix rfl rfl ?_
    refine RegV.p0 rfl rfl rfl ?_
    refine RegV.p1 (v := (.d (.int .u64 (IntKind.u64.wrap (Int.tdiv a0 (2 : Int)))))) rfl rfl (by decide) rfl rfl ?_
    refine RegV.p0 (v := (.d (.int .i64 (IntKind.i64.wrap (IntKind.u64.wrap (Int.tdiv a0 (2 : Int))))))) rfl rfl rfl ?_
    refine RegV.p0 rfl rfl rfl ?_
    refine RegV.nil0 ?_
    have hr := Option.some.inj h
    subst hr
    exact AWc.ret (canQ (N := 14) (k := 0) (l' := [(2, (.d (.int .i64 (IntKind.i64.wrap (IntKind.u64.wrap (Int.tdiv a0 (2 : Int)))))))]) (H' := []) rfl ⟨rfl, [], [], rfl, rfl, ⟨⟨_, rfl, (.refl _)⟩, rfl, trivial⟩,  trivial⟩ (doneA (.inr rfl) rfl ⟨trivial, trivial⟩ (.refl _) hasNil))
  · have h := cond_neg c12 h
    refine AWc.skip ?_
    refine AWc.seq ?_
    refine AWc.rg hmix rfl rfl ?_
    refine RegV.p0 rfl rfl rfl ?_
    refine RegV.p1 (v := (.d (.int .u64 (IntKind.u64.wrap (Int.tdiv a0 (2 : Int)))))) rfl rfl (by decide) rfl rfl ?_
    refine RegV.p0 (v := (.d (.int .i64 (IntKind.i64.wrap (IntKind.u64.wrap (Int.tdiv a0 (2 : Int))))))) rfl rfl rfl ?_
    refine RegV.p0 (v := (.d (.int .i64 (IntKind.i64.wrap (0 - (IntKind.i64.wrap (IntKind.u64.wrap (Int.tdiv a0 (2 : Int))))))))) rfl rfl rfl ?_
    refine RegV.p0 (v := (.d (.int .i64 (IntKind.i64.wrap ((IntKind.i64.wrap (0 - (IntKind.i64.wrap (IntKind.u64.wrap (Int.tdiv a0 (2 : Int)))))) - (1 : Int)))))) rfl rfl rfl ?_
    refine RegV.p0 rfl rfl rfl ?_
    refine RegV.nil0 ?_
    have hr := Option.some.inj h
    subst hr
    exact AWc.ret (canQ (N := 14) (k := 0) (l' := [(2, (.d (.int .i64 (IntKind.i64.wrap ((IntKind.i64.wrap (0 - (IntKind.i64.wrap (IntKind.u64.wrap (Int.tdiv a0 (2 : Int)))))) - (1 : Int))))))]) (H' := []) rfl ⟨rfl, [], [], rfl, rfl, ⟨⟨_, rfl, (.refl _)⟩, rfl, trivial⟩,  trivial⟩ (doneA (.inr rfl) rfl ⟨trivial, trivial⟩ (.refl _) hasNil))
/-- (*courant/courantref01.Reader).Zig -/
def C47 (N : Nat → Nat) : AFunc := { n := 6, params := 1, res := [.tmp 2], body :=
 (.seq (.region false [⟨(some 2), .mv (.k (.d (.int .i64 0))), none, []⟩])
  (.seq (.region false [⟨(some 3), .mv (.t 0), none, []⟩,
    ⟨(some 4), .call (.k (.d (.fn (N 46)))) [(.t 3)], none, [0]⟩,
    ⟨(some 5), .call (.k (.d (.fn (N 90)))) [(.t 4)], none, [1]⟩,
    ⟨(some 2), .mv (.t 5), none, [2, 0, 1]⟩])
   .ret)) }
def HC47 (P : Program) (N : Nat → Nat) : Prop := HasF P (N 47) (C47 N) ∧ HC46 P N ∧ HC90 P N
def f47 (k : Nat) (a0 : (List UInt8)) (a1 : Int) (a2 : Int) : Option (Int × Int × Int) := (f46 k a0 a1 a2).bind fun r9 => (f90 k r9.1).bind fun r10 => some (r10, r9.2.1, r9.2.2)
theorem F47 {P : Program} {N : Nat → Nat} (hmix : P.follows .mixedOrders = true) (hc : HC47 P N) {k : Nat} {a0 : (List UInt8)} {a1 : Int} {a2 : Int} {r : (Int × Int × Int)} (h : f47 k a0 a1 a2 = some r) :
    ACalls P (N 47) [(.ptr 0 0)] [(0, (.cells [(.d (.sl (List.map byteD a0))), (.d (.int .i64 a1)), (.d (.int .i64 a2))]))] (.d (.int .i64 r.1)) [(0, (.cells [(.d (.sl (List.map byteD a0))), (.d (.int .i64 r.2.1)), (.d (.int .i64 r.2.2))]))] := by
  refine acalls_canon (F := C47 N) hc.1 1 1 rfl ?_
  unfold f47 at h
  dsimp only [C47, startL]
  refine AWc.seq ?_
  refine AWc.rg hmix rfl rfl ?_
  refine RegV.p0 rfl rfl rfl ?_
  refine RegV.nil0 ?_
  refine AWc.seq ?_
  refine AWc.rg hmix rfl rfl ?_
  refine RegV.p0 rfl rfl rfl ?_
  obtain ⟨r9, e9, h⟩ := bind_some h
  refine RegV.callS (q := false) (H' := [(0, (.cells [(.d (.sl (List.map byteD a0))), (.d (.int .i64 r9.2.1)), (.d (.int .i64 r9.2.2))]))]) (c' := 1) (show ACalls P (N 46) [(.ptr 0 0)] [(0, (.cells [(.d (.sl (List.map byteD a0))), (.d (.int .i64 a1)), (.d (.int .i64 a2))]))] (.d (.int .u64 r9.1)) [(0, (.cells [(.d (.sl (List.map byteD a0))), (.d (.int .i64 r9.2.1)), (.d (.int .i64 r9.2.2))]))] from ACalls.use (F46 hmix hc.2.1 e9) [(0, 0)] 1 rfl) rfl rfl rfl rfl (.cons (.refl _) .nil) (.refl _) (fun h => by cases h) rfl (hasCons rfl hasNil) rfl rfl rfl rfl ?_
  obtain ⟨r10, e10, h⟩ := bind_some h
  refine RegV.call0 (F90 hmix hc.2.2 e10) rfl rfl rfl rfl (.cons (.refl _) .nil) rfl ?_
  refine RegV.p0 rfl rfl rfl ?_
  refine RegV.nil0 ?_
  have hr := Option.some.inj h
  subst hr
  exact AWc.ret (canQ (N := 6) (k := 1) (l' := [(2, (.d (.int .i64 r10)))]) (H' := [(0, (.cells [(.d (.sl (List.map byteD a0))), (.d (.int .i64 r9.2.1)), (.d (.int .i64 r9.2.2))]))]) rfl ⟨rfl, [], [], rfl, rfl, ⟨⟨_, rfl, (.refl _)⟩, rfl, trivial⟩, ⟨⟨_, rfl, (.refl _)⟩, rfl, rfl, trivial⟩⟩ (doneA (.inr rfl) rfl ⟨trivial, trivial⟩ (.refl _) (hasCons rfl hasNil)))
/-- (*courant/courantref01.Reader).Text -/
def C48 (N : Nat → Nat) : AFunc := { n := 90, params := 2, res := [.tmp 4], body :=
 (.seq (.region false [⟨(some 4), .mv (.k .nils), none, []⟩])
  (.seq (.seq (.region false [⟨(some 10), .mv (.t 0), none, []⟩,
     ⟨(some 11), .nilchk (.t 10), none, [0]⟩,
     ⟨(some 12), .faddr (.t 11) 2, none, [1]⟩,
     ⟨(some 13), .load (.t 12) 1 false, none, [2]⟩,
     ⟨(some 14), .bin .neq (.t 13) (.k (.d (.int .i64 0))), none, [3]⟩])
    (.cond (.t 14) (.seq (.region false [⟨(some 4), .mv (.k .nils), none, []⟩])
      .ret)
     (.skip)))
   (.seq (.region false [⟨(some 16), .mv (.t 0), none, []⟩,
     ⟨(some 17), .call (.k (.d (.fn (N 89)))) [(.t 16)], none, [0]⟩,
     ⟨(some 15), .mv (.t 17), none, [1]⟩,
     ⟨(some 18), .ext (.t 15) 0, none, [2]⟩,
     ⟨(some 19), .ext (.t 15) 1, none, [2]⟩,
     ⟨(some 20), .ext (.t 15) 2, none, [2]⟩,
     ⟨(some 5), .mv (.t 18), none, [3, 1, 0, 2]⟩,
     ⟨(some 6), .mv (.t 19), none, [4, 6, 0, 1, 2, 3]⟩,
     ⟨(some 7), .mv (.t 20), none, [5, 7, 0, 1, 2, 3, 4, 6]⟩])
    (.seq (.region false [⟨(some 21), .mv (.t 5), none, []⟩,
      ⟨(some 22), .call (.k (.d (.fn (N 90)))) [(.t 21)], none, [0]⟩,
      ⟨(some 8), .mv (.t 22), none, [1, 0]⟩])
     (.seq (.block 0 (.seq (.region false [⟨(some 24), .mv (.t 7), none, []⟩,
         ⟨(some 25), .bin .neq (.t 24) (.k (.d (.int .i64 0))), none, [0]⟩,
         ⟨(some 23), .mv (.t 25), none, [1]⟩])
        (.cond (.t 23) (.region false [⟨(some 26), .mv (.t 0), none, []⟩,
          ⟨(some 27), .mv (.t 7), none, []⟩,
          ⟨(some 28), .nilchk (.t 26), none, [0, 1]⟩,
          ⟨(some 29), .faddr (.t 28) 2, none, [2, 0, 1]⟩,
          ⟨none, .store (.t 29) (.t 27) 1, none, [3, 1, 0]⟩])
         (.seq (.region false [⟨(some 31), .mv (.t 8), none, []⟩,
           ⟨(some 32), .bin .lss (.t 31) (.k (.d (.int .i64 0))), none, [0]⟩,
           ⟨(some 30), .mv (.t 32), none, [1]⟩])
          (.cond (.t 30) (.region false [⟨(some 33), .mv (.t 0), none, []⟩,
            ⟨(some 34), .nilchk (.t 33), none, [0]⟩,
            ⟨(some 35), .faddr (.t 34) 2, none, [1, 0]⟩,
            ⟨none, .store (.t 35) (.k (.d (.int .i64 4))) 1, none, [2, 0]⟩])
           (.seq (.region false [⟨(some 37), .mv (.t 8), none, []⟩,
             ⟨(some 38), .mv (.t 1), none, []⟩,
             ⟨(some 39), .mm true [(.t 38), (.k (.d (.int .i64 0)))], none, [1]⟩,
             ⟨(some 40), .bin .gtr (.t 37) (.t 39), none, [0, 2]⟩,
             ⟨(some 36), .mv (.t 40), none, [3]⟩])
            (.cond (.t 36) (.region false [⟨(some 41), .mv (.t 0), none, []⟩,
              ⟨(some 42), .nilchk (.t 41), none, [0]⟩,
              ⟨(some 43), .faddr (.t 42) 2, none, [1, 0]⟩,
              ⟨none, .store (.t 43) (.k (.d (.int .i64 5))) 1, none, [2, 0]⟩])
             (.seq (.region true [⟨(some 45), .mv (.t 8), none, []⟩,
               ⟨(some 46), .mv (.t 0), none, []⟩,
               ⟨(some 47), .nilchk (.t 46), none, [1]⟩,
               ⟨(some 48), .faddr (.t 47) 0, none, [2]⟩,
               ⟨(some 49), .load (.t 48) 1 false, none, [3]⟩,
               ⟨(some 50), .len (.t 49), none, [4]⟩,
               ⟨(some 51), .mv (.t 0), none, []⟩,
               ⟨(some 52), .nilchk (.t 51), none, [6]⟩,
               ⟨(some 53), .faddr (.t 52) 1, none, [7]⟩,
               ⟨(some 54), .load (.t 53) 1 false, none, [8]⟩,
               ⟨(some 55), .bin .sub (.t 50) (.t 54), none, [5, 9]⟩,
               ⟨(some 56), .mv (.t 6), none, []⟩,
               ⟨(some 57), .bin .sub (.t 55) (.t 56), none, [10, 11]⟩,
               ⟨(some 58), .bin .gtr (.t 45) (.t 57), none, [0, 12]⟩,
               ⟨(some 44), .mv (.t 58), none, [13]⟩])
              (.cond (.t 44) (.region false [⟨(some 59), .mv (.t 0), none, []⟩,
                ⟨(some 60), .nilchk (.t 59), none, [0]⟩,
                ⟨(some 61), .faddr (.t 60) 2, none, [1, 0]⟩,
                ⟨none, .store (.t 61) (.k (.d (.int .i64 3))) 1, none, [2, 0]⟩])
               (.skip))))))))))
      (.seq (.seq (.region false [⟨(some 62), .mv (.t 0), none, []⟩,
         ⟨(some 63), .nilchk (.t 62), none, [0]⟩,
         ⟨(some 64), .faddr (.t 63) 2, none, [1]⟩,
         ⟨(some 65), .load (.t 64) 1 false, none, [2]⟩,
         ⟨(some 66), .bin .neq (.t 65) (.k (.d (.int .i64 0))), none, [3]⟩])
        (.cond (.t 66) (.seq (.region false [⟨(some 4), .mv (.k .nils), none, []⟩])
          .ret)
         (.skip)))
       (.seq (.region false [⟨(some 67), .mv (.t 0), none, []⟩,
         ⟨(some 68), .nilchk (.t 67), none, [0]⟩,
         ⟨(some 69), .faddr (.t 68) 1, none, [1]⟩,
         ⟨(some 70), .load (.t 69) 1 false, none, [2]⟩,
         ⟨(some 71), .mv (.t 6), none, []⟩,
         ⟨(some 72), .bin .add (.t 70) (.t 71), none, [3, 4]⟩,
         ⟨(some 9), .mv (.t 72), none, [5, 0, 1, 2, 3, 4]⟩])
        (.seq (.region false [⟨(some 73), .mv (.t 0), none, []⟩,
          ⟨(some 74), .mv (.t 9), none, []⟩,
          ⟨(some 75), .mv (.t 8), none, []⟩,
          ⟨(some 76), .bin .add (.t 74) (.t 75), none, [1, 2]⟩,
          ⟨(some 77), .nilchk (.t 73), none, [0, 1, 2, 3]⟩,
          ⟨(some 78), .faddr (.t 77) 1, none, [4, 0, 1, 2, 3]⟩,
          ⟨none, .store (.t 78) (.t 76) 1, none, [5, 3, 0, 1, 2]⟩])
         (.seq (.region true [⟨(some 79), .mv (.t 0), none, []⟩,
           ⟨(some 80), .nilchk (.t 79), none, [0]⟩,
           ⟨(some 81), .faddr (.t 80) 0, none, [1]⟩,
           ⟨(some 82), .load (.t 81) 1 false, none, [2]⟩,
           ⟨(some 83), .mv (.t 9), none, []⟩,
           ⟨(some 84), .mv (.t 0), none, []⟩,
           ⟨(some 85), .nilchk (.t 84), none, [5]⟩,
           ⟨(some 86), .faddr (.t 85) 1, none, [6]⟩,
           ⟨(some 87), .load (.t 86) 1 false, none, [7]⟩,
           ⟨(some 88), .slc (.t 82) (some (.t 83)) (some (.t 87)) none 1, none, [3, 4, 8]⟩,
           ⟨(some 89), .app (.k .nils) (.t 88) 1 1 [(.int .u8 0)], none, [9]⟩,
           ⟨(some 4), .mv (.t 89), none, [10, 0, 1, 2, 3, 4, 5, 6, 7, 8, 9]⟩])
          .ret))))))))) }
def HC48 (P : Program) (N : Nat → Nat) : Prop := HasF P (N 48) (C48 N) ∧ HC89 P N ∧ HC90 P N
def f48_j109 (k : Nat) (a1 : Int) (r25 : (Int × Int × Int)) (r37 : Int) (a0 : (List UInt8)) (j109_1 : Int) : Option ((List UInt8) × Int × Int) := cond (decide (j109_1 ≠ (0 : Int))) (some (([] : List UInt8), a1, j109_1)) (gd (0 ≤ (IntKind.i64.wrap (a1 + r25.2.1)) ∧ (IntKind.i64.wrap (a1 + r25.2.1)) ≤ (IntKind.i64.wrap ((IntKind.i64.wrap (a1 + r25.2.1)) + r37)) ∧ (IntKind.i64.wrap ((IntKind.i64.wrap (a1 + r25.2.1)) + r37)) ≤ ((a0.length : Nat) : Int)) (gd ((sl a0 (IntKind.i64.wrap (a1 + r25.2.1)) (IntKind.i64.wrap ((IntKind.i64.wrap (a1 + r25.2.1)) + r37))).length * 1 ≤ 281474976710656) (some ((sl a0 (IntKind.i64.wrap (a1 + r25.2.1)) (IntKind.i64.wrap ((IntKind.i64.wrap (a1 + r25.2.1)) + r37))), (IntKind.i64.wrap ((IntKind.i64.wrap (a1 + r25.2.1)) + r37)), j109_1))))
def f48 (k : Nat) (a0 : (List UInt8)) (a1 : Int) (a2 : Int) (a3 : Int) : Option ((List UInt8) × Int × Int) := cond (decide (a2 ≠ (0 : Int))) (some (([] : List UInt8), a1, a2)) ((f89 k a0 a1 a2).bind fun r25 => (f90 k r25.1).bind fun r37 => cond (decide (r25.2.2 ≠ (0 : Int))) (f48_j109 k a1 r25 r37 a0 r25.2.2) (cond (decide (r37 < (0 : Int))) (f48_j109 k a1 r25 r37 a0 (4 : Int)) (cond (decide (r37 > (max a3 (0 : Int)))) (f48_j109 k a1 r25 r37 a0 (5 : Int)) (cond (decide (r37 > (IntKind.i64.wrap ((IntKind.i64.wrap (((a0.length : Nat) : Int) - a1)) - r25.2.1)))) (f48_j109 k a1 r25 r37 a0 (3 : Int)) (f48_j109 k a1 r25 r37 a0 a2)))))
theorem F48 {P : Program} {N : Nat → Nat} (hmix : P.follows .mixedOrders = true) (hc : HC48 P N) {k : Nat} {a0 : (List UInt8)} {a1 : Int} {a2 : Int} {a3 : Int} {r : ((List UInt8) × Int × Int)} (h : f48 k a0 a1 a2 a3 = some r) :
    ACalls P (N 48) [(.ptr 0 0), (.d (.int .i64 a3))] [(0, (.cells [(.d (.sl (List.map byteD a0))), (.d (.int .i64 a1)), (.d (.int .i64 a2))]))] (.ap 1 1 (List.map byteD r.1)) [(1, (.tok ((List.map byteD r.1).length * 1))), (0, (.cells [(.d (.sl (List.map byteD a0))), (.d (.int .i64 r.2.1)), (.d (.int .i64 r.2.2))]))] := by
  refine acalls_canon (F := C48 N) hc.1 1 2 rfl ?_
  unfold f48 at h
  dsimp only [C48, startL]
  refine AWc.seq ?_
  refine AWc.rg hmix rfl rfl ?_
  refine RegV.p0 rfl rfl rfl ?_
  refine RegV.nil0 ?_
  refine AWc.seq ?_
  refine AWc.seq ?_
  refine AWc.rg hmix rfl rfl ?_
  refine RegV.p0 rfl rfl rfl ?_
  refine RegV.p0 rfl rfl rfl ?_
  refine RegV.p0 (v := (.ptr 0 2)) rfl rfl rfl ?_
  refine RegV.ld (v := (.d (.int .i64 a2))) (H' := [(0, (.cells [(.d (.sl (List.map byteD a0))), (.d (.int .i64 a1)), (.d (.int .i64 a2))]))]) rfl rfl trivial rfl rfl rfl rfl rfl ?_
  refine RegV.p0 (v := (.d (.bool (decide (a2 ≠ (0 : Int)))))) rfl rfl rfl ?_
  refine RegV.nil0 ?_
  refine AWc.cond rfl (fun c14 => ?_) (fun c14 => ?_)
  · have h := cond_pos c14 h
    refine AWc.seq ?_
    refine AWc.rg hmix rfl rfl ?_
    refine RegV.p0 rfl rfl rfl ?_
    refine RegV.nil0 ?_
    have hr := Option.some.inj h
    subst hr
    exact AWc.ret (canQ (N := 90) (k := 2) (l' := [(4, (.ap 1 1 (List.map byteD ([] : List UInt8))))]) (H' := [(1, (.tok ((List.map byteD ([] : List UInt8)).length * 1))), (0, (.cells [(.d (.sl (List.map byteD a0))), (.d (.int .i64 a1)), (.d (.int .i64 a2))]))]) rfl ⟨rfl, [.tok 0], [(1, 1)], rfl, rfl, ⟨⟨_, rfl, .nil⟩, rfl, trivial⟩, ⟨⟨_, rfl, (.refl _)⟩, rfl, rfl, ⟨⟨_, rfl, (.refl _)⟩, rfl, rfl, trivial⟩⟩⟩ (doneA (.inr rfl) rfl ⟨trivial, trivial⟩ (.refl _) (hasCons rfl (hasCons rfl hasNil))))
  · have h := cond_neg c14 h
    refine AWc.skip ?_
    refine AWc.seq ?_
    refine AWc.rg hmix rfl rfl ?_
    refine RegV.p0 rfl rfl rfl ?_
    obtain ⟨r25, e25, h⟩ := bind_some h
    refine RegV.callS (q := true) (H' := [(0, (.cells [(.d (.sl (List.map byteD a0))), (.d (.int .i64 a1)), (.d (.int .i64 a2))]))]) (c' := 1) (show ACalls P (N 89) [(.ptr 0 0)] [(0, (.cells [(.d (.sl (List.map byteD a0))), (.d (.int .i64 a1)), (.d (.int .i64 a2))]))] (.tup [(.d (.int .u64 r25.1)), (.d (.int .i64 r25.2.1)), (.d (.int .i64 r25.2.2))]) [(0, (.cells [(.d (.sl (List.map byteD a0))), (.d (.int .i64 a1)), (.d (.int .i64 a2))]))] from ACalls.use (F89 hmix hc.2.1 e25) [(0, 0)] 1 rfl) rfl rfl rfl rfl (.cons (.refl _) .nil) (.refl _) (fun _ => rfl) rfl (hasCons rfl hasNil) rfl rfl rfl rfl ?_
    refine RegV.p0 rfl rfl rfl ?_
    refine RegV.p0 rfl rfl rfl ?_
    refine RegV.p0 rfl rfl rfl ?_
    refine RegV.p0 rfl rfl rfl ?_
    refine RegV.p0 rfl rfl rfl ?_
    refine RegV.p0 rfl rfl rfl ?_
    refine RegV.p0 rfl rfl rfl ?_
    refine RegV.nil0 ?_
    refine AWc.seq ?_
    refine AWc.rg hmix rfl rfl ?_
    refine RegV.p0 rfl rfl rfl ?_
    obtain ⟨r37, e37, h⟩ := bind_some h
    refine RegV.call0 (F90 hmix hc.2.2 e37) rfl rfl rfl rfl (.cons (.refl _) .nil) rfl ?_
    refine RegV.p0 rfl rfl rfl ?_
    refine RegV.nil0 ?_
    refine AWc.seqS (N := 90) 1 (fun (z : Int) => [(0, (.ptr 0 0)), (6, (.d (.int .i64 r25.2.1))), (8, (.d (.int .i64 r37)))]) (fun z => [(0, (.cells [(.d (.sl (List.map byteD a0))), (.d (.int .i64 a1)), (.d (.int .i64 z))]))]) (fun z => f48_j109 k a1 r25 r37 a0 z = some r) rfl_le ?_ ?_
    · refine AWc.block ?_
      refine AWc.seq ?_
      refine AWc.rg hmix rfl rfl ?_
      refine RegV.p0 rfl rfl rfl ?_
      refine RegV.p0 (v := (.d (.bool (decide (r25.2.2 ≠ (0 : Int)))))) rfl rfl rfl ?_
      refine RegV.p0 rfl rfl rfl ?_
      refine RegV.nil0 ?_
      refine AWc.cond rfl (fun c47 => ?_) (fun c47 => ?_)
      · have h := cond_pos c47 h
        refine AWc.rg hmix rfl rfl ?_
        refine RegV.p0 rfl rfl rfl ?_
        refine RegV.p0 rfl rfl rfl ?_
        refine RegV.p0 rfl rfl rfl ?_
        refine RegV.p0 (v := (.ptr 0 2)) rfl rfl rfl ?_
        refine RegV.evN (own := false) (H' := [(0, (.cells [(.d (.sl (List.map byteD a0))), (.d (.int .i64 a1)), (.d (.int .i64 r25.2.2))]))]) (c' := 1) rfl rfl (by exact ⟨rfl, Nat.le_of_ble_eq_true rfl, rfl⟩) rfl rfl rfl rfl ?_
        refine RegV.nil0 ?_
        exact ⟨r25.2.2, h, ⟨rfl, [], [], rfl, rfl, ⟨⟨_, rfl, (.refl _)⟩, rfl, ⟨⟨_, rfl, (.refl _)⟩, rfl, ⟨⟨_, rfl, (.refl _)⟩, rfl, trivial⟩⟩⟩, ⟨⟨_, rfl, (.refl _)⟩, rfl, rfl, trivial⟩⟩⟩
      · have h := cond_neg c47 h
        refine AWc.seq ?_
        refine AWc.rg hmix rfl rfl ?_
        refine RegV.p0 rfl rfl rfl ?_
        refine RegV.p0 (v := (.d (.bool (decide (r37 < (0 : Int)))))) rfl rfl rfl ?_
        refine RegV.p0 rfl rfl rfl ?_
        refine RegV.nil0 ?_
        refine AWc.cond rfl (fun c61 => ?_) (fun c61 => ?_)
        · have h := cond_pos c61 h
          refine AWc.rg hmix rfl rfl ?_
          refine RegV.p0 rfl rfl rfl ?_
          refine RegV.p0 rfl rfl rfl ?_
          refine RegV.p0 (v := (.ptr 0 2)) rfl rfl rfl ?_
          refine RegV.evN (own := false) (H' := [(0, (.cells [(.d (.sl (List.map byteD a0))), (.d (.int .i64 a1)), (.d (.int .i64 (4 : Int)))]))]) (c' := 1) rfl rfl (by exact ⟨rfl, Nat.le_of_ble_eq_true rfl, rfl⟩) rfl rfl rfl rfl ?_
          refine RegV.nil0 ?_
          exact ⟨(4 : Int), h, ⟨rfl, [], [], rfl, rfl, ⟨⟨_, rfl, (.refl _)⟩, rfl, ⟨⟨_, rfl, (.refl _)⟩, rfl, ⟨⟨_, rfl, (.refl _)⟩, rfl, trivial⟩⟩⟩, ⟨⟨_, rfl, (.refl _)⟩, rfl, rfl, trivial⟩⟩⟩
        · have h := cond_neg c61 h
          refine AWc.seq ?_
          refine AWc.rg hmix rfl rfl ?_
          refine RegV.p0 rfl rfl rfl ?_
          refine RegV.p0 rfl rfl rfl ?_
          refine RegV.p0 (v := (.d (.int .i64 (max a3 (0 : Int))))) rfl rfl rfl ?_
          refine RegV.p0 (v := (.d (.bool (decide (r37 > (max a3 (0 : Int))))))) rfl rfl rfl ?_
          refine RegV.p0 rfl rfl rfl ?_
          refine RegV.nil0 ?_
          refine AWc.cond rfl (fun c76 => ?_) (fun c76 => ?_)
          · have h := cond_pos c76 h
            refine AWc.rg hmix rfl rfl ?_
            refine RegV.p0 rfl rfl rfl ?_
            refine RegV.p0 rfl rfl rfl ?_
            refine RegV.p0 (v := (.ptr 0 2)) rfl rfl rfl ?_
            refine RegV.evN (own := false) (H' := [(0, (.cells [(.d (.sl (List.map byteD a0))), (.d (.int .i64 a1)), (.d (.int .i64 (5 : Int)))]))]) (c' := 1) rfl rfl (by exact ⟨rfl, Nat.le_of_ble_eq_true rfl, rfl⟩) rfl rfl rfl rfl ?_
            refine RegV.nil0 ?_
            exact ⟨(5 : Int), h, ⟨rfl, [], [], rfl, rfl, ⟨⟨_, rfl, (.refl _)⟩, rfl, ⟨⟨_, rfl, (.refl _)⟩, rfl, ⟨⟨_, rfl, (.refl _)⟩, rfl, trivial⟩⟩⟩, ⟨⟨_, rfl, (.refl _)⟩, rfl, rfl, trivial⟩⟩⟩
          · have h := cond_neg c76 h
            refine AWc.seq ?_
            refine AWc.rg hmix rfl rfl ?_
            refine RegV.p0 rfl rfl rfl ?_
            refine RegV.p0 rfl rfl rfl ?_
            refine RegV.p0 rfl rfl rfl ?_
            refine RegV.p0 (v := (.ptr 0 0)) rfl rfl rfl ?_
            refine RegV.ld (v := (.d (.sl (List.map byteD a0)))) (H' := [(0, (.cells [(.d (.sl (List.map byteD a0))), (.d (.int .i64 a1)), (.d (.int .i64 a2))]))]) rfl rfl trivial rfl rfl rfl rfl rfl ?_
            refine RegV.len (xs := a0) (e := byteD) rfl rfl rfl rfl ?_
            refine RegV.p0 rfl rfl rfl ?_
            refine RegV.p0 rfl rfl rfl ?_
            refine RegV.p0 (v := (.ptr 0 1)) rfl rfl rfl ?_
            refine RegV.ld (v := (.d (.int .i64 a1))) (H' := [(0, (.cells [(.d (.sl (List.map byteD a0))), (.d (.int .i64 a1)), (.d (.int .i64 a2))]))]) rfl rfl trivial rfl rfl rfl rfl rfl ?_
            refine RegV.p0 (v := (.d (.int .i64 (IntKind.i64.wrap (((a0.length : Nat) : Int) - a1))))) rfl rfl rfl ?_
            refine RegV.p0 rfl rfl rfl ?_
            refine RegV.p0 (v := (.d (.int .i64 (IntKind.i64.wrap ((IntKind.i64.wrap (((a0.length : Nat) : Int) - a1)) - r25.2.1))))) rfl rfl rfl ?_
            refine RegV.p0 (v := (.d (.bool (decide (r37 > (IntKind.i64.wrap ((IntKind.i64.wrap (((a0.length : Nat) : Int) - a1)) - r25.2.1))))))) rfl rfl rfl ?_
            refine RegV.p0 rfl rfl rfl ?_
            refine RegV.nil1 (by kernel_rfl) ?_
            refine AWc.cond rfl (fun c101 => ?_) (fun c101 => ?_)
            · have h := cond_pos c101 h
              refine AWc.rg hmix rfl rfl ?_
              refine RegV.p0 rfl rfl rfl ?_
              refine RegV.p0 rfl rfl rfl ?_
              refine RegV.p0 (v := (.ptr 0 2)) rfl rfl rfl ?_
              refine RegV.evN (own := false) (H' := [(0, (.cells [(.d (.sl (List.map byteD a0))), (.d (.int .i64 a1)), (.d (.int .i64 (3 : Int)))]))]) (c' := 1) rfl rfl (by exact ⟨rfl, Nat.le_of_ble_eq_true rfl, rfl⟩) rfl rfl rfl rfl ?_
              refine RegV.nil0 ?_
              exact ⟨(3 : Int), h, ⟨rfl, [], [], rfl, rfl, ⟨⟨_, rfl, (.refl _)⟩, rfl, ⟨⟨_, rfl, (.refl _)⟩, rfl, ⟨⟨_, rfl, (.refl _)⟩, rfl, trivial⟩⟩⟩, ⟨⟨_, rfl, (.refl _)⟩, rfl, rfl, trivial⟩⟩⟩
            · have h := cond_neg c101 h
              refine AWc.skip ?_
              exact ⟨a2, h, ⟨rfl, [], [], rfl, rfl, ⟨⟨_, rfl, (.refl _)⟩, rfl, ⟨⟨_, rfl, (.refl _)⟩, rfl, ⟨⟨_, rfl, (.refl _)⟩, rfl, trivial⟩⟩⟩, ⟨⟨_, rfl, (.refl _)⟩, rfl, rfl, trivial⟩⟩⟩
    · intro j109_1 h
      unfold f48_j109 at h
      refine AWc.seq ?_
      refine AWc.seq ?_
      refine AWc.rg hmix rfl rfl ?_
      refine RegV.p0 rfl rfl rfl ?_
      refine RegV.p0 rfl rfl rfl ?_
      refine RegV.p0 (v := (.ptr 0 2)) rfl rfl rfl ?_
      refine RegV.ld (v := (.d (.int .i64 j109_1))) (H' := [(0, (.cells [(.d (.sl (List.map byteD a0))), (.d (.int .i64 a1)), (.d (.int .i64 j109_1))]))]) rfl rfl trivial rfl rfl rfl rfl rfl ?_
      refine RegV.p0 (v := (.d (.bool (decide (j109_1 ≠ (0 : Int)))))) rfl rfl rfl ?_
      refine RegV.nil0 ?_
      refine AWc.cond rfl (fun c118 => ?_) (fun c118 => ?_)
      · have h := cond_pos c118 h
        refine AWc.seq ?_
        refine AWc.rg hmix rfl rfl ?_
        refine RegV.p0 rfl rfl rfl ?_
        refine RegV.nil0 ?_
        have hr := Option.some.inj h
        subst hr
        exact AWc.ret (canQ (N := 90) (k := 2) (l' := [(4, (.ap 1 1 (List.map byteD ([] : List UInt8))))]) (H' := [(1, (.tok ((List.map byteD ([] : List UInt8)).length * 1))), (0, (.cells [(.d (.sl (List.map byteD a0))), (.d (.int .i64 a1)), (.d (.int .i64 j109_1))]))]) rfl ⟨rfl, [.tok 0], [(1, 1)], rfl, rfl, ⟨⟨_, rfl, .nil⟩, rfl, trivial⟩, ⟨⟨_, rfl, (.refl _)⟩, rfl, rfl, ⟨⟨_, rfl, (.refl _)⟩, rfl, rfl, trivial⟩⟩⟩ (doneA (.inr rfl) rfl ⟨trivial, trivial⟩ (.refl _) (hasCons rfl (hasCons rfl hasNil))))
      · have h := cond_neg c118 h
        refine AWc.skip ?_
        refine AWc.seq ?_
        refine AWc.rg hmix rfl rfl ?_
        refine RegV.p0 rfl rfl rfl ?_
        refine RegV.p0 rfl rfl rfl ?_
        refine RegV.p0 (v := (.ptr 0 1)) rfl rfl rfl ?_
        refine RegV.ld (v := (.d (.int .i64 a1))) (H' := [(0, (.cells [(.d (.sl (List.map byteD a0))), (.d (.int .i64 a1)), (.d (.int .i64 j109_1))]))]) rfl rfl trivial rfl rfl rfl rfl rfl ?_
        refine RegV.p0 rfl rfl rfl ?_
        refine RegV.p0 (v := (.d (.int .i64 (IntKind.i64.wrap (a1 + r25.2.1))))) rfl rfl rfl ?_
        refine RegV.p0 rfl rfl rfl ?_
        refine RegV.nil0 ?_
        refine AWc.seq ?_
        refine AWc.rg hmix rfl rfl ?_
        refine RegV.p0 rfl rfl rfl ?_
        refine RegV.p0 rfl rfl rfl ?_
        refine RegV.p0 rfl rfl rfl ?_
        refine RegV.p0 (v := (.d (.int .i64 (IntKind.i64.wrap ((IntKind.i64.wrap (a1 + r25.2.1)) + r37))))) rfl rfl rfl ?_
        refine RegV.p0 rfl rfl rfl ?_
        refine RegV.p0 (v := (.ptr 0 1)) rfl rfl rfl ?_
        refine RegV.evN (own := false) (H' := [(0, (.cells [(.d (.sl (List.map byteD a0))), (.d (.int .i64 (IntKind.i64.wrap ((IntKind.i64.wrap (a1 + r25.2.1)) + r37)))), (.d (.int .i64 j109_1))]))]) (c' := 1) rfl rfl (by exact ⟨rfl, Nat.le_of_ble_eq_true rfl, rfl⟩) rfl rfl rfl rfl ?_
        refine RegV.nil0 ?_
        refine AWc.seq ?_
        refine AWc.rg hmix rfl rfl ?_
        refine RegV.p0 rfl rfl rfl ?_
        refine RegV.p0 rfl rfl rfl ?_
        refine RegV.p0 (v := (.ptr 0 0)) rfl rfl rfl ?_
        refine RegV.ld (v := (.d (.sl (List.map byteD a0)))) (H' := [(0, (.cells [(.d (.sl (List.map byteD a0))), (.d (.int .i64 (IntKind.i64.wrap ((IntKind.i64.wrap (a1 + r25.2.1)) + r37)))), (.d (.int .i64 j109_1))]))]) rfl rfl trivial rfl rfl rfl rfl rfl ?_
        refine RegV.p0 rfl rfl rfl ?_
        refine RegV.p0 rfl rfl rfl ?_
        refine RegV.p0 rfl rfl rfl ?_
        refine RegV.p0 (v := (.ptr 0 1)) rfl rfl rfl ?_
        refine RegV.ld (v := (.d (.int .i64 (IntKind.i64.wrap ((IntKind.i64.wrap (a1 + r25.2.1)) + r37))))) (H' := [(0, (.cells [(.d (.sl (List.map byteD a0))), (.d (.int .i64 (IntKind.i64.wrap ((IntKind.i64.wrap (a1 + r25.2.1)) + r37)))), (.d (.int .i64 j109_1))]))]) rfl rfl trivial rfl rfl rfl rfl rfl ?_
        obtain ⟨b157, h⟩ := gd_some h
        refine RegV.slc (xs := a0) (e := byteD) (lo := (IntKind.i64.wrap (a1 + r25.2.1))) (hi := (IntKind.i64.wrap ((IntKind.i64.wrap (a1 + r25.2.1)) + r37))) rfl rfl rfl b157 (fun _ => rfl) rfl ?_
        obtain ⟨b158, h⟩ := gd_some h
        refine RegV.appN (ys := (sl a0 (IntKind.i64.wrap (a1 + r25.2.1)) (IntKind.i64.wrap ((IntKind.i64.wrap (a1 + r25.2.1)) + r37)))) (e := byteD) rfl rfl rfl (fun _ => rfl) rfl rfl b158 rfl rfl ?_
        refine RegV.p0 rfl rfl rfl ?_
        refine RegV.nil1 (by kernel_rfl) ?_
        have hr := Option.some.inj h
        subst hr
        exact AWc.ret (canQ (N := 90) (k := 2) (l' := [(4, (.ap 1 1 (List.map byteD (sl a0 (IntKind.i64.wrap (a1 + r25.2.1)) (IntKind.i64.wrap ((IntKind.i64.wrap (a1 + r25.2.1)) + r37))))))]) (H' := [(1, (.tok ((List.map byteD (sl a0 (IntKind.i64.wrap (a1 + r25.2.1)) (IntKind.i64.wrap ((IntKind.i64.wrap (a1 + r25.2.1)) + r37)))).length * 1))), (0, (.cells [(.d (.sl (List.map byteD a0))), (.d (.int .i64 (IntKind.i64.wrap ((IntKind.i64.wrap (a1 + r25.2.1)) + r37)))), (.d (.int .i64 j109_1))]))]) rfl ⟨rfl, [], [], rfl, rfl, ⟨⟨_, rfl, (.refl _)⟩, rfl, trivial⟩, ⟨⟨_, rfl, (.refl _)⟩, rfl, rfl, ⟨⟨_, rfl, (.refl _)⟩, rfl, rfl, trivial⟩⟩⟩ (doneA (.inr rfl) rfl ⟨trivial, trivial⟩ (.refl _) (hasCons rfl (hasCons rfl hasNil))))
/-- (*courant/courantref01.Reader).Raw -/
def C49 (N : Nat → Nat) : AFunc := { n := 52, params := 2, res := [.tmp 4], body :=
 (.seq (.region false [⟨(some 4), .mv (.k .nils), none, []⟩])
  (.seq (.region false [⟨(some 5), .mv (.t 1), none, []⟩,
    ⟨(some 6), .mm true [(.t 5), (.k (.d (.int .i64 0)))], none, [0]⟩,
    ⟨(some 1), .mv (.t 6), none, [1, 0]⟩])
   (.seq (.seq (.region false [⟨(some 7), .mv (.t 0), none, []⟩,
      ⟨(some 8), .nilchk (.t 7), none, [0]⟩,
      ⟨(some 9), .faddr (.t 8) 2, none, [1]⟩,
      ⟨(some 10), .load (.t 9) 1 false, none, [2]⟩,
      ⟨(some 11), .bin .neq (.t 10) (.k (.d (.int .i64 0))), none, [3]⟩])
     (.cond (.t 11) (.seq (.region false [⟨(some 4), .mv (.k .nils), none, []⟩])
       .ret)
      (.skip)))
    (.seq (.seq (.region true [⟨(some 12), .mv (.t 1), none, []⟩,
       ⟨(some 13), .mv (.t 0), none, []⟩,
       ⟨(some 14), .nilchk (.t 13), none, [1]⟩,
       ⟨(some 15), .faddr (.t 14) 0, none, [2]⟩,
       ⟨(some 16), .load (.t 15) 1 false, none, [3]⟩,
       ⟨(some 17), .len (.t 16), none, [4]⟩,
       ⟨(some 18), .mv (.t 0), none, []⟩,
       ⟨(some 19), .nilchk (.t 18), none, [6]⟩,
       ⟨(some 20), .faddr (.t 19) 1, none, [7]⟩,
       ⟨(some 21), .load (.t 20) 1 false, none, [8]⟩,
       ⟨(some 22), .bin .sub (.t 17) (.t 21), none, [5, 9]⟩,
       ⟨(some 23), .bin .gtr (.t 12) (.t 22), none, [0, 10]⟩])
      (.cond (.t 23) (.seq (.region false [⟨(some 24), .mv (.t 0), none, []⟩,
         ⟨(some 25), .nilchk (.t 24), none, [0]⟩,
         ⟨(some 26), .faddr (.t 25) 2, none, [1, 0]⟩,
         ⟨none, .store (.t 26) (.k (.d (.int .i64 3))) 1, none, [2, 0]⟩])
        (.seq (.region false [⟨(some 4), .mv (.k .nils), none, []⟩])
         .ret))
       (.skip)))
     (.seq (.region false [⟨(some 27), .mv (.t 0), none, []⟩,
       ⟨(some 28), .mv (.t 0), none, []⟩,
       ⟨(some 29), .nilchk (.t 28), none, [1]⟩,
       ⟨(some 30), .faddr (.t 29) 1, none, [2]⟩,
       ⟨(some 31), .load (.t 30) 1 false, none, [3]⟩,
       ⟨(some 32), .mv (.t 1), none, []⟩,
       ⟨(some 33), .bin .add (.t 31) (.t 32), none, [4, 5]⟩,
       ⟨(some 34), .nilchk (.t 27), none, [0, 1, 2, 3, 4, 5, 6]⟩,
       ⟨(some 35), .faddr (.t 34) 1, none, [7, 0, 1, 2, 3, 4, 5, 6]⟩,
       ⟨none, .store (.t 35) (.t 33) 1, none, [8, 6, 0, 1, 2, 3, 4, 5]⟩])
      (.seq (.region true [⟨(some 36), .mv (.t 0), none, []⟩,
        ⟨(some 37), .nilchk (.t 36), none, [0]⟩,
        ⟨(some 38), .faddr (.t 37) 0, none, [1]⟩,
        ⟨(some 39), .load (.t 38) 1 false, none, [2]⟩,
        ⟨(some 40), .mv (.t 0), none, []⟩,
        ⟨(some 41), .nilchk (.t 40), none, [4]⟩,
        ⟨(some 42), .faddr (.t 41) 1, none, [5]⟩,
        ⟨(some 43), .load (.t 42) 1 false, none, [6]⟩,
        ⟨(some 44), .mv (.t 1), none, []⟩,
        ⟨(some 45), .bin .sub (.t 43) (.t 44), none, [7, 8]⟩,
        ⟨(some 46), .mv (.t 0), none, []⟩,
        ⟨(some 47), .nilchk (.t 46), none, [10]⟩,
        ⟨(some 48), .faddr (.t 47) 1, none, [11]⟩,
        ⟨(some 49), .load (.t 48) 1 false, none, [12]⟩,
        ⟨(some 50), .slc (.t 39) (some (.t 45)) (some (.t 49)) none 1, none, [3, 9, 13]⟩,
        ⟨(some 51), .app (.k .nils) (.t 50) 1 1 [(.int .u8 0)], none, [14]⟩,
        ⟨(some 4), .mv (.t 51), none, [15, 0, 1, 2, 3, 4, 5, 6, 7, 8, 9, 10, 11, 12, 13, 14]⟩])
       .ret)))))) }
def HC49 (P : Program) (N : Nat → Nat) : Prop := HasF P (N 49) (C49 N)
def f49 (k : Nat) (a0 : (List UInt8)) (a1 : Int) (a2 : Int) (a3 : Int) : Option ((List UInt8) × Int × Int) := cond (decide (a2 ≠ (0 : Int))) (some (([] : List UInt8), a1, a2)) (cond (decide ((max a3 (0 : Int)) > (IntKind.i64.wrap (((a0.length : Nat) : Int) - a1)))) (some (([] : List UInt8), a1, (3 : Int))) (gd (0 ≤ (IntKind.i64.wrap ((IntKind.i64.wrap (a1 + (max a3 (0 : Int)))) - (max a3 (0 : Int)))) ∧ (IntKind.i64.wrap ((IntKind.i64.wrap (a1 + (max a3 (0 : Int)))) - (max a3 (0 : Int)))) ≤ (IntKind.i64.wrap (a1 + (max a3 (0 : Int)))) ∧ (IntKind.i64.wrap (a1 + (max a3 (0 : Int)))) ≤ ((a0.length : Nat) : Int)) (gd ((sl a0 (IntKind.i64.wrap ((IntKind.i64.wrap (a1 + (max a3 (0 : Int)))) - (max a3 (0 : Int)))) (IntKind.i64.wrap (a1 + (max a3 (0 : Int))))).length * 1 ≤ 281474976710656) (some ((sl a0 (IntKind.i64.wrap ((IntKind.i64.wrap (a1 + (max a3 (0 : Int)))) - (max a3 (0 : Int)))) (IntKind.i64.wrap (a1 + (max a3 (0 : Int))))), (IntKind.i64.wrap (a1 + (max a3 (0 : Int)))), a2)))))
theorem F49 {P : Program} {N : Nat → Nat} (hmix : P.follows .mixedOrders = true) (hc : HC49 P N) {k : Nat} {a0 : (List UInt8)} {a1 : Int} {a2 : Int} {a3 : Int} {r : ((List UInt8) × Int × Int)} (h : f49 k a0 a1 a2 a3 = some r) :
    ACalls P (N 49) [(.ptr 0 0), (.d (.int .i64 a3))] [(0, (.cells [(.d (.sl (List.map byteD a0))), (.d (.int .i64 a1)), (.d (.int .i64 a2))]))] (.ap 1 1 (List.map byteD r.1)) [(1, (.tok ((List.map byteD r.1).length * 1))), (0, (.cells [(.d (.sl (List.map byteD a0))), (.d (.int .i64 r.2.1)), (.d (.int .i64 r.2.2))]))] := by
  refine acalls_canon (F := C49 N) hc 1 2 rfl ?_
  unfold f49 at h
  dsimp only [C49, startL]
  refine AWc.seq ?_
  refine AWc.rg hmix rfl rfl ?_
  refine RegV.p0 rfl rfl rfl ?_
  refine RegV.nil0 ?_
  refine AWc.seq ?_
  refine AWc.rg hmix rfl rfl ?_
  refine RegV.p0 rfl rfl rfl ?_
  refine RegV.p0 (v := (.d (.int .i64 (max a3 (0 : Int))))) rfl rfl rfl ?_
  refine RegV.p0 rfl rfl rfl ?_
  refine RegV.nil0 ?_
  refine AWc.seq ?_
  refine AWc.seq ?_
  refine AWc.rg hmix rfl rfl ?_
  refine RegV.p0 rfl rfl rfl ?_
  refine RegV.p0 rfl rfl rfl ?_
  refine RegV.p0 (v := (.ptr 0 2)) rfl rfl rfl ?_
  refine RegV.ld (v := (.d (.int .i64 a2))) (H' := [(0, (.cells [(.d (.sl (List.map byteD a0))), (.d (.int .i64 a1)), (.d (.int .i64 a2))]))]) rfl rfl trivial rfl rfl rfl rfl rfl ?_
  refine RegV.p0 (v := (.d (.bool (decide (a2 ≠ (0 : Int)))))) rfl rfl rfl ?_
  refine RegV.nil0 ?_
  refine AWc.cond rfl (fun c20 => ?_) (fun c20 => ?_)
  · have h := cond_pos c20 h
    refine AWc.seq ?_
    refine AWc.rg hmix rfl rfl ?_
    refine RegV.p0 rfl rfl rfl ?_
    refine RegV.nil0 ?_
    have hr := Option.some.inj h
    subst hr
    exact AWc.ret (canQ (N := 52) (k := 2) (l' := [(4, (.ap 1 1 (List.map byteD ([] : List UInt8))))]) (H' := [(1, (.tok ((List.map byteD ([] : List UInt8)).length * 1))), (0, (.cells [(.d (.sl (List.map byteD a0))), (.d (.int .i64 a1)), (.d (.int .i64 a2))]))]) rfl ⟨rfl, [.tok 0], [(1, 1)], rfl, rfl, ⟨⟨_, rfl, .nil⟩, rfl, trivial⟩, ⟨⟨_, rfl, (.refl _)⟩, rfl, rfl, ⟨⟨_, rfl, (.refl _)⟩, rfl, rfl, trivial⟩⟩⟩ (doneA (.inr rfl) rfl ⟨trivial, trivial⟩ (.refl _) (hasCons rfl (hasCons rfl hasNil))))
  · have h := cond_neg c20 h
    refine AWc.skip ?_
    refine AWc.seq ?_
    refine AWc.seq ?_
    refine AWc.rg hmix rfl rfl ?_
    refine RegV.p0 rfl rfl rfl ?_
    refine RegV.p0 rfl rfl rfl ?_
    refine RegV.p0 rfl rfl rfl ?_
    refine RegV.p0 (v := (.ptr 0 0)) rfl rfl rfl ?_
    refine RegV.ld (v := (.d (.sl (List.map byteD a0)))) (H' := [(0, (.cells [(.d (.sl (List.map byteD a0))), (.d (.int .i64 a1)), (.d (.int .i64 a2))]))]) rfl rfl trivial rfl rfl rfl rfl rfl ?_
    refine RegV.len (xs := a0) (e := byteD) rfl rfl rfl rfl ?_
    refine RegV.p0 rfl rfl rfl ?_
    refine RegV.p0 rfl rfl rfl ?_
    refine RegV.p0 (v := (.ptr 0 1)) rfl rfl rfl ?_
    refine RegV.ld (v := (.d (.int .i64 a1))) (H' := [(0, (.cells [(.d (.sl (List.map byteD a0))), (.d (.int .i64 a1)), (.d (.int .i64 a2))]))]) rfl rfl trivial rfl rfl rfl rfl rfl ?_
    refine RegV.p0 (v := (.d (.int .i64 (IntKind.i64.wrap (((a0.length : Nat) : Int) - a1))))) rfl rfl rfl ?_
    refine RegV.p0 (v := (.d (.bool (decide ((max a3 (0 : Int)) > (IntKind.i64.wrap (((a0.length : Nat) : Int) - a1))))))) rfl rfl rfl ?_
    refine RegV.nil1 (by kernel_rfl) ?_
    refine AWc.cond rfl (fun c43 => ?_) (fun c43 => ?_)
    · have h := cond_pos c43 h
      refine AWc.seq ?_
      refine AWc.rg hmix rfl rfl ?_
      refine RegV.p0 rfl rfl rfl ?_
      refine RegV.p0 rfl rfl rfl ?_
      refine RegV.p0 (v := (.ptr 0 2)) rfl rfl rfl ?_
      refine RegV.evN (own := false) (H' := [(0, (.cells [(.d (.sl (List.map byteD a0))), (.d (.int .i64 a1)), (.d (.int .i64 (3 : Int)))]))]) (c' := 1) rfl rfl (by exact ⟨rfl, Nat.le_of_ble_eq_true rfl, rfl⟩) rfl rfl rfl rfl ?_
      refine RegV.nil0 ?_
      refine AWc.seq ?_
      refine AWc.rg hmix rfl rfl ?_
      refine RegV.p0 rfl rfl rfl ?_
      refine RegV.nil0 ?_
      have hr := Option.some.inj h
      subst hr
      exact AWc.ret (canQ (N := 52) (k := 2) (l' := [(4, (.ap 1 1 (List.map byteD ([] : List UInt8))))]) (H' := [(1, (.tok ((List.map byteD ([] : List UInt8)).length * 1))), (0, (.cells [(.d (.sl (List.map byteD a0))), (.d (.int .i64 a1)), (.d (.int .i64 (3 : Int)))]))]) rfl ⟨rfl, [.tok 0], [(1, 1)], rfl, rfl, ⟨⟨_, rfl, .nil⟩, rfl, trivial⟩, ⟨⟨_, rfl, (.refl _)⟩, rfl, rfl, ⟨⟨_, rfl, (.refl _)⟩, rfl, rfl, trivial⟩⟩⟩ (doneA (.inr rfl) rfl ⟨trivial, trivial⟩ (.refl _) (hasCons rfl (hasCons rfl hasNil))))
    · have h := cond_neg c43 h
      refine AWc.skip ?_
      refine AWc.seq ?_
      refine AWc.rg hmix rfl rfl ?_
      refine RegV.p0 rfl rfl rfl ?_
      refine RegV.p0 rfl rfl rfl ?_
      refine RegV.p0 rfl rfl rfl ?_
      refine RegV.p0 (v := (.ptr 0 1)) rfl rfl rfl ?_
      refine RegV.ld (v := (.d (.int .i64 a1))) (H' := [(0, (.cells [(.d (.sl (List.map byteD a0))), (.d (.int .i64 a1)), (.d (.int .i64 a2))]))]) rfl rfl trivial rfl rfl rfl rfl rfl ?_
      refine RegV.p0 rfl rfl rfl ?_
      refine RegV.p0 (v := (.d (.int .i64 (IntKind.i64.wrap (a1 + (max a3 (0 : Int))))))) rfl rfl rfl ?_
      refine RegV.p0 rfl rfl rfl ?_
      refine RegV.p0 (v := (.ptr 0 1)) rfl rfl rfl ?_
      refine RegV.evN (own := false) (H' := [(0, (.cells [(.d (.sl (List.map byteD a0))), (.d (.int .i64 (IntKind.i64.wrap (a1 + (max a3 (0 : Int)))))), (.d (.int .i64 a2))]))]) (c' := 1) rfl rfl (by exact ⟨rfl, Nat.le_of_ble_eq_true rfl, rfl⟩) rfl rfl rfl rfl ?_
      refine RegV.nil0 ?_
      refine AWc.seq ?_
      refine AWc.rg hmix rfl rfl ?_
      refine RegV.p0 rfl rfl rfl ?_
      refine RegV.p0 rfl rfl rfl ?_
      refine RegV.p0 (v := (.ptr 0 0)) rfl rfl rfl ?_
      refine RegV.ld (v := (.d (.sl (List.map byteD a0)))) (H' := [(0, (.cells [(.d (.sl (List.map byteD a0))), (.d (.int .i64 (IntKind.i64.wrap (a1 + (max a3 (0 : Int)))))), (.d (.int .i64 a2))]))]) rfl rfl trivial rfl rfl rfl rfl rfl ?_
      refine RegV.p0 rfl rfl rfl ?_
      refine RegV.p0 rfl rfl rfl ?_
      refine RegV.p0 (v := (.ptr 0 1)) rfl rfl rfl ?_
      refine RegV.ld (v := (.d (.int .i64 (IntKind.i64.wrap (a1 + (max a3 (0 : Int))))))) (H' := [(0, (.cells [(.d (.sl (List.map byteD a0))), (.d (.int .i64 (IntKind.i64.wrap (a1 + (max a3 (0 : Int)))))), (.d (.int .i64 a2))]))]) rfl rfl trivial rfl rfl rfl rfl rfl ?_
      refine RegV.p0 rfl rfl rfl ?_
      refine RegV.p0 (v := (.d (.int .i64 (IntKind.i64.wrap ((IntKind.i64.wrap (a1 + (max a3 (0 : Int)))) - (max a3 (0 : Int))))))) rfl rfl rfl ?_
      refine RegV.p0 rfl rfl rfl ?_
      refine RegV.p0 rfl rfl rfl ?_
      refine RegV.p0 (v := (.ptr 0 1)) rfl rfl rfl ?_
      refine RegV.ld (v := (.d (.int .i64 (IntKind.i64.wrap (a1 + (max a3 (0 : Int))))))) (H' := [(0, (.cells [(.d (.sl (List.map byteD a0))), (.d (.int .i64 (IntKind.i64.wrap (a1 + (max a3 (0 : Int)))))), (.d (.int .i64 a2))]))]) rfl rfl trivial rfl rfl rfl rfl rfl ?_
      obtain ⟨b87, h⟩ := gd_some h
      refine RegV.slc (xs := a0) (e := byteD) (lo := (IntKind.i64.wrap ((IntKind.i64.wrap (a1 + (max a3 (0 : Int)))) - (max a3 (0 : Int))))) (hi := (IntKind.i64.wrap (a1 + (max a3 (0 : Int))))) rfl rfl rfl b87 (fun _ => rfl) rfl ?_
      obtain ⟨b88, h⟩ := gd_some h
      refine RegV.appN (ys := (sl a0 (IntKind.i64.wrap ((IntKind.i64.wrap (a1 + (max a3 (0 : Int)))) - (max a3 (0 : Int)))) (IntKind.i64.wrap (a1 + (max a3 (0 : Int)))))) (e := byteD) rfl rfl rfl (fun _ => rfl) rfl rfl b88 rfl rfl ?_
      refine RegV.p0 rfl rfl rfl ?_
      refine RegV.nil1 (by kernel_rfl) ?_
      have hr := Option.some.inj h
      subst hr
      exact AWc.ret (canQ (N := 52) (k := 2) (l' := [(4, (.ap 1 1 (List.map byteD (sl a0 (IntKind.i64.wrap ((IntKind.i64.wrap (a1 + (max a3 (0 : Int)))) - (max a3 (0 : Int)))) (IntKind.i64.wrap (a1 + (max a3 (0 : Int))))))))]) (H' := [(1, (.tok ((List.map byteD (sl a0 (IntKind.i64.wrap ((IntKind.i64.wrap (a1 + (max a3 (0 : Int)))) - (max a3 (0 : Int)))) (IntKind.i64.wrap (a1 + (max a3 (0 : Int)))))).length * 1))), (0, (.cells [(.d (.sl (List.map byteD a0))), (.d (.int .i64 (IntKind.i64.wrap (a1 + (max a3 (0 : Int)))))), (.d (.int .i64 a2))]))]) rfl ⟨rfl, [], [], rfl, rfl, ⟨⟨_, rfl, (.refl _)⟩, rfl, trivial⟩, ⟨⟨_, rfl, (.refl _)⟩, rfl, rfl, ⟨⟨_, rfl, (.refl _)⟩, rfl, rfl, trivial⟩⟩⟩ (doneA (.inr rfl) rfl ⟨trivial, trivial⟩ (.refl _) (hasCons rfl (hasCons rfl hasNil))))
/-- (*courant/courantref01.Reader).Left -/
def C50 (N : Nat → Nat) : AFunc := { n := 13, params := 1, res := [.tmp 2], body :=
 (.seq (.region false [⟨(some 2), .mv (.k (.d (.int .i64 0))), none, []⟩])
  (.seq (.region true [⟨(some 3), .mv (.t 0), none, []⟩,
    ⟨(some 4), .nilchk (.t 3), none, [0]⟩,
    ⟨(some 5), .faddr (.t 4) 0, none, [1]⟩,
    ⟨(some 6), .load (.t 5) 1 false, none, [2]⟩,
    ⟨(some 7), .len (.t 6), none, [3]⟩,
    ⟨(some 8), .mv (.t 0), none, []⟩,
    ⟨(some 9), .nilchk (.t 8), none, [5]⟩,
    ⟨(some 10), .faddr (.t 9) 1, none, [6]⟩,
    ⟨(some 11), .load (.t 10) 1 false, none, [7]⟩,
    ⟨(some 12), .bin .sub (.t 7) (.t 11), none, [4, 8]⟩,
    ⟨(some 2), .mv (.t 12), none, [9, 0, 1, 2, 3, 4, 5, 6, 7, 8]⟩])
   .ret)) }
def HC50 (P : Program) (N : Nat → Nat) : Prop := HasF P (N 50) (C50 N)
def f50 (k : Nat) (a0 : (List UInt8)) (a1 : Int) (a2 : Int) : Option Unit := some ()
theorem F50 {P : Program} {N : Nat → Nat} (hmix : P.follows .mixedOrders = true) (hc : HC50 P N) {k : Nat} {a0 : (List UInt8)} {a1 : Int} {a2 : Int} {r : Unit} (h : f50 k a0 a1 a2 = some r) :
    ACalls P (N 50) [(.ptr 0 0)] [(0, (.cells [(.d (.sl (List.map byteD a0))), (.d (.int .i64 a1)), (.d (.int .i64 a2))]))] (.d (.int .i64 (IntKind.i64.wrap (((a0.length : Nat) : Int) - a1)))) [(0, (.cells [(.d (.sl (List.map byteD a0))), (.d (.int .i64 a1)), (.d (.int .i64 a2))]))] := by
  refine acalls_canon (F := C50 N) hc 1 1 rfl ?_
  unfold f50 at h
  dsimp only [C50, startL]
  refine AWc.seq ?_
  refine AWc.rg hmix rfl rfl ?_
  refine RegV.p0 rfl rfl rfl ?_
  refine RegV.nil0 ?_
  refine AWc.seq ?_
  refine AWc.rg hmix rfl rfl ?_
  refine RegV.p0 rfl rfl rfl ?_
  refine RegV.p0 rfl rfl rfl ?_
  refine RegV.p0 (v := (.ptr 0 0)) rfl rfl rfl ?_
  refine RegV.ld (v := (.d (.sl (List.map byteD a0)))) (H' := [(0, (.cells [(.d (.sl (List.map byteD a0))), (.d (.int .i64 a1)), (.d (.int .i64 a2))]))]) rfl rfl trivial rfl rfl rfl rfl rfl ?_
  refine RegV.len (xs := a0) (e := byteD) rfl rfl rfl rfl ?_
  refine RegV.p0 rfl rfl rfl ?_
  refine RegV.p0 rfl rfl rfl ?_
  refine RegV.p0 (v := (.ptr 0 1)) rfl rfl rfl ?_
  refine RegV.ld (v := (.d (.int .i64 a1))) (H' := [(0, (.cells [(.d (.sl (List.map byteD a0))), (.d (.int .i64 a1)), (.d (.int .i64 a2))]))]) rfl rfl trivial rfl rfl rfl rfl rfl ?_
  refine RegV.p0 (v := (.d (.int .i64 (IntKind.i64.wrap (((a0.length : Nat) : Int) - a1))))) rfl rfl rfl ?_
  refine RegV.p0 rfl rfl rfl ?_
  refine RegV.nil1 (by kernel_rfl) ?_
  have hr := Option.some.inj h
  subst hr
  exact AWc.ret (canQ (N := 13) (k := 1) (l' := [(2, (.d (.int .i64 (IntKind.i64.wrap (((a0.length : Nat) : Int) - a1)))))]) (H' := [(0, (.cells [(.d (.sl (List.map byteD a0))), (.d (.int .i64 a1)), (.d (.int .i64 a2))]))]) rfl ⟨rfl, [], [], rfl, rfl, ⟨⟨_, rfl, (.refl _)⟩, rfl, trivial⟩, ⟨⟨_, rfl, (.refl _)⟩, rfl, rfl, trivial⟩⟩ (doneA (.inr rfl) rfl ⟨trivial, trivial⟩ (.refl _) (hasCons rfl hasNil)))
/-- courant/courantref22.Take -/
def C79 (N : Nat → Nat) : AFunc := { n := 84, params := 1, res := [.tmp 2, .tmp 3], body :=
 (.seq (.region false [⟨(some 2), .mv (.k .nils), none, []⟩,
   ⟨(some 3), .mv (.k (.d (.int .i64 0))), none, [0]⟩])
  (.seq (.region false [⟨(some 10), .mv (.t 0), none, []⟩,
    ⟨(some 11), .call (.k (.d (.fn (N 44)))) [(.t 10)], none, [0]⟩,
    ⟨(some 4), .mv (.t 11), none, [1, 0]⟩])
   (.seq (.region false [⟨(some 12), .mv (.t 4), none, []⟩,
     ⟨(some 13), .call (.k (.d (.fn (N 47)))) [(.t 12)], none, [0]⟩,
     ⟨(some 5), .mv (.t 13), none, [1, 0]⟩])
    (.seq (.seq (.region false [⟨(some 14), .mv (.t 4), none, []⟩,
       ⟨(some 15), .nilchk (.t 14), none, [0]⟩,
       ⟨(some 16), .faddr (.t 15) 2, none, [1]⟩,
       ⟨(some 17), .load (.t 16) 1 false, none, [2]⟩,
       ⟨(some 18), .bin .neq (.t 17) (.k (.d (.int .i64 0))), none, [3]⟩])
      (.cond (.t 18) (.seq (.region true [⟨(some 19), .mv (.t 4), none, []⟩,
         ⟨(some 20), .nilchk (.t 19), none, [0]⟩,
         ⟨(some 21), .faddr (.t 20) 2, none, [1]⟩,
         ⟨(some 22), .load (.t 21) 1 false, none, [2]⟩,
         ⟨(some 2), .mv (.k .nils), none, []⟩,
         ⟨(some 3), .mv (.t 22), none, [3, 4, 0, 1, 2]⟩])
        .ret)
       (.skip)))
     (.seq (.seq (.region false [⟨(some 23), .mv (.t 5), none, []⟩,
        ⟨(some 24), .bin .lss (.t 23) (.k (.d (.int .i64 0))), none, [0]⟩])
       (.cond (.t 24) (.seq (.region false [⟨(some 2), .mv (.k .nils), none, []⟩,
          ⟨(some 3), .mv (.k (.d (.int .i64 4))), none, [0]⟩])
         .ret)
        (.skip)))
      (.seq (.seq (.region false [⟨(some 25), .mv (.t 5), none, []⟩,
         ⟨(some 26), .bin .gtr (.t 25) (.k (.d (.int .i64 10000))), none, [0]⟩])
        (.cond (.t 26) (.seq (.region false [⟨(some 2), .mv (.k .nils), none, []⟩,
           ⟨(some 3), .mv (.k (.d (.int .i64 5))), none, [0]⟩])
          .ret)
         (.skip)))
       (.seq (.region false [⟨(some 6), .mv (.k .nils), none, []⟩])
        (.seq (.seq (.region false [⟨(some 7), .mv (.k (.d (.int .i64 0))), none, []⟩])
          (.block 0 (.loop (.seq (.seq (.region false [⟨(some 27), .mv (.t 7), none, []⟩,
               ⟨(some 28), .mv (.t 5), none, []⟩,
               ⟨(some 29), .bin .lss (.t 27) (.t 28), none, [0, 1]⟩])
              (.cond (.t 29) (.skip)
               (.exit 0)))
             (.seq (.block 1 (.seq (.region false [⟨(some 32), .mv (.t 4), none, []⟩,
                 ⟨(some 33), .call (.k (.d (.fn (N 48)))) [(.t 32), (.k (.d (.int .i64 32768)))], none, [0]⟩,
                 ⟨(some 34), .bs2s (.t 33), none, [1]⟩,
                 ⟨(some 35), .build [(.str []), (.sl []), (.bool false)] [(0, 1, (.t 34))], none, [2]⟩,
                 ⟨(some 8), .alloc [(.str []), (.sl []), (.bool false)], none, []⟩,
                 ⟨none, .store (.t 8) (.t 35) 3, none, [4, 3, 1, 0, 2]⟩])
                (.seq (.region false [⟨(some 36), .mv (.t 4), none, []⟩,
                  ⟨(some 37), .call (.k (.d (.fn (N 49)))) [(.t 36), (.k (.d (.int .i64 1)))], none, [0]⟩,
                  ⟨(some 9), .mv (.t 37), none, [1, 0]⟩])
                 (.seq (.seq (.region false [⟨(some 38), .mv (.t 4), none, []⟩,
                    ⟨(some 39), .nilchk (.t 38), none, [0]⟩,
                    ⟨(some 40), .faddr (.t 39) 2, none, [1]⟩,
                    ⟨(some 41), .load (.t 40) 1 false, none, [2]⟩,
                    ⟨(some 42), .bin .neq (.t 41) (.k (.d (.int .i64 0))), none, [3]⟩])
                   (.cond (.t 42) (.seq (.region true [⟨(some 43), .mv (.t 4), none, []⟩,
                      ⟨(some 44), .nilchk (.t 43), none, [0]⟩,
                      ⟨(some 45), .faddr (.t 44) 2, none, [1]⟩,
                      ⟨(some 46), .load (.t 45) 1 false, none, [2]⟩,
                      ⟨(some 2), .mv (.k .nils), none, []⟩,
                      ⟨(some 3), .mv (.t 46), none, [3, 4, 0, 1, 2]⟩])
                     .ret)
                    (.skip)))
                  (.seq (.seq (.region false [⟨(some 47), .mv (.t 9), none, []⟩,
                     ⟨(some 48), .iaddr (.t 47) (.k (.d (.int .i64 0))) 1, none, [0]⟩,
                     ⟨(some 49), .load (.t 48) 1 false, none, [1]⟩,
                     ⟨(some 50), .bin .gtr (.t 49) (.k (.d (.int .u8 1))), none, [2]⟩])
                    (.cond (.t 50) (.seq (.region false [⟨(some 2), .mv (.k .nils), none, []⟩,
                       ⟨(some 3), .mv (.k (.d (.int .i64 4))), none, [0]⟩])
                      .ret)
                     (.skip)))
                   (.seq (.region false [⟨(some 51), .mv (.t 9), none, []⟩,
                     ⟨(some 52), .iaddr (.t 51) (.k (.d (.int .i64 0))) 1, none, [0]⟩,
                     ⟨(some 53), .load (.t 52) 1 false, none, [1]⟩,
                     ⟨(some 54), .bin .eql (.t 53) (.k (.d (.int .u8 1))), none, [2]⟩,
                     ⟨(some 55), .faddr (.t 8) 2, none, [0, 1, 2, 3]⟩,
                     ⟨none, .store (.t 55) (.t 54) 1, none, [4, 3, 0, 1, 2]⟩])
                    (.seq (.region false [⟨(some 56), .mv (.t 4), none, []⟩,
                      ⟨(some 57), .call (.k (.d (.fn (N 48)))) [(.t 56), (.k (.d (.int .i64 32768)))], none, [0]⟩,
                      ⟨(some 58), .faddr (.t 8) 1, none, [0, 1]⟩,
                      ⟨none, .store (.t 58) (.t 57) 1, none, [2, 1, 0]⟩])
                     (.seq (.seq (.region false [⟨(some 59), .mv (.t 4), none, []⟩,
                        ⟨(some 60), .nilchk (.t 59), none, [0]⟩,
                        ⟨(some 61), .faddr (.t 60) 2, none, [1]⟩,
                        ⟨(some 62), .load (.t 61) 1 false, none, [2]⟩,
                        ⟨(some 63), .bin .neq (.t 62) (.k (.d (.int .i64 0))), none, [3]⟩])
                       (.cond (.t 63) (.seq (.region true [⟨(some 64), .mv (.t 4), none, []⟩,
                          ⟨(some 65), .nilchk (.t 64), none, [0]⟩,
                          ⟨(some 66), .faddr (.t 65) 2, none, [1]⟩,
                          ⟨(some 67), .load (.t 66) 1 false, none, [2]⟩,
                          ⟨(some 2), .mv (.k .nils), none, []⟩,
                          ⟨(some 3), .mv (.t 67), none, [3, 4, 0, 1, 2]⟩])
                         .ret)
                        (.skip)))
                      (.seq (.seq (.region false [⟨(some 68), .faddr (.t 8) 2, none, []⟩,
                         ⟨(some 69), .load (.t 68) 1 false, none, [0]⟩,
                         ⟨(some 70), .mv (.t 69), none, [1]⟩,
                         ⟨(some 71), .faddr (.t 8) 1, (some (70, true)), [2]⟩,
                         ⟨(some 72), .load (.t 71) 1 false, (some (70, true)), [3, 2]⟩,
                         ⟨(some 73), .len (.t 72), (some (70, true)), [4, 2]⟩,
                         ⟨(some 74), .bin .gtr (.t 73) (.k (.d (.int .i64 0))), (some (70, true)), [5, 2]⟩,
                         ⟨(some 75), .pick (.t 70) (.t 74) (.k (.d (.bool false))), none, [2, 6]⟩])
                        (.cond (.t 75) (.seq (.region false [⟨(some 2), .mv (.k .nils), none, []⟩,
                           ⟨(some 3), .mv (.k (.d (.int .i64 4))), none, [0]⟩])
                          .ret)
                         (.skip)))
                       (.region false [⟨(some 76), .mv (.t 6), none, []⟩,
                        ⟨(some 77), .load (.t 8) 3 true, none, []⟩,
                        ⟨(some 78), .bslice 1 3 [(.str []), (.sl []), (.bool false)] [(0, (.t 77))], none, [1]⟩,
                        ⟨(some 79), .app (.t 76) (.t 78) 3 48 [(.str []), (.sl []), (.bool false)], none, [0, 2]⟩,
                        ⟨(some 6), .mv (.t 79), none, [3, 0, 1, 2]⟩]))))))))))
              (.region false [⟨(some 30), .mv (.t 7), none, []⟩,
               ⟨(some 31), .bin .add (.t 30) (.k (.d (.int .i64 1))), none, [0]⟩,
               ⟨(some 7), .mv (.t 31), none, [1, 0]⟩]))))))
         (.seq (.seq (.region false [⟨(some 80), .mv (.t 4), none, []⟩,
            ⟨(some 81), .call (.k (.d (.fn (N 50)))) [(.t 80)], none, [0]⟩,
            ⟨(some 82), .bin .gtr (.t 81) (.k (.d (.int .i64 0))), none, [1]⟩])
           (.cond (.t 82) (.seq (.region false [⟨(some 2), .mv (.k .nils), none, []⟩,
              ⟨(some 3), .mv (.k (.d (.int .i64 4))), none, [0]⟩])
             .ret)
            (.skip)))
          (.seq (.region false [⟨(some 83), .mv (.t 6), none, []⟩,
            ⟨(some 2), .mv (.t 83), none, [0]⟩,
            ⟨(some 3), .mv (.k (.d (.int .i64 0))), none, [1, 0]⟩])
           .ret)))))))))) }
def HC79 (P : Program) (N : Nat → Nat) : Prop := HasF P (N 79) (C79 N) ∧ HC44 P N ∧ HC47 P N ∧ HC48 P N ∧ HC49 P N ∧ HC50 P N
def f79_j211 (k : Nat) (a0 : (List UInt8)) (j211_1 : (List TPair)) (j211_2 : Int) (j211_3 : Int) : Option ((List TPair) × Int) := (f50 k a0 j211_2 j211_3).bind fun r216 => cond (decide ((IntKind.i64.wrap (((a0.length : Nat) : Int) - j211_2)) > (0 : Int))) (some (([] : List TPair), (4 : Int))) (some (j211_1, (0 : Int)))
def f79_j199 (L : (List TPair) → Int → Int → Int → Option (LR2 ((List TPair) × Int × Int) Unit ((List TPair) × Int))) (k : Nat) (y76_1 : (List TPair)) (r94 : ((List UInt8) × Int × Int)) (r155 : ((List UInt8) × Int × Int)) (r103 : ((List UInt8) × Int × Int)) (y76_2 : Int) : Option (LR2 ((List TPair) × Int × Int) Unit ((List TPair) × Int)) := gd ((y76_1.length + ([(TPair.mk r94.1 r155.1 (decide ((((rd r103.1 (0 : Int)).toNat : Nat) : Int) = (1 : Int))))] : List TPair).length) * 2 * 48 ≤ 281474976710656) (L (y76_1 ++ ([(TPair.mk r94.1 r155.1 (decide ((((rd r103.1 (0 : Int)).toNat : Nat) : Int) = (1 : Int))))] : List TPair)) (IntKind.i64.wrap (y76_2 + (1 : Int))) r155.2.1 r155.2.2)
def f79_l76 (r16 : (Int × Int × Int)) (a0 : (List UInt8)) : Nat → (List TPair) → Int → Int → Int → Option (LR2 ((List TPair) × Int × Int) Unit ((List TPair) × Int))
  | 0, _, _, _, _ => none
  | k + 1, y76_1, y76_2, y76_3, y76_4 => cond (decide (y76_2 < r16.1)) ((f48 k a0 y76_3 y76_4 (32768 : Int)).bind fun r94 => (f49 k a0 r94.2.1 r94.2.2 (1 : Int)).bind fun r103 => cond (decide (r103.2.2 ≠ (0 : Int))) (some (.r (([] : List TPair), r103.2.2))) (gd (0 ≤ (0 : Int) ∧ (0 : Int) < ((r103.1.length : Nat) : Int)) (cond (decide ((((rd r103.1 (0 : Int)).toNat : Nat) : Int) > (1 : Int))) (some (.r (([] : List TPair), (4 : Int)))) (gd (0 ≤ (0 : Int) ∧ (0 : Int) < ((r103.1.length : Nat) : Int)) ((f48 k a0 r103.2.1 r103.2.2 (32768 : Int)).bind fun r155 => cond (decide (r155.2.2 ≠ (0 : Int))) (some (.r (([] : List TPair), r155.2.2))) (cond (decide ((((rd r103.1 (0 : Int)).toNat : Nat) : Int) = (1 : Int))) (cond (decide (((r155.1.length : Nat) : Int) > (0 : Int))) (some (.r (([] : List TPair), (4 : Int)))) (f79_j199 (f79_l76 r16 a0 k) k y76_1 r94 r155 r103 y76_2)) (f79_j199 (f79_l76 r16 a0 k) k y76_1 r94 r155 r103 y76_2))))))) (some (.b0 (y76_1, y76_3, y76_4)))
def f79 (k : Nat) (a0 : (List UInt8)) : Option ((List TPair) × Int) := (f44 k a0).bind fun r10 => (f47 k a0 (0 : Int) (0 : Int)).bind fun r16 => cond (decide (r16.2.2 ≠ (0 : Int))) (some (([] : List TPair), r16.2.2)) (cond (decide (r16.1 < (0 : Int))) (some (([] : List TPair), (4 : Int))) (cond (decide (r16.1 > (10000 : Int))) (some (([] : List TPair), (5 : Int))) ((f79_l76 r16 a0 k ([] : List TPair) (0 : Int) r16.2.1 r16.2.2).bind fun o76 => (match o76 with | .b0 (x76_1, x76_2, x76_3) => f79_j211 k a0 x76_1 x76_2 x76_3 | .r x => some x | _ => none))))
theorem F79 {P : Program} {N : Nat → Nat} (hmix : P.follows .mixedOrders = true) (hc : HC79 P N) {k : Nat} {a0 : (List UInt8)} {r : ((List TPair) × Int)} (h : f79 k a0 = some r) :
    ACalls P (N 79) [(.d (.sl (List.map byteD a0)))] [] (.tup [(.ap 0 3 (List.map TPair.enc r.1)), (.d (.int .i64 r.2))]) [(0, (.tok ((List.map TPair.enc r.1).length * 3)))] := by
  refine acalls_canon (F := C79 N) hc.1 0 1 rfl ?_
  unfold f79 at h
  dsimp only [C79, startL]
  refine AWc.seq ?_
  refine AWc.rg hmix rfl rfl ?_
  refine RegV.p0 rfl rfl rfl ?_
  refine RegV.p0 rfl rfl rfl ?_
  refine RegV.nil0 ?_
  refine AWc.seq ?_
  refine AWc.rg hmix rfl rfl ?_
  refine RegV.p0 rfl rfl rfl ?_
  obtain ⟨r10, e10, h⟩ := bind_some h
  refine RegV.callS (q := false) (H' := [(0, (.cells [(.d (.sl (List.map byteD a0))), (.d (.int .i64 (0 : Int))), (.d (.int .i64 (0 : Int)))]))]) (c' := 1) (show ACalls P (N 44) [(.d (.sl (List.map byteD a0)))] [] (.ptr 0 0) [(0, (.cells [(.d (.sl (List.map byteD a0))), (.d (.int .i64 (0 : Int))), (.d (.int .i64 (0 : Int)))]))] from ACalls.use (F44 hmix hc.2.1 e10) [(0, 0)] 1 rfl) rfl rfl rfl rfl (.cons (.refl _) .nil) (.refl _) (fun h => by cases h) rfl hasNil rfl rfl rfl rfl ?_
  refine RegV.p0 rfl rfl rfl ?_
  refine RegV.nil0 ?_
  refine AWc.seq ?_
  refine AWc.rg hmix rfl rfl ?_
  refine RegV.p0 rfl rfl rfl ?_
  obtain ⟨r16, e16, h⟩ := bind_some h
  refine RegV.callS (q := false) (H' := [(0, (.cells [(.d (.sl (List.map byteD a0))), (.d (.int .i64 r16.2.1)), (.d (.int .i64 r16.2.2))]))]) (c' := 1) (show ACalls P (N 47) [(.ptr 0 0)] [(0, (.cells [(.d (.sl (List.map byteD a0))), (.d (.int .i64 (0 : Int))), (.d (.int .i64 (0 : Int)))]))] (.d (.int .i64 r16.1)) [(0, (.cells [(.d (.sl (List.map byteD a0))), (.d (.int .i64 r16.2.1)), (.d (.int .i64 r16.2.2))]))] from ACalls.use (F47 hmix hc.2.2.1 e16) [(0, 0)] 1 rfl) rfl rfl rfl rfl (.cons (.refl _) .nil) (.refl _) (fun h => by cases h) rfl (hasCons rfl hasNil) rfl rfl rfl rfl ?_
  refine RegV.p0 rfl rfl rfl ?_
  refine RegV.nil0 ?_
  refine AWc.seq ?_
  refine AWc.seq ?_
  refine AWc.rg hmix rfl rfl ?_
  refine RegV.p0 rfl rfl rfl ?_
  refine RegV.p0 rfl rfl rfl ?_
  refine RegV.p0 (v := (.ptr 0 2)) rfl rfl rfl ?_
  refine RegV.ld (v := (.d (.int .i64 r16.2.2))) (H' := [(0, (.cells [(.d (.sl (List.map byteD a0))), (.d (.int .i64 r16.2.1)), (.d (.int .i64 r16.2.2))]))]) rfl rfl trivial rfl rfl rfl rfl rfl ?_
  refine RegV.p0 (v := (.d (.bool (decide (r16.2.2 ≠ (0 : Int)))))) rfl rfl rfl ?_
  refine RegV.nil0 ?_
  refine AWc.cond rfl (fun c27 => ?_) (fun c27 => ?_)
  · have h := cond_pos c27 h
    refine AWc.seq ?_
    refine AWc.rg hmix rfl rfl ?_
    refine RegV.p0 rfl rfl rfl ?_
    refine RegV.p0 rfl rfl rfl ?_
    refine RegV.p0 (v := (.ptr 0 2)) rfl rfl rfl ?_
    refine RegV.ld (v := (.d (.int .i64 r16.2.2))) (H' := [(0, (.cells [(.d (.sl (List.map byteD a0))), (.d (.int .i64 r16.2.1)), (.d (.int .i64 r16.2.2))]))]) rfl rfl trivial rfl rfl rfl rfl rfl ?_
    refine RegV.p0 rfl rfl rfl ?_
    refine RegV.p0 rfl rfl rfl ?_
    refine RegV.nil1 (by kernel_rfl) ?_
    have hr := Option.some.inj h
    subst hr
    exact AWc.ret (canQ (N := 84) (k := 1) (l' := [(2, (.ap 0 3 (List.map TPair.enc ([] : List TPair)))), (3, (.d (.int .i64 r16.2.2)))]) (H' := [(0, (.tok ((List.map TPair.enc ([] : List TPair)).length * 3)))]) rfl ⟨rfl, [.tok 0], [(0, 1)], rfl, rfl, ⟨⟨_, rfl, .nil⟩, rfl, ⟨⟨_, rfl, (.refl _)⟩, rfl, trivial⟩⟩, ⟨⟨_, rfl, (.refl _)⟩, rfl, rfl, trivial⟩⟩ (doneA (.inr rfl) rfl ⟨trivial, ⟨trivial, trivial⟩⟩ (.refl _) (hasCons rfl hasNil)))
  · have h := cond_neg c27 h
    refine AWc.skip ?_
    refine AWc.seq ?_
    refine AWc.seq ?_
    refine AWc.rg hmix rfl rfl ?_
    refine RegV.p0 rfl rfl rfl ?_
    refine RegV.p0 (v := (.d (.bool (decide (r16.1 < (0 : Int)))))) rfl rfl rfl ?_
    refine RegV.nil0 ?_
    refine AWc.cond rfl (fun c45 => ?_) (fun c45 => ?_)
    · have h := cond_pos c45 h
      refine AWc.seq ?_
      refine AWc.rg hmix rfl rfl ?_
      refine RegV.p0 rfl rfl rfl ?_
      refine RegV.p0 rfl rfl rfl ?_
      refine RegV.nil0 ?_
      have hr := Option.some.inj h
      subst hr
      exact AWc.ret (canQ (N := 84) (k := 1) (l' := [(2, (.ap 0 3 (List.map TPair.enc ([] : List TPair)))), (3, (.d (.int .i64 (4 : Int))))]) (H' := [(0, (.tok ((List.map TPair.enc ([] : List TPair)).length * 3)))]) rfl ⟨rfl, [.tok 0], [(0, 1)], rfl, rfl, ⟨⟨_, rfl, .nil⟩, rfl, ⟨⟨_, rfl, (.refl _)⟩, rfl, trivial⟩⟩, ⟨⟨_, rfl, (.refl _)⟩, rfl, rfl, trivial⟩⟩ (doneA (.inr rfl) rfl ⟨trivial, ⟨trivial, trivial⟩⟩ (.refl _) (hasCons rfl hasNil)))
    · have h := cond_neg c45 h
      refine AWc.skip ?_
      refine AWc.seq ?_
      refine AWc.seq ?_
      refine AWc.rg hmix rfl rfl ?_
      refine RegV.p0 rfl rfl rfl ?_
      refine RegV.p0 (v := (.d (.bool (decide (r16.1 > (10000 : Int)))))) rfl rfl rfl ?_
      refine RegV.nil0 ?_
      refine AWc.cond rfl (fun c59 => ?_) (fun c59 => ?_)
      · have h := cond_pos c59 h
        refine AWc.seq ?_
        refine AWc.rg hmix rfl rfl ?_
        refine RegV.p0 rfl rfl rfl ?_
        refine RegV.p0 rfl rfl rfl ?_
        refine RegV.nil0 ?_
        have hr := Option.some.inj h
        subst hr
        exact AWc.ret (canQ (N := 84) (k := 1) (l' := [(2, (.ap 0 3 (List.map TPair.enc ([] : List TPair)))), (3, (.d (.int .i64 (5 : Int))))]) (H' := [(0, (.tok ((List.map TPair.enc ([] : List TPair)).length * 3)))]) rfl ⟨rfl, [.tok 0], [(0, 1)], rfl, rfl, ⟨⟨_, rfl, .nil⟩, rfl, ⟨⟨_, rfl, (.refl _)⟩, rfl, trivial⟩⟩, ⟨⟨_, rfl, (.refl _)⟩, rfl, rfl, trivial⟩⟩ (doneA (.inr rfl) rfl ⟨trivial, ⟨trivial, trivial⟩⟩ (.refl _) (hasCons rfl hasNil)))
      · have h := cond_neg c59 h
        refine AWc.skip ?_
        refine AWc.seq ?_
        refine AWc.rg hmix rfl rfl ?_
        refine RegV.p0 rfl rfl rfl ?_
        refine RegV.nil0 ?_
        refine AWc.seqS (N := 84) 2 (fun (z : ((List TPair) × Int × Int)) => [(4, (.ptr 0 0)), (6, (.ap 1 3 (List.map TPair.enc z.1)))]) (fun z => [(0, (.cells [(.d (.sl (List.map byteD a0))), (.d (.int .i64 z.2.1)), (.d (.int .i64 z.2.2))])), (1, (.tok ((List.map TPair.enc z.1).length * 3)))]) (fun z => f79_j211 k a0 z.1 z.2.1 z.2.2 = some r) rfl_le ?_ ?_
        · refine AWc.seq ?_
          refine AWc.rg hmix rfl rfl ?_
          refine RegV.p0 rfl rfl rfl ?_
          refine RegV.nil0 ?_
          obtain ⟨o76, h76, h⟩ := bind_some h
          refine AWc.block ?_
          refine AWc.loopK (N := 84) 2 (fun (x : ((List TPair) × Int × Int × Int)) => [(4, (.ptr 0 0)), (5, (.d (.int .i64 r16.1))), (6, (.ap 1 3 (List.map TPair.enc x.1))), (7, (.d (.int .i64 x.2.1)))]) (fun x => [(0, (.cells [(.d (.sl (List.map byteD a0))), (.d (.int .i64 x.2.2.1)), (.d (.int .i64 x.2.2.2))])), (1, (.tok ((List.map TPair.enc x.1).length * 3)))]) (fun k x => f79_l76 r16 a0 k x.1 x.2.1 x.2.2.1 x.2.2.2 = some o76) k (([] : List TPair), (0 : Int), r16.2.1, r16.2.2) rfl_le (fun x hx => by cases hx) h76 ⟨rfl, [.tok 0], [(1, 1)], rfl, rfl, ⟨⟨_, rfl, (.refl _)⟩, rfl, ⟨⟨_, rfl, (.refl _)⟩, rfl, ⟨⟨_, rfl, .nil⟩, rfl, ⟨⟨_, rfl, (.refl _)⟩, rfl, trivial⟩⟩⟩⟩, ⟨⟨_, rfl, (.refl _)⟩, rfl, rfl, ⟨⟨_, rfl, (.refl _)⟩, rfl, rfl, trivial⟩⟩⟩ ?_
          clear h76
          intro k
          rintro ⟨y76_1, y76_2, y76_3, y76_4⟩ h76
          dsimp only at h76 ⊢
          rw [f79_l76] at h76
          refine AWc.seq ?_
          refine AWc.seq ?_
          refine AWc.rg hmix rfl rfl ?_
          refine RegV.p0 rfl rfl rfl ?_
          refine RegV.p0 rfl rfl rfl ?_
          refine RegV.p0 (v := (.d (.bool (decide (y76_2 < r16.1))))) rfl rfl rfl ?_
          refine RegV.nil0 ?_
          refine AWc.cond rfl (fun c85 => ?_) (fun c85 => ?_)
          · have h76 := cond_pos c85 h76
            refine AWc.skip ?_
            refine AWc.seq ?_
            refine AWc.block ?_
            refine AWc.seq ?_
            refine AWc.rg hmix rfl rfl ?_
            refine RegV.p0 rfl rfl rfl ?_
            obtain ⟨r94, e94, h76⟩ := bind_some h76
            refine RegV.callS (q := false) (H' := [(2, (.tok ((List.map byteD r94.1).length * 1))), (0, (.cells [(.d (.sl (List.map byteD a0))), (.d (.int .i64 r94.2.1)), (.d (.int .i64 r94.2.2))])), (1, (.tok ((List.map TPair.enc y76_1).length * 3)))]) (c' := 3) (show ACalls P (N 48) [(.ptr 0 0), (.d (.int .i64 (32768 : Int)))] [(0, (.cells [(.d (.sl (List.map byteD a0))), (.d (.int .i64 y76_3)), (.d (.int .i64 y76_4))]))] (.ap 2 1 (List.map byteD r94.1)) [(2, (.tok ((List.map byteD r94.1).length * 1))), (0, (.cells [(.d (.sl (List.map byteD a0))), (.d (.int .i64 r94.2.1)), (.d (.int .i64 r94.2.2))]))] from ACalls.use (F48 hmix hc.2.2.2.1 e94) [(0, 0), (1, 2)] 2 rfl) rfl rfl rfl rfl (.cons (.refl _) (.cons (.refl _) .nil)) (.refl _) (fun h => by cases h) rfl (hasCons rfl hasNil) rfl rfl rfl rfl ?_
            refine RegV.bs2s (b := r94.1) rfl rfl rfl ?_
            refine RegV.p1 (v := (.d (.agg [(.str r94.1), (.sl (List.map byteD ([] : List UInt8))), (.bool false)]))) rfl rfl (by exact ⟨⟨rfl, Nat.le_of_ble_eq_true rfl⟩, trivial⟩) rfl rfl ?_
            refine RegV.evS (own := false) (v := (.ptr 3 0)) (H' := [(3, (.cells [(.d (.str ([] : List UInt8))), .nils, (.d (.bool false))])), (2, (.tok ((List.map byteD r94.1).length * 1))), (0, (.cells [(.d (.sl (List.map byteD a0))), (.d (.int .i64 r94.2.1)), (.d (.int .i64 r94.2.2))])), (1, (.tok ((List.map TPair.enc y76_1).length * 3)))]) (c' := 4) rfl rfl trivial rfl rfl rfl rfl rfl rfl ?_
            refine RegV.evN (own := false) (H' := [(3, (.cells [(.d (.str r94.1)), (.d (.sl (List.map byteD ([] : List UInt8)))), (.d (.bool false))])), (2, (.tok ((List.map byteD r94.1).length * 1))), (0, (.cells [(.d (.sl (List.map byteD a0))), (.d (.int .i64 r94.2.1)), (.d (.int .i64 r94.2.2))])), (1, (.tok ((List.map TPair.enc y76_1).length * 3)))]) (c' := 4) rfl rfl (by exact ⟨rfl, Nat.le_of_ble_eq_true rfl, rfl⟩) rfl rfl rfl rfl ?_
            refine RegV.nil0 ?_
            refine AWc.seq ?_
            refine AWc.rg hmix rfl rfl ?_
            refine RegV.p0 rfl rfl rfl ?_
            obtain ⟨r103, e103, h76⟩ := bind_some h76
            refine RegV.callS (q := false) (H' := [(4, (.tok ((List.map byteD r103.1).length * 1))), (0, (.cells [(.d (.sl (List.map byteD a0))), (.d (.int .i64 r103.2.1)), (.d (.int .i64 r103.2.2))])), (3, (.cells [(.d (.str r94.1)), (.d (.sl (List.map byteD ([] : List UInt8)))), (.d (.bool false))])), (2, (.tok ((List.map byteD r94.1).length * 1))), (1, (.tok ((List.map TPair.enc y76_1).length * 3)))]) (c' := 5) (show ACalls P (N 49) [(.ptr 0 0), (.d (.int .i64 (1 : Int)))] [(0, (.cells [(.d (.sl (List.map byteD a0))), (.d (.int .i64 r94.2.1)), (.d (.int .i64 r94.2.2))]))] (.ap 4 1 (List.map byteD r103.1)) [(4, (.tok ((List.map byteD r103.1).length * 1))), (0, (.cells [(.d (.sl (List.map byteD a0))), (.d (.int .i64 r103.2.1)), (.d (.int .i64 r103.2.2))]))] from ACalls.use (F49 hmix hc.2.2.2.2.1 e103) [(0, 0), (1, 4)] 2 rfl) rfl rfl rfl rfl (.cons (.refl _) (.cons (.refl _) .nil)) (.refl _) (fun h => by cases h) rfl (hasCons rfl hasNil) rfl rfl rfl rfl ?_
            refine RegV.p0 rfl rfl rfl ?_
            refine RegV.nil0 ?_
            refine AWc.seq ?_
            refine AWc.seq ?_
            refine AWc.rg hmix rfl rfl ?_
            refine RegV.p0 rfl rfl rfl ?_
            refine RegV.p0 rfl rfl rfl ?_
            refine RegV.p0 (v := (.ptr 0 2)) rfl rfl rfl ?_
            refine RegV.ld (v := (.d (.int .i64 r103.2.2))) (H' := [(0, (.cells [(.d (.sl (List.map byteD a0))), (.d (.int .i64 r103.2.1)), (.d (.int .i64 r103.2.2))])), (4, (.tok ((List.map byteD r103.1).length * 1))), (3, (.cells [(.d (.str r94.1)), (.d (.sl (List.map byteD ([] : List UInt8)))), (.d (.bool false))])), (2, (.tok ((List.map byteD r94.1).length * 1))), (1, (.tok ((List.map TPair.enc y76_1).length * 3)))]) rfl rfl trivial rfl rfl rfl rfl rfl ?_
            refine RegV.p0 (v := (.d (.bool (decide (r103.2.2 ≠ (0 : Int)))))) rfl rfl rfl ?_
            refine RegV.nil0 ?_
            refine AWc.cond rfl (fun c114 => ?_) (fun c114 => ?_)
            · have h76 := cond_pos c114 h76
              refine AWc.seq ?_
              refine AWc.rg hmix rfl rfl ?_
              refine RegV.p0 rfl rfl rfl ?_
              refine RegV.p0 rfl rfl rfl ?_
              refine RegV.p0 (v := (.ptr 0 2)) rfl rfl rfl ?_
              refine RegV.ld (v := (.d (.int .i64 r103.2.2))) (H' := [(0, (.cells [(.d (.sl (List.map byteD a0))), (.d (.int .i64 r103.2.1)), (.d (.int .i64 r103.2.2))])), (4, (.tok ((List.map byteD r103.1).length * 1))), (3, (.cells [(.d (.str r94.1)), (.d (.sl (List.map byteD ([] : List UInt8)))), (.d (.bool false))])), (2, (.tok ((List.map byteD r94.1).length * 1))), (1, (.tok ((List.map TPair.enc y76_1).length * 3)))]) rfl rfl trivial rfl rfl rfl rfl rfl ?_
              refine RegV.p0 rfl rfl rfl ?_
              refine RegV.p0 rfl rfl rfl ?_
              refine RegV.nil1 (by kernel_rfl) ?_
              cases h76
              dsimp only at h
              have hr := Option.some.inj h
              subst hr
              exact AWc.ret (canQ (N := 84) (k := 1) (l' := [(2, (.ap 0 3 (List.map TPair.enc ([] : List TPair)))), (3, (.d (.int .i64 r103.2.2)))]) (H' := [(0, (.tok ((List.map TPair.enc ([] : List TPair)).length * 3)))]) rfl ⟨rfl, [.tok 0], [(0, 5)], rfl, rfl, ⟨⟨_, rfl, .nil⟩, rfl, ⟨⟨_, rfl, (.refl _)⟩, rfl, trivial⟩⟩, ⟨⟨_, rfl, (.refl _)⟩, rfl, rfl, trivial⟩⟩ (doneA (.inr rfl) rfl ⟨trivial, ⟨trivial, trivial⟩⟩ (.refl _) (hasCons rfl hasNil)))
            · have h76 := cond_neg c114 h76
              refine AWc.skip ?_
              refine AWc.seq ?_
              refine AWc.seq ?_
              refine AWc.rg hmix rfl rfl ?_
              refine RegV.p0 rfl rfl rfl ?_
              obtain ⟨b131, h76⟩ := gd_some h76
              refine RegV.iad (xs := r103.1) (e := byteD) rfl rfl rfl rfl (fun _ => rfl) b131 rfl ?_
              refine RegV.p0 (v := (.d (.int .u8 (((rd r103.1 (0 : Int)).toNat : Nat) : Int)))) rfl rfl rfl ?_
              refine RegV.p0 (v := (.d (.bool (decide ((((rd r103.1 (0 : Int)).toNat : Nat) : Int) > (1 : Int)))))) rfl rfl rfl ?_
              refine RegV.nil0 ?_
              refine AWc.cond rfl (fun c134 => ?_) (fun c134 => ?_)
              · have h76 := cond_pos c134 h76
                refine AWc.seq ?_
                refine AWc.rg hmix rfl rfl ?_
                refine RegV.p0 rfl rfl rfl ?_
                refine RegV.p0 rfl rfl rfl ?_
                refine RegV.nil0 ?_
                cases h76
                dsimp only at h
                have hr := Option.some.inj h
                subst hr
                exact AWc.ret (canQ (N := 84) (k := 1) (l' := [(2, (.ap 0 3 (List.map TPair.enc ([] : List TPair)))), (3, (.d (.int .i64 (4 : Int))))]) (H' := [(0, (.tok ((List.map TPair.enc ([] : List TPair)).length * 3)))]) rfl ⟨rfl, [.tok 0], [(0, 5)], rfl, rfl, ⟨⟨_, rfl, .nil⟩, rfl, ⟨⟨_, rfl, (.refl _)⟩, rfl, trivial⟩⟩, ⟨⟨_, rfl, (.refl _)⟩, rfl, rfl, trivial⟩⟩ (doneA (.inr rfl) rfl ⟨trivial, ⟨trivial, trivial⟩⟩ (.refl _) (hasCons rfl hasNil)))
              · have h76 := cond_neg c134 h76
                refine AWc.skip ?_
                refine AWc.seq ?_
                refine AWc.rg hmix rfl rfl ?_
                refine RegV.p0 rfl rfl rfl ?_
                obtain ⟨b146, h76⟩ := gd_some h76
                refine RegV.iad (xs := r103.1) (e := byteD) rfl rfl rfl rfl (fun _ => rfl) b146 rfl ?_
                refine RegV.p0 (v := (.d (.int .u8 (((rd r103.1 (0 : Int)).toNat : Nat) : Int)))) rfl rfl rfl ?_
                refine RegV.p0 (v := (.d (.bool (decide ((((rd r103.1 (0 : Int)).toNat : Nat) : Int) = (1 : Int)))))) rfl rfl rfl ?_
                refine RegV.p0 (v := (.ptr 3 2)) rfl rfl rfl ?_
                refine RegV.evN (own := false) (H' := [(3, (.cells [(.d (.str r94.1)), (.d (.sl (List.map byteD ([] : List UInt8)))), (.d (.bool (decide ((((rd r103.1 (0 : Int)).toNat : Nat) : Int) = (1 : Int)))))])), (0, (.cells [(.d (.sl (List.map byteD a0))), (.d (.int .i64 r103.2.1)), (.d (.int .i64 r103.2.2))])), (4, (.tok ((List.map byteD r103.1).length * 1))), (2, (.tok ((List.map byteD r94.1).length * 1))), (1, (.tok ((List.map TPair.enc y76_1).length * 3)))]) (c' := 5) rfl rfl (by exact ⟨rfl, Nat.le_of_ble_eq_true rfl, rfl⟩) rfl rfl rfl rfl ?_
                refine RegV.nil0 ?_
                refine AWc.seq ?_
                refine AWc.rg hmix rfl rfl ?_
                refine RegV.p0 rfl rfl rfl ?_
                obtain ⟨r155, e155, h76⟩ := bind_some h76
                refine RegV.callS (q := false) (H' := [(5, (.tok ((List.map byteD r155.1).length * 1))), (0, (.cells [(.d (.sl (List.map byteD a0))), (.d (.int .i64 r155.2.1)), (.d (.int .i64 r155.2.2))])), (3, (.cells [(.d (.str r94.1)), (.d (.sl (List.map byteD ([] : List UInt8)))), (.d (.bool (decide ((((rd r103.1 (0 : Int)).toNat : Nat) : Int) = (1 : Int)))))])), (4, (.tok ((List.map byteD r103.1).length * 1))), (2, (.tok ((List.map byteD r94.1).length * 1))), (1, (.tok ((List.map TPair.enc y76_1).length * 3)))]) (c' := 6) (show ACalls P (N 48) [(.ptr 0 0), (.d (.int .i64 (32768 : Int)))] [(0, (.cells [(.d (.sl (List.map byteD a0))), (.d (.int .i64 r103.2.1)), (.d (.int .i64 r103.2.2))]))] (.ap 5 1 (List.map byteD r155.1)) [(5, (.tok ((List.map byteD r155.1).length * 1))), (0, (.cells [(.d (.sl (List.map byteD a0))), (.d (.int .i64 r155.2.1)), (.d (.int .i64 r155.2.2))]))] from ACalls.use (F48 hmix hc.2.2.2.1 e155) [(0, 0), (1, 5)] 2 rfl) rfl rfl rfl rfl (.cons (.refl _) (.cons (.refl _) .nil)) (.refl _) (fun h => by cases h) rfl (hasCons rfl hasNil) rfl rfl rfl rfl ?_
                refine RegV.p0 (v := (.ptr 3 1)) rfl rfl rfl ?_
                refine RegV.evN (own := false) (H' := [(3, (.cells [(.d (.str r94.1)), (.ap 5 1 (List.map byteD r155.1)), (.d (.bool (decide ((((rd r103.1 (0 : Int)).toNat : Nat) : Int) = (1 : Int)))))])), (5, (.tok ((List.map byteD r155.1).length * 1))), (0, (.cells [(.d (.sl (List.map byteD a0))), (.d (.int .i64 r155.2.1)), (.d (.int .i64 r155.2.2))])), (4, (.tok ((List.map byteD r103.1).length * 1))), (2, (.tok ((List.map byteD r94.1).length * 1))), (1, (.tok ((List.map TPair.enc y76_1).length * 3)))]) (c' := 6) rfl rfl (by exact ⟨rfl, Nat.le_of_ble_eq_true rfl, rfl⟩) rfl rfl rfl rfl ?_
                refine RegV.nil0 ?_
                refine AWc.seq ?_
                refine AWc.seq ?_
                refine AWc.rg hmix rfl rfl ?_
                refine RegV.p0 rfl rfl rfl ?_
                refine RegV.p0 rfl rfl rfl ?_
                refine RegV.p0 (v := (.ptr 0 2)) rfl rfl rfl ?_
                refine RegV.ld (v := (.d (.int .i64 r155.2.2))) (H' := [(0, (.cells [(.d (.sl (List.map byteD a0))), (.d (.int .i64 r155.2.1)), (.d (.int .i64 r155.2.2))])), (3, (.cells [(.d (.str r94.1)), (.ap 5 1 (List.map byteD r155.1)), (.d (.bool (decide ((((rd r103.1 (0 : Int)).toNat : Nat) : Int) = (1 : Int)))))])), (5, (.tok ((List.map byteD r155.1).length * 1))), (4, (.tok ((List.map byteD r103.1).length * 1))), (2, (.tok ((List.map byteD r94.1).length * 1))), (1, (.tok ((List.map TPair.enc y76_1).length * 3)))]) rfl rfl trivial rfl rfl rfl rfl rfl ?_
                refine RegV.p0 (v := (.d (.bool (decide (r155.2.2 ≠ (0 : Int)))))) rfl rfl rfl ?_
                refine RegV.nil0 ?_
                refine AWc.cond rfl (fun c167 => ?_) (fun c167 => ?_)
                · have h76 := cond_pos c167 h76
                  refine AWc.seq ?_
                  refine AWc.rg hmix rfl rfl ?_
                  refine RegV.p0 rfl rfl rfl ?_
                  refine RegV.p0 rfl rfl rfl ?_
                  refine RegV.p0 (v := (.ptr 0 2)) rfl rfl rfl ?_
                  refine RegV.ld (v := (.d (.int .i64 r155.2.2))) (H' := [(0, (.cells [(.d (.sl (List.map byteD a0))), (.d (.int .i64 r155.2.1)), (.d (.int .i64 r155.2.2))])), (3, (.cells [(.d (.str r94.1)), (.ap 5 1 (List.map byteD r155.1)), (.d (.bool (decide ((((rd r103.1 (0 : Int)).toNat : Nat) : Int) = (1 : Int)))))])), (5, (.tok ((List.map byteD r155.1).length * 1))), (4, (.tok ((List.map byteD r103.1).length * 1))), (2, (.tok ((List.map byteD r94.1).length * 1))), (1, (.tok ((List.map TPair.enc y76_1).length * 3)))]) rfl rfl trivial rfl rfl rfl rfl rfl ?_
                  refine RegV.p0 rfl rfl rfl ?_
                  refine RegV.p0 rfl rfl rfl ?_
                  refine RegV.nil1 (by kernel_rfl) ?_
                  cases h76
                  dsimp only at h
                  have hr := Option.some.inj h
                  subst hr
                  exact AWc.ret (canQ (N := 84) (k := 1) (l' := [(2, (.ap 0 3 (List.map TPair.enc ([] : List TPair)))), (3, (.d (.int .i64 r155.2.2)))]) (H' := [(0, (.tok ((List.map TPair.enc ([] : List TPair)).length * 3)))]) rfl ⟨rfl, [.tok 0], [(0, 6)], rfl, rfl, ⟨⟨_, rfl, .nil⟩, rfl, ⟨⟨_, rfl, (.refl _)⟩, rfl, trivial⟩⟩, ⟨⟨_, rfl, (.refl _)⟩, rfl, rfl, trivial⟩⟩ (doneA (.inr rfl) rfl ⟨trivial, ⟨trivial, trivial⟩⟩ (.refl _) (hasCons rfl hasNil)))
                · have h76 := cond_neg c167 h76
                  refine AWc.skip ?_
                  refine AWc.seqS (N := 84) 4 (fun (z : Unit) => [(4, (.ptr 0 0)), (5, (.d (.int .i64 r16.1))), (6, (.ap 1 3 (List.map TPair.enc y76_1))), (7, (.d (.int .i64 y76_2))), (8, (.ptr 2 0)), (71, .any), (72, .any), (73, .any), (74, .any)]) (fun z => [(0, (.cells [(.d (.sl (List.map byteD a0))), (.d (.int .i64 r155.2.1)), (.d (.int .i64 r155.2.2))])), (1, (.tok ((List.map TPair.enc y76_1).length * 3))), (2, (.cells [(.d (.str r94.1)), (.ap 3 1 (List.map byteD r155.1)), (.d (.bool (decide ((((rd r103.1 (0 : Int)).toNat : Nat) : Int) = (1 : Int)))))])), (3, (.tok ((List.map byteD r155.1).length * 1)))]) (fun z => f79_j199 (f79_l76 r16 a0 k) k y76_1 r94 r155 r103 y76_2 = some o76) rfl_le ?_ ?_
                  · refine AWc.seq ?_
                    refine AWc.rg hmix rfl rfl ?_
                    refine RegV.p0 (v := (.ptr 3 2)) rfl rfl rfl ?_
                    refine RegV.ld (v := (.d (.bool (decide ((((rd r103.1 (0 : Int)).toNat : Nat) : Int) = (1 : Int)))))) (H' := [(3, (.cells [(.d (.str r94.1)), (.ap 5 1 (List.map byteD r155.1)), (.d (.bool (decide ((((rd r103.1 (0 : Int)).toNat : Nat) : Int) = (1 : Int)))))])), (0, (.cells [(.d (.sl (List.map byteD a0))), (.d (.int .i64 r155.2.1)), (.d (.int .i64 r155.2.2))])), (5, (.tok ((List.map byteD r155.1).length * 1))), (4, (.tok ((List.map byteD r103.1).length * 1))), (2, (.tok ((List.map byteD r94.1).length * 1))), (1, (.tok ((List.map TPair.enc y76_1).length * 3)))]) rfl rfl trivial rfl rfl rfl rfl rfl ?_
                    refine RegV.p0 rfl rfl rfl ?_
                    refine RegV.split (fun c185 => ?_) (fun c185 => ?_)
                    · have h76 := cond_pos c185 h76
                      refine RegV.p0 (v := (.ptr 3 1)) rfl rfl rfl ?_
                      refine RegV.ld (v := (.ap 5 1 (List.map byteD r155.1))) (H' := [(3, (.cells [(.d (.str r94.1)), (.ap 5 1 (List.map byteD r155.1)), (.d (.bool (decide ((((rd r103.1 (0 : Int)).toNat : Nat) : Int) = (1 : Int)))))])), (0, (.cells [(.d (.sl (List.map byteD a0))), (.d (.int .i64 r155.2.1)), (.d (.int .i64 r155.2.2))])), (5, (.tok ((List.map byteD r155.1).length * 1))), (4, (.tok ((List.map byteD r103.1).length * 1))), (2, (.tok ((List.map byteD r94.1).length * 1))), (1, (.tok ((List.map TPair.enc y76_1).length * 3)))]) rfl rfl trivial rfl rfl rfl rfl rfl ?_
                      refine RegV.len (xs := r155.1) (e := byteD) rfl rfl rfl rfl ?_
                      refine RegV.p0 (v := (.d (.bool (decide (((r155.1.length : Nat) : Int) > (0 : Int)))))) rfl rfl rfl ?_
                      refine RegV.p0 rfl rfl rfl ?_
                      refine RegV.nil0 ?_
                      refine AWc.cond rfl (fun c191 => ?_) (fun c191 => ?_)
                      · have h76 := cond_pos c191 h76
                        refine AWc.seq ?_
                        refine AWc.rg hmix rfl rfl ?_
                        refine RegV.p0 rfl rfl rfl ?_
                        refine RegV.p0 rfl rfl rfl ?_
                        refine RegV.nil0 ?_
                        cases h76
                        dsimp only at h
                        have hr := Option.some.inj h
                        subst hr
                        exact AWc.ret (canQ (N := 84) (k := 1) (l' := [(2, (.ap 0 3 (List.map TPair.enc ([] : List TPair)))), (3, (.d (.int .i64 (4 : Int))))]) (H' := [(0, (.tok ((List.map TPair.enc ([] : List TPair)).length * 3)))]) rfl ⟨rfl, [.tok 0], [(0, 6)], rfl, rfl, ⟨⟨_, rfl, .nil⟩, rfl, ⟨⟨_, rfl, (.refl _)⟩, rfl, trivial⟩⟩, ⟨⟨_, rfl, (.refl _)⟩, rfl, rfl, trivial⟩⟩ (doneA (.inr rfl) rfl ⟨trivial, ⟨trivial, trivial⟩⟩ (.refl _) (hasCons rfl hasNil)))
                      · have h76 := cond_neg c191 h76
                        refine AWc.skip ?_
                        exact ⟨(), h76, ⟨rfl, [], [(2, 3), (3, 5)], rfl, rfl, ⟨⟨_, rfl, (.refl _)⟩, rfl, ⟨⟨_, rfl, (.refl _)⟩, rfl, ⟨⟨_, rfl, (.refl _)⟩, rfl, ⟨⟨_, rfl, (.refl _)⟩, rfl, ⟨⟨_, rfl, (.refl _)⟩, rfl, ⟨⟨_, rfl, (.any _)⟩, rfl, ⟨⟨_, rfl, (.any _)⟩, rfl, ⟨⟨_, rfl, (.any _)⟩, rfl, ⟨⟨_, rfl, (.any _)⟩, rfl, trivial⟩⟩⟩⟩⟩⟩⟩⟩⟩, ⟨⟨_, rfl, (.refl _)⟩, rfl, rfl, ⟨⟨_, rfl, (.refl _)⟩, rfl, rfl, ⟨⟨_, rfl, (.refl _)⟩, rfl, rfl, ⟨⟨_, rfl, (.refl _)⟩, rfl, rfl, trivial⟩⟩⟩⟩⟩⟩
                    · have h76 := cond_neg c185 h76
                      refine RegV.noS rfl rfl ?_
                      refine RegV.noS rfl rfl ?_
                      refine RegV.noS rfl rfl ?_
                      refine RegV.noS rfl rfl ?_
                      refine RegV.p0 rfl rfl rfl ?_
                      refine RegV.nil0 ?_
                      refine AWc.cond rfl (fun hc => by cases hc) (fun _ => ?_)
                      refine AWc.skip ?_
                      exact ⟨(), h76, ⟨rfl, [], [(2, 3), (3, 5)], rfl, rfl, ⟨⟨_, rfl, (.refl _)⟩, rfl, ⟨⟨_, rfl, (.refl _)⟩, rfl, ⟨⟨_, rfl, (.refl _)⟩, rfl, ⟨⟨_, rfl, (.refl _)⟩, rfl, ⟨⟨_, rfl, (.refl _)⟩, rfl, ⟨⟨_, rfl, (.any _)⟩, rfl, ⟨⟨_, rfl, (.any _)⟩, rfl, ⟨⟨_, rfl, (.any _)⟩, rfl, ⟨⟨_, rfl, (.any _)⟩, rfl, trivial⟩⟩⟩⟩⟩⟩⟩⟩⟩, ⟨⟨_, rfl, (.refl _)⟩, rfl, rfl, ⟨⟨_, rfl, (.refl _)⟩, rfl, rfl, ⟨⟨_, rfl, (.refl _)⟩, rfl, rfl, ⟨⟨_, rfl, (.refl _)⟩, rfl, rfl, trivial⟩⟩⟩⟩⟩⟩
                  · rintro ⟨⟩ h76
                    unfold f79_j199 at h76
                    refine AWc.rg hmix rfl rfl ?_
                    refine RegV.p0 rfl rfl rfl ?_
                    refine RegV.ld (v := (.d (.agg [(.str r94.1), (.sl (List.map byteD r155.1)), (.bool (decide ((((rd r103.1 (0 : Int)).toNat : Nat) : Int) = (1 : Int))))]))) (H' := [(2, (.cells [(.d (.str r94.1)), (.ap 3 1 (List.map byteD r155.1)), (.d (.bool (decide ((((rd r103.1 (0 : Int)).toNat : Nat) : Int) = (1 : Int)))))])), (0, (.cells [(.d (.sl (List.map byteD a0))), (.d (.int .i64 r155.2.1)), (.d (.int .i64 r155.2.2))])), (1, (.tok ((List.map TPair.enc y76_1).length * 3))), (3, (.tok ((List.map byteD r155.1).length * 1)))]) rfl rfl (Nat.le_of_ble_eq_true rfl) rfl rfl rfl rfl rfl ?_
                    refine RegV.p1 (v := (.d (.sl (List.map TPair.enc ([(TPair.mk r94.1 r155.1 (decide ((((rd r103.1 (0 : Int)).toNat : Nat) : Int) = (1 : Int))))] : List TPair))))) rfl rfl (by exact ⟨rfl, Nat.le_of_ble_eq_true rfl, mapLen (e := TPair.enc) (xs := ([(TPair.mk r94.1 r155.1 (decide ((((rd r103.1 (0 : Int)).toNat : Nat) : Int) = (1 : Int))))] : List TPair)) (z := 3) (fun _ => rfl)⟩) rfl rfl ?_
                    obtain ⟨b204, h76⟩ := gd_some h76
                    refine RegV.appA (xs := y76_1) (ys := ([(TPair.mk r94.1 r155.1 (decide ((((rd r103.1 (0 : Int)).toNat : Nat) : Int) = (1 : Int))))] : List TPair)) (e := TPair.enc) (H1 := [(2, (.cells [(.d (.str r94.1)), (.ap 3 1 (List.map byteD r155.1)), (.d (.bool (decide ((((rd r103.1 (0 : Int)).toNat : Nat) : Int) = (1 : Int)))))])), (0, (.cells [(.d (.sl (List.map byteD a0))), (.d (.int .i64 r155.2.1)), (.d (.int .i64 r155.2.2))])), (3, (.tok ((List.map byteD r155.1).length * 1)))]) rfl rfl rfl rfl (fun _ => rfl) rfl rfl b204 rfl rfl rfl ?_
                    refine RegV.p0 rfl rfl rfl ?_
                    refine RegV.nil0 ?_
                    refine AWc.rg hmix rfl rfl ?_
                    refine RegV.p0 rfl rfl rfl ?_
                    refine RegV.p0 (v := (.d (.int .i64 (IntKind.i64.wrap (y76_2 + (1 : Int)))))) rfl rfl rfl ?_
                    refine RegV.p0 rfl rfl rfl ?_
                    refine RegV.nil0 ?_
                    exact ⟨((y76_1 ++ ([(TPair.mk r94.1 r155.1 (decide ((((rd r103.1 (0 : Int)).toNat : Nat) : Int) = (1 : Int))))] : List TPair)), (IntKind.i64.wrap (y76_2 + (1 : Int))), r155.2.1, r155.2.2), h76, ⟨rfl, [], [(1, 4)], rfl, rfl, ⟨⟨_, rfl, (.refl _)⟩, rfl, ⟨⟨_, rfl, (.refl _)⟩, rfl, ⟨⟨_, rfl, (.refl _)⟩, rfl, ⟨⟨_, rfl, (.refl _)⟩, rfl, trivial⟩⟩⟩⟩, ⟨⟨_, rfl, (.refl _)⟩, rfl, rfl, ⟨⟨_, rfl, (.refl _)⟩, rfl, rfl, trivial⟩⟩⟩⟩
          · have h76 := cond_neg c85 h76
            cases h76
            dsimp only at h
            refine AWc.exit ?_
            refine inBlk_eq ?_
            exact ⟨(y76_1, y76_3, y76_4), h, ⟨rfl, [], [], rfl, rfl, ⟨⟨_, rfl, (.refl _)⟩, rfl, ⟨⟨_, rfl, (.refl _)⟩, rfl, trivial⟩⟩, ⟨⟨_, rfl, (.refl _)⟩, rfl, rfl, ⟨⟨_, rfl, (.refl _)⟩, rfl, rfl, trivial⟩⟩⟩⟩
        · rintro ⟨j211_1, j211_2, j211_3⟩ h
          dsimp only at h ⊢
          unfold f79_j211 at h
          refine AWc.seq ?_
          refine AWc.seq ?_
          refine AWc.rg hmix rfl rfl ?_
          refine RegV.p0 rfl rfl rfl ?_
          obtain ⟨r216, e216, h⟩ := bind_some h
          refine RegV.callS (q := true) (H' := [(0, (.cells [(.d (.sl (List.map byteD a0))), (.d (.int .i64 j211_2)), (.d (.int .i64 j211_3))])), (1, (.tok ((List.map TPair.enc j211_1).length * 3)))]) (c' := 2) (show ACalls P (N 50) [(.ptr 0 0)] [(0, (.cells [(.d (.sl (List.map byteD a0))), (.d (.int .i64 j211_2)), (.d (.int .i64 j211_3))]))] (.d (.int .i64 (IntKind.i64.wrap (((a0.length : Nat) : Int) - j211_2)))) [(0, (.cells [(.d (.sl (List.map byteD a0))), (.d (.int .i64 j211_2)), (.d (.int .i64 j211_3))]))] from ACalls.use (F50 hmix hc.2.2.2.2.2 e216) [(0, 0)] 1 rfl) rfl rfl rfl rfl (.cons (.refl _) .nil) (.refl _) (fun _ => rfl) rfl (hasCons rfl hasNil) rfl rfl rfl rfl ?_
          refine RegV.p0 (v := (.d (.bool (decide ((IntKind.i64.wrap (((a0.length : Nat) : Int) - j211_2)) > (0 : Int)))))) rfl rfl rfl ?_
          refine RegV.nil0 ?_
          refine AWc.cond rfl (fun c218 => ?_) (fun c218 => ?_)
          · have h := cond_pos c218 h
            refine AWc.seq ?_
            refine AWc.rg hmix rfl rfl ?_
            refine RegV.p0 rfl rfl rfl ?_
            refine RegV.p0 rfl rfl rfl ?_
            refine RegV.nil0 ?_
            have hr := Option.some.inj h
            subst hr
            exact AWc.ret (canQ (N := 84) (k := 1) (l' := [(2, (.ap 0 3 (List.map TPair.enc ([] : List TPair)))), (3, (.d (.int .i64 (4 : Int))))]) (H' := [(0, (.tok ((List.map TPair.enc ([] : List TPair)).length * 3)))]) rfl ⟨rfl, [.tok 0], [(0, 2)], rfl, rfl, ⟨⟨_, rfl, .nil⟩, rfl, ⟨⟨_, rfl, (.refl _)⟩, rfl, trivial⟩⟩, ⟨⟨_, rfl, (.refl _)⟩, rfl, rfl, trivial⟩⟩ (doneA (.inr rfl) rfl ⟨trivial, ⟨trivial, trivial⟩⟩ (.refl _) (hasCons rfl hasNil)))
          · have h := cond_neg c218 h
            refine AWc.skip ?_
            refine AWc.seq ?_
            refine AWc.rg hmix rfl rfl ?_
            refine RegV.p0 rfl rfl rfl ?_
            refine RegV.p0 rfl rfl rfl ?_
            refine RegV.p0 rfl rfl rfl ?_
            refine RegV.nil0 ?_
            have hr := Option.some.inj h
            subst hr
            exact AWc.ret (canQ (N := 84) (k := 1) (l' := [(2, (.ap 0 3 (List.map TPair.enc j211_1))), (3, (.d (.int .i64 (0 : Int))))]) (H' := [(0, (.tok ((List.map TPair.enc j211_1).length * 3)))]) rfl ⟨rfl, [], [(0, 1)], rfl, rfl, ⟨⟨_, rfl, (.refl _)⟩, rfl, ⟨⟨_, rfl, (.refl _)⟩, rfl, trivial⟩⟩, ⟨⟨_, rfl, (.refl _)⟩, rfl, rfl, trivial⟩⟩ (doneA (.inr rfl) rfl ⟨trivial, ⟨trivial, trivial⟩⟩ (.refl _) (hasCons rfl hasNil)))
/-- courant/code.fold -/
def C82 (N : Nat → Nat) : AFunc := { n := 10, params := 1, res := [.tmp 2], body :=
 (.seq (.region false [⟨(some 2), .mv (.k (.d (.int .u64 0))), none, []⟩])
  (.seq (.region false [⟨(some 3), .mv (.t 0), none, []⟩,
    ⟨(some 4), .cvi .u64 (.t 3), none, [0]⟩,
    ⟨(some 5), .bin .shl (.t 4) (.k (.d (.int .u64 1))), none, [1]⟩,
    ⟨(some 6), .mv (.t 0), none, []⟩,
    ⟨(some 7), .bin .shr (.t 6) (.k (.d (.int .u64 63))), none, [3]⟩,
    ⟨(some 8), .cvi .u64 (.t 7), none, [4]⟩,
    ⟨(some 9), .bin .xor (.t 5) (.t 8), none, [2, 5]⟩,
    ⟨(some 2), .mv (.t 9), none, [6, 0, 1, 2, 3, 4, 5]⟩])
   .ret)) }
def HC82 (P : Program) (N : Nat → Nat) : Prop := HasF P (N 82) (C82 N)
def f82 (k : Nat) (a0 : Int) : Option Unit := some ()
theorem F82 {P : Program} {N : Nat → Nat} (hmix : P.follows .mixedOrders = true) (hc : HC82 P N) {k : Nat} {a0 : Int} {r : Unit} (h : f82 k a0 = some r) :
    ACalls P (N 82) [(.d (.int .i64 a0))] [] (.d (.int .u64 (bitsA .xor .u64 (IntKind.u64.wrap ((IntKind.u64.wrap a0) * 2 ^ (min ((1 : Int)).toNat IntKind.u64.bits))) (IntKind.u64.wrap (Int.fdiv a0 (2 ^ (min ((63 : Int)).toNat IntKind.i64.bits))))))) [] := by
  refine acalls_canon (F := C82 N) hc 0 0 rfl ?_
  unfold f82 at h
  dsimp only [C82, startL]
  refine AWc.seq ?_
  refine AWc.rg hmix rfl rfl ?_
  refine RegV.p0 rfl rfl rfl ?_
  refine RegV.nil0 ?_
  refine AWc.seq ?_
  refine AWc.rg hmix rfl rfl ?_
  refine RegV.p0 rfl rfl rfl ?_
  refine RegV.p0 (v := (.d (.int .u64 (IntKind.u64.wrap a0)))) rfl rfl rfl ?_
  refine RegV.p1 (v := (.d (.int .u64 (IntKind.u64.wrap ((IntKind.u64.wrap a0) * 2 ^ (min ((1 : Int)).toNat IntKind.u64.bits)))))) rfl rfl (by decide) rfl rfl ?_
  refine RegV.p0 rfl rfl rfl ?_
  refine RegV.p1 (v := (.d (.int .i64 (Int.fdiv a0 (2 ^ (min ((63 : Int)).toNat IntKind.i64.bits)))))) rfl rfl (by decide) rfl rfl ?_
  refine RegV.p0 (v := (.d (.int .u64 (IntKind.u64.wrap (Int.fdiv a0 (2 ^ (min ((63 : Int)).toNat IntKind.i64.bits))))))) rfl rfl rfl ?_
  refine RegV.p0 (v := (.d (.int .u64 (bitsA .xor .u64 (IntKind.u64.wrap ((IntKind.u64.wrap a0) * 2 ^ (min ((1 : Int)).toNat IntKind.u64.bits))) (IntKind.u64.wrap (Int.fdiv a0 (2 ^ (min ((63 : Int)).toNat IntKind.i64.bits)))))))) rfl rfl rfl ?_
  refine RegV.p0 rfl rfl rfl ?_
  refine RegV.nil0 ?_
  have hr := Option.some.inj h
  subst hr
  exact AWc.ret (canQ (N := 10) (k := 0) (l' := [(2, (.d (.int .u64 (bitsA .xor .u64 (IntKind.u64.wrap ((IntKind.u64.wrap a0) * 2 ^ (min ((1 : Int)).toNat IntKind.u64.bits))) (IntKind.u64.wrap (Int.fdiv a0 (2 ^ (min ((63 : Int)).toNat IntKind.i64.bits))))))))]) (H' := []) rfl ⟨rfl, [], [], rfl, rfl, ⟨⟨_, rfl, (.refl _)⟩, rfl, trivial⟩,  trivial⟩ (doneA (.inr rfl) rfl ⟨trivial, trivial⟩ (.refl _) hasNil))
/-- courant/code.Num -/
def C23 (N : Nat → Nat) : AFunc := { n := 19, params := 1, res := [.tmp 2], body :=
 (.seq (.region false [⟨(some 2), .mv (.k .nils), none, []⟩])
  (.seq (.region false [⟨(some 3), .mv (.k .nils), none, []⟩])
   (.seq (.block 0 (.loop (.seq (.seq (.region false [⟨(some 4), .mv (.t 0), none, []⟩,
         ⟨(some 5), .bin .geq (.t 4) (.k (.d (.int .u64 128))), none, [0]⟩])
        (.cond (.t 5) (.skip)
         (.exit 0)))
       (.seq (.block 1 (.region false [⟨(some 8), .mv (.t 3), none, []⟩,
          ⟨(some 9), .mv (.t 0), none, []⟩,
          ⟨(some 10), .cvi .u8 (.t 9), none, [1]⟩,
          ⟨(some 11), .bin .or (.t 10) (.k (.d (.int .u8 128))), none, [2]⟩,
          ⟨(some 12), .bslice 1 1 [(.int .u8 0)] [(0, (.t 11))], none, [3]⟩,
          ⟨(some 13), .app (.t 8) (.t 12) 1 1 [(.int .u8 0)], none, [0, 4]⟩,
          ⟨(some 3), .mv (.t 13), none, [5, 0, 1, 2, 3, 4]⟩]))
        (.region false [⟨(some 6), .mv (.t 0), none, []⟩,
         ⟨(some 7), .bin .shr (.t 6) (.k (.d (.int .u64 7))), none, [0]⟩,
         ⟨(some 0), .mv (.t 7), none, [1, 0]⟩])))))
    (.seq (.region false [⟨(some 14), .mv (.t 3), none, []⟩,
      ⟨(some 15), .mv (.t 0), none, []⟩,
      ⟨(some 16), .cvi .u8 (.t 15), none, [1]⟩,
      ⟨(some 17), .bslice 1 1 [(.int .u8 0)] [(0, (.t 16))], none, [2]⟩,
      ⟨(some 18), .app (.t 14) (.t 17) 1 1 [(.int .u8 0)], none, [0, 3]⟩,
      ⟨(some 2), .mv (.t 18), none, [4, 0, 1, 2, 3]⟩])
     .ret)))) }
def HC23 (P : Program) (N : Nat → Nat) : Prop := HasF P (N 23) (C23 N)
def f23_l10 : Nat → Int → (List UInt8) → Option (LR2 (Int × (List UInt8)) Unit (List UInt8))
  | 0, _, _ => none
  | k + 1, y10_1, y10_2 => cond (decide (y10_1 ≥ (128 : Int))) (gd ((y10_2.length + ([(u8 (bitsA .or .u8 (IntKind.u8.wrap y10_1) (128 : Int)))] : List UInt8).length) * 2 * 1 ≤ 281474976710656) (f23_l10 k (Int.fdiv y10_1 (2 ^ (min ((7 : Int)).toNat IntKind.u64.bits))) (y10_2 ++ ([(u8 (bitsA .or .u8 (IntKind.u8.wrap y10_1) (128 : Int)))] : List UInt8)))) (some (.b0 (y10_1, y10_2)))
def f23 (k : Nat) (a0 : Int) : Option (List UInt8) := (f23_l10 k a0 ([] : List UInt8)).bind fun o10 => (match o10 with | .b0 (x10_1, x10_2) => gd ((x10_2.length + ([(u8 (IntKind.u8.wrap x10_1))] : List UInt8).length) * 2 * 1 ≤ 281474976710656) (some (x10_2 ++ ([(u8 (IntKind.u8.wrap x10_1))] : List UInt8))) | _ => none)
theorem F23 {P : Program} {N : Nat → Nat} (hmix : P.follows .mixedOrders = true) (hc : HC23 P N) {k : Nat} {a0 : Int} {r : (List UInt8)} (h : f23 k a0 = some r) :
    ACalls P (N 23) [(.d (.int .u64 a0))] [] (.ap 0 1 (List.map byteD r)) [(0, (.tok ((List.map byteD r).length * 1)))] := by
  refine acalls_canon (F := C23 N) hc 0 1 rfl ?_
  unfold f23 at h
  dsimp only [C23, startL]
  refine AWc.seq ?_
  refine AWc.rg hmix rfl rfl ?_
  refine RegV.p0 rfl rfl rfl ?_
  refine RegV.nil0 ?_
  refine AWc.seq ?_
  refine AWc.rg hmix rfl rfl ?_
  refine RegV.p0 rfl rfl rfl ?_
  refine RegV.nil0 ?_
  obtain ⟨o10, h10, h⟩ := bind_some h
  refine AWc.seqS (N := 19) 1 (fun (z : (Int × (List UInt8))) => [(0, (.d (.int .u64 z.1))), (3, (.ap 0 1 (List.map byteD z.2)))]) (fun z => [(0, (.tok ((List.map byteD z.2).length * 1)))]) (fun z => o10 = .b0 z) rfl_le ?_ ?_
  · refine AWc.block ?_
    refine AWc.loopK (N := 19) 1 (fun (x : (Int × (List UInt8))) => [(0, (.d (.int .u64 x.1))), (3, (.ap 0 1 (List.map byteD x.2)))]) (fun x => [(0, (.tok ((List.map byteD x.2).length * 1)))]) (fun k x => f23_l10 k x.1 x.2 = some o10) k (a0, ([] : List UInt8)) rfl_le (fun x hx => by cases hx) h10 ⟨rfl, [.tok 0], [(0, 0)], rfl, rfl, ⟨⟨_, rfl, (.refl _)⟩, rfl, ⟨⟨_, rfl, .nil⟩, rfl, trivial⟩⟩, ⟨⟨_, rfl, (.refl _)⟩, rfl, rfl, trivial⟩⟩ ?_
    clear h10
    intro k
    rintro ⟨y10_1, y10_2⟩ h10
    dsimp only at h10 ⊢
    rw [f23_l10] at h10
    refine AWc.seq ?_
    refine AWc.seq ?_
    refine AWc.rg hmix rfl rfl ?_
    refine RegV.p0 rfl rfl rfl ?_
    refine RegV.p0 (v := (.d (.bool (decide (y10_1 ≥ (128 : Int)))))) rfl rfl rfl ?_
    refine RegV.nil0 ?_
    refine AWc.cond rfl (fun c18 => ?_) (fun c18 => ?_)
    · have h10 := cond_pos c18 h10
      refine AWc.skip ?_
      refine AWc.seq ?_
      refine AWc.block ?_
      refine AWc.rg hmix rfl rfl ?_
      refine RegV.p0 rfl rfl rfl ?_
      refine RegV.p0 rfl rfl rfl ?_
      refine RegV.p0 (v := (.d (.int .u8 (IntKind.u8.wrap y10_1)))) rfl rfl rfl ?_
      refine RegV.p0 (v := (.d (.int .u8 (bitsA .or .u8 (IntKind.u8.wrap y10_1) (128 : Int))))) rfl rfl rfl ?_
      refine RegV.p1 (v := .d (.sl [(.int .u8 (bitsA .or .u8 (IntKind.u8.wrap y10_1) (128 : Int)))])) (v' := (.d (.sl (List.map byteD ([(u8 (bitsA .or .u8 (IntKind.u8.wrap y10_1) (128 : Int)))] : List UInt8))))) (s := ([(.int .u8 0)] : List D).length = 1 ∧ 1 * 1 ≤ 16777216 ∧ ∀ d ∈ ([(.int .u8 (bitsA .or .u8 (IntKind.u8.wrap y10_1) (128 : Int)))] : List D), d.cells.length = 1) rfl rfl ⟨rfl, Nat.le_of_ble_eq_true rfl, by simp [D.cells]⟩ rfl (by simp only [List.map_cons, List.map_nil, byteD, ← u8_eq (u8_wrap _), ← u8_eq (u8_bits _ _ _)]) ?_
      obtain ⟨b30, h10⟩ := gd_some h10
      refine RegV.appA (xs := y10_2) (ys := ([(u8 (bitsA .or .u8 (IntKind.u8.wrap y10_1) (128 : Int)))] : List UInt8)) (e := byteD) (H1 := []) rfl rfl rfl rfl (fun _ => rfl) rfl rfl b30 rfl rfl rfl ?_
      refine RegV.p0 rfl rfl rfl ?_
      refine RegV.nil0 ?_
      refine AWc.rg hmix rfl rfl ?_
      refine RegV.p0 rfl rfl rfl ?_
      refine RegV.p1 (v := (.d (.int .u64 (Int.fdiv y10_1 (2 ^ (min ((7 : Int)).toNat IntKind.u64.bits)))))) rfl rfl (by decide) rfl rfl ?_
      refine RegV.p0 rfl rfl rfl ?_
      refine RegV.nil0 ?_
      exact ⟨((Int.fdiv y10_1 (2 ^ (min ((7 : Int)).toNat IntKind.u64.bits))), (y10_2 ++ ([(u8 (bitsA .or .u8 (IntKind.u8.wrap y10_1) (128 : Int)))] : List UInt8))), h10, ⟨rfl, [], [(0, 1)], rfl, rfl, ⟨⟨_, rfl, (.refl _)⟩, rfl, ⟨⟨_, rfl, (.refl _)⟩, rfl, trivial⟩⟩, ⟨⟨_, rfl, (.refl _)⟩, rfl, rfl, trivial⟩⟩⟩
    · have h10 := cond_neg c18 h10
      cases h10
      dsimp only at h
      refine AWc.exit ?_
      refine inBlk_eq ?_
      exact ⟨(y10_1, y10_2), rfl, ⟨rfl, [], [], rfl, rfl, ⟨⟨_, rfl, (.refl _)⟩, rfl, ⟨⟨_, rfl, (.refl _)⟩, rfl, trivial⟩⟩, ⟨⟨_, rfl, (.refl _)⟩, rfl, rfl, trivial⟩⟩⟩
  · rintro ⟨x10_1, x10_2⟩ ho
    subst ho
    dsimp only at h ⊢
    refine AWc.seq ?_
    refine AWc.rg hmix rfl rfl ?_
    refine RegV.p0 rfl rfl rfl ?_
    refine RegV.p0 rfl rfl rfl ?_
    refine RegV.p0 (v := (.d (.int .u8 (IntKind.u8.wrap x10_1)))) rfl rfl rfl ?_
    refine RegV.p1 (v := .d (.sl [(.int .u8 (IntKind.u8.wrap x10_1))])) (v' := (.d (.sl (List.map byteD ([(u8 (IntKind.u8.wrap x10_1))] : List UInt8))))) (s := ([(.int .u8 0)] : List D).length = 1 ∧ 1 * 1 ≤ 16777216 ∧ ∀ d ∈ ([(.int .u8 (IntKind.u8.wrap x10_1))] : List D), d.cells.length = 1) rfl rfl ⟨rfl, Nat.le_of_ble_eq_true rfl, by simp [D.cells]⟩ rfl (by simp only [List.map_cons, List.map_nil, byteD, ← u8_eq (u8_wrap _), ← u8_eq (u8_bits _ _ _)]) ?_
    obtain ⟨b44, h⟩ := gd_some h
    refine RegV.appA (xs := x10_2) (ys := ([(u8 (IntKind.u8.wrap x10_1))] : List UInt8)) (e := byteD) (H1 := []) rfl rfl rfl rfl (fun _ => rfl) rfl rfl b44 rfl rfl rfl ?_
    refine RegV.p0 rfl rfl rfl ?_
    refine RegV.nil0 ?_
    have hr := Option.some.inj h
    subst hr
    exact AWc.ret (canQ (N := 19) (k := 1) (l' := [(2, (.ap 0 1 (List.map byteD (x10_2 ++ ([(u8 (IntKind.u8.wrap x10_1))] : List UInt8)))))]) (H' := [(0, (.tok ((List.map byteD (x10_2 ++ ([(u8 (IntKind.u8.wrap x10_1))] : List UInt8))).length * 1)))]) rfl ⟨rfl, [], [(0, 1)], rfl, rfl, ⟨⟨_, rfl, (.refl _)⟩, rfl, trivial⟩, ⟨⟨_, rfl, (.refl _)⟩, rfl, rfl, trivial⟩⟩ (doneA (.inr rfl) rfl ⟨trivial, trivial⟩ (.refl _) (hasCons rfl hasNil)))
/-- courant/code.Zig -/
def C25 (N : Nat → Nat) : AFunc := { n := 6, params := 1, res := [.tmp 2], body :=
 (.seq (.region false [⟨(some 2), .mv (.k .nils), none, []⟩])
  (.seq (.region false [⟨(some 3), .mv (.t 0), none, []⟩,
    ⟨(some 4), .call (.k (.d (.fn (N 82)))) [(.t 3)], none, [0]⟩,
    ⟨(some 5), .call (.k (.d (.fn (N 23)))) [(.t 4)], none, [1]⟩,
    ⟨(some 2), .mv (.t 5), none, [2, 0, 1]⟩])
   .ret)) }
def HC25 (P : Program) (N : Nat → Nat) : Prop := HasF P (N 25) (C25 N) ∧ HC82 P N ∧ HC23 P N
def f25 (k : Nat) (a0 : Int) : Option (List UInt8) := (f82 k a0).bind fun r9 => (f23 k (bitsA .xor .u64 (IntKind.u64.wrap ((IntKind.u64.wrap a0) * 2 ^ (min ((1 : Int)).toNat IntKind.u64.bits))) (IntKind.u64.wrap (Int.fdiv a0 (2 ^ (min ((63 : Int)).toNat IntKind.i64.bits)))))).bind fun r10 => some r10
theorem F25 {P : Program} {N : Nat → Nat} (hmix : P.follows .mixedOrders = true) (hc : HC25 P N) {k : Nat} {a0 : Int} {r : (List UInt8)} (h : f25 k a0 = some r) :
    ACalls P (N 25) [(.d (.int .i64 a0))] [] (.ap 0 1 (List.map byteD r)) [(0, (.tok ((List.map byteD r).length * 1)))] := by
  refine acalls_canon (F := C25 N) hc.1 0 1 rfl ?_
  unfold f25 at h
  dsimp only [C25, startL]
  refine AWc.seq ?_
  refine AWc.rg hmix rfl rfl ?_
  refine RegV.p0 rfl rfl rfl ?_
  refine RegV.nil0 ?_
  refine AWc.seq ?_
  refine AWc.rg hmix rfl rfl ?_
  refine RegV.p0 rfl rfl rfl ?_
  obtain ⟨r9, e9, h⟩ := bind_some h
  refine RegV.call0 (F82 hmix hc.2.1 e9) rfl rfl rfl rfl (.cons (.refl _) .nil) rfl ?_
  obtain ⟨r10, e10, h⟩ := bind_some h
  refine RegV.callS (q := false) (H' := [(0, (.tok ((List.map byteD r10).length * 1)))]) (c' := 1) (show ACalls P (N 23) [(.d (.int .u64 (bitsA .xor .u64 (IntKind.u64.wrap ((IntKind.u64.wrap a0) * 2 ^ (min ((1 : Int)).toNat IntKind.u64.bits))) (IntKind.u64.wrap (Int.fdiv a0 (2 ^ (min ((63 : Int)).toNat IntKind.i64.bits)))))))] [] (.ap 0 1 (List.map byteD r10)) [(0, (.tok ((List.map byteD r10).length * 1)))] from ACalls.use (F23 hmix hc.2.2 e10) [(0, 0)] 1 rfl) rfl rfl rfl rfl (.cons (.refl _) .nil) (.refl _) (fun h => by cases h) rfl hasNil rfl rfl rfl rfl ?_
  refine RegV.p0 rfl rfl rfl ?_
  refine RegV.nil0 ?_
  have hr := Option.some.inj h
  subst hr
  exact AWc.ret (canQ (N := 6) (k := 1) (l' := [(2, (.ap 0 1 (List.map byteD r10)))]) (H' := [(0, (.tok ((List.map byteD r10).length * 1)))]) rfl ⟨rfl, [], [], rfl, rfl, ⟨⟨_, rfl, (.refl _)⟩, rfl, trivial⟩, ⟨⟨_, rfl, (.refl _)⟩, rfl, rfl, trivial⟩⟩ (doneA (.inr rfl) rfl ⟨trivial, trivial⟩ (.refl _) (hasCons rfl hasNil)))
/-- courant/code.Text -/
def C27 (N : Nat → Nat) : AFunc := { n := 8, params := 1, res := [.tmp 2], body :=
 (.seq (.region false [⟨(some 2), .mv (.k .nils), none, []⟩])
  (.seq (.region false [⟨(some 3), .mv (.t 0), none, []⟩,
    ⟨(some 4), .len (.t 3), none, [0]⟩,
    ⟨(some 5), .call (.k (.d (.fn (N 25)))) [(.t 4)], none, [1]⟩,
    ⟨(some 6), .mv (.t 0), none, []⟩,
    ⟨(some 7), .app (.t 5) (.t 6) 1 1 [(.int .u8 0)], none, [2, 3]⟩,
    ⟨(some 2), .mv (.t 7), none, [4, 0, 1, 2, 3]⟩])
   .ret)) }
def HC27 (P : Program) (N : Nat → Nat) : Prop := HasF P (N 27) (C27 N) ∧ HC25 P N
def f27 (k : Nat) (a0 : (List UInt8)) : Option (List UInt8) := (f25 k ((a0.length : Nat) : Int)).bind fun r10 => gd ((r10.length + a0.length) * 2 * 1 ≤ 281474976710656) (some (r10 ++ a0))
theorem F27 {P : Program} {N : Nat → Nat} (hmix : P.follows .mixedOrders = true) (hc : HC27 P N) {k : Nat} {a0 : (List UInt8)} {r : (List UInt8)} (h : f27 k a0 = some r) :
    ACalls P (N 27) [(.d (.sl (List.map byteD a0)))] [] (.ap 0 1 (List.map byteD r)) [(0, (.tok ((List.map byteD r).length * 1)))] := by
  refine acalls_canon (F := C27 N) hc.1 0 1 rfl ?_
  unfold f27 at h
  dsimp only [C27, startL]
  refine AWc.seq ?_
  refine AWc.rg hmix rfl rfl ?_
  refine RegV.p0 rfl rfl rfl ?_
  refine RegV.nil0 ?_
  refine AWc.seq ?_
  refine AWc.rg hmix rfl rfl ?_
  refine RegV.p0 rfl rfl rfl ?_
  refine RegV.len (xs := a0) (e := byteD) rfl rfl rfl rfl ?_
  obtain ⟨r10, e10, h⟩ := bind_some h
  refine RegV.callS (q := false) (H' := [(0, (.tok ((List.map byteD r10).length * 1)))]) (c' := 1) (show ACalls P (N 25) [(.d (.int .i64 ((a0.length : Nat) : Int)))] [] (.ap 0 1 (List.map byteD r10)) [(0, (.tok ((List.map byteD r10).length * 1)))] from ACalls.use (F25 hmix hc.2 e10) [(0, 0)] 1 rfl) rfl rfl rfl rfl (.cons (.refl _) .nil) (.refl _) (fun h => by cases h) rfl hasNil rfl rfl rfl rfl ?_
  refine RegV.p0 rfl rfl rfl ?_
  obtain ⟨b12, h⟩ := gd_some h
  refine RegV.appA (xs := r10) (ys := a0) (e := byteD) (H1 := []) rfl rfl rfl rfl (fun _ => rfl) rfl rfl b12 rfl rfl rfl ?_
  refine RegV.p0 rfl rfl rfl ?_
  refine RegV.nil0 ?_
  have hr := Option.some.inj h
  subst hr
  exact AWc.ret (canQ (N := 8) (k := 1) (l' := [(2, (.ap 0 1 (List.map byteD (r10 ++ a0))))]) (H' := [(0, (.tok ((List.map byteD (r10 ++ a0)).length * 1)))]) rfl ⟨rfl, [], [(0, 1)], rfl, rfl, ⟨⟨_, rfl, (.refl _)⟩, rfl, trivial⟩, ⟨⟨_, rfl, (.refl _)⟩, rfl, rfl, trivial⟩⟩ (doneA (.inr rfl) rfl ⟨trivial, trivial⟩ (.refl _) (hasCons rfl hasNil)))
/-- courant/keyed.Bytes -/
def C80 (N : Nat → Nat) : AFunc := { n := 39, params := 1, res := [.tmp 2], body :=
 (.seq (.region false [⟨(some 2), .mv (.k .nils), none, []⟩])
  (.seq (.region false [⟨(some 6), .mv (.t 0), none, []⟩,
    ⟨(some 7), .len (.t 6), none, [0]⟩,
    ⟨(some 8), .call (.k (.d (.fn (N 25)))) [(.t 7)], none, [1]⟩,
    ⟨(some 3), .mv (.t 8), none, [2, 0, 1]⟩])
   (.seq (.seq (.region false [⟨(some 9), .mv (.t 0), none, []⟩,
      ⟨(some 10), .len (.t 9), none, [0]⟩,
      ⟨(some 11), .mv (.k (.d (.int .i64 0))), none, []⟩])
     (.block 0 (.loop (.seq (.region false [⟨(some 12), .bin .lss (.t 11) (.t 10), none, []⟩])
        (.seq (.cond (.t 12) (.skip)
          (.exit 0))
         (.seq (.block 1 (.seq (.region false [⟨(some 13), .iaddr (.t 9) (.t 11) 3, none, []⟩,
             ⟨(some 14), .load (.t 13) 3 true, none, [0]⟩,
             ⟨(some 5), .alloc [(.str []), (.sl []), (.bool false)], none, []⟩,
             ⟨none, .store (.t 5) (.t 14) 3, none, [2, 1, 0]⟩])
            (.seq (.region false [⟨(some 15), .mv (.t 3), none, []⟩,
              ⟨(some 16), .faddr (.t 5) 0, none, []⟩,
              ⟨(some 17), .load (.t 16) 1 false, none, [1]⟩,
              ⟨(some 18), .s2bs (.t 17), none, [2]⟩,
              ⟨(some 19), .call (.k (.d (.fn (N 27)))) [(.t 18)], none, [3]⟩,
              ⟨(some 20), .app (.t 15) (.t 19) 1 1 [(.int .u8 0)], none, [0, 4]⟩,
              ⟨(some 3), .mv (.t 20), none, [5, 0, 1, 2, 3, 4]⟩])
             (.seq (.seq (.region false [⟨(some 21), .faddr (.t 5) 2, none, []⟩,
                ⟨(some 22), .load (.t 21) 1 false, none, [0]⟩])
               (.cond (.t 22) (.seq (.region false [⟨(some 23), .mv (.t 3), none, []⟩,
                  ⟨(some 24), .bslice 1 1 [(.int .u8 0)] [(0, (.k (.d (.int .u8 1))))], none, []⟩,
                  ⟨(some 25), .app (.t 23) (.t 24) 1 1 [(.int .u8 0)], none, [0, 1]⟩,
                  ⟨(some 3), .mv (.t 25), none, [2, 0, 1]⟩])
                 (.seq (.region false [⟨(some 26), .mv (.t 3), none, []⟩,
                   ⟨(some 27), .call (.k (.d (.fn (N 27)))) [(.k .nils)], none, []⟩,
                   ⟨(some 28), .app (.t 26) (.t 27) 1 1 [(.int .u8 0)], none, [0, 1]⟩,
                   ⟨(some 3), .mv (.t 28), none, [2, 0, 1]⟩])
                  (.exit 1)))
                (.skip)))
              (.seq (.region false [⟨(some 29), .mv (.t 3), none, []⟩,
                ⟨(some 30), .bslice 1 1 [(.int .u8 0)] [(0, (.k (.d (.int .u8 0))))], none, []⟩,
                ⟨(some 31), .app (.t 29) (.t 30) 1 1 [(.int .u8 0)], none, [0, 1]⟩,
                ⟨(some 3), .mv (.t 31), none, [2, 0, 1]⟩])
               (.region false [⟨(some 32), .mv (.t 3), none, []⟩,
                ⟨(some 33), .faddr (.t 5) 1, none, []⟩,
                ⟨(some 34), .load (.t 33) 1 false, none, [1]⟩,
                ⟨(some 35), .call (.k (.d (.fn (N 27)))) [(.t 34)], none, [2]⟩,
                ⟨(some 36), .app (.t 32) (.t 35) 1 1 [(.int .u8 0)], none, [0, 3]⟩,
                ⟨(some 3), .mv (.t 36), none, [4, 0, 1, 2, 3]⟩]))))))
          (.region false [⟨(some 37), .bin .add (.t 11) (.k (.d (.int .i64 1))), none, []⟩,
           ⟨(some 11), .mv (.t 37), none, [0]⟩])))))))
    (.seq (.region false [⟨(some 38), .mv (.t 3), none, []⟩,
      ⟨(some 2), .mv (.t 38), none, [0]⟩])
     .ret)))) }
def HC80 (P : Program) (N : Nat → Nat) : Prop := HasF P (N 80) (C80 N) ∧ HC25 P N ∧ HC27 P N
def f80_l19 (a0 : (List TPair)) : Nat → (List UInt8) → Int → Option (LR2 (List UInt8) Unit (List UInt8))
  | 0, _, _ => none
  | k + 1, y19_1, y19_2 => cond (decide (y19_2 < ((a0.length : Nat) : Int))) (gd (0 ≤ y19_2 ∧ y19_2 < ((a0.length : Nat) : Int)) ((f27 k ((rd a0 y19_2).fKey)).bind fun r45 => gd ((y19_1.length + r45.length) * 2 * 1 ≤ 281474976710656) (cond ((rd a0 y19_2).fGone) (gd (((y19_1 ++ r45).length + ([(1 : UInt8)] : List UInt8).length) * 2 * 1 ≤ 281474976710656) ((f27 k ([] : List UInt8)).bind fun r66 => gd ((((y19_1 ++ r45) ++ ([(1 : UInt8)] : List UInt8)).length + r66.length) * 2 * 1 ≤ 281474976710656) (f80_l19 a0 k (((y19_1 ++ r45) ++ ([(1 : UInt8)] : List UInt8)) ++ r66) (IntKind.i64.wrap (y19_2 + (1 : Int)))))) (gd (((y19_1 ++ r45).length + ([(0 : UInt8)] : List UInt8).length) * 2 * 1 ≤ 281474976710656) ((f27 k ((rd a0 y19_2).fValue)).bind fun r83 => gd ((((y19_1 ++ r45) ++ ([(0 : UInt8)] : List UInt8)).length + r83.length) * 2 * 1 ≤ 281474976710656) (f80_l19 a0 k (((y19_1 ++ r45) ++ ([(0 : UInt8)] : List UInt8)) ++ r83) (IntKind.i64.wrap (y19_2 + (1 : Int))))))))) (some (.b0 y19_1))
def f80 (k : Nat) (a0 : (List TPair)) : Option (List UInt8) := (f25 k ((a0.length : Nat) : Int)).bind fun r10 => (f80_l19 a0 k r10 (0 : Int)).bind fun o19 => (match o19 with | .b0 x19_1 => some x19_1 | _ => none)
theorem F80 {P : Program} {N : Nat → Nat} (hmix : P.follows .mixedOrders = true) (hc : HC80 P N) {k : Nat} {a0 : (List TPair)} {r : (List UInt8)} (h : f80 k a0 = some r) :
    ACalls P (N 80) [(.d (.sl (List.map TPair.enc a0)))] [] (.ap 0 1 (List.map byteD r)) [(0, (.tok ((List.map byteD r).length * 1)))] := by
  refine acalls_canon (F := C80 N) hc.1 0 1 rfl ?_
  unfold f80 at h
  dsimp only [C80, startL]
  refine AWc.seq ?_
  refine AWc.rg hmix rfl rfl ?_
  refine RegV.p0 rfl rfl rfl ?_
  refine RegV.nil0 ?_
  refine AWc.seq ?_
  refine AWc.rg hmix rfl rfl ?_
  refine RegV.p0 rfl rfl rfl ?_
  refine RegV.len (xs := a0) (e := TPair.enc) rfl rfl rfl rfl ?_
  obtain ⟨r10, e10, h⟩ := bind_some h
  refine RegV.callS (q := false) (H' := [(0, (.tok ((List.map byteD r10).length * 1)))]) (c' := 1) (show ACalls P (N 25) [(.d (.int .i64 ((a0.length : Nat) : Int)))] [] (.ap 0 1 (List.map byteD r10)) [(0, (.tok ((List.map byteD r10).length * 1)))] from ACalls.use (F25 hmix hc.2.1 e10) [(0, 0)] 1 rfl) rfl rfl rfl rfl (.cons (.refl _) .nil) (.refl _) (fun h => by cases h) rfl hasNil rfl rfl rfl rfl ?_
  refine RegV.p0 rfl rfl rfl ?_
  refine RegV.nil0 ?_
  refine AWc.seq ?_
  refine AWc.seq ?_
  refine AWc.rg hmix rfl rfl ?_
  refine RegV.p0 rfl rfl rfl ?_
  refine RegV.len (xs := a0) (e := TPair.enc) rfl rfl rfl rfl ?_
  refine RegV.p0 rfl rfl rfl ?_
  refine RegV.nil0 ?_
  obtain ⟨o19, h19, h⟩ := bind_some h
  refine AWc.block ?_
  refine AWc.loopK (N := 39) 1 (fun (x : ((List UInt8) × Int)) => [(3, (.ap 0 1 (List.map byteD x.1))), (9, (.d (.sl (List.map TPair.enc a0)))), (10, (.d (.int .i64 ((a0.length : Nat) : Int)))), (11, (.d (.int .i64 x.2)))]) (fun x => [(0, (.tok ((List.map byteD x.1).length * 1)))]) (fun k x => f80_l19 a0 k x.1 x.2 = some o19) k (r10, (0 : Int)) rfl_le (fun x hx => by cases hx) h19 ⟨rfl, [], [], rfl, rfl, ⟨⟨_, rfl, (.refl _)⟩, rfl, ⟨⟨_, rfl, (.refl _)⟩, rfl, ⟨⟨_, rfl, (.refl _)⟩, rfl, ⟨⟨_, rfl, (.refl _)⟩, rfl, trivial⟩⟩⟩⟩, ⟨⟨_, rfl, (.refl _)⟩, rfl, rfl, trivial⟩⟩ ?_
  clear h19
  intro k
  rintro ⟨y19_1, y19_2⟩ h19
  dsimp only at h19 ⊢
  rw [f80_l19] at h19
  refine AWc.seq ?_
  refine AWc.rg hmix rfl rfl ?_
  refine RegV.p0 (v := (.d (.bool (decide (y19_2 < ((a0.length : Nat) : Int)))))) rfl rfl rfl ?_
  refine RegV.nil0 ?_
  refine AWc.seq ?_
  refine AWc.cond rfl (fun c26 => ?_) (fun c26 => ?_)
  · have h19 := cond_pos c26 h19
    refine AWc.skip ?_
    refine AWc.seq ?_
    refine AWc.block ?_
    refine AWc.seq ?_
    refine AWc.rg hmix rfl rfl ?_
    obtain ⟨b34, h19⟩ := gd_some h19
    refine RegV.iad (xs := a0) (e := TPair.enc) rfl rfl rfl rfl (fun _ => rfl) b34 rfl ?_
    refine RegV.p1 (v := (.d (TPair.enc (rd a0 y19_2)))) rfl rfl rfl rfl rfl ?_
    refine RegV.evS (own := false) (v := (.ptr 1 0)) (H' := [(1, (.cells [(.d (.str ([] : List UInt8))), .nils, (.d (.bool false))])), (0, (.tok ((List.map byteD y19_1).length * 1)))]) (c' := 2) rfl rfl trivial rfl rfl rfl rfl rfl rfl ?_
    refine RegV.evN (own := false) (H' := [(1, (.cells [(.d (.str (rd a0 y19_2).fKey)), (.d (.sl (List.map byteD (rd a0 y19_2).fValue))), (.d (.bool (rd a0 y19_2).fGone))])), (0, (.tok ((List.map byteD y19_1).length * 1)))]) (c' := 2) rfl rfl (by exact ⟨rfl, Nat.le_of_ble_eq_true rfl, rfl⟩) rfl rfl rfl rfl ?_
    refine RegV.nil0 ?_
    refine AWc.seq ?_
    refine AWc.rg hmix rfl rfl ?_
    refine RegV.p0 rfl rfl rfl ?_
    refine RegV.p0 (v := (.ptr 1 0)) rfl rfl rfl ?_
    refine RegV.ld (v := (.d (.str (rd a0 y19_2).fKey))) (H' := [(1, (.cells [(.d (.str (rd a0 y19_2).fKey)), (.d (.sl (List.map byteD (rd a0 y19_2).fValue))), (.d (.bool (rd a0 y19_2).fGone))])), (0, (.tok ((List.map byteD y19_1).length * 1)))]) rfl rfl trivial rfl rfl rfl rfl rfl ?_
    refine RegV.p0 (v := (.d (.sl (List.map byteD (rd a0 y19_2).fKey)))) rfl rfl rfl ?_
    obtain ⟨r45, e45, h19⟩ := bind_some h19
    refine RegV.callS (q := false) (H' := [(2, (.tok ((List.map byteD r45).length * 1))), (1, (.cells [(.d (.str (rd a0 y19_2).fKey)), (.d (.sl (List.map byteD (rd a0 y19_2).fValue))), (.d (.bool (rd a0 y19_2).fGone))])), (0, (.tok ((List.map byteD y19_1).length * 1)))]) (c' := 3) (show ACalls P (N 27) [(.d (.sl (List.map byteD ((rd a0 y19_2).fKey))))] [] (.ap 2 1 (List.map byteD r45)) [(2, (.tok ((List.map byteD r45).length * 1)))] from ACalls.use (F27 hmix hc.2.2 e45) [(0, 2)] 1 rfl) rfl rfl rfl rfl (.cons (.refl _) .nil) (.refl _) (fun h => by cases h) rfl hasNil rfl rfl rfl rfl ?_
    obtain ⟨b46, h19⟩ := gd_some h19
    refine RegV.appA (xs := y19_1) (ys := r45) (e := byteD) (H1 := [(2, (.tok ((List.map byteD r45).length * 1))), (1, (.cells [(.d (.str (rd a0 y19_2).fKey)), (.d (.sl (List.map byteD (rd a0 y19_2).fValue))), (.d (.bool (rd a0 y19_2).fGone))]))]) rfl rfl rfl rfl (fun _ => rfl) rfl rfl b46 rfl rfl rfl ?_
    refine RegV.p0 rfl rfl rfl ?_
    refine RegV.nil0 ?_
    refine AWc.seq ?_
    refine AWc.seq ?_
    refine AWc.rg hmix rfl rfl ?_
    refine RegV.p0 (v := (.ptr 1 2)) rfl rfl rfl ?_
    refine RegV.ld (v := (.d (.bool (rd a0 y19_2).fGone))) (H' := [(1, (.cells [(.d (.str (rd a0 y19_2).fKey)), (.d (.sl (List.map byteD (rd a0 y19_2).fValue))), (.d (.bool (rd a0 y19_2).fGone))])), (3, (.tok ((List.map byteD (y19_1 ++ r45)).length * 1))), (2, (.tok ((List.map byteD r45).length * 1)))]) rfl rfl trivial rfl rfl rfl rfl rfl ?_
    refine RegV.nil0 ?_
    refine AWc.cond rfl (fun c54 => ?_) (fun c54 => ?_)
    · have h19 := cond_pos c54 h19
      refine AWc.seq ?_
      refine AWc.rg hmix rfl rfl ?_
      refine RegV.p0 rfl rfl rfl ?_
      refine RegV.p1 (v := (.d (.sl (List.map byteD ([(1 : UInt8)] : List UInt8))))) rfl rfl (by exact ⟨rfl, Nat.le_of_ble_eq_true rfl, mapLen (e := byteD) (xs := ([(1 : UInt8)] : List UInt8)) (z := 1) (fun _ => rfl)⟩) rfl rfl ?_
      obtain ⟨b60, h19⟩ := gd_some h19
      refine RegV.appA (xs := (y19_1 ++ r45)) (ys := ([(1 : UInt8)] : List UInt8)) (e := byteD) (H1 := [(1, (.cells [(.d (.str (rd a0 y19_2).fKey)), (.d (.sl (List.map byteD (rd a0 y19_2).fValue))), (.d (.bool (rd a0 y19_2).fGone))])), (2, (.tok ((List.map byteD r45).length * 1)))]) rfl rfl rfl rfl (fun _ => rfl) rfl rfl b60 rfl rfl rfl ?_
      refine RegV.p0 rfl rfl rfl ?_
      refine RegV.nil0 ?_
      refine AWc.seq ?_
      refine AWc.rg hmix rfl rfl ?_
      refine RegV.p0 rfl rfl rfl ?_
      obtain ⟨r66, e66, h19⟩ := bind_some h19
      refine RegV.callS (q := false) (H' := [(5, (.tok ((List.map byteD r66).length * 1))), (4, (.tok ((List.map byteD ((y19_1 ++ r45) ++ ([(1 : UInt8)] : List UInt8))).length * 1))), (1, (.cells [(.d (.str (rd a0 y19_2).fKey)), (.d (.sl (List.map byteD (rd a0 y19_2).fValue))), (.d (.bool (rd a0 y19_2).fGone))])), (2, (.tok ((List.map byteD r45).length * 1)))]) (c' := 6) (show ACalls P (N 27) [(.d (.sl (List.map byteD ([] : List UInt8))))] [] (.ap 5 1 (List.map byteD r66)) [(5, (.tok ((List.map byteD r66).length * 1)))] from ACalls.use (F27 hmix hc.2.2 e66) [(0, 5)] 1 rfl) rfl rfl rfl rfl (.cons (.sl rfl) .nil) (.refl _) (fun h => by cases h) rfl hasNil rfl rfl rfl rfl ?_
      obtain ⟨b67, h19⟩ := gd_some h19
      refine RegV.appA (xs := ((y19_1 ++ r45) ++ ([(1 : UInt8)] : List UInt8))) (ys := r66) (e := byteD) (H1 := [(5, (.tok ((List.map byteD r66).length * 1))), (1, (.cells [(.d (.str (rd a0 y19_2).fKey)), (.d (.sl (List.map byteD (rd a0 y19_2).fValue))), (.d (.bool (rd a0 y19_2).fGone))])), (2, (.tok ((List.map byteD r45).length * 1)))]) rfl rfl rfl rfl (fun _ => rfl) rfl rfl b67 rfl rfl rfl ?_
      refine RegV.p0 rfl rfl rfl ?_
      refine RegV.nil0 ?_
      refine AWc.exit ?_
      refine inBlk_eq ?_
      refine AWc.rg hmix rfl rfl ?_
      refine RegV.p0 (v := (.d (.int .i64 (IntKind.i64.wrap (y19_2 + (1 : Int)))))) rfl rfl rfl ?_
      refine RegV.p0 rfl rfl rfl ?_
      refine RegV.nil0 ?_
      exact ⟨((((y19_1 ++ r45) ++ ([(1 : UInt8)] : List UInt8)) ++ r66), (IntKind.i64.wrap (y19_2 + (1 : Int)))), h19, ⟨rfl, [], [(0, 6)], rfl, rfl, ⟨⟨_, rfl, (.refl _)⟩, rfl, ⟨⟨_, rfl, (.refl _)⟩, rfl, ⟨⟨_, rfl, (.refl _)⟩, rfl, ⟨⟨_, rfl, (.refl _)⟩, rfl, trivial⟩⟩⟩⟩, ⟨⟨_, rfl, (.refl _)⟩, rfl, rfl, trivial⟩⟩⟩
    · have h19 := cond_neg c54 h19
      refine AWc.skip ?_
      refine AWc.seq ?_
      refine AWc.rg hmix rfl rfl ?_
      refine RegV.p0 rfl rfl rfl ?_
      refine RegV.p1 (v := (.d (.sl (List.map byteD ([(0 : UInt8)] : List UInt8))))) rfl rfl (by exact ⟨rfl, Nat.le_of_ble_eq_true rfl, mapLen (e := byteD) (xs := ([(0 : UInt8)] : List UInt8)) (z := 1) (fun _ => rfl)⟩) rfl rfl ?_
      obtain ⟨b76, h19⟩ := gd_some h19
      refine RegV.appA (xs := (y19_1 ++ r45)) (ys := ([(0 : UInt8)] : List UInt8)) (e := byteD) (H1 := [(1, (.cells [(.d (.str (rd a0 y19_2).fKey)), (.d (.sl (List.map byteD (rd a0 y19_2).fValue))), (.d (.bool (rd a0 y19_2).fGone))])), (2, (.tok ((List.map byteD r45).length * 1)))]) rfl rfl rfl rfl (fun _ => rfl) rfl rfl b76 rfl rfl rfl ?_
      refine RegV.p0 rfl rfl rfl ?_
      refine RegV.nil0 ?_
      refine AWc.rg hmix rfl rfl ?_
      refine RegV.p0 rfl rfl rfl ?_
      refine RegV.p0 (v := (.ptr 1 1)) rfl rfl rfl ?_
      refine RegV.ld (v := (.d (.sl (List.map byteD (rd a0 y19_2).fValue)))) (H' := [(1, (.cells [(.d (.str (rd a0 y19_2).fKey)), (.d (.sl (List.map byteD (rd a0 y19_2).fValue))), (.d (.bool (rd a0 y19_2).fGone))])), (4, (.tok ((List.map byteD ((y19_1 ++ r45) ++ ([(0 : UInt8)] : List UInt8))).length * 1))), (2, (.tok ((List.map byteD r45).length * 1)))]) rfl rfl trivial rfl rfl rfl rfl rfl ?_
      obtain ⟨r83, e83, h19⟩ := bind_some h19
      refine RegV.callS (q := false) (H' := [(5, (.tok ((List.map byteD r83).length * 1))), (1, (.cells [(.d (.str (rd a0 y19_2).fKey)), (.d (.sl (List.map byteD (rd a0 y19_2).fValue))), (.d (.bool (rd a0 y19_2).fGone))])), (4, (.tok ((List.map byteD ((y19_1 ++ r45) ++ ([(0 : UInt8)] : List UInt8))).length * 1))), (2, (.tok ((List.map byteD r45).length * 1)))]) (c' := 6) (show ACalls P (N 27) [(.d (.sl (List.map byteD ((rd a0 y19_2).fValue))))] [] (.ap 5 1 (List.map byteD r83)) [(5, (.tok ((List.map byteD r83).length * 1)))] from ACalls.use (F27 hmix hc.2.2 e83) [(0, 5)] 1 rfl) rfl rfl rfl rfl (.cons (.refl _) .nil) (.refl _) (fun h => by cases h) rfl hasNil rfl rfl rfl rfl ?_
      obtain ⟨b84, h19⟩ := gd_some h19
      refine RegV.appA (xs := ((y19_1 ++ r45) ++ ([(0 : UInt8)] : List UInt8))) (ys := r83) (e := byteD) (H1 := [(5, (.tok ((List.map byteD r83).length * 1))), (1, (.cells [(.d (.str (rd a0 y19_2).fKey)), (.d (.sl (List.map byteD (rd a0 y19_2).fValue))), (.d (.bool (rd a0 y19_2).fGone))])), (2, (.tok ((List.map byteD r45).length * 1)))]) rfl rfl rfl rfl (fun _ => rfl) rfl rfl b84 rfl rfl rfl ?_
      refine RegV.p0 rfl rfl rfl ?_
      refine RegV.nil0 ?_
      refine AWc.rg hmix rfl rfl ?_
      refine RegV.p0 (v := (.d (.int .i64 (IntKind.i64.wrap (y19_2 + (1 : Int)))))) rfl rfl rfl ?_
      refine RegV.p0 rfl rfl rfl ?_
      refine RegV.nil0 ?_
      exact ⟨((((y19_1 ++ r45) ++ ([(0 : UInt8)] : List UInt8)) ++ r83), (IntKind.i64.wrap (y19_2 + (1 : Int)))), h19, ⟨rfl, [], [(0, 6)], rfl, rfl, ⟨⟨_, rfl, (.refl _)⟩, rfl, ⟨⟨_, rfl, (.refl _)⟩, rfl, ⟨⟨_, rfl, (.refl _)⟩, rfl, ⟨⟨_, rfl, (.refl _)⟩, rfl, trivial⟩⟩⟩⟩, ⟨⟨_, rfl, (.refl _)⟩, rfl, rfl, trivial⟩⟩⟩
  · have h19 := cond_neg c26 h19
    cases h19
    dsimp only at h
    refine AWc.exit ?_
    refine inBlk_eq ?_
    refine AWc.seq ?_
    refine AWc.rg hmix rfl rfl ?_
    refine RegV.p0 rfl rfl rfl ?_
    refine RegV.p0 rfl rfl rfl ?_
    refine RegV.nil0 ?_
    have hr := Option.some.inj h
    subst hr
    exact AWc.ret (canQ (N := 39) (k := 1) (l' := [(2, (.ap 0 1 (List.map byteD y19_1)))]) (H' := [(0, (.tok ((List.map byteD y19_1).length * 1)))]) rfl ⟨rfl, [], [], rfl, rfl, ⟨⟨_, rfl, (.refl _)⟩, rfl, trivial⟩, ⟨⟨_, rfl, (.refl _)⟩, rfl, rfl, trivial⟩⟩ (doneA (.inr rfl) rfl ⟨trivial, trivial⟩ (.refl _) (hasCons rfl hasNil)))
/-- courant/courantref01.Num -/
def C24 (N : Nat → Nat) : AFunc := { n := 20, params := 1, res := [.tmp 2], body :=
 (.seq (.region false [⟨(some 2), .mv (.k .nils), none, []⟩])
  (.seq (.region false [⟨(some 3), .mv (.k .nils), none, []⟩])
   (.seq (.block 0 (.loop (.seq (.seq (.region false [⟨(some 4), .mv (.t 0), none, []⟩,
         ⟨(some 5), .bin .geq (.t 4) (.k (.d (.int .u64 128))), none, [0]⟩])
        (.cond (.t 5) (.skip)
         (.exit 0)))
       (.block 1 (.seq (.region false [⟨(some 6), .mv (.t 3), none, []⟩,
          ⟨(some 7), .mv (.t 0), none, []⟩,
          ⟨(some 8), .bin .rem (.t 7) (.k (.d (.int .u64 128))), none, [1]⟩,
          ⟨(some 9), .cvi .u8 (.t 8), none, [2]⟩,
          ⟨(some 10), .bin .add (.t 9) (.k (.d (.int .u8 128))), none, [3]⟩,
          ⟨(some 11), .bslice 1 1 [(.int .u8 0)] [(0, (.t 10))], none, [4]⟩,
          ⟨(some 12), .app (.t 6) (.t 11) 1 1 [(.int .u8 0)], none, [0, 5]⟩,
          ⟨(some 3), .mv (.t 12), none, [6, 0, 1, 2, 3, 4, 5]⟩])
         (.region false [⟨(some 13), .mv (.t 0), none, []⟩,
          ⟨(some 14), .bin .quo (.t 13) (.k (.d (.int .u64 128))), none, [0]⟩,
          ⟨(some 0), .mv (.t 14), none, [1, 0]⟩]))))))
    (.seq (.region false [⟨(some 15), .mv (.t 3), none, []⟩,
      ⟨(some 16), .mv (.t 0), none, []⟩,
      ⟨(some 17), .cvi .u8 (.t 16), none, [1]⟩,
      ⟨(some 18), .bslice 1 1 [(.int .u8 0)] [(0, (.t 17))], none, [2]⟩,
      ⟨(some 19), .app (.t 15) (.t 18) 1 1 [(.int .u8 0)], none, [0, 3]⟩,
      ⟨(some 2), .mv (.t 19), none, [4, 0, 1, 2, 3]⟩])
     .ret)))) }
def HC24 (P : Program) (N : Nat → Nat) : Prop := HasF P (N 24) (C24 N)
def f24_l10 : Nat → Int → (List UInt8) → Option (LR2 (Int × (List UInt8)) Unit (List UInt8))
  | 0, _, _ => none
  | k + 1, y10_1, y10_2 => cond (decide (y10_1 ≥ (128 : Int))) (gd ((y10_2.length + ([(u8 (IntKind.u8.wrap ((IntKind.u8.wrap (Int.tmod y10_1 (128 : Int))) + (128 : Int))))] : List UInt8).length) * 2 * 1 ≤ 281474976710656) (f24_l10 k (IntKind.u64.wrap (Int.tdiv y10_1 (128 : Int))) (y10_2 ++ ([(u8 (IntKind.u8.wrap ((IntKind.u8.wrap (Int.tmod y10_1 (128 : Int))) + (128 : Int))))] : List UInt8)))) (some (.b0 (y10_1, y10_2)))
def f24 (k : Nat) (a0 : Int) : Option (List UInt8) := (f24_l10 k a0 ([] : List UInt8)).bind fun o10 => (match o10 with | .b0 (x10_1, x10_2) => gd ((x10_2.length + ([(u8 (IntKind.u8.wrap x10_1))] : List UInt8).length) * 2 * 1 ≤ 281474976710656) (some (x10_2 ++ ([(u8 (IntKind.u8.wrap x10_1))] : List UInt8))) | _ => none)
theorem F24 {P : Program} {N : Nat → Nat} (hmix : P.follows .mixedOrders = true) (hc : HC24 P N) {k : Nat} {a0 : Int} {r : (List UInt8)} (h : f24 k a0 = some r) :
    ACalls P (N 24) [(.d (.int .u64 a0))] [] (.ap 0 1 (List.map byteD r)) [(0, (.tok ((List.map byteD r).length * 1)))] := by
  refine acalls_canon (F := C24 N) hc 0 1 rfl ?_
  unfold f24 at h
  dsimp only [C24, startL]
  refine AWc.seq ?_
  refine AWc.rg hmix rfl rfl ?_
  refine RegV.p0 rfl rfl rfl ?_
  refine RegV.nil0 ?_
  refine AWc.seq ?_
  refine AWc.rg hmix rfl rfl ?_
  refine RegV.p0 rfl rfl rfl ?_
  refine RegV.nil0 ?_
  obtain ⟨o10, h10, h⟩ := bind_some h
  refine AWc.seqS (N := 20) 1 (fun (z : (Int × (List UInt8))) => [(0, (.d (.int .u64 z.1))), (3, (.ap 0 1 (List.map byteD z.2)))]) (fun z => [(0, (.tok ((List.map byteD z.2).length * 1)))]) (fun z => o10 = .b0 z) rfl_le ?_ ?_
  · refine AWc.block ?_
    refine AWc.loopK (N := 20) 1 (fun (x : (Int × (List UInt8))) => [(0, (.d (.int .u64 x.1))), (3, (.ap 0 1 (List.map byteD x.2)))]) (fun x => [(0, (.tok ((List.map byteD x.2).length * 1)))]) (fun k x => f24_l10 k x.1 x.2 = some o10) k (a0, ([] : List UInt8)) rfl_le (fun x hx => by cases hx) h10 ⟨rfl, [.tok 0], [(0, 0)], rfl, rfl, ⟨⟨_, rfl, (.refl _)⟩, rfl, ⟨⟨_, rfl, .nil⟩, rfl, trivial⟩⟩, ⟨⟨_, rfl, (.refl _)⟩, rfl, rfl, trivial⟩⟩ ?_
    clear h10
    intro k
    rintro ⟨y10_1, y10_2⟩ h10
    dsimp only at h10 ⊢
    rw [f24_l10] at h10
    refine AWc.seq ?_
    refine AWc.seq ?_
    refine AWc.rg hmix rfl rfl ?_
    refine RegV.p0 rfl rfl rfl ?_
    refine RegV.p0 (v := (.d (.bool (decide (y10_1 ≥ (128 : Int)))))) rfl rfl rfl ?_
    refine RegV.nil0 ?_
    refine AWc.cond rfl (fun c18 => ?_) (fun c18 => ?_)
    · have h10 := cond_pos c18 h10
      refine AWc.skip ?_
      refine AWc.block ?_
      refine AWc.seq ?_
      refine AWc.rg hmix rfl rfl ?_
      refine RegV.p0 rfl rfl rfl ?_
      refine RegV.p0 rfl rfl rfl ?_
      refine RegV.p1 (v := (.d (.int .u64 (Int.tmod y10_1 (128 : Int))))) rfl rfl (by decide) rfl rfl ?_
      refine RegV.p0 (v := (.d (.int .u8 (IntKind.u8.wrap (Int.tmod y10_1 (128 : Int)))))) rfl rfl rfl ?_
      refine RegV.p0 (v := (.d (.int .u8 (IntKind.u8.wrap ((IntKind.u8.wrap (Int.tmod y10_1 (128 : Int))) + (128 : Int)))))) rfl rfl rfl ?_
      refine RegV.p1 (v := .d (.sl [(.int .u8 (IntKind.u8.wrap ((IntKind.u8.wrap (Int.tmod y10_1 (128 : Int))) + (128 : Int))))])) (v' := (.d (.sl (List.map byteD ([(u8 (IntKind.u8.wrap ((IntKind.u8.wrap (Int.tmod y10_1 (128 : Int))) + (128 : Int))))] : List UInt8))))) (s := ([(.int .u8 0)] : List D).length = 1 ∧ 1 * 1 ≤ 16777216 ∧ ∀ d ∈ ([(.int .u8 (IntKind.u8.wrap ((IntKind.u8.wrap (Int.tmod y10_1 (128 : Int))) + (128 : Int))))] : List D), d.cells.length = 1) rfl rfl ⟨rfl, Nat.le_of_ble_eq_true rfl, by simp [D.cells]⟩ rfl (by simp only [List.map_cons, List.map_nil, byteD, ← u8_eq (u8_wrap _), ← u8_eq (u8_bits _ _ _)]) ?_
      obtain ⟨b31, h10⟩ := gd_some h10
      refine RegV.appA (xs := y10_2) (ys := ([(u8 (IntKind.u8.wrap ((IntKind.u8.wrap (Int.tmod y10_1 (128 : Int))) + (128 : Int))))] : List UInt8)) (e := byteD) (H1 := []) rfl rfl rfl rfl (fun _ => rfl) rfl rfl b31 rfl rfl rfl ?_
      refine RegV.p0 rfl rfl rfl ?_
      refine RegV.nil0 ?_
      refine AWc.rg hmix rfl rfl ?_
      refine RegV.p0 rfl rfl rfl ?_
      refine RegV.p1 (v := (.d (.int .u64 (IntKind.u64.wrap (Int.tdiv y10_1 (128 : Int)))))) rfl rfl (by decide) rfl rfl ?_
      refine RegV.p0 rfl rfl rfl ?_
      refine RegV.nil0 ?_
      exact ⟨((IntKind.u64.wrap (Int.tdiv y10_1 (128 : Int))), (y10_2 ++ ([(u8 (IntKind.u8.wrap ((IntKind.u8.wrap (Int.tmod y10_1 (128 : Int))) + (128 : Int))))] : List UInt8))), h10, ⟨rfl, [], [(0, 1)], rfl, rfl, ⟨⟨_, rfl, (.refl _)⟩, rfl, ⟨⟨_, rfl, (.refl _)⟩, rfl, trivial⟩⟩, ⟨⟨_, rfl, (.refl _)⟩, rfl, rfl, trivial⟩⟩⟩
    · have h10 := cond_neg c18 h10
      cases h10
      dsimp only at h
      refine AWc.exit ?_
      refine inBlk_eq ?_
      exact ⟨(y10_1, y10_2), rfl, ⟨rfl, [], [], rfl, rfl, ⟨⟨_, rfl, (.refl _)⟩, rfl, ⟨⟨_, rfl, (.refl _)⟩, rfl, trivial⟩⟩, ⟨⟨_, rfl, (.refl _)⟩, rfl, rfl, trivial⟩⟩⟩
  · rintro ⟨x10_1, x10_2⟩ ho
    subst ho
    dsimp only at h ⊢
    refine AWc.seq ?_
    refine AWc.rg hmix rfl rfl ?_
    refine RegV.p0 rfl rfl rfl ?_
    refine RegV.p0 rfl rfl rfl ?_
    refine RegV.p0 (v := (.d (.int .u8 (IntKind.u8.wrap x10_1)))) rfl rfl rfl ?_
    refine RegV.p1 (v := .d (.sl [(.int .u8 (IntKind.u8.wrap x10_1))])) (v' := (.d (.sl (List.map byteD ([(u8 (IntKind.u8.wrap x10_1))] : List UInt8))))) (s := ([(.int .u8 0)] : List D).length = 1 ∧ 1 * 1 ≤ 16777216 ∧ ∀ d ∈ ([(.int .u8 (IntKind.u8.wrap x10_1))] : List D), d.cells.length = 1) rfl rfl ⟨rfl, Nat.le_of_ble_eq_true rfl, by simp [D.cells]⟩ rfl (by simp only [List.map_cons, List.map_nil, byteD, ← u8_eq (u8_wrap _), ← u8_eq (u8_bits _ _ _)]) ?_
    obtain ⟨b45, h⟩ := gd_some h
    refine RegV.appA (xs := x10_2) (ys := ([(u8 (IntKind.u8.wrap x10_1))] : List UInt8)) (e := byteD) (H1 := []) rfl rfl rfl rfl (fun _ => rfl) rfl rfl b45 rfl rfl rfl ?_
    refine RegV.p0 rfl rfl rfl ?_
    refine RegV.nil0 ?_
    have hr := Option.some.inj h
    subst hr
    exact AWc.ret (canQ (N := 20) (k := 1) (l' := [(2, (.ap 0 1 (List.map byteD (x10_2 ++ ([(u8 (IntKind.u8.wrap x10_1))] : List UInt8)))))]) (H' := [(0, (.tok ((List.map byteD (x10_2 ++ ([(u8 (IntKind.u8.wrap x10_1))] : List UInt8))).length * 1)))]) rfl ⟨rfl, [], [(0, 1)], rfl, rfl, ⟨⟨_, rfl, (.refl _)⟩, rfl, trivial⟩, ⟨⟨_, rfl, (.refl _)⟩, rfl, rfl, trivial⟩⟩ (doneA (.inr rfl) rfl ⟨trivial, trivial⟩ (.refl _) (hasCons rfl hasNil)))
/-- courant/courantref01.Zig -/
def C26 (N : Nat → Nat) : AFunc := { n := 16, params := 1, res := [.tmp 2], body :=
 (.seq (.region false [⟨(some 2), .mv (.k .nils), none, []⟩])
  (.seq (.seq (.region false [⟨(some 3), .mv (.t 0), none, []⟩,
     ⟨(some 4), .bin .geq (.t 3) (.k (.d (.int .i64 0))), none, [0]⟩])
    (.cond (.t 4) (.seq (.region false [⟨(some 5), .mv (.t 0), none, []⟩,
       ⟨(some 6), .cvi .u64 (.t 5), none, [0]⟩,
       ⟨(some 7), .bin .mul (.t 6) (.k (.d (.int .u64 2))), none, [1]⟩,
       ⟨(some 8), .call (.k (.d (.fn (N 24)))) [(.t 7)], none, [2]⟩,
       ⟨(some 2), .mv (.t 8), none, [3, 0, 1, 2]⟩])
      .ret)
     (.skip)))
   (.seq (.region false [⟨(some 9), .mv (.t 0), none, []⟩,
     ⟨(some 10), .bin .add (.t 9) (.k (.d (.int .i64 1))), none, [0]⟩,
     ⟨(some 11), .un .neg (.t 10), none, [1]⟩,
     ⟨(some 12), .cvi .u64 (.t 11), none, [2]⟩,
     ⟨(some 13), .bin .mul (.t 12) (.k (.d (.int .u64 2))), none, [3]⟩,
     ⟨(some 14), .bin .add (.t 13) (.k (.d (.int .u64 1))), none, [4]⟩,
     ⟨(some 15), .call (.k (.d (.fn (N 24)))) [(.t 14)], none, [5]⟩,
     ⟨(some 2), .mv (.t 15), none, [6, 0, 1, 2, 3, 4, 5]⟩])
    .ret))) }
def HC26 (P : Program) (N : Nat → Nat) : Prop := HasF P (N 26) (C26 N) ∧ HC24 P N
def f26 (k : Nat) (a0 : Int) : Option (List UInt8) := cond (decide (a0 ≥ (0 : Int))) ((f24 k (IntKind.u64.wrap ((IntKind.u64.wrap a0) * (2 : Int)))).bind fun r18 => some r18) ((f24 k (IntKind.u64.wrap ((IntKind.u64.wrap ((IntKind.u64.wrap (IntKind.i64.wrap (0 - (IntKind.i64.wrap (a0 + (1 : Int)))))) * (2 : Int))) + (1 : Int)))).bind fun r31 => some r31)
theorem F26 {P : Program} {N : Nat → Nat} (hmix : P.follows .mixedOrders = true) (hc : HC26 P N) {k : Nat} {a0 : Int} {r : (List UInt8)} (h : f26 k a0 = some r) :
    ACalls P (N 26) [(.d (.int .i64 a0))] [] (.ap 0 1 (List.map byteD r)) [(0, (.tok ((List.map byteD r).length * 1)))] := by
  refine acalls_canon (F := C26 N) hc.1 0 1 rfl ?_
  unfold f26 at h
  dsimp only [C26, startL]
  refine AWc.seq ?_
  refine AWc.rg hmix rfl rfl ?_
  refine RegV.p0 rfl rfl rfl ?_
  refine RegV.nil0 ?_
  refine AWc.seq ?_
  refine AWc.seq ?_
  refine AWc.rg hmix rfl rfl ?_
  refine RegV.p0 rfl rfl rfl ?_
  refine RegV.p0 (v := (.d (.bool (decide (a0 ≥ (0 : Int)))))) rfl rfl rfl ?_
  refine RegV.nil0 ?_
  refine AWc.cond rfl (fun c11 => ?_) (fun c11 => ?_)
  · have h := cond_pos c11 h
    refine AWc.seq ?_
    refine AWc.rg hmix rfl rfl ?_
    refine RegV.p0 rfl rfl rfl ?_
    refine RegV.p0 (v := (.d (.int .u64 (IntKind.u64.wrap a0)))) rfl rfl rfl ?_
    refine RegV.p0 (v := (.d (.int .u64 (IntKind.u64.wrap ((IntKind.u64.wrap a0) * (2 : Int)))))) rfl rfl rfl ?_
    obtain ⟨r18, e18, h⟩ := bind_some h
    refine RegV.callS (q := false) (H' := [(0, (.tok ((List.map byteD r18).length * 1)))]) (c' := 1) (show ACalls P (N 24) [(.d (.int .u64 (IntKind.u64.wrap ((IntKind.u64.wrap a0) * (2 : Int)))))] [] (.ap 0 1 (List.map byteD r18)) [(0, (.tok ((List.map byteD r18).length * 1)))] from ACalls.use (F24 hmix hc.2 e18) [(0, 0)] 1 rfl) rfl rfl rfl rfl (.cons (.refl _) .nil) (.refl _) (fun h => by cases h) rfl hasNil rfl rfl rfl rfl ?_
    refine RegV.p0 rfl rfl rfl ?_
    refine RegV.nil0 ?_
    have hr := Option.some.inj h
    subst hr
    exact AWc.ret (canQ (N := 16) (k := 1) (l' := [(2, (.ap 0 1 (List.map byteD r18)))]) (H' := [(0, (.tok ((List.map byteD r18).length * 1)))]) rfl ⟨rfl, [], [], rfl, rfl, ⟨⟨_, rfl, (.refl _)⟩, rfl, trivial⟩, ⟨⟨_, rfl, (.refl _)⟩, rfl, rfl, trivial⟩⟩ (doneA (.inr rfl) rfl ⟨trivial, trivial⟩ (.refl _) (hasCons rfl hasNil)))
  · have h := cond_neg c11 h
    refine AWc.skip ?_
    refine AWc.seq ?_
    refine AWc.rg hmix rfl rfl ?_
    refine RegV.p0 rfl rfl rfl ?_
    refine RegV.p0 (v := (.d (.int .i64 (IntKind.i64.wrap (a0 + (1 : Int)))))) rfl rfl rfl ?_
    refine RegV.p0 (v := (.d (.int .i64 (IntKind.i64.wrap (0 - (IntKind.i64.wrap (a0 + (1 : Int)))))))) rfl rfl rfl ?_
    refine RegV.p0 (v := (.d (.int .u64 (IntKind.u64.wrap (IntKind.i64.wrap (0 - (IntKind.i64.wrap (a0 + (1 : Int))))))))) rfl rfl rfl ?_
    refine RegV.p0 (v := (.d (.int .u64 (IntKind.u64.wrap ((IntKind.u64.wrap (IntKind.i64.wrap (0 - (IntKind.i64.wrap (a0 + (1 : Int)))))) * (2 : Int)))))) rfl rfl rfl ?_
    refine RegV.p0 (v := (.d (.int .u64 (IntKind.u64.wrap ((IntKind.u64.wrap ((IntKind.u64.wrap (IntKind.i64.wrap (0 - (IntKind.i64.wrap (a0 + (1 : Int)))))) * (2 : Int))) + (1 : Int)))))) rfl rfl rfl ?_
    obtain ⟨r31, e31, h⟩ := bind_some h
    refine RegV.callS (q := false) (H' := [(0, (.tok ((List.map byteD r31).length * 1)))]) (c' := 1) (show ACalls P (N 24) [(.d (.int .u64 (IntKind.u64.wrap ((IntKind.u64.wrap ((IntKind.u64.wrap (IntKind.i64.wrap (0 - (IntKind.i64.wrap (a0 + (1 : Int)))))) * (2 : Int))) + (1 : Int)))))] [] (.ap 0 1 (List.map byteD r31)) [(0, (.tok ((List.map byteD r31).length * 1)))] from ACalls.use (F24 hmix hc.2 e31) [(0, 0)] 1 rfl) rfl rfl rfl rfl (.cons (.refl _) .nil) (.refl _) (fun h => by cases h) rfl hasNil rfl rfl rfl rfl ?_
    refine RegV.p0 rfl rfl rfl ?_
    refine RegV.nil0 ?_
    have hr := Option.some.inj h
    subst hr
    exact AWc.ret (canQ (N := 16) (k := 1) (l' := [(2, (.ap 0 1 (List.map byteD r31)))]) (H' := [(0, (.tok ((List.map byteD r31).length * 1)))]) rfl ⟨rfl, [], [], rfl, rfl, ⟨⟨_, rfl, (.refl _)⟩, rfl, trivial⟩, ⟨⟨_, rfl, (.refl _)⟩, rfl, rfl, trivial⟩⟩ (doneA (.inr rfl) rfl ⟨trivial, trivial⟩ (.refl _) (hasCons rfl hasNil)))
/-- courant/courantref01.Text -/
def C28 (N : Nat → Nat) : AFunc := { n := 8, params := 1, res := [.tmp 2], body :=
 (.seq (.region false [⟨(some 2), .mv (.k .nils), none, []⟩])
  (.seq (.region false [⟨(some 3), .mv (.t 0), none, []⟩,
    ⟨(some 4), .len (.t 3), none, [0]⟩,
    ⟨(some 5), .call (.k (.d (.fn (N 26)))) [(.t 4)], none, [1]⟩,
    ⟨(some 6), .mv (.t 0), none, []⟩,
    ⟨(some 7), .app (.t 5) (.t 6) 1 1 [(.int .u8 0)], none, [2, 3]⟩,
    ⟨(some 2), .mv (.t 7), none, [4, 0, 1, 2, 3]⟩])
   .ret)) }
def HC28 (P : Program) (N : Nat → Nat) : Prop := HasF P (N 28) (C28 N) ∧ HC26 P N
def f28 (k : Nat) (a0 : (List UInt8)) : Option (List UInt8) := (f26 k ((a0.length : Nat) : Int)).bind fun r10 => gd ((r10.length + a0.length) * 2 * 1 ≤ 281474976710656) (some (r10 ++ a0))
theorem F28 {P : Program} {N : Nat → Nat} (hmix : P.follows .mixedOrders = true) (hc : HC28 P N) {k : Nat} {a0 : (List UInt8)} {r : (List UInt8)} (h : f28 k a0 = some r) :
    ACalls P (N 28) [(.d (.sl (List.map byteD a0)))] [] (.ap 0 1 (List.map byteD r)) [(0, (.tok ((List.map byteD r).length * 1)))] := by
  refine acalls_canon (F := C28 N) hc.1 0 1 rfl ?_
  unfold f28 at h
  dsimp only [C28, startL]
  refine AWc.seq ?_
  refine AWc.rg hmix rfl rfl ?_
  refine RegV.p0 rfl rfl rfl ?_
  refine RegV.nil0 ?_
  refine AWc.seq ?_
  refine AWc.rg hmix rfl rfl ?_
  refine RegV.p0 rfl rfl rfl ?_
  refine RegV.len (xs := a0) (e := byteD) rfl rfl rfl rfl ?_
  obtain ⟨r10, e10, h⟩ := bind_some h
  refine RegV.callS (q := false) (H' := [(0, (.tok ((List.map byteD r10).length * 1)))]) (c' := 1) (show ACalls P (N 26) [(.d (.int .i64 ((a0.length : Nat) : Int)))] [] (.ap 0 1 (List.map byteD r10)) [(0, (.tok ((List.map byteD r10).length * 1)))] from ACalls.use (F26 hmix hc.2 e10) [(0, 0)] 1 rfl) rfl rfl rfl rfl (.cons (.refl _) .nil) (.refl _) (fun h => by cases h) rfl hasNil rfl rfl rfl rfl ?_
  refine RegV.p0 rfl rfl rfl ?_
  obtain ⟨b12, h⟩ := gd_some h
  refine RegV.appA (xs := r10) (ys := a0) (e := byteD) (H1 := []) rfl rfl rfl rfl (fun _ => rfl) rfl rfl b12 rfl rfl rfl ?_
  refine RegV.p0 rfl rfl rfl ?_
  refine RegV.nil0 ?_
  have hr := Option.some.inj h
  subst hr
  exact AWc.ret (canQ (N := 8) (k := 1) (l' := [(2, (.ap 0 1 (List.map byteD (r10 ++ a0))))]) (H' := [(0, (.tok ((List.map byteD (r10 ++ a0)).length * 1)))]) rfl ⟨rfl, [], [(0, 1)], rfl, rfl, ⟨⟨_, rfl, (.refl _)⟩, rfl, trivial⟩, ⟨⟨_, rfl, (.refl _)⟩, rfl, rfl, trivial⟩⟩ (doneA (.inr rfl) rfl ⟨trivial, trivial⟩ (.refl _) (hasCons rfl hasNil)))
/-- courant/courantref22.Bytes -/
def C81 (N : Nat → Nat) : AFunc := { n := 43, params := 1, res := [.tmp 2], body :=
 (.seq (.region false [⟨(some 2), .mv (.k .nils), none, []⟩])
  (.seq (.region false [⟨(some 5), .mv (.t 0), none, []⟩,
    ⟨(some 6), .len (.t 5), none, [0]⟩,
    ⟨(some 7), .call (.k (.d (.fn (N 26)))) [(.t 6)], none, [1]⟩,
    ⟨(some 3), .mv (.t 7), none, [2, 0, 1]⟩])
   (.seq (.seq (.region false [⟨(some 4), .mv (.k (.d (.int .i64 0))), none, []⟩])
     (.block 0 (.loop (.seq (.seq (.region false [⟨(some 8), .mv (.t 4), none, []⟩,
          ⟨(some 9), .mv (.t 0), none, []⟩,
          ⟨(some 10), .len (.t 9), none, [1]⟩,
          ⟨(some 11), .bin .lss (.t 8) (.t 10), none, [0, 2]⟩])
         (.cond (.t 11) (.skip)
          (.exit 0)))
        (.seq (.block 1 (.seq (.region false [⟨(some 14), .mv (.t 3), none, []⟩,
            ⟨(some 15), .mv (.t 0), none, []⟩,
            ⟨(some 16), .mv (.t 4), none, []⟩,
            ⟨(some 17), .iaddr (.t 15) (.t 16) 3, none, [1, 2]⟩,
            ⟨(some 18), .faddr (.t 17) 0, none, [3]⟩,
            ⟨(some 19), .load (.t 18) 1 false, none, [4]⟩,
            ⟨(some 20), .s2bs (.t 19), none, [5]⟩,
            ⟨(some 21), .call (.k (.d (.fn (N 28)))) [(.t 20)], none, [6]⟩,
            ⟨(some 22), .app (.t 14) (.t 21) 1 1 [(.int .u8 0)], none, [0, 7]⟩,
            ⟨(some 3), .mv (.t 22), none, [8, 0, 1, 2, 3, 4, 5, 6, 7]⟩])
           (.seq (.region false [⟨(some 23), .mv (.t 0), none, []⟩,
             ⟨(some 24), .mv (.t 4), none, []⟩,
             ⟨(some 25), .iaddr (.t 23) (.t 24) 3, none, [0, 1]⟩,
             ⟨(some 26), .faddr (.t 25) 2, none, [2]⟩,
             ⟨(some 27), .load (.t 26) 1 false, none, [3]⟩])
            (.cond (.t 27) (.region false [⟨(some 28), .mv (.t 3), none, []⟩,
              ⟨(some 29), .bslice 2 1 [(.int .u8 0)] [(0, (.k (.d (.int .u8 1)))), (1, (.k (.d (.int .u8 0))))], none, []⟩,
              ⟨(some 30), .app (.t 28) (.t 29) 1 1 [(.int .u8 0)], none, [0, 1]⟩,
              ⟨(some 3), .mv (.t 30), none, [2, 0, 1]⟩])
             (.seq (.region false [⟨(some 31), .mv (.t 3), none, []⟩,
               ⟨(some 32), .bslice 1 1 [(.int .u8 0)] [(0, (.k (.d (.int .u8 0))))], none, []⟩,
               ⟨(some 33), .app (.t 31) (.t 32) 1 1 [(.int .u8 0)], none, [0, 1]⟩,
               ⟨(some 3), .mv (.t 33), none, [2, 0, 1]⟩])
              (.region false [⟨(some 34), .mv (.t 3), none, []⟩,
               ⟨(some 35), .mv (.t 0), none, []⟩,
               ⟨(some 36), .mv (.t 4), none, []⟩,
               ⟨(some 37), .iaddr (.t 35) (.t 36) 3, none, [1, 2]⟩,
               ⟨(some 38), .faddr (.t 37) 1, none, [3]⟩,
               ⟨(some 39), .load (.t 38) 1 false, none, [4]⟩,
               ⟨(some 40), .call (.k (.d (.fn (N 28)))) [(.t 39)], none, [5]⟩,
               ⟨(some 41), .app (.t 34) (.t 40) 1 1 [(.int .u8 0)], none, [0, 6]⟩,
               ⟨(some 3), .mv (.t 41), none, [7, 0, 1, 2, 3, 4, 5, 6]⟩]))))))
         (.region false [⟨(some 12), .mv (.t 4), none, []⟩,
          ⟨(some 13), .bin .add (.t 12) (.k (.d (.int .i64 1))), none, [0]⟩,
          ⟨(some 4), .mv (.t 13), none, [1, 0]⟩]))))))
    (.seq (.region false [⟨(some 42), .mv (.t 3), none, []⟩,
      ⟨(some 2), .mv (.t 42), none, [0]⟩])
     .ret)))) }
def HC81 (P : Program) (N : Nat → Nat) : Prop := HasF P (N 81) (C81 N) ∧ HC26 P N ∧ HC28 P N
def f81_l17 (a0 : (List TPair)) : Nat → (List UInt8) → Int → Option (LR2 (List UInt8) Unit (List UInt8))
  | 0, _, _ => none
  | k + 1, y17_1, y17_2 => cond (decide (y17_2 < ((a0.length : Nat) : Int))) (gd (0 ≤ y17_2 ∧ y17_2 < ((a0.length : Nat) : Int)) ((f28 k ((rd a0 y17_2).fKey)).bind fun r42 => gd ((y17_1.length + r42.length) * 2 * 1 ≤ 281474976710656) (gd (0 ≤ y17_2 ∧ y17_2 < ((a0.length : Nat) : Int)) (cond ((rd a0 y17_2).fGone) (gd (((y17_1 ++ r42).length + ([(1 : UInt8), (0 : UInt8)] : List UInt8).length) * 2 * 1 ≤ 281474976710656) (f81_l17 a0 k ((y17_1 ++ r42) ++ ([(1 : UInt8), (0 : UInt8)] : List UInt8)) (IntKind.i64.wrap (y17_2 + (1 : Int))))) (gd (((y17_1 ++ r42).length + ([(0 : UInt8)] : List UInt8).length) * 2 * 1 ≤ 281474976710656) (gd (0 ≤ y17_2 ∧ y17_2 < ((a0.length : Nat) : Int)) ((f28 k ((rd a0 y17_2).fValue)).bind fun r75 => gd ((((y17_1 ++ r42) ++ ([(0 : UInt8)] : List UInt8)).length + r75.length) * 2 * 1 ≤ 281474976710656) (f81_l17 a0 k (((y17_1 ++ r42) ++ ([(0 : UInt8)] : List UInt8)) ++ r75) (IntKind.i64.wrap (y17_2 + (1 : Int))))))))))) (some (.b0 y17_1))
def f81 (k : Nat) (a0 : (List TPair)) : Option (List UInt8) := (f26 k ((a0.length : Nat) : Int)).bind fun r10 => (f81_l17 a0 k r10 (0 : Int)).bind fun o17 => (match o17 with | .b0 x17_1 => some x17_1 | _ => none)
theorem F81 {P : Program} {N : Nat → Nat} (hmix : P.follows .mixedOrders = true) (hc : HC81 P N) {k : Nat} {a0 : (List TPair)} {r : (List UInt8)} (h : f81 k a0 = some r) :
    ACalls P (N 81) [(.d (.sl (List.map TPair.enc a0)))] [] (.ap 0 1 (List.map byteD r)) [(0, (.tok ((List.map byteD r).length * 1)))] := by
  refine acalls_canon (F := C81 N) hc.1 0 1 rfl ?_
  unfold f81 at h
  dsimp only [C81, startL]
  refine AWc.seq ?_
  refine AWc.rg hmix rfl rfl ?_
  refine RegV.p0 rfl rfl rfl ?_
  refine RegV.nil0 ?_
  refine AWc.seq ?_
  refine AWc.rg hmix rfl rfl ?_
  refine RegV.p0 rfl rfl rfl ?_
  refine RegV.len (xs := a0) (e := TPair.enc) rfl rfl rfl rfl ?_
  obtain ⟨r10, e10, h⟩ := bind_some h
  refine RegV.callS (q := false) (H' := [(0, (.tok ((List.map byteD r10).length * 1)))]) (c' := 1) (show ACalls P (N 26) [(.d (.int .i64 ((a0.length : Nat) : Int)))] [] (.ap 0 1 (List.map byteD r10)) [(0, (.tok ((List.map byteD r10).length * 1)))] from ACalls.use (F26 hmix hc.2.1 e10) [(0, 0)] 1 rfl) rfl rfl rfl rfl (.cons (.refl _) .nil) (.refl _) (fun h => by cases h) rfl hasNil rfl rfl rfl rfl ?_
  refine RegV.p0 rfl rfl rfl ?_
  refine RegV.nil0 ?_
  refine AWc.seq ?_
  refine AWc.seq ?_
  refine AWc.rg hmix rfl rfl ?_
  refine RegV.p0 rfl rfl rfl ?_
  refine RegV.nil0 ?_
  obtain ⟨o17, h17, h⟩ := bind_some h
  refine AWc.block ?_
  refine AWc.loopK (N := 43) 1 (fun (x : ((List UInt8) × Int)) => [(0, (.d (.sl (List.map TPair.enc a0)))), (3, (.ap 0 1 (List.map byteD x.1))), (4, (.d (.int .i64 x.2)))]) (fun x => [(0, (.tok ((List.map byteD x.1).length * 1)))]) (fun k x => f81_l17 a0 k x.1 x.2 = some o17) k (r10, (0 : Int)) rfl_le (fun x hx => by cases hx) h17 ⟨rfl, [], [], rfl, rfl, ⟨⟨_, rfl, (.refl _)⟩, rfl, ⟨⟨_, rfl, (.refl _)⟩, rfl, ⟨⟨_, rfl, (.refl _)⟩, rfl, trivial⟩⟩⟩, ⟨⟨_, rfl, (.refl _)⟩, rfl, rfl, trivial⟩⟩ ?_
  clear h17
  intro k
  rintro ⟨y17_1, y17_2⟩ h17
  dsimp only at h17 ⊢
  rw [f81_l17] at h17
  refine AWc.seq ?_
  refine AWc.seq ?_
  refine AWc.rg hmix rfl rfl ?_
  refine RegV.p0 rfl rfl rfl ?_
  refine RegV.p0 rfl rfl rfl ?_
  refine RegV.len (xs := a0) (e := TPair.enc) rfl rfl rfl rfl ?_
  refine RegV.p0 (v := (.d (.bool (decide (y17_2 < ((a0.length : Nat) : Int)))))) rfl rfl rfl ?_
  refine RegV.nil0 ?_
  refine AWc.cond rfl (fun c27 => ?_) (fun c27 => ?_)
  · have h17 := cond_pos c27 h17
    refine AWc.skip ?_
    refine AWc.seq ?_
    refine AWc.block ?_
    refine AWc.seq ?_
    refine AWc.rg hmix rfl rfl ?_
    refine RegV.p0 rfl rfl rfl ?_
    refine RegV.p0 rfl rfl rfl ?_
    refine RegV.p0 rfl rfl rfl ?_
    obtain ⟨b38, h17⟩ := gd_some h17
    refine RegV.iad (xs := a0) (e := TPair.enc) rfl rfl rfl rfl (fun _ => rfl) b38 rfl ?_
    refine RegV.p0 (v := (.cp (TPair.enc (rd a0 y17_2)) 0)) rfl rfl rfl ?_
    refine RegV.p0 (v := (.d (.str (rd a0 y17_2).fKey))) rfl rfl rfl ?_
    refine RegV.p0 (v := (.d (.sl (List.map byteD (rd a0 y17_2).fKey)))) rfl rfl rfl ?_
    obtain ⟨r42, e42, h17⟩ := bind_some h17
    refine RegV.callS (q := false) (H' := [(1, (.tok ((List.map byteD r42).length * 1))), (0, (.tok ((List.map byteD y17_1).length * 1)))]) (c' := 2) (show ACalls P (N 28) [(.d (.sl (List.map byteD ((rd a0 y17_2).fKey))))] [] (.ap 1 1 (List.map byteD r42)) [(1, (.tok ((List.map byteD r42).length * 1)))] from ACalls.use (F28 hmix hc.2.2 e42) [(0, 1)] 1 rfl) rfl rfl rfl rfl (.cons (.refl _) .nil) (.refl _) (fun h => by cases h) rfl hasNil rfl rfl rfl rfl ?_
    obtain ⟨b43, h17⟩ := gd_some h17
    refine RegV.appA (xs := y17_1) (ys := r42) (e := byteD) (H1 := [(1, (.tok ((List.map byteD r42).length * 1)))]) rfl rfl rfl rfl (fun _ => rfl) rfl rfl b43 rfl rfl rfl ?_
    refine RegV.p0 rfl rfl rfl ?_
    refine RegV.nil0 ?_
    refine AWc.seq ?_
    refine AWc.rg hmix rfl rfl ?_
    refine RegV.p0 rfl rfl rfl ?_
    refine RegV.p0 rfl rfl rfl ?_
    obtain ⟨b50, h17⟩ := gd_some h17
    refine RegV.iad (xs := a0) (e := TPair.enc) rfl rfl rfl rfl (fun _ => rfl) b50 rfl ?_
    refine RegV.p0 (v := (.cp (TPair.enc (rd a0 y17_2)) 2)) rfl rfl rfl ?_
    refine RegV.p0 (v := (.d (.bool (rd a0 y17_2).fGone))) rfl rfl rfl ?_
    refine RegV.nil0 ?_
    refine AWc.cond rfl (fun c53 => ?_) (fun c53 => ?_)
    · have h17 := cond_pos c53 h17
      refine AWc.rg hmix rfl rfl ?_
      refine RegV.p0 rfl rfl rfl ?_
      refine RegV.p1 (v := (.d (.sl (List.map byteD ([(1 : UInt8), (0 : UInt8)] : List UInt8))))) rfl rfl (by exact ⟨rfl, Nat.le_of_ble_eq_true rfl, mapLen (e := byteD) (xs := ([(1 : UInt8), (0 : UInt8)] : List UInt8)) (z := 1) (fun _ => rfl)⟩) rfl rfl ?_
      obtain ⟨b58, h17⟩ := gd_some h17
      refine RegV.appA (xs := (y17_1 ++ r42)) (ys := ([(1 : UInt8), (0 : UInt8)] : List UInt8)) (e := byteD) (H1 := [(1, (.tok ((List.map byteD r42).length * 1)))]) rfl rfl rfl rfl (fun _ => rfl) rfl rfl b58 rfl rfl rfl ?_
      refine RegV.p0 rfl rfl rfl ?_
      refine RegV.nil0 ?_
      refine AWc.rg hmix rfl rfl ?_
      refine RegV.p0 rfl rfl rfl ?_
      refine RegV.p0 (v := (.d (.int .i64 (IntKind.i64.wrap (y17_2 + (1 : Int)))))) rfl rfl rfl ?_
      refine RegV.p0 rfl rfl rfl ?_
      refine RegV.nil0 ?_
      exact ⟨(((y17_1 ++ r42) ++ ([(1 : UInt8), (0 : UInt8)] : List UInt8)), (IntKind.i64.wrap (y17_2 + (1 : Int)))), h17, ⟨rfl, [], [(0, 3)], rfl, rfl, ⟨⟨_, rfl, (.refl _)⟩, rfl, ⟨⟨_, rfl, (.refl _)⟩, rfl, ⟨⟨_, rfl, (.refl _)⟩, rfl, trivial⟩⟩⟩, ⟨⟨_, rfl, (.refl _)⟩, rfl, rfl, trivial⟩⟩⟩
    · have h17 := cond_neg c53 h17
      refine AWc.seq ?_
      refine AWc.rg hmix rfl rfl ?_
      refine RegV.p0 rfl rfl rfl ?_
      refine RegV.p1 (v := (.d (.sl (List.map byteD ([(0 : UInt8)] : List UInt8))))) rfl rfl (by exact ⟨rfl, Nat.le_of_ble_eq_true rfl, mapLen (e := byteD) (xs := ([(0 : UInt8)] : List UInt8)) (z := 1) (fun _ => rfl)⟩) rfl rfl ?_
      obtain ⟨b65, h17⟩ := gd_some h17
      refine RegV.appA (xs := (y17_1 ++ r42)) (ys := ([(0 : UInt8)] : List UInt8)) (e := byteD) (H1 := [(1, (.tok ((List.map byteD r42).length * 1)))]) rfl rfl rfl rfl (fun _ => rfl) rfl rfl b65 rfl rfl rfl ?_
      refine RegV.p0 rfl rfl rfl ?_
      refine RegV.nil0 ?_
      refine AWc.rg hmix rfl rfl ?_
      refine RegV.p0 rfl rfl rfl ?_
      refine RegV.p0 rfl rfl rfl ?_
      refine RegV.p0 rfl rfl rfl ?_
      obtain ⟨b72, h17⟩ := gd_some h17
      refine RegV.iad (xs := a0) (e := TPair.enc) rfl rfl rfl rfl (fun _ => rfl) b72 rfl ?_
      refine RegV.p0 (v := (.cp (TPair.enc (rd a0 y17_2)) 1)) rfl rfl rfl ?_
      refine RegV.p0 (v := (.d (.sl (List.map byteD (rd a0 y17_2).fValue)))) rfl rfl rfl ?_
      obtain ⟨r75, e75, h17⟩ := bind_some h17
      refine RegV.callS (q := false) (H' := [(4, (.tok ((List.map byteD r75).length * 1))), (3, (.tok ((List.map byteD ((y17_1 ++ r42) ++ ([(0 : UInt8)] : List UInt8))).length * 1))), (1, (.tok ((List.map byteD r42).length * 1)))]) (c' := 5) (show ACalls P (N 28) [(.d (.sl (List.map byteD ((rd a0 y17_2).fValue))))] [] (.ap 4 1 (List.map byteD r75)) [(4, (.tok ((List.map byteD r75).length * 1)))] from ACalls.use (F28 hmix hc.2.2 e75) [(0, 4)] 1 rfl) rfl rfl rfl rfl (.cons (.refl _) .nil) (.refl _) (fun h => by cases h) rfl hasNil rfl rfl rfl rfl ?_
      obtain ⟨b76, h17⟩ := gd_some h17
      refine RegV.appA (xs := ((y17_1 ++ r42) ++ ([(0 : UInt8)] : List UInt8))) (ys := r75) (e := byteD) (H1 := [(4, (.tok ((List.map byteD r75).length * 1))), (1, (.tok ((List.map byteD r42).length * 1)))]) rfl rfl rfl rfl (fun _ => rfl) rfl rfl b76 rfl rfl rfl ?_
      refine RegV.p0 rfl rfl rfl ?_
      refine RegV.nil0 ?_
      refine AWc.rg hmix rfl rfl ?_
      refine RegV.p0 rfl rfl rfl ?_
      refine RegV.p0 (v := (.d (.int .i64 (IntKind.i64.wrap (y17_2 + (1 : Int)))))) rfl rfl rfl ?_
      refine RegV.p0 rfl rfl rfl ?_
      refine RegV.nil0 ?_
      exact ⟨((((y17_1 ++ r42) ++ ([(0 : UInt8)] : List UInt8)) ++ r75), (IntKind.i64.wrap (y17_2 + (1 : Int)))), h17, ⟨rfl, [], [(0, 5)], rfl, rfl, ⟨⟨_, rfl, (.refl _)⟩, rfl, ⟨⟨_, rfl, (.refl _)⟩, rfl, ⟨⟨_, rfl, (.refl _)⟩, rfl, trivial⟩⟩⟩, ⟨⟨_, rfl, (.refl _)⟩, rfl, rfl, trivial⟩⟩⟩
  · have h17 := cond_neg c27 h17
    cases h17
    dsimp only at h
    refine AWc.exit ?_
    refine inBlk_eq ?_
    refine AWc.seq ?_
    refine AWc.rg hmix rfl rfl ?_
    refine RegV.p0 rfl rfl rfl ?_
    refine RegV.p0 rfl rfl rfl ?_
    refine RegV.nil0 ?_
    have hr := Option.some.inj h
    subst hr
    exact AWc.ret (canQ (N := 43) (k := 1) (l' := [(2, (.ap 0 1 (List.map byteD y17_1)))]) (H' := [(0, (.tok ((List.map byteD y17_1).length * 1)))]) rfl ⟨rfl, [], [], rfl, rfl, ⟨⟨_, rfl, (.refl _)⟩, rfl, trivial⟩, ⟨⟨_, rfl, (.refl _)⟩, rfl, rfl, trivial⟩⟩ (doneA (.inr rfl) rfl ⟨trivial, trivial⟩ (.refl _) (hasCons rfl hasNil)))
/-- courant/couranthelp.Bytes -/
def C22 (N : Nat → Nat) : AFunc := { n := 10, params := 2, res := [.tmp 4], body :=
 (.seq (.region false [⟨(some 4), .mv (.k (.d (.bool false))), none, []⟩])
  (.seq (.region false [⟨(some 5), .mv (.t 0), none, []⟩,
    ⟨(some 6), .bs2s (.t 5), none, [0]⟩,
    ⟨(some 7), .mv (.t 1), none, []⟩,
    ⟨(some 8), .bs2s (.t 7), none, [2]⟩,
    ⟨(some 9), .bin .eql (.t 6) (.t 8), none, [1, 3]⟩,
    ⟨(some 4), .mv (.t 9), none, [4, 0, 1, 2, 3]⟩])
   .ret)) }
def HC22 (P : Program) (N : Nat → Nat) : Prop := HasF P (N 22) (C22 N)
def f22 (k : Nat) (a0 : (List UInt8)) (a1 : (List UInt8)) : Option Unit := some ()
theorem F22 {P : Program} {N : Nat → Nat} (hmix : P.follows .mixedOrders = true) (hc : HC22 P N) {k : Nat} {a0 : (List UInt8)} {a1 : (List UInt8)} {r : Unit} (h : f22 k a0 a1 = some r) :
    ACalls P (N 22) [(.d (.sl (List.map byteD a0))), (.d (.sl (List.map byteD a1)))] [] (.d (.bool (decide (a0 = a1)))) [] := by
  refine acalls_canon (F := C22 N) hc 0 0 rfl ?_
  unfold f22 at h
  dsimp only [C22, startL]
  refine AWc.seq ?_
  refine AWc.rg hmix rfl rfl ?_
  refine RegV.p0 rfl rfl rfl ?_
  refine RegV.nil0 ?_
  refine AWc.seq ?_
  refine AWc.rg hmix rfl rfl ?_
  refine RegV.p0 rfl rfl rfl ?_
  refine RegV.bs2s (b := a0) rfl rfl rfl ?_
  refine RegV.p0 rfl rfl rfl ?_
  refine RegV.bs2s (b := a1) rfl rfl rfl ?_
  refine RegV.p0 (v := (.d (.bool (decide (a0 = a1))))) rfl rfl rfl ?_
  refine RegV.p0 rfl rfl rfl ?_
  refine RegV.nil0 ?_
  have hr := Option.some.inj h
  subst hr
  exact AWc.ret (canQ (N := 10) (k := 0) (l' := [(4, (.d (.bool (decide (a0 = a1)))))]) (H' := []) rfl ⟨rfl, [], [], rfl, rfl, ⟨⟨_, rfl, (.refl _)⟩, rfl, trivial⟩,  trivial⟩ (doneA (.inr rfl) rfl ⟨trivial, trivial⟩ (.refl _) hasNil))
/-- courant/couranthelp.Pair -/
def C106 (N : Nat → Nat) : AFunc := { n := 24, params := 2, res := [.tmp 4], body :=
 (.seq (.region false [⟨(some 2), .box (.t 0), none, []⟩,
   ⟨(some 3), .box (.t 1), none, []⟩,
   ⟨(some 4), .mv (.k (.d (.bool false))), none, []⟩])
  (.seq (.region false [⟨(some 5), .faddr (.t 2) 0, none, []⟩,
    ⟨(some 6), .load (.t 5) 1 false, none, [0]⟩,
    ⟨(some 7), .faddr (.t 3) 0, none, []⟩,
    ⟨(some 8), .load (.t 7) 1 false, none, [2]⟩,
    ⟨(some 9), .bin .eql (.t 6) (.t 8), none, [1, 3]⟩,
    ⟨(some 10), .mv (.t 9), none, [4]⟩,
    ⟨(some 11), .faddr (.t 2) 1, (some (10, true)), [5]⟩,
    ⟨(some 12), .load (.t 11) 1 false, (some (10, true)), [6, 5]⟩,
    ⟨(some 13), .faddr (.t 3) 1, (some (10, true)), [5]⟩,
    ⟨(some 14), .load (.t 13) 1 false, (some (10, true)), [8, 5]⟩,
    ⟨(some 15), .call (.k (.d (.fn (N 22)))) [(.t 12), (.t 14)], (some (10, true)), [7, 9, 5]⟩,
    ⟨(some 16), .pick (.t 10) (.t 15) (.k (.d (.bool false))), none, [5, 10]⟩,
    ⟨(some 17), .mv (.t 16), none, [11, 10]⟩,
    ⟨(some 18), .faddr (.t 2) 2, (some (17, true)), [12]⟩,
    ⟨(some 19), .load (.t 18) 1 false, (some (17, true)), [13, 12]⟩,
    ⟨(some 20), .faddr (.t 3) 2, (some (17, true)), [12]⟩,
    ⟨(some 21), .load (.t 20) 1 false, (some (17, true)), [15, 12]⟩,
    ⟨(some 22), .beq false (.t 19) (.t 21), (some (17, true)), [14, 16, 12]⟩,
    ⟨(some 23), .pick (.t 17) (.t 22) (.k (.d (.bool false))), none, [12, 17]⟩,
    ⟨(some 4), .mv (.t 23), none, [18, 12, 0, 1, 2, 3, 4, 5, 6, 7, 8, 9, 10, 11, 13, 14, 15, 16, 17]⟩])
   .ret)) }
def HC106 (P : Program) (N : Nat → Nat) : Prop := HasF P (N 106) (C106 N) ∧ HC22 P N
def f106 (k : Nat) (a0 : TPair) (a1 : TPair) : Option Bool := cond (decide (a0.fKey = a1.fKey)) ((f22 k a0.fValue a1.fValue).bind fun r20 => cond (decide (a0.fValue = a1.fValue)) (some (a0.fGone == a1.fGone)) (some false)) (some false)
theorem F106 {P : Program} {N : Nat → Nat} (hmix : P.follows .mixedOrders = true) (hc : HC106 P N) {k : Nat} {a0 : TPair} {a1 : TPair} {r : Bool} (h : f106 k a0 a1 = some r) :
    ACalls P (N 106) [(.d (TPair.enc a0)), (.d (TPair.enc a1))] [] (.d (.bool r)) [] := by
  refine acalls_canon (F := C106 N) hc.1 0 0 rfl ?_
  unfold f106 at h
  dsimp only [C106, startL]
  refine AWc.seq ?_
  refine AWc.rg hmix rfl rfl ?_
  refine RegV.evS (own := false) (v := (.ptr 0 0)) (H' := [(0, (.cells [(.d (.str a0.fKey)), (.d (.sl (List.map byteD a0.fValue))), (.d (.bool a0.fGone))]))]) (c' := 1) rfl rfl trivial rfl rfl rfl rfl rfl rfl ?_
  refine RegV.evS (own := false) (v := (.ptr 1 0)) (H' := [(1, (.cells [(.d (.str a1.fKey)), (.d (.sl (List.map byteD a1.fValue))), (.d (.bool a1.fGone))])), (0, (.cells [(.d (.str a0.fKey)), (.d (.sl (List.map byteD a0.fValue))), (.d (.bool a0.fGone))]))]) (c' := 2) rfl rfl trivial rfl rfl rfl rfl rfl rfl ?_
  refine RegV.p0 rfl rfl rfl ?_
  refine RegV.nil0 ?_
  refine AWc.seq ?_
  refine AWc.rg hmix rfl rfl ?_
  refine RegV.p0 (v := (.ptr 0 0)) rfl rfl rfl ?_
  refine RegV.ld (v := (.d (.str a0.fKey))) (H' := [(0, (.cells [(.d (.str a0.fKey)), (.d (.sl (List.map byteD a0.fValue))), (.d (.bool a0.fGone))])), (1, (.cells [(.d (.str a1.fKey)), (.d (.sl (List.map byteD a1.fValue))), (.d (.bool a1.fGone))]))]) rfl rfl trivial rfl rfl rfl rfl rfl ?_
  refine RegV.p0 (v := (.ptr 1 0)) rfl rfl rfl ?_
  refine RegV.ld (v := (.d (.str a1.fKey))) (H' := [(1, (.cells [(.d (.str a1.fKey)), (.d (.sl (List.map byteD a1.fValue))), (.d (.bool a1.fGone))])), (0, (.cells [(.d (.str a0.fKey)), (.d (.sl (List.map byteD a0.fValue))), (.d (.bool a0.fGone))]))]) rfl rfl trivial rfl rfl rfl rfl rfl ?_
  refine RegV.p0 (v := (.d (.bool (decide (a0.fKey = a1.fKey))))) rfl rfl rfl ?_
  refine RegV.p0 rfl rfl rfl ?_
  refine RegV.split (fun c15 => ?_) (fun c15 => ?_)
  · have h := cond_pos c15 h
    refine RegV.p0 (v := (.ptr 0 1)) rfl rfl rfl ?_
    refine RegV.ld (v := (.d (.sl (List.map byteD a0.fValue)))) (H' := [(0, (.cells [(.d (.str a0.fKey)), (.d (.sl (List.map byteD a0.fValue))), (.d (.bool a0.fGone))])), (1, (.cells [(.d (.str a1.fKey)), (.d (.sl (List.map byteD a1.fValue))), (.d (.bool a1.fGone))]))]) rfl rfl trivial rfl rfl rfl rfl rfl ?_
    refine RegV.p0 (v := (.ptr 1 1)) rfl rfl rfl ?_
    refine RegV.ld (v := (.d (.sl (List.map byteD a1.fValue)))) (H' := [(1, (.cells [(.d (.str a1.fKey)), (.d (.sl (List.map byteD a1.fValue))), (.d (.bool a1.fGone))])), (0, (.cells [(.d (.str a0.fKey)), (.d (.sl (List.map byteD a0.fValue))), (.d (.bool a0.fGone))]))]) rfl rfl trivial rfl rfl rfl rfl rfl ?_
    obtain ⟨r20, e20, h⟩ := bind_some h
    refine RegV.call0 (F22 hmix hc.2 e20) rfl rfl rfl rfl (.cons (.refl _) (.cons (.refl _) .nil)) rfl ?_
    refine RegV.p0 rfl rfl rfl ?_
    refine RegV.p0 rfl rfl rfl ?_
    refine RegV.split (fun c22 => ?_) (fun c22 => ?_)
    · have h := cond_pos c22 h
      refine RegV.p0 (v := (.ptr 0 2)) rfl rfl rfl ?_
      refine RegV.ld (v := (.d (.bool a0.fGone))) (H' := [(0, (.cells [(.d (.str a0.fKey)), (.d (.sl (List.map byteD a0.fValue))), (.d (.bool a0.fGone))])), (1, (.cells [(.d (.str a1.fKey)), (.d (.sl (List.map byteD a1.fValue))), (.d (.bool a1.fGone))]))]) rfl rfl trivial rfl rfl rfl rfl rfl ?_
      refine RegV.p0 (v := (.ptr 1 2)) rfl rfl rfl ?_
      refine RegV.ld (v := (.d (.bool a1.fGone))) (H' := [(1, (.cells [(.d (.str a1.fKey)), (.d (.sl (List.map byteD a1.fValue))), (.d (.bool a1.fGone))])), (0, (.cells [(.d (.str a0.fKey)), (.d (.sl (List.map byteD a0.fValue))), (.d (.bool a0.fGone))]))]) rfl rfl trivial rfl rfl rfl rfl rfl ?_
      refine RegV.p0 (v := (.d (.bool (a0.fGone == a1.fGone)))) rfl rfl rfl ?_
      refine RegV.p0 rfl rfl rfl ?_
      refine RegV.p0 rfl rfl rfl ?_
      refine RegV.nil0 ?_
      have hr := Option.some.inj h
      subst hr
      exact AWc.ret (canQ (N := 24) (k := 0) (l' := [(4, (.d (.bool (a0.fGone == a1.fGone))))]) (H' := []) rfl ⟨rfl, [], [], rfl, rfl, ⟨⟨_, rfl, (.refl _)⟩, rfl, trivial⟩,  trivial⟩ (doneA (.inr rfl) rfl ⟨trivial, trivial⟩ (.refl _) hasNil))
    · have h := cond_neg c22 h
      refine RegV.noS rfl rfl ?_
      refine RegV.noS rfl rfl ?_
      refine RegV.noS rfl rfl ?_
      refine RegV.noS rfl rfl ?_
      refine RegV.noS rfl rfl ?_
      refine RegV.p0 rfl rfl rfl ?_
      refine RegV.p0 rfl rfl rfl ?_
      refine RegV.nil0 ?_
      have hr := Option.some.inj h
      subst hr
      exact AWc.ret (canQ (N := 24) (k := 0) (l' := [(4, (.d (.bool false)))]) (H' := []) rfl ⟨rfl, [], [], rfl, rfl, ⟨⟨_, rfl, (.refl _)⟩, rfl, trivial⟩,  trivial⟩ (doneA (.inr rfl) rfl ⟨trivial, trivial⟩ (.refl _) hasNil))
  · have h := cond_neg c15 h
    refine RegV.noS rfl rfl ?_
    refine RegV.noS rfl rfl ?_
    refine RegV.noS rfl rfl ?_
    refine RegV.noS rfl rfl ?_
    refine RegV.noS rfl rfl ?_
    refine RegV.p0 rfl rfl rfl ?_
    refine RegV.p0 rfl rfl rfl ?_
    refine RegV.noS rfl rfl ?_
    refine RegV.noS rfl rfl ?_
    refine RegV.noS rfl rfl ?_
    refine RegV.noS rfl rfl ?_
    refine RegV.noS rfl rfl ?_
    refine RegV.p0 rfl rfl rfl ?_
    refine RegV.p0 rfl rfl rfl ?_
    refine RegV.nil0 ?_
    have hr := Option.some.inj h
    subst hr
    exact AWc.ret (canQ (N := 24) (k := 0) (l' := [(4, (.d (.bool false)))]) (H' := []) rfl ⟨rfl, [], [], rfl, rfl, ⟨⟨_, rfl, (.refl _)⟩, rfl, trivial⟩,  trivial⟩ (doneA (.inr rfl) rfl ⟨trivial, trivial⟩ (.refl _) hasNil))
/-- courant/couranthelp.Same[courant/api.Pair] -/
def C105 (N : Nat → Nat) : AFunc := { n := 30, params := 3, res := [.tmp 6], body :=
 (.seq (.region false [⟨(some 6), .mv (.k (.d (.bool false))), none, []⟩])
  (.seq (.seq (.region false [⟨(some 8), .mv (.t 0), none, []⟩,
     ⟨(some 9), .len (.t 8), none, [0]⟩,
     ⟨(some 10), .mv (.t 1), none, []⟩,
     ⟨(some 11), .len (.t 10), none, [2]⟩,
     ⟨(some 12), .bin .neq (.t 9) (.t 11), none, [1, 3]⟩])
    (.cond (.t 12) (.seq (.region false [⟨(some 6), .mv (.k (.d (.bool false))), none, []⟩])
      .ret)
     (.skip)))
   (.seq (.seq (.region false [⟨(some 7), .mv (.k (.d (.int .i64 0))), none, []⟩])
     (.block 0 (.loop (.seq (.seq (.region false [⟨(some 13), .mv (.t 7), none, []⟩,
          ⟨(some 14), .mv (.t 0), none, []⟩,
          ⟨(some 15), .len (.t 14), none, [1]⟩,
          ⟨(some 16), .bin .lss (.t 13) (.t 15), none, [0, 2]⟩])
         (.cond (.t 16) (.skip)
          (.exit 0)))
        (.seq (.block 1 (.seq (.region true [⟨(some 19), .mv (.t 2), none, []⟩,
            ⟨(some 20), .mv (.t 0), none, []⟩,
            ⟨(some 21), .mv (.t 7), none, []⟩,
            ⟨(some 22), .iaddr (.t 20) (.t 21) 3, none, [1, 2]⟩,
            ⟨(some 23), .load (.t 22) 3 true, none, [3]⟩,
            ⟨(some 24), .mv (.t 1), none, []⟩,
            ⟨(some 25), .mv (.t 7), none, []⟩,
            ⟨(some 26), .iaddr (.t 24) (.t 25) 3, none, [5, 6]⟩,
            ⟨(some 27), .load (.t 26) 3 true, none, [7]⟩,
            ⟨(some 28), .call (.t 19) [(.t 23), (.t 27)], none, [0, 4, 8]⟩,
            ⟨(some 29), .un .not (.t 28), none, [9]⟩])
           (.cond (.t 29) (.seq (.region false [⟨(some 6), .mv (.k (.d (.bool false))), none, []⟩])
             .ret)
            (.skip))))
         (.region false [⟨(some 17), .mv (.t 7), none, []⟩,
          ⟨(some 18), .bin .add (.t 17) (.k (.d (.int .i64 1))), none, [0]⟩,
          ⟨(some 7), .mv (.t 18), none, [1, 0]⟩]))))))
    (.seq (.region false [⟨(some 6), .mv (.k (.d (.bool true))), none, []⟩])
     .ret)))) }
def HC105 (P : Program) (N : Nat → Nat) : Prop := HasF P (N 105) (C105 N) ∧ HC106 P N
def f105_l26 (a0 : (List TPair)) (a1 : (List TPair)) : Nat → Int → Option (LR2 Unit Unit Bool)
  | 0, _ => none
  | k + 1, y26_1 => cond (decide (y26_1 < ((a0.length : Nat) : Int))) (gd (0 ≤ y26_1 ∧ y26_1 < ((a0.length : Nat) : Int)) (gd (0 ≤ y26_1 ∧ y26_1 < ((a1.length : Nat) : Int)) ((f106 k (rd a0 y26_1) (rd a1 y26_1)).bind fun r53 => cond (!r53) (some (.r false)) (f105_l26 a0 a1 k (IntKind.i64.wrap (y26_1 + (1 : Int))))))) (some (.b0 ()))
def f105 (k : Nat) (a0 : (List TPair)) (a1 : (List TPair)) : Option Bool := cond (decide (((a0.length : Nat) : Int) ≠ ((a1.length : Nat) : Int))) (some false) ((f105_l26 a0 a1 k (0 : Int)).bind fun o26 => (match o26 with | .b0 () => some true | .r x => some x | _ => none))
theorem F105 {P : Program} {N : Nat → Nat} (hmix : P.follows .mixedOrders = true) (hc : HC105 P N) {k : Nat} {a0 : (List TPair)} {a1 : (List TPair)} {r : Bool} (h : f105 k a0 a1 = some r) :
    ACalls P (N 105) [(.d (.sl (List.map TPair.enc a0))), (.d (.sl (List.map TPair.enc a1))), (.d (.fn (N 106)))] [] (.d (.bool r)) [] := by
  refine acalls_canon (F := C105 N) hc.1 0 0 rfl ?_
  unfold f105 at h
  dsimp only [C105, startL]
  refine AWc.seq ?_
  refine AWc.rg hmix rfl rfl ?_
  refine RegV.p0 rfl rfl rfl ?_
  refine RegV.nil0 ?_
  refine AWc.seq ?_
  refine AWc.seq ?_
  refine AWc.rg hmix rfl rfl ?_
  refine RegV.p0 rfl rfl rfl ?_
  refine RegV.len (xs := a0) (e := TPair.enc) rfl rfl rfl rfl ?_
  refine RegV.p0 rfl rfl rfl ?_
  refine RegV.len (xs := a1) (e := TPair.enc) rfl rfl rfl rfl ?_
  refine RegV.p0 (v := (.d (.bool (decide (((a0.length : Nat) : Int) ≠ ((a1.length : Nat) : Int)))))) rfl rfl rfl ?_
  refine RegV.nil0 ?_
  refine AWc.cond rfl (fun c14 => ?_) (fun c14 => ?_)
  · have h := cond_pos c14 h
    refine AWc.seq ?_
    refine AWc.rg hmix rfl rfl ?_
    refine RegV.p0 rfl rfl rfl ?_
    refine RegV.nil0 ?_
    have hr := Option.some.inj h
    subst hr
    exact AWc.ret (canQ (N := 30) (k := 0) (l' := [(6, (.d (.bool false)))]) (H' := []) rfl ⟨rfl, [], [], rfl, rfl, ⟨⟨_, rfl, (.refl _)⟩, rfl, trivial⟩,  trivial⟩ (doneA (.inr rfl) rfl ⟨trivial, trivial⟩ (.refl _) hasNil))
  · have h := cond_neg c14 h
    refine AWc.skip ?_
    refine AWc.seq ?_
    refine AWc.seq ?_
    refine AWc.rg hmix rfl rfl ?_
    refine RegV.p0 rfl rfl rfl ?_
    refine RegV.nil0 ?_
    obtain ⟨o26, h26, h⟩ := bind_some h
    refine AWc.block ?_
    refine AWc.loopK (N := 30) 0 (fun (x : Int) => [(0, (.d (.sl (List.map TPair.enc a0)))), (1, (.d (.sl (List.map TPair.enc a1)))), (2, (.d (.fn (N 106)))), (7, (.d (.int .i64 x)))]) (fun x => []) (fun k x => f105_l26 a0 a1 k x = some o26) k (0 : Int) rfl_le (fun x hx => by cases hx) h26 ⟨rfl, [], [], rfl, rfl, ⟨⟨_, rfl, (.refl _)⟩, rfl, ⟨⟨_, rfl, (.refl _)⟩, rfl, ⟨⟨_, rfl, (.refl _)⟩, rfl, ⟨⟨_, rfl, (.refl _)⟩, rfl, trivial⟩⟩⟩⟩,  trivial⟩ ?_
    clear h26
    intro k
    intro y26_1 h26
    rw [f105_l26] at h26
    refine AWc.seq ?_
    refine AWc.seq ?_
    refine AWc.rg hmix rfl rfl ?_
    refine RegV.p0 rfl rfl rfl ?_
    refine RegV.p0 rfl rfl rfl ?_
    refine RegV.len (xs := a0) (e := TPair.enc) rfl rfl rfl rfl ?_
    refine RegV.p0 (v := (.d (.bool (decide (y26_1 < ((a0.length : Nat) : Int)))))) rfl rfl rfl ?_
    refine RegV.nil0 ?_
    refine AWc.cond rfl (fun c36 => ?_) (fun c36 => ?_)
    · have h26 := cond_pos c36 h26
      refine AWc.skip ?_
      refine AWc.seq ?_
      refine AWc.block ?_
      refine AWc.seq ?_
      refine AWc.rg hmix rfl rfl ?_
      refine RegV.p0 rfl rfl rfl ?_
      refine RegV.p0 rfl rfl rfl ?_
      refine RegV.p0 rfl rfl rfl ?_
      obtain ⟨b47, h26⟩ := gd_some h26
      refine RegV.iad (xs := a0) (e := TPair.enc) rfl rfl rfl rfl (fun _ => rfl) b47 rfl ?_
      refine RegV.p1 (v := (.d (TPair.enc (rd a0 y26_1)))) rfl rfl rfl rfl rfl ?_
      refine RegV.p0 rfl rfl rfl ?_
      refine RegV.p0 rfl rfl rfl ?_
      obtain ⟨b51, h26⟩ := gd_some h26
      refine RegV.iad (xs := a1) (e := TPair.enc) rfl rfl rfl rfl (fun _ => rfl) b51 rfl ?_
      refine RegV.p1 (v := (.d (TPair.enc (rd a1 y26_1)))) rfl rfl rfl rfl rfl ?_
      obtain ⟨r53, e53, h26⟩ := bind_some h26
      refine RegV.call0 (F106 hmix hc.2 e53) rfl rfl rfl rfl (.cons (.refl _) (.cons (.refl _) .nil)) rfl ?_
      refine RegV.p0 (v := (.d (.bool (!r53)))) rfl rfl rfl ?_
      refine RegV.nil1 (by kernel_rfl) ?_
      refine AWc.cond rfl (fun c55 => ?_) (fun c55 => ?_)
      · have h26 := cond_pos c55 h26
        refine AWc.seq ?_
        refine AWc.rg hmix rfl rfl ?_
        refine RegV.p0 rfl rfl rfl ?_
        refine RegV.nil0 ?_
        cases h26
        dsimp only at h
        have hr := Option.some.inj h
        subst hr
        exact AWc.ret (canQ (N := 30) (k := 0) (l' := [(6, (.d (.bool false)))]) (H' := []) rfl ⟨rfl, [], [], rfl, rfl, ⟨⟨_, rfl, (.refl _)⟩, rfl, trivial⟩,  trivial⟩ (doneA (.inr rfl) rfl ⟨trivial, trivial⟩ (.refl _) hasNil))
      · have h26 := cond_neg c55 h26
        refine AWc.skip ?_
        refine AWc.rg hmix rfl rfl ?_
        refine RegV.p0 rfl rfl rfl ?_
        refine RegV.p0 (v := (.d (.int .i64 (IntKind.i64.wrap (y26_1 + (1 : Int)))))) rfl rfl rfl ?_
        refine RegV.p0 rfl rfl rfl ?_
        refine RegV.nil0 ?_
        exact ⟨(IntKind.i64.wrap (y26_1 + (1 : Int))), h26, ⟨rfl, [], [], rfl, rfl, ⟨⟨_, rfl, (.refl _)⟩, rfl, ⟨⟨_, rfl, (.refl _)⟩, rfl, ⟨⟨_, rfl, (.refl _)⟩, rfl, ⟨⟨_, rfl, (.refl _)⟩, rfl, trivial⟩⟩⟩⟩,  trivial⟩⟩
    · have h26 := cond_neg c36 h26
      cases h26
      dsimp only at h
      refine AWc.exit ?_
      refine inBlk_eq ?_
      refine AWc.seq ?_
      refine AWc.rg hmix rfl rfl ?_
      refine RegV.p0 rfl rfl rfl ?_
      refine RegV.nil0 ?_
      have hr := Option.some.inj h
      subst hr
      exact AWc.ret (canQ (N := 30) (k := 0) (l' := [(6, (.d (.bool true)))]) (H' := []) rfl ⟨rfl, [], [], rfl, rfl, ⟨⟨_, rfl, (.refl _)⟩, rfl, trivial⟩,  trivial⟩ (doneA (.inr rfl) rfl ⟨trivial, trivial⟩ (.refl _) hasNil))
/-- courant/courantlaw22.pairs -/
def C76 (N : Nat → Nat) : AFunc := { n := 8, params := 2, res := [.tmp 4], body :=
 (.seq (.region false [⟨(some 4), .mv (.k (.d (.bool false))), none, []⟩])
  (.seq (.region false [⟨(some 5), .mv (.t 0), none, []⟩,
    ⟨(some 6), .mv (.t 1), none, []⟩,
    ⟨(some 7), .call (.k (.d (.fn (N 105)))) [(.t 5), (.t 6), (.k (.d (.fn (N 106))))], none, [0, 1]⟩,
    ⟨(some 4), .mv (.t 7), none, [2, 0, 1]⟩])
   .ret)) }
def HC76 (P : Program) (N : Nat → Nat) : Prop := HasF P (N 76) (C76 N) ∧ HC105 P N
def f76 (k : Nat) (a0 : (List TPair)) (a1 : (List TPair)) : Option Bool := (f105 k a0 a1).bind fun r10 => some r10
theorem F76 {P : Program} {N : Nat → Nat} (hmix : P.follows .mixedOrders = true) (hc : HC76 P N) {k : Nat} {a0 : (List TPair)} {a1 : (List TPair)} {r : Bool} (h : f76 k a0 a1 = some r) :
    ACalls P (N 76) [(.d (.sl (List.map TPair.enc a0))), (.d (.sl (List.map TPair.enc a1)))] [] (.d (.bool r)) [] := by
  refine acalls_canon (F := C76 N) hc.1 0 0 rfl ?_
  unfold f76 at h
  dsimp only [C76, startL]
  refine AWc.seq ?_
  refine AWc.rg hmix rfl rfl ?_
  refine RegV.p0 rfl rfl rfl ?_
  refine RegV.nil0 ?_
  refine AWc.seq ?_
  refine AWc.rg hmix rfl rfl ?_
  refine RegV.p0 rfl rfl rfl ?_
  refine RegV.p0 rfl rfl rfl ?_
  obtain ⟨r10, e10, h⟩ := bind_some h
  refine RegV.call0 (F105 hmix hc.2 e10) rfl rfl rfl rfl (.cons (.refl _) (.cons (.refl _) (.cons (.refl _) .nil))) rfl ?_
  refine RegV.p0 rfl rfl rfl ?_
  refine RegV.nil0 ?_
  have hr := Option.some.inj h
  subst hr
  exact AWc.ret (canQ (N := 8) (k := 0) (l' := [(4, (.d (.bool r10)))]) (H' := []) rfl ⟨rfl, [], [], rfl, rfl, ⟨⟨_, rfl, (.refl _)⟩, rfl, trivial⟩,  trivial⟩ (doneA (.inr rfl) rfl ⟨trivial, trivial⟩ (.refl _) hasNil))
end Go.Proofs.Abs
