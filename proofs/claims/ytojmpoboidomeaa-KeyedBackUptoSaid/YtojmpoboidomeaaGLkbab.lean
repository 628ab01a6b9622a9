/- Written by gen.py: functions of the program as Lean functions, and that the code comes to them. -/
import Derived.Test.YtojmpoboidomeaaGLkba
set_option linter.unusedVariables false
set_option linter.unusedSimpArgs false
set_option maxRecDepth 100000
set_option maxHeartbeats 4000000
namespace Go.Proofs.Abs
open Go
/-- courant/keyed.Take -/
def C78 (N : Nat → Nat) : AFunc := { n := 48, params := 1, res := [.tmp 2, .tmp 3], body :=
 (.seq (.region false [⟨(some 2), .mv (.k .nils), none, []⟩,
   ⟨(some 3), .mv (.k (.d (.int .i64 0))), none, [0]⟩])
  (.seq (.region false [⟨(some 10), .mv (.t 0), none, []⟩,
    ⟨(some 11), .call (.k (.d (.fn (N 30)))) [(.t 10)], none, [0]⟩,
    ⟨(some 4), .mv (.t 11), none, [1, 0]⟩])
   (.seq (.region false [⟨(some 12), .mv (.t 4), none, []⟩,
     ⟨(some 13), .call (.k (.d (.fn (N 40)))) [(.t 12)], none, [0]⟩,
     ⟨(some 5), .mv (.t 13), none, [1, 0]⟩])
    (.seq (.block 0 (.seq (.region false [⟨(some 15), .mv (.t 4), none, []⟩,
        ⟨(some 16), .call (.k (.d (.fn (N 42)))) [(.t 15)], none, [0]⟩,
        ⟨(some 17), .bin .neq (.t 16) (.k (.d (.int .i64 0))), none, [1]⟩,
        ⟨(some 14), .mv (.t 17), none, [2, 1]⟩])
       (.cond (.t 14) (.seq (.region false [⟨(some 18), .mv (.t 4), none, []⟩,
          ⟨(some 19), .call (.k (.d (.fn (N 42)))) [(.t 18)], none, [0]⟩,
          ⟨(some 2), .mv (.k .nils), none, [1]⟩,
          ⟨(some 3), .mv (.t 19), none, [1, 2, 0]⟩])
         .ret)
        (.seq (.region false [⟨(some 21), .mv (.t 5), none, []⟩,
          ⟨(some 22), .bin .lss (.t 21) (.k (.d (.int .i64 0))), none, [0]⟩,
          ⟨(some 20), .mv (.t 22), none, [1]⟩])
         (.cond (.t 20) (.seq (.region false [⟨(some 2), .mv (.k .nils), none, []⟩,
            ⟨(some 3), .mv (.k (.d (.int .i64 4))), none, [0]⟩])
           .ret)
          (.seq (.region false [⟨(some 24), .mv (.t 5), none, []⟩,
            ⟨(some 25), .bin .gtr (.t 24) (.k (.d (.int .i64 10000))), none, [0]⟩,
            ⟨(some 23), .mv (.t 25), none, [1]⟩])
           (.cond (.t 23) (.seq (.region false [⟨(some 2), .mv (.k .nils), none, []⟩,
              ⟨(some 3), .mv (.k (.d (.int .i64 5))), none, [0]⟩])
             .ret)
            (.skip))))))))
     (.seq (.region false [⟨(some 6), .mv (.k .nils), none, []⟩])
      (.seq (.seq (.region false [⟨(some 26), .mv (.t 5), none, []⟩,
         ⟨(some 27), .mv (.k (.d (.int .i64 0))), none, []⟩])
        (.block 1 (.loop (.seq (.region false [⟨(some 28), .bin .lss (.t 27) (.t 26), none, []⟩])
           (.seq (.cond (.t 28) (.skip)
             (.exit 1))
            (.seq (.block 2 (.seq (.region false [⟨(some 30), .mv (.t 4), none, []⟩,
                ⟨(some 31), .call (.k (.d (.fn (N 107)))) [(.t 30)], none, [0]⟩,
                ⟨(some 29), .mv (.t 31), none, [1]⟩,
                ⟨(some 32), .ext (.t 29) 0, none, [2]⟩,
                ⟨(some 33), .ext (.t 29) 1, none, [2]⟩,
                ⟨(some 7), .alloc [(.str []), (.sl []), (.bool false)], none, []⟩,
                ⟨none, .store (.t 7) (.t 32) 3, none, [5, 3, 1, 0, 2]⟩,
                ⟨(some 8), .mv (.t 33), none, [4, 6, 0, 1, 2, 3, 5]⟩])
               (.seq (.seq (.region false [⟨(some 34), .mv (.t 8), none, []⟩,
                  ⟨(some 35), .bin .neq (.t 34) (.k (.d (.int .i64 0))), none, [0]⟩])
                 (.cond (.t 35) (.seq (.region false [⟨(some 36), .mv (.t 8), none, []⟩,
                    ⟨(some 2), .mv (.k .nils), none, []⟩,
                    ⟨(some 3), .mv (.t 36), none, [0, 1]⟩])
                   .ret)
                  (.skip)))
                (.region false [⟨(some 37), .mv (.t 6), none, []⟩,
                 ⟨(some 38), .load (.t 7) 3 true, none, []⟩,
                 ⟨(some 39), .bslice 1 3 [(.str []), (.sl []), (.bool false)] [(0, (.t 38))], none, [1]⟩,
                 ⟨(some 40), .app (.t 37) (.t 39) 3 48 [(.str []), (.sl []), (.bool false)], none, [0, 2]⟩,
                 ⟨(some 6), .mv (.t 40), none, [3, 0, 1, 2]⟩]))))
             (.region false [⟨(some 41), .bin .add (.t 27) (.k (.d (.int .i64 1))), none, []⟩,
              ⟨(some 27), .mv (.t 41), none, [0]⟩])))))))
       (.seq (.seq (.region false [⟨(some 42), .mv (.t 4), none, []⟩,
          ⟨(some 43), .call (.k (.d (.fn (N 43)))) [(.t 42)], none, [0]⟩,
          ⟨(some 9), .mv (.t 43), none, [1, 0]⟩])
         (.seq (.region false [⟨(some 44), .mv (.t 9), none, []⟩,
           ⟨(some 45), .bin .neq (.t 44) (.k (.d (.int .i64 0))), none, [0]⟩])
          (.cond (.t 45) (.seq (.region false [⟨(some 46), .mv (.t 9), none, []⟩,
             ⟨(some 2), .mv (.k .nils), none, []⟩,
             ⟨(some 3), .mv (.t 46), none, [0, 1]⟩])
            .ret)
           (.skip))))
        (.seq (.region false [⟨(some 47), .mv (.t 6), none, []⟩,
          ⟨(some 2), .mv (.t 47), none, [0]⟩,
          ⟨(some 3), .mv (.k (.d (.int .i64 0))), none, [1, 0]⟩])
         .ret)))))))) }
def HC78 (P : Program) (N : Nat → Nat) : Prop := HasF P (N 78) (C78 N) ∧ HC30 P N ∧ HC40 P N ∧ HC42 P N ∧ HC107 P N ∧ HC43 P N
def f78_j122 (k : Nat) (a0 : (List UInt8)) (j122_1 : (List TPair)) (j122_2 : Int) (j122_3 : Int) : Option ((List TPair) × Int) := (f43 k a0 j122_2 j122_3).bind fun r127 => cond (decide (r127 ≠ (0 : Int))) (some (([] : List TPair), r127)) (some (j122_1, (0 : Int)))
def f78_l73 (r16 : (Int × Int × Int)) (a0 : (List UInt8)) : Nat → (List TPair) → Int → Int → Int → Option (LR2 ((List TPair) × Int × Int) Unit ((List TPair) × Int))
  | 0, _, _, _, _ => none
  | k + 1, y73_1, y73_2, y73_3, y73_4 => cond (decide (y73_2 < r16.1)) ((f107 k a0 y73_3 y73_4).bind fun r89 => cond (decide (r89.1 ≠ (0 : Int))) (some (.r (([] : List TPair), r89.1))) (gd ((y73_1.length + ([(TPair.mk r89.2.1 r89.2.2.1 r89.2.2.2.1)] : List TPair).length) * 2 * 48 ≤ 281474976710656) (f78_l73 r16 a0 k (y73_1 ++ ([(TPair.mk r89.2.1 r89.2.2.1 r89.2.2.2.1)] : List TPair)) (IntKind.i64.wrap (y73_2 + (1 : Int))) r89.2.2.2.2.1 r89.2.2.2.2.2))) (some (.b0 (y73_1, y73_3, y73_4)))
def f78 (k : Nat) (a0 : (List UInt8)) : Option ((List TPair) × Int) := (f30 k a0).bind fun r10 => (f40 k a0 (0 : Int) (0 : Int)).bind fun r16 => (f42 k a0 r16.2.1 r16.2.2).bind fun r24 => cond (decide (r16.2.2 ≠ (0 : Int))) ((f42 k a0 r16.2.1 r16.2.2).bind fun r32 => some (([] : List TPair), r16.2.2)) (cond (decide (r16.1 < (0 : Int))) (some (([] : List TPair), (4 : Int))) (cond (decide (r16.1 > (10000 : Int))) (some (([] : List TPair), (5 : Int))) ((f78_l73 r16 a0 k ([] : List TPair) (0 : Int) r16.2.1 r16.2.2).bind fun o73 => (match o73 with | .b0 (x73_1, x73_2, x73_3) => f78_j122 k a0 x73_1 x73_2 x73_3 | .r x => some x | _ => none))))
theorem F78 {P : Program} {N : Nat → Nat} (hmix : P.follows .mixedOrders = true) (hc : HC78 P N) {k : Nat} {a0 : (List UInt8)} {r : ((List TPair) × Int)} (h : f78 k a0 = some r) :
    ACalls P (N 78) [(.d (.sl (List.map byteD a0)))] [] (.tup [(.ap 0 3 (List.map TPair.enc r.1)), (.d (.int .i64 r.2))]) [(0, (.tok ((List.map TPair.enc r.1).length * 3)))] := by
  refine acalls_canon (F := C78 N) hc.1 0 1 rfl ?_
  unfold f78 at h
  dsimp only [C78, startL]
  refine AWc.seq ?_
  refine AWc.rg hmix rfl rfl ?_
  refine RegV.p0 rfl rfl rfl ?_
  refine RegV.p0 rfl rfl rfl ?_
  refine RegV.nil0 ?_
  refine AWc.seq ?_
  refine AWc.rg hmix rfl rfl ?_
  refine RegV.p0 rfl rfl rfl ?_
  obtain ⟨r10, e10, h⟩ := bind_some h
  refine RegV.callS (q := false) (H' := [(0, (.cells [(.d (.sl (List.map byteD a0))), (.d (.int .i64 (0 : Int))), (.d (.int .i64 (0 : Int)))]))]) (c' := 1) (show ACalls P (N 30) [(.d (.sl (List.map byteD a0)))] [] (.ptr 0 0) [(0, (.cells [(.d (.sl (List.map byteD a0))), (.d (.int .i64 (0 : Int))), (.d (.int .i64 (0 : Int)))]))] from ACalls.use (F30 hmix hc.2.1 e10) [(0, 0)] 1 rfl) rfl rfl rfl rfl (.cons (.refl _) .nil) (.refl _) (fun h => by cases h) rfl hasNil rfl rfl rfl rfl ?_
  refine RegV.p0 rfl rfl rfl ?_
  refine RegV.nil0 ?_
  refine AWc.seq ?_
  refine AWc.rg hmix rfl rfl ?_
  refine RegV.p0 rfl rfl rfl ?_
  obtain ⟨r16, e16, h⟩ := bind_some h
  refine RegV.callS (q := false) (H' := [(0, (.cells [(.d (.sl (List.map byteD a0))), (.d (.int .i64 r16.2.1)), (.d (.int .i64 r16.2.2))]))]) (c' := 1) (show ACalls P (N 40) [(.ptr 0 0)] [(0, (.cells [(.d (.sl (List.map byteD a0))), (.d (.int .i64 (0 : Int))), (.d (.int .i64 (0 : Int)))]))] (.d (.int .i64 r16.1)) [(0, (.cells [(.d (.sl (List.map byteD a0))), (.d (.int .i64 r16.2.1)), (.d (.int .i64 r16.2.2))]))] from ACalls.use (F40 hmix hc.2.2.1 e16) [(0, 0)] 1 rfl) rfl rfl rfl rfl (.cons (.refl _) .nil) (.refl _) (fun h => by cases h) rfl (hasCons rfl hasNil) rfl rfl rfl rfl ?_
  refine RegV.p0 rfl rfl rfl ?_
  refine RegV.nil0 ?_
  refine AWc.seq ?_
  refine AWc.block ?_
  refine AWc.seq ?_
  refine AWc.rg hmix rfl rfl ?_
  refine RegV.p0 rfl rfl rfl ?_
  obtain ⟨r24, e24, h⟩ := bind_some h
  refine RegV.callS (q := true) (H' := [(0, (.cells [(.d (.sl (List.map byteD a0))), (.d (.int .i64 r16.2.1)), (.d (.int .i64 r16.2.2))]))]) (c' := 1) (show ACalls P (N 42) [(.ptr 0 0)] [(0, (.cells [(.d (.sl (List.map byteD a0))), (.d (.int .i64 r16.2.1)), (.d (.int .i64 r16.2.2))]))] (.d (.int .i64 r16.2.2)) [(0, (.cells [(.d (.sl (List.map byteD a0))), (.d (.int .i64 r16.2.1)), (.d (.int .i64 r16.2.2))]))] from ACalls.use (F42 hmix hc.2.2.2.1 e24) [(0, 0)] 1 rfl) rfl rfl rfl rfl (.cons (.refl _) .nil) (.refl _) (fun _ => rfl) rfl (hasCons rfl hasNil) rfl rfl rfl rfl ?_
  refine RegV.p0 (v := (.d (.bool (decide (r16.2.2 ≠ (0 : Int)))))) rfl rfl rfl ?_
  refine RegV.p0 rfl rfl rfl ?_
  refine RegV.nil0 ?_
  refine AWc.cond rfl (fun c27 => ?_) (fun c27 => ?_)
  · have h := cond_pos c27 h
    refine AWc.seq ?_
    refine AWc.rg hmix rfl rfl ?_
    refine RegV.p0 rfl rfl rfl ?_
    obtain ⟨r32, e32, h⟩ := bind_some h
    refine RegV.callS (q := true) (H' := [(0, (.cells [(.d (.sl (List.map byteD a0))), (.d (.int .i64 r16.2.1)), (.d (.int .i64 r16.2.2))]))]) (c' := 1) (show ACalls P (N 42) [(.ptr 0 0)] [(0, (.cells [(.d (.sl (List.map byteD a0))), (.d (.int .i64 r16.2.1)), (.d (.int .i64 r16.2.2))]))] (.d (.int .i64 r16.2.2)) [(0, (.cells [(.d (.sl (List.map byteD a0))), (.d (.int .i64 r16.2.1)), (.d (.int .i64 r16.2.2))]))] from ACalls.use (F42 hmix hc.2.2.2.1 e32) [(0, 0)] 1 rfl) rfl rfl rfl rfl (.cons (.refl _) .nil) (.refl _) (fun _ => rfl) rfl (hasCons rfl hasNil) rfl rfl rfl rfl ?_
    refine RegV.p0 rfl rfl rfl ?_
    refine RegV.p0 rfl rfl rfl ?_
    refine RegV.nil0 ?_
    have hr := Option.some.inj h
    subst hr
    exact AWc.ret (canQ (N := 48) (k := 1) (l' := [(2, (.ap 0 3 (List.map TPair.enc ([] : List TPair)))), (3, (.d (.int .i64 r16.2.2)))]) (H' := [(0, (.tok ((List.map TPair.enc ([] : List TPair)).length * 3)))]) rfl ⟨rfl, [.tok 0], [(0, 1)], rfl, rfl, ⟨⟨_, rfl, .nil⟩, rfl, ⟨⟨_, rfl, (.refl _)⟩, rfl, trivial⟩⟩, ⟨⟨_, rfl, (.refl _)⟩, rfl, rfl, trivial⟩⟩ (doneA (.inr rfl) rfl ⟨trivial, ⟨trivial, trivial⟩⟩ (.refl _) (hasCons rfl hasNil)))
  · have h := cond_neg c27 h
    refine AWc.seq ?_
    refine AWc.rg hmix rfl rfl ?_
    refine RegV.p0 rfl rfl rfl ?_
    refine RegV.p0 (v := (.d (.bool (decide (r16.1 < (0 : Int)))))) rfl rfl rfl ?_
    refine RegV.p0 rfl rfl rfl ?_
    refine RegV.nil0 ?_
    refine AWc.cond rfl (fun c42 => ?_) (fun c42 => ?_)
    · have h := cond_pos c42 h
      refine AWc.seq ?_
      refine AWc.rg hmix rfl rfl ?_
      refine RegV.p0 rfl rfl rfl ?_
      refine RegV.p0 rfl rfl rfl ?_
      refine RegV.nil0 ?_
      have hr := Option.some.inj h
      subst hr
      exact AWc.ret (canQ (N := 48) (k := 1) (l' := [(2, (.ap 0 3 (List.map TPair.enc ([] : List TPair)))), (3, (.d (.int .i64 (4 : Int))))]) (H' := [(0, (.tok ((List.map TPair.enc ([] : List TPair)).length * 3)))]) rfl ⟨rfl, [.tok 0], [(0, 1)], rfl, rfl, ⟨⟨_, rfl, .nil⟩, rfl, ⟨⟨_, rfl, (.refl _)⟩, rfl, trivial⟩⟩, ⟨⟨_, rfl, (.refl _)⟩, rfl, rfl, trivial⟩⟩ (doneA (.inr rfl) rfl ⟨trivial, ⟨trivial, trivial⟩⟩ (.refl _) (hasCons rfl hasNil)))
    · have h := cond_neg c42 h
      refine AWc.seq ?_
      refine AWc.rg hmix rfl rfl ?_
      refine RegV.p0 rfl rfl rfl ?_
      refine RegV.p0 (v := (.d (.bool (decide (r16.1 > (10000 : Int)))))) rfl rfl rfl ?_
      refine RegV.p0 rfl rfl rfl ?_
      refine RegV.nil0 ?_
      refine AWc.cond rfl (fun c55 => ?_) (fun c55 => ?_)
      · have h := cond_pos c55 h
        refine AWc.seq ?_
        refine AWc.rg hmix rfl rfl ?_
        refine RegV.p0 rfl rfl rfl ?_
        refine RegV.p0 rfl rfl rfl ?_
        refine RegV.nil0 ?_
        have hr := Option.some.inj h
        subst hr
        exact AWc.ret (canQ (N := 48) (k := 1) (l' := [(2, (.ap 0 3 (List.map TPair.enc ([] : List TPair)))), (3, (.d (.int .i64 (5 : Int))))]) (H' := [(0, (.tok ((List.map TPair.enc ([] : List TPair)).length * 3)))]) rfl ⟨rfl, [.tok 0], [(0, 1)], rfl, rfl, ⟨⟨_, rfl, .nil⟩, rfl, ⟨⟨_, rfl, (.refl _)⟩, rfl, trivial⟩⟩, ⟨⟨_, rfl, (.refl _)⟩, rfl, rfl, trivial⟩⟩ (doneA (.inr rfl) rfl ⟨trivial, ⟨trivial, trivial⟩⟩ (.refl _) (hasCons rfl hasNil)))
      · have h := cond_neg c55 h
        refine AWc.skip ?_
        refine AWc.seq ?_
        refine AWc.rg hmix rfl rfl ?_
        refine RegV.p0 rfl rfl rfl ?_
        refine RegV.nil0 ?_
        refine AWc.seqS (N := 48) 2 (fun (z : ((List TPair) × Int × Int)) => [(4, (.ptr 0 0)), (6, (.ap 1 3 (List.map TPair.enc z.1)))]) (fun z => [(0, (.cells [(.d (.sl (List.map byteD a0))), (.d (.int .i64 z.2.1)), (.d (.int .i64 z.2.2))])), (1, (.tok ((List.map TPair.enc z.1).length * 3)))]) (fun z => f78_j122 k a0 z.1 z.2.1 z.2.2 = some r) rfl_le ?_ ?_
        · refine AWc.seq ?_
          refine AWc.rg hmix rfl rfl ?_
          refine RegV.p0 rfl rfl rfl ?_
          refine RegV.p0 rfl rfl rfl ?_
          refine RegV.nil0 ?_
          obtain ⟨o73, h73, h⟩ := bind_some h
          refine AWc.block ?_
          refine AWc.loopK (N := 48) 2 (fun (x : ((List TPair) × Int × Int × Int)) => [(4, (.ptr 0 0)), (6, (.ap 1 3 (List.map TPair.enc x.1))), (26, (.d (.int .i64 r16.1))), (27, (.d (.int .i64 x.2.1)))]) (fun x => [(0, (.cells [(.d (.sl (List.map byteD a0))), (.d (.int .i64 x.2.2.1)), (.d (.int .i64 x.2.2.2))])), (1, (.tok ((List.map TPair.enc x.1).length * 3)))]) (fun k x => f78_l73 r16 a0 k x.1 x.2.1 x.2.2.1 x.2.2.2 = some o73) k (([] : List TPair), (0 : Int), r16.2.1, r16.2.2) rfl_le (fun x hx => by cases hx) h73 ⟨rfl, [.tok 0], [(1, 1)], rfl, rfl, ⟨⟨_, rfl, (.refl _)⟩, rfl, ⟨⟨_, rfl, .nil⟩, rfl, ⟨⟨_, rfl, (.refl _)⟩, rfl, ⟨⟨_, rfl, (.refl _)⟩, rfl, trivial⟩⟩⟩⟩, ⟨⟨_, rfl, (.refl _)⟩, rfl, rfl, ⟨⟨_, rfl, (.refl _)⟩, rfl, rfl, trivial⟩⟩⟩ ?_
          clear h73
          intro k
          rintro ⟨y73_1, y73_2, y73_3, y73_4⟩ h73
          dsimp only at h73 ⊢
          rw [f78_l73] at h73
          refine AWc.seq ?_
          refine AWc.rg hmix rfl rfl ?_
          refine RegV.p0 (v := (.d (.bool (decide (y73_2 < r16.1))))) rfl rfl rfl ?_
          refine RegV.nil0 ?_
          refine AWc.seq ?_
          refine AWc.cond rfl (fun c80 => ?_) (fun c80 => ?_)
          · have h73 := cond_pos c80 h73
            refine AWc.skip ?_
            refine AWc.seq ?_
            refine AWc.block ?_
            refine AWc.seq ?_
            refine AWc.rg hmix rfl rfl ?_
            refine RegV.p0 rfl rfl rfl ?_
            obtain ⟨r89, e89, h73⟩ := bind_some h73
            refine RegV.callS (q := false) (H' := [(0, (.cells [(.d (.sl (List.map byteD a0))), (.d (.int .i64 r89.2.2.2.2.1)), (.d (.int .i64 r89.2.2.2.2.2))])), (1, (.tok ((List.map TPair.enc y73_1).length * 3)))]) (c' := 2) (show ACalls P (N 107) [(.ptr 0 0)] [(0, (.cells [(.d (.sl (List.map byteD a0))), (.d (.int .i64 y73_3)), (.d (.int .i64 y73_4))]))] (.tup [(.d (.agg [(.str r89.2.1), (.sl (List.map byteD r89.2.2.1)), (.bool r89.2.2.2.1)])), (.d (.int .i64 r89.1))]) [(0, (.cells [(.d (.sl (List.map byteD a0))), (.d (.int .i64 r89.2.2.2.2.1)), (.d (.int .i64 r89.2.2.2.2.2))]))] from ACalls.use (F107 hmix hc.2.2.2.2.1 e89) [(0, 0)] 1 rfl) rfl rfl rfl rfl (.cons (.refl _) .nil) (.refl _) (fun h => by cases h) rfl (hasCons rfl hasNil) rfl rfl rfl rfl ?_
            refine RegV.p0 rfl rfl rfl ?_
            refine RegV.p0 rfl rfl rfl ?_
            refine RegV.p0 rfl rfl rfl ?_
            refine RegV.evS (own := false) (v := (.ptr 2 0)) (H' := [(2, (.cells [(.d (.str ([] : List UInt8))), .nils, (.d (.bool false))])), (0, (.cells [(.d (.sl (List.map byteD a0))), (.d (.int .i64 r89.2.2.2.2.1)), (.d (.int .i64 r89.2.2.2.2.2))])), (1, (.tok ((List.map TPair.enc y73_1).length * 3)))]) (c' := 3) rfl rfl trivial rfl rfl rfl rfl rfl rfl ?_
            refine RegV.evN (own := false) (H' := [(2, (.cells [(.d (.str r89.2.1)), (.d (.sl (List.map byteD r89.2.2.1))), (.d (.bool r89.2.2.2.1))])), (0, (.cells [(.d (.sl (List.map byteD a0))), (.d (.int .i64 r89.2.2.2.2.1)), (.d (.int .i64 r89.2.2.2.2.2))])), (1, (.tok ((List.map TPair.enc y73_1).length * 3)))]) (c' := 3) rfl rfl (by exact ⟨rfl, Nat.le_of_ble_eq_true rfl, rfl⟩) rfl rfl rfl rfl ?_
            refine RegV.p0 rfl rfl rfl ?_
            refine RegV.nil0 ?_
            refine AWc.seq ?_
            refine AWc.seq ?_
            refine AWc.rg hmix rfl rfl ?_
            refine RegV.p0 rfl rfl rfl ?_
            refine RegV.p0 (v := (.d (.bool (decide (r89.1 ≠ (0 : Int)))))) rfl rfl rfl ?_
            refine RegV.nil0 ?_
            refine AWc.cond rfl (fun c102 => ?_) (fun c102 => ?_)
            · have h73 := cond_pos c102 h73
              refine AWc.seq ?_
              refine AWc.rg hmix rfl rfl ?_
              refine RegV.p0 rfl rfl rfl ?_
              refine RegV.p0 rfl rfl rfl ?_
              refine RegV.p0 rfl rfl rfl ?_
              refine RegV.nil0 ?_
              cases h73
              dsimp only at h
              have hr := Option.some.inj h
              subst hr
              exact AWc.ret (canQ (N := 48) (k := 1) (l' := [(2, (.ap 0 3 (List.map TPair.enc ([] : List TPair)))), (3, (.d (.int .i64 r89.1)))]) (H' := [(0, (.tok ((List.map TPair.enc ([] : List TPair)).length * 3)))]) rfl ⟨rfl, [.tok 0], [(0, 3)], rfl, rfl, ⟨⟨_, rfl, .nil⟩, rfl, ⟨⟨_, rfl, (.refl _)⟩, rfl, trivial⟩⟩, ⟨⟨_, rfl, (.refl _)⟩, rfl, rfl, trivial⟩⟩ (doneA (.inr rfl) rfl ⟨trivial, ⟨trivial, trivial⟩⟩ (.refl _) (hasCons rfl hasNil)))
            · have h73 := cond_neg c102 h73
              refine AWc.skip ?_
              refine AWc.rg hmix rfl rfl ?_
              refine RegV.p0 rfl rfl rfl ?_
              refine RegV.ld (v := (.d (.agg [(.str r89.2.1), (.sl (List.map byteD r89.2.2.1)), (.bool r89.2.2.2.1)]))) (H' := [(2, (.cells [(.d (.str r89.2.1)), (.d (.sl (List.map byteD r89.2.2.1))), (.d (.bool r89.2.2.2.1))])), (0, (.cells [(.d (.sl (List.map byteD a0))), (.d (.int .i64 r89.2.2.2.2.1)), (.d (.int .i64 r89.2.2.2.2.2))])), (1, (.tok ((List.map TPair.enc y73_1).length * 3)))]) rfl rfl (Nat.le_of_ble_eq_true rfl) rfl rfl rfl rfl rfl ?_
              refine RegV.p1 (v := (.d (.sl (List.map TPair.enc ([(TPair.mk r89.2.1 r89.2.2.1 r89.2.2.2.1)] : List TPair))))) rfl rfl (by exact ⟨rfl, Nat.le_of_ble_eq_true rfl, mapLen (e := TPair.enc) (xs := ([(TPair.mk r89.2.1 r89.2.2.1 r89.2.2.2.1)] : List TPair)) (z := 3) (fun _ => rfl)⟩) rfl rfl ?_
              obtain ⟨b116, h73⟩ := gd_some h73
              refine RegV.appA (xs := y73_1) (ys := ([(TPair.mk r89.2.1 r89.2.2.1 r89.2.2.2.1)] : List TPair)) (e := TPair.enc) (H1 := [(2, (.cells [(.d (.str r89.2.1)), (.d (.sl (List.map byteD r89.2.2.1))), (.d (.bool r89.2.2.2.1))])), (0, (.cells [(.d (.sl (List.map byteD a0))), (.d (.int .i64 r89.2.2.2.2.1)), (.d (.int .i64 r89.2.2.2.2.2))]))]) rfl rfl rfl rfl (fun _ => rfl) rfl rfl b116 rfl rfl rfl ?_
              refine RegV.p0 rfl rfl rfl ?_
              refine RegV.nil0 ?_
              refine AWc.rg hmix rfl rfl ?_
              refine RegV.p0 (v := (.d (.int .i64 (IntKind.i64.wrap (y73_2 + (1 : Int)))))) rfl rfl rfl ?_
              refine RegV.p0 rfl rfl rfl ?_
              refine RegV.nil0 ?_
              exact ⟨((y73_1 ++ ([(TPair.mk r89.2.1 r89.2.2.1 r89.2.2.2.1)] : List TPair)), (IntKind.i64.wrap (y73_2 + (1 : Int))), r89.2.2.2.2.1, r89.2.2.2.2.2), h73, ⟨rfl, [], [(1, 3)], rfl, rfl, ⟨⟨_, rfl, (.refl _)⟩, rfl, ⟨⟨_, rfl, (.refl _)⟩, rfl, ⟨⟨_, rfl, (.refl _)⟩, rfl, ⟨⟨_, rfl, (.refl _)⟩, rfl, trivial⟩⟩⟩⟩, ⟨⟨_, rfl, (.refl _)⟩, rfl, rfl, ⟨⟨_, rfl, (.refl _)⟩, rfl, rfl, trivial⟩⟩⟩⟩
          · have h73 := cond_neg c80 h73
            cases h73
            dsimp only at h
            refine AWc.exit ?_
            refine inBlk_eq ?_
            exact ⟨(y73_1, y73_3, y73_4), h, ⟨rfl, [], [], rfl, rfl, ⟨⟨_, rfl, (.refl _)⟩, rfl, ⟨⟨_, rfl, (.refl _)⟩, rfl, trivial⟩⟩, ⟨⟨_, rfl, (.refl _)⟩, rfl, rfl, ⟨⟨_, rfl, (.refl _)⟩, rfl, rfl, trivial⟩⟩⟩⟩
        · rintro ⟨j122_1, j122_2, j122_3⟩ h
          dsimp only at h ⊢
          unfold f78_j122 at h
          refine AWc.seq ?_
          refine AWc.seq ?_
          refine AWc.rg hmix rfl rfl ?_
          refine RegV.p0 rfl rfl rfl ?_
          obtain ⟨r127, e127, h⟩ := bind_some h
          refine RegV.callS (q := true) (H' := [(0, (.cells [(.d (.sl (List.map byteD a0))), (.d (.int .i64 j122_2)), (.d (.int .i64 j122_3))])), (1, (.tok ((List.map TPair.enc j122_1).length * 3)))]) (c' := 2) (show ACalls P (N 43) [(.ptr 0 0)] [(0, (.cells [(.d (.sl (List.map byteD a0))), (.d (.int .i64 j122_2)), (.d (.int .i64 j122_3))]))] (.d (.int .i64 r127)) [(0, (.cells [(.d (.sl (List.map byteD a0))), (.d (.int .i64 j122_2)), (.d (.int .i64 j122_3))]))] from ACalls.use (F43 hmix hc.2.2.2.2.2 e127) [(0, 0)] 1 rfl) rfl rfl rfl rfl (.cons (.refl _) .nil) (.refl _) (fun _ => rfl) rfl (hasCons rfl hasNil) rfl rfl rfl rfl ?_
          refine RegV.p0 rfl rfl rfl ?_
          refine RegV.nil0 ?_
          refine AWc.seq ?_
          refine AWc.rg hmix rfl rfl ?_
          refine RegV.p0 rfl rfl rfl ?_
          refine RegV.p0 (v := (.d (.bool (decide (r127 ≠ (0 : Int)))))) rfl rfl rfl ?_
          refine RegV.nil0 ?_
          refine AWc.cond rfl (fun c134 => ?_) (fun c134 => ?_)
          · have h := cond_pos c134 h
            refine AWc.seq ?_
            refine AWc.rg hmix rfl rfl ?_
            refine RegV.p0 rfl rfl rfl ?_
            refine RegV.p0 rfl rfl rfl ?_
            refine RegV.p0 rfl rfl rfl ?_
            refine RegV.nil0 ?_
            have hr := Option.some.inj h
            subst hr
            exact AWc.ret (canQ (N := 48) (k := 1) (l' := [(2, (.ap 0 3 (List.map TPair.enc ([] : List TPair)))), (3, (.d (.int .i64 r127)))]) (H' := [(0, (.tok ((List.map TPair.enc ([] : List TPair)).length * 3)))]) rfl ⟨rfl, [.tok 0], [(0, 2)], rfl, rfl, ⟨⟨_, rfl, .nil⟩, rfl, ⟨⟨_, rfl, (.refl _)⟩, rfl, trivial⟩⟩, ⟨⟨_, rfl, (.refl _)⟩, rfl, rfl, trivial⟩⟩ (doneA (.inr rfl) rfl ⟨trivial, ⟨trivial, trivial⟩⟩ (.refl _) (hasCons rfl hasNil)))
          · have h := cond_neg c134 h
            refine AWc.skip ?_
            refine AWc.seq ?_
            refine AWc.rg hmix rfl rfl ?_
            refine RegV.p0 rfl rfl rfl ?_
            refine RegV.p0 rfl rfl rfl ?_
            refine RegV.p0 rfl rfl rfl ?_
            refine RegV.nil0 ?_
            have hr := Option.some.inj h
            subst hr
            exact AWc.ret (canQ (N := 48) (k := 1) (l' := [(2, (.ap 0 3 (List.map TPair.enc j122_1))), (3, (.d (.int .i64 (0 : Int))))]) (H' := [(0, (.tok ((List.map TPair.enc j122_1).length * 3)))]) rfl ⟨rfl, [], [(0, 1)], rfl, rfl, ⟨⟨_, rfl, (.refl _)⟩, rfl, ⟨⟨_, rfl, (.refl _)⟩, rfl, trivial⟩⟩, ⟨⟨_, rfl, (.refl _)⟩, rfl, rfl, trivial⟩⟩ (doneA (.inr rfl) rfl ⟨trivial, ⟨trivial, trivial⟩⟩ (.refl _) (hasCons rfl hasNil)))
/-- courant/couranthelp.CopyBytes -/
def C97 (N : Nat → Nat) : AFunc := { n := 5, params := 1, res := [.tmp 2], body :=
 (.seq (.region false [⟨(some 2), .mv (.k .nils), none, []⟩])
  (.seq (.region false [⟨(some 3), .mv (.t 0), none, []⟩,
    ⟨(some 4), .app (.k .nils) (.t 3) 1 1 [(.int .u8 0)], none, [0]⟩,
    ⟨(some 2), .mv (.t 4), none, [1, 0]⟩])
   .ret)) }
def HC97 (P : Program) (N : Nat → Nat) : Prop := HasF P (N 97) (C97 N)
def f97 (k : Nat) (a0 : (List UInt8)) : Option Unit := gd (a0.length * 1 ≤ 281474976710656) (some ())
theorem F97 {P : Program} {N : Nat → Nat} (hmix : P.follows .mixedOrders = true) (hc : HC97 P N) {k : Nat} {a0 : (List UInt8)} {r : Unit} (h : f97 k a0 = some r) :
    ACalls P (N 97) [(.d (.sl (List.map byteD a0)))] [] (.ap 0 1 (List.map byteD a0)) [(0, (.tok ((List.map byteD a0).length * 1)))] := by
  refine acalls_canon (F := C97 N) hc 0 1 rfl ?_
  unfold f97 at h
  dsimp only [C97, startL]
  refine AWc.seq ?_
  refine AWc.rg hmix rfl rfl ?_
  refine RegV.p0 rfl rfl rfl ?_
  refine RegV.nil0 ?_
  refine AWc.seq ?_
  refine AWc.rg hmix rfl rfl ?_
  refine RegV.p0 rfl rfl rfl ?_
  obtain ⟨b9, h⟩ := gd_some h
  refine RegV.appN (ys := a0) (e := byteD) rfl rfl rfl (fun _ => rfl) rfl rfl b9 rfl rfl ?_
  refine RegV.p0 rfl rfl rfl ?_
  refine RegV.nil0 ?_
  have hr := Option.some.inj h
  subst hr
  exact AWc.ret (canQ (N := 5) (k := 1) (l' := [(2, (.ap 0 1 (List.map byteD a0)))]) (H' := [(0, (.tok ((List.map byteD a0).length * 1)))]) rfl ⟨rfl, [], [], rfl, rfl, ⟨⟨_, rfl, (.refl _)⟩, rfl, trivial⟩, ⟨⟨_, rfl, (.refl _)⟩, rfl, rfl, trivial⟩⟩ (doneA (.inr rfl) rfl ⟨trivial, trivial⟩ (.refl _) (hasCons rfl hasNil)))
/-- courant/couranthelp.CopyPairs -/
def C71 (N : Nat → Nat) : AFunc := { n := 32, params := 1, res := [.tmp 2], body :=
 (.seq (.region false [⟨(some 2), .mv (.k .nils), none, []⟩])
  (.seq (.region false [⟨(some 3), .mv (.k .nils), none, []⟩])
   (.seq (.seq (.region false [⟨(some 4), .mv (.k (.d (.int .i64 0))), none, []⟩])
     (.block 0 (.loop (.seq (.seq (.region false [⟨(some 5), .mv (.t 4), none, []⟩,
          ⟨(some 6), .mv (.t 0), none, []⟩,
          ⟨(some 7), .len (.t 6), none, [1]⟩,
          ⟨(some 8), .bin .lss (.t 5) (.t 7), none, [0, 2]⟩])
         (.cond (.t 8) (.skip)
          (.exit 0)))
        (.seq (.block 1 (.region true [⟨(some 11), .mv (.t 3), none, []⟩,
           ⟨(some 12), .mv (.t 0), none, []⟩,
           ⟨(some 13), .mv (.t 4), none, []⟩,
           ⟨(some 14), .iaddr (.t 12) (.t 13) 3, none, [1, 2]⟩,
           ⟨(some 15), .faddr (.t 14) 0, none, [3]⟩,
           ⟨(some 16), .load (.t 15) 1 false, none, [4]⟩,
           ⟨(some 17), .mv (.t 0), none, []⟩,
           ⟨(some 18), .mv (.t 4), none, []⟩,
           ⟨(some 19), .iaddr (.t 17) (.t 18) 3, none, [6, 7]⟩,
           ⟨(some 20), .faddr (.t 19) 1, none, [8]⟩,
           ⟨(some 21), .load (.t 20) 1 false, none, [9]⟩,
           ⟨(some 22), .call (.k (.d (.fn (N 97)))) [(.t 21)], none, [10]⟩,
           ⟨(some 23), .mv (.t 0), none, []⟩,
           ⟨(some 24), .mv (.t 4), none, []⟩,
           ⟨(some 25), .iaddr (.t 23) (.t 24) 3, none, [12, 13]⟩,
           ⟨(some 26), .faddr (.t 25) 2, none, [14]⟩,
           ⟨(some 27), .load (.t 26) 1 false, none, [15]⟩,
           ⟨(some 28), .build [(.str []), (.sl []), (.bool false)] [(0, 1, (.t 16)), (1, 1, (.t 22)), (2, 1, (.t 27))], none, [5, 11, 16]⟩,
           ⟨(some 29), .bslice 1 3 [(.str []), (.sl []), (.bool false)] [(0, (.t 28))], none, [17]⟩,
           ⟨(some 30), .app (.t 11) (.t 29) 3 48 [(.str []), (.sl []), (.bool false)], none, [0, 18, 11]⟩,
           ⟨(some 3), .mv (.t 30), none, [19, 0, 1, 2, 3, 4, 5, 6, 7, 8, 9, 10, 11, 12, 13, 14, 15, 16, 17, 18]⟩]))
         (.region false [⟨(some 9), .mv (.t 4), none, []⟩,
          ⟨(some 10), .bin .add (.t 9) (.k (.d (.int .i64 1))), none, [0]⟩,
          ⟨(some 4), .mv (.t 10), none, [1, 0]⟩]))))))
    (.seq (.region false [⟨(some 31), .mv (.t 3), none, []⟩,
      ⟨(some 2), .mv (.t 31), none, [0]⟩])
     .ret)))) }
def HC71 (P : Program) (N : Nat → Nat) : Prop := HasF P (N 71) (C71 N) ∧ HC97 P N
def f71_l14 (a0 : (List TPair)) : Nat → Nat → Int → (List TPair) → Option (LR2 (Nat × (List TPair)) Unit (Nat × (List TPair)))
  | 0, _, _, _ => none
  | k + 1, y14_1, y14_2, y14_3 => cond (decide (y14_2 < ((a0.length : Nat) : Int))) (gd (0 ≤ y14_2 ∧ y14_2 < ((a0.length : Nat) : Int)) (gd (0 ≤ y14_2 ∧ y14_2 < ((a0.length : Nat) : Int)) ((f97 k ((rd a0 y14_2).fValue)).bind fun r42 => gd (0 ≤ y14_2 ∧ y14_2 < ((a0.length : Nat) : Int)) (gd (y14_1 ≤ y14_3.length ∧ (y14_1 + ([(TPair.mk ((rd a0 y14_2).fKey) ((rd a0 y14_2).fValue) ((rd a0 y14_2).fGone))] : List TPair).length) * 2 * 48 ≤ 281474976710656) (f71_l14 a0 k (y14_1 + ([(TPair.mk ((rd a0 y14_2).fKey) ((rd a0 y14_2).fValue) ((rd a0 y14_2).fGone))] : List TPair).length) (IntKind.i64.wrap (y14_2 + (1 : Int))) (List.take y14_1 y14_3 ++ ([(TPair.mk ((rd a0 y14_2).fKey) ((rd a0 y14_2).fValue) ((rd a0 y14_2).fGone))] : List TPair))))))) (some (.b0 (y14_1, y14_3)))
def f71 (k : Nat) (a0 : (List TPair)) : Option (Nat × (List TPair)) := (f71_l14 a0 k (0) (0 : Int) ([] : List TPair)).bind fun o14 => (match o14 with | .b0 (x14_1, x14_2) => some (x14_1, x14_2) | _ => none)
theorem F71 {P : Program} {N : Nat → Nat} (hmix : P.follows .mixedOrders = true) (hc : HC71 P N) {k : Nat} {a0 : (List TPair)} {r : (Nat × (List TPair))} (h : f71 k a0 = some r) :
    ACalls P (N 71) [(.d (.sl (List.map TPair.enc a0)))] [] (.row 0 3 r.1) [(0, (rowO TPair.enc r.2))] := by
  refine acalls_canon (F := C71 N) hc.1 0 1 rfl ?_
  unfold f71 at h
  dsimp only [C71, startL]
  refine AWc.seq ?_
  refine AWc.rg hmix rfl rfl ?_
  refine RegV.p0 rfl rfl rfl ?_
  refine RegV.nil0 ?_
  refine AWc.seq ?_
  refine AWc.rg hmix rfl rfl ?_
  refine RegV.p0 rfl rfl rfl ?_
  refine RegV.nil0 ?_
  refine AWc.seq ?_
  refine AWc.seq ?_
  refine AWc.rg hmix rfl rfl ?_
  refine RegV.p0 rfl rfl rfl ?_
  refine RegV.nil0 ?_
  obtain ⟨o14, h14, h⟩ := bind_some h
  refine AWc.block ?_
  refine AWc.loopK (N := 32) 1 (fun (x : (Nat × Int × (List TPair))) => [(0, (.d (.sl (List.map TPair.enc a0)))), (3, (.row 0 3 x.1)), (4, (.d (.int .i64 x.2.1)))]) (fun x => [(0, (rowO TPair.enc x.2.2))]) (fun k x => f71_l14 a0 k x.1 x.2.1 x.2.2 = some o14) k (0, (0 : Int), ([] : List TPair)) rfl_le (fun x hx => by cases hx) h14 ⟨rfl, [.rowP []], [(0, 0)], rfl, rfl, ⟨⟨_, rfl, (.refl _)⟩, rfl, ⟨⟨_, rfl, .nilRow⟩, rfl, ⟨⟨_, rfl, (.refl _)⟩, rfl, trivial⟩⟩⟩, ⟨⟨_, rfl, (.refl _)⟩, rfl, rfl, trivial⟩⟩ ?_
  clear h14
  intro k
  rintro ⟨y14_1, y14_2, y14_3⟩ h14
  dsimp only at h14 ⊢
  rw [f71_l14] at h14
  refine AWc.seq ?_
  refine AWc.seq ?_
  refine AWc.rg hmix rfl rfl ?_
  refine RegV.p0 rfl rfl rfl ?_
  refine RegV.p0 rfl rfl rfl ?_
  refine RegV.len (xs := a0) (e := TPair.enc) rfl rfl rfl rfl ?_
  refine RegV.p0 (v := (.d (.bool (decide (y14_2 < ((a0.length : Nat) : Int)))))) rfl rfl rfl ?_
  refine RegV.nil0 ?_
  refine AWc.cond rfl (fun c24 => ?_) (fun c24 => ?_)
  · have h14 := cond_pos c24 h14
    refine AWc.skip ?_
    refine AWc.seq ?_
    refine AWc.block ?_
    refine AWc.rg hmix rfl rfl ?_
    refine RegV.p0 rfl rfl rfl ?_
    refine RegV.p0 rfl rfl rfl ?_
    refine RegV.p0 rfl rfl rfl ?_
    obtain ⟨b34, h14⟩ := gd_some h14
    refine RegV.iad (xs := a0) (e := TPair.enc) rfl rfl rfl rfl (fun _ => rfl) b34 rfl ?_
    refine RegV.p0 (v := (.cp (TPair.enc (rd a0 y14_2)) 0)) rfl rfl rfl ?_
    refine RegV.p0 (v := (.d (.str (rd a0 y14_2).fKey))) rfl rfl rfl ?_
    refine RegV.p0 rfl rfl rfl ?_
    refine RegV.p0 rfl rfl rfl ?_
    obtain ⟨b39, h14⟩ := gd_some h14
    refine RegV.iad (xs := a0) (e := TPair.enc) rfl rfl rfl rfl (fun _ => rfl) b39 rfl ?_
    refine RegV.p0 (v := (.cp (TPair.enc (rd a0 y14_2)) 1)) rfl rfl rfl ?_
    refine RegV.p0 (v := (.d (.sl (List.map byteD (rd a0 y14_2).fValue)))) rfl rfl rfl ?_
    obtain ⟨r42, e42, h14⟩ := bind_some h14
    refine RegV.callS (q := false) (H' := [(1, (.tok ((List.map byteD ((rd a0 y14_2).fValue)).length * 1))), (0, (rowO TPair.enc y14_3))]) (c' := 2) (show ACalls P (N 97) [(.d (.sl (List.map byteD ((rd a0 y14_2).fValue))))] [] (.ap 1 1 (List.map byteD ((rd a0 y14_2).fValue))) [(1, (.tok ((List.map byteD ((rd a0 y14_2).fValue)).length * 1)))] from ACalls.use (F97 hmix hc.2 e42) [(0, 1)] 1 rfl) rfl rfl rfl rfl (.cons (.refl _) .nil) (.refl _) (fun h => by cases h) rfl hasNil rfl rfl rfl rfl ?_
    refine RegV.p0 rfl rfl rfl ?_
    refine RegV.p0 rfl rfl rfl ?_
    obtain ⟨b45, h14⟩ := gd_some h14
    refine RegV.iad (xs := a0) (e := TPair.enc) rfl rfl rfl rfl (fun _ => rfl) b45 rfl ?_
    refine RegV.p0 (v := (.cp (TPair.enc (rd a0 y14_2)) 2)) rfl rfl rfl ?_
    refine RegV.p0 (v := (.d (.bool (rd a0 y14_2).fGone))) rfl rfl rfl ?_
    refine RegV.p1 (v := (.d (.agg [(.str (rd a0 y14_2).fKey), (.sl (List.map byteD ((rd a0 y14_2).fValue))), (.bool (rd a0 y14_2).fGone)]))) rfl rfl (by exact ⟨⟨rfl, Nat.le_of_ble_eq_true rfl⟩, ⟨⟨rfl, Nat.le_of_ble_eq_true rfl⟩, ⟨⟨rfl, Nat.le_of_ble_eq_true rfl⟩, trivial⟩⟩⟩) rfl rfl ?_
    refine RegV.p1 (v := (.d (.sl (List.map TPair.enc ([(TPair.mk ((rd a0 y14_2).fKey) ((rd a0 y14_2).fValue) ((rd a0 y14_2).fGone))] : List TPair))))) rfl rfl (by exact ⟨rfl, Nat.le_of_ble_eq_true rfl, mapLen (e := TPair.enc) (xs := ([(TPair.mk ((rd a0 y14_2).fKey) ((rd a0 y14_2).fValue) ((rd a0 y14_2).fGone))] : List TPair)) (z := 3) (fun _ => rfl)⟩) rfl rfl ?_
    obtain ⟨b50, h14⟩ := gd_some h14
    refine RegV.appW (xs := y14_3) (ys := ([(TPair.mk ((rd a0 y14_2).fKey) ((rd a0 y14_2).fValue) ((rd a0 y14_2).fGone))] : List TPair)) (zs := (List.take y14_1 y14_3 ++ ([(TPair.mk ((rd a0 y14_2).fKey) ((rd a0 y14_2).fValue) ((rd a0 y14_2).fGone))] : List TPair))) (e := TPair.enc) (H' := [(2, (rowO TPair.enc (List.take y14_1 y14_3 ++ ([(TPair.mk ((rd a0 y14_2).fKey) ((rd a0 y14_2).fValue) ((rd a0 y14_2).fGone))] : List TPair)))), (1, (.tok ((List.map byteD ((rd a0 y14_2).fValue)).length * 1)))]) rfl rfl rfl TPair.ok rfl rfl rfl b50 rfl rfl rfl rfl rfl rfl ?_
    refine RegV.p0 rfl rfl rfl ?_
    refine RegV.nil1 (by kernel_rfl) ?_
    refine AWc.rg hmix rfl rfl ?_
    refine RegV.p0 rfl rfl rfl ?_
    refine RegV.p0 (v := (.d (.int .i64 (IntKind.i64.wrap (y14_2 + (1 : Int)))))) rfl rfl rfl ?_
    refine RegV.p0 rfl rfl rfl ?_
    refine RegV.nil0 ?_
    exact ⟨((y14_1 + ([(TPair.mk ((rd a0 y14_2).fKey) ((rd a0 y14_2).fValue) ((rd a0 y14_2).fGone))] : List TPair).length), (IntKind.i64.wrap (y14_2 + (1 : Int))), (List.take y14_1 y14_3 ++ ([(TPair.mk ((rd a0 y14_2).fKey) ((rd a0 y14_2).fValue) ((rd a0 y14_2).fGone))] : List TPair))), h14, ⟨rfl, [], [(0, 2)], rfl, rfl, ⟨⟨_, rfl, (.refl _)⟩, rfl, ⟨⟨_, rfl, (.refl _)⟩, rfl, ⟨⟨_, rfl, (.refl _)⟩, rfl, trivial⟩⟩⟩, ⟨⟨_, rfl, (.refl _)⟩, rfl, rfl, trivial⟩⟩⟩
  · have h14 := cond_neg c24 h14
    cases h14
    dsimp only at h
    refine AWc.exit ?_
    refine inBlk_eq ?_
    refine AWc.seq ?_
    refine AWc.rg hmix rfl rfl ?_
    refine RegV.p0 rfl rfl rfl ?_
    refine RegV.p0 rfl rfl rfl ?_
    refine RegV.nil0 ?_
    have hr := Option.some.inj h
    subst hr
    exact AWc.ret (canQ (N := 32) (k := 1) (l' := [(2, (.row 0 3 y14_1))]) (H' := [(0, (rowO TPair.enc y14_3))]) rfl ⟨rfl, [], [], rfl, rfl, ⟨⟨_, rfl, (.refl _)⟩, rfl, trivial⟩, ⟨⟨_, rfl, (.refl _)⟩, rfl, rfl, trivial⟩⟩ (doneA (.inr rfl) rfl ⟨trivial, trivial⟩ (.refl _) (hasCons rfl hasNil)))
/-- courant/couranthelp.Bytes -/
def C22 (N : Nat → Nat) : AFunc := { n := 10, params := 2, res := [.tmp 4], body :=
 (.seq (.region false [⟨(some 4), .mv (.k (.d (.bool false))), none, []⟩])
  (.seq (.region false [⟨(some 5), .mv (.t 0), none, []⟩,
    ⟨(some 6), .bs2s (.t 5), none, [0]⟩,
    ⟨(some 7), .mv (.t 1), none, []⟩,
    ⟨(some 8), .bs2s (.t 7), none, [2]⟩,
    ⟨(some 9), .bin .eql (.t 6) (.t 8), none, [1, 3]⟩,
    ⟨(some 4), .mv (.t 9), none, [4, 0, 1, 2, 3]⟩])
   .ret)) }
def HC22 (P : Program) (N : Nat → Nat) : Prop := HasF P (N 22) (C22 N)
def f22 (k : Nat) (a0 : (List UInt8)) (a1 : (List UInt8)) : Option Unit := some ()
theorem F22 {P : Program} {N : Nat → Nat} (hmix : P.follows .mixedOrders = true) (hc : HC22 P N) {k : Nat} {a0 : (List UInt8)} {a1 : (List UInt8)} {r : Unit} (h : f22 k a0 a1 = some r) :
    ACalls P (N 22) [(.d (.sl (List.map byteD a0))), (.d (.sl (List.map byteD a1)))] [] (.d (.bool (decide (a0 = a1)))) [] := by
  refine acalls_canon (F := C22 N) hc 0 0 rfl ?_
  unfold f22 at h
  dsimp only [C22, startL]
  refine AWc.seq ?_
  refine AWc.rg hmix rfl rfl ?_
  refine RegV.p0 rfl rfl rfl ?_
  refine RegV.nil0 ?_
  refine AWc.seq ?_
  refine AWc.rg hmix rfl rfl ?_
  refine RegV.p0 rfl rfl rfl ?_
  refine RegV.bs2s (b := a0) rfl rfl rfl ?_
  refine RegV.p0 rfl rfl rfl ?_
  refine RegV.bs2s (b := a1) rfl rfl rfl ?_
  refine RegV.p0 (v := (.d (.bool (decide (a0 = a1))))) rfl rfl rfl ?_
  refine RegV.p0 rfl rfl rfl ?_
  refine RegV.nil0 ?_
  have hr := Option.some.inj h
  subst hr
  exact AWc.ret (canQ (N := 10) (k := 0) (l' := [(4, (.d (.bool (decide (a0 = a1)))))]) (H' := []) rfl ⟨rfl, [], [], rfl, rfl, ⟨⟨_, rfl, (.refl _)⟩, rfl, trivial⟩,  trivial⟩ (doneA (.inr rfl) rfl ⟨trivial, trivial⟩ (.refl _) hasNil))
/-- courant/couranthelp.Pair -/
def C106 (N : Nat → Nat) : AFunc := { n := 24, params := 2, res := [.tmp 4], body :=
 (.seq (.region false [⟨(some 2), .box (.t 0), none, []⟩,
   ⟨(some 3), .box (.t 1), none, []⟩,
   ⟨(some 4), .mv (.k (.d (.bool false))), none, []⟩])
  (.seq (.region false [⟨(some 5), .faddr (.t 2) 0, none, []⟩,
    ⟨(some 6), .load (.t 5) 1 false, none, [0]⟩,
    ⟨(some 7), .faddr (.t 3) 0, none, []⟩,
    ⟨(some 8), .load (.t 7) 1 false, none, [2]⟩,
    ⟨(some 9), .bin .eql (.t 6) (.t 8), none, [1, 3]⟩,
    ⟨(some 10), .mv (.t 9), none, [4]⟩,
    ⟨(some 11), .faddr (.t 2) 1, (some (10, true)), [5]⟩,
    ⟨(some 12), .load (.t 11) 1 false, (some (10, true)), [6, 5]⟩,
    ⟨(some 13), .faddr (.t 3) 1, (some (10, true)), [5]⟩,
    ⟨(some 14), .load (.t 13) 1 false, (some (10, true)), [8, 5]⟩,
    ⟨(some 15), .call (.k (.d (.fn (N 22)))) [(.t 12), (.t 14)], (some (10, true)), [7, 9, 5]⟩,
    ⟨(some 16), .pick (.t 10) (.t 15) (.k (.d (.bool false))), none, [5, 10]⟩,
    ⟨(some 17), .mv (.t 16), none, [11, 10]⟩,
    ⟨(some 18), .faddr (.t 2) 2, (some (17, true)), [12]⟩,
    ⟨(some 19), .load (.t 18) 1 false, (some (17, true)), [13, 12]⟩,
    ⟨(some 20), .faddr (.t 3) 2, (some (17, true)), [12]⟩,
    ⟨(some 21), .load (.t 20) 1 false, (some (17, true)), [15, 12]⟩,
    ⟨(some 22), .beq false (.t 19) (.t 21), (some (17, true)), [14, 16, 12]⟩,
    ⟨(some 23), .pick (.t 17) (.t 22) (.k (.d (.bool false))), none, [12, 17]⟩,
    ⟨(some 4), .mv (.t 23), none, [18, 12, 0, 1, 2, 3, 4, 5, 6, 7, 8, 9, 10, 11, 13, 14, 15, 16, 17]⟩])
   .ret)) }
def HC106 (P : Program) (N : Nat → Nat) : Prop := HasF P (N 106) (C106 N) ∧ HC22 P N
def f106 (k : Nat) (a0 : TPair) (a1 : TPair) : Option Bool := cond (decide (a0.fKey = a1.fKey)) ((f22 k a0.fValue a1.fValue).bind fun r20 => cond (decide (a0.fValue = a1.fValue)) (some (a0.fGone == a1.fGone)) (some false)) (some false)
theorem F106 {P : Program} {N : Nat → Nat} (hmix : P.follows .mixedOrders = true) (hc : HC106 P N) {k : Nat} {a0 : TPair} {a1 : TPair} {r : Bool} (h : f106 k a0 a1 = some r) :
    ACalls P (N 106) [(.d (TPair.enc a0)), (.d (TPair.enc a1))] [] (.d (.bool r)) [] := by
  refine acalls_canon (F := C106 N) hc.1 0 0 rfl ?_
  unfold f106 at h
  dsimp only [C106, startL]
  refine AWc.seq ?_
  refine AWc.rg hmix rfl rfl ?_
  refine RegV.evS (own := false) (v := (.ptr 0 0)) (H' := [(0, (.cells [(.d (.str a0.fKey)), (.d (.sl (List.map byteD a0.fValue))), (.d (.bool a0.fGone))]))]) (c' := 1) rfl rfl trivial rfl rfl rfl rfl rfl rfl ?_
  refine RegV.evS (own := false) (v := (.ptr 1 0)) (H' := [(1, (.cells [(.d (.str a1.fKey)), (.d (.sl (List.map byteD a1.fValue))), (.d (.bool a1.fGone))])), (0, (.cells [(.d (.str a0.fKey)), (.d (.sl (List.map byteD a0.fValue))), (.d (.bool a0.fGone))]))]) (c' := 2) rfl rfl trivial rfl rfl rfl rfl rfl rfl ?_
  refine RegV.p0 rfl rfl rfl ?_
  refine RegV.nil0 ?_
  refine AWc.seq ?_
  refine AWc.rg hmix rfl rfl ?_
  refine RegV.p0 (v := (.ptr 0 0)) rfl rfl rfl ?_
  refine RegV.ld (v := (.d (.str a0.fKey))) (H' := [(0, (.cells [(.d (.str a0.fKey)), (.d (.sl (List.map byteD a0.fValue))), (.d (.bool a0.fGone))])), (1, (.cells [(.d (.str a1.fKey)), (.d (.sl (List.map byteD a1.fValue))), (.d (.bool a1.fGone))]))]) rfl rfl trivial rfl rfl rfl rfl rfl ?_
  refine RegV.p0 (v := (.ptr 1 0)) rfl rfl rfl ?_
  refine RegV.ld (v := (.d (.str a1.fKey))) (H' := [(1, (.cells [(.d (.str a1.fKey)), (.d (.sl (List.map byteD a1.fValue))), (.d (.bool a1.fGone))])), (0, (.cells [(.d (.str a0.fKey)), (.d (.sl (List.map byteD a0.fValue))), (.d (.bool a0.fGone))]))]) rfl rfl trivial rfl rfl rfl rfl rfl ?_
  refine RegV.p0 (v := (.d (.bool (decide (a0.fKey = a1.fKey))))) rfl rfl rfl ?_
  refine RegV.p0 rfl rfl rfl ?_
  refine RegV.split (fun c15 => ?_) (fun c15 => ?_)
  · have h := cond_pos c15 h
    refine RegV.p0 (v := (.ptr 0 1)) rfl rfl rfl ?_
    refine RegV.ld (v := (.d (.sl (List.map byteD a0.fValue)))) (H' := [(0, (.cells [(.d (.str a0.fKey)), (.d (.sl (List.map byteD a0.fValue))), (.d (.bool a0.fGone))])), (1, (.cells [(.d (.str a1.fKey)), (.d (.sl (List.map byteD a1.fValue))), (.d (.bool a1.fGone))]))]) rfl rfl trivial rfl rfl rfl rfl rfl ?_
    refine RegV.p0 (v := (.ptr 1 1)) rfl rfl rfl ?_
    refine RegV.ld (v := (.d (.sl (List.map byteD a1.fValue)))) (H' := [(1, (.cells [(.d (.str a1.fKey)), (.d (.sl (List.map byteD a1.fValue))), (.d (.bool a1.fGone))])), (0, (.cells [(.d (.str a0.fKey)), (.d (.sl (List.map byteD a0.fValue))), (.d (.bool a0.fGone))]))]) rfl rfl trivial rfl rfl rfl rfl rfl ?_
    obtain ⟨r20, e20, h⟩ := bind_some h
    refine RegV.call0 (F22 hmix hc.2 e20) rfl rfl rfl rfl (.cons (.refl _) (.cons (.refl _) .nil)) rfl ?_
    refine RegV.p0 rfl rfl rfl ?_
    refine RegV.p0 rfl rfl rfl ?_
    refine RegV.split (fun c22 => ?_) (fun c22 => ?_)
    · have h := cond_pos c22 h
      refine RegV.p0 (v := (.ptr 0 2)) rfl rfl rfl ?_
      refine RegV.ld (v := (.d (.bool a0.fGone))) (H' := [(0, (.cells [(.d (.str a0.fKey)), (.d (.sl (List.map byteD a0.fValue))), (.d (.bool a0.fGone))])), (1, (.cells [(.d (.str a1.fKey)), (.d (.sl (List.map byteD a1.fValue))), (.d (.bool a1.fGone))]))]) rfl rfl trivial rfl rfl rfl rfl rfl ?_
      refine RegV.p0 (v := (.ptr 1 2)) rfl rfl rfl ?_
      refine RegV.ld (v := (.d (.bool a1.fGone))) (H' := [(1, (.cells [(.d (.str a1.fKey)), (.d (.sl (List.map byteD a1.fValue))), (.d (.bool a1.fGone))])), (0, (.cells [(.d (.str a0.fKey)), (.d (.sl (List.map byteD a0.fValue))), (.d (.bool a0.fGone))]))]) rfl rfl trivial rfl rfl rfl rfl rfl ?_
      refine RegV.p0 (v := (.d (.bool (a0.fGone == a1.fGone)))) rfl rfl rfl ?_
      refine RegV.p0 rfl rfl rfl ?_
      refine RegV.p0 rfl rfl rfl ?_
      refine RegV.nil0 ?_
      have hr := Option.some.inj h
      subst hr
      exact AWc.ret (canQ (N := 24) (k := 0) (l' := [(4, (.d (.bool (a0.fGone == a1.fGone))))]) (H' := []) rfl ⟨rfl, [], [], rfl, rfl, ⟨⟨_, rfl, (.refl _)⟩, rfl, trivial⟩,  trivial⟩ (doneA (.inr rfl) rfl ⟨trivial, trivial⟩ (.refl _) hasNil))
    · have h := cond_neg c22 h
      refine RegV.noS rfl rfl ?_
      refine RegV.noS rfl rfl ?_
      refine RegV.noS rfl rfl ?_
      refine RegV.noS rfl rfl ?_
      refine RegV.noS rfl rfl ?_
      refine RegV.p0 rfl rfl rfl ?_
      refine RegV.p0 rfl rfl rfl ?_
      refine RegV.nil0 ?_
      have hr := Option.some.inj h
      subst hr
      exact AWc.ret (canQ (N := 24) (k := 0) (l' := [(4, (.d (.bool false)))]) (H' := []) rfl ⟨rfl, [], [], rfl, rfl, ⟨⟨_, rfl, (.refl _)⟩, rfl, trivial⟩,  trivial⟩ (doneA (.inr rfl) rfl ⟨trivial, trivial⟩ (.refl _) hasNil))
  · have h := cond_neg c15 h
    refine RegV.noS rfl rfl ?_
    refine RegV.noS rfl rfl ?_
    refine RegV.noS rfl rfl ?_
    refine RegV.noS rfl rfl ?_
    refine RegV.noS rfl rfl ?_
    refine RegV.p0 rfl rfl rfl ?_
    refine RegV.p0 rfl rfl rfl ?_
    refine RegV.noS rfl rfl ?_
    refine RegV.noS rfl rfl ?_
    refine RegV.noS rfl rfl ?_
    refine RegV.noS rfl rfl ?_
    refine RegV.noS rfl rfl ?_
    refine RegV.p0 rfl rfl rfl ?_
    refine RegV.p0 rfl rfl rfl ?_
    refine RegV.nil0 ?_
    have hr := Option.some.inj h
    subst hr
    exact AWc.ret (canQ (N := 24) (k := 0) (l' := [(4, (.d (.bool false)))]) (H' := []) rfl ⟨rfl, [], [], rfl, rfl, ⟨⟨_, rfl, (.refl _)⟩, rfl, trivial⟩,  trivial⟩ (doneA (.inr rfl) rfl ⟨trivial, trivial⟩ (.refl _) hasNil))
/-- courant/couranthelp.Same[courant/api.Pair] -/
def C105 (N : Nat → Nat) : AFunc := { n := 30, params := 3, res := [.tmp 6], body :=
 (.seq (.region false [⟨(some 6), .mv (.k (.d (.bool false))), none, []⟩])
  (.seq (.seq (.region false [⟨(some 8), .mv (.t 0), none, []⟩,
     ⟨(some 9), .len (.t 8), none, [0]⟩,
     ⟨(some 10), .mv (.t 1), none, []⟩,
     ⟨(some 11), .len (.t 10), none, [2]⟩,
     ⟨(some 12), .bin .neq (.t 9) (.t 11), none, [1, 3]⟩])
    (.cond (.t 12) (.seq (.region false [⟨(some 6), .mv (.k (.d (.bool false))), none, []⟩])
      .ret)
     (.skip)))
   (.seq (.seq (.region false [⟨(some 7), .mv (.k (.d (.int .i64 0))), none, []⟩])
     (.block 0 (.loop (.seq (.seq (.region false [⟨(some 13), .mv (.t 7), none, []⟩,
          ⟨(some 14), .mv (.t 0), none, []⟩,
          ⟨(some 15), .len (.t 14), none, [1]⟩,
          ⟨(some 16), .bin .lss (.t 13) (.t 15), none, [0, 2]⟩])
         (.cond (.t 16) (.skip)
          (.exit 0)))
        (.seq (.block 1 (.seq (.region true [⟨(some 19), .mv (.t 2), none, []⟩,
            ⟨(some 20), .mv (.t 0), none, []⟩,
            ⟨(some 21), .mv (.t 7), none, []⟩,
            ⟨(some 22), .iaddr (.t 20) (.t 21) 3, none, [1, 2]⟩,
            ⟨(some 23), .load (.t 22) 3 true, none, [3]⟩,
            ⟨(some 24), .mv (.t 1), none, []⟩,
            ⟨(some 25), .mv (.t 7), none, []⟩,
            ⟨(some 26), .iaddr (.t 24) (.t 25) 3, none, [5, 6]⟩,
            ⟨(some 27), .load (.t 26) 3 true, none, [7]⟩,
            ⟨(some 28), .call (.t 19) [(.t 23), (.t 27)], none, [0, 4, 8]⟩,
            ⟨(some 29), .un .not (.t 28), none, [9]⟩])
           (.cond (.t 29) (.seq (.region false [⟨(some 6), .mv (.k (.d (.bool false))), none, []⟩])
             .ret)
            (.skip))))
         (.region false [⟨(some 17), .mv (.t 7), none, []⟩,
          ⟨(some 18), .bin .add (.t 17) (.k (.d (.int .i64 1))), none, [0]⟩,
          ⟨(some 7), .mv (.t 18), none, [1, 0]⟩]))))))
    (.seq (.region false [⟨(some 6), .mv (.k (.d (.bool true))), none, []⟩])
     .ret)))) }
def HC105 (P : Program) (N : Nat → Nat) : Prop := HasF P (N 105) (C105 N) ∧ HC106 P N
def f105_l26 (a0 : (List TPair)) (a1 : (List TPair)) : Nat → Int → Option (LR2 Unit Unit Bool)
  | 0, _ => none
  | k + 1, y26_1 => cond (decide (y26_1 < ((a0.length : Nat) : Int))) (gd (0 ≤ y26_1 ∧ y26_1 < ((a0.length : Nat) : Int)) (gd (0 ≤ y26_1 ∧ y26_1 < ((a1.length : Nat) : Int)) ((f106 k (rd a0 y26_1) (rd a1 y26_1)).bind fun r53 => cond (!r53) (some (.r false)) (f105_l26 a0 a1 k (IntKind.i64.wrap (y26_1 + (1 : Int))))))) (some (.b0 ()))
def f105 (k : Nat) (a0 : (List TPair)) (a1 : (List TPair)) : Option Bool := cond (decide (((a0.length : Nat) : Int) ≠ ((a1.length : Nat) : Int))) (some false) ((f105_l26 a0 a1 k (0 : Int)).bind fun o26 => (match o26 with | .b0 () => some true | .r x => some x | _ => none))
theorem F105 {P : Program} {N : Nat → Nat} (hmix : P.follows .mixedOrders = true) (hc : HC105 P N) {k : Nat} {a0 : (List TPair)} {a1 : (List TPair)} {r : Bool} (h : f105 k a0 a1 = some r) :
    ACalls P (N 105) [(.d (.sl (List.map TPair.enc a0))), (.d (.sl (List.map TPair.enc a1))), (.d (.fn (N 106)))] [] (.d (.bool r)) [] := by
  refine acalls_canon (F := C105 N) hc.1 0 0 rfl ?_
  unfold f105 at h
  dsimp only [C105, startL]
  refine AWc.seq ?_
  refine AWc.rg hmix rfl rfl ?_
  refine RegV.p0 rfl rfl rfl ?_
  refine RegV.nil0 ?_
  refine AWc.seq ?_
  refine AWc.seq ?_
  refine AWc.rg hmix rfl rfl ?_
  refine RegV.p0 rfl rfl rfl ?_
  refine RegV.len (xs := a0) (e := TPair.enc) rfl rfl rfl rfl ?_
  refine RegV.p0 rfl rfl rfl ?_
  refine RegV.len (xs := a1) (e := TPair.enc) rfl rfl rfl rfl ?_
  refine RegV.p0 (v := (.d (.bool (decide (((a0.length : Nat) : Int) ≠ ((a1.length : Nat) : Int)))))) rfl rfl rfl ?_
  refine RegV.nil0 ?_
  refine AWc.cond rfl (fun c14 => ?_) (fun c14 => ?_)
  · have h := cond_pos c14 h
    refine AWc.seq ?_
    refine AWc.rg hmix rfl rfl ?_
    refine RegV.p0 rfl rfl rfl ?_
    refine RegV.nil0 ?_
    have hr := Option.some.inj h
    subst hr
    exact AWc.ret (canQ (N := 30) (k := 0) (l' := [(6, (.d (.bool false)))]) (H' := []) rfl ⟨rfl, [], [], rfl, rfl, ⟨⟨_, rfl, (.refl _)⟩, rfl, trivial⟩,  trivial⟩ (doneA (.inr rfl) rfl ⟨trivial, trivial⟩ (.refl _) hasNil))
  · have h := cond_neg c14 h
    refine AWc.skip ?_
    refine AWc.seq ?_
    refine AWc.seq ?_
    refine AWc.rg hmix rfl rfl ?_
    refine RegV.p0 rfl rfl rfl ?_
    refine RegV.nil0 ?_
    obtain ⟨o26, h26, h⟩ := bind_some h
    refine AWc.block ?_
    refine AWc.loopK (N := 30) 0 (fun (x : Int) => [(0, (.d (.sl (List.map TPair.enc a0)))), (1, (.d (.sl (List.map TPair.enc a1)))), (2, (.d (.fn (N 106)))), (7, (.d (.int .i64 x)))]) (fun x => []) (fun k x => f105_l26 a0 a1 k x = some o26) k (0 : Int) rfl_le (fun x hx => by cases hx) h26 ⟨rfl, [], [], rfl, rfl, ⟨⟨_, rfl, (.refl _)⟩, rfl, ⟨⟨_, rfl, (.refl _)⟩, rfl, ⟨⟨_, rfl, (.refl _)⟩, rfl, ⟨⟨_, rfl, (.refl _)⟩, rfl, trivial⟩⟩⟩⟩,  trivial⟩ ?_
    clear h26
    intro k
    intro y26_1 h26
    rw [f105_l26] at h26
    refine AWc.seq ?_
    refine AWc.seq ?_
    refine AWc.rg hmix rfl rfl ?_
    refine RegV.p0 rfl rfl rfl ?_
    refine RegV.p0 rfl rfl rfl ?_
    refine RegV.len (xs := a0) (e := TPair.enc) rfl rfl rfl rfl ?_
    refine RegV.p0 (v := (.d (.bool (decide (y26_1 < ((a0.length : Nat) : Int)))))) rfl rfl rfl ?_
    refine RegV.nil0 ?_
    refine AWc.cond rfl (fun c36 => ?_) (fun c36 => ?_)
    · have h26 := cond_pos c36 h26
      refine AWc.skip ?_
      refine AWc.seq ?_
      refine AWc.block ?_
      refine AWc.seq ?_
      refine AWc.rg hmix rfl rfl ?_
      refine RegV.p0 rfl rfl rfl ?_
      refine RegV.p0 rfl rfl rfl ?_
      refine RegV.p0 rfl rfl rfl ?_
      obtain ⟨b47, h26⟩ := gd_some h26
      refine RegV.iad (xs := a0) (e := TPair.enc) rfl rfl rfl rfl (fun _ => rfl) b47 rfl ?_
      refine RegV.p1 (v := (.d (TPair.enc (rd a0 y26_1)))) rfl rfl rfl rfl rfl ?_
      refine RegV.p0 rfl rfl rfl ?_
      refine RegV.p0 rfl rfl rfl ?_
      obtain ⟨b51, h26⟩ := gd_some h26
      refine RegV.iad (xs := a1) (e := TPair.enc) rfl rfl rfl rfl (fun _ => rfl) b51 rfl ?_
      refine RegV.p1 (v := (.d (TPair.enc (rd a1 y26_1)))) rfl rfl rfl rfl rfl ?_
      obtain ⟨r53, e53, h26⟩ := bind_some h26
      refine RegV.call0 (F106 hmix hc.2 e53) rfl rfl rfl rfl (.cons (.refl _) (.cons (.refl _) .nil)) rfl ?_
      refine RegV.p0 (v := (.d (.bool (!r53)))) rfl rfl rfl ?_
      refine RegV.nil1 (by kernel_rfl) ?_
      refine AWc.cond rfl (fun c55 => ?_) (fun c55 => ?_)
      · have h26 := cond_pos c55 h26
        refine AWc.seq ?_
        refine AWc.rg hmix rfl rfl ?_
        refine RegV.p0 rfl rfl rfl ?_
        refine RegV.nil0 ?_
        cases h26
        dsimp only at h
        have hr := Option.some.inj h
        subst hr
        exact AWc.ret (canQ (N := 30) (k := 0) (l' := [(6, (.d (.bool false)))]) (H' := []) rfl ⟨rfl, [], [], rfl, rfl, ⟨⟨_, rfl, (.refl _)⟩, rfl, trivial⟩,  trivial⟩ (doneA (.inr rfl) rfl ⟨trivial, trivial⟩ (.refl _) hasNil))
      · have h26 := cond_neg c55 h26
        refine AWc.skip ?_
        refine AWc.rg hmix rfl rfl ?_
        refine RegV.p0 rfl rfl rfl ?_
        refine RegV.p0 (v := (.d (.int .i64 (IntKind.i64.wrap (y26_1 + (1 : Int)))))) rfl rfl rfl ?_
        refine RegV.p0 rfl rfl rfl ?_
        refine RegV.nil0 ?_
        exact ⟨(IntKind.i64.wrap (y26_1 + (1 : Int))), h26, ⟨rfl, [], [], rfl, rfl, ⟨⟨_, rfl, (.refl _)⟩, rfl, ⟨⟨_, rfl, (.refl _)⟩, rfl, ⟨⟨_, rfl, (.refl _)⟩, rfl, ⟨⟨_, rfl, (.refl _)⟩, rfl, trivial⟩⟩⟩⟩,  trivial⟩⟩
    · have h26 := cond_neg c36 h26
      cases h26
      dsimp only at h
      refine AWc.exit ?_
      refine inBlk_eq ?_
      refine AWc.seq ?_
      refine AWc.rg hmix rfl rfl ?_
      refine RegV.p0 rfl rfl rfl ?_
      refine RegV.nil0 ?_
      have hr := Option.some.inj h
      subst hr
      exact AWc.ret (canQ (N := 30) (k := 0) (l' := [(6, (.d (.bool true)))]) (H' := []) rfl ⟨rfl, [], [], rfl, rfl, ⟨⟨_, rfl, (.refl _)⟩, rfl, trivial⟩,  trivial⟩ (doneA (.inr rfl) rfl ⟨trivial, trivial⟩ (.refl _) hasNil))
/-- courant/courantlaw22.pairs -/
def C76 (N : Nat → Nat) : AFunc := { n := 8, params := 2, res := [.tmp 4], body :=
 (.seq (.region false [⟨(some 4), .mv (.k (.d (.bool false))), none, []⟩])
  (.seq (.region false [⟨(some 5), .mv (.t 0), none, []⟩,
    ⟨(some 6), .mv (.t 1), none, []⟩,
    ⟨(some 7), .call (.k (.d (.fn (N 105)))) [(.t 5), (.t 6), (.k (.d (.fn (N 106))))], none, [0, 1]⟩,
    ⟨(some 4), .mv (.t 7), none, [2, 0, 1]⟩])
   .ret)) }
def HC76 (P : Program) (N : Nat → Nat) : Prop := HasF P (N 76) (C76 N) ∧ HC105 P N
def f76 (k : Nat) (a0 : (List TPair)) (a1 : (List TPair)) : Option Bool := (f105 k a0 a1).bind fun r10 => some r10
theorem F76 {P : Program} {N : Nat → Nat} (hmix : P.follows .mixedOrders = true) (hc : HC76 P N) {k : Nat} {a0 : (List TPair)} {a1 : (List TPair)} {r : Bool} (h : f76 k a0 a1 = some r) :
    ACalls P (N 76) [(.d (.sl (List.map TPair.enc a0))), (.d (.sl (List.map TPair.enc a1)))] [] (.d (.bool r)) [] := by
  refine acalls_canon (F := C76 N) hc.1 0 0 rfl ?_
  unfold f76 at h
  dsimp only [C76, startL]
  refine AWc.seq ?_
  refine AWc.rg hmix rfl rfl ?_
  refine RegV.p0 rfl rfl rfl ?_
  refine RegV.nil0 ?_
  refine AWc.seq ?_
  refine AWc.rg hmix rfl rfl ?_
  refine RegV.p0 rfl rfl rfl ?_
  refine RegV.p0 rfl rfl rfl ?_
  obtain ⟨r10, e10, h⟩ := bind_some h
  refine RegV.call0 (F105 hmix hc.2 e10) rfl rfl rfl rfl (.cons (.refl _) (.cons (.refl _) (.cons (.refl _) .nil))) rfl ?_
  refine RegV.p0 rfl rfl rfl ?_
  refine RegV.nil0 ?_
  have hr := Option.some.inj h
  subst hr
  exact AWc.ret (canQ (N := 8) (k := 0) (l' := [(4, (.d (.bool r10)))]) (H' := []) rfl ⟨rfl, [], [], rfl, rfl, ⟨⟨_, rfl, (.refl _)⟩, rfl, trivial⟩,  trivial⟩ (doneA (.inr rfl) rfl ⟨trivial, trivial⟩ (.refl _) hasNil))
/-- courant/keyed.Get -/
def C74 (N : Nat → Nat) : AFunc := { n := 22, params := 2, res := [.tmp 4, .tmp 5], body :=
 (.seq (.region false [⟨(some 4), .mv (.k .nils), none, []⟩,
   ⟨(some 5), .mv (.k (.d (.bool false))), none, [0]⟩])
  (.seq (.region false [⟨(some 9), .mv (.t 0), none, []⟩,
    ⟨(some 10), .mv (.t 1), none, []⟩,
    ⟨(some 11), .call (.k (.d (.fn (N 101)))) [(.t 9), (.t 10)], none, [0, 1]⟩,
    ⟨(some 8), .mv (.t 11), none, [2]⟩,
    ⟨(some 12), .ext (.t 8) 0, none, [3]⟩,
    ⟨(some 13), .ext (.t 8) 1, none, [3]⟩,
    ⟨(some 6), .mv (.t 12), none, [4, 2, 0, 1, 3]⟩,
    ⟨(some 7), .mv (.t 13), none, [5, 6, 0, 1, 2, 3, 4]⟩])
   (.seq (.seq (.region false [⟨(some 14), .mv (.t 7), none, []⟩,
      ⟨(some 15), .un .not (.t 14), none, [0]⟩])
     (.cond (.t 15) (.seq (.region false [⟨(some 4), .mv (.k .nils), none, []⟩,
        ⟨(some 5), .mv (.k (.d (.bool false))), none, [0]⟩])
       .ret)
      (.skip)))
    (.seq (.region false [⟨(some 16), .mv (.t 0), none, []⟩,
      ⟨(some 17), .mv (.t 6), none, []⟩,
      ⟨(some 18), .iaddr (.t 16) (.t 17) 3, none, [0, 1]⟩,
      ⟨(some 19), .faddr (.t 18) 1, none, [2]⟩,
      ⟨(some 20), .load (.t 19) 1 false, none, [3]⟩,
      ⟨(some 21), .call (.k (.d (.fn (N 87)))) [(.t 20)], none, [4]⟩,
      ⟨(some 4), .mv (.t 21), none, [5, 0, 1, 2, 3, 4]⟩,
      ⟨(some 5), .mv (.k (.d (.bool true))), none, [6, 0, 1, 2, 3, 4, 5]⟩])
     .ret)))) }
def HC74 (P : Program) (N : Nat → Nat) : Prop := HasF P (N 74) (C74 N) ∧ HC101 P N ∧ HC87 P N
def f74 (k : Nat) (a0 : (List TPair)) (a1 : (List UInt8)) : Option ((List UInt8) × Bool) := (f101 k a0 a1).bind fun r11 => cond (!r11.2) (some (([] : List UInt8), false)) (gd (0 ≤ r11.1 ∧ r11.1 < ((a0.length : Nat) : Int)) ((f87 k ((rd a0 r11.1).fValue)).bind fun r39 => some (r39, true)))
theorem F74 {P : Program} {N : Nat → Nat} (hmix : P.follows .mixedOrders = true) (hc : HC74 P N) {k : Nat} {a0 : (List TPair)} {a1 : (List UInt8)} {r : ((List UInt8) × Bool)} (h : f74 k a0 a1 = some r) :
    ACalls P (N 74) [(.d (.sl (List.map TPair.enc a0))), (.d (.str a1))] [] (.tup [(.ap 0 1 (List.map byteD r.1)), (.d (.bool r.2))]) [(0, (.tok ((List.map byteD r.1).length * 1)))] := by
  refine acalls_canon (F := C74 N) hc.1 0 1 rfl ?_
  unfold f74 at h
  dsimp only [C74, startL]
  refine AWc.seq ?_
  refine AWc.rg hmix rfl rfl ?_
  refine RegV.p0 rfl rfl rfl ?_
  refine RegV.p0 rfl rfl rfl ?_
  refine RegV.nil0 ?_
  refine AWc.seq ?_
  refine AWc.rg hmix rfl rfl ?_
  refine RegV.p0 rfl rfl rfl ?_
  refine RegV.p0 rfl rfl rfl ?_
  obtain ⟨r11, e11, h⟩ := bind_some h
  refine RegV.call0 (F101 hmix hc.2.1 e11) rfl rfl rfl rfl (.cons (.refl _) (.cons (.refl _) .nil)) rfl ?_
  refine RegV.p0 rfl rfl rfl ?_
  refine RegV.p0 rfl rfl rfl ?_
  refine RegV.p0 rfl rfl rfl ?_
  refine RegV.p0 rfl rfl rfl ?_
  refine RegV.p0 rfl rfl rfl ?_
  refine RegV.nil0 ?_
  refine AWc.seq ?_
  refine AWc.seq ?_
  refine AWc.rg hmix rfl rfl ?_
  refine RegV.p0 rfl rfl rfl ?_
  refine RegV.p0 (v := (.d (.bool (!r11.2)))) rfl rfl rfl ?_
  refine RegV.nil0 ?_
  refine AWc.cond rfl (fun c23 => ?_) (fun c23 => ?_)
  · have h := cond_pos c23 h
    refine AWc.seq ?_
    refine AWc.rg hmix rfl rfl ?_
    refine RegV.p0 rfl rfl rfl ?_
    refine RegV.p0 rfl rfl rfl ?_
    refine RegV.nil0 ?_
    have hr := Option.some.inj h
    subst hr
    exact AWc.ret (canQ (N := 22) (k := 1) (l' := [(4, (.ap 0 1 (List.map byteD ([] : List UInt8)))), (5, (.d (.bool false)))]) (H' := [(0, (.tok ((List.map byteD ([] : List UInt8)).length * 1)))]) rfl ⟨rfl, [.tok 0], [(0, 0)], rfl, rfl, ⟨⟨_, rfl, .nil⟩, rfl, ⟨⟨_, rfl, (.refl _)⟩, rfl, trivial⟩⟩, ⟨⟨_, rfl, (.refl _)⟩, rfl, rfl, trivial⟩⟩ (doneA (.inr rfl) rfl ⟨trivial, ⟨trivial, trivial⟩⟩ (.refl _) (hasCons rfl hasNil)))
  · have h := cond_neg c23 h
    refine AWc.skip ?_
    refine AWc.seq ?_
    refine AWc.rg hmix rfl rfl ?_
    refine RegV.p0 rfl rfl rfl ?_
    refine RegV.p0 rfl rfl rfl ?_
    obtain ⟨b36, h⟩ := gd_some h
    refine RegV.iad (xs := a0) (e := TPair.enc) rfl rfl rfl rfl (fun _ => rfl) b36 rfl ?_
    refine RegV.p0 (v := (.cp (TPair.enc (rd a0 r11.1)) 1)) rfl rfl rfl ?_
    refine RegV.p0 (v := (.d (.sl (List.map byteD (rd a0 r11.1).fValue)))) rfl rfl rfl ?_
    obtain ⟨r39, e39, h⟩ := bind_some h
    refine RegV.callS (q := false) (H' := [(0, (.tok ((List.map byteD r39).length * 1)))]) (c' := 1) (show ACalls P (N 87) [(.d (.sl (List.map byteD ((rd a0 r11.1).fValue))))] [] (.ap 0 1 (List.map byteD r39)) [(0, (.tok ((List.map byteD r39).length * 1)))] from ACalls.use (F87 hmix hc.2.2 e39) [(0, 0)] 1 rfl) rfl rfl rfl rfl (.cons (.refl _) .nil) (.refl _) (fun h => by cases h) rfl hasNil rfl rfl rfl rfl ?_
    refine RegV.p0 rfl rfl rfl ?_
    refine RegV.p0 rfl rfl rfl ?_
    refine RegV.nil0 ?_
    have hr := Option.some.inj h
    subst hr
    exact AWc.ret (canQ (N := 22) (k := 1) (l' := [(4, (.ap 0 1 (List.map byteD r39))), (5, (.d (.bool true)))]) (H' := [(0, (.tok ((List.map byteD r39).length * 1)))]) rfl ⟨rfl, [], [], rfl, rfl, ⟨⟨_, rfl, (.refl _)⟩, rfl, ⟨⟨_, rfl, (.refl _)⟩, rfl, trivial⟩⟩, ⟨⟨_, rfl, (.refl _)⟩, rfl, rfl, trivial⟩⟩ (doneA (.inr rfl) rfl ⟨trivial, ⟨trivial, trivial⟩⟩ (.refl _) (hasCons rfl hasNil)))
/-- courant/courantlaw22.KeyedBack -/
def C19 (N : Nat → Nat) : AFunc := { n := 119, params := 2, res := [.tmp 4], body :=
 (.seq (.region false [⟨(some 4), .mv (.k (.d (.bool false))), none, []⟩])
  (.seq (.seq (.region false [⟨(some 15), .mv (.t 0), none, []⟩,
     ⟨(some 16), .call (.k (.d (.fn (N 70)))) [(.t 15)], none, [0]⟩,
     ⟨(some 17), .un .not (.t 16), none, [1]⟩,
     ⟨(some 18), .mv (.t 17), none, [2, 1]⟩,
     ⟨(some 19), .mv (.t 1), (some (18, false)), [3]⟩,
     ⟨(some 20), .call (.k (.d (.fn (N 70)))) [(.t 19)], (some (18, false)), [4, 3]⟩,
     ⟨(some 21), .un .not (.t 20), (some (18, false)), [5, 3]⟩,
     ⟨(some 22), .pick (.t 18) (.k (.d (.bool true))) (.t 21), none, [3, 6]⟩])
    (.cond (.t 22) (.seq (.region false [⟨(some 23), .call (.k (.d (.fn (N 69)))) [], none, []⟩,
       ⟨(some 4), .mv (.t 23), none, [0]⟩])
      .ret)
     (.skip)))
   (.seq (.region false [⟨(some 25), .mv (.t 1), none, []⟩,
     ⟨(some 26), .call (.k (.d (.fn (N 80)))) [(.t 25)], none, [0]⟩,
     ⟨(some 27), .call (.k (.d (.fn (N 78)))) [(.t 26)], none, [1]⟩,
     ⟨(some 24), .mv (.t 27), none, [2]⟩,
     ⟨(some 28), .ext (.t 24) 0, none, [3]⟩,
     ⟨(some 29), .ext (.t 24) 1, none, [3]⟩,
     ⟨(some 5), .mv (.t 28), none, [4, 2, 0, 1, 3]⟩,
     ⟨(some 6), .mv (.t 29), none, [5, 6, 0, 1, 2, 3, 4]⟩])
    (.seq (.region false [⟨(some 30), .mv (.t 1), none, []⟩,
      ⟨(some 31), .call (.k (.d (.fn (N 71)))) [(.t 30)], none, [0]⟩,
      ⟨(some 7), .mv (.t 31), none, [1, 0]⟩])
     (.seq (.seq (.region false [⟨(some 32), .mv (.t 7), none, []⟩,
        ⟨(some 33), .len (.t 32), none, [0]⟩,
        ⟨(some 34), .mv (.k (.d (.int .i64 0))), none, []⟩])
       (.block 0 (.loop (.seq (.region false [⟨(some 35), .bin .lss (.t 34) (.t 33), none, []⟩])
          (.seq (.cond (.t 35) (.skip)
            (.exit 0))
           (.seq (.block 1 (.seq (.region false [⟨(some 36), .mv (.t 34), none, []⟩,
               ⟨(some 8), .mv (.t 36), none, [0]⟩])
              (.seq (.region false [⟨(some 37), .mv (.t 7), none, []⟩,
                ⟨(some 38), .mv (.t 8), none, []⟩,
                ⟨(some 39), .iaddr (.t 37) (.t 38) 3, none, [0, 1]⟩,
                ⟨(some 40), .faddr (.t 39) 2, none, [2]⟩,
                ⟨(some 41), .load (.t 40) 1 false, none, [3]⟩])
               (.cond (.t 41) (.region false [⟨(some 42), .mv (.t 7), none, []⟩,
                 ⟨(some 43), .mv (.t 8), none, []⟩,
                 ⟨(some 44), .iaddr (.t 42) (.t 43) 3, none, [0, 1]⟩,
                 ⟨(some 45), .faddr (.t 44) 1, none, [2, 0, 1]⟩,
                 ⟨none, .store (.t 45) (.k .nils) 1, none, [3, 0, 1]⟩])
                (.skip)))))
            (.region false [⟨(some 46), .bin .add (.t 34) (.k (.d (.int .i64 1))), none, []⟩,
             ⟨(some 34), .mv (.t 46), none, [0]⟩])))))))
      (.seq (.seq (.region false [⟨(some 47), .call (.k (.d (.fn (N 69)))) [], none, []⟩,
         ⟨(some 48), .un .not (.t 47), none, [0]⟩,
         ⟨(some 49), .mv (.t 48), none, [1, 0]⟩,
         ⟨(some 50), .mv (.t 6), (some (49, false)), [2]⟩,
         ⟨(some 51), .bin .neq (.t 50) (.k (.d (.int .i64 0))), (some (49, false)), [3, 2]⟩,
         ⟨(some 52), .pick (.t 49) (.k (.d (.bool true))) (.t 51), none, [2, 4]⟩,
         ⟨(some 53), .mv (.t 52), none, [5, 2]⟩,
         ⟨(some 54), .mv (.t 5), (some (53, false)), [6]⟩,
         ⟨(some 55), .mv (.t 7), (some (53, false)), [6]⟩,
         ⟨(some 56), .call (.k (.d (.fn (N 76)))) [(.t 54), (.t 55)], (some (53, false)), [7, 8, 6]⟩,
         ⟨(some 57), .un .not (.t 56), (some (53, false)), [9, 6]⟩,
         ⟨(some 58), .pick (.t 53) (.k (.d (.bool true))) (.t 57), none, [6, 10]⟩])
        (.cond (.t 58) (.seq (.region false [⟨(some 4), .mv (.k (.d (.bool false))), none, []⟩])
          .ret)
         (.skip)))
       (.seq (.region false [⟨(some 59), .mv (.t 0), none, []⟩,
         ⟨(some 60), .call (.k (.d (.fn (N 72)))) [(.k .nils), (.t 59)], none, [0]⟩,
         ⟨(some 9), .mv (.t 60), none, [1, 0]⟩])
        (.seq (.region false [⟨(some 61), .mv (.t 9), none, []⟩,
          ⟨(some 62), .mv (.t 1), none, []⟩,
          ⟨(some 63), .call (.k (.d (.fn (N 72)))) [(.t 61), (.t 62)], none, [0, 1]⟩,
          ⟨(some 10), .mv (.t 63), none, [2, 0, 1]⟩])
         (.seq (.seq (.region false [⟨(some 11), .mv (.k (.d (.int .i64 0))), none, []⟩])
           (.block 2 (.loop (.seq (.seq (.region false [⟨(some 64), .mv (.t 11), none, []⟩,
                ⟨(some 65), .mv (.t 1), none, []⟩,
                ⟨(some 66), .len (.t 65), none, [1]⟩,
                ⟨(some 67), .bin .lss (.t 64) (.t 66), none, [0, 2]⟩])
               (.cond (.t 67) (.skip)
                (.exit 2)))
              (.seq (.block 3 (.region false [⟨(some 70), .mv (.t 9), none, []⟩,
                 ⟨(some 71), .mv (.t 1), none, []⟩,
                 ⟨(some 72), .mv (.t 11), none, []⟩,
                 ⟨(some 73), .iaddr (.t 71) (.t 72) 3, none, [1, 2]⟩,
                 ⟨(some 74), .load (.t 73) 3 true, none, [3]⟩,
                 ⟨(some 75), .bslice 1 3 [(.str []), (.sl []), (.bool false)] [(0, (.t 74))], none, [4]⟩,
                 ⟨(some 76), .call (.k (.d (.fn (N 72)))) [(.t 70), (.t 75)], none, [0, 5]⟩,
                 ⟨(some 9), .mv (.t 76), none, [6, 0, 1, 2, 3, 4, 5]⟩]))
               (.region false [⟨(some 68), .mv (.t 11), none, []⟩,
                ⟨(some 69), .bin .add (.t 68) (.k (.d (.int .i64 1))), none, [0]⟩,
                ⟨(some 11), .mv (.t 69), none, [1, 0]⟩]))))))
          (.seq (.seq (.region false [⟨(some 77), .mv (.t 9), none, []⟩,
             ⟨(some 78), .mv (.t 10), none, []⟩,
             ⟨(some 79), .call (.k (.d (.fn (N 76)))) [(.t 77), (.t 78)], none, [0, 1]⟩,
             ⟨(some 80), .un .not (.t 79), none, [2]⟩,
             ⟨(some 81), .mv (.t 80), none, [3, 2]⟩,
             ⟨(some 82), .mv (.t 10), (some (81, false)), [4]⟩,
             ⟨(some 83), .mv (.t 10), (some (81, false)), [4]⟩,
             ⟨(some 84), .call (.k (.d (.fn (N 72)))) [(.t 82), (.t 83)], (some (81, false)), [5, 6, 4]⟩,
             ⟨(some 85), .mv (.t 10), (some (81, false)), [4]⟩,
             ⟨(some 86), .call (.k (.d (.fn (N 76)))) [(.t 84), (.t 85)], (some (81, false)), [7, 8, 4]⟩,
             ⟨(some 87), .un .not (.t 86), (some (81, false)), [9, 4]⟩,
             ⟨(some 88), .pick (.t 81) (.k (.d (.bool true))) (.t 87), none, [4, 10]⟩])
            (.cond (.t 88) (.seq (.region false [⟨(some 4), .mv (.k (.d (.bool false))), none, []⟩])
              .ret)
             (.skip)))
           (.seq (.seq (.region false [⟨(some 89), .mv (.t 1), none, []⟩,
              ⟨(some 90), .len (.t 89), none, [0]⟩,
              ⟨(some 91), .bin .eql (.t 90) (.k (.d (.int .i64 0))), none, [1]⟩])
             (.cond (.t 91) (.seq (.region false [⟨(some 4), .mv (.k (.d (.bool true))), none, []⟩])
               .ret)
              (.skip)))
            (.seq (.region false [⟨(some 92), .mv (.t 1), none, []⟩,
              ⟨(some 93), .mv (.t 1), none, []⟩,
              ⟨(some 94), .len (.t 93), none, [1]⟩,
              ⟨(some 95), .bin .sub (.t 94) (.k (.d (.int .i64 1))), none, [2]⟩,
              ⟨(some 96), .iaddr (.t 92) (.t 95) 3, none, [0, 3]⟩,
              ⟨(some 97), .load (.t 96) 3 true, none, [4]⟩,
              ⟨(some 12), .alloc [(.str []), (.sl []), (.bool false)], none, []⟩,
              ⟨none, .store (.t 12) (.t 97) 3, none, [6, 5, 0, 1, 2, 3, 4]⟩])
             (.seq (.region false [⟨(some 99), .mv (.t 10), none, []⟩,
               ⟨(some 100), .faddr (.t 12) 0, none, []⟩,
               ⟨(some 101), .load (.t 100) 1 false, none, [1]⟩,
               ⟨(some 102), .call (.k (.d (.fn (N 74)))) [(.t 99), (.t 101)], none, [0, 2]⟩,
               ⟨(some 98), .mv (.t 102), none, [3]⟩,
               ⟨(some 103), .ext (.t 98) 0, none, [4]⟩,
               ⟨(some 104), .ext (.t 98) 1, none, [4]⟩,
               ⟨(some 13), .mv (.t 103), none, [5, 3, 0, 1, 2, 4]⟩,
               ⟨(some 14), .mv (.t 104), none, [6, 7, 0, 1, 2, 3, 4, 5]⟩])
              (.seq (.region false [⟨(some 105), .mv (.t 14), none, []⟩,
                ⟨(some 106), .faddr (.t 12) 2, none, []⟩,
                ⟨(some 107), .load (.t 106) 1 false, none, [1]⟩,
                ⟨(some 108), .beq true (.t 105) (.t 107), none, [0, 2]⟩,
                ⟨(some 109), .mv (.t 108), none, [3]⟩,
                ⟨(some 110), .faddr (.t 12) 2, (some (109, true)), [4]⟩,
                ⟨(some 111), .load (.t 110) 1 false, (some (109, true)), [5, 4]⟩,
                ⟨(some 112), .mv (.t 111), (some (109, true)), [6, 4]⟩,
                ⟨(some 113), .mv (.t 13), (some (112, false)), [7]⟩,
                ⟨(some 114), .faddr (.t 12) 1, (some (112, false)), [7]⟩,
                ⟨(some 115), .load (.t 114) 1 false, (some (112, false)), [9, 7]⟩,
                ⟨(some 116), .call (.k (.d (.fn (N 22)))) [(.t 113), (.t 115)], (some (112, false)), [8, 10, 7]⟩,
                ⟨(some 117), .pick (.t 112) (.k (.d (.bool true))) (.t 116), (some (109, true)), [7, 11, 4]⟩,
                ⟨(some 118), .pick (.t 109) (.t 117) (.k (.d (.bool false))), none, [4, 12]⟩,
                ⟨(some 4), .mv (.t 118), none, [13, 11, 0, 1, 2, 3, 4, 5, 6, 7, 8, 9, 10, 12]⟩])
               .ret)))))))))))))) }
def HC19 (P : Program) (N : Nat → Nat) : Prop := HasF P (N 19) (C19 N) ∧ HC70 P N ∧ HC69 P N ∧ HC80 P N ∧ HC78 P N ∧ HC71 P N ∧ HC76 P N ∧ HC72 P N ∧ HC74 P N ∧ HC22 P N
def f19_j158 (k : Nat) (r121 : (List TPair)) (a1 : (List TPair)) (j158_1 : (List TPair)) : Option Bool := (f76 k j158_1 r121).bind fun r164 => cond (!r164) (some false) ((f72 k r121 r121).bind fun r169 => (f76 k r169 r121).bind fun r171 => cond (!r171) (some false) (cond (decide (((a1.length : Nat) : Int) = (0 : Int))) (some true) (gd (0 ≤ (IntKind.i64.wrap (((a1.length : Nat) : Int) - (1 : Int))) ∧ (IntKind.i64.wrap (((a1.length : Nat) : Int) - (1 : Int))) < ((a1.length : Nat) : Int)) ((f74 k r121 ((rd a1 (IntKind.i64.wrap (((a1.length : Nat) : Int) - (1 : Int)))).fKey)).bind fun r212 => cond (!(r212.2 == (rd a1 (IntKind.i64.wrap (((a1.length : Nat) : Int) - (1 : Int)))).fGone)) (cond ((rd a1 (IntKind.i64.wrap (((a1.length : Nat) : Int) - (1 : Int)))).fGone) (some true) ((f22 k r212.1 ((rd a1 (IntKind.i64.wrap (((a1.length : Nat) : Int) - (1 : Int)))).fValue)).bind fun r232 => some (decide (r212.1 = ((rd a1 (IntKind.i64.wrap (((a1.length : Nat) : Int) - (1 : Int)))).fValue))))) (some false)))))
def f19_l128 (a1 : (List TPair)) : Nat → (List TPair) → Int → Option (LR2 (List TPair) Unit Bool)
  | 0, _, _ => none
  | k + 1, y128_1, y128_2 => cond (decide (y128_2 < ((a1.length : Nat) : Int))) (gd (0 ≤ y128_2 ∧ y128_2 < ((a1.length : Nat) : Int)) ((f72 k y128_1 ([(rd a1 y128_2)] : List TPair)).bind fun r151 => f19_l128 a1 k r151 (IntKind.i64.wrap (y128_2 + (1 : Int))))) (some (.b0 y128_1))
def f19_j87 (k : Nat) (r30 : ((List TPair) × Int)) (r40 : (Nat × (List TPair))) (a0 : (List TPair)) (a1 : (List TPair)) (j87_1 : (List TPair)) : Option Bool := (f69 k).bind fun r91 => cond (!r91) (some false) (cond (decide (r30.2 ≠ (0 : Int))) (some false) (gd (r40.1 ≤ j87_1.length) ((f76 k r30.1 (List.take r40.1 j87_1)).bind fun r100 => cond (!r100) (some false) ((f72 k ([] : List TPair) a0).bind fun r114 => (f72 k r114 a1).bind fun r121 => (f19_l128 a1 k r114 (0 : Int)).bind fun o128 => (match o128 with | .b0 x128_1 => f19_j158 k r121 a1 x128_1 | _ => none)))))
def f19_l49 (r40 : (Nat × (List TPair))) : Nat → Int → (List TPair) → Option (LR2 (List TPair) Unit Bool)
  | 0, _, _ => none
  | k + 1, y49_1, y49_2 => cond (decide (y49_1 < ((r40.1 : Nat) : Int))) (gd (0 ≤ y49_1 ∧ y49_1 < ((r40.1 : Nat) : Int)) (gd ((y49_1).toNat < y49_2.length) (cond ((List.getD y49_2 (y49_1).toNat default).fGone) (gd (0 ≤ y49_1 ∧ y49_1 < ((r40.1 : Nat) : Int)) (gd ((y49_1).toNat < y49_2.length) (f19_l49 r40 k (IntKind.i64.wrap (y49_1 + (1 : Int))) (List.set y49_2 (y49_1).toNat (TPair.mk ((List.getD y49_2 (y49_1).toNat default).fKey) ([] : List UInt8) ((List.getD y49_2 (y49_1).toNat default).fGone)))))) (f19_l49 r40 k (IntKind.i64.wrap (y49_1 + (1 : Int))) y49_2)))) (some (.b0 y49_2))
def f19 (k : Nat) (a0 : (List TPair)) (a1 : (List TPair)) : Option Bool := (f70 k a0).bind fun r10 => cond (!r10) ((f69 k).bind fun r21 => some r21) ((f70 k a1).bind fun r14 => cond (!r14) ((f69 k).bind fun r21 => some r21) ((f80 k a1).bind fun r29 => (f78 k r29).bind fun r30 => (f71 k a1).bind fun r40 => (f19_l49 r40 k (0 : Int) r40.2).bind fun o49 => (match o49 with | .b0 x49_1 => f19_j87 k r30 r40 a0 a1 x49_1 | _ => none)))
theorem F19 {P : Program} {N : Nat → Nat} (hmix : P.follows .mixedOrders = true) (hc : HC19 P N) {k : Nat} {a0 : (List TPair)} {a1 : (List TPair)} {r : Bool} (h : f19 k a0 a1 = some r) :
    ACalls P (N 19) [(.d (.sl (List.map TPair.enc a0))), (.d (.sl (List.map TPair.enc a1)))] [] (.d (.bool r)) [] := by
  refine acalls_canon (F := C19 N) hc.1 0 0 rfl ?_
  unfold f19 at h
  dsimp only [C19, startL]
  refine AWc.seq ?_
  refine AWc.rg hmix rfl rfl ?_
  refine RegV.p0 rfl rfl rfl ?_
  refine RegV.nil0 ?_
  refine AWc.seq ?_
  refine AWc.seq ?_
  refine AWc.rg hmix rfl rfl ?_
  refine RegV.p0 rfl rfl rfl ?_
  obtain ⟨r10, e10, h⟩ := bind_some h
  refine RegV.call0 (F70 hmix hc.2.1 e10) rfl rfl rfl rfl (.cons (.refl _) .nil) rfl ?_
  refine RegV.p0 (v := (.d (.bool (!r10)))) rfl rfl rfl ?_
  refine RegV.p0 rfl rfl rfl ?_
  refine RegV.split (fun c12 => ?_) (fun c12 => ?_)
  · have h := cond_pos c12 h
    refine RegV.noS rfl rfl ?_
    refine RegV.noS rfl rfl ?_
    refine RegV.noS rfl rfl ?_
    refine RegV.p0 rfl rfl rfl ?_
    refine RegV.nil0 ?_
    refine AWc.cond rfl (fun _ => ?_) (fun hc => by cases hc)
    refine AWc.seq ?_
    refine AWc.rg hmix rfl rfl ?_
    obtain ⟨r21, e21, h⟩ := bind_some h
    refine RegV.call0 (F69 hmix hc.2.2.1 e21) rfl rfl rfl rfl .nil rfl ?_
    refine RegV.p0 rfl rfl rfl ?_
    refine RegV.nil0 ?_
    have hr := Option.some.inj h
    subst hr
    exact AWc.ret (canQ (N := 119) (k := 0) (l' := [(4, (.d (.bool r21)))]) (H' := []) rfl ⟨rfl, [], [], rfl, rfl, ⟨⟨_, rfl, (.refl _)⟩, rfl, trivial⟩,  trivial⟩ (doneA (.inr rfl) rfl ⟨trivial, trivial⟩ (.refl _) hasNil))
  · have h := cond_neg c12 h
    refine RegV.p0 rfl rfl rfl ?_
    obtain ⟨r14, e14, h⟩ := bind_some h
    refine RegV.call0 (F70 hmix hc.2.1 e14) rfl rfl rfl rfl (.cons (.refl _) .nil) rfl ?_
    refine RegV.p0 (v := (.d (.bool (!r14)))) rfl rfl rfl ?_
    refine RegV.p0 rfl rfl rfl ?_
    refine RegV.nil0 ?_
    refine AWc.cond rfl (fun c17 => ?_) (fun c17 => ?_)
    · have h := cond_pos c17 h
      refine AWc.seq ?_
      refine AWc.rg hmix rfl rfl ?_
      obtain ⟨r21, e21, h⟩ := bind_some h
      refine RegV.call0 (F69 hmix hc.2.2.1 e21) rfl rfl rfl rfl .nil rfl ?_
      refine RegV.p0 rfl rfl rfl ?_
      refine RegV.nil0 ?_
      have hr := Option.some.inj h
      subst hr
      exact AWc.ret (canQ (N := 119) (k := 0) (l' := [(4, (.d (.bool r21)))]) (H' := []) rfl ⟨rfl, [], [], rfl, rfl, ⟨⟨_, rfl, (.refl _)⟩, rfl, trivial⟩,  trivial⟩ (doneA (.inr rfl) rfl ⟨trivial, trivial⟩ (.refl _) hasNil))
    · have h := cond_neg c17 h
      refine AWc.skip ?_
      refine AWc.seq ?_
      refine AWc.rg hmix rfl rfl ?_
      refine RegV.p0 rfl rfl rfl ?_
      obtain ⟨r29, e29, h⟩ := bind_some h
      refine RegV.callS (q := false) (H' := [(0, (.tok ((List.map byteD r29).length * 1)))]) (c' := 1) (show ACalls P (N 80) [(.d (.sl (List.map TPair.enc a1)))] [] (.ap 0 1 (List.map byteD r29)) [(0, (.tok ((List.map byteD r29).length * 1)))] from ACalls.use (F80 hmix hc.2.2.2.1 e29) [(0, 0)] 1 rfl) rfl rfl rfl rfl (.cons (.refl _) .nil) (.refl _) (fun h => by cases h) rfl hasNil rfl rfl rfl rfl ?_
      obtain ⟨r30, e30, h⟩ := bind_some h
      refine RegV.callS (q := false) (H' := [(1, (.tok ((List.map TPair.enc r30.1).length * 3))), (0, (.tok ((List.map byteD r29).length * 1)))]) (c' := 2) (show ACalls P (N 78) [(.d (.sl (List.map byteD r29)))] [] (.tup [(.ap 1 3 (List.map TPair.enc r30.1)), (.d (.int .i64 r30.2))]) [(1, (.tok ((List.map TPair.enc r30.1).length * 3)))] from ACalls.use (F78 hmix hc.2.2.2.2.1 e30) [(0, 1)] 1 rfl) rfl rfl rfl rfl (.cons (.sl rfl) .nil) (.refl _) (fun h => by cases h) rfl hasNil rfl rfl rfl rfl ?_
      refine RegV.p0 rfl rfl rfl ?_
      refine RegV.p0 rfl rfl rfl ?_
      refine RegV.p0 rfl rfl rfl ?_
      refine RegV.p0 rfl rfl rfl ?_
      refine RegV.p0 rfl rfl rfl ?_
      refine RegV.nil0 ?_
      refine AWc.seq ?_
      refine AWc.rg hmix rfl rfl ?_
      refine RegV.p0 rfl rfl rfl ?_
      obtain ⟨r40, e40, h⟩ := bind_some h
      refine RegV.callS (q := false) (H' := [(2, (rowO TPair.enc r40.2)), (1, (.tok ((List.map TPair.enc r30.1).length * 3))), (0, (.tok ((List.map byteD r29).length * 1)))]) (c' := 3) (show ACalls P (N 71) [(.d (.sl (List.map TPair.enc a1)))] [] (.row 2 3 r40.1) [(2, (rowO TPair.enc r40.2))] from ACalls.use (F71 hmix hc.2.2.2.2.2.1 e40) [(0, 2)] 1 rfl) rfl rfl rfl rfl (.cons (.refl _) .nil) (.refl _) (fun h => by cases h) rfl hasNil rfl rfl rfl rfl ?_
      refine RegV.p0 rfl rfl rfl ?_
      refine RegV.nil0 ?_
      refine AWc.seqS (N := 119) 2 (fun (z : (List TPair)) => [(0, (.d (.sl (List.map TPair.enc a0)))), (1, (.d (.sl (List.map TPair.enc a1)))), (5, (.ap 0 3 (List.map TPair.enc r30.1))), (6, (.d (.int .i64 r30.2))), (7, (.row 1 3 r40.1))]) (fun z => [(0, (.tok ((List.map TPair.enc r30.1).length * 3))), (1, (rowO TPair.enc z))]) (fun z => f19_j87 k r30 r40 a0 a1 z = some r) rfl_le ?_ ?_
      · refine AWc.seq ?_
        refine AWc.rg hmix rfl rfl ?_
        refine RegV.p0 rfl rfl rfl ?_
        refine RegV.lenR (len := r40.1) rfl rfl rfl ?_
        refine RegV.p0 rfl rfl rfl ?_
        refine RegV.nil0 ?_
        obtain ⟨o49, h49, h⟩ := bind_some h
        refine AWc.block ?_
        refine AWc.loopK (N := 119) 2 (fun (x : (Int × (List TPair))) => [(0, (.d (.sl (List.map TPair.enc a0)))), (1, (.d (.sl (List.map TPair.enc a1)))), (5, (.ap 0 3 (List.map TPair.enc r30.1))), (6, (.d (.int .i64 r30.2))), (7, (.row 1 3 r40.1)), (33, (.d (.int .i64 ((r40.1 : Nat) : Int)))), (34, (.d (.int .i64 x.1)))]) (fun x => [(0, (.tok ((List.map TPair.enc r30.1).length * 3))), (1, (rowO TPair.enc x.2))]) (fun k x => f19_l49 r40 k x.1 x.2 = some o49) k ((0 : Int), r40.2) rfl_le (fun x hx => by cases hx) h49 ⟨rfl, [], [(0, 1), (1, 2)], rfl, rfl, ⟨⟨_, rfl, (.refl _)⟩, rfl, ⟨⟨_, rfl, (.refl _)⟩, rfl, ⟨⟨_, rfl, (.refl _)⟩, rfl, ⟨⟨_, rfl, (.refl _)⟩, rfl, ⟨⟨_, rfl, (.refl _)⟩, rfl, ⟨⟨_, rfl, (.refl _)⟩, rfl, ⟨⟨_, rfl, (.refl _)⟩, rfl, trivial⟩⟩⟩⟩⟩⟩⟩, ⟨⟨_, rfl, (.refl _)⟩, rfl, rfl, ⟨⟨_, rfl, (.refl _)⟩, rfl, rfl, trivial⟩⟩⟩ ?_
        clear h49
        intro k
        rintro ⟨y49_1, y49_2⟩ h49
        dsimp only at h49 ⊢
        rw [f19_l49] at h49
        refine AWc.seq ?_
        refine AWc.rg hmix rfl rfl ?_
        refine RegV.p0 (v := (.d (.bool (decide (y49_1 < ((r40.1 : Nat) : Int)))))) rfl rfl rfl ?_
        refine RegV.nil0 ?_
        refine AWc.seq ?_
        refine AWc.cond rfl (fun c56 => ?_) (fun c56 => ?_)
        · have h49 := cond_pos c56 h49
          refine AWc.skip ?_
          refine AWc.seq ?_
          refine AWc.block ?_
          refine AWc.seq ?_
          refine AWc.rg hmix rfl rfl ?_
          refine RegV.p0 rfl rfl rfl ?_
          refine RegV.p0 rfl rfl rfl ?_
          refine RegV.nil0 ?_
          refine AWc.seq ?_
          refine AWc.rg hmix rfl rfl ?_
          refine RegV.p0 rfl rfl rfl ?_
          refine RegV.p0 rfl rfl rfl ?_
          obtain ⟨b71, h49⟩ := gd_some h49
          refine RegV.iaR (z := 3) rfl rfl (fun _ => rfl) b71 rfl ?_
          refine RegV.p0 (v := (.ptr 1 ((y49_1).toNat * 3 + 2))) rfl rfl rfl ?_
          obtain ⟨b73, h49⟩ := gd_some h49
          refine RegV.ldPR (e := TPair.enc) (xs := y49_2) (i := (y49_1).toNat) (cc := .bool (List.getD y49_2 (y49_1).toNat default).fGone) (H' := [(1, (rowO TPair.enc y49_2)), (0, (.tok ((List.map TPair.enc r30.1).length * 3)))]) rfl rfl rfl TPair.ok rfl b73 rfl rfl rfl rfl rfl ?_
          refine RegV.nil0 ?_
          refine AWc.cond rfl (fun c74 => ?_) (fun c74 => ?_)
          · have h49 := cond_pos c74 h49
            refine AWc.rg hmix rfl rfl ?_
            refine RegV.p0 rfl rfl rfl ?_
            refine RegV.p0 rfl rfl rfl ?_
            obtain ⟨b79, h49⟩ := gd_some h49
            refine RegV.iaR (z := 3) rfl rfl (fun _ => rfl) b79 rfl ?_
            refine RegV.p0 (v := (.ptr 1 ((y49_1).toNat * 3 + 1))) rfl rfl rfl ?_
            obtain ⟨b81, h49⟩ := gd_some h49
            refine RegV.stPR (e := TPair.enc) (xs := y49_2) (i := (y49_1).toNat) (v := (TPair.mk ((List.getD y49_2 (y49_1).toNat default).fKey) ([] : List UInt8) ((List.getD y49_2 (y49_1).toNat default).fGone))) (cc := (.sl [])) (H' := [(1, (rowO TPair.enc (List.set y49_2 (y49_1).toNat (TPair.mk ((List.getD y49_2 (y49_1).toNat default).fKey) ([] : List UInt8) ((List.getD y49_2 (y49_1).toNat default).fGone))))), (0, (.tok ((List.map TPair.enc r30.1).length * 3)))]) rfl rfl rfl rfl rfl rfl (.sl rfl) rfl rfl TPair.ok rfl b81 rfl rfl rfl ?_
            refine RegV.nil0 ?_
            refine AWc.rg hmix rfl rfl ?_
            refine RegV.p0 (v := (.d (.int .i64 (IntKind.i64.wrap (y49_1 + (1 : Int)))))) rfl rfl rfl ?_
            refine RegV.p0 rfl rfl rfl ?_
            refine RegV.nil0 ?_
            exact ⟨((IntKind.i64.wrap (y49_1 + (1 : Int))), (List.set y49_2 (y49_1).toNat (TPair.mk ((List.getD y49_2 (y49_1).toNat default).fKey) ([] : List UInt8) ((List.getD y49_2 (y49_1).toNat default).fGone)))), h49, ⟨rfl, [], [], rfl, rfl, ⟨⟨_, rfl, (.refl _)⟩, rfl, ⟨⟨_, rfl, (.refl _)⟩, rfl, ⟨⟨_, rfl, (.refl _)⟩, rfl, ⟨⟨_, rfl, (.refl _)⟩, rfl, ⟨⟨_, rfl, (.refl _)⟩, rfl, ⟨⟨_, rfl, (.refl _)⟩, rfl, ⟨⟨_, rfl, (.refl _)⟩, rfl, trivial⟩⟩⟩⟩⟩⟩⟩, ⟨⟨_, rfl, (.refl _)⟩, rfl, rfl, ⟨⟨_, rfl, (.refl _)⟩, rfl, rfl, trivial⟩⟩⟩⟩
          · have h49 := cond_neg c74 h49
            refine AWc.skip ?_
            refine AWc.rg hmix rfl rfl ?_
            refine RegV.p0 (v := (.d (.int .i64 (IntKind.i64.wrap (y49_1 + (1 : Int)))))) rfl rfl rfl ?_
            refine RegV.p0 rfl rfl rfl ?_
            refine RegV.nil0 ?_
            exact ⟨((IntKind.i64.wrap (y49_1 + (1 : Int))), y49_2), h49, ⟨rfl, [], [], rfl, rfl, ⟨⟨_, rfl, (.refl _)⟩, rfl, ⟨⟨_, rfl, (.refl _)⟩, rfl, ⟨⟨_, rfl, (.refl _)⟩, rfl, ⟨⟨_, rfl, (.refl _)⟩, rfl, ⟨⟨_, rfl, (.refl _)⟩, rfl, ⟨⟨_, rfl, (.refl _)⟩, rfl, ⟨⟨_, rfl, (.refl _)⟩, rfl, trivial⟩⟩⟩⟩⟩⟩⟩, ⟨⟨_, rfl, (.refl _)⟩, rfl, rfl, ⟨⟨_, rfl, (.refl _)⟩, rfl, rfl, trivial⟩⟩⟩⟩
        · have h49 := cond_neg c56 h49
          cases h49
          dsimp only at h
          refine AWc.exit ?_
          refine inBlk_eq ?_
          exact ⟨y49_2, h, ⟨rfl, [], [], rfl, rfl, ⟨⟨_, rfl, (.refl _)⟩, rfl, ⟨⟨_, rfl, (.refl _)⟩, rfl, ⟨⟨_, rfl, (.refl _)⟩, rfl, ⟨⟨_, rfl, (.refl _)⟩, rfl, ⟨⟨_, rfl, (.refl _)⟩, rfl, trivial⟩⟩⟩⟩⟩, ⟨⟨_, rfl, (.refl _)⟩, rfl, rfl, ⟨⟨_, rfl, (.refl _)⟩, rfl, rfl, trivial⟩⟩⟩⟩
      · intro j87_1 h
        unfold f19_j87 at h
        refine AWc.seq ?_
        refine AWc.seq ?_
        refine AWc.rg hmix rfl rfl ?_
        obtain ⟨r91, e91, h⟩ := bind_some h
        refine RegV.call0 (F69 hmix hc.2.2.1 e91) rfl rfl rfl rfl .nil rfl ?_
        refine RegV.p0 (v := (.d (.bool (!r91)))) rfl rfl rfl ?_
        refine RegV.p0 rfl rfl rfl ?_
        refine RegV.split (fun c93 => ?_) (fun c93 => ?_)
        · have h := cond_pos c93 h
          refine RegV.noS rfl rfl ?_
          refine RegV.noS rfl rfl ?_
          refine RegV.p0 rfl rfl rfl ?_
          refine RegV.p0 rfl rfl rfl ?_
          refine RegV.noS rfl rfl ?_
          refine RegV.noS rfl rfl ?_
          refine RegV.noS rfl rfl ?_
          refine RegV.noS rfl rfl ?_
          refine RegV.p0 rfl rfl rfl ?_
          refine RegV.nil0 ?_
          refine AWc.cond rfl (fun _ => ?_) (fun hc => by cases hc)
          refine AWc.seq ?_
          refine AWc.rg hmix rfl rfl ?_
          refine RegV.p0 rfl rfl rfl ?_
          refine RegV.nil0 ?_
          have hr := Option.some.inj h
          subst hr
          exact AWc.ret (canQ (N := 119) (k := 0) (l' := [(4, (.d (.bool false)))]) (H' := []) rfl ⟨rfl, [], [], rfl, rfl, ⟨⟨_, rfl, (.refl _)⟩, rfl, trivial⟩,  trivial⟩ (doneA (.inr rfl) rfl ⟨trivial, trivial⟩ (.refl _) hasNil))
        · have h := cond_neg c93 h
          refine RegV.p0 rfl rfl rfl ?_
          refine RegV.p0 (v := (.d (.bool (decide (r30.2 ≠ (0 : Int)))))) rfl rfl rfl ?_
          refine RegV.p0 rfl rfl rfl ?_
          refine RegV.p0 rfl rfl rfl ?_
          refine RegV.split (fun c97 => ?_) (fun c97 => ?_)
          · have h := cond_pos c97 h
            refine RegV.noS rfl rfl ?_
            refine RegV.noS rfl rfl ?_
            refine RegV.noS rfl rfl ?_
            refine RegV.noS rfl rfl ?_
            refine RegV.p0 rfl rfl rfl ?_
            refine RegV.nil0 ?_
            refine AWc.cond rfl (fun _ => ?_) (fun hc => by cases hc)
            refine AWc.seq ?_
            refine AWc.rg hmix rfl rfl ?_
            refine RegV.p0 rfl rfl rfl ?_
            refine RegV.nil0 ?_
            have hr := Option.some.inj h
            subst hr
            exact AWc.ret (canQ (N := 119) (k := 0) (l' := [(4, (.d (.bool false)))]) (H' := []) rfl ⟨rfl, [], [], rfl, rfl, ⟨⟨_, rfl, (.refl _)⟩, rfl, trivial⟩,  trivial⟩ (doneA (.inr rfl) rfl ⟨trivial, trivial⟩ (.refl _) hasNil))
          · have h := cond_neg c97 h
            refine RegV.p0 rfl rfl rfl ?_
            refine RegV.p0 rfl rfl rfl ?_
            obtain ⟨bw0, h⟩ := gd_some h
            obtain ⟨r100, e100, h⟩ := bind_some h
            refine RegV.callS (q := true) (H' := [(1, (rowO TPair.enc j87_1)), (0, (.tok ((List.map TPair.enc r30.1).length * 3)))]) (c' := 2) (show ACalls P (N 76) [(.ap 0 3 (List.map TPair.enc r30.1)), (.row 1 3 r40.1)] [(1, (rowO TPair.enc j87_1))] (.d (.bool r100)) [(1, (rowO TPair.enc j87_1))] from ACalls.borrow (e := TPair.enc) (xs := j87_1) (views := [(.d (.sl (List.map TPair.enc r30.1))), (.d (.sl (List.map TPair.enc (List.take r40.1 j87_1))))]) (F76 hmix hc.2.2.2.2.2.2.1 e100) rfl TPair.ok (.inr rfl) (.cons (.sub (.sl rfl)) (.cons (.row bw0) .nil)) (.cons (.refl _) (.cons (.refl _) .nil)) .bool) rfl rfl rfl rfl (SubL.refl _) (.refl _) (fun _ => rfl) rfl (hasCons rfl hasNil) rfl rfl rfl rfl ?_
            refine RegV.p0 (v := (.d (.bool (!r100)))) rfl rfl rfl ?_
            refine RegV.p0 rfl rfl rfl ?_
            refine RegV.nil0 ?_
            refine AWc.cond rfl (fun c103 => ?_) (fun c103 => ?_)
            · have h := cond_pos c103 h
              refine AWc.seq ?_
              refine AWc.rg hmix rfl rfl ?_
              refine RegV.p0 rfl rfl rfl ?_
              refine RegV.nil0 ?_
              have hr := Option.some.inj h
              subst hr
              exact AWc.ret (canQ (N := 119) (k := 0) (l' := [(4, (.d (.bool false)))]) (H' := []) rfl ⟨rfl, [], [], rfl, rfl, ⟨⟨_, rfl, (.refl _)⟩, rfl, trivial⟩,  trivial⟩ (doneA (.inr rfl) rfl ⟨trivial, trivial⟩ (.refl _) hasNil))
            · have h := cond_neg c103 h
              refine AWc.skip ?_
              refine AWc.seq ?_
              refine AWc.rg hmix rfl rfl ?_
              refine RegV.p0 rfl rfl rfl ?_
              obtain ⟨r114, e114, h⟩ := bind_some h
              refine RegV.call0 (F72 hmix hc.2.2.2.2.2.2.2.1 e114) rfl rfl rfl rfl (.cons (.sl rfl) (.cons (.refl _) .nil)) rfl ?_
              refine RegV.p0 rfl rfl rfl ?_
              refine RegV.nil0 ?_
              refine AWc.seq ?_
              refine AWc.rg hmix rfl rfl ?_
              refine RegV.p0 rfl rfl rfl ?_
              refine RegV.p0 rfl rfl rfl ?_
              obtain ⟨r121, e121, h⟩ := bind_some h
              refine RegV.call0 (F72 hmix hc.2.2.2.2.2.2.2.1 e121) rfl rfl rfl rfl (.cons (.refl _) (.cons (.refl _) .nil)) rfl ?_
              refine RegV.p0 rfl rfl rfl ?_
              refine RegV.nil0 ?_
              refine AWc.seqS (N := 119) 0 (fun (z : (List TPair)) => [(1, (.d (.sl (List.map TPair.enc a1)))), (9, (.d (.sl (List.map TPair.enc z)))), (10, (.d (.sl (List.map TPair.enc r121))))]) (fun z => []) (fun z => f19_j158 k r121 a1 z = some r) rfl_le ?_ ?_
              · refine AWc.seq ?_
                refine AWc.rg hmix rfl rfl ?_
                refine RegV.p0 rfl rfl rfl ?_
                refine RegV.nil0 ?_
                obtain ⟨o128, h128, h⟩ := bind_some h
                refine AWc.block ?_
                refine AWc.loopK (N := 119) 0 (fun (x : ((List TPair) × Int)) => [(1, (.d (.sl (List.map TPair.enc a1)))), (9, (.d (.sl (List.map TPair.enc x.1)))), (10, (.d (.sl (List.map TPair.enc r121)))), (11, (.d (.int .i64 x.2)))]) (fun x => []) (fun k x => f19_l128 a1 k x.1 x.2 = some o128) k (r114, (0 : Int)) rfl_le (fun x hx => by cases hx) h128 ⟨rfl, [], [], rfl, rfl, ⟨⟨_, rfl, (.refl _)⟩, rfl, ⟨⟨_, rfl, (.refl _)⟩, rfl, ⟨⟨_, rfl, (.refl _)⟩, rfl, ⟨⟨_, rfl, (.refl _)⟩, rfl, trivial⟩⟩⟩⟩,  trivial⟩ ?_
                clear h128
                intro k
                rintro ⟨y128_1, y128_2⟩ h128
                dsimp only at h128 ⊢
                rw [f19_l128] at h128
                refine AWc.seq ?_
                refine AWc.seq ?_
                refine AWc.rg hmix rfl rfl ?_
                refine RegV.p0 rfl rfl rfl ?_
                refine RegV.p0 rfl rfl rfl ?_
                refine RegV.len (xs := a1) (e := TPair.enc) rfl rfl rfl rfl ?_
                refine RegV.p0 (v := (.d (.bool (decide (y128_2 < ((a1.length : Nat) : Int)))))) rfl rfl rfl ?_
                refine RegV.nil0 ?_
                refine AWc.cond rfl (fun c138 => ?_) (fun c138 => ?_)
                · have h128 := cond_pos c138 h128
                  refine AWc.skip ?_
                  refine AWc.seq ?_
                  refine AWc.block ?_
                  refine AWc.rg hmix rfl rfl ?_
                  refine RegV.p0 rfl rfl rfl ?_
                  refine RegV.p0 rfl rfl rfl ?_
                  refine RegV.p0 rfl rfl rfl ?_
                  obtain ⟨b148, h128⟩ := gd_some h128
                  refine RegV.iad (xs := a1) (e := TPair.enc) rfl rfl rfl rfl (fun _ => rfl) b148 rfl ?_
                  refine RegV.p1 (v := (.d (TPair.enc (rd a1 y128_2)))) rfl rfl rfl rfl rfl ?_
                  refine RegV.p1 (v := (.d (.sl (List.map TPair.enc ([(rd a1 y128_2)] : List TPair))))) rfl rfl (by exact ⟨rfl, Nat.le_of_ble_eq_true rfl, mapLen (e := TPair.enc) (xs := ([(rd a1 y128_2)] : List TPair)) (z := 3) (fun _ => rfl)⟩) rfl rfl ?_
                  obtain ⟨r151, e151, h128⟩ := bind_some h128
                  refine RegV.call0 (F72 hmix hc.2.2.2.2.2.2.2.1 e151) rfl rfl rfl rfl (.cons (.refl _) (.cons (.refl _) .nil)) rfl ?_
                  refine RegV.p0 rfl rfl rfl ?_
                  refine RegV.nil0 ?_
                  refine AWc.rg hmix rfl rfl ?_
                  refine RegV.p0 rfl rfl rfl ?_
                  refine RegV.p0 (v := (.d (.int .i64 (IntKind.i64.wrap (y128_2 + (1 : Int)))))) rfl rfl rfl ?_
                  refine RegV.p0 rfl rfl rfl ?_
                  refine RegV.nil0 ?_
                  exact ⟨(r151, (IntKind.i64.wrap (y128_2 + (1 : Int)))), h128, ⟨rfl, [], [], rfl, rfl, ⟨⟨_, rfl, (.refl _)⟩, rfl, ⟨⟨_, rfl, (.refl _)⟩, rfl, ⟨⟨_, rfl, (.refl _)⟩, rfl, ⟨⟨_, rfl, (.refl _)⟩, rfl, trivial⟩⟩⟩⟩,  trivial⟩⟩
                · have h128 := cond_neg c138 h128
                  cases h128
                  dsimp only at h
                  refine AWc.exit ?_
                  refine inBlk_eq ?_
                  exact ⟨y128_1, h, ⟨rfl, [], [], rfl, rfl, ⟨⟨_, rfl, (.refl _)⟩, rfl, ⟨⟨_, rfl, (.refl _)⟩, rfl, ⟨⟨_, rfl, (.refl _)⟩, rfl, trivial⟩⟩⟩,  trivial⟩⟩
              · intro j158_1 h
                unfold f19_j158 at h
                refine AWc.seq ?_
                refine AWc.seq ?_
                refine AWc.rg hmix rfl rfl ?_
                refine RegV.p0 rfl rfl rfl ?_
                refine RegV.p0 rfl rfl rfl ?_
                obtain ⟨r164, e164, h⟩ := bind_some h
                refine RegV.call0 (F76 hmix hc.2.2.2.2.2.2.1 e164) rfl rfl rfl rfl (.cons (.refl _) (.cons (.refl _) .nil)) rfl ?_
                refine RegV.p0 (v := (.d (.bool (!r164)))) rfl rfl rfl ?_
                refine RegV.p0 rfl rfl rfl ?_
                refine RegV.split (fun c166 => ?_) (fun c166 => ?_)
                · have h := cond_pos c166 h
                  refine RegV.noS rfl rfl ?_
                  refine RegV.noS rfl rfl ?_
                  refine RegV.noS rfl rfl ?_
                  refine RegV.noS rfl rfl ?_
                  refine RegV.noS rfl rfl ?_
                  refine RegV.noS rfl rfl ?_
                  refine RegV.p0 rfl rfl rfl ?_
                  refine RegV.nil0 ?_
                  refine AWc.cond rfl (fun _ => ?_) (fun hc => by cases hc)
                  refine AWc.seq ?_
                  refine AWc.rg hmix rfl rfl ?_
                  refine RegV.p0 rfl rfl rfl ?_
                  refine RegV.nil0 ?_
                  have hr := Option.some.inj h
                  subst hr
                  exact AWc.ret (canQ (N := 119) (k := 0) (l' := [(4, (.d (.bool false)))]) (H' := []) rfl ⟨rfl, [], [], rfl, rfl, ⟨⟨_, rfl, (.refl _)⟩, rfl, trivial⟩,  trivial⟩ (doneA (.inr rfl) rfl ⟨trivial, trivial⟩ (.refl _) hasNil))
                · have h := cond_neg c166 h
                  refine RegV.p0 rfl rfl rfl ?_
                  refine RegV.p0 rfl rfl rfl ?_
                  obtain ⟨r169, e169, h⟩ := bind_some h
                  refine RegV.call0 (F72 hmix hc.2.2.2.2.2.2.2.1 e169) rfl rfl rfl rfl (.cons (.refl _) (.cons (.refl _) .nil)) rfl ?_
                  refine RegV.p0 rfl rfl rfl ?_
                  obtain ⟨r171, e171, h⟩ := bind_some h
                  refine RegV.call0 (F76 hmix hc.2.2.2.2.2.2.1 e171) rfl rfl rfl rfl (.cons (.refl _) (.cons (.refl _) .nil)) rfl ?_
                  refine RegV.p0 (v := (.d (.bool (!r171)))) rfl rfl rfl ?_
                  refine RegV.p0 rfl rfl rfl ?_
                  refine RegV.nil0 ?_
                  refine AWc.cond rfl (fun c174 => ?_) (fun c174 => ?_)
                  · have h := cond_pos c174 h
                    refine AWc.seq ?_
                    refine AWc.rg hmix rfl rfl ?_
                    refine RegV.p0 rfl rfl rfl ?_
                    refine RegV.nil0 ?_
                    have hr := Option.some.inj h
                    subst hr
                    exact AWc.ret (canQ (N := 119) (k := 0) (l' := [(4, (.d (.bool false)))]) (H' := []) rfl ⟨rfl, [], [], rfl, rfl, ⟨⟨_, rfl, (.refl _)⟩, rfl, trivial⟩,  trivial⟩ (doneA (.inr rfl) rfl ⟨trivial, trivial⟩ (.refl _) hasNil))
                  · have h := cond_neg c174 h
                    refine AWc.skip ?_
                    refine AWc.seq ?_
                    refine AWc.seq ?_
                    refine AWc.rg hmix rfl rfl ?_
                    refine RegV.p0 rfl rfl rfl ?_
                    refine RegV.len (xs := a1) (e := TPair.enc) rfl rfl rfl rfl ?_
                    refine RegV.p0 (v := (.d (.bool (decide (((a1.length : Nat) : Int) = (0 : Int)))))) rfl rfl rfl ?_
                    refine RegV.nil0 ?_
                    refine AWc.cond rfl (fun c188 => ?_) (fun c188 => ?_)
                    · have h := cond_pos c188 h
                      refine AWc.seq ?_
                      refine AWc.rg hmix rfl rfl ?_
                      refine RegV.p0 rfl rfl rfl ?_
                      refine RegV.nil0 ?_
                      have hr := Option.some.inj h
                      subst hr
                      exact AWc.ret (canQ (N := 119) (k := 0) (l' := [(4, (.d (.bool true)))]) (H' := []) rfl ⟨rfl, [], [], rfl, rfl, ⟨⟨_, rfl, (.refl _)⟩, rfl, trivial⟩,  trivial⟩ (doneA (.inr rfl) rfl ⟨trivial, trivial⟩ (.refl _) hasNil))
                    · have h := cond_neg c188 h
                      refine AWc.skip ?_
                      refine AWc.seq ?_
                      refine AWc.rg hmix rfl rfl ?_
                      refine RegV.p0 rfl rfl rfl ?_
                      refine RegV.p0 rfl rfl rfl ?_
                      refine RegV.len (xs := a1) (e := TPair.enc) rfl rfl rfl rfl ?_
                      refine RegV.p0 (v := (.d (.int .i64 (IntKind.i64.wrap (((a1.length : Nat) : Int) - (1 : Int)))))) rfl rfl rfl ?_
                      obtain ⟨b202, h⟩ := gd_some h
                      refine RegV.iad (xs := a1) (e := TPair.enc) rfl rfl rfl rfl (fun _ => rfl) b202 rfl ?_
                      refine RegV.p1 (v := (.d (TPair.enc (rd a1 (IntKind.i64.wrap (((a1.length : Nat) : Int) - (1 : Int))))))) rfl rfl rfl rfl rfl ?_
                      refine RegV.evS (own := false) (v := (.ptr 0 0)) (H' := [(0, (.cells [(.d (.str ([] : List UInt8))), .nils, (.d (.bool false))]))]) (c' := 1) rfl rfl trivial rfl rfl rfl rfl rfl rfl ?_
                      refine RegV.evN (own := false) (H' := [(0, (.cells [(.d (.str (rd a1 (IntKind.i64.wrap (((a1.length : Nat) : Int) - (1 : Int)))).fKey)), (.d (.sl (List.map byteD (rd a1 (IntKind.i64.wrap (((a1.length : Nat) : Int) - (1 : Int)))).fValue))), (.d (.bool (rd a1 (IntKind.i64.wrap (((a1.length : Nat) : Int) - (1 : Int)))).fGone))]))]) (c' := 1) rfl rfl (by exact ⟨rfl, Nat.le_of_ble_eq_true rfl, rfl⟩) rfl rfl rfl rfl ?_
                      refine RegV.nil0 ?_
                      refine AWc.seq ?_
                      refine AWc.rg hmix rfl rfl ?_
                      refine RegV.p0 rfl rfl rfl ?_
                      refine RegV.p0 (v := (.ptr 0 0)) rfl rfl rfl ?_
                      refine RegV.ld (v := (.d (.str (rd a1 (IntKind.i64.wrap (((a1.length : Nat) : Int) - (1 : Int)))).fKey))) (H' := [(0, (.cells [(.d (.str (rd a1 (IntKind.i64.wrap (((a1.length : Nat) : Int) - (1 : Int)))).fKey)), (.d (.sl (List.map byteD (rd a1 (IntKind.i64.wrap (((a1.length : Nat) : Int) - (1 : Int)))).fValue))), (.d (.bool (rd a1 (IntKind.i64.wrap (((a1.length : Nat) : Int) - (1 : Int)))).fGone))]))]) rfl rfl trivial rfl rfl rfl rfl rfl ?_
                      obtain ⟨r212, e212, h⟩ := bind_some h
                      refine RegV.callS (q := false) (H' := [(1, (.tok ((List.map byteD r212.1).length * 1))), (0, (.cells [(.d (.str (rd a1 (IntKind.i64.wrap (((a1.length : Nat) : Int) - (1 : Int)))).fKey)), (.d (.sl (List.map byteD (rd a1 (IntKind.i64.wrap (((a1.length : Nat) : Int) - (1 : Int)))).fValue))), (.d (.bool (rd a1 (IntKind.i64.wrap (((a1.length : Nat) : Int) - (1 : Int)))).fGone))]))]) (c' := 2) (show ACalls P (N 74) [(.d (.sl (List.map TPair.enc r121))), (.d (.str ((rd a1 (IntKind.i64.wrap (((a1.length : Nat) : Int) - (1 : Int)))).fKey)))] [] (.tup [(.ap 1 1 (List.map byteD r212.1)), (.d (.bool r212.2))]) [(1, (.tok ((List.map byteD r212.1).length * 1)))] from ACalls.use (F74 hmix hc.2.2.2.2.2.2.2.2.1 e212) [(0, 1)] 1 rfl) rfl rfl rfl rfl (.cons (.refl _) (.cons (.refl _) .nil)) (.refl _) (fun h => by cases h) rfl hasNil rfl rfl rfl rfl ?_
                      refine RegV.p0 rfl rfl rfl ?_
                      refine RegV.p0 rfl rfl rfl ?_
                      refine RegV.p0 rfl rfl rfl ?_
                      refine RegV.p0 rfl rfl rfl ?_
                      refine RegV.p0 rfl rfl rfl ?_
                      refine RegV.nil0 ?_
                      refine AWc.seq ?_
                      refine AWc.rg hmix rfl rfl ?_
                      refine RegV.p0 rfl rfl rfl ?_
                      refine RegV.p0 (v := (.ptr 0 2)) rfl rfl rfl ?_
                      refine RegV.ld (v := (.d (.bool (rd a1 (IntKind.i64.wrap (((a1.length : Nat) : Int) - (1 : Int)))).fGone))) (H' := [(0, (.cells [(.d (.str (rd a1 (IntKind.i64.wrap (((a1.length : Nat) : Int) - (1 : Int)))).fKey)), (.d (.sl (List.map byteD (rd a1 (IntKind.i64.wrap (((a1.length : Nat) : Int) - (1 : Int)))).fValue))), (.d (.bool (rd a1 (IntKind.i64.wrap (((a1.length : Nat) : Int) - (1 : Int)))).fGone))])), (1, (.tok ((List.map byteD r212.1).length * 1)))]) rfl rfl trivial rfl rfl rfl rfl rfl ?_
                      refine RegV.p0 (v := (.d (.bool (!(r212.2 == (rd a1 (IntKind.i64.wrap (((a1.length : Nat) : Int) - (1 : Int)))).fGone))))) rfl rfl rfl ?_
                      refine RegV.p0 rfl rfl rfl ?_
                      refine RegV.split (fun c225 => ?_) (fun c225 => ?_)
                      · have h := cond_pos c225 h
                        refine RegV.p0 (v := (.ptr 0 2)) rfl rfl rfl ?_
                        refine RegV.ld (v := (.d (.bool (rd a1 (IntKind.i64.wrap (((a1.length : Nat) : Int) - (1 : Int)))).fGone))) (H' := [(0, (.cells [(.d (.str (rd a1 (IntKind.i64.wrap (((a1.length : Nat) : Int) - (1 : Int)))).fKey)), (.d (.sl (List.map byteD (rd a1 (IntKind.i64.wrap (((a1.length : Nat) : Int) - (1 : Int)))).fValue))), (.d (.bool (rd a1 (IntKind.i64.wrap (((a1.length : Nat) : Int) - (1 : Int)))).fGone))])), (1, (.tok ((List.map byteD r212.1).length * 1)))]) rfl rfl trivial rfl rfl rfl rfl rfl ?_
                        refine RegV.p0 rfl rfl rfl ?_
                        refine RegV.split (fun c228 => ?_) (fun c228 => ?_)
                        · have h := cond_pos c228 h
                          refine RegV.noS rfl rfl ?_
                          refine RegV.noS rfl rfl ?_
                          refine RegV.noS rfl rfl ?_
                          refine RegV.noS rfl rfl ?_
                          refine RegV.p0 rfl rfl rfl ?_
                          refine RegV.p0 rfl rfl rfl ?_
                          refine RegV.p0 rfl rfl rfl ?_
                          refine RegV.nil0 ?_
                          have hr := Option.some.inj h
                          subst hr
                          exact AWc.ret (canQ (N := 119) (k := 0) (l' := [(4, (.d (.bool true)))]) (H' := []) rfl ⟨rfl, [], [], rfl, rfl, ⟨⟨_, rfl, (.refl _)⟩, rfl, trivial⟩,  trivial⟩ (doneA (.inr rfl) rfl ⟨trivial, trivial⟩ (.refl _) hasNil))
                        · have h := cond_neg c228 h
                          refine RegV.p0 rfl rfl rfl ?_
                          refine RegV.p0 (v := (.ptr 0 1)) rfl rfl rfl ?_
                          refine RegV.ld (v := (.d (.sl (List.map byteD (rd a1 (IntKind.i64.wrap (((a1.length : Nat) : Int) - (1 : Int)))).fValue)))) (H' := [(0, (.cells [(.d (.str (rd a1 (IntKind.i64.wrap (((a1.length : Nat) : Int) - (1 : Int)))).fKey)), (.d (.sl (List.map byteD (rd a1 (IntKind.i64.wrap (((a1.length : Nat) : Int) - (1 : Int)))).fValue))), (.d (.bool (rd a1 (IntKind.i64.wrap (((a1.length : Nat) : Int) - (1 : Int)))).fGone))])), (1, (.tok ((List.map byteD r212.1).length * 1)))]) rfl rfl trivial rfl rfl rfl rfl rfl ?_
                          obtain ⟨r232, e232, h⟩ := bind_some h
                          refine RegV.call0 (F22 hmix hc.2.2.2.2.2.2.2.2.2 e232) rfl rfl rfl rfl (.cons (.sl rfl) (.cons (.refl _) .nil)) rfl ?_
                          refine RegV.p0 rfl rfl rfl ?_
                          refine RegV.p0 rfl rfl rfl ?_
                          refine RegV.p0 rfl rfl rfl ?_
                          refine RegV.nil0 ?_
                          have hr := Option.some.inj h
                          subst hr
                          exact AWc.ret (canQ (N := 119) (k := 0) (l' := [(4, (.d (.bool (decide (r212.1 = ((rd a1 (IntKind.i64.wrap (((a1.length : Nat) : Int) - (1 : Int)))).fValue))))))]) (H' := []) rfl ⟨rfl, [], [], rfl, rfl, ⟨⟨_, rfl, (.refl _)⟩, rfl, trivial⟩,  trivial⟩ (doneA (.inr rfl) rfl ⟨trivial, trivial⟩ (.refl _) hasNil))
                      · have h := cond_neg c225 h
                        refine RegV.noS rfl rfl ?_
                        refine RegV.noS rfl rfl ?_
                        refine RegV.noS rfl rfl ?_
                        refine RegV.noS rfl rfl ?_
                        refine RegV.noS rfl rfl ?_
                        refine RegV.noS rfl rfl ?_
                        refine RegV.noS rfl rfl ?_
                        refine RegV.noS rfl rfl ?_
                        refine RegV.p0 rfl rfl rfl ?_
                        refine RegV.p0 rfl rfl rfl ?_
                        refine RegV.nil0 ?_
                        have hr := Option.some.inj h
                        subst hr
                        exact AWc.ret (canQ (N := 119) (k := 0) (l' := [(4, (.d (.bool false)))]) (H' := []) rfl ⟨rfl, [], [], rfl, rfl, ⟨⟨_, rfl, (.refl _)⟩, rfl, trivial⟩,  trivial⟩ (doneA (.inr rfl) rfl ⟨trivial, trivial⟩ (.refl _) hasNil))
end Go.Proofs.Abs
