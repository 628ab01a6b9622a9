/- Written by gen.py: functions of the program as Lean functions, and that the code comes to them. -/
import Derived.Test.YtnhjiioiejpbgaaDoorGJx
set_option linter.unusedVariables false
set_option linter.unusedSimpArgs false
set_option maxRecDepth 100000
set_option maxHeartbeats 4000000
namespace Go.Proofs.Abs
open Go
def L425_0a (N : Nat → Nat) : ACode :=
 (.seq (.region false [⟨(some 6), .mv (.t 55), none, []⟩])
  (.region false [⟨(some 7), .mv (.t 56), none, []⟩]))
def L425_0b (N : Nat → Nat) : ACode :=
 (.block 2 (.seq (.seq (.region false [⟨(some 58), .load (.t 5) 1 false, none, []⟩,
     ⟨(some 59), .mv (.t 7), none, []⟩,
     ⟨(some 60), .mget (.t 58) (.t 59) (.int .i64 0), none, [0, 1]⟩,
     ⟨(some 57), .mv (.t 60), none, [2]⟩,
     ⟨(some 61), .ext (.t 57) 0, none, [3]⟩,
     ⟨(some 62), .ext (.t 57) 1, none, [3]⟩,
     ⟨(some 8), .mv (.t 61), none, [4, 0, 1, 2, 3]⟩,
     ⟨(some 9), .mv (.t 62), none, [5, 6, 0, 1, 2, 3, 4]⟩])
    (.seq (.region false [⟨(some 63), .mv (.t 9), none, []⟩,
      ⟨(some 64), .mv (.t 63), none, [0]⟩,
      ⟨(some 65), .mv (.t 7), (some (64, false)), [1]⟩,
      ⟨(some 66), .call (.k (.d (.fn (N 351)))) [(.t 65)], (some (64, false)), [2, 1]⟩,
      ⟨(some 67), .un .not (.t 66), (some (64, false)), [3, 1]⟩,
      ⟨(some 68), .pick (.t 64) (.k (.d (.bool true))) (.t 67), none, [1, 4]⟩])
     (.cond (.t 68) (.seq (.region false [⟨none, .store (.t 4) (.k (.d (.bool false))) 1, none, []⟩])
       .ret)
      (.skip))))
   (.region false [⟨(some 69), .load (.t 5) 1 false, none, []⟩,
    ⟨(some 70), .mv (.t 7), none, []⟩,
    ⟨(some 71), .mv (.t 6), none, []⟩,
    ⟨none, .mset (.t 69) (.t 70) (.t 71), none, [0, 1, 2]⟩])))
/-- courant/json.right -/
def C425 (N : Nat → Nat) : AFunc := { n := 86, params := 2, res := [.cell 4 1 false], body :=
 (.seq (.region false [⟨(some 2), .box (.t 0), none, []⟩,
   ⟨(some 3), .box (.t 1), none, []⟩,
   ⟨(some 4), .alloc [(.bool false)], none, []⟩])
  (.seq (.seq (.region false [⟨(some 10), .faddr (.t 2) 0, none, []⟩,
     ⟨(some 11), .load (.t 10) 1 false, none, [0]⟩])
    (.block 0 (.seq (.seq (.region false [⟨(some 13), .bin .eql (.t 11) (.k (.d (.int .i64 1))), none, []⟩,
        ⟨(some 12), .mv (.t 13), none, [0]⟩])
       (.cond (.t 12) (.skip)
        (.seq (.region false [⟨(some 14), .bin .eql (.t 11) (.k (.d (.int .i64 2))), none, []⟩,
          ⟨(some 12), .mv (.t 14), none, [0]⟩])
         (.cond (.t 12) (.skip)
          (.region false [⟨(some 15), .bin .eql (.t 11) (.k (.d (.int .i64 3))), none, []⟩,
           ⟨(some 12), .mv (.t 15), none, [0]⟩])))))
      (.cond (.t 12) (.seq (.region false [⟨(some 16), .load (.t 2) 4 true, none, []⟩,
         ⟨(some 17), .call (.k (.d (.fn (N 426)))) [(.t 16), (.k (.d (.bool false)))], none, [0]⟩,
         ⟨none, .store (.t 4) (.t 17) 1, none, [1, 0]⟩])
        .ret)
       (.seq (.region false [⟨(some 19), .bin .eql (.t 11) (.k (.d (.int .i64 4))), none, []⟩,
         ⟨(some 18), .mv (.t 19), none, [0]⟩])
        (.cond (.t 18) (.seq (.region false [⟨(some 20), .load (.t 2) 4 true, none, []⟩,
           ⟨(some 21), .call (.k (.d (.fn (N 426)))) [(.t 20), (.k (.d (.bool true)))], none, [0]⟩,
           ⟨(some 22), .mv (.t 21), none, [1]⟩,
           ⟨(some 23), .faddr (.t 2) 1, (some (22, true)), [2]⟩,
           ⟨(some 24), .load (.t 23) 1 false, (some (22, true)), [3, 2]⟩,
           ⟨(some 25), .call (.k (.d (.fn (N 406)))) [(.t 24)], (some (22, true)), [4, 2]⟩,
           ⟨(some 26), .pick (.t 22) (.t 25) (.k (.d (.bool false))), none, [2, 5]⟩,
           ⟨none, .store (.t 4) (.t 26) 1, none, [6, 5, 0, 1, 2, 3, 4]⟩])
          .ret)
         (.seq (.region false [⟨(some 28), .bin .eql (.t 11) (.k (.d (.int .i64 5))), none, []⟩,
           ⟨(some 27), .mv (.t 28), none, [0]⟩])
          (.cond (.t 27) (.seq (.region false [⟨(some 29), .load (.t 2) 4 true, none, []⟩,
             ⟨(some 30), .call (.k (.d (.fn (N 426)))) [(.t 29), (.k (.d (.bool true)))], none, [0]⟩,
             ⟨(some 31), .mv (.t 30), none, [1]⟩,
             ⟨(some 32), .faddr (.t 2) 1, (some (31, true)), [2]⟩,
             ⟨(some 33), .load (.t 32) 1 false, (some (31, true)), [3, 2]⟩,
             ⟨(some 34), .call (.k (.d (.fn (N 351)))) [(.t 33)], (some (31, true)), [4, 2]⟩,
             ⟨(some 35), .pick (.t 31) (.t 34) (.k (.d (.bool false))), none, [2, 5]⟩,
             ⟨none, .store (.t 4) (.t 35) 1, none, [6, 5, 0, 1, 2, 3, 4]⟩])
            .ret)
           (.seq (.region false [⟨(some 37), .bin .eql (.t 11) (.k (.d (.int .i64 6))), none, []⟩,
             ⟨(some 36), .mv (.t 37), none, [0]⟩])
            (.cond (.t 36) (.seq (.region false [⟨(some 38), .faddr (.t 2) 3, none, []⟩,
               ⟨(some 39), .load (.t 38) 1 false, none, [0]⟩,
               ⟨(some 40), .len (.t 39), none, [1]⟩,
               ⟨(some 41), .bin .gtr (.t 40) (.k (.d (.int .i64 0))), none, [2]⟩])
              (.cond (.t 41) (.seq (.region false [⟨none, .store (.t 4) (.k (.d (.bool false))) 1, none, []⟩])
                .ret)
               (.skip)))
             (.seq (.region false [⟨(some 43), .bin .eql (.t 11) (.k (.d (.int .i64 7))), none, []⟩,
               ⟨(some 42), .mv (.t 43), none, [0]⟩])
              (.cond (.t 42) (.seq (.seq (.region false [⟨(some 44), .faddr (.t 2) 3, none, []⟩,
                  ⟨(some 45), .load (.t 44) 1 false, none, [0]⟩,
                  ⟨(some 46), .len (.t 45), none, [1]⟩,
                  ⟨(some 47), .faddr (.t 2) 2, none, []⟩,
                  ⟨(some 48), .load (.t 47) 1 false, none, [3]⟩,
                  ⟨(some 49), .len (.t 48), none, [4]⟩,
                  ⟨(some 50), .bin .neq (.t 46) (.t 49), none, [2, 5]⟩])
                 (.cond (.t 50) (.seq (.region false [⟨none, .store (.t 4) (.k (.d (.bool false))) 1, none, []⟩])
                   .ret)
                  (.skip)))
                (.seq (.region false [⟨(some 51), .mkmap, none, []⟩,
                  ⟨(some 5), .alloc [.nilm], none, []⟩,
                  ⟨none, .store (.t 5) (.t 51) 1, none, [1, 0]⟩])
                 (.seq (.region false [⟨(some 52), .faddr (.t 2) 3, none, []⟩,
                   ⟨(some 53), .load (.t 52) 1 false, none, [0]⟩,
                   ⟨(some 54), .call (.k (.d (.fn (N 427)))) [(.t 53)], none, [1]⟩])
                  (.block 1 (.rangeFunc (.t 54) [55, 56] (L425_0a N) (L425_0b N))))))
               (.seq (.region false [⟨none, .store (.t 4) (.k (.d (.bool false))) 1, none, []⟩])
                .ret)))))))))))))
   (.seq (.region false [⟨(some 72), .faddr (.t 2) 1, none, []⟩,
     ⟨(some 73), .load (.t 72) 1 false, none, [0]⟩,
     ⟨(some 74), .bin .eql (.t 73) (.k (.d (.str []))), none, [1]⟩,
     ⟨(some 75), .mv (.t 74), none, [2]⟩,
     ⟨(some 76), .load (.t 3) 1 false, (some (75, true)), [3]⟩,
     ⟨(some 77), .bin .lss (.t 76) (.k (.d (.int .i64 64))), (some (75, true)), [4, 3]⟩,
     ⟨(some 78), .pick (.t 75) (.t 77) (.k (.d (.bool false))), none, [3, 5]⟩,
     ⟨(some 79), .mv (.t 78), none, [6, 3]⟩,
     ⟨(some 80), .faddr (.t 2) 2, (some (79, true)), [7]⟩,
     ⟨(some 81), .load (.t 80) 1 false, (some (79, true)), [8, 7]⟩,
     ⟨(some 82), .mkfn (N 428) [(.t 3)], (some (79, true)), [7]⟩,
     ⟨(some 83), .call (.k (.d (.fn (N 429)))) [(.t 81), (.t 82)], (some (79, true)), [9, 10, 7]⟩,
     ⟨(some 84), .un .not (.t 83), (some (79, true)), [11, 7]⟩,
     ⟨(some 85), .pick (.t 79) (.t 84) (.k (.d (.bool false))), none, [7, 12]⟩,
     ⟨none, .store (.t 4) (.t 85) 1, none, [13, 11, 0, 1, 2, 3, 4, 5, 6, 7, 8, 9, 10, 12]⟩])
    .ret))) }
def HCb425_134 (P : Program) (N : Nat → Nat) : Prop := True ∧ HC351 P N
def b425_134 (k : Nat) (a0 : Bool) (a1 : MM) (a2 : Int) (a3 : (List UInt8)) : Option (Unit ⊕ Unit) := cond (mhas a1 a3) (some (.inl ())) ((f351 k a3).bind fun r162 => cond (!r162) (some (.inl ())) (some (.inr ())))
theorem B425_134_0 {P : Program} {N : Nat → Nat} (hmix : P.follows .mixedOrders = true) (hc : HCb425_134 P N) {asg0 bd0 : Code} (ha0 : compCode P asg0 = L425_0a N) (hb0 : compCode P bd0 = L425_0b N) {k : Nat} {a0 : Bool} {a1 : MM} {a2 : Int} {a3 : (List UInt8)} {r : Unit} (h : b425_134 k a0 a1 a2 a3 = some (.inl r)) :
    ARound P 0 [(.d (.int .i64 a2)), (.d (.str a3))] [(0, (.lp 86 [(4, (.ptr 1 0)), (5, (.ptr 2 0))] [55, 56] asg0 bd0 .ready none)), (1, (.cells [(.d (.bool a0))])), (2, (.cells [(.mp 3)])), (3, (mpO a1))] (.d (.bool false)) [(0, (.lp 86 [(4, (.ptr 1 0)), (5, (.ptr 2 0))] [55, 56] asg0 bd0 .done (some .ret))), (1, (.cells [(.d (.bool false))])), (2, (.cells [(.mp 3)])), (3, (mpO a1))] := by
  refine around_gen 4 4 ha0 hb0 rfl rfl (fun ro => ?_)
  unfold b425_134 at h
  dsimp only [L425_0a, L425_0b, putArgs]
  refine AWc.seq ?_
  refine AWc.rg hmix rfl rfl ?_
  refine RegV.p0 rfl rfl rfl ?_
  refine RegV.nil0 ?_
  refine AWc.rg hmix rfl rfl ?_
  refine RegV.p0 rfl rfl rfl ?_
  refine RegV.nil0 ?_
  refine asgDone rfl rfl ?_
  refine AWc.block ?_
  refine AWc.seq ?_
  refine AWc.seq ?_
  refine AWc.rg hmix rfl rfl ?_
  refine RegV.ld (v := (.mp 3)) (H' := [(2, (.cells [(.mp 3)])), (0, (.lp 86 [(4, (.ptr 1 0)), (5, (.ptr 2 0))] [55, 56] asg0 bd0 .busy none)), (1, (.cells [(.d (.bool a0))])), (3, (mpO a1))]) rfl rfl trivial rfl rfl rfl rfl rfl ?_
  refine RegV.p0 rfl rfl rfl ?_
  refine RegV.mget (m := a1) (s := a3) (H' := [(3, (mpO a1)), (2, (.cells [(.mp 3)])), (0, (.lp 86 [(4, (.ptr 1 0)), (5, (.ptr 2 0))] [55, 56] asg0 bd0 .busy none)), (1, (.cells [(.d (.bool a0))]))]) rfl rfl rfl rfl rfl rfl rfl rfl ?_
  refine RegV.p0 rfl rfl rfl ?_
  refine RegV.p0 rfl rfl rfl ?_
  refine RegV.p0 rfl rfl rfl ?_
  refine RegV.p0 rfl rfl rfl ?_
  refine RegV.p0 rfl rfl rfl ?_
  refine RegV.nil0 ?_
  refine AWc.seq ?_
  refine AWc.rg hmix rfl rfl ?_
  refine RegV.p0 rfl rfl rfl ?_
  refine RegV.p0 rfl rfl rfl ?_
  refine RegV.split (fun c160 => ?_) (fun c160 => ?_)
  · have h := cond_pos c160 h
    refine RegV.noS rfl rfl ?_
    refine RegV.noS rfl rfl ?_
    refine RegV.noS rfl rfl ?_
    refine RegV.p0 rfl rfl rfl ?_
    refine RegV.nil0 ?_
    refine AWc.cond rfl (fun _ => ?_) (fun hc => by cases hc)
    refine AWc.seq ?_
    refine AWc.rg hmix rfl rfl ?_
    refine RegV.evN (own := false) (H' := [(1, (.cells [(.d (.bool false))])), (3, (mpO a1)), (2, (.cells [(.mp 3)])), (0, (.lp 86 [(4, (.ptr 1 0)), (5, (.ptr 2 0))] [55, 56] asg0 bd0 .busy none))]) (c' := 4) rfl rfl (by exact ⟨rfl, Nat.le_of_ble_eq_true rfl, rfl⟩) rfl rfl rfl rfl ?_
    refine RegV.nil0 ?_
    have hr := Option.some.inj h
    have hr := Sum.inl.inj hr
    subst hr
    exact AWc.ret (canQ (N := 86) (k := 4) (l' := []) (H' := [(0, (.lp 86 [(4, (.ptr 1 0)), (5, (.ptr 2 0))] [55, 56] asg0 bd0 .busy none)), (1, (.cells [(.d (.bool false))])), (2, (.cells [(.mp 3)])), (3, (mpO a1))]) rfl ⟨rfl, [], [], rfl, rfl,  trivial, ⟨⟨_, rfl, (.refl _)⟩, rfl, rfl, ⟨⟨_, rfl, (.refl _)⟩, rfl, rfl, ⟨⟨_, rfl, (.refl _)⟩, rfl, rfl, ⟨⟨_, rfl, (.refl _)⟩, rfl, rfl, trivial⟩⟩⟩⟩⟩ (roundD rfl rfl rfl rfl (hasCons rfl (hasCons rfl (hasCons rfl (hasCons rfl hasNil))))))
  · have h := cond_neg c160 h
    refine RegV.p0 rfl rfl rfl ?_
    obtain ⟨r162, e162, h⟩ := bind_some h
    refine RegV.call0 (F351 hmix hc.2 e162) rfl rfl rfl rfl (.cons (.refl _) .nil) rfl ?_
    refine RegV.p0 (v := (.d (.bool (!r162)))) rfl rfl rfl ?_
    refine RegV.p0 rfl rfl rfl ?_
    refine RegV.nil0 ?_
    refine AWc.cond rfl (fun c165 => ?_) (fun c165 => ?_)
    · have h := cond_pos c165 h
      refine AWc.seq ?_
      refine AWc.rg hmix rfl rfl ?_
      refine RegV.evN (own := false) (H' := [(1, (.cells [(.d (.bool false))])), (3, (mpO a1)), (2, (.cells [(.mp 3)])), (0, (.lp 86 [(4, (.ptr 1 0)), (5, (.ptr 2 0))] [55, 56] asg0 bd0 .busy none))]) (c' := 4) rfl rfl (by exact ⟨rfl, Nat.le_of_ble_eq_true rfl, rfl⟩) rfl rfl rfl rfl ?_
      refine RegV.nil0 ?_
      have hr := Option.some.inj h
      have hr := Sum.inl.inj hr
      subst hr
      exact AWc.ret (canQ (N := 86) (k := 4) (l' := []) (H' := [(0, (.lp 86 [(4, (.ptr 1 0)), (5, (.ptr 2 0))] [55, 56] asg0 bd0 .busy none)), (1, (.cells [(.d (.bool false))])), (2, (.cells [(.mp 3)])), (3, (mpO a1))]) rfl ⟨rfl, [], [], rfl, rfl,  trivial, ⟨⟨_, rfl, (.refl _)⟩, rfl, rfl, ⟨⟨_, rfl, (.refl _)⟩, rfl, rfl, ⟨⟨_, rfl, (.refl _)⟩, rfl, rfl, ⟨⟨_, rfl, (.refl _)⟩, rfl, rfl, trivial⟩⟩⟩⟩⟩ (roundD rfl rfl rfl rfl (hasCons rfl (hasCons rfl (hasCons rfl (hasCons rfl hasNil))))))
    · have h := cond_neg c165 h
      refine AWc.skip ?_
      refine AWc.rg hmix rfl rfl ?_
      refine RegV.ld (v := (.mp 3)) (H' := [(2, (.cells [(.mp 3)])), (3, (mpO a1)), (0, (.lp 86 [(4, (.ptr 1 0)), (5, (.ptr 2 0))] [55, 56] asg0 bd0 .busy none)), (1, (.cells [(.d (.bool a0))]))]) rfl rfl trivial rfl rfl rfl rfl rfl ?_
      refine RegV.p0 rfl rfl rfl ?_
      refine RegV.p0 rfl rfl rfl ?_
      refine RegV.mset (m := a1) (s := a3) (n := a2) (H' := [(3, (mpO (mput a1 a3 a2))), (2, (.cells [(.mp 3)])), (0, (.lp 86 [(4, (.ptr 1 0)), (5, (.ptr 2 0))] [55, 56] asg0 bd0 .busy none)), (1, (.cells [(.d (.bool a0))]))]) rfl rfl rfl rfl rfl rfl rfl rfl ?_
      refine RegV.nil0 ?_
      cases h
theorem B425_134_1 {P : Program} {N : Nat → Nat} (hmix : P.follows .mixedOrders = true) (hc : HCb425_134 P N) {asg0 bd0 : Code} (ha0 : compCode P asg0 = L425_0a N) (hb0 : compCode P bd0 = L425_0b N) {k : Nat} {a0 : Bool} {a1 : MM} {a2 : Int} {a3 : (List UInt8)} {r : Unit} (h : b425_134 k a0 a1 a2 a3 = some (.inr r)) :
    ARound P 0 [(.d (.int .i64 a2)), (.d (.str a3))] [(0, (.lp 86 [(4, (.ptr 1 0)), (5, (.ptr 2 0))] [55, 56] asg0 bd0 .ready none)), (1, (.cells [(.d (.bool a0))])), (2, (.cells [(.mp 3)])), (3, (mpO a1))] (.d (.bool true)) [(0, (.lp 86 [(4, (.ptr 1 0)), (5, (.ptr 2 0))] [55, 56] asg0 bd0 .ready none)), (1, (.cells [(.d (.bool a0))])), (2, (.cells [(.mp 3)])), (3, (mpO (mput a1 a3 a2)))] := by
  refine around_gen 4 4 ha0 hb0 rfl rfl (fun ro => ?_)
  unfold b425_134 at h
  dsimp only [L425_0a, L425_0b, putArgs]
  refine AWc.seq ?_
  refine AWc.rg hmix rfl rfl ?_
  refine RegV.p0 rfl rfl rfl ?_
  refine RegV.nil0 ?_
  refine AWc.rg hmix rfl rfl ?_
  refine RegV.p0 rfl rfl rfl ?_
  refine RegV.nil0 ?_
  refine asgDone rfl rfl ?_
  refine AWc.block ?_
  refine AWc.seq ?_
  refine AWc.seq ?_
  refine AWc.rg hmix rfl rfl ?_
  refine RegV.ld (v := (.mp 3)) (H' := [(2, (.cells [(.mp 3)])), (0, (.lp 86 [(4, (.ptr 1 0)), (5, (.ptr 2 0))] [55, 56] asg0 bd0 .busy none)), (1, (.cells [(.d (.bool a0))])), (3, (mpO a1))]) rfl rfl trivial rfl rfl rfl rfl rfl ?_
  refine RegV.p0 rfl rfl rfl ?_
  refine RegV.mget (m := a1) (s := a3) (H' := [(3, (mpO a1)), (2, (.cells [(.mp 3)])), (0, (.lp 86 [(4, (.ptr 1 0)), (5, (.ptr 2 0))] [55, 56] asg0 bd0 .busy none)), (1, (.cells [(.d (.bool a0))]))]) rfl rfl rfl rfl rfl rfl rfl rfl ?_
  refine RegV.p0 rfl rfl rfl ?_
  refine RegV.p0 rfl rfl rfl ?_
  refine RegV.p0 rfl rfl rfl ?_
  refine RegV.p0 rfl rfl rfl ?_
  refine RegV.p0 rfl rfl rfl ?_
  refine RegV.nil0 ?_
  refine AWc.seq ?_
  refine AWc.rg hmix rfl rfl ?_
  refine RegV.p0 rfl rfl rfl ?_
  refine RegV.p0 rfl rfl rfl ?_
  refine RegV.split (fun c160 => ?_) (fun c160 => ?_)
  · have h := cond_pos c160 h
    refine RegV.noS rfl rfl ?_
    refine RegV.noS rfl rfl ?_
    refine RegV.noS rfl rfl ?_
    refine RegV.p0 rfl rfl rfl ?_
    refine RegV.nil0 ?_
    refine AWc.cond rfl (fun _ => ?_) (fun hc => by cases hc)
    refine AWc.seq ?_
    refine AWc.rg hmix rfl rfl ?_
    refine RegV.evN (own := false) (H' := [(1, (.cells [(.d (.bool false))])), (3, (mpO a1)), (2, (.cells [(.mp 3)])), (0, (.lp 86 [(4, (.ptr 1 0)), (5, (.ptr 2 0))] [55, 56] asg0 bd0 .busy none))]) (c' := 4) rfl rfl (by exact ⟨rfl, Nat.le_of_ble_eq_true rfl, rfl⟩) rfl rfl rfl rfl ?_
    refine RegV.nil0 ?_
    cases h
  · have h := cond_neg c160 h
    refine RegV.p0 rfl rfl rfl ?_
    obtain ⟨r162, e162, h⟩ := bind_some h
    refine RegV.call0 (F351 hmix hc.2 e162) rfl rfl rfl rfl (.cons (.refl _) .nil) rfl ?_
    refine RegV.p0 (v := (.d (.bool (!r162)))) rfl rfl rfl ?_
    refine RegV.p0 rfl rfl rfl ?_
    refine RegV.nil0 ?_
    refine AWc.cond rfl (fun c165 => ?_) (fun c165 => ?_)
    · have h := cond_pos c165 h
      refine AWc.seq ?_
      refine AWc.rg hmix rfl rfl ?_
      refine RegV.evN (own := false) (H' := [(1, (.cells [(.d (.bool false))])), (3, (mpO a1)), (2, (.cells [(.mp 3)])), (0, (.lp 86 [(4, (.ptr 1 0)), (5, (.ptr 2 0))] [55, 56] asg0 bd0 .busy none))]) (c' := 4) rfl rfl (by exact ⟨rfl, Nat.le_of_ble_eq_true rfl, rfl⟩) rfl rfl rfl rfl ?_
      refine RegV.nil0 ?_
      cases h
    · have h := cond_neg c165 h
      refine AWc.skip ?_
      refine AWc.rg hmix rfl rfl ?_
      refine RegV.ld (v := (.mp 3)) (H' := [(2, (.cells [(.mp 3)])), (3, (mpO a1)), (0, (.lp 86 [(4, (.ptr 1 0)), (5, (.ptr 2 0))] [55, 56] asg0 bd0 .busy none)), (1, (.cells [(.d (.bool a0))]))]) rfl rfl trivial rfl rfl rfl rfl rfl ?_
      refine RegV.p0 rfl rfl rfl ?_
      refine RegV.p0 rfl rfl rfl ?_
      refine RegV.mset (m := a1) (s := a3) (n := a2) (H' := [(3, (mpO (mput a1 a3 a2))), (2, (.cells [(.mp 3)])), (0, (.lp 86 [(4, (.ptr 1 0)), (5, (.ptr 2 0))] [55, 56] asg0 bd0 .busy none)), (1, (.cells [(.d (.bool a0))]))]) rfl rfl rfl rfl rfl rfl rfl rfl ?_
      refine RegV.nil0 ?_
      have hr := Option.some.inj h
      have hr := Sum.inr.inj hr
      subst hr
      exact (canQ (N := 86) (k := 4) (l' := []) (H' := [(0, (.lp 86 [(4, (.ptr 1 0)), (5, (.ptr 2 0))] [55, 56] asg0 bd0 .busy none)), (1, (.cells [(.d (.bool a0))])), (2, (.cells [(.mp 3)])), (3, (mpO (mput a1 a3 a2)))]) rfl ⟨rfl, [], [], rfl, rfl,  trivial, ⟨⟨_, rfl, (.refl _)⟩, rfl, rfl, ⟨⟨_, rfl, (.refl _)⟩, rfl, rfl, ⟨⟨_, rfl, (.refl _)⟩, rfl, rfl, ⟨⟨_, rfl, (.refl _)⟩, rfl, rfl, trivial⟩⟩⟩⟩⟩ (roundD rfl rfl rfl rfl (hasCons rfl (hasCons rfl (hasCons rfl (hasCons rfl hasNil))))))
/-- slices.All[[]string,string]$1 -/
def C431 (N : Nat → Nat) : AFunc := { n := 18, params := 2, res := [], body :=
 (.seq (.region false [⟨(some 5), .load (.t 1) 1 false, none, []⟩,
   ⟨(some 6), .len (.t 5), none, [0]⟩,
   ⟨(some 7), .mv (.k (.d (.int .i64 0))), none, []⟩])
  (.block 0 (.loop (.seq (.region false [⟨(some 8), .bin .lss (.t 7) (.t 6), none, []⟩])
     (.seq (.cond (.t 8) (.skip)
       (.exit 0))
      (.seq (.block 1 (.seq (.region false [⟨(some 9), .mv (.t 7), none, []⟩,
          ⟨(some 10), .iaddr (.t 5) (.t 7) 1, none, []⟩,
          ⟨(some 11), .load (.t 10) 1 false, none, [1]⟩,
          ⟨(some 3), .mv (.t 9), none, [0, 1, 2]⟩,
          ⟨(some 4), .mv (.t 11), none, [2, 3, 0, 1]⟩])
         (.seq (.region false [⟨(some 12), .mv (.t 0), none, []⟩,
           ⟨(some 13), .mv (.t 3), none, []⟩,
           ⟨(some 14), .mv (.t 4), none, []⟩,
           ⟨(some 15), .call (.t 12) [(.t 13), (.t 14)], none, [0, 1, 2]⟩,
           ⟨(some 16), .un .not (.t 15), none, [3]⟩])
          (.cond (.t 16) .ret
           (.skip)))))
       (.region false [⟨(some 17), .bin .add (.t 7) (.k (.d (.int .i64 1))), none, []⟩,
        ⟨(some 7), .mv (.t 17), none, [0]⟩]))))))) }
def HC431 (P : Program) (N : Nat → Nat) : Prop := HasF P (N 431) (C431 N) ∧ HCb425_134 P N
def f431_l7 (a2 : (List (List UInt8))) (a0 : Bool) : Nat → Int → MM → Option (LR2 MM Unit (MM ⊕ MM))
  | 0, _, _ => none
  | k + 1, y7_1, y7_2 => cond (decide (y7_1 < ((a2.length : Nat) : Int))) (gd (0 ≤ y7_1 ∧ y7_1 < ((a2.length : Nat) : Int)) ((b425_134 k a0 y7_2 y7_1 (rd a2 y7_1)).bind fun or33 => (match or33 with | .inl r33 => some (.r (.inl y7_2)) | .inr r33 => f431_l7 a2 a0 k (IntKind.i64.wrap (y7_1 + (1 : Int))) (mput y7_2 (rd a2 y7_1) y7_1)))) (some (.b0 y7_2))
def f431 (k : Nat) (a0 : Bool) (a1 : MM) (a2 : (List (List UInt8))) : Option (MM ⊕ MM) := (f431_l7 a2 a0 k (0 : Int) a1).bind fun o7 => (match o7 with | .b0 x7_1 => some (.inr x7_1) | .r x => some x | _ => none)
theorem F431_0 {P : Program} {N : Nat → Nat} (hmix : P.follows .mixedOrders = true) (hc : HC431 P N) {asg0 bd0 : Code} (ha0 : compCode P asg0 = L425_0a N) (hb0 : compCode P bd0 = L425_0b N) {k : Nat} {a0 : Bool} {a1 : MM} {a2 : (List (List UInt8))} {r : MM} (h : f431 k a0 a1 a2 = some (.inl r)) :
    ACalls P (N 431) [(.lf 0), (.ptr 4 0)] [(0, (.lp 86 [(4, (.ptr 1 0)), (5, (.ptr 2 0))] [55, 56] asg0 bd0 .ready none)), (1, (.cells [(.d (.bool a0))])), (2, (.cells [(.mp 3)])), (3, (mpO a1)), (4, (.cells [(.d (.sl (List.map D.str a2)))]))] (.tup []) [(0, (.lp 86 [(4, (.ptr 1 0)), (5, (.ptr 2 0))] [55, 56] asg0 bd0 .done (some .ret))), (1, (.cells [(.d (.bool false))])), (2, (.cells [(.mp 3)])), (3, (mpO r)), (4, (.cells [(.d (.sl (List.map D.str a2)))]))] := by
  refine acalls_canon (F := C431 N) hc.1 5 5 rfl ?_
  unfold f431 at h
  dsimp only [C431, startL]
  refine AWc.seq ?_
  refine AWc.rg hmix rfl rfl ?_
  refine RegV.ld (v := (.d (.sl (List.map D.str a2)))) (H' := [(4, (.cells [(.d (.sl (List.map D.str a2)))])), (0, (.lp 86 [(4, (.ptr 1 0)), (5, (.ptr 2 0))] [55, 56] asg0 bd0 .ready none)), (1, (.cells [(.d (.bool a0))])), (2, (.cells [(.mp 3)])), (3, (mpO a1))]) rfl rfl trivial rfl rfl rfl rfl rfl ?_
  refine RegV.len (xs := a2) (e := D.str) rfl rfl rfl rfl ?_
  refine RegV.p0 rfl rfl rfl ?_
  refine RegV.nil0 ?_
  obtain ⟨o7, h7, h⟩ := bind_some h
  refine AWc.block ?_
  refine AWc.loopK (N := 18) 5 (fun (x : (Int × MM)) => [(0, (.lf 0)), (5, (.d (.sl (List.map D.str a2)))), (6, (.d (.int .i64 ((a2.length : Nat) : Int)))), (7, (.d (.int .i64 x.1)))]) (fun x => [(0, (.lp 86 [(4, (.ptr 1 0)), (5, (.ptr 2 0))] [55, 56] asg0 bd0 .ready none)), (1, (.cells [(.d (.bool a0))])), (2, (.cells [(.mp 3)])), (3, (mpO x.2)), (4, (.cells [(.d (.sl (List.map D.str a2)))]))]) (fun k x => f431_l7 a2 a0 k x.1 x.2 = some o7) k ((0 : Int), a1) rfl_le (fun x hx => by cases hx) h7 ⟨rfl, [], [], rfl, rfl, ⟨⟨_, rfl, (.refl _)⟩, rfl, ⟨⟨_, rfl, (.refl _)⟩, rfl, ⟨⟨_, rfl, (.refl _)⟩, rfl, ⟨⟨_, rfl, (.refl _)⟩, rfl, trivial⟩⟩⟩⟩, ⟨⟨_, rfl, (.refl _)⟩, rfl, rfl, ⟨⟨_, rfl, (.refl _)⟩, rfl, rfl, ⟨⟨_, rfl, (.refl _)⟩, rfl, rfl, ⟨⟨_, rfl, (.refl _)⟩, rfl, rfl, ⟨⟨_, rfl, (.refl _)⟩, rfl, rfl, trivial⟩⟩⟩⟩⟩⟩ ?_
  clear h7
  intro k
  rintro ⟨y7_1, y7_2⟩ h7
  dsimp only at h7 ⊢
  rw [f431_l7] at h7
  refine AWc.seq ?_
  refine AWc.rg hmix rfl rfl ?_
  refine RegV.p0 (v := (.d (.bool (decide (y7_1 < ((a2.length : Nat) : Int)))))) rfl rfl rfl ?_
  refine RegV.nil0 ?_
  refine AWc.seq ?_
  refine AWc.cond rfl (fun c14 => ?_) (fun c14 => ?_)
  · have h7 := cond_pos c14 h7
    refine AWc.skip ?_
    refine AWc.seq ?_
    refine AWc.block ?_
    refine AWc.seq ?_
    refine AWc.rg hmix rfl rfl ?_
    refine RegV.p0 rfl rfl rfl ?_
    obtain ⟨b23, h7⟩ := gd_some h7
    refine RegV.iad (xs := a2) (e := D.str) rfl rfl rfl rfl (fun _ => rfl) b23 rfl ?_
    refine RegV.p0 (v := (.d (.str (rd a2 y7_1)))) rfl rfl rfl ?_
    refine RegV.p0 rfl rfl rfl ?_
    refine RegV.p0 rfl rfl rfl ?_
    refine RegV.nil0 ?_
    refine AWc.seq ?_
    refine AWc.rg hmix rfl rfl ?_
    refine RegV.p0 rfl rfl rfl ?_
    refine RegV.p0 rfl rfl rfl ?_
    refine RegV.p0 rfl rfl rfl ?_
    obtain ⟨or33, e33, h7⟩ := bind_some h7
    rcases or33 with r33 | r33
    · dsimp only at h7
      refine RegV.yield (H' := [(0, (.lp 86 [(4, (.ptr 1 0)), (5, (.ptr 2 0))] [55, 56] asg0 bd0 .done (some .ret))), (1, (.cells [(.d (.bool false))])), (2, (.cells [(.mp 3)])), (3, (mpO y7_2)), (4, (.cells [(.d (.sl (List.map D.str a2)))]))]) (c' := 5) (show ARound P 0 [(.d (.int .i64 y7_1)), (.d (.str (rd a2 y7_1)))] [(0, (.lp 86 [(4, (.ptr 1 0)), (5, (.ptr 2 0))] [55, 56] asg0 bd0 .ready none)), (1, (.cells [(.d (.bool a0))])), (2, (.cells [(.mp 3)])), (3, (mpO y7_2))] (.d (.bool false)) [(0, (.lp 86 [(4, (.ptr 1 0)), (5, (.ptr 2 0))] [55, 56] asg0 bd0 .done (some .ret))), (1, (.cells [(.d (.bool false))])), (2, (.cells [(.mp 3)])), (3, (mpO y7_2))] from ARound.use (B425_134_0 hmix hc.2 ha0 hb0 e33) [(0, 0), (1, 1), (2, 2), (3, 3)] 4 rfl) rfl rfl rfl (.cons (.refl _) (.cons (.refl _) .nil)) rfl (hasCons rfl (hasCons rfl (hasCons rfl (hasCons rfl hasNil)))) rfl rfl rfl rfl ?_
      refine RegV.p0 (v := (.d (.bool true))) rfl rfl rfl ?_
      refine RegV.nil0 ?_
      refine AWc.cond rfl (fun _ => ?_) (fun hc => by cases hc)
      cases h7
      dsimp only at h
      have hr := Option.some.inj h
      have hr := Sum.inl.inj hr
      subst hr
      exact AWc.ret (canQ (N := 18) (k := 5) (l' := []) (H' := [(0, (.lp 86 [(4, (.ptr 1 0)), (5, (.ptr 2 0))] [55, 56] asg0 bd0 .done (some .ret))), (1, (.cells [(.d (.bool false))])), (2, (.cells [(.mp 3)])), (3, (mpO y7_2)), (4, (.cells [(.d (.sl (List.map D.str a2)))]))]) rfl ⟨rfl, [], [], rfl, rfl,  trivial, ⟨⟨_, rfl, (.refl _)⟩, rfl, rfl, ⟨⟨_, rfl, (.refl _)⟩, rfl, rfl, ⟨⟨_, rfl, (.refl _)⟩, rfl, rfl, ⟨⟨_, rfl, (.refl _)⟩, rfl, rfl, ⟨⟨_, rfl, (.refl _)⟩, rfl, rfl, trivial⟩⟩⟩⟩⟩⟩ (doneA (.inr rfl) rfl trivial (.refl _) (hasCons rfl (hasCons rfl (hasCons rfl (hasCons rfl (hasCons rfl hasNil)))))))
    · dsimp only at h7
      refine RegV.yield (H' := [(0, (.lp 86 [(4, (.ptr 1 0)), (5, (.ptr 2 0))] [55, 56] asg0 bd0 .ready none)), (1, (.cells [(.d (.bool a0))])), (2, (.cells [(.mp 3)])), (3, (mpO (mput y7_2 (rd a2 y7_1) y7_1))), (4, (.cells [(.d (.sl (List.map D.str a2)))]))]) (c' := 5) (show ARound P 0 [(.d (.int .i64 y7_1)), (.d (.str (rd a2 y7_1)))] [(0, (.lp 86 [(4, (.ptr 1 0)), (5, (.ptr 2 0))] [55, 56] asg0 bd0 .ready none)), (1, (.cells [(.d (.bool a0))])), (2, (.cells [(.mp 3)])), (3, (mpO y7_2))] (.d (.bool true)) [(0, (.lp 86 [(4, (.ptr 1 0)), (5, (.ptr 2 0))] [55, 56] asg0 bd0 .ready none)), (1, (.cells [(.d (.bool a0))])), (2, (.cells [(.mp 3)])), (3, (mpO (mput y7_2 (rd a2 y7_1) y7_1)))] from ARound.use (B425_134_1 hmix hc.2 ha0 hb0 e33) [(0, 0), (1, 1), (2, 2), (3, 3)] 4 rfl) rfl rfl rfl (.cons (.refl _) (.cons (.refl _) .nil)) rfl (hasCons rfl (hasCons rfl (hasCons rfl (hasCons rfl hasNil)))) rfl rfl rfl rfl ?_
      refine RegV.p0 (v := (.d (.bool false))) rfl rfl rfl ?_
      refine RegV.nil0 ?_
      refine AWc.cond rfl (fun hc => by cases hc) (fun _ => ?_)
      refine AWc.skip ?_
      refine AWc.rg hmix rfl rfl ?_
      refine RegV.p0 (v := (.d (.int .i64 (IntKind.i64.wrap (y7_1 + (1 : Int)))))) rfl rfl rfl ?_
      refine RegV.p0 rfl rfl rfl ?_
      refine RegV.nil0 ?_
      exact ⟨((IntKind.i64.wrap (y7_1 + (1 : Int))), (mput y7_2 (rd a2 y7_1) y7_1)), h7, ⟨rfl, [], [], rfl, rfl, ⟨⟨_, rfl, (.refl _)⟩, rfl, ⟨⟨_, rfl, (.refl _)⟩, rfl, ⟨⟨_, rfl, (.refl _)⟩, rfl, ⟨⟨_, rfl, (.refl _)⟩, rfl, trivial⟩⟩⟩⟩, ⟨⟨_, rfl, (.refl _)⟩, rfl, rfl, ⟨⟨_, rfl, (.refl _)⟩, rfl, rfl, ⟨⟨_, rfl, (.refl _)⟩, rfl, rfl, ⟨⟨_, rfl, (.refl _)⟩, rfl, rfl, ⟨⟨_, rfl, (.refl _)⟩, rfl, rfl, trivial⟩⟩⟩⟩⟩⟩⟩
  · have h7 := cond_neg c14 h7
    cases h7
    dsimp only at h
    refine AWc.exit ?_
    refine inBlk_eq ?_
    cases h
theorem F431_1 {P : Program} {N : Nat → Nat} (hmix : P.follows .mixedOrders = true) (hc : HC431 P N) {asg0 bd0 : Code} (ha0 : compCode P asg0 = L425_0a N) (hb0 : compCode P bd0 = L425_0b N) {k : Nat} {a0 : Bool} {a1 : MM} {a2 : (List (List UInt8))} {r : MM} (h : f431 k a0 a1 a2 = some (.inr r)) :
    ACalls P (N 431) [(.lf 0), (.ptr 4 0)] [(0, (.lp 86 [(4, (.ptr 1 0)), (5, (.ptr 2 0))] [55, 56] asg0 bd0 .ready none)), (1, (.cells [(.d (.bool a0))])), (2, (.cells [(.mp 3)])), (3, (mpO a1)), (4, (.cells [(.d (.sl (List.map D.str a2)))]))] (.tup []) [(0, (.lp 86 [(4, (.ptr 1 0)), (5, (.ptr 2 0))] [55, 56] asg0 bd0 .ready none)), (1, (.cells [(.d (.bool a0))])), (2, (.cells [(.mp 3)])), (3, (mpO r)), (4, (.cells [(.d (.sl (List.map D.str a2)))]))] := by
  refine acalls_canon (F := C431 N) hc.1 5 5 rfl ?_
  unfold f431 at h
  dsimp only [C431, startL]
  refine AWc.seq ?_
  refine AWc.rg hmix rfl rfl ?_
  refine RegV.ld (v := (.d (.sl (List.map D.str a2)))) (H' := [(4, (.cells [(.d (.sl (List.map D.str a2)))])), (0, (.lp 86 [(4, (.ptr 1 0)), (5, (.ptr 2 0))] [55, 56] asg0 bd0 .ready none)), (1, (.cells [(.d (.bool a0))])), (2, (.cells [(.mp 3)])), (3, (mpO a1))]) rfl rfl trivial rfl rfl rfl rfl rfl ?_
  refine RegV.len (xs := a2) (e := D.str) rfl rfl rfl rfl ?_
  refine RegV.p0 rfl rfl rfl ?_
  refine RegV.nil0 ?_
  obtain ⟨o7, h7, h⟩ := bind_some h
  refine AWc.block ?_
  refine AWc.loopK (N := 18) 5 (fun (x : (Int × MM)) => [(0, (.lf 0)), (5, (.d (.sl (List.map D.str a2)))), (6, (.d (.int .i64 ((a2.length : Nat) : Int)))), (7, (.d (.int .i64 x.1)))]) (fun x => [(0, (.lp 86 [(4, (.ptr 1 0)), (5, (.ptr 2 0))] [55, 56] asg0 bd0 .ready none)), (1, (.cells [(.d (.bool a0))])), (2, (.cells [(.mp 3)])), (3, (mpO x.2)), (4, (.cells [(.d (.sl (List.map D.str a2)))]))]) (fun k x => f431_l7 a2 a0 k x.1 x.2 = some o7) k ((0 : Int), a1) rfl_le (fun x hx => by cases hx) h7 ⟨rfl, [], [], rfl, rfl, ⟨⟨_, rfl, (.refl _)⟩, rfl, ⟨⟨_, rfl, (.refl _)⟩, rfl, ⟨⟨_, rfl, (.refl _)⟩, rfl, ⟨⟨_, rfl, (.refl _)⟩, rfl, trivial⟩⟩⟩⟩, ⟨⟨_, rfl, (.refl _)⟩, rfl, rfl, ⟨⟨_, rfl, (.refl _)⟩, rfl, rfl, ⟨⟨_, rfl, (.refl _)⟩, rfl, rfl, ⟨⟨_, rfl, (.refl _)⟩, rfl, rfl, ⟨⟨_, rfl, (.refl _)⟩, rfl, rfl, trivial⟩⟩⟩⟩⟩⟩ ?_
  clear h7
  intro k
  rintro ⟨y7_1, y7_2⟩ h7
  dsimp only at h7 ⊢
  rw [f431_l7] at h7
  refine AWc.seq ?_
  refine AWc.rg hmix rfl rfl ?_
  refine RegV.p0 (v := (.d (.bool (decide (y7_1 < ((a2.length : Nat) : Int)))))) rfl rfl rfl ?_
  refine RegV.nil0 ?_
  refine AWc.seq ?_
  refine AWc.cond rfl (fun c14 => ?_) (fun c14 => ?_)
  · have h7 := cond_pos c14 h7
    refine AWc.skip ?_
    refine AWc.seq ?_
    refine AWc.block ?_
    refine AWc.seq ?_
    refine AWc.rg hmix rfl rfl ?_
    refine RegV.p0 rfl rfl rfl ?_
    obtain ⟨b23, h7⟩ := gd_some h7
    refine RegV.iad (xs := a2) (e := D.str) rfl rfl rfl rfl (fun _ => rfl) b23 rfl ?_
    refine RegV.p0 (v := (.d (.str (rd a2 y7_1)))) rfl rfl rfl ?_
    refine RegV.p0 rfl rfl rfl ?_
    refine RegV.p0 rfl rfl rfl ?_
    refine RegV.nil0 ?_
    refine AWc.seq ?_
    refine AWc.rg hmix rfl rfl ?_
    refine RegV.p0 rfl rfl rfl ?_
    refine RegV.p0 rfl rfl rfl ?_
    refine RegV.p0 rfl rfl rfl ?_
    obtain ⟨or33, e33, h7⟩ := bind_some h7
    rcases or33 with r33 | r33
    · dsimp only at h7
      refine RegV.yield (H' := [(0, (.lp 86 [(4, (.ptr 1 0)), (5, (.ptr 2 0))] [55, 56] asg0 bd0 .done (some .ret))), (1, (.cells [(.d (.bool false))])), (2, (.cells [(.mp 3)])), (3, (mpO y7_2)), (4, (.cells [(.d (.sl (List.map D.str a2)))]))]) (c' := 5) (show ARound P 0 [(.d (.int .i64 y7_1)), (.d (.str (rd a2 y7_1)))] [(0, (.lp 86 [(4, (.ptr 1 0)), (5, (.ptr 2 0))] [55, 56] asg0 bd0 .ready none)), (1, (.cells [(.d (.bool a0))])), (2, (.cells [(.mp 3)])), (3, (mpO y7_2))] (.d (.bool false)) [(0, (.lp 86 [(4, (.ptr 1 0)), (5, (.ptr 2 0))] [55, 56] asg0 bd0 .done (some .ret))), (1, (.cells [(.d (.bool false))])), (2, (.cells [(.mp 3)])), (3, (mpO y7_2))] from ARound.use (B425_134_0 hmix hc.2 ha0 hb0 e33) [(0, 0), (1, 1), (2, 2), (3, 3)] 4 rfl) rfl rfl rfl (.cons (.refl _) (.cons (.refl _) .nil)) rfl (hasCons rfl (hasCons rfl (hasCons rfl (hasCons rfl hasNil)))) rfl rfl rfl rfl ?_
      refine RegV.p0 (v := (.d (.bool true))) rfl rfl rfl ?_
      refine RegV.nil0 ?_
      refine AWc.cond rfl (fun _ => ?_) (fun hc => by cases hc)
      cases h7
      dsimp only at h
      cases h
    · dsimp only at h7
      refine RegV.yield (H' := [(0, (.lp 86 [(4, (.ptr 1 0)), (5, (.ptr 2 0))] [55, 56] asg0 bd0 .ready none)), (1, (.cells [(.d (.bool a0))])), (2, (.cells [(.mp 3)])), (3, (mpO (mput y7_2 (rd a2 y7_1) y7_1))), (4, (.cells [(.d (.sl (List.map D.str a2)))]))]) (c' := 5) (show ARound P 0 [(.d (.int .i64 y7_1)), (.d (.str (rd a2 y7_1)))] [(0, (.lp 86 [(4, (.ptr 1 0)), (5, (.ptr 2 0))] [55, 56] asg0 bd0 .ready none)), (1, (.cells [(.d (.bool a0))])), (2, (.cells [(.mp 3)])), (3, (mpO y7_2))] (.d (.bool true)) [(0, (.lp 86 [(4, (.ptr 1 0)), (5, (.ptr 2 0))] [55, 56] asg0 bd0 .ready none)), (1, (.cells [(.d (.bool a0))])), (2, (.cells [(.mp 3)])), (3, (mpO (mput y7_2 (rd a2 y7_1) y7_1)))] from ARound.use (B425_134_1 hmix hc.2 ha0 hb0 e33) [(0, 0), (1, 1), (2, 2), (3, 3)] 4 rfl) rfl rfl rfl (.cons (.refl _) (.cons (.refl _) .nil)) rfl (hasCons rfl (hasCons rfl (hasCons rfl (hasCons rfl hasNil)))) rfl rfl rfl rfl ?_
      refine RegV.p0 (v := (.d (.bool false))) rfl rfl rfl ?_
      refine RegV.nil0 ?_
      refine AWc.cond rfl (fun hc => by cases hc) (fun _ => ?_)
      refine AWc.skip ?_
      refine AWc.rg hmix rfl rfl ?_
      refine RegV.p0 (v := (.d (.int .i64 (IntKind.i64.wrap (y7_1 + (1 : Int)))))) rfl rfl rfl ?_
      refine RegV.p0 rfl rfl rfl ?_
      refine RegV.nil0 ?_
      exact ⟨((IntKind.i64.wrap (y7_1 + (1 : Int))), (mput y7_2 (rd a2 y7_1) y7_1)), h7, ⟨rfl, [], [], rfl, rfl, ⟨⟨_, rfl, (.refl _)⟩, rfl, ⟨⟨_, rfl, (.refl _)⟩, rfl, ⟨⟨_, rfl, (.refl _)⟩, rfl, ⟨⟨_, rfl, (.refl _)⟩, rfl, trivial⟩⟩⟩⟩, ⟨⟨_, rfl, (.refl _)⟩, rfl, rfl, ⟨⟨_, rfl, (.refl _)⟩, rfl, rfl, ⟨⟨_, rfl, (.refl _)⟩, rfl, rfl, ⟨⟨_, rfl, (.refl _)⟩, rfl, rfl, ⟨⟨_, rfl, (.refl _)⟩, rfl, rfl, trivial⟩⟩⟩⟩⟩⟩⟩
  · have h7 := cond_neg c14 h7
    cases h7
    dsimp only at h
    refine AWc.exit ?_
    refine inBlk_eq ?_
    have hr := Option.some.inj h
    have hr := Sum.inr.inj hr
    subst hr
    exact canQ (N := 18) (k := 5) (l' := []) (H' := [(0, (.lp 86 [(4, (.ptr 1 0)), (5, (.ptr 2 0))] [55, 56] asg0 bd0 .ready none)), (1, (.cells [(.d (.bool a0))])), (2, (.cells [(.mp 3)])), (3, (mpO y7_2)), (4, (.cells [(.d (.sl (List.map D.str a2)))]))]) rfl ⟨rfl, [], [], rfl, rfl,  trivial, ⟨⟨_, rfl, (.refl _)⟩, rfl, rfl, ⟨⟨_, rfl, (.refl _)⟩, rfl, rfl, ⟨⟨_, rfl, (.refl _)⟩, rfl, rfl, ⟨⟨_, rfl, (.refl _)⟩, rfl, rfl, ⟨⟨_, rfl, (.refl _)⟩, rfl, rfl, trivial⟩⟩⟩⟩⟩⟩ (doneA (.inl rfl) rfl trivial (.refl _) (hasCons rfl (hasCons rfl (hasCons rfl (hasCons rfl (hasCons rfl hasNil))))))
/-- courant/json.right$1 -/
def C428 (N : Nat → Nat) : AFunc := { n := 9, params := 2, res := [.tmp 3], body :=
 (.seq (.region false [⟨(some 2), .box (.t 0), none, []⟩,
   ⟨(some 3), .mv (.k (.d (.bool false))), none, []⟩])
  (.seq (.region false [⟨(some 4), .load (.t 2) 4 true, none, []⟩,
    ⟨(some 5), .load (.t 1) 1 false, none, []⟩,
    ⟨(some 6), .bin .add (.t 5) (.k (.d (.int .i64 1))), none, [1]⟩,
    ⟨(some 7), .call (.k (.d (.fn (N 425)))) [(.t 4), (.t 6)], none, [0, 2]⟩,
    ⟨(some 8), .un .not (.t 7), none, [3]⟩,
    ⟨(some 3), .mv (.t 8), none, [4, 3, 0, 1, 2]⟩])
   .ret)) }
def HC428 (P : Program) (N : Nat → Nat) : Prop := HasF P (N 428) (C428 N)
def f428 (rc425 : TJson → Int → Option Bool) (k : Nat) (a0 : TJson) (a1 : Int) : Option Bool := (rc425 (TJson.mk a0.fKind a0.fText a0.fL a0.fKeys) (IntKind.i64.wrap (a1 + (1 : Int)))).bind fun r12 => some (!r12)
theorem F428 {P : Program} {N : Nat → Nat} (hmix : P.follows .mixedOrders = true) (hc : HC428 P N) {rc425 : TJson → Int → Option Bool} (hrc425 : RH425 P N rc425) {k : Nat} {a0 : TJson} {a1 : Int} {r : Bool} (h : f428 rc425 k a0 a1 = some r) :
    ACalls P (N 428) [(.d (TJson.enc a0)), (.ptr 0 0)] [(0, (.cells [(.d (.int .i64 a1))]))] (.d (.bool r)) [(0, (.cells [(.d (.int .i64 a1))]))] := by
  refine acalls_canon (F := C428 N) hc 1 1 rfl ?_
  unfold f428 at h
  dsimp only [C428, startL]
  refine AWc.seq ?_
  refine AWc.rE hmix [] ?_
  refine AWc.seq ?_
  obtain ⟨r12, e12, h⟩ := bind_some h
  refine AWc.rE hmix [.call (hrc425 _ _ _ e12) [] 0] ?_
  have hr := Option.some.inj h
  subst hr
  exact AWc.ret (canQ (N := 9) (k := 1) (l' := [(3, (.d (.bool (!r12))))]) (H' := [(0, (.cells [(.d (.int .i64 a1))]))]) rfl (inT [] []) (doneA (.inr rfl) rfl ⟨trivial, trivial⟩ (.refl _) (hasCons rfl hasNil)))
/-- slices.IndexFunc[[]courant/api.Json,courant/api.Json] -/
def C430 (N : Nat → Nat) : AFunc := { n := 19, params := 2, res := [.tmp 4], body :=
 (.seq (.region false [⟨(some 4), .mv (.k (.d (.int .i64 0))), none, []⟩])
  (.seq (.seq (.region false [⟨(some 6), .mv (.t 0), none, []⟩,
     ⟨(some 7), .len (.t 6), none, [0]⟩,
     ⟨(some 8), .mv (.k (.d (.int .i64 0))), none, []⟩])
    (.block 0 (.loop (.seq (.region false [⟨(some 9), .bin .lss (.t 8) (.t 7), none, []⟩])
       (.seq (.cond (.t 9) (.skip)
         (.exit 0))
        (.seq (.block 1 (.seq (.region false [⟨(some 10), .mv (.t 8), none, []⟩,
            ⟨(some 5), .mv (.t 10), none, [0]⟩])
           (.seq (.region false [⟨(some 11), .mv (.t 1), none, []⟩,
             ⟨(some 12), .mv (.t 0), none, []⟩,
             ⟨(some 13), .mv (.t 5), none, []⟩,
             ⟨(some 14), .iaddr (.t 12) (.t 13) 4, none, [1, 2]⟩,
             ⟨(some 15), .load (.t 14) 4 true, none, [3]⟩,
             ⟨(some 16), .call (.t 11) [(.t 15)], none, [0, 4]⟩])
            (.cond (.t 16) (.seq (.region false [⟨(some 17), .mv (.t 5), none, []⟩,
               ⟨(some 4), .mv (.t 17), none, [0]⟩])
              .ret)
             (.skip)))))
         (.region false [⟨(some 18), .bin .add (.t 8) (.k (.d (.int .i64 1))), none, []⟩,
          ⟨(some 8), .mv (.t 18), none, [0]⟩])))))))
   (.seq (.region false [⟨(some 4), .mv (.k (.d (.int .i64 (-1)))), none, []⟩])
    .ret))) }
def HC430 (P : Program) (N : Nat → Nat) : Prop := HasF P (N 430) (C430 N) ∧ HC428 P N
def f430_l12 (a0 : (List (RT 4))) (rc425 : TJson → Int → Option Bool) (a1 : Int) : Nat → Int → Option (LR2 Unit Unit Int)
  | 0, _ => none
  | k + 1, y12_1 => cond (decide (y12_1 < ((a0.length : Nat) : Int))) (gd (0 ≤ y12_1 ∧ y12_1 < ((a0.length : Nat) : Int)) ((TJson.dec (rtE (rd a0 y12_1))).bind fun rx35 => (f428 rc425 k rx35 a1).bind fun r37 => cond r37 (some (.r y12_1)) (f430_l12 a0 rc425 a1 k (IntKind.i64.wrap (y12_1 + (1 : Int)))))) (some (.b0 ()))
def f430 (rc425 : TJson → Int → Option Bool) (k : Nat) (a0 : (List (RT 4))) (a1 : Int) : Option Int := (f430_l12 a0 rc425 a1 k (0 : Int)).bind fun o12 => (match o12 with | .b0 () => some (-1 : Int) | .r x => some x | _ => none)
theorem F430 {P : Program} {N : Nat → Nat} (hmix : P.follows .mixedOrders = true) (hc : HC430 P N) {rc425 : TJson → Int → Option Bool} (hrc425 : RH425 P N rc425) {k : Nat} {a0 : (List (RT 4))} {a1 : Int} {r : Int} (h : f430 rc425 k a0 a1 = some r) :
    ACalls P (N 430) [(.d (.sl (List.map (rtE (z := 4)) a0))), (.fn (N 428) [(.ptr 0 0)])] [(0, (.cells [(.d (.int .i64 a1))]))] (.d (.int .i64 r)) [(0, (.cells [(.d (.int .i64 a1))]))] := by
  refine acalls_canon (F := C430 N) hc.1 1 1 rfl ?_
  unfold f430 at h
  dsimp only [C430, startL]
  refine AWc.seq ?_
  refine AWc.rE hmix [] ?_
  refine AWc.seq ?_
  refine AWc.seq ?_
  refine AWc.rE hmix [.ln (rtE (z := 4)) a0] ?_
  obtain ⟨o12, h12, h⟩ := bind_some h
  refine AWc.block ?_
  refine AWc.loopK (N := 19) 1 (fun (x : Int) => [(0, (.d (.sl (List.map (rtE (z := 4)) a0)))), (1, (.fn (N 428) [(.ptr 0 0)])), (7, (.d (.int .i64 ((a0.length : Nat) : Int)))), (8, (.d (.int .i64 x)))]) (fun x => [(0, (.cells [(.d (.int .i64 a1))]))]) (fun k x => f430_l12 a0 rc425 a1 k x = some o12) k (0 : Int) rfl_le (fun x hx => by cases hx) h12 (inT [] []) ?_
  clear h12
  intro k
  intro y12_1 h12
  rw [f430_l12] at h12
  refine AWc.seq ?_
  refine AWc.rE hmix [] ?_
  refine AWc.seq ?_
  rcases cc h12 with ⟨c19, h12⟩ | ⟨c19, h12⟩
  · refine AWc.cT c19 ?_
    refine AWc.skip ?_
    refine AWc.seq ?_
    refine AWc.block ?_
    refine AWc.seq ?_
    refine AWc.rE hmix [] ?_
    refine AWc.seq ?_
    obtain ⟨b35, h12⟩ := gd_some h12
    obtain ⟨rx35, ex35, h12⟩ := bind_some h12
    obtain ⟨r37, e37, h12⟩ := bind_some h12
    refine AWc.rE hmix [.iadE (rtE (z := 4)) a0 4 rtE_ok.len b35 (TJson.dec_eq ex35), .cq (F428 hmix hc.2 hrc425 e37) [] 1] ?_
    rcases cc h12 with ⟨c38, h12⟩ | ⟨c38, h12⟩
    · refine AWc.cT c38 ?_
      refine AWc.seq ?_
      refine AWc.rE hmix [] ?_
      cases h12
      dsimp only at h
      have hr := Option.some.inj h
      subst hr
      exact AWc.ret (canQ (N := 19) (k := 1) (l' := [(4, (.d (.int .i64 y12_1)))]) (H' := [(0, (.cells [(.d (.int .i64 a1))]))]) rfl (inT [] []) (doneA (.inr rfl) rfl ⟨trivial, trivial⟩ (.refl _) (hasCons rfl hasNil)))
    · refine AWc.cF c38 ?_
      refine AWc.skip ?_
      refine AWc.rE hmix [] ?_
      exact ⟨(IntKind.i64.wrap (y12_1 + (1 : Int))), h12, (inT [] [])⟩
  · refine AWc.cF c19 ?_
    cases h12
    dsimp only at h
    refine AWc.exit ?_
    refine inBlk_eq ?_
    refine AWc.seq ?_
    refine AWc.rE hmix [] ?_
    have hr := Option.some.inj h
    subst hr
    exact AWc.ret (canQ (N := 19) (k := 1) (l' := [(4, (.d (.int .i64 (-1 : Int))))]) (H' := [(0, (.cells [(.d (.int .i64 a1))]))]) rfl (inT [] []) (doneA (.inr rfl) rfl ⟨trivial, trivial⟩ (.refl _) (hasCons rfl hasNil)))
/-- slices.ContainsFunc[[]courant/api.Json,courant/api.Json] -/
def C429 (N : Nat → Nat) : AFunc := { n := 9, params := 2, res := [.tmp 4], body :=
 (.seq (.region false [⟨(some 4), .mv (.k (.d (.bool false))), none, []⟩])
  (.seq (.region false [⟨(some 5), .mv (.t 0), none, []⟩,
    ⟨(some 6), .mv (.t 1), none, []⟩,
    ⟨(some 7), .call (.k (.d (.fn (N 430)))) [(.t 5), (.t 6)], none, [0, 1]⟩,
    ⟨(some 8), .bin .geq (.t 7) (.k (.d (.int .i64 0))), none, [2]⟩,
    ⟨(some 4), .mv (.t 8), none, [3, 2, 0, 1]⟩])
   .ret)) }
def HC429 (P : Program) (N : Nat → Nat) : Prop := HasF P (N 429) (C429 N) ∧ HC430 P N
def f429 (rc425 : TJson → Int → Option Bool) (k : Nat) (a0 : (List (RT 4))) (a1 : Int) : Option Bool := (f430 rc425 k a0 a1).bind fun r10 => some (decide (r10 ≥ (0 : Int)))
theorem F429 {P : Program} {N : Nat → Nat} (hmix : P.follows .mixedOrders = true) (hc : HC429 P N) {rc425 : TJson → Int → Option Bool} (hrc425 : RH425 P N rc425) {k : Nat} {a0 : (List (RT 4))} {a1 : Int} {r : Bool} (h : f429 rc425 k a0 a1 = some r) :
    ACalls P (N 429) [(.d (.sl (List.map (rtE (z := 4)) a0))), (.fn (N 428) [(.ptr 0 0)])] [(0, (.cells [(.d (.int .i64 a1))]))] (.d (.bool r)) [(0, (.cells [(.d (.int .i64 a1))]))] := by
  refine acalls_canon (F := C429 N) hc.1 1 1 rfl ?_
  unfold f429 at h
  dsimp only [C429, startL]
  refine AWc.seq ?_
  refine AWc.rE hmix [] ?_
  refine AWc.seq ?_
  obtain ⟨r10, e10, h⟩ := bind_some h
  refine AWc.rE hmix [.cq (F430 hmix hc.2 hrc425 e10) [] 1] ?_
  have hr := Option.some.inj h
  subst hr
  exact AWc.ret (canQ (N := 9) (k := 1) (l' := [(4, (.d (.bool (decide (r10 ≥ (0 : Int))))))]) (H' := [(0, (.cells [(.d (.int .i64 a1))]))]) rfl (inT [] []) (doneA (.inr rfl) rfl ⟨trivial, trivial⟩ (.refl _) (hasCons rfl hasNil)))
def HC425 (P : Program) (N : Nat → Nat) : Prop := HasF P (N 425) (C425 N) ∧ HC426 P N ∧ HC406 P N ∧ HC351 P N ∧ HC427 P N ∧ HC431 P N ∧ HC429 P N
def f425_j183 (k : Nat) (a0 : TJson) (a1 : Int) (rc425 : TJson → Int → Option Bool) : Option Bool := cond (decide (a0.fText = ([] : List UInt8))) (cond (decide (a1 < (64 : Int))) ((f429 rc425 k a0.fL a1).bind fun r197 => some (!r197)) (some false)) (some false)
def f425_j33 (k : Nat) (a0 : TJson) (a1 : Int) (rc425 : TJson → Int → Option Bool) (j33_1 : Bool) : Option Bool := cond j33_1 ((f426 k (TJson.mk a0.fKind a0.fText a0.fL a0.fKeys) false).bind fun r38 => some r38) (cond (decide (a0.fKind = (4 : Int))) ((f426 k (TJson.mk a0.fKind a0.fText a0.fL a0.fKeys) true).bind fun r51 => cond r51 ((f406 k a0.fText).bind fun r55 => some r55) (some false)) (cond (decide (a0.fKind = (5 : Int))) ((f426 k (TJson.mk a0.fKind a0.fText a0.fL a0.fKeys) true).bind fun r69 => cond r69 ((f351 k a0.fText).bind fun r73 => some r73) (some false)) (cond (decide (a0.fKind = (6 : Int))) (cond (decide (((a0.fKeys.length : Nat) : Int) > (0 : Int))) (some false) (f425_j183 k a0 a1 rc425)) (cond (decide (a0.fKind = (7 : Int))) (cond (decide (((a0.fKeys.length : Nat) : Int) ≠ ((a0.fL.length : Nat) : Int))) (some false) ((f427 k a0.fKeys).bind fun r132 => (f431 k false ([] : MM) a0.fKeys).bind fun orf134 => (match orf134 with | .inl rf134 => some false | .inr rf134 => f425_j183 k a0 a1 rc425))) (some false)))))
def f425_s (rc425 : TJson → Int → Option Bool) (k : Nat) (a0 : TJson) (a1 : Int) : Option Bool := cond (decide (a0.fKind = (1 : Int))) (f425_j33 k a0 a1 rc425 (decide (a0.fKind = (1 : Int)))) (cond (decide (a0.fKind = (2 : Int))) (f425_j33 k a0 a1 rc425 (decide (a0.fKind = (2 : Int)))) (f425_j33 k a0 a1 rc425 (decide (a0.fKind = (3 : Int)))))
theorem F425_s {P : Program} {N : Nat → Nat} (hmix : P.follows .mixedOrders = true) (hc : HC425 P N) {rc425 : TJson → Int → Option Bool} (hrc425 : RH425 P N rc425) {k : Nat} {a0 : TJson} {a1 : Int} {r : Bool} (h : f425_s rc425 k a0 a1 = some r) :
    ACalls P (N 425) [(.d (TJson.enc a0)), (.d (.int .i64 a1))] [] (.d (.bool r)) [] := by
  refine acalls_canon (F := C425 N) hc.1 0 0 rfl ?_
  unfold f425_s at h
  dsimp only [C425, startL]
  refine AWc.seq ?_
  refine AWc.rg hmix rfl rfl ?_
  refine RegV.evS (own := false) (v := (.ptr 0 0)) (H' := [(0, (.cells [(.d (.int .i64 a0.fKind)), (.d (.str a0.fText)), (.d (.sl (List.map (rtE (z := 4)) a0.fL))), (.d (.sl (List.map D.str a0.fKeys)))]))]) (c' := 1) rfl rfl trivial rfl rfl rfl rfl rfl rfl ?_
  refine RegV.evS (own := false) (v := (.ptr 1 0)) (H' := [(1, (.cells [(.d (.int .i64 a1))])), (0, (.cells [(.d (.int .i64 a0.fKind)), (.d (.str a0.fText)), (.d (.sl (List.map (rtE (z := 4)) a0.fL))), (.d (.sl (List.map D.str a0.fKeys)))]))]) (c' := 2) rfl rfl trivial rfl rfl rfl rfl rfl rfl ?_
  refine RegV.evS (own := false) (v := (.ptr 2 0)) (H' := [(2, (.cells [(.d (.bool false))])), (1, (.cells [(.d (.int .i64 a1))])), (0, (.cells [(.d (.int .i64 a0.fKind)), (.d (.str a0.fText)), (.d (.sl (List.map (rtE (z := 4)) a0.fL))), (.d (.sl (List.map D.str a0.fKeys)))]))]) (c' := 3) rfl rfl trivial rfl rfl rfl rfl rfl rfl ?_
  refine RegV.nil0 ?_
  refine AWc.seqS (N := 86) 3 (fun (z : Unit) => [(2, (.ptr 0 0)), (3, (.ptr 1 0)), (4, (.ptr 2 0))]) (fun z => [(0, (.cells [(.d (.int .i64 a0.fKind)), (.d (.str a0.fText)), (.d (.sl (List.map (rtE (z := 4)) a0.fL))), (.d (.sl (List.map D.str a0.fKeys)))])), (1, (.cells [(.d (.int .i64 a1))])), (2, (.cells [(.d (.bool false))]))]) (fun z => f425_j183 k a0 a1 rc425 = some r) rfl_le ?_ ?_
  · refine AWc.seq ?_
    refine AWc.rg hmix rfl rfl ?_
    refine RegV.p0 (v := (.ptr 0 0)) rfl rfl rfl ?_
    refine RegV.ld (v := (.d (.int .i64 a0.fKind))) (H' := [(0, (.cells [(.d (.int .i64 a0.fKind)), (.d (.str a0.fText)), (.d (.sl (List.map (rtE (z := 4)) a0.fL))), (.d (.sl (List.map D.str a0.fKeys)))])), (2, (.cells [(.d (.bool false))])), (1, (.cells [(.d (.int .i64 a1))]))]) rfl rfl trivial rfl rfl rfl rfl rfl ?_
    refine RegV.nil0 ?_
    refine AWc.block ?_
    refine AWc.seqS (N := 86) 3 (fun (z : Bool) => [(2, (.ptr 0 0)), (3, (.ptr 1 0)), (4, (.ptr 2 0)), (11, (.d (.int .i64 a0.fKind))), (12, (.d (.bool z)))]) (fun z => [(0, (.cells [(.d (.int .i64 a0.fKind)), (.d (.str a0.fText)), (.d (.sl (List.map (rtE (z := 4)) a0.fL))), (.d (.sl (List.map D.str a0.fKeys)))])), (1, (.cells [(.d (.int .i64 a1))])), (2, (.cells [(.d (.bool false))]))]) (fun z => f425_j33 k a0 a1 rc425 z = some r) rfl_le ?_ ?_
    · refine AWc.seq ?_
      refine AWc.rg hmix rfl rfl ?_
      refine RegV.p0 (v := (.d (.bool (decide (a0.fKind = (1 : Int)))))) rfl rfl rfl ?_
      refine RegV.p0 rfl rfl rfl ?_
      refine RegV.nil0 ?_
      refine AWc.cond rfl (fun c20 => ?_) (fun c20 => ?_)
      · have h := cond_pos c20 h
        refine AWc.skip ?_
        exact ⟨(decide (a0.fKind = (1 : Int))), h, ⟨rfl, [], [], rfl, rfl, ⟨⟨_, rfl, (.refl _)⟩, rfl, ⟨⟨_, rfl, (.refl _)⟩, rfl, ⟨⟨_, rfl, (.refl _)⟩, rfl, ⟨⟨_, rfl, (.refl _)⟩, rfl, ⟨⟨_, rfl, (.refl _)⟩, rfl, trivial⟩⟩⟩⟩⟩, ⟨⟨_, rfl, (.refl _)⟩, rfl, rfl, ⟨⟨_, rfl, (.refl _)⟩, rfl, rfl, ⟨⟨_, rfl, (.refl _)⟩, rfl, rfl, trivial⟩⟩⟩⟩⟩
      · have h := cond_neg c20 h
        refine AWc.seq ?_
        refine AWc.rg hmix rfl rfl ?_
        refine RegV.p0 (v := (.d (.bool (decide (a0.fKind = (2 : Int)))))) rfl rfl rfl ?_
        refine RegV.p0 rfl rfl rfl ?_
        refine RegV.nil0 ?_
        refine AWc.cond rfl (fun c27 => ?_) (fun c27 => ?_)
        · have h := cond_pos c27 h
          refine AWc.skip ?_
          exact ⟨(decide (a0.fKind = (2 : Int))), h, ⟨rfl, [], [], rfl, rfl, ⟨⟨_, rfl, (.refl _)⟩, rfl, ⟨⟨_, rfl, (.refl _)⟩, rfl, ⟨⟨_, rfl, (.refl _)⟩, rfl, ⟨⟨_, rfl, (.refl _)⟩, rfl, ⟨⟨_, rfl, (.refl _)⟩, rfl, trivial⟩⟩⟩⟩⟩, ⟨⟨_, rfl, (.refl _)⟩, rfl, rfl, ⟨⟨_, rfl, (.refl _)⟩, rfl, rfl, ⟨⟨_, rfl, (.refl _)⟩, rfl, rfl, trivial⟩⟩⟩⟩⟩
        · have h := cond_neg c27 h
          refine AWc.rg hmix rfl rfl ?_
          refine RegV.p0 (v := (.d (.bool (decide (a0.fKind = (3 : Int)))))) rfl rfl rfl ?_
          refine RegV.p0 rfl rfl rfl ?_
          refine RegV.nil0 ?_
          exact ⟨(decide (a0.fKind = (3 : Int))), h, ⟨rfl, [], [], rfl, rfl, ⟨⟨_, rfl, (.refl _)⟩, rfl, ⟨⟨_, rfl, (.refl _)⟩, rfl, ⟨⟨_, rfl, (.refl _)⟩, rfl, ⟨⟨_, rfl, (.refl _)⟩, rfl, ⟨⟨_, rfl, (.refl _)⟩, rfl, trivial⟩⟩⟩⟩⟩, ⟨⟨_, rfl, (.refl _)⟩, rfl, rfl, ⟨⟨_, rfl, (.refl _)⟩, rfl, rfl, ⟨⟨_, rfl, (.refl _)⟩, rfl, rfl, trivial⟩⟩⟩⟩⟩
    · intro j33_1 h
      unfold f425_j33 at h
      refine AWc.cond rfl (fun c33 => ?_) (fun c33 => ?_)
      · have h := cond_pos c33 h
        refine AWc.seq ?_
        refine AWc.rg hmix rfl rfl ?_
        refine RegV.ld (v := (.d (.agg [(.int .i64 a0.fKind), (.str a0.fText), (.sl (List.map (rtE (z := 4)) a0.fL)), (.sl (List.map D.str a0.fKeys))]))) (H' := [(0, (.cells [(.d (.int .i64 a0.fKind)), (.d (.str a0.fText)), (.d (.sl (List.map (rtE (z := 4)) a0.fL))), (.d (.sl (List.map D.str a0.fKeys)))])), (1, (.cells [(.d (.int .i64 a1))])), (2, (.cells [(.d (.bool false))]))]) rfl rfl (Nat.le_of_ble_eq_true rfl) rfl rfl rfl rfl rfl ?_
        obtain ⟨r38, e38, h⟩ := bind_some h
        refine RegV.call0 (F426 hmix hc.2.1 e38) rfl rfl rfl rfl (.cons (.refl _) (.cons (.refl _) .nil)) rfl ?_
        refine RegV.evN (own := false) (H' := [(2, (.cells [(.d (.bool r38))])), (0, (.cells [(.d (.int .i64 a0.fKind)), (.d (.str a0.fText)), (.d (.sl (List.map (rtE (z := 4)) a0.fL))), (.d (.sl (List.map D.str a0.fKeys)))])), (1, (.cells [(.d (.int .i64 a1))]))]) (c' := 3) rfl rfl (by exact ⟨rfl, Nat.le_of_ble_eq_true rfl, rfl⟩) rfl rfl rfl rfl ?_
        refine RegV.nil0 ?_
        have hr := Option.some.inj h
        subst hr
        exact AWc.ret (canQ (N := 86) (k := 1) (l' := [(4, (.ptr 0 0))]) (H' := [(0, (.cells [(.d (.bool r38))]))]) rfl ⟨rfl, [], [(0, 2)], rfl, rfl, ⟨⟨_, rfl, (.refl _)⟩, rfl, trivial⟩, ⟨⟨_, rfl, (.refl _)⟩, rfl, rfl, trivial⟩⟩ (doneA (.inr rfl) rfl ⟨trivial, trivial⟩ (.refl _) hasNil))
      · have h := cond_neg c33 h
        refine AWc.seq ?_
        refine AWc.rg hmix rfl rfl ?_
        refine RegV.p0 (v := (.d (.bool (decide (a0.fKind = (4 : Int)))))) rfl rfl rfl ?_
        refine RegV.p0 rfl rfl rfl ?_
        refine RegV.nil0 ?_
        refine AWc.cond rfl (fun c46 => ?_) (fun c46 => ?_)
        · have h := cond_pos c46 h
          refine AWc.seq ?_
          refine AWc.rg hmix rfl rfl ?_
          refine RegV.ld (v := (.d (.agg [(.int .i64 a0.fKind), (.str a0.fText), (.sl (List.map (rtE (z := 4)) a0.fL)), (.sl (List.map D.str a0.fKeys))]))) (H' := [(0, (.cells [(.d (.int .i64 a0.fKind)), (.d (.str a0.fText)), (.d (.sl (List.map (rtE (z := 4)) a0.fL))), (.d (.sl (List.map D.str a0.fKeys)))])), (1, (.cells [(.d (.int .i64 a1))])), (2, (.cells [(.d (.bool false))]))]) rfl rfl (Nat.le_of_ble_eq_true rfl) rfl rfl rfl rfl rfl ?_
          obtain ⟨r51, e51, h⟩ := bind_some h
          refine RegV.call0 (F426 hmix hc.2.1 e51) rfl rfl rfl rfl (.cons (.refl _) (.cons (.refl _) .nil)) rfl ?_
          refine RegV.p0 rfl rfl rfl ?_
          refine RegV.split (fun c52 => ?_) (fun c52 => ?_)
          · have h := cond_pos c52 h
            refine RegV.p0 (v := (.ptr 0 1)) rfl rfl rfl ?_
            refine RegV.ld (v := (.d (.str a0.fText))) (H' := [(0, (.cells [(.d (.int .i64 a0.fKind)), (.d (.str a0.fText)), (.d (.sl (List.map (rtE (z := 4)) a0.fL))), (.d (.sl (List.map D.str a0.fKeys)))])), (1, (.cells [(.d (.int .i64 a1))])), (2, (.cells [(.d (.bool false))]))]) rfl rfl trivial rfl rfl rfl rfl rfl ?_
            obtain ⟨r55, e55, h⟩ := bind_some h
            refine RegV.call0 (F406 hmix hc.2.2.1 e55) rfl rfl rfl rfl (.cons (.refl _) .nil) rfl ?_
            refine RegV.p0 rfl rfl rfl ?_
            refine RegV.evN (own := false) (H' := [(2, (.cells [(.d (.bool r55))])), (0, (.cells [(.d (.int .i64 a0.fKind)), (.d (.str a0.fText)), (.d (.sl (List.map (rtE (z := 4)) a0.fL))), (.d (.sl (List.map D.str a0.fKeys)))])), (1, (.cells [(.d (.int .i64 a1))]))]) (c' := 3) rfl rfl (by exact ⟨rfl, Nat.le_of_ble_eq_true rfl, rfl⟩) rfl rfl rfl rfl ?_
            refine RegV.nil0 ?_
            have hr := Option.some.inj h
            subst hr
            exact AWc.ret (canQ (N := 86) (k := 1) (l' := [(4, (.ptr 0 0))]) (H' := [(0, (.cells [(.d (.bool r55))]))]) rfl ⟨rfl, [], [(0, 2)], rfl, rfl, ⟨⟨_, rfl, (.refl _)⟩, rfl, trivial⟩, ⟨⟨_, rfl, (.refl _)⟩, rfl, rfl, trivial⟩⟩ (doneA (.inr rfl) rfl ⟨trivial, trivial⟩ (.refl _) hasNil))
          · have h := cond_neg c52 h
            refine RegV.noS rfl rfl ?_
            refine RegV.noS rfl rfl ?_
            refine RegV.noS rfl rfl ?_
            refine RegV.p0 rfl rfl rfl ?_
            refine RegV.evN (own := false) (H' := [(2, (.cells [(.d (.bool false))])), (0, (.cells [(.d (.int .i64 a0.fKind)), (.d (.str a0.fText)), (.d (.sl (List.map (rtE (z := 4)) a0.fL))), (.d (.sl (List.map D.str a0.fKeys)))])), (1, (.cells [(.d (.int .i64 a1))]))]) (c' := 3) rfl rfl (by exact ⟨rfl, Nat.le_of_ble_eq_true rfl, rfl⟩) rfl rfl rfl rfl ?_
            refine RegV.nil0 ?_
            have hr := Option.some.inj h
            subst hr
            exact AWc.ret (canQ (N := 86) (k := 1) (l' := [(4, (.ptr 0 0))]) (H' := [(0, (.cells [(.d (.bool false))]))]) rfl ⟨rfl, [], [(0, 2)], rfl, rfl, ⟨⟨_, rfl, (.refl _)⟩, rfl, trivial⟩, ⟨⟨_, rfl, (.refl _)⟩, rfl, rfl, trivial⟩⟩ (doneA (.inr rfl) rfl ⟨trivial, trivial⟩ (.refl _) hasNil))
        · have h := cond_neg c46 h
          refine AWc.seq ?_
          refine AWc.rg hmix rfl rfl ?_
          refine RegV.p0 (v := (.d (.bool (decide (a0.fKind = (5 : Int)))))) rfl rfl rfl ?_
          refine RegV.p0 rfl rfl rfl ?_
          refine RegV.nil0 ?_
          refine AWc.cond rfl (fun c64 => ?_) (fun c64 => ?_)
          · have h := cond_pos c64 h
            refine AWc.seq ?_
            refine AWc.rg hmix rfl rfl ?_
            refine RegV.ld (v := (.d (.agg [(.int .i64 a0.fKind), (.str a0.fText), (.sl (List.map (rtE (z := 4)) a0.fL)), (.sl (List.map D.str a0.fKeys))]))) (H' := [(0, (.cells [(.d (.int .i64 a0.fKind)), (.d (.str a0.fText)), (.d (.sl (List.map (rtE (z := 4)) a0.fL))), (.d (.sl (List.map D.str a0.fKeys)))])), (1, (.cells [(.d (.int .i64 a1))])), (2, (.cells [(.d (.bool false))]))]) rfl rfl (Nat.le_of_ble_eq_true rfl) rfl rfl rfl rfl rfl ?_
            obtain ⟨r69, e69, h⟩ := bind_some h
            refine RegV.call0 (F426 hmix hc.2.1 e69) rfl rfl rfl rfl (.cons (.refl _) (.cons (.refl _) .nil)) rfl ?_
            refine RegV.p0 rfl rfl rfl ?_
            refine RegV.split (fun c70 => ?_) (fun c70 => ?_)
            · have h := cond_pos c70 h
              refine RegV.p0 (v := (.ptr 0 1)) rfl rfl rfl ?_
              refine RegV.ld (v := (.d (.str a0.fText))) (H' := [(0, (.cells [(.d (.int .i64 a0.fKind)), (.d (.str a0.fText)), (.d (.sl (List.map (rtE (z := 4)) a0.fL))), (.d (.sl (List.map D.str a0.fKeys)))])), (1, (.cells [(.d (.int .i64 a1))])), (2, (.cells [(.d (.bool false))]))]) rfl rfl trivial rfl rfl rfl rfl rfl ?_
              obtain ⟨r73, e73, h⟩ := bind_some h
              refine RegV.call0 (F351 hmix hc.2.2.2.1 e73) rfl rfl rfl rfl (.cons (.refl _) .nil) rfl ?_
              refine RegV.p0 rfl rfl rfl ?_
              refine RegV.evN (own := false) (H' := [(2, (.cells [(.d (.bool r73))])), (0, (.cells [(.d (.int .i64 a0.fKind)), (.d (.str a0.fText)), (.d (.sl (List.map (rtE (z := 4)) a0.fL))), (.d (.sl (List.map D.str a0.fKeys)))])), (1, (.cells [(.d (.int .i64 a1))]))]) (c' := 3) rfl rfl (by exact ⟨rfl, Nat.le_of_ble_eq_true rfl, rfl⟩) rfl rfl rfl rfl ?_
              refine RegV.nil0 ?_
              have hr := Option.some.inj h
              subst hr
              exact AWc.ret (canQ (N := 86) (k := 1) (l' := [(4, (.ptr 0 0))]) (H' := [(0, (.cells [(.d (.bool r73))]))]) rfl ⟨rfl, [], [(0, 2)], rfl, rfl, ⟨⟨_, rfl, (.refl _)⟩, rfl, trivial⟩, ⟨⟨_, rfl, (.refl _)⟩, rfl, rfl, trivial⟩⟩ (doneA (.inr rfl) rfl ⟨trivial, trivial⟩ (.refl _) hasNil))
            · have h := cond_neg c70 h
              refine RegV.noS rfl rfl ?_
              refine RegV.noS rfl rfl ?_
              refine RegV.noS rfl rfl ?_
              refine RegV.p0 rfl rfl rfl ?_
              refine RegV.evN (own := false) (H' := [(2, (.cells [(.d (.bool false))])), (0, (.cells [(.d (.int .i64 a0.fKind)), (.d (.str a0.fText)), (.d (.sl (List.map (rtE (z := 4)) a0.fL))), (.d (.sl (List.map D.str a0.fKeys)))])), (1, (.cells [(.d (.int .i64 a1))]))]) (c' := 3) rfl rfl (by exact ⟨rfl, Nat.le_of_ble_eq_true rfl, rfl⟩) rfl rfl rfl rfl ?_
              refine RegV.nil0 ?_
              have hr := Option.some.inj h
              subst hr
              exact AWc.ret (canQ (N := 86) (k := 1) (l' := [(4, (.ptr 0 0))]) (H' := [(0, (.cells [(.d (.bool false))]))]) rfl ⟨rfl, [], [(0, 2)], rfl, rfl, ⟨⟨_, rfl, (.refl _)⟩, rfl, trivial⟩, ⟨⟨_, rfl, (.refl _)⟩, rfl, rfl, trivial⟩⟩ (doneA (.inr rfl) rfl ⟨trivial, trivial⟩ (.refl _) hasNil))
          · have h := cond_neg c64 h
            refine AWc.seq ?_
            refine AWc.rg hmix rfl rfl ?_
            refine RegV.p0 (v := (.d (.bool (decide (a0.fKind = (6 : Int)))))) rfl rfl rfl ?_
            refine RegV.p0 rfl rfl rfl ?_
            refine RegV.nil0 ?_
            refine AWc.cond rfl (fun c82 => ?_) (fun c82 => ?_)
            · have h := cond_pos c82 h
              refine AWc.seq ?_
              refine AWc.rg hmix rfl rfl ?_
              refine RegV.p0 (v := (.ptr 0 3)) rfl rfl rfl ?_
              refine RegV.ld (v := (.d (.sl (List.map D.str a0.fKeys)))) (H' := [(0, (.cells [(.d (.int .i64 a0.fKind)), (.d (.str a0.fText)), (.d (.sl (List.map (rtE (z := 4)) a0.fL))), (.d (.sl (List.map D.str a0.fKeys)))])), (1, (.cells [(.d (.int .i64 a1))])), (2, (.cells [(.d (.bool false))]))]) rfl rfl trivial rfl rfl rfl rfl rfl ?_
              refine RegV.len (xs := a0.fKeys) (e := D.str) rfl rfl rfl rfl ?_
              refine RegV.p0 (v := (.d (.bool (decide (((a0.fKeys.length : Nat) : Int) > (0 : Int)))))) rfl rfl rfl ?_
              refine RegV.nil0 ?_
              refine AWc.cond rfl (fun c90 => ?_) (fun c90 => ?_)
              · have h := cond_pos c90 h
                refine AWc.seq ?_
                refine AWc.rg hmix rfl rfl ?_
                refine RegV.evN (own := false) (H' := [(2, (.cells [(.d (.bool false))])), (0, (.cells [(.d (.int .i64 a0.fKind)), (.d (.str a0.fText)), (.d (.sl (List.map (rtE (z := 4)) a0.fL))), (.d (.sl (List.map D.str a0.fKeys)))])), (1, (.cells [(.d (.int .i64 a1))]))]) (c' := 3) rfl rfl (by exact ⟨rfl, Nat.le_of_ble_eq_true rfl, rfl⟩) rfl rfl rfl rfl ?_
                refine RegV.nil0 ?_
                have hr := Option.some.inj h
                subst hr
                exact AWc.ret (canQ (N := 86) (k := 1) (l' := [(4, (.ptr 0 0))]) (H' := [(0, (.cells [(.d (.bool false))]))]) rfl ⟨rfl, [], [(0, 2)], rfl, rfl, ⟨⟨_, rfl, (.refl _)⟩, rfl, trivial⟩, ⟨⟨_, rfl, (.refl _)⟩, rfl, rfl, trivial⟩⟩ (doneA (.inr rfl) rfl ⟨trivial, trivial⟩ (.refl _) hasNil))
              · have h := cond_neg c90 h
                refine AWc.skip ?_
                exact ⟨(), h, ⟨rfl, [], [], rfl, rfl, ⟨⟨_, rfl, (.refl _)⟩, rfl, ⟨⟨_, rfl, (.refl _)⟩, rfl, ⟨⟨_, rfl, (.refl _)⟩, rfl, trivial⟩⟩⟩, ⟨⟨_, rfl, (.refl _)⟩, rfl, rfl, ⟨⟨_, rfl, (.refl _)⟩, rfl, rfl, ⟨⟨_, rfl, (.refl _)⟩, rfl, rfl, trivial⟩⟩⟩⟩⟩
            · have h := cond_neg c82 h
              refine AWc.seq ?_
              refine AWc.rg hmix rfl rfl ?_
              refine RegV.p0 (v := (.d (.bool (decide (a0.fKind = (7 : Int)))))) rfl rfl rfl ?_
              refine RegV.p0 rfl rfl rfl ?_
              refine RegV.nil0 ?_
              refine AWc.cond rfl (fun c102 => ?_) (fun c102 => ?_)
              · have h := cond_pos c102 h
                refine AWc.seq ?_
                refine AWc.seq ?_
                refine AWc.rg hmix rfl rfl ?_
                refine RegV.p0 (v := (.ptr 0 3)) rfl rfl rfl ?_
                refine RegV.ld (v := (.d (.sl (List.map D.str a0.fKeys)))) (H' := [(0, (.cells [(.d (.int .i64 a0.fKind)), (.d (.str a0.fText)), (.d (.sl (List.map (rtE (z := 4)) a0.fL))), (.d (.sl (List.map D.str a0.fKeys)))])), (1, (.cells [(.d (.int .i64 a1))])), (2, (.cells [(.d (.bool false))]))]) rfl rfl trivial rfl rfl rfl rfl rfl ?_
                refine RegV.len (xs := a0.fKeys) (e := D.str) rfl rfl rfl rfl ?_
                refine RegV.p0 (v := (.ptr 0 2)) rfl rfl rfl ?_
                refine RegV.ld (v := (.d (.sl (List.map (rtE (z := 4)) a0.fL)))) (H' := [(0, (.cells [(.d (.int .i64 a0.fKind)), (.d (.str a0.fText)), (.d (.sl (List.map (rtE (z := 4)) a0.fL))), (.d (.sl (List.map D.str a0.fKeys)))])), (1, (.cells [(.d (.int .i64 a1))])), (2, (.cells [(.d (.bool false))]))]) rfl rfl trivial rfl rfl rfl rfl rfl ?_
                refine RegV.len (xs := a0.fL) (e := (rtE (z := 4))) rfl rfl rfl rfl ?_
                refine RegV.p0 (v := (.d (.bool (decide (((a0.fKeys.length : Nat) : Int) ≠ ((a0.fL.length : Nat) : Int)))))) rfl rfl rfl ?_
                refine RegV.nil0 ?_
                refine AWc.cond rfl (fun c114 => ?_) (fun c114 => ?_)
                · have h := cond_pos c114 h
                  refine AWc.seq ?_
                  refine AWc.rg hmix rfl rfl ?_
                  refine RegV.evN (own := false) (H' := [(2, (.cells [(.d (.bool false))])), (0, (.cells [(.d (.int .i64 a0.fKind)), (.d (.str a0.fText)), (.d (.sl (List.map (rtE (z := 4)) a0.fL))), (.d (.sl (List.map D.str a0.fKeys)))])), (1, (.cells [(.d (.int .i64 a1))]))]) (c' := 3) rfl rfl (by exact ⟨rfl, Nat.le_of_ble_eq_true rfl, rfl⟩) rfl rfl rfl rfl ?_
                  refine RegV.nil0 ?_
                  have hr := Option.some.inj h
                  subst hr
                  exact AWc.ret (canQ (N := 86) (k := 1) (l' := [(4, (.ptr 0 0))]) (H' := [(0, (.cells [(.d (.bool false))]))]) rfl ⟨rfl, [], [(0, 2)], rfl, rfl, ⟨⟨_, rfl, (.refl _)⟩, rfl, trivial⟩, ⟨⟨_, rfl, (.refl _)⟩, rfl, rfl, trivial⟩⟩ (doneA (.inr rfl) rfl ⟨trivial, trivial⟩ (.refl _) hasNil))
                · have h := cond_neg c114 h
                  refine AWc.skip ?_
                  refine AWc.seq ?_
                  refine AWc.rg hmix rfl rfl ?_
                  refine RegV.newM rfl rfl rfl ?_
                  refine RegV.evS (own := false) (v := (.ptr 4 0)) (H' := [(4, (.cells [(.d (.nilm))])), (3, (mpO ([] : MM))), (0, (.cells [(.d (.int .i64 a0.fKind)), (.d (.str a0.fText)), (.d (.sl (List.map (rtE (z := 4)) a0.fL))), (.d (.sl (List.map D.str a0.fKeys)))])), (1, (.cells [(.d (.int .i64 a1))])), (2, (.cells [(.d (.bool false))]))]) (c' := 5) rfl rfl trivial rfl rfl rfl rfl rfl rfl ?_
                  refine RegV.evN (own := false) (H' := [(4, (.cells [(.mp 3)])), (3, (mpO ([] : MM))), (0, (.cells [(.d (.int .i64 a0.fKind)), (.d (.str a0.fText)), (.d (.sl (List.map (rtE (z := 4)) a0.fL))), (.d (.sl (List.map D.str a0.fKeys)))])), (1, (.cells [(.d (.int .i64 a1))])), (2, (.cells [(.d (.bool false))]))]) (c' := 5) rfl rfl (by exact ⟨rfl, Nat.le_of_ble_eq_true rfl, rfl⟩) rfl rfl rfl rfl ?_
                  refine RegV.nil0 ?_
                  refine AWc.seq ?_
                  refine AWc.rg hmix rfl rfl ?_
                  refine RegV.p0 (v := (.ptr 0 3)) rfl rfl rfl ?_
                  refine RegV.ld (v := (.d (.sl (List.map D.str a0.fKeys)))) (H' := [(0, (.cells [(.d (.int .i64 a0.fKind)), (.d (.str a0.fText)), (.d (.sl (List.map (rtE (z := 4)) a0.fL))), (.d (.sl (List.map D.str a0.fKeys)))])), (4, (.cells [(.mp 3)])), (3, (mpO ([] : MM))), (1, (.cells [(.d (.int .i64 a1))])), (2, (.cells [(.d (.bool false))]))]) rfl rfl trivial rfl rfl rfl rfl rfl ?_
                  obtain ⟨r132, e132, h⟩ := bind_some h
                  refine RegV.callS (q := false) (H' := [(5, (.cells [(.d (.sl (List.map D.str a0.fKeys)))])), (0, (.cells [(.d (.int .i64 a0.fKind)), (.d (.str a0.fText)), (.d (.sl (List.map (rtE (z := 4)) a0.fL))), (.d (.sl (List.map D.str a0.fKeys)))])), (4, (.cells [(.mp 3)])), (3, (mpO ([] : MM))), (1, (.cells [(.d (.int .i64 a1))])), (2, (.cells [(.d (.bool false))]))]) (c' := 6) (show ACalls P (N 427) [(.d (.sl (List.map D.str a0.fKeys)))] [] (.fn (N 431) [(.ptr 5 0)]) [(5, (.cells [(.d (.sl (List.map D.str a0.fKeys)))]))] from ACalls.use (F427 hmix hc.2.2.2.2.1 e132) [(0, 5)] 1 rfl) rfl rfl rfl rfl (.cons (.refl _) .nil) (.refl _) (fun h => by cases h) rfl hasNil rfl rfl rfl rfl ?_
                  refine RegV.nil0 ?_
                  refine AWc.block ?_
                  refine AWc.rangeFunc [(4, (.ptr 2 0)), (5, (.ptr 4 0))] rfl rfl rfl rfl ⟨rfl, rfl, trivial⟩ (fun asgU134 bdU134 haU134 hbU134 => ?_)
                  obtain ⟨orf134, ef134, h⟩ := bind_some h
                  rcases orf134 with rf134 | rf134
                  · dsimp only at h
                    refine rfR (H' := [(2, (.cells [(.d (.bool false))])), (4, (.cells [(.mp 3)])), (3, (mpO rf134)), (5, (.cells [(.d (.sl (List.map D.str a0.fKeys)))])), (0, (.cells [(.d (.int .i64 a0.fKind)), (.d (.str a0.fText)), (.d (.sl (List.map (rtE (z := 4)) a0.fL))), (.d (.sl (List.map D.str a0.fKeys)))])), (1, (.cells [(.d (.int .i64 a1))]))]) (c' := 7) (show ACalls P (N 431) [(.lf 6), (.ptr 5 0)] [(6, (.lp 86 [(4, (.ptr 2 0)), (5, (.ptr 4 0))] [55, 56] asgU134 bdU134 .ready none)), (2, (.cells [(.d (.bool false))])), (4, (.cells [(.mp 3)])), (3, (mpO ([] : MM))), (5, (.cells [(.d (.sl (List.map D.str a0.fKeys)))]))] (.tup []) [(6, (.lp 86 [(4, (.ptr 2 0)), (5, (.ptr 4 0))] [55, 56] asgU134 bdU134 .done (some .ret))), (2, (.cells [(.d (.bool false))])), (4, (.cells [(.mp 3)])), (3, (mpO rf134)), (5, (.cells [(.d (.sl (List.map D.str a0.fKeys)))]))] from ACalls.use (F431_0 hmix hc.2.2.2.2.2.1 haU134 hbU134 ef134) [(0, 6), (1, 2), (2, 4), (3, 3), (4, 5)] 5 rfl) (.cons (.refl _) (.cons (.refl _) .nil)) (hasCons rfl (hasCons rfl (hasCons rfl (hasCons rfl (hasCons rfl hasNil))))) rfl rfl rfl rfl rfl ?_
                    have hr := Option.some.inj h
                    subst hr
                    exact canQ (N := 86) (k := 1) (l' := [(4, (.ptr 0 0))]) (H' := [(0, (.cells [(.d (.bool false))]))]) rfl ⟨rfl, [], [(0, 2)], rfl, rfl, ⟨⟨_, rfl, (.refl _)⟩, rfl, trivial⟩, ⟨⟨_, rfl, (.refl _)⟩, rfl, rfl, trivial⟩⟩ (doneA (.inr rfl) rfl ⟨trivial, trivial⟩ (.refl _) hasNil)
                  · dsimp only at h
                    refine rfN (H' := [(2, (.cells [(.d (.bool false))])), (4, (.cells [(.mp 3)])), (3, (mpO rf134)), (5, (.cells [(.d (.sl (List.map D.str a0.fKeys)))])), (0, (.cells [(.d (.int .i64 a0.fKind)), (.d (.str a0.fText)), (.d (.sl (List.map (rtE (z := 4)) a0.fL))), (.d (.sl (List.map D.str a0.fKeys)))])), (1, (.cells [(.d (.int .i64 a1))]))]) (c' := 7) (show ACalls P (N 431) [(.lf 6), (.ptr 5 0)] [(6, (.lp 86 [(4, (.ptr 2 0)), (5, (.ptr 4 0))] [55, 56] asgU134 bdU134 .ready none)), (2, (.cells [(.d (.bool false))])), (4, (.cells [(.mp 3)])), (3, (mpO ([] : MM))), (5, (.cells [(.d (.sl (List.map D.str a0.fKeys)))]))] (.tup []) [(6, (.lp 86 [(4, (.ptr 2 0)), (5, (.ptr 4 0))] [55, 56] asgU134 bdU134 .ready none)), (2, (.cells [(.d (.bool false))])), (4, (.cells [(.mp 3)])), (3, (mpO rf134)), (5, (.cells [(.d (.sl (List.map D.str a0.fKeys)))]))] from ACalls.use (F431_1 hmix hc.2.2.2.2.2.1 haU134 hbU134 ef134) [(0, 6), (1, 2), (2, 4), (3, 3), (4, 5)] 5 rfl) (.cons (.refl _) (.cons (.refl _) .nil)) (hasCons rfl (hasCons rfl (hasCons rfl (hasCons rfl (hasCons rfl hasNil))))) rfl rfl rfl rfl rfl ?_
                    exact ⟨(), h, ⟨rfl, [], [], rfl, rfl, ⟨⟨_, rfl, (.refl _)⟩, rfl, ⟨⟨_, rfl, (.refl _)⟩, rfl, ⟨⟨_, rfl, (.refl _)⟩, rfl, trivial⟩⟩⟩, ⟨⟨_, rfl, (.refl _)⟩, rfl, rfl, ⟨⟨_, rfl, (.refl _)⟩, rfl, rfl, ⟨⟨_, rfl, (.refl _)⟩, rfl, rfl, trivial⟩⟩⟩⟩⟩
              · have h := cond_neg c102 h
                refine AWc.seq ?_
                refine AWc.rg hmix rfl rfl ?_
                refine RegV.evN (own := false) (H' := [(2, (.cells [(.d (.bool false))])), (0, (.cells [(.d (.int .i64 a0.fKind)), (.d (.str a0.fText)), (.d (.sl (List.map (rtE (z := 4)) a0.fL))), (.d (.sl (List.map D.str a0.fKeys)))])), (1, (.cells [(.d (.int .i64 a1))]))]) (c' := 3) rfl rfl (by exact ⟨rfl, Nat.le_of_ble_eq_true rfl, rfl⟩) rfl rfl rfl rfl ?_
                refine RegV.nil0 ?_
                have hr := Option.some.inj h
                subst hr
                exact AWc.ret (canQ (N := 86) (k := 1) (l' := [(4, (.ptr 0 0))]) (H' := [(0, (.cells [(.d (.bool false))]))]) rfl ⟨rfl, [], [(0, 2)], rfl, rfl, ⟨⟨_, rfl, (.refl _)⟩, rfl, trivial⟩, ⟨⟨_, rfl, (.refl _)⟩, rfl, rfl, trivial⟩⟩ (doneA (.inr rfl) rfl ⟨trivial, trivial⟩ (.refl _) hasNil))
  · rintro ⟨⟩ h
    unfold f425_j183 at h
    refine AWc.seq ?_
    refine AWc.rg hmix rfl rfl ?_
    refine RegV.p0 (v := (.ptr 0 1)) rfl rfl rfl ?_
    refine RegV.ld (v := (.d (.str a0.fText))) (H' := [(0, (.cells [(.d (.int .i64 a0.fKind)), (.d (.str a0.fText)), (.d (.sl (List.map (rtE (z := 4)) a0.fL))), (.d (.sl (List.map D.str a0.fKeys)))])), (1, (.cells [(.d (.int .i64 a1))])), (2, (.cells [(.d (.bool false))]))]) rfl rfl trivial rfl rfl rfl rfl rfl ?_
    refine RegV.p0 (v := (.d (.bool (decide (a0.fText = ([] : List UInt8)))))) rfl rfl rfl ?_
    refine RegV.p0 rfl rfl rfl ?_
    refine RegV.split (fun c189 => ?_) (fun c189 => ?_)
    · have h := cond_pos c189 h
      refine RegV.ld (v := (.d (.int .i64 a1))) (H' := [(1, (.cells [(.d (.int .i64 a1))])), (0, (.cells [(.d (.int .i64 a0.fKind)), (.d (.str a0.fText)), (.d (.sl (List.map (rtE (z := 4)) a0.fL))), (.d (.sl (List.map D.str a0.fKeys)))])), (2, (.cells [(.d (.bool false))]))]) rfl rfl trivial rfl rfl rfl rfl rfl ?_
      refine RegV.p0 (v := (.d (.bool (decide (a1 < (64 : Int)))))) rfl rfl rfl ?_
      refine RegV.p0 rfl rfl rfl ?_
      refine RegV.p0 rfl rfl rfl ?_
      refine RegV.split (fun c193 => ?_) (fun c193 => ?_)
      · have h := cond_pos c193 h
        refine RegV.p0 (v := (.ptr 0 2)) rfl rfl rfl ?_
        refine RegV.ld (v := (.d (.sl (List.map (rtE (z := 4)) a0.fL)))) (H' := [(0, (.cells [(.d (.int .i64 a0.fKind)), (.d (.str a0.fText)), (.d (.sl (List.map (rtE (z := 4)) a0.fL))), (.d (.sl (List.map D.str a0.fKeys)))])), (1, (.cells [(.d (.int .i64 a1))])), (2, (.cells [(.d (.bool false))]))]) rfl rfl trivial rfl rfl rfl rfl rfl ?_
        refine RegV.p0 (v := (.fn (N 428) [(.ptr 1 0)])) rfl rfl rfl ?_
        obtain ⟨r197, e197, h⟩ := bind_some h
        refine RegV.callS (q := true) (H' := [(1, (.cells [(.d (.int .i64 a1))])), (0, (.cells [(.d (.int .i64 a0.fKind)), (.d (.str a0.fText)), (.d (.sl (List.map (rtE (z := 4)) a0.fL))), (.d (.sl (List.map D.str a0.fKeys)))])), (2, (.cells [(.d (.bool false))]))]) (c' := 3) (show ACalls P (N 429) [(.d (.sl (List.map (rtE (z := 4)) a0.fL))), (.fn (N 428) [(.ptr 1 0)])] [(1, (.cells [(.d (.int .i64 a1))]))] (.d (.bool r197)) [(1, (.cells [(.d (.int .i64 a1))]))] from ACalls.use (F429 hmix hc.2.2.2.2.2.2 hrc425 e197) [(0, 1)] 1 rfl) rfl rfl rfl rfl (.cons (.refl _) (.cons (.refl _) .nil)) (.refl _) (fun _ => rfl) rfl (hasCons rfl hasNil) rfl rfl rfl rfl ?_
        refine RegV.p0 (v := (.d (.bool (!r197)))) rfl rfl rfl ?_
        refine RegV.p0 rfl rfl rfl ?_
        refine RegV.evN (own := false) (H' := [(2, (.cells [(.d (.bool (!r197)))])), (1, (.cells [(.d (.int .i64 a1))])), (0, (.cells [(.d (.int .i64 a0.fKind)), (.d (.str a0.fText)), (.d (.sl (List.map (rtE (z := 4)) a0.fL))), (.d (.sl (List.map D.str a0.fKeys)))]))]) (c' := 3) rfl rfl (by exact ⟨rfl, Nat.le_of_ble_eq_true rfl, rfl⟩) rfl rfl rfl rfl ?_
        refine RegV.nil0 ?_
        have hr := Option.some.inj h
        subst hr
        exact AWc.ret (canQ (N := 86) (k := 1) (l' := [(4, (.ptr 0 0))]) (H' := [(0, (.cells [(.d (.bool (!r197)))]))]) rfl ⟨rfl, [], [(0, 2)], rfl, rfl, ⟨⟨_, rfl, (.refl _)⟩, rfl, trivial⟩, ⟨⟨_, rfl, (.refl _)⟩, rfl, rfl, trivial⟩⟩ (doneA (.inr rfl) rfl ⟨trivial, trivial⟩ (.refl _) hasNil))
      · have h := cond_neg c193 h
        refine RegV.noS rfl rfl ?_
        refine RegV.noS rfl rfl ?_
        refine RegV.noS rfl rfl ?_
        refine RegV.noS rfl rfl ?_
        refine RegV.noS rfl rfl ?_
        refine RegV.p0 rfl rfl rfl ?_
        refine RegV.evN (own := false) (H' := [(2, (.cells [(.d (.bool false))])), (1, (.cells [(.d (.int .i64 a1))])), (0, (.cells [(.d (.int .i64 a0.fKind)), (.d (.str a0.fText)), (.d (.sl (List.map (rtE (z := 4)) a0.fL))), (.d (.sl (List.map D.str a0.fKeys)))]))]) (c' := 3) rfl rfl (by exact ⟨rfl, Nat.le_of_ble_eq_true rfl, rfl⟩) rfl rfl rfl rfl ?_
        refine RegV.nil0 ?_
        have hr := Option.some.inj h
        subst hr
        exact AWc.ret (canQ (N := 86) (k := 1) (l' := [(4, (.ptr 0 0))]) (H' := [(0, (.cells [(.d (.bool false))]))]) rfl ⟨rfl, [], [(0, 2)], rfl, rfl, ⟨⟨_, rfl, (.refl _)⟩, rfl, trivial⟩, ⟨⟨_, rfl, (.refl _)⟩, rfl, rfl, trivial⟩⟩ (doneA (.inr rfl) rfl ⟨trivial, trivial⟩ (.refl _) hasNil))
    · have h := cond_neg c189 h
      refine RegV.noS rfl rfl ?_
      refine RegV.noS rfl rfl ?_
      refine RegV.p0 rfl rfl rfl ?_
      refine RegV.p0 rfl rfl rfl ?_
      refine RegV.noS rfl rfl ?_
      refine RegV.noS rfl rfl ?_
      refine RegV.noS rfl rfl ?_
      refine RegV.noS rfl rfl ?_
      refine RegV.noS rfl rfl ?_
      refine RegV.p0 rfl rfl rfl ?_
      refine RegV.evN (own := false) (H' := [(2, (.cells [(.d (.bool false))])), (0, (.cells [(.d (.int .i64 a0.fKind)), (.d (.str a0.fText)), (.d (.sl (List.map (rtE (z := 4)) a0.fL))), (.d (.sl (List.map D.str a0.fKeys)))])), (1, (.cells [(.d (.int .i64 a1))]))]) (c' := 3) rfl rfl (by exact ⟨rfl, Nat.le_of_ble_eq_true rfl, rfl⟩) rfl rfl rfl rfl ?_
      refine RegV.nil0 ?_
      have hr := Option.some.inj h
      subst hr
      exact AWc.ret (canQ (N := 86) (k := 1) (l' := [(4, (.ptr 0 0))]) (H' := [(0, (.cells [(.d (.bool false))]))]) rfl ⟨rfl, [], [(0, 2)], rfl, rfl, ⟨⟨_, rfl, (.refl _)⟩, rfl, trivial⟩, ⟨⟨_, rfl, (.refl _)⟩, rfl, rfl, trivial⟩⟩ (doneA (.inr rfl) rfl ⟨trivial, trivial⟩ (.refl _) hasNil))
def f425 : Nat → TJson → Int → Option Bool
  | 0, _, _ => none
  | k + 1, a0, a1 => f425_s (f425 k) k a0 a1
theorem F425 {P : Program} {N : Nat → Nat} (hmix : P.follows .mixedOrders = true) (hc : HC425 P N) {k : Nat} {a0 : TJson} {a1 : Int} {r : Bool} (h : f425 k a0 a1 = some r) :
    ACalls P (N 425) [(.d (TJson.enc a0)), (.d (.int .i64 a1))] [] (.d (.bool r)) [] := by
  induction k generalizing a0 a1 r with
  | zero => exact absurd (show (none : Option _) = some r from h) (fun h2 => by cases h2)
  | succ k ih => exact F425_s hmix hc (fun _ _ _ h => ih h) h
/-- courant/json.Right -/
def C422 (N : Nat → Nat) : AFunc := { n := 5, params := 1, res := [.tmp 2], body :=
 (.seq (.region false [⟨(some 1), .box (.t 0), none, []⟩,
   ⟨(some 2), .mv (.k (.d (.bool false))), none, []⟩])
  (.seq (.region false [⟨(some 3), .load (.t 1) 4 true, none, []⟩,
    ⟨(some 4), .call (.k (.d (.fn (N 425)))) [(.t 3), (.k (.d (.int .i64 0)))], none, [0]⟩,
    ⟨(some 2), .mv (.t 4), none, [1, 0]⟩])
   .ret)) }
def HC422 (P : Program) (N : Nat → Nat) : Prop := HasF P (N 422) (C422 N) ∧ HC425 P N
def f422 (k : Nat) (a0 : TJson) : Option Bool := (f425 k (TJson.mk a0.fKind a0.fText a0.fL a0.fKeys) (0 : Int)).bind fun r10 => some r10
theorem F422 {P : Program} {N : Nat → Nat} (hmix : P.follows .mixedOrders = true) (hc : HC422 P N) {k : Nat} {a0 : TJson} {r : Bool} (h : f422 k a0 = some r) :
    ACalls P (N 422) [(.d (TJson.enc a0))] [] (.d (.bool r)) [] := by
  refine acalls_canon (F := C422 N) hc.1 0 0 rfl ?_
  unfold f422 at h
  dsimp only [C422, startL]
  refine AWc.seq ?_
  refine AWc.rE hmix [] ?_
  refine AWc.seq ?_
  obtain ⟨r10, e10, h⟩ := bind_some h
  refine AWc.rE hmix [.call (F425 hmix hc.2 e10) [] 0] ?_
  have hr := Option.some.inj h
  subst hr
  exact AWc.ret (canQ (N := 5) (k := 0) (l' := [(2, (.d (.bool r10)))]) (H' := []) rfl (inT [] []) (doneA (.inr rfl) rfl ⟨trivial, trivial⟩ (.refl _) hasNil))
def RH423 (P : Program) (N : Nat → Nat) (rc423 : (List UInt8) → TJson → Option (List UInt8)) : Prop := ∀ (a0 : (List UInt8)) (a1 : TJson) (r : (List UInt8)), rc423 a0 a1 = some r → ACalls P (N 423) [(.ap 0 1 (List.map byteD a0)), (.d (TJson.enc a1))] [(0, (.tok ((List.map byteD a0).length * 1)))] (.ap 1 1 (List.map byteD r)) [(1, (.tok ((List.map byteD r).length * 1)))]
/-- courant/json.quoted -/
def C424 (N : Nat → Nat) : AFunc := { n := 49, params := 2, res := [.tmp 4], body :=
 (.seq (.region false [⟨(some 4), .mv (.k .nils), none, []⟩])
  (.seq (.region false [⟨(some 7), .mv (.t 0), none, []⟩,
    ⟨(some 8), .bslice 1 1 [(.int .u8 0)] [(0, (.k (.d (.int .u8 34))))], none, []⟩,
    ⟨(some 9), .app (.t 7) (.t 8) 1 1 [(.int .u8 0)], none, [0, 1]⟩,
    ⟨(some 0), .mv (.t 9), none, [2, 0, 1]⟩])
   (.seq (.seq (.region false [⟨(some 10), .mv (.t 1), none, []⟩,
      ⟨(some 11), .slen (.t 10), none, [0]⟩,
      ⟨(some 12), .mv (.k (.d (.int .i64 0))), none, []⟩])
     (.block 0 (.loop (.seq (.region false [⟨(some 13), .bin .lss (.t 12) (.t 11), none, []⟩])
        (.seq (.cond (.t 13) (.skip)
          (.exit 0))
         (.seq (.block 1 (.seq (.region false [⟨(some 14), .mv (.t 12), none, []⟩,
             ⟨(some 5), .mv (.t 14), none, [0]⟩])
            (.seq (.region false [⟨(some 15), .mv (.t 1), none, []⟩,
              ⟨(some 16), .mv (.t 5), none, []⟩,
              ⟨(some 17), .idx (.t 15) (.t 16), none, [0, 1]⟩,
              ⟨(some 6), .mv (.t 17), none, [2, 0, 1]⟩])
             (.block 2 (.seq (.region false [⟨(some 23), .mv (.t 6), none, []⟩,
                ⟨(some 24), .bin .eql (.t 23) (.k (.d (.int .u8 34))), none, [0]⟩,
                ⟨(some 25), .mv (.t 24), none, [1]⟩,
                ⟨(some 26), .mv (.t 6), (some (25, false)), [2]⟩,
                ⟨(some 27), .bin .eql (.t 26) (.k (.d (.int .u8 92))), (some (25, false)), [3, 2]⟩,
                ⟨(some 28), .pick (.t 25) (.k (.d (.bool true))) (.t 27), none, [2, 4]⟩,
                ⟨(some 22), .mv (.t 28), none, [5, 2]⟩])
               (.cond (.t 22) (.region false [⟨(some 29), .mv (.t 0), none, []⟩,
                 ⟨(some 30), .mv (.t 6), none, []⟩,
                 ⟨(some 31), .bslice 2 1 [(.int .u8 0)] [(0, (.k (.d (.int .u8 92)))), (1, (.t 30))], none, [1]⟩,
                 ⟨(some 32), .app (.t 29) (.t 31) 1 1 [(.int .u8 0)], none, [0, 2]⟩,
                 ⟨(some 0), .mv (.t 32), none, [3, 0, 1, 2]⟩])
                (.seq (.region false [⟨(some 34), .mv (.t 6), none, []⟩,
                  ⟨(some 35), .bin .lss (.t 34) (.k (.d (.int .u8 32))), none, [0]⟩,
                  ⟨(some 33), .mv (.t 35), none, [1]⟩])
                 (.cond (.t 33) (.region true [⟨(some 36), .mv (.t 0), none, []⟩,
                   ⟨(some 37), .mv (.t 6), none, []⟩,
                   ⟨(some 38), .bin .shr (.t 37) (.k (.d (.int .u64 4))), none, [1]⟩,
                   ⟨(some 39), .idx (.k (.d (.str [48, 49, 50, 51, 52, 53, 54, 55, 56, 57, 97, 98, 99, 100, 101, 102]))) (.t 38), none, [2]⟩,
                   ⟨(some 40), .mv (.t 6), none, []⟩,
                   ⟨(some 41), .bin .and (.t 40) (.k (.d (.int .u8 15))), none, [4]⟩,
                   ⟨(some 42), .idx (.k (.d (.str [48, 49, 50, 51, 52, 53, 54, 55, 56, 57, 97, 98, 99, 100, 101, 102]))) (.t 41), none, [5]⟩,
                   ⟨(some 43), .bslice 6 1 [(.int .u8 0)] [(0, (.k (.d (.int .u8 92)))), (1, (.k (.d (.int .u8 117)))), (2, (.k (.d (.int .u8 48)))), (3, (.k (.d (.int .u8 48)))), (4, (.t 39)), (5, (.t 42))], none, [3, 6]⟩,
                   ⟨(some 44), .app (.t 36) (.t 43) 1 1 [(.int .u8 0)], none, [0, 7]⟩,
                   ⟨(some 0), .mv (.t 44), none, [8, 0, 1, 2, 3, 4, 5, 6, 7]⟩])
                  (.region false [⟨(some 18), .mv (.t 0), none, []⟩,
                   ⟨(some 19), .mv (.t 6), none, []⟩,
                   ⟨(some 20), .bslice 1 1 [(.int .u8 0)] [(0, (.t 19))], none, [1]⟩,
                   ⟨(some 21), .app (.t 18) (.t 20) 1 1 [(.int .u8 0)], none, [0, 2]⟩,
                   ⟨(some 0), .mv (.t 21), none, [3, 0, 1, 2]⟩])))))))))
          (.region false [⟨(some 45), .bin .add (.t 12) (.k (.d (.int .i64 1))), none, []⟩,
           ⟨(some 12), .mv (.t 45), none, [0]⟩])))))))
    (.seq (.region false [⟨(some 46), .mv (.t 0), none, []⟩,
      ⟨(some 47), .bslice 1 1 [(.int .u8 0)] [(0, (.k (.d (.int .u8 34))))], none, []⟩,
      ⟨(some 48), .app (.t 46) (.t 47) 1 1 [(.int .u8 0)], none, [0, 1]⟩,
      ⟨(some 4), .mv (.t 48), none, [2, 0, 1]⟩])
     .ret)))) }
def HC424 (P : Program) (N : Nat → Nat) : Prop := HasF P (N 424) (C424 N)
def f424_j92 (k : Nat) (j92_1 : (List UInt8)) : Option (List UInt8) := gd ((j92_1.length + ([(34 : UInt8)] : List UInt8).length) * 2 * 1 ≤ 281474976710656) (some (j92_1 ++ ([(34 : UInt8)] : List UInt8)))
def f424_j54 (L : (List UInt8) → Int → Option (LR2 (List UInt8) Unit (List UInt8))) (k : Nat) (y19_1 : (List UInt8)) (a1 : (List UInt8)) (y19_2 : Int) (j54_1 : Bool) : Option (LR2 (List UInt8) Unit (List UInt8)) := cond j54_1 (gd ((y19_1.length + ([(92 : UInt8), (a1.getD (y19_2).toNat 0)] : List UInt8).length) * 2 * 1 ≤ 281474976710656) (L (y19_1 ++ ([(92 : UInt8), (a1.getD (y19_2).toNat 0)] : List UInt8)) (IntKind.i64.wrap (y19_2 + (1 : Int))))) (cond (decide ((((a1.getD (y19_2).toNat 0).toNat : Nat) : Int) < (32 : Int))) (gd (0 ≤ (Int.fdiv (((a1.getD (y19_2).toNat 0).toNat : Nat) : Int) (2 ^ (min ((4 : Int)).toNat IntKind.u8.bits))) ∧ (Int.fdiv (((a1.getD (y19_2).toNat 0).toNat : Nat) : Int) (2 ^ (min ((4 : Int)).toNat IntKind.u8.bits))) < ((([48, 49, 50, 51, 52, 53, 54, 55, 56, 57, 97, 98, 99, 100, 101, 102] : List UInt8).length : Nat) : Int)) (gd (0 ≤ (((u8 (bitsA .and .u8 (((a1.getD (y19_2).toNat 0).toNat : Nat) : Int) (15 : Int))).toNat : Nat) : Int) ∧ (((u8 (bitsA .and .u8 (((a1.getD (y19_2).toNat 0).toNat : Nat) : Int) (15 : Int))).toNat : Nat) : Int) < ((([48, 49, 50, 51, 52, 53, 54, 55, 56, 57, 97, 98, 99, 100, 101, 102] : List UInt8).length : Nat) : Int)) (gd ((y19_1.length + ([(92 : UInt8), (117 : UInt8), (48 : UInt8), (48 : UInt8), (([48, 49, 50, 51, 52, 53, 54, 55, 56, 57, 97, 98, 99, 100, 101, 102] : List UInt8).getD ((Int.fdiv (((a1.getD (y19_2).toNat 0).toNat : Nat) : Int) (2 ^ (min ((4 : Int)).toNat IntKind.u8.bits)))).toNat 0), (([48, 49, 50, 51, 52, 53, 54, 55, 56, 57, 97, 98, 99, 100, 101, 102] : List UInt8).getD ((((u8 (bitsA .and .u8 (((a1.getD (y19_2).toNat 0).toNat : Nat) : Int) (15 : Int))).toNat : Nat) : Int)).toNat 0)] : List UInt8).length) * 2 * 1 ≤ 281474976710656) (L (y19_1 ++ ([(92 : UInt8), (117 : UInt8), (48 : UInt8), (48 : UInt8), (([48, 49, 50, 51, 52, 53, 54, 55, 56, 57, 97, 98, 99, 100, 101, 102] : List UInt8).getD ((Int.fdiv (((a1.getD (y19_2).toNat 0).toNat : Nat) : Int) (2 ^ (min ((4 : Int)).toNat IntKind.u8.bits)))).toNat 0), (([48, 49, 50, 51, 52, 53, 54, 55, 56, 57, 97, 98, 99, 100, 101, 102] : List UInt8).getD ((((u8 (bitsA .and .u8 (((a1.getD (y19_2).toNat 0).toNat : Nat) : Int) (15 : Int))).toNat : Nat) : Int)).toNat 0)] : List UInt8)) (IntKind.i64.wrap (y19_2 + (1 : Int))))))) (gd ((y19_1.length + ([(a1.getD (y19_2).toNat 0)] : List UInt8).length) * 2 * 1 ≤ 281474976710656) (L (y19_1 ++ ([(a1.getD (y19_2).toNat 0)] : List UInt8)) (IntKind.i64.wrap (y19_2 + (1 : Int))))))
def f424_l19 (a1 : (List UInt8)) : Nat → (List UInt8) → Int → Option (LR2 (List UInt8) Unit (List UInt8))
  | 0, _, _ => none
  | k + 1, y19_1, y19_2 => cond (decide (y19_2 < ((a1.length : Nat) : Int))) (gd (0 ≤ y19_2 ∧ y19_2 < ((a1.length : Nat) : Int)) (cond (decide ((((a1.getD (y19_2).toNat 0).toNat : Nat) : Int) = (34 : Int))) (f424_j54 (f424_l19 a1 k) k y19_1 a1 y19_2 true) (f424_j54 (f424_l19 a1 k) k y19_1 a1 y19_2 (decide ((((a1.getD (y19_2).toNat 0).toNat : Nat) : Int) = (92 : Int)))))) (some (.b0 y19_1))
def f424 (k : Nat) (a0 : (List UInt8)) (a1 : (List UInt8)) : Option (List UInt8) := gd ((a0.length + ([(34 : UInt8)] : List UInt8).length) * 2 * 1 ≤ 281474976710656) ((f424_l19 a1 k (a0 ++ ([(34 : UInt8)] : List UInt8)) (0 : Int)).bind fun o19 => (match o19 with | .b0 x19_1 => f424_j92 k x19_1 | _ => none))
theorem F424 {P : Program} {N : Nat → Nat} (hmix : P.follows .mixedOrders = true) (hc : HC424 P N) {k : Nat} {a0 : (List UInt8)} {a1 : (List UInt8)} {r : (List UInt8)} (h : f424 k a0 a1 = some r) :
    ACalls P (N 424) [(.ap 0 1 (List.map byteD a0)), (.d (.str a1))] [(0, (.tok ((List.map byteD a0).length * 1)))] (.ap 1 1 (List.map byteD r)) [(1, (.tok ((List.map byteD r).length * 1)))] := by
  refine acalls_canon (F := C424 N) hc 1 2 rfl ?_
  unfold f424 at h
  dsimp only [C424, startL]
  refine AWc.seq ?_
  refine AWc.rE hmix [] ?_
  refine AWc.seq ?_
  obtain ⟨b10, h⟩ := gd_some h
  refine AWc.rE hmix [.apA byteD a0 ([(34 : UInt8)] : List UInt8) 1 (fun _ => rfl) b10] ?_
  refine AWc.seqS (N := 49) 2 (fun (z : (List UInt8)) => [(0, (.ap 1 1 (List.map byteD z)))]) (fun z => [(1, (.tok ((List.map byteD z).length * 1)))]) (fun z => f424_j92 k z = some r) rfl_le ?_ ?_
  · refine AWc.seq ?_
    refine AWc.rE hmix [] ?_
    obtain ⟨o19, h19, h⟩ := bind_some h
    refine AWc.block ?_
    refine AWc.loopK (N := 49) 2 (fun (x : ((List UInt8) × Int)) => [(0, (.ap 1 1 (List.map byteD x.1))), (1, (.d (.str a1))), (11, (.d (.int .i64 ((a1.length : Nat) : Int)))), (12, (.d (.int .i64 x.2)))]) (fun x => [(1, (.tok ((List.map byteD x.1).length * 1)))]) (fun k x => f424_l19 a1 k x.1 x.2 = some o19) k ((a0 ++ ([(34 : UInt8)] : List UInt8)), (0 : Int)) rfl_le (fun x hx => by cases hx) h19 (inT [] []) ?_
    clear h19
    intro k
    rintro ⟨y19_1, y19_2⟩ h19
    dsimp only at h19 ⊢
    rw [f424_l19] at h19
    refine AWc.seq ?_
    refine AWc.rE hmix [] ?_
    refine AWc.seq ?_
    rcases cc h19 with ⟨c26, h19⟩ | ⟨c26, h19⟩
    · refine AWc.cT c26 ?_
      refine AWc.skip ?_
      refine AWc.seq ?_
      refine AWc.block ?_
      refine AWc.seq ?_
      refine AWc.rE hmix [] ?_
      refine AWc.seq ?_
      obtain ⟨b41, h19⟩ := gd_some h19
      refine AWc.rE hmix [.sd b41] ?_
      refine AWc.block ?_
      refine AWc.seqS (N := 49) 2 (fun (z : Bool) => [(0, (.ap 1 1 (List.map byteD y19_1))), (1, (.d (.str a1))), (6, (.d (.int .u8 (((a1.getD (y19_2).toNat 0).toNat : Nat) : Int)))), (11, (.d (.int .i64 ((a1.length : Nat) : Int)))), (12, (.d (.int .i64 y19_2))), (22, (.d (.bool z))), (26, .any), (27, .any)]) (fun z => [(1, (.tok ((List.map byteD y19_1).length * 1)))]) (fun z => f424_j54 (f424_l19 a1 k) k y19_1 a1 y19_2 z = some o19) rfl_le ?_ ?_
      · rcases cc h19 with ⟨c49, h19⟩ | ⟨c49, h19⟩
        · refine AWc.rE hmix [.br c49] ?_
          exact ⟨true, h19, (inT [] [])⟩
        · refine AWc.rE hmix [.br c49] ?_
          exact ⟨(decide ((((a1.getD (y19_2).toNat 0).toNat : Nat) : Int) = (92 : Int))), h19, (inT [] [])⟩
      · intro j54_1 h19
        unfold f424_j54 at h19
        rcases cc h19 with ⟨c54, h19⟩ | ⟨c54, h19⟩
        · refine AWc.cT c54 ?_
          obtain ⟨b60, h19⟩ := gd_some h19
          refine AWc.rE hmix [.apA byteD y19_1 ([(92 : UInt8), (a1.getD (y19_2).toNat 0)] : List UInt8) 1 (fun _ => rfl) b60] ?_
          refine AWc.rE hmix [] ?_
          exact ⟨((y19_1 ++ ([(92 : UInt8), (a1.getD (y19_2).toNat 0)] : List UInt8)), (IntKind.i64.wrap (y19_2 + (1 : Int)))), h19, (inT [(1, 2)] [])⟩
        · refine AWc.cF c54 ?_
          refine AWc.seq ?_
          refine AWc.rE hmix [] ?_
          rcases cc h19 with ⟨c68, h19⟩ | ⟨c68, h19⟩
          · refine AWc.cT c68 ?_
            obtain ⟨b74, h19⟩ := gd_some h19
            obtain ⟨b77, h19⟩ := gd_some h19
            obtain ⟨b79, h19⟩ := gd_some h19
            refine AWc.rE hmix [.sd (p := 0 ≤ (4 : Int)) (by decide), .sd b74, .sd b77, .apA byteD y19_1 ([(92 : UInt8), (117 : UInt8), (48 : UInt8), (48 : UInt8), (([48, 49, 50, 51, 52, 53, 54, 55, 56, 57, 97, 98, 99, 100, 101, 102] : List UInt8).getD ((Int.fdiv (((a1.getD (y19_2).toNat 0).toNat : Nat) : Int) (2 ^ (min ((4 : Int)).toNat IntKind.u8.bits)))).toNat 0), (([48, 49, 50, 51, 52, 53, 54, 55, 56, 57, 97, 98, 99, 100, 101, 102] : List UInt8).getD ((((u8 (bitsA .and .u8 (((a1.getD (y19_2).toNat 0).toNat : Nat) : Int) (15 : Int))).toNat : Nat) : Int)).toNat 0)] : List UInt8) 1 (fun _ => rfl) b79] ?_
            refine AWc.rE hmix [] ?_
            exact ⟨((y19_1 ++ ([(92 : UInt8), (117 : UInt8), (48 : UInt8), (48 : UInt8), (([48, 49, 50, 51, 52, 53, 54, 55, 56, 57, 97, 98, 99, 100, 101, 102] : List UInt8).getD ((Int.fdiv (((a1.getD (y19_2).toNat 0).toNat : Nat) : Int) (2 ^ (min ((4 : Int)).toNat IntKind.u8.bits)))).toNat 0), (([48, 49, 50, 51, 52, 53, 54, 55, 56, 57, 97, 98, 99, 100, 101, 102] : List UInt8).getD ((((u8 (bitsA .and .u8 (((a1.getD (y19_2).toNat 0).toNat : Nat) : Int) (15 : Int))).toNat : Nat) : Int)).toNat 0)] : List UInt8)), (IntKind.i64.wrap (y19_2 + (1 : Int)))), h19, (inT [(1, 2)] [])⟩
          · refine AWc.cF c68 ?_
            obtain ⟨b86, h19⟩ := gd_some h19
            refine AWc.rE hmix [.apA byteD y19_1 ([(a1.getD (y19_2).toNat 0)] : List UInt8) 1 (fun _ => rfl) b86] ?_
            refine AWc.rE hmix [] ?_
            exact ⟨((y19_1 ++ ([(a1.getD (y19_2).toNat 0)] : List UInt8)), (IntKind.i64.wrap (y19_2 + (1 : Int)))), h19, (inT [(1, 2)] [])⟩
    · refine AWc.cF c26 ?_
      cases h19
      dsimp only at h
      refine AWc.exit ?_
      refine inBlk_eq ?_
      exact ⟨y19_1, h, (inT [] [])⟩
  · intro j92_1 h
    unfold f424_j92 at h
    refine AWc.seq ?_
    obtain ⟨b97, h⟩ := gd_some h
    refine AWc.rE hmix [.apA byteD j92_1 ([(34 : UInt8)] : List UInt8) 1 (fun _ => rfl) b97] ?_
    have hr := Option.some.inj h
    subst hr
    exact AWc.ret (canQ (N := 49) (k := 2) (l' := [(4, (.ap 1 1 (List.map byteD (j92_1 ++ ([(34 : UInt8)] : List UInt8)))))]) (H' := [(1, (.tok ((List.map byteD (j92_1 ++ ([(34 : UInt8)] : List UInt8))).length * 1)))]) rfl (inT [(1, 2)] []) (doneA (.inr rfl) rfl ⟨trivial, trivial⟩ (.refl _) (hasCons rfl hasNil)))
/-- courant/json.printed -/
def C423 (N : Nat → Nat) : AFunc := { n := 76, params := 2, res := [.tmp 4], body :=
 (.seq (.region false [⟨(some 3), .box (.t 1), none, []⟩,
   ⟨(some 4), .mv (.k .nils), none, []⟩])
  (.seq (.seq (.region false [⟨(some 8), .faddr (.t 3) 0, none, []⟩,
     ⟨(some 9), .load (.t 8) 1 false, none, [0]⟩])
    (.block 0 (.seq (.region false [⟨(some 11), .bin .eql (.t 9) (.k (.d (.int .i64 1))), none, []⟩,
       ⟨(some 10), .mv (.t 11), none, [0]⟩])
      (.cond (.t 10) (.seq (.region false [⟨(some 12), .mv (.t 0), none, []⟩,
         ⟨(some 13), .app (.t 12) (.k (.d (.str [110, 117, 108, 108]))) 1 1 [(.int .u8 0)], none, [0]⟩,
         ⟨(some 4), .mv (.t 13), none, [1, 0]⟩])
        .ret)
       (.seq (.region false [⟨(some 15), .bin .eql (.t 9) (.k (.d (.int .i64 2))), none, []⟩,
         ⟨(some 14), .mv (.t 15), none, [0]⟩])
        (.cond (.t 14) (.seq (.region false [⟨(some 16), .mv (.t 0), none, []⟩,
           ⟨(some 17), .app (.t 16) (.k (.d (.str [102, 97, 108, 115, 101]))) 1 1 [(.int .u8 0)], none, [0]⟩,
           ⟨(some 4), .mv (.t 17), none, [1, 0]⟩])
          .ret)
         (.seq (.region false [⟨(some 19), .bin .eql (.t 9) (.k (.d (.int .i64 3))), none, []⟩,
           ⟨(some 18), .mv (.t 19), none, [0]⟩])
          (.cond (.t 18) (.seq (.region false [⟨(some 20), .mv (.t 0), none, []⟩,
             ⟨(some 21), .app (.t 20) (.k (.d (.str [116, 114, 117, 101]))) 1 1 [(.int .u8 0)], none, [0]⟩,
             ⟨(some 4), .mv (.t 21), none, [1, 0]⟩])
            .ret)
           (.seq (.region false [⟨(some 23), .bin .eql (.t 9) (.k (.d (.int .i64 4))), none, []⟩,
             ⟨(some 22), .mv (.t 23), none, [0]⟩])
            (.cond (.t 22) (.seq (.region false [⟨(some 24), .mv (.t 0), none, []⟩,
               ⟨(some 25), .faddr (.t 3) 1, none, []⟩,
               ⟨(some 26), .load (.t 25) 1 false, none, [1]⟩,
               ⟨(some 27), .app (.t 24) (.t 26) 1 1 [(.int .u8 0)], none, [0, 2]⟩,
               ⟨(some 4), .mv (.t 27), none, [3, 0, 1, 2]⟩])
              .ret)
             (.seq (.region false [⟨(some 29), .bin .eql (.t 9) (.k (.d (.int .i64 5))), none, []⟩,
               ⟨(some 28), .mv (.t 29), none, [0]⟩])
              (.cond (.t 28) (.seq (.region false [⟨(some 30), .mv (.t 0), none, []⟩,
                 ⟨(some 31), .faddr (.t 3) 1, none, []⟩,
                 ⟨(some 32), .load (.t 31) 1 false, none, [1]⟩,
                 ⟨(some 33), .call (.k (.d (.fn (N 424)))) [(.t 30), (.t 32)], none, [0, 2]⟩,
                 ⟨(some 4), .mv (.t 33), none, [3, 0, 1, 2]⟩])
                .ret)
               (.skip)))))))))))))
   (.seq (.region false [⟨(some 5), .mv (.k (.d (.str [91, 93]))), none, []⟩])
    (.seq (.seq (.region false [⟨(some 34), .faddr (.t 3) 0, none, []⟩,
       ⟨(some 35), .load (.t 34) 1 false, none, [0]⟩,
       ⟨(some 36), .bin .eql (.t 35) (.k (.d (.int .i64 7))), none, [1]⟩])
      (.cond (.t 36) (.region false [⟨(some 5), .mv (.k (.d (.str [123, 125]))), none, []⟩])
       (.skip)))
     (.seq (.region false [⟨(some 37), .mv (.t 0), none, []⟩,
       ⟨(some 38), .mv (.t 5), none, []⟩,
       ⟨(some 39), .idx (.t 38) (.k (.d (.int .i64 0))), none, [1]⟩,
       ⟨(some 40), .bslice 1 1 [(.int .u8 0)] [(0, (.t 39))], none, [2]⟩,
       ⟨(some 41), .app (.t 37) (.t 40) 1 1 [(.int .u8 0)], none, [0, 3]⟩,
       ⟨(some 0), .mv (.t 41), none, [4, 0, 1, 2, 3]⟩])
      (.seq (.seq (.region false [⟨(some 42), .faddr (.t 3) 2, none, []⟩,
         ⟨(some 43), .load (.t 42) 1 false, none, [0]⟩,
         ⟨(some 44), .len (.t 43), none, [1]⟩,
         ⟨(some 45), .mv (.k (.d (.int .i64 0))), none, []⟩])
        (.block 1 (.loop (.seq (.region false [⟨(some 46), .bin .lss (.t 45) (.t 44), none, []⟩])
           (.seq (.cond (.t 46) (.skip)
             (.exit 1))
            (.seq (.block 2 (.seq (.region false [⟨(some 47), .mv (.t 45), none, []⟩,
                ⟨(some 48), .iaddr (.t 43) (.t 45) 4, none, []⟩,
                ⟨(some 49), .load (.t 48) 4 true, none, [1]⟩,
                ⟨(some 7), .alloc [(.int .i64 0), (.str []), (.sl []), (.sl [])], none, []⟩,
                ⟨(some 6), .mv (.t 47), none, [0, 1, 2, 3]⟩,
                ⟨none, .store (.t 7) (.t 49) 4, none, [3, 2, 4, 0, 1]⟩])
               (.seq (.seq (.region false [⟨(some 50), .mv (.t 6), none, []⟩,
                  ⟨(some 51), .bin .gtr (.t 50) (.k (.d (.int .i64 0))), none, [0]⟩])
                 (.cond (.t 51) (.region false [⟨(some 52), .mv (.t 0), none, []⟩,
                   ⟨(some 53), .bslice 1 1 [(.int .u8 0)] [(0, (.k (.d (.int .u8 44))))], none, []⟩,
                   ⟨(some 54), .app (.t 52) (.t 53) 1 1 [(.int .u8 0)], none, [0, 1]⟩,
                   ⟨(some 0), .mv (.t 54), none, [2, 0, 1]⟩])
                  (.skip)))
                (.seq (.seq (.region false [⟨(some 55), .faddr (.t 3) 0, none, []⟩,
                   ⟨(some 56), .load (.t 55) 1 false, none, [0]⟩,
                   ⟨(some 57), .bin .eql (.t 56) (.k (.d (.int .i64 7))), none, [1]⟩])
                  (.cond (.t 57) (.region false [⟨(some 58), .mv (.t 0), none, []⟩,
                    ⟨(some 59), .faddr (.t 3) 3, none, []⟩,
                    ⟨(some 60), .load (.t 59) 1 false, none, [1]⟩,
                    ⟨(some 61), .mv (.t 6), none, []⟩,
                    ⟨(some 62), .iaddr (.t 60) (.t 61) 1, none, [2, 3]⟩,
                    ⟨(some 63), .load (.t 62) 1 false, none, [4]⟩,
                    ⟨(some 64), .call (.k (.d (.fn (N 424)))) [(.t 58), (.t 63)], none, [0, 5]⟩,
                    ⟨(some 65), .bslice 1 1 [(.int .u8 0)] [(0, (.k (.d (.int .u8 58))))], none, []⟩,
                    ⟨(some 66), .app (.t 64) (.t 65) 1 1 [(.int .u8 0)], none, [6, 7]⟩,
                    ⟨(some 0), .mv (.t 66), none, [8, 0, 1, 2, 3, 4, 5, 6, 7]⟩])
                   (.skip)))
                 (.region false [⟨(some 67), .mv (.t 0), none, []⟩,
                  ⟨(some 68), .load (.t 7) 4 true, none, []⟩,
                  ⟨(some 69), .call (.k (.d (.fn (N 423)))) [(.t 67), (.t 68)], none, [0, 1]⟩,
                  ⟨(some 0), .mv (.t 69), none, [2, 0, 1]⟩])))))
             (.region false [⟨(some 70), .bin .add (.t 45) (.k (.d (.int .i64 1))), none, []⟩,
              ⟨(some 45), .mv (.t 70), none, [0]⟩])))))))
       (.seq (.region false [⟨(some 71), .mv (.t 0), none, []⟩,
         ⟨(some 72), .mv (.t 5), none, []⟩,
         ⟨(some 73), .idx (.t 72) (.k (.d (.int .i64 1))), none, [1]⟩,
         ⟨(some 74), .bslice 1 1 [(.int .u8 0)] [(0, (.t 73))], none, [2]⟩,
         ⟨(some 75), .app (.t 71) (.t 74) 1 1 [(.int .u8 0)], none, [0, 3]⟩,
         ⟨(some 4), .mv (.t 75), none, [4, 0, 1, 2, 3]⟩])
        .ret))))))) }
def HC423 (P : Program) (N : Nat → Nat) : Prop := HasF P (N 423) (C423 N) ∧ HC424 P N
def f423_j182 (k : Nat) (j99_1 : (List UInt8)) (j182_1 : (List UInt8)) : Option (List UInt8) := gd (0 ≤ (1 : Int) ∧ (1 : Int) < ((j99_1.length : Nat) : Int)) (gd ((j182_1.length + ([(j99_1.getD ((1 : Int)).toNat 0)] : List UInt8).length) * 2 * 1 ≤ 281474976710656) (some (j182_1 ++ ([(j99_1.getD ((1 : Int)).toNat 0)] : List UInt8))))
def f423_j172 (L : (List UInt8) → Int → Option (LR2 (List UInt8) Unit (List UInt8))) (k : Nat) (rc423 : (List UInt8) → TJson → Option (List UInt8)) (rx132 : TJson) (y116_2 : Int) (j172_1 : (List UInt8)) : Option (LR2 (List UInt8) Unit (List UInt8)) := (rc423 j172_1 (TJson.mk rx132.fKind rx132.fText rx132.fL rx132.fKeys)).bind fun r176 => L r176 (IntKind.i64.wrap (y116_2 + (1 : Int)))
def f423_j151 (L : (List UInt8) → Int → Option (LR2 (List UInt8) Unit (List UInt8))) (k : Nat) (a1 : TJson) (y116_2 : Int) (rc423 : (List UInt8) → TJson → Option (List UInt8)) (rx132 : TJson) (j151_1 : (List UInt8)) : Option (LR2 (List UInt8) Unit (List UInt8)) := cond (decide (a1.fKind = (7 : Int))) (gd (0 ≤ y116_2 ∧ y116_2 < ((a1.fKeys.length : Nat) : Int)) ((f424 k j151_1 (rd a1.fKeys y116_2)).bind fun r167 => gd ((r167.length + ([(58 : UInt8)] : List UInt8).length) * 2 * 1 ≤ 281474976710656) (f423_j172 (L) k rc423 rx132 y116_2 (r167 ++ ([(58 : UInt8)] : List UInt8))))) (f423_j172 (L) k rc423 rx132 y116_2 j151_1)
def f423_l116 (a1 : TJson) (rc423 : (List UInt8) → TJson → Option (List UInt8)) : Nat → (List UInt8) → Int → Option (LR2 (List UInt8) Unit (List UInt8))
  | 0, _, _ => none
  | k + 1, y116_1, y116_2 => cond (decide (y116_2 < ((a1.fL.length : Nat) : Int))) (gd (0 ≤ y116_2 ∧ y116_2 < ((a1.fL.length : Nat) : Int)) ((TJson.dec (rtE (rd a1.fL y116_2))).bind fun rx132 => cond (decide (y116_2 > (0 : Int))) (gd ((y116_1.length + ([(44 : UInt8)] : List UInt8).length) * 2 * 1 ≤ 281474976710656) (f423_j151 (f423_l116 a1 rc423 k) k a1 y116_2 rc423 rx132 (y116_1 ++ ([(44 : UInt8)] : List UInt8)))) (f423_j151 (f423_l116 a1 rc423 k) k a1 y116_2 rc423 rx132 y116_1))) (some (.b0 y116_1))
def f423_j99 (k : Nat) (a0 : (List UInt8)) (a1 : TJson) (rc423 : (List UInt8) → TJson → Option (List UInt8)) (j99_1 : (List UInt8)) : Option (List UInt8) := gd (0 ≤ (0 : Int) ∧ (0 : Int) < ((j99_1.length : Nat) : Int)) (gd ((a0.length + ([(j99_1.getD ((0 : Int)).toNat 0)] : List UInt8).length) * 2 * 1 ≤ 281474976710656) ((f423_l116 a1 rc423 k (a0 ++ ([(j99_1.getD ((0 : Int)).toNat 0)] : List UInt8)) (0 : Int)).bind fun o116 => (match o116 with | .b0 x116_1 => f423_j182 k j99_1 x116_1 | _ => none)))
def f423_s (rc423 : (List UInt8) → TJson → Option (List UInt8)) (k : Nat) (a0 : (List UInt8)) (a1 : TJson) : Option (List UInt8) := cond (decide (a1.fKind = (1 : Int))) (gd ((a0.length + ([110, 117, 108, 108] : List UInt8).length) * 2 * 1 ≤ 281474976710656) (some (a0 ++ ([110, 117, 108, 108] : List UInt8)))) (cond (decide (a1.fKind = (2 : Int))) (gd ((a0.length + ([102, 97, 108, 115, 101] : List UInt8).length) * 2 * 1 ≤ 281474976710656) (some (a0 ++ ([102, 97, 108, 115, 101] : List UInt8)))) (cond (decide (a1.fKind = (3 : Int))) (gd ((a0.length + ([116, 114, 117, 101] : List UInt8).length) * 2 * 1 ≤ 281474976710656) (some (a0 ++ ([116, 114, 117, 101] : List UInt8)))) (cond (decide (a1.fKind = (4 : Int))) (gd ((a0.length + a1.fText.length) * 2 * 1 ≤ 281474976710656) (some (a0 ++ a1.fText))) (cond (decide (a1.fKind = (5 : Int))) ((f424 k a0 a1.fText).bind fun r79 => some r79) (cond (decide (a1.fKind = (7 : Int))) (f423_j99 k a0 a1 rc423 ([123, 125] : List UInt8)) (f423_j99 k a0 a1 rc423 ([91, 93] : List UInt8)))))))
theorem F423_s {P : Program} {N : Nat → Nat} (hmix : P.follows .mixedOrders = true) (hc : HC423 P N) {rc423 : (List UInt8) → TJson → Option (List UInt8)} (hrc423 : RH423 P N rc423) {k : Nat} {a0 : (List UInt8)} {a1 : TJson} {r : (List UInt8)} (h : f423_s rc423 k a0 a1 = some r) :
    ACalls P (N 423) [(.ap 0 1 (List.map byteD a0)), (.d (TJson.enc a1))] [(0, (.tok ((List.map byteD a0).length * 1)))] (.ap 1 1 (List.map byteD r)) [(1, (.tok ((List.map byteD r).length * 1)))] := by
  refine acalls_canon (F := C423 N) hc.1 1 2 rfl ?_
  unfold f423_s at h
  dsimp only [C423, startL]
  refine AWc.seq ?_
  refine AWc.rE hmix [] ?_
  refine AWc.seq ?_
  refine AWc.seq ?_
  refine AWc.rE hmix [] ?_
  refine AWc.block ?_
  refine AWc.seq ?_
  refine AWc.rE hmix [] ?_
  rcases cc h with ⟨c18, h⟩ | ⟨c18, h⟩
  · refine AWc.cT c18 ?_
    refine AWc.seq ?_
    obtain ⟨b23, h⟩ := gd_some h
    refine AWc.rE hmix [.apA byteD a0 ([110, 117, 108, 108] : List UInt8) 1 (fun _ => rfl) b23] ?_
    have hr := Option.some.inj h
    subst hr
    exact AWc.ret (canQ (N := 76) (k := 2) (l' := [(4, (.ap 1 1 (List.map byteD (a0 ++ ([110, 117, 108, 108] : List UInt8)))))]) (H' := [(1, (.tok ((List.map byteD (a0 ++ ([110, 117, 108, 108] : List UInt8))).length * 1)))]) rfl (inT [(1, 2)] []) (doneA (.inr rfl) rfl ⟨trivial, trivial⟩ (.refl _) (hasCons rfl hasNil)))
  · refine AWc.cF c18 ?_
    refine AWc.seq ?_
    refine AWc.rE hmix [] ?_
    rcases cc h with ⟨c31, h⟩ | ⟨c31, h⟩
    · refine AWc.cT c31 ?_
      refine AWc.seq ?_
      obtain ⟨b36, h⟩ := gd_some h
      refine AWc.rE hmix [.apA byteD a0 ([102, 97, 108, 115, 101] : List UInt8) 1 (fun _ => rfl) b36] ?_
      have hr := Option.some.inj h
      subst hr
      exact AWc.ret (canQ (N := 76) (k := 2) (l' := [(4, (.ap 1 1 (List.map byteD (a0 ++ ([102, 97, 108, 115, 101] : List UInt8)))))]) (H' := [(1, (.tok ((List.map byteD (a0 ++ ([102, 97, 108, 115, 101] : List UInt8))).length * 1)))]) rfl (inT [(1, 2)] []) (doneA (.inr rfl) rfl ⟨trivial, trivial⟩ (.refl _) (hasCons rfl hasNil)))
    · refine AWc.cF c31 ?_
      refine AWc.seq ?_
      refine AWc.rE hmix [] ?_
      rcases cc h with ⟨c44, h⟩ | ⟨c44, h⟩
      · refine AWc.cT c44 ?_
        refine AWc.seq ?_
        obtain ⟨b49, h⟩ := gd_some h
        refine AWc.rE hmix [.apA byteD a0 ([116, 114, 117, 101] : List UInt8) 1 (fun _ => rfl) b49] ?_
        have hr := Option.some.inj h
        subst hr
        exact AWc.ret (canQ (N := 76) (k := 2) (l' := [(4, (.ap 1 1 (List.map byteD (a0 ++ ([116, 114, 117, 101] : List UInt8)))))]) (H' := [(1, (.tok ((List.map byteD (a0 ++ ([116, 114, 117, 101] : List UInt8))).length * 1)))]) rfl (inT [(1, 2)] []) (doneA (.inr rfl) rfl ⟨trivial, trivial⟩ (.refl _) (hasCons rfl hasNil)))
      · refine AWc.cF c44 ?_
        refine AWc.seq ?_
        refine AWc.rE hmix [] ?_
        rcases cc h with ⟨c57, h⟩ | ⟨c57, h⟩
        · refine AWc.cT c57 ?_
          refine AWc.seq ?_
          obtain ⟨b64, h⟩ := gd_some h
          refine AWc.rE hmix [.apA byteD a0 a1.fText 1 (fun _ => rfl) b64] ?_
          have hr := Option.some.inj h
          subst hr
          exact AWc.ret (canQ (N := 76) (k := 2) (l' := [(4, (.ap 1 1 (List.map byteD (a0 ++ a1.fText))))]) (H' := [(1, (.tok ((List.map byteD (a0 ++ a1.fText)).length * 1)))]) rfl (inT [(1, 2)] []) (doneA (.inr rfl) rfl ⟨trivial, trivial⟩ (.refl _) (hasCons rfl hasNil)))
        · refine AWc.cF c57 ?_
          refine AWc.seq ?_
          refine AWc.rE hmix [] ?_
          rcases cc h with ⟨c72, h⟩ | ⟨c72, h⟩
          · refine AWc.cT c72 ?_
            refine AWc.seq ?_
            obtain ⟨r79, e79, h⟩ := bind_some h
            refine AWc.rE hmix [.call (F424 hmix hc.2 e79) [(1, 2)] 2] ?_
            have hr := Option.some.inj h
            subst hr
            exact AWc.ret (canQ (N := 76) (k := 2) (l' := [(4, (.ap 1 1 (List.map byteD r79)))]) (H' := [(1, (.tok ((List.map byteD r79).length * 1)))]) rfl (inT [(1, 2)] []) (doneA (.inr rfl) rfl ⟨trivial, trivial⟩ (.refl _) (hasCons rfl hasNil)))
          · refine AWc.cF c72 ?_
            refine AWc.skip ?_
            refine AWc.seq ?_
            refine AWc.rE hmix [] ?_
            refine AWc.seqS (N := 76) 2 (fun (z : (List UInt8)) => [(0, (.ap 0 1 (List.map byteD a0))), (3, (.ptr 1 0)), (5, (.d (.str z)))]) (fun z => [(0, (.tok ((List.map byteD a0).length * 1))), (1, (.cells [(.d (.int .i64 a1.fKind)), (.d (.str a1.fText)), (.d (.sl (List.map (rtE (z := 4)) a1.fL))), (.d (.sl (List.map D.str a1.fKeys)))]))]) (fun z => f423_j99 k a0 a1 rc423 z = some r) rfl_le ?_ ?_
            · refine AWc.seq ?_
              refine AWc.rE hmix [] ?_
              rcases cc h with ⟨c94, h⟩ | ⟨c94, h⟩
              · refine AWc.cT c94 ?_
                refine AWc.rE hmix [] ?_
                exact ⟨([123, 125] : List UInt8), h, (inT [] [])⟩
              · refine AWc.cF c94 ?_
                refine AWc.skip ?_
                exact ⟨([91, 93] : List UInt8), h, (inT [] [])⟩
            · intro j99_1 h
              unfold f423_j99 at h
              refine AWc.seq ?_
              obtain ⟨b104, h⟩ := gd_some h
              obtain ⟨b106, h⟩ := gd_some h
              refine AWc.rE hmix [.sd b104, .apA byteD a0 ([(j99_1.getD ((0 : Int)).toNat 0)] : List UInt8) 1 (fun _ => rfl) b106] ?_
              refine AWc.seqS (N := 76) 2 (fun (z : (List UInt8)) => [(0, (.ap 1 1 (List.map byteD z))), (5, (.d (.str j99_1)))]) (fun z => [(1, (.tok ((List.map byteD z).length * 1)))]) (fun z => f423_j182 k j99_1 z = some r) rfl_le ?_ ?_
              · refine AWc.seq ?_
                refine AWc.rE hmix [.ln (rtE (z := 4)) a1.fL] ?_
                obtain ⟨o116, h116, h⟩ := bind_some h
                refine AWc.block ?_
                refine AWc.loopK (N := 76) 3 (fun (x : ((List UInt8) × Int)) => [(0, (.ap 1 1 (List.map byteD x.1))), (3, (.ptr 2 0)), (5, (.d (.str j99_1))), (43, (.d (.sl (List.map (rtE (z := 4)) a1.fL)))), (44, (.d (.int .i64 ((a1.fL.length : Nat) : Int)))), (45, (.d (.int .i64 x.2)))]) (fun x => [(1, (.tok ((List.map byteD x.1).length * 1))), (2, (.cells [(.d (.int .i64 a1.fKind)), (.d (.str a1.fText)), (.d (.sl (List.map (rtE (z := 4)) a1.fL))), (.d (.sl (List.map D.str a1.fKeys)))]))]) (fun k x => f423_l116 a1 rc423 k x.1 x.2 = some o116) k ((a0 ++ ([(j99_1.getD ((0 : Int)).toNat 0)] : List UInt8)), (0 : Int)) rfl_le (fun x hx => by cases hx) h116 (inT [(1, 2), (2, 1)] []) ?_
                clear h116
                intro k
                rintro ⟨y116_1, y116_2⟩ h116
                dsimp only at h116 ⊢
                rw [f423_l116] at h116
                refine AWc.seq ?_
                refine AWc.rE hmix [] ?_
                refine AWc.seq ?_
                rcases cc h116 with ⟨c123, h116⟩ | ⟨c123, h116⟩
                · refine AWc.cT c123 ?_
                  refine AWc.skip ?_
                  refine AWc.seq ?_
                  refine AWc.block ?_
                  refine AWc.seq ?_
                  obtain ⟨b132, h116⟩ := gd_some h116
                  obtain ⟨rx132, ex132, h116⟩ := bind_some h116
                  refine AWc.rE hmix [.iadE (rtE (z := 4)) a1.fL 4 rtE_ok.len b132 (TJson.dec_eq ex132)] ?_
                  refine AWc.seqS (N := 76) 4 (fun (z : (List UInt8)) => [(0, (.ap 1 1 (List.map byteD z))), (3, (.ptr 2 0)), (5, (.d (.str j99_1))), (6, (.d (.int .i64 y116_2))), (7, (.ptr 3 0)), (43, (.d (.sl (List.map (rtE (z := 4)) a1.fL)))), (44, (.d (.int .i64 ((a1.fL.length : Nat) : Int)))), (45, (.d (.int .i64 y116_2)))]) (fun z => [(1, (.tok ((List.map byteD z).length * 1))), (2, (.cells [(.d (.int .i64 a1.fKind)), (.d (.str a1.fText)), (.d (.sl (List.map (rtE (z := 4)) a1.fL))), (.d (.sl (List.map D.str a1.fKeys)))])), (3, (.cells [(.d (.int .i64 rx132.fKind)), (.d (.str rx132.fText)), (.d (.sl (List.map (rtE (z := 4)) rx132.fL))), (.d (.sl (List.map D.str rx132.fKeys)))]))]) (fun z => f423_j151 (f423_l116 a1 rc423 k) k a1 y116_2 rc423 rx132 z = some o116) rfl_le ?_ ?_
                  · refine AWc.seq ?_
                    refine AWc.rE hmix [] ?_
                    rcases cc h116 with ⟨c143, h116⟩ | ⟨c143, h116⟩
                    · refine AWc.cT c143 ?_
                      obtain ⟨b148, h116⟩ := gd_some h116
                      refine AWc.rE hmix [.apA byteD y116_1 ([(44 : UInt8)] : List UInt8) 1 (fun _ => rfl) b148] ?_
                      exact ⟨(y116_1 ++ ([(44 : UInt8)] : List UInt8)), h116, (inT [(1, 4)] [])⟩
                    · refine AWc.cF c143 ?_
                      refine AWc.skip ?_
                      exact ⟨y116_1, h116, (inT [] [])⟩
                  · intro j151_1 h116
                    unfold f423_j151 at h116
                    refine AWc.seqS (N := 76) 4 (fun (z : (List UInt8)) => [(0, (.ap 1 1 (List.map byteD z))), (3, (.ptr 2 0)), (5, (.d (.str j99_1))), (7, (.ptr 3 0)), (43, (.d (.sl (List.map (rtE (z := 4)) a1.fL)))), (44, (.d (.int .i64 ((a1.fL.length : Nat) : Int)))), (45, (.d (.int .i64 y116_2)))]) (fun z => [(1, (.tok ((List.map byteD z).length * 1))), (2, (.cells [(.d (.int .i64 a1.fKind)), (.d (.str a1.fText)), (.d (.sl (List.map (rtE (z := 4)) a1.fL))), (.d (.sl (List.map D.str a1.fKeys)))])), (3, (.cells [(.d (.int .i64 rx132.fKind)), (.d (.str rx132.fText)), (.d (.sl (List.map (rtE (z := 4)) rx132.fL))), (.d (.sl (List.map D.str rx132.fKeys)))]))]) (fun z => f423_j172 (f423_l116 a1 rc423 k) k rc423 rx132 y116_2 z = some o116) rfl_le ?_ ?_
                    · refine AWc.seq ?_
                      refine AWc.rE hmix [] ?_
                      rcases cc h116 with ⟨c158, h116⟩ | ⟨c158, h116⟩
                      · refine AWc.cT c158 ?_
                        obtain ⟨b165, h116⟩ := gd_some h116
                        obtain ⟨r167, e167, h116⟩ := bind_some h116
                        obtain ⟨b169, h116⟩ := gd_some h116
                        refine AWc.rE hmix [.iad D.str a1.fKeys 1 (fun _ => rfl) b165, .call (F424 hmix hc.2 e167) [(0, 1), (1, 4)] 2, .apA byteD r167 ([(58 : UInt8)] : List UInt8) 1 (fun _ => rfl) b169] ?_
                        exact ⟨(r167 ++ ([(58 : UInt8)] : List UInt8)), h116, (inT [(1, 5)] [])⟩
                      · refine AWc.cF c158 ?_
                        refine AWc.skip ?_
                        exact ⟨j151_1, h116, (inT [] [])⟩
                    · intro j172_1 h116
                      unfold f423_j172 at h116
                      obtain ⟨r176, e176, h116⟩ := bind_some h116
                      refine AWc.rE hmix [.call (hrc423 _ _ _ e176) [(0, 1), (1, 4)] 2] ?_
                      refine AWc.rE hmix [] ?_
                      exact ⟨(r176, (IntKind.i64.wrap (y116_2 + (1 : Int)))), h116, (inT [(1, 4)] [])⟩
                · refine AWc.cF c123 ?_
                  cases h116
                  dsimp only at h
                  refine AWc.exit ?_
                  refine inBlk_eq ?_
                  exact ⟨y116_1, h, (inT [] [])⟩
              · intro j182_1 h
                unfold f423_j182 at h
                refine AWc.seq ?_
                obtain ⟨b187, h⟩ := gd_some h
                obtain ⟨b189, h⟩ := gd_some h
                refine AWc.rE hmix [.sd b187, .apA byteD j182_1 ([(j99_1.getD ((1 : Int)).toNat 0)] : List UInt8) 1 (fun _ => rfl) b189] ?_
                have hr := Option.some.inj h
                subst hr
                exact AWc.ret (canQ (N := 76) (k := 2) (l' := [(4, (.ap 1 1 (List.map byteD (j182_1 ++ ([(j99_1.getD ((1 : Int)).toNat 0)] : List UInt8)))))]) (H' := [(1, (.tok ((List.map byteD (j182_1 ++ ([(j99_1.getD ((1 : Int)).toNat 0)] : List UInt8))).length * 1)))]) rfl (inT [(1, 2)] []) (doneA (.inr rfl) rfl ⟨trivial, trivial⟩ (.refl _) (hasCons rfl hasNil)))
def f423 : Nat → (List UInt8) → TJson → Option (List UInt8)
  | 0, _, _ => none
  | k + 1, a0, a1 => f423_s (f423 k) k a0 a1
theorem F423 {P : Program} {N : Nat → Nat} (hmix : P.follows .mixedOrders = true) (hc : HC423 P N) {k : Nat} {a0 : (List UInt8)} {a1 : TJson} {r : (List UInt8)} (h : f423 k a0 a1 = some r) :
    ACalls P (N 423) [(.ap 0 1 (List.map byteD a0)), (.d (TJson.enc a1))] [(0, (.tok ((List.map byteD a0).length * 1)))] (.ap 1 1 (List.map byteD r)) [(1, (.tok ((List.map byteD r).length * 1)))] := by
  induction k generalizing a0 a1 r with
  | zero => exact absurd (show (none : Option _) = some r from h) (fun h2 => by cases h2)
  | succ k ih => exact F423_s hmix hc (fun _ _ _ h => ih h) h
/-- courant/json.Print -/
def C421 (N : Nat → Nat) : AFunc := { n := 9, params := 1, res := [.tmp 2], body :=
 (.seq (.region false [⟨(some 1), .box (.t 0), none, []⟩,
   ⟨(some 2), .mv (.k (.d (.str []))), none, []⟩])
  (.seq (.seq (.region false [⟨(some 3), .load (.t 1) 4 true, none, []⟩,
     ⟨(some 4), .call (.k (.d (.fn (N 422)))) [(.t 3)], none, [0]⟩,
     ⟨(some 5), .un .not (.t 4), none, [1]⟩])
    (.cond (.t 5) (.seq (.region false [⟨(some 2), .mv (.k (.d (.str []))), none, []⟩])
      .ret)
     (.skip)))
   (.seq (.region false [⟨(some 6), .load (.t 1) 4 true, none, []⟩,
     ⟨(some 7), .call (.k (.d (.fn (N 423)))) [(.k .nils), (.t 6)], none, [0]⟩,
     ⟨(some 8), .bs2s (.t 7), none, [1]⟩,
     ⟨(some 2), .mv (.t 8), none, [2, 1, 0]⟩])
    .ret))) }
def HC421 (P : Program) (N : Nat → Nat) : Prop := HasF P (N 421) (C421 N) ∧ HC422 P N ∧ HC423 P N
def f421 (k : Nat) (a0 : TJson) : Option (List UInt8) := (f422 k (TJson.mk a0.fKind a0.fText a0.fL a0.fKeys)).bind fun r11 => cond (!r11) (some ([] : List UInt8)) ((f423 k ([] : List UInt8) (TJson.mk a0.fKind a0.fText a0.fL a0.fKeys)).bind fun r24 => some r24)
theorem F421 {P : Program} {N : Nat → Nat} (hmix : P.follows .mixedOrders = true) (hc : HC421 P N) {k : Nat} {a0 : TJson} {r : (List UInt8)} (h : f421 k a0 = some r) :
    ACalls P (N 421) [(.d (TJson.enc a0))] [] (.d (.str r)) [] := by
  refine acalls_canon (F := C421 N) hc.1 0 0 rfl ?_
  unfold f421 at h
  dsimp only [C421, startL]
  refine AWc.seq ?_
  refine AWc.rE hmix [] ?_
  refine AWc.seq ?_
  refine AWc.seq ?_
  obtain ⟨r11, e11, h⟩ := bind_some h
  refine AWc.rE hmix [.call (F422 hmix hc.2.1 e11) [] 0] ?_
  rcases cc h with ⟨c13, h⟩ | ⟨c13, h⟩
  · refine AWc.cT c13 ?_
    refine AWc.seq ?_
    refine AWc.rE hmix [] ?_
    have hr := Option.some.inj h
    subst hr
    exact AWc.ret (canQ (N := 9) (k := 0) (l' := [(2, (.d (.str ([] : List UInt8))))]) (H' := []) rfl (inT [] []) (doneA (.inr rfl) rfl ⟨trivial, trivial⟩ (.refl _) hasNil))
  · refine AWc.cF c13 ?_
    refine AWc.skip ?_
    refine AWc.seq ?_
    obtain ⟨r24, e24, h⟩ := bind_some h
    refine AWc.rE hmix [.call (ACalls.nilA (F423 hmix hc.2.2 e24) 0 0 1) [] 2, .bs r24] ?_
    have hr := Option.some.inj h
    subst hr
    exact AWc.ret (canQ (N := 9) (k := 0) (l' := [(2, (.d (.str r24)))]) (H' := []) rfl (inT [] []) (doneA (.inr rfl) rfl ⟨trivial, trivial⟩ (.refl _) hasNil))
/-- courant/courantlaw02.awake -/
def C395 (N : Nat → Nat) : AFunc := { n := 20, params := 0, res := [.tmp 0], body :=
 (.seq (.region false [⟨(some 0), .mv (.k (.d (.bool false))), none, []⟩])
  (.seq (.region false [⟨(some 4), .call (.k (.d (.fn (N 396)))) [(.k (.d (.str [91, 49, 44, 32, 34, 97, 34, 93])))], none, []⟩,
    ⟨(some 3), .mv (.t 4), none, [0]⟩,
    ⟨(some 5), .ext (.t 3) 0, none, [1]⟩,
    ⟨(some 6), .ext (.t 3) 1, none, [1]⟩,
    ⟨(some 1), .alloc [(.int .i64 0), (.str []), (.sl []), (.sl [])], none, []⟩,
    ⟨none, .store (.t 1) (.t 5) 4, none, [4, 2, 0, 1]⟩,
    ⟨(some 2), .mv (.t 6), none, [3, 5, 0, 1, 2, 4]⟩])
   (.seq (.region false [⟨(some 7), .mv (.t 2), none, []⟩,
     ⟨(some 8), .bin .eql (.t 7) (.k (.d (.int .i64 0))), none, [0]⟩,
     ⟨(some 9), .mv (.t 8), none, [1]⟩,
     ⟨(some 10), .faddr (.t 1) 2, (some (9, true)), [2]⟩,
     ⟨(some 11), .load (.t 10) 1 false, (some (9, true)), [3, 2]⟩,
     ⟨(some 12), .len (.t 11), (some (9, true)), [4, 2]⟩,
     ⟨(some 13), .bin .eql (.t 12) (.k (.d (.int .i64 2))), (some (9, true)), [5, 2]⟩,
     ⟨(some 14), .pick (.t 9) (.t 13) (.k (.d (.bool false))), none, [2, 6]⟩,
     ⟨(some 15), .mv (.t 14), none, [7, 2]⟩,
     ⟨(some 16), .load (.t 1) 4 true, (some (15, true)), [8]⟩,
     ⟨(some 17), .call (.k (.d (.fn (N 421)))) [(.t 16)], (some (15, true)), [9, 8]⟩,
     ⟨(some 18), .bin .eql (.t 17) (.k (.d (.str [91, 49, 44, 34, 97, 34, 93]))), (some (15, true)), [10, 8]⟩,
     ⟨(some 19), .pick (.t 15) (.t 18) (.k (.d (.bool false))), none, [8, 11]⟩,
     ⟨(some 0), .mv (.t 19), none, [12, 10, 0, 1, 2, 3, 4, 5, 6, 7, 8, 9, 11]⟩])
    .ret))) }
def HC395 (P : Program) (N : Nat → Nat) : Prop := HasF P (N 395) (C395 N) ∧ HC396 P N ∧ HC421 P N
def f395 (k : Nat) : Option Bool := (f396 k ([91, 49, 44, 32, 34, 97, 34, 93] : List UInt8)).bind fun r8 => cond (decide (r8.1 = (0 : Int))) (cond (decide (((r8.2.2.2.1.length : Nat) : Int) = (2 : Int))) ((f421 k (TJson.mk r8.2.1 r8.2.2.1 r8.2.2.2.1 r8.2.2.2.2)).bind fun r28 => some (decide (r28 = ([91, 49, 44, 34, 97, 34, 93] : List UInt8)))) (some false)) (some false)
theorem F395 {P : Program} {N : Nat → Nat} (hmix : P.follows .mixedOrders = true) (hc : HC395 P N) {k : Nat} {r : Bool} (h : f395 k = some r) :
    ACalls P (N 395) [] [] (.d (.bool r)) [] := by
  refine acalls_canon (F := C395 N) hc.1 0 0 rfl ?_
  unfold f395 at h
  dsimp only [C395, startL]
  refine AWc.seq ?_
  refine AWc.rE hmix [] ?_
  refine AWc.seq ?_
  obtain ⟨r8, e8, h⟩ := bind_some h
  refine AWc.rE hmix [.call (F396 hmix hc.2.1 e8) [] 0] ?_
  refine AWc.seq ?_
  rcases cc h with ⟨c20, h⟩ | ⟨c20, h⟩
  · rcases cc h with ⟨c26, h⟩ | ⟨c26, h⟩
    · obtain ⟨r28, e28, h⟩ := bind_some h
      refine AWc.rE hmix [.br c20, .ln (rtE (z := 4)) r8.2.2.2.1, .br c26, .call (F421 hmix hc.2.2 e28) [] 0] ?_
      have hr := Option.some.inj h
      subst hr
      exact AWc.ret (canQ (N := 20) (k := 0) (l' := [(0, (.d (.bool (decide (r28 = ([91, 49, 44, 34, 97, 34, 93] : List UInt8))))))]) (H' := []) rfl (inT [] []) (doneA (.inr rfl) rfl ⟨trivial, trivial⟩ (.refl _) hasNil))
    · refine AWc.rE hmix [.br c20, .ln (rtE (z := 4)) r8.2.2.2.1, .br c26] ?_
      have hr := Option.some.inj h
      subst hr
      exact AWc.ret (canQ (N := 20) (k := 0) (l' := [(0, (.d (.bool false)))]) (H' := []) rfl (inT [] []) (doneA (.inr rfl) rfl ⟨trivial, trivial⟩ (.refl _) hasNil))
  · refine AWc.rE hmix [.br c20, .br (rfl : false = false)] ?_
    have hr := Option.some.inj h
    subst hr
    exact AWc.ret (canQ (N := 20) (k := 0) (l' := [(0, (.d (.bool false)))]) (H' := []) rfl (inT [] []) (doneA (.inr rfl) rfl ⟨trivial, trivial⟩ (.refl _) hasNil))
/-- courant/json.Walk -/
def C443 (N : Nat → Nat) : AFunc := { n := 4, params := 1, res := [.tmp 2], body :=
 (.seq (.region false [⟨(some 1), .box (.t 0), none, []⟩,
   ⟨(some 2), .mv (.k (.d .nilf)), none, []⟩])
  (.seq (.region false [⟨(some 3), .mkfn (N 444) [(.t 1)], none, []⟩,
    ⟨(some 2), .mv (.t 3), none, [0]⟩])
   .ret)) }
def HC443 (P : Program) (N : Nat → Nat) : Prop := HasF P (N 443) (C443 N)
def f443 (k : Nat) (a0 : TJson) : Option Unit := some ()
theorem F443 {P : Program} {N : Nat → Nat} (hmix : P.follows .mixedOrders = true) (hc : HC443 P N) {k : Nat} {a0 : TJson} {r : Unit} (h : f443 k a0 = some r) :
    ACalls P (N 443) [(.d (TJson.enc a0))] [] (.fn (N 444) [(.ptr 0 0)]) [(0, (.cells [(.d (.int .i64 a0.fKind)), (.d (.str a0.fText)), (.d (.sl (List.map (rtE (z := 4)) a0.fL))), (.d (.sl (List.map D.str a0.fKeys)))]))] := by
  refine acalls_canon (F := C443 N) hc 0 1 rfl ?_
  unfold f443 at h
  dsimp only [C443, startL]
  refine AWc.seq ?_
  refine AWc.rE hmix [] ?_
  refine AWc.seq ?_
  refine AWc.rE hmix [] ?_
  have hr := Option.some.inj h
  subst hr
  exact AWc.ret (canQ (N := 4) (k := 1) (l' := [(2, (.fn (N 444) [(.ptr 0 0)]))]) (H' := [(0, (.cells [(.d (.int .i64 a0.fKind)), (.d (.str a0.fText)), (.d (.sl (List.map (rtE (z := 4)) a0.fL))), (.d (.sl (List.map D.str a0.fKeys)))]))]) rfl (inT [] []) (doneA (.inr rfl) rfl ⟨trivial, trivial⟩ (.refl _) (hasCons rfl hasNil)))
def RH445 (P : Program) (N : Nat → Nat) (rc445 : TJson → Int → Option ((List Int) × (List (RT 4)))) : Prop := ∀ (a0 : TJson) (a1 : Int) (r : ((List Int) × (List (RT 4)))), rc445 a0 a1 = some r → ACalls P (N 445) [(.d (TJson.enc a0)), (.d (.int .i64 a1))] [] (.tup [(.ap 0 1 (List.map (D.int .i64) r.1)), (.ap 1 4 (List.map (rtE (z := 4)) r.2))]) [(0, (.tok ((List.map (D.int .i64) r.1).length * 1))), (1, (.tok ((List.map (rtE (z := 4)) r.2).length * 4)))]
/-- courant/courantlaw02.flat -/
def C445 (N : Nat → Nat) : AFunc := { n := 41, params := 2, res := [.tmp 4, .tmp 5], body :=
 (.seq (.region false [⟨(some 2), .box (.t 0), none, []⟩,
   ⟨(some 4), .mv (.k .nils), none, []⟩,
   ⟨(some 5), .mv (.k .nils), none, [1]⟩])
  (.seq (.region true [⟨(some 11), .mv (.t 1), none, []⟩,
    ⟨(some 12), .bslice 1 1 [(.int .i64 0)] [(0, (.t 11))], none, [0]⟩,
    ⟨(some 13), .load (.t 2) 4 true, none, []⟩,
    ⟨(some 14), .bslice 1 4 [(.int .i64 0), (.str []), (.sl []), (.sl [])] [(0, (.t 13))], none, [2]⟩,
    ⟨(some 6), .mv (.t 12), none, [1, 0]⟩,
    ⟨(some 7), .mv (.t 14), none, [3, 4, 0, 1, 2]⟩])
   (.seq (.seq (.region false [⟨(some 8), .mv (.k (.d (.int .i64 0))), none, []⟩])
     (.block 0 (.loop (.seq (.seq (.region false [⟨(some 15), .mv (.t 8), none, []⟩,
          ⟨(some 16), .faddr (.t 2) 2, none, []⟩,
          ⟨(some 17), .load (.t 16) 1 false, none, [1]⟩,
          ⟨(some 18), .len (.t 17), none, [2]⟩,
          ⟨(some 19), .bin .lss (.t 15) (.t 18), none, [0, 3]⟩])
         (.cond (.t 19) (.skip)
          (.exit 0)))
        (.seq (.block 1 (.seq (.region false [⟨(some 23), .faddr (.t 2) 2, none, []⟩,
            ⟨(some 24), .load (.t 23) 1 false, none, [0]⟩,
            ⟨(some 25), .mv (.t 8), none, []⟩,
            ⟨(some 26), .iaddr (.t 24) (.t 25) 4, none, [1, 2]⟩,
            ⟨(some 27), .load (.t 26) 4 true, none, [3]⟩,
            ⟨(some 28), .mv (.t 1), none, []⟩,
            ⟨(some 29), .bin .add (.t 28) (.k (.d (.int .i64 1))), none, [5]⟩,
            ⟨(some 30), .call (.k (.d (.fn (N 445)))) [(.t 27), (.t 29)], none, [4, 6]⟩,
            ⟨(some 22), .mv (.t 30), none, [7]⟩,
            ⟨(some 31), .ext (.t 22) 0, none, [8]⟩,
            ⟨(some 32), .ext (.t 22) 1, none, [8]⟩,
            ⟨(some 9), .mv (.t 31), none, [9, 7, 0, 1, 2, 3, 4, 5, 6, 8]⟩,
            ⟨(some 10), .mv (.t 32), none, [10, 11, 0, 1, 2, 3, 4, 5, 6, 7, 8, 9]⟩])
           (.region false [⟨(some 33), .mv (.t 6), none, []⟩,
            ⟨(some 34), .mv (.t 9), none, []⟩,
            ⟨(some 35), .app (.t 33) (.t 34) 1 8 [(.int .i64 0)], none, [0, 1]⟩,
            ⟨(some 36), .mv (.t 7), none, []⟩,
            ⟨(some 37), .mv (.t 10), none, []⟩,
            ⟨(some 38), .app (.t 36) (.t 37) 4 72 [(.int .i64 0), (.str []), (.sl []), (.sl [])], none, [3, 4, 2]⟩,
            ⟨(some 6), .mv (.t 35), none, [2, 5, 0, 1]⟩,
            ⟨(some 7), .mv (.t 38), none, [5, 6, 0, 1, 2, 3, 4]⟩])))
         (.region false [⟨(some 20), .mv (.t 8), none, []⟩,
          ⟨(some 21), .bin .add (.t 20) (.k (.d (.int .i64 1))), none, [0]⟩,
          ⟨(some 8), .mv (.t 21), none, [1, 0]⟩]))))))
    (.seq (.region false [⟨(some 39), .mv (.t 6), none, []⟩,
      ⟨(some 40), .mv (.t 7), none, []⟩,
      ⟨(some 4), .mv (.t 39), none, [0]⟩,
      ⟨(some 5), .mv (.t 40), none, [1, 2, 0]⟩])
     .ret)))) }
def HC445 (P : Program) (N : Nat → Nat) : Prop := HasF P (N 445) (C445 N)
def f445_j68 (k : Nat) (j68_1 : (List Int)) (j68_2 : (List (RT 4))) : Option ((List Int) × (List (RT 4))) := some (j68_1, j68_2)
def f445_l21 (a0 : TJson) (rc445 : TJson → Int → Option ((List Int) × (List (RT 4)))) (a1 : Int) : Nat → (List Int) → (List (RT 4)) → Int → Option (LR2 ((List Int) × (List (RT 4))) Unit ((List Int) × (List (RT 4))))
  | 0, _, _, _ => none
  | k + 1, y21_1, y21_2, y21_3 => cond (decide (y21_3 < ((a0.fL.length : Nat) : Int))) (gd (0 ≤ y21_3 ∧ y21_3 < ((a0.fL.length : Nat) : Int)) ((TJson.dec (rtE (rd a0.fL y21_3))).bind fun rx43 => (rc445 rx43 (IntKind.i64.wrap (a1 + (1 : Int)))).bind fun r47 => gd ((y21_1.length + r47.1.length) * 2 * 8 ≤ 281474976710656) (gd ((y21_2.length + r47.2.length) * 2 * 72 ≤ 281474976710656) (f445_l21 a0 rc445 a1 k (y21_1 ++ r47.1) (y21_2 ++ r47.2) (IntKind.i64.wrap (y21_3 + (1 : Int))))))) (some (.b0 (y21_1, y21_2)))
def f445_s (rc445 : TJson → Int → Option ((List Int) × (List (RT 4)))) (k : Nat) (a0 : TJson) (a1 : Int) : Option ((List Int) × (List (RT 4))) := (f445_l21 a0 rc445 a1 k ([a1] : List Int) ([(RT.of TJson.ok (TJson.mk a0.fKind a0.fText a0.fL a0.fKeys))] : List (RT 4)) (0 : Int)).bind fun o21 => (match o21 with | .b0 (x21_1, x21_2) => f445_j68 k x21_1 x21_2 | _ => none)
theorem F445_s {P : Program} {N : Nat → Nat} (hmix : P.follows .mixedOrders = true) (hc : HC445 P N) {rc445 : TJson → Int → Option ((List Int) × (List (RT 4)))} (hrc445 : RH445 P N rc445) {k : Nat} {a0 : TJson} {a1 : Int} {r : ((List Int) × (List (RT 4)))} (h : f445_s rc445 k a0 a1 = some r) :
    ACalls P (N 445) [(.d (TJson.enc a0)), (.d (.int .i64 a1))] [] (.tup [(.ap 0 1 (List.map (D.int .i64) r.1)), (.ap 1 4 (List.map (rtE (z := 4)) r.2))]) [(0, (.tok ((List.map (D.int .i64) r.1).length * 1))), (1, (.tok ((List.map (rtE (z := 4)) r.2).length * 4)))] := by
  refine acalls_canon (F := C445 N) hc 0 2 rfl ?_
  unfold f445_s at h
  dsimp only [C445, startL]
  refine AWc.seq ?_
  refine AWc.rg hmix rfl rfl ?_
  refine RegV.evS (own := false) (v := (.ptr 0 0)) (H' := [(0, (.cells [(.d (.int .i64 a0.fKind)), (.d (.str a0.fText)), (.d (.sl (List.map (rtE (z := 4)) a0.fL))), (.d (.sl (List.map D.str a0.fKeys)))]))]) (c' := 1) rfl rfl trivial rfl rfl rfl rfl rfl rfl ?_
  refine RegV.p0 rfl rfl rfl ?_
  refine RegV.p0 rfl rfl rfl ?_
  refine RegV.nil0 ?_
  refine AWc.seq ?_
  refine AWc.rg hmix rfl rfl ?_
  refine RegV.p0 rfl rfl rfl ?_
  refine RegV.bsA (xs := ([a1] : List Int)) (e := (D.int .i64)) rfl rfl rfl rfl rfl rfl rfl (fun _ => rfl) rfl rfl ?_
  refine RegV.ld (v := (.d (.agg [(.int .i64 a0.fKind), (.str a0.fText), (.sl (List.map (rtE (z := 4)) a0.fL)), (.sl (List.map D.str a0.fKeys))]))) (H' := [(0, (.cells [(.d (.int .i64 a0.fKind)), (.d (.str a0.fText)), (.d (.sl (List.map (rtE (z := 4)) a0.fL))), (.d (.sl (List.map D.str a0.fKeys)))])), (1, (.tok ((List.map (D.int .i64) ([a1] : List Int)).length * 1)))]) rfl rfl (Nat.le_of_ble_eq_true rfl) rfl rfl rfl rfl rfl ?_
  refine RegV.bsA (xs := ([(RT.of TJson.ok (TJson.mk a0.fKind a0.fText a0.fL a0.fKeys))] : List (RT 4))) (e := (rtE (z := 4))) rfl rfl rfl rfl rfl rfl rfl rtE_ok.len rfl rfl ?_
  refine RegV.p0 rfl rfl rfl ?_
  refine RegV.p0 rfl rfl rfl ?_
  refine RegV.nil1 (by kernel_rfl) ?_
  refine AWc.seqS (N := 41) 2 (fun (z : ((List Int) × (List (RT 4)))) => [(6, (.ap 0 1 (List.map (D.int .i64) z.1))), (7, (.ap 1 4 (List.map (rtE (z := 4)) z.2)))]) (fun z => [(0, (.tok ((List.map (D.int .i64) z.1).length * 1))), (1, (.tok ((List.map (rtE (z := 4)) z.2).length * 4)))]) (fun z => f445_j68 k z.1 z.2 = some r) rfl_le ?_ ?_
  · refine AWc.seq ?_
    refine AWc.rg hmix rfl rfl ?_
    refine RegV.p0 rfl rfl rfl ?_
    refine RegV.nil0 ?_
    obtain ⟨o21, h21, h⟩ := bind_some h
    refine AWc.block ?_
    refine AWc.loopK (N := 41) 3 (fun (x : ((List Int) × (List (RT 4)) × Int)) => [(1, (.d (.int .i64 a1))), (2, (.ptr 0 0)), (6, (.ap 1 1 (List.map (D.int .i64) x.1))), (7, (.ap 2 4 (List.map (rtE (z := 4)) x.2.1))), (8, (.d (.int .i64 x.2.2)))]) (fun x => [(0, (.cells [(.d (.int .i64 a0.fKind)), (.d (.str a0.fText)), (.d (.sl (List.map (rtE (z := 4)) a0.fL))), (.d (.sl (List.map D.str a0.fKeys)))])), (1, (.tok ((List.map (D.int .i64) x.1).length * 1))), (2, (.tok ((List.map (rtE (z := 4)) x.2.1).length * 4)))]) (fun k x => f445_l21 a0 rc445 a1 k x.1 x.2.1 x.2.2 = some o21) k (([a1] : List Int), ([(RT.of TJson.ok (TJson.mk a0.fKind a0.fText a0.fL a0.fKeys))] : List (RT 4)), (0 : Int)) rfl_le (fun x hx => by cases hx) h21 ⟨rfl, [], [], rfl, rfl, ⟨⟨_, rfl, (.refl _)⟩, rfl, ⟨⟨_, rfl, (.refl _)⟩, rfl, ⟨⟨_, rfl, (.refl _)⟩, rfl, ⟨⟨_, rfl, (.refl _)⟩, rfl, ⟨⟨_, rfl, (.refl _)⟩, rfl, trivial⟩⟩⟩⟩⟩, ⟨⟨_, rfl, (.refl _)⟩, rfl, rfl, ⟨⟨_, rfl, (.refl _)⟩, rfl, rfl, ⟨⟨_, rfl, (.refl _)⟩, rfl, rfl, trivial⟩⟩⟩⟩ ?_
    clear h21
    intro k
    rintro ⟨y21_1, y21_2, y21_3⟩ h21
    dsimp only at h21 ⊢
    rw [f445_l21] at h21
    refine AWc.seq ?_
    refine AWc.seq ?_
    refine AWc.rg hmix rfl rfl ?_
    refine RegV.p0 rfl rfl rfl ?_
    refine RegV.p0 (v := (.ptr 0 2)) rfl rfl rfl ?_
    refine RegV.ld (v := (.d (.sl (List.map (rtE (z := 4)) a0.fL)))) (H' := [(0, (.cells [(.d (.int .i64 a0.fKind)), (.d (.str a0.fText)), (.d (.sl (List.map (rtE (z := 4)) a0.fL))), (.d (.sl (List.map D.str a0.fKeys)))])), (1, (.tok ((List.map (D.int .i64) y21_1).length * 1))), (2, (.tok ((List.map (rtE (z := 4)) y21_2).length * 4)))]) rfl rfl trivial rfl rfl rfl rfl rfl ?_
    refine RegV.len (xs := a0.fL) (e := (rtE (z := 4))) rfl rfl rfl rfl ?_
    refine RegV.p0 (v := (.d (.bool (decide (y21_3 < ((a0.fL.length : Nat) : Int)))))) rfl rfl rfl ?_
    refine RegV.nil0 ?_
    refine AWc.cond rfl (fun c32 => ?_) (fun c32 => ?_)
    · have h21 := cond_pos c32 h21
      refine AWc.skip ?_
      refine AWc.seq ?_
      refine AWc.block ?_
      refine AWc.seq ?_
      refine AWc.rg hmix rfl rfl ?_
      refine RegV.p0 (v := (.ptr 0 2)) rfl rfl rfl ?_
      refine RegV.ld (v := (.d (.sl (List.map (rtE (z := 4)) a0.fL)))) (H' := [(0, (.cells [(.d (.int .i64 a0.fKind)), (.d (.str a0.fText)), (.d (.sl (List.map (rtE (z := 4)) a0.fL))), (.d (.sl (List.map D.str a0.fKeys)))])), (1, (.tok ((List.map (D.int .i64) y21_1).length * 1))), (2, (.tok ((List.map (rtE (z := 4)) y21_2).length * 4)))]) rfl rfl trivial rfl rfl rfl rfl rfl ?_
      refine RegV.p0 rfl rfl rfl ?_
      obtain ⟨b43, h21⟩ := gd_some h21
      obtain ⟨rx43, ex43, h21⟩ := bind_some h21
      refine RegV.iadE (xs := a0.fL) (e := (rtE (z := 4))) (w := TJson.enc rx43) rfl rfl rfl rfl rtE_ok.len b43 (TJson.dec_eq ex43) rfl ?_
      refine RegV.p1 (v := (.d (TJson.enc rx43))) rfl rfl rfl rfl rfl ?_
      refine RegV.p0 rfl rfl rfl ?_
      refine RegV.p0 (v := (.d (.int .i64 (IntKind.i64.wrap (a1 + (1 : Int)))))) rfl rfl rfl ?_
      obtain ⟨r47, e47, h21⟩ := bind_some h21
      refine RegV.callS (q := false) (H' := [(3, (.tok ((List.map (D.int .i64) r47.1).length * 1))), (4, (.tok ((List.map (rtE (z := 4)) r47.2).length * 4))), (0, (.cells [(.d (.int .i64 a0.fKind)), (.d (.str a0.fText)), (.d (.sl (List.map (rtE (z := 4)) a0.fL))), (.d (.sl (List.map D.str a0.fKeys)))])), (1, (.tok ((List.map (D.int .i64) y21_1).length * 1))), (2, (.tok ((List.map (rtE (z := 4)) y21_2).length * 4)))]) (c' := 5) (show ACalls P (N 445) [(.d (TJson.enc rx43)), (.d (.int .i64 (IntKind.i64.wrap (a1 + (1 : Int)))))] [] (.tup [(.ap 3 1 (List.map (D.int .i64) r47.1)), (.ap 4 4 (List.map (rtE (z := 4)) r47.2))]) [(3, (.tok ((List.map (D.int .i64) r47.1).length * 1))), (4, (.tok ((List.map (rtE (z := 4)) r47.2).length * 4)))] from ACalls.use (hrc445 _ _ _ e47) [(0, 3), (1, 4)] 2 rfl) rfl rfl rfl rfl (.cons (.refl _) (.cons (.refl _) .nil)) (.refl _) (fun h => by cases h) rfl hasNil rfl rfl rfl rfl ?_
      refine RegV.p0 rfl rfl rfl ?_
      refine RegV.p0 rfl rfl rfl ?_
      refine RegV.p0 rfl rfl rfl ?_
      refine RegV.p0 rfl rfl rfl ?_
      refine RegV.p0 rfl rfl rfl ?_
      refine RegV.nil0 ?_
      refine AWc.rg hmix rfl rfl ?_
      refine RegV.p0 rfl rfl rfl ?_
      refine RegV.p0 rfl rfl rfl ?_
      obtain ⟨b57, h21⟩ := gd_some h21
      refine RegV.appA (xs := y21_1) (ys := r47.1) (e := (D.int .i64)) (H1 := [(3, (.tok ((List.map (D.int .i64) r47.1).length * 1))), (4, (.tok ((List.map (rtE (z := 4)) r47.2).length * 4))), (0, (.cells [(.d (.int .i64 a0.fKind)), (.d (.str a0.fText)), (.d (.sl (List.map (rtE (z := 4)) a0.fL))), (.d (.sl (List.map D.str a0.fKeys)))])), (2, (.tok ((List.map (rtE (z := 4)) y21_2).length * 4)))]) rfl rfl rfl rfl (fun _ => rfl) rfl rfl b57 rfl rfl rfl ?_
      refine RegV.p0 rfl rfl rfl ?_
      refine RegV.p0 rfl rfl rfl ?_
      obtain ⟨b60, h21⟩ := gd_some h21
      refine RegV.appA (xs := y21_2) (ys := r47.2) (e := (rtE (z := 4))) (H1 := [(5, (.tok ((List.map (D.int .i64) (y21_1 ++ r47.1)).length * 1))), (3, (.tok ((List.map (D.int .i64) r47.1).length * 1))), (4, (.tok ((List.map (rtE (z := 4)) r47.2).length * 4))), (0, (.cells [(.d (.int .i64 a0.fKind)), (.d (.str a0.fText)), (.d (.sl (List.map (rtE (z := 4)) a0.fL))), (.d (.sl (List.map D.str a0.fKeys)))]))]) rfl rfl rfl rfl rtE_ok.len rfl rfl b60 rfl rfl rfl ?_
      refine RegV.p0 rfl rfl rfl ?_
      refine RegV.p0 rfl rfl rfl ?_
      refine RegV.nil0 ?_
      refine AWc.rg hmix rfl rfl ?_
      refine RegV.p0 rfl rfl rfl ?_
      refine RegV.p0 (v := (.d (.int .i64 (IntKind.i64.wrap (y21_3 + (1 : Int)))))) rfl rfl rfl ?_
      refine RegV.p0 rfl rfl rfl ?_
      refine RegV.nil0 ?_
      exact ⟨((y21_1 ++ r47.1), (y21_2 ++ r47.2), (IntKind.i64.wrap (y21_3 + (1 : Int)))), h21, ⟨rfl, [], [(1, 5), (2, 6)], rfl, rfl, ⟨⟨_, rfl, (.refl _)⟩, rfl, ⟨⟨_, rfl, (.refl _)⟩, rfl, ⟨⟨_, rfl, (.refl _)⟩, rfl, ⟨⟨_, rfl, (.refl _)⟩, rfl, ⟨⟨_, rfl, (.refl _)⟩, rfl, trivial⟩⟩⟩⟩⟩, ⟨⟨_, rfl, (.refl _)⟩, rfl, rfl, ⟨⟨_, rfl, (.refl _)⟩, rfl, rfl, ⟨⟨_, rfl, (.refl _)⟩, rfl, rfl, trivial⟩⟩⟩⟩⟩
    · have h21 := cond_neg c32 h21
      cases h21
      dsimp only at h
      refine AWc.exit ?_
      refine inBlk_eq ?_
      exact ⟨(y21_1, y21_2), h, ⟨rfl, [], [(0, 1), (1, 2)], rfl, rfl, ⟨⟨_, rfl, (.refl _)⟩, rfl, ⟨⟨_, rfl, (.refl _)⟩, rfl, trivial⟩⟩, ⟨⟨_, rfl, (.refl _)⟩, rfl, rfl, ⟨⟨_, rfl, (.refl _)⟩, rfl, rfl, trivial⟩⟩⟩⟩
  · rintro ⟨j68_1, j68_2⟩ h
    dsimp only at h ⊢
    unfold f445_j68 at h
    refine AWc.seq ?_
    refine AWc.rg hmix rfl rfl ?_
    refine RegV.p0 rfl rfl rfl ?_
    refine RegV.p0 rfl rfl rfl ?_
    refine RegV.p0 rfl rfl rfl ?_
    refine RegV.p0 rfl rfl rfl ?_
    refine RegV.nil0 ?_
    have hr := Option.some.inj h
    subst hr
    exact AWc.ret (canQ (N := 41) (k := 2) (l' := [(4, (.ap 0 1 (List.map (D.int .i64) j68_1))), (5, (.ap 1 4 (List.map (rtE (z := 4)) j68_2)))]) (H' := [(0, (.tok ((List.map (D.int .i64) j68_1).length * 1))), (1, (.tok ((List.map (rtE (z := 4)) j68_2).length * 4)))]) rfl ⟨rfl, [], [], rfl, rfl, ⟨⟨_, rfl, (.refl _)⟩, rfl, ⟨⟨_, rfl, (.refl _)⟩, rfl, trivial⟩⟩, ⟨⟨_, rfl, (.refl _)⟩, rfl, rfl, ⟨⟨_, rfl, (.refl _)⟩, rfl, rfl, trivial⟩⟩⟩ (doneA (.inr rfl) rfl ⟨trivial, ⟨trivial, trivial⟩⟩ (.refl _) (hasCons rfl (hasCons rfl hasNil))))
def f445 : Nat → TJson → Int → Option ((List Int) × (List (RT 4)))
  | 0, _, _ => none
  | k + 1, a0, a1 => f445_s (f445 k) k a0 a1
theorem F445 {P : Program} {N : Nat → Nat} (hmix : P.follows .mixedOrders = true) (hc : HC445 P N) {k : Nat} {a0 : TJson} {a1 : Int} {r : ((List Int) × (List (RT 4)))} (h : f445 k a0 a1 = some r) :
    ACalls P (N 445) [(.d (TJson.enc a0)), (.d (.int .i64 a1))] [] (.tup [(.ap 0 1 (List.map (D.int .i64) r.1)), (.ap 1 4 (List.map (rtE (z := 4)) r.2))]) [(0, (.tok ((List.map (D.int .i64) r.1).length * 1))), (1, (.tok ((List.map (rtE (z := 4)) r.2).length * 4)))] := by
  induction k generalizing a0 a1 r with
  | zero => exact absurd (show (none : Option _) = some r from h) (fun h2 => by cases h2)
  | succ k ih => exact F445_s hmix hc (fun _ _ _ h => ih h) h
def RH441 (P : Program) (N : Nat → Nat) (rc441 : TJson → Option ((List (RT 4)) × (List (List UInt8)))) : Prop := ∀ (a0 : TJson) (r : ((List (RT 4)) × (List (List UInt8)))), rc441 a0 = some r → ACalls P (N 441) [(.d (TJson.enc a0))] [] (.d (.agg [(.int .i64 a0.fKind), (.str a0.fText), (.sl (List.map (rtE (z := 4)) r.1)), (.sl (List.map D.str r.2))])) []
/-- slices.Clone[[]string,string] -/
def C442 (N : Nat → Nat) : AFunc := { n := 8, params := 1, res := [.tmp 2], body :=
 (.seq (.region false [⟨(some 2), .mv (.k .nils), none, []⟩])
  (.seq (.seq (.region false [⟨(some 3), .mv (.t 0), none, []⟩,
     ⟨(some 4), .nileq 0 false (.t 3) (.k .nils), none, [0]⟩])
    (.cond (.t 4) (.seq (.region false [⟨(some 2), .mv (.k .nils), none, []⟩])
      .ret)
     (.skip)))
   (.seq (.region false [⟨(some 5), .bslice 0 1 [(.str [])] [], none, []⟩,
     ⟨(some 6), .mv (.t 0), none, []⟩,
     ⟨(some 7), .app (.t 5) (.t 6) 1 16 [(.str [])], none, [0, 1]⟩,
     ⟨(some 2), .mv (.t 7), none, [2, 0, 1]⟩])
    .ret))) }
def HC442 (P : Program) (N : Nat → Nat) : Prop := HasF P (N 442) (C442 N)
def f442 (k : Nat) (a0 : List (List UInt8)) : Option (List (List UInt8)) := gd (a0.length * 2 * 16 ≤ 281474976710656) (some a0)
theorem F442 {P : Program} {N : Nat → Nat} (hmix : P.follows .mixedOrders = true) (hc : HC442 P N) {k : Nat} {a0 r : List (List UInt8)} (h : f442 k a0 = some r) :
    ACalls P (N 442) [(.d (.sl (List.map D.str a0)))] [] (.ap 0 1 (List.map D.str r)) [(0, (.tok ((List.map D.str r).length * 1)))] := by
  unfold f442 at h
  obtain ⟨b, h⟩ := gd_some h
  cases h
  exact clone_gen hmix str_ok hc rfl rfl b
/-- courant/json.own -/
def C441 (N : Nat → Nat) : AFunc := { n := 26, params := 1, res := [.cell 2 4 true], body :=
 (.seq (.region false [⟨(some 1), .box (.t 0), none, []⟩,
   ⟨(some 2), .alloc [(.int .i64 0), (.str []), (.sl []), (.sl [])], none, []⟩])
  (.seq (.region false [⟨(some 6), .faddr (.t 1) 3, none, []⟩,
    ⟨(some 7), .load (.t 6) 1 false, none, [0]⟩,
    ⟨(some 8), .call (.k (.d (.fn (N 442)))) [(.t 7)], none, [1]⟩,
    ⟨(some 9), .faddr (.t 1) 3, none, [0, 1, 2]⟩,
    ⟨none, .store (.t 9) (.t 8) 1, none, [3, 2, 0, 1]⟩])
   (.seq (.region false [⟨(some 3), .mv (.k .nils), none, []⟩])
    (.seq (.seq (.region false [⟨(some 10), .faddr (.t 1) 2, none, []⟩,
       ⟨(some 11), .load (.t 10) 1 false, none, [0]⟩,
       ⟨(some 12), .len (.t 11), none, [1]⟩,
       ⟨(some 13), .mv (.k (.d (.int .i64 0))), none, []⟩])
      (.block 0 (.loop (.seq (.region false [⟨(some 14), .bin .lss (.t 13) (.t 12), none, []⟩])
         (.seq (.cond (.t 14) (.skip)
           (.exit 0))
          (.seq (.block 1 (.seq (.region false [⟨(some 15), .iaddr (.t 11) (.t 13) 4, none, []⟩,
              ⟨(some 16), .load (.t 15) 4 true, none, [0]⟩,
              ⟨(some 5), .alloc [(.int .i64 0), (.str []), (.sl []), (.sl [])], none, []⟩,
              ⟨none, .store (.t 5) (.t 16) 4, none, [2, 1, 0]⟩])
             (.region false [⟨(some 17), .mv (.t 3), none, []⟩,
              ⟨(some 18), .load (.t 5) 4 true, none, []⟩,
              ⟨(some 19), .call (.k (.d (.fn (N 441)))) [(.t 18)], none, [1]⟩,
              ⟨(some 20), .bslice 1 4 [(.int .i64 0), (.str []), (.sl []), (.sl [])] [(0, (.t 19))], none, [2]⟩,
              ⟨(some 21), .app (.t 17) (.t 20) 4 72 [(.int .i64 0), (.str []), (.sl []), (.sl [])], none, [0, 3, 2]⟩,
              ⟨(some 3), .mv (.t 21), none, [4, 0, 1, 2, 3]⟩])))
           (.region false [⟨(some 22), .bin .add (.t 13) (.k (.d (.int .i64 1))), none, []⟩,
            ⟨(some 13), .mv (.t 22), none, [0]⟩])))))))
     (.seq (.region false [⟨(some 23), .mv (.t 3), none, []⟩,
       ⟨(some 24), .faddr (.t 1) 2, none, [0]⟩,
       ⟨none, .store (.t 24) (.t 23) 1, none, [1, 0]⟩])
      (.seq (.region false [⟨(some 25), .load (.t 1) 4 true, none, []⟩,
        ⟨none, .store (.t 2) (.t 25) 4, none, [0]⟩])
       .ret)))))) }
def HC441 (P : Program) (N : Nat → Nat) : Prop := HasF P (N 441) (C441 N) ∧ HC442 P N
def f441_j57 (k : Nat) (r11 : (List (List UInt8))) (j57_1 : (List (RT 4))) : Option ((List (RT 4)) × (List (List UInt8))) := some (j57_1, r11)
def f441_l26 (a0 : TJson) (rc441 : TJson → Option ((List (RT 4)) × (List (List UInt8)))) : Nat → (List (RT 4)) → Int → Option (LR2 (List (RT 4)) Unit ((List (RT 4)) × (List (List UInt8))))
  | 0, _, _ => none
  | k + 1, y26_1, y26_2 => cond (decide (y26_2 < ((a0.fL.length : Nat) : Int))) (gd (0 ≤ y26_2 ∧ y26_2 < ((a0.fL.length : Nat) : Int)) ((TJson.dec (rtE (rd a0.fL y26_2))).bind fun rx41 => (rc441 (TJson.mk rx41.fKind rx41.fText rx41.fL rx41.fKeys)).bind fun r49 => gd ((y26_1.length + ([(RT.of TJson.ok (TJson.mk ((TJson.mk rx41.fKind rx41.fText rx41.fL rx41.fKeys).fKind) ((TJson.mk rx41.fKind rx41.fText rx41.fL rx41.fKeys).fText) r49.1 r49.2))] : List (RT 4)).length) * 2 * 72 ≤ 281474976710656) (f441_l26 a0 rc441 k (y26_1 ++ ([(RT.of TJson.ok (TJson.mk ((TJson.mk rx41.fKind rx41.fText rx41.fL rx41.fKeys).fKind) ((TJson.mk rx41.fKind rx41.fText rx41.fL rx41.fKeys).fText) r49.1 r49.2))] : List (RT 4))) (IntKind.i64.wrap (y26_2 + (1 : Int)))))) (some (.b0 y26_1))
def f441_s (rc441 : TJson → Option ((List (RT 4)) × (List (List UInt8)))) (k : Nat) (a0 : TJson) : Option ((List (RT 4)) × (List (List UInt8))) := (f442 k a0.fKeys).bind fun r11 => (f441_l26 a0 rc441 k ([] : List (RT 4)) (0 : Int)).bind fun o26 => (match o26 with | .b0 x26_1 => f441_j57 k r11 x26_1 | _ => none)
theorem F441_s {P : Program} {N : Nat → Nat} (hmix : P.follows .mixedOrders = true) (hc : HC441 P N) {rc441 : TJson → Option ((List (RT 4)) × (List (List UInt8)))} (hrc441 : RH441 P N rc441) {k : Nat} {a0 : TJson} {r : ((List (RT 4)) × (List (List UInt8)))} (h : f441_s rc441 k a0 = some r) :
    ACalls P (N 441) [(.d (TJson.enc a0))] [] (.d (.agg [(.int .i64 a0.fKind), (.str a0.fText), (.sl (List.map (rtE (z := 4)) r.1)), (.sl (List.map D.str r.2))])) [] := by
  refine acalls_canon (F := C441 N) hc.1 0 0 rfl ?_
  unfold f441_s at h
  dsimp only [C441, startL]
  refine AWc.seq ?_
  refine AWc.rE hmix [] ?_
  refine AWc.seq ?_
  obtain ⟨r11, e11, h⟩ := bind_some h
  refine AWc.rE hmix [.call (F442 hmix hc.2 e11) [(0, 2)] 1] ?_
  refine AWc.seq ?_
  refine AWc.rE hmix [] ?_
  refine AWc.seqS (N := 26) 4 (fun (z : (List (RT 4))) => [(1, (.ptr 0 0)), (2, (.ptr 1 0)), (3, (.ap 2 4 (List.map (rtE (z := 4)) z)))]) (fun z => [(0, (.cells [(.d (.int .i64 a0.fKind)), (.d (.str a0.fText)), (.d (.sl (List.map (rtE (z := 4)) a0.fL))), (.ap 3 1 (List.map D.str r11))])), (1, (.cells [(.d (.int .i64 (0 : Int))), (.d (.str ([] : List UInt8))), .nils, .nils])), (2, (.tok ((List.map (rtE (z := 4)) z).length * 4))), (3, (.tok ((List.map D.str r11).length * 1)))]) (fun z => f441_j57 k r11 z = some r) rfl_le ?_ ?_
  · refine AWc.seq ?_
    refine AWc.rE hmix [.ln (rtE (z := 4)) a0.fL] ?_
    obtain ⟨o26, h26, h⟩ := bind_some h
    refine AWc.block ?_
    refine AWc.loopK (N := 26) 4 (fun (x : ((List (RT 4)) × Int)) => [(1, (.ptr 0 0)), (2, (.ptr 1 0)), (3, (.ap 2 4 (List.map (rtE (z := 4)) x.1))), (11, (.d (.sl (List.map (rtE (z := 4)) a0.fL)))), (12, (.d (.int .i64 ((a0.fL.length : Nat) : Int)))), (13, (.d (.int .i64 x.2)))]) (fun x => [(0, (.cells [(.d (.int .i64 a0.fKind)), (.d (.str a0.fText)), (.d (.sl (List.map (rtE (z := 4)) a0.fL))), (.ap 3 1 (List.map D.str r11))])), (1, (.cells [(.d (.int .i64 (0 : Int))), (.d (.str ([] : List UInt8))), .nils, .nils])), (2, (.tok ((List.map (rtE (z := 4)) x.1).length * 4))), (3, (.tok ((List.map D.str r11).length * 1)))]) (fun k x => f441_l26 a0 rc441 k x.1 x.2 = some o26) k (([] : List (RT 4)), (0 : Int)) rfl_le (fun x hx => by cases hx) h26 (inT [(3, 2), (2, 3)] [.tok 0]) ?_
    clear h26
    intro k
    rintro ⟨y26_1, y26_2⟩ h26
    dsimp only at h26 ⊢
    rw [f441_l26] at h26
    refine AWc.seq ?_
    refine AWc.rE hmix [] ?_
    refine AWc.seq ?_
    rcases cc h26 with ⟨c33, h26⟩ | ⟨c33, h26⟩
    · refine AWc.cT c33 ?_
      refine AWc.skip ?_
      refine AWc.seq ?_
      refine AWc.block ?_
      refine AWc.seq ?_
      obtain ⟨b41, h26⟩ := gd_some h26
      obtain ⟨rx41, ex41, h26⟩ := bind_some h26
      refine AWc.rE hmix [.iadE (rtE (z := 4)) a0.fL 4 rtE_ok.len b41 (TJson.dec_eq ex41)] ?_
      obtain ⟨r49, e49, h26⟩ := bind_some h26
      obtain ⟨b51, h26⟩ := gd_some h26
      refine AWc.rE hmix [.call (hrc441 _ _ e49) [] 0, .apA (rtE (z := 4)) y26_1 ([(RT.of TJson.ok (TJson.mk ((TJson.mk rx41.fKind rx41.fText rx41.fL rx41.fKeys).fKind) ((TJson.mk rx41.fKind rx41.fText rx41.fL rx41.fKeys).fText) r49.1 r49.2))] : List (RT 4)) 4 rtE_ok.len b51] ?_
      refine AWc.rE hmix [] ?_
      exact ⟨((y26_1 ++ ([(RT.of TJson.ok (TJson.mk ((TJson.mk rx41.fKind rx41.fText rx41.fL rx41.fKeys).fKind) ((TJson.mk rx41.fKind rx41.fText rx41.fL rx41.fKeys).fText) r49.1 r49.2))] : List (RT 4))), (IntKind.i64.wrap (y26_2 + (1 : Int)))), h26, (inT [(2, 5)] [])⟩
    · refine AWc.cF c33 ?_
      cases h26
      dsimp only at h
      refine AWc.exit ?_
      refine inBlk_eq ?_
      exact ⟨y26_1, h, (inT [] [])⟩
  · intro j57_1 h
    unfold f441_j57 at h
    refine AWc.seq ?_
    refine AWc.rE hmix [] ?_
    refine AWc.seq ?_
    refine AWc.rE hmix [] ?_
    have hr := Option.some.inj h
    subst hr
    exact AWc.ret (canQ (N := 26) (k := 1) (l' := [(2, (.ptr 0 0))]) (H' := [(0, (.cells [(.d (.int .i64 a0.fKind)), (.d (.str a0.fText)), (.d (.sl (List.map (rtE (z := 4)) j57_1))), (.d (.sl (List.map D.str r11)))]))]) rfl (inT [(0, 1)] []) (doneA (.inr rfl) rfl ⟨(Nat.le_of_ble_eq_true rfl), trivial⟩ (.refl _) hasNil))
def f441 : Nat → TJson → Option ((List (RT 4)) × (List (List UInt8)))
  | 0, _ => none
  | k + 1, a0 => f441_s (f441 k) k a0
theorem F441 {P : Program} {N : Nat → Nat} (hmix : P.follows .mixedOrders = true) (hc : HC441 P N) {k : Nat} {a0 : TJson} {r : ((List (RT 4)) × (List (List UInt8)))} (h : f441 k a0 = some r) :
    ACalls P (N 441) [(.d (TJson.enc a0))] [] (.d (.agg [(.int .i64 a0.fKind), (.str a0.fText), (.sl (List.map (rtE (z := 4)) r.1)), (.sl (List.map D.str r.2))])) [] := by
  induction k generalizing a0 r with
  | zero => exact absurd (show (none : Option _) = some r from h) (fun h2 => by cases h2)
  | succ k ih => exact F441_s hmix hc (fun _ _ h => ih h) h
def L476_0a (N : Nat → Nat) : ACode :=
 (.seq (.region false [⟨(some 9), .mv (.t 14), none, []⟩])
  (.region false [⟨(some 10), .alloc [(.int .i64 0), (.str []), (.sl []), (.sl [])], none, []⟩,
   ⟨none, .store (.t 10) (.t 15) 4, none, [0]⟩]))
def L476_0b (N : Nat → Nat) : ACode :=
 (.block 1 (.seq (.region true [⟨(some 16), .load (.t 7) 1 false, none, []⟩,
    ⟨(some 17), .mv (.t 9), none, []⟩,
    ⟨(some 18), .bslice 1 1 [(.int .i64 0)] [(0, (.t 17))], none, [1]⟩,
    ⟨(some 19), .app (.t 16) (.t 18) 1 8 [(.int .i64 0)], none, [0, 2]⟩,
    ⟨(some 20), .load (.t 8) 1 false, none, []⟩,
    ⟨(some 21), .load (.t 10) 4 true, none, []⟩,
    ⟨(some 22), .bslice 1 4 [(.int .i64 0), (.str []), (.sl []), (.sl [])] [(0, (.t 21))], none, [5]⟩,
    ⟨(some 23), .app (.t 20) (.t 22) 4 72 [(.int .i64 0), (.str []), (.sl []), (.sl [])], none, [4, 6, 3]⟩,
    ⟨none, .store (.t 7) (.t 19) 1, none, [3, 7, 0, 1, 2]⟩,
    ⟨none, .store (.t 8) (.t 23) 1, none, [7, 8, 0, 1, 2, 3, 4, 5, 6]⟩])
   (.seq (.region false [⟨(some 24), .load (.t 7) 1 false, none, []⟩,
     ⟨(some 25), .len (.t 24), none, [0]⟩,
     ⟨(some 26), .load (.t 3) 1 false, none, []⟩,
     ⟨(some 27), .bin .gtr (.t 25) (.t 26), none, [1, 2]⟩])
    (.cond (.t 27) (.seq (.region false [⟨none, .store (.t 4) (.k .nils) 1, none, []⟩,
       ⟨none, .store (.t 5) (.k .nils) 1, none, [0]⟩,
       ⟨none, .store (.t 6) (.k (.d (.bool false))) 1, none, [1, 0]⟩])
      .ret)
     (.skip)))))
/-- courant/couranthelp.Seq2[int,courant/api.Json] -/
def C476 (N : Nat → Nat) : AFunc := { n := 30, params := 2, res := [.cell 4 1 false, .cell 5 1 false, .cell 6 1 false], body :=
 (.seq (.region false [⟨(some 3), .box (.t 1), none, []⟩,
   ⟨(some 4), .alloc [(.sl [])], none, []⟩,
   ⟨(some 5), .alloc [(.sl [])], none, []⟩,
   ⟨(some 6), .alloc [(.bool false)], none, []⟩])
  (.seq (.seq (.region false [⟨(some 11), .mv (.t 0), none, []⟩,
     ⟨(some 12), .nileq 2 false (.t 11) (.k (.d .nilf)), none, [0]⟩])
    (.cond (.t 12) (.seq (.region false [⟨none, .store (.t 4) (.k .nils) 1, none, []⟩,
       ⟨none, .store (.t 5) (.k .nils) 1, none, [0]⟩,
       ⟨none, .store (.t 6) (.k (.d (.bool false))) 1, none, [1, 0]⟩])
      .ret)
     (.skip)))
   (.seq (.region false [⟨(some 7), .alloc [(.sl [])], none, []⟩])
    (.seq (.region false [⟨(some 8), .alloc [(.sl [])], none, []⟩])
     (.seq (.seq (.region false [⟨(some 13), .mv (.t 0), none, []⟩])
       (.block 0 (.rangeFunc (.t 13) [14, 15] (L476_0a N) (L476_0b N))))
      (.seq (.region true [⟨(some 28), .load (.t 7) 1 false, none, []⟩,
        ⟨(some 29), .load (.t 8) 1 false, none, []⟩,
        ⟨none, .store (.t 4) (.t 28) 1, none, [0]⟩,
        ⟨none, .store (.t 5) (.t 29) 1, none, [1, 2, 0]⟩,
        ⟨none, .store (.t 6) (.k (.d (.bool true))) 1, none, [3, 0, 1, 2]⟩])
       .ret)))))) }
def HCb476_37 (P : Program) (N : Nat → Nat) : Prop := True
def b476_37 (k : Nat) (a0 : Int) (a1 : Bool) (a2 : Int) (a3 : TJson) : Option (Unit ⊕ Unit) := gd (([a2] : List Int).length * 8 ≤ 281474976710656) (gd (([(RT.of TJson.ok (TJson.mk a3.fKind a3.fText a3.fL a3.fKeys))] : List (RT 4)).length * 72 ≤ 281474976710656) (cond (decide (((([a2] : List Int).length : Nat) : Int) > a0)) (some (.inl ())) (some (.inr ()))))
theorem B476_37_0 {P : Program} {N : Nat → Nat} (hmix : P.follows .mixedOrders = true) (hc : HCb476_37 P N) {asg0 bd0 : Code} (ha0 : compCode P asg0 = L476_0a N) (hb0 : compCode P bd0 = L476_0b N) {k : Nat} {a0 : Int} {a1 : Bool} {a2 : Int} {a3 : TJson} {r : Unit} (h : b476_37 k a0 a1 a2 a3 = some (.inl r)) :
    ARound P 0 [(.d (.int .i64 a2)), (.d (TJson.enc a3))] [(0, (.lp 30 [(3, (.ptr 1 0)), (4, (.ptr 2 0)), (5, (.ptr 3 0)), (6, (.ptr 4 0)), (7, (.ptr 5 0)), (8, (.ptr 6 0))] [14, 15] asg0 bd0 .ready none)), (1, (.cells [(.d (.int .i64 a0))])), (2, (.cells [.nils])), (3, (.cells [.nils])), (4, (.cells [(.d (.bool a1))])), (5, (.cells [.nils])), (6, (.cells [.nils]))] (.d (.bool false)) [(0, (.lp 30 [(3, (.ptr 1 0)), (4, (.ptr 2 0)), (5, (.ptr 3 0)), (6, (.ptr 4 0)), (7, (.ptr 5 0)), (8, (.ptr 6 0))] [14, 15] asg0 bd0 .done (some .ret))), (1, (.cells [(.d (.int .i64 a0))])), (2, (.cells [.nils])), (3, (.cells [.nils])), (4, (.cells [(.d (.bool false))])), (5, (.cells [(.ap 7 1 (List.map (D.int .i64) ([a2] : List Int)))])), (6, (.cells [(.ap 8 4 (List.map (rtE (z := 4)) ([(RT.of TJson.ok (TJson.mk a3.fKind a3.fText a3.fL a3.fKeys))] : List (RT 4))))])), (7, (.tok ((List.map (D.int .i64) ([a2] : List Int)).length * 1))), (8, (.tok ((List.map (rtE (z := 4)) ([(RT.of TJson.ok (TJson.mk a3.fKind a3.fText a3.fL a3.fKeys))] : List (RT 4))).length * 4)))] := by
  refine around_gen 7 9 ha0 hb0 rfl rfl (fun ro => ?_)
  unfold b476_37 at h
  dsimp only [L476_0a, L476_0b, putArgs]
  refine AWc.seq ?_
  refine AWc.rg hmix rfl rfl ?_
  refine RegV.p0 rfl rfl rfl ?_
  refine RegV.nil0 ?_
  refine AWc.rg hmix rfl rfl ?_
  refine RegV.evS (own := false) (v := (.ptr 7 0)) (H' := [(7, (.cells [(.d (.int .i64 (0 : Int))), (.d (.str ([] : List UInt8))), .nils, .nils])), (0, (.lp 30 [(3, (.ptr 1 0)), (4, (.ptr 2 0)), (5, (.ptr 3 0)), (6, (.ptr 4 0)), (7, (.ptr 5 0)), (8, (.ptr 6 0))] [14, 15] asg0 bd0 .ready none)), (1, (.cells [(.d (.int .i64 a0))])), (2, (.cells [.nils])), (3, (.cells [.nils])), (4, (.cells [(.d (.bool a1))])), (5, (.cells [.nils])), (6, (.cells [.nils]))]) (c' := 8) rfl rfl trivial rfl rfl rfl rfl rfl rfl ?_
  refine RegV.evN (own := false) (H' := [(7, (.cells [(.d (.int .i64 a3.fKind)), (.d (.str a3.fText)), (.d (.sl (List.map (rtE (z := 4)) a3.fL))), (.d (.sl (List.map D.str a3.fKeys)))])), (0, (.lp 30 [(3, (.ptr 1 0)), (4, (.ptr 2 0)), (5, (.ptr 3 0)), (6, (.ptr 4 0)), (7, (.ptr 5 0)), (8, (.ptr 6 0))] [14, 15] asg0 bd0 .ready none)), (1, (.cells [(.d (.int .i64 a0))])), (2, (.cells [.nils])), (3, (.cells [.nils])), (4, (.cells [(.d (.bool a1))])), (5, (.cells [.nils])), (6, (.cells [.nils]))]) (c' := 8) rfl rfl (by exact ⟨rfl, Nat.le_of_ble_eq_true rfl, rfl⟩) rfl rfl rfl rfl ?_
  refine RegV.nil0 ?_
  refine asgDone rfl rfl ?_
  refine AWc.block ?_
  refine AWc.seq ?_
  refine AWc.rg hmix rfl rfl ?_
  refine RegV.ld (v := .nils) (H' := [(5, (.cells [.nils])), (7, (.cells [(.d (.int .i64 a3.fKind)), (.d (.str a3.fText)), (.d (.sl (List.map (rtE (z := 4)) a3.fL))), (.d (.sl (List.map D.str a3.fKeys)))])), (0, (.lp 30 [(3, (.ptr 1 0)), (4, (.ptr 2 0)), (5, (.ptr 3 0)), (6, (.ptr 4 0)), (7, (.ptr 5 0)), (8, (.ptr 6 0))] [14, 15] asg0 bd0 .busy none)), (1, (.cells [(.d (.int .i64 a0))])), (2, (.cells [.nils])), (3, (.cells [.nils])), (4, (.cells [(.d (.bool a1))])), (6, (.cells [.nils]))]) rfl rfl trivial rfl rfl rfl rfl rfl ?_
  refine RegV.p0 rfl rfl rfl ?_
  refine RegV.p1 (v := (.d (.sl (List.map (D.int .i64) ([a2] : List Int))))) rfl rfl (by exact ⟨rfl, Nat.le_of_ble_eq_true rfl, mapLen (e := (D.int .i64)) (xs := ([a2] : List Int)) (z := 1) (fun _ => rfl)⟩) rfl rfl ?_
  obtain ⟨b54, h⟩ := gd_some h
  refine RegV.appN (ys := ([a2] : List Int)) (e := (D.int .i64)) rfl rfl rfl (fun _ => rfl) rfl rfl b54 rfl rfl ?_
  refine RegV.ld (v := .nils) (H' := [(6, (.cells [.nils])), (8, (.tok ((List.map (D.int .i64) ([a2] : List Int)).length * 1))), (5, (.cells [.nils])), (7, (.cells [(.d (.int .i64 a3.fKind)), (.d (.str a3.fText)), (.d (.sl (List.map (rtE (z := 4)) a3.fL))), (.d (.sl (List.map D.str a3.fKeys)))])), (0, (.lp 30 [(3, (.ptr 1 0)), (4, (.ptr 2 0)), (5, (.ptr 3 0)), (6, (.ptr 4 0)), (7, (.ptr 5 0)), (8, (.ptr 6 0))] [14, 15] asg0 bd0 .busy none)), (1, (.cells [(.d (.int .i64 a0))])), (2, (.cells [.nils])), (3, (.cells [.nils])), (4, (.cells [(.d (.bool a1))]))]) rfl rfl trivial rfl rfl rfl rfl rfl ?_
  refine RegV.ld (v := (.d (.agg [(.int .i64 a3.fKind), (.str a3.fText), (.sl (List.map (rtE (z := 4)) a3.fL)), (.sl (List.map D.str a3.fKeys))]))) (H' := [(7, (.cells [(.d (.int .i64 a3.fKind)), (.d (.str a3.fText)), (.d (.sl (List.map (rtE (z := 4)) a3.fL))), (.d (.sl (List.map D.str a3.fKeys)))])), (6, (.cells [.nils])), (8, (.tok ((List.map (D.int .i64) ([a2] : List Int)).length * 1))), (5, (.cells [.nils])), (0, (.lp 30 [(3, (.ptr 1 0)), (4, (.ptr 2 0)), (5, (.ptr 3 0)), (6, (.ptr 4 0)), (7, (.ptr 5 0)), (8, (.ptr 6 0))] [14, 15] asg0 bd0 .busy none)), (1, (.cells [(.d (.int .i64 a0))])), (2, (.cells [.nils])), (3, (.cells [.nils])), (4, (.cells [(.d (.bool a1))]))]) rfl rfl (Nat.le_of_ble_eq_true rfl) rfl rfl rfl rfl rfl ?_
  refine RegV.p1 (v := (.d (.sl (List.map (rtE (z := 4)) ([(RT.of TJson.ok (TJson.mk a3.fKind a3.fText a3.fL a3.fKeys))] : List (RT 4)))))) rfl rfl (by exact ⟨rfl, Nat.le_of_ble_eq_true rfl, mapLen (e := (rtE (z := 4))) (xs := ([(RT.of TJson.ok (TJson.mk a3.fKind a3.fText a3.fL a3.fKeys))] : List (RT 4))) (z := 4) rtE_ok.len⟩) rfl rfl ?_
  obtain ⟨b58, h⟩ := gd_some h
  refine RegV.appN (ys := ([(RT.of TJson.ok (TJson.mk a3.fKind a3.fText a3.fL a3.fKeys))] : List (RT 4))) (e := (rtE (z := 4))) rfl rfl rfl rtE_ok.len rfl rfl b58 rfl rfl ?_
  refine RegV.evN (own := false) (H' := [(5, (.cells [(.ap 8 1 (List.map (D.int .i64) ([a2] : List Int)))])), (9, (.tok ((List.map (rtE (z := 4)) ([(RT.of TJson.ok (TJson.mk a3.fKind a3.fText a3.fL a3.fKeys))] : List (RT 4))).length * 4))), (7, (.cells [(.d (.int .i64 a3.fKind)), (.d (.str a3.fText)), (.d (.sl (List.map (rtE (z := 4)) a3.fL))), (.d (.sl (List.map D.str a3.fKeys)))])), (6, (.cells [.nils])), (8, (.tok ((List.map (D.int .i64) ([a2] : List Int)).length * 1))), (0, (.lp 30 [(3, (.ptr 1 0)), (4, (.ptr 2 0)), (5, (.ptr 3 0)), (6, (.ptr 4 0)), (7, (.ptr 5 0)), (8, (.ptr 6 0))] [14, 15] asg0 bd0 .busy none)), (1, (.cells [(.d (.int .i64 a0))])), (2, (.cells [.nils])), (3, (.cells [.nils])), (4, (.cells [(.d (.bool a1))]))]) (c' := 10) rfl rfl (by exact ⟨rfl, Nat.le_of_ble_eq_true rfl, rfl⟩) rfl rfl rfl rfl ?_
  refine RegV.evN (own := false) (H' := [(6, (.cells [(.ap 9 4 (List.map (rtE (z := 4)) ([(RT.of TJson.ok (TJson.mk a3.fKind a3.fText a3.fL a3.fKeys))] : List (RT 4))))])), (5, (.cells [(.ap 8 1 (List.map (D.int .i64) ([a2] : List Int)))])), (9, (.tok ((List.map (rtE (z := 4)) ([(RT.of TJson.ok (TJson.mk a3.fKind a3.fText a3.fL a3.fKeys))] : List (RT 4))).length * 4))), (7, (.cells [(.d (.int .i64 a3.fKind)), (.d (.str a3.fText)), (.d (.sl (List.map (rtE (z := 4)) a3.fL))), (.d (.sl (List.map D.str a3.fKeys)))])), (8, (.tok ((List.map (D.int .i64) ([a2] : List Int)).length * 1))), (0, (.lp 30 [(3, (.ptr 1 0)), (4, (.ptr 2 0)), (5, (.ptr 3 0)), (6, (.ptr 4 0)), (7, (.ptr 5 0)), (8, (.ptr 6 0))] [14, 15] asg0 bd0 .busy none)), (1, (.cells [(.d (.int .i64 a0))])), (2, (.cells [.nils])), (3, (.cells [.nils])), (4, (.cells [(.d (.bool a1))]))]) (c' := 10) rfl rfl (by exact ⟨rfl, Nat.le_of_ble_eq_true rfl, rfl⟩) rfl rfl rfl rfl ?_
  refine RegV.nil1 (by kernel_rfl) ?_
  refine AWc.seq ?_
  refine AWc.rg hmix rfl rfl ?_
  refine RegV.ld (v := (.ap 8 1 (List.map (D.int .i64) ([a2] : List Int)))) (H' := [(5, (.cells [(.ap 8 1 (List.map (D.int .i64) ([a2] : List Int)))])), (6, (.cells [(.ap 9 4 (List.map (rtE (z := 4)) ([(RT.of TJson.ok (TJson.mk a3.fKind a3.fText a3.fL a3.fKeys))] : List (RT 4))))])), (9, (.tok ((List.map (rtE (z := 4)) ([(RT.of TJson.ok (TJson.mk a3.fKind a3.fText a3.fL a3.fKeys))] : List (RT 4))).length * 4))), (7, (.cells [(.d (.int .i64 a3.fKind)), (.d (.str a3.fText)), (.d (.sl (List.map (rtE (z := 4)) a3.fL))), (.d (.sl (List.map D.str a3.fKeys)))])), (8, (.tok ((List.map (D.int .i64) ([a2] : List Int)).length * 1))), (0, (.lp 30 [(3, (.ptr 1 0)), (4, (.ptr 2 0)), (5, (.ptr 3 0)), (6, (.ptr 4 0)), (7, (.ptr 5 0)), (8, (.ptr 6 0))] [14, 15] asg0 bd0 .busy none)), (1, (.cells [(.d (.int .i64 a0))])), (2, (.cells [.nils])), (3, (.cells [.nils])), (4, (.cells [(.d (.bool a1))]))]) rfl rfl trivial rfl rfl rfl rfl rfl ?_
  refine RegV.len (xs := ([a2] : List Int)) (e := (D.int .i64)) rfl rfl rfl rfl ?_
  refine RegV.ld (v := (.d (.int .i64 a0))) (H' := [(1, (.cells [(.d (.int .i64 a0))])), (5, (.cells [(.ap 8 1 (List.map (D.int .i64) ([a2] : List Int)))])), (6, (.cells [(.ap 9 4 (List.map (rtE (z := 4)) ([(RT.of TJson.ok (TJson.mk a3.fKind a3.fText a3.fL a3.fKeys))] : List (RT 4))))])), (9, (.tok ((List.map (rtE (z := 4)) ([(RT.of TJson.ok (TJson.mk a3.fKind a3.fText a3.fL a3.fKeys))] : List (RT 4))).length * 4))), (7, (.cells [(.d (.int .i64 a3.fKind)), (.d (.str a3.fText)), (.d (.sl (List.map (rtE (z := 4)) a3.fL))), (.d (.sl (List.map D.str a3.fKeys)))])), (8, (.tok ((List.map (D.int .i64) ([a2] : List Int)).length * 1))), (0, (.lp 30 [(3, (.ptr 1 0)), (4, (.ptr 2 0)), (5, (.ptr 3 0)), (6, (.ptr 4 0)), (7, (.ptr 5 0)), (8, (.ptr 6 0))] [14, 15] asg0 bd0 .busy none)), (2, (.cells [.nils])), (3, (.cells [.nils])), (4, (.cells [(.d (.bool a1))]))]) rfl rfl trivial rfl rfl rfl rfl rfl ?_
  refine RegV.p0 (v := (.d (.bool (decide (((([a2] : List Int).length : Nat) : Int) > a0))))) rfl rfl rfl ?_
  refine RegV.nil0 ?_
  refine AWc.cond rfl (fun c68 => ?_) (fun c68 => ?_)
  · have h := cond_pos c68 h
    refine AWc.seq ?_
    refine AWc.rg hmix rfl rfl ?_
    refine RegV.evN (own := false) (H' := [(2, (.cells [.nils])), (1, (.cells [(.d (.int .i64 a0))])), (5, (.cells [(.ap 8 1 (List.map (D.int .i64) ([a2] : List Int)))])), (6, (.cells [(.ap 9 4 (List.map (rtE (z := 4)) ([(RT.of TJson.ok (TJson.mk a3.fKind a3.fText a3.fL a3.fKeys))] : List (RT 4))))])), (9, (.tok ((List.map (rtE (z := 4)) ([(RT.of TJson.ok (TJson.mk a3.fKind a3.fText a3.fL a3.fKeys))] : List (RT 4))).length * 4))), (7, (.cells [(.d (.int .i64 a3.fKind)), (.d (.str a3.fText)), (.d (.sl (List.map (rtE (z := 4)) a3.fL))), (.d (.sl (List.map D.str a3.fKeys)))])), (8, (.tok ((List.map (D.int .i64) ([a2] : List Int)).length * 1))), (0, (.lp 30 [(3, (.ptr 1 0)), (4, (.ptr 2 0)), (5, (.ptr 3 0)), (6, (.ptr 4 0)), (7, (.ptr 5 0)), (8, (.ptr 6 0))] [14, 15] asg0 bd0 .busy none)), (3, (.cells [.nils])), (4, (.cells [(.d (.bool a1))]))]) (c' := 10) rfl rfl (by exact ⟨rfl, Nat.le_of_ble_eq_true rfl, rfl⟩) rfl rfl rfl rfl ?_
    refine RegV.evN (own := false) (H' := [(3, (.cells [.nils])), (2, (.cells [.nils])), (1, (.cells [(.d (.int .i64 a0))])), (5, (.cells [(.ap 8 1 (List.map (D.int .i64) ([a2] : List Int)))])), (6, (.cells [(.ap 9 4 (List.map (rtE (z := 4)) ([(RT.of TJson.ok (TJson.mk a3.fKind a3.fText a3.fL a3.fKeys))] : List (RT 4))))])), (9, (.tok ((List.map (rtE (z := 4)) ([(RT.of TJson.ok (TJson.mk a3.fKind a3.fText a3.fL a3.fKeys))] : List (RT 4))).length * 4))), (7, (.cells [(.d (.int .i64 a3.fKind)), (.d (.str a3.fText)), (.d (.sl (List.map (rtE (z := 4)) a3.fL))), (.d (.sl (List.map D.str a3.fKeys)))])), (8, (.tok ((List.map (D.int .i64) ([a2] : List Int)).length * 1))), (0, (.lp 30 [(3, (.ptr 1 0)), (4, (.ptr 2 0)), (5, (.ptr 3 0)), (6, (.ptr 4 0)), (7, (.ptr 5 0)), (8, (.ptr 6 0))] [14, 15] asg0 bd0 .busy none)), (4, (.cells [(.d (.bool a1))]))]) (c' := 10) rfl rfl (by exact ⟨rfl, Nat.le_of_ble_eq_true rfl, rfl⟩) rfl rfl rfl rfl ?_
    refine RegV.evN (own := false) (H' := [(4, (.cells [(.d (.bool false))])), (3, (.cells [.nils])), (2, (.cells [.nils])), (1, (.cells [(.d (.int .i64 a0))])), (5, (.cells [(.ap 8 1 (List.map (D.int .i64) ([a2] : List Int)))])), (6, (.cells [(.ap 9 4 (List.map (rtE (z := 4)) ([(RT.of TJson.ok (TJson.mk a3.fKind a3.fText a3.fL a3.fKeys))] : List (RT 4))))])), (9, (.tok ((List.map (rtE (z := 4)) ([(RT.of TJson.ok (TJson.mk a3.fKind a3.fText a3.fL a3.fKeys))] : List (RT 4))).length * 4))), (7, (.cells [(.d (.int .i64 a3.fKind)), (.d (.str a3.fText)), (.d (.sl (List.map (rtE (z := 4)) a3.fL))), (.d (.sl (List.map D.str a3.fKeys)))])), (8, (.tok ((List.map (D.int .i64) ([a2] : List Int)).length * 1))), (0, (.lp 30 [(3, (.ptr 1 0)), (4, (.ptr 2 0)), (5, (.ptr 3 0)), (6, (.ptr 4 0)), (7, (.ptr 5 0)), (8, (.ptr 6 0))] [14, 15] asg0 bd0 .busy none))]) (c' := 10) rfl rfl (by exact ⟨rfl, Nat.le_of_ble_eq_true rfl, rfl⟩) rfl rfl rfl rfl ?_
    refine RegV.nil0 ?_
    have hr := Option.some.inj h
    have hr := Sum.inl.inj hr
    subst hr
    exact AWc.ret (canQ (N := 30) (k := 9) (l' := []) (H' := [(0, (.lp 30 [(3, (.ptr 1 0)), (4, (.ptr 2 0)), (5, (.ptr 3 0)), (6, (.ptr 4 0)), (7, (.ptr 5 0)), (8, (.ptr 6 0))] [14, 15] asg0 bd0 .busy none)), (1, (.cells [(.d (.int .i64 a0))])), (2, (.cells [.nils])), (3, (.cells [.nils])), (4, (.cells [(.d (.bool false))])), (5, (.cells [(.ap 7 1 (List.map (D.int .i64) ([a2] : List Int)))])), (6, (.cells [(.ap 8 4 (List.map (rtE (z := 4)) ([(RT.of TJson.ok (TJson.mk a3.fKind a3.fText a3.fL a3.fKeys))] : List (RT 4))))])), (7, (.tok ((List.map (D.int .i64) ([a2] : List Int)).length * 1))), (8, (.tok ((List.map (rtE (z := 4)) ([(RT.of TJson.ok (TJson.mk a3.fKind a3.fText a3.fL a3.fKeys))] : List (RT 4))).length * 4)))]) rfl ⟨rfl, [], [(7, 8), (8, 9)], rfl, rfl,  trivial, ⟨⟨_, rfl, (.refl _)⟩, rfl, rfl, ⟨⟨_, rfl, (.refl _)⟩, rfl, rfl, ⟨⟨_, rfl, (.refl _)⟩, rfl, rfl, ⟨⟨_, rfl, (.refl _)⟩, rfl, rfl, ⟨⟨_, rfl, (.refl _)⟩, rfl, rfl, ⟨⟨_, rfl, (.refl _)⟩, rfl, rfl, ⟨⟨_, rfl, (.refl _)⟩, rfl, rfl, ⟨⟨_, rfl, (.refl _)⟩, rfl, rfl, ⟨⟨_, rfl, (.refl _)⟩, rfl, rfl, trivial⟩⟩⟩⟩⟩⟩⟩⟩⟩⟩ (roundD rfl rfl rfl rfl (hasCons rfl (hasCons rfl (hasCons rfl (hasCons rfl (hasCons rfl (hasCons rfl (hasCons rfl (hasCons rfl (hasCons rfl hasNil)))))))))))
  · have h := cond_neg c68 h
    refine AWc.skip ?_
    cases h
theorem B476_37_1 {P : Program} {N : Nat → Nat} (hmix : P.follows .mixedOrders = true) (hc : HCb476_37 P N) {asg0 bd0 : Code} (ha0 : compCode P asg0 = L476_0a N) (hb0 : compCode P bd0 = L476_0b N) {k : Nat} {a0 : Int} {a1 : Bool} {a2 : Int} {a3 : TJson} {r : Unit} (h : b476_37 k a0 a1 a2 a3 = some (.inr r)) :
    ARound P 0 [(.d (.int .i64 a2)), (.d (TJson.enc a3))] [(0, (.lp 30 [(3, (.ptr 1 0)), (4, (.ptr 2 0)), (5, (.ptr 3 0)), (6, (.ptr 4 0)), (7, (.ptr 5 0)), (8, (.ptr 6 0))] [14, 15] asg0 bd0 .ready none)), (1, (.cells [(.d (.int .i64 a0))])), (2, (.cells [.nils])), (3, (.cells [.nils])), (4, (.cells [(.d (.bool a1))])), (5, (.cells [.nils])), (6, (.cells [.nils]))] (.d (.bool true)) [(0, (.lp 30 [(3, (.ptr 1 0)), (4, (.ptr 2 0)), (5, (.ptr 3 0)), (6, (.ptr 4 0)), (7, (.ptr 5 0)), (8, (.ptr 6 0))] [14, 15] asg0 bd0 .ready none)), (1, (.cells [(.d (.int .i64 a0))])), (2, (.cells [.nils])), (3, (.cells [.nils])), (4, (.cells [(.d (.bool a1))])), (5, (.cells [(.ap 7 1 (List.map (D.int .i64) ([a2] : List Int)))])), (6, (.cells [(.ap 8 4 (List.map (rtE (z := 4)) ([(RT.of TJson.ok (TJson.mk a3.fKind a3.fText a3.fL a3.fKeys))] : List (RT 4))))])), (7, (.tok ((List.map (D.int .i64) ([a2] : List Int)).length * 1))), (8, (.tok ((List.map (rtE (z := 4)) ([(RT.of TJson.ok (TJson.mk a3.fKind a3.fText a3.fL a3.fKeys))] : List (RT 4))).length * 4)))] := by
  refine around_gen 7 9 ha0 hb0 rfl rfl (fun ro => ?_)
  unfold b476_37 at h
  dsimp only [L476_0a, L476_0b, putArgs]
  refine AWc.seq ?_
  refine AWc.rg hmix rfl rfl ?_
  refine RegV.p0 rfl rfl rfl ?_
  refine RegV.nil0 ?_
  refine AWc.rg hmix rfl rfl ?_
  refine RegV.evS (own := false) (v := (.ptr 7 0)) (H' := [(7, (.cells [(.d (.int .i64 (0 : Int))), (.d (.str ([] : List UInt8))), .nils, .nils])), (0, (.lp 30 [(3, (.ptr 1 0)), (4, (.ptr 2 0)), (5, (.ptr 3 0)), (6, (.ptr 4 0)), (7, (.ptr 5 0)), (8, (.ptr 6 0))] [14, 15] asg0 bd0 .ready none)), (1, (.cells [(.d (.int .i64 a0))])), (2, (.cells [.nils])), (3, (.cells [.nils])), (4, (.cells [(.d (.bool a1))])), (5, (.cells [.nils])), (6, (.cells [.nils]))]) (c' := 8) rfl rfl trivial rfl rfl rfl rfl rfl rfl ?_
  refine RegV.evN (own := false) (H' := [(7, (.cells [(.d (.int .i64 a3.fKind)), (.d (.str a3.fText)), (.d (.sl (List.map (rtE (z := 4)) a3.fL))), (.d (.sl (List.map D.str a3.fKeys)))])), (0, (.lp 30 [(3, (.ptr 1 0)), (4, (.ptr 2 0)), (5, (.ptr 3 0)), (6, (.ptr 4 0)), (7, (.ptr 5 0)), (8, (.ptr 6 0))] [14, 15] asg0 bd0 .ready none)), (1, (.cells [(.d (.int .i64 a0))])), (2, (.cells [.nils])), (3, (.cells [.nils])), (4, (.cells [(.d (.bool a1))])), (5, (.cells [.nils])), (6, (.cells [.nils]))]) (c' := 8) rfl rfl (by exact ⟨rfl, Nat.le_of_ble_eq_true rfl, rfl⟩) rfl rfl rfl rfl ?_
  refine RegV.nil0 ?_
  refine asgDone rfl rfl ?_
  refine AWc.block ?_
  refine AWc.seq ?_
  refine AWc.rg hmix rfl rfl ?_
  refine RegV.ld (v := .nils) (H' := [(5, (.cells [.nils])), (7, (.cells [(.d (.int .i64 a3.fKind)), (.d (.str a3.fText)), (.d (.sl (List.map (rtE (z := 4)) a3.fL))), (.d (.sl (List.map D.str a3.fKeys)))])), (0, (.lp 30 [(3, (.ptr 1 0)), (4, (.ptr 2 0)), (5, (.ptr 3 0)), (6, (.ptr 4 0)), (7, (.ptr 5 0)), (8, (.ptr 6 0))] [14, 15] asg0 bd0 .busy none)), (1, (.cells [(.d (.int .i64 a0))])), (2, (.cells [.nils])), (3, (.cells [.nils])), (4, (.cells [(.d (.bool a1))])), (6, (.cells [.nils]))]) rfl rfl trivial rfl rfl rfl rfl rfl ?_
  refine RegV.p0 rfl rfl rfl ?_
  refine RegV.p1 (v := (.d (.sl (List.map (D.int .i64) ([a2] : List Int))))) rfl rfl (by exact ⟨rfl, Nat.le_of_ble_eq_true rfl, mapLen (e := (D.int .i64)) (xs := ([a2] : List Int)) (z := 1) (fun _ => rfl)⟩) rfl rfl ?_
  obtain ⟨b54, h⟩ := gd_some h
  refine RegV.appN (ys := ([a2] : List Int)) (e := (D.int .i64)) rfl rfl rfl (fun _ => rfl) rfl rfl b54 rfl rfl ?_
  refine RegV.ld (v := .nils) (H' := [(6, (.cells [.nils])), (8, (.tok ((List.map (D.int .i64) ([a2] : List Int)).length * 1))), (5, (.cells [.nils])), (7, (.cells [(.d (.int .i64 a3.fKind)), (.d (.str a3.fText)), (.d (.sl (List.map (rtE (z := 4)) a3.fL))), (.d (.sl (List.map D.str a3.fKeys)))])), (0, (.lp 30 [(3, (.ptr 1 0)), (4, (.ptr 2 0)), (5, (.ptr 3 0)), (6, (.ptr 4 0)), (7, (.ptr 5 0)), (8, (.ptr 6 0))] [14, 15] asg0 bd0 .busy none)), (1, (.cells [(.d (.int .i64 a0))])), (2, (.cells [.nils])), (3, (.cells [.nils])), (4, (.cells [(.d (.bool a1))]))]) rfl rfl trivial rfl rfl rfl rfl rfl ?_
  refine RegV.ld (v := (.d (.agg [(.int .i64 a3.fKind), (.str a3.fText), (.sl (List.map (rtE (z := 4)) a3.fL)), (.sl (List.map D.str a3.fKeys))]))) (H' := [(7, (.cells [(.d (.int .i64 a3.fKind)), (.d (.str a3.fText)), (.d (.sl (List.map (rtE (z := 4)) a3.fL))), (.d (.sl (List.map D.str a3.fKeys)))])), (6, (.cells [.nils])), (8, (.tok ((List.map (D.int .i64) ([a2] : List Int)).length * 1))), (5, (.cells [.nils])), (0, (.lp 30 [(3, (.ptr 1 0)), (4, (.ptr 2 0)), (5, (.ptr 3 0)), (6, (.ptr 4 0)), (7, (.ptr 5 0)), (8, (.ptr 6 0))] [14, 15] asg0 bd0 .busy none)), (1, (.cells [(.d (.int .i64 a0))])), (2, (.cells [.nils])), (3, (.cells [.nils])), (4, (.cells [(.d (.bool a1))]))]) rfl rfl (Nat.le_of_ble_eq_true rfl) rfl rfl rfl rfl rfl ?_
  refine RegV.p1 (v := (.d (.sl (List.map (rtE (z := 4)) ([(RT.of TJson.ok (TJson.mk a3.fKind a3.fText a3.fL a3.fKeys))] : List (RT 4)))))) rfl rfl (by exact ⟨rfl, Nat.le_of_ble_eq_true rfl, mapLen (e := (rtE (z := 4))) (xs := ([(RT.of TJson.ok (TJson.mk a3.fKind a3.fText a3.fL a3.fKeys))] : List (RT 4))) (z := 4) rtE_ok.len⟩) rfl rfl ?_
  obtain ⟨b58, h⟩ := gd_some h
  refine RegV.appN (ys := ([(RT.of TJson.ok (TJson.mk a3.fKind a3.fText a3.fL a3.fKeys))] : List (RT 4))) (e := (rtE (z := 4))) rfl rfl rfl rtE_ok.len rfl rfl b58 rfl rfl ?_
  refine RegV.evN (own := false) (H' := [(5, (.cells [(.ap 8 1 (List.map (D.int .i64) ([a2] : List Int)))])), (9, (.tok ((List.map (rtE (z := 4)) ([(RT.of TJson.ok (TJson.mk a3.fKind a3.fText a3.fL a3.fKeys))] : List (RT 4))).length * 4))), (7, (.cells [(.d (.int .i64 a3.fKind)), (.d (.str a3.fText)), (.d (.sl (List.map (rtE (z := 4)) a3.fL))), (.d (.sl (List.map D.str a3.fKeys)))])), (6, (.cells [.nils])), (8, (.tok ((List.map (D.int .i64) ([a2] : List Int)).length * 1))), (0, (.lp 30 [(3, (.ptr 1 0)), (4, (.ptr 2 0)), (5, (.ptr 3 0)), (6, (.ptr 4 0)), (7, (.ptr 5 0)), (8, (.ptr 6 0))] [14, 15] asg0 bd0 .busy none)), (1, (.cells [(.d (.int .i64 a0))])), (2, (.cells [.nils])), (3, (.cells [.nils])), (4, (.cells [(.d (.bool a1))]))]) (c' := 10) rfl rfl (by exact ⟨rfl, Nat.le_of_ble_eq_true rfl, rfl⟩) rfl rfl rfl rfl ?_
  refine RegV.evN (own := false) (H' := [(6, (.cells [(.ap 9 4 (List.map (rtE (z := 4)) ([(RT.of TJson.ok (TJson.mk a3.fKind a3.fText a3.fL a3.fKeys))] : List (RT 4))))])), (5, (.cells [(.ap 8 1 (List.map (D.int .i64) ([a2] : List Int)))])), (9, (.tok ((List.map (rtE (z := 4)) ([(RT.of TJson.ok (TJson.mk a3.fKind a3.fText a3.fL a3.fKeys))] : List (RT 4))).length * 4))), (7, (.cells [(.d (.int .i64 a3.fKind)), (.d (.str a3.fText)), (.d (.sl (List.map (rtE (z := 4)) a3.fL))), (.d (.sl (List.map D.str a3.fKeys)))])), (8, (.tok ((List.map (D.int .i64) ([a2] : List Int)).length * 1))), (0, (.lp 30 [(3, (.ptr 1 0)), (4, (.ptr 2 0)), (5, (.ptr 3 0)), (6, (.ptr 4 0)), (7, (.ptr 5 0)), (8, (.ptr 6 0))] [14, 15] asg0 bd0 .busy none)), (1, (.cells [(.d (.int .i64 a0))])), (2, (.cells [.nils])), (3, (.cells [.nils])), (4, (.cells [(.d (.bool a1))]))]) (c' := 10) rfl rfl (by exact ⟨rfl, Nat.le_of_ble_eq_true rfl, rfl⟩) rfl rfl rfl rfl ?_
  refine RegV.nil1 (by kernel_rfl) ?_
  refine AWc.seq ?_
  refine AWc.rg hmix rfl rfl ?_
  refine RegV.ld (v := (.ap 8 1 (List.map (D.int .i64) ([a2] : List Int)))) (H' := [(5, (.cells [(.ap 8 1 (List.map (D.int .i64) ([a2] : List Int)))])), (6, (.cells [(.ap 9 4 (List.map (rtE (z := 4)) ([(RT.of TJson.ok (TJson.mk a3.fKind a3.fText a3.fL a3.fKeys))] : List (RT 4))))])), (9, (.tok ((List.map (rtE (z := 4)) ([(RT.of TJson.ok (TJson.mk a3.fKind a3.fText a3.fL a3.fKeys))] : List (RT 4))).length * 4))), (7, (.cells [(.d (.int .i64 a3.fKind)), (.d (.str a3.fText)), (.d (.sl (List.map (rtE (z := 4)) a3.fL))), (.d (.sl (List.map D.str a3.fKeys)))])), (8, (.tok ((List.map (D.int .i64) ([a2] : List Int)).length * 1))), (0, (.lp 30 [(3, (.ptr 1 0)), (4, (.ptr 2 0)), (5, (.ptr 3 0)), (6, (.ptr 4 0)), (7, (.ptr 5 0)), (8, (.ptr 6 0))] [14, 15] asg0 bd0 .busy none)), (1, (.cells [(.d (.int .i64 a0))])), (2, (.cells [.nils])), (3, (.cells [.nils])), (4, (.cells [(.d (.bool a1))]))]) rfl rfl trivial rfl rfl rfl rfl rfl ?_
  refine RegV.len (xs := ([a2] : List Int)) (e := (D.int .i64)) rfl rfl rfl rfl ?_
  refine RegV.ld (v := (.d (.int .i64 a0))) (H' := [(1, (.cells [(.d (.int .i64 a0))])), (5, (.cells [(.ap 8 1 (List.map (D.int .i64) ([a2] : List Int)))])), (6, (.cells [(.ap 9 4 (List.map (rtE (z := 4)) ([(RT.of TJson.ok (TJson.mk a3.fKind a3.fText a3.fL a3.fKeys))] : List (RT 4))))])), (9, (.tok ((List.map (rtE (z := 4)) ([(RT.of TJson.ok (TJson.mk a3.fKind a3.fText a3.fL a3.fKeys))] : List (RT 4))).length * 4))), (7, (.cells [(.d (.int .i64 a3.fKind)), (.d (.str a3.fText)), (.d (.sl (List.map (rtE (z := 4)) a3.fL))), (.d (.sl (List.map D.str a3.fKeys)))])), (8, (.tok ((List.map (D.int .i64) ([a2] : List Int)).length * 1))), (0, (.lp 30 [(3, (.ptr 1 0)), (4, (.ptr 2 0)), (5, (.ptr 3 0)), (6, (.ptr 4 0)), (7, (.ptr 5 0)), (8, (.ptr 6 0))] [14, 15] asg0 bd0 .busy none)), (2, (.cells [.nils])), (3, (.cells [.nils])), (4, (.cells [(.d (.bool a1))]))]) rfl rfl trivial rfl rfl rfl rfl rfl ?_
  refine RegV.p0 (v := (.d (.bool (decide (((([a2] : List Int).length : Nat) : Int) > a0))))) rfl rfl rfl ?_
  refine RegV.nil0 ?_
  refine AWc.cond rfl (fun c68 => ?_) (fun c68 => ?_)
  · have h := cond_pos c68 h
    refine AWc.seq ?_
    refine AWc.rg hmix rfl rfl ?_
    refine RegV.evN (own := false) (H' := [(2, (.cells [.nils])), (1, (.cells [(.d (.int .i64 a0))])), (5, (.cells [(.ap 8 1 (List.map (D.int .i64) ([a2] : List Int)))])), (6, (.cells [(.ap 9 4 (List.map (rtE (z := 4)) ([(RT.of TJson.ok (TJson.mk a3.fKind a3.fText a3.fL a3.fKeys))] : List (RT 4))))])), (9, (.tok ((List.map (rtE (z := 4)) ([(RT.of TJson.ok (TJson.mk a3.fKind a3.fText a3.fL a3.fKeys))] : List (RT 4))).length * 4))), (7, (.cells [(.d (.int .i64 a3.fKind)), (.d (.str a3.fText)), (.d (.sl (List.map (rtE (z := 4)) a3.fL))), (.d (.sl (List.map D.str a3.fKeys)))])), (8, (.tok ((List.map (D.int .i64) ([a2] : List Int)).length * 1))), (0, (.lp 30 [(3, (.ptr 1 0)), (4, (.ptr 2 0)), (5, (.ptr 3 0)), (6, (.ptr 4 0)), (7, (.ptr 5 0)), (8, (.ptr 6 0))] [14, 15] asg0 bd0 .busy none)), (3, (.cells [.nils])), (4, (.cells [(.d (.bool a1))]))]) (c' := 10) rfl rfl (by exact ⟨rfl, Nat.le_of_ble_eq_true rfl, rfl⟩) rfl rfl rfl rfl ?_
    refine RegV.evN (own := false) (H' := [(3, (.cells [.nils])), (2, (.cells [.nils])), (1, (.cells [(.d (.int .i64 a0))])), (5, (.cells [(.ap 8 1 (List.map (D.int .i64) ([a2] : List Int)))])), (6, (.cells [(.ap 9 4 (List.map (rtE (z := 4)) ([(RT.of TJson.ok (TJson.mk a3.fKind a3.fText a3.fL a3.fKeys))] : List (RT 4))))])), (9, (.tok ((List.map (rtE (z := 4)) ([(RT.of TJson.ok (TJson.mk a3.fKind a3.fText a3.fL a3.fKeys))] : List (RT 4))).length * 4))), (7, (.cells [(.d (.int .i64 a3.fKind)), (.d (.str a3.fText)), (.d (.sl (List.map (rtE (z := 4)) a3.fL))), (.d (.sl (List.map D.str a3.fKeys)))])), (8, (.tok ((List.map (D.int .i64) ([a2] : List Int)).length * 1))), (0, (.lp 30 [(3, (.ptr 1 0)), (4, (.ptr 2 0)), (5, (.ptr 3 0)), (6, (.ptr 4 0)), (7, (.ptr 5 0)), (8, (.ptr 6 0))] [14, 15] asg0 bd0 .busy none)), (4, (.cells [(.d (.bool a1))]))]) (c' := 10) rfl rfl (by exact ⟨rfl, Nat.le_of_ble_eq_true rfl, rfl⟩) rfl rfl rfl rfl ?_
    refine RegV.evN (own := false) (H' := [(4, (.cells [(.d (.bool false))])), (3, (.cells [.nils])), (2, (.cells [.nils])), (1, (.cells [(.d (.int .i64 a0))])), (5, (.cells [(.ap 8 1 (List.map (D.int .i64) ([a2] : List Int)))])), (6, (.cells [(.ap 9 4 (List.map (rtE (z := 4)) ([(RT.of TJson.ok (TJson.mk a3.fKind a3.fText a3.fL a3.fKeys))] : List (RT 4))))])), (9, (.tok ((List.map (rtE (z := 4)) ([(RT.of TJson.ok (TJson.mk a3.fKind a3.fText a3.fL a3.fKeys))] : List (RT 4))).length * 4))), (7, (.cells [(.d (.int .i64 a3.fKind)), (.d (.str a3.fText)), (.d (.sl (List.map (rtE (z := 4)) a3.fL))), (.d (.sl (List.map D.str a3.fKeys)))])), (8, (.tok ((List.map (D.int .i64) ([a2] : List Int)).length * 1))), (0, (.lp 30 [(3, (.ptr 1 0)), (4, (.ptr 2 0)), (5, (.ptr 3 0)), (6, (.ptr 4 0)), (7, (.ptr 5 0)), (8, (.ptr 6 0))] [14, 15] asg0 bd0 .busy none))]) (c' := 10) rfl rfl (by exact ⟨rfl, Nat.le_of_ble_eq_true rfl, rfl⟩) rfl rfl rfl rfl ?_
    refine RegV.nil0 ?_
    cases h
  · have h := cond_neg c68 h
    refine AWc.skip ?_
    have hr := Option.some.inj h
    have hr := Sum.inr.inj hr
    subst hr
    exact (canQ (N := 30) (k := 9) (l' := []) (H' := [(0, (.lp 30 [(3, (.ptr 1 0)), (4, (.ptr 2 0)), (5, (.ptr 3 0)), (6, (.ptr 4 0)), (7, (.ptr 5 0)), (8, (.ptr 6 0))] [14, 15] asg0 bd0 .busy none)), (1, (.cells [(.d (.int .i64 a0))])), (2, (.cells [.nils])), (3, (.cells [.nils])), (4, (.cells [(.d (.bool a1))])), (5, (.cells [(.ap 7 1 (List.map (D.int .i64) ([a2] : List Int)))])), (6, (.cells [(.ap 8 4 (List.map (rtE (z := 4)) ([(RT.of TJson.ok (TJson.mk a3.fKind a3.fText a3.fL a3.fKeys))] : List (RT 4))))])), (7, (.tok ((List.map (D.int .i64) ([a2] : List Int)).length * 1))), (8, (.tok ((List.map (rtE (z := 4)) ([(RT.of TJson.ok (TJson.mk a3.fKind a3.fText a3.fL a3.fKeys))] : List (RT 4))).length * 4)))]) rfl ⟨rfl, [], [(7, 8), (8, 9)], rfl, rfl,  trivial, ⟨⟨_, rfl, (.refl _)⟩, rfl, rfl, ⟨⟨_, rfl, (.refl _)⟩, rfl, rfl, ⟨⟨_, rfl, (.refl _)⟩, rfl, rfl, ⟨⟨_, rfl, (.refl _)⟩, rfl, rfl, ⟨⟨_, rfl, (.refl _)⟩, rfl, rfl, ⟨⟨_, rfl, (.refl _)⟩, rfl, rfl, ⟨⟨_, rfl, (.refl _)⟩, rfl, rfl, ⟨⟨_, rfl, (.refl _)⟩, rfl, rfl, ⟨⟨_, rfl, (.refl _)⟩, rfl, rfl, trivial⟩⟩⟩⟩⟩⟩⟩⟩⟩⟩ (roundD rfl rfl rfl rfl (hasCons rfl (hasCons rfl (hasCons rfl (hasCons rfl (hasCons rfl (hasCons rfl (hasCons rfl (hasCons rfl (hasCons rfl hasNil)))))))))))
def RH477v2 (P : Program) (N : Nat → Nat) (rc477v2 : TJson → Int → Int → Bool → (List Int) → (List (RT 4)) → Option (((List Int) × (List (RT 4))) ⊕ ((List Int) × (List (RT 4))))) : Prop := (∀ (asg0 bd0 : Code) (ha0 : compCode P asg0 = L476_0a N) (hb0 : compCode P bd0 = L476_0b N) (a0 : TJson) (a1 : Int) (a2 : Int) (a3 : Bool) (a4 : (List Int)) (a5 : (List (RT 4))) (r : ((List Int) × (List (RT 4)))), rc477v2 a0 a1 a2 a3 a4 a5 = some (.inl r) → ACalls P (N 477) [(.d (TJson.enc a0)), (.d (.int .i64 a1)), (.lf 0)] [(0, (.lp 30 [(3, (.ptr 1 0)), (4, (.ptr 2 0)), (5, (.ptr 3 0)), (6, (.ptr 4 0)), (7, (.ptr 5 0)), (8, (.ptr 7 0))] [14, 15] asg0 bd0 .ready none)), (1, (.cells [(.d (.int .i64 a2))])), (2, (.cells [.nils])), (3, (.cells [.nils])), (4, (.cells [(.d (.bool a3))])), (5, (.cells [(.ap 6 1 (List.map (D.int .i64) a4))])), (6, (.tok ((List.map (D.int .i64) a4).length * 1))), (7, (.cells [(.ap 8 4 (List.map (rtE (z := 4)) a5))])), (8, (.tok ((List.map (rtE (z := 4)) a5).length * 4)))] (.d (.bool false)) [(0, (.lp 30 [(3, (.ptr 1 0)), (4, (.ptr 2 0)), (5, (.ptr 3 0)), (6, (.ptr 4 0)), (7, (.ptr 5 0)), (8, (.ptr 7 0))] [14, 15] asg0 bd0 .done (some .ret))), (1, (.cells [(.d (.int .i64 a2))])), (2, (.cells [.nils])), (3, (.cells [.nils])), (4, (.cells [(.d (.bool false))])), (5, (.cells [(.ap 9 1 (List.map (D.int .i64) r.1))])), (7, (.cells [(.ap 10 4 (List.map (rtE (z := 4)) r.2))])), (9, (.tok ((List.map (D.int .i64) r.1).length * 1))), (10, (.tok ((List.map (rtE (z := 4)) r.2).length * 4)))]) ∧ (∀ (asg0 bd0 : Code) (ha0 : compCode P asg0 = L476_0a N) (hb0 : compCode P bd0 = L476_0b N) (a0 : TJson) (a1 : Int) (a2 : Int) (a3 : Bool) (a4 : (List Int)) (a5 : (List (RT 4))) (r : ((List Int) × (List (RT 4)))), rc477v2 a0 a1 a2 a3 a4 a5 = some (.inr r) → ACalls P (N 477) [(.d (TJson.enc a0)), (.d (.int .i64 a1)), (.lf 0)] [(0, (.lp 30 [(3, (.ptr 1 0)), (4, (.ptr 2 0)), (5, (.ptr 3 0)), (6, (.ptr 4 0)), (7, (.ptr 5 0)), (8, (.ptr 7 0))] [14, 15] asg0 bd0 .ready none)), (1, (.cells [(.d (.int .i64 a2))])), (2, (.cells [.nils])), (3, (.cells [.nils])), (4, (.cells [(.d (.bool a3))])), (5, (.cells [(.ap 6 1 (List.map (D.int .i64) a4))])), (6, (.tok ((List.map (D.int .i64) a4).length * 1))), (7, (.cells [(.ap 8 4 (List.map (rtE (z := 4)) a5))])), (8, (.tok ((List.map (rtE (z := 4)) a5).length * 4)))] (.d (.bool true)) [(0, (.lp 30 [(3, (.ptr 1 0)), (4, (.ptr 2 0)), (5, (.ptr 3 0)), (6, (.ptr 4 0)), (7, (.ptr 5 0)), (8, (.ptr 7 0))] [14, 15] asg0 bd0 .ready none)), (1, (.cells [(.d (.int .i64 a2))])), (2, (.cells [.nils])), (3, (.cells [.nils])), (4, (.cells [(.d (.bool a3))])), (5, (.cells [(.ap 9 1 (List.map (D.int .i64) r.1))])), (7, (.cells [(.ap 10 4 (List.map (rtE (z := 4)) r.2))])), (9, (.tok ((List.map (D.int .i64) r.1).length * 1))), (10, (.tok ((List.map (rtE (z := 4)) r.2).length * 4)))])
def HCb476_37v2 (P : Program) (N : Nat → Nat) : Prop := True
def b476_37v2 (k : Nat) (a0 : Int) (a1 : Bool) (a2 : (List Int)) (a3 : (List (RT 4))) (a4 : Int) (a5 : TJson) : Option (Unit ⊕ Unit) := gd ((a2.length + ([a4] : List Int).length) * 2 * 8 ≤ 281474976710656) (gd ((a3.length + ([(RT.of TJson.ok (TJson.mk a5.fKind a5.fText a5.fL a5.fKeys))] : List (RT 4)).length) * 2 * 72 ≤ 281474976710656) (cond (decide ((((a2 ++ ([a4] : List Int)).length : Nat) : Int) > a0)) (some (.inl ())) (some (.inr ()))))
theorem B476_37v2_0 {P : Program} {N : Nat → Nat} (hmix : P.follows .mixedOrders = true) (hc : HCb476_37v2 P N) {asg0 bd0 : Code} (ha0 : compCode P asg0 = L476_0a N) (hb0 : compCode P bd0 = L476_0b N) {k : Nat} {a0 : Int} {a1 : Bool} {a2 : (List Int)} {a3 : (List (RT 4))} {a4 : Int} {a5 : TJson} {r : Unit} (h : b476_37v2 k a0 a1 a2 a3 a4 a5 = some (.inl r)) :
    ARound P 0 [(.d (.int .i64 a4)), (.d (TJson.enc a5))] [(0, (.lp 30 [(3, (.ptr 1 0)), (4, (.ptr 2 0)), (5, (.ptr 3 0)), (6, (.ptr 4 0)), (7, (.ptr 5 0)), (8, (.ptr 7 0))] [14, 15] asg0 bd0 .ready none)), (1, (.cells [(.d (.int .i64 a0))])), (2, (.cells [.nils])), (3, (.cells [.nils])), (4, (.cells [(.d (.bool a1))])), (5, (.cells [(.ap 6 1 (List.map (D.int .i64) a2))])), (6, (.tok ((List.map (D.int .i64) a2).length * 1))), (7, (.cells [(.ap 8 4 (List.map (rtE (z := 4)) a3))])), (8, (.tok ((List.map (rtE (z := 4)) a3).length * 4)))] (.d (.bool false)) [(0, (.lp 30 [(3, (.ptr 1 0)), (4, (.ptr 2 0)), (5, (.ptr 3 0)), (6, (.ptr 4 0)), (7, (.ptr 5 0)), (8, (.ptr 7 0))] [14, 15] asg0 bd0 .done (some .ret))), (1, (.cells [(.d (.int .i64 a0))])), (2, (.cells [.nils])), (3, (.cells [.nils])), (4, (.cells [(.d (.bool false))])), (5, (.cells [(.ap 9 1 (List.map (D.int .i64) (a2 ++ ([a4] : List Int))))])), (7, (.cells [(.ap 10 4 (List.map (rtE (z := 4)) (a3 ++ ([(RT.of TJson.ok (TJson.mk a5.fKind a5.fText a5.fL a5.fKeys))] : List (RT 4)))))])), (9, (.tok ((List.map (D.int .i64) (a2 ++ ([a4] : List Int))).length * 1))), (10, (.tok ((List.map (rtE (z := 4)) (a3 ++ ([(RT.of TJson.ok (TJson.mk a5.fKind a5.fText a5.fL a5.fKeys))] : List (RT 4)))).length * 4)))] := by
  refine around_gen 9 11 ha0 hb0 rfl rfl (fun ro => ?_)
  unfold b476_37v2 at h
  dsimp only [L476_0a, L476_0b, putArgs]
  refine AWc.seq ?_
  refine AWc.rg hmix rfl rfl ?_
  refine RegV.p0 rfl rfl rfl ?_
  refine RegV.nil0 ?_
  refine AWc.rg hmix rfl rfl ?_
  refine RegV.evS (own := false) (v := (.ptr 9 0)) (H' := [(9, (.cells [(.d (.int .i64 (0 : Int))), (.d (.str ([] : List UInt8))), .nils, .nils])), (0, (.lp 30 [(3, (.ptr 1 0)), (4, (.ptr 2 0)), (5, (.ptr 3 0)), (6, (.ptr 4 0)), (7, (.ptr 5 0)), (8, (.ptr 7 0))] [14, 15] asg0 bd0 .ready none)), (1, (.cells [(.d (.int .i64 a0))])), (2, (.cells [.nils])), (3, (.cells [.nils])), (4, (.cells [(.d (.bool a1))])), (5, (.cells [(.ap 6 1 (List.map (D.int .i64) a2))])), (6, (.tok ((List.map (D.int .i64) a2).length * 1))), (7, (.cells [(.ap 8 4 (List.map (rtE (z := 4)) a3))])), (8, (.tok ((List.map (rtE (z := 4)) a3).length * 4)))]) (c' := 10) rfl rfl trivial rfl rfl rfl rfl rfl rfl ?_
  refine RegV.evN (own := false) (H' := [(9, (.cells [(.d (.int .i64 a5.fKind)), (.d (.str a5.fText)), (.d (.sl (List.map (rtE (z := 4)) a5.fL))), (.d (.sl (List.map D.str a5.fKeys)))])), (0, (.lp 30 [(3, (.ptr 1 0)), (4, (.ptr 2 0)), (5, (.ptr 3 0)), (6, (.ptr 4 0)), (7, (.ptr 5 0)), (8, (.ptr 7 0))] [14, 15] asg0 bd0 .ready none)), (1, (.cells [(.d (.int .i64 a0))])), (2, (.cells [.nils])), (3, (.cells [.nils])), (4, (.cells [(.d (.bool a1))])), (5, (.cells [(.ap 6 1 (List.map (D.int .i64) a2))])), (6, (.tok ((List.map (D.int .i64) a2).length * 1))), (7, (.cells [(.ap 8 4 (List.map (rtE (z := 4)) a3))])), (8, (.tok ((List.map (rtE (z := 4)) a3).length * 4)))]) (c' := 10) rfl rfl (by exact ⟨rfl, Nat.le_of_ble_eq_true rfl, rfl⟩) rfl rfl rfl rfl ?_
  refine RegV.nil0 ?_
  refine asgDone rfl rfl ?_
  refine AWc.block ?_
  refine AWc.seq ?_
  refine AWc.rg hmix rfl rfl ?_
  refine RegV.ld (v := (.ap 6 1 (List.map (D.int .i64) a2))) (H' := [(5, (.cells [(.ap 6 1 (List.map (D.int .i64) a2))])), (9, (.cells [(.d (.int .i64 a5.fKind)), (.d (.str a5.fText)), (.d (.sl (List.map (rtE (z := 4)) a5.fL))), (.d (.sl (List.map D.str a5.fKeys)))])), (0, (.lp 30 [(3, (.ptr 1 0)), (4, (.ptr 2 0)), (5, (.ptr 3 0)), (6, (.ptr 4 0)), (7, (.ptr 5 0)), (8, (.ptr 7 0))] [14, 15] asg0 bd0 .busy none)), (1, (.cells [(.d (.int .i64 a0))])), (2, (.cells [.nils])), (3, (.cells [.nils])), (4, (.cells [(.d (.bool a1))])), (6, (.tok ((List.map (D.int .i64) a2).length * 1))), (7, (.cells [(.ap 8 4 (List.map (rtE (z := 4)) a3))])), (8, (.tok ((List.map (rtE (z := 4)) a3).length * 4)))]) rfl rfl trivial rfl rfl rfl rfl rfl ?_
  refine RegV.p0 rfl rfl rfl ?_
  refine RegV.p1 (v := (.d (.sl (List.map (D.int .i64) ([a4] : List Int))))) rfl rfl (by exact ⟨rfl, Nat.le_of_ble_eq_true rfl, mapLen (e := (D.int .i64)) (xs := ([a4] : List Int)) (z := 1) (fun _ => rfl)⟩) rfl rfl ?_
  obtain ⟨b54, h⟩ := gd_some h
  refine RegV.appA (xs := a2) (ys := ([a4] : List Int)) (e := (D.int .i64)) (H1 := [(5, (.cells [(.ap 6 1 (List.map (D.int .i64) a2))])), (9, (.cells [(.d (.int .i64 a5.fKind)), (.d (.str a5.fText)), (.d (.sl (List.map (rtE (z := 4)) a5.fL))), (.d (.sl (List.map D.str a5.fKeys)))])), (0, (.lp 30 [(3, (.ptr 1 0)), (4, (.ptr 2 0)), (5, (.ptr 3 0)), (6, (.ptr 4 0)), (7, (.ptr 5 0)), (8, (.ptr 7 0))] [14, 15] asg0 bd0 .busy none)), (1, (.cells [(.d (.int .i64 a0))])), (2, (.cells [.nils])), (3, (.cells [.nils])), (4, (.cells [(.d (.bool a1))])), (7, (.cells [(.ap 8 4 (List.map (rtE (z := 4)) a3))])), (8, (.tok ((List.map (rtE (z := 4)) a3).length * 4)))]) rfl rfl rfl rfl (fun _ => rfl) rfl rfl b54 rfl rfl rfl ?_
  refine RegV.ld (v := (.ap 8 4 (List.map (rtE (z := 4)) a3))) (H' := [(7, (.cells [(.ap 8 4 (List.map (rtE (z := 4)) a3))])), (10, (.tok ((List.map (D.int .i64) (a2 ++ ([a4] : List Int))).length * 1))), (5, (.cells [(.ap 6 1 (List.map (D.int .i64) a2))])), (9, (.cells [(.d (.int .i64 a5.fKind)), (.d (.str a5.fText)), (.d (.sl (List.map (rtE (z := 4)) a5.fL))), (.d (.sl (List.map D.str a5.fKeys)))])), (0, (.lp 30 [(3, (.ptr 1 0)), (4, (.ptr 2 0)), (5, (.ptr 3 0)), (6, (.ptr 4 0)), (7, (.ptr 5 0)), (8, (.ptr 7 0))] [14, 15] asg0 bd0 .busy none)), (1, (.cells [(.d (.int .i64 a0))])), (2, (.cells [.nils])), (3, (.cells [.nils])), (4, (.cells [(.d (.bool a1))])), (8, (.tok ((List.map (rtE (z := 4)) a3).length * 4)))]) rfl rfl trivial rfl rfl rfl rfl rfl ?_
  refine RegV.ld (v := (.d (.agg [(.int .i64 a5.fKind), (.str a5.fText), (.sl (List.map (rtE (z := 4)) a5.fL)), (.sl (List.map D.str a5.fKeys))]))) (H' := [(9, (.cells [(.d (.int .i64 a5.fKind)), (.d (.str a5.fText)), (.d (.sl (List.map (rtE (z := 4)) a5.fL))), (.d (.sl (List.map D.str a5.fKeys)))])), (7, (.cells [(.ap 8 4 (List.map (rtE (z := 4)) a3))])), (10, (.tok ((List.map (D.int .i64) (a2 ++ ([a4] : List Int))).length * 1))), (5, (.cells [(.ap 6 1 (List.map (D.int .i64) a2))])), (0, (.lp 30 [(3, (.ptr 1 0)), (4, (.ptr 2 0)), (5, (.ptr 3 0)), (6, (.ptr 4 0)), (7, (.ptr 5 0)), (8, (.ptr 7 0))] [14, 15] asg0 bd0 .busy none)), (1, (.cells [(.d (.int .i64 a0))])), (2, (.cells [.nils])), (3, (.cells [.nils])), (4, (.cells [(.d (.bool a1))])), (8, (.tok ((List.map (rtE (z := 4)) a3).length * 4)))]) rfl rfl (Nat.le_of_ble_eq_true rfl) rfl rfl rfl rfl rfl ?_
  refine RegV.p1 (v := (.d (.sl (List.map (rtE (z := 4)) ([(RT.of TJson.ok (TJson.mk a5.fKind a5.fText a5.fL a5.fKeys))] : List (RT 4)))))) rfl rfl (by exact ⟨rfl, Nat.le_of_ble_eq_true rfl, mapLen (e := (rtE (z := 4))) (xs := ([(RT.of TJson.ok (TJson.mk a5.fKind a5.fText a5.fL a5.fKeys))] : List (RT 4))) (z := 4) rtE_ok.len⟩) rfl rfl ?_
  obtain ⟨b58, h⟩ := gd_some h
  refine RegV.appA (xs := a3) (ys := ([(RT.of TJson.ok (TJson.mk a5.fKind a5.fText a5.fL a5.fKeys))] : List (RT 4))) (e := (rtE (z := 4))) (H1 := [(9, (.cells [(.d (.int .i64 a5.fKind)), (.d (.str a5.fText)), (.d (.sl (List.map (rtE (z := 4)) a5.fL))), (.d (.sl (List.map D.str a5.fKeys)))])), (7, (.cells [(.ap 8 4 (List.map (rtE (z := 4)) a3))])), (10, (.tok ((List.map (D.int .i64) (a2 ++ ([a4] : List Int))).length * 1))), (5, (.cells [(.ap 6 1 (List.map (D.int .i64) a2))])), (0, (.lp 30 [(3, (.ptr 1 0)), (4, (.ptr 2 0)), (5, (.ptr 3 0)), (6, (.ptr 4 0)), (7, (.ptr 5 0)), (8, (.ptr 7 0))] [14, 15] asg0 bd0 .busy none)), (1, (.cells [(.d (.int .i64 a0))])), (2, (.cells [.nils])), (3, (.cells [.nils])), (4, (.cells [(.d (.bool a1))]))]) rfl rfl rfl rfl rtE_ok.len rfl rfl b58 rfl rfl rfl ?_
  refine RegV.evN (own := false) (H' := [(5, (.cells [(.ap 10 1 (List.map (D.int .i64) (a2 ++ ([a4] : List Int))))])), (11, (.tok ((List.map (rtE (z := 4)) (a3 ++ ([(RT.of TJson.ok (TJson.mk a5.fKind a5.fText a5.fL a5.fKeys))] : List (RT 4)))).length * 4))), (9, (.cells [(.d (.int .i64 a5.fKind)), (.d (.str a5.fText)), (.d (.sl (List.map (rtE (z := 4)) a5.fL))), (.d (.sl (List.map D.str a5.fKeys)))])), (7, (.cells [(.ap 8 4 (List.map (rtE (z := 4)) a3))])), (10, (.tok ((List.map (D.int .i64) (a2 ++ ([a4] : List Int))).length * 1))), (0, (.lp 30 [(3, (.ptr 1 0)), (4, (.ptr 2 0)), (5, (.ptr 3 0)), (6, (.ptr 4 0)), (7, (.ptr 5 0)), (8, (.ptr 7 0))] [14, 15] asg0 bd0 .busy none)), (1, (.cells [(.d (.int .i64 a0))])), (2, (.cells [.nils])), (3, (.cells [.nils])), (4, (.cells [(.d (.bool a1))]))]) (c' := 12) rfl rfl (by exact ⟨rfl, Nat.le_of_ble_eq_true rfl, rfl⟩) rfl rfl rfl rfl ?_
  refine RegV.evN (own := false) (H' := [(7, (.cells [(.ap 11 4 (List.map (rtE (z := 4)) (a3 ++ ([(RT.of TJson.ok (TJson.mk a5.fKind a5.fText a5.fL a5.fKeys))] : List (RT 4)))))])), (5, (.cells [(.ap 10 1 (List.map (D.int .i64) (a2 ++ ([a4] : List Int))))])), (11, (.tok ((List.map (rtE (z := 4)) (a3 ++ ([(RT.of TJson.ok (TJson.mk a5.fKind a5.fText a5.fL a5.fKeys))] : List (RT 4)))).length * 4))), (9, (.cells [(.d (.int .i64 a5.fKind)), (.d (.str a5.fText)), (.d (.sl (List.map (rtE (z := 4)) a5.fL))), (.d (.sl (List.map D.str a5.fKeys)))])), (10, (.tok ((List.map (D.int .i64) (a2 ++ ([a4] : List Int))).length * 1))), (0, (.lp 30 [(3, (.ptr 1 0)), (4, (.ptr 2 0)), (5, (.ptr 3 0)), (6, (.ptr 4 0)), (7, (.ptr 5 0)), (8, (.ptr 7 0))] [14, 15] asg0 bd0 .busy none)), (1, (.cells [(.d (.int .i64 a0))])), (2, (.cells [.nils])), (3, (.cells [.nils])), (4, (.cells [(.d (.bool a1))]))]) (c' := 12) rfl rfl (by exact ⟨rfl, Nat.le_of_ble_eq_true rfl, rfl⟩) rfl rfl rfl rfl ?_
  refine RegV.nil1 (by kernel_rfl) ?_
  refine AWc.seq ?_
  refine AWc.rg hmix rfl rfl ?_
  refine RegV.ld (v := (.ap 10 1 (List.map (D.int .i64) (a2 ++ ([a4] : List Int))))) (H' := [(5, (.cells [(.ap 10 1 (List.map (D.int .i64) (a2 ++ ([a4] : List Int))))])), (7, (.cells [(.ap 11 4 (List.map (rtE (z := 4)) (a3 ++ ([(RT.of TJson.ok (TJson.mk a5.fKind a5.fText a5.fL a5.fKeys))] : List (RT 4)))))])), (11, (.tok ((List.map (rtE (z := 4)) (a3 ++ ([(RT.of TJson.ok (TJson.mk a5.fKind a5.fText a5.fL a5.fKeys))] : List (RT 4)))).length * 4))), (9, (.cells [(.d (.int .i64 a5.fKind)), (.d (.str a5.fText)), (.d (.sl (List.map (rtE (z := 4)) a5.fL))), (.d (.sl (List.map D.str a5.fKeys)))])), (10, (.tok ((List.map (D.int .i64) (a2 ++ ([a4] : List Int))).length * 1))), (0, (.lp 30 [(3, (.ptr 1 0)), (4, (.ptr 2 0)), (5, (.ptr 3 0)), (6, (.ptr 4 0)), (7, (.ptr 5 0)), (8, (.ptr 7 0))] [14, 15] asg0 bd0 .busy none)), (1, (.cells [(.d (.int .i64 a0))])), (2, (.cells [.nils])), (3, (.cells [.nils])), (4, (.cells [(.d (.bool a1))]))]) rfl rfl trivial rfl rfl rfl rfl rfl ?_
  refine RegV.len (xs := (a2 ++ ([a4] : List Int))) (e := (D.int .i64)) rfl rfl rfl rfl ?_
  refine RegV.ld (v := (.d (.int .i64 a0))) (H' := [(1, (.cells [(.d (.int .i64 a0))])), (5, (.cells [(.ap 10 1 (List.map (D.int .i64) (a2 ++ ([a4] : List Int))))])), (7, (.cells [(.ap 11 4 (List.map (rtE (z := 4)) (a3 ++ ([(RT.of TJson.ok (TJson.mk a5.fKind a5.fText a5.fL a5.fKeys))] : List (RT 4)))))])), (11, (.tok ((List.map (rtE (z := 4)) (a3 ++ ([(RT.of TJson.ok (TJson.mk a5.fKind a5.fText a5.fL a5.fKeys))] : List (RT 4)))).length * 4))), (9, (.cells [(.d (.int .i64 a5.fKind)), (.d (.str a5.fText)), (.d (.sl (List.map (rtE (z := 4)) a5.fL))), (.d (.sl (List.map D.str a5.fKeys)))])), (10, (.tok ((List.map (D.int .i64) (a2 ++ ([a4] : List Int))).length * 1))), (0, (.lp 30 [(3, (.ptr 1 0)), (4, (.ptr 2 0)), (5, (.ptr 3 0)), (6, (.ptr 4 0)), (7, (.ptr 5 0)), (8, (.ptr 7 0))] [14, 15] asg0 bd0 .busy none)), (2, (.cells [.nils])), (3, (.cells [.nils])), (4, (.cells [(.d (.bool a1))]))]) rfl rfl trivial rfl rfl rfl rfl rfl ?_
  refine RegV.p0 (v := (.d (.bool (decide ((((a2 ++ ([a4] : List Int)).length : Nat) : Int) > a0))))) rfl rfl rfl ?_
  refine RegV.nil0 ?_
  refine AWc.cond rfl (fun c68 => ?_) (fun c68 => ?_)
  · have h := cond_pos c68 h
    refine AWc.seq ?_
    refine AWc.rg hmix rfl rfl ?_
    refine RegV.evN (own := false) (H' := [(2, (.cells [.nils])), (1, (.cells [(.d (.int .i64 a0))])), (5, (.cells [(.ap 10 1 (List.map (D.int .i64) (a2 ++ ([a4] : List Int))))])), (7, (.cells [(.ap 11 4 (List.map (rtE (z := 4)) (a3 ++ ([(RT.of TJson.ok (TJson.mk a5.fKind a5.fText a5.fL a5.fKeys))] : List (RT 4)))))])), (11, (.tok ((List.map (rtE (z := 4)) (a3 ++ ([(RT.of TJson.ok (TJson.mk a5.fKind a5.fText a5.fL a5.fKeys))] : List (RT 4)))).length * 4))), (9, (.cells [(.d (.int .i64 a5.fKind)), (.d (.str a5.fText)), (.d (.sl (List.map (rtE (z := 4)) a5.fL))), (.d (.sl (List.map D.str a5.fKeys)))])), (10, (.tok ((List.map (D.int .i64) (a2 ++ ([a4] : List Int))).length * 1))), (0, (.lp 30 [(3, (.ptr 1 0)), (4, (.ptr 2 0)), (5, (.ptr 3 0)), (6, (.ptr 4 0)), (7, (.ptr 5 0)), (8, (.ptr 7 0))] [14, 15] asg0 bd0 .busy none)), (3, (.cells [.nils])), (4, (.cells [(.d (.bool a1))]))]) (c' := 12) rfl rfl (by exact ⟨rfl, Nat.le_of_ble_eq_true rfl, rfl⟩) rfl rfl rfl rfl ?_
    refine RegV.evN (own := false) (H' := [(3, (.cells [.nils])), (2, (.cells [.nils])), (1, (.cells [(.d (.int .i64 a0))])), (5, (.cells [(.ap 10 1 (List.map (D.int .i64) (a2 ++ ([a4] : List Int))))])), (7, (.cells [(.ap 11 4 (List.map (rtE (z := 4)) (a3 ++ ([(RT.of TJson.ok (TJson.mk a5.fKind a5.fText a5.fL a5.fKeys))] : List (RT 4)))))])), (11, (.tok ((List.map (rtE (z := 4)) (a3 ++ ([(RT.of TJson.ok (TJson.mk a5.fKind a5.fText a5.fL a5.fKeys))] : List (RT 4)))).length * 4))), (9, (.cells [(.d (.int .i64 a5.fKind)), (.d (.str a5.fText)), (.d (.sl (List.map (rtE (z := 4)) a5.fL))), (.d (.sl (List.map D.str a5.fKeys)))])), (10, (.tok ((List.map (D.int .i64) (a2 ++ ([a4] : List Int))).length * 1))), (0, (.lp 30 [(3, (.ptr 1 0)), (4, (.ptr 2 0)), (5, (.ptr 3 0)), (6, (.ptr 4 0)), (7, (.ptr 5 0)), (8, (.ptr 7 0))] [14, 15] asg0 bd0 .busy none)), (4, (.cells [(.d (.bool a1))]))]) (c' := 12) rfl rfl (by exact ⟨rfl, Nat.le_of_ble_eq_true rfl, rfl⟩) rfl rfl rfl rfl ?_
    refine RegV.evN (own := false) (H' := [(4, (.cells [(.d (.bool false))])), (3, (.cells [.nils])), (2, (.cells [.nils])), (1, (.cells [(.d (.int .i64 a0))])), (5, (.cells [(.ap 10 1 (List.map (D.int .i64) (a2 ++ ([a4] : List Int))))])), (7, (.cells [(.ap 11 4 (List.map (rtE (z := 4)) (a3 ++ ([(RT.of TJson.ok (TJson.mk a5.fKind a5.fText a5.fL a5.fKeys))] : List (RT 4)))))])), (11, (.tok ((List.map (rtE (z := 4)) (a3 ++ ([(RT.of TJson.ok (TJson.mk a5.fKind a5.fText a5.fL a5.fKeys))] : List (RT 4)))).length * 4))), (9, (.cells [(.d (.int .i64 a5.fKind)), (.d (.str a5.fText)), (.d (.sl (List.map (rtE (z := 4)) a5.fL))), (.d (.sl (List.map D.str a5.fKeys)))])), (10, (.tok ((List.map (D.int .i64) (a2 ++ ([a4] : List Int))).length * 1))), (0, (.lp 30 [(3, (.ptr 1 0)), (4, (.ptr 2 0)), (5, (.ptr 3 0)), (6, (.ptr 4 0)), (7, (.ptr 5 0)), (8, (.ptr 7 0))] [14, 15] asg0 bd0 .busy none))]) (c' := 12) rfl rfl (by exact ⟨rfl, Nat.le_of_ble_eq_true rfl, rfl⟩) rfl rfl rfl rfl ?_
    refine RegV.nil0 ?_
    have hr := Option.some.inj h
    have hr := Sum.inl.inj hr
    subst hr
    exact AWc.ret (canQ (N := 30) (k := 11) (l' := []) (H' := [(0, (.lp 30 [(3, (.ptr 1 0)), (4, (.ptr 2 0)), (5, (.ptr 3 0)), (6, (.ptr 4 0)), (7, (.ptr 5 0)), (8, (.ptr 7 0))] [14, 15] asg0 bd0 .busy none)), (1, (.cells [(.d (.int .i64 a0))])), (2, (.cells [.nils])), (3, (.cells [.nils])), (4, (.cells [(.d (.bool false))])), (5, (.cells [(.ap 9 1 (List.map (D.int .i64) (a2 ++ ([a4] : List Int))))])), (7, (.cells [(.ap 10 4 (List.map (rtE (z := 4)) (a3 ++ ([(RT.of TJson.ok (TJson.mk a5.fKind a5.fText a5.fL a5.fKeys))] : List (RT 4)))))])), (9, (.tok ((List.map (D.int .i64) (a2 ++ ([a4] : List Int))).length * 1))), (10, (.tok ((List.map (rtE (z := 4)) (a3 ++ ([(RT.of TJson.ok (TJson.mk a5.fKind a5.fText a5.fL a5.fKeys))] : List (RT 4)))).length * 4)))]) rfl ⟨rfl, [], [(9, 10), (10, 11)], rfl, rfl,  trivial, ⟨⟨_, rfl, (.refl _)⟩, rfl, rfl, ⟨⟨_, rfl, (.refl _)⟩, rfl, rfl, ⟨⟨_, rfl, (.refl _)⟩, rfl, rfl, ⟨⟨_, rfl, (.refl _)⟩, rfl, rfl, ⟨⟨_, rfl, (.refl _)⟩, rfl, rfl, ⟨⟨_, rfl, (.refl _)⟩, rfl, rfl, ⟨⟨_, rfl, (.refl _)⟩, rfl, rfl, ⟨⟨_, rfl, (.refl _)⟩, rfl, rfl, ⟨⟨_, rfl, (.refl _)⟩, rfl, rfl, trivial⟩⟩⟩⟩⟩⟩⟩⟩⟩⟩ (roundD rfl rfl rfl rfl (hasCons rfl (hasCons rfl (hasCons rfl (hasCons rfl (hasCons rfl (hasCons rfl (hasCons rfl (hasCons rfl (hasCons rfl hasNil)))))))))))
  · have h := cond_neg c68 h
    refine AWc.skip ?_
    cases h
theorem B476_37v2_1 {P : Program} {N : Nat → Nat} (hmix : P.follows .mixedOrders = true) (hc : HCb476_37v2 P N) {asg0 bd0 : Code} (ha0 : compCode P asg0 = L476_0a N) (hb0 : compCode P bd0 = L476_0b N) {k : Nat} {a0 : Int} {a1 : Bool} {a2 : (List Int)} {a3 : (List (RT 4))} {a4 : Int} {a5 : TJson} {r : Unit} (h : b476_37v2 k a0 a1 a2 a3 a4 a5 = some (.inr r)) :
    ARound P 0 [(.d (.int .i64 a4)), (.d (TJson.enc a5))] [(0, (.lp 30 [(3, (.ptr 1 0)), (4, (.ptr 2 0)), (5, (.ptr 3 0)), (6, (.ptr 4 0)), (7, (.ptr 5 0)), (8, (.ptr 7 0))] [14, 15] asg0 bd0 .ready none)), (1, (.cells [(.d (.int .i64 a0))])), (2, (.cells [.nils])), (3, (.cells [.nils])), (4, (.cells [(.d (.bool a1))])), (5, (.cells [(.ap 6 1 (List.map (D.int .i64) a2))])), (6, (.tok ((List.map (D.int .i64) a2).length * 1))), (7, (.cells [(.ap 8 4 (List.map (rtE (z := 4)) a3))])), (8, (.tok ((List.map (rtE (z := 4)) a3).length * 4)))] (.d (.bool true)) [(0, (.lp 30 [(3, (.ptr 1 0)), (4, (.ptr 2 0)), (5, (.ptr 3 0)), (6, (.ptr 4 0)), (7, (.ptr 5 0)), (8, (.ptr 7 0))] [14, 15] asg0 bd0 .ready none)), (1, (.cells [(.d (.int .i64 a0))])), (2, (.cells [.nils])), (3, (.cells [.nils])), (4, (.cells [(.d (.bool a1))])), (5, (.cells [(.ap 9 1 (List.map (D.int .i64) (a2 ++ ([a4] : List Int))))])), (7, (.cells [(.ap 10 4 (List.map (rtE (z := 4)) (a3 ++ ([(RT.of TJson.ok (TJson.mk a5.fKind a5.fText a5.fL a5.fKeys))] : List (RT 4)))))])), (9, (.tok ((List.map (D.int .i64) (a2 ++ ([a4] : List Int))).length * 1))), (10, (.tok ((List.map (rtE (z := 4)) (a3 ++ ([(RT.of TJson.ok (TJson.mk a5.fKind a5.fText a5.fL a5.fKeys))] : List (RT 4)))).length * 4)))] := by
  refine around_gen 9 11 ha0 hb0 rfl rfl (fun ro => ?_)
  unfold b476_37v2 at h
  dsimp only [L476_0a, L476_0b, putArgs]
  refine AWc.seq ?_
  refine AWc.rg hmix rfl rfl ?_
  refine RegV.p0 rfl rfl rfl ?_
  refine RegV.nil0 ?_
  refine AWc.rg hmix rfl rfl ?_
  refine RegV.evS (own := false) (v := (.ptr 9 0)) (H' := [(9, (.cells [(.d (.int .i64 (0 : Int))), (.d (.str ([] : List UInt8))), .nils, .nils])), (0, (.lp 30 [(3, (.ptr 1 0)), (4, (.ptr 2 0)), (5, (.ptr 3 0)), (6, (.ptr 4 0)), (7, (.ptr 5 0)), (8, (.ptr 7 0))] [14, 15] asg0 bd0 .ready none)), (1, (.cells [(.d (.int .i64 a0))])), (2, (.cells [.nils])), (3, (.cells [.nils])), (4, (.cells [(.d (.bool a1))])), (5, (.cells [(.ap 6 1 (List.map (D.int .i64) a2))])), (6, (.tok ((List.map (D.int .i64) a2).length * 1))), (7, (.cells [(.ap 8 4 (List.map (rtE (z := 4)) a3))])), (8, (.tok ((List.map (rtE (z := 4)) a3).length * 4)))]) (c' := 10) rfl rfl trivial rfl rfl rfl rfl rfl rfl ?_
  refine RegV.evN (own := false) (H' := [(9, (.cells [(.d (.int .i64 a5.fKind)), (.d (.str a5.fText)), (.d (.sl (List.map (rtE (z := 4)) a5.fL))), (.d (.sl (List.map D.str a5.fKeys)))])), (0, (.lp 30 [(3, (.ptr 1 0)), (4, (.ptr 2 0)), (5, (.ptr 3 0)), (6, (.ptr 4 0)), (7, (.ptr 5 0)), (8, (.ptr 7 0))] [14, 15] asg0 bd0 .ready none)), (1, (.cells [(.d (.int .i64 a0))])), (2, (.cells [.nils])), (3, (.cells [.nils])), (4, (.cells [(.d (.bool a1))])), (5, (.cells [(.ap 6 1 (List.map (D.int .i64) a2))])), (6, (.tok ((List.map (D.int .i64) a2).length * 1))), (7, (.cells [(.ap 8 4 (List.map (rtE (z := 4)) a3))])), (8, (.tok ((List.map (rtE (z := 4)) a3).length * 4)))]) (c' := 10) rfl rfl (by exact ⟨rfl, Nat.le_of_ble_eq_true rfl, rfl⟩) rfl rfl rfl rfl ?_
  refine RegV.nil0 ?_
  refine asgDone rfl rfl ?_
  refine AWc.block ?_
  refine AWc.seq ?_
  refine AWc.rg hmix rfl rfl ?_
  refine RegV.ld (v := (.ap 6 1 (List.map (D.int .i64) a2))) (H' := [(5, (.cells [(.ap 6 1 (List.map (D.int .i64) a2))])), (9, (.cells [(.d (.int .i64 a5.fKind)), (.d (.str a5.fText)), (.d (.sl (List.map (rtE (z := 4)) a5.fL))), (.d (.sl (List.map D.str a5.fKeys)))])), (0, (.lp 30 [(3, (.ptr 1 0)), (4, (.ptr 2 0)), (5, (.ptr 3 0)), (6, (.ptr 4 0)), (7, (.ptr 5 0)), (8, (.ptr 7 0))] [14, 15] asg0 bd0 .busy none)), (1, (.cells [(.d (.int .i64 a0))])), (2, (.cells [.nils])), (3, (.cells [.nils])), (4, (.cells [(.d (.bool a1))])), (6, (.tok ((List.map (D.int .i64) a2).length * 1))), (7, (.cells [(.ap 8 4 (List.map (rtE (z := 4)) a3))])), (8, (.tok ((List.map (rtE (z := 4)) a3).length * 4)))]) rfl rfl trivial rfl rfl rfl rfl rfl ?_
  refine RegV.p0 rfl rfl rfl ?_
  refine RegV.p1 (v := (.d (.sl (List.map (D.int .i64) ([a4] : List Int))))) rfl rfl (by exact ⟨rfl, Nat.le_of_ble_eq_true rfl, mapLen (e := (D.int .i64)) (xs := ([a4] : List Int)) (z := 1) (fun _ => rfl)⟩) rfl rfl ?_
  obtain ⟨b54, h⟩ := gd_some h
  refine RegV.appA (xs := a2) (ys := ([a4] : List Int)) (e := (D.int .i64)) (H1 := [(5, (.cells [(.ap 6 1 (List.map (D.int .i64) a2))])), (9, (.cells [(.d (.int .i64 a5.fKind)), (.d (.str a5.fText)), (.d (.sl (List.map (rtE (z := 4)) a5.fL))), (.d (.sl (List.map D.str a5.fKeys)))])), (0, (.lp 30 [(3, (.ptr 1 0)), (4, (.ptr 2 0)), (5, (.ptr 3 0)), (6, (.ptr 4 0)), (7, (.ptr 5 0)), (8, (.ptr 7 0))] [14, 15] asg0 bd0 .busy none)), (1, (.cells [(.d (.int .i64 a0))])), (2, (.cells [.nils])), (3, (.cells [.nils])), (4, (.cells [(.d (.bool a1))])), (7, (.cells [(.ap 8 4 (List.map (rtE (z := 4)) a3))])), (8, (.tok ((List.map (rtE (z := 4)) a3).length * 4)))]) rfl rfl rfl rfl (fun _ => rfl) rfl rfl b54 rfl rfl rfl ?_
  refine RegV.ld (v := (.ap 8 4 (List.map (rtE (z := 4)) a3))) (H' := [(7, (.cells [(.ap 8 4 (List.map (rtE (z := 4)) a3))])), (10, (.tok ((List.map (D.int .i64) (a2 ++ ([a4] : List Int))).length * 1))), (5, (.cells [(.ap 6 1 (List.map (D.int .i64) a2))])), (9, (.cells [(.d (.int .i64 a5.fKind)), (.d (.str a5.fText)), (.d (.sl (List.map (rtE (z := 4)) a5.fL))), (.d (.sl (List.map D.str a5.fKeys)))])), (0, (.lp 30 [(3, (.ptr 1 0)), (4, (.ptr 2 0)), (5, (.ptr 3 0)), (6, (.ptr 4 0)), (7, (.ptr 5 0)), (8, (.ptr 7 0))] [14, 15] asg0 bd0 .busy none)), (1, (.cells [(.d (.int .i64 a0))])), (2, (.cells [.nils])), (3, (.cells [.nils])), (4, (.cells [(.d (.bool a1))])), (8, (.tok ((List.map (rtE (z := 4)) a3).length * 4)))]) rfl rfl trivial rfl rfl rfl rfl rfl ?_
  refine RegV.ld (v := (.d (.agg [(.int .i64 a5.fKind), (.str a5.fText), (.sl (List.map (rtE (z := 4)) a5.fL)), (.sl (List.map D.str a5.fKeys))]))) (H' := [(9, (.cells [(.d (.int .i64 a5.fKind)), (.d (.str a5.fText)), (.d (.sl (List.map (rtE (z := 4)) a5.fL))), (.d (.sl (List.map D.str a5.fKeys)))])), (7, (.cells [(.ap 8 4 (List.map (rtE (z := 4)) a3))])), (10, (.tok ((List.map (D.int .i64) (a2 ++ ([a4] : List Int))).length * 1))), (5, (.cells [(.ap 6 1 (List.map (D.int .i64) a2))])), (0, (.lp 30 [(3, (.ptr 1 0)), (4, (.ptr 2 0)), (5, (.ptr 3 0)), (6, (.ptr 4 0)), (7, (.ptr 5 0)), (8, (.ptr 7 0))] [14, 15] asg0 bd0 .busy none)), (1, (.cells [(.d (.int .i64 a0))])), (2, (.cells [.nils])), (3, (.cells [.nils])), (4, (.cells [(.d (.bool a1))])), (8, (.tok ((List.map (rtE (z := 4)) a3).length * 4)))]) rfl rfl (Nat.le_of_ble_eq_true rfl) rfl rfl rfl rfl rfl ?_
  refine RegV.p1 (v := (.d (.sl (List.map (rtE (z := 4)) ([(RT.of TJson.ok (TJson.mk a5.fKind a5.fText a5.fL a5.fKeys))] : List (RT 4)))))) rfl rfl (by exact ⟨rfl, Nat.le_of_ble_eq_true rfl, mapLen (e := (rtE (z := 4))) (xs := ([(RT.of TJson.ok (TJson.mk a5.fKind a5.fText a5.fL a5.fKeys))] : List (RT 4))) (z := 4) rtE_ok.len⟩) rfl rfl ?_
  obtain ⟨b58, h⟩ := gd_some h
  refine RegV.appA (xs := a3) (ys := ([(RT.of TJson.ok (TJson.mk a5.fKind a5.fText a5.fL a5.fKeys))] : List (RT 4))) (e := (rtE (z := 4))) (H1 := [(9, (.cells [(.d (.int .i64 a5.fKind)), (.d (.str a5.fText)), (.d (.sl (List.map (rtE (z := 4)) a5.fL))), (.d (.sl (List.map D.str a5.fKeys)))])), (7, (.cells [(.ap 8 4 (List.map (rtE (z := 4)) a3))])), (10, (.tok ((List.map (D.int .i64) (a2 ++ ([a4] : List Int))).length * 1))), (5, (.cells [(.ap 6 1 (List.map (D.int .i64) a2))])), (0, (.lp 30 [(3, (.ptr 1 0)), (4, (.ptr 2 0)), (5, (.ptr 3 0)), (6, (.ptr 4 0)), (7, (.ptr 5 0)), (8, (.ptr 7 0))] [14, 15] asg0 bd0 .busy none)), (1, (.cells [(.d (.int .i64 a0))])), (2, (.cells [.nils])), (3, (.cells [.nils])), (4, (.cells [(.d (.bool a1))]))]) rfl rfl rfl rfl rtE_ok.len rfl rfl b58 rfl rfl rfl ?_
  refine RegV.evN (own := false) (H' := [(5, (.cells [(.ap 10 1 (List.map (D.int .i64) (a2 ++ ([a4] : List Int))))])), (11, (.tok ((List.map (rtE (z := 4)) (a3 ++ ([(RT.of TJson.ok (TJson.mk a5.fKind a5.fText a5.fL a5.fKeys))] : List (RT 4)))).length * 4))), (9, (.cells [(.d (.int .i64 a5.fKind)), (.d (.str a5.fText)), (.d (.sl (List.map (rtE (z := 4)) a5.fL))), (.d (.sl (List.map D.str a5.fKeys)))])), (7, (.cells [(.ap 8 4 (List.map (rtE (z := 4)) a3))])), (10, (.tok ((List.map (D.int .i64) (a2 ++ ([a4] : List Int))).length * 1))), (0, (.lp 30 [(3, (.ptr 1 0)), (4, (.ptr 2 0)), (5, (.ptr 3 0)), (6, (.ptr 4 0)), (7, (.ptr 5 0)), (8, (.ptr 7 0))] [14, 15] asg0 bd0 .busy none)), (1, (.cells [(.d (.int .i64 a0))])), (2, (.cells [.nils])), (3, (.cells [.nils])), (4, (.cells [(.d (.bool a1))]))]) (c' := 12) rfl rfl (by exact ⟨rfl, Nat.le_of_ble_eq_true rfl, rfl⟩) rfl rfl rfl rfl ?_
  refine RegV.evN (own := false) (H' := [(7, (.cells [(.ap 11 4 (List.map (rtE (z := 4)) (a3 ++ ([(RT.of TJson.ok (TJson.mk a5.fKind a5.fText a5.fL a5.fKeys))] : List (RT 4)))))])), (5, (.cells [(.ap 10 1 (List.map (D.int .i64) (a2 ++ ([a4] : List Int))))])), (11, (.tok ((List.map (rtE (z := 4)) (a3 ++ ([(RT.of TJson.ok (TJson.mk a5.fKind a5.fText a5.fL a5.fKeys))] : List (RT 4)))).length * 4))), (9, (.cells [(.d (.int .i64 a5.fKind)), (.d (.str a5.fText)), (.d (.sl (List.map (rtE (z := 4)) a5.fL))), (.d (.sl (List.map D.str a5.fKeys)))])), (10, (.tok ((List.map (D.int .i64) (a2 ++ ([a4] : List Int))).length * 1))), (0, (.lp 30 [(3, (.ptr 1 0)), (4, (.ptr 2 0)), (5, (.ptr 3 0)), (6, (.ptr 4 0)), (7, (.ptr 5 0)), (8, (.ptr 7 0))] [14, 15] asg0 bd0 .busy none)), (1, (.cells [(.d (.int .i64 a0))])), (2, (.cells [.nils])), (3, (.cells [.nils])), (4, (.cells [(.d (.bool a1))]))]) (c' := 12) rfl rfl (by exact ⟨rfl, Nat.le_of_ble_eq_true rfl, rfl⟩) rfl rfl rfl rfl ?_
  refine RegV.nil1 (by kernel_rfl) ?_
  refine AWc.seq ?_
  refine AWc.rg hmix rfl rfl ?_
  refine RegV.ld (v := (.ap 10 1 (List.map (D.int .i64) (a2 ++ ([a4] : List Int))))) (H' := [(5, (.cells [(.ap 10 1 (List.map (D.int .i64) (a2 ++ ([a4] : List Int))))])), (7, (.cells [(.ap 11 4 (List.map (rtE (z := 4)) (a3 ++ ([(RT.of TJson.ok (TJson.mk a5.fKind a5.fText a5.fL a5.fKeys))] : List (RT 4)))))])), (11, (.tok ((List.map (rtE (z := 4)) (a3 ++ ([(RT.of TJson.ok (TJson.mk a5.fKind a5.fText a5.fL a5.fKeys))] : List (RT 4)))).length * 4))), (9, (.cells [(.d (.int .i64 a5.fKind)), (.d (.str a5.fText)), (.d (.sl (List.map (rtE (z := 4)) a5.fL))), (.d (.sl (List.map D.str a5.fKeys)))])), (10, (.tok ((List.map (D.int .i64) (a2 ++ ([a4] : List Int))).length * 1))), (0, (.lp 30 [(3, (.ptr 1 0)), (4, (.ptr 2 0)), (5, (.ptr 3 0)), (6, (.ptr 4 0)), (7, (.ptr 5 0)), (8, (.ptr 7 0))] [14, 15] asg0 bd0 .busy none)), (1, (.cells [(.d (.int .i64 a0))])), (2, (.cells [.nils])), (3, (.cells [.nils])), (4, (.cells [(.d (.bool a1))]))]) rfl rfl trivial rfl rfl rfl rfl rfl ?_
  refine RegV.len (xs := (a2 ++ ([a4] : List Int))) (e := (D.int .i64)) rfl rfl rfl rfl ?_
  refine RegV.ld (v := (.d (.int .i64 a0))) (H' := [(1, (.cells [(.d (.int .i64 a0))])), (5, (.cells [(.ap 10 1 (List.map (D.int .i64) (a2 ++ ([a4] : List Int))))])), (7, (.cells [(.ap 11 4 (List.map (rtE (z := 4)) (a3 ++ ([(RT.of TJson.ok (TJson.mk a5.fKind a5.fText a5.fL a5.fKeys))] : List (RT 4)))))])), (11, (.tok ((List.map (rtE (z := 4)) (a3 ++ ([(RT.of TJson.ok (TJson.mk a5.fKind a5.fText a5.fL a5.fKeys))] : List (RT 4)))).length * 4))), (9, (.cells [(.d (.int .i64 a5.fKind)), (.d (.str a5.fText)), (.d (.sl (List.map (rtE (z := 4)) a5.fL))), (.d (.sl (List.map D.str a5.fKeys)))])), (10, (.tok ((List.map (D.int .i64) (a2 ++ ([a4] : List Int))).length * 1))), (0, (.lp 30 [(3, (.ptr 1 0)), (4, (.ptr 2 0)), (5, (.ptr 3 0)), (6, (.ptr 4 0)), (7, (.ptr 5 0)), (8, (.ptr 7 0))] [14, 15] asg0 bd0 .busy none)), (2, (.cells [.nils])), (3, (.cells [.nils])), (4, (.cells [(.d (.bool a1))]))]) rfl rfl trivial rfl rfl rfl rfl rfl ?_
  refine RegV.p0 (v := (.d (.bool (decide ((((a2 ++ ([a4] : List Int)).length : Nat) : Int) > a0))))) rfl rfl rfl ?_
  refine RegV.nil0 ?_
  refine AWc.cond rfl (fun c68 => ?_) (fun c68 => ?_)
  · have h := cond_pos c68 h
    refine AWc.seq ?_
    refine AWc.rg hmix rfl rfl ?_
    refine RegV.evN (own := false) (H' := [(2, (.cells [.nils])), (1, (.cells [(.d (.int .i64 a0))])), (5, (.cells [(.ap 10 1 (List.map (D.int .i64) (a2 ++ ([a4] : List Int))))])), (7, (.cells [(.ap 11 4 (List.map (rtE (z := 4)) (a3 ++ ([(RT.of TJson.ok (TJson.mk a5.fKind a5.fText a5.fL a5.fKeys))] : List (RT 4)))))])), (11, (.tok ((List.map (rtE (z := 4)) (a3 ++ ([(RT.of TJson.ok (TJson.mk a5.fKind a5.fText a5.fL a5.fKeys))] : List (RT 4)))).length * 4))), (9, (.cells [(.d (.int .i64 a5.fKind)), (.d (.str a5.fText)), (.d (.sl (List.map (rtE (z := 4)) a5.fL))), (.d (.sl (List.map D.str a5.fKeys)))])), (10, (.tok ((List.map (D.int .i64) (a2 ++ ([a4] : List Int))).length * 1))), (0, (.lp 30 [(3, (.ptr 1 0)), (4, (.ptr 2 0)), (5, (.ptr 3 0)), (6, (.ptr 4 0)), (7, (.ptr 5 0)), (8, (.ptr 7 0))] [14, 15] asg0 bd0 .busy none)), (3, (.cells [.nils])), (4, (.cells [(.d (.bool a1))]))]) (c' := 12) rfl rfl (by exact ⟨rfl, Nat.le_of_ble_eq_true rfl, rfl⟩) rfl rfl rfl rfl ?_
    refine RegV.evN (own := false) (H' := [(3, (.cells [.nils])), (2, (.cells [.nils])), (1, (.cells [(.d (.int .i64 a0))])), (5, (.cells [(.ap 10 1 (List.map (D.int .i64) (a2 ++ ([a4] : List Int))))])), (7, (.cells [(.ap 11 4 (List.map (rtE (z := 4)) (a3 ++ ([(RT.of TJson.ok (TJson.mk a5.fKind a5.fText a5.fL a5.fKeys))] : List (RT 4)))))])), (11, (.tok ((List.map (rtE (z := 4)) (a3 ++ ([(RT.of TJson.ok (TJson.mk a5.fKind a5.fText a5.fL a5.fKeys))] : List (RT 4)))).length * 4))), (9, (.cells [(.d (.int .i64 a5.fKind)), (.d (.str a5.fText)), (.d (.sl (List.map (rtE (z := 4)) a5.fL))), (.d (.sl (List.map D.str a5.fKeys)))])), (10, (.tok ((List.map (D.int .i64) (a2 ++ ([a4] : List Int))).length * 1))), (0, (.lp 30 [(3, (.ptr 1 0)), (4, (.ptr 2 0)), (5, (.ptr 3 0)), (6, (.ptr 4 0)), (7, (.ptr 5 0)), (8, (.ptr 7 0))] [14, 15] asg0 bd0 .busy none)), (4, (.cells [(.d (.bool a1))]))]) (c' := 12) rfl rfl (by exact ⟨rfl, Nat.le_of_ble_eq_true rfl, rfl⟩) rfl rfl rfl rfl ?_
    refine RegV.evN (own := false) (H' := [(4, (.cells [(.d (.bool false))])), (3, (.cells [.nils])), (2, (.cells [.nils])), (1, (.cells [(.d (.int .i64 a0))])), (5, (.cells [(.ap 10 1 (List.map (D.int .i64) (a2 ++ ([a4] : List Int))))])), (7, (.cells [(.ap 11 4 (List.map (rtE (z := 4)) (a3 ++ ([(RT.of TJson.ok (TJson.mk a5.fKind a5.fText a5.fL a5.fKeys))] : List (RT 4)))))])), (11, (.tok ((List.map (rtE (z := 4)) (a3 ++ ([(RT.of TJson.ok (TJson.mk a5.fKind a5.fText a5.fL a5.fKeys))] : List (RT 4)))).length * 4))), (9, (.cells [(.d (.int .i64 a5.fKind)), (.d (.str a5.fText)), (.d (.sl (List.map (rtE (z := 4)) a5.fL))), (.d (.sl (List.map D.str a5.fKeys)))])), (10, (.tok ((List.map (D.int .i64) (a2 ++ ([a4] : List Int))).length * 1))), (0, (.lp 30 [(3, (.ptr 1 0)), (4, (.ptr 2 0)), (5, (.ptr 3 0)), (6, (.ptr 4 0)), (7, (.ptr 5 0)), (8, (.ptr 7 0))] [14, 15] asg0 bd0 .busy none))]) (c' := 12) rfl rfl (by exact ⟨rfl, Nat.le_of_ble_eq_true rfl, rfl⟩) rfl rfl rfl rfl ?_
    refine RegV.nil0 ?_
    cases h
  · have h := cond_neg c68 h
    refine AWc.skip ?_
    have hr := Option.some.inj h
    have hr := Sum.inr.inj hr
    subst hr
    exact (canQ (N := 30) (k := 11) (l' := []) (H' := [(0, (.lp 30 [(3, (.ptr 1 0)), (4, (.ptr 2 0)), (5, (.ptr 3 0)), (6, (.ptr 4 0)), (7, (.ptr 5 0)), (8, (.ptr 7 0))] [14, 15] asg0 bd0 .busy none)), (1, (.cells [(.d (.int .i64 a0))])), (2, (.cells [.nils])), (3, (.cells [.nils])), (4, (.cells [(.d (.bool a1))])), (5, (.cells [(.ap 9 1 (List.map (D.int .i64) (a2 ++ ([a4] : List Int))))])), (7, (.cells [(.ap 10 4 (List.map (rtE (z := 4)) (a3 ++ ([(RT.of TJson.ok (TJson.mk a5.fKind a5.fText a5.fL a5.fKeys))] : List (RT 4)))))])), (9, (.tok ((List.map (D.int .i64) (a2 ++ ([a4] : List Int))).length * 1))), (10, (.tok ((List.map (rtE (z := 4)) (a3 ++ ([(RT.of TJson.ok (TJson.mk a5.fKind a5.fText a5.fL a5.fKeys))] : List (RT 4)))).length * 4)))]) rfl ⟨rfl, [], [(9, 10), (10, 11)], rfl, rfl,  trivial, ⟨⟨_, rfl, (.refl _)⟩, rfl, rfl, ⟨⟨_, rfl, (.refl _)⟩, rfl, rfl, ⟨⟨_, rfl, (.refl _)⟩, rfl, rfl, ⟨⟨_, rfl, (.refl _)⟩, rfl, rfl, ⟨⟨_, rfl, (.refl _)⟩, rfl, rfl, ⟨⟨_, rfl, (.refl _)⟩, rfl, rfl, ⟨⟨_, rfl, (.refl _)⟩, rfl, rfl, ⟨⟨_, rfl, (.refl _)⟩, rfl, rfl, ⟨⟨_, rfl, (.refl _)⟩, rfl, rfl, trivial⟩⟩⟩⟩⟩⟩⟩⟩⟩⟩ (roundD rfl rfl rfl rfl (hasCons rfl (hasCons rfl (hasCons rfl (hasCons rfl (hasCons rfl (hasCons rfl (hasCons rfl (hasCons rfl (hasCons rfl hasNil)))))))))))
end Go.Proofs.Abs
