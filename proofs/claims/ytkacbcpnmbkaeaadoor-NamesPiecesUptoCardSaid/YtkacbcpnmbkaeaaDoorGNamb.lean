/- Written by gen.py: functions of the program as Lean functions, and that the code comes to them. -/
import Derived.Test.YtkacbcpnmbkaeaaDoorGNam
set_option linter.unusedVariables false
set_option linter.unusedSimpArgs false
set_option maxRecDepth 100000
set_option maxHeartbeats 4000000
namespace Go.Proofs.Abs
open Go
/-- courant/courantref03.Make -/
def C338 (N : Nat → Nat) : AFunc := { n := 55, params := 2, res := [.tmp 4, .tmp 5], body :=
 (.seq (.region false [⟨(some 4), .mv (.k (.d (.str []))), none, []⟩,
   ⟨(some 5), .mv (.k (.d (.bool false))), none, [0]⟩])
  (.seq (.region false [⟨(some 7), .mv (.t 0), none, []⟩,
    ⟨(some 6), .mv (.t 7), none, [0]⟩])
   (.seq (.block 0 (.seq (.region false [⟨(some 9), .mv (.t 0), none, []⟩,
       ⟨(some 10), .bin .eql (.t 9) (.k (.d (.str []))), none, [0]⟩,
       ⟨(some 8), .mv (.t 10), none, [1]⟩])
      (.cond (.t 8) (.seq (.region false [⟨(some 4), .mv (.k (.d (.str []))), none, []⟩,
         ⟨(some 5), .mv (.k (.d (.bool false))), none, [0]⟩])
        .ret)
       (.seq (.region false [⟨(some 12), .mv (.t 0), none, []⟩,
         ⟨(some 13), .idx (.t 12) (.k (.d (.int .i64 0))), none, [0]⟩,
         ⟨(some 14), .bin .eql (.t 13) (.k (.d (.int .u8 46))), none, [1]⟩,
         ⟨(some 11), .mv (.t 14), none, [2]⟩])
        (.cond (.t 11) (.seq (.region false [⟨(some 15), .mv (.t 0), none, []⟩,
           ⟨(some 16), .ssl (.t 15) (some (.k (.d (.int .i64 1)))) none, none, [0]⟩,
           ⟨(some 6), .mv (.t 16), none, [1, 0]⟩])
          (.seq (.region false [⟨(some 17), .mv (.t 6), none, []⟩,
            ⟨(some 18), .call (.k (.d (.fn (N 339)))) [(.t 17)], none, [0]⟩,
            ⟨(some 19), .un .not (.t 18), none, [1]⟩])
           (.cond (.t 19) (.seq (.region false [⟨(some 4), .mv (.k (.d (.str []))), none, []⟩,
              ⟨(some 5), .mv (.k (.d (.bool false))), none, [0]⟩])
             .ret)
            (.skip))))
         (.seq (.region false [⟨(some 21), .mv (.t 0), none, []⟩,
           ⟨(some 22), .call (.k (.d (.fn (N 257)))) [(.t 21)], none, [0]⟩,
           ⟨(some 23), .bin .geq (.t 22) (.k (.d (.int .i64 0))), none, [1]⟩,
           ⟨(some 20), .mv (.t 23), none, [2, 1]⟩])
          (.cond (.t 20) (.seq (.region false [⟨(some 24), .mv (.t 0), none, []⟩,
             ⟨(some 25), .call (.k (.d (.fn (N 340)))) [(.t 24)], none, [0]⟩,
             ⟨(some 26), .un .not (.t 25), none, [1]⟩])
            (.cond (.t 26) (.seq (.region false [⟨(some 4), .mv (.k (.d (.str []))), none, []⟩,
               ⟨(some 5), .mv (.k (.d (.bool false))), none, [0]⟩])
              .ret)
             (.skip)))
           (.seq (.region false [⟨(some 28), .mv (.t 0), none, []⟩,
             ⟨(some 29), .call (.k (.d (.fn (N 339)))) [(.t 28)], none, [0]⟩,
             ⟨(some 30), .un .not (.t 29), none, [1]⟩,
             ⟨(some 27), .mv (.t 30), none, [2, 1]⟩])
            (.cond (.t 27) (.seq (.region false [⟨(some 4), .mv (.k (.d (.str []))), none, []⟩,
               ⟨(some 5), .mv (.k (.d (.bool false))), none, [0]⟩])
              .ret)
             (.seq (.region false [⟨(some 32), .mv (.t 1), none, []⟩,
               ⟨(some 33), .bin .neq (.t 32) (.k (.d (.str []))), none, [0]⟩,
               ⟨(some 31), .mv (.t 33), none, [1]⟩])
              (.cond (.t 31) (.seq (.region false [⟨(some 34), .mv (.t 1), none, []⟩,
                 ⟨(some 35), .bin .add (.t 34) (.k (.d (.str [46]))), none, [0]⟩,
                 ⟨(some 36), .mv (.t 0), none, []⟩,
                 ⟨(some 37), .bin .add (.t 35) (.t 36), none, [1, 2]⟩,
                 ⟨(some 6), .mv (.t 37), none, [3, 0, 1, 2]⟩])
                (.seq (.region false [⟨(some 38), .mv (.t 1), none, []⟩,
                  ⟨(some 39), .call (.k (.d (.fn (N 340)))) [(.t 38)], none, [0]⟩,
                  ⟨(some 40), .un .not (.t 39), none, [1]⟩,
                  ⟨(some 41), .mv (.t 40), none, [2, 1]⟩,
                  ⟨(some 42), .mv (.t 6), (some (41, false)), [3]⟩,
                  ⟨(some 43), .call (.k (.d (.fn (N 340)))) [(.t 42)], (some (41, false)), [4, 3]⟩,
                  ⟨(some 44), .un .not (.t 43), (some (41, false)), [5, 3]⟩,
                  ⟨(some 45), .pick (.t 41) (.k (.d (.bool true))) (.t 44), none, [3, 6]⟩])
                 (.cond (.t 45) (.seq (.region false [⟨(some 4), .mv (.k (.d (.str []))), none, []⟩,
                    ⟨(some 5), .mv (.k (.d (.bool false))), none, [0]⟩])
                   .ret)
                  (.skip))))
               (.skip))))))))))))
    (.seq (.seq (.region false [⟨(some 46), .mv (.t 6), none, []⟩,
       ⟨(some 47), .call (.k (.d (.fn (N 257)))) [(.t 46)], none, [0]⟩,
       ⟨(some 48), .bin .lss (.t 47) (.k (.d (.int .i64 0))), none, [1]⟩,
       ⟨(some 49), .mv (.t 48), none, [2, 1]⟩,
       ⟨(some 50), .mv (.t 6), (some (49, true)), [3]⟩,
       ⟨(some 51), .call (.k (.d (.fn (N 341)))) [(.t 50)], (some (49, true)), [4, 3]⟩,
       ⟨(some 52), .bin .neq (.t 51) (.k (.d (.int .i64 0))), (some (49, true)), [5, 3]⟩,
       ⟨(some 53), .pick (.t 49) (.t 52) (.k (.d (.bool false))), none, [3, 6]⟩])
      (.cond (.t 53) (.seq (.region false [⟨(some 4), .mv (.k (.d (.str []))), none, []⟩,
         ⟨(some 5), .mv (.k (.d (.bool false))), none, [0]⟩])
        .ret)
       (.skip)))
     (.seq (.region false [⟨(some 54), .mv (.t 6), none, []⟩,
       ⟨(some 4), .mv (.t 54), none, [0]⟩,
       ⟨(some 5), .mv (.k (.d (.bool true))), none, [1, 0]⟩])
      .ret))))) }
def HC338 (P : Program) (N : Nat → Nat) : Prop := HasF P (N 338) (C338 N) ∧ HC339 P N ∧ HC257 P N ∧ HC340 P N ∧ HC341 P N
def f338_j145 (k : Nat) (j125_1 : (List UInt8)) : Option ((List UInt8) × Bool) := some (j125_1, true)
def f338_j125 (k : Nat) (j125_1 : (List UInt8)) : Option ((List UInt8) × Bool) := (f257 k j125_1).bind fun r130 => cond (decide (r130 < (0 : Int))) ((f341 k j125_1).bind fun r134 => cond (decide (r134 ≠ (0 : Int))) (some (([] : List UInt8), false)) (f338_j145 k j125_1)) (f338_j145 k j125_1)
def f338 (k : Nat) (a0 : (List UInt8)) (a1 : (List UInt8)) : Option ((List UInt8) × Bool) := cond (decide (a0 = ([] : List UInt8))) (some (([] : List UInt8), false)) (gd (0 ≤ (0 : Int) ∧ (0 : Int) < ((a0.length : Nat) : Int)) (cond (decide ((((a0.getD ((0 : Int)).toNat 0).toNat : Nat) : Int) = (46 : Int))) (gd (0 ≤ (1 : Int) ∧ (1 : Int) ≤ ((a0.length : Nat) : Int) ∧ ((a0.length : Nat) : Int) ≤ ((a0.length : Nat) : Int)) ((f339 k (sl a0 (1 : Int) ((a0.length : Nat) : Int))).bind fun r44 => cond (!r44) (some (([] : List UInt8), false)) (f338_j125 k (sl a0 (1 : Int) ((a0.length : Nat) : Int))))) ((f257 k a0).bind fun r58 => cond (decide (r58 ≥ (0 : Int))) ((f340 k a0).bind fun r66 => cond (!r66) (some (([] : List UInt8), false)) (f338_j125 k a0)) ((f339 k a0).bind fun r80 => cond (!r80) (some (([] : List UInt8), false)) (cond (decide (a1 ≠ ([] : List UInt8))) (gd (a1.length + ([46] : List UInt8).length ≤ 9223372036854775807) (gd ((a1 ++ ([46] : List UInt8)).length + a0.length ≤ 9223372036854775807) ((f340 k a1).bind fun r109 => cond (!r109) (some (([] : List UInt8), false)) ((f340 k ((a1 ++ ([46] : List UInt8)) ++ a0)).bind fun r113 => cond (!r113) (some (([] : List UInt8), false)) (f338_j125 k ((a1 ++ ([46] : List UInt8)) ++ a0)))))) (f338_j125 k a0))))))
theorem F338 {P : Program} {N : Nat → Nat} (hmix : P.follows .mixedOrders = true) (hc : HC338 P N) {k : Nat} {a0 : (List UInt8)} {a1 : (List UInt8)} {r : ((List UInt8) × Bool)} (h : f338 k a0 a1 = some r) :
    ACalls P (N 338) [(.d (.str a0)), (.d (.str a1))] [] (.tup [(.d (.str r.1)), (.d (.bool r.2))]) [] := by
  refine acalls_canon (F := C338 N) hc.1 0 0 rfl ?_
  unfold f338 at h
  dsimp only [C338, startL]
  refine AWc.seq ?_
  refine AWc.rg hmix rfl rfl ?_
  refine RegV.p0 rfl rfl rfl ?_
  refine RegV.p0 rfl rfl rfl ?_
  refine RegV.nil0 ?_
  refine AWc.seq ?_
  refine AWc.rg hmix rfl rfl ?_
  refine RegV.p0 rfl rfl rfl ?_
  refine RegV.p0 rfl rfl rfl ?_
  refine RegV.nil0 ?_
  refine AWc.seqS (N := 55) 0 (fun (z : (List UInt8)) => [(6, (.d (.str z)))]) (fun z => []) (fun z => f338_j125 k z = some r) rfl_le ?_ ?_
  · refine AWc.block ?_
    refine AWc.seq ?_
    refine AWc.rg hmix rfl rfl ?_
    refine RegV.p0 rfl rfl rfl ?_
    refine RegV.p0 (v := (.d (.bool (decide (a0 = ([] : List UInt8)))))) rfl rfl rfl ?_
    refine RegV.p0 rfl rfl rfl ?_
    refine RegV.nil0 ?_
    refine AWc.cond rfl (fun c19 => ?_) (fun c19 => ?_)
    · have h := cond_pos c19 h
      refine AWc.seq ?_
      refine AWc.rg hmix rfl rfl ?_
      refine RegV.p0 rfl rfl rfl ?_
      refine RegV.p0 rfl rfl rfl ?_
      refine RegV.nil0 ?_
      have hr := Option.some.inj h
      subst hr
      exact AWc.ret (canQ (N := 55) (k := 0) (l' := [(4, (.d (.str ([] : List UInt8)))), (5, (.d (.bool false)))]) (H' := []) rfl ⟨rfl, [], [], rfl, rfl, ⟨⟨_, rfl, (.refl _)⟩, rfl, ⟨⟨_, rfl, (.refl _)⟩, rfl, trivial⟩⟩,  trivial⟩ (doneA (.inr rfl) rfl ⟨trivial, ⟨trivial, trivial⟩⟩ (.refl _) hasNil))
    · have h := cond_neg c19 h
      refine AWc.seq ?_
      refine AWc.rg hmix rfl rfl ?_
      refine RegV.p0 rfl rfl rfl ?_
      obtain ⟨b30, h⟩ := gd_some h
      refine RegV.p1 (v := (.d (.int .u8 (((a0.getD ((0 : Int)).toNat 0).toNat : Nat) : Int)))) rfl rfl b30 rfl rfl ?_
      refine RegV.p0 (v := (.d (.bool (decide ((((a0.getD ((0 : Int)).toNat 0).toNat : Nat) : Int) = (46 : Int)))))) rfl rfl rfl ?_
      refine RegV.p0 rfl rfl rfl ?_
      refine RegV.nil0 ?_
      refine AWc.cond rfl (fun c33 => ?_) (fun c33 => ?_)
      · have h := cond_pos c33 h
        refine AWc.seq ?_
        refine AWc.rg hmix rfl rfl ?_
        refine RegV.p0 rfl rfl rfl ?_
        obtain ⟨b38, h⟩ := gd_some h
        refine RegV.p1 (v := (.d (.str (sl a0 (1 : Int) ((a0.length : Nat) : Int))))) rfl rfl b38 rfl rfl ?_
        refine RegV.p0 rfl rfl rfl ?_
        refine RegV.nil0 ?_
        refine AWc.seq ?_
        refine AWc.rg hmix rfl rfl ?_
        refine RegV.p0 rfl rfl rfl ?_
        obtain ⟨r44, e44, h⟩ := bind_some h
        refine RegV.call0 (F339 hmix hc.2.1 e44) rfl rfl rfl rfl (.cons (.refl _) .nil) rfl ?_
        refine RegV.p0 (v := (.d (.bool (!r44)))) rfl rfl rfl ?_
        refine RegV.nil0 ?_
        refine AWc.cond rfl (fun c46 => ?_) (fun c46 => ?_)
        · have h := cond_pos c46 h
          refine AWc.seq ?_
          refine AWc.rg hmix rfl rfl ?_
          refine RegV.p0 rfl rfl rfl ?_
          refine RegV.p0 rfl rfl rfl ?_
          refine RegV.nil0 ?_
          have hr := Option.some.inj h
          subst hr
          exact AWc.ret (canQ (N := 55) (k := 0) (l' := [(4, (.d (.str ([] : List UInt8)))), (5, (.d (.bool false)))]) (H' := []) rfl ⟨rfl, [], [], rfl, rfl, ⟨⟨_, rfl, (.refl _)⟩, rfl, ⟨⟨_, rfl, (.refl _)⟩, rfl, trivial⟩⟩,  trivial⟩ (doneA (.inr rfl) rfl ⟨trivial, ⟨trivial, trivial⟩⟩ (.refl _) hasNil))
        · have h := cond_neg c46 h
          refine AWc.skip ?_
          exact ⟨(sl a0 (1 : Int) ((a0.length : Nat) : Int)), h, ⟨rfl, [], [], rfl, rfl, ⟨⟨_, rfl, (.refl _)⟩, rfl, trivial⟩,  trivial⟩⟩
      · have h := cond_neg c33 h
        refine AWc.seq ?_
        refine AWc.rg hmix rfl rfl ?_
        refine RegV.p0 rfl rfl rfl ?_
        obtain ⟨r58, e58, h⟩ := bind_some h
        refine RegV.call0 (F257 hmix hc.2.2.1 e58) rfl rfl rfl rfl (.cons (.refl _) .nil) rfl ?_
        refine RegV.p0 (v := (.d (.bool (decide (r58 ≥ (0 : Int)))))) rfl rfl rfl ?_
        refine RegV.p0 rfl rfl rfl ?_
        refine RegV.nil0 ?_
        refine AWc.cond rfl (fun c61 => ?_) (fun c61 => ?_)
        · have h := cond_pos c61 h
          refine AWc.seq ?_
          refine AWc.rg hmix rfl rfl ?_
          refine RegV.p0 rfl rfl rfl ?_
          obtain ⟨r66, e66, h⟩ := bind_some h
          refine RegV.call0 (F340 hmix hc.2.2.2.1 e66) rfl rfl rfl rfl (.cons (.refl _) .nil) rfl ?_
          refine RegV.p0 (v := (.d (.bool (!r66)))) rfl rfl rfl ?_
          refine RegV.nil0 ?_
          refine AWc.cond rfl (fun c68 => ?_) (fun c68 => ?_)
          · have h := cond_pos c68 h
            refine AWc.seq ?_
            refine AWc.rg hmix rfl rfl ?_
            refine RegV.p0 rfl rfl rfl ?_
            refine RegV.p0 rfl rfl rfl ?_
            refine RegV.nil0 ?_
            have hr := Option.some.inj h
            subst hr
            exact AWc.ret (canQ (N := 55) (k := 0) (l' := [(4, (.d (.str ([] : List UInt8)))), (5, (.d (.bool false)))]) (H' := []) rfl ⟨rfl, [], [], rfl, rfl, ⟨⟨_, rfl, (.refl _)⟩, rfl, ⟨⟨_, rfl, (.refl _)⟩, rfl, trivial⟩⟩,  trivial⟩ (doneA (.inr rfl) rfl ⟨trivial, ⟨trivial, trivial⟩⟩ (.refl _) hasNil))
          · have h := cond_neg c68 h
            refine AWc.skip ?_
            exact ⟨a0, h, ⟨rfl, [], [], rfl, rfl, ⟨⟨_, rfl, (.refl _)⟩, rfl, trivial⟩,  trivial⟩⟩
        · have h := cond_neg c61 h
          refine AWc.seq ?_
          refine AWc.rg hmix rfl rfl ?_
          refine RegV.p0 rfl rfl rfl ?_
          obtain ⟨r80, e80, h⟩ := bind_some h
          refine RegV.call0 (F339 hmix hc.2.1 e80) rfl rfl rfl rfl (.cons (.refl _) .nil) rfl ?_
          refine RegV.p0 (v := (.d (.bool (!r80)))) rfl rfl rfl ?_
          refine RegV.p0 rfl rfl rfl ?_
          refine RegV.nil0 ?_
          refine AWc.cond rfl (fun c83 => ?_) (fun c83 => ?_)
          · have h := cond_pos c83 h
            refine AWc.seq ?_
            refine AWc.rg hmix rfl rfl ?_
            refine RegV.p0 rfl rfl rfl ?_
            refine RegV.p0 rfl rfl rfl ?_
            refine RegV.nil0 ?_
            have hr := Option.some.inj h
            subst hr
            exact AWc.ret (canQ (N := 55) (k := 0) (l' := [(4, (.d (.str ([] : List UInt8)))), (5, (.d (.bool false)))]) (H' := []) rfl ⟨rfl, [], [], rfl, rfl, ⟨⟨_, rfl, (.refl _)⟩, rfl, ⟨⟨_, rfl, (.refl _)⟩, rfl, trivial⟩⟩,  trivial⟩ (doneA (.inr rfl) rfl ⟨trivial, ⟨trivial, trivial⟩⟩ (.refl _) hasNil))
          · have h := cond_neg c83 h
            refine AWc.seq ?_
            refine AWc.rg hmix rfl rfl ?_
            refine RegV.p0 rfl rfl rfl ?_
            refine RegV.p0 (v := (.d (.bool (decide (a1 ≠ ([] : List UInt8)))))) rfl rfl rfl ?_
            refine RegV.p0 rfl rfl rfl ?_
            refine RegV.nil0 ?_
            refine AWc.cond rfl (fun c96 => ?_) (fun c96 => ?_)
            · have h := cond_pos c96 h
              refine AWc.seq ?_
              refine AWc.rg hmix rfl rfl ?_
              refine RegV.p0 rfl rfl rfl ?_
              obtain ⟨b101, h⟩ := gd_some h
              refine RegV.p1 (v := (.d (.str (a1 ++ ([46] : List UInt8))))) rfl rfl b101 rfl rfl ?_
              refine RegV.p0 rfl rfl rfl ?_
              obtain ⟨b103, h⟩ := gd_some h
              refine RegV.p1 (v := (.d (.str ((a1 ++ ([46] : List UInt8)) ++ a0)))) rfl rfl b103 rfl rfl ?_
              refine RegV.p0 rfl rfl rfl ?_
              refine RegV.nil0 ?_
              refine AWc.seq ?_
              refine AWc.rg hmix rfl rfl ?_
              refine RegV.p0 rfl rfl rfl ?_
              obtain ⟨r109, e109, h⟩ := bind_some h
              refine RegV.call0 (F340 hmix hc.2.2.2.1 e109) rfl rfl rfl rfl (.cons (.refl _) .nil) rfl ?_
              refine RegV.p0 (v := (.d (.bool (!r109)))) rfl rfl rfl ?_
              refine RegV.p0 rfl rfl rfl ?_
              refine RegV.split (fun c111 => ?_) (fun c111 => ?_)
              · have h := cond_pos c111 h
                refine RegV.noS rfl rfl ?_
                refine RegV.noS rfl rfl ?_
                refine RegV.noS rfl rfl ?_
                refine RegV.p0 rfl rfl rfl ?_
                refine RegV.nil0 ?_
                refine AWc.cond rfl (fun _ => ?_) (fun hc => by cases hc)
                refine AWc.seq ?_
                refine AWc.rg hmix rfl rfl ?_
                refine RegV.p0 rfl rfl rfl ?_
                refine RegV.p0 rfl rfl rfl ?_
                refine RegV.nil0 ?_
                have hr := Option.some.inj h
                subst hr
                exact AWc.ret (canQ (N := 55) (k := 0) (l' := [(4, (.d (.str ([] : List UInt8)))), (5, (.d (.bool false)))]) (H' := []) rfl ⟨rfl, [], [], rfl, rfl, ⟨⟨_, rfl, (.refl _)⟩, rfl, ⟨⟨_, rfl, (.refl _)⟩, rfl, trivial⟩⟩,  trivial⟩ (doneA (.inr rfl) rfl ⟨trivial, ⟨trivial, trivial⟩⟩ (.refl _) hasNil))
              · have h := cond_neg c111 h
                refine RegV.p0 rfl rfl rfl ?_
                obtain ⟨r113, e113, h⟩ := bind_some h
                refine RegV.call0 (F340 hmix hc.2.2.2.1 e113) rfl rfl rfl rfl (.cons (.refl _) .nil) rfl ?_
                refine RegV.p0 (v := (.d (.bool (!r113)))) rfl rfl rfl ?_
                refine RegV.p0 rfl rfl rfl ?_
                refine RegV.nil0 ?_
                refine AWc.cond rfl (fun c116 => ?_) (fun c116 => ?_)
                · have h := cond_pos c116 h
                  refine AWc.seq ?_
                  refine AWc.rg hmix rfl rfl ?_
                  refine RegV.p0 rfl rfl rfl ?_
                  refine RegV.p0 rfl rfl rfl ?_
                  refine RegV.nil0 ?_
                  have hr := Option.some.inj h
                  subst hr
                  exact AWc.ret (canQ (N := 55) (k := 0) (l' := [(4, (.d (.str ([] : List UInt8)))), (5, (.d (.bool false)))]) (H' := []) rfl ⟨rfl, [], [], rfl, rfl, ⟨⟨_, rfl, (.refl _)⟩, rfl, ⟨⟨_, rfl, (.refl _)⟩, rfl, trivial⟩⟩,  trivial⟩ (doneA (.inr rfl) rfl ⟨trivial, ⟨trivial, trivial⟩⟩ (.refl _) hasNil))
                · have h := cond_neg c116 h
                  refine AWc.skip ?_
                  exact ⟨((a1 ++ ([46] : List UInt8)) ++ a0), h, ⟨rfl, [], [], rfl, rfl, ⟨⟨_, rfl, (.refl _)⟩, rfl, trivial⟩,  trivial⟩⟩
            · have h := cond_neg c96 h
              refine AWc.skip ?_
              exact ⟨a0, h, ⟨rfl, [], [], rfl, rfl, ⟨⟨_, rfl, (.refl _)⟩, rfl, trivial⟩,  trivial⟩⟩
  · intro j125_1 h
    unfold f338_j125 at h
    refine AWc.seqS (N := 55) 0 (fun (z : Unit) => [(6, (.d (.str j125_1)))]) (fun z => []) (fun z => f338_j145 k j125_1 = some r) rfl_le ?_ ?_
    · refine AWc.seq ?_
      refine AWc.rg hmix rfl rfl ?_
      refine RegV.p0 rfl rfl rfl ?_
      obtain ⟨r130, e130, h⟩ := bind_some h
      refine RegV.call0 (F257 hmix hc.2.2.1 e130) rfl rfl rfl rfl (.cons (.refl _) .nil) rfl ?_
      refine RegV.p0 (v := (.d (.bool (decide (r130 < (0 : Int)))))) rfl rfl rfl ?_
      refine RegV.p0 rfl rfl rfl ?_
      refine RegV.split (fun c132 => ?_) (fun c132 => ?_)
      · have h := cond_pos c132 h
        refine RegV.p0 rfl rfl rfl ?_
        obtain ⟨r134, e134, h⟩ := bind_some h
        refine RegV.call0 (F341 hmix hc.2.2.2.2 e134) rfl rfl rfl rfl (.cons (.refl _) .nil) rfl ?_
        refine RegV.p0 (v := (.d (.bool (decide (r134 ≠ (0 : Int)))))) rfl rfl rfl ?_
        refine RegV.p0 rfl rfl rfl ?_
        refine RegV.nil0 ?_
        refine AWc.cond rfl (fun c137 => ?_) (fun c137 => ?_)
        · have h := cond_pos c137 h
          refine AWc.seq ?_
          refine AWc.rg hmix rfl rfl ?_
          refine RegV.p0 rfl rfl rfl ?_
          refine RegV.p0 rfl rfl rfl ?_
          refine RegV.nil0 ?_
          have hr := Option.some.inj h
          subst hr
          exact AWc.ret (canQ (N := 55) (k := 0) (l' := [(4, (.d (.str ([] : List UInt8)))), (5, (.d (.bool false)))]) (H' := []) rfl ⟨rfl, [], [], rfl, rfl, ⟨⟨_, rfl, (.refl _)⟩, rfl, ⟨⟨_, rfl, (.refl _)⟩, rfl, trivial⟩⟩,  trivial⟩ (doneA (.inr rfl) rfl ⟨trivial, ⟨trivial, trivial⟩⟩ (.refl _) hasNil))
        · have h := cond_neg c137 h
          refine AWc.skip ?_
          exact ⟨(), h, ⟨rfl, [], [], rfl, rfl, ⟨⟨_, rfl, (.refl _)⟩, rfl, trivial⟩,  trivial⟩⟩
      · have h := cond_neg c132 h
        refine RegV.noS rfl rfl ?_
        refine RegV.noS rfl rfl ?_
        refine RegV.noS rfl rfl ?_
        refine RegV.p0 rfl rfl rfl ?_
        refine RegV.nil0 ?_
        refine AWc.cond rfl (fun hc => by cases hc) (fun _ => ?_)
        refine AWc.skip ?_
        exact ⟨(), h, ⟨rfl, [], [], rfl, rfl, ⟨⟨_, rfl, (.refl _)⟩, rfl, trivial⟩,  trivial⟩⟩
    · rintro ⟨⟩ h
      unfold f338_j145 at h
      refine AWc.seq ?_
      refine AWc.rg hmix rfl rfl ?_
      refine RegV.p0 rfl rfl rfl ?_
      refine RegV.p0 rfl rfl rfl ?_
      refine RegV.p0 rfl rfl rfl ?_
      refine RegV.nil0 ?_
      have hr := Option.some.inj h
      subst hr
      exact AWc.ret (canQ (N := 55) (k := 0) (l' := [(4, (.d (.str j125_1))), (5, (.d (.bool true)))]) (H' := []) rfl ⟨rfl, [], [], rfl, rfl, ⟨⟨_, rfl, (.refl _)⟩, rfl, ⟨⟨_, rfl, (.refl _)⟩, rfl, trivial⟩⟩,  trivial⟩ (doneA (.inr rfl) rfl ⟨trivial, ⟨trivial, trivial⟩⟩ (.refl _) hasNil))
/-- courant/courantlaw03.NamesMake -/
def C315 (N : Nat → Nat) : AFunc := { n := 41, params := 2, res := [.tmp 4], body :=
 (.seq (.region false [⟨(some 4), .mv (.k (.d (.bool false))), none, []⟩])
  (.seq (.seq (.region false [⟨(some 9), .mv (.t 0), none, []⟩,
     ⟨(some 10), .slen (.t 9), none, [0]⟩,
     ⟨(some 11), .bin .gtr (.t 10) (.k (.d (.int .i64 5000))), none, [1]⟩,
     ⟨(some 12), .mv (.t 11), none, [2]⟩,
     ⟨(some 13), .mv (.t 1), (some (12, false)), [3]⟩,
     ⟨(some 14), .slen (.t 13), (some (12, false)), [4, 3]⟩,
     ⟨(some 15), .bin .gtr (.t 14) (.k (.d (.int .i64 5000))), (some (12, false)), [5, 3]⟩,
     ⟨(some 16), .pick (.t 12) (.k (.d (.bool true))) (.t 15), none, [3, 6]⟩])
    (.cond (.t 16) (.seq (.region false [⟨(some 17), .call (.k (.d (.fn (N 316)))) [], none, []⟩,
       ⟨(some 4), .mv (.t 17), none, [0]⟩])
      .ret)
     (.skip)))
   (.seq (.region false [⟨(some 19), .mv (.t 0), none, []⟩,
     ⟨(some 20), .mv (.t 1), none, []⟩,
     ⟨(some 21), .call (.k (.d (.fn (N 317)))) [(.t 19), (.t 20)], none, [0, 1]⟩,
     ⟨(some 18), .mv (.t 21), none, [2]⟩,
     ⟨(some 22), .ext (.t 18) 0, none, [3]⟩,
     ⟨(some 23), .ext (.t 18) 1, none, [3]⟩,
     ⟨(some 5), .mv (.t 22), none, [4, 2, 0, 1, 3]⟩,
     ⟨(some 6), .mv (.t 23), none, [5, 6, 0, 1, 2, 3, 4]⟩])
    (.seq (.region false [⟨(some 25), .mv (.t 0), none, []⟩,
      ⟨(some 26), .mv (.t 1), none, []⟩,
      ⟨(some 27), .call (.k (.d (.fn (N 338)))) [(.t 25), (.t 26)], none, [0, 1]⟩,
      ⟨(some 24), .mv (.t 27), none, [2]⟩,
      ⟨(some 28), .ext (.t 24) 0, none, [3]⟩,
      ⟨(some 29), .ext (.t 24) 1, none, [3]⟩,
      ⟨(some 7), .mv (.t 28), none, [4, 2, 0, 1, 3]⟩,
      ⟨(some 8), .mv (.t 29), none, [5, 6, 0, 1, 2, 3, 4]⟩])
     (.seq (.region false [⟨(some 30), .call (.k (.d (.fn (N 316)))) [], none, []⟩,
       ⟨(some 31), .mv (.t 30), none, [0]⟩,
       ⟨(some 32), .mv (.t 5), (some (31, true)), [1]⟩,
       ⟨(some 33), .mv (.t 7), (some (31, true)), [1]⟩,
       ⟨(some 34), .bin .eql (.t 32) (.t 33), (some (31, true)), [2, 3, 1]⟩,
       ⟨(some 35), .pick (.t 31) (.t 34) (.k (.d (.bool false))), none, [1, 4]⟩,
       ⟨(some 36), .mv (.t 35), none, [5, 1]⟩,
       ⟨(some 37), .mv (.t 6), (some (36, true)), [6]⟩,
       ⟨(some 38), .mv (.t 8), (some (36, true)), [6]⟩,
       ⟨(some 39), .beq false (.t 37) (.t 38), (some (36, true)), [7, 8, 6]⟩,
       ⟨(some 40), .pick (.t 36) (.t 39) (.k (.d (.bool false))), none, [6, 9]⟩,
       ⟨(some 4), .mv (.t 40), none, [10, 6, 0, 1, 2, 3, 4, 5, 7, 8, 9]⟩])
      .ret))))) }
def HC315 (P : Program) (N : Nat → Nat) : Prop := HasF P (N 315) (C315 N) ∧ HC316 P N ∧ HC317 P N ∧ HC338 P N
def f315 (k : Nat) (a0 : (List UInt8)) (a1 : (List UInt8)) : Option Bool := cond (decide (((a0.length : Nat) : Int) > (5000 : Int))) ((f316 k).bind fun r21 => some r21) (cond (decide (((a1.length : Nat) : Int) > (5000 : Int))) ((f316 k).bind fun r21 => some r21) ((f317 k a0 a1).bind fun r30 => (f338 k a0 a1).bind fun r41 => (f316 k).bind fun r50 => cond r50 (cond (decide (r30.1 = r41.1)) (some (r30.2 == r41.2)) (some false)) (some false)))
theorem F315 {P : Program} {N : Nat → Nat} (hmix : P.follows .mixedOrders = true) (hc : HC315 P N) {k : Nat} {a0 : (List UInt8)} {a1 : (List UInt8)} {r : Bool} (h : f315 k a0 a1 = some r) :
    ACalls P (N 315) [(.d (.str a0)), (.d (.str a1))] [] (.d (.bool r)) [] := by
  refine acalls_canon (F := C315 N) hc.1 0 0 rfl ?_
  unfold f315 at h
  dsimp only [C315, startL]
  refine AWc.seq ?_
  refine AWc.rg hmix rfl rfl ?_
  refine RegV.p0 rfl rfl rfl ?_
  refine RegV.nil0 ?_
  refine AWc.seq ?_
  refine AWc.seq ?_
  refine AWc.rg hmix rfl rfl ?_
  refine RegV.p0 rfl rfl rfl ?_
  refine RegV.p0 (v := (.d (.int .i64 ((a0.length : Nat) : Int)))) rfl rfl rfl ?_
  refine RegV.p0 (v := (.d (.bool (decide (((a0.length : Nat) : Int) > (5000 : Int)))))) rfl rfl rfl ?_
  refine RegV.p0 rfl rfl rfl ?_
  refine RegV.split (fun c12 => ?_) (fun c12 => ?_)
  · have h := cond_pos c12 h
    refine RegV.noS rfl rfl ?_
    refine RegV.noS rfl rfl ?_
    refine RegV.noS rfl rfl ?_
    refine RegV.p0 rfl rfl rfl ?_
    refine RegV.nil0 ?_
    refine AWc.cond rfl (fun _ => ?_) (fun hc => by cases hc)
    refine AWc.seq ?_
    refine AWc.rg hmix rfl rfl ?_
    obtain ⟨r21, e21, h⟩ := bind_some h
    refine RegV.call0 (F316 hmix hc.2.1 e21) rfl rfl rfl rfl .nil rfl ?_
    refine RegV.p0 rfl rfl rfl ?_
    refine RegV.nil0 ?_
    have hr := Option.some.inj h
    subst hr
    exact AWc.ret (canQ (N := 41) (k := 0) (l' := [(4, (.d (.bool r21)))]) (H' := []) rfl ⟨rfl, [], [], rfl, rfl, ⟨⟨_, rfl, (.refl _)⟩, rfl, trivial⟩,  trivial⟩ (doneA (.inr rfl) rfl ⟨trivial, trivial⟩ (.refl _) hasNil))
  · have h := cond_neg c12 h
    refine RegV.p0 rfl rfl rfl ?_
    refine RegV.p0 (v := (.d (.int .i64 ((a1.length : Nat) : Int)))) rfl rfl rfl ?_
    refine RegV.p0 (v := (.d (.bool (decide (((a1.length : Nat) : Int) > (5000 : Int)))))) rfl rfl rfl ?_
    refine RegV.p0 rfl rfl rfl ?_
    refine RegV.nil0 ?_
    refine AWc.cond rfl (fun c17 => ?_) (fun c17 => ?_)
    · have h := cond_pos c17 h
      refine AWc.seq ?_
      refine AWc.rg hmix rfl rfl ?_
      obtain ⟨r21, e21, h⟩ := bind_some h
      refine RegV.call0 (F316 hmix hc.2.1 e21) rfl rfl rfl rfl .nil rfl ?_
      refine RegV.p0 rfl rfl rfl ?_
      refine RegV.nil0 ?_
      have hr := Option.some.inj h
      subst hr
      exact AWc.ret (canQ (N := 41) (k := 0) (l' := [(4, (.d (.bool r21)))]) (H' := []) rfl ⟨rfl, [], [], rfl, rfl, ⟨⟨_, rfl, (.refl _)⟩, rfl, trivial⟩,  trivial⟩ (doneA (.inr rfl) rfl ⟨trivial, trivial⟩ (.refl _) hasNil))
    · have h := cond_neg c17 h
      refine AWc.skip ?_
      refine AWc.seq ?_
      refine AWc.rg hmix rfl rfl ?_
      refine RegV.p0 rfl rfl rfl ?_
      refine RegV.p0 rfl rfl rfl ?_
      obtain ⟨r30, e30, h⟩ := bind_some h
      refine RegV.call0 (F317 hmix hc.2.2.1 e30) rfl rfl rfl rfl (.cons (.refl _) (.cons (.refl _) .nil)) rfl ?_
      refine RegV.p0 rfl rfl rfl ?_
      refine RegV.p0 rfl rfl rfl ?_
      refine RegV.p0 rfl rfl rfl ?_
      refine RegV.p0 rfl rfl rfl ?_
      refine RegV.p0 rfl rfl rfl ?_
      refine RegV.nil0 ?_
      refine AWc.seq ?_
      refine AWc.rg hmix rfl rfl ?_
      refine RegV.p0 rfl rfl rfl ?_
      refine RegV.p0 rfl rfl rfl ?_
      obtain ⟨r41, e41, h⟩ := bind_some h
      refine RegV.call0 (F338 hmix hc.2.2.2 e41) rfl rfl rfl rfl (.cons (.refl _) (.cons (.refl _) .nil)) rfl ?_
      refine RegV.p0 rfl rfl rfl ?_
      refine RegV.p0 rfl rfl rfl ?_
      refine RegV.p0 rfl rfl rfl ?_
      refine RegV.p0 rfl rfl rfl ?_
      refine RegV.p0 rfl rfl rfl ?_
      refine RegV.nil0 ?_
      refine AWc.seq ?_
      refine AWc.rg hmix rfl rfl ?_
      obtain ⟨r50, e50, h⟩ := bind_some h
      refine RegV.call0 (F316 hmix hc.2.1 e50) rfl rfl rfl rfl .nil rfl ?_
      refine RegV.p0 rfl rfl rfl ?_
      refine RegV.split (fun c51 => ?_) (fun c51 => ?_)
      · have h := cond_pos c51 h
        refine RegV.p0 rfl rfl rfl ?_
        refine RegV.p0 rfl rfl rfl ?_
        refine RegV.p0 (v := (.d (.bool (decide (r30.1 = r41.1))))) rfl rfl rfl ?_
        refine RegV.p0 rfl rfl rfl ?_
        refine RegV.p0 rfl rfl rfl ?_
        refine RegV.split (fun c56 => ?_) (fun c56 => ?_)
        · have h := cond_pos c56 h
          refine RegV.p0 rfl rfl rfl ?_
          refine RegV.p0 rfl rfl rfl ?_
          refine RegV.p0 (v := (.d (.bool (r30.2 == r41.2)))) rfl rfl rfl ?_
          refine RegV.p0 rfl rfl rfl ?_
          refine RegV.p0 rfl rfl rfl ?_
          refine RegV.nil0 ?_
          have hr := Option.some.inj h
          subst hr
          exact AWc.ret (canQ (N := 41) (k := 0) (l' := [(4, (.d (.bool (r30.2 == r41.2))))]) (H' := []) rfl ⟨rfl, [], [], rfl, rfl, ⟨⟨_, rfl, (.refl _)⟩, rfl, trivial⟩,  trivial⟩ (doneA (.inr rfl) rfl ⟨trivial, trivial⟩ (.refl _) hasNil))
        · have h := cond_neg c56 h
          refine RegV.noS rfl rfl ?_
          refine RegV.noS rfl rfl ?_
          refine RegV.noS rfl rfl ?_
          refine RegV.p0 rfl rfl rfl ?_
          refine RegV.p0 rfl rfl rfl ?_
          refine RegV.nil0 ?_
          have hr := Option.some.inj h
          subst hr
          exact AWc.ret (canQ (N := 41) (k := 0) (l' := [(4, (.d (.bool false)))]) (H' := []) rfl ⟨rfl, [], [], rfl, rfl, ⟨⟨_, rfl, (.refl _)⟩, rfl, trivial⟩,  trivial⟩ (doneA (.inr rfl) rfl ⟨trivial, trivial⟩ (.refl _) hasNil))
      · have h := cond_neg c51 h
        refine RegV.noS rfl rfl ?_
        refine RegV.noS rfl rfl ?_
        refine RegV.noS rfl rfl ?_
        refine RegV.p0 rfl rfl rfl ?_
        refine RegV.p0 rfl rfl rfl ?_
        refine RegV.noS rfl rfl ?_
        refine RegV.noS rfl rfl ?_
        refine RegV.noS rfl rfl ?_
        refine RegV.p0 rfl rfl rfl ?_
        refine RegV.p0 rfl rfl rfl ?_
        refine RegV.nil0 ?_
        have hr := Option.some.inj h
        subst hr
        exact AWc.ret (canQ (N := 41) (k := 0) (l' := [(4, (.d (.bool false)))]) (H' := []) rfl ⟨rfl, [], [], rfl, rfl, ⟨⟨_, rfl, (.refl _)⟩, rfl, trivial⟩,  trivial⟩ (doneA (.inr rfl) rfl ⟨trivial, trivial⟩ (.refl _) hasNil))
/-- internal/bytealg.LastIndexByteString -/
def C238 (N : Nat → Nat) : AFunc := { n := 19, params := 2, res := [.tmp 4], body :=
 (.seq (.region false [⟨(some 4), .mv (.k (.d (.int .i64 0))), none, []⟩])
  (.seq (.seq (.region false [⟨(some 6), .mv (.t 0), none, []⟩,
     ⟨(some 7), .slen (.t 6), none, [0]⟩,
     ⟨(some 8), .bin .sub (.t 7) (.k (.d (.int .i64 1))), none, [1]⟩,
     ⟨(some 5), .mv (.t 8), none, [2, 0, 1]⟩])
    (.block 0 (.loop (.seq (.seq (.region false [⟨(some 9), .mv (.t 5), none, []⟩,
         ⟨(some 10), .bin .geq (.t 9) (.k (.d (.int .i64 0))), none, [0]⟩])
        (.cond (.t 10) (.skip)
         (.exit 0)))
       (.seq (.block 1 (.seq (.region false [⟨(some 13), .mv (.t 0), none, []⟩,
           ⟨(some 14), .mv (.t 5), none, []⟩,
           ⟨(some 15), .idx (.t 13) (.t 14), none, [0, 1]⟩,
           ⟨(some 16), .mv (.t 1), none, []⟩,
           ⟨(some 17), .bin .eql (.t 15) (.t 16), none, [2, 3]⟩])
          (.cond (.t 17) (.seq (.region false [⟨(some 18), .mv (.t 5), none, []⟩,
             ⟨(some 4), .mv (.t 18), none, [0]⟩])
            .ret)
           (.skip))))
        (.region false [⟨(some 11), .mv (.t 5), none, []⟩,
         ⟨(some 12), .bin .sub (.t 11) (.k (.d (.int .i64 1))), none, [0]⟩,
         ⟨(some 5), .mv (.t 12), none, [1, 0]⟩]))))))
   (.seq (.region false [⟨(some 4), .mv (.k (.d (.int .i64 (-1)))), none, []⟩])
    .ret))) }
def HC238 (P : Program) (N : Nat → Nat) : Prop := HasF P (N 238) (C238 N)
def f238_l13 (a0 : (List UInt8)) (a1 : UInt8) : Nat → Int → Option (LR2 Unit Unit Int)
  | 0, _ => none
  | k + 1, y13_1 => cond (decide (y13_1 ≥ (0 : Int))) (gd (0 ≤ y13_1 ∧ y13_1 < ((a0.length : Nat) : Int)) (cond (decide ((((a0.getD (y13_1).toNat 0).toNat : Nat) : Int) = ((a1.toNat : Nat) : Int))) (some (.r y13_1)) (f238_l13 a0 a1 k (IntKind.i64.wrap (y13_1 - (1 : Int)))))) (some (.b0 ()))
def f238 (k : Nat) (a0 : (List UInt8)) (a1 : UInt8) : Option Int := (f238_l13 a0 a1 k (IntKind.i64.wrap (((a0.length : Nat) : Int) - (1 : Int)))).bind fun o13 => (match o13 with | .b0 () => some (-1 : Int) | .r x => some x | _ => none)
theorem F238 {P : Program} {N : Nat → Nat} (hmix : P.follows .mixedOrders = true) (hc : HC238 P N) {k : Nat} {a0 : (List UInt8)} {a1 : UInt8} {r : Int} (h : f238 k a0 a1 = some r) :
    ACalls P (N 238) [(.d (.str a0)), (.d (.int .u8 ((a1.toNat : Nat) : Int)))] [] (.d (.int .i64 r)) [] := by
  refine acalls_canon (F := C238 N) hc 0 0 rfl ?_
  unfold f238 at h
  dsimp only [C238, startL]
  refine AWc.seq ?_
  refine AWc.rg hmix rfl rfl ?_
  refine RegV.p0 rfl rfl rfl ?_
  refine RegV.nil0 ?_
  refine AWc.seq ?_
  refine AWc.seq ?_
  refine AWc.rg hmix rfl rfl ?_
  refine RegV.p0 rfl rfl rfl ?_
  refine RegV.p0 (v := (.d (.int .i64 ((a0.length : Nat) : Int)))) rfl rfl rfl ?_
  refine RegV.p0 (v := (.d (.int .i64 (IntKind.i64.wrap (((a0.length : Nat) : Int) - (1 : Int)))))) rfl rfl rfl ?_
  refine RegV.p0 rfl rfl rfl ?_
  refine RegV.nil0 ?_
  obtain ⟨o13, h13, h⟩ := bind_some h
  refine AWc.block ?_
  refine AWc.loopK (N := 19) 0 (fun (x : Int) => [(0, (.d (.str a0))), (1, (.d (.int .u8 ((a1.toNat : Nat) : Int)))), (5, (.d (.int .i64 x)))]) (fun x => []) (fun k x => f238_l13 a0 a1 k x = some o13) k (IntKind.i64.wrap (((a0.length : Nat) : Int) - (1 : Int))) rfl_le (fun x hx => by cases hx) h13 ⟨rfl, [], [], rfl, rfl, ⟨⟨_, rfl, (.refl _)⟩, rfl, ⟨⟨_, rfl, (.refl _)⟩, rfl, ⟨⟨_, rfl, (.refl _)⟩, rfl, trivial⟩⟩⟩,  trivial⟩ ?_
  clear h13
  intro k
  intro y13_1 h13
  rw [f238_l13] at h13
  refine AWc.seq ?_
  refine AWc.seq ?_
  refine AWc.rg hmix rfl rfl ?_
  refine RegV.p0 rfl rfl rfl ?_
  refine RegV.p0 (v := (.d (.bool (decide (y13_1 ≥ (0 : Int)))))) rfl rfl rfl ?_
  refine RegV.nil0 ?_
  refine AWc.cond rfl (fun c21 => ?_) (fun c21 => ?_)
  · have h13 := cond_pos c21 h13
    refine AWc.skip ?_
    refine AWc.seq ?_
    refine AWc.block ?_
    refine AWc.seq ?_
    refine AWc.rg hmix rfl rfl ?_
    refine RegV.p0 rfl rfl rfl ?_
    refine RegV.p0 rfl rfl rfl ?_
    obtain ⟨b31, h13⟩ := gd_some h13
    refine RegV.p1 (v := (.d (.int .u8 (((a0.getD (y13_1).toNat 0).toNat : Nat) : Int)))) rfl rfl b31 rfl rfl ?_
    refine RegV.p0 rfl rfl rfl ?_
    refine RegV.p0 (v := (.d (.bool (decide ((((a0.getD (y13_1).toNat 0).toNat : Nat) : Int) = ((a1.toNat : Nat) : Int)))))) rfl rfl rfl ?_
    refine RegV.nil0 ?_
    refine AWc.cond rfl (fun c34 => ?_) (fun c34 => ?_)
    · have h13 := cond_pos c34 h13
      refine AWc.seq ?_
      refine AWc.rg hmix rfl rfl ?_
      refine RegV.p0 rfl rfl rfl ?_
      refine RegV.p0 rfl rfl rfl ?_
      refine RegV.nil0 ?_
      cases h13
      dsimp only at h
      have hr := Option.some.inj h
      subst hr
      exact AWc.ret (canQ (N := 19) (k := 0) (l' := [(4, (.d (.int .i64 y13_1)))]) (H' := []) rfl ⟨rfl, [], [], rfl, rfl, ⟨⟨_, rfl, (.refl _)⟩, rfl, trivial⟩,  trivial⟩ (doneA (.inr rfl) rfl ⟨trivial, trivial⟩ (.refl _) hasNil))
    · have h13 := cond_neg c34 h13
      refine AWc.skip ?_
      refine AWc.rg hmix rfl rfl ?_
      refine RegV.p0 rfl rfl rfl ?_
      refine RegV.p0 (v := (.d (.int .i64 (IntKind.i64.wrap (y13_1 - (1 : Int)))))) rfl rfl rfl ?_
      refine RegV.p0 rfl rfl rfl ?_
      refine RegV.nil0 ?_
      exact ⟨(IntKind.i64.wrap (y13_1 - (1 : Int))), h13, ⟨rfl, [], [], rfl, rfl, ⟨⟨_, rfl, (.refl _)⟩, rfl, ⟨⟨_, rfl, (.refl _)⟩, rfl, ⟨⟨_, rfl, (.refl _)⟩, rfl, trivial⟩⟩⟩,  trivial⟩⟩
  · have h13 := cond_neg c21 h13
    cases h13
    dsimp only at h
    refine AWc.exit ?_
    refine inBlk_eq ?_
    refine AWc.seq ?_
    refine AWc.rg hmix rfl rfl ?_
    refine RegV.p0 rfl rfl rfl ?_
    refine RegV.nil0 ?_
    have hr := Option.some.inj h
    subst hr
    exact AWc.ret (canQ (N := 19) (k := 0) (l' := [(4, (.d (.int .i64 (-1 : Int))))]) (H' := []) rfl ⟨rfl, [], [], rfl, rfl, ⟨⟨_, rfl, (.refl _)⟩, rfl, trivial⟩,  trivial⟩ (doneA (.inr rfl) rfl ⟨trivial, trivial⟩ (.refl _) hasNil))
/-- strings.LastIndexByte -/
def C237 (N : Nat → Nat) : AFunc := { n := 8, params := 2, res := [.tmp 4], body :=
 (.seq (.region false [⟨(some 4), .mv (.k (.d (.int .i64 0))), none, []⟩])
  (.seq (.region false [⟨(some 5), .mv (.t 0), none, []⟩,
    ⟨(some 6), .mv (.t 1), none, []⟩,
    ⟨(some 7), .call (.k (.d (.fn (N 238)))) [(.t 5), (.t 6)], none, [0, 1]⟩,
    ⟨(some 4), .mv (.t 7), none, [2, 0, 1]⟩])
   .ret)) }
def HC237 (P : Program) (N : Nat → Nat) : Prop := HasF P (N 237) (C237 N) ∧ HC238 P N
def f237 (k : Nat) (a0 : (List UInt8)) (a1 : UInt8) : Option Int := (f238 k a0 a1).bind fun r10 => some r10
theorem F237 {P : Program} {N : Nat → Nat} (hmix : P.follows .mixedOrders = true) (hc : HC237 P N) {k : Nat} {a0 : (List UInt8)} {a1 : UInt8} {r : Int} (h : f237 k a0 a1 = some r) :
    ACalls P (N 237) [(.d (.str a0)), (.d (.int .u8 ((a1.toNat : Nat) : Int)))] [] (.d (.int .i64 r)) [] := by
  refine acalls_canon (F := C237 N) hc.1 0 0 rfl ?_
  unfold f237 at h
  dsimp only [C237, startL]
  refine AWc.seq ?_
  refine AWc.rg hmix rfl rfl ?_
  refine RegV.p0 rfl rfl rfl ?_
  refine RegV.nil0 ?_
  refine AWc.seq ?_
  refine AWc.rg hmix rfl rfl ?_
  refine RegV.p0 rfl rfl rfl ?_
  refine RegV.p0 rfl rfl rfl ?_
  obtain ⟨r10, e10, h⟩ := bind_some h
  refine RegV.call0 (F238 hmix hc.2 e10) rfl rfl rfl rfl (.cons (.refl _) (.cons (.refl _) .nil)) rfl ?_
  refine RegV.p0 rfl rfl rfl ?_
  refine RegV.nil0 ?_
  have hr := Option.some.inj h
  subst hr
  exact AWc.ret (canQ (N := 8) (k := 0) (l' := [(4, (.d (.int .i64 r10)))]) (H' := []) rfl ⟨rfl, [], [], rfl, rfl, ⟨⟨_, rfl, (.refl _)⟩, rfl, trivial⟩,  trivial⟩ (doneA (.inr rfl) rfl ⟨trivial, trivial⟩ (.refl _) hasNil))
/-- courant/names.cut -/
def C236 (N : Nat → Nat) : AFunc := { n := 17, params := 1, res := [.tmp 2, .tmp 3], body :=
 (.seq (.region false [⟨(some 2), .mv (.k (.d (.str []))), none, []⟩,
   ⟨(some 3), .mv (.k (.d (.str []))), none, [0]⟩])
  (.seq (.region false [⟨(some 5), .mv (.t 0), none, []⟩,
    ⟨(some 6), .call (.k (.d (.fn (N 237)))) [(.t 5), (.k (.d (.int .u8 46)))], none, [0]⟩,
    ⟨(some 4), .mv (.t 6), none, [1, 0]⟩])
   (.seq (.seq (.region false [⟨(some 7), .mv (.t 4), none, []⟩,
      ⟨(some 8), .bin .lss (.t 7) (.k (.d (.int .i64 0))), none, [0]⟩])
     (.cond (.t 8) (.seq (.region false [⟨(some 9), .mv (.t 0), none, []⟩,
        ⟨(some 2), .mv (.k (.d (.str []))), none, []⟩,
        ⟨(some 3), .mv (.t 9), none, [0, 1]⟩])
       .ret)
      (.skip)))
    (.seq (.region true [⟨(some 10), .mv (.t 0), none, []⟩,
      ⟨(some 11), .mv (.t 4), none, []⟩,
      ⟨(some 12), .ssl (.t 10) none (some (.t 11)), none, [0, 1]⟩,
      ⟨(some 13), .mv (.t 0), none, []⟩,
      ⟨(some 14), .mv (.t 4), none, []⟩,
      ⟨(some 15), .bin .add (.t 14) (.k (.d (.int .i64 1))), none, [4]⟩,
      ⟨(some 16), .ssl (.t 13) (some (.t 15)) none, none, [3, 5]⟩,
      ⟨(some 2), .mv (.t 12), none, [2, 0, 1]⟩,
      ⟨(some 3), .mv (.t 16), none, [6, 7, 0, 1, 2, 3, 4, 5]⟩])
     .ret)))) }
def HC236 (P : Program) (N : Nat → Nat) : Prop := HasF P (N 236) (C236 N) ∧ HC237 P N
def f236 (k : Nat) (a0 : (List UInt8)) : Option ((List UInt8) × (List UInt8)) := (f237 k a0 (46 : UInt8)).bind fun r10 => cond (decide (r10 < (0 : Int))) (some (([] : List UInt8), a0)) (gd (0 ≤ (0 : Int) ∧ (0 : Int) ≤ r10 ∧ r10 ≤ ((a0.length : Nat) : Int)) (gd (0 ≤ (IntKind.i64.wrap (r10 + (1 : Int))) ∧ (IntKind.i64.wrap (r10 + (1 : Int))) ≤ ((a0.length : Nat) : Int) ∧ ((a0.length : Nat) : Int) ≤ ((a0.length : Nat) : Int)) (some ((sl a0 (0 : Int) r10), (sl a0 (IntKind.i64.wrap (r10 + (1 : Int))) ((a0.length : Nat) : Int))))))
theorem F236 {P : Program} {N : Nat → Nat} (hmix : P.follows .mixedOrders = true) (hc : HC236 P N) {k : Nat} {a0 : (List UInt8)} {r : ((List UInt8) × (List UInt8))} (h : f236 k a0 = some r) :
    ACalls P (N 236) [(.d (.str a0))] [] (.tup [(.d (.str r.1)), (.d (.str r.2))]) [] := by
  refine acalls_canon (F := C236 N) hc.1 0 0 rfl ?_
  unfold f236 at h
  dsimp only [C236, startL]
  refine AWc.seq ?_
  refine AWc.rg hmix rfl rfl ?_
  refine RegV.p0 rfl rfl rfl ?_
  refine RegV.p0 rfl rfl rfl ?_
  refine RegV.nil0 ?_
  refine AWc.seq ?_
  refine AWc.rg hmix rfl rfl ?_
  refine RegV.p0 rfl rfl rfl ?_
  obtain ⟨r10, e10, h⟩ := bind_some h
  refine RegV.call0 (F237 hmix hc.2 e10) rfl rfl rfl rfl (.cons (.refl _) (.cons (.refl _) .nil)) rfl ?_
  refine RegV.p0 rfl rfl rfl ?_
  refine RegV.nil0 ?_
  refine AWc.seq ?_
  refine AWc.seq ?_
  refine AWc.rg hmix rfl rfl ?_
  refine RegV.p0 rfl rfl rfl ?_
  refine RegV.p0 (v := (.d (.bool (decide (r10 < (0 : Int)))))) rfl rfl rfl ?_
  refine RegV.nil0 ?_
  refine AWc.cond rfl (fun c18 => ?_) (fun c18 => ?_)
  · have h := cond_pos c18 h
    refine AWc.seq ?_
    refine AWc.rg hmix rfl rfl ?_
    refine RegV.p0 rfl rfl rfl ?_
    refine RegV.p0 rfl rfl rfl ?_
    refine RegV.p0 rfl rfl rfl ?_
    refine RegV.nil0 ?_
    have hr := Option.some.inj h
    subst hr
    exact AWc.ret (canQ (N := 17) (k := 0) (l' := [(2, (.d (.str ([] : List UInt8)))), (3, (.d (.str a0)))]) (H' := []) rfl ⟨rfl, [], [], rfl, rfl, ⟨⟨_, rfl, (.refl _)⟩, rfl, ⟨⟨_, rfl, (.refl _)⟩, rfl, trivial⟩⟩,  trivial⟩ (doneA (.inr rfl) rfl ⟨trivial, ⟨trivial, trivial⟩⟩ (.refl _) hasNil))
  · have h := cond_neg c18 h
    refine AWc.skip ?_
    refine AWc.seq ?_
    refine AWc.rg hmix rfl rfl ?_
    refine RegV.p0 rfl rfl rfl ?_
    refine RegV.p0 rfl rfl rfl ?_
    obtain ⟨b32, h⟩ := gd_some h
    refine RegV.p1 (v := (.d (.str (sl a0 (0 : Int) r10)))) rfl rfl b32 rfl rfl ?_
    refine RegV.p0 rfl rfl rfl ?_
    refine RegV.p0 rfl rfl rfl ?_
    refine RegV.p0 (v := (.d (.int .i64 (IntKind.i64.wrap (r10 + (1 : Int)))))) rfl rfl rfl ?_
    obtain ⟨b36, h⟩ := gd_some h
    refine RegV.p1 (v := (.d (.str (sl a0 (IntKind.i64.wrap (r10 + (1 : Int))) ((a0.length : Nat) : Int))))) rfl rfl b36 rfl rfl ?_
    refine RegV.p0 rfl rfl rfl ?_
    refine RegV.p0 rfl rfl rfl ?_
    refine RegV.nil1 (by kernel_rfl) ?_
    have hr := Option.some.inj h
    subst hr
    exact AWc.ret (canQ (N := 17) (k := 0) (l' := [(2, (.d (.str (sl a0 (0 : Int) r10)))), (3, (.d (.str (sl a0 (IntKind.i64.wrap (r10 + (1 : Int))) ((a0.length : Nat) : Int)))))]) (H' := []) rfl ⟨rfl, [], [], rfl, rfl, ⟨⟨_, rfl, (.refl _)⟩, rfl, ⟨⟨_, rfl, (.refl _)⟩, rfl, trivial⟩⟩,  trivial⟩ (doneA (.inr rfl) rfl ⟨trivial, ⟨trivial, trivial⟩⟩ (.refl _) hasNil))
/-- courant/names.Short -/
def C235 (N : Nat → Nat) : AFunc := { n := 11, params := 1, res := [.tmp 2], body :=
 (.seq (.region false [⟨(some 2), .mv (.k (.d (.str []))), none, []⟩])
  (.seq (.region false [⟨(some 6), .mv (.t 0), none, []⟩,
    ⟨(some 7), .call (.k (.d (.fn (N 236)))) [(.t 6)], none, [0]⟩,
    ⟨(some 5), .mv (.t 7), none, [1]⟩,
    ⟨(some 8), .ext (.t 5) 0, none, [2]⟩,
    ⟨(some 9), .ext (.t 5) 1, none, [2]⟩,
    ⟨(some 3), .mv (.t 8), none, [3, 1, 0, 2]⟩,
    ⟨(some 4), .mv (.t 9), none, [4, 5, 0, 1, 2, 3]⟩])
   (.seq (.region false [⟨(some 10), .mv (.t 4), none, []⟩,
     ⟨(some 2), .mv (.t 10), none, [0]⟩])
    .ret))) }
def HC235 (P : Program) (N : Nat → Nat) : Prop := HasF P (N 235) (C235 N) ∧ HC236 P N
def f235 (k : Nat) (a0 : (List UInt8)) : Option (List UInt8) := (f236 k a0).bind fun r9 => some r9.2
theorem F235 {P : Program} {N : Nat → Nat} (hmix : P.follows .mixedOrders = true) (hc : HC235 P N) {k : Nat} {a0 : (List UInt8)} {r : (List UInt8)} (h : f235 k a0 = some r) :
    ACalls P (N 235) [(.d (.str a0))] [] (.d (.str r)) [] := by
  refine acalls_canon (F := C235 N) hc.1 0 0 rfl ?_
  unfold f235 at h
  dsimp only [C235, startL]
  refine AWc.seq ?_
  refine AWc.rg hmix rfl rfl ?_
  refine RegV.p0 rfl rfl rfl ?_
  refine RegV.nil0 ?_
  refine AWc.seq ?_
  refine AWc.rg hmix rfl rfl ?_
  refine RegV.p0 rfl rfl rfl ?_
  obtain ⟨r9, e9, h⟩ := bind_some h
  refine RegV.call0 (F236 hmix hc.2 e9) rfl rfl rfl rfl (.cons (.refl _) .nil) rfl ?_
  refine RegV.p0 rfl rfl rfl ?_
  refine RegV.p0 rfl rfl rfl ?_
  refine RegV.p0 rfl rfl rfl ?_
  refine RegV.p0 rfl rfl rfl ?_
  refine RegV.p0 rfl rfl rfl ?_
  refine RegV.nil0 ?_
  refine AWc.seq ?_
  refine AWc.rg hmix rfl rfl ?_
  refine RegV.p0 rfl rfl rfl ?_
  refine RegV.p0 rfl rfl rfl ?_
  refine RegV.nil0 ?_
  have hr := Option.some.inj h
  subst hr
  exact AWc.ret (canQ (N := 11) (k := 0) (l' := [(2, (.d (.str r9.2)))]) (H' := []) rfl ⟨rfl, [], [], rfl, rfl, ⟨⟨_, rfl, (.refl _)⟩, rfl, trivial⟩,  trivial⟩ (doneA (.inr rfl) rfl ⟨trivial, trivial⟩ (.refl _) hasNil))
/-- courant/names.Space -/
def C342 (N : Nat → Nat) : AFunc := { n := 11, params := 1, res := [.tmp 2], body :=
 (.seq (.region false [⟨(some 2), .mv (.k (.d (.str []))), none, []⟩])
  (.seq (.region false [⟨(some 6), .mv (.t 0), none, []⟩,
    ⟨(some 7), .call (.k (.d (.fn (N 236)))) [(.t 6)], none, [0]⟩,
    ⟨(some 5), .mv (.t 7), none, [1]⟩,
    ⟨(some 8), .ext (.t 5) 0, none, [2]⟩,
    ⟨(some 9), .ext (.t 5) 1, none, [2]⟩,
    ⟨(some 3), .mv (.t 8), none, [3, 1, 0, 2]⟩,
    ⟨(some 4), .mv (.t 9), none, [4, 5, 0, 1, 2, 3]⟩])
   (.seq (.region false [⟨(some 10), .mv (.t 3), none, []⟩,
     ⟨(some 2), .mv (.t 10), none, [0]⟩])
    .ret))) }
def HC342 (P : Program) (N : Nat → Nat) : Prop := HasF P (N 342) (C342 N) ∧ HC236 P N
def f342 (k : Nat) (a0 : (List UInt8)) : Option (List UInt8) := (f236 k a0).bind fun r9 => some r9.1
theorem F342 {P : Program} {N : Nat → Nat} (hmix : P.follows .mixedOrders = true) (hc : HC342 P N) {k : Nat} {a0 : (List UInt8)} {r : (List UInt8)} (h : f342 k a0 = some r) :
    ACalls P (N 342) [(.d (.str a0))] [] (.d (.str r)) [] := by
  refine acalls_canon (F := C342 N) hc.1 0 0 rfl ?_
  unfold f342 at h
  dsimp only [C342, startL]
  refine AWc.seq ?_
  refine AWc.rg hmix rfl rfl ?_
  refine RegV.p0 rfl rfl rfl ?_
  refine RegV.nil0 ?_
  refine AWc.seq ?_
  refine AWc.rg hmix rfl rfl ?_
  refine RegV.p0 rfl rfl rfl ?_
  obtain ⟨r9, e9, h⟩ := bind_some h
  refine RegV.call0 (F236 hmix hc.2 e9) rfl rfl rfl rfl (.cons (.refl _) .nil) rfl ?_
  refine RegV.p0 rfl rfl rfl ?_
  refine RegV.p0 rfl rfl rfl ?_
  refine RegV.p0 rfl rfl rfl ?_
  refine RegV.p0 rfl rfl rfl ?_
  refine RegV.p0 rfl rfl rfl ?_
  refine RegV.nil0 ?_
  refine AWc.seq ?_
  refine AWc.rg hmix rfl rfl ?_
  refine RegV.p0 rfl rfl rfl ?_
  refine RegV.p0 rfl rfl rfl ?_
  refine RegV.nil0 ?_
  have hr := Option.some.inj h
  subst hr
  exact AWc.ret (canQ (N := 11) (k := 0) (l' := [(2, (.d (.str r9.1)))]) (H' := []) rfl ⟨rfl, [], [], rfl, rfl, ⟨⟨_, rfl, (.refl _)⟩, rfl, trivial⟩,  trivial⟩ (doneA (.inr rfl) rfl ⟨trivial, trivial⟩ (.refl _) hasNil))
/-- courant/courantlaw03.NamesPieces -/
def C326 (N : Nat → Nat) : AFunc := { n := 95, params := 1, res := [.tmp 2], body :=
 (.seq (.region false [⟨(some 2), .mv (.k (.d (.bool false))), none, []⟩])
  (.seq (.seq (.region false [⟨(some 8), .mv (.t 0), none, []⟩,
     ⟨(some 9), .len (.t 8), none, [0]⟩,
     ⟨(some 10), .bin .eql (.t 9) (.k (.d (.int .i64 0))), none, [1]⟩,
     ⟨(some 11), .mv (.t 10), none, [2]⟩,
     ⟨(some 12), .mv (.t 0), (some (11, false)), [3]⟩,
     ⟨(some 13), .len (.t 12), (some (11, false)), [4, 3]⟩,
     ⟨(some 14), .bin .gtr (.t 13) (.k (.d (.int .i64 60))), (some (11, false)), [5, 3]⟩,
     ⟨(some 15), .pick (.t 11) (.k (.d (.bool true))) (.t 14), none, [3, 6]⟩])
    (.cond (.t 15) (.seq (.region false [⟨(some 16), .call (.k (.d (.fn (N 316)))) [], none, []⟩,
       ⟨(some 2), .mv (.t 16), none, [0]⟩])
      .ret)
     (.skip)))
   (.seq (.region false [⟨(some 3), .mv (.k (.d (.str []))), none, []⟩,
     ⟨(some 4), .mv (.k (.d (.bool true))), none, [0]⟩,
     ⟨(some 5), .mv (.k (.d (.str []))), none, [1, 0]⟩])
    (.seq (.seq (.region false [⟨(some 6), .mv (.k (.d (.int .i64 0))), none, []⟩])
      (.block 0 (.loop (.seq (.seq (.region false [⟨(some 17), .mv (.t 6), none, []⟩,
           ⟨(some 18), .mv (.t 0), none, []⟩,
           ⟨(some 19), .len (.t 18), none, [1]⟩,
           ⟨(some 20), .bin .lss (.t 17) (.t 19), none, [0, 2]⟩])
          (.cond (.t 20) (.skip)
           (.exit 0)))
         (.seq (.block 1 (.seq (.seq (.region false [⟨(some 23), .mv (.t 0), none, []⟩,
              ⟨(some 24), .mv (.t 6), none, []⟩,
              ⟨(some 25), .iaddr (.t 23) (.t 24) 1, none, [0, 1]⟩,
              ⟨(some 26), .load (.t 25) 1 false, none, [2]⟩,
              ⟨(some 27), .slen (.t 26), none, [3]⟩,
              ⟨(some 28), .bin .gtr (.t 27) (.k (.d (.int .i64 200))), none, [4]⟩])
             (.cond (.t 28) (.seq (.region false [⟨(some 29), .call (.k (.d (.fn (N 316)))) [], none, []⟩,
                ⟨(some 2), .mv (.t 29), none, [0]⟩])
               .ret)
              (.skip)))
            (.seq (.seq (.region false [⟨(some 7), .mv (.k (.d (.int .i64 0))), none, []⟩])
              (.block 2 (.loop (.seq (.seq (.region false [⟨(some 30), .mv (.t 7), none, []⟩,
                   ⟨(some 31), .mv (.t 0), none, []⟩,
                   ⟨(some 32), .mv (.t 6), none, []⟩,
                   ⟨(some 33), .iaddr (.t 31) (.t 32) 1, none, [1, 2]⟩,
                   ⟨(some 34), .load (.t 33) 1 false, none, [3]⟩,
                   ⟨(some 35), .slen (.t 34), none, [4]⟩,
                   ⟨(some 36), .bin .lss (.t 30) (.t 35), none, [0, 5]⟩])
                  (.cond (.t 36) (.skip)
                   (.exit 2)))
                 (.seq (.block 3 (.seq (.region false [⟨(some 39), .mv (.t 0), none, []⟩,
                     ⟨(some 40), .mv (.t 6), none, []⟩,
                     ⟨(some 41), .iaddr (.t 39) (.t 40) 1, none, [0, 1]⟩,
                     ⟨(some 42), .load (.t 41) 1 false, none, [2]⟩,
                     ⟨(some 43), .mv (.t 7), none, []⟩,
                     ⟨(some 44), .idx (.t 42) (.t 43), none, [3, 4]⟩,
                     ⟨(some 45), .bin .eql (.t 44) (.k (.d (.int .u8 46))), none, [5]⟩])
                    (.cond (.t 45) (.seq (.region false [⟨(some 46), .call (.k (.d (.fn (N 316)))) [], none, []⟩,
                       ⟨(some 2), .mv (.t 46), none, [0]⟩])
                      .ret)
                     (.skip))))
                  (.region false [⟨(some 37), .mv (.t 7), none, []⟩,
                   ⟨(some 38), .bin .add (.t 37) (.k (.d (.int .i64 1))), none, [0]⟩,
                   ⟨(some 7), .mv (.t 38), none, [1, 0]⟩]))))))
             (.seq (.seq (.region false [⟨(some 47), .mv (.t 6), none, []⟩,
                ⟨(some 48), .bin .gtr (.t 47) (.k (.d (.int .i64 0))), none, [0]⟩])
               (.cond (.t 48) (.seq (.region false [⟨(some 49), .mv (.t 3), none, []⟩,
                  ⟨(some 5), .mv (.t 49), none, [0]⟩])
                 (.region false [⟨(some 50), .mv (.t 3), none, []⟩,
                  ⟨(some 51), .bin .add (.t 50) (.k (.d (.str [46]))), none, [0]⟩,
                  ⟨(some 3), .mv (.t 51), none, [1, 0]⟩]))
                (.skip)))
              (.seq (.region false [⟨(some 52), .mv (.t 3), none, []⟩,
                ⟨(some 53), .mv (.t 0), none, []⟩,
                ⟨(some 54), .mv (.t 6), none, []⟩,
                ⟨(some 55), .iaddr (.t 53) (.t 54) 1, none, [1, 2]⟩,
                ⟨(some 56), .load (.t 55) 1 false, none, [3]⟩,
                ⟨(some 57), .bin .add (.t 52) (.t 56), none, [0, 4]⟩,
                ⟨(some 3), .mv (.t 57), none, [5, 0, 1, 2, 3, 4]⟩])
               (.region false [⟨(some 58), .mv (.t 4), none, []⟩,
                ⟨(some 59), .mv (.t 58), none, [0]⟩,
                ⟨(some 60), .mv (.t 0), (some (59, true)), [1]⟩,
                ⟨(some 61), .mv (.t 6), (some (59, true)), [1]⟩,
                ⟨(some 62), .iaddr (.t 60) (.t 61) 1, (some (59, true)), [2, 3, 1]⟩,
                ⟨(some 63), .load (.t 62) 1 false, (some (59, true)), [4, 1]⟩,
                ⟨(some 64), .call (.k (.d (.fn (N 320)))) [(.t 63)], (some (59, true)), [5, 1]⟩,
                ⟨(some 65), .pick (.t 59) (.t 64) (.k (.d (.bool false))), none, [1, 6]⟩,
                ⟨(some 4), .mv (.t 65), none, [7, 6, 0, 1, 2, 3, 4, 5]⟩]))))))
          (.region false [⟨(some 21), .mv (.t 6), none, []⟩,
           ⟨(some 22), .bin .add (.t 21) (.k (.d (.int .i64 1))), none, [0]⟩,
           ⟨(some 6), .mv (.t 22), none, [1, 0]⟩]))))))
     (.seq (.region true [⟨(some 66), .call (.k (.d (.fn (N 316)))) [], none, []⟩,
       ⟨(some 67), .mv (.t 66), none, [0]⟩,
       ⟨(some 68), .mv (.t 3), (some (67, true)), [1]⟩,
       ⟨(some 69), .call (.k (.d (.fn (N 332)))) [(.t 68)], (some (67, true)), [2, 1]⟩,
       ⟨(some 70), .mv (.t 4), (some (67, true)), [1]⟩,
       ⟨(some 71), .mv (.t 70), (some (67, true)), [4, 3, 1]⟩,
       ⟨(some 72), .mv (.t 3), (some (71, true)), [5]⟩,
       ⟨(some 73), .slen (.t 72), (some (71, true)), [6, 5]⟩,
       ⟨(some 74), .bin .leq (.t 73) (.k (.d (.int .i64 100))), (some (71, true)), [7, 5]⟩,
       ⟨(some 75), .pick (.t 71) (.t 74) (.k (.d (.bool false))), (some (67, true)), [5, 8, 1]⟩,
       ⟨(some 76), .beq false (.t 69) (.t 75), (some (67, true)), [3, 9, 1]⟩,
       ⟨(some 77), .pick (.t 67) (.t 76) (.k (.d (.bool false))), none, [1, 10]⟩,
       ⟨(some 78), .mv (.t 77), none, [11, 5]⟩,
       ⟨(some 79), .mv (.t 3), (some (78, true)), [12]⟩,
       ⟨(some 80), .call (.k (.d (.fn (N 235)))) [(.t 79)], (some (78, true)), [13, 12]⟩,
       ⟨(some 81), .mv (.t 0), (some (78, true)), [12]⟩,
       ⟨(some 82), .mv (.t 0), (some (78, true)), [12]⟩,
       ⟨(some 83), .len (.t 82), (some (78, true)), [16, 12]⟩,
       ⟨(some 84), .bin .sub (.t 83) (.k (.d (.int .i64 1))), (some (78, true)), [17, 12]⟩,
       ⟨(some 85), .iaddr (.t 81) (.t 84) 1, (some (78, true)), [15, 18, 12]⟩,
       ⟨(some 86), .load (.t 85) 1 false, (some (78, true)), [19, 12]⟩,
       ⟨(some 87), .bin .eql (.t 80) (.t 86), (some (78, true)), [14, 20, 12]⟩,
       ⟨(some 88), .pick (.t 78) (.t 87) (.k (.d (.bool false))), none, [12, 21]⟩,
       ⟨(some 89), .mv (.t 88), none, [22, 14]⟩,
       ⟨(some 90), .mv (.t 3), (some (89, true)), [23]⟩,
       ⟨(some 91), .call (.k (.d (.fn (N 342)))) [(.t 90)], (some (89, true)), [24, 23]⟩,
       ⟨(some 92), .mv (.t 5), (some (89, true)), [23]⟩,
       ⟨(some 93), .bin .eql (.t 91) (.t 92), (some (89, true)), [25, 26, 23]⟩,
       ⟨(some 94), .pick (.t 89) (.t 93) (.k (.d (.bool false))), none, [23, 27]⟩,
       ⟨(some 2), .mv (.t 94), none, [28, 25, 0, 1, 2, 3, 4, 5, 6, 7, 8, 9, 10, 11, 12, 13, 14, 15, 16, 17, 18, 19, 20, 21, 22, 23, 24, 26, 27]⟩])
      .ret))))) }
def HC326 (P : Program) (N : Nat → Nat) : Prop := HasF P (N 326) (C326 N) ∧ HC316 P N ∧ HC320 P N ∧ HC332 P N ∧ HC235 P N ∧ HC342 P N
def f326_j159 (k : Nat) (a0 : (List (List UInt8))) (j159_1 : (List UInt8)) (j159_2 : Bool) (j159_3 : (List UInt8)) : Option Bool := (f316 k).bind fun r162 => cond r162 ((f332 k j159_1).bind fun r165 => cond j159_2 (cond (r165 == (decide (((j159_1.length : Nat) : Int) ≤ (100 : Int)))) ((f235 k j159_1).bind fun r176 => gd (0 ≤ (IntKind.i64.wrap (((a0.length : Nat) : Int) - (1 : Int))) ∧ (IntKind.i64.wrap (((a0.length : Nat) : Int) - (1 : Int))) < ((a0.length : Nat) : Int)) (cond (decide (r176 = (rd a0 (IntKind.i64.wrap (((a0.length : Nat) : Int) - (1 : Int)))))) ((f342 k j159_1).bind fun r187 => some (decide (r187 = j159_3))) (some false))) (some false)) (cond (r165 == false) ((f235 k j159_1).bind fun r176 => gd (0 ≤ (IntKind.i64.wrap (((a0.length : Nat) : Int) - (1 : Int))) ∧ (IntKind.i64.wrap (((a0.length : Nat) : Int) - (1 : Int))) < ((a0.length : Nat) : Int)) (cond (decide (r176 = (rd a0 (IntKind.i64.wrap (((a0.length : Nat) : Int) - (1 : Int)))))) ((f342 k j159_1).bind fun r187 => some (decide (r187 = j159_3))) (some false))) (some false))) (some false)
def f326_j133 (L : (List UInt8) → Bool → (List UInt8) → Int → Option (LR2 ((List UInt8) × Bool × (List UInt8)) Unit Bool)) (k : Nat) (y36_4 : Int) (a0 : (List (List UInt8))) (y36_2 : Bool) (j133_1 : (List UInt8)) (j133_2 : (List UInt8)) : Option (LR2 ((List UInt8) × Bool × (List UInt8)) Unit Bool) := gd (0 ≤ y36_4 ∧ y36_4 < ((a0.length : Nat) : Int)) (gd (j133_1.length + (rd a0 y36_4).length ≤ 9223372036854775807) (cond y36_2 (gd (0 ≤ y36_4 ∧ y36_4 < ((a0.length : Nat) : Int)) ((f320 k (rd a0 y36_4)).bind fun r151 => L (j133_1 ++ (rd a0 y36_4)) r151 j133_2 (IntKind.i64.wrap (y36_4 + (1 : Int))))) (L (j133_1 ++ (rd a0 y36_4)) false j133_2 (IntKind.i64.wrap (y36_4 + (1 : Int))))))
def f326_j115 (L : (List UInt8) → Bool → (List UInt8) → Int → Option (LR2 ((List UInt8) × Bool × (List UInt8)) Unit Bool)) (k : Nat) (y36_4 : Int) (y36_1 : (List UInt8)) (a0 : (List (List UInt8))) (y36_2 : Bool) (y36_3 : (List UInt8)) : Option (LR2 ((List UInt8) × Bool × (List UInt8)) Unit Bool) := cond (decide (y36_4 > (0 : Int))) (gd (y36_1.length + ([46] : List UInt8).length ≤ 9223372036854775807) (f326_j133 (L) k y36_4 a0 y36_2 (y36_1 ++ ([46] : List UInt8)) y36_1)) (f326_j133 (L) k y36_4 a0 y36_2 y36_1 y36_3)
def f326_l74 (y36_4 : Int) (a0 : (List (List UInt8))) : Nat → Int → Option (LR2 Unit Unit Bool)
  | 0, _ => none
  | k + 1, y74_1 => gd (0 ≤ y36_4 ∧ y36_4 < ((a0.length : Nat) : Int)) (cond (decide (y74_1 < (((rd a0 y36_4).length : Nat) : Int))) (gd (0 ≤ y36_4 ∧ y36_4 < ((a0.length : Nat) : Int)) (gd (0 ≤ y74_1 ∧ y74_1 < (((rd a0 y36_4).length : Nat) : Int)) (cond (decide (((((rd a0 y36_4).getD (y74_1).toNat 0).toNat : Nat) : Int) = (46 : Int))) ((f316 k).bind fun r106 => some (.r r106)) (f326_l74 y36_4 a0 k (IntKind.i64.wrap (y74_1 + (1 : Int))))))) (some (.b0 ())))
def f326_l36 (a0 : (List (List UInt8))) : Nat → (List UInt8) → Bool → (List UInt8) → Int → Option (LR2 ((List UInt8) × Bool × (List UInt8)) Unit Bool)
  | 0, _, _, _, _ => none
  | k + 1, y36_1, y36_2, y36_3, y36_4 => cond (decide (y36_4 < ((a0.length : Nat) : Int))) (gd (0 ≤ y36_4 ∧ y36_4 < ((a0.length : Nat) : Int)) (cond (decide ((((rd a0 y36_4).length : Nat) : Int) > (200 : Int))) ((f316 k).bind fun r65 => some (.r r65)) ((f326_l74 y36_4 a0 k (0 : Int)).bind fun o74 => (match o74 with | .b0 () => f326_j115 (f326_l36 a0 k) k y36_4 y36_1 a0 y36_2 y36_3 | .r x => some (.r x) | _ => none)))) (some (.b0 (y36_1, y36_2, y36_3)))
def f326 (k : Nat) (a0 : (List (List UInt8))) : Option Bool := cond (decide (((a0.length : Nat) : Int) = (0 : Int))) ((f316 k).bind fun r21 => some r21) (cond (decide (((a0.length : Nat) : Int) > (60 : Int))) ((f316 k).bind fun r21 => some r21) ((f326_l36 a0 k ([] : List UInt8) true ([] : List UInt8) (0 : Int)).bind fun o36 => (match o36 with | .b0 (x36_1, x36_2, x36_3) => f326_j159 k a0 x36_1 x36_2 x36_3 | .r x => some x | _ => none)))
theorem F326 {P : Program} {N : Nat → Nat} (hmix : P.follows .mixedOrders = true) (hc : HC326 P N) {k : Nat} {a0 : (List (List UInt8))} {r : Bool} (h : f326 k a0 = some r) :
    ACalls P (N 326) [(.d (.sl (List.map D.str a0)))] [] (.d (.bool r)) [] := by
  refine acalls_canon (F := C326 N) hc.1 0 0 rfl ?_
  unfold f326 at h
  dsimp only [C326, startL]
  refine AWc.seq ?_
  refine AWc.rg hmix rfl rfl ?_
  refine RegV.p0 rfl rfl rfl ?_
  refine RegV.nil0 ?_
  refine AWc.seq ?_
  refine AWc.seq ?_
  refine AWc.rg hmix rfl rfl ?_
  refine RegV.p0 rfl rfl rfl ?_
  refine RegV.len (xs := a0) (e := D.str) rfl rfl rfl rfl ?_
  refine RegV.p0 (v := (.d (.bool (decide (((a0.length : Nat) : Int) = (0 : Int)))))) rfl rfl rfl ?_
  refine RegV.p0 rfl rfl rfl ?_
  refine RegV.split (fun c12 => ?_) (fun c12 => ?_)
  · have h := cond_pos c12 h
    refine RegV.noS rfl rfl ?_
    refine RegV.noS rfl rfl ?_
    refine RegV.noS rfl rfl ?_
    refine RegV.p0 rfl rfl rfl ?_
    refine RegV.nil0 ?_
    refine AWc.cond rfl (fun _ => ?_) (fun hc => by cases hc)
    refine AWc.seq ?_
    refine AWc.rg hmix rfl rfl ?_
    obtain ⟨r21, e21, h⟩ := bind_some h
    refine RegV.call0 (F316 hmix hc.2.1 e21) rfl rfl rfl rfl .nil rfl ?_
    refine RegV.p0 rfl rfl rfl ?_
    refine RegV.nil0 ?_
    have hr := Option.some.inj h
    subst hr
    exact AWc.ret (canQ (N := 95) (k := 0) (l' := [(2, (.d (.bool r21)))]) (H' := []) rfl ⟨rfl, [], [], rfl, rfl, ⟨⟨_, rfl, (.refl _)⟩, rfl, trivial⟩,  trivial⟩ (doneA (.inr rfl) rfl ⟨trivial, trivial⟩ (.refl _) hasNil))
  · have h := cond_neg c12 h
    refine RegV.p0 rfl rfl rfl ?_
    refine RegV.len (xs := a0) (e := D.str) rfl rfl rfl rfl ?_
    refine RegV.p0 (v := (.d (.bool (decide (((a0.length : Nat) : Int) > (60 : Int)))))) rfl rfl rfl ?_
    refine RegV.p0 rfl rfl rfl ?_
    refine RegV.nil0 ?_
    refine AWc.cond rfl (fun c17 => ?_) (fun c17 => ?_)
    · have h := cond_pos c17 h
      refine AWc.seq ?_
      refine AWc.rg hmix rfl rfl ?_
      obtain ⟨r21, e21, h⟩ := bind_some h
      refine RegV.call0 (F316 hmix hc.2.1 e21) rfl rfl rfl rfl .nil rfl ?_
      refine RegV.p0 rfl rfl rfl ?_
      refine RegV.nil0 ?_
      have hr := Option.some.inj h
      subst hr
      exact AWc.ret (canQ (N := 95) (k := 0) (l' := [(2, (.d (.bool r21)))]) (H' := []) rfl ⟨rfl, [], [], rfl, rfl, ⟨⟨_, rfl, (.refl _)⟩, rfl, trivial⟩,  trivial⟩ (doneA (.inr rfl) rfl ⟨trivial, trivial⟩ (.refl _) hasNil))
    · have h := cond_neg c17 h
      refine AWc.skip ?_
      refine AWc.seq ?_
      refine AWc.rg hmix rfl rfl ?_
      refine RegV.p0 rfl rfl rfl ?_
      refine RegV.p0 rfl rfl rfl ?_
      refine RegV.p0 rfl rfl rfl ?_
      refine RegV.nil0 ?_
      refine AWc.seqS (N := 95) 0 (fun (z : ((List UInt8) × Bool × (List UInt8))) => [(0, (.d (.sl (List.map D.str a0)))), (3, (.d (.str z.1))), (4, (.d (.bool z.2.1))), (5, (.d (.str z.2.2)))]) (fun z => []) (fun z => f326_j159 k a0 z.1 z.2.1 z.2.2 = some r) rfl_le ?_ ?_
      · refine AWc.seq ?_
        refine AWc.rg hmix rfl rfl ?_
        refine RegV.p0 rfl rfl rfl ?_
        refine RegV.nil0 ?_
        obtain ⟨o36, h36, h⟩ := bind_some h
        refine AWc.block ?_
        refine AWc.loopK (N := 95) 0 (fun (x : ((List UInt8) × Bool × (List UInt8) × Int)) => [(0, (.d (.sl (List.map D.str a0)))), (3, (.d (.str x.1))), (4, (.d (.bool x.2.1))), (5, (.d (.str x.2.2.1))), (6, (.d (.int .i64 x.2.2.2)))]) (fun x => []) (fun k x => f326_l36 a0 k x.1 x.2.1 x.2.2.1 x.2.2.2 = some o36) k (([] : List UInt8), true, ([] : List UInt8), (0 : Int)) rfl_le (fun x hx => by cases hx) h36 ⟨rfl, [], [], rfl, rfl, ⟨⟨_, rfl, (.refl _)⟩, rfl, ⟨⟨_, rfl, (.refl _)⟩, rfl, ⟨⟨_, rfl, (.refl _)⟩, rfl, ⟨⟨_, rfl, (.refl _)⟩, rfl, ⟨⟨_, rfl, (.refl _)⟩, rfl, trivial⟩⟩⟩⟩⟩,  trivial⟩ ?_
        clear h36
        intro k
        rintro ⟨y36_1, y36_2, y36_3, y36_4⟩ h36
        dsimp only at h36 ⊢
        rw [f326_l36] at h36
        refine AWc.seq ?_
        refine AWc.seq ?_
        refine AWc.rg hmix rfl rfl ?_
        refine RegV.p0 rfl rfl rfl ?_
        refine RegV.p0 rfl rfl rfl ?_
        refine RegV.len (xs := a0) (e := D.str) rfl rfl rfl rfl ?_
        refine RegV.p0 (v := (.d (.bool (decide (y36_4 < ((a0.length : Nat) : Int)))))) rfl rfl rfl ?_
        refine RegV.nil0 ?_
        refine AWc.cond rfl (fun c46 => ?_) (fun c46 => ?_)
        · have h36 := cond_pos c46 h36
          refine AWc.skip ?_
          refine AWc.seq ?_
          refine AWc.block ?_
          refine AWc.seq ?_
          refine AWc.seq ?_
          refine AWc.rg hmix rfl rfl ?_
          refine RegV.p0 rfl rfl rfl ?_
          refine RegV.p0 rfl rfl rfl ?_
          obtain ⟨b57, h36⟩ := gd_some h36
          refine RegV.iad (xs := a0) (e := D.str) rfl rfl rfl rfl (fun _ => rfl) b57 rfl ?_
          refine RegV.p0 (v := (.d (.str (rd a0 y36_4)))) rfl rfl rfl ?_
          refine RegV.p0 (v := (.d (.int .i64 (((rd a0 y36_4).length : Nat) : Int)))) rfl rfl rfl ?_
          refine RegV.p0 (v := (.d (.bool (decide ((((rd a0 y36_4).length : Nat) : Int) > (200 : Int)))))) rfl rfl rfl ?_
          refine RegV.nil0 ?_
          refine AWc.cond rfl (fun c61 => ?_) (fun c61 => ?_)
          · have h36 := cond_pos c61 h36
            refine AWc.seq ?_
            refine AWc.rg hmix rfl rfl ?_
            obtain ⟨r65, e65, h36⟩ := bind_some h36
            refine RegV.call0 (F316 hmix hc.2.1 e65) rfl rfl rfl rfl .nil rfl ?_
            refine RegV.p0 rfl rfl rfl ?_
            refine RegV.nil0 ?_
            cases h36
            dsimp only at h
            have hr := Option.some.inj h
            subst hr
            exact AWc.ret (canQ (N := 95) (k := 0) (l' := [(2, (.d (.bool r65)))]) (H' := []) rfl ⟨rfl, [], [], rfl, rfl, ⟨⟨_, rfl, (.refl _)⟩, rfl, trivial⟩,  trivial⟩ (doneA (.inr rfl) rfl ⟨trivial, trivial⟩ (.refl _) hasNil))
          · have h36 := cond_neg c61 h36
            refine AWc.skip ?_
            refine AWc.seqS (N := 95) 0 (fun (z : Unit) => [(0, (.d (.sl (List.map D.str a0)))), (3, (.d (.str y36_1))), (4, (.d (.bool y36_2))), (5, (.d (.str y36_3))), (6, (.d (.int .i64 y36_4)))]) (fun z => []) (fun z => f326_j115 (f326_l36 a0 k) k y36_4 y36_1 a0 y36_2 y36_3 = some o36) rfl_le ?_ ?_
            · refine AWc.seq ?_
              refine AWc.rg hmix rfl rfl ?_
              refine RegV.p0 rfl rfl rfl ?_
              refine RegV.nil0 ?_
              obtain ⟨o74, h74, h36⟩ := bind_some h36
              refine AWc.block ?_
              refine AWc.loopK (N := 95) 0 (fun (x : Int) => [(0, (.d (.sl (List.map D.str a0)))), (3, (.d (.str y36_1))), (4, (.d (.bool y36_2))), (5, (.d (.str y36_3))), (6, (.d (.int .i64 y36_4))), (7, (.d (.int .i64 x)))]) (fun x => []) (fun k x => f326_l74 y36_4 a0 k x = some o74) k (0 : Int) rfl_le (fun x hx => by cases hx) h74 ⟨rfl, [], [], rfl, rfl, ⟨⟨_, rfl, (.refl _)⟩, rfl, ⟨⟨_, rfl, (.refl _)⟩, rfl, ⟨⟨_, rfl, (.refl _)⟩, rfl, ⟨⟨_, rfl, (.refl _)⟩, rfl, ⟨⟨_, rfl, (.refl _)⟩, rfl, ⟨⟨_, rfl, (.refl _)⟩, rfl, trivial⟩⟩⟩⟩⟩⟩,  trivial⟩ ?_
              clear h74
              intro k
              intro y74_1 h74
              rw [f326_l74] at h74
              refine AWc.seq ?_
              refine AWc.seq ?_
              refine AWc.rg hmix rfl rfl ?_
              refine RegV.p0 rfl rfl rfl ?_
              refine RegV.p0 rfl rfl rfl ?_
              refine RegV.p0 rfl rfl rfl ?_
              obtain ⟨b83, h74⟩ := gd_some h74
              refine RegV.iad (xs := a0) (e := D.str) rfl rfl rfl rfl (fun _ => rfl) b83 rfl ?_
              refine RegV.p0 (v := (.d (.str (rd a0 y36_4)))) rfl rfl rfl ?_
              refine RegV.p0 (v := (.d (.int .i64 (((rd a0 y36_4).length : Nat) : Int)))) rfl rfl rfl ?_
              refine RegV.p0 (v := (.d (.bool (decide (y74_1 < (((rd a0 y36_4).length : Nat) : Int)))))) rfl rfl rfl ?_
              refine RegV.nil0 ?_
              refine AWc.cond rfl (fun c87 => ?_) (fun c87 => ?_)
              · have h74 := cond_pos c87 h74
                refine AWc.skip ?_
                refine AWc.seq ?_
                refine AWc.block ?_
                refine AWc.seq ?_
                refine AWc.rg hmix rfl rfl ?_
                refine RegV.p0 rfl rfl rfl ?_
                refine RegV.p0 rfl rfl rfl ?_
                obtain ⟨b97, h74⟩ := gd_some h74
                refine RegV.iad (xs := a0) (e := D.str) rfl rfl rfl rfl (fun _ => rfl) b97 rfl ?_
                refine RegV.p0 (v := (.d (.str (rd a0 y36_4)))) rfl rfl rfl ?_
                refine RegV.p0 rfl rfl rfl ?_
                obtain ⟨b100, h74⟩ := gd_some h74
                refine RegV.p1 (v := (.d (.int .u8 ((((rd a0 y36_4).getD (y74_1).toNat 0).toNat : Nat) : Int)))) rfl rfl b100 rfl rfl ?_
                refine RegV.p0 (v := (.d (.bool (decide (((((rd a0 y36_4).getD (y74_1).toNat 0).toNat : Nat) : Int) = (46 : Int)))))) rfl rfl rfl ?_
                refine RegV.nil0 ?_
                refine AWc.cond rfl (fun c102 => ?_) (fun c102 => ?_)
                · have h74 := cond_pos c102 h74
                  refine AWc.seq ?_
                  refine AWc.rg hmix rfl rfl ?_
                  obtain ⟨r106, e106, h74⟩ := bind_some h74
                  refine RegV.call0 (F316 hmix hc.2.1 e106) rfl rfl rfl rfl .nil rfl ?_
                  refine RegV.p0 rfl rfl rfl ?_
                  refine RegV.nil0 ?_
                  cases h74
                  dsimp only at h36
                  cases h36
                  dsimp only at h
                  have hr := Option.some.inj h
                  subst hr
                  exact AWc.ret (canQ (N := 95) (k := 0) (l' := [(2, (.d (.bool r106)))]) (H' := []) rfl ⟨rfl, [], [], rfl, rfl, ⟨⟨_, rfl, (.refl _)⟩, rfl, trivial⟩,  trivial⟩ (doneA (.inr rfl) rfl ⟨trivial, trivial⟩ (.refl _) hasNil))
                · have h74 := cond_neg c102 h74
                  refine AWc.skip ?_
                  refine AWc.rg hmix rfl rfl ?_
                  refine RegV.p0 rfl rfl rfl ?_
                  refine RegV.p0 (v := (.d (.int .i64 (IntKind.i64.wrap (y74_1 + (1 : Int)))))) rfl rfl rfl ?_
                  refine RegV.p0 rfl rfl rfl ?_
                  refine RegV.nil0 ?_
                  exact ⟨(IntKind.i64.wrap (y74_1 + (1 : Int))), h74, ⟨rfl, [], [], rfl, rfl, ⟨⟨_, rfl, (.refl _)⟩, rfl, ⟨⟨_, rfl, (.refl _)⟩, rfl, ⟨⟨_, rfl, (.refl _)⟩, rfl, ⟨⟨_, rfl, (.refl _)⟩, rfl, ⟨⟨_, rfl, (.refl _)⟩, rfl, ⟨⟨_, rfl, (.refl _)⟩, rfl, trivial⟩⟩⟩⟩⟩⟩,  trivial⟩⟩
              · have h74 := cond_neg c87 h74
                cases h74
                dsimp only at h36
                refine AWc.exit ?_
                refine inBlk_eq ?_
                exact ⟨(), h36, ⟨rfl, [], [], rfl, rfl, ⟨⟨_, rfl, (.refl _)⟩, rfl, ⟨⟨_, rfl, (.refl _)⟩, rfl, ⟨⟨_, rfl, (.refl _)⟩, rfl, ⟨⟨_, rfl, (.refl _)⟩, rfl, ⟨⟨_, rfl, (.refl _)⟩, rfl, trivial⟩⟩⟩⟩⟩,  trivial⟩⟩
            · rintro ⟨⟩ h36
              unfold f326_j115 at h36
              refine AWc.seqS (N := 95) 0 (fun (z : ((List UInt8) × (List UInt8))) => [(0, (.d (.sl (List.map D.str a0)))), (3, (.d (.str z.1))), (4, (.d (.bool y36_2))), (5, (.d (.str z.2))), (6, (.d (.int .i64 y36_4)))]) (fun z => []) (fun z => f326_j133 (f326_l36 a0 k) k y36_4 a0 y36_2 z.1 z.2 = some o36) rfl_le ?_ ?_
              · refine AWc.seq ?_
                refine AWc.rg hmix rfl rfl ?_
                refine RegV.p0 rfl rfl rfl ?_
                refine RegV.p0 (v := (.d (.bool (decide (y36_4 > (0 : Int)))))) rfl rfl rfl ?_
                refine RegV.nil0 ?_
                refine AWc.cond rfl (fun c121 => ?_) (fun c121 => ?_)
                · have h36 := cond_pos c121 h36
                  refine AWc.seq ?_
                  refine AWc.rg hmix rfl rfl ?_
                  refine RegV.p0 rfl rfl rfl ?_
                  refine RegV.p0 rfl rfl rfl ?_
                  refine RegV.nil0 ?_
                  refine AWc.rg hmix rfl rfl ?_
                  refine RegV.p0 rfl rfl rfl ?_
                  obtain ⟨b130, h36⟩ := gd_some h36
                  refine RegV.p1 (v := (.d (.str (y36_1 ++ ([46] : List UInt8))))) rfl rfl b130 rfl rfl ?_
                  refine RegV.p0 rfl rfl rfl ?_
                  refine RegV.nil0 ?_
                  exact ⟨((y36_1 ++ ([46] : List UInt8)), y36_1), h36, ⟨rfl, [], [], rfl, rfl, ⟨⟨_, rfl, (.refl _)⟩, rfl, ⟨⟨_, rfl, (.refl _)⟩, rfl, ⟨⟨_, rfl, (.refl _)⟩, rfl, ⟨⟨_, rfl, (.refl _)⟩, rfl, ⟨⟨_, rfl, (.refl _)⟩, rfl, trivial⟩⟩⟩⟩⟩,  trivial⟩⟩
                · have h36 := cond_neg c121 h36
                  refine AWc.skip ?_
                  exact ⟨(y36_1, y36_3), h36, ⟨rfl, [], [], rfl, rfl, ⟨⟨_, rfl, (.refl _)⟩, rfl, ⟨⟨_, rfl, (.refl _)⟩, rfl, ⟨⟨_, rfl, (.refl _)⟩, rfl, ⟨⟨_, rfl, (.refl _)⟩, rfl, ⟨⟨_, rfl, (.refl _)⟩, rfl, trivial⟩⟩⟩⟩⟩,  trivial⟩⟩
              · rintro ⟨j133_1, j133_2⟩ h36
                dsimp only at h36 ⊢
                unfold f326_j133 at h36
                refine AWc.seq ?_
                refine AWc.rg hmix rfl rfl ?_
                refine RegV.p0 rfl rfl rfl ?_
                refine RegV.p0 rfl rfl rfl ?_
                refine RegV.p0 rfl rfl rfl ?_
                obtain ⟨b139, h36⟩ := gd_some h36
                refine RegV.iad (xs := a0) (e := D.str) rfl rfl rfl rfl (fun _ => rfl) b139 rfl ?_
                refine RegV.p0 (v := (.d (.str (rd a0 y36_4)))) rfl rfl rfl ?_
                obtain ⟨b141, h36⟩ := gd_some h36
                refine RegV.p1 (v := (.d (.str (j133_1 ++ (rd a0 y36_4))))) rfl rfl b141 rfl rfl ?_
                refine RegV.p0 rfl rfl rfl ?_
                refine RegV.nil0 ?_
                refine AWc.rg hmix rfl rfl ?_
                refine RegV.p0 rfl rfl rfl ?_
                refine RegV.p0 rfl rfl rfl ?_
                refine RegV.split (fun c146 => ?_) (fun c146 => ?_)
                · have h36 := cond_pos c146 h36
                  refine RegV.p0 rfl rfl rfl ?_
                  refine RegV.p0 rfl rfl rfl ?_
                  obtain ⟨b149, h36⟩ := gd_some h36
                  refine RegV.iad (xs := a0) (e := D.str) rfl rfl rfl rfl (fun _ => rfl) b149 rfl ?_
                  refine RegV.p0 (v := (.d (.str (rd a0 y36_4)))) rfl rfl rfl ?_
                  obtain ⟨r151, e151, h36⟩ := bind_some h36
                  refine RegV.call0 (F320 hmix hc.2.2.1 e151) rfl rfl rfl rfl (.cons (.refl _) .nil) rfl ?_
                  refine RegV.p0 rfl rfl rfl ?_
                  refine RegV.p0 rfl rfl rfl ?_
                  refine RegV.nil0 ?_
                  refine AWc.rg hmix rfl rfl ?_
                  refine RegV.p0 rfl rfl rfl ?_
                  refine RegV.p0 (v := (.d (.int .i64 (IntKind.i64.wrap (y36_4 + (1 : Int)))))) rfl rfl rfl ?_
                  refine RegV.p0 rfl rfl rfl ?_
                  refine RegV.nil0 ?_
                  exact ⟨((j133_1 ++ (rd a0 y36_4)), r151, j133_2, (IntKind.i64.wrap (y36_4 + (1 : Int)))), h36, ⟨rfl, [], [], rfl, rfl, ⟨⟨_, rfl, (.refl _)⟩, rfl, ⟨⟨_, rfl, (.refl _)⟩, rfl, ⟨⟨_, rfl, (.refl _)⟩, rfl, ⟨⟨_, rfl, (.refl _)⟩, rfl, ⟨⟨_, rfl, (.refl _)⟩, rfl, trivial⟩⟩⟩⟩⟩,  trivial⟩⟩
                · have h36 := cond_neg c146 h36
                  refine RegV.noS rfl rfl ?_
                  refine RegV.noS rfl rfl ?_
                  refine RegV.noS rfl rfl ?_
                  refine RegV.noS rfl rfl ?_
                  refine RegV.noS rfl rfl ?_
                  refine RegV.p0 rfl rfl rfl ?_
                  refine RegV.p0 rfl rfl rfl ?_
                  refine RegV.nil0 ?_
                  refine AWc.rg hmix rfl rfl ?_
                  refine RegV.p0 rfl rfl rfl ?_
                  refine RegV.p0 (v := (.d (.int .i64 (IntKind.i64.wrap (y36_4 + (1 : Int)))))) rfl rfl rfl ?_
                  refine RegV.p0 rfl rfl rfl ?_
                  refine RegV.nil0 ?_
                  exact ⟨((j133_1 ++ (rd a0 y36_4)), false, j133_2, (IntKind.i64.wrap (y36_4 + (1 : Int)))), h36, ⟨rfl, [], [], rfl, rfl, ⟨⟨_, rfl, (.refl _)⟩, rfl, ⟨⟨_, rfl, (.refl _)⟩, rfl, ⟨⟨_, rfl, (.refl _)⟩, rfl, ⟨⟨_, rfl, (.refl _)⟩, rfl, ⟨⟨_, rfl, (.refl _)⟩, rfl, trivial⟩⟩⟩⟩⟩,  trivial⟩⟩
        · have h36 := cond_neg c46 h36
          cases h36
          dsimp only at h
          refine AWc.exit ?_
          refine inBlk_eq ?_
          exact ⟨(y36_1, y36_2, y36_3), h, ⟨rfl, [], [], rfl, rfl, ⟨⟨_, rfl, (.refl _)⟩, rfl, ⟨⟨_, rfl, (.refl _)⟩, rfl, ⟨⟨_, rfl, (.refl _)⟩, rfl, ⟨⟨_, rfl, (.refl _)⟩, rfl, trivial⟩⟩⟩⟩,  trivial⟩⟩
      · rintro ⟨j159_1, j159_2, j159_3⟩ h
        dsimp only at h ⊢
        unfold f326_j159 at h
        refine AWc.seq ?_
        refine AWc.rg hmix rfl rfl ?_
        obtain ⟨r162, e162, h⟩ := bind_some h
        refine RegV.call0 (F316 hmix hc.2.1 e162) rfl rfl rfl rfl .nil rfl ?_
        refine RegV.p0 rfl rfl rfl ?_
        refine RegV.split (fun c163 => ?_) (fun c163 => ?_)
        · have h := cond_pos c163 h
          refine RegV.p0 rfl rfl rfl ?_
          obtain ⟨r165, e165, h⟩ := bind_some h
          refine RegV.call0 (F332 hmix hc.2.2.2.1 e165) rfl rfl rfl rfl (.cons (.refl _) .nil) rfl ?_
          refine RegV.p0 rfl rfl rfl ?_
          refine RegV.p0 rfl rfl rfl ?_
          refine RegV.split (fun c167 => ?_) (fun c167 => ?_)
          · have h := cond_pos c167 h
            refine RegV.p0 rfl rfl rfl ?_
            refine RegV.p0 (v := (.d (.int .i64 ((j159_1.length : Nat) : Int)))) rfl rfl rfl ?_
            refine RegV.p0 (v := (.d (.bool (decide (((j159_1.length : Nat) : Int) ≤ (100 : Int)))))) rfl rfl rfl ?_
            refine RegV.p0 rfl rfl rfl ?_
            refine RegV.p0 (v := (.d (.bool (r165 == (decide (((j159_1.length : Nat) : Int) ≤ (100 : Int))))))) rfl rfl rfl ?_
            refine RegV.p0 rfl rfl rfl ?_
            refine RegV.p0 rfl rfl rfl ?_
            refine RegV.split (fun c174 => ?_) (fun c174 => ?_)
            · have h := cond_pos c174 h
              refine RegV.p0 rfl rfl rfl ?_
              obtain ⟨r176, e176, h⟩ := bind_some h
              refine RegV.call0 (F235 hmix hc.2.2.2.2.1 e176) rfl rfl rfl rfl (.cons (.refl _) .nil) rfl ?_
              refine RegV.p0 rfl rfl rfl ?_
              refine RegV.p0 rfl rfl rfl ?_
              refine RegV.len (xs := a0) (e := D.str) rfl rfl rfl rfl ?_
              refine RegV.p0 (v := (.d (.int .i64 (IntKind.i64.wrap (((a0.length : Nat) : Int) - (1 : Int)))))) rfl rfl rfl ?_
              obtain ⟨b181, h⟩ := gd_some h
              refine RegV.iad (xs := a0) (e := D.str) rfl rfl rfl rfl (fun _ => rfl) b181 rfl ?_
              refine RegV.p0 (v := (.d (.str (rd a0 (IntKind.i64.wrap (((a0.length : Nat) : Int) - (1 : Int))))))) rfl rfl rfl ?_
              refine RegV.p0 (v := (.d (.bool (decide (r176 = (rd a0 (IntKind.i64.wrap (((a0.length : Nat) : Int) - (1 : Int))))))))) rfl rfl rfl ?_
              refine RegV.p0 rfl rfl rfl ?_
              refine RegV.p0 rfl rfl rfl ?_
              refine RegV.split (fun c185 => ?_) (fun c185 => ?_)
              · have h := cond_pos c185 h
                refine RegV.p0 rfl rfl rfl ?_
                obtain ⟨r187, e187, h⟩ := bind_some h
                refine RegV.call0 (F342 hmix hc.2.2.2.2.2 e187) rfl rfl rfl rfl (.cons (.refl _) .nil) rfl ?_
                refine RegV.p0 rfl rfl rfl ?_
                refine RegV.p0 (v := (.d (.bool (decide (r187 = j159_3))))) rfl rfl rfl ?_
                refine RegV.p0 rfl rfl rfl ?_
                refine RegV.p0 rfl rfl rfl ?_
                refine RegV.nil1 (by kernel_rfl) ?_
                have hr := Option.some.inj h
                subst hr
                exact AWc.ret (canQ (N := 95) (k := 0) (l' := [(2, (.d (.bool (decide (r187 = j159_3)))))]) (H' := []) rfl ⟨rfl, [], [], rfl, rfl, ⟨⟨_, rfl, (.refl _)⟩, rfl, trivial⟩,  trivial⟩ (doneA (.inr rfl) rfl ⟨trivial, trivial⟩ (.refl _) hasNil))
              · have h := cond_neg c185 h
                refine RegV.noS rfl rfl ?_
                refine RegV.noS rfl rfl ?_
                refine RegV.noS rfl rfl ?_
                refine RegV.noS rfl rfl ?_
                refine RegV.p0 rfl rfl rfl ?_
                refine RegV.p0 rfl rfl rfl ?_
                refine RegV.nil1 (by kernel_rfl) ?_
                have hr := Option.some.inj h
                subst hr
                exact AWc.ret (canQ (N := 95) (k := 0) (l' := [(2, (.d (.bool false)))]) (H' := []) rfl ⟨rfl, [], [], rfl, rfl, ⟨⟨_, rfl, (.refl _)⟩, rfl, trivial⟩,  trivial⟩ (doneA (.inr rfl) rfl ⟨trivial, trivial⟩ (.refl _) hasNil))
            · have h := cond_neg c174 h
              refine RegV.noS rfl rfl ?_
              refine RegV.noS rfl rfl ?_
              refine RegV.noS rfl rfl ?_
              refine RegV.noS rfl rfl ?_
              refine RegV.noS rfl rfl ?_
              refine RegV.noS rfl rfl ?_
              refine RegV.noS rfl rfl ?_
              refine RegV.noS rfl rfl ?_
              refine RegV.noS rfl rfl ?_
              refine RegV.p0 rfl rfl rfl ?_
              refine RegV.p0 rfl rfl rfl ?_
              refine RegV.noS rfl rfl ?_
              refine RegV.noS rfl rfl ?_
              refine RegV.noS rfl rfl ?_
              refine RegV.noS rfl rfl ?_
              refine RegV.p0 rfl rfl rfl ?_
              refine RegV.p0 rfl rfl rfl ?_
              refine RegV.nil1 (by kernel_rfl) ?_
              have hr := Option.some.inj h
              subst hr
              exact AWc.ret (canQ (N := 95) (k := 0) (l' := [(2, (.d (.bool false)))]) (H' := []) rfl ⟨rfl, [], [], rfl, rfl, ⟨⟨_, rfl, (.refl _)⟩, rfl, trivial⟩,  trivial⟩ (doneA (.inr rfl) rfl ⟨trivial, trivial⟩ (.refl _) hasNil))
          · have h := cond_neg c167 h
            refine RegV.noS rfl rfl ?_
            refine RegV.noS rfl rfl ?_
            refine RegV.noS rfl rfl ?_
            refine RegV.p0 rfl rfl rfl ?_
            refine RegV.p0 (v := (.d (.bool (r165 == false)))) rfl rfl rfl ?_
            refine RegV.p0 rfl rfl rfl ?_
            refine RegV.p0 rfl rfl rfl ?_
            refine RegV.split (fun c174 => ?_) (fun c174 => ?_)
            · have h := cond_pos c174 h
              refine RegV.p0 rfl rfl rfl ?_
              obtain ⟨r176, e176, h⟩ := bind_some h
              refine RegV.call0 (F235 hmix hc.2.2.2.2.1 e176) rfl rfl rfl rfl (.cons (.refl _) .nil) rfl ?_
              refine RegV.p0 rfl rfl rfl ?_
              refine RegV.p0 rfl rfl rfl ?_
              refine RegV.len (xs := a0) (e := D.str) rfl rfl rfl rfl ?_
              refine RegV.p0 (v := (.d (.int .i64 (IntKind.i64.wrap (((a0.length : Nat) : Int) - (1 : Int)))))) rfl rfl rfl ?_
              obtain ⟨b181, h⟩ := gd_some h
              refine RegV.iad (xs := a0) (e := D.str) rfl rfl rfl rfl (fun _ => rfl) b181 rfl ?_
              refine RegV.p0 (v := (.d (.str (rd a0 (IntKind.i64.wrap (((a0.length : Nat) : Int) - (1 : Int))))))) rfl rfl rfl ?_
              refine RegV.p0 (v := (.d (.bool (decide (r176 = (rd a0 (IntKind.i64.wrap (((a0.length : Nat) : Int) - (1 : Int))))))))) rfl rfl rfl ?_
              refine RegV.p0 rfl rfl rfl ?_
              refine RegV.p0 rfl rfl rfl ?_
              refine RegV.split (fun c185 => ?_) (fun c185 => ?_)
              · have h := cond_pos c185 h
                refine RegV.p0 rfl rfl rfl ?_
                obtain ⟨r187, e187, h⟩ := bind_some h
                refine RegV.call0 (F342 hmix hc.2.2.2.2.2 e187) rfl rfl rfl rfl (.cons (.refl _) .nil) rfl ?_
                refine RegV.p0 rfl rfl rfl ?_
                refine RegV.p0 (v := (.d (.bool (decide (r187 = j159_3))))) rfl rfl rfl ?_
                refine RegV.p0 rfl rfl rfl ?_
                refine RegV.p0 rfl rfl rfl ?_
                refine RegV.nil1 (by kernel_rfl) ?_
                have hr := Option.some.inj h
                subst hr
                exact AWc.ret (canQ (N := 95) (k := 0) (l' := [(2, (.d (.bool (decide (r187 = j159_3)))))]) (H' := []) rfl ⟨rfl, [], [], rfl, rfl, ⟨⟨_, rfl, (.refl _)⟩, rfl, trivial⟩,  trivial⟩ (doneA (.inr rfl) rfl ⟨trivial, trivial⟩ (.refl _) hasNil))
              · have h := cond_neg c185 h
                refine RegV.noS rfl rfl ?_
                refine RegV.noS rfl rfl ?_
                refine RegV.noS rfl rfl ?_
                refine RegV.noS rfl rfl ?_
                refine RegV.p0 rfl rfl rfl ?_
                refine RegV.p0 rfl rfl rfl ?_
                refine RegV.nil1 (by kernel_rfl) ?_
                have hr := Option.some.inj h
                subst hr
                exact AWc.ret (canQ (N := 95) (k := 0) (l' := [(2, (.d (.bool false)))]) (H' := []) rfl ⟨rfl, [], [], rfl, rfl, ⟨⟨_, rfl, (.refl _)⟩, rfl, trivial⟩,  trivial⟩ (doneA (.inr rfl) rfl ⟨trivial, trivial⟩ (.refl _) hasNil))
            · have h := cond_neg c174 h
              refine RegV.noS rfl rfl ?_
              refine RegV.noS rfl rfl ?_
              refine RegV.noS rfl rfl ?_
              refine RegV.noS rfl rfl ?_
              refine RegV.noS rfl rfl ?_
              refine RegV.noS rfl rfl ?_
              refine RegV.noS rfl rfl ?_
              refine RegV.noS rfl rfl ?_
              refine RegV.noS rfl rfl ?_
              refine RegV.p0 rfl rfl rfl ?_
              refine RegV.p0 rfl rfl rfl ?_
              refine RegV.noS rfl rfl ?_
              refine RegV.noS rfl rfl ?_
              refine RegV.noS rfl rfl ?_
              refine RegV.noS rfl rfl ?_
              refine RegV.p0 rfl rfl rfl ?_
              refine RegV.p0 rfl rfl rfl ?_
              refine RegV.nil1 (by kernel_rfl) ?_
              have hr := Option.some.inj h
              subst hr
              exact AWc.ret (canQ (N := 95) (k := 0) (l' := [(2, (.d (.bool false)))]) (H' := []) rfl ⟨rfl, [], [], rfl, rfl, ⟨⟨_, rfl, (.refl _)⟩, rfl, trivial⟩,  trivial⟩ (doneA (.inr rfl) rfl ⟨trivial, trivial⟩ (.refl _) hasNil))
        · have h := cond_neg c163 h
          refine RegV.noS rfl rfl ?_
          refine RegV.noS rfl rfl ?_
          refine RegV.noS rfl rfl ?_
          refine RegV.noS rfl rfl ?_
          refine RegV.noS rfl rfl ?_
          refine RegV.noS rfl rfl ?_
          refine RegV.noS rfl rfl ?_
          refine RegV.noS rfl rfl ?_
          refine RegV.noS rfl rfl ?_
          refine RegV.p0 rfl rfl rfl ?_
          refine RegV.p0 rfl rfl rfl ?_
          refine RegV.noS rfl rfl ?_
          refine RegV.noS rfl rfl ?_
          refine RegV.noS rfl rfl ?_
          refine RegV.noS rfl rfl ?_
          refine RegV.noS rfl rfl ?_
          refine RegV.noS rfl rfl ?_
          refine RegV.noS rfl rfl ?_
          refine RegV.noS rfl rfl ?_
          refine RegV.noS rfl rfl ?_
          refine RegV.p0 rfl rfl rfl ?_
          refine RegV.p0 rfl rfl rfl ?_
          refine RegV.noS rfl rfl ?_
          refine RegV.noS rfl rfl ?_
          refine RegV.noS rfl rfl ?_
          refine RegV.noS rfl rfl ?_
          refine RegV.p0 rfl rfl rfl ?_
          refine RegV.p0 rfl rfl rfl ?_
          refine RegV.nil1 (by kernel_rfl) ?_
          have hr := Option.some.inj h
          subst hr
          exact AWc.ret (canQ (N := 95) (k := 0) (l' := [(2, (.d (.bool false)))]) (H' := []) rfl ⟨rfl, [], [], rfl, rfl, ⟨⟨_, rfl, (.refl _)⟩, rfl, trivial⟩,  trivial⟩ (doneA (.inr rfl) rfl ⟨trivial, trivial⟩ (.refl _) hasNil))
/-- courant/courantref03.Short -/
def C256 (N : Nat → Nat) : AFunc := { n := 8, params := 1, res := [.tmp 2], body :=
 (.seq (.region false [⟨(some 2), .mv (.k (.d (.str []))), none, []⟩])
  (.seq (.region false [⟨(some 3), .mv (.t 0), none, []⟩,
    ⟨(some 4), .mv (.t 0), none, []⟩,
    ⟨(some 5), .call (.k (.d (.fn (N 257)))) [(.t 4)], none, [1]⟩,
    ⟨(some 6), .bin .add (.t 5) (.k (.d (.int .i64 1))), none, [2]⟩,
    ⟨(some 7), .ssl (.t 3) (some (.t 6)) none, none, [0, 3]⟩,
    ⟨(some 2), .mv (.t 7), none, [4, 2, 0, 1, 3]⟩])
   .ret)) }
def HC256 (P : Program) (N : Nat → Nat) : Prop := HasF P (N 256) (C256 N) ∧ HC257 P N
def f256 (k : Nat) (a0 : (List UInt8)) : Option (List UInt8) := (f257 k a0).bind fun r10 => gd (0 ≤ (IntKind.i64.wrap (r10 + (1 : Int))) ∧ (IntKind.i64.wrap (r10 + (1 : Int))) ≤ ((a0.length : Nat) : Int) ∧ ((a0.length : Nat) : Int) ≤ ((a0.length : Nat) : Int)) (some (sl a0 (IntKind.i64.wrap (r10 + (1 : Int))) ((a0.length : Nat) : Int)))
theorem F256 {P : Program} {N : Nat → Nat} (hmix : P.follows .mixedOrders = true) (hc : HC256 P N) {k : Nat} {a0 : (List UInt8)} {r : (List UInt8)} (h : f256 k a0 = some r) :
    ACalls P (N 256) [(.d (.str a0))] [] (.d (.str r)) [] := by
  refine acalls_canon (F := C256 N) hc.1 0 0 rfl ?_
  unfold f256 at h
  dsimp only [C256, startL]
  refine AWc.seq ?_
  refine AWc.rg hmix rfl rfl ?_
  refine RegV.p0 rfl rfl rfl ?_
  refine RegV.nil0 ?_
  refine AWc.seq ?_
  refine AWc.rg hmix rfl rfl ?_
  refine RegV.p0 rfl rfl rfl ?_
  refine RegV.p0 rfl rfl rfl ?_
  obtain ⟨r10, e10, h⟩ := bind_some h
  refine RegV.call0 (F257 hmix hc.2 e10) rfl rfl rfl rfl (.cons (.refl _) .nil) rfl ?_
  refine RegV.p0 (v := (.d (.int .i64 (IntKind.i64.wrap (r10 + (1 : Int)))))) rfl rfl rfl ?_
  obtain ⟨b12, h⟩ := gd_some h
  refine RegV.p1 (v := (.d (.str (sl a0 (IntKind.i64.wrap (r10 + (1 : Int))) ((a0.length : Nat) : Int))))) rfl rfl b12 rfl rfl ?_
  refine RegV.p0 rfl rfl rfl ?_
  refine RegV.nil0 ?_
  have hr := Option.some.inj h
  subst hr
  exact AWc.ret (canQ (N := 8) (k := 0) (l' := [(2, (.d (.str (sl a0 (IntKind.i64.wrap (r10 + (1 : Int))) ((a0.length : Nat) : Int)))))]) (H' := []) rfl ⟨rfl, [], [], rfl, rfl, ⟨⟨_, rfl, (.refl _)⟩, rfl, trivial⟩,  trivial⟩ (doneA (.inr rfl) rfl ⟨trivial, trivial⟩ (.refl _) hasNil))
/-- courant/courantref03.Space -/
def C343 (N : Nat → Nat) : AFunc := { n := 8, params := 1, res := [.tmp 2], body :=
 (.seq (.region false [⟨(some 2), .mv (.k (.d (.str []))), none, []⟩])
  (.seq (.region false [⟨(some 3), .mv (.t 0), none, []⟩,
    ⟨(some 4), .mv (.t 0), none, []⟩,
    ⟨(some 5), .call (.k (.d (.fn (N 257)))) [(.t 4)], none, [1]⟩,
    ⟨(some 6), .mm true [(.k (.d (.int .i64 0))), (.t 5)], none, [2]⟩,
    ⟨(some 7), .ssl (.t 3) none (some (.t 6)), none, [0, 3]⟩,
    ⟨(some 2), .mv (.t 7), none, [4, 2, 0, 1, 3]⟩])
   .ret)) }
def HC343 (P : Program) (N : Nat → Nat) : Prop := HasF P (N 343) (C343 N) ∧ HC257 P N
def f343 (k : Nat) (a0 : (List UInt8)) : Option (List UInt8) := (f257 k a0).bind fun r10 => gd (0 ≤ (0 : Int) ∧ (0 : Int) ≤ (max (0 : Int) r10) ∧ (max (0 : Int) r10) ≤ ((a0.length : Nat) : Int)) (some (sl a0 (0 : Int) (max (0 : Int) r10)))
theorem F343 {P : Program} {N : Nat → Nat} (hmix : P.follows .mixedOrders = true) (hc : HC343 P N) {k : Nat} {a0 : (List UInt8)} {r : (List UInt8)} (h : f343 k a0 = some r) :
    ACalls P (N 343) [(.d (.str a0))] [] (.d (.str r)) [] := by
  refine acalls_canon (F := C343 N) hc.1 0 0 rfl ?_
  unfold f343 at h
  dsimp only [C343, startL]
  refine AWc.seq ?_
  refine AWc.rg hmix rfl rfl ?_
  refine RegV.p0 rfl rfl rfl ?_
  refine RegV.nil0 ?_
  refine AWc.seq ?_
  refine AWc.rg hmix rfl rfl ?_
  refine RegV.p0 rfl rfl rfl ?_
  refine RegV.p0 rfl rfl rfl ?_
  obtain ⟨r10, e10, h⟩ := bind_some h
  refine RegV.call0 (F257 hmix hc.2 e10) rfl rfl rfl rfl (.cons (.refl _) .nil) rfl ?_
  refine RegV.p0 (v := (.d (.int .i64 (max (0 : Int) r10)))) rfl rfl rfl ?_
  obtain ⟨b12, h⟩ := gd_some h
  refine RegV.p1 (v := (.d (.str (sl a0 (0 : Int) (max (0 : Int) r10))))) rfl rfl b12 rfl rfl ?_
  refine RegV.p0 rfl rfl rfl ?_
  refine RegV.nil0 ?_
  have hr := Option.some.inj h
  subst hr
  exact AWc.ret (canQ (N := 8) (k := 0) (l' := [(2, (.d (.str (sl a0 (0 : Int) (max (0 : Int) r10)))))]) (H' := []) rfl ⟨rfl, [], [], rfl, rfl, ⟨⟨_, rfl, (.refl _)⟩, rfl, trivial⟩,  trivial⟩ (doneA (.inr rfl) rfl ⟨trivial, trivial⟩ (.refl _) hasNil))
/-- courant/names.Write -/
def C344 (N : Nat → Nat) : AFunc := { n := 8, params := 1, res := [.tmp 2], body :=
 (.seq (.region false [⟨(some 2), .mv (.k (.d (.str []))), none, []⟩])
  (.seq (.seq (.region false [⟨(some 3), .mv (.t 0), none, []⟩,
     ⟨(some 4), .call (.k (.d (.fn (N 321)))) [(.t 3), (.k (.d (.str [46])))], none, [0]⟩])
    (.cond (.t 4) (.seq (.region false [⟨(some 5), .mv (.t 0), none, []⟩,
       ⟨(some 2), .mv (.t 5), none, [0]⟩])
      .ret)
     (.skip)))
   (.seq (.region false [⟨(some 6), .mv (.t 0), none, []⟩,
     ⟨(some 7), .bin .add (.k (.d (.str [46]))) (.t 6), none, [0]⟩,
     ⟨(some 2), .mv (.t 7), none, [1, 0]⟩])
    .ret))) }
def HC344 (P : Program) (N : Nat → Nat) : Prop := HasF P (N 344) (C344 N) ∧ HC321 P N
def f344 (k : Nat) (a0 : (List UInt8)) : Option (List UInt8) := (f321 k a0 ([46] : List UInt8)).bind fun r10 => cond r10 (some a0) (gd (([46] : List UInt8).length + a0.length ≤ 9223372036854775807) (some (([46] : List UInt8) ++ a0)))
theorem F344 {P : Program} {N : Nat → Nat} (hmix : P.follows .mixedOrders = true) (hc : HC344 P N) {k : Nat} {a0 : (List UInt8)} {r : (List UInt8)} (h : f344 k a0 = some r) :
    ACalls P (N 344) [(.d (.str a0))] [] (.d (.str r)) [] := by
  refine acalls_canon (F := C344 N) hc.1 0 0 rfl ?_
  unfold f344 at h
  dsimp only [C344, startL]
  refine AWc.seq ?_
  refine AWc.rg hmix rfl rfl ?_
  refine RegV.p0 rfl rfl rfl ?_
  refine RegV.nil0 ?_
  refine AWc.seq ?_
  refine AWc.seq ?_
  refine AWc.rg hmix rfl rfl ?_
  refine RegV.p0 rfl rfl rfl ?_
  obtain ⟨r10, e10, h⟩ := bind_some h
  refine RegV.call0 (F321 hmix hc.2 e10) rfl rfl rfl rfl (.cons (.refl _) (.cons (.refl _) .nil)) rfl ?_
  refine RegV.nil0 ?_
  refine AWc.cond rfl (fun c11 => ?_) (fun c11 => ?_)
  · have h := cond_pos c11 h
    refine AWc.seq ?_
    refine AWc.rg hmix rfl rfl ?_
    refine RegV.p0 rfl rfl rfl ?_
    refine RegV.p0 rfl rfl rfl ?_
    refine RegV.nil0 ?_
    have hr := Option.some.inj h
    subst hr
    exact AWc.ret (canQ (N := 8) (k := 0) (l' := [(2, (.d (.str a0)))]) (H' := []) rfl ⟨rfl, [], [], rfl, rfl, ⟨⟨_, rfl, (.refl _)⟩, rfl, trivial⟩,  trivial⟩ (doneA (.inr rfl) rfl ⟨trivial, trivial⟩ (.refl _) hasNil))
  · have h := cond_neg c11 h
    refine AWc.skip ?_
    refine AWc.seq ?_
    refine AWc.rg hmix rfl rfl ?_
    refine RegV.p0 rfl rfl rfl ?_
    obtain ⟨b23, h⟩ := gd_some h
    refine RegV.p1 (v := (.d (.str (([46] : List UInt8) ++ a0)))) rfl rfl b23 rfl rfl ?_
    refine RegV.p0 rfl rfl rfl ?_
    refine RegV.nil0 ?_
    have hr := Option.some.inj h
    subst hr
    exact AWc.ret (canQ (N := 8) (k := 0) (l' := [(2, (.d (.str (([46] : List UInt8) ++ a0))))]) (H' := []) rfl ⟨rfl, [], [], rfl, rfl, ⟨⟨_, rfl, (.refl _)⟩, rfl, trivial⟩,  trivial⟩ (doneA (.inr rfl) rfl ⟨trivial, trivial⟩ (.refl _) hasNil))
/-- courant/courantref03.Write -/
def C345 (N : Nat → Nat) : AFunc := { n := 9, params := 1, res := [.tmp 2], body :=
 (.seq (.region false [⟨(some 2), .mv (.k (.d (.str []))), none, []⟩])
  (.seq (.seq (.region false [⟨(some 3), .mv (.t 0), none, []⟩,
     ⟨(some 4), .call (.k (.d (.fn (N 257)))) [(.t 3)], none, [0]⟩,
     ⟨(some 5), .bin .geq (.t 4) (.k (.d (.int .i64 0))), none, [1]⟩])
    (.cond (.t 5) (.seq (.region false [⟨(some 6), .mv (.t 0), none, []⟩,
       ⟨(some 2), .mv (.t 6), none, [0]⟩])
      .ret)
     (.skip)))
   (.seq (.region false [⟨(some 7), .mv (.t 0), none, []⟩,
     ⟨(some 8), .bin .add (.k (.d (.str [46]))) (.t 7), none, [0]⟩,
     ⟨(some 2), .mv (.t 8), none, [1, 0]⟩])
    .ret))) }
def HC345 (P : Program) (N : Nat → Nat) : Prop := HasF P (N 345) (C345 N) ∧ HC257 P N
def f345 (k : Nat) (a0 : (List UInt8)) : Option (List UInt8) := (f257 k a0).bind fun r10 => cond (decide (r10 ≥ (0 : Int))) (some a0) (gd (([46] : List UInt8).length + a0.length ≤ 9223372036854775807) (some (([46] : List UInt8) ++ a0)))
theorem F345 {P : Program} {N : Nat → Nat} (hmix : P.follows .mixedOrders = true) (hc : HC345 P N) {k : Nat} {a0 : (List UInt8)} {r : (List UInt8)} (h : f345 k a0 = some r) :
    ACalls P (N 345) [(.d (.str a0))] [] (.d (.str r)) [] := by
  refine acalls_canon (F := C345 N) hc.1 0 0 rfl ?_
  unfold f345 at h
  dsimp only [C345, startL]
  refine AWc.seq ?_
  refine AWc.rg hmix rfl rfl ?_
  refine RegV.p0 rfl rfl rfl ?_
  refine RegV.nil0 ?_
  refine AWc.seq ?_
  refine AWc.seq ?_
  refine AWc.rg hmix rfl rfl ?_
  refine RegV.p0 rfl rfl rfl ?_
  obtain ⟨r10, e10, h⟩ := bind_some h
  refine RegV.call0 (F257 hmix hc.2 e10) rfl rfl rfl rfl (.cons (.refl _) .nil) rfl ?_
  refine RegV.p0 (v := (.d (.bool (decide (r10 ≥ (0 : Int)))))) rfl rfl rfl ?_
  refine RegV.nil0 ?_
  refine AWc.cond rfl (fun c12 => ?_) (fun c12 => ?_)
  · have h := cond_pos c12 h
    refine AWc.seq ?_
    refine AWc.rg hmix rfl rfl ?_
    refine RegV.p0 rfl rfl rfl ?_
    refine RegV.p0 rfl rfl rfl ?_
    refine RegV.nil0 ?_
    have hr := Option.some.inj h
    subst hr
    exact AWc.ret (canQ (N := 9) (k := 0) (l' := [(2, (.d (.str a0)))]) (H' := []) rfl ⟨rfl, [], [], rfl, rfl, ⟨⟨_, rfl, (.refl _)⟩, rfl, trivial⟩,  trivial⟩ (doneA (.inr rfl) rfl ⟨trivial, trivial⟩ (.refl _) hasNil))
  · have h := cond_neg c12 h
    refine AWc.skip ?_
    refine AWc.seq ?_
    refine AWc.rg hmix rfl rfl ?_
    refine RegV.p0 rfl rfl rfl ?_
    obtain ⟨b24, h⟩ := gd_some h
    refine RegV.p1 (v := (.d (.str (([46] : List UInt8) ++ a0)))) rfl rfl b24 rfl rfl ?_
    refine RegV.p0 rfl rfl rfl ?_
    refine RegV.nil0 ?_
    have hr := Option.some.inj h
    subst hr
    exact AWc.ret (canQ (N := 9) (k := 0) (l' := [(2, (.d (.str (([46] : List UInt8) ++ a0))))]) (H' := []) rfl ⟨rfl, [], [], rfl, rfl, ⟨⟨_, rfl, (.refl _)⟩, rfl, trivial⟩,  trivial⟩ (doneA (.inr rfl) rfl ⟨trivial, trivial⟩ (.refl _) hasNil))
/-- courant/courantlaw03.NamesTell -/
def C327 (N : Nat → Nat) : AFunc := { n := 50, params := 1, res := [.tmp 2], body :=
 (.seq (.region false [⟨(some 2), .mv (.k (.d (.bool false))), none, []⟩])
  (.seq (.seq (.region false [⟨(some 3), .mv (.t 0), none, []⟩,
     ⟨(some 4), .slen (.t 3), none, [0]⟩,
     ⟨(some 5), .bin .gtr (.t 4) (.k (.d (.int .i64 5000))), none, [1]⟩])
    (.cond (.t 5) (.seq (.region false [⟨(some 6), .call (.k (.d (.fn (N 316)))) [], none, []⟩,
       ⟨(some 2), .mv (.t 6), none, [0]⟩])
      .ret)
     (.skip)))
   (.seq (.region false [⟨(some 7), .call (.k (.d (.fn (N 316)))) [], none, []⟩,
     ⟨(some 8), .mv (.t 7), none, [0]⟩,
     ⟨(some 9), .mv (.t 0), (some (8, true)), [1]⟩,
     ⟨(some 10), .call (.k (.d (.fn (N 320)))) [(.t 9)], (some (8, true)), [2, 1]⟩,
     ⟨(some 11), .mv (.t 0), (some (8, true)), [1]⟩,
     ⟨(some 12), .call (.k (.d (.fn (N 339)))) [(.t 11)], (some (8, true)), [4, 3, 1]⟩,
     ⟨(some 13), .beq false (.t 10) (.t 12), (some (8, true)), [3, 5, 1]⟩,
     ⟨(some 14), .pick (.t 8) (.t 13) (.k (.d (.bool false))), none, [1, 6]⟩,
     ⟨(some 15), .mv (.t 14), none, [7, 5]⟩,
     ⟨(some 16), .mv (.t 0), (some (15, true)), [8]⟩,
     ⟨(some 17), .call (.k (.d (.fn (N 332)))) [(.t 16)], (some (15, true)), [9, 8]⟩,
     ⟨(some 18), .mv (.t 0), (some (15, true)), [8]⟩,
     ⟨(some 19), .call (.k (.d (.fn (N 340)))) [(.t 18)], (some (15, true)), [11, 10, 8]⟩,
     ⟨(some 20), .beq false (.t 17) (.t 19), (some (15, true)), [10, 12, 8]⟩,
     ⟨(some 21), .pick (.t 15) (.t 20) (.k (.d (.bool false))), none, [8, 13]⟩,
     ⟨(some 22), .mv (.t 21), none, [14, 12]⟩,
     ⟨(some 23), .mv (.t 0), (some (22, true)), [15]⟩,
     ⟨(some 24), .call (.k (.d (.fn (N 235)))) [(.t 23)], (some (22, true)), [16, 15]⟩,
     ⟨(some 25), .mv (.t 0), (some (22, true)), [15]⟩,
     ⟨(some 26), .call (.k (.d (.fn (N 256)))) [(.t 25)], (some (22, true)), [18, 17, 15]⟩,
     ⟨(some 27), .bin .eql (.t 24) (.t 26), (some (22, true)), [17, 19, 15]⟩,
     ⟨(some 28), .pick (.t 22) (.t 27) (.k (.d (.bool false))), none, [15, 20]⟩,
     ⟨(some 29), .mv (.t 28), none, [21, 19]⟩,
     ⟨(some 30), .mv (.t 0), (some (29, true)), [22]⟩,
     ⟨(some 31), .call (.k (.d (.fn (N 342)))) [(.t 30)], (some (29, true)), [23, 22]⟩,
     ⟨(some 32), .mv (.t 0), (some (29, true)), [22]⟩,
     ⟨(some 33), .call (.k (.d (.fn (N 343)))) [(.t 32)], (some (29, true)), [25, 24, 22]⟩,
     ⟨(some 34), .bin .eql (.t 31) (.t 33), (some (29, true)), [24, 26, 22]⟩,
     ⟨(some 35), .pick (.t 29) (.t 34) (.k (.d (.bool false))), none, [22, 27]⟩,
     ⟨(some 36), .mv (.t 35), none, [28, 26]⟩,
     ⟨(some 37), .mv (.t 0), (some (36, true)), [29]⟩,
     ⟨(some 38), .call (.k (.d (.fn (N 337)))) [(.t 37)], (some (36, true)), [30, 29]⟩,
     ⟨(some 39), .mv (.t 0), (some (36, true)), [29]⟩,
     ⟨(some 40), .call (.k (.d (.fn (N 341)))) [(.t 39)], (some (36, true)), [32, 31, 29]⟩,
     ⟨(some 41), .bin .eql (.t 38) (.t 40), (some (36, true)), [31, 33, 29]⟩,
     ⟨(some 42), .pick (.t 36) (.t 41) (.k (.d (.bool false))), none, [29, 34]⟩,
     ⟨(some 43), .mv (.t 42), none, [35, 33]⟩,
     ⟨(some 44), .mv (.t 0), (some (43, true)), [36]⟩,
     ⟨(some 45), .call (.k (.d (.fn (N 344)))) [(.t 44)], (some (43, true)), [37, 36]⟩,
     ⟨(some 46), .mv (.t 0), (some (43, true)), [36]⟩,
     ⟨(some 47), .call (.k (.d (.fn (N 345)))) [(.t 46)], (some (43, true)), [39, 38, 36]⟩,
     ⟨(some 48), .bin .eql (.t 45) (.t 47), (some (43, true)), [38, 40, 36]⟩,
     ⟨(some 49), .pick (.t 43) (.t 48) (.k (.d (.bool false))), none, [36, 41]⟩,
     ⟨(some 2), .mv (.t 49), none, [42, 40, 0, 1, 2, 3, 4, 5, 6, 7, 8, 9, 10, 11, 12, 13, 14, 15, 16, 17, 18, 19, 20, 21, 22, 23, 24, 25, 26, 27, 28, 29, 30, 31, 32, 33, 34, 35, 36, 37, 38, 39, 41]⟩])
    .ret))) }
def HC327 (P : Program) (N : Nat → Nat) : Prop := HasF P (N 327) (C327 N) ∧ HC316 P N ∧ HC320 P N ∧ HC339 P N ∧ HC332 P N ∧ HC340 P N ∧ HC235 P N ∧ HC256 P N ∧ HC342 P N ∧ HC343 P N ∧ HC337 P N ∧ HC341 P N ∧ HC344 P N ∧ HC345 P N
def f327 (k : Nat) (a0 : (List UInt8)) : Option Bool := cond (decide (((a0.length : Nat) : Int) > (5000 : Int))) ((f316 k).bind fun r16 => some r16) ((f316 k).bind fun r23 => cond r23 ((f320 k a0).bind fun r26 => (f339 k a0).bind fun r28 => cond (r26 == r28) ((f332 k a0).bind fun r33 => (f340 k a0).bind fun r35 => cond (r33 == r35) ((f235 k a0).bind fun r40 => (f256 k a0).bind fun r42 => cond (decide (r40 = r42)) ((f342 k a0).bind fun r47 => (f343 k a0).bind fun r49 => cond (decide (r47 = r49)) ((f337 k a0).bind fun r54 => (f341 k a0).bind fun r56 => cond (decide (r54 = r56)) ((f344 k a0).bind fun r61 => (f345 k a0).bind fun r63 => some (decide (r61 = r63))) (some false)) (some false)) (some false)) (some false)) (some false)) (some false))
theorem F327 {P : Program} {N : Nat → Nat} (hmix : P.follows .mixedOrders = true) (hc : HC327 P N) {k : Nat} {a0 : (List UInt8)} {r : Bool} (h : f327 k a0 = some r) :
    ACalls P (N 327) [(.d (.str a0))] [] (.d (.bool r)) [] := by
  refine acalls_canon (F := C327 N) hc.1 0 0 rfl ?_
  unfold f327 at h
  dsimp only [C327, startL]
  refine AWc.seq ?_
  refine AWc.rg hmix rfl rfl ?_
  refine RegV.p0 rfl rfl rfl ?_
  refine RegV.nil0 ?_
  refine AWc.seq ?_
  refine AWc.seq ?_
  refine AWc.rg hmix rfl rfl ?_
  refine RegV.p0 rfl rfl rfl ?_
  refine RegV.p0 (v := (.d (.int .i64 ((a0.length : Nat) : Int)))) rfl rfl rfl ?_
  refine RegV.p0 (v := (.d (.bool (decide (((a0.length : Nat) : Int) > (5000 : Int)))))) rfl rfl rfl ?_
  refine RegV.nil0 ?_
  refine AWc.cond rfl (fun c12 => ?_) (fun c12 => ?_)
  · have h := cond_pos c12 h
    refine AWc.seq ?_
    refine AWc.rg hmix rfl rfl ?_
    obtain ⟨r16, e16, h⟩ := bind_some h
    refine RegV.call0 (F316 hmix hc.2.1 e16) rfl rfl rfl rfl .nil rfl ?_
    refine RegV.p0 rfl rfl rfl ?_
    refine RegV.nil0 ?_
    have hr := Option.some.inj h
    subst hr
    exact AWc.ret (canQ (N := 50) (k := 0) (l' := [(2, (.d (.bool r16)))]) (H' := []) rfl ⟨rfl, [], [], rfl, rfl, ⟨⟨_, rfl, (.refl _)⟩, rfl, trivial⟩,  trivial⟩ (doneA (.inr rfl) rfl ⟨trivial, trivial⟩ (.refl _) hasNil))
  · have h := cond_neg c12 h
    refine AWc.skip ?_
    refine AWc.seq ?_
    refine AWc.rg hmix rfl rfl ?_
    obtain ⟨r23, e23, h⟩ := bind_some h
    refine RegV.call0 (F316 hmix hc.2.1 e23) rfl rfl rfl rfl .nil rfl ?_
    refine RegV.p0 rfl rfl rfl ?_
    refine RegV.split (fun c24 => ?_) (fun c24 => ?_)
    · have h := cond_pos c24 h
      refine RegV.p0 rfl rfl rfl ?_
      obtain ⟨r26, e26, h⟩ := bind_some h
      refine RegV.call0 (F320 hmix hc.2.2.1 e26) rfl rfl rfl rfl (.cons (.refl _) .nil) rfl ?_
      refine RegV.p0 rfl rfl rfl ?_
      obtain ⟨r28, e28, h⟩ := bind_some h
      refine RegV.call0 (F339 hmix hc.2.2.2.1 e28) rfl rfl rfl rfl (.cons (.refl _) .nil) rfl ?_
      refine RegV.p0 (v := (.d (.bool (r26 == r28)))) rfl rfl rfl ?_
      refine RegV.p0 rfl rfl rfl ?_
      refine RegV.p0 rfl rfl rfl ?_
      refine RegV.split (fun c31 => ?_) (fun c31 => ?_)
      · have h := cond_pos c31 h
        refine RegV.p0 rfl rfl rfl ?_
        obtain ⟨r33, e33, h⟩ := bind_some h
        refine RegV.call0 (F332 hmix hc.2.2.2.2.1 e33) rfl rfl rfl rfl (.cons (.refl _) .nil) rfl ?_
        refine RegV.p0 rfl rfl rfl ?_
        obtain ⟨r35, e35, h⟩ := bind_some h
        refine RegV.call0 (F340 hmix hc.2.2.2.2.2.1 e35) rfl rfl rfl rfl (.cons (.refl _) .nil) rfl ?_
        refine RegV.p0 (v := (.d (.bool (r33 == r35)))) rfl rfl rfl ?_
        refine RegV.p0 rfl rfl rfl ?_
        refine RegV.p0 rfl rfl rfl ?_
        refine RegV.split (fun c38 => ?_) (fun c38 => ?_)
        · have h := cond_pos c38 h
          refine RegV.p0 rfl rfl rfl ?_
          obtain ⟨r40, e40, h⟩ := bind_some h
          refine RegV.call0 (F235 hmix hc.2.2.2.2.2.2.1 e40) rfl rfl rfl rfl (.cons (.refl _) .nil) rfl ?_
          refine RegV.p0 rfl rfl rfl ?_
          obtain ⟨r42, e42, h⟩ := bind_some h
          refine RegV.call0 (F256 hmix hc.2.2.2.2.2.2.2.1 e42) rfl rfl rfl rfl (.cons (.refl _) .nil) rfl ?_
          refine RegV.p0 (v := (.d (.bool (decide (r40 = r42))))) rfl rfl rfl ?_
          refine RegV.p0 rfl rfl rfl ?_
          refine RegV.p0 rfl rfl rfl ?_
          refine RegV.split (fun c45 => ?_) (fun c45 => ?_)
          · have h := cond_pos c45 h
            refine RegV.p0 rfl rfl rfl ?_
            obtain ⟨r47, e47, h⟩ := bind_some h
            refine RegV.call0 (F342 hmix hc.2.2.2.2.2.2.2.2.1 e47) rfl rfl rfl rfl (.cons (.refl _) .nil) rfl ?_
            refine RegV.p0 rfl rfl rfl ?_
            obtain ⟨r49, e49, h⟩ := bind_some h
            refine RegV.call0 (F343 hmix hc.2.2.2.2.2.2.2.2.2.1 e49) rfl rfl rfl rfl (.cons (.refl _) .nil) rfl ?_
            refine RegV.p0 (v := (.d (.bool (decide (r47 = r49))))) rfl rfl rfl ?_
            refine RegV.p0 rfl rfl rfl ?_
            refine RegV.p0 rfl rfl rfl ?_
            refine RegV.split (fun c52 => ?_) (fun c52 => ?_)
            · have h := cond_pos c52 h
              refine RegV.p0 rfl rfl rfl ?_
              obtain ⟨r54, e54, h⟩ := bind_some h
              refine RegV.call0 (F337 hmix hc.2.2.2.2.2.2.2.2.2.2.1 e54) rfl rfl rfl rfl (.cons (.refl _) .nil) rfl ?_
              refine RegV.p0 rfl rfl rfl ?_
              obtain ⟨r56, e56, h⟩ := bind_some h
              refine RegV.call0 (F341 hmix hc.2.2.2.2.2.2.2.2.2.2.2.1 e56) rfl rfl rfl rfl (.cons (.refl _) .nil) rfl ?_
              refine RegV.p0 (v := (.d (.bool (decide (r54 = r56))))) rfl rfl rfl ?_
              refine RegV.p0 rfl rfl rfl ?_
              refine RegV.p0 rfl rfl rfl ?_
              refine RegV.split (fun c59 => ?_) (fun c59 => ?_)
              · have h := cond_pos c59 h
                refine RegV.p0 rfl rfl rfl ?_
                obtain ⟨r61, e61, h⟩ := bind_some h
                refine RegV.call0 (F344 hmix hc.2.2.2.2.2.2.2.2.2.2.2.2.1 e61) rfl rfl rfl rfl (.cons (.refl _) .nil) rfl ?_
                refine RegV.p0 rfl rfl rfl ?_
                obtain ⟨r63, e63, h⟩ := bind_some h
                refine RegV.call0 (F345 hmix hc.2.2.2.2.2.2.2.2.2.2.2.2.2 e63) rfl rfl rfl rfl (.cons (.refl _) .nil) rfl ?_
                refine RegV.p0 (v := (.d (.bool (decide (r61 = r63))))) rfl rfl rfl ?_
                refine RegV.p0 rfl rfl rfl ?_
                refine RegV.p0 rfl rfl rfl ?_
                refine RegV.nil0 ?_
                have hr := Option.some.inj h
                subst hr
                exact AWc.ret (canQ (N := 50) (k := 0) (l' := [(2, (.d (.bool (decide (r61 = r63)))))]) (H' := []) rfl ⟨rfl, [], [], rfl, rfl, ⟨⟨_, rfl, (.refl _)⟩, rfl, trivial⟩,  trivial⟩ (doneA (.inr rfl) rfl ⟨trivial, trivial⟩ (.refl _) hasNil))
              · have h := cond_neg c59 h
                refine RegV.noS rfl rfl ?_
                refine RegV.noS rfl rfl ?_
                refine RegV.noS rfl rfl ?_
                refine RegV.noS rfl rfl ?_
                refine RegV.noS rfl rfl ?_
                refine RegV.p0 rfl rfl rfl ?_
                refine RegV.p0 rfl rfl rfl ?_
                refine RegV.nil0 ?_
                have hr := Option.some.inj h
                subst hr
                exact AWc.ret (canQ (N := 50) (k := 0) (l' := [(2, (.d (.bool false)))]) (H' := []) rfl ⟨rfl, [], [], rfl, rfl, ⟨⟨_, rfl, (.refl _)⟩, rfl, trivial⟩,  trivial⟩ (doneA (.inr rfl) rfl ⟨trivial, trivial⟩ (.refl _) hasNil))
            · have h := cond_neg c52 h
              refine RegV.noS rfl rfl ?_
              refine RegV.noS rfl rfl ?_
              refine RegV.noS rfl rfl ?_
              refine RegV.noS rfl rfl ?_
              refine RegV.noS rfl rfl ?_
              refine RegV.p0 rfl rfl rfl ?_
              refine RegV.p0 rfl rfl rfl ?_
              refine RegV.noS rfl rfl ?_
              refine RegV.noS rfl rfl ?_
              refine RegV.noS rfl rfl ?_
              refine RegV.noS rfl rfl ?_
              refine RegV.noS rfl rfl ?_
              refine RegV.p0 rfl rfl rfl ?_
              refine RegV.p0 rfl rfl rfl ?_
              refine RegV.nil0 ?_
              have hr := Option.some.inj h
              subst hr
              exact AWc.ret (canQ (N := 50) (k := 0) (l' := [(2, (.d (.bool false)))]) (H' := []) rfl ⟨rfl, [], [], rfl, rfl, ⟨⟨_, rfl, (.refl _)⟩, rfl, trivial⟩,  trivial⟩ (doneA (.inr rfl) rfl ⟨trivial, trivial⟩ (.refl _) hasNil))
          · have h := cond_neg c45 h
            refine RegV.noS rfl rfl ?_
            refine RegV.noS rfl rfl ?_
            refine RegV.noS rfl rfl ?_
            refine RegV.noS rfl rfl ?_
            refine RegV.noS rfl rfl ?_
            refine RegV.p0 rfl rfl rfl ?_
            refine RegV.p0 rfl rfl rfl ?_
            refine RegV.noS rfl rfl ?_
            refine RegV.noS rfl rfl ?_
            refine RegV.noS rfl rfl ?_
            refine RegV.noS rfl rfl ?_
            refine RegV.noS rfl rfl ?_
            refine RegV.p0 rfl rfl rfl ?_
            refine RegV.p0 rfl rfl rfl ?_
            refine RegV.noS rfl rfl ?_
            refine RegV.noS rfl rfl ?_
            refine RegV.noS rfl rfl ?_
            refine RegV.noS rfl rfl ?_
            refine RegV.noS rfl rfl ?_
            refine RegV.p0 rfl rfl rfl ?_
            refine RegV.p0 rfl rfl rfl ?_
            refine RegV.nil0 ?_
            have hr := Option.some.inj h
            subst hr
            exact AWc.ret (canQ (N := 50) (k := 0) (l' := [(2, (.d (.bool false)))]) (H' := []) rfl ⟨rfl, [], [], rfl, rfl, ⟨⟨_, rfl, (.refl _)⟩, rfl, trivial⟩,  trivial⟩ (doneA (.inr rfl) rfl ⟨trivial, trivial⟩ (.refl _) hasNil))
        · have h := cond_neg c38 h
          refine RegV.noS rfl rfl ?_
          refine RegV.noS rfl rfl ?_
          refine RegV.noS rfl rfl ?_
          refine RegV.noS rfl rfl ?_
          refine RegV.noS rfl rfl ?_
          refine RegV.p0 rfl rfl rfl ?_
          refine RegV.p0 rfl rfl rfl ?_
          refine RegV.noS rfl rfl ?_
          refine RegV.noS rfl rfl ?_
          refine RegV.noS rfl rfl ?_
          refine RegV.noS rfl rfl ?_
          refine RegV.noS rfl rfl ?_
          refine RegV.p0 rfl rfl rfl ?_
          refine RegV.p0 rfl rfl rfl ?_
          refine RegV.noS rfl rfl ?_
          refine RegV.noS rfl rfl ?_
          refine RegV.noS rfl rfl ?_
          refine RegV.noS rfl rfl ?_
          refine RegV.noS rfl rfl ?_
          refine RegV.p0 rfl rfl rfl ?_
          refine RegV.p0 rfl rfl rfl ?_
          refine RegV.noS rfl rfl ?_
          refine RegV.noS rfl rfl ?_
          refine RegV.noS rfl rfl ?_
          refine RegV.noS rfl rfl ?_
          refine RegV.noS rfl rfl ?_
          refine RegV.p0 rfl rfl rfl ?_
          refine RegV.p0 rfl rfl rfl ?_
          refine RegV.nil0 ?_
          have hr := Option.some.inj h
          subst hr
          exact AWc.ret (canQ (N := 50) (k := 0) (l' := [(2, (.d (.bool false)))]) (H' := []) rfl ⟨rfl, [], [], rfl, rfl, ⟨⟨_, rfl, (.refl _)⟩, rfl, trivial⟩,  trivial⟩ (doneA (.inr rfl) rfl ⟨trivial, trivial⟩ (.refl _) hasNil))
      · have h := cond_neg c31 h
        refine RegV.noS rfl rfl ?_
        refine RegV.noS rfl rfl ?_
        refine RegV.noS rfl rfl ?_
        refine RegV.noS rfl rfl ?_
        refine RegV.noS rfl rfl ?_
        refine RegV.p0 rfl rfl rfl ?_
        refine RegV.p0 rfl rfl rfl ?_
        refine RegV.noS rfl rfl ?_
        refine RegV.noS rfl rfl ?_
        refine RegV.noS rfl rfl ?_
        refine RegV.noS rfl rfl ?_
        refine RegV.noS rfl rfl ?_
        refine RegV.p0 rfl rfl rfl ?_
        refine RegV.p0 rfl rfl rfl ?_
        refine RegV.noS rfl rfl ?_
        refine RegV.noS rfl rfl ?_
        refine RegV.noS rfl rfl ?_
        refine RegV.noS rfl rfl ?_
        refine RegV.noS rfl rfl ?_
        refine RegV.p0 rfl rfl rfl ?_
        refine RegV.p0 rfl rfl rfl ?_
        refine RegV.noS rfl rfl ?_
        refine RegV.noS rfl rfl ?_
        refine RegV.noS rfl rfl ?_
        refine RegV.noS rfl rfl ?_
        refine RegV.noS rfl rfl ?_
        refine RegV.p0 rfl rfl rfl ?_
        refine RegV.p0 rfl rfl rfl ?_
        refine RegV.noS rfl rfl ?_
        refine RegV.noS rfl rfl ?_
        refine RegV.noS rfl rfl ?_
        refine RegV.noS rfl rfl ?_
        refine RegV.noS rfl rfl ?_
        refine RegV.p0 rfl rfl rfl ?_
        refine RegV.p0 rfl rfl rfl ?_
        refine RegV.nil0 ?_
        have hr := Option.some.inj h
        subst hr
        exact AWc.ret (canQ (N := 50) (k := 0) (l' := [(2, (.d (.bool false)))]) (H' := []) rfl ⟨rfl, [], [], rfl, rfl, ⟨⟨_, rfl, (.refl _)⟩, rfl, trivial⟩,  trivial⟩ (doneA (.inr rfl) rfl ⟨trivial, trivial⟩ (.refl _) hasNil))
    · have h := cond_neg c24 h
      refine RegV.noS rfl rfl ?_
      refine RegV.noS rfl rfl ?_
      refine RegV.noS rfl rfl ?_
      refine RegV.noS rfl rfl ?_
      refine RegV.noS rfl rfl ?_
      refine RegV.p0 rfl rfl rfl ?_
      refine RegV.p0 rfl rfl rfl ?_
      refine RegV.noS rfl rfl ?_
      refine RegV.noS rfl rfl ?_
      refine RegV.noS rfl rfl ?_
      refine RegV.noS rfl rfl ?_
      refine RegV.noS rfl rfl ?_
      refine RegV.p0 rfl rfl rfl ?_
      refine RegV.p0 rfl rfl rfl ?_
      refine RegV.noS rfl rfl ?_
      refine RegV.noS rfl rfl ?_
      refine RegV.noS rfl rfl ?_
      refine RegV.noS rfl rfl ?_
      refine RegV.noS rfl rfl ?_
      refine RegV.p0 rfl rfl rfl ?_
      refine RegV.p0 rfl rfl rfl ?_
      refine RegV.noS rfl rfl ?_
      refine RegV.noS rfl rfl ?_
      refine RegV.noS rfl rfl ?_
      refine RegV.noS rfl rfl ?_
      refine RegV.noS rfl rfl ?_
      refine RegV.p0 rfl rfl rfl ?_
      refine RegV.p0 rfl rfl rfl ?_
      refine RegV.noS rfl rfl ?_
      refine RegV.noS rfl rfl ?_
      refine RegV.noS rfl rfl ?_
      refine RegV.noS rfl rfl ?_
      refine RegV.noS rfl rfl ?_
      refine RegV.p0 rfl rfl rfl ?_
      refine RegV.p0 rfl rfl rfl ?_
      refine RegV.noS rfl rfl ?_
      refine RegV.noS rfl rfl ?_
      refine RegV.noS rfl rfl ?_
      refine RegV.noS rfl rfl ?_
      refine RegV.noS rfl rfl ?_
      refine RegV.p0 rfl rfl rfl ?_
      refine RegV.p0 rfl rfl rfl ?_
      refine RegV.nil0 ?_
      have hr := Option.some.inj h
      subst hr
      exact AWc.ret (canQ (N := 50) (k := 0) (l' := [(2, (.d (.bool false)))]) (H' := []) rfl ⟨rfl, [], [], rfl, rfl, ⟨⟨_, rfl, (.refl _)⟩, rfl, trivial⟩,  trivial⟩ (doneA (.inr rfl) rfl ⟨trivial, trivial⟩ (.refl _) hasNil))
/-- courant/courantlaw03.NamesBack -/
def C328 (N : Nat → Nat) : AFunc := { n := 77, params := 3, res := [.tmp 6], body :=
 (.seq (.region false [⟨(some 6), .mv (.k (.d (.bool false))), none, []⟩])
  (.seq (.seq (.region false [⟨(some 13), .mv (.t 0), none, []⟩,
     ⟨(some 14), .slen (.t 13), none, [0]⟩,
     ⟨(some 15), .bin .gtr (.t 14) (.k (.d (.int .i64 5000))), none, [1]⟩,
     ⟨(some 16), .mv (.t 15), none, [2]⟩,
     ⟨(some 17), .mv (.t 1), (some (16, false)), [3]⟩,
     ⟨(some 18), .slen (.t 17), (some (16, false)), [4, 3]⟩,
     ⟨(some 19), .bin .gtr (.t 18) (.k (.d (.int .i64 5000))), (some (16, false)), [5, 3]⟩,
     ⟨(some 20), .pick (.t 16) (.k (.d (.bool true))) (.t 19), none, [3, 6]⟩,
     ⟨(some 21), .mv (.t 20), none, [7, 3]⟩,
     ⟨(some 22), .mv (.t 2), (some (21, false)), [8]⟩,
     ⟨(some 23), .slen (.t 22), (some (21, false)), [9, 8]⟩,
     ⟨(some 24), .bin .gtr (.t 23) (.k (.d (.int .i64 5000))), (some (21, false)), [10, 8]⟩,
     ⟨(some 25), .pick (.t 21) (.k (.d (.bool true))) (.t 24), none, [8, 11]⟩])
    (.cond (.t 25) (.seq (.region false [⟨(some 26), .call (.k (.d (.fn (N 316)))) [], none, []⟩,
       ⟨(some 6), .mv (.t 26), none, [0]⟩])
      .ret)
     (.skip)))
   (.seq (.region false [⟨(some 28), .mv (.t 0), none, []⟩,
     ⟨(some 29), .mv (.t 1), none, []⟩,
     ⟨(some 30), .call (.k (.d (.fn (N 317)))) [(.t 28), (.t 29)], none, [0, 1]⟩,
     ⟨(some 27), .mv (.t 30), none, [2]⟩,
     ⟨(some 31), .ext (.t 27) 0, none, [3]⟩,
     ⟨(some 32), .ext (.t 27) 1, none, [3]⟩,
     ⟨(some 7), .mv (.t 31), none, [4, 2, 0, 1, 3]⟩,
     ⟨(some 8), .mv (.t 32), none, [5, 6, 0, 1, 2, 3, 4]⟩])
    (.seq (.seq (.region false [⟨(some 33), .call (.k (.d (.fn (N 316)))) [], none, []⟩,
       ⟨(some 34), .un .not (.t 33), none, [0]⟩,
       ⟨(some 35), .mv (.t 34), none, [1, 0]⟩,
       ⟨(some 36), .mv (.t 8), (some (35, false)), [2]⟩,
       ⟨(some 37), .un .not (.t 36), (some (35, false)), [3, 2]⟩,
       ⟨(some 38), .pick (.t 35) (.k (.d (.bool true))) (.t 37), none, [2, 4]⟩])
      (.cond (.t 38) (.seq (.region false [⟨(some 39), .call (.k (.d (.fn (N 316)))) [], none, []⟩,
         ⟨(some 40), .mv (.t 39), none, [0]⟩,
         ⟨(some 41), .mv (.t 7), (some (40, true)), [1]⟩,
         ⟨(some 42), .bin .eql (.t 41) (.k (.d (.str []))), (some (40, true)), [2, 1]⟩,
         ⟨(some 43), .pick (.t 40) (.t 42) (.k (.d (.bool false))), none, [1, 3]⟩,
         ⟨(some 6), .mv (.t 43), none, [4, 1, 0, 2, 3]⟩])
        .ret)
       (.skip)))
     (.seq (.region false [⟨(some 45), .mv (.t 7), none, []⟩,
       ⟨(some 46), .call (.k (.d (.fn (N 235)))) [(.t 45)], none, [0]⟩,
       ⟨(some 47), .mv (.t 7), none, []⟩,
       ⟨(some 48), .call (.k (.d (.fn (N 342)))) [(.t 47)], none, [2, 1]⟩,
       ⟨(some 49), .call (.k (.d (.fn (N 317)))) [(.t 46), (.t 48)], none, [1, 3]⟩,
       ⟨(some 44), .mv (.t 49), none, [4]⟩,
       ⟨(some 50), .ext (.t 44) 0, none, [5]⟩,
       ⟨(some 51), .ext (.t 44) 1, none, [5]⟩,
       ⟨(some 9), .mv (.t 50), none, [6, 4, 0, 1, 2, 3, 5]⟩,
       ⟨(some 10), .mv (.t 51), none, [7, 8, 0, 1, 2, 3, 4, 5, 6]⟩])
      (.seq (.region false [⟨(some 53), .mv (.t 7), none, []⟩,
        ⟨(some 54), .call (.k (.d (.fn (N 344)))) [(.t 53)], none, [0]⟩,
        ⟨(some 55), .mv (.t 2), none, []⟩,
        ⟨(some 56), .call (.k (.d (.fn (N 317)))) [(.t 54), (.t 55)], none, [1, 2]⟩,
        ⟨(some 52), .mv (.t 56), none, [3]⟩,
        ⟨(some 57), .ext (.t 52) 0, none, [4]⟩,
        ⟨(some 58), .ext (.t 52) 1, none, [4]⟩,
        ⟨(some 11), .mv (.t 57), none, [5, 3, 0, 1, 2, 4]⟩,
        ⟨(some 12), .mv (.t 58), none, [6, 7, 0, 1, 2, 3, 4, 5]⟩])
       (.seq (.region false [⟨(some 59), .mv (.t 7), none, []⟩,
         ⟨(some 60), .call (.k (.d (.fn (N 332)))) [(.t 59)], none, [0]⟩,
         ⟨(some 61), .mv (.t 60), none, [1]⟩,
         ⟨(some 62), .mv (.t 10), (some (61, true)), [2]⟩,
         ⟨(some 63), .pick (.t 61) (.t 62) (.k (.d (.bool false))), none, [2, 3]⟩,
         ⟨(some 64), .mv (.t 63), none, [4, 2]⟩,
         ⟨(some 65), .mv (.t 9), (some (64, true)), [5]⟩,
         ⟨(some 66), .mv (.t 7), (some (64, true)), [5]⟩,
         ⟨(some 67), .bin .eql (.t 65) (.t 66), (some (64, true)), [6, 7, 5]⟩,
         ⟨(some 68), .pick (.t 64) (.t 67) (.k (.d (.bool false))), none, [5, 8]⟩,
         ⟨(some 69), .mv (.t 68), none, [9, 5]⟩,
         ⟨(some 70), .mv (.t 12), (some (69, true)), [10]⟩,
         ⟨(some 71), .pick (.t 69) (.t 70) (.k (.d (.bool false))), none, [10, 11]⟩,
         ⟨(some 72), .mv (.t 71), none, [12, 10]⟩,
         ⟨(some 73), .mv (.t 11), (some (72, true)), [13]⟩,
         ⟨(some 74), .mv (.t 7), (some (72, true)), [13]⟩,
         ⟨(some 75), .bin .eql (.t 73) (.t 74), (some (72, true)), [14, 15, 13]⟩,
         ⟨(some 76), .pick (.t 72) (.t 75) (.k (.d (.bool false))), none, [13, 16]⟩,
         ⟨(some 6), .mv (.t 76), none, [17, 13, 0, 1, 2, 3, 4, 5, 6, 7, 8, 9, 10, 11, 12, 14, 15, 16]⟩])
        .ret))))))) }
def HC328 (P : Program) (N : Nat → Nat) : Prop := HasF P (N 328) (C328 N) ∧ HC316 P N ∧ HC317 P N ∧ HC235 P N ∧ HC342 P N ∧ HC344 P N ∧ HC332 P N
def f328_j51 (k : Nat) (r35 : ((List UInt8) × Bool)) (a2 : (List UInt8)) (j51_1 : Bool) : Option Bool := cond j51_1 ((f316 k).bind fun r55 => cond r55 (some (decide (r35.1 = ([] : List UInt8)))) (some false)) ((f235 k r35.1).bind fun r67 => (f342 k r35.1).bind fun r69 => (f317 k r67 r69).bind fun r70 => (f344 k r35.1).bind fun r80 => (f317 k r80 a2).bind fun r82 => (f332 k r35.1).bind fun r92 => cond r92 (cond r70.2 (cond (decide (r70.1 = r35.1)) (cond r82.2 (some (decide (r82.1 = r35.1))) (some false)) (some false)) (some false)) (some false))
def f328 (k : Nat) (a0 : (List UInt8)) (a1 : (List UInt8)) (a2 : (List UInt8)) : Option Bool := cond (decide (((a0.length : Nat) : Int) > (5000 : Int))) ((f316 k).bind fun r26 => some r26) (cond (decide (((a1.length : Nat) : Int) > (5000 : Int))) ((f316 k).bind fun r26 => some r26) (cond (decide (((a2.length : Nat) : Int) > (5000 : Int))) ((f316 k).bind fun r26 => some r26) ((f317 k a0 a1).bind fun r35 => (f316 k).bind fun r45 => cond (!r45) (f328_j51 k r35 a2 true) (f328_j51 k r35 a2 (!r35.2)))))
theorem F328 {P : Program} {N : Nat → Nat} (hmix : P.follows .mixedOrders = true) (hc : HC328 P N) {k : Nat} {a0 : (List UInt8)} {a1 : (List UInt8)} {a2 : (List UInt8)} {r : Bool} (h : f328 k a0 a1 a2 = some r) :
    ACalls P (N 328) [(.d (.str a0)), (.d (.str a1)), (.d (.str a2))] [] (.d (.bool r)) [] := by
  refine acalls_canon (F := C328 N) hc.1 0 0 rfl ?_
  unfold f328 at h
  dsimp only [C328, startL]
  refine AWc.seq ?_
  refine AWc.rg hmix rfl rfl ?_
  refine RegV.p0 rfl rfl rfl ?_
  refine RegV.nil0 ?_
  refine AWc.seq ?_
  refine AWc.seq ?_
  refine AWc.rg hmix rfl rfl ?_
  refine RegV.p0 rfl rfl rfl ?_
  refine RegV.p0 (v := (.d (.int .i64 ((a0.length : Nat) : Int)))) rfl rfl rfl ?_
  refine RegV.p0 (v := (.d (.bool (decide (((a0.length : Nat) : Int) > (5000 : Int)))))) rfl rfl rfl ?_
  refine RegV.p0 rfl rfl rfl ?_
  refine RegV.split (fun c12 => ?_) (fun c12 => ?_)
  · have h := cond_pos c12 h
    refine RegV.noS rfl rfl ?_
    refine RegV.noS rfl rfl ?_
    refine RegV.noS rfl rfl ?_
    refine RegV.p0 rfl rfl rfl ?_
    refine RegV.p0 rfl rfl rfl ?_
    refine RegV.noS rfl rfl ?_
    refine RegV.noS rfl rfl ?_
    refine RegV.noS rfl rfl ?_
    refine RegV.p0 rfl rfl rfl ?_
    refine RegV.nil0 ?_
    refine AWc.cond rfl (fun _ => ?_) (fun hc => by cases hc)
    refine AWc.seq ?_
    refine AWc.rg hmix rfl rfl ?_
    obtain ⟨r26, e26, h⟩ := bind_some h
    refine RegV.call0 (F316 hmix hc.2.1 e26) rfl rfl rfl rfl .nil rfl ?_
    refine RegV.p0 rfl rfl rfl ?_
    refine RegV.nil0 ?_
    have hr := Option.some.inj h
    subst hr
    exact AWc.ret (canQ (N := 77) (k := 0) (l' := [(6, (.d (.bool r26)))]) (H' := []) rfl ⟨rfl, [], [], rfl, rfl, ⟨⟨_, rfl, (.refl _)⟩, rfl, trivial⟩,  trivial⟩ (doneA (.inr rfl) rfl ⟨trivial, trivial⟩ (.refl _) hasNil))
  · have h := cond_neg c12 h
    refine RegV.p0 rfl rfl rfl ?_
    refine RegV.p0 (v := (.d (.int .i64 ((a1.length : Nat) : Int)))) rfl rfl rfl ?_
    refine RegV.p0 (v := (.d (.bool (decide (((a1.length : Nat) : Int) > (5000 : Int)))))) rfl rfl rfl ?_
    refine RegV.p0 rfl rfl rfl ?_
    refine RegV.p0 rfl rfl rfl ?_
    refine RegV.split (fun c17 => ?_) (fun c17 => ?_)
    · have h := cond_pos c17 h
      refine RegV.noS rfl rfl ?_
      refine RegV.noS rfl rfl ?_
      refine RegV.noS rfl rfl ?_
      refine RegV.p0 rfl rfl rfl ?_
      refine RegV.nil0 ?_
      refine AWc.cond rfl (fun _ => ?_) (fun hc => by cases hc)
      refine AWc.seq ?_
      refine AWc.rg hmix rfl rfl ?_
      obtain ⟨r26, e26, h⟩ := bind_some h
      refine RegV.call0 (F316 hmix hc.2.1 e26) rfl rfl rfl rfl .nil rfl ?_
      refine RegV.p0 rfl rfl rfl ?_
      refine RegV.nil0 ?_
      have hr := Option.some.inj h
      subst hr
      exact AWc.ret (canQ (N := 77) (k := 0) (l' := [(6, (.d (.bool r26)))]) (H' := []) rfl ⟨rfl, [], [], rfl, rfl, ⟨⟨_, rfl, (.refl _)⟩, rfl, trivial⟩,  trivial⟩ (doneA (.inr rfl) rfl ⟨trivial, trivial⟩ (.refl _) hasNil))
    · have h := cond_neg c17 h
      refine RegV.p0 rfl rfl rfl ?_
      refine RegV.p0 (v := (.d (.int .i64 ((a2.length : Nat) : Int)))) rfl rfl rfl ?_
      refine RegV.p0 (v := (.d (.bool (decide (((a2.length : Nat) : Int) > (5000 : Int)))))) rfl rfl rfl ?_
      refine RegV.p0 rfl rfl rfl ?_
      refine RegV.nil0 ?_
      refine AWc.cond rfl (fun c22 => ?_) (fun c22 => ?_)
      · have h := cond_pos c22 h
        refine AWc.seq ?_
        refine AWc.rg hmix rfl rfl ?_
        obtain ⟨r26, e26, h⟩ := bind_some h
        refine RegV.call0 (F316 hmix hc.2.1 e26) rfl rfl rfl rfl .nil rfl ?_
        refine RegV.p0 rfl rfl rfl ?_
        refine RegV.nil0 ?_
        have hr := Option.some.inj h
        subst hr
        exact AWc.ret (canQ (N := 77) (k := 0) (l' := [(6, (.d (.bool r26)))]) (H' := []) rfl ⟨rfl, [], [], rfl, rfl, ⟨⟨_, rfl, (.refl _)⟩, rfl, trivial⟩,  trivial⟩ (doneA (.inr rfl) rfl ⟨trivial, trivial⟩ (.refl _) hasNil))
      · have h := cond_neg c22 h
        refine AWc.skip ?_
        refine AWc.seq ?_
        refine AWc.rg hmix rfl rfl ?_
        refine RegV.p0 rfl rfl rfl ?_
        refine RegV.p0 rfl rfl rfl ?_
        obtain ⟨r35, e35, h⟩ := bind_some h
        refine RegV.call0 (F317 hmix hc.2.2.1 e35) rfl rfl rfl rfl (.cons (.refl _) (.cons (.refl _) .nil)) rfl ?_
        refine RegV.p0 rfl rfl rfl ?_
        refine RegV.p0 rfl rfl rfl ?_
        refine RegV.p0 rfl rfl rfl ?_
        refine RegV.p0 rfl rfl rfl ?_
        refine RegV.p0 rfl rfl rfl ?_
        refine RegV.nil0 ?_
        refine AWc.seq ?_
        refine AWc.seqS (N := 77) 0 (fun (z : Bool) => [(2, (.d (.str a2))), (7, (.d (.str r35.1))), (38, (.d (.bool z)))]) (fun z => []) (fun z => f328_j51 k r35 a2 z = some r) rfl_le ?_ ?_
        · refine AWc.rg hmix rfl rfl ?_
          obtain ⟨r45, e45, h⟩ := bind_some h
          refine RegV.call0 (F316 hmix hc.2.1 e45) rfl rfl rfl rfl .nil rfl ?_
          refine RegV.p0 (v := (.d (.bool (!r45)))) rfl rfl rfl ?_
          refine RegV.p0 rfl rfl rfl ?_
          refine RegV.split (fun c47 => ?_) (fun c47 => ?_)
          · have h := cond_pos c47 h
            refine RegV.noS rfl rfl ?_
            refine RegV.noS rfl rfl ?_
            refine RegV.p0 rfl rfl rfl ?_
            refine RegV.nil0 ?_
            exact ⟨true, h, ⟨rfl, [], [], rfl, rfl, ⟨⟨_, rfl, (.refl _)⟩, rfl, ⟨⟨_, rfl, (.refl _)⟩, rfl, ⟨⟨_, rfl, (.refl _)⟩, rfl, trivial⟩⟩⟩,  trivial⟩⟩
          · have h := cond_neg c47 h
            refine RegV.p0 rfl rfl rfl ?_
            refine RegV.p0 (v := (.d (.bool (!r35.2)))) rfl rfl rfl ?_
            refine RegV.p0 rfl rfl rfl ?_
            refine RegV.nil0 ?_
            exact ⟨(!r35.2), h, ⟨rfl, [], [], rfl, rfl, ⟨⟨_, rfl, (.refl _)⟩, rfl, ⟨⟨_, rfl, (.refl _)⟩, rfl, ⟨⟨_, rfl, (.refl _)⟩, rfl, trivial⟩⟩⟩,  trivial⟩⟩
        · intro j51_1 h
          unfold f328_j51 at h
          refine AWc.cond rfl (fun c51 => ?_) (fun c51 => ?_)
          · have h := cond_pos c51 h
            refine AWc.seq ?_
            refine AWc.rg hmix rfl rfl ?_
            obtain ⟨r55, e55, h⟩ := bind_some h
            refine RegV.call0 (F316 hmix hc.2.1 e55) rfl rfl rfl rfl .nil rfl ?_
            refine RegV.p0 rfl rfl rfl ?_
            refine RegV.split (fun c56 => ?_) (fun c56 => ?_)
            · have h := cond_pos c56 h
              refine RegV.p0 rfl rfl rfl ?_
              refine RegV.p0 (v := (.d (.bool (decide (r35.1 = ([] : List UInt8)))))) rfl rfl rfl ?_
              refine RegV.p0 rfl rfl rfl ?_
              refine RegV.p0 rfl rfl rfl ?_
              refine RegV.nil0 ?_
              have hr := Option.some.inj h
              subst hr
              exact AWc.ret (canQ (N := 77) (k := 0) (l' := [(6, (.d (.bool (decide (r35.1 = ([] : List UInt8))))))]) (H' := []) rfl ⟨rfl, [], [], rfl, rfl, ⟨⟨_, rfl, (.refl _)⟩, rfl, trivial⟩,  trivial⟩ (doneA (.inr rfl) rfl ⟨trivial, trivial⟩ (.refl _) hasNil))
            · have h := cond_neg c56 h
              refine RegV.noS rfl rfl ?_
              refine RegV.noS rfl rfl ?_
              refine RegV.p0 rfl rfl rfl ?_
              refine RegV.p0 rfl rfl rfl ?_
              refine RegV.nil0 ?_
              have hr := Option.some.inj h
              subst hr
              exact AWc.ret (canQ (N := 77) (k := 0) (l' := [(6, (.d (.bool false)))]) (H' := []) rfl ⟨rfl, [], [], rfl, rfl, ⟨⟨_, rfl, (.refl _)⟩, rfl, trivial⟩,  trivial⟩ (doneA (.inr rfl) rfl ⟨trivial, trivial⟩ (.refl _) hasNil))
          · have h := cond_neg c51 h
            refine AWc.skip ?_
            refine AWc.seq ?_
            refine AWc.rg hmix rfl rfl ?_
            refine RegV.p0 rfl rfl rfl ?_
            obtain ⟨r67, e67, h⟩ := bind_some h
            refine RegV.call0 (F235 hmix hc.2.2.2.1 e67) rfl rfl rfl rfl (.cons (.refl _) .nil) rfl ?_
            refine RegV.p0 rfl rfl rfl ?_
            obtain ⟨r69, e69, h⟩ := bind_some h
            refine RegV.call0 (F342 hmix hc.2.2.2.2.1 e69) rfl rfl rfl rfl (.cons (.refl _) .nil) rfl ?_
            obtain ⟨r70, e70, h⟩ := bind_some h
            refine RegV.call0 (F317 hmix hc.2.2.1 e70) rfl rfl rfl rfl (.cons (.refl _) (.cons (.refl _) .nil)) rfl ?_
            refine RegV.p0 rfl rfl rfl ?_
            refine RegV.p0 rfl rfl rfl ?_
            refine RegV.p0 rfl rfl rfl ?_
            refine RegV.p0 rfl rfl rfl ?_
            refine RegV.p0 rfl rfl rfl ?_
            refine RegV.nil0 ?_
            refine AWc.seq ?_
            refine AWc.rg hmix rfl rfl ?_
            refine RegV.p0 rfl rfl rfl ?_
            obtain ⟨r80, e80, h⟩ := bind_some h
            refine RegV.call0 (F344 hmix hc.2.2.2.2.2.1 e80) rfl rfl rfl rfl (.cons (.refl _) .nil) rfl ?_
            refine RegV.p0 rfl rfl rfl ?_
            obtain ⟨r82, e82, h⟩ := bind_some h
            refine RegV.call0 (F317 hmix hc.2.2.1 e82) rfl rfl rfl rfl (.cons (.refl _) (.cons (.refl _) .nil)) rfl ?_
            refine RegV.p0 rfl rfl rfl ?_
            refine RegV.p0 rfl rfl rfl ?_
            refine RegV.p0 rfl rfl rfl ?_
            refine RegV.p0 rfl rfl rfl ?_
            refine RegV.p0 rfl rfl rfl ?_
            refine RegV.nil0 ?_
            refine AWc.seq ?_
            refine AWc.rg hmix rfl rfl ?_
            refine RegV.p0 rfl rfl rfl ?_
            obtain ⟨r92, e92, h⟩ := bind_some h
            refine RegV.call0 (F332 hmix hc.2.2.2.2.2.2 e92) rfl rfl rfl rfl (.cons (.refl _) .nil) rfl ?_
            refine RegV.p0 rfl rfl rfl ?_
            refine RegV.split (fun c93 => ?_) (fun c93 => ?_)
            · have h := cond_pos c93 h
              refine RegV.p0 rfl rfl rfl ?_
              refine RegV.p0 rfl rfl rfl ?_
              refine RegV.p0 rfl rfl rfl ?_
              refine RegV.split (fun c96 => ?_) (fun c96 => ?_)
              · have h := cond_pos c96 h
                refine RegV.p0 rfl rfl rfl ?_
                refine RegV.p0 rfl rfl rfl ?_
                refine RegV.p0 (v := (.d (.bool (decide (r70.1 = r35.1))))) rfl rfl rfl ?_
                refine RegV.p0 rfl rfl rfl ?_
                refine RegV.p0 rfl rfl rfl ?_
                refine RegV.split (fun c101 => ?_) (fun c101 => ?_)
                · have h := cond_pos c101 h
                  refine RegV.p0 rfl rfl rfl ?_
                  refine RegV.p0 rfl rfl rfl ?_
                  refine RegV.p0 rfl rfl rfl ?_
                  refine RegV.split (fun c104 => ?_) (fun c104 => ?_)
                  · have h := cond_pos c104 h
                    refine RegV.p0 rfl rfl rfl ?_
                    refine RegV.p0 rfl rfl rfl ?_
                    refine RegV.p0 (v := (.d (.bool (decide (r82.1 = r35.1))))) rfl rfl rfl ?_
                    refine RegV.p0 rfl rfl rfl ?_
                    refine RegV.p0 rfl rfl rfl ?_
                    refine RegV.nil0 ?_
                    have hr := Option.some.inj h
                    subst hr
                    exact AWc.ret (canQ (N := 77) (k := 0) (l' := [(6, (.d (.bool (decide (r82.1 = r35.1)))))]) (H' := []) rfl ⟨rfl, [], [], rfl, rfl, ⟨⟨_, rfl, (.refl _)⟩, rfl, trivial⟩,  trivial⟩ (doneA (.inr rfl) rfl ⟨trivial, trivial⟩ (.refl _) hasNil))
                  · have h := cond_neg c104 h
                    refine RegV.noS rfl rfl ?_
                    refine RegV.noS rfl rfl ?_
                    refine RegV.noS rfl rfl ?_
                    refine RegV.p0 rfl rfl rfl ?_
                    refine RegV.p0 rfl rfl rfl ?_
                    refine RegV.nil0 ?_
                    have hr := Option.some.inj h
                    subst hr
                    exact AWc.ret (canQ (N := 77) (k := 0) (l' := [(6, (.d (.bool false)))]) (H' := []) rfl ⟨rfl, [], [], rfl, rfl, ⟨⟨_, rfl, (.refl _)⟩, rfl, trivial⟩,  trivial⟩ (doneA (.inr rfl) rfl ⟨trivial, trivial⟩ (.refl _) hasNil))
                · have h := cond_neg c101 h
                  refine RegV.noS rfl rfl ?_
                  refine RegV.p0 rfl rfl rfl ?_
                  refine RegV.p0 rfl rfl rfl ?_
                  refine RegV.noS rfl rfl ?_
                  refine RegV.noS rfl rfl ?_
                  refine RegV.noS rfl rfl ?_
                  refine RegV.p0 rfl rfl rfl ?_
                  refine RegV.p0 rfl rfl rfl ?_
                  refine RegV.nil0 ?_
                  have hr := Option.some.inj h
                  subst hr
                  exact AWc.ret (canQ (N := 77) (k := 0) (l' := [(6, (.d (.bool false)))]) (H' := []) rfl ⟨rfl, [], [], rfl, rfl, ⟨⟨_, rfl, (.refl _)⟩, rfl, trivial⟩,  trivial⟩ (doneA (.inr rfl) rfl ⟨trivial, trivial⟩ (.refl _) hasNil))
              · have h := cond_neg c96 h
                refine RegV.noS rfl rfl ?_
                refine RegV.noS rfl rfl ?_
                refine RegV.noS rfl rfl ?_
                refine RegV.p0 rfl rfl rfl ?_
                refine RegV.p0 rfl rfl rfl ?_
                refine RegV.noS rfl rfl ?_
                refine RegV.p0 rfl rfl rfl ?_
                refine RegV.p0 rfl rfl rfl ?_
                refine RegV.noS rfl rfl ?_
                refine RegV.noS rfl rfl ?_
                refine RegV.noS rfl rfl ?_
                refine RegV.p0 rfl rfl rfl ?_
                refine RegV.p0 rfl rfl rfl ?_
                refine RegV.nil0 ?_
                have hr := Option.some.inj h
                subst hr
                exact AWc.ret (canQ (N := 77) (k := 0) (l' := [(6, (.d (.bool false)))]) (H' := []) rfl ⟨rfl, [], [], rfl, rfl, ⟨⟨_, rfl, (.refl _)⟩, rfl, trivial⟩,  trivial⟩ (doneA (.inr rfl) rfl ⟨trivial, trivial⟩ (.refl _) hasNil))
            · have h := cond_neg c93 h
              refine RegV.noS rfl rfl ?_
              refine RegV.p0 rfl rfl rfl ?_
              refine RegV.p0 rfl rfl rfl ?_
              refine RegV.noS rfl rfl ?_
              refine RegV.noS rfl rfl ?_
              refine RegV.noS rfl rfl ?_
              refine RegV.p0 rfl rfl rfl ?_
              refine RegV.p0 rfl rfl rfl ?_
              refine RegV.noS rfl rfl ?_
              refine RegV.p0 rfl rfl rfl ?_
              refine RegV.p0 rfl rfl rfl ?_
              refine RegV.noS rfl rfl ?_
              refine RegV.noS rfl rfl ?_
              refine RegV.noS rfl rfl ?_
              refine RegV.p0 rfl rfl rfl ?_
              refine RegV.p0 rfl rfl rfl ?_
              refine RegV.nil0 ?_
              have hr := Option.some.inj h
              subst hr
              exact AWc.ret (canQ (N := 77) (k := 0) (l' := [(6, (.d (.bool false)))]) (H' := []) rfl ⟨rfl, [], [], rfl, rfl, ⟨⟨_, rfl, (.refl _)⟩, rfl, trivial⟩,  trivial⟩ (doneA (.inr rfl) rfl ⟨trivial, trivial⟩ (.refl _) hasNil))
end Go.Proofs.Abs
