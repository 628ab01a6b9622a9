/- Written by gen.py: functions of the program as Lean functions, and that the code comes to them. -/
import Derived.Test.YtnhjiioiejpbgaaDoorGJb
set_option linter.unusedVariables false
set_option linter.unusedSimpArgs false
set_option maxRecDepth 100000
set_option maxHeartbeats 4000000
namespace Go.Proofs.Abs
open Go
def L425_0a (N : Nat → Nat) : ACode :=
 (.seq (.region false [⟨some 6, .mv (.t 55), none, []⟩])
  (.region false [⟨some 7, .mv (.t 56), none, []⟩]))
def L425_0b (N : Nat → Nat) : ACode :=
 (.block 2 (.seq (.seq (.region false [⟨some 58, .load (.t 5) 1 false, none, []⟩,
 ⟨some 59, .mv (.t 7), none, []⟩,
 ⟨some 60, .mget (.t 58) (.t 59) (.int .i64 0), none, [0, 1]⟩,
 ⟨some 57, .mv (.t 60), none, [2]⟩,
 ⟨some 61, .ext (.t 57) 0, none, [3]⟩,
 ⟨some 62, .ext (.t 57) 1, none, [3]⟩,
 ⟨some 8, .mv (.t 61), none, [4, 0, 1, 2, 3]⟩,
 ⟨some 9, .mv (.t 62), none, [5, 6, 0, 1, 2, 3, 4]⟩])
 (.seq (.region false [⟨some 63, .mv (.t 9), none, []⟩,
 ⟨some 64, .mv (.t 63), none, [0]⟩,
 ⟨some 65, .mv (.t 7), some (64, false), [1]⟩,
 ⟨some 66, .call (.k (.d (.fn (N 351)))) [(.t 65)], some (64, false), [2, 1]⟩,
 ⟨some 67, .un .not (.t 66), some (64, false), [3, 1]⟩,
 ⟨some 68, .pick (.t 64) (.k (.d (.bool true))) (.t 67), none, [1, 4]⟩])
     (.cond (.t 68) (.seq (.region false [⟨none, .store (.t 4) (.k (.d (.bool false))) 1, none, []⟩])
       .ret)
      (.skip))))
   (.region false [⟨some 69, .load (.t 5) 1 false, none, []⟩,
 ⟨some 70, .mv (.t 7), none, []⟩,
 ⟨some 71, .mv (.t 6), none, []⟩,
 ⟨none, .mset (.t 69) (.t 70) (.t 71), none, [0, 1, 2]⟩])))
/-- courant/json.right -/
def C425 (N : Nat → Nat) : AFunc := { n := 86, params := 2, res := [.cell 4 1 false], body :=
 (.seq (.region false [⟨some 2, .box (.t 0), none, []⟩,
 ⟨some 3, .box (.t 1), none, []⟩,
 ⟨some 4, .alloc [(.bool false)], none, []⟩])
 (.seq (.seq (.region false [⟨some 10, .faddr (.t 2) 0, none, []⟩,
 ⟨some 11, .load (.t 10) 1 false, none, [0]⟩])
    (.block 0 (.seq (.seq (.region false [⟨some 13, .bin .eql (.t 11) (.k (.d (.int .i64 1))), none, []⟩,
 ⟨some 12, .mv (.t 13), none, [0]⟩])
       (.cond (.t 12) (.skip)
 (.seq (.region false [⟨some 14, .bin .eql (.t 11) (.k (.d (.int .i64 2))), none, []⟩,
 ⟨some 12, .mv (.t 14), none, [0]⟩])
         (.cond (.t 12) (.skip)
          (.region false [⟨some 15, .bin .eql (.t 11) (.k (.d (.int .i64 3))), none, []⟩,
 ⟨some 12, .mv (.t 15), none, [0]⟩])))))
      (.cond (.t 12) (.seq (.region false [⟨some 16, .load (.t 2) 4 true, none, []⟩,
 ⟨some 17, .call (.k (.d (.fn (N 426)))) [(.t 16), (.k (.d (.bool false)))], none, [0]⟩,
 ⟨none, .store (.t 4) (.t 17) 1, none, [1, 0]⟩])
        .ret)
 (.seq (.region false [⟨some 19, .bin .eql (.t 11) (.k (.d (.int .i64 4))), none, []⟩,
 ⟨some 18, .mv (.t 19), none, [0]⟩])
        (.cond (.t 18) (.seq (.region false [⟨some 20, .load (.t 2) 4 true, none, []⟩,
 ⟨some 21, .call (.k (.d (.fn (N 426)))) [(.t 20), (.k (.d (.bool true)))], none, [0]⟩,
 ⟨some 22, .mv (.t 21), none, [1]⟩,
 ⟨some 23, .faddr (.t 2) 1, some (22, true), [2]⟩,
 ⟨some 24, .load (.t 23) 1 false, some (22, true), [3, 2]⟩,
 ⟨some 25, .call (.k (.d (.fn (N 406)))) [(.t 24)], some (22, true), [4, 2]⟩,
 ⟨some 26, .pick (.t 22) (.t 25) (.k (.d (.bool false))), none, [2, 5]⟩,
 ⟨none, .store (.t 4) (.t 26) 1, none, [6, 5, 0, 1, 2, 3, 4]⟩])
          .ret)
 (.seq (.region false [⟨some 28, .bin .eql (.t 11) (.k (.d (.int .i64 5))), none, []⟩,
 ⟨some 27, .mv (.t 28), none, [0]⟩])
          (.cond (.t 27) (.seq (.region false [⟨some 29, .load (.t 2) 4 true, none, []⟩,
 ⟨some 30, .call (.k (.d (.fn (N 426)))) [(.t 29), (.k (.d (.bool true)))], none, [0]⟩,
 ⟨some 31, .mv (.t 30), none, [1]⟩,
 ⟨some 32, .faddr (.t 2) 1, some (31, true), [2]⟩,
 ⟨some 33, .load (.t 32) 1 false, some (31, true), [3, 2]⟩,
 ⟨some 34, .call (.k (.d (.fn (N 351)))) [(.t 33)], some (31, true), [4, 2]⟩,
 ⟨some 35, .pick (.t 31) (.t 34) (.k (.d (.bool false))), none, [2, 5]⟩,
 ⟨none, .store (.t 4) (.t 35) 1, none, [6, 5, 0, 1, 2, 3, 4]⟩])
            .ret)
 (.seq (.region false [⟨some 37, .bin .eql (.t 11) (.k (.d (.int .i64 6))), none, []⟩,
 ⟨some 36, .mv (.t 37), none, [0]⟩])
            (.cond (.t 36) (.seq (.region false [⟨some 38, .faddr (.t 2) 3, none, []⟩,
 ⟨some 39, .load (.t 38) 1 false, none, [0]⟩,
 ⟨some 40, .len (.t 39), none, [1]⟩,
 ⟨some 41, .bin .gtr (.t 40) (.k (.d (.int .i64 0))), none, [2]⟩])
              (.cond (.t 41) (.seq (.region false [⟨none, .store (.t 4) (.k (.d (.bool false))) 1, none, []⟩])
                .ret)
               (.skip)))
 (.seq (.region false [⟨some 43, .bin .eql (.t 11) (.k (.d (.int .i64 7))), none, []⟩,
 ⟨some 42, .mv (.t 43), none, [0]⟩])
              (.cond (.t 42) (.seq (.seq (.region false [⟨some 44, .faddr (.t 2) 3, none, []⟩,
 ⟨some 45, .load (.t 44) 1 false, none, [0]⟩,
 ⟨some 46, .len (.t 45), none, [1]⟩,
 ⟨some 47, .faddr (.t 2) 2, none, []⟩,
 ⟨some 48, .load (.t 47) 1 false, none, [3]⟩,
 ⟨some 49, .len (.t 48), none, [4]⟩,
 ⟨some 50, .bin .neq (.t 46) (.t 49), none, [2, 5]⟩])
                 (.cond (.t 50) (.seq (.region false [⟨none, .store (.t 4) (.k (.d (.bool false))) 1, none, []⟩])
                   .ret)
                  (.skip)))
 (.seq (.region false [⟨some 51, .mkmap, none, []⟩,
 ⟨some 5, .alloc [.nilm], none, []⟩,
 ⟨none, .store (.t 5) (.t 51) 1, none, [1, 0]⟩])
 (.seq (.region false [⟨some 52, .faddr (.t 2) 3, none, []⟩,
 ⟨some 53, .load (.t 52) 1 false, none, [0]⟩,
 ⟨some 54, .call (.k (.d (.fn (N 427)))) [(.t 53)], none, [1]⟩])
                  (.block 1 (.rangeFunc (.t 54) [55, 56] (L425_0a N) (L425_0b N))))))
 (.seq (.region false [⟨none, .store (.t 4) (.k (.d (.bool false))) 1, none, []⟩])
                .ret)))))))))))))
 (.seq (.region false [⟨some 72, .faddr (.t 2) 1, none, []⟩,
 ⟨some 73, .load (.t 72) 1 false, none, [0]⟩,
 ⟨some 74, .bin .eql (.t 73) (.k (.d (.str []))), none, [1]⟩,
 ⟨some 75, .mv (.t 74), none, [2]⟩,
 ⟨some 76, .load (.t 3) 1 false, some (75, true), [3]⟩,
 ⟨some 77, .bin .lss (.t 76) (.k (.d (.int .i64 64))), some (75, true), [4, 3]⟩,
 ⟨some 78, .pick (.t 75) (.t 77) (.k (.d (.bool false))), none, [3, 5]⟩,
 ⟨some 79, .mv (.t 78), none, [6, 3]⟩,
 ⟨some 80, .faddr (.t 2) 2, some (79, true), [7]⟩,
 ⟨some 81, .load (.t 80) 1 false, some (79, true), [8, 7]⟩,
 ⟨some 82, .mkfn (N 428) [(.t 3)], some (79, true), [7]⟩,
 ⟨some 83, .call (.k (.d (.fn (N 429)))) [(.t 81), (.t 82)], some (79, true), [9, 10, 7]⟩,
 ⟨some 84, .un .not (.t 83), some (79, true), [11, 7]⟩,
 ⟨some 85, .pick (.t 79) (.t 84) (.k (.d (.bool false))), none, [7, 12]⟩,
 ⟨none, .store (.t 4) (.t 85) 1, none, [13, 11, 0, 1, 2, 3, 4, 5, 6, 7, 8, 9, 10, 12]⟩])
    .ret))) }
def HCb425_134 (P : Program) (N : Nat → Nat) : Prop := True ∧ HC351 P N
def b425_134 (k : Nat) (a0 : Bool) (a1 : MM) (a2 : Int) (a3 : (List UInt8)) : Option (Unit ⊕ Unit) := cond (mhas a1 a3) (some (.inl ())) ((f351 k a3).bind fun r162 => cond (!r162) (some (.inl ())) (some (.inr ())))
theorem B425_134_0 {P : Program} {N : Nat → Nat} (hmix : P.follows .mixedOrders = true) (hc : HCb425_134 P N) {asg0 bd0 : Code} (ha0 : compCode P asg0 = L425_0a N) (hb0 : compCode P bd0 = L425_0b N) {k : Nat} {a0 : Bool} {a1 : MM} {a2 : Int} {a3 : (List UInt8)} {r : Unit} (h : b425_134 k a0 a1 a2 a3 = some (.inl r)) :
    ARound P 0 [(.d (.int .i64 a2)), (.d (.str a3))] [(0, (.lp 86 [(4, (.ptr 1 0)), (5, (.ptr 2 0))] [55, 56] asg0 bd0 .ready none)), (1, (.cells [(.d (.bool a0))])), (2, (.cells [(.mp 3)])), (3, (mpO a1))] (.d (.bool false)) [(0, (.lp 86 [(4, (.ptr 1 0)), (5, (.ptr 2 0))] [55, 56] asg0 bd0 .done (some .ret))), (1, (.cells [(.d (.bool false))])), (2, (.cells [(.mp 3)])), (3, (mpO a1))] := by
  refine around_gen 4 4 ha0 hb0 rfl rfl (fun ro => ?_)
  unfold b425_134 at h
  dsimp only [L425_0a, L425_0b, putArgs]
  refine AWc.seq ?_
  refine AWc.rg hmix rfl rfl ?_
  refine RegV.p0 rfl rfl rfl ?_
  refine RegV.nil0 ?_
  refine AWc.rg hmix rfl rfl ?_
  refine RegV.p0 rfl rfl rfl ?_
  refine RegV.nil0 ?_
  refine asgDone rfl rfl ?_
  refine AWc.block (AWc.seq (AWc.seq ?_))
  refine AWc.rg hmix rfl rfl ?_
  refine RegV.ld (v := (.mp 3)) (H' := [(2, (.cells [(.mp 3)])), (0, (.lp 86 [(4, (.ptr 1 0)), (5, (.ptr 2 0))] [55, 56] asg0 bd0 .busy none)), (1, (.cells [(.d (.bool a0))])), (3, (mpO a1))]) rfl rfl trivial rfl rfl rfl rfl rfl ?_
  refine RegV.p0 rfl rfl rfl ?_
  refine RegV.mget (m := a1) (s := a3) (H' := [(3, (mpO a1)), (2, (.cells [(.mp 3)])), (0, (.lp 86 [(4, (.ptr 1 0)), (5, (.ptr 2 0))] [55, 56] asg0 bd0 .busy none)), (1, (.cells [(.d (.bool a0))]))]) rfl rfl rfl rfl rfl rfl rfl rfl ?_
  refine RegV.p0 rfl rfl rfl ?_
  refine RegV.p0 rfl rfl rfl ?_
  refine RegV.p0 rfl rfl rfl ?_
  refine RegV.p0 rfl rfl rfl ?_
  refine RegV.p0 rfl rfl rfl ?_
  refine RegV.nil0 ?_
  refine AWc.seq ?_
  refine AWc.rg hmix rfl rfl ?_
  refine RegV.p0 rfl rfl rfl ?_
  refine RegV.p0 rfl rfl rfl ?_
  refine RegV.split (fun c160 => ?_) (fun c160 => ?_)
  · have h := cond_pos c160 h
    refine RegV.noS rfl rfl ?_
    refine RegV.noS rfl rfl ?_
    refine RegV.noS rfl rfl ?_
    refine RegV.p0 rfl rfl rfl ?_
    refine RegV.nil0 ?_
    refine AWc.cond rfl (fun _ => ?_) (fun hc => by cases hc)
    refine AWc.seq ?_
    refine AWc.rg hmix rfl rfl ?_
    refine RegV.evN (own := false) (H' := [(1, (.cells [(.d (.bool false))])), (3, (mpO a1)), (2, (.cells [(.mp 3)])), (0, (.lp 86 [(4, (.ptr 1 0)), (5, (.ptr 2 0))] [55, 56] asg0 bd0 .busy none))]) (c' := 4) rfl rfl (by exact ⟨rfl, Nat.le_of_ble_eq_true rfl, rfl⟩) rfl rfl rfl rfl ?_
    refine RegV.nil0 ?_
    have hr := Option.some.inj h
    have hr := Sum.inl.inj hr
    subst hr
    exact AWc.ret (canQ (N := 86) (k := 4) (l' := []) (H' := [(0, (.lp 86 [(4, (.ptr 1 0)), (5, (.ptr 2 0))] [55, 56] asg0 bd0 .busy none)), (1, (.cells [(.d (.bool false))])), (2, (.cells [(.mp 3)])), (3, (mpO a1))]) rfl ⟨rfl, [], [], rfl, rfl,  trivial, ⟨⟨_, rfl, (.refl _)⟩, rfl, rfl, ⟨⟨_, rfl, (.refl _)⟩, rfl, rfl, ⟨⟨_, rfl, (.refl _)⟩, rfl, rfl, ⟨⟨_, rfl, (.refl _)⟩, rfl, rfl, trivial⟩⟩⟩⟩⟩ (roundD rfl rfl rfl rfl (hasCons rfl (hasCons rfl (hasCons rfl (hasCons rfl hasNil))))))
  · have h := cond_neg c160 h
    refine RegV.p0 rfl rfl rfl ?_
    obtain ⟨r162, e162, h⟩ := bind_some h
    refine RegV.call0 (F351 hmix hc.2 e162) rfl rfl rfl rfl (.cons (.refl _) .nil) rfl ?_
    refine RegV.p0 (v := (.d (.bool (!r162)))) rfl rfl rfl ?_
    refine RegV.p0 rfl rfl rfl ?_
    refine RegV.nil0 ?_
    refine AWc.cond rfl (fun c165 => ?_) (fun c165 => ?_)
    · have h := cond_pos c165 h
      refine AWc.seq ?_
      refine AWc.rg hmix rfl rfl ?_
      refine RegV.evN (own := false) (H' := [(1, (.cells [(.d (.bool false))])), (3, (mpO a1)), (2, (.cells [(.mp 3)])), (0, (.lp 86 [(4, (.ptr 1 0)), (5, (.ptr 2 0))] [55, 56] asg0 bd0 .busy none))]) (c' := 4) rfl rfl (by exact ⟨rfl, Nat.le_of_ble_eq_true rfl, rfl⟩) rfl rfl rfl rfl ?_
      refine RegV.nil0 ?_
      have hr := Option.some.inj h
      have hr := Sum.inl.inj hr
      subst hr
      exact AWc.ret (canQ (N := 86) (k := 4) (l' := []) (H' := [(0, (.lp 86 [(4, (.ptr 1 0)), (5, (.ptr 2 0))] [55, 56] asg0 bd0 .busy none)), (1, (.cells [(.d (.bool false))])), (2, (.cells [(.mp 3)])), (3, (mpO a1))]) rfl ⟨rfl, [], [], rfl, rfl,  trivial, ⟨⟨_, rfl, (.refl _)⟩, rfl, rfl, ⟨⟨_, rfl, (.refl _)⟩, rfl, rfl, ⟨⟨_, rfl, (.refl _)⟩, rfl, rfl, ⟨⟨_, rfl, (.refl _)⟩, rfl, rfl, trivial⟩⟩⟩⟩⟩ (roundD rfl rfl rfl rfl (hasCons rfl (hasCons rfl (hasCons rfl (hasCons rfl hasNil))))))
    · have h := cond_neg c165 h
      refine AWc.skip ?_
      refine AWc.rg hmix rfl rfl ?_
      refine RegV.ld (v := (.mp 3)) (H' := [(2, (.cells [(.mp 3)])), (3, (mpO a1)), (0, (.lp 86 [(4, (.ptr 1 0)), (5, (.ptr 2 0))] [55, 56] asg0 bd0 .busy none)), (1, (.cells [(.d (.bool a0))]))]) rfl rfl trivial rfl rfl rfl rfl rfl ?_
      refine RegV.p0 rfl rfl rfl ?_
      refine RegV.p0 rfl rfl rfl ?_
      refine RegV.mset (m := a1) (s := a3) (n := a2) (H' := [(3, (mpO (mput a1 a3 a2))), (2, (.cells [(.mp 3)])), (0, (.lp 86 [(4, (.ptr 1 0)), (5, (.ptr 2 0))] [55, 56] asg0 bd0 .busy none)), (1, (.cells [(.d (.bool a0))]))]) rfl rfl rfl rfl rfl rfl rfl rfl ?_
      refine RegV.nil0 ?_
      cases h
theorem B425_134_1 {P : Program} {N : Nat → Nat} (hmix : P.follows .mixedOrders = true) (hc : HCb425_134 P N) {asg0 bd0 : Code} (ha0 : compCode P asg0 = L425_0a N) (hb0 : compCode P bd0 = L425_0b N) {k : Nat} {a0 : Bool} {a1 : MM} {a2 : Int} {a3 : (List UInt8)} {r : Unit} (h : b425_134 k a0 a1 a2 a3 = some (.inr r)) :
    ARound P 0 [(.d (.int .i64 a2)), (.d (.str a3))] [(0, (.lp 86 [(4, (.ptr 1 0)), (5, (.ptr 2 0))] [55, 56] asg0 bd0 .ready none)), (1, (.cells [(.d (.bool a0))])), (2, (.cells [(.mp 3)])), (3, (mpO a1))] (.d (.bool true)) [(0, (.lp 86 [(4, (.ptr 1 0)), (5, (.ptr 2 0))] [55, 56] asg0 bd0 .ready none)), (1, (.cells [(.d (.bool a0))])), (2, (.cells [(.mp 3)])), (3, (mpO (mput a1 a3 a2)))] := by
  refine around_gen 4 4 ha0 hb0 rfl rfl (fun ro => ?_)
  unfold b425_134 at h
  dsimp only [L425_0a, L425_0b, putArgs]
  refine AWc.seq ?_
  refine AWc.rg hmix rfl rfl ?_
  refine RegV.p0 rfl rfl rfl ?_
  refine RegV.nil0 ?_
  refine AWc.rg hmix rfl rfl ?_
  refine RegV.p0 rfl rfl rfl ?_
  refine RegV.nil0 ?_
  refine asgDone rfl rfl ?_
  refine AWc.block (AWc.seq (AWc.seq ?_))
  refine AWc.rg hmix rfl rfl ?_
  refine RegV.ld (v := (.mp 3)) (H' := [(2, (.cells [(.mp 3)])), (0, (.lp 86 [(4, (.ptr 1 0)), (5, (.ptr 2 0))] [55, 56] asg0 bd0 .busy none)), (1, (.cells [(.d (.bool a0))])), (3, (mpO a1))]) rfl rfl trivial rfl rfl rfl rfl rfl ?_
  refine RegV.p0 rfl rfl rfl ?_
  refine RegV.mget (m := a1) (s := a3) (H' := [(3, (mpO a1)), (2, (.cells [(.mp 3)])), (0, (.lp 86 [(4, (.ptr 1 0)), (5, (.ptr 2 0))] [55, 56] asg0 bd0 .busy none)), (1, (.cells [(.d (.bool a0))]))]) rfl rfl rfl rfl rfl rfl rfl rfl ?_
  refine RegV.p0 rfl rfl rfl ?_
  refine RegV.p0 rfl rfl rfl ?_
  refine RegV.p0 rfl rfl rfl ?_
  refine RegV.p0 rfl rfl rfl ?_
  refine RegV.p0 rfl rfl rfl ?_
  refine RegV.nil0 ?_
  refine AWc.seq ?_
  refine AWc.rg hmix rfl rfl ?_
  refine RegV.p0 rfl rfl rfl ?_
  refine RegV.p0 rfl rfl rfl ?_
  refine RegV.split (fun c160 => ?_) (fun c160 => ?_)
  · have h := cond_pos c160 h
    refine RegV.noS rfl rfl ?_
    refine RegV.noS rfl rfl ?_
    refine RegV.noS rfl rfl ?_
    refine RegV.p0 rfl rfl rfl ?_
    refine RegV.nil0 ?_
    refine AWc.cond rfl (fun _ => ?_) (fun hc => by cases hc)
    refine AWc.seq ?_
    refine AWc.rg hmix rfl rfl ?_
    refine RegV.evN (own := false) (H' := [(1, (.cells [(.d (.bool false))])), (3, (mpO a1)), (2, (.cells [(.mp 3)])), (0, (.lp 86 [(4, (.ptr 1 0)), (5, (.ptr 2 0))] [55, 56] asg0 bd0 .busy none))]) (c' := 4) rfl rfl (by exact ⟨rfl, Nat.le_of_ble_eq_true rfl, rfl⟩) rfl rfl rfl rfl ?_
    refine RegV.nil0 ?_
    cases h
  · have h := cond_neg c160 h
    refine RegV.p0 rfl rfl rfl ?_
    obtain ⟨r162, e162, h⟩ := bind_some h
    refine RegV.call0 (F351 hmix hc.2 e162) rfl rfl rfl rfl (.cons (.refl _) .nil) rfl ?_
    refine RegV.p0 (v := (.d (.bool (!r162)))) rfl rfl rfl ?_
    refine RegV.p0 rfl rfl rfl ?_
    refine RegV.nil0 ?_
    refine AWc.cond rfl (fun c165 => ?_) (fun c165 => ?_)
    · have h := cond_pos c165 h
      refine AWc.seq ?_
      refine AWc.rg hmix rfl rfl ?_
      refine RegV.evN (own := false) (H' := [(1, (.cells [(.d (.bool false))])), (3, (mpO a1)), (2, (.cells [(.mp 3)])), (0, (.lp 86 [(4, (.ptr 1 0)), (5, (.ptr 2 0))] [55, 56] asg0 bd0 .busy none))]) (c' := 4) rfl rfl (by exact ⟨rfl, Nat.le_of_ble_eq_true rfl, rfl⟩) rfl rfl rfl rfl ?_
      refine RegV.nil0 ?_
      cases h
    · have h := cond_neg c165 h
      refine AWc.skip ?_
      refine AWc.rg hmix rfl rfl ?_
      refine RegV.ld (v := (.mp 3)) (H' := [(2, (.cells [(.mp 3)])), (3, (mpO a1)), (0, (.lp 86 [(4, (.ptr 1 0)), (5, (.ptr 2 0))] [55, 56] asg0 bd0 .busy none)), (1, (.cells [(.d (.bool a0))]))]) rfl rfl trivial rfl rfl rfl rfl rfl ?_
      refine RegV.p0 rfl rfl rfl ?_
      refine RegV.p0 rfl rfl rfl ?_
      refine RegV.mset (m := a1) (s := a3) (n := a2) (H' := [(3, (mpO (mput a1 a3 a2))), (2, (.cells [(.mp 3)])), (0, (.lp 86 [(4, (.ptr 1 0)), (5, (.ptr 2 0))] [55, 56] asg0 bd0 .busy none)), (1, (.cells [(.d (.bool a0))]))]) rfl rfl rfl rfl rfl rfl rfl rfl ?_
      refine RegV.nil0 ?_
      have hr := Option.some.inj h
      have hr := Sum.inr.inj hr
      subst hr
      exact (canQ (N := 86) (k := 4) (l' := []) (H' := [(0, (.lp 86 [(4, (.ptr 1 0)), (5, (.ptr 2 0))] [55, 56] asg0 bd0 .busy none)), (1, (.cells [(.d (.bool a0))])), (2, (.cells [(.mp 3)])), (3, (mpO (mput a1 a3 a2)))]) rfl ⟨rfl, [], [], rfl, rfl,  trivial, ⟨⟨_, rfl, (.refl _)⟩, rfl, rfl, ⟨⟨_, rfl, (.refl _)⟩, rfl, rfl, ⟨⟨_, rfl, (.refl _)⟩, rfl, rfl, ⟨⟨_, rfl, (.refl _)⟩, rfl, rfl, trivial⟩⟩⟩⟩⟩ (roundD rfl rfl rfl rfl (hasCons rfl (hasCons rfl (hasCons rfl (hasCons rfl hasNil))))))
/-- slices.All[[]string,string]$1 -/
def C431 (N : Nat → Nat) : AFunc := { n := 18, params := 2, res := [], body :=
 (.seq (.region false [⟨some 5, .load (.t 1) 1 false, none, []⟩,
 ⟨some 6, .len (.t 5), none, [0]⟩,
 ⟨some 7, .mv (.k (.d (.int .i64 0))), none, []⟩])
  (.block 0 (.loop (.seq (.region false [⟨some 8, .bin .lss (.t 7) (.t 6), none, []⟩])
 (.seq (.cond (.t 8) (.skip)
       (.exit 0))
 (.seq (.block 1 (.seq (.region false [⟨some 9, .mv (.t 7), none, []⟩,
 ⟨some 10, .iaddr (.t 5) (.t 7) 1, none, []⟩,
 ⟨some 11, .load (.t 10) 1 false, none, [1]⟩,
 ⟨some 3, .mv (.t 9), none, [0, 1, 2]⟩,
 ⟨some 4, .mv (.t 11), none, [2, 3, 0, 1]⟩])
 (.seq (.region false [⟨some 12, .mv (.t 0), none, []⟩,
 ⟨some 13, .mv (.t 3), none, []⟩,
 ⟨some 14, .mv (.t 4), none, []⟩,
 ⟨some 15, .call (.t 12) [(.t 13), (.t 14)], none, [0, 1, 2]⟩,
 ⟨some 16, .un .not (.t 15), none, [3]⟩])
          (.cond (.t 16) .ret
           (.skip)))))
       (.region false [⟨some 17, .bin .add (.t 7) (.k (.d (.int .i64 1))), none, []⟩,
 ⟨some 7, .mv (.t 17), none, [0]⟩]))))))) }
def HC431 (P : Program) (N : Nat → Nat) : Prop := HasF P (N 431) (C431 N) ∧ HCb425_134 P N
def f431_l7 (a2 : (List (List UInt8))) (a0 : Bool) : Nat → Int → MM → Option (LR2 MM Unit (MM ⊕ MM))
  | 0, _, _ => none
  | k + 1, y7_1, y7_2 => cond (decide (y7_1 < ((a2.length : Nat) : Int))) (gd (0 ≤ y7_1 ∧ y7_1 < ((a2.length : Nat) : Int)) ((b425_134 k a0 y7_2 y7_1 (rd a2 y7_1)).bind fun or33 => (match or33 with | .inl r33 => some (.r (.inl y7_2)) | .inr r33 => f431_l7 a2 a0 k (IntKind.i64.wrap (y7_1 + (1 : Int))) (mput y7_2 (rd a2 y7_1) y7_1)))) (some (.b0 y7_2))
def f431 (k : Nat) (a0 : Bool) (a1 : MM) (a2 : (List (List UInt8))) : Option (MM ⊕ MM) := (f431_l7 a2 a0 k (0 : Int) a1).bind fun o7 => (match o7 with | .b0 x7_1 => some (.inr x7_1) | .r x => some x | _ => none)
theorem F431_0 {P : Program} {N : Nat → Nat} (hmix : P.follows .mixedOrders = true) (hc : HC431 P N) {asg0 bd0 : Code} (ha0 : compCode P asg0 = L425_0a N) (hb0 : compCode P bd0 = L425_0b N) {k : Nat} {a0 : Bool} {a1 : MM} {a2 : (List (List UInt8))} {r : MM} (h : f431 k a0 a1 a2 = some (.inl r)) :
    ACalls P (N 431) [(.lf 0), (.ptr 4 0)] [(0, (.lp 86 [(4, (.ptr 1 0)), (5, (.ptr 2 0))] [55, 56] asg0 bd0 .ready none)), (1, (.cells [(.d (.bool a0))])), (2, (.cells [(.mp 3)])), (3, (mpO a1)), (4, (.cells [(.d (.sl (List.map D.str a2)))]))] (.tup []) [(0, (.lp 86 [(4, (.ptr 1 0)), (5, (.ptr 2 0))] [55, 56] asg0 bd0 .done (some .ret))), (1, (.cells [(.d (.bool false))])), (2, (.cells [(.mp 3)])), (3, (mpO r)), (4, (.cells [(.d (.sl (List.map D.str a2)))]))] := by
  refine acalls_canon (F := C431 N) hc.1 5 5 rfl ?_
  unfold f431 at h
  dsimp only [C431, startL]
  refine AWc.seq ?_
  refine AWc.rg hmix rfl rfl ?_
  refine RegV.ld (v := (.d (.sl (List.map D.str a2)))) (H' := [(4, (.cells [(.d (.sl (List.map D.str a2)))])), (0, (.lp 86 [(4, (.ptr 1 0)), (5, (.ptr 2 0))] [55, 56] asg0 bd0 .ready none)), (1, (.cells [(.d (.bool a0))])), (2, (.cells [(.mp 3)])), (3, (mpO a1))]) rfl rfl trivial rfl rfl rfl rfl rfl ?_
  refine RegV.len (xs := a2) (e := D.str) rfl rfl rfl rfl ?_
  refine RegV.p0 rfl rfl rfl ?_
  refine RegV.nil0 ?_
  obtain ⟨o7, h7, h⟩ := bind_some h
  refine AWc.block ?_
  refine AWc.loopK (N := 18) 5 (fun (x : (Int × MM)) => [(0, (.lf 0)), (5, (.d (.sl (List.map D.str a2)))), (6, (.d (.int .i64 ((a2.length : Nat) : Int)))), (7, (.d (.int .i64 x.1)))]) (fun x => [(0, (.lp 86 [(4, (.ptr 1 0)), (5, (.ptr 2 0))] [55, 56] asg0 bd0 .ready none)), (1, (.cells [(.d (.bool a0))])), (2, (.cells [(.mp 3)])), (3, (mpO x.2)), (4, (.cells [(.d (.sl (List.map D.str a2)))]))]) (fun k x => f431_l7 a2 a0 k x.1 x.2 = some o7) k ((0 : Int), a1) rfl_le (fun x hx => by cases hx) h7 ⟨rfl, [], [], rfl, rfl, ⟨⟨_, rfl, (.refl _)⟩, rfl, ⟨⟨_, rfl, (.refl _)⟩, rfl, ⟨⟨_, rfl, (.refl _)⟩, rfl, ⟨⟨_, rfl, (.refl _)⟩, rfl, trivial⟩⟩⟩⟩, ⟨⟨_, rfl, (.refl _)⟩, rfl, rfl, ⟨⟨_, rfl, (.refl _)⟩, rfl, rfl, ⟨⟨_, rfl, (.refl _)⟩, rfl, rfl, ⟨⟨_, rfl, (.refl _)⟩, rfl, rfl, ⟨⟨_, rfl, (.refl _)⟩, rfl, rfl, trivial⟩⟩⟩⟩⟩⟩ ?_
  clear h7
  intro k
  rintro ⟨y7_1, y7_2⟩ h7
  dsimp only at h7 ⊢
  rw [f431_l7] at h7
  refine AWc.seq ?_
  refine AWc.rg hmix rfl rfl ?_
  refine RegV.p0 (v := (.d (.bool (decide (y7_1 < ((a2.length : Nat) : Int)))))) rfl rfl rfl ?_
  refine RegV.nil0 ?_
  refine AWc.seq ?_
  refine AWc.cond rfl (fun c14 => ?_) (fun c14 => ?_)
  · have h7 := cond_pos c14 h7
    refine AWc.skip (AWc.seq (AWc.block (AWc.seq ?_)))
    refine AWc.rg hmix rfl rfl ?_
    refine RegV.p0 rfl rfl rfl ?_
    obtain ⟨b23, h7⟩ := gd_some h7
    refine RegV.iad (xs := a2) (e := D.str) rfl rfl rfl rfl (fun _ => rfl) b23 rfl ?_
    refine RegV.p0 (v := (.d (.str (rd a2 y7_1)))) rfl rfl rfl ?_
    refine RegV.p0 rfl rfl rfl ?_
    refine RegV.p0 rfl rfl rfl ?_
    refine RegV.nil0 ?_
    refine AWc.seq ?_
    refine AWc.rg hmix rfl rfl ?_
    refine RegV.p0 rfl rfl rfl ?_
    refine RegV.p0 rfl rfl rfl ?_
    refine RegV.p0 rfl rfl rfl ?_
    obtain ⟨or33, e33, h7⟩ := bind_some h7
    rcases or33 with r33 | r33
    · dsimp only at h7
      refine RegV.yield (H' := [(0, (.lp 86 [(4, (.ptr 1 0)), (5, (.ptr 2 0))] [55, 56] asg0 bd0 .done (some .ret))), (1, (.cells [(.d (.bool false))])), (2, (.cells [(.mp 3)])), (3, (mpO y7_2)), (4, (.cells [(.d (.sl (List.map D.str a2)))]))]) (c' := 5) (show ARound P 0 [(.d (.int .i64 y7_1)), (.d (.str (rd a2 y7_1)))] [(0, (.lp 86 [(4, (.ptr 1 0)), (5, (.ptr 2 0))] [55, 56] asg0 bd0 .ready none)), (1, (.cells [(.d (.bool a0))])), (2, (.cells [(.mp 3)])), (3, (mpO y7_2))] (.d (.bool false)) [(0, (.lp 86 [(4, (.ptr 1 0)), (5, (.ptr 2 0))] [55, 56] asg0 bd0 .done (some .ret))), (1, (.cells [(.d (.bool false))])), (2, (.cells [(.mp 3)])), (3, (mpO y7_2))] from ARound.use (B425_134_0 hmix hc.2 ha0 hb0 e33) [(0, 0), (1, 1), (2, 2), (3, 3)] 4 rfl) rfl rfl rfl (.cons (.refl _) (.cons (.refl _) .nil)) rfl (hasCons rfl (hasCons rfl (hasCons rfl (hasCons rfl hasNil)))) rfl rfl rfl rfl ?_
      refine RegV.p0 (v := (.d (.bool true))) rfl rfl rfl ?_
      refine RegV.nil0 ?_
      refine AWc.cond rfl (fun _ => ?_) (fun hc => by cases hc)
      cases h7
      dsimp only at h
      have hr := Option.some.inj h
      have hr := Sum.inl.inj hr
      subst hr
      exact AWc.ret (canQ (N := 18) (k := 5) (l' := []) (H' := [(0, (.lp 86 [(4, (.ptr 1 0)), (5, (.ptr 2 0))] [55, 56] asg0 bd0 .done (some .ret))), (1, (.cells [(.d (.bool false))])), (2, (.cells [(.mp 3)])), (3, (mpO y7_2)), (4, (.cells [(.d (.sl (List.map D.str a2)))]))]) rfl ⟨rfl, [], [], rfl, rfl,  trivial, ⟨⟨_, rfl, (.refl _)⟩, rfl, rfl, ⟨⟨_, rfl, (.refl _)⟩, rfl, rfl, ⟨⟨_, rfl, (.refl _)⟩, rfl, rfl, ⟨⟨_, rfl, (.refl _)⟩, rfl, rfl, ⟨⟨_, rfl, (.refl _)⟩, rfl, rfl, trivial⟩⟩⟩⟩⟩⟩ (doneA (.inr rfl) rfl trivial (.refl _) (hasCons rfl (hasCons rfl (hasCons rfl (hasCons rfl (hasCons rfl hasNil)))))))
    · dsimp only at h7
      refine RegV.yield (H' := [(0, (.lp 86 [(4, (.ptr 1 0)), (5, (.ptr 2 0))] [55, 56] asg0 bd0 .ready none)), (1, (.cells [(.d (.bool a0))])), (2, (.cells [(.mp 3)])), (3, (mpO (mput y7_2 (rd a2 y7_1) y7_1))), (4, (.cells [(.d (.sl (List.map D.str a2)))]))]) (c' := 5) (show ARound P 0 [(.d (.int .i64 y7_1)), (.d (.str (rd a2 y7_1)))] [(0, (.lp 86 [(4, (.ptr 1 0)), (5, (.ptr 2 0))] [55, 56] asg0 bd0 .ready none)), (1, (.cells [(.d (.bool a0))])), (2, (.cells [(.mp 3)])), (3, (mpO y7_2))] (.d (.bool true)) [(0, (.lp 86 [(4, (.ptr 1 0)), (5, (.ptr 2 0))] [55, 56] asg0 bd0 .ready none)), (1, (.cells [(.d (.bool a0))])), (2, (.cells [(.mp 3)])), (3, (mpO (mput y7_2 (rd a2 y7_1) y7_1)))] from ARound.use (B425_134_1 hmix hc.2 ha0 hb0 e33) [(0, 0), (1, 1), (2, 2), (3, 3)] 4 rfl) rfl rfl rfl (.cons (.refl _) (.cons (.refl _) .nil)) rfl (hasCons rfl (hasCons rfl (hasCons rfl (hasCons rfl hasNil)))) rfl rfl rfl rfl ?_
      refine RegV.p0 (v := (.d (.bool false))) rfl rfl rfl ?_
      refine RegV.nil0 ?_
      refine AWc.cond rfl (fun hc => by cases hc) (fun _ => ?_)
      refine AWc.skip ?_
      refine AWc.rg hmix rfl rfl ?_
      refine RegV.p0 (v := (.d (.int .i64 (IntKind.i64.wrap (y7_1 + (1 : Int)))))) rfl rfl rfl ?_
      refine RegV.p0 rfl rfl rfl ?_
      refine RegV.nil0 ?_
      exact ⟨((IntKind.i64.wrap (y7_1 + (1 : Int))), (mput y7_2 (rd a2 y7_1) y7_1)), h7, ⟨rfl, [], [], rfl, rfl, ⟨⟨_, rfl, (.refl _)⟩, rfl, ⟨⟨_, rfl, (.refl _)⟩, rfl, ⟨⟨_, rfl, (.refl _)⟩, rfl, ⟨⟨_, rfl, (.refl _)⟩, rfl, trivial⟩⟩⟩⟩, ⟨⟨_, rfl, (.refl _)⟩, rfl, rfl, ⟨⟨_, rfl, (.refl _)⟩, rfl, rfl, ⟨⟨_, rfl, (.refl _)⟩, rfl, rfl, ⟨⟨_, rfl, (.refl _)⟩, rfl, rfl, ⟨⟨_, rfl, (.refl _)⟩, rfl, rfl, trivial⟩⟩⟩⟩⟩⟩⟩
  · have h7 := cond_neg c14 h7
    cases h7
    dsimp only at h
    refine AWc.exit ?_
    refine inBlk_eq ?_
    cases h
theorem F431_1 {P : Program} {N : Nat → Nat} (hmix : P.follows .mixedOrders = true) (hc : HC431 P N) {asg0 bd0 : Code} (ha0 : compCode P asg0 = L425_0a N) (hb0 : compCode P bd0 = L425_0b N) {k : Nat} {a0 : Bool} {a1 : MM} {a2 : (List (List UInt8))} {r : MM} (h : f431 k a0 a1 a2 = some (.inr r)) :
    ACalls P (N 431) [(.lf 0), (.ptr 4 0)] [(0, (.lp 86 [(4, (.ptr 1 0)), (5, (.ptr 2 0))] [55, 56] asg0 bd0 .ready none)), (1, (.cells [(.d (.bool a0))])), (2, (.cells [(.mp 3)])), (3, (mpO a1)), (4, (.cells [(.d (.sl (List.map D.str a2)))]))] (.tup []) [(0, (.lp 86 [(4, (.ptr 1 0)), (5, (.ptr 2 0))] [55, 56] asg0 bd0 .ready none)), (1, (.cells [(.d (.bool a0))])), (2, (.cells [(.mp 3)])), (3, (mpO r)), (4, (.cells [(.d (.sl (List.map D.str a2)))]))] := by
  refine acalls_canon (F := C431 N) hc.1 5 5 rfl ?_
  unfold f431 at h
  dsimp only [C431, startL]
  refine AWc.seq ?_
  refine AWc.rg hmix rfl rfl ?_
  refine RegV.ld (v := (.d (.sl (List.map D.str a2)))) (H' := [(4, (.cells [(.d (.sl (List.map D.str a2)))])), (0, (.lp 86 [(4, (.ptr 1 0)), (5, (.ptr 2 0))] [55, 56] asg0 bd0 .ready none)), (1, (.cells [(.d (.bool a0))])), (2, (.cells [(.mp 3)])), (3, (mpO a1))]) rfl rfl trivial rfl rfl rfl rfl rfl ?_
  refine RegV.len (xs := a2) (e := D.str) rfl rfl rfl rfl ?_
  refine RegV.p0 rfl rfl rfl ?_
  refine RegV.nil0 ?_
  obtain ⟨o7, h7, h⟩ := bind_some h
  refine AWc.block ?_
  refine AWc.loopK (N := 18) 5 (fun (x : (Int × MM)) => [(0, (.lf 0)), (5, (.d (.sl (List.map D.str a2)))), (6, (.d (.int .i64 ((a2.length : Nat) : Int)))), (7, (.d (.int .i64 x.1)))]) (fun x => [(0, (.lp 86 [(4, (.ptr 1 0)), (5, (.ptr 2 0))] [55, 56] asg0 bd0 .ready none)), (1, (.cells [(.d (.bool a0))])), (2, (.cells [(.mp 3)])), (3, (mpO x.2)), (4, (.cells [(.d (.sl (List.map D.str a2)))]))]) (fun k x => f431_l7 a2 a0 k x.1 x.2 = some o7) k ((0 : Int), a1) rfl_le (fun x hx => by cases hx) h7 ⟨rfl, [], [], rfl, rfl, ⟨⟨_, rfl, (.refl _)⟩, rfl, ⟨⟨_, rfl, (.refl _)⟩, rfl, ⟨⟨_, rfl, (.refl _)⟩, rfl, ⟨⟨_, rfl, (.refl _)⟩, rfl, trivial⟩⟩⟩⟩, ⟨⟨_, rfl, (.refl _)⟩, rfl, rfl, ⟨⟨_, rfl, (.refl _)⟩, rfl, rfl, ⟨⟨_, rfl, (.refl _)⟩, rfl, rfl, ⟨⟨_, rfl, (.refl _)⟩, rfl, rfl, ⟨⟨_, rfl, (.refl _)⟩, rfl, rfl, trivial⟩⟩⟩⟩⟩⟩ ?_
  clear h7
  intro k
  rintro ⟨y7_1, y7_2⟩ h7
  dsimp only at h7 ⊢
  rw [f431_l7] at h7
  refine AWc.seq ?_
  refine AWc.rg hmix rfl rfl ?_
  refine RegV.p0 (v := (.d (.bool (decide (y7_1 < ((a2.length : Nat) : Int)))))) rfl rfl rfl ?_
  refine RegV.nil0 ?_
  refine AWc.seq ?_
  refine AWc.cond rfl (fun c14 => ?_) (fun c14 => ?_)
  · have h7 := cond_pos c14 h7
    refine AWc.skip (AWc.seq (AWc.block (AWc.seq ?_)))
    refine AWc.rg hmix rfl rfl ?_
    refine RegV.p0 rfl rfl rfl ?_
    obtain ⟨b23, h7⟩ := gd_some h7
    refine RegV.iad (xs := a2) (e := D.str) rfl rfl rfl rfl (fun _ => rfl) b23 rfl ?_
    refine RegV.p0 (v := (.d (.str (rd a2 y7_1)))) rfl rfl rfl ?_
    refine RegV.p0 rfl rfl rfl ?_
    refine RegV.p0 rfl rfl rfl ?_
    refine RegV.nil0 ?_
    refine AWc.seq ?_
    refine AWc.rg hmix rfl rfl ?_
    refine RegV.p0 rfl rfl rfl ?_
    refine RegV.p0 rfl rfl rfl ?_
    refine RegV.p0 rfl rfl rfl ?_
    obtain ⟨or33, e33, h7⟩ := bind_some h7
    rcases or33 with r33 | r33
    · dsimp only at h7
      refine RegV.yield (H' := [(0, (.lp 86 [(4, (.ptr 1 0)), (5, (.ptr 2 0))] [55, 56] asg0 bd0 .done (some .ret))), (1, (.cells [(.d (.bool false))])), (2, (.cells [(.mp 3)])), (3, (mpO y7_2)), (4, (.cells [(.d (.sl (List.map D.str a2)))]))]) (c' := 5) (show ARound P 0 [(.d (.int .i64 y7_1)), (.d (.str (rd a2 y7_1)))] [(0, (.lp 86 [(4, (.ptr 1 0)), (5, (.ptr 2 0))] [55, 56] asg0 bd0 .ready none)), (1, (.cells [(.d (.bool a0))])), (2, (.cells [(.mp 3)])), (3, (mpO y7_2))] (.d (.bool false)) [(0, (.lp 86 [(4, (.ptr 1 0)), (5, (.ptr 2 0))] [55, 56] asg0 bd0 .done (some .ret))), (1, (.cells [(.d (.bool false))])), (2, (.cells [(.mp 3)])), (3, (mpO y7_2))] from ARound.use (B425_134_0 hmix hc.2 ha0 hb0 e33) [(0, 0), (1, 1), (2, 2), (3, 3)] 4 rfl) rfl rfl rfl (.cons (.refl _) (.cons (.refl _) .nil)) rfl (hasCons rfl (hasCons rfl (hasCons rfl (hasCons rfl hasNil)))) rfl rfl rfl rfl ?_
      refine RegV.p0 (v := (.d (.bool true))) rfl rfl rfl ?_
      refine RegV.nil0 ?_
      refine AWc.cond rfl (fun _ => ?_) (fun hc => by cases hc)
      cases h7
      dsimp only at h
      cases h
    · dsimp only at h7
      refine RegV.yield (H' := [(0, (.lp 86 [(4, (.ptr 1 0)), (5, (.ptr 2 0))] [55, 56] asg0 bd0 .ready none)), (1, (.cells [(.d (.bool a0))])), (2, (.cells [(.mp 3)])), (3, (mpO (mput y7_2 (rd a2 y7_1) y7_1))), (4, (.cells [(.d (.sl (List.map D.str a2)))]))]) (c' := 5) (show ARound P 0 [(.d (.int .i64 y7_1)), (.d (.str (rd a2 y7_1)))] [(0, (.lp 86 [(4, (.ptr 1 0)), (5, (.ptr 2 0))] [55, 56] asg0 bd0 .ready none)), (1, (.cells [(.d (.bool a0))])), (2, (.cells [(.mp 3)])), (3, (mpO y7_2))] (.d (.bool true)) [(0, (.lp 86 [(4, (.ptr 1 0)), (5, (.ptr 2 0))] [55, 56] asg0 bd0 .ready none)), (1, (.cells [(.d (.bool a0))])), (2, (.cells [(.mp 3)])), (3, (mpO (mput y7_2 (rd a2 y7_1) y7_1)))] from ARound.use (B425_134_1 hmix hc.2 ha0 hb0 e33) [(0, 0), (1, 1), (2, 2), (3, 3)] 4 rfl) rfl rfl rfl (.cons (.refl _) (.cons (.refl _) .nil)) rfl (hasCons rfl (hasCons rfl (hasCons rfl (hasCons rfl hasNil)))) rfl rfl rfl rfl ?_
      refine RegV.p0 (v := (.d (.bool false))) rfl rfl rfl ?_
      refine RegV.nil0 ?_
      refine AWc.cond rfl (fun hc => by cases hc) (fun _ => ?_)
      refine AWc.skip ?_
      refine AWc.rg hmix rfl rfl ?_
      refine RegV.p0 (v := (.d (.int .i64 (IntKind.i64.wrap (y7_1 + (1 : Int)))))) rfl rfl rfl ?_
      refine RegV.p0 rfl rfl rfl ?_
      refine RegV.nil0 ?_
      exact ⟨((IntKind.i64.wrap (y7_1 + (1 : Int))), (mput y7_2 (rd a2 y7_1) y7_1)), h7, ⟨rfl, [], [], rfl, rfl, ⟨⟨_, rfl, (.refl _)⟩, rfl, ⟨⟨_, rfl, (.refl _)⟩, rfl, ⟨⟨_, rfl, (.refl _)⟩, rfl, ⟨⟨_, rfl, (.refl _)⟩, rfl, trivial⟩⟩⟩⟩, ⟨⟨_, rfl, (.refl _)⟩, rfl, rfl, ⟨⟨_, rfl, (.refl _)⟩, rfl, rfl, ⟨⟨_, rfl, (.refl _)⟩, rfl, rfl, ⟨⟨_, rfl, (.refl _)⟩, rfl, rfl, ⟨⟨_, rfl, (.refl _)⟩, rfl, rfl, trivial⟩⟩⟩⟩⟩⟩⟩
  · have h7 := cond_neg c14 h7
    cases h7
    dsimp only at h
    refine AWc.exit ?_
    refine inBlk_eq ?_
    have hr := Option.some.inj h
    have hr := Sum.inr.inj hr
    subst hr
    exact canQ (N := 18) (k := 5) (l' := []) (H' := [(0, (.lp 86 [(4, (.ptr 1 0)), (5, (.ptr 2 0))] [55, 56] asg0 bd0 .ready none)), (1, (.cells [(.d (.bool a0))])), (2, (.cells [(.mp 3)])), (3, (mpO y7_2)), (4, (.cells [(.d (.sl (List.map D.str a2)))]))]) rfl ⟨rfl, [], [], rfl, rfl,  trivial, ⟨⟨_, rfl, (.refl _)⟩, rfl, rfl, ⟨⟨_, rfl, (.refl _)⟩, rfl, rfl, ⟨⟨_, rfl, (.refl _)⟩, rfl, rfl, ⟨⟨_, rfl, (.refl _)⟩, rfl, rfl, ⟨⟨_, rfl, (.refl _)⟩, rfl, rfl, trivial⟩⟩⟩⟩⟩⟩ (doneA (.inl rfl) rfl trivial (.refl _) (hasCons rfl (hasCons rfl (hasCons rfl (hasCons rfl (hasCons rfl hasNil))))))
/-- courant/json.right$1 -/
def C428 (N : Nat → Nat) : AFunc := { n := 9, params := 2, res := [.tmp 3], body :=
 (.seq (.region false [⟨some 2, .box (.t 0), none, []⟩,
 ⟨some 3, .mv (.k (.d (.bool false))), none, []⟩])
 (.seq (.region false [⟨some 4, .load (.t 2) 4 true, none, []⟩,
 ⟨some 5, .load (.t 1) 1 false, none, []⟩,
 ⟨some 6, .bin .add (.t 5) (.k (.d (.int .i64 1))), none, [1]⟩,
 ⟨some 7, .call (.k (.d (.fn (N 425)))) [(.t 4), (.t 6)], none, [0, 2]⟩,
 ⟨some 8, .un .not (.t 7), none, [3]⟩,
 ⟨some 3, .mv (.t 8), none, [4, 3, 0, 1, 2]⟩])
   .ret)) }
def HC428 (P : Program) (N : Nat → Nat) : Prop := HasF P (N 428) (C428 N)
def f428 (rc425 : TJson → Int → Option Bool) (k : Nat) (a0 : TJson) (a1 : Int) : Option Bool := (rc425 (TJson.mk a0.fKind a0.fText a0.fL a0.fKeys) (IntKind.i64.wrap (a1 + (1 : Int)))).bind fun r12 => some (!r12)
theorem F428 {P : Program} {N : Nat → Nat} (hmix : P.follows .mixedOrders = true) (hc : HC428 P N) {rc425 : TJson → Int → Option Bool} (hrc425 : RH425 P N rc425) {k : Nat} {a0 : TJson} {a1 : Int} {r : Bool} (h : f428 rc425 k a0 a1 = some r) :
    ACalls P (N 428) [(.d (TJson.enc a0)), (.ptr 0 0)] [(0, (.cells [(.d (.int .i64 a1))]))] (.d (.bool r)) [(0, (.cells [(.d (.int .i64 a1))]))] := by
  refine acalls_canon (F := C428 N) hc 1 1 rfl ?_
  unfold f428 at h
  dsimp only [C428, startL]
  refine AWc.seq (AWc.rE hmix [] ?_)
  refine AWc.seq ?_
  obtain ⟨r12, e12, h⟩ := bind_some h
  refine AWc.rE hmix [.call (hrc425 _ _ _ e12) [] 0] ?_
  have hr := Option.some.inj h
  subst hr
  exact AWc.ret (canQ (N := 9) (k := 1) (l' := [(3, (.d (.bool (!r12))))]) (H' := [(0, (.cells [(.d (.int .i64 a1))]))]) rfl (inT [] []) (doneA (.inr rfl) rfl ⟨trivial, trivial⟩ (.refl _) (hasCons rfl hasNil)))
/-- slices.IndexFunc[[]courant/api.Json,courant/api.Json] -/
def C430 (N : Nat → Nat) : AFunc := { n := 19, params := 2, res := [.tmp 4], body :=
 (.seq (.region false [⟨some 4, .mv (.k (.d (.int .i64 0))), none, []⟩])
 (.seq (.seq (.region false [⟨some 6, .mv (.t 0), none, []⟩,
 ⟨some 7, .len (.t 6), none, [0]⟩,
 ⟨some 8, .mv (.k (.d (.int .i64 0))), none, []⟩])
    (.block 0 (.loop (.seq (.region false [⟨some 9, .bin .lss (.t 8) (.t 7), none, []⟩])
 (.seq (.cond (.t 9) (.skip)
         (.exit 0))
 (.seq (.block 1 (.seq (.region false [⟨some 10, .mv (.t 8), none, []⟩,
 ⟨some 5, .mv (.t 10), none, [0]⟩])
 (.seq (.region false [⟨some 11, .mv (.t 1), none, []⟩,
 ⟨some 12, .mv (.t 0), none, []⟩,
 ⟨some 13, .mv (.t 5), none, []⟩,
 ⟨some 14, .iaddr (.t 12) (.t 13) 4, none, [1, 2]⟩,
 ⟨some 15, .load (.t 14) 4 true, none, [3]⟩,
 ⟨some 16, .call (.t 11) [(.t 15)], none, [0, 4]⟩])
            (.cond (.t 16) (.seq (.region false [⟨some 17, .mv (.t 5), none, []⟩,
 ⟨some 4, .mv (.t 17), none, [0]⟩])
              .ret)
             (.skip)))))
         (.region false [⟨some 18, .bin .add (.t 8) (.k (.d (.int .i64 1))), none, []⟩,
 ⟨some 8, .mv (.t 18), none, [0]⟩])))))))
 (.seq (.region false [⟨some 4, .mv (.k (.d (.int .i64 (-1)))), none, []⟩])
    .ret))) }
def HC430 (P : Program) (N : Nat → Nat) : Prop := HasF P (N 430) (C430 N) ∧ HC428 P N
def f430_l12 (a0 : (List (RT 4))) (rc425 : TJson → Int → Option Bool) (a1 : Int) : Nat → Int → Option (LR2 Unit Unit Int)
  | 0, _ => none
  | k + 1, y12_1 => cond (decide (y12_1 < ((a0.length : Nat) : Int))) (gd (0 ≤ y12_1 ∧ y12_1 < ((a0.length : Nat) : Int)) ((TJson.dec (rtE (rd a0 y12_1))).bind fun rx35 => (f428 rc425 k rx35 a1).bind fun r37 => cond r37 (some (.r y12_1)) (f430_l12 a0 rc425 a1 k (IntKind.i64.wrap (y12_1 + (1 : Int)))))) (some (.b0 ()))
def f430 (rc425 : TJson → Int → Option Bool) (k : Nat) (a0 : (List (RT 4))) (a1 : Int) : Option Int := (f430_l12 a0 rc425 a1 k (0 : Int)).bind fun o12 => (match o12 with | .b0 () => some (-1 : Int) | .r x => some x | _ => none)
theorem F430 {P : Program} {N : Nat → Nat} (hmix : P.follows .mixedOrders = true) (hc : HC430 P N) {rc425 : TJson → Int → Option Bool} (hrc425 : RH425 P N rc425) {k : Nat} {a0 : (List (RT 4))} {a1 : Int} {r : Int} (h : f430 rc425 k a0 a1 = some r) :
    ACalls P (N 430) [(.d (.sl (List.map (rtE (z := 4)) a0))), (.fn (N 428) [(.ptr 0 0)])] [(0, (.cells [(.d (.int .i64 a1))]))] (.d (.int .i64 r)) [(0, (.cells [(.d (.int .i64 a1))]))] := by
  refine acalls_canon (F := C430 N) hc.1 1 1 rfl ?_
  unfold f430 at h
  dsimp only [C430, startL]
  refine AWc.seq (AWc.rE hmix [] ?_)
  refine AWc.seq (AWc.seq (AWc.rE hmix [.ln (rtE (z := 4)) a0] ?_))
  obtain ⟨o12, h12, h⟩ := bind_some h
  refine AWc.block ?_
  refine AWc.loopK (N := 19) 1 (fun (x : Int) => [(0, (.d (.sl (List.map (rtE (z := 4)) a0)))), (1, (.fn (N 428) [(.ptr 0 0)])), (7, (.d (.int .i64 ((a0.length : Nat) : Int)))), (8, (.d (.int .i64 x)))]) (fun x => [(0, (.cells [(.d (.int .i64 a1))]))]) (fun k x => f430_l12 a0 rc425 a1 k x = some o12) k (0 : Int) rfl_le (fun x hx => by cases hx) h12 (inT [] []) ?_
  clear h12
  intro k
  intro y12_1 h12
  rw [f430_l12] at h12
  refine AWc.seq (AWc.rE hmix [] ?_)
  refine AWc.seq ?_
  rcases cc h12 with ⟨c19, h12⟩ | ⟨c19, h12⟩
  · refine AWc.cT c19 ?_
    refine AWc.skip (AWc.seq (AWc.block (AWc.seq (AWc.rE hmix [] ?_))))
    refine AWc.seq ?_
    obtain ⟨b35, h12⟩ := gd_some h12
    obtain ⟨rx35, ex35, h12⟩ := bind_some h12
    obtain ⟨r37, e37, h12⟩ := bind_some h12
    refine AWc.rE hmix [.iadE (rtE (z := 4)) a0 4 rtE_ok.len b35 (TJson.dec_eq ex35), .cq (F428 hmix hc.2 hrc425 e37) [] 1] ?_
    rcases cc h12 with ⟨c38, h12⟩ | ⟨c38, h12⟩
    · refine AWc.cT c38 ?_
      refine AWc.seq (AWc.rE hmix [] ?_)
      cases h12
      dsimp only at h
      have hr := Option.some.inj h
      subst hr
      exact AWc.ret (canQ (N := 19) (k := 1) (l' := [(4, (.d (.int .i64 y12_1)))]) (H' := [(0, (.cells [(.d (.int .i64 a1))]))]) rfl (inT [] []) (doneA (.inr rfl) rfl ⟨trivial, trivial⟩ (.refl _) (hasCons rfl hasNil)))
    · refine AWc.cF c38 ?_
      refine AWc.skip (AWc.rE hmix [] ?_)
      exact ⟨(IntKind.i64.wrap (y12_1 + (1 : Int))), h12, (inT [] [])⟩
  · refine AWc.cF c19 ?_
    cases h12
    dsimp only at h
    refine AWc.exit ?_
    refine inBlk_eq ?_
    refine AWc.seq (AWc.rE hmix [] ?_)
    have hr := Option.some.inj h
    subst hr
    exact AWc.ret (canQ (N := 19) (k := 1) (l' := [(4, (.d (.int .i64 (-1 : Int))))]) (H' := [(0, (.cells [(.d (.int .i64 a1))]))]) rfl (inT [] []) (doneA (.inr rfl) rfl ⟨trivial, trivial⟩ (.refl _) (hasCons rfl hasNil)))
/-- slices.ContainsFunc[[]courant/api.Json,courant/api.Json] -/
def C429 (N : Nat → Nat) : AFunc := { n := 9, params := 2, res := [.tmp 4], body :=
 (.seq (.region false [⟨some 4, .mv (.k (.d (.bool false))), none, []⟩])
 (.seq (.region false [⟨some 5, .mv (.t 0), none, []⟩,
 ⟨some 6, .mv (.t 1), none, []⟩,
 ⟨some 7, .call (.k (.d (.fn (N 430)))) [(.t 5), (.t 6)], none, [0, 1]⟩,
 ⟨some 8, .bin .geq (.t 7) (.k (.d (.int .i64 0))), none, [2]⟩,
 ⟨some 4, .mv (.t 8), none, [3, 2, 0, 1]⟩])
   .ret)) }
def HC429 (P : Program) (N : Nat → Nat) : Prop := HasF P (N 429) (C429 N) ∧ HC430 P N
def f429 (rc425 : TJson → Int → Option Bool) (k : Nat) (a0 : (List (RT 4))) (a1 : Int) : Option Bool := (f430 rc425 k a0 a1).bind fun r10 => some (decide (r10 ≥ (0 : Int)))
theorem F429 {P : Program} {N : Nat → Nat} (hmix : P.follows .mixedOrders = true) (hc : HC429 P N) {rc425 : TJson → Int → Option Bool} (hrc425 : RH425 P N rc425) {k : Nat} {a0 : (List (RT 4))} {a1 : Int} {r : Bool} (h : f429 rc425 k a0 a1 = some r) :
    ACalls P (N 429) [(.d (.sl (List.map (rtE (z := 4)) a0))), (.fn (N 428) [(.ptr 0 0)])] [(0, (.cells [(.d (.int .i64 a1))]))] (.d (.bool r)) [(0, (.cells [(.d (.int .i64 a1))]))] := by
  refine acalls_canon (F := C429 N) hc.1 1 1 rfl ?_
  unfold f429 at h
  dsimp only [C429, startL]
  refine AWc.seq (AWc.rE hmix [] ?_)
  refine AWc.seq ?_
  obtain ⟨r10, e10, h⟩ := bind_some h
  refine AWc.rE hmix [.cq (F430 hmix hc.2 hrc425 e10) [] 1] ?_
  have hr := Option.some.inj h
  subst hr
  exact AWc.ret (canQ (N := 9) (k := 1) (l' := [(4, (.d (.bool (decide (r10 ≥ (0 : Int))))))]) (H' := [(0, (.cells [(.d (.int .i64 a1))]))]) rfl (inT [] []) (doneA (.inr rfl) rfl ⟨trivial, trivial⟩ (.refl _) (hasCons rfl hasNil)))
def HC425 (P : Program) (N : Nat → Nat) : Prop := HasF P (N 425) (C425 N) ∧ HC426 P N ∧ HC406 P N ∧ HC351 P N ∧ HC427 P N ∧ HC431 P N ∧ HC429 P N
def f425_j183 (k : Nat) (a0 : TJson) (a1 : Int) (rc425 : TJson → Int → Option Bool) : Option Bool := cond (decide (a0.fText = ([] : List UInt8))) (cond (decide (a1 < (64 : Int))) ((f429 rc425 k a0.fL a1).bind fun r197 => some (!r197)) (some false)) (some false)
def f425_j33 (k : Nat) (a0 : TJson) (a1 : Int) (rc425 : TJson → Int → Option Bool) (j33_1 : Bool) : Option Bool := cond j33_1 ((f426 k (TJson.mk a0.fKind a0.fText a0.fL a0.fKeys) false).bind fun r38 => some r38) (cond (decide (a0.fKind = (4 : Int))) ((f426 k (TJson.mk a0.fKind a0.fText a0.fL a0.fKeys) true).bind fun r51 => cond r51 ((f406 k a0.fText).bind fun r55 => some r55) (some false)) (cond (decide (a0.fKind = (5 : Int))) ((f426 k (TJson.mk a0.fKind a0.fText a0.fL a0.fKeys) true).bind fun r69 => cond r69 ((f351 k a0.fText).bind fun r73 => some r73) (some false)) (cond (decide (a0.fKind = (6 : Int))) (cond (decide (((a0.fKeys.length : Nat) : Int) > (0 : Int))) (some false) (f425_j183 k a0 a1 rc425)) (cond (decide (a0.fKind = (7 : Int))) (cond (decide (((a0.fKeys.length : Nat) : Int) ≠ ((a0.fL.length : Nat) : Int))) (some false) ((f427 k a0.fKeys).bind fun r132 => (f431 k false ([] : MM) a0.fKeys).bind fun orf134 => (match orf134 with | .inl rf134 => some false | .inr rf134 => f425_j183 k a0 a1 rc425))) (some false)))))
def f425_s (rc425 : TJson → Int → Option Bool) (k : Nat) (a0 : TJson) (a1 : Int) : Option Bool := cond (decide (a0.fKind = (1 : Int))) (f425_j33 k a0 a1 rc425 (decide (a0.fKind = (1 : Int)))) (cond (decide (a0.fKind = (2 : Int))) (f425_j33 k a0 a1 rc425 (decide (a0.fKind = (2 : Int)))) (f425_j33 k a0 a1 rc425 (decide (a0.fKind = (3 : Int)))))
theorem F425_s {P : Program} {N : Nat → Nat} (hmix : P.follows .mixedOrders = true) (hc : HC425 P N) {rc425 : TJson → Int → Option Bool} (hrc425 : RH425 P N rc425) {k : Nat} {a0 : TJson} {a1 : Int} {r : Bool} (h : f425_s rc425 k a0 a1 = some r) :
    ACalls P (N 425) [(.d (TJson.enc a0)), (.d (.int .i64 a1))] [] (.d (.bool r)) [] := by
  refine acalls_canon (F := C425 N) hc.1 0 0 rfl ?_
  unfold f425_s at h
  dsimp only [C425, startL]
  refine AWc.seq ?_
  refine AWc.rg hmix rfl rfl ?_
  refine RegV.evS (own := false) (v := (.ptr 0 0)) (H' := [(0, (.cells [(.d (.int .i64 a0.fKind)), (.d (.str a0.fText)), (.d (.sl (List.map (rtE (z := 4)) a0.fL))), (.d (.sl (List.map D.str a0.fKeys)))]))]) (c' := 1) rfl rfl trivial rfl rfl rfl rfl rfl rfl ?_
  refine RegV.evS (own := false) (v := (.ptr 1 0)) (H' := [(1, (.cells [(.d (.int .i64 a1))])), (0, (.cells [(.d (.int .i64 a0.fKind)), (.d (.str a0.fText)), (.d (.sl (List.map (rtE (z := 4)) a0.fL))), (.d (.sl (List.map D.str a0.fKeys)))]))]) (c' := 2) rfl rfl trivial rfl rfl rfl rfl rfl rfl ?_
  refine RegV.evS (own := false) (v := (.ptr 2 0)) (H' := [(2, (.cells [(.d (.bool false))])), (1, (.cells [(.d (.int .i64 a1))])), (0, (.cells [(.d (.int .i64 a0.fKind)), (.d (.str a0.fText)), (.d (.sl (List.map (rtE (z := 4)) a0.fL))), (.d (.sl (List.map D.str a0.fKeys)))]))]) (c' := 3) rfl rfl trivial rfl rfl rfl rfl rfl rfl ?_
  refine RegV.nil0 ?_
  refine AWc.seqS (N := 86) 3 (fun (z : Unit) => [(2, (.ptr 0 0)), (3, (.ptr 1 0)), (4, (.ptr 2 0))]) (fun z => [(0, (.cells [(.d (.int .i64 a0.fKind)), (.d (.str a0.fText)), (.d (.sl (List.map (rtE (z := 4)) a0.fL))), (.d (.sl (List.map D.str a0.fKeys)))])), (1, (.cells [(.d (.int .i64 a1))])), (2, (.cells [(.d (.bool false))]))]) (fun z => f425_j183 k a0 a1 rc425 = some r) rfl_le ?_ ?_
  · refine AWc.seq ?_
    refine AWc.rg hmix rfl rfl ?_
    refine RegV.p0 (v := (.ptr 0 0)) rfl rfl rfl ?_
    refine RegV.ld (v := (.d (.int .i64 a0.fKind))) (H' := [(0, (.cells [(.d (.int .i64 a0.fKind)), (.d (.str a0.fText)), (.d (.sl (List.map (rtE (z := 4)) a0.fL))), (.d (.sl (List.map D.str a0.fKeys)))])), (2, (.cells [(.d (.bool false))])), (1, (.cells [(.d (.int .i64 a1))]))]) rfl rfl trivial rfl rfl rfl rfl rfl ?_
    refine RegV.nil0 ?_
    refine AWc.block ?_
    refine AWc.seqS (N := 86) 3 (fun (z : Bool) => [(2, (.ptr 0 0)), (3, (.ptr 1 0)), (4, (.ptr 2 0)), (11, (.d (.int .i64 a0.fKind))), (12, (.d (.bool z)))]) (fun z => [(0, (.cells [(.d (.int .i64 a0.fKind)), (.d (.str a0.fText)), (.d (.sl (List.map (rtE (z := 4)) a0.fL))), (.d (.sl (List.map D.str a0.fKeys)))])), (1, (.cells [(.d (.int .i64 a1))])), (2, (.cells [(.d (.bool false))]))]) (fun z => f425_j33 k a0 a1 rc425 z = some r) rfl_le ?_ ?_
    · refine AWc.seq ?_
      refine AWc.rg hmix rfl rfl ?_
      refine RegV.p0 (v := (.d (.bool (decide (a0.fKind = (1 : Int)))))) rfl rfl rfl ?_
      refine RegV.p0 rfl rfl rfl ?_
      refine RegV.nil0 ?_
      refine AWc.cond rfl (fun c20 => ?_) (fun c20 => ?_)
      · have h := cond_pos c20 h
        refine AWc.skip ?_
        exact ⟨(decide (a0.fKind = (1 : Int))), h, ⟨rfl, [], [], rfl, rfl, ⟨⟨_, rfl, (.refl _)⟩, rfl, ⟨⟨_, rfl, (.refl _)⟩, rfl, ⟨⟨_, rfl, (.refl _)⟩, rfl, ⟨⟨_, rfl, (.refl _)⟩, rfl, ⟨⟨_, rfl, (.refl _)⟩, rfl, trivial⟩⟩⟩⟩⟩, ⟨⟨_, rfl, (.refl _)⟩, rfl, rfl, ⟨⟨_, rfl, (.refl _)⟩, rfl, rfl, ⟨⟨_, rfl, (.refl _)⟩, rfl, rfl, trivial⟩⟩⟩⟩⟩
      · have h := cond_neg c20 h
        refine AWc.seq ?_
        refine AWc.rg hmix rfl rfl ?_
        refine RegV.p0 (v := (.d (.bool (decide (a0.fKind = (2 : Int)))))) rfl rfl rfl ?_
        refine RegV.p0 rfl rfl rfl ?_
        refine RegV.nil0 ?_
        refine AWc.cond rfl (fun c27 => ?_) (fun c27 => ?_)
        · have h := cond_pos c27 h
          refine AWc.skip ?_
          exact ⟨(decide (a0.fKind = (2 : Int))), h, ⟨rfl, [], [], rfl, rfl, ⟨⟨_, rfl, (.refl _)⟩, rfl, ⟨⟨_, rfl, (.refl _)⟩, rfl, ⟨⟨_, rfl, (.refl _)⟩, rfl, ⟨⟨_, rfl, (.refl _)⟩, rfl, ⟨⟨_, rfl, (.refl _)⟩, rfl, trivial⟩⟩⟩⟩⟩, ⟨⟨_, rfl, (.refl _)⟩, rfl, rfl, ⟨⟨_, rfl, (.refl _)⟩, rfl, rfl, ⟨⟨_, rfl, (.refl _)⟩, rfl, rfl, trivial⟩⟩⟩⟩⟩
        · have h := cond_neg c27 h
          refine AWc.rg hmix rfl rfl ?_
          refine RegV.p0 (v := (.d (.bool (decide (a0.fKind = (3 : Int)))))) rfl rfl rfl ?_
          refine RegV.p0 rfl rfl rfl ?_
          refine RegV.nil0 ?_
          exact ⟨(decide (a0.fKind = (3 : Int))), h, ⟨rfl, [], [], rfl, rfl, ⟨⟨_, rfl, (.refl _)⟩, rfl, ⟨⟨_, rfl, (.refl _)⟩, rfl, ⟨⟨_, rfl, (.refl _)⟩, rfl, ⟨⟨_, rfl, (.refl _)⟩, rfl, ⟨⟨_, rfl, (.refl _)⟩, rfl, trivial⟩⟩⟩⟩⟩, ⟨⟨_, rfl, (.refl _)⟩, rfl, rfl, ⟨⟨_, rfl, (.refl _)⟩, rfl, rfl, ⟨⟨_, rfl, (.refl _)⟩, rfl, rfl, trivial⟩⟩⟩⟩⟩
    · intro j33_1 h
      unfold f425_j33 at h
      refine AWc.cond rfl (fun c33 => ?_) (fun c33 => ?_)
      · have h := cond_pos c33 h
        refine AWc.seq ?_
        refine AWc.rg hmix rfl rfl ?_
        refine RegV.ld (v := (.d (.agg [(.int .i64 a0.fKind), (.str a0.fText), (.sl (List.map (rtE (z := 4)) a0.fL)), (.sl (List.map D.str a0.fKeys))]))) (H' := [(0, (.cells [(.d (.int .i64 a0.fKind)), (.d (.str a0.fText)), (.d (.sl (List.map (rtE (z := 4)) a0.fL))), (.d (.sl (List.map D.str a0.fKeys)))])), (1, (.cells [(.d (.int .i64 a1))])), (2, (.cells [(.d (.bool false))]))]) rfl rfl (Nat.le_of_ble_eq_true rfl) rfl rfl rfl rfl rfl ?_
        obtain ⟨r38, e38, h⟩ := bind_some h
        refine RegV.call0 (F426 hmix hc.2.1 e38) rfl rfl rfl rfl (.cons (.refl _) (.cons (.refl _) .nil)) rfl ?_
        refine RegV.evN (own := false) (H' := [(2, (.cells [(.d (.bool r38))])), (0, (.cells [(.d (.int .i64 a0.fKind)), (.d (.str a0.fText)), (.d (.sl (List.map (rtE (z := 4)) a0.fL))), (.d (.sl (List.map D.str a0.fKeys)))])), (1, (.cells [(.d (.int .i64 a1))]))]) (c' := 3) rfl rfl (by exact ⟨rfl, Nat.le_of_ble_eq_true rfl, rfl⟩) rfl rfl rfl rfl ?_
        refine RegV.nil0 ?_
        have hr := Option.some.inj h
        subst hr
        exact AWc.ret (canQ (N := 86) (k := 1) (l' := [(4, (.ptr 0 0))]) (H' := [(0, (.cells [(.d (.bool r38))]))]) rfl ⟨rfl, [], [(0, 2)], rfl, rfl, ⟨⟨_, rfl, (.refl _)⟩, rfl, trivial⟩, ⟨⟨_, rfl, (.refl _)⟩, rfl, rfl, trivial⟩⟩ (doneA (.inr rfl) rfl ⟨trivial, trivial⟩ (.refl _) hasNil))
      · have h := cond_neg c33 h
        refine AWc.seq ?_
        refine AWc.rg hmix rfl rfl ?_
        refine RegV.p0 (v := (.d (.bool (decide (a0.fKind = (4 : Int)))))) rfl rfl rfl ?_
        refine RegV.p0 rfl rfl rfl ?_
        refine RegV.nil0 ?_
        refine AWc.cond rfl (fun c46 => ?_) (fun c46 => ?_)
        · have h := cond_pos c46 h
          refine AWc.seq ?_
          refine AWc.rg hmix rfl rfl ?_
          refine RegV.ld (v := (.d (.agg [(.int .i64 a0.fKind), (.str a0.fText), (.sl (List.map (rtE (z := 4)) a0.fL)), (.sl (List.map D.str a0.fKeys))]))) (H' := [(0, (.cells [(.d (.int .i64 a0.fKind)), (.d (.str a0.fText)), (.d (.sl (List.map (rtE (z := 4)) a0.fL))), (.d (.sl (List.map D.str a0.fKeys)))])), (1, (.cells [(.d (.int .i64 a1))])), (2, (.cells [(.d (.bool false))]))]) rfl rfl (Nat.le_of_ble_eq_true rfl) rfl rfl rfl rfl rfl ?_
          obtain ⟨r51, e51, h⟩ := bind_some h
          refine RegV.call0 (F426 hmix hc.2.1 e51) rfl rfl rfl rfl (.cons (.refl _) (.cons (.refl _) .nil)) rfl ?_
          refine RegV.p0 rfl rfl rfl ?_
          refine RegV.split (fun c52 => ?_) (fun c52 => ?_)
          · have h := cond_pos c52 h
            refine RegV.p0 (v := (.ptr 0 1)) rfl rfl rfl ?_
            refine RegV.ld (v := (.d (.str a0.fText))) (H' := [(0, (.cells [(.d (.int .i64 a0.fKind)), (.d (.str a0.fText)), (.d (.sl (List.map (rtE (z := 4)) a0.fL))), (.d (.sl (List.map D.str a0.fKeys)))])), (1, (.cells [(.d (.int .i64 a1))])), (2, (.cells [(.d (.bool false))]))]) rfl rfl trivial rfl rfl rfl rfl rfl ?_
            obtain ⟨r55, e55, h⟩ := bind_some h
            refine RegV.call0 (F406 hmix hc.2.2.1 e55) rfl rfl rfl rfl (.cons (.refl _) .nil) rfl ?_
            refine RegV.p0 rfl rfl rfl ?_
            refine RegV.evN (own := false) (H' := [(2, (.cells [(.d (.bool r55))])), (0, (.cells [(.d (.int .i64 a0.fKind)), (.d (.str a0.fText)), (.d (.sl (List.map (rtE (z := 4)) a0.fL))), (.d (.sl (List.map D.str a0.fKeys)))])), (1, (.cells [(.d (.int .i64 a1))]))]) (c' := 3) rfl rfl (by exact ⟨rfl, Nat.le_of_ble_eq_true rfl, rfl⟩) rfl rfl rfl rfl ?_
            refine RegV.nil0 ?_
            have hr := Option.some.inj h
            subst hr
            exact AWc.ret (canQ (N := 86) (k := 1) (l' := [(4, (.ptr 0 0))]) (H' := [(0, (.cells [(.d (.bool r55))]))]) rfl ⟨rfl, [], [(0, 2)], rfl, rfl, ⟨⟨_, rfl, (.refl _)⟩, rfl, trivial⟩, ⟨⟨_, rfl, (.refl _)⟩, rfl, rfl, trivial⟩⟩ (doneA (.inr rfl) rfl ⟨trivial, trivial⟩ (.refl _) hasNil))
          · have h := cond_neg c52 h
            refine RegV.noS rfl rfl ?_
            refine RegV.noS rfl rfl ?_
            refine RegV.noS rfl rfl ?_
            refine RegV.p0 rfl rfl rfl ?_
            refine RegV.evN (own := false) (H' := [(2, (.cells [(.d (.bool false))])), (0, (.cells [(.d (.int .i64 a0.fKind)), (.d (.str a0.fText)), (.d (.sl (List.map (rtE (z := 4)) a0.fL))), (.d (.sl (List.map D.str a0.fKeys)))])), (1, (.cells [(.d (.int .i64 a1))]))]) (c' := 3) rfl rfl (by exact ⟨rfl, Nat.le_of_ble_eq_true rfl, rfl⟩) rfl rfl rfl rfl ?_
            refine RegV.nil0 ?_
            have hr := Option.some.inj h
            subst hr
            exact AWc.ret (canQ (N := 86) (k := 1) (l' := [(4, (.ptr 0 0))]) (H' := [(0, (.cells [(.d (.bool false))]))]) rfl ⟨rfl, [], [(0, 2)], rfl, rfl, ⟨⟨_, rfl, (.refl _)⟩, rfl, trivial⟩, ⟨⟨_, rfl, (.refl _)⟩, rfl, rfl, trivial⟩⟩ (doneA (.inr rfl) rfl ⟨trivial, trivial⟩ (.refl _) hasNil))
        · have h := cond_neg c46 h
          refine AWc.seq ?_
          refine AWc.rg hmix rfl rfl ?_
          refine RegV.p0 (v := (.d (.bool (decide (a0.fKind = (5 : Int)))))) rfl rfl rfl ?_
          refine RegV.p0 rfl rfl rfl ?_
          refine RegV.nil0 ?_
          refine AWc.cond rfl (fun c64 => ?_) (fun c64 => ?_)
          · have h := cond_pos c64 h
            refine AWc.seq ?_
            refine AWc.rg hmix rfl rfl ?_
            refine RegV.ld (v := (.d (.agg [(.int .i64 a0.fKind), (.str a0.fText), (.sl (List.map (rtE (z := 4)) a0.fL)), (.sl (List.map D.str a0.fKeys))]))) (H' := [(0, (.cells [(.d (.int .i64 a0.fKind)), (.d (.str a0.fText)), (.d (.sl (List.map (rtE (z := 4)) a0.fL))), (.d (.sl (List.map D.str a0.fKeys)))])), (1, (.cells [(.d (.int .i64 a1))])), (2, (.cells [(.d (.bool false))]))]) rfl rfl (Nat.le_of_ble_eq_true rfl) rfl rfl rfl rfl rfl ?_
            obtain ⟨r69, e69, h⟩ := bind_some h
            refine RegV.call0 (F426 hmix hc.2.1 e69) rfl rfl rfl rfl (.cons (.refl _) (.cons (.refl _) .nil)) rfl ?_
            refine RegV.p0 rfl rfl rfl ?_
            refine RegV.split (fun c70 => ?_) (fun c70 => ?_)
            · have h := cond_pos c70 h
              refine RegV.p0 (v := (.ptr 0 1)) rfl rfl rfl ?_
              refine RegV.ld (v := (.d (.str a0.fText))) (H' := [(0, (.cells [(.d (.int .i64 a0.fKind)), (.d (.str a0.fText)), (.d (.sl (List.map (rtE (z := 4)) a0.fL))), (.d (.sl (List.map D.str a0.fKeys)))])), (1, (.cells [(.d (.int .i64 a1))])), (2, (.cells [(.d (.bool false))]))]) rfl rfl trivial rfl rfl rfl rfl rfl ?_
              obtain ⟨r73, e73, h⟩ := bind_some h
              refine RegV.call0 (F351 hmix hc.2.2.2.1 e73) rfl rfl rfl rfl (.cons (.refl _) .nil) rfl ?_
              refine RegV.p0 rfl rfl rfl ?_
              refine RegV.evN (own := false) (H' := [(2, (.cells [(.d (.bool r73))])), (0, (.cells [(.d (.int .i64 a0.fKind)), (.d (.str a0.fText)), (.d (.sl (List.map (rtE (z := 4)) a0.fL))), (.d (.sl (List.map D.str a0.fKeys)))])), (1, (.cells [(.d (.int .i64 a1))]))]) (c' := 3) rfl rfl (by exact ⟨rfl, Nat.le_of_ble_eq_true rfl, rfl⟩) rfl rfl rfl rfl ?_
              refine RegV.nil0 ?_
              have hr := Option.some.inj h
              subst hr
              exact AWc.ret (canQ (N := 86) (k := 1) (l' := [(4, (.ptr 0 0))]) (H' := [(0, (.cells [(.d (.bool r73))]))]) rfl ⟨rfl, [], [(0, 2)], rfl, rfl, ⟨⟨_, rfl, (.refl _)⟩, rfl, trivial⟩, ⟨⟨_, rfl, (.refl _)⟩, rfl, rfl, trivial⟩⟩ (doneA (.inr rfl) rfl ⟨trivial, trivial⟩ (.refl _) hasNil))
            · have h := cond_neg c70 h
              refine RegV.noS rfl rfl ?_
              refine RegV.noS rfl rfl ?_
              refine RegV.noS rfl rfl ?_
              refine RegV.p0 rfl rfl rfl ?_
              refine RegV.evN (own := false) (H' := [(2, (.cells [(.d (.bool false))])), (0, (.cells [(.d (.int .i64 a0.fKind)), (.d (.str a0.fText)), (.d (.sl (List.map (rtE (z := 4)) a0.fL))), (.d (.sl (List.map D.str a0.fKeys)))])), (1, (.cells [(.d (.int .i64 a1))]))]) (c' := 3) rfl rfl (by exact ⟨rfl, Nat.le_of_ble_eq_true rfl, rfl⟩) rfl rfl rfl rfl ?_
              refine RegV.nil0 ?_
              have hr := Option.some.inj h
              subst hr
              exact AWc.ret (canQ (N := 86) (k := 1) (l' := [(4, (.ptr 0 0))]) (H' := [(0, (.cells [(.d (.bool false))]))]) rfl ⟨rfl, [], [(0, 2)], rfl, rfl, ⟨⟨_, rfl, (.refl _)⟩, rfl, trivial⟩, ⟨⟨_, rfl, (.refl _)⟩, rfl, rfl, trivial⟩⟩ (doneA (.inr rfl) rfl ⟨trivial, trivial⟩ (.refl _) hasNil))
          · have h := cond_neg c64 h
            refine AWc.seq ?_
            refine AWc.rg hmix rfl rfl ?_
            refine RegV.p0 (v := (.d (.bool (decide (a0.fKind = (6 : Int)))))) rfl rfl rfl ?_
            refine RegV.p0 rfl rfl rfl ?_
            refine RegV.nil0 ?_
            refine AWc.cond rfl (fun c82 => ?_) (fun c82 => ?_)
            · have h := cond_pos c82 h
              refine AWc.seq ?_
              refine AWc.rg hmix rfl rfl ?_
              refine RegV.p0 (v := (.ptr 0 3)) rfl rfl rfl ?_
              refine RegV.ld (v := (.d (.sl (List.map D.str a0.fKeys)))) (H' := [(0, (.cells [(.d (.int .i64 a0.fKind)), (.d (.str a0.fText)), (.d (.sl (List.map (rtE (z := 4)) a0.fL))), (.d (.sl (List.map D.str a0.fKeys)))])), (1, (.cells [(.d (.int .i64 a1))])), (2, (.cells [(.d (.bool false))]))]) rfl rfl trivial rfl rfl rfl rfl rfl ?_
              refine RegV.len (xs := a0.fKeys) (e := D.str) rfl rfl rfl rfl ?_
              refine RegV.p0 (v := (.d (.bool (decide (((a0.fKeys.length : Nat) : Int) > (0 : Int)))))) rfl rfl rfl ?_
              refine RegV.nil0 ?_
              refine AWc.cond rfl (fun c90 => ?_) (fun c90 => ?_)
              · have h := cond_pos c90 h
                refine AWc.seq ?_
                refine AWc.rg hmix rfl rfl ?_
                refine RegV.evN (own := false) (H' := [(2, (.cells [(.d (.bool false))])), (0, (.cells [(.d (.int .i64 a0.fKind)), (.d (.str a0.fText)), (.d (.sl (List.map (rtE (z := 4)) a0.fL))), (.d (.sl (List.map D.str a0.fKeys)))])), (1, (.cells [(.d (.int .i64 a1))]))]) (c' := 3) rfl rfl (by exact ⟨rfl, Nat.le_of_ble_eq_true rfl, rfl⟩) rfl rfl rfl rfl ?_
                refine RegV.nil0 ?_
                have hr := Option.some.inj h
                subst hr
                exact AWc.ret (canQ (N := 86) (k := 1) (l' := [(4, (.ptr 0 0))]) (H' := [(0, (.cells [(.d (.bool false))]))]) rfl ⟨rfl, [], [(0, 2)], rfl, rfl, ⟨⟨_, rfl, (.refl _)⟩, rfl, trivial⟩, ⟨⟨_, rfl, (.refl _)⟩, rfl, rfl, trivial⟩⟩ (doneA (.inr rfl) rfl ⟨trivial, trivial⟩ (.refl _) hasNil))
              · have h := cond_neg c90 h
                refine AWc.skip ?_
                exact ⟨(), h, ⟨rfl, [], [], rfl, rfl, ⟨⟨_, rfl, (.refl _)⟩, rfl, ⟨⟨_, rfl, (.refl _)⟩, rfl, ⟨⟨_, rfl, (.refl _)⟩, rfl, trivial⟩⟩⟩, ⟨⟨_, rfl, (.refl _)⟩, rfl, rfl, ⟨⟨_, rfl, (.refl _)⟩, rfl, rfl, ⟨⟨_, rfl, (.refl _)⟩, rfl, rfl, trivial⟩⟩⟩⟩⟩
            · have h := cond_neg c82 h
              refine AWc.seq ?_
              refine AWc.rg hmix rfl rfl ?_
              refine RegV.p0 (v := (.d (.bool (decide (a0.fKind = (7 : Int)))))) rfl rfl rfl ?_
              refine RegV.p0 rfl rfl rfl ?_
              refine RegV.nil0 ?_
              refine AWc.cond rfl (fun c102 => ?_) (fun c102 => ?_)
              · have h := cond_pos c102 h
                refine AWc.seq (AWc.seq ?_)
                refine AWc.rg hmix rfl rfl ?_
                refine RegV.p0 (v := (.ptr 0 3)) rfl rfl rfl ?_
                refine RegV.ld (v := (.d (.sl (List.map D.str a0.fKeys)))) (H' := [(0, (.cells [(.d (.int .i64 a0.fKind)), (.d (.str a0.fText)), (.d (.sl (List.map (rtE (z := 4)) a0.fL))), (.d (.sl (List.map D.str a0.fKeys)))])), (1, (.cells [(.d (.int .i64 a1))])), (2, (.cells [(.d (.bool false))]))]) rfl rfl trivial rfl rfl rfl rfl rfl ?_
                refine RegV.len (xs := a0.fKeys) (e := D.str) rfl rfl rfl rfl ?_
                refine RegV.p0 (v := (.ptr 0 2)) rfl rfl rfl ?_
                refine RegV.ld (v := (.d (.sl (List.map (rtE (z := 4)) a0.fL)))) (H' := [(0, (.cells [(.d (.int .i64 a0.fKind)), (.d (.str a0.fText)), (.d (.sl (List.map (rtE (z := 4)) a0.fL))), (.d (.sl (List.map D.str a0.fKeys)))])), (1, (.cells [(.d (.int .i64 a1))])), (2, (.cells [(.d (.bool false))]))]) rfl rfl trivial rfl rfl rfl rfl rfl ?_
                refine RegV.len (xs := a0.fL) (e := (rtE (z := 4))) rfl rfl rfl rfl ?_
                refine RegV.p0 (v := (.d (.bool (decide (((a0.fKeys.length : Nat) : Int) ≠ ((a0.fL.length : Nat) : Int)))))) rfl rfl rfl ?_
                refine RegV.nil0 ?_
                refine AWc.cond rfl (fun c114 => ?_) (fun c114 => ?_)
                · have h := cond_pos c114 h
                  refine AWc.seq ?_
                  refine AWc.rg hmix rfl rfl ?_
                  refine RegV.evN (own := false) (H' := [(2, (.cells [(.d (.bool false))])), (0, (.cells [(.d (.int .i64 a0.fKind)), (.d (.str a0.fText)), (.d (.sl (List.map (rtE (z := 4)) a0.fL))), (.d (.sl (List.map D.str a0.fKeys)))])), (1, (.cells [(.d (.int .i64 a1))]))]) (c' := 3) rfl rfl (by exact ⟨rfl, Nat.le_of_ble_eq_true rfl, rfl⟩) rfl rfl rfl rfl ?_
                  refine RegV.nil0 ?_
                  have hr := Option.some.inj h
                  subst hr
                  exact AWc.ret (canQ (N := 86) (k := 1) (l' := [(4, (.ptr 0 0))]) (H' := [(0, (.cells [(.d (.bool false))]))]) rfl ⟨rfl, [], [(0, 2)], rfl, rfl, ⟨⟨_, rfl, (.refl _)⟩, rfl, trivial⟩, ⟨⟨_, rfl, (.refl _)⟩, rfl, rfl, trivial⟩⟩ (doneA (.inr rfl) rfl ⟨trivial, trivial⟩ (.refl _) hasNil))
                · have h := cond_neg c114 h
                  refine AWc.skip (AWc.seq ?_)
                  refine AWc.rg hmix rfl rfl ?_
                  refine RegV.newM rfl rfl rfl ?_
                  refine RegV.evS (own := false) (v := (.ptr 4 0)) (H' := [(4, (.cells [(.d (.nilm))])), (3, (mpO ([] : MM))), (0, (.cells [(.d (.int .i64 a0.fKind)), (.d (.str a0.fText)), (.d (.sl (List.map (rtE (z := 4)) a0.fL))), (.d (.sl (List.map D.str a0.fKeys)))])), (1, (.cells [(.d (.int .i64 a1))])), (2, (.cells [(.d (.bool false))]))]) (c' := 5) rfl rfl trivial rfl rfl rfl rfl rfl rfl ?_
                  refine RegV.evN (own := false) (H' := [(4, (.cells [(.mp 3)])), (3, (mpO ([] : MM))), (0, (.cells [(.d (.int .i64 a0.fKind)), (.d (.str a0.fText)), (.d (.sl (List.map (rtE (z := 4)) a0.fL))), (.d (.sl (List.map D.str a0.fKeys)))])), (1, (.cells [(.d (.int .i64 a1))])), (2, (.cells [(.d (.bool false))]))]) (c' := 5) rfl rfl (by exact ⟨rfl, Nat.le_of_ble_eq_true rfl, rfl⟩) rfl rfl rfl rfl ?_
                  refine RegV.nil0 ?_
                  refine AWc.seq ?_
                  refine AWc.rg hmix rfl rfl ?_
                  refine RegV.p0 (v := (.ptr 0 3)) rfl rfl rfl ?_
                  refine RegV.ld (v := (.d (.sl (List.map D.str a0.fKeys)))) (H' := [(0, (.cells [(.d (.int .i64 a0.fKind)), (.d (.str a0.fText)), (.d (.sl (List.map (rtE (z := 4)) a0.fL))), (.d (.sl (List.map D.str a0.fKeys)))])), (4, (.cells [(.mp 3)])), (3, (mpO ([] : MM))), (1, (.cells [(.d (.int .i64 a1))])), (2, (.cells [(.d (.bool false))]))]) rfl rfl trivial rfl rfl rfl rfl rfl ?_
                  obtain ⟨r132, e132, h⟩ := bind_some h
                  refine RegV.callS (q := false) (H' := [(5, (.cells [(.d (.sl (List.map D.str a0.fKeys)))])), (0, (.cells [(.d (.int .i64 a0.fKind)), (.d (.str a0.fText)), (.d (.sl (List.map (rtE (z := 4)) a0.fL))), (.d (.sl (List.map D.str a0.fKeys)))])), (4, (.cells [(.mp 3)])), (3, (mpO ([] : MM))), (1, (.cells [(.d (.int .i64 a1))])), (2, (.cells [(.d (.bool false))]))]) (c' := 6) (show ACalls P (N 427) [(.d (.sl (List.map D.str a0.fKeys)))] [] (.fn (N 431) [(.ptr 5 0)]) [(5, (.cells [(.d (.sl (List.map D.str a0.fKeys)))]))] from ACalls.use (F427 hmix hc.2.2.2.2.1 e132) [(0, 5)] 1 rfl) rfl rfl rfl rfl (.cons (.refl _) .nil) (.refl _) (fun h => by cases h) rfl hasNil rfl rfl rfl rfl ?_
                  refine RegV.nil0 ?_
                  refine AWc.block ?_
                  refine AWc.rangeFunc [(4, (.ptr 2 0)), (5, (.ptr 4 0))] rfl rfl rfl rfl ⟨rfl, rfl, trivial⟩ (fun asgU134 bdU134 haU134 hbU134 => ?_)
                  obtain ⟨orf134, ef134, h⟩ := bind_some h
                  rcases orf134 with rf134 | rf134
                  · dsimp only at h
                    refine rfR (H' := [(2, (.cells [(.d (.bool false))])), (4, (.cells [(.mp 3)])), (3, (mpO rf134)), (5, (.cells [(.d (.sl (List.map D.str a0.fKeys)))])), (0, (.cells [(.d (.int .i64 a0.fKind)), (.d (.str a0.fText)), (.d (.sl (List.map (rtE (z := 4)) a0.fL))), (.d (.sl (List.map D.str a0.fKeys)))])), (1, (.cells [(.d (.int .i64 a1))]))]) (c' := 7) (show ACalls P (N 431) [(.lf 6), (.ptr 5 0)] [(6, (.lp 86 [(4, (.ptr 2 0)), (5, (.ptr 4 0))] [55, 56] asgU134 bdU134 .ready none)), (2, (.cells [(.d (.bool false))])), (4, (.cells [(.mp 3)])), (3, (mpO ([] : MM))), (5, (.cells [(.d (.sl (List.map D.str a0.fKeys)))]))] (.tup []) [(6, (.lp 86 [(4, (.ptr 2 0)), (5, (.ptr 4 0))] [55, 56] asgU134 bdU134 .done (some .ret))), (2, (.cells [(.d (.bool false))])), (4, (.cells [(.mp 3)])), (3, (mpO rf134)), (5, (.cells [(.d (.sl (List.map D.str a0.fKeys)))]))] from ACalls.use (F431_0 hmix hc.2.2.2.2.2.1 haU134 hbU134 ef134) [(0, 6), (1, 2), (2, 4), (3, 3), (4, 5)] 5 rfl) (.cons (.refl _) (.cons (.refl _) .nil)) (hasCons rfl (hasCons rfl (hasCons rfl (hasCons rfl (hasCons rfl hasNil))))) rfl rfl rfl rfl rfl ?_
                    have hr := Option.some.inj h
                    subst hr
                    exact canQ (N := 86) (k := 1) (l' := [(4, (.ptr 0 0))]) (H' := [(0, (.cells [(.d (.bool false))]))]) rfl ⟨rfl, [], [(0, 2)], rfl, rfl, ⟨⟨_, rfl, (.refl _)⟩, rfl, trivial⟩, ⟨⟨_, rfl, (.refl _)⟩, rfl, rfl, trivial⟩⟩ (doneA (.inr rfl) rfl ⟨trivial, trivial⟩ (.refl _) hasNil)
                  · dsimp only at h
                    refine rfN (H' := [(2, (.cells [(.d (.bool false))])), (4, (.cells [(.mp 3)])), (3, (mpO rf134)), (5, (.cells [(.d (.sl (List.map D.str a0.fKeys)))])), (0, (.cells [(.d (.int .i64 a0.fKind)), (.d (.str a0.fText)), (.d (.sl (List.map (rtE (z := 4)) a0.fL))), (.d (.sl (List.map D.str a0.fKeys)))])), (1, (.cells [(.d (.int .i64 a1))]))]) (c' := 7) (show ACalls P (N 431) [(.lf 6), (.ptr 5 0)] [(6, (.lp 86 [(4, (.ptr 2 0)), (5, (.ptr 4 0))] [55, 56] asgU134 bdU134 .ready none)), (2, (.cells [(.d (.bool false))])), (4, (.cells [(.mp 3)])), (3, (mpO ([] : MM))), (5, (.cells [(.d (.sl (List.map D.str a0.fKeys)))]))] (.tup []) [(6, (.lp 86 [(4, (.ptr 2 0)), (5, (.ptr 4 0))] [55, 56] asgU134 bdU134 .ready none)), (2, (.cells [(.d (.bool false))])), (4, (.cells [(.mp 3)])), (3, (mpO rf134)), (5, (.cells [(.d (.sl (List.map D.str a0.fKeys)))]))] from ACalls.use (F431_1 hmix hc.2.2.2.2.2.1 haU134 hbU134 ef134) [(0, 6), (1, 2), (2, 4), (3, 3), (4, 5)] 5 rfl) (.cons (.refl _) (.cons (.refl _) .nil)) (hasCons rfl (hasCons rfl (hasCons rfl (hasCons rfl (hasCons rfl hasNil))))) rfl rfl rfl rfl rfl ?_
                    exact ⟨(), h, ⟨rfl, [], [], rfl, rfl, ⟨⟨_, rfl, (.refl _)⟩, rfl, ⟨⟨_, rfl, (.refl _)⟩, rfl, ⟨⟨_, rfl, (.refl _)⟩, rfl, trivial⟩⟩⟩, ⟨⟨_, rfl, (.refl _)⟩, rfl, rfl, ⟨⟨_, rfl, (.refl _)⟩, rfl, rfl, ⟨⟨_, rfl, (.refl _)⟩, rfl, rfl, trivial⟩⟩⟩⟩⟩
              · have h := cond_neg c102 h
                refine AWc.seq ?_
                refine AWc.rg hmix rfl rfl ?_
                refine RegV.evN (own := false) (H' := [(2, (.cells [(.d (.bool false))])), (0, (.cells [(.d (.int .i64 a0.fKind)), (.d (.str a0.fText)), (.d (.sl (List.map (rtE (z := 4)) a0.fL))), (.d (.sl (List.map D.str a0.fKeys)))])), (1, (.cells [(.d (.int .i64 a1))]))]) (c' := 3) rfl rfl (by exact ⟨rfl, Nat.le_of_ble_eq_true rfl, rfl⟩) rfl rfl rfl rfl ?_
                refine RegV.nil0 ?_
                have hr := Option.some.inj h
                subst hr
                exact AWc.ret (canQ (N := 86) (k := 1) (l' := [(4, (.ptr 0 0))]) (H' := [(0, (.cells [(.d (.bool false))]))]) rfl ⟨rfl, [], [(0, 2)], rfl, rfl, ⟨⟨_, rfl, (.refl _)⟩, rfl, trivial⟩, ⟨⟨_, rfl, (.refl _)⟩, rfl, rfl, trivial⟩⟩ (doneA (.inr rfl) rfl ⟨trivial, trivial⟩ (.refl _) hasNil))
  · rintro ⟨⟩ h
    unfold f425_j183 at h
    refine AWc.seq ?_
    refine AWc.rg hmix rfl rfl ?_
    refine RegV.p0 (v := (.ptr 0 1)) rfl rfl rfl ?_
    refine RegV.ld (v := (.d (.str a0.fText))) (H' := [(0, (.cells [(.d (.int .i64 a0.fKind)), (.d (.str a0.fText)), (.d (.sl (List.map (rtE (z := 4)) a0.fL))), (.d (.sl (List.map D.str a0.fKeys)))])), (1, (.cells [(.d (.int .i64 a1))])), (2, (.cells [(.d (.bool false))]))]) rfl rfl trivial rfl rfl rfl rfl rfl ?_
    refine RegV.p0 (v := (.d (.bool (decide (a0.fText = ([] : List UInt8)))))) rfl rfl rfl ?_
    refine RegV.p0 rfl rfl rfl ?_
    refine RegV.split (fun c189 => ?_) (fun c189 => ?_)
    · have h := cond_pos c189 h
      refine RegV.ld (v := (.d (.int .i64 a1))) (H' := [(1, (.cells [(.d (.int .i64 a1))])), (0, (.cells [(.d (.int .i64 a0.fKind)), (.d (.str a0.fText)), (.d (.sl (List.map (rtE (z := 4)) a0.fL))), (.d (.sl (List.map D.str a0.fKeys)))])), (2, (.cells [(.d (.bool false))]))]) rfl rfl trivial rfl rfl rfl rfl rfl ?_
      refine RegV.p0 (v := (.d (.bool (decide (a1 < (64 : Int)))))) rfl rfl rfl ?_
      refine RegV.p0 rfl rfl rfl ?_
      refine RegV.p0 rfl rfl rfl ?_
      refine RegV.split (fun c193 => ?_) (fun c193 => ?_)
      · have h := cond_pos c193 h
        refine RegV.p0 (v := (.ptr 0 2)) rfl rfl rfl ?_
        refine RegV.ld (v := (.d (.sl (List.map (rtE (z := 4)) a0.fL)))) (H' := [(0, (.cells [(.d (.int .i64 a0.fKind)), (.d (.str a0.fText)), (.d (.sl (List.map (rtE (z := 4)) a0.fL))), (.d (.sl (List.map D.str a0.fKeys)))])), (1, (.cells [(.d (.int .i64 a1))])), (2, (.cells [(.d (.bool false))]))]) rfl rfl trivial rfl rfl rfl rfl rfl ?_
        refine RegV.p0 (v := (.fn (N 428) [(.ptr 1 0)])) rfl rfl rfl ?_
        obtain ⟨r197, e197, h⟩ := bind_some h
        refine RegV.callS (q := true) (H' := [(1, (.cells [(.d (.int .i64 a1))])), (0, (.cells [(.d (.int .i64 a0.fKind)), (.d (.str a0.fText)), (.d (.sl (List.map (rtE (z := 4)) a0.fL))), (.d (.sl (List.map D.str a0.fKeys)))])), (2, (.cells [(.d (.bool false))]))]) (c' := 3) (show ACalls P (N 429) [(.d (.sl (List.map (rtE (z := 4)) a0.fL))), (.fn (N 428) [(.ptr 1 0)])] [(1, (.cells [(.d (.int .i64 a1))]))] (.d (.bool r197)) [(1, (.cells [(.d (.int .i64 a1))]))] from ACalls.use (F429 hmix hc.2.2.2.2.2.2 hrc425 e197) [(0, 1)] 1 rfl) rfl rfl rfl rfl (.cons (.refl _) (.cons (.refl _) .nil)) (.refl _) (fun _ => rfl) rfl (hasCons rfl hasNil) rfl rfl rfl rfl ?_
        refine RegV.p0 (v := (.d (.bool (!r197)))) rfl rfl rfl ?_
        refine RegV.p0 rfl rfl rfl ?_
        refine RegV.evN (own := false) (H' := [(2, (.cells [(.d (.bool (!r197)))])), (1, (.cells [(.d (.int .i64 a1))])), (0, (.cells [(.d (.int .i64 a0.fKind)), (.d (.str a0.fText)), (.d (.sl (List.map (rtE (z := 4)) a0.fL))), (.d (.sl (List.map D.str a0.fKeys)))]))]) (c' := 3) rfl rfl (by exact ⟨rfl, Nat.le_of_ble_eq_true rfl, rfl⟩) rfl rfl rfl rfl ?_
        refine RegV.nil0 ?_
        have hr := Option.some.inj h
        subst hr
        exact AWc.ret (canQ (N := 86) (k := 1) (l' := [(4, (.ptr 0 0))]) (H' := [(0, (.cells [(.d (.bool (!r197)))]))]) rfl ⟨rfl, [], [(0, 2)], rfl, rfl, ⟨⟨_, rfl, (.refl _)⟩, rfl, trivial⟩, ⟨⟨_, rfl, (.refl _)⟩, rfl, rfl, trivial⟩⟩ (doneA (.inr rfl) rfl ⟨trivial, trivial⟩ (.refl _) hasNil))
      · have h := cond_neg c193 h
        refine RegV.noS rfl rfl ?_
        refine RegV.noS rfl rfl ?_
        refine RegV.noS rfl rfl ?_
        refine RegV.noS rfl rfl ?_
        refine RegV.noS rfl rfl ?_
        refine RegV.p0 rfl rfl rfl ?_
        refine RegV.evN (own := false) (H' := [(2, (.cells [(.d (.bool false))])), (1, (.cells [(.d (.int .i64 a1))])), (0, (.cells [(.d (.int .i64 a0.fKind)), (.d (.str a0.fText)), (.d (.sl (List.map (rtE (z := 4)) a0.fL))), (.d (.sl (List.map D.str a0.fKeys)))]))]) (c' := 3) rfl rfl (by exact ⟨rfl, Nat.le_of_ble_eq_true rfl, rfl⟩) rfl rfl rfl rfl ?_
        refine RegV.nil0 ?_
        have hr := Option.some.inj h
        subst hr
        exact AWc.ret (canQ (N := 86) (k := 1) (l' := [(4, (.ptr 0 0))]) (H' := [(0, (.cells [(.d (.bool false))]))]) rfl ⟨rfl, [], [(0, 2)], rfl, rfl, ⟨⟨_, rfl, (.refl _)⟩, rfl, trivial⟩, ⟨⟨_, rfl, (.refl _)⟩, rfl, rfl, trivial⟩⟩ (doneA (.inr rfl) rfl ⟨trivial, trivial⟩ (.refl _) hasNil))
    · have h := cond_neg c189 h
      refine RegV.noS rfl rfl ?_
      refine RegV.noS rfl rfl ?_
      refine RegV.p0 rfl rfl rfl ?_
      refine RegV.p0 rfl rfl rfl ?_
      refine RegV.noS rfl rfl ?_
      refine RegV.noS rfl rfl ?_
      refine RegV.noS rfl rfl ?_
      refine RegV.noS rfl rfl ?_
      refine RegV.noS rfl rfl ?_
      refine RegV.p0 rfl rfl rfl ?_
      refine RegV.evN (own := false) (H' := [(2, (.cells [(.d (.bool false))])), (0, (.cells [(.d (.int .i64 a0.fKind)), (.d (.str a0.fText)), (.d (.sl (List.map (rtE (z := 4)) a0.fL))), (.d (.sl (List.map D.str a0.fKeys)))])), (1, (.cells [(.d (.int .i64 a1))]))]) (c' := 3) rfl rfl (by exact ⟨rfl, Nat.le_of_ble_eq_true rfl, rfl⟩) rfl rfl rfl rfl ?_
      refine RegV.nil0 ?_
      have hr := Option.some.inj h
      subst hr
      exact AWc.ret (canQ (N := 86) (k := 1) (l' := [(4, (.ptr 0 0))]) (H' := [(0, (.cells [(.d (.bool false))]))]) rfl ⟨rfl, [], [(0, 2)], rfl, rfl, ⟨⟨_, rfl, (.refl _)⟩, rfl, trivial⟩, ⟨⟨_, rfl, (.refl _)⟩, rfl, rfl, trivial⟩⟩ (doneA (.inr rfl) rfl ⟨trivial, trivial⟩ (.refl _) hasNil))
def f425 : Nat → TJson → Int → Option Bool
  | 0, _, _ => none
  | k + 1, a0, a1 => f425_s (f425 k) k a0 a1
theorem F425 {P : Program} {N : Nat → Nat} (hmix : P.follows .mixedOrders = true) (hc : HC425 P N) {k : Nat} {a0 : TJson} {a1 : Int} {r : Bool} (h : f425 k a0 a1 = some r) :
    ACalls P (N 425) [(.d (TJson.enc a0)), (.d (.int .i64 a1))] [] (.d (.bool r)) [] := by
  induction k generalizing a0 a1 r with
  | zero => exact absurd (show (none : Option _) = some r from h) (fun h2 => by cases h2)
  | succ k ih => exact F425_s hmix hc (fun _ _ _ h => ih h) h
/-- courant/json.Right -/
def C422 (N : Nat → Nat) : AFunc := { n := 5, params := 1, res := [.tmp 2], body :=
 (.seq (.region false [⟨some 1, .box (.t 0), none, []⟩,
 ⟨some 2, .mv (.k (.d (.bool false))), none, []⟩])
 (.seq (.region false [⟨some 3, .load (.t 1) 4 true, none, []⟩,
 ⟨some 4, .call (.k (.d (.fn (N 425)))) [(.t 3), (.k (.d (.int .i64 0)))], none, [0]⟩,
 ⟨some 2, .mv (.t 4), none, [1, 0]⟩])
   .ret)) }
def HC422 (P : Program) (N : Nat → Nat) : Prop := HasF P (N 422) (C422 N) ∧ HC425 P N
def f422 (k : Nat) (a0 : TJson) : Option Bool := (f425 k (TJson.mk a0.fKind a0.fText a0.fL a0.fKeys) (0 : Int)).bind fun r10 => some r10
theorem F422 {P : Program} {N : Nat → Nat} (hmix : P.follows .mixedOrders = true) (hc : HC422 P N) {k : Nat} {a0 : TJson} {r : Bool} (h : f422 k a0 = some r) :
    ACalls P (N 422) [(.d (TJson.enc a0))] [] (.d (.bool r)) [] := by
  refine acalls_canon (F := C422 N) hc.1 0 0 rfl ?_
  unfold f422 at h
  dsimp only [C422, startL]
  refine AWc.seq (AWc.rE hmix [] ?_)
  refine AWc.seq ?_
  obtain ⟨r10, e10, h⟩ := bind_some h
  refine AWc.rE hmix [.call (F425 hmix hc.2 e10) [] 0] ?_
  have hr := Option.some.inj h
  subst hr
  exact AWc.ret (canQ (N := 5) (k := 0) (l' := [(2, (.d (.bool r10)))]) (H' := []) rfl (inT [] []) (doneA (.inr rfl) rfl ⟨trivial, trivial⟩ (.refl _) hasNil))
def RH423 (P : Program) (N : Nat → Nat) (rc423 : (List UInt8) → TJson → Option (List UInt8)) : Prop := ∀ (a0 : (List UInt8)) (a1 : TJson) (r : (List UInt8)), rc423 a0 a1 = some r → ACalls P (N 423) [(.ap 0 1 (List.map byteD a0)), (.d (TJson.enc a1))] [(0, (.tok ((List.map byteD a0).length * 1)))] (.ap 1 1 (List.map byteD r)) [(1, (.tok ((List.map byteD r).length * 1)))]
/-- courant/json.quoted -/
def C424 (N : Nat → Nat) : AFunc := { n := 49, params := 2, res := [.tmp 4], body :=
 (.seq (.region false [⟨some 4, .mv (.k .nils), none, []⟩])
 (.seq (.region false [⟨some 7, .mv (.t 0), none, []⟩,
 ⟨some 8, .bslice 1 1 [(.int .u8 0)] [(0, (.k (.d (.int .u8 34))))], none, []⟩,
 ⟨some 9, .app (.t 7) (.t 8) 1 1 [(.int .u8 0)], none, [0, 1]⟩,
 ⟨some 0, .mv (.t 9), none, [2, 0, 1]⟩])
 (.seq (.seq (.region false [⟨some 10, .mv (.t 1), none, []⟩,
 ⟨some 11, .slen (.t 10), none, [0]⟩,
 ⟨some 12, .mv (.k (.d (.int .i64 0))), none, []⟩])
     (.block 0 (.loop (.seq (.region false [⟨some 13, .bin .lss (.t 12) (.t 11), none, []⟩])
 (.seq (.cond (.t 13) (.skip)
          (.exit 0))
 (.seq (.block 1 (.seq (.region false [⟨some 14, .mv (.t 12), none, []⟩,
 ⟨some 5, .mv (.t 14), none, [0]⟩])
 (.seq (.region false [⟨some 15, .mv (.t 1), none, []⟩,
 ⟨some 16, .mv (.t 5), none, []⟩,
 ⟨some 17, .idx (.t 15) (.t 16), none, [0, 1]⟩,
 ⟨some 6, .mv (.t 17), none, [2, 0, 1]⟩])
             (.block 2 (.seq (.region false [⟨some 23, .mv (.t 6), none, []⟩,
 ⟨some 24, .bin .eql (.t 23) (.k (.d (.int .u8 34))), none, [0]⟩,
 ⟨some 25, .mv (.t 24), none, [1]⟩,
 ⟨some 26, .mv (.t 6), some (25, false), [2]⟩,
 ⟨some 27, .bin .eql (.t 26) (.k (.d (.int .u8 92))), some (25, false), [3, 2]⟩,
 ⟨some 28, .pick (.t 25) (.k (.d (.bool true))) (.t 27), none, [2, 4]⟩,
 ⟨some 22, .mv (.t 28), none, [5, 2]⟩])
               (.cond (.t 22) (.region false [⟨some 29, .mv (.t 0), none, []⟩,
 ⟨some 30, .mv (.t 6), none, []⟩,
 ⟨some 31, .bslice 2 1 [(.int .u8 0)] [(0, (.k (.d (.int .u8 92)))), (1, (.t 30))], none, [1]⟩,
 ⟨some 32, .app (.t 29) (.t 31) 1 1 [(.int .u8 0)], none, [0, 2]⟩,
 ⟨some 0, .mv (.t 32), none, [3, 0, 1, 2]⟩])
 (.seq (.region false [⟨some 34, .mv (.t 6), none, []⟩,
 ⟨some 35, .bin .lss (.t 34) (.k (.d (.int .u8 32))), none, [0]⟩,
 ⟨some 33, .mv (.t 35), none, [1]⟩])
                 (.cond (.t 33) (.region true [⟨some 36, .mv (.t 0), none, []⟩,
 ⟨some 37, .mv (.t 6), none, []⟩,
 ⟨some 38, .bin .shr (.t 37) (.k (.d (.int .u64 4))), none, [1]⟩,
 ⟨some 39, .idx (.k (.d (.str [48, 49, 50, 51, 52, 53, 54, 55, 56, 57, 97, 98, 99, 100, 101, 102]))) (.t 38), none, [2]⟩,
 ⟨some 40, .mv (.t 6), none, []⟩,
 ⟨some 41, .bin .and (.t 40) (.k (.d (.int .u8 15))), none, [4]⟩,
 ⟨some 42, .idx (.k (.d (.str [48, 49, 50, 51, 52, 53, 54, 55, 56, 57, 97, 98, 99, 100, 101, 102]))) (.t 41), none, [5]⟩,
 ⟨some 43, .bslice 6 1 [(.int .u8 0)] [(0, (.k (.d (.int .u8 92)))), (1, (.k (.d (.int .u8 117)))), (2, (.k (.d (.int .u8 48)))), (3, (.k (.d (.int .u8 48)))), (4, (.t 39)), (5, (.t 42))], none, [3, 6]⟩,
 ⟨some 44, .app (.t 36) (.t 43) 1 1 [(.int .u8 0)], none, [0, 7]⟩,
 ⟨some 0, .mv (.t 44), none, [8, 0, 1, 2, 3, 4, 5, 6, 7]⟩])
                  (.region false [⟨some 18, .mv (.t 0), none, []⟩,
 ⟨some 19, .mv (.t 6), none, []⟩,
 ⟨some 20, .bslice 1 1 [(.int .u8 0)] [(0, (.t 19))], none, [1]⟩,
 ⟨some 21, .app (.t 18) (.t 20) 1 1 [(.int .u8 0)], none, [0, 2]⟩,
 ⟨some 0, .mv (.t 21), none, [3, 0, 1, 2]⟩])))))))))
          (.region false [⟨some 45, .bin .add (.t 12) (.k (.d (.int .i64 1))), none, []⟩,
 ⟨some 12, .mv (.t 45), none, [0]⟩])))))))
 (.seq (.region false [⟨some 46, .mv (.t 0), none, []⟩,
 ⟨some 47, .bslice 1 1 [(.int .u8 0)] [(0, (.k (.d (.int .u8 34))))], none, []⟩,
 ⟨some 48, .app (.t 46) (.t 47) 1 1 [(.int .u8 0)], none, [0, 1]⟩,
 ⟨some 4, .mv (.t 48), none, [2, 0, 1]⟩])
     .ret)))) }
def HC424 (P : Program) (N : Nat → Nat) : Prop := HasF P (N 424) (C424 N)
def f424_j92 (k : Nat) (j92_1 : (List UInt8)) : Option (List UInt8) := gd ((j92_1.length + ([(34 : UInt8)] : List UInt8).length) * 2 * 1 ≤ 281474976710656) (some (j92_1 ++ ([(34 : UInt8)] : List UInt8)))
def f424_j54 (L : (List UInt8) → Int → Option (LR2 (List UInt8) Unit (List UInt8))) (k : Nat) (y19_1 : (List UInt8)) (a1 : (List UInt8)) (y19_2 : Int) (j54_1 : Bool) : Option (LR2 (List UInt8) Unit (List UInt8)) := cond j54_1 (gd ((y19_1.length + ([(92 : UInt8), (a1.getD (y19_2).toNat 0)] : List UInt8).length) * 2 * 1 ≤ 281474976710656) (L (y19_1 ++ ([(92 : UInt8), (a1.getD (y19_2).toNat 0)] : List UInt8)) (IntKind.i64.wrap (y19_2 + (1 : Int))))) (cond (decide ((((a1.getD (y19_2).toNat 0).toNat : Nat) : Int) < (32 : Int))) (gd (0 ≤ (Int.fdiv (((a1.getD (y19_2).toNat 0).toNat : Nat) : Int) (2 ^ (min ((4 : Int)).toNat IntKind.u8.bits))) ∧ (Int.fdiv (((a1.getD (y19_2).toNat 0).toNat : Nat) : Int) (2 ^ (min ((4 : Int)).toNat IntKind.u8.bits))) < ((([48, 49, 50, 51, 52, 53, 54, 55, 56, 57, 97, 98, 99, 100, 101, 102] : List UInt8).length : Nat) : Int)) (gd (0 ≤ (((u8 (bitsA .and .u8 (((a1.getD (y19_2).toNat 0).toNat : Nat) : Int) (15 : Int))).toNat : Nat) : Int) ∧ (((u8 (bitsA .and .u8 (((a1.getD (y19_2).toNat 0).toNat : Nat) : Int) (15 : Int))).toNat : Nat) : Int) < ((([48, 49, 50, 51, 52, 53, 54, 55, 56, 57, 97, 98, 99, 100, 101, 102] : List UInt8).length : Nat) : Int)) (gd ((y19_1.length + ([(92 : UInt8), (117 : UInt8), (48 : UInt8), (48 : UInt8), (([48, 49, 50, 51, 52, 53, 54, 55, 56, 57, 97, 98, 99, 100, 101, 102] : List UInt8).getD ((Int.fdiv (((a1.getD (y19_2).toNat 0).toNat : Nat) : Int) (2 ^ (min ((4 : Int)).toNat IntKind.u8.bits)))).toNat 0), (([48, 49, 50, 51, 52, 53, 54, 55, 56, 57, 97, 98, 99, 100, 101, 102] : List UInt8).getD ((((u8 (bitsA .and .u8 (((a1.getD (y19_2).toNat 0).toNat : Nat) : Int) (15 : Int))).toNat : Nat) : Int)).toNat 0)] : List UInt8).length) * 2 * 1 ≤ 281474976710656) (L (y19_1 ++ ([(92 : UInt8), (117 : UInt8), (48 : UInt8), (48 : UInt8), (([48, 49, 50, 51, 52, 53, 54, 55, 56, 57, 97, 98, 99, 100, 101, 102] : List UInt8).getD ((Int.fdiv (((a1.getD (y19_2).toNat 0).toNat : Nat) : Int) (2 ^ (min ((4 : Int)).toNat IntKind.u8.bits)))).toNat 0), (([48, 49, 50, 51, 52, 53, 54, 55, 56, 57, 97, 98, 99, 100, 101, 102] : List UInt8).getD ((((u8 (bitsA .and .u8 (((a1.getD (y19_2).toNat 0).toNat : Nat) : Int) (15 : Int))).toNat : Nat) : Int)).toNat 0)] : List UInt8)) (IntKind.i64.wrap (y19_2 + (1 : Int))))))) (gd ((y19_1.length + ([(a1.getD (y19_2).toNat 0)] : List UInt8).length) * 2 * 1 ≤ 281474976710656) (L (y19_1 ++ ([(a1.getD (y19_2).toNat 0)] : List UInt8)) (IntKind.i64.wrap (y19_2 + (1 : Int))))))
def f424_l19 (a1 : (List UInt8)) : Nat → (List UInt8) → Int → Option (LR2 (List UInt8) Unit (List UInt8))
  | 0, _, _ => none
  | k + 1, y19_1, y19_2 => cond (decide (y19_2 < ((a1.length : Nat) : Int))) (gd (0 ≤ y19_2 ∧ y19_2 < ((a1.length : Nat) : Int)) (cond (decide ((((a1.getD (y19_2).toNat 0).toNat : Nat) : Int) = (34 : Int))) (f424_j54 (f424_l19 a1 k) k y19_1 a1 y19_2 true) (f424_j54 (f424_l19 a1 k) k y19_1 a1 y19_2 (decide ((((a1.getD (y19_2).toNat 0).toNat : Nat) : Int) = (92 : Int)))))) (some (.b0 y19_1))
def f424 (k : Nat) (a0 : (List UInt8)) (a1 : (List UInt8)) : Option (List UInt8) := gd ((a0.length + ([(34 : UInt8)] : List UInt8).length) * 2 * 1 ≤ 281474976710656) ((f424_l19 a1 k (a0 ++ ([(34 : UInt8)] : List UInt8)) (0 : Int)).bind fun o19 => (match o19 with | .b0 x19_1 => f424_j92 k x19_1 | _ => none))
theorem F424 {P : Program} {N : Nat → Nat} (hmix : P.follows .mixedOrders = true) (hc : HC424 P N) {k : Nat} {a0 : (List UInt8)} {a1 : (List UInt8)} {r : (List UInt8)} (h : f424 k a0 a1 = some r) :
    ACalls P (N 424) [(.ap 0 1 (List.map byteD a0)), (.d (.str a1))] [(0, (.tok ((List.map byteD a0).length * 1)))] (.ap 1 1 (List.map byteD r)) [(1, (.tok ((List.map byteD r).length * 1)))] := by
  refine acalls_canon (F := C424 N) hc 1 2 rfl ?_
  unfold f424 at h
  dsimp only [C424, startL]
  refine AWc.seq (AWc.rE hmix [] ?_)
  refine AWc.seq ?_
  obtain ⟨b10, h⟩ := gd_some h
  refine AWc.rE hmix [.apA byteD a0 ([(34 : UInt8)] : List UInt8) 1 (fun _ => rfl) b10] ?_
  refine AWc.seqS (N := 49) 2 (fun (z : (List UInt8)) => [(0, (.ap 1 1 (List.map byteD z)))]) (fun z => [(1, (.tok ((List.map byteD z).length * 1)))]) (fun z => f424_j92 k z = some r) rfl_le ?_ ?_
  · refine AWc.seq (AWc.rE hmix [] ?_)
    obtain ⟨o19, h19, h⟩ := bind_some h
    refine AWc.block ?_
    refine AWc.loopK (N := 49) 2 (fun (x : ((List UInt8) × Int)) => [(0, (.ap 1 1 (List.map byteD x.1))), (1, (.d (.str a1))), (11, (.d (.int .i64 ((a1.length : Nat) : Int)))), (12, (.d (.int .i64 x.2)))]) (fun x => [(1, (.tok ((List.map byteD x.1).length * 1)))]) (fun k x => f424_l19 a1 k x.1 x.2 = some o19) k ((a0 ++ ([(34 : UInt8)] : List UInt8)), (0 : Int)) rfl_le (fun x hx => by cases hx) h19 (inT [] []) ?_
    clear h19
    intro k
    rintro ⟨y19_1, y19_2⟩ h19
    dsimp only at h19 ⊢
    rw [f424_l19] at h19
    refine AWc.seq (AWc.rE hmix [] ?_)
    refine AWc.seq ?_
    rcases cc h19 with ⟨c26, h19⟩ | ⟨c26, h19⟩
    · refine AWc.cT c26 ?_
      refine AWc.skip (AWc.seq (AWc.block (AWc.seq (AWc.rE hmix [] ?_))))
      refine AWc.seq ?_
      obtain ⟨b41, h19⟩ := gd_some h19
      refine AWc.rE hmix [.sd b41] ?_
      refine AWc.block ?_
      refine AWc.seqS (N := 49) 2 (fun (z : Bool) => [(0, (.ap 1 1 (List.map byteD y19_1))), (1, (.d (.str a1))), (6, (.d (.int .u8 (((a1.getD (y19_2).toNat 0).toNat : Nat) : Int)))), (11, (.d (.int .i64 ((a1.length : Nat) : Int)))), (12, (.d (.int .i64 y19_2))), (22, (.d (.bool z))), (26, .any), (27, .any)]) (fun z => [(1, (.tok ((List.map byteD y19_1).length * 1)))]) (fun z => f424_j54 (f424_l19 a1 k) k y19_1 a1 y19_2 z = some o19) rfl_le ?_ ?_
      · rcases cc h19 with ⟨c49, h19⟩ | ⟨c49, h19⟩
        · refine AWc.rE hmix [.br c49] ?_
          exact ⟨true, h19, (inT [] [])⟩
        · refine AWc.rE hmix [.br c49] ?_
          exact ⟨(decide ((((a1.getD (y19_2).toNat 0).toNat : Nat) : Int) = (92 : Int))), h19, (inT [] [])⟩
      · intro j54_1 h19
        unfold f424_j54 at h19
        rcases cc h19 with ⟨c54, h19⟩ | ⟨c54, h19⟩
        · refine AWc.cT c54 ?_
          obtain ⟨b60, h19⟩ := gd_some h19
          refine AWc.rE hmix [.apA byteD y19_1 ([(92 : UInt8), (a1.getD (y19_2).toNat 0)] : List UInt8) 1 (fun _ => rfl) b60] ?_
          refine AWc.rE hmix [] ?_
          exact ⟨((y19_1 ++ ([(92 : UInt8), (a1.getD (y19_2).toNat 0)] : List UInt8)), (IntKind.i64.wrap (y19_2 + (1 : Int)))), h19, (inT [(1, 2)] [])⟩
        · refine AWc.cF c54 ?_
          refine AWc.seq (AWc.rE hmix [] ?_)
          rcases cc h19 with ⟨c68, h19⟩ | ⟨c68, h19⟩
          · refine AWc.cT c68 ?_
            obtain ⟨b74, h19⟩ := gd_some h19
            obtain ⟨b77, h19⟩ := gd_some h19
            obtain ⟨b79, h19⟩ := gd_some h19
            refine AWc.rE hmix [.sd (p := 0 ≤ (4 : Int)) (by decide), .sd b74, .sd b77, .apA byteD y19_1 ([(92 : UInt8), (117 : UInt8), (48 : UInt8), (48 : UInt8), (([48, 49, 50, 51, 52, 53, 54, 55, 56, 57, 97, 98, 99, 100, 101, 102] : List UInt8).getD ((Int.fdiv (((a1.getD (y19_2).toNat 0).toNat : Nat) : Int) (2 ^ (min ((4 : Int)).toNat IntKind.u8.bits)))).toNat 0), (([48, 49, 50, 51, 52, 53, 54, 55, 56, 57, 97, 98, 99, 100, 101, 102] : List UInt8).getD ((((u8 (bitsA .and .u8 (((a1.getD (y19_2).toNat 0).toNat : Nat) : Int) (15 : Int))).toNat : Nat) : Int)).toNat 0)] : List UInt8) 1 (fun _ => rfl) b79] ?_
            refine AWc.rE hmix [] ?_
            exact ⟨((y19_1 ++ ([(92 : UInt8), (117 : UInt8), (48 : UInt8), (48 : UInt8), (([48, 49, 50, 51, 52, 53, 54, 55, 56, 57, 97, 98, 99, 100, 101, 102] : List UInt8).getD ((Int.fdiv (((a1.getD (y19_2).toNat 0).toNat : Nat) : Int) (2 ^ (min ((4 : Int)).toNat IntKind.u8.bits)))).toNat 0), (([48, 49, 50, 51, 52, 53, 54, 55, 56, 57, 97, 98, 99, 100, 101, 102] : List UInt8).getD ((((u8 (bitsA .and .u8 (((a1.getD (y19_2).toNat 0).toNat : Nat) : Int) (15 : Int))).toNat : Nat) : Int)).toNat 0)] : List UInt8)), (IntKind.i64.wrap (y19_2 + (1 : Int)))), h19, (inT [(1, 2)] [])⟩
          · refine AWc.cF c68 ?_
            obtain ⟨b86, h19⟩ := gd_some h19
            refine AWc.rE hmix [.apA byteD y19_1 ([(a1.getD (y19_2).toNat 0)] : List UInt8) 1 (fun _ => rfl) b86] ?_
            refine AWc.rE hmix [] ?_
            exact ⟨((y19_1 ++ ([(a1.getD (y19_2).toNat 0)] : List UInt8)), (IntKind.i64.wrap (y19_2 + (1 : Int)))), h19, (inT [(1, 2)] [])⟩
    · refine AWc.cF c26 ?_
      cases h19
      dsimp only at h
      refine AWc.exit ?_
      refine inBlk_eq ?_
      exact ⟨y19_1, h, (inT [] [])⟩
  · intro j92_1 h
    unfold f424_j92 at h
    refine AWc.seq ?_
    obtain ⟨b97, h⟩ := gd_some h
    refine AWc.rE hmix [.apA byteD j92_1 ([(34 : UInt8)] : List UInt8) 1 (fun _ => rfl) b97] ?_
    have hr := Option.some.inj h
    subst hr
    exact AWc.ret (canQ (N := 49) (k := 2) (l' := [(4, (.ap 1 1 (List.map byteD (j92_1 ++ ([(34 : UInt8)] : List UInt8)))))]) (H' := [(1, (.tok ((List.map byteD (j92_1 ++ ([(34 : UInt8)] : List UInt8))).length * 1)))]) rfl (inT [(1, 2)] []) (doneA (.inr rfl) rfl ⟨trivial, trivial⟩ (.refl _) (hasCons rfl hasNil)))
/-- courant/json.printed -/
def C423 (N : Nat → Nat) : AFunc := { n := 76, params := 2, res := [.tmp 4], body :=
 (.seq (.region false [⟨some 3, .box (.t 1), none, []⟩,
 ⟨some 4, .mv (.k .nils), none, []⟩])
 (.seq (.seq (.region false [⟨some 8, .faddr (.t 3) 0, none, []⟩,
 ⟨some 9, .load (.t 8) 1 false, none, [0]⟩])
    (.block 0 (.seq (.region false [⟨some 11, .bin .eql (.t 9) (.k (.d (.int .i64 1))), none, []⟩,
 ⟨some 10, .mv (.t 11), none, [0]⟩])
      (.cond (.t 10) (.seq (.region false [⟨some 12, .mv (.t 0), none, []⟩,
 ⟨some 13, .app (.t 12) (.k (.d (.str [110, 117, 108, 108]))) 1 1 [(.int .u8 0)], none, [0]⟩,
 ⟨some 4, .mv (.t 13), none, [1, 0]⟩])
        .ret)
 (.seq (.region false [⟨some 15, .bin .eql (.t 9) (.k (.d (.int .i64 2))), none, []⟩,
 ⟨some 14, .mv (.t 15), none, [0]⟩])
        (.cond (.t 14) (.seq (.region false [⟨some 16, .mv (.t 0), none, []⟩,
 ⟨some 17, .app (.t 16) (.k (.d (.str [102, 97, 108, 115, 101]))) 1 1 [(.int .u8 0)], none, [0]⟩,
 ⟨some 4, .mv (.t 17), none, [1, 0]⟩])
          .ret)
 (.seq (.region false [⟨some 19, .bin .eql (.t 9) (.k (.d (.int .i64 3))), none, []⟩,
 ⟨some 18, .mv (.t 19), none, [0]⟩])
          (.cond (.t 18) (.seq (.region false [⟨some 20, .mv (.t 0), none, []⟩,
 ⟨some 21, .app (.t 20) (.k (.d (.str [116, 114, 117, 101]))) 1 1 [(.int .u8 0)], none, [0]⟩,
 ⟨some 4, .mv (.t 21), none, [1, 0]⟩])
            .ret)
 (.seq (.region false [⟨some 23, .bin .eql (.t 9) (.k (.d (.int .i64 4))), none, []⟩,
 ⟨some 22, .mv (.t 23), none, [0]⟩])
            (.cond (.t 22) (.seq (.region false [⟨some 24, .mv (.t 0), none, []⟩,
 ⟨some 25, .faddr (.t 3) 1, none, []⟩,
 ⟨some 26, .load (.t 25) 1 false, none, [1]⟩,
 ⟨some 27, .app (.t 24) (.t 26) 1 1 [(.int .u8 0)], none, [0, 2]⟩,
 ⟨some 4, .mv (.t 27), none, [3, 0, 1, 2]⟩])
              .ret)
 (.seq (.region false [⟨some 29, .bin .eql (.t 9) (.k (.d (.int .i64 5))), none, []⟩,
 ⟨some 28, .mv (.t 29), none, [0]⟩])
              (.cond (.t 28) (.seq (.region false [⟨some 30, .mv (.t 0), none, []⟩,
 ⟨some 31, .faddr (.t 3) 1, none, []⟩,
 ⟨some 32, .load (.t 31) 1 false, none, [1]⟩,
 ⟨some 33, .call (.k (.d (.fn (N 424)))) [(.t 30), (.t 32)], none, [0, 2]⟩,
 ⟨some 4, .mv (.t 33), none, [3, 0, 1, 2]⟩])
                .ret)
               (.skip)))))))))))))
 (.seq (.region false [⟨some 5, .mv (.k (.d (.str [91, 93]))), none, []⟩])
 (.seq (.seq (.region false [⟨some 34, .faddr (.t 3) 0, none, []⟩,
 ⟨some 35, .load (.t 34) 1 false, none, [0]⟩,
 ⟨some 36, .bin .eql (.t 35) (.k (.d (.int .i64 7))), none, [1]⟩])
      (.cond (.t 36) (.region false [⟨some 5, .mv (.k (.d (.str [123, 125]))), none, []⟩])
       (.skip)))
 (.seq (.region false [⟨some 37, .mv (.t 0), none, []⟩,
 ⟨some 38, .mv (.t 5), none, []⟩,
 ⟨some 39, .idx (.t 38) (.k (.d (.int .i64 0))), none, [1]⟩,
 ⟨some 40, .bslice 1 1 [(.int .u8 0)] [(0, (.t 39))], none, [2]⟩,
 ⟨some 41, .app (.t 37) (.t 40) 1 1 [(.int .u8 0)], none, [0, 3]⟩,
 ⟨some 0, .mv (.t 41), none, [4, 0, 1, 2, 3]⟩])
 (.seq (.seq (.region false [⟨some 42, .faddr (.t 3) 2, none, []⟩,
 ⟨some 43, .load (.t 42) 1 false, none, [0]⟩,
 ⟨some 44, .len (.t 43), none, [1]⟩,
 ⟨some 45, .mv (.k (.d (.int .i64 0))), none, []⟩])
        (.block 1 (.loop (.seq (.region false [⟨some 46, .bin .lss (.t 45) (.t 44), none, []⟩])
 (.seq (.cond (.t 46) (.skip)
             (.exit 1))
 (.seq (.block 2 (.seq (.region false [⟨some 47, .mv (.t 45), none, []⟩,
 ⟨some 48, .iaddr (.t 43) (.t 45) 4, none, []⟩,
 ⟨some 49, .load (.t 48) 4 true, none, [1]⟩,
 ⟨some 7, .alloc [(.int .i64 0), (.str []), (.sl []), (.sl [])], none, []⟩,
 ⟨some 6, .mv (.t 47), none, [0, 1, 2, 3]⟩,
 ⟨none, .store (.t 7) (.t 49) 4, none, [3, 2, 4, 0, 1]⟩])
 (.seq (.seq (.region false [⟨some 50, .mv (.t 6), none, []⟩,
 ⟨some 51, .bin .gtr (.t 50) (.k (.d (.int .i64 0))), none, [0]⟩])
                 (.cond (.t 51) (.region false [⟨some 52, .mv (.t 0), none, []⟩,
 ⟨some 53, .bslice 1 1 [(.int .u8 0)] [(0, (.k (.d (.int .u8 44))))], none, []⟩,
 ⟨some 54, .app (.t 52) (.t 53) 1 1 [(.int .u8 0)], none, [0, 1]⟩,
 ⟨some 0, .mv (.t 54), none, [2, 0, 1]⟩])
                  (.skip)))
 (.seq (.seq (.region false [⟨some 55, .faddr (.t 3) 0, none, []⟩,
 ⟨some 56, .load (.t 55) 1 false, none, [0]⟩,
 ⟨some 57, .bin .eql (.t 56) (.k (.d (.int .i64 7))), none, [1]⟩])
                  (.cond (.t 57) (.region false [⟨some 58, .mv (.t 0), none, []⟩,
 ⟨some 59, .faddr (.t 3) 3, none, []⟩,
 ⟨some 60, .load (.t 59) 1 false, none, [1]⟩,
 ⟨some 61, .mv (.t 6), none, []⟩,
 ⟨some 62, .iaddr (.t 60) (.t 61) 1, none, [2, 3]⟩,
 ⟨some 63, .load (.t 62) 1 false, none, [4]⟩,
 ⟨some 64, .call (.k (.d (.fn (N 424)))) [(.t 58), (.t 63)], none, [0, 5]⟩,
 ⟨some 65, .bslice 1 1 [(.int .u8 0)] [(0, (.k (.d (.int .u8 58))))], none, []⟩,
 ⟨some 66, .app (.t 64) (.t 65) 1 1 [(.int .u8 0)], none, [6, 7]⟩,
 ⟨some 0, .mv (.t 66), none, [8, 0, 1, 2, 3, 4, 5, 6, 7]⟩])
                   (.skip)))
                 (.region false [⟨some 67, .mv (.t 0), none, []⟩,
 ⟨some 68, .load (.t 7) 4 true, none, []⟩,
 ⟨some 69, .call (.k (.d (.fn (N 423)))) [(.t 67), (.t 68)], none, [0, 1]⟩,
 ⟨some 0, .mv (.t 69), none, [2, 0, 1]⟩])))))
             (.region false [⟨some 70, .bin .add (.t 45) (.k (.d (.int .i64 1))), none, []⟩,
 ⟨some 45, .mv (.t 70), none, [0]⟩])))))))
 (.seq (.region false [⟨some 71, .mv (.t 0), none, []⟩,
 ⟨some 72, .mv (.t 5), none, []⟩,
 ⟨some 73, .idx (.t 72) (.k (.d (.int .i64 1))), none, [1]⟩,
 ⟨some 74, .bslice 1 1 [(.int .u8 0)] [(0, (.t 73))], none, [2]⟩,
 ⟨some 75, .app (.t 71) (.t 74) 1 1 [(.int .u8 0)], none, [0, 3]⟩,
 ⟨some 4, .mv (.t 75), none, [4, 0, 1, 2, 3]⟩])
        .ret))))))) }
def HC423 (P : Program) (N : Nat → Nat) : Prop := HasF P (N 423) (C423 N) ∧ HC424 P N
def f423_j182 (k : Nat) (j99_1 : (List UInt8)) (j182_1 : (List UInt8)) : Option (List UInt8) := gd (0 ≤ (1 : Int) ∧ (1 : Int) < ((j99_1.length : Nat) : Int)) (gd ((j182_1.length + ([(j99_1.getD ((1 : Int)).toNat 0)] : List UInt8).length) * 2 * 1 ≤ 281474976710656) (some (j182_1 ++ ([(j99_1.getD ((1 : Int)).toNat 0)] : List UInt8))))
def f423_j172 (L : (List UInt8) → Int → Option (LR2 (List UInt8) Unit (List UInt8))) (k : Nat) (rc423 : (List UInt8) → TJson → Option (List UInt8)) (rx132 : TJson) (y116_2 : Int) (j172_1 : (List UInt8)) : Option (LR2 (List UInt8) Unit (List UInt8)) := (rc423 j172_1 (TJson.mk rx132.fKind rx132.fText rx132.fL rx132.fKeys)).bind fun r176 => L r176 (IntKind.i64.wrap (y116_2 + (1 : Int)))
def f423_j151 (L : (List UInt8) → Int → Option (LR2 (List UInt8) Unit (List UInt8))) (k : Nat) (a1 : TJson) (y116_2 : Int) (rc423 : (List UInt8) → TJson → Option (List UInt8)) (rx132 : TJson) (j151_1 : (List UInt8)) : Option (LR2 (List UInt8) Unit (List UInt8)) := cond (decide (a1.fKind = (7 : Int))) (gd (0 ≤ y116_2 ∧ y116_2 < ((a1.fKeys.length : Nat) : Int)) ((f424 k j151_1 (rd a1.fKeys y116_2)).bind fun r167 => gd ((r167.length + ([(58 : UInt8)] : List UInt8).length) * 2 * 1 ≤ 281474976710656) (f423_j172 (L) k rc423 rx132 y116_2 (r167 ++ ([(58 : UInt8)] : List UInt8))))) (f423_j172 (L) k rc423 rx132 y116_2 j151_1)
def f423_l116 (a1 : TJson) (rc423 : (List UInt8) → TJson → Option (List UInt8)) : Nat → (List UInt8) → Int → Option (LR2 (List UInt8) Unit (List UInt8))
  | 0, _, _ => none
  | k + 1, y116_1, y116_2 => cond (decide (y116_2 < ((a1.fL.length : Nat) : Int))) (gd (0 ≤ y116_2 ∧ y116_2 < ((a1.fL.length : Nat) : Int)) ((TJson.dec (rtE (rd a1.fL y116_2))).bind fun rx132 => cond (decide (y116_2 > (0 : Int))) (gd ((y116_1.length + ([(44 : UInt8)] : List UInt8).length) * 2 * 1 ≤ 281474976710656) (f423_j151 (f423_l116 a1 rc423 k) k a1 y116_2 rc423 rx132 (y116_1 ++ ([(44 : UInt8)] : List UInt8)))) (f423_j151 (f423_l116 a1 rc423 k) k a1 y116_2 rc423 rx132 y116_1))) (some (.b0 y116_1))
def f423_j99 (k : Nat) (a0 : (List UInt8)) (a1 : TJson) (rc423 : (List UInt8) → TJson → Option (List UInt8)) (j99_1 : (List UInt8)) : Option (List UInt8) := gd (0 ≤ (0 : Int) ∧ (0 : Int) < ((j99_1.length : Nat) : Int)) (gd ((a0.length + ([(j99_1.getD ((0 : Int)).toNat 0)] : List UInt8).length) * 2 * 1 ≤ 281474976710656) ((f423_l116 a1 rc423 k (a0 ++ ([(j99_1.getD ((0 : Int)).toNat 0)] : List UInt8)) (0 : Int)).bind fun o116 => (match o116 with | .b0 x116_1 => f423_j182 k j99_1 x116_1 | _ => none)))
def f423_s (rc423 : (List UInt8) → TJson → Option (List UInt8)) (k : Nat) (a0 : (List UInt8)) (a1 : TJson) : Option (List UInt8) := cond (decide (a1.fKind = (1 : Int))) (gd ((a0.length + ([110, 117, 108, 108] : List UInt8).length) * 2 * 1 ≤ 281474976710656) (some (a0 ++ ([110, 117, 108, 108] : List UInt8)))) (cond (decide (a1.fKind = (2 : Int))) (gd ((a0.length + ([102, 97, 108, 115, 101] : List UInt8).length) * 2 * 1 ≤ 281474976710656) (some (a0 ++ ([102, 97, 108, 115, 101] : List UInt8)))) (cond (decide (a1.fKind = (3 : Int))) (gd ((a0.length + ([116, 114, 117, 101] : List UInt8).length) * 2 * 1 ≤ 281474976710656) (some (a0 ++ ([116, 114, 117, 101] : List UInt8)))) (cond (decide (a1.fKind = (4 : Int))) (gd ((a0.length + a1.fText.length) * 2 * 1 ≤ 281474976710656) (some (a0 ++ a1.fText))) (cond (decide (a1.fKind = (5 : Int))) ((f424 k a0 a1.fText).bind fun r79 => some r79) (cond (decide (a1.fKind = (7 : Int))) (f423_j99 k a0 a1 rc423 ([123, 125] : List UInt8)) (f423_j99 k a0 a1 rc423 ([91, 93] : List UInt8)))))))
theorem F423_s {P : Program} {N : Nat → Nat} (hmix : P.follows .mixedOrders = true) (hc : HC423 P N) {rc423 : (List UInt8) → TJson → Option (List UInt8)} (hrc423 : RH423 P N rc423) {k : Nat} {a0 : (List UInt8)} {a1 : TJson} {r : (List UInt8)} (h : f423_s rc423 k a0 a1 = some r) :
    ACalls P (N 423) [(.ap 0 1 (List.map byteD a0)), (.d (TJson.enc a1))] [(0, (.tok ((List.map byteD a0).length * 1)))] (.ap 1 1 (List.map byteD r)) [(1, (.tok ((List.map byteD r).length * 1)))] := by
  refine acalls_canon (F := C423 N) hc.1 1 2 rfl ?_
  unfold f423_s at h
  dsimp only [C423, startL]
  refine AWc.seq (AWc.rE hmix [] ?_)
  refine AWc.seq (AWc.seq (AWc.rE hmix [] ?_))
  refine AWc.block (AWc.seq (AWc.rE hmix [] ?_))
  rcases cc h with ⟨c18, h⟩ | ⟨c18, h⟩
  · refine AWc.cT c18 ?_
    refine AWc.seq ?_
    obtain ⟨b23, h⟩ := gd_some h
    refine AWc.rE hmix [.apA byteD a0 ([110, 117, 108, 108] : List UInt8) 1 (fun _ => rfl) b23] ?_
    have hr := Option.some.inj h
    subst hr
    exact AWc.ret (canQ (N := 76) (k := 2) (l' := [(4, (.ap 1 1 (List.map byteD (a0 ++ ([110, 117, 108, 108] : List UInt8)))))]) (H' := [(1, (.tok ((List.map byteD (a0 ++ ([110, 117, 108, 108] : List UInt8))).length * 1)))]) rfl (inT [(1, 2)] []) (doneA (.inr rfl) rfl ⟨trivial, trivial⟩ (.refl _) (hasCons rfl hasNil)))
  · refine AWc.cF c18 ?_
    refine AWc.seq (AWc.rE hmix [] ?_)
    rcases cc h with ⟨c31, h⟩ | ⟨c31, h⟩
    · refine AWc.cT c31 ?_
      refine AWc.seq ?_
      obtain ⟨b36, h⟩ := gd_some h
      refine AWc.rE hmix [.apA byteD a0 ([102, 97, 108, 115, 101] : List UInt8) 1 (fun _ => rfl) b36] ?_
      have hr := Option.some.inj h
      subst hr
      exact AWc.ret (canQ (N := 76) (k := 2) (l' := [(4, (.ap 1 1 (List.map byteD (a0 ++ ([102, 97, 108, 115, 101] : List UInt8)))))]) (H' := [(1, (.tok ((List.map byteD (a0 ++ ([102, 97, 108, 115, 101] : List UInt8))).length * 1)))]) rfl (inT [(1, 2)] []) (doneA (.inr rfl) rfl ⟨trivial, trivial⟩ (.refl _) (hasCons rfl hasNil)))
    · refine AWc.cF c31 ?_
      refine AWc.seq (AWc.rE hmix [] ?_)
      rcases cc h with ⟨c44, h⟩ | ⟨c44, h⟩
      · refine AWc.cT c44 ?_
        refine AWc.seq ?_
        obtain ⟨b49, h⟩ := gd_some h
        refine AWc.rE hmix [.apA byteD a0 ([116, 114, 117, 101] : List UInt8) 1 (fun _ => rfl) b49] ?_
        have hr := Option.some.inj h
        subst hr
        exact AWc.ret (canQ (N := 76) (k := 2) (l' := [(4, (.ap 1 1 (List.map byteD (a0 ++ ([116, 114, 117, 101] : List UInt8)))))]) (H' := [(1, (.tok ((List.map byteD (a0 ++ ([116, 114, 117, 101] : List UInt8))).length * 1)))]) rfl (inT [(1, 2)] []) (doneA (.inr rfl) rfl ⟨trivial, trivial⟩ (.refl _) (hasCons rfl hasNil)))
      · refine AWc.cF c44 ?_
        refine AWc.seq (AWc.rE hmix [] ?_)
        rcases cc h with ⟨c57, h⟩ | ⟨c57, h⟩
        · refine AWc.cT c57 ?_
          refine AWc.seq ?_
          obtain ⟨b64, h⟩ := gd_some h
          refine AWc.rE hmix [.apA byteD a0 a1.fText 1 (fun _ => rfl) b64] ?_
          have hr := Option.some.inj h
          subst hr
          exact AWc.ret (canQ (N := 76) (k := 2) (l' := [(4, (.ap 1 1 (List.map byteD (a0 ++ a1.fText))))]) (H' := [(1, (.tok ((List.map byteD (a0 ++ a1.fText)).length * 1)))]) rfl (inT [(1, 2)] []) (doneA (.inr rfl) rfl ⟨trivial, trivial⟩ (.refl _) (hasCons rfl hasNil)))
        · refine AWc.cF c57 ?_
          refine AWc.seq (AWc.rE hmix [] ?_)
          rcases cc h with ⟨c72, h⟩ | ⟨c72, h⟩
          · refine AWc.cT c72 ?_
            refine AWc.seq ?_
            obtain ⟨r79, e79, h⟩ := bind_some h
            refine AWc.rE hmix [.call (F424 hmix hc.2 e79) [(1, 2)] 2] ?_
            have hr := Option.some.inj h
            subst hr
            exact AWc.ret (canQ (N := 76) (k := 2) (l' := [(4, (.ap 1 1 (List.map byteD r79)))]) (H' := [(1, (.tok ((List.map byteD r79).length * 1)))]) rfl (inT [(1, 2)] []) (doneA (.inr rfl) rfl ⟨trivial, trivial⟩ (.refl _) (hasCons rfl hasNil)))
          · refine AWc.cF c72 ?_
            refine AWc.skip (AWc.seq (AWc.rE hmix [] ?_))
            refine AWc.seqS (N := 76) 2 (fun (z : (List UInt8)) => [(0, (.ap 0 1 (List.map byteD a0))), (3, (.ptr 1 0)), (5, (.d (.str z)))]) (fun z => [(0, (.tok ((List.map byteD a0).length * 1))), (1, (.cells [(.d (.int .i64 a1.fKind)), (.d (.str a1.fText)), (.d (.sl (List.map (rtE (z := 4)) a1.fL))), (.d (.sl (List.map D.str a1.fKeys)))]))]) (fun z => f423_j99 k a0 a1 rc423 z = some r) rfl_le ?_ ?_
            · refine AWc.seq (AWc.rE hmix [] ?_)
              rcases cc h with ⟨c94, h⟩ | ⟨c94, h⟩
              · refine AWc.cT c94 ?_
                refine AWc.rE hmix [] ?_
                exact ⟨([123, 125] : List UInt8), h, (inT [] [])⟩
              · refine AWc.cF c94 ?_
                refine AWc.skip ?_
                exact ⟨([91, 93] : List UInt8), h, (inT [] [])⟩
            · intro j99_1 h
              unfold f423_j99 at h
              refine AWc.seq ?_
              obtain ⟨b104, h⟩ := gd_some h
              obtain ⟨b106, h⟩ := gd_some h
              refine AWc.rE hmix [.sd b104, .apA byteD a0 ([(j99_1.getD ((0 : Int)).toNat 0)] : List UInt8) 1 (fun _ => rfl) b106] ?_
              refine AWc.seqS (N := 76) 2 (fun (z : (List UInt8)) => [(0, (.ap 1 1 (List.map byteD z))), (5, (.d (.str j99_1)))]) (fun z => [(1, (.tok ((List.map byteD z).length * 1)))]) (fun z => f423_j182 k j99_1 z = some r) rfl_le ?_ ?_
              · refine AWc.seq (AWc.rE hmix [.ln (rtE (z := 4)) a1.fL] ?_)
                obtain ⟨o116, h116, h⟩ := bind_some h
                refine AWc.block ?_
                refine AWc.loopK (N := 76) 3 (fun (x : ((List UInt8) × Int)) => [(0, (.ap 1 1 (List.map byteD x.1))), (3, (.ptr 2 0)), (5, (.d (.str j99_1))), (43, (.d (.sl (List.map (rtE (z := 4)) a1.fL)))), (44, (.d (.int .i64 ((a1.fL.length : Nat) : Int)))), (45, (.d (.int .i64 x.2)))]) (fun x => [(1, (.tok ((List.map byteD x.1).length * 1))), (2, (.cells [(.d (.int .i64 a1.fKind)), (.d (.str a1.fText)), (.d (.sl (List.map (rtE (z := 4)) a1.fL))), (.d (.sl (List.map D.str a1.fKeys)))]))]) (fun k x => f423_l116 a1 rc423 k x.1 x.2 = some o116) k ((a0 ++ ([(j99_1.getD ((0 : Int)).toNat 0)] : List UInt8)), (0 : Int)) rfl_le (fun x hx => by cases hx) h116 (inT [(1, 2), (2, 1)] []) ?_
                clear h116
                intro k
                rintro ⟨y116_1, y116_2⟩ h116
                dsimp only at h116 ⊢
                rw [f423_l116] at h116
                refine AWc.seq (AWc.rE hmix [] ?_)
                refine AWc.seq ?_
                rcases cc h116 with ⟨c123, h116⟩ | ⟨c123, h116⟩
                · refine AWc.cT c123 ?_
                  refine AWc.skip (AWc.seq (AWc.block (AWc.seq ?_)))
                  obtain ⟨b132, h116⟩ := gd_some h116
                  obtain ⟨rx132, ex132, h116⟩ := bind_some h116
                  refine AWc.rE hmix [.iadE (rtE (z := 4)) a1.fL 4 rtE_ok.len b132 (TJson.dec_eq ex132)] ?_
                  refine AWc.seqS (N := 76) 4 (fun (z : (List UInt8)) => [(0, (.ap 1 1 (List.map byteD z))), (3, (.ptr 2 0)), (5, (.d (.str j99_1))), (6, (.d (.int .i64 y116_2))), (7, (.ptr 3 0)), (43, (.d (.sl (List.map (rtE (z := 4)) a1.fL)))), (44, (.d (.int .i64 ((a1.fL.length : Nat) : Int)))), (45, (.d (.int .i64 y116_2)))]) (fun z => [(1, (.tok ((List.map byteD z).length * 1))), (2, (.cells [(.d (.int .i64 a1.fKind)), (.d (.str a1.fText)), (.d (.sl (List.map (rtE (z := 4)) a1.fL))), (.d (.sl (List.map D.str a1.fKeys)))])), (3, (.cells [(.d (.int .i64 rx132.fKind)), (.d (.str rx132.fText)), (.d (.sl (List.map (rtE (z := 4)) rx132.fL))), (.d (.sl (List.map D.str rx132.fKeys)))]))]) (fun z => f423_j151 (f423_l116 a1 rc423 k) k a1 y116_2 rc423 rx132 z = some o116) rfl_le ?_ ?_
                  · refine AWc.seq (AWc.rE hmix [] ?_)
                    rcases cc h116 with ⟨c143, h116⟩ | ⟨c143, h116⟩
                    · refine AWc.cT c143 ?_
                      obtain ⟨b148, h116⟩ := gd_some h116
                      refine AWc.rE hmix [.apA byteD y116_1 ([(44 : UInt8)] : List UInt8) 1 (fun _ => rfl) b148] ?_
                      exact ⟨(y116_1 ++ ([(44 : UInt8)] : List UInt8)), h116, (inT [(1, 4)] [])⟩
                    · refine AWc.cF c143 ?_
                      refine AWc.skip ?_
                      exact ⟨y116_1, h116, (inT [] [])⟩
                  · intro j151_1 h116
                    unfold f423_j151 at h116
                    refine AWc.seqS (N := 76) 4 (fun (z : (List UInt8)) => [(0, (.ap 1 1 (List.map byteD z))), (3, (.ptr 2 0)), (5, (.d (.str j99_1))), (7, (.ptr 3 0)), (43, (.d (.sl (List.map (rtE (z := 4)) a1.fL)))), (44, (.d (.int .i64 ((a1.fL.length : Nat) : Int)))), (45, (.d (.int .i64 y116_2)))]) (fun z => [(1, (.tok ((List.map byteD z).length * 1))), (2, (.cells [(.d (.int .i64 a1.fKind)), (.d (.str a1.fText)), (.d (.sl (List.map (rtE (z := 4)) a1.fL))), (.d (.sl (List.map D.str a1.fKeys)))])), (3, (.cells [(.d (.int .i64 rx132.fKind)), (.d (.str rx132.fText)), (.d (.sl (List.map (rtE (z := 4)) rx132.fL))), (.d (.sl (List.map D.str rx132.fKeys)))]))]) (fun z => f423_j172 (f423_l116 a1 rc423 k) k rc423 rx132 y116_2 z = some o116) rfl_le ?_ ?_
                    · refine AWc.seq (AWc.rE hmix [] ?_)
                      rcases cc h116 with ⟨c158, h116⟩ | ⟨c158, h116⟩
                      · refine AWc.cT c158 ?_
                        obtain ⟨b165, h116⟩ := gd_some h116
                        obtain ⟨r167, e167, h116⟩ := bind_some h116
                        obtain ⟨b169, h116⟩ := gd_some h116
                        refine AWc.rE hmix [.iad D.str a1.fKeys 1 (fun _ => rfl) b165, .call (F424 hmix hc.2 e167) [(0, 1), (1, 4)] 2, .apA byteD r167 ([(58 : UInt8)] : List UInt8) 1 (fun _ => rfl) b169] ?_
                        exact ⟨(r167 ++ ([(58 : UInt8)] : List UInt8)), h116, (inT [(1, 5)] [])⟩
                      · refine AWc.cF c158 ?_
                        refine AWc.skip ?_
                        exact ⟨j151_1, h116, (inT [] [])⟩
                    · intro j172_1 h116
                      unfold f423_j172 at h116
                      obtain ⟨r176, e176, h116⟩ := bind_some h116
                      refine AWc.rE hmix [.call (hrc423 _ _ _ e176) [(0, 1), (1, 4)] 2] ?_
                      refine AWc.rE hmix [] ?_
                      exact ⟨(r176, (IntKind.i64.wrap (y116_2 + (1 : Int)))), h116, (inT [(1, 4)] [])⟩
                · refine AWc.cF c123 ?_
                  cases h116
                  dsimp only at h
                  refine AWc.exit ?_
                  refine inBlk_eq ?_
                  exact ⟨y116_1, h, (inT [] [])⟩
              · intro j182_1 h
                unfold f423_j182 at h
                refine AWc.seq ?_
                obtain ⟨b187, h⟩ := gd_some h
                obtain ⟨b189, h⟩ := gd_some h
                refine AWc.rE hmix [.sd b187, .apA byteD j182_1 ([(j99_1.getD ((1 : Int)).toNat 0)] : List UInt8) 1 (fun _ => rfl) b189] ?_
                have hr := Option.some.inj h
                subst hr
                exact AWc.ret (canQ (N := 76) (k := 2) (l' := [(4, (.ap 1 1 (List.map byteD (j182_1 ++ ([(j99_1.getD ((1 : Int)).toNat 0)] : List UInt8)))))]) (H' := [(1, (.tok ((List.map byteD (j182_1 ++ ([(j99_1.getD ((1 : Int)).toNat 0)] : List UInt8))).length * 1)))]) rfl (inT [(1, 2)] []) (doneA (.inr rfl) rfl ⟨trivial, trivial⟩ (.refl _) (hasCons rfl hasNil)))
def f423 : Nat → (List UInt8) → TJson → Option (List UInt8)
  | 0, _, _ => none
  | k + 1, a0, a1 => f423_s (f423 k) k a0 a1
theorem F423 {P : Program} {N : Nat → Nat} (hmix : P.follows .mixedOrders = true) (hc : HC423 P N) {k : Nat} {a0 : (List UInt8)} {a1 : TJson} {r : (List UInt8)} (h : f423 k a0 a1 = some r) :
    ACalls P (N 423) [(.ap 0 1 (List.map byteD a0)), (.d (TJson.enc a1))] [(0, (.tok ((List.map byteD a0).length * 1)))] (.ap 1 1 (List.map byteD r)) [(1, (.tok ((List.map byteD r).length * 1)))] := by
  induction k generalizing a0 a1 r with
  | zero => exact absurd (show (none : Option _) = some r from h) (fun h2 => by cases h2)
  | succ k ih => exact F423_s hmix hc (fun _ _ _ h => ih h) h
/-- courant/json.Print -/
def C421 (N : Nat → Nat) : AFunc := { n := 9, params := 1, res := [.tmp 2], body :=
 (.seq (.region false [⟨some 1, .box (.t 0), none, []⟩,
 ⟨some 2, .mv (.k (.d (.str []))), none, []⟩])
 (.seq (.seq (.region false [⟨some 3, .load (.t 1) 4 true, none, []⟩,
 ⟨some 4, .call (.k (.d (.fn (N 422)))) [(.t 3)], none, [0]⟩,
 ⟨some 5, .un .not (.t 4), none, [1]⟩])
    (.cond (.t 5) (.seq (.region false [⟨some 2, .mv (.k (.d (.str []))), none, []⟩])
      .ret)
     (.skip)))
 (.seq (.region false [⟨some 6, .load (.t 1) 4 true, none, []⟩,
 ⟨some 7, .call (.k (.d (.fn (N 423)))) [(.k .nils), (.t 6)], none, [0]⟩,
 ⟨some 8, .bs2s (.t 7), none, [1]⟩,
 ⟨some 2, .mv (.t 8), none, [2, 1, 0]⟩])
    .ret))) }
def HC421 (P : Program) (N : Nat → Nat) : Prop := HasF P (N 421) (C421 N) ∧ HC422 P N ∧ HC423 P N
def f421 (k : Nat) (a0 : TJson) : Option (List UInt8) := (f422 k (TJson.mk a0.fKind a0.fText a0.fL a0.fKeys)).bind fun r11 => cond (!r11) (some ([] : List UInt8)) ((f423 k ([] : List UInt8) (TJson.mk a0.fKind a0.fText a0.fL a0.fKeys)).bind fun r24 => some r24)
theorem F421 {P : Program} {N : Nat → Nat} (hmix : P.follows .mixedOrders = true) (hc : HC421 P N) {k : Nat} {a0 : TJson} {r : (List UInt8)} (h : f421 k a0 = some r) :
    ACalls P (N 421) [(.d (TJson.enc a0))] [] (.d (.str r)) [] := by
  refine acalls_canon (F := C421 N) hc.1 0 0 rfl ?_
  unfold f421 at h
  dsimp only [C421, startL]
  refine AWc.seq (AWc.rE hmix [] ?_)
  refine AWc.seq (AWc.seq ?_)
  obtain ⟨r11, e11, h⟩ := bind_some h
  refine AWc.rE hmix [.call (F422 hmix hc.2.1 e11) [] 0] ?_
  rcases cc h with ⟨c13, h⟩ | ⟨c13, h⟩
  · refine AWc.cT c13 ?_
    refine AWc.seq (AWc.rE hmix [] ?_)
    have hr := Option.some.inj h
    subst hr
    exact AWc.ret (canQ (N := 9) (k := 0) (l' := [(2, (.d (.str ([] : List UInt8))))]) (H' := []) rfl (inT [] []) (doneA (.inr rfl) rfl ⟨trivial, trivial⟩ (.refl _) hasNil))
  · refine AWc.cF c13 ?_
    refine AWc.skip (AWc.seq ?_)
    obtain ⟨r24, e24, h⟩ := bind_some h
    refine AWc.rE hmix [.call (ACalls.nilA (F423 hmix hc.2.2 e24) 0 0 1) [] 2, .bs r24] ?_
    have hr := Option.some.inj h
    subst hr
    exact AWc.ret (canQ (N := 9) (k := 0) (l' := [(2, (.d (.str r24)))]) (H' := []) rfl (inT [] []) (doneA (.inr rfl) rfl ⟨trivial, trivial⟩ (.refl _) hasNil))
/-- courant/courantlaw02.awake -/
def C395 (N : Nat → Nat) : AFunc := { n := 20, params := 0, res := [.tmp 0], body :=
 (.seq (.region false [⟨some 0, .mv (.k (.d (.bool false))), none, []⟩])
 (.seq (.region false [⟨some 4, .call (.k (.d (.fn (N 396)))) [(.k (.d (.str [91, 49, 44, 32, 34, 97, 34, 93])))], none, []⟩,
 ⟨some 3, .mv (.t 4), none, [0]⟩,
 ⟨some 5, .ext (.t 3) 0, none, [1]⟩,
 ⟨some 6, .ext (.t 3) 1, none, [1]⟩,
 ⟨some 1, .alloc [(.int .i64 0), (.str []), (.sl []), (.sl [])], none, []⟩,
 ⟨none, .store (.t 1) (.t 5) 4, none, [4, 2, 0, 1]⟩,
 ⟨some 2, .mv (.t 6), none, [3, 5, 0, 1, 2, 4]⟩])
 (.seq (.region false [⟨some 7, .mv (.t 2), none, []⟩,
 ⟨some 8, .bin .eql (.t 7) (.k (.d (.int .i64 0))), none, [0]⟩,
 ⟨some 9, .mv (.t 8), none, [1]⟩,
 ⟨some 10, .faddr (.t 1) 2, some (9, true), [2]⟩,
 ⟨some 11, .load (.t 10) 1 false, some (9, true), [3, 2]⟩,
 ⟨some 12, .len (.t 11), some (9, true), [4, 2]⟩,
 ⟨some 13, .bin .eql (.t 12) (.k (.d (.int .i64 2))), some (9, true), [5, 2]⟩,
 ⟨some 14, .pick (.t 9) (.t 13) (.k (.d (.bool false))), none, [2, 6]⟩,
 ⟨some 15, .mv (.t 14), none, [7, 2]⟩,
 ⟨some 16, .load (.t 1) 4 true, some (15, true), [8]⟩,
 ⟨some 17, .call (.k (.d (.fn (N 421)))) [(.t 16)], some (15, true), [9, 8]⟩,
 ⟨some 18, .bin .eql (.t 17) (.k (.d (.str [91, 49, 44, 34, 97, 34, 93]))), some (15, true), [10, 8]⟩,
 ⟨some 19, .pick (.t 15) (.t 18) (.k (.d (.bool false))), none, [8, 11]⟩,
 ⟨some 0, .mv (.t 19), none, [12, 10, 0, 1, 2, 3, 4, 5, 6, 7, 8, 9, 11]⟩])
    .ret))) }
def HC395 (P : Program) (N : Nat → Nat) : Prop := HasF P (N 395) (C395 N) ∧ HC396 P N ∧ HC421 P N
def f395 (k : Nat) : Option Bool := (f396 k ([91, 49, 44, 32, 34, 97, 34, 93] : List UInt8)).bind fun r8 => cond (decide (r8.1 = (0 : Int))) (cond (decide (((r8.2.2.2.1.length : Nat) : Int) = (2 : Int))) ((f421 k (TJson.mk r8.2.1 r8.2.2.1 r8.2.2.2.1 r8.2.2.2.2)).bind fun r28 => some (decide (r28 = ([91, 49, 44, 34, 97, 34, 93] : List UInt8)))) (some false)) (some false)
theorem F395 {P : Program} {N : Nat → Nat} (hmix : P.follows .mixedOrders = true) (hc : HC395 P N) {k : Nat} {r : Bool} (h : f395 k = some r) :
    ACalls P (N 395) [] [] (.d (.bool r)) [] := by
  refine acalls_canon (F := C395 N) hc.1 0 0 rfl ?_
  unfold f395 at h
  dsimp only [C395, startL]
  refine AWc.seq (AWc.rE hmix [] ?_)
  refine AWc.seq ?_
  obtain ⟨r8, e8, h⟩ := bind_some h
  refine AWc.rE hmix [.call (F396 hmix hc.2.1 e8) [] 0] ?_
  refine AWc.seq ?_
  rcases cc h with ⟨c20, h⟩ | ⟨c20, h⟩
  · rcases cc h with ⟨c26, h⟩ | ⟨c26, h⟩
    · obtain ⟨r28, e28, h⟩ := bind_some h
      refine AWc.rE hmix [.br c20, .ln (rtE (z := 4)) r8.2.2.2.1, .br c26, .call (F421 hmix hc.2.2 e28) [] 0] ?_
      have hr := Option.some.inj h
      subst hr
      exact AWc.ret (canQ (N := 20) (k := 0) (l' := [(0, (.d (.bool (decide (r28 = ([91, 49, 44, 34, 97, 34, 93] : List UInt8))))))]) (H' := []) rfl (inT [] []) (doneA (.inr rfl) rfl ⟨trivial, trivial⟩ (.refl _) hasNil))
    · refine AWc.rE hmix [.br c20, .ln (rtE (z := 4)) r8.2.2.2.1, .br c26] ?_
      have hr := Option.some.inj h
      subst hr
      exact AWc.ret (canQ (N := 20) (k := 0) (l' := [(0, (.d (.bool false)))]) (H' := []) rfl (inT [] []) (doneA (.inr rfl) rfl ⟨trivial, trivial⟩ (.refl _) hasNil))
  · refine AWc.rE hmix [.br c20, .br (rfl : false = false)] ?_
    have hr := Option.some.inj h
    subst hr
    exact AWc.ret (canQ (N := 20) (k := 0) (l' := [(0, (.d (.bool false)))]) (H' := []) rfl (inT [] []) (doneA (.inr rfl) rfl ⟨trivial, trivial⟩ (.refl _) hasNil))
def RH348 (P : Program) (N : Nat → Nat) (rc348 : TJson → Int → Option Bool) : Prop := ∀ (a0 : TJson) (a1 : Int) (r : Bool), rc348 a0 a1 = some r → ACalls P (N 348) [(.d (TJson.enc a0)), (.d (.int .i64 a1))] [] (.d (.bool r)) []
/-- (*courant/courantref02.reader).is -/
def C299 (N : Nat → Nat) : AFunc := { n := 48, params := 2, res := [.tmp 4], body :=
 (.seq (.region false [⟨some 4, .mv (.k (.d (.bool false))), none, []⟩])
 (.seq (.seq (.region true [⟨some 5, .mv (.t 0), none, []⟩,
 ⟨some 6, .nilchk (.t 5), none, [0]⟩,
 ⟨some 7, .faddr (.t 6) 0, none, [1]⟩,
 ⟨some 8, .load (.t 7) 1 false, none, [2]⟩,
 ⟨some 9, .slen (.t 8), none, [3]⟩,
 ⟨some 10, .mv (.t 0), none, []⟩,
 ⟨some 11, .nilchk (.t 10), none, [5]⟩,
 ⟨some 12, .faddr (.t 11) 1, none, [6]⟩,
 ⟨some 13, .load (.t 12) 1 false, none, [7]⟩,
 ⟨some 14, .bin .sub (.t 9) (.t 13), none, [4, 8]⟩,
 ⟨some 15, .mv (.t 1), none, []⟩,
 ⟨some 16, .slen (.t 15), none, [10]⟩,
 ⟨some 17, .bin .geq (.t 14) (.t 16), none, [9, 11]⟩,
 ⟨some 18, .mv (.t 17), none, [12]⟩,
 ⟨some 19, .mv (.t 0), some (18, true), [13]⟩,
 ⟨some 20, .nilchk (.t 19), some (18, true), [14, 13]⟩,
 ⟨some 21, .faddr (.t 20) 0, some (18, true), [15, 13]⟩,
 ⟨some 22, .load (.t 21) 1 false, some (18, true), [16, 13]⟩,
 ⟨some 23, .mv (.t 0), some (18, true), [13]⟩,
 ⟨some 24, .nilchk (.t 23), some (18, true), [18, 13]⟩,
 ⟨some 25, .faddr (.t 24) 1, some (18, true), [19, 13]⟩,
 ⟨some 26, .load (.t 25) 1 false, some (18, true), [20, 13]⟩,
 ⟨some 27, .mv (.t 0), some (18, true), [13]⟩,
 ⟨some 28, .nilchk (.t 27), some (18, true), [22, 13]⟩,
 ⟨some 29, .faddr (.t 28) 1, some (18, true), [23, 13]⟩,
 ⟨some 30, .load (.t 29) 1 false, some (18, true), [24, 13]⟩,
 ⟨some 31, .mv (.t 1), some (18, true), [13]⟩,
 ⟨some 32, .slen (.t 31), some (18, true), [26, 13]⟩,
 ⟨some 33, .bin .add (.t 30) (.t 32), some (18, true), [25, 27, 13]⟩,
 ⟨some 34, .ssl (.t 22) (some (.t 26)) (some (.t 33)), some (18, true), [17, 21, 28, 13]⟩,
 ⟨some 35, .mv (.t 1), some (18, true), [13]⟩,
 ⟨some 36, .bin .eql (.t 34) (.t 35), some (18, true), [29, 30, 13]⟩,
 ⟨some 37, .pick (.t 18) (.t 36) (.k (.d (.bool false))), none, [13, 31]⟩])
    (.cond (.t 37) (.seq (.region false [⟨some 38, .mv (.t 0), none, []⟩,
 ⟨some 39, .mv (.t 0), none, []⟩,
 ⟨some 40, .nilchk (.t 39), none, [1]⟩,
 ⟨some 41, .faddr (.t 40) 1, none, [2]⟩,
 ⟨some 42, .load (.t 41) 1 false, none, [3]⟩,
 ⟨some 43, .mv (.t 1), none, []⟩,
 ⟨some 44, .slen (.t 43), none, [5]⟩,
 ⟨some 45, .bin .add (.t 42) (.t 44), none, [4, 6]⟩,
 ⟨some 46, .nilchk (.t 38), none, [0, 1, 2, 3, 4, 5, 6, 7]⟩,
 ⟨some 47, .faddr (.t 46) 1, none, [8, 0, 1, 2, 3, 4, 5, 6, 7]⟩,
 ⟨none, .store (.t 47) (.t 45) 1, none, [9, 7, 0, 1, 2, 3, 4, 5, 6]⟩])
 (.seq (.region false [⟨some 4, .mv (.k (.d (.bool true))), none, []⟩])
       .ret))
     (.skip)))
 (.seq (.region false [⟨some 4, .mv (.k (.d (.bool false))), none, []⟩])
    .ret))) }
def HC299 (P : Program) (N : Nat → Nat) : Prop := HasF P (N 299) (C299 N)
def f299_j42 (k : Nat) (a1 : Int) (a3 : (List UInt8)) (j42_1 : Bool) : Option (Bool × Int) := cond j42_1 (some (true, (IntKind.i64.wrap (a1 + ((a3.length : Nat) : Int))))) (some (false, a1))
def f299 (k : Nat) (a0 : (List UInt8)) (a1 : Int) (a2 : Int) (a3 : (List UInt8)) : Option (Bool × Int) := cond (decide ((IntKind.i64.wrap (((a0.length : Nat) : Int) - a1)) ≥ ((a3.length : Nat) : Int))) (gd (0 ≤ a1 ∧ a1 ≤ (IntKind.i64.wrap (a1 + ((a3.length : Nat) : Int))) ∧ (IntKind.i64.wrap (a1 + ((a3.length : Nat) : Int))) ≤ ((a0.length : Nat) : Int)) (f299_j42 k a1 a3 (decide ((sl a0 a1 (IntKind.i64.wrap (a1 + ((a3.length : Nat) : Int)))) = a3)))) (f299_j42 k a1 a3 false)
theorem F299 {P : Program} {N : Nat → Nat} (hmix : P.follows .mixedOrders = true) (hc : HC299 P N) {k : Nat} {a0 : (List UInt8)} {a1 : Int} {a2 : Int} {a3 : (List UInt8)} {r : (Bool × Int)} (h : f299 k a0 a1 a2 a3 = some r) :
    ACalls P (N 299) [(.ptr 0 0), (.d (.str a3))] [(0, (.cells [(.d (.str a0)), (.d (.int .i64 a1)), (.d (.int .i64 a2))]))] (.d (.bool r.1)) [(0, (.cells [(.d (.str a0)), (.d (.int .i64 r.2)), (.d (.int .i64 a2))]))] := by
  refine acalls_canon (F := C299 N) hc 1 1 rfl ?_
  unfold f299 at h
  dsimp only [C299, startL]
  refine AWc.seq (AWc.rE hmix [] ?_)
  refine AWc.seq ?_
  refine AWc.seqS (N := 48) 1 (fun (z : Bool) => [(0, (.ptr 0 0)), (1, (.d (.str a3))), (37, (.d (.bool z)))]) (fun z => [(0, (.cells [(.d (.str a0)), (.d (.int .i64 a1)), (.d (.int .i64 a2))]))]) (fun z => f299_j42 k a1 a3 z = some r) rfl_le ?_ ?_
  · rcases cc h with ⟨c22, h⟩ | ⟨c22, h⟩
    · obtain ⟨b38, h⟩ := gd_some h
      refine AWc.rE hmix [.br c22, .sd b38] ?_
      exact ⟨(decide ((sl a0 a1 (IntKind.i64.wrap (a1 + ((a3.length : Nat) : Int)))) = a3)), h, (inT [] [])⟩
    · refine AWc.rE hmix [.br c22] ?_
      exact ⟨false, h, (inT [] [])⟩
  · intro j42_1 h
    unfold f299_j42 at h
    rcases cc h with ⟨c42, h⟩ | ⟨c42, h⟩
    · refine AWc.cT c42 ?_
      refine AWc.seq (AWc.rE hmix [] ?_)
      refine AWc.seq (AWc.rE hmix [] ?_)
      have hr := Option.some.inj h
      subst hr
      exact AWc.ret (canQ (N := 48) (k := 1) (l' := [(4, (.d (.bool true)))]) (H' := [(0, (.cells [(.d (.str a0)), (.d (.int .i64 (IntKind.i64.wrap (a1 + ((a3.length : Nat) : Int))))), (.d (.int .i64 a2))]))]) rfl (inT [] []) (doneA (.inr rfl) rfl ⟨trivial, trivial⟩ (.refl _) (hasCons rfl hasNil)))
    · refine AWc.cF c42 ?_
      refine AWc.skip (AWc.seq (AWc.rE hmix [] ?_))
      have hr := Option.some.inj h
      subst hr
      exact AWc.ret (canQ (N := 48) (k := 1) (l' := [(4, (.d (.bool false)))]) (H' := [(0, (.cells [(.d (.str a0)), (.d (.int .i64 a1)), (.d (.int .i64 a2))]))]) rfl (inT [] []) (doneA (.inr rfl) rfl ⟨trivial, trivial⟩ (.refl _) (hasCons rfl hasNil)))
/-- (*courant/courantref02.reader).fail -/
def C298 (N : Nat → Nat) : AFunc := { n := 13, params := 2, res := [], body :=
 (.seq (.region false [⟨some 4, .mv (.t 0), none, []⟩,
 ⟨some 5, .nilchk (.t 4), none, [0]⟩,
 ⟨some 6, .faddr (.t 5) 2, none, [1]⟩,
 ⟨some 7, .load (.t 6) 1 false, none, [2]⟩,
 ⟨some 8, .bin .eql (.t 7) (.k (.d (.int .i64 0))), none, [3]⟩])
  (.cond (.t 8) (.region false [⟨some 9, .mv (.t 0), none, []⟩,
 ⟨some 10, .mv (.t 1), none, []⟩,
 ⟨some 11, .nilchk (.t 9), none, [0, 1]⟩,
 ⟨some 12, .faddr (.t 11) 2, none, [2, 0, 1]⟩,
 ⟨none, .store (.t 12) (.t 10) 1, none, [3, 1, 0]⟩])
   (.skip))) }
def HC298 (P : Program) (N : Nat → Nat) : Prop := HasF P (N 298) (C298 N)
def f298 (k : Nat) (a0 : (List UInt8)) (a1 : Int) (a2 : Int) (a3 : Int) : Option Int := cond (decide (a2 = (0 : Int))) (some a3) (some a2)
theorem F298 {P : Program} {N : Nat → Nat} (hmix : P.follows .mixedOrders = true) (hc : HC298 P N) {k : Nat} {a0 : (List UInt8)} {a1 : Int} {a2 : Int} {a3 : Int} {r : Int} (h : f298 k a0 a1 a2 a3 = some r) :
    ACalls P (N 298) [(.ptr 0 0), (.d (.int .i64 a3))] [(0, (.cells [(.d (.str a0)), (.d (.int .i64 a1)), (.d (.int .i64 a2))]))] (.tup []) [(0, (.cells [(.d (.str a0)), (.d (.int .i64 a1)), (.d (.int .i64 r))]))] := by
  refine acalls_canon (F := C298 N) hc 1 1 rfl ?_
  unfold f298 at h
  dsimp only [C298, startL]
  refine AWc.seq (AWc.rE hmix [] ?_)
  rcases cc h with ⟨c9, h⟩ | ⟨c9, h⟩
  · refine AWc.cT c9 ?_
    refine AWc.rE hmix [] ?_
    have hr := Option.some.inj h
    subst hr
    exact canQ (N := 13) (k := 1) (l' := []) (H' := [(0, (.cells [(.d (.str a0)), (.d (.int .i64 a1)), (.d (.int .i64 a3))]))]) rfl (inT [] []) (doneA (.inl rfl) rfl trivial (.refl _) (hasCons rfl hasNil))
  · refine AWc.cF c9 ?_
    refine AWc.skip ?_
    have hr := Option.some.inj h
    subst hr
    exact canQ (N := 13) (k := 1) (l' := []) (H' := [(0, (.cells [(.d (.str a0)), (.d (.int .i64 a1)), (.d (.int .i64 a2))]))]) rfl (inT [] []) (doneA (.inl rfl) rfl trivial (.refl _) (hasCons rfl hasNil))
/-- (*courant/courantref02.reader).number -/
def C350 (N : Nat → Nat) : AFunc := { n := 105, params := 1, res := [.tmp 2], body :=
 (.seq (.region false [⟨some 2, .mv (.k (.d (.str []))), none, []⟩])
 (.seq (.region false [⟨some 6, .mv (.t 0), none, []⟩,
 ⟨some 7, .nilchk (.t 6), none, [0]⟩,
 ⟨some 8, .faddr (.t 7) 1, none, [1]⟩,
 ⟨some 9, .load (.t 8) 1 false, none, [2]⟩,
 ⟨some 3, .mv (.t 9), none, [3, 0, 1, 2]⟩])
 (.seq (.region false [⟨some 10, .mv (.t 0), none, []⟩,
 ⟨some 11, .call (.k (.d (.fn (N 299)))) [(.t 10), (.k (.d (.str [45])))], none, [0]⟩])
 (.seq (.region false [⟨some 12, .mv (.t 0), none, []⟩,
 ⟨some 13, .nilchk (.t 12), none, [0]⟩,
 ⟨some 14, .faddr (.t 13) 1, none, [1]⟩,
 ⟨some 15, .load (.t 14) 1 false, none, [2]⟩,
 ⟨some 4, .mv (.t 15), none, [3, 0, 1, 2]⟩])
 (.seq (.block 0 (.loop (.seq (.seq (.region true [⟨some 16, .mv (.t 0), none, []⟩,
 ⟨some 17, .nilchk (.t 16), none, [0]⟩,
 ⟨some 18, .faddr (.t 17) 1, none, [1]⟩,
 ⟨some 19, .load (.t 18) 1 false, none, [2]⟩,
 ⟨some 20, .mv (.t 0), none, []⟩,
 ⟨some 21, .nilchk (.t 20), none, [4]⟩,
 ⟨some 22, .faddr (.t 21) 0, none, [5]⟩,
 ⟨some 23, .load (.t 22) 1 false, none, [6]⟩,
 ⟨some 24, .slen (.t 23), none, [7]⟩,
 ⟨some 25, .bin .lss (.t 19) (.t 24), none, [3, 8]⟩,
 ⟨some 26, .mv (.t 25), none, [9]⟩,
 ⟨some 27, .mv (.t 0), some (26, true), [10]⟩,
 ⟨some 28, .nilchk (.t 27), some (26, true), [11, 10]⟩,
 ⟨some 29, .faddr (.t 28) 0, some (26, true), [12, 10]⟩,
 ⟨some 30, .load (.t 29) 1 false, some (26, true), [13, 10]⟩,
 ⟨some 31, .mv (.t 0), some (26, true), [10]⟩,
 ⟨some 32, .nilchk (.t 31), some (26, true), [15, 10]⟩,
 ⟨some 33, .faddr (.t 32) 1, some (26, true), [16, 10]⟩,
 ⟨some 34, .load (.t 33) 1 false, some (26, true), [17, 10]⟩,
 ⟨some 35, .idx (.t 30) (.t 34), some (26, true), [14, 18, 10]⟩,
 ⟨some 36, .bin .geq (.t 35) (.k (.d (.int .u8 48))), some (26, true), [19, 10]⟩,
 ⟨some 37, .pick (.t 26) (.t 36) (.k (.d (.bool false))), none, [10, 20]⟩,
 ⟨some 38, .mv (.t 37), none, [21, 10]⟩,
 ⟨some 39, .mv (.t 0), some (38, true), [22]⟩,
 ⟨some 40, .nilchk (.t 39), some (38, true), [23, 22]⟩,
 ⟨some 41, .faddr (.t 40) 0, some (38, true), [24, 22]⟩,
 ⟨some 42, .load (.t 41) 1 false, some (38, true), [25, 22]⟩,
 ⟨some 43, .mv (.t 0), some (38, true), [22]⟩,
 ⟨some 44, .nilchk (.t 43), some (38, true), [27, 22]⟩,
 ⟨some 45, .faddr (.t 44) 1, some (38, true), [28, 22]⟩,
 ⟨some 46, .load (.t 45) 1 false, some (38, true), [29, 22]⟩,
 ⟨some 47, .idx (.t 42) (.t 46), some (38, true), [26, 30, 22]⟩,
 ⟨some 48, .bin .leq (.t 47) (.k (.d (.int .u8 57))), some (38, true), [31, 22]⟩,
 ⟨some 49, .pick (.t 38) (.t 48) (.k (.d (.bool false))), none, [22, 32]⟩])
          (.cond (.t 49) (.skip)
           (.exit 0)))
         (.block 1 (.region false [⟨some 50, .mv (.t 0), none, []⟩,
 ⟨some 51, .nilchk (.t 50), none, [0]⟩,
 ⟨some 52, .faddr (.t 51) 1, none, [1]⟩,
 ⟨some 53, .load (.t 52) 1 false, none, [2]⟩,
 ⟨some 54, .bin .add (.t 53) (.k (.d (.int .i64 1))), none, [3]⟩,
 ⟨some 55, .nilchk (.t 50), none, [0, 1, 2, 3, 4]⟩,
 ⟨some 56, .faddr (.t 55) 1, none, [5, 0, 1, 2, 3, 4]⟩,
 ⟨none, .store (.t 56) (.t 54) 1, none, [6, 4, 0, 1, 2, 3]⟩])))))
 (.seq (.region false [⟨some 57, .mv (.t 0), none, []⟩,
 ⟨some 58, .nilchk (.t 57), none, [0]⟩,
 ⟨some 59, .faddr (.t 58) 1, none, [1]⟩,
 ⟨some 60, .load (.t 59) 1 false, none, [2]⟩,
 ⟨some 61, .mv (.t 4), none, []⟩,
 ⟨some 62, .bin .sub (.t 60) (.t 61), none, [3, 4]⟩,
 ⟨some 5, .mv (.t 62), none, [5, 0, 1, 2, 3, 4]⟩])
 (.seq (.seq (.region false [⟨some 63, .mv (.t 5), none, []⟩,
 ⟨some 64, .bin .lss (.t 63) (.k (.d (.int .i64 1))), none, [0]⟩,
 ⟨some 65, .mv (.t 64), none, [1]⟩,
 ⟨some 66, .mv (.t 5), some (65, false), [2]⟩,
 ⟨some 67, .bin .gtr (.t 66) (.k (.d (.int .i64 19))), some (65, false), [3, 2]⟩,
 ⟨some 68, .pick (.t 65) (.k (.d (.bool true))) (.t 67), none, [2, 4]⟩,
 ⟨some 69, .mv (.t 68), none, [5, 2]⟩,
 ⟨some 70, .mv (.t 5), some (69, false), [6]⟩,
 ⟨some 71, .bin .gtr (.t 70) (.k (.d (.int .i64 1))), some (69, false), [7, 6]⟩,
 ⟨some 72, .mv (.t 71), some (69, false), [8, 6]⟩,
 ⟨some 73, .mv (.t 0), some (72, true), [9]⟩,
 ⟨some 74, .nilchk (.t 73), some (72, true), [10, 9]⟩,
 ⟨some 75, .faddr (.t 74) 0, some (72, true), [11, 9]⟩,
 ⟨some 76, .load (.t 75) 1 false, some (72, true), [12, 9]⟩,
 ⟨some 77, .mv (.t 4), some (72, true), [9]⟩,
 ⟨some 78, .idx (.t 76) (.t 77), some (72, true), [13, 14, 9]⟩,
 ⟨some 79, .bin .eql (.t 78) (.k (.d (.int .u8 48))), some (72, true), [15, 9]⟩,
 ⟨some 80, .pick (.t 72) (.t 79) (.k (.d (.bool false))), some (69, false), [9, 16, 6]⟩,
 ⟨some 81, .pick (.t 69) (.k (.d (.bool true))) (.t 80), none, [6, 17]⟩])
         (.cond (.t 81) (.seq (.region false [⟨some 82, .mv (.t 0), none, []⟩,
 ⟨some 83, .call (.k (.d (.fn (N 298)))) [(.t 82), (.k (.d (.int .i64 4)))], none, [0]⟩])
 (.seq (.region false [⟨some 2, .mv (.k (.d (.str []))), none, []⟩])
            .ret))
          (.skip)))
 (.seq (.seq (.region true [⟨some 84, .mv (.t 0), none, []⟩,
 ⟨some 85, .nilchk (.t 84), none, [0]⟩,
 ⟨some 86, .faddr (.t 85) 0, none, [1]⟩,
 ⟨some 87, .load (.t 86) 1 false, none, [2]⟩,
 ⟨some 88, .mv (.t 3), none, []⟩,
 ⟨some 89, .mv (.t 0), none, []⟩,
 ⟨some 90, .nilchk (.t 89), none, [5]⟩,
 ⟨some 91, .faddr (.t 90) 1, none, [6]⟩,
 ⟨some 92, .load (.t 91) 1 false, none, [7]⟩,
 ⟨some 93, .ssl (.t 87) (some (.t 88)) (some (.t 92)), none, [3, 4, 8]⟩,
 ⟨some 94, .bin .eql (.t 93) (.k (.d (.str [45, 48]))), none, [9]⟩])
          (.cond (.t 94) (.seq (.region false [⟨some 2, .mv (.k (.d (.str [48]))), none, []⟩])
            .ret)
           (.skip)))
 (.seq (.region true [⟨some 95, .mv (.t 0), none, []⟩,
 ⟨some 96, .nilchk (.t 95), none, [0]⟩,
 ⟨some 97, .faddr (.t 96) 0, none, [1]⟩,
 ⟨some 98, .load (.t 97) 1 false, none, [2]⟩,
 ⟨some 99, .mv (.t 3), none, []⟩,
 ⟨some 100, .mv (.t 0), none, []⟩,
 ⟨some 101, .nilchk (.t 100), none, [5]⟩,
 ⟨some 102, .faddr (.t 101) 1, none, [6]⟩,
 ⟨some 103, .load (.t 102) 1 false, none, [7]⟩,
 ⟨some 104, .ssl (.t 98) (some (.t 99)) (some (.t 103)), none, [3, 4, 8]⟩,
 ⟨some 2, .mv (.t 104), none, [9, 0, 1, 2, 3, 4, 5, 6, 7, 8]⟩])
          .ret))))))))) }
def HC350 (P : Program) (N : Nat → Nat) : Prop := HasF P (N 350) (C350 N) ∧ HC299 P N ∧ HC298 P N
def f350_l27 (a0 : (List UInt8)) : Nat → Int → Option (LR2 Int Unit ((List UInt8) × Int × Int))
  | 0, _ => none
  | k + 1, y27_1 => cond (decide (y27_1 < ((a0.length : Nat) : Int))) (gd (0 ≤ y27_1 ∧ y27_1 < ((a0.length : Nat) : Int)) (cond (decide ((((a0.getD (y27_1).toNat 0).toNat : Nat) : Int) ≥ (48 : Int))) (gd (0 ≤ y27_1 ∧ y27_1 < ((a0.length : Nat) : Int)) (cond (decide ((((a0.getD (y27_1).toNat 0).toNat : Nat) : Int) ≤ (57 : Int))) (f350_l27 a0 k (IntKind.i64.wrap (y27_1 + (1 : Int)))) (some (.b0 y27_1)))) (some (.b0 y27_1)))) (some (.b0 y27_1))
def f350_j114 (k : Nat) (a0 : (List UInt8)) (x27_1 : Int) (a2 : Int) (a1 : Int) (j114_1 : Bool) : Option ((List UInt8) × Int × Int) := cond j114_1 ((f298 k a0 x27_1 a2 (4 : Int)).bind fun r119 => some (([] : List UInt8), x27_1, r119)) (gd (0 ≤ a1 ∧ a1 ≤ x27_1 ∧ x27_1 ≤ ((a0.length : Nat) : Int)) (cond (decide ((sl a0 a1 x27_1) = ([45, 48] : List UInt8))) (some (([48] : List UInt8), x27_1, a2)) (gd (0 ≤ a1 ∧ a1 ≤ x27_1 ∧ x27_1 ≤ ((a0.length : Nat) : Int)) (some ((sl a0 a1 x27_1), x27_1, a2)))))
def f350 (k : Nat) (a0 : (List UInt8)) (a1 : Int) (a2 : Int) : Option ((List UInt8) × Int × Int) := (f299 k a0 a1 a2 ([45] : List UInt8)).bind fun r17 => (f350_l27 a0 k r17.2).bind fun o27 => (match o27 with | .b0 x27_1 => cond (decide ((IntKind.i64.wrap (x27_1 - r17.2)) < (1 : Int))) (f350_j114 k a0 x27_1 a2 a1 true) (cond (decide ((IntKind.i64.wrap (x27_1 - r17.2)) > (19 : Int))) (f350_j114 k a0 x27_1 a2 a1 true) (cond (decide ((IntKind.i64.wrap (x27_1 - r17.2)) > (1 : Int))) (gd (0 ≤ r17.2 ∧ r17.2 < ((a0.length : Nat) : Int)) (f350_j114 k a0 x27_1 a2 a1 (decide ((((a0.getD (r17.2).toNat 0).toNat : Nat) : Int) = (48 : Int))))) (f350_j114 k a0 x27_1 a2 a1 false))) | _ => none)
theorem F350 {P : Program} {N : Nat → Nat} (hmix : P.follows .mixedOrders = true) (hc : HC350 P N) {k : Nat} {a0 : (List UInt8)} {a1 : Int} {a2 : Int} {r : ((List UInt8) × Int × Int)} (h : f350 k a0 a1 a2 = some r) :
    ACalls P (N 350) [(.ptr 0 0)] [(0, (.cells [(.d (.str a0)), (.d (.int .i64 a1)), (.d (.int .i64 a2))]))] (.d (.str r.1)) [(0, (.cells [(.d (.str a0)), (.d (.int .i64 r.2.1)), (.d (.int .i64 r.2.2))]))] := by
  refine acalls_canon (F := C350 N) hc.1 1 1 rfl ?_
  unfold f350 at h
  dsimp only [C350, startL]
  refine AWc.seq (AWc.rE hmix [] ?_)
  refine AWc.seq (AWc.rE hmix [] ?_)
  refine AWc.seq ?_
  obtain ⟨r17, e17, h⟩ := bind_some h
  refine AWc.rE hmix [.call (F299 hmix hc.2.1 e17) [] 1] ?_
  refine AWc.seq (AWc.rE hmix [] ?_)
  obtain ⟨o27, h27, h⟩ := bind_some h
  refine AWc.seqS (N := 105) 1 (fun (z : Int) => [(0, (.ptr 0 0)), (3, (.d (.int .i64 a1))), (4, (.d (.int .i64 r17.2)))]) (fun z => [(0, (.cells [(.d (.str a0)), (.d (.int .i64 z)), (.d (.int .i64 a2))]))]) (fun z => o27 = .b0 z) rfl_le ?_ ?_
  · refine AWc.block ?_
    refine AWc.loopK (N := 105) 1 (fun (x : Int) => [(0, (.ptr 0 0)), (3, (.d (.int .i64 a1))), (4, (.d (.int .i64 r17.2)))]) (fun x => [(0, (.cells [(.d (.str a0)), (.d (.int .i64 x)), (.d (.int .i64 a2))]))]) (fun k x => f350_l27 a0 k x = some o27) k r17.2 rfl_le (fun x hx => by cases hx) h27 (inT [] []) ?_
    clear h27
    intro k
    intro y27_1 h27
    rw [f350_l27] at h27
    refine AWc.seq (AWc.seq ?_)
    rcases cc h27 with ⟨c43, h27⟩ | ⟨c43, h27⟩
    · obtain ⟨b52, h27⟩ := gd_some h27
      rcases cc h27 with ⟨c55, h27⟩ | ⟨c55, h27⟩
      · obtain ⟨b64, h27⟩ := gd_some h27
        refine AWc.rE hmix [.br c43, .sd b52, .br c55, .sd b64] ?_
        rcases cc h27 with ⟨c67, h27⟩ | ⟨c67, h27⟩
        · refine AWc.cT c67 ?_
          refine AWc.skip (AWc.block (AWc.rE hmix [] ?_))
          exact ⟨(IntKind.i64.wrap (y27_1 + (1 : Int))), h27, (inT [] [])⟩
        · refine AWc.cF c67 ?_
          cases h27
          dsimp only at h
          refine AWc.exit ?_
          refine inBlk_eq ?_
          exact ⟨y27_1, rfl, (inT [] [])⟩
      · refine AWc.rE hmix [.br c43, .sd b52, .br c55] ?_
        refine AWc.cF rfl ?_
        cases h27
        dsimp only at h
        refine AWc.exit ?_
        refine inBlk_eq ?_
        exact ⟨y27_1, rfl, (inT [] [])⟩
    · refine AWc.rE hmix [.br c43, .br (rfl : false = false)] ?_
      refine AWc.cF rfl ?_
      cases h27
      dsimp only at h
      refine AWc.exit ?_
      refine inBlk_eq ?_
      exact ⟨y27_1, rfl, (inT [] [])⟩
  · intro x27_1 ho
    subst ho
    dsimp only at h
    refine AWc.seq (AWc.rE hmix [] ?_)
    refine AWc.seq ?_
    refine AWc.seqS (N := 105) 1 (fun (z : Bool) => [(0, (.ptr 0 0)), (3, (.d (.int .i64 a1))), (81, (.d (.bool z)))]) (fun z => [(0, (.cells [(.d (.str a0)), (.d (.int .i64 x27_1)), (.d (.int .i64 a2))]))]) (fun z => f350_j114 k a0 x27_1 a2 a1 z = some r) rfl_le ?_ ?_
    · rcases cc h with ⟨c97, h⟩ | ⟨c97, h⟩
      · refine AWc.rE hmix [.br c97, .br (rfl : true = true)] ?_
        exact ⟨true, h, (inT [] [])⟩
      · rcases cc h with ⟨c101, h⟩ | ⟨c101, h⟩
        · refine AWc.rE hmix [.br c97, .br c101] ?_
          exact ⟨true, h, (inT [] [])⟩
        · rcases cc h with ⟨c104, h⟩ | ⟨c104, h⟩
          · obtain ⟨b110, h⟩ := gd_some h
            refine AWc.rE hmix [.br c97, .br c101, .br c104, .sd b110] ?_
            exact ⟨(decide ((((a0.getD (r17.2).toNat 0).toNat : Nat) : Int) = (48 : Int))), h, (inT [] [])⟩
          · refine AWc.rE hmix [.br c97, .br c101, .br c104] ?_
            exact ⟨false, h, (inT [] [])⟩
    · intro j114_1 h
      unfold f350_j114 at h
      rcases cc h with ⟨c114, h⟩ | ⟨c114, h⟩
      · refine AWc.cT c114 ?_
        refine AWc.seq ?_
        obtain ⟨r119, e119, h⟩ := bind_some h
        refine AWc.rE hmix [.call (F298 hmix hc.2.2 e119) [] 1] ?_
        refine AWc.seq (AWc.rE hmix [] ?_)
        have hr := Option.some.inj h
        subst hr
        exact AWc.ret (canQ (N := 105) (k := 1) (l' := [(2, (.d (.str ([] : List UInt8))))]) (H' := [(0, (.cells [(.d (.str a0)), (.d (.int .i64 x27_1)), (.d (.int .i64 r119))]))]) rfl (inT [] []) (doneA (.inr rfl) rfl ⟨trivial, trivial⟩ (.refl _) (hasCons rfl hasNil)))
      · refine AWc.cF c114 ?_
        refine AWc.skip (AWc.seq (AWc.seq ?_))
        obtain ⟨b139, h⟩ := gd_some h
        refine AWc.rE hmix [.sd b139] ?_
        rcases cc h with ⟨c141, h⟩ | ⟨c141, h⟩
        · refine AWc.cT c141 ?_
          refine AWc.seq (AWc.rE hmix [] ?_)
          have hr := Option.some.inj h
          subst hr
          exact AWc.ret (canQ (N := 105) (k := 1) (l' := [(2, (.d (.str ([48] : List UInt8))))]) (H' := [(0, (.cells [(.d (.str a0)), (.d (.int .i64 x27_1)), (.d (.int .i64 a2))]))]) rfl (inT [] []) (doneA (.inr rfl) rfl ⟨trivial, trivial⟩ (.refl _) (hasCons rfl hasNil)))
        · refine AWc.cF c141 ?_
          refine AWc.skip (AWc.seq ?_)
          obtain ⟨b160, h⟩ := gd_some h
          refine AWc.rE hmix [.sd b160] ?_
          have hr := Option.some.inj h
          subst hr
          exact AWc.ret (canQ (N := 105) (k := 1) (l' := [(2, (.d (.str (sl a0 a1 x27_1))))]) (H' := [(0, (.cells [(.d (.str a0)), (.d (.int .i64 x27_1)), (.d (.int .i64 a2))]))]) rfl (inT [] []) (doneA (.inr rfl) rfl ⟨trivial, trivial⟩ (.refl _) (hasCons rfl hasNil)))
/-- courant/courantref02.numeral -/
def C349 (N : Nat → Nat) : AFunc := { n := 29, params := 1, res := [.tmp 2], body :=
 (.seq (.region false [⟨some 2, .mv (.k (.d (.bool false))), none, []⟩])
 (.seq (.region false [⟨some 5, .mv (.t 0), none, []⟩,
 ⟨some 6, .build [(.str []), (.int .i64 0), (.int .i64 0)] [(0, 1, (.t 5))], none, [0]⟩,
 ⟨some 7, .box (.t 6), none, [1]⟩,
 ⟨some 3, .mv (.t 7), none, [2, 0, 1]⟩])
 (.seq (.region false [⟨some 8, .mv (.t 3), none, []⟩,
 ⟨some 9, .call (.k (.d (.fn (N 350)))) [(.t 8)], none, [0]⟩,
 ⟨some 4, .mv (.t 9), none, [1, 0]⟩])
 (.seq (.region false [⟨some 10, .mv (.t 3), none, []⟩,
 ⟨some 11, .nilchk (.t 10), none, [0]⟩,
 ⟨some 12, .faddr (.t 11) 2, none, [1]⟩,
 ⟨some 13, .load (.t 12) 1 false, none, [2]⟩,
 ⟨some 14, .bin .eql (.t 13) (.k (.d (.int .i64 0))), none, [3]⟩,
 ⟨some 15, .mv (.t 14), none, [4]⟩,
 ⟨some 16, .mv (.t 3), some (15, true), [5]⟩,
 ⟨some 17, .nilchk (.t 16), some (15, true), [6, 5]⟩,
 ⟨some 18, .faddr (.t 17) 1, some (15, true), [7, 5]⟩,
 ⟨some 19, .load (.t 18) 1 false, some (15, true), [8, 5]⟩,
 ⟨some 20, .mv (.t 0), some (15, true), [5]⟩,
 ⟨some 21, .slen (.t 20), some (15, true), [10, 5]⟩,
 ⟨some 22, .bin .eql (.t 19) (.t 21), some (15, true), [9, 11, 5]⟩,
 ⟨some 23, .pick (.t 15) (.t 22) (.k (.d (.bool false))), none, [5, 12]⟩,
 ⟨some 24, .mv (.t 23), none, [13, 5]⟩,
 ⟨some 25, .mv (.t 4), some (24, true), [14]⟩,
 ⟨some 26, .mv (.t 0), some (24, true), [14]⟩,
 ⟨some 27, .bin .eql (.t 25) (.t 26), some (24, true), [15, 16, 14]⟩,
 ⟨some 28, .pick (.t 24) (.t 27) (.k (.d (.bool false))), none, [14, 17]⟩,
 ⟨some 2, .mv (.t 28), none, [18, 14, 0, 1, 2, 3, 4, 5, 6, 7, 8, 9, 10, 11, 12, 13, 15, 16, 17]⟩])
     .ret)))) }
def HC349 (P : Program) (N : Nat → Nat) : Prop := HasF P (N 349) (C349 N) ∧ HC350 P N
def f349 (k : Nat) (a0 : (List UInt8)) : Option Bool := (f350 k a0 (0 : Int) (0 : Int)).bind fun r16 => cond (decide (r16.2.2 = (0 : Int))) (cond (decide (r16.2.1 = ((a0.length : Nat) : Int))) (some (decide (r16.1 = a0))) (some false)) (some false)
theorem F349 {P : Program} {N : Nat → Nat} (hmix : P.follows .mixedOrders = true) (hc : HC349 P N) {k : Nat} {a0 : (List UInt8)} {r : Bool} (h : f349 k a0 = some r) :
    ACalls P (N 349) [(.d (.str a0))] [] (.d (.bool r)) [] := by
  refine acalls_canon (F := C349 N) hc.1 0 0 rfl ?_
  unfold f349 at h
  dsimp only [C349, startL]
  refine AWc.seq (AWc.rE hmix [] ?_)
  refine AWc.seq (AWc.rE hmix [] ?_)
  refine AWc.seq ?_
  obtain ⟨r16, e16, h⟩ := bind_some h
  refine AWc.rE hmix [.call (F350 hmix hc.2 e16) [] 1] ?_
  refine AWc.seq ?_
  rcases cc h with ⟨c26, h⟩ | ⟨c26, h⟩
  · rcases cc h with ⟨c35, h⟩ | ⟨c35, h⟩
    · refine AWc.rE hmix [.br c26, .br c35] ?_
      have hr := Option.some.inj h
      subst hr
      exact AWc.ret (canQ (N := 29) (k := 0) (l' := [(2, (.d (.bool (decide (r16.1 = a0)))))]) (H' := []) rfl (inT [] []) (doneA (.inr rfl) rfl ⟨trivial, trivial⟩ (.refl _) hasNil))
    · refine AWc.rE hmix [.br c26, .br c35] ?_
      have hr := Option.some.inj h
      subst hr
      exact AWc.ret (canQ (N := 29) (k := 0) (l' := [(2, (.d (.bool false)))]) (H' := []) rfl (inT [] []) (doneA (.inr rfl) rfl ⟨trivial, trivial⟩ (.refl _) hasNil))
  · refine AWc.rE hmix [.br c26, .br (rfl : false = false)] ?_
    have hr := Option.some.inj h
    subst hr
    exact AWc.ret (canQ (N := 29) (k := 0) (l' := [(2, (.d (.bool false)))]) (H' := []) rfl (inT [] []) (doneA (.inr rfl) rfl ⟨trivial, trivial⟩ (.refl _) hasNil))
/-- courant/couranthelp.In[string] -/
def C77 (N : Nat → Nat) : AFunc := { n := 18, params := 2, res := [.tmp 4], body :=
 (.seq (.region false [⟨some 4, .mv (.k (.d (.bool false))), none, []⟩])
 (.seq (.seq (.region false [⟨some 5, .mv (.k (.d (.int .i64 0))), none, []⟩])
    (.block 0 (.loop (.seq (.seq (.region false [⟨some 6, .mv (.t 5), none, []⟩,
 ⟨some 7, .mv (.t 0), none, []⟩,
 ⟨some 8, .len (.t 7), none, [1]⟩,
 ⟨some 9, .bin .lss (.t 6) (.t 8), none, [0, 2]⟩])
        (.cond (.t 9) (.skip)
         (.exit 0)))
 (.seq (.block 1 (.seq (.region false [⟨some 12, .mv (.t 0), none, []⟩,
 ⟨some 13, .mv (.t 5), none, []⟩,
 ⟨some 14, .iaddr (.t 12) (.t 13) 1, none, [0, 1]⟩,
 ⟨some 15, .load (.t 14) 1 false, none, [2]⟩,
 ⟨some 16, .mv (.t 1), none, []⟩,
 ⟨some 17, .bin .eql (.t 15) (.t 16), none, [3, 4]⟩])
          (.cond (.t 17) (.seq (.region false [⟨some 4, .mv (.k (.d (.bool true))), none, []⟩])
            .ret)
           (.skip))))
        (.region false [⟨some 10, .mv (.t 5), none, []⟩,
 ⟨some 11, .bin .add (.t 10) (.k (.d (.int .i64 1))), none, [0]⟩,
 ⟨some 5, .mv (.t 11), none, [1, 0]⟩]))))))
 (.seq (.region false [⟨some 4, .mv (.k (.d (.bool false))), none, []⟩])
    .ret))) }
def HC77 (P : Program) (N : Nat → Nat) : Prop := HasF P (N 77) (C77 N)
def f77_l10 (a0 : (List (List UInt8))) (a1 : (List UInt8)) : Nat → Int → Option (LR2 Unit Unit Bool)
  | 0, _ => none
  | k + 1, y10_1 => cond (decide (y10_1 < ((a0.length : Nat) : Int))) (gd (0 ≤ y10_1 ∧ y10_1 < ((a0.length : Nat) : Int)) (cond (decide ((rd a0 y10_1) = a1)) (some (.r true)) (f77_l10 a0 a1 k (IntKind.i64.wrap (y10_1 + (1 : Int)))))) (some (.b0 ()))
def f77 (k : Nat) (a0 : (List (List UInt8))) (a1 : (List UInt8)) : Option Bool := (f77_l10 a0 a1 k (0 : Int)).bind fun o10 => (match o10 with | .b0 () => some false | .r x => some x | _ => none)
theorem F77 {P : Program} {N : Nat → Nat} (hmix : P.follows .mixedOrders = true) (hc : HC77 P N) {k : Nat} {a0 : (List (List UInt8))} {a1 : (List UInt8)} {r : Bool} (h : f77 k a0 a1 = some r) :
    ACalls P (N 77) [(.d (.sl (List.map D.str a0))), (.d (.str a1))] [] (.d (.bool r)) [] := by
  refine acalls_canon (F := C77 N) hc 0 0 rfl ?_
  unfold f77 at h
  dsimp only [C77, startL]
  refine AWc.seq (AWc.rE hmix [] ?_)
  refine AWc.seq (AWc.seq (AWc.rE hmix [] ?_))
  obtain ⟨o10, h10, h⟩ := bind_some h
  refine AWc.block ?_
  refine AWc.loopK (N := 18) 0 (fun (x : Int) => [(0, (.d (.sl (List.map D.str a0)))), (1, (.d (.str a1))), (5, (.d (.int .i64 x)))]) (fun x => []) (fun k x => f77_l10 a0 a1 k x = some o10) k (0 : Int) rfl_le (fun x hx => by cases hx) h10 (inT [] []) ?_
  clear h10
  intro k
  intro y10_1 h10
  rw [f77_l10] at h10
  refine AWc.seq (AWc.seq (AWc.rE hmix [.ln D.str a0] ?_))
  rcases cc h10 with ⟨c20, h10⟩ | ⟨c20, h10⟩
  · refine AWc.cT c20 ?_
    refine AWc.skip (AWc.seq (AWc.block (AWc.seq ?_)))
    obtain ⟨b30, h10⟩ := gd_some h10
    refine AWc.rE hmix [.iad D.str a0 1 (fun _ => rfl) b30] ?_
    rcases cc h10 with ⟨c34, h10⟩ | ⟨c34, h10⟩
    · refine AWc.cT c34 ?_
      refine AWc.seq (AWc.rE hmix [] ?_)
      cases h10
      dsimp only at h
      have hr := Option.some.inj h
      subst hr
      exact AWc.ret (canQ (N := 18) (k := 0) (l' := [(4, (.d (.bool true)))]) (H' := []) rfl (inT [] []) (doneA (.inr rfl) rfl ⟨trivial, trivial⟩ (.refl _) hasNil))
    · refine AWc.cF c34 ?_
      refine AWc.skip (AWc.rE hmix [] ?_)
      exact ⟨(IntKind.i64.wrap (y10_1 + (1 : Int))), h10, (inT [] [])⟩
  · refine AWc.cF c20 ?_
    cases h10
    dsimp only at h
    refine AWc.exit ?_
    refine inBlk_eq ?_
    refine AWc.seq (AWc.rE hmix [] ?_)
    have hr := Option.some.inj h
    subst hr
    exact AWc.ret (canQ (N := 18) (k := 0) (l' := [(4, (.d (.bool false)))]) (H' := []) rfl (inT [] []) (doneA (.inr rfl) rfl ⟨trivial, trivial⟩ (.refl _) hasNil))
/-- courant/courantref02.right -/
def C348 (N : Nat → Nat) : AFunc := { n := 138, params := 2, res := [.tmp 4], body :=
 (.seq (.region false [⟨some 2, .box (.t 0), none, []⟩,
 ⟨some 4, .mv (.k (.d (.bool false))), none, []⟩])
 (.seq (.seq (.region false [⟨some 6, .faddr (.t 2) 0, none, []⟩,
 ⟨some 7, .load (.t 6) 1 false, none, [0]⟩])
    (.block 0 (.seq (.seq (.region false [⟨some 9, .bin .eql (.t 7) (.k (.d (.int .i64 1))), none, []⟩,
 ⟨some 8, .mv (.t 9), none, [0]⟩])
       (.cond (.t 8) (.skip)
 (.seq (.region false [⟨some 10, .bin .eql (.t 7) (.k (.d (.int .i64 2))), none, []⟩,
 ⟨some 8, .mv (.t 10), none, [0]⟩])
         (.cond (.t 8) (.skip)
          (.region false [⟨some 11, .bin .eql (.t 7) (.k (.d (.int .i64 3))), none, []⟩,
 ⟨some 8, .mv (.t 11), none, [0]⟩])))))
      (.cond (.t 8) (.seq (.region false [⟨some 12, .faddr (.t 2) 1, none, []⟩,
 ⟨some 13, .load (.t 12) 1 false, none, [0]⟩,
 ⟨some 14, .bin .eql (.t 13) (.k (.d (.str []))), none, [1]⟩,
 ⟨some 15, .mv (.t 14), none, [2]⟩,
 ⟨some 16, .faddr (.t 2) 2, some (15, true), [3]⟩,
 ⟨some 17, .load (.t 16) 1 false, some (15, true), [4, 3]⟩,
 ⟨some 18, .len (.t 17), some (15, true), [5, 3]⟩,
 ⟨some 19, .bin .eql (.t 18) (.k (.d (.int .i64 0))), some (15, true), [6, 3]⟩,
 ⟨some 20, .pick (.t 15) (.t 19) (.k (.d (.bool false))), none, [3, 7]⟩,
 ⟨some 21, .mv (.t 20), none, [8, 3]⟩,
 ⟨some 22, .faddr (.t 2) 3, some (21, true), [9]⟩,
 ⟨some 23, .load (.t 22) 1 false, some (21, true), [10, 9]⟩,
 ⟨some 24, .len (.t 23), some (21, true), [11, 9]⟩,
 ⟨some 25, .bin .eql (.t 24) (.k (.d (.int .i64 0))), some (21, true), [12, 9]⟩,
 ⟨some 26, .pick (.t 21) (.t 25) (.k (.d (.bool false))), none, [9, 13]⟩,
 ⟨some 4, .mv (.t 26), none, [14, 9, 0, 1, 2, 3, 4, 5, 6, 7, 8, 10, 11, 12, 13]⟩])
        .ret)
 (.seq (.region false [⟨some 28, .bin .eql (.t 7) (.k (.d (.int .i64 4))), none, []⟩,
 ⟨some 27, .mv (.t 28), none, [0]⟩])
        (.cond (.t 27) (.seq (.region false [⟨some 29, .faddr (.t 2) 1, none, []⟩,
 ⟨some 30, .load (.t 29) 1 false, none, [0]⟩,
 ⟨some 31, .call (.k (.d (.fn (N 349)))) [(.t 30)], none, [1]⟩,
 ⟨some 32, .mv (.t 31), none, [2]⟩,
 ⟨some 33, .faddr (.t 2) 2, some (32, true), [3]⟩,
 ⟨some 34, .load (.t 33) 1 false, some (32, true), [4, 3]⟩,
 ⟨some 35, .len (.t 34), some (32, true), [5, 3]⟩,
 ⟨some 36, .bin .eql (.t 35) (.k (.d (.int .i64 0))), some (32, true), [6, 3]⟩,
 ⟨some 37, .pick (.t 32) (.t 36) (.k (.d (.bool false))), none, [3, 7]⟩,
 ⟨some 38, .mv (.t 37), none, [8, 3]⟩,
 ⟨some 39, .faddr (.t 2) 3, some (38, true), [9]⟩,
 ⟨some 40, .load (.t 39) 1 false, some (38, true), [10, 9]⟩,
 ⟨some 41, .len (.t 40), some (38, true), [11, 9]⟩,
 ⟨some 42, .bin .eql (.t 41) (.k (.d (.int .i64 0))), some (38, true), [12, 9]⟩,
 ⟨some 43, .pick (.t 38) (.t 42) (.k (.d (.bool false))), none, [9, 13]⟩,
 ⟨some 4, .mv (.t 43), none, [14, 9, 0, 1, 2, 3, 4, 5, 6, 7, 8, 10, 11, 12, 13]⟩])
          .ret)
 (.seq (.region false [⟨some 45, .bin .eql (.t 7) (.k (.d (.int .i64 5))), none, []⟩,
 ⟨some 44, .mv (.t 45), none, [0]⟩])
          (.cond (.t 44) (.seq (.region false [⟨some 46, .faddr (.t 2) 1, none, []⟩,
 ⟨some 47, .load (.t 46) 1 false, none, [0]⟩,
 ⟨some 48, .call (.k (.d (.fn (N 351)))) [(.t 47)], none, [1]⟩,
 ⟨some 49, .mv (.t 48), none, [2]⟩,
 ⟨some 50, .faddr (.t 2) 2, some (49, true), [3]⟩,
 ⟨some 51, .load (.t 50) 1 false, some (49, true), [4, 3]⟩,
 ⟨some 52, .len (.t 51), some (49, true), [5, 3]⟩,
 ⟨some 53, .bin .eql (.t 52) (.k (.d (.int .i64 0))), some (49, true), [6, 3]⟩,
 ⟨some 54, .pick (.t 49) (.t 53) (.k (.d (.bool false))), none, [3, 7]⟩,
 ⟨some 55, .mv (.t 54), none, [8, 3]⟩,
 ⟨some 56, .faddr (.t 2) 3, some (55, true), [9]⟩,
 ⟨some 57, .load (.t 56) 1 false, some (55, true), [10, 9]⟩,
 ⟨some 58, .len (.t 57), some (55, true), [11, 9]⟩,
 ⟨some 59, .bin .eql (.t 58) (.k (.d (.int .i64 0))), some (55, true), [12, 9]⟩,
 ⟨some 60, .pick (.t 55) (.t 59) (.k (.d (.bool false))), none, [9, 13]⟩,
 ⟨some 4, .mv (.t 60), none, [14, 9, 0, 1, 2, 3, 4, 5, 6, 7, 8, 10, 11, 12, 13]⟩])
            .ret)
 (.seq (.seq (.region false [⟨some 62, .bin .eql (.t 7) (.k (.d (.int .i64 6))), none, []⟩,
 ⟨some 61, .mv (.t 62), none, [0]⟩])
             (.cond (.t 61) (.skip)
              (.region false [⟨some 63, .bin .eql (.t 7) (.k (.d (.int .i64 7))), none, []⟩,
 ⟨some 61, .mv (.t 63), none, [0]⟩])))
            (.cond (.t 61) (.seq (.seq (.region false [⟨some 64, .faddr (.t 2) 1, none, []⟩,
 ⟨some 65, .load (.t 64) 1 false, none, [0]⟩,
 ⟨some 66, .bin .neq (.t 65) (.k (.d (.str []))), none, [1]⟩,
 ⟨some 67, .mv (.t 66), none, [2]⟩,
 ⟨some 68, .faddr (.t 2) 0, some (67, false), [3]⟩,
 ⟨some 69, .load (.t 68) 1 false, some (67, false), [4, 3]⟩,
 ⟨some 70, .bin .eql (.t 69) (.k (.d (.int .i64 6))), some (67, false), [5, 3]⟩,
 ⟨some 71, .mv (.t 70), some (67, false), [6, 3]⟩,
 ⟨some 72, .faddr (.t 2) 3, some (71, true), [7]⟩,
 ⟨some 73, .load (.t 72) 1 false, some (71, true), [8, 7]⟩,
 ⟨some 74, .len (.t 73), some (71, true), [9, 7]⟩,
 ⟨some 75, .bin .gtr (.t 74) (.k (.d (.int .i64 0))), some (71, true), [10, 7]⟩,
 ⟨some 76, .pick (.t 71) (.t 75) (.k (.d (.bool false))), some (67, false), [7, 11, 3]⟩,
 ⟨some 77, .pick (.t 67) (.k (.d (.bool true))) (.t 76), none, [3, 12]⟩,
 ⟨some 78, .mv (.t 77), none, [13, 7]⟩,
 ⟨some 79, .faddr (.t 2) 0, some (78, false), [14]⟩,
 ⟨some 80, .load (.t 79) 1 false, some (78, false), [15, 14]⟩,
 ⟨some 81, .bin .eql (.t 80) (.k (.d (.int .i64 7))), some (78, false), [16, 14]⟩,
 ⟨some 82, .mv (.t 81), some (78, false), [17, 14]⟩,
 ⟨some 83, .faddr (.t 2) 3, some (82, true), [18]⟩,
 ⟨some 84, .load (.t 83) 1 false, some (82, true), [19, 18]⟩,
 ⟨some 85, .len (.t 84), some (82, true), [20, 18]⟩,
 ⟨some 86, .faddr (.t 2) 2, some (82, true), [18]⟩,
 ⟨some 87, .load (.t 86) 1 false, some (82, true), [22, 18]⟩,
 ⟨some 88, .len (.t 87), some (82, true), [23, 18]⟩,
 ⟨some 89, .bin .neq (.t 85) (.t 88), some (82, true), [21, 24, 18]⟩,
 ⟨some 90, .pick (.t 82) (.t 89) (.k (.d (.bool false))), some (78, false), [18, 25, 14]⟩,
 ⟨some 91, .pick (.t 78) (.k (.d (.bool true))) (.t 90), none, [14, 26]⟩,
 ⟨some 92, .mv (.t 91), none, [27, 18]⟩,
 ⟨some 93, .mv (.t 1), some (92, false), [28]⟩,
 ⟨some 94, .bin .geq (.t 93) (.k (.d (.int .i64 64))), some (92, false), [29, 28]⟩,
 ⟨some 95, .pick (.t 92) (.k (.d (.bool true))) (.t 94), none, [28, 30]⟩])
               (.cond (.t 95) (.seq (.region false [⟨some 4, .mv (.k (.d (.bool false))), none, []⟩])
                 .ret)
                (.skip)))
 (.seq (.seq (.region false [⟨some 5, .mv (.k (.d (.int .i64 0))), none, []⟩])
                (.block 1 (.loop (.seq (.seq (.region false [⟨some 96, .mv (.t 5), none, []⟩,
 ⟨some 97, .faddr (.t 2) 2, none, []⟩,
 ⟨some 98, .load (.t 97) 1 false, none, [1]⟩,
 ⟨some 99, .len (.t 98), none, [2]⟩,
 ⟨some 100, .bin .lss (.t 96) (.t 99), none, [0, 3]⟩])
                    (.cond (.t 100) (.skip)
                     (.exit 1)))
 (.seq (.block 2 (.seq (.region true [⟨some 103, .faddr (.t 2) 0, none, []⟩,
 ⟨some 104, .load (.t 103) 1 false, none, [0]⟩,
 ⟨some 105, .bin .eql (.t 104) (.k (.d (.int .i64 7))), none, [1]⟩,
 ⟨some 106, .mv (.t 105), none, [2]⟩,
 ⟨some 107, .faddr (.t 2) 3, some (106, true), [3]⟩,
 ⟨some 108, .load (.t 107) 1 false, some (106, true), [4, 3]⟩,
 ⟨some 109, .mv (.t 5), some (106, true), [3]⟩,
 ⟨some 110, .iaddr (.t 108) (.t 109) 1, some (106, true), [5, 6, 3]⟩,
 ⟨some 111, .load (.t 110) 1 false, some (106, true), [7, 3]⟩,
 ⟨some 112, .call (.k (.d (.fn (N 351)))) [(.t 111)], some (106, true), [8, 3]⟩,
 ⟨some 113, .un .not (.t 112), some (106, true), [9, 3]⟩,
 ⟨some 114, .mv (.t 113), some (106, true), [10, 9, 3]⟩,
 ⟨some 115, .faddr (.t 2) 3, some (114, false), [11]⟩,
 ⟨some 116, .load (.t 115) 1 false, some (114, false), [12, 11]⟩,
 ⟨some 117, .mv (.t 5), some (114, false), [11]⟩,
 ⟨some 118, .slc (.t 116) none (some (.t 117)) none 1, some (114, false), [13, 14, 11]⟩,
 ⟨some 119, .faddr (.t 2) 3, some (114, false), [11]⟩,
 ⟨some 120, .load (.t 119) 1 false, some (114, false), [16, 11]⟩,
 ⟨some 121, .mv (.t 5), some (114, false), [11]⟩,
 ⟨some 122, .iaddr (.t 120) (.t 121) 1, some (114, false), [17, 18, 11]⟩,
 ⟨some 123, .load (.t 122) 1 false, some (114, false), [19, 11]⟩,
 ⟨some 124, .call (.k (.d (.fn (N 77)))) [(.t 118), (.t 123)], some (114, false), [15, 20, 11]⟩,
 ⟨some 125, .pick (.t 114) (.k (.d (.bool true))) (.t 124), some (106, true), [11, 21, 3]⟩,
 ⟨some 126, .pick (.t 106) (.t 125) (.k (.d (.bool false))), none, [3, 22]⟩,
 ⟨some 127, .mv (.t 126), none, [23, 21]⟩,
 ⟨some 128, .faddr (.t 2) 2, some (127, false), [24]⟩,
 ⟨some 129, .load (.t 128) 1 false, some (127, false), [25, 24]⟩,
 ⟨some 130, .mv (.t 5), some (127, false), [24]⟩,
 ⟨some 131, .iaddr (.t 129) (.t 130) 4, some (127, false), [26, 27, 24]⟩,
 ⟨some 132, .load (.t 131) 4 true, some (127, false), [28, 24]⟩,
 ⟨some 133, .mv (.t 1), some (127, false), [24]⟩,
 ⟨some 134, .bin .add (.t 133) (.k (.d (.int .i64 1))), some (127, false), [30, 24]⟩,
 ⟨some 135, .call (.k (.d (.fn (N 348)))) [(.t 132), (.t 134)], some (127, false), [29, 31, 24]⟩,
 ⟨some 136, .un .not (.t 135), some (127, false), [32, 24]⟩,
 ⟨some 137, .pick (.t 127) (.k (.d (.bool true))) (.t 136), none, [24, 33]⟩])
                      (.cond (.t 137) (.seq (.region false [⟨some 4, .mv (.k (.d (.bool false))), none, []⟩])
                        .ret)
                       (.skip))))
                    (.region false [⟨some 101, .mv (.t 5), none, []⟩,
 ⟨some 102, .bin .add (.t 101) (.k (.d (.int .i64 1))), none, [0]⟩,
 ⟨some 5, .mv (.t 102), none, [1, 0]⟩]))))))
 (.seq (.region false [⟨some 4, .mv (.k (.d (.bool true))), none, []⟩])
                .ret)))
             (.skip)))))))))))
 (.seq (.region false [⟨some 4, .mv (.k (.d (.bool false))), none, []⟩])
    .ret))) }
def HC348 (P : Program) (N : Nat → Nat) : Prop := HasF P (N 348) (C348 N) ∧ HC349 P N ∧ HC351 P N ∧ HC77 P N
def f348_l166 (a0 : TJson) (rc348 : TJson → Int → Option Bool) (a1 : Int) : Nat → Int → Option (LR2 Unit Unit Bool)
  | 0, _ => none
  | k + 1, y166_1 => cond (decide (y166_1 < ((a0.fL.length : Nat) : Int))) (cond (decide (a0.fKind = (7 : Int))) (gd (0 ≤ y166_1 ∧ y166_1 < ((a0.fKeys.length : Nat) : Int)) ((f351 k (rd a0.fKeys y166_1)).bind fun r194 => cond (!r194) (some (.r false)) (gd (0 ≤ (0 : Int) ∧ (0 : Int) ≤ y166_1 ∧ y166_1 ≤ ((a0.fKeys.length : Nat) : Int)) (gd (0 ≤ y166_1 ∧ y166_1 < ((a0.fKeys.length : Nat) : Int)) ((f77 k (sl a0.fKeys (0 : Int) y166_1) (rd a0.fKeys y166_1)).bind fun r206 => cond r206 (some (.r false)) (gd (0 ≤ y166_1 ∧ y166_1 < ((a0.fL.length : Nat) : Int)) ((TJson.dec (rtE (rd a0.fL y166_1))).bind fun rx213 => (rc348 rx213 (IntKind.i64.wrap (a1 + (1 : Int)))).bind fun r217 => cond (!r217) (some (.r false)) (f348_l166 a0 rc348 a1 k (IntKind.i64.wrap (y166_1 + (1 : Int))))))))))) (gd (0 ≤ y166_1 ∧ y166_1 < ((a0.fL.length : Nat) : Int)) ((TJson.dec (rtE (rd a0.fL y166_1))).bind fun rx213 => (rc348 rx213 (IntKind.i64.wrap (a1 + (1 : Int)))).bind fun r217 => cond (!r217) (some (.r false)) (f348_l166 a0 rc348 a1 k (IntKind.i64.wrap (y166_1 + (1 : Int))))))) (some (.b0 ()))
def f348_j161 (k : Nat) (a0 : TJson) (rc348 : TJson → Int → Option Bool) (a1 : Int) : Option Bool := (f348_l166 a0 rc348 a1 k (0 : Int)).bind fun o166 => (match o166 with | .b0 () => some true | .r x => some x | _ => none)
def f348_j117 (k : Nat) (a0 : TJson) (a1 : Int) (rc348 : TJson → Int → Option Bool) (j117_1 : Bool) : Option Bool := cond j117_1 (cond (decide (a0.fText ≠ ([] : List UInt8))) (some false) (cond (decide (a0.fKind = (6 : Int))) (cond (decide (((a0.fKeys.length : Nat) : Int) > (0 : Int))) (some false) (cond (decide (a0.fKind = (7 : Int))) (cond (decide (((a0.fKeys.length : Nat) : Int) ≠ ((a0.fL.length : Nat) : Int))) (some false) (cond (decide (a1 ≥ (64 : Int))) (some false) (f348_j161 k a0 rc348 a1))) (cond (decide (a1 ≥ (64 : Int))) (some false) (f348_j161 k a0 rc348 a1)))) (cond (decide (a0.fKind = (7 : Int))) (cond (decide (((a0.fKeys.length : Nat) : Int) ≠ ((a0.fL.length : Nat) : Int))) (some false) (cond (decide (a1 ≥ (64 : Int))) (some false) (f348_j161 k a0 rc348 a1))) (cond (decide (a1 ≥ (64 : Int))) (some false) (f348_j161 k a0 rc348 a1))))) (some false)
def f348_j32 (k : Nat) (a0 : TJson) (a1 : Int) (rc348 : TJson → Int → Option Bool) (j32_1 : Bool) : Option Bool := cond j32_1 (cond (decide (a0.fText = ([] : List UInt8))) (cond (decide (((a0.fL.length : Nat) : Int) = (0 : Int))) (some (decide (((a0.fKeys.length : Nat) : Int) = (0 : Int)))) (some false)) (some false)) (cond (decide (a0.fKind = (4 : Int))) ((f349 k a0.fText).bind fun r64 => cond r64 (cond (decide (((a0.fL.length : Nat) : Int) = (0 : Int))) (some (decide (((a0.fKeys.length : Nat) : Int) = (0 : Int)))) (some false)) (some false)) (cond (decide (a0.fKind = (5 : Int))) ((f351 k a0.fText).bind fun r90 => cond r90 (cond (decide (((a0.fL.length : Nat) : Int) = (0 : Int))) (some (decide (((a0.fKeys.length : Nat) : Int) = (0 : Int)))) (some false)) (some false)) (cond (decide (a0.fKind = (6 : Int))) (f348_j117 k a0 a1 rc348 (decide (a0.fKind = (6 : Int)))) (f348_j117 k a0 a1 rc348 (decide (a0.fKind = (7 : Int)))))))
def f348_s (rc348 : TJson → Int → Option Bool) (k : Nat) (a0 : TJson) (a1 : Int) : Option Bool := cond (decide (a0.fKind = (1 : Int))) (f348_j32 k a0 a1 rc348 (decide (a0.fKind = (1 : Int)))) (cond (decide (a0.fKind = (2 : Int))) (f348_j32 k a0 a1 rc348 (decide (a0.fKind = (2 : Int)))) (f348_j32 k a0 a1 rc348 (decide (a0.fKind = (3 : Int)))))
theorem F348_s {P : Program} {N : Nat → Nat} (hmix : P.follows .mixedOrders = true) (hc : HC348 P N) {rc348 : TJson → Int → Option Bool} (hrc348 : RH348 P N rc348) {k : Nat} {a0 : TJson} {a1 : Int} {r : Bool} (h : f348_s rc348 k a0 a1 = some r) :
    ACalls P (N 348) [(.d (TJson.enc a0)), (.d (.int .i64 a1))] [] (.d (.bool r)) [] := by
  refine acalls_canon (F := C348 N) hc.1 0 0 rfl ?_
  unfold f348_s at h
  dsimp only [C348, startL]
  refine AWc.seq (AWc.rE hmix [] ?_)
  refine AWc.seq (AWc.seq (AWc.rE hmix [] ?_))
  refine AWc.block ?_
  refine AWc.seqS (N := 138) 1 (fun (z : Bool) => [(1, (.d (.int .i64 a1))), (2, (.ptr 0 0)), (7, (.d (.int .i64 a0.fKind))), (8, (.d (.bool z)))]) (fun z => [(0, (.cells [(.d (.int .i64 a0.fKind)), (.d (.str a0.fText)), (.d (.sl (List.map (rtE (z := 4)) a0.fL))), (.d (.sl (List.map D.str a0.fKeys)))]))]) (fun z => f348_j32 k a0 a1 rc348 z = some r) rfl_le ?_ ?_
  · refine AWc.seq (AWc.rE hmix [] ?_)
    rcases cc h with ⟨c19, h⟩ | ⟨c19, h⟩
    · refine AWc.cT c19 ?_
      refine AWc.skip ?_
      exact ⟨(decide (a0.fKind = (1 : Int))), h, (inT [] [])⟩
    · refine AWc.cF c19 ?_
      refine AWc.seq (AWc.rE hmix [] ?_)
      rcases cc h with ⟨c26, h⟩ | ⟨c26, h⟩
      · refine AWc.cT c26 ?_
        refine AWc.skip ?_
        exact ⟨(decide (a0.fKind = (2 : Int))), h, (inT [] [])⟩
      · refine AWc.cF c26 ?_
        refine AWc.rE hmix [] ?_
        exact ⟨(decide (a0.fKind = (3 : Int))), h, (inT [] [])⟩
  · intro j32_1 h
    unfold f348_j32 at h
    rcases cc h with ⟨c32, h⟩ | ⟨c32, h⟩
    · refine AWc.cT c32 ?_
      refine AWc.seq ?_
      rcases cc h with ⟨c39, h⟩ | ⟨c39, h⟩
      · rcases cc h with ⟨c45, h⟩ | ⟨c45, h⟩
        · refine AWc.rE hmix [.br c39, .ln (rtE (z := 4)) a0.fL, .br c45, .ln D.str a0.fKeys] ?_
          have hr := Option.some.inj h
          subst hr
          exact AWc.ret (canQ (N := 138) (k := 0) (l' := [(4, (.d (.bool (decide (((a0.fKeys.length : Nat) : Int) = (0 : Int))))))]) (H' := []) rfl (inT [] []) (doneA (.inr rfl) rfl ⟨trivial, trivial⟩ (.refl _) hasNil))
        · refine AWc.rE hmix [.br c39, .ln (rtE (z := 4)) a0.fL, .br c45] ?_
          have hr := Option.some.inj h
          subst hr
          exact AWc.ret (canQ (N := 138) (k := 0) (l' := [(4, (.d (.bool false)))]) (H' := []) rfl (inT [] []) (doneA (.inr rfl) rfl ⟨trivial, trivial⟩ (.refl _) hasNil))
      · refine AWc.rE hmix [.br c39, .br (rfl : false = false)] ?_
        have hr := Option.some.inj h
        subst hr
        exact AWc.ret (canQ (N := 138) (k := 0) (l' := [(4, (.d (.bool false)))]) (H' := []) rfl (inT [] []) (doneA (.inr rfl) rfl ⟨trivial, trivial⟩ (.refl _) hasNil))
    · refine AWc.cF c32 ?_
      refine AWc.seq (AWc.rE hmix [] ?_)
      rcases cc h with ⟨c58, h⟩ | ⟨c58, h⟩
      · refine AWc.cT c58 ?_
        refine AWc.seq ?_
        obtain ⟨r64, e64, h⟩ := bind_some h
        rcases cc h with ⟨c65, h⟩ | ⟨c65, h⟩
        · rcases cc h with ⟨c71, h⟩ | ⟨c71, h⟩
          · refine AWc.rE hmix [.call (F349 hmix hc.2.1 e64) [] 0, .br c65, .ln (rtE (z := 4)) a0.fL, .br c71, .ln D.str a0.fKeys] ?_
            have hr := Option.some.inj h
            subst hr
            exact AWc.ret (canQ (N := 138) (k := 0) (l' := [(4, (.d (.bool (decide (((a0.fKeys.length : Nat) : Int) = (0 : Int))))))]) (H' := []) rfl (inT [] []) (doneA (.inr rfl) rfl ⟨trivial, trivial⟩ (.refl _) hasNil))
          · refine AWc.rE hmix [.call (F349 hmix hc.2.1 e64) [] 0, .br c65, .ln (rtE (z := 4)) a0.fL, .br c71] ?_
            have hr := Option.some.inj h
            subst hr
            exact AWc.ret (canQ (N := 138) (k := 0) (l' := [(4, (.d (.bool false)))]) (H' := []) rfl (inT [] []) (doneA (.inr rfl) rfl ⟨trivial, trivial⟩ (.refl _) hasNil))
        · refine AWc.rE hmix [.call (F349 hmix hc.2.1 e64) [] 0, .br c65, .br (rfl : false = false)] ?_
          have hr := Option.some.inj h
          subst hr
          exact AWc.ret (canQ (N := 138) (k := 0) (l' := [(4, (.d (.bool false)))]) (H' := []) rfl (inT [] []) (doneA (.inr rfl) rfl ⟨trivial, trivial⟩ (.refl _) hasNil))
      · refine AWc.cF c58 ?_
        refine AWc.seq (AWc.rE hmix [] ?_)
        rcases cc h with ⟨c84, h⟩ | ⟨c84, h⟩
        · refine AWc.cT c84 ?_
          refine AWc.seq ?_
          obtain ⟨r90, e90, h⟩ := bind_some h
          rcases cc h with ⟨c91, h⟩ | ⟨c91, h⟩
          · rcases cc h with ⟨c97, h⟩ | ⟨c97, h⟩
            · refine AWc.rE hmix [.call (F351 hmix hc.2.2.1 e90) [] 0, .br c91, .ln (rtE (z := 4)) a0.fL, .br c97, .ln D.str a0.fKeys] ?_
              have hr := Option.some.inj h
              subst hr
              exact AWc.ret (canQ (N := 138) (k := 0) (l' := [(4, (.d (.bool (decide (((a0.fKeys.length : Nat) : Int) = (0 : Int))))))]) (H' := []) rfl (inT [] []) (doneA (.inr rfl) rfl ⟨trivial, trivial⟩ (.refl _) hasNil))
            · refine AWc.rE hmix [.call (F351 hmix hc.2.2.1 e90) [] 0, .br c91, .ln (rtE (z := 4)) a0.fL, .br c97] ?_
              have hr := Option.some.inj h
              subst hr
              exact AWc.ret (canQ (N := 138) (k := 0) (l' := [(4, (.d (.bool false)))]) (H' := []) rfl (inT [] []) (doneA (.inr rfl) rfl ⟨trivial, trivial⟩ (.refl _) hasNil))
          · refine AWc.rE hmix [.call (F351 hmix hc.2.2.1 e90) [] 0, .br c91, .br (rfl : false = false)] ?_
            have hr := Option.some.inj h
            subst hr
            exact AWc.ret (canQ (N := 138) (k := 0) (l' := [(4, (.d (.bool false)))]) (H' := []) rfl (inT [] []) (doneA (.inr rfl) rfl ⟨trivial, trivial⟩ (.refl _) hasNil))
        · refine AWc.cF c84 ?_
          refine AWc.seqS (N := 138) 1 (fun (z : Bool) => [(1, (.d (.int .i64 a1))), (2, (.ptr 0 0)), (61, (.d (.bool z)))]) (fun z => [(0, (.cells [(.d (.int .i64 a0.fKind)), (.d (.str a0.fText)), (.d (.sl (List.map (rtE (z := 4)) a0.fL))), (.d (.sl (List.map D.str a0.fKeys)))]))]) (fun z => f348_j117 k a0 a1 rc348 z = some r) rfl_le ?_ ?_
          · refine AWc.seq (AWc.rE hmix [] ?_)
            rcases cc h with ⟨c111, h⟩ | ⟨c111, h⟩
            · refine AWc.cT c111 ?_
              refine AWc.skip ?_
              exact ⟨(decide (a0.fKind = (6 : Int))), h, (inT [] [])⟩
            · refine AWc.cF c111 ?_
              refine AWc.rE hmix [] ?_
              exact ⟨(decide (a0.fKind = (7 : Int))), h, (inT [] [])⟩
          · intro j117_1 h
            unfold f348_j117 at h
            rcases cc h with ⟨c117, h⟩ | ⟨c117, h⟩
            · refine AWc.cT c117 ?_
              refine AWc.seqS (N := 138) 1 (fun (z : Unit) => [(1, (.d (.int .i64 a1))), (2, (.ptr 0 0))]) (fun z => [(0, (.cells [(.d (.int .i64 a0.fKind)), (.d (.str a0.fText)), (.d (.sl (List.map (rtE (z := 4)) a0.fL))), (.d (.sl (List.map D.str a0.fKeys)))]))]) (fun z => f348_j161 k a0 rc348 a1 = some r) rfl_le ?_ ?_
              · refine AWc.seq ?_
                rcases cc h with ⟨c125, h⟩ | ⟨c125, h⟩
                · refine AWc.rE hmix [.br c125, .br (rfl : true = true), .br (rfl : true = true)] ?_
                  refine AWc.cT rfl ?_
                  refine AWc.seq (AWc.rE hmix [] ?_)
                  have hr := Option.some.inj h
                  subst hr
                  exact AWc.ret (canQ (N := 138) (k := 0) (l' := [(4, (.d (.bool false)))]) (H' := []) rfl (inT [] []) (doneA (.inr rfl) rfl ⟨trivial, trivial⟩ (.refl _) hasNil))
                · rcases cc h with ⟨c129, h⟩ | ⟨c129, h⟩
                  · rcases cc h with ⟨c136, h⟩ | ⟨c136, h⟩
                    · refine AWc.rE hmix [.br c125, .br c129, .ln D.str a0.fKeys, .br c136, .br (rfl : true = true)] ?_
                      refine AWc.cT rfl ?_
                      refine AWc.seq (AWc.rE hmix [] ?_)
                      have hr := Option.some.inj h
                      subst hr
                      exact AWc.ret (canQ (N := 138) (k := 0) (l' := [(4, (.d (.bool false)))]) (H' := []) rfl (inT [] []) (doneA (.inr rfl) rfl ⟨trivial, trivial⟩ (.refl _) hasNil))
                    · rcases cc h with ⟨c140, h⟩ | ⟨c140, h⟩
                      · rcases cc h with ⟨c150, h⟩ | ⟨c150, h⟩
                        · refine AWc.rE hmix [.br c125, .br c129, .ln D.str a0.fKeys, .br c136, .br c140, .ln D.str a0.fKeys, .ln (rtE (z := 4)) a0.fL, .br c150] ?_
                          refine AWc.cT rfl ?_
                          refine AWc.seq (AWc.rE hmix [] ?_)
                          have hr := Option.some.inj h
                          subst hr
                          exact AWc.ret (canQ (N := 138) (k := 0) (l' := [(4, (.d (.bool false)))]) (H' := []) rfl (inT [] []) (doneA (.inr rfl) rfl ⟨trivial, trivial⟩ (.refl _) hasNil))
                        · refine AWc.rE hmix [.br c125, .br c129, .ln D.str a0.fKeys, .br c136, .br c140, .ln D.str a0.fKeys, .ln (rtE (z := 4)) a0.fL, .br c150] ?_
                          rcases cc h with ⟨c154, h⟩ | ⟨c154, h⟩
                          · refine AWc.cT c154 ?_
                            refine AWc.seq (AWc.rE hmix [] ?_)
                            have hr := Option.some.inj h
                            subst hr
                            exact AWc.ret (canQ (N := 138) (k := 0) (l' := [(4, (.d (.bool false)))]) (H' := []) rfl (inT [] []) (doneA (.inr rfl) rfl ⟨trivial, trivial⟩ (.refl _) hasNil))
                          · refine AWc.cF c154 ?_
                            refine AWc.skip ?_
                            exact ⟨(), h, (inT [] [])⟩
                      · refine AWc.rE hmix [.br c125, .br c129, .ln D.str a0.fKeys, .br c136, .br c140, .br (rfl : false = false)] ?_
                        rcases cc h with ⟨c154, h⟩ | ⟨c154, h⟩
                        · refine AWc.cT c154 ?_
                          refine AWc.seq (AWc.rE hmix [] ?_)
                          have hr := Option.some.inj h
                          subst hr
                          exact AWc.ret (canQ (N := 138) (k := 0) (l' := [(4, (.d (.bool false)))]) (H' := []) rfl (inT [] []) (doneA (.inr rfl) rfl ⟨trivial, trivial⟩ (.refl _) hasNil))
                        · refine AWc.cF c154 ?_
                          refine AWc.skip ?_
                          exact ⟨(), h, (inT [] [])⟩
                  · rcases cc h with ⟨c140, h⟩ | ⟨c140, h⟩
                    · rcases cc h with ⟨c150, h⟩ | ⟨c150, h⟩
                      · refine AWc.rE hmix [.br c125, .br c129, .br (rfl : false = false), .br c140, .ln D.str a0.fKeys, .ln (rtE (z := 4)) a0.fL, .br c150] ?_
                        refine AWc.cT rfl ?_
                        refine AWc.seq (AWc.rE hmix [] ?_)
                        have hr := Option.some.inj h
                        subst hr
                        exact AWc.ret (canQ (N := 138) (k := 0) (l' := [(4, (.d (.bool false)))]) (H' := []) rfl (inT [] []) (doneA (.inr rfl) rfl ⟨trivial, trivial⟩ (.refl _) hasNil))
                      · refine AWc.rE hmix [.br c125, .br c129, .br (rfl : false = false), .br c140, .ln D.str a0.fKeys, .ln (rtE (z := 4)) a0.fL, .br c150] ?_
                        rcases cc h with ⟨c154, h⟩ | ⟨c154, h⟩
                        · refine AWc.cT c154 ?_
                          refine AWc.seq (AWc.rE hmix [] ?_)
                          have hr := Option.some.inj h
                          subst hr
                          exact AWc.ret (canQ (N := 138) (k := 0) (l' := [(4, (.d (.bool false)))]) (H' := []) rfl (inT [] []) (doneA (.inr rfl) rfl ⟨trivial, trivial⟩ (.refl _) hasNil))
                        · refine AWc.cF c154 ?_
                          refine AWc.skip ?_
                          exact ⟨(), h, (inT [] [])⟩
                    · refine AWc.rE hmix [.br c125, .br c129, .br (rfl : false = false), .br c140, .br (rfl : false = false)] ?_
                      rcases cc h with ⟨c154, h⟩ | ⟨c154, h⟩
                      · refine AWc.cT c154 ?_
                        refine AWc.seq (AWc.rE hmix [] ?_)
                        have hr := Option.some.inj h
                        subst hr
                        exact AWc.ret (canQ (N := 138) (k := 0) (l' := [(4, (.d (.bool false)))]) (H' := []) rfl (inT [] []) (doneA (.inr rfl) rfl ⟨trivial, trivial⟩ (.refl _) hasNil))
                      · refine AWc.cF c154 ?_
                        refine AWc.skip ?_
                        exact ⟨(), h, (inT [] [])⟩
              · rintro ⟨⟩ h
                unfold f348_j161 at h
                refine AWc.seq (AWc.seq (AWc.rE hmix [] ?_))
                obtain ⟨o166, h166, h⟩ := bind_some h
                refine AWc.block ?_
                refine AWc.loopK (N := 138) 1 (fun (x : Int) => [(1, (.d (.int .i64 a1))), (2, (.ptr 0 0)), (5, (.d (.int .i64 x)))]) (fun x => [(0, (.cells [(.d (.int .i64 a0.fKind)), (.d (.str a0.fText)), (.d (.sl (List.map (rtE (z := 4)) a0.fL))), (.d (.sl (List.map D.str a0.fKeys)))]))]) (fun k x => f348_l166 a0 rc348 a1 k x = some o166) k (0 : Int) rfl_le (fun x hx => by cases hx) h166 (inT [] []) ?_
                clear h166
                intro k
                intro y166_1 h166
                rw [f348_l166] at h166
                refine AWc.seq (AWc.seq (AWc.rE hmix [.ln (rtE (z := 4)) a0.fL] ?_))
                rcases cc h166 with ⟨c177, h166⟩ | ⟨c177, h166⟩
                · refine AWc.cT c177 ?_
                  refine AWc.skip (AWc.seq (AWc.block (AWc.seq ?_)))
                  rcases cc h166 with ⟨c188, h166⟩ | ⟨c188, h166⟩
                  · obtain ⟨b192, h166⟩ := gd_some h166
                    obtain ⟨r194, e194, h166⟩ := bind_some h166
                    rcases cc h166 with ⟨c196, h166⟩ | ⟨c196, h166⟩
                    · refine AWc.rE hmix [.br c188, .iad D.str a0.fKeys 1 (fun _ => rfl) b192, .call (F351 hmix hc.2.2.1 e194) [] 0, .br c196, .br (rfl : true = true)] ?_
                      refine AWc.cT rfl ?_
                      refine AWc.seq (AWc.rE hmix [] ?_)
                      cases h166
                      dsimp only at h
                      have hr := Option.some.inj h
                      subst hr
                      exact AWc.ret (canQ (N := 138) (k := 0) (l' := [(4, (.d (.bool false)))]) (H' := []) rfl (inT [] []) (doneA (.inr rfl) rfl ⟨trivial, trivial⟩ (.refl _) hasNil))
                    · obtain ⟨b200, h166⟩ := gd_some h166
                      obtain ⟨b204, h166⟩ := gd_some h166
                      obtain ⟨r206, e206, h166⟩ := bind_some h166
                      rcases cc h166 with ⟨c209, h166⟩ | ⟨c209, h166⟩
                      · refine AWc.rE hmix [.br c188, .iad D.str a0.fKeys 1 (fun _ => rfl) b192, .call (F351 hmix hc.2.2.1 e194) [] 0, .br c196, .slc D.str a0.fKeys 1 (fun _ => rfl) b200, .iad D.str a0.fKeys 1 (fun _ => rfl) b204, .call (F77 hmix hc.2.2.2 e206) [] 0, .br c209] ?_
                        refine AWc.cT rfl ?_
                        refine AWc.seq (AWc.rE hmix [] ?_)
                        cases h166
                        dsimp only at h
                        have hr := Option.some.inj h
                        subst hr
                        exact AWc.ret (canQ (N := 138) (k := 0) (l' := [(4, (.d (.bool false)))]) (H' := []) rfl (inT [] []) (doneA (.inr rfl) rfl ⟨trivial, trivial⟩ (.refl _) hasNil))
                      · obtain ⟨b213, h166⟩ := gd_some h166
                        obtain ⟨rx213, ex213, h166⟩ := bind_some h166
                        obtain ⟨r217, e217, h166⟩ := bind_some h166
                        refine AWc.rE hmix [.br c188, .iad D.str a0.fKeys 1 (fun _ => rfl) b192, .call (F351 hmix hc.2.2.1 e194) [] 0, .br c196, .slc D.str a0.fKeys 1 (fun _ => rfl) b200, .iad D.str a0.fKeys 1 (fun _ => rfl) b204, .call (F77 hmix hc.2.2.2 e206) [] 0, .br c209, .iadE (rtE (z := 4)) a0.fL 4 rtE_ok.len b213 (TJson.dec_eq ex213), .call (hrc348 _ _ _ e217) [] 0] ?_
                        rcases cc h166 with ⟨c220, h166⟩ | ⟨c220, h166⟩
                        · refine AWc.cT c220 ?_
                          refine AWc.seq (AWc.rE hmix [] ?_)
                          cases h166
                          dsimp only at h
                          have hr := Option.some.inj h
                          subst hr
                          exact AWc.ret (canQ (N := 138) (k := 0) (l' := [(4, (.d (.bool false)))]) (H' := []) rfl (inT [] []) (doneA (.inr rfl) rfl ⟨trivial, trivial⟩ (.refl _) hasNil))
                        · refine AWc.cF c220 ?_
                          refine AWc.skip (AWc.rE hmix [] ?_)
                          exact ⟨(IntKind.i64.wrap (y166_1 + (1 : Int))), h166, (inT [] [])⟩
                  · obtain ⟨b213, h166⟩ := gd_some h166
                    obtain ⟨rx213, ex213, h166⟩ := bind_some h166
                    obtain ⟨r217, e217, h166⟩ := bind_some h166
                    refine AWc.rE hmix [.br c188, .br (rfl : false = false), .iadE (rtE (z := 4)) a0.fL 4 rtE_ok.len b213 (TJson.dec_eq ex213), .call (hrc348 _ _ _ e217) [] 0] ?_
                    rcases cc h166 with ⟨c220, h166⟩ | ⟨c220, h166⟩
                    · refine AWc.cT c220 ?_
                      refine AWc.seq (AWc.rE hmix [] ?_)
                      cases h166
                      dsimp only at h
                      have hr := Option.some.inj h
                      subst hr
                      exact AWc.ret (canQ (N := 138) (k := 0) (l' := [(4, (.d (.bool false)))]) (H' := []) rfl (inT [] []) (doneA (.inr rfl) rfl ⟨trivial, trivial⟩ (.refl _) hasNil))
                    · refine AWc.cF c220 ?_
                      refine AWc.skip (AWc.rE hmix [] ?_)
                      exact ⟨(IntKind.i64.wrap (y166_1 + (1 : Int))), h166, (inT [] [])⟩
                · refine AWc.cF c177 ?_
                  cases h166
                  dsimp only at h
                  refine AWc.exit ?_
                  refine inBlk_eq ?_
                  refine AWc.seq (AWc.rE hmix [] ?_)
                  have hr := Option.some.inj h
                  subst hr
                  exact AWc.ret (canQ (N := 138) (k := 0) (l' := [(4, (.d (.bool true)))]) (H' := []) rfl (inT [] []) (doneA (.inr rfl) rfl ⟨trivial, trivial⟩ (.refl _) hasNil))
            · refine AWc.cF c117 ?_
              refine AWc.skip (AWc.seq (AWc.rE hmix [] ?_))
              have hr := Option.some.inj h
              subst hr
              exact AWc.ret (canQ (N := 138) (k := 0) (l' := [(4, (.d (.bool false)))]) (H' := []) rfl (inT [] []) (doneA (.inr rfl) rfl ⟨trivial, trivial⟩ (.refl _) hasNil))
def f348 : Nat → TJson → Int → Option Bool
  | 0, _, _ => none
  | k + 1, a0, a1 => f348_s (f348 k) k a0 a1
theorem F348 {P : Program} {N : Nat → Nat} (hmix : P.follows .mixedOrders = true) (hc : HC348 P N) {k : Nat} {a0 : TJson} {a1 : Int} {r : Bool} (h : f348 k a0 a1 = some r) :
    ACalls P (N 348) [(.d (TJson.enc a0)), (.d (.int .i64 a1))] [] (.d (.bool r)) [] := by
  induction k generalizing a0 a1 r with
  | zero => exact absurd (show (none : Option _) = some r from h) (fun h2 => by cases h2)
  | succ k ih => exact F348_s hmix hc (fun _ _ _ h => ih h) h
/-- courant/courantref02.Right -/
def C347 (N : Nat → Nat) : AFunc := { n := 5, params := 1, res := [.tmp 2], body :=
 (.seq (.region false [⟨some 1, .box (.t 0), none, []⟩,
 ⟨some 2, .mv (.k (.d (.bool false))), none, []⟩])
 (.seq (.region false [⟨some 3, .load (.t 1) 4 true, none, []⟩,
 ⟨some 4, .call (.k (.d (.fn (N 348)))) [(.t 3), (.k (.d (.int .i64 0)))], none, [0]⟩,
 ⟨some 2, .mv (.t 4), none, [1, 0]⟩])
   .ret)) }
def HC347 (P : Program) (N : Nat → Nat) : Prop := HasF P (N 347) (C347 N) ∧ HC348 P N
def f347 (k : Nat) (a0 : TJson) : Option Bool := (f348 k (TJson.mk a0.fKind a0.fText a0.fL a0.fKeys) (0 : Int)).bind fun r10 => some r10
theorem F347 {P : Program} {N : Nat → Nat} (hmix : P.follows .mixedOrders = true) (hc : HC347 P N) {k : Nat} {a0 : TJson} {r : Bool} (h : f347 k a0 = some r) :
    ACalls P (N 347) [(.d (TJson.enc a0))] [] (.d (.bool r)) [] := by
  refine acalls_canon (F := C347 N) hc.1 0 0 rfl ?_
  unfold f347 at h
  dsimp only [C347, startL]
  refine AWc.seq (AWc.rE hmix [] ?_)
  refine AWc.seq ?_
  obtain ⟨r10, e10, h⟩ := bind_some h
  refine AWc.rE hmix [.call (F348 hmix hc.2 e10) [] 0] ?_
  have hr := Option.some.inj h
  subst hr
  exact AWc.ret (canQ (N := 5) (k := 0) (l' := [(2, (.d (.bool r10)))]) (H' := []) rfl (inT [] []) (doneA (.inr rfl) rfl ⟨trivial, trivial⟩ (.refl _) hasNil))
def RH437 (P : Program) (N : Nat → Nat) (rc437 : TJson → TJson → Option Bool) : Prop := ∀ (a0 : TJson) (a1 : TJson) (r : Bool), rc437 a0 a1 = some r → ACalls P (N 437) [(.d (TJson.enc a0)), (.d (TJson.enc a1))] [] (.d (.bool r)) []
/-- courant/couranthelp.Same[courant/api.Json] -/
def C438 (N : Nat → Nat) : AFunc := { n := 30, params := 3, res := [.tmp 6], body :=
 (.seq (.region false [⟨some 6, .mv (.k (.d (.bool false))), none, []⟩])
 (.seq (.seq (.region false [⟨some 8, .mv (.t 0), none, []⟩,
 ⟨some 9, .len (.t 8), none, [0]⟩,
 ⟨some 10, .mv (.t 1), none, []⟩,
 ⟨some 11, .len (.t 10), none, [2]⟩,
 ⟨some 12, .bin .neq (.t 9) (.t 11), none, [1, 3]⟩])
    (.cond (.t 12) (.seq (.region false [⟨some 6, .mv (.k (.d (.bool false))), none, []⟩])
      .ret)
     (.skip)))
 (.seq (.seq (.region false [⟨some 7, .mv (.k (.d (.int .i64 0))), none, []⟩])
     (.block 0 (.loop (.seq (.seq (.region false [⟨some 13, .mv (.t 7), none, []⟩,
 ⟨some 14, .mv (.t 0), none, []⟩,
 ⟨some 15, .len (.t 14), none, [1]⟩,
 ⟨some 16, .bin .lss (.t 13) (.t 15), none, [0, 2]⟩])
         (.cond (.t 16) (.skip)
          (.exit 0)))
 (.seq (.block 1 (.seq (.region true [⟨some 19, .mv (.t 2), none, []⟩,
 ⟨some 20, .mv (.t 0), none, []⟩,
 ⟨some 21, .mv (.t 7), none, []⟩,
 ⟨some 22, .iaddr (.t 20) (.t 21) 4, none, [1, 2]⟩,
 ⟨some 23, .load (.t 22) 4 true, none, [3]⟩,
 ⟨some 24, .mv (.t 1), none, []⟩,
 ⟨some 25, .mv (.t 7), none, []⟩,
 ⟨some 26, .iaddr (.t 24) (.t 25) 4, none, [5, 6]⟩,
 ⟨some 27, .load (.t 26) 4 true, none, [7]⟩,
 ⟨some 28, .call (.t 19) [(.t 23), (.t 27)], none, [0, 4, 8]⟩,
 ⟨some 29, .un .not (.t 28), none, [9]⟩])
           (.cond (.t 29) (.seq (.region false [⟨some 6, .mv (.k (.d (.bool false))), none, []⟩])
             .ret)
            (.skip))))
         (.region false [⟨some 17, .mv (.t 7), none, []⟩,
 ⟨some 18, .bin .add (.t 17) (.k (.d (.int .i64 1))), none, [0]⟩,
 ⟨some 7, .mv (.t 18), none, [1, 0]⟩]))))))
 (.seq (.region false [⟨some 6, .mv (.k (.d (.bool true))), none, []⟩])
     .ret)))) }
def HC438 (P : Program) (N : Nat → Nat) : Prop := HasF P (N 438) (C438 N)
def f438_l26 (a0 : (List (RT 4))) (a1 : (List (RT 4))) (rc437 : TJson → TJson → Option Bool) : Nat → Int → Option (LR2 Unit Unit Bool)
  | 0, _ => none
  | k + 1, y26_1 => cond (decide (y26_1 < ((a0.length : Nat) : Int))) (gd (0 ≤ y26_1 ∧ y26_1 < ((a0.length : Nat) : Int)) ((TJson.dec (rtE (rd a0 y26_1))).bind fun rx47 => gd (0 ≤ y26_1 ∧ y26_1 < ((a1.length : Nat) : Int)) ((TJson.dec (rtE (rd a1 y26_1))).bind fun rx51 => (rc437 rx47 rx51).bind fun r53 => cond (!r53) (some (.r false)) (f438_l26 a0 a1 rc437 k (IntKind.i64.wrap (y26_1 + (1 : Int))))))) (some (.b0 ()))
def f438 (rc437 : TJson → TJson → Option Bool) (k : Nat) (a0 : (List (RT 4))) (a1 : (List (RT 4))) : Option Bool := cond (decide (((a0.length : Nat) : Int) ≠ ((a1.length : Nat) : Int))) (some false) ((f438_l26 a0 a1 rc437 k (0 : Int)).bind fun o26 => (match o26 with | .b0 () => some true | .r x => some x | _ => none))
theorem F438 {P : Program} {N : Nat → Nat} (hmix : P.follows .mixedOrders = true) (hc : HC438 P N) {rc437 : TJson → TJson → Option Bool} (hrc437 : RH437 P N rc437) {k : Nat} {a0 : (List (RT 4))} {a1 : (List (RT 4))} {r : Bool} (h : f438 rc437 k a0 a1 = some r) :
    ACalls P (N 438) [(.d (.sl (List.map (rtE (z := 4)) a0))), (.d (.sl (List.map (rtE (z := 4)) a1))), (.d (.fn (N 437)))] [] (.d (.bool r)) [] := by
  refine acalls_canon (F := C438 N) hc 0 0 rfl ?_
  unfold f438 at h
  dsimp only [C438, startL]
  refine AWc.seq (AWc.rE hmix [] ?_)
  refine AWc.seq (AWc.seq (AWc.rE hmix [.ln (rtE (z := 4)) a0, .ln (rtE (z := 4)) a1] ?_))
  rcases cc h with ⟨c14, h⟩ | ⟨c14, h⟩
  · refine AWc.cT c14 ?_
    refine AWc.seq (AWc.rE hmix [] ?_)
    have hr := Option.some.inj h
    subst hr
    exact AWc.ret (canQ (N := 30) (k := 0) (l' := [(6, (.d (.bool false)))]) (H' := []) rfl (inT [] []) (doneA (.inr rfl) rfl ⟨trivial, trivial⟩ (.refl _) hasNil))
  · refine AWc.cF c14 ?_
    refine AWc.skip (AWc.seq (AWc.seq (AWc.rE hmix [] ?_)))
    obtain ⟨o26, h26, h⟩ := bind_some h
    refine AWc.block ?_
    refine AWc.loopK (N := 30) 0 (fun (x : Int) => [(0, (.d (.sl (List.map (rtE (z := 4)) a0)))), (1, (.d (.sl (List.map (rtE (z := 4)) a1)))), (2, (.d (.fn (N 437)))), (7, (.d (.int .i64 x)))]) (fun x => []) (fun k x => f438_l26 a0 a1 rc437 k x = some o26) k (0 : Int) rfl_le (fun x hx => by cases hx) h26 (inT [] []) ?_
    clear h26
    intro k
    intro y26_1 h26
    rw [f438_l26] at h26
    refine AWc.seq (AWc.seq (AWc.rE hmix [.ln (rtE (z := 4)) a0] ?_))
    rcases cc h26 with ⟨c36, h26⟩ | ⟨c36, h26⟩
    · refine AWc.cT c36 ?_
      refine AWc.skip (AWc.seq (AWc.block (AWc.seq ?_)))
      obtain ⟨b47, h26⟩ := gd_some h26
      obtain ⟨rx47, ex47, h26⟩ := bind_some h26
      obtain ⟨b51, h26⟩ := gd_some h26
      obtain ⟨rx51, ex51, h26⟩ := bind_some h26
      obtain ⟨r53, e53, h26⟩ := bind_some h26
      refine AWc.rE hmix [.iadE (rtE (z := 4)) a0 4 rtE_ok.len b47 (TJson.dec_eq ex47), .iadE (rtE (z := 4)) a1 4 rtE_ok.len b51 (TJson.dec_eq ex51), .call (hrc437 _ _ _ e53) [] 0] ?_
      rcases cc h26 with ⟨c55, h26⟩ | ⟨c55, h26⟩
      · refine AWc.cT c55 ?_
        refine AWc.seq (AWc.rE hmix [] ?_)
        cases h26
        dsimp only at h
        have hr := Option.some.inj h
        subst hr
        exact AWc.ret (canQ (N := 30) (k := 0) (l' := [(6, (.d (.bool false)))]) (H' := []) rfl (inT [] []) (doneA (.inr rfl) rfl ⟨trivial, trivial⟩ (.refl _) hasNil))
      · refine AWc.cF c55 ?_
        refine AWc.skip (AWc.rE hmix [] ?_)
        exact ⟨(IntKind.i64.wrap (y26_1 + (1 : Int))), h26, (inT [] [])⟩
    · refine AWc.cF c36 ?_
      cases h26
      dsimp only at h
      refine AWc.exit ?_
      refine inBlk_eq ?_
      refine AWc.seq (AWc.rE hmix [] ?_)
      have hr := Option.some.inj h
      subst hr
      exact AWc.ret (canQ (N := 30) (k := 0) (l' := [(6, (.d (.bool true)))]) (H' := []) rfl (inT [] []) (doneA (.inr rfl) rfl ⟨trivial, trivial⟩ (.refl _) hasNil))
/-- courant/couranthelp.Plain[string]$1 -/
def C436 (N : Nat → Nat) : AFunc := { n := 8, params := 2, res := [.tmp 4], body :=
 (.seq (.region false [⟨some 4, .mv (.k (.d (.bool false))), none, []⟩])
 (.seq (.region false [⟨some 5, .mv (.t 0), none, []⟩,
 ⟨some 6, .mv (.t 1), none, []⟩,
 ⟨some 7, .bin .eql (.t 5) (.t 6), none, [0, 1]⟩,
 ⟨some 4, .mv (.t 7), none, [2, 0, 1]⟩])
   .ret)) }
def HC436 (P : Program) (N : Nat → Nat) : Prop := HasF P (N 436) (C436 N)
def f436 (k : Nat) (a0 : (List UInt8)) (a1 : (List UInt8)) : Option Unit := some ()
theorem F436 {P : Program} {N : Nat → Nat} (hmix : P.follows .mixedOrders = true) (hc : HC436 P N) {k : Nat} {a0 : (List UInt8)} {a1 : (List UInt8)} {r : Unit} (h : f436 k a0 a1 = some r) :
    ACalls P (N 436) [(.d (.str a0)), (.d (.str a1))] [] (.d (.bool (decide (a0 = a1)))) [] := by
  refine acalls_canon (F := C436 N) hc 0 0 rfl ?_
  unfold f436 at h
  dsimp only [C436, startL]
  refine AWc.seq (AWc.rE hmix [] ?_)
  refine AWc.seq (AWc.rE hmix [] ?_)
  have hr := Option.some.inj h
  subst hr
  exact AWc.ret (canQ (N := 8) (k := 0) (l' := [(4, (.d (.bool (decide (a0 = a1)))))]) (H' := []) rfl (inT [] []) (doneA (.inr rfl) rfl ⟨trivial, trivial⟩ (.refl _) hasNil))
/-- courant/couranthelp.Same[string] -/
def C435 (N : Nat → Nat) : AFunc := { n := 30, params := 3, res := [.tmp 6], body :=
 (.seq (.region false [⟨some 6, .mv (.k (.d (.bool false))), none, []⟩])
 (.seq (.seq (.region false [⟨some 8, .mv (.t 0), none, []⟩,
 ⟨some 9, .len (.t 8), none, [0]⟩,
 ⟨some 10, .mv (.t 1), none, []⟩,
 ⟨some 11, .len (.t 10), none, [2]⟩,
 ⟨some 12, .bin .neq (.t 9) (.t 11), none, [1, 3]⟩])
    (.cond (.t 12) (.seq (.region false [⟨some 6, .mv (.k (.d (.bool false))), none, []⟩])
      .ret)
     (.skip)))
 (.seq (.seq (.region false [⟨some 7, .mv (.k (.d (.int .i64 0))), none, []⟩])
     (.block 0 (.loop (.seq (.seq (.region false [⟨some 13, .mv (.t 7), none, []⟩,
 ⟨some 14, .mv (.t 0), none, []⟩,
 ⟨some 15, .len (.t 14), none, [1]⟩,
 ⟨some 16, .bin .lss (.t 13) (.t 15), none, [0, 2]⟩])
         (.cond (.t 16) (.skip)
          (.exit 0)))
 (.seq (.block 1 (.seq (.region true [⟨some 19, .mv (.t 2), none, []⟩,
 ⟨some 20, .mv (.t 0), none, []⟩,
 ⟨some 21, .mv (.t 7), none, []⟩,
 ⟨some 22, .iaddr (.t 20) (.t 21) 1, none, [1, 2]⟩,
 ⟨some 23, .load (.t 22) 1 false, none, [3]⟩,
 ⟨some 24, .mv (.t 1), none, []⟩,
 ⟨some 25, .mv (.t 7), none, []⟩,
 ⟨some 26, .iaddr (.t 24) (.t 25) 1, none, [5, 6]⟩,
 ⟨some 27, .load (.t 26) 1 false, none, [7]⟩,
 ⟨some 28, .call (.t 19) [(.t 23), (.t 27)], none, [0, 4, 8]⟩,
 ⟨some 29, .un .not (.t 28), none, [9]⟩])
           (.cond (.t 29) (.seq (.region false [⟨some 6, .mv (.k (.d (.bool false))), none, []⟩])
             .ret)
            (.skip))))
         (.region false [⟨some 17, .mv (.t 7), none, []⟩,
 ⟨some 18, .bin .add (.t 17) (.k (.d (.int .i64 1))), none, [0]⟩,
 ⟨some 7, .mv (.t 18), none, [1, 0]⟩]))))))
 (.seq (.region false [⟨some 6, .mv (.k (.d (.bool true))), none, []⟩])
     .ret)))) }
def HC435 (P : Program) (N : Nat → Nat) : Prop := HasF P (N 435) (C435 N) ∧ HC436 P N
def f435_l26 (a0 : (List (List UInt8))) (a1 : (List (List UInt8))) : Nat → Int → Option (LR2 Unit Unit Bool)
  | 0, _ => none
  | k + 1, y26_1 => cond (decide (y26_1 < ((a0.length : Nat) : Int))) (gd (0 ≤ y26_1 ∧ y26_1 < ((a0.length : Nat) : Int)) (gd (0 ≤ y26_1 ∧ y26_1 < ((a1.length : Nat) : Int)) ((f436 k (rd a0 y26_1) (rd a1 y26_1)).bind fun r53 => cond (!(decide ((rd a0 y26_1) = (rd a1 y26_1)))) (some (.r false)) (f435_l26 a0 a1 k (IntKind.i64.wrap (y26_1 + (1 : Int))))))) (some (.b0 ()))
def f435 (k : Nat) (a0 : (List (List UInt8))) (a1 : (List (List UInt8))) : Option Bool := cond (decide (((a0.length : Nat) : Int) ≠ ((a1.length : Nat) : Int))) (some false) ((f435_l26 a0 a1 k (0 : Int)).bind fun o26 => (match o26 with | .b0 () => some true | .r x => some x | _ => none))
theorem F435 {P : Program} {N : Nat → Nat} (hmix : P.follows .mixedOrders = true) (hc : HC435 P N) {k : Nat} {a0 : (List (List UInt8))} {a1 : (List (List UInt8))} {r : Bool} (h : f435 k a0 a1 = some r) :
    ACalls P (N 435) [(.d (.sl (List.map D.str a0))), (.d (.sl (List.map D.str a1))), (.d (.fn (N 436)))] [] (.d (.bool r)) [] := by
  refine acalls_canon (F := C435 N) hc.1 0 0 rfl ?_
  unfold f435 at h
  dsimp only [C435, startL]
  refine AWc.seq (AWc.rE hmix [] ?_)
  refine AWc.seq (AWc.seq (AWc.rE hmix [.ln D.str a0, .ln D.str a1] ?_))
  rcases cc h with ⟨c14, h⟩ | ⟨c14, h⟩
  · refine AWc.cT c14 ?_
    refine AWc.seq (AWc.rE hmix [] ?_)
    have hr := Option.some.inj h
    subst hr
    exact AWc.ret (canQ (N := 30) (k := 0) (l' := [(6, (.d (.bool false)))]) (H' := []) rfl (inT [] []) (doneA (.inr rfl) rfl ⟨trivial, trivial⟩ (.refl _) hasNil))
  · refine AWc.cF c14 ?_
    refine AWc.skip (AWc.seq (AWc.seq (AWc.rE hmix [] ?_)))
    obtain ⟨o26, h26, h⟩ := bind_some h
    refine AWc.block ?_
    refine AWc.loopK (N := 30) 0 (fun (x : Int) => [(0, (.d (.sl (List.map D.str a0)))), (1, (.d (.sl (List.map D.str a1)))), (2, (.d (.fn (N 436)))), (7, (.d (.int .i64 x)))]) (fun x => []) (fun k x => f435_l26 a0 a1 k x = some o26) k (0 : Int) rfl_le (fun x hx => by cases hx) h26 (inT [] []) ?_
    clear h26
    intro k
    intro y26_1 h26
    rw [f435_l26] at h26
    refine AWc.seq (AWc.seq (AWc.rE hmix [.ln D.str a0] ?_))
    rcases cc h26 with ⟨c36, h26⟩ | ⟨c36, h26⟩
    · refine AWc.cT c36 ?_
      refine AWc.skip (AWc.seq (AWc.block (AWc.seq ?_)))
      obtain ⟨b47, h26⟩ := gd_some h26
      obtain ⟨b51, h26⟩ := gd_some h26
      obtain ⟨r53, e53, h26⟩ := bind_some h26
      refine AWc.rE hmix [.iad D.str a0 1 (fun _ => rfl) b47, .iad D.str a1 1 (fun _ => rfl) b51, .call (F436 hmix hc.2 e53) [] 0] ?_
      rcases cc h26 with ⟨c55, h26⟩ | ⟨c55, h26⟩
      · refine AWc.cT c55 ?_
        refine AWc.seq (AWc.rE hmix [] ?_)
        cases h26
        dsimp only at h
        have hr := Option.some.inj h
        subst hr
        exact AWc.ret (canQ (N := 30) (k := 0) (l' := [(6, (.d (.bool false)))]) (H' := []) rfl (inT [] []) (doneA (.inr rfl) rfl ⟨trivial, trivial⟩ (.refl _) hasNil))
      · refine AWc.cF c55 ?_
        refine AWc.skip (AWc.rE hmix [] ?_)
        exact ⟨(IntKind.i64.wrap (y26_1 + (1 : Int))), h26, (inT [] [])⟩
    · refine AWc.cF c36 ?_
      cases h26
      dsimp only at h
      refine AWc.exit ?_
      refine inBlk_eq ?_
      refine AWc.seq (AWc.rE hmix [] ?_)
      have hr := Option.some.inj h
      subst hr
      exact AWc.ret (canQ (N := 30) (k := 0) (l' := [(6, (.d (.bool true)))]) (H' := []) rfl (inT [] []) (doneA (.inr rfl) rfl ⟨trivial, trivial⟩ (.refl _) hasNil))
/-- courant/couranthelp.Plain[string] -/
def C434 (N : Nat → Nat) : AFunc := { n := 8, params := 2, res := [.tmp 4], body :=
 (.seq (.region false [⟨some 4, .mv (.k (.d (.bool false))), none, []⟩])
 (.seq (.region false [⟨some 5, .mv (.t 0), none, []⟩,
 ⟨some 6, .mv (.t 1), none, []⟩,
 ⟨some 7, .call (.k (.d (.fn (N 435)))) [(.t 5), (.t 6), (.k (.d (.fn (N 436))))], none, [0, 1]⟩,
 ⟨some 4, .mv (.t 7), none, [2, 0, 1]⟩])
   .ret)) }
def HC434 (P : Program) (N : Nat → Nat) : Prop := HasF P (N 434) (C434 N) ∧ HC435 P N
def f434 (k : Nat) (a0 : (List (List UInt8))) (a1 : (List (List UInt8))) : Option Bool := (f435 k a0 a1).bind fun r10 => some r10
theorem F434 {P : Program} {N : Nat → Nat} (hmix : P.follows .mixedOrders = true) (hc : HC434 P N) {k : Nat} {a0 : (List (List UInt8))} {a1 : (List (List UInt8))} {r : Bool} (h : f434 k a0 a1 = some r) :
    ACalls P (N 434) [(.d (.sl (List.map D.str a0))), (.d (.sl (List.map D.str a1)))] [] (.d (.bool r)) [] := by
  refine acalls_canon (F := C434 N) hc.1 0 0 rfl ?_
  unfold f434 at h
  dsimp only [C434, startL]
  refine AWc.seq (AWc.rE hmix [] ?_)
  refine AWc.seq ?_
  obtain ⟨r10, e10, h⟩ := bind_some h
  refine AWc.rE hmix [.call (F435 hmix hc.2 e10) [] 0] ?_
  have hr := Option.some.inj h
  subst hr
  exact AWc.ret (canQ (N := 8) (k := 0) (l' := [(4, (.d (.bool r10)))]) (H' := []) rfl (inT [] []) (doneA (.inr rfl) rfl ⟨trivial, trivial⟩ (.refl _) hasNil))
/-- courant/couranthelp.Json -/
def C437 (N : Nat → Nat) : AFunc := { n := 31, params := 2, res := [.tmp 4], body :=
 (.seq (.region false [⟨some 2, .box (.t 0), none, []⟩,
 ⟨some 3, .box (.t 1), none, []⟩,
 ⟨some 4, .mv (.k (.d (.bool false))), none, []⟩])
 (.seq (.region false [⟨some 5, .faddr (.t 2) 0, none, []⟩,
 ⟨some 6, .load (.t 5) 1 false, none, [0]⟩,
 ⟨some 7, .faddr (.t 3) 0, none, []⟩,
 ⟨some 8, .load (.t 7) 1 false, none, [2]⟩,
 ⟨some 9, .bin .eql (.t 6) (.t 8), none, [1, 3]⟩,
 ⟨some 10, .mv (.t 9), none, [4]⟩,
 ⟨some 11, .faddr (.t 2) 1, some (10, true), [5]⟩,
 ⟨some 12, .load (.t 11) 1 false, some (10, true), [6, 5]⟩,
 ⟨some 13, .faddr (.t 3) 1, some (10, true), [5]⟩,
 ⟨some 14, .load (.t 13) 1 false, some (10, true), [8, 5]⟩,
 ⟨some 15, .bin .eql (.t 12) (.t 14), some (10, true), [7, 9, 5]⟩,
 ⟨some 16, .pick (.t 10) (.t 15) (.k (.d (.bool false))), none, [5, 10]⟩,
 ⟨some 17, .mv (.t 16), none, [11, 5]⟩,
 ⟨some 18, .faddr (.t 2) 2, some (17, true), [12]⟩,
 ⟨some 19, .load (.t 18) 1 false, some (17, true), [13, 12]⟩,
 ⟨some 20, .faddr (.t 3) 2, some (17, true), [12]⟩,
 ⟨some 21, .load (.t 20) 1 false, some (17, true), [15, 12]⟩,
 ⟨some 22, .call (.k (.d (.fn (N 438)))) [(.t 19), (.t 21), (.k (.d (.fn (N 437))))], some (17, true), [14, 16, 12]⟩,
 ⟨some 23, .pick (.t 17) (.t 22) (.k (.d (.bool false))), none, [12, 17]⟩,
 ⟨some 24, .mv (.t 23), none, [18, 17]⟩,
 ⟨some 25, .faddr (.t 2) 3, some (24, true), [19]⟩,
 ⟨some 26, .load (.t 25) 1 false, some (24, true), [20, 19]⟩,
 ⟨some 27, .faddr (.t 3) 3, some (24, true), [19]⟩,
 ⟨some 28, .load (.t 27) 1 false, some (24, true), [22, 19]⟩,
 ⟨some 29, .call (.k (.d (.fn (N 434)))) [(.t 26), (.t 28)], some (24, true), [21, 23, 19]⟩,
 ⟨some 30, .pick (.t 24) (.t 29) (.k (.d (.bool false))), none, [19, 24]⟩,
 ⟨some 4, .mv (.t 30), none, [25, 24, 0, 1, 2, 3, 4, 5, 6, 7, 8, 9, 10, 11, 12, 13, 14, 15, 16, 17, 18, 19, 20, 21, 22, 23]⟩])
   .ret)) }
def HC437 (P : Program) (N : Nat → Nat) : Prop := HasF P (N 437) (C437 N) ∧ HC438 P N ∧ HC434 P N
def f437_s (rc437 : TJson → TJson → Option Bool) (k : Nat) (a0 : TJson) (a1 : TJson) : Option Bool := cond (decide (a0.fKind = a1.fKind)) (cond (decide (a0.fText = a1.fText)) ((f438 rc437 k a0.fL a1.fL).bind fun r27 => cond r27 ((f434 k a0.fKeys a1.fKeys).bind fun r34 => some r34) (some false)) (some false)) (some false)
theorem F437_s {P : Program} {N : Nat → Nat} (hmix : P.follows .mixedOrders = true) (hc : HC437 P N) {rc437 : TJson → TJson → Option Bool} (hrc437 : RH437 P N rc437) {k : Nat} {a0 : TJson} {a1 : TJson} {r : Bool} (h : f437_s rc437 k a0 a1 = some r) :
    ACalls P (N 437) [(.d (TJson.enc a0)), (.d (TJson.enc a1))] [] (.d (.bool r)) [] := by
  refine acalls_canon (F := C437 N) hc.1 0 0 rfl ?_
  unfold f437_s at h
  dsimp only [C437, startL]
  refine AWc.seq (AWc.rE hmix [] ?_)
  refine AWc.seq ?_
  rcases cc h with ⟨c15, h⟩ | ⟨c15, h⟩
  · rcases cc h with ⟨c22, h⟩ | ⟨c22, h⟩
    · obtain ⟨r27, e27, h⟩ := bind_some h
      rcases cc h with ⟨c29, h⟩ | ⟨c29, h⟩
      · obtain ⟨r34, e34, h⟩ := bind_some h
        refine AWc.rE hmix [.br c15, .br c22, .call (F438 hmix hc.2.1 hrc437 e27) [] 0, .br c29, .call (F434 hmix hc.2.2 e34) [] 0] ?_
        have hr := Option.some.inj h
        subst hr
        exact AWc.ret (canQ (N := 31) (k := 0) (l' := [(4, (.d (.bool r34)))]) (H' := []) rfl (inT [] []) (doneA (.inr rfl) rfl ⟨trivial, trivial⟩ (.refl _) hasNil))
      · refine AWc.rE hmix [.br c15, .br c22, .call (F438 hmix hc.2.1 hrc437 e27) [] 0, .br c29] ?_
        have hr := Option.some.inj h
        subst hr
        exact AWc.ret (canQ (N := 31) (k := 0) (l' := [(4, (.d (.bool false)))]) (H' := []) rfl (inT [] []) (doneA (.inr rfl) rfl ⟨trivial, trivial⟩ (.refl _) hasNil))
    · refine AWc.rE hmix [.br c15, .br c22, .br (rfl : false = false)] ?_
      have hr := Option.some.inj h
      subst hr
      exact AWc.ret (canQ (N := 31) (k := 0) (l' := [(4, (.d (.bool false)))]) (H' := []) rfl (inT [] []) (doneA (.inr rfl) rfl ⟨trivial, trivial⟩ (.refl _) hasNil))
  · refine AWc.rE hmix [.br c15, .br (rfl : false = false), .br (rfl : false = false)] ?_
    have hr := Option.some.inj h
    subst hr
    exact AWc.ret (canQ (N := 31) (k := 0) (l' := [(4, (.d (.bool false)))]) (H' := []) rfl (inT [] []) (doneA (.inr rfl) rfl ⟨trivial, trivial⟩ (.refl _) hasNil))
def f437 : Nat → TJson → TJson → Option Bool
  | 0, _, _ => none
  | k + 1, a0, a1 => f437_s (f437 k) k a0 a1
theorem F437 {P : Program} {N : Nat → Nat} (hmix : P.follows .mixedOrders = true) (hc : HC437 P N) {k : Nat} {a0 : TJson} {a1 : TJson} {r : Bool} (h : f437 k a0 a1 = some r) :
    ACalls P (N 437) [(.d (TJson.enc a0)), (.d (TJson.enc a1))] [] (.d (.bool r)) [] := by
  induction k generalizing a0 a1 r with
  | zero => exact absurd (show (none : Option _) = some r from h) (fun h2 => by cases h2)
  | succ k ih => exact F437_s hmix hc (fun _ _ _ h => ih h) h
def RH355 (P : Program) (N : Nat → Nat) (rc355 : TJson → Option (List UInt8)) : Prop := ∀ (a0 : TJson) (r : (List UInt8)), rc355 a0 = some r → ACalls P (N 355) [(.d (TJson.enc a0))] [] (.d (.str r)) []
/-- courant/courantref02.Quote -/
def C356 (N : Nat → Nat) : AFunc := { n := 58, params := 1, res := [.tmp 2], body :=
 (.seq (.region false [⟨some 2, .mv (.k (.d (.str []))), none, []⟩])
 (.seq (.region false [⟨some 3, .mv (.k (.d (.str [34]))), none, []⟩])
 (.seq (.seq (.region false [⟨some 4, .mv (.k (.d (.int .i64 0))), none, []⟩])
     (.block 0 (.loop (.seq (.seq (.region false [⟨some 6, .mv (.t 4), none, []⟩,
 ⟨some 7, .mv (.t 0), none, []⟩,
 ⟨some 8, .slen (.t 7), none, [1]⟩,
 ⟨some 9, .bin .lss (.t 6) (.t 8), none, [0, 2]⟩])
         (.cond (.t 9) (.skip)
          (.exit 0)))
 (.seq (.block 1 (.seq (.region false [⟨some 12, .mv (.t 0), none, []⟩,
 ⟨some 13, .mv (.t 4), none, []⟩,
 ⟨some 14, .idx (.t 12) (.t 13), none, [0, 1]⟩,
 ⟨some 5, .mv (.t 14), none, [2, 0, 1]⟩])
           (.block 2 (.seq (.region false [⟨some 23, .mv (.t 5), none, []⟩,
 ⟨some 24, .bin .eql (.t 23) (.k (.d (.int .u8 34))), none, [0]⟩,
 ⟨some 25, .mv (.t 24), none, [1]⟩,
 ⟨some 26, .mv (.t 5), some (25, false), [2]⟩,
 ⟨some 27, .bin .eql (.t 26) (.k (.d (.int .u8 92))), some (25, false), [3, 2]⟩,
 ⟨some 28, .pick (.t 25) (.k (.d (.bool true))) (.t 27), none, [2, 4]⟩,
 ⟨some 22, .mv (.t 28), none, [5, 2]⟩])
             (.cond (.t 22) (.region false [⟨some 29, .mv (.t 3), none, []⟩,
 ⟨some 30, .bin .add (.t 29) (.k (.d (.str [92]))), none, [0]⟩,
 ⟨some 31, .mv (.t 0), none, []⟩,
 ⟨some 32, .mv (.t 4), none, []⟩,
 ⟨some 33, .mv (.t 4), none, []⟩,
 ⟨some 34, .bin .add (.t 33) (.k (.d (.int .i64 1))), none, [4]⟩,
 ⟨some 35, .ssl (.t 31) (some (.t 32)) (some (.t 34)), none, [2, 3, 5]⟩,
 ⟨some 36, .bin .add (.t 30) (.t 35), none, [1, 6]⟩,
 ⟨some 3, .mv (.t 36), none, [7, 0, 1, 2, 3, 4, 5, 6]⟩])
 (.seq (.region false [⟨some 38, .mv (.t 5), none, []⟩,
 ⟨some 39, .bin .lss (.t 38) (.k (.d (.int .u8 32))), none, [0]⟩,
 ⟨some 37, .mv (.t 39), none, [1]⟩])
               (.cond (.t 37) (.region true [⟨some 40, .mv (.t 3), none, []⟩,
 ⟨some 41, .bin .add (.t 40) (.k (.d (.str [92, 117, 48, 48]))), none, [0]⟩,
 ⟨some 42, .mv (.t 5), none, []⟩,
 ⟨some 43, .bin .shr (.t 42) (.k (.d (.int .u64 4))), none, [2]⟩,
 ⟨some 44, .mv (.t 5), none, []⟩,
 ⟨some 45, .bin .shr (.t 44) (.k (.d (.int .u64 4))), none, [4]⟩,
 ⟨some 46, .bin .add (.t 45) (.k (.d (.int .u8 1))), none, [5]⟩,
 ⟨some 47, .ssl (.k (.d (.str [48, 49, 50, 51, 52, 53, 54, 55, 56, 57, 97, 98, 99, 100, 101, 102]))) (some (.t 43)) (some (.t 46)), none, [3, 6]⟩,
 ⟨some 48, .bin .add (.t 41) (.t 47), none, [1, 7]⟩,
 ⟨some 49, .mv (.t 5), none, []⟩,
 ⟨some 50, .bin .and (.t 49) (.k (.d (.int .u8 15))), none, [9]⟩,
 ⟨some 51, .mv (.t 5), none, []⟩,
 ⟨some 52, .bin .and (.t 51) (.k (.d (.int .u8 15))), none, [11]⟩,
 ⟨some 53, .bin .add (.t 52) (.k (.d (.int .u8 1))), none, [12]⟩,
 ⟨some 54, .ssl (.k (.d (.str [48, 49, 50, 51, 52, 53, 54, 55, 56, 57, 97, 98, 99, 100, 101, 102]))) (some (.t 50)) (some (.t 53)), none, [10, 13]⟩,
 ⟨some 55, .bin .add (.t 48) (.t 54), none, [8, 14]⟩,
 ⟨some 3, .mv (.t 55), none, [15, 0, 1, 2, 3, 4, 5, 6, 7, 8, 9, 10, 11, 12, 13, 14]⟩])
                (.region false [⟨some 15, .mv (.t 3), none, []⟩,
 ⟨some 16, .mv (.t 0), none, []⟩,
 ⟨some 17, .mv (.t 4), none, []⟩,
 ⟨some 18, .mv (.t 4), none, []⟩,
 ⟨some 19, .bin .add (.t 18) (.k (.d (.int .i64 1))), none, [3]⟩,
 ⟨some 20, .ssl (.t 16) (some (.t 17)) (some (.t 19)), none, [1, 2, 4]⟩,
 ⟨some 21, .bin .add (.t 15) (.t 20), none, [0, 5]⟩,
 ⟨some 3, .mv (.t 21), none, [6, 0, 1, 2, 3, 4, 5]⟩]))))))))
         (.region false [⟨some 10, .mv (.t 4), none, []⟩,
 ⟨some 11, .bin .add (.t 10) (.k (.d (.int .i64 1))), none, [0]⟩,
 ⟨some 4, .mv (.t 11), none, [1, 0]⟩]))))))
 (.seq (.region false [⟨some 56, .mv (.t 3), none, []⟩,
 ⟨some 57, .bin .add (.t 56) (.k (.d (.str [34]))), none, [0]⟩,
 ⟨some 2, .mv (.t 57), none, [1, 0]⟩])
     .ret)))) }
def HC356 (P : Program) (N : Nat → Nat) : Prop := HasF P (N 356) (C356 N)
def f356_j100 (k : Nat) (j100_1 : (List UInt8)) : Option (List UInt8) := gd (j100_1.length + ([34] : List UInt8).length ≤ 9223372036854775807) (some (j100_1 ++ ([34] : List UInt8)))
def f356_j47 (L : (List UInt8) → Int → Option (LR2 (List UInt8) Unit (List UInt8))) (k : Nat) (y14_1 : (List UInt8)) (y14_2 : Int) (a0 : (List UInt8)) (j47_1 : Bool) : Option (LR2 (List UInt8) Unit (List UInt8)) := cond j47_1 (gd (y14_1.length + ([92] : List UInt8).length ≤ 9223372036854775807) (gd (0 ≤ y14_2 ∧ y14_2 ≤ (IntKind.i64.wrap (y14_2 + (1 : Int))) ∧ (IntKind.i64.wrap (y14_2 + (1 : Int))) ≤ ((a0.length : Nat) : Int)) (gd ((y14_1 ++ ([92] : List UInt8)).length + (sl a0 y14_2 (IntKind.i64.wrap (y14_2 + (1 : Int)))).length ≤ 9223372036854775807) (L ((y14_1 ++ ([92] : List UInt8)) ++ (sl a0 y14_2 (IntKind.i64.wrap (y14_2 + (1 : Int))))) (IntKind.i64.wrap (y14_2 + (1 : Int))))))) (cond (decide ((((a0.getD (y14_2).toNat 0).toNat : Nat) : Int) < (32 : Int))) (gd (y14_1.length + ([92, 117, 48, 48] : List UInt8).length ≤ 9223372036854775807) (gd (0 ≤ (Int.fdiv (((a0.getD (y14_2).toNat 0).toNat : Nat) : Int) (2 ^ (min ((4 : Int)).toNat IntKind.u8.bits))) ∧ (Int.fdiv (((a0.getD (y14_2).toNat 0).toNat : Nat) : Int) (2 ^ (min ((4 : Int)).toNat IntKind.u8.bits))) ≤ (((u8 (IntKind.u8.wrap ((Int.fdiv (((a0.getD (y14_2).toNat 0).toNat : Nat) : Int) (2 ^ (min ((4 : Int)).toNat IntKind.u8.bits))) + (1 : Int)))).toNat : Nat) : Int) ∧ (((u8 (IntKind.u8.wrap ((Int.fdiv (((a0.getD (y14_2).toNat 0).toNat : Nat) : Int) (2 ^ (min ((4 : Int)).toNat IntKind.u8.bits))) + (1 : Int)))).toNat : Nat) : Int) ≤ ((([48, 49, 50, 51, 52, 53, 54, 55, 56, 57, 97, 98, 99, 100, 101, 102] : List UInt8).length : Nat) : Int)) (gd ((y14_1 ++ ([92, 117, 48, 48] : List UInt8)).length + (sl ([48, 49, 50, 51, 52, 53, 54, 55, 56, 57, 97, 98, 99, 100, 101, 102] : List UInt8) (Int.fdiv (((a0.getD (y14_2).toNat 0).toNat : Nat) : Int) (2 ^ (min ((4 : Int)).toNat IntKind.u8.bits))) (((u8 (IntKind.u8.wrap ((Int.fdiv (((a0.getD (y14_2).toNat 0).toNat : Nat) : Int) (2 ^ (min ((4 : Int)).toNat IntKind.u8.bits))) + (1 : Int)))).toNat : Nat) : Int)).length ≤ 9223372036854775807) (gd (0 ≤ (((u8 (bitsA .and .u8 (((a0.getD (y14_2).toNat 0).toNat : Nat) : Int) (15 : Int))).toNat : Nat) : Int) ∧ (((u8 (bitsA .and .u8 (((a0.getD (y14_2).toNat 0).toNat : Nat) : Int) (15 : Int))).toNat : Nat) : Int) ≤ (((u8 (IntKind.u8.wrap ((((u8 (bitsA .and .u8 (((a0.getD (y14_2).toNat 0).toNat : Nat) : Int) (15 : Int))).toNat : Nat) : Int) + (1 : Int)))).toNat : Nat) : Int) ∧ (((u8 (IntKind.u8.wrap ((((u8 (bitsA .and .u8 (((a0.getD (y14_2).toNat 0).toNat : Nat) : Int) (15 : Int))).toNat : Nat) : Int) + (1 : Int)))).toNat : Nat) : Int) ≤ ((([48, 49, 50, 51, 52, 53, 54, 55, 56, 57, 97, 98, 99, 100, 101, 102] : List UInt8).length : Nat) : Int)) (gd (((y14_1 ++ ([92, 117, 48, 48] : List UInt8)) ++ (sl ([48, 49, 50, 51, 52, 53, 54, 55, 56, 57, 97, 98, 99, 100, 101, 102] : List UInt8) (Int.fdiv (((a0.getD (y14_2).toNat 0).toNat : Nat) : Int) (2 ^ (min ((4 : Int)).toNat IntKind.u8.bits))) (((u8 (IntKind.u8.wrap ((Int.fdiv (((a0.getD (y14_2).toNat 0).toNat : Nat) : Int) (2 ^ (min ((4 : Int)).toNat IntKind.u8.bits))) + (1 : Int)))).toNat : Nat) : Int))).length + (sl ([48, 49, 50, 51, 52, 53, 54, 55, 56, 57, 97, 98, 99, 100, 101, 102] : List UInt8) (((u8 (bitsA .and .u8 (((a0.getD (y14_2).toNat 0).toNat : Nat) : Int) (15 : Int))).toNat : Nat) : Int) (((u8 (IntKind.u8.wrap ((((u8 (bitsA .and .u8 (((a0.getD (y14_2).toNat 0).toNat : Nat) : Int) (15 : Int))).toNat : Nat) : Int) + (1 : Int)))).toNat : Nat) : Int)).length ≤ 9223372036854775807) (L (((y14_1 ++ ([92, 117, 48, 48] : List UInt8)) ++ (sl ([48, 49, 50, 51, 52, 53, 54, 55, 56, 57, 97, 98, 99, 100, 101, 102] : List UInt8) (Int.fdiv (((a0.getD (y14_2).toNat 0).toNat : Nat) : Int) (2 ^ (min ((4 : Int)).toNat IntKind.u8.bits))) (((u8 (IntKind.u8.wrap ((Int.fdiv (((a0.getD (y14_2).toNat 0).toNat : Nat) : Int) (2 ^ (min ((4 : Int)).toNat IntKind.u8.bits))) + (1 : Int)))).toNat : Nat) : Int))) ++ (sl ([48, 49, 50, 51, 52, 53, 54, 55, 56, 57, 97, 98, 99, 100, 101, 102] : List UInt8) (((u8 (bitsA .and .u8 (((a0.getD (y14_2).toNat 0).toNat : Nat) : Int) (15 : Int))).toNat : Nat) : Int) (((u8 (IntKind.u8.wrap ((((u8 (bitsA .and .u8 (((a0.getD (y14_2).toNat 0).toNat : Nat) : Int) (15 : Int))).toNat : Nat) : Int) + (1 : Int)))).toNat : Nat) : Int))) (IntKind.i64.wrap (y14_2 + (1 : Int))))))))) (gd (0 ≤ y14_2 ∧ y14_2 ≤ (IntKind.i64.wrap (y14_2 + (1 : Int))) ∧ (IntKind.i64.wrap (y14_2 + (1 : Int))) ≤ ((a0.length : Nat) : Int)) (gd (y14_1.length + (sl a0 y14_2 (IntKind.i64.wrap (y14_2 + (1 : Int)))).length ≤ 9223372036854775807) (L (y14_1 ++ (sl a0 y14_2 (IntKind.i64.wrap (y14_2 + (1 : Int))))) (IntKind.i64.wrap (y14_2 + (1 : Int)))))))
def f356_l14 (a0 : (List UInt8)) : Nat → (List UInt8) → Int → Option (LR2 (List UInt8) Unit (List UInt8))
  | 0, _, _ => none
  | k + 1, y14_1, y14_2 => cond (decide (y14_2 < ((a0.length : Nat) : Int))) (gd (0 ≤ y14_2 ∧ y14_2 < ((a0.length : Nat) : Int)) (cond (decide ((((a0.getD (y14_2).toNat 0).toNat : Nat) : Int) = (34 : Int))) (f356_j47 (f356_l14 a0 k) k y14_1 y14_2 a0 true) (f356_j47 (f356_l14 a0 k) k y14_1 y14_2 a0 (decide ((((a0.getD (y14_2).toNat 0).toNat : Nat) : Int) = (92 : Int)))))) (some (.b0 y14_1))
def f356 (k : Nat) (a0 : (List UInt8)) : Option (List UInt8) := (f356_l14 a0 k ([34] : List UInt8) (0 : Int)).bind fun o14 => (match o14 with | .b0 x14_1 => f356_j100 k x14_1 | _ => none)
theorem F356 {P : Program} {N : Nat → Nat} (hmix : P.follows .mixedOrders = true) (hc : HC356 P N) {k : Nat} {a0 : (List UInt8)} {r : (List UInt8)} (h : f356 k a0 = some r) :
    ACalls P (N 356) [(.d (.str a0))] [] (.d (.str r)) [] := by
  refine acalls_canon (F := C356 N) hc 0 0 rfl ?_
  unfold f356 at h
  dsimp only [C356, startL]
  refine AWc.seq (AWc.rE hmix [] ?_)
  refine AWc.seq (AWc.rE hmix [] ?_)
  refine AWc.seqS (N := 58) 0 (fun (z : (List UInt8)) => [(3, (.d (.str z)))]) (fun z => []) (fun z => f356_j100 k z = some r) rfl_le ?_ ?_
  · refine AWc.seq (AWc.rE hmix [] ?_)
    obtain ⟨o14, h14, h⟩ := bind_some h
    refine AWc.block ?_
    refine AWc.loopK (N := 58) 0 (fun (x : ((List UInt8) × Int)) => [(0, (.d (.str a0))), (3, (.d (.str x.1))), (4, (.d (.int .i64 x.2)))]) (fun x => []) (fun k x => f356_l14 a0 k x.1 x.2 = some o14) k (([34] : List UInt8), (0 : Int)) rfl_le (fun x hx => by cases hx) h14 (inT [] []) ?_
    clear h14
    intro k
    rintro ⟨y14_1, y14_2⟩ h14
    dsimp only at h14 ⊢
    rw [f356_l14] at h14
    refine AWc.seq (AWc.seq (AWc.rE hmix [] ?_))
    rcases cc h14 with ⟨c24, h14⟩ | ⟨c24, h14⟩
    · refine AWc.cT c24 ?_
      refine AWc.skip (AWc.seq (AWc.block (AWc.seq ?_)))
      obtain ⟨b34, h14⟩ := gd_some h14
      refine AWc.rE hmix [.sd b34] ?_
      refine AWc.block ?_
      refine AWc.seqS (N := 58) 0 (fun (z : Bool) => [(0, (.d (.str a0))), (3, (.d (.str y14_1))), (4, (.d (.int .i64 y14_2))), (5, (.d (.int .u8 (((a0.getD (y14_2).toNat 0).toNat : Nat) : Int)))), (22, (.d (.bool z))), (26, .any), (27, .any)]) (fun z => []) (fun z => f356_j47 (f356_l14 a0 k) k y14_1 y14_2 a0 z = some o14) rfl_le ?_ ?_
      · rcases cc h14 with ⟨c42, h14⟩ | ⟨c42, h14⟩
        · refine AWc.rE hmix [.br c42] ?_
          exact ⟨true, h14, (inT [] [])⟩
        · refine AWc.rE hmix [.br c42] ?_
          exact ⟨(decide ((((a0.getD (y14_2).toNat 0).toNat : Nat) : Int) = (92 : Int))), h14, (inT [] [])⟩
      · intro j47_1 h14
        unfold f356_j47 at h14
        rcases cc h14 with ⟨c47, h14⟩ | ⟨c47, h14⟩
        · refine AWc.cT c47 ?_
          obtain ⟨b51, h14⟩ := gd_some h14
          obtain ⟨b56, h14⟩ := gd_some h14
          obtain ⟨b57, h14⟩ := gd_some h14
          refine AWc.rE hmix [.sd b51, .sd b56, .sd b57] ?_
          refine AWc.rE hmix [] ?_
          exact ⟨(((y14_1 ++ ([92] : List UInt8)) ++ (sl a0 y14_2 (IntKind.i64.wrap (y14_2 + (1 : Int))))), (IntKind.i64.wrap (y14_2 + (1 : Int)))), h14, (inT [] [])⟩
        · refine AWc.cF c47 ?_
          refine AWc.seq (AWc.rE hmix [] ?_)
          rcases cc h14 with ⟨c65, h14⟩ | ⟨c65, h14⟩
          · refine AWc.cT c65 ?_
            obtain ⟨b69, h14⟩ := gd_some h14
            obtain ⟨b75, h14⟩ := gd_some h14
            obtain ⟨b76, h14⟩ := gd_some h14
            obtain ⟨b82, h14⟩ := gd_some h14
            obtain ⟨b83, h14⟩ := gd_some h14
            refine AWc.rE hmix [.sd b69, .sd (p := 0 ≤ (4 : Int)) (by decide), .sd (p := 0 ≤ (4 : Int)) (by decide), .sd b75, .sd b76, .sd b82, .sd b83] ?_
            refine AWc.rE hmix [] ?_
            exact ⟨((((y14_1 ++ ([92, 117, 48, 48] : List UInt8)) ++ (sl ([48, 49, 50, 51, 52, 53, 54, 55, 56, 57, 97, 98, 99, 100, 101, 102] : List UInt8) (Int.fdiv (((a0.getD (y14_2).toNat 0).toNat : Nat) : Int) (2 ^ (min ((4 : Int)).toNat IntKind.u8.bits))) (((u8 (IntKind.u8.wrap ((Int.fdiv (((a0.getD (y14_2).toNat 0).toNat : Nat) : Int) (2 ^ (min ((4 : Int)).toNat IntKind.u8.bits))) + (1 : Int)))).toNat : Nat) : Int))) ++ (sl ([48, 49, 50, 51, 52, 53, 54, 55, 56, 57, 97, 98, 99, 100, 101, 102] : List UInt8) (((u8 (bitsA .and .u8 (((a0.getD (y14_2).toNat 0).toNat : Nat) : Int) (15 : Int))).toNat : Nat) : Int) (((u8 (IntKind.u8.wrap ((((u8 (bitsA .and .u8 (((a0.getD (y14_2).toNat 0).toNat : Nat) : Int) (15 : Int))).toNat : Nat) : Int) + (1 : Int)))).toNat : Nat) : Int))), (IntKind.i64.wrap (y14_2 + (1 : Int)))), h14, (inT [] [])⟩
          · refine AWc.cF c65 ?_
            obtain ⟨b92, h14⟩ := gd_some h14
            obtain ⟨b93, h14⟩ := gd_some h14
            refine AWc.rE hmix [.sd b92, .sd b93] ?_
            refine AWc.rE hmix [] ?_
            exact ⟨((y14_1 ++ (sl a0 y14_2 (IntKind.i64.wrap (y14_2 + (1 : Int))))), (IntKind.i64.wrap (y14_2 + (1 : Int)))), h14, (inT [] [])⟩
    · refine AWc.cF c24 ?_
      cases h14
      dsimp only at h
      refine AWc.exit ?_
      refine inBlk_eq ?_
      exact ⟨y14_1, h, (inT [] [])⟩
  · intro j100_1 h
    unfold f356_j100 at h
    refine AWc.seq ?_
    obtain ⟨b104, h⟩ := gd_some h
    refine AWc.rE hmix [.sd b104] ?_
    have hr := Option.some.inj h
    subst hr
    exact AWc.ret (canQ (N := 58) (k := 0) (l' := [(2, (.d (.str (j100_1 ++ ([34] : List UInt8)))))]) (H' := []) rfl (inT [] []) (doneA (.inr rfl) rfl ⟨trivial, trivial⟩ (.refl _) hasNil))
end Go.Proofs.Abs
