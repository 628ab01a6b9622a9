/- Written by gen.py: functions of the program as Lean functions, and that the code comes to them. -/
import Derived.Test.YtojmpoboidomeaaGLkbyb
set_option linter.unusedVariables false
set_option linter.unusedSimpArgs false
set_option maxRecDepth 100000
set_option maxHeartbeats 4000000
namespace Go.Proofs.Abs
open Go
/-- courant/couranthelp.Plain[byte]$1 -/
def C109 (N : Nat → Nat) : AFunc := { n := 8, params := 2, res := [.tmp 4], body :=
 (.seq (.region false [⟨(some 4), .mv (.k (.d (.bool false))), none, []⟩])
  (.seq (.region false [⟨(some 5), .mv (.t 0), none, []⟩,
    ⟨(some 6), .mv (.t 1), none, []⟩,
    ⟨(some 7), .bin .eql (.t 5) (.t 6), none, [0, 1]⟩,
    ⟨(some 4), .mv (.t 7), none, [2, 0, 1]⟩])
   .ret)) }
def HC109 (P : Program) (N : Nat → Nat) : Prop := HasF P (N 109) (C109 N)
def f109 (k : Nat) (a0 : UInt8) (a1 : UInt8) : Option Unit := some ()
theorem F109 {P : Program} {N : Nat → Nat} (hmix : P.follows .mixedOrders = true) (hc : HC109 P N) {k : Nat} {a0 : UInt8} {a1 : UInt8} {r : Unit} (h : f109 k a0 a1 = some r) :
    ACalls P (N 109) [(.d (.int .u8 ((a0.toNat : Nat) : Int))), (.d (.int .u8 ((a1.toNat : Nat) : Int)))] [] (.d (.bool (decide (((a0.toNat : Nat) : Int) = ((a1.toNat : Nat) : Int))))) [] := by
  refine acalls_canon (F := C109 N) hc 0 0 rfl ?_
  unfold f109 at h
  dsimp only [C109, startL]
  refine AWc.seq ?_
  refine AWc.rg hmix rfl rfl ?_
  refine RegV.p0 rfl rfl rfl ?_
  refine RegV.nil0 ?_
  refine AWc.seq ?_
  refine AWc.rg hmix rfl rfl ?_
  refine RegV.p0 rfl rfl rfl ?_
  refine RegV.p0 rfl rfl rfl ?_
  refine RegV.p0 (v := (.d (.bool (decide (((a0.toNat : Nat) : Int) = ((a1.toNat : Nat) : Int)))))) rfl rfl rfl ?_
  refine RegV.p0 rfl rfl rfl ?_
  refine RegV.nil0 ?_
  have hr := Option.some.inj h
  subst hr
  exact AWc.ret (canQ (N := 8) (k := 0) (l' := [(4, (.d (.bool (decide (((a0.toNat : Nat) : Int) = ((a1.toNat : Nat) : Int))))))]) (H' := []) rfl ⟨rfl, [], [], rfl, rfl, ⟨⟨_, rfl, (.refl _)⟩, rfl, trivial⟩,  trivial⟩ (doneA (.inr rfl) rfl ⟨trivial, trivial⟩ (.refl _) hasNil))
/-- courant/couranthelp.Same[byte] -/
def C108 (N : Nat → Nat) : AFunc := { n := 30, params := 3, res := [.tmp 6], body :=
 (.seq (.region false [⟨(some 6), .mv (.k (.d (.bool false))), none, []⟩])
  (.seq (.seq (.region false [⟨(some 8), .mv (.t 0), none, []⟩,
     ⟨(some 9), .len (.t 8), none, [0]⟩,
     ⟨(some 10), .mv (.t 1), none, []⟩,
     ⟨(some 11), .len (.t 10), none, [2]⟩,
     ⟨(some 12), .bin .neq (.t 9) (.t 11), none, [1, 3]⟩])
    (.cond (.t 12) (.seq (.region false [⟨(some 6), .mv (.k (.d (.bool false))), none, []⟩])
      .ret)
     (.skip)))
   (.seq (.seq (.region false [⟨(some 7), .mv (.k (.d (.int .i64 0))), none, []⟩])
     (.block 0 (.loop (.seq (.seq (.region false [⟨(some 13), .mv (.t 7), none, []⟩,
          ⟨(some 14), .mv (.t 0), none, []⟩,
          ⟨(some 15), .len (.t 14), none, [1]⟩,
          ⟨(some 16), .bin .lss (.t 13) (.t 15), none, [0, 2]⟩])
         (.cond (.t 16) (.skip)
          (.exit 0)))
        (.seq (.block 1 (.seq (.region true [⟨(some 19), .mv (.t 2), none, []⟩,
            ⟨(some 20), .mv (.t 0), none, []⟩,
            ⟨(some 21), .mv (.t 7), none, []⟩,
            ⟨(some 22), .iaddr (.t 20) (.t 21) 1, none, [1, 2]⟩,
            ⟨(some 23), .load (.t 22) 1 false, none, [3]⟩,
            ⟨(some 24), .mv (.t 1), none, []⟩,
            ⟨(some 25), .mv (.t 7), none, []⟩,
            ⟨(some 26), .iaddr (.t 24) (.t 25) 1, none, [5, 6]⟩,
            ⟨(some 27), .load (.t 26) 1 false, none, [7]⟩,
            ⟨(some 28), .call (.t 19) [(.t 23), (.t 27)], none, [0, 4, 8]⟩,
            ⟨(some 29), .un .not (.t 28), none, [9]⟩])
           (.cond (.t 29) (.seq (.region false [⟨(some 6), .mv (.k (.d (.bool false))), none, []⟩])
             .ret)
            (.skip))))
         (.region false [⟨(some 17), .mv (.t 7), none, []⟩,
          ⟨(some 18), .bin .add (.t 17) (.k (.d (.int .i64 1))), none, [0]⟩,
          ⟨(some 7), .mv (.t 18), none, [1, 0]⟩]))))))
    (.seq (.region false [⟨(some 6), .mv (.k (.d (.bool true))), none, []⟩])
     .ret)))) }
def HC108 (P : Program) (N : Nat → Nat) : Prop := HasF P (N 108) (C108 N) ∧ HC109 P N
def f108_l26 (a0 : (List UInt8)) (a1 : (List UInt8)) : Nat → Int → Option (LR2 Unit Unit Bool)
  | 0, _ => none
  | k + 1, y26_1 => cond (decide (y26_1 < ((a0.length : Nat) : Int))) (gd (0 ≤ y26_1 ∧ y26_1 < ((a0.length : Nat) : Int)) (gd (0 ≤ y26_1 ∧ y26_1 < ((a1.length : Nat) : Int)) ((f109 k (rd a0 y26_1) (rd a1 y26_1)).bind fun r53 => cond (!(decide ((((rd a0 y26_1).toNat : Nat) : Int) = (((rd a1 y26_1).toNat : Nat) : Int)))) (some (.r false)) (f108_l26 a0 a1 k (IntKind.i64.wrap (y26_1 + (1 : Int))))))) (some (.b0 ()))
def f108 (k : Nat) (a0 : (List UInt8)) (a1 : (List UInt8)) : Option Bool := cond (decide (((a0.length : Nat) : Int) ≠ ((a1.length : Nat) : Int))) (some false) ((f108_l26 a0 a1 k (0 : Int)).bind fun o26 => (match o26 with | .b0 () => some true | .r x => some x | _ => none))
theorem F108 {P : Program} {N : Nat → Nat} (hmix : P.follows .mixedOrders = true) (hc : HC108 P N) {k : Nat} {a0 : (List UInt8)} {a1 : (List UInt8)} {r : Bool} (h : f108 k a0 a1 = some r) :
    ACalls P (N 108) [(.d (.sl (List.map byteD a0))), (.d (.sl (List.map byteD a1))), (.d (.fn (N 109)))] [] (.d (.bool r)) [] := by
  refine acalls_canon (F := C108 N) hc.1 0 0 rfl ?_
  unfold f108 at h
  dsimp only [C108, startL]
  refine AWc.seq ?_
  refine AWc.rg hmix rfl rfl ?_
  refine RegV.p0 rfl rfl rfl ?_
  refine RegV.nil0 ?_
  refine AWc.seq ?_
  refine AWc.seq ?_
  refine AWc.rg hmix rfl rfl ?_
  refine RegV.p0 rfl rfl rfl ?_
  refine RegV.len (xs := a0) (e := byteD) rfl rfl rfl rfl ?_
  refine RegV.p0 rfl rfl rfl ?_
  refine RegV.len (xs := a1) (e := byteD) rfl rfl rfl rfl ?_
  refine RegV.p0 (v := (.d (.bool (decide (((a0.length : Nat) : Int) ≠ ((a1.length : Nat) : Int)))))) rfl rfl rfl ?_
  refine RegV.nil0 ?_
  refine AWc.cond rfl (fun c14 => ?_) (fun c14 => ?_)
  · have h := cond_pos c14 h
    refine AWc.seq ?_
    refine AWc.rg hmix rfl rfl ?_
    refine RegV.p0 rfl rfl rfl ?_
    refine RegV.nil0 ?_
    have hr := Option.some.inj h
    subst hr
    exact AWc.ret (canQ (N := 30) (k := 0) (l' := [(6, (.d (.bool false)))]) (H' := []) rfl ⟨rfl, [], [], rfl, rfl, ⟨⟨_, rfl, (.refl _)⟩, rfl, trivial⟩,  trivial⟩ (doneA (.inr rfl) rfl ⟨trivial, trivial⟩ (.refl _) hasNil))
  · have h := cond_neg c14 h
    refine AWc.skip ?_
    refine AWc.seq ?_
    refine AWc.seq ?_
    refine AWc.rg hmix rfl rfl ?_
    refine RegV.p0 rfl rfl rfl ?_
    refine RegV.nil0 ?_
    obtain ⟨o26, h26, h⟩ := bind_some h
    refine AWc.block ?_
    refine AWc.loopK (N := 30) 0 (fun (x : Int) => [(0, (.d (.sl (List.map byteD a0)))), (1, (.d (.sl (List.map byteD a1)))), (2, (.d (.fn (N 109)))), (7, (.d (.int .i64 x)))]) (fun x => []) (fun k x => f108_l26 a0 a1 k x = some o26) k (0 : Int) rfl_le (fun x hx => by cases hx) h26 ⟨rfl, [], [], rfl, rfl, ⟨⟨_, rfl, (.refl _)⟩, rfl, ⟨⟨_, rfl, (.refl _)⟩, rfl, ⟨⟨_, rfl, (.refl _)⟩, rfl, ⟨⟨_, rfl, (.refl _)⟩, rfl, trivial⟩⟩⟩⟩,  trivial⟩ ?_
    clear h26
    intro k
    intro y26_1 h26
    rw [f108_l26] at h26
    refine AWc.seq ?_
    refine AWc.seq ?_
    refine AWc.rg hmix rfl rfl ?_
    refine RegV.p0 rfl rfl rfl ?_
    refine RegV.p0 rfl rfl rfl ?_
    refine RegV.len (xs := a0) (e := byteD) rfl rfl rfl rfl ?_
    refine RegV.p0 (v := (.d (.bool (decide (y26_1 < ((a0.length : Nat) : Int)))))) rfl rfl rfl ?_
    refine RegV.nil0 ?_
    refine AWc.cond rfl (fun c36 => ?_) (fun c36 => ?_)
    · have h26 := cond_pos c36 h26
      refine AWc.skip ?_
      refine AWc.seq ?_
      refine AWc.block ?_
      refine AWc.seq ?_
      refine AWc.rg hmix rfl rfl ?_
      refine RegV.p0 rfl rfl rfl ?_
      refine RegV.p0 rfl rfl rfl ?_
      refine RegV.p0 rfl rfl rfl ?_
      obtain ⟨b47, h26⟩ := gd_some h26
      refine RegV.iad (xs := a0) (e := byteD) rfl rfl rfl rfl (fun _ => rfl) b47 rfl ?_
      refine RegV.p0 (v := (.d (.int .u8 (((rd a0 y26_1).toNat : Nat) : Int)))) rfl rfl rfl ?_
      refine RegV.p0 rfl rfl rfl ?_
      refine RegV.p0 rfl rfl rfl ?_
      obtain ⟨b51, h26⟩ := gd_some h26
      refine RegV.iad (xs := a1) (e := byteD) rfl rfl rfl rfl (fun _ => rfl) b51 rfl ?_
      refine RegV.p0 (v := (.d (.int .u8 (((rd a1 y26_1).toNat : Nat) : Int)))) rfl rfl rfl ?_
      obtain ⟨r53, e53, h26⟩ := bind_some h26
      refine RegV.call0 (F109 hmix hc.2 e53) rfl rfl rfl rfl (.cons (.refl _) (.cons (.refl _) .nil)) rfl ?_
      refine RegV.p0 (v := (.d (.bool (!(decide ((((rd a0 y26_1).toNat : Nat) : Int) = (((rd a1 y26_1).toNat : Nat) : Int))))))) rfl rfl rfl ?_
      refine RegV.nil1 (by kernel_rfl) ?_
      refine AWc.cond rfl (fun c55 => ?_) (fun c55 => ?_)
      · have h26 := cond_pos c55 h26
        refine AWc.seq ?_
        refine AWc.rg hmix rfl rfl ?_
        refine RegV.p0 rfl rfl rfl ?_
        refine RegV.nil0 ?_
        cases h26
        dsimp only at h
        have hr := Option.some.inj h
        subst hr
        exact AWc.ret (canQ (N := 30) (k := 0) (l' := [(6, (.d (.bool false)))]) (H' := []) rfl ⟨rfl, [], [], rfl, rfl, ⟨⟨_, rfl, (.refl _)⟩, rfl, trivial⟩,  trivial⟩ (doneA (.inr rfl) rfl ⟨trivial, trivial⟩ (.refl _) hasNil))
      · have h26 := cond_neg c55 h26
        refine AWc.skip ?_
        refine AWc.rg hmix rfl rfl ?_
        refine RegV.p0 rfl rfl rfl ?_
        refine RegV.p0 (v := (.d (.int .i64 (IntKind.i64.wrap (y26_1 + (1 : Int)))))) rfl rfl rfl ?_
        refine RegV.p0 rfl rfl rfl ?_
        refine RegV.nil0 ?_
        exact ⟨(IntKind.i64.wrap (y26_1 + (1 : Int))), h26, ⟨rfl, [], [], rfl, rfl, ⟨⟨_, rfl, (.refl _)⟩, rfl, ⟨⟨_, rfl, (.refl _)⟩, rfl, ⟨⟨_, rfl, (.refl _)⟩, rfl, ⟨⟨_, rfl, (.refl _)⟩, rfl, trivial⟩⟩⟩⟩,  trivial⟩⟩
    · have h26 := cond_neg c36 h26
      cases h26
      dsimp only at h
      refine AWc.exit ?_
      refine inBlk_eq ?_
      refine AWc.seq ?_
      refine AWc.rg hmix rfl rfl ?_
      refine RegV.p0 rfl rfl rfl ?_
      refine RegV.nil0 ?_
      have hr := Option.some.inj h
      subst hr
      exact AWc.ret (canQ (N := 30) (k := 0) (l' := [(6, (.d (.bool true)))]) (H' := []) rfl ⟨rfl, [], [], rfl, rfl, ⟨⟨_, rfl, (.refl _)⟩, rfl, trivial⟩,  trivial⟩ (doneA (.inr rfl) rfl ⟨trivial, trivial⟩ (.refl _) hasNil))
/-- courant/couranthelp.Plain[byte] -/
def C83 (N : Nat → Nat) : AFunc := { n := 8, params := 2, res := [.tmp 4], body :=
 (.seq (.region false [⟨(some 4), .mv (.k (.d (.bool false))), none, []⟩])
  (.seq (.region false [⟨(some 5), .mv (.t 0), none, []⟩,
    ⟨(some 6), .mv (.t 1), none, []⟩,
    ⟨(some 7), .call (.k (.d (.fn (N 108)))) [(.t 5), (.t 6), (.k (.d (.fn (N 109))))], none, [0, 1]⟩,
    ⟨(some 4), .mv (.t 7), none, [2, 0, 1]⟩])
   .ret)) }
def HC83 (P : Program) (N : Nat → Nat) : Prop := HasF P (N 83) (C83 N) ∧ HC108 P N
def f83 (k : Nat) (a0 : (List UInt8)) (a1 : (List UInt8)) : Option Bool := (f108 k a0 a1).bind fun r10 => some r10
theorem F83 {P : Program} {N : Nat → Nat} (hmix : P.follows .mixedOrders = true) (hc : HC83 P N) {k : Nat} {a0 : (List UInt8)} {a1 : (List UInt8)} {r : Bool} (h : f83 k a0 a1 = some r) :
    ACalls P (N 83) [(.d (.sl (List.map byteD a0))), (.d (.sl (List.map byteD a1)))] [] (.d (.bool r)) [] := by
  refine acalls_canon (F := C83 N) hc.1 0 0 rfl ?_
  unfold f83 at h
  dsimp only [C83, startL]
  refine AWc.seq ?_
  refine AWc.rg hmix rfl rfl ?_
  refine RegV.p0 rfl rfl rfl ?_
  refine RegV.nil0 ?_
  refine AWc.seq ?_
  refine AWc.rg hmix rfl rfl ?_
  refine RegV.p0 rfl rfl rfl ?_
  refine RegV.p0 rfl rfl rfl ?_
  obtain ⟨r10, e10, h⟩ := bind_some h
  refine RegV.call0 (F108 hmix hc.2 e10) rfl rfl rfl rfl (.cons (.refl _) (.cons (.refl _) (.cons (.refl _) .nil))) rfl ?_
  refine RegV.p0 rfl rfl rfl ?_
  refine RegV.nil0 ?_
  have hr := Option.some.inj h
  subst hr
  exact AWc.ret (canQ (N := 8) (k := 0) (l' := [(4, (.d (.bool r10)))]) (H' := []) rfl ⟨rfl, [], [], rfl, rfl, ⟨⟨_, rfl, (.refl _)⟩, rfl, trivial⟩,  trivial⟩ (doneA (.inr rfl) rfl ⟨trivial, trivial⟩ (.refl _) hasNil))
/-- courant/couranthelp.Kept[byte] -/
def C29 (N : Nat → Nat) : AFunc := { n := 40, params := 3, res := [.tmp 6], body :=
 (.seq (.region false [⟨(some 6), .mv (.k (.d (.bool false))), none, []⟩])
  (.seq (.seq (.region false [⟨(some 9), .mv (.t 0), none, []⟩,
     ⟨(some 10), .mv (.t 1), none, []⟩,
     ⟨(some 11), .call (.k (.d (.fn (N 83)))) [(.t 9), (.t 10)], none, [0, 1]⟩,
     ⟨(some 12), .un .not (.t 11), none, [2]⟩,
     ⟨(some 13), .mv (.t 12), none, [3, 2]⟩,
     ⟨(some 14), .mv (.t 0), (some (13, false)), [4]⟩,
     ⟨(some 15), .cap (.t 14), (some (13, false)), [5, 4]⟩,
     ⟨(some 16), .mv (.t 1), (some (13, false)), [4]⟩,
     ⟨(some 17), .len (.t 16), (some (13, false)), [7, 4]⟩,
     ⟨(some 18), .bin .add (.t 17) (.k (.d (.int .i64 3))), (some (13, false)), [8, 4]⟩,
     ⟨(some 19), .bin .lss (.t 15) (.t 18), (some (13, false)), [6, 9, 4]⟩,
     ⟨(some 20), .pick (.t 13) (.k (.d (.bool true))) (.t 19), none, [4, 10]⟩])
    (.cond (.t 20) (.seq (.region false [⟨(some 6), .mv (.k (.d (.bool false))), none, []⟩])
      .ret)
     (.skip)))
   (.seq (.region false [⟨(some 21), .mv (.t 0), none, []⟩,
     ⟨(some 22), .mv (.t 1), none, []⟩,
     ⟨(some 23), .len (.t 22), none, [1]⟩,
     ⟨(some 24), .bin .add (.t 23) (.k (.d (.int .i64 3))), none, [2]⟩,
     ⟨(some 25), .slc (.t 21) none (some (.t 24)) none 1, none, [0, 3]⟩,
     ⟨(some 7), .mv (.t 25), none, [4, 0, 1, 2, 3]⟩])
    (.seq (.seq (.region false [⟨(some 26), .mv (.t 1), none, []⟩,
       ⟨(some 27), .len (.t 26), none, [0]⟩,
       ⟨(some 8), .mv (.t 27), none, [1, 0]⟩])
      (.block 0 (.loop (.seq (.seq (.region false [⟨(some 28), .mv (.t 8), none, []⟩,
           ⟨(some 29), .mv (.t 7), none, []⟩,
           ⟨(some 30), .len (.t 29), none, [1]⟩,
           ⟨(some 31), .bin .lss (.t 28) (.t 30), none, [0, 2]⟩])
          (.cond (.t 31) (.skip)
           (.exit 0)))
         (.seq (.block 1 (.seq (.region false [⟨(some 34), .mv (.t 7), none, []⟩,
             ⟨(some 35), .mv (.t 8), none, []⟩,
             ⟨(some 36), .iaddr (.t 34) (.t 35) 1, none, [0, 1]⟩,
             ⟨(some 37), .load (.t 36) 1 false, none, [2]⟩,
             ⟨(some 38), .mv (.t 2), none, []⟩,
             ⟨(some 39), .bin .neq (.t 37) (.t 38), none, [3, 4]⟩])
            (.cond (.t 39) (.seq (.region false [⟨(some 6), .mv (.k (.d (.bool false))), none, []⟩])
              .ret)
             (.skip))))
          (.region false [⟨(some 32), .mv (.t 8), none, []⟩,
           ⟨(some 33), .bin .add (.t 32) (.k (.d (.int .i64 1))), none, [0]⟩,
           ⟨(some 8), .mv (.t 33), none, [1, 0]⟩]))))))
     (.seq (.region false [⟨(some 6), .mv (.k (.d (.bool true))), none, []⟩])
      .ret))))) }
def HC29 (P : Program) (N : Nat → Nat) : Prop := HasF P (N 29) (C29 N) ∧ HC83 P N
def f29_l44 (a2 : (List UInt8)) (a0 : (List UInt8)) (a3 : UInt8) : Nat → Int → Option (LR2 Unit Unit Bool)
  | 0, _ => none
  | k + 1, y44_1 => cond (decide (y44_1 < (((List.take (((IntKind.i64.wrap (((a2.length : Nat) : Int) + (3 : Int)))).toNat) a0).length : Nat) : Int))) (gd (0 ≤ y44_1 ∧ y44_1 < (((List.take (((IntKind.i64.wrap (((a2.length : Nat) : Int) + (3 : Int)))).toNat) a0).length : Nat) : Int)) (cond (decide ((((rd (List.take (((IntKind.i64.wrap (((a2.length : Nat) : Int) + (3 : Int)))).toNat) a0) y44_1).toNat : Nat) : Int) ≠ ((a3.toNat : Nat) : Int))) (some (.r false)) (f29_l44 a2 a0 a3 k (IntKind.i64.wrap (y44_1 + (1 : Int)))))) (some (.b0 ()))
def f29 (k : Nat) (a0 : (List UInt8)) (a1 : Nat) (a2 : (List UInt8)) (a3 : UInt8) : Option Bool := (f83 k (List.take a1 a0) a2).bind fun r11 => cond (!r11) (some false) (cond (decide (((a0.length : Nat) : Int) < (IntKind.i64.wrap (((a2.length : Nat) : Int) + (3 : Int))))) (some false) (gd (0 ≤ (IntKind.i64.wrap (((a2.length : Nat) : Int) + (3 : Int))) ∧ (IntKind.i64.wrap (((a2.length : Nat) : Int) + (3 : Int))) ≤ ((a0.length : Nat) : Int)) ((f29_l44 a2 a0 a3 k ((a2.length : Nat) : Int)).bind fun o44 => (match o44 with | .b0 () => some true | .r x => some x | _ => none))))
theorem F29 {P : Program} {N : Nat → Nat} (hmix : P.follows .mixedOrders = true) (hc : HC29 P N) {k : Nat} {a0 : (List UInt8)} {a1 : Nat} {a2 : (List UInt8)} {a3 : UInt8} {r : Bool} (h : f29 k a0 a1 a2 a3 = some r) :
    ACalls P (N 29) [(.win (List.map byteD a0) a1), (.d (.sl (List.map byteD a2))), (.d (.int .u8 ((a3.toNat : Nat) : Int)))] [] (.d (.bool r)) [] := by
  refine acalls_canon (F := C29 N) hc.1 0 0 rfl ?_
  unfold f29 at h
  dsimp only [C29, startL]
  refine AWc.seq ?_
  refine AWc.rg hmix rfl rfl ?_
  refine RegV.p0 rfl rfl rfl ?_
  refine RegV.nil0 ?_
  refine AWc.seq ?_
  refine AWc.seq ?_
  refine AWc.rg hmix rfl rfl ?_
  refine RegV.p0 rfl rfl rfl ?_
  refine RegV.p0 rfl rfl rfl ?_
  obtain ⟨r11, e11, h⟩ := bind_some h
  refine RegV.call0 (F83 hmix hc.2 e11) rfl rfl rfl rfl (.cons .win (.cons (.refl _) .nil)) rfl ?_
  refine RegV.p0 (v := (.d (.bool (!r11)))) rfl rfl rfl ?_
  refine RegV.p0 rfl rfl rfl ?_
  refine RegV.split (fun c13 => ?_) (fun c13 => ?_)
  · have h := cond_pos c13 h
    refine RegV.noS rfl rfl ?_
    refine RegV.noS rfl rfl ?_
    refine RegV.noS rfl rfl ?_
    refine RegV.noS rfl rfl ?_
    refine RegV.noS rfl rfl ?_
    refine RegV.noS rfl rfl ?_
    refine RegV.p0 rfl rfl rfl ?_
    refine RegV.nil0 ?_
    refine AWc.cond rfl (fun _ => ?_) (fun hc => by cases hc)
    refine AWc.seq ?_
    refine AWc.rg hmix rfl rfl ?_
    refine RegV.p0 rfl rfl rfl ?_
    refine RegV.nil0 ?_
    have hr := Option.some.inj h
    subst hr
    exact AWc.ret (canQ (N := 40) (k := 0) (l' := [(6, (.d (.bool false)))]) (H' := []) rfl ⟨rfl, [], [], rfl, rfl, ⟨⟨_, rfl, (.refl _)⟩, rfl, trivial⟩,  trivial⟩ (doneA (.inr rfl) rfl ⟨trivial, trivial⟩ (.refl _) hasNil))
  · have h := cond_neg c13 h
    refine RegV.p0 rfl rfl rfl ?_
    refine RegV.capW (ys := a0) (e := byteD) rfl rfl rfl ?_
    refine RegV.p0 rfl rfl rfl ?_
    refine RegV.len (xs := a2) (e := byteD) rfl rfl rfl rfl ?_
    refine RegV.p0 (v := (.d (.int .i64 (IntKind.i64.wrap (((a2.length : Nat) : Int) + (3 : Int)))))) rfl rfl rfl ?_
    refine RegV.p0 (v := (.d (.bool (decide (((a0.length : Nat) : Int) < (IntKind.i64.wrap (((a2.length : Nat) : Int) + (3 : Int)))))))) rfl rfl rfl ?_
    refine RegV.p0 rfl rfl rfl ?_
    refine RegV.nil0 ?_
    refine AWc.cond rfl (fun c21 => ?_) (fun c21 => ?_)
    · have h := cond_pos c21 h
      refine AWc.seq ?_
      refine AWc.rg hmix rfl rfl ?_
      refine RegV.p0 rfl rfl rfl ?_
      refine RegV.nil0 ?_
      have hr := Option.some.inj h
      subst hr
      exact AWc.ret (canQ (N := 40) (k := 0) (l' := [(6, (.d (.bool false)))]) (H' := []) rfl ⟨rfl, [], [], rfl, rfl, ⟨⟨_, rfl, (.refl _)⟩, rfl, trivial⟩,  trivial⟩ (doneA (.inr rfl) rfl ⟨trivial, trivial⟩ (.refl _) hasNil))
    · have h := cond_neg c21 h
      refine AWc.skip ?_
      refine AWc.seq ?_
      refine AWc.rg hmix rfl rfl ?_
      refine RegV.p0 rfl rfl rfl ?_
      refine RegV.p0 rfl rfl rfl ?_
      refine RegV.len (xs := a2) (e := byteD) rfl rfl rfl rfl ?_
      refine RegV.p0 (v := (.d (.int .i64 (IntKind.i64.wrap (((a2.length : Nat) : Int) + (3 : Int)))))) rfl rfl rfl ?_
      obtain ⟨b35, h⟩ := gd_some h
      refine RegV.slW (ys := a0) (e := byteD) (hi := (IntKind.i64.wrap (((a2.length : Nat) : Int) + (3 : Int)))) rfl rfl rfl b35 rfl ?_
      refine RegV.p0 rfl rfl rfl ?_
      refine RegV.nil0 ?_
      refine AWc.seq ?_
      refine AWc.seq ?_
      refine AWc.rg hmix rfl rfl ?_
      refine RegV.p0 rfl rfl rfl ?_
      refine RegV.len (xs := a2) (e := byteD) rfl rfl rfl rfl ?_
      refine RegV.p0 rfl rfl rfl ?_
      refine RegV.nil0 ?_
      obtain ⟨o44, h44, h⟩ := bind_some h
      refine AWc.block ?_
      refine AWc.loopK (N := 40) 0 (fun (x : Int) => [(2, (.d (.int .u8 ((a3.toNat : Nat) : Int)))), (7, (.win (List.map byteD a0) (((IntKind.i64.wrap (((a2.length : Nat) : Int) + (3 : Int)))).toNat))), (8, (.d (.int .i64 x)))]) (fun x => []) (fun k x => f29_l44 a2 a0 a3 k x = some o44) k ((a2.length : Nat) : Int) rfl_le (fun x hx => by cases hx) h44 ⟨rfl, [], [], rfl, rfl, ⟨⟨_, rfl, (.refl _)⟩, rfl, ⟨⟨_, rfl, (.refl _)⟩, rfl, ⟨⟨_, rfl, (.refl _)⟩, rfl, trivial⟩⟩⟩,  trivial⟩ ?_
      clear h44
      intro k
      intro y44_1 h44
      rw [f29_l44] at h44
      refine AWc.seq ?_
      refine AWc.seq ?_
      refine AWc.rg hmix rfl rfl ?_
      refine RegV.p0 rfl rfl rfl ?_
      refine RegV.p0 rfl rfl rfl ?_
      refine RegV.len (xs := (List.take (((IntKind.i64.wrap (((a2.length : Nat) : Int) + (3 : Int)))).toNat) a0)) (e := byteD) rfl rfl (toSlW _ _) rfl ?_
      refine RegV.p0 (v := (.d (.bool (decide (y44_1 < (((List.take (((IntKind.i64.wrap (((a2.length : Nat) : Int) + (3 : Int)))).toNat) a0).length : Nat) : Int)))))) rfl rfl rfl ?_
      refine RegV.nil0 ?_
      refine AWc.cond rfl (fun c54 => ?_) (fun c54 => ?_)
      · have h44 := cond_pos c54 h44
        refine AWc.skip ?_
        refine AWc.seq ?_
        refine AWc.block ?_
        refine AWc.seq ?_
        refine AWc.rg hmix rfl rfl ?_
        refine RegV.p0 rfl rfl rfl ?_
        refine RegV.p0 rfl rfl rfl ?_
        obtain ⟨b64, h44⟩ := gd_some h44
        refine RegV.iad (xs := (List.take (((IntKind.i64.wrap (((a2.length : Nat) : Int) + (3 : Int)))).toNat) a0)) (e := byteD) rfl rfl (toSlW _ _) rfl (fun _ => rfl) b64 rfl ?_
        refine RegV.p0 (v := (.d (.int .u8 (((rd (List.take (((IntKind.i64.wrap (((a2.length : Nat) : Int) + (3 : Int)))).toNat) a0) y44_1).toNat : Nat) : Int)))) rfl rfl rfl ?_
        refine RegV.p0 rfl rfl rfl ?_
        refine RegV.p0 (v := (.d (.bool (decide ((((rd (List.take (((IntKind.i64.wrap (((a2.length : Nat) : Int) + (3 : Int)))).toNat) a0) y44_1).toNat : Nat) : Int) ≠ ((a3.toNat : Nat) : Int)))))) rfl rfl rfl ?_
        refine RegV.nil0 ?_
        refine AWc.cond rfl (fun c68 => ?_) (fun c68 => ?_)
        · have h44 := cond_pos c68 h44
          refine AWc.seq ?_
          refine AWc.rg hmix rfl rfl ?_
          refine RegV.p0 rfl rfl rfl ?_
          refine RegV.nil0 ?_
          cases h44
          dsimp only at h
          have hr := Option.some.inj h
          subst hr
          exact AWc.ret (canQ (N := 40) (k := 0) (l' := [(6, (.d (.bool false)))]) (H' := []) rfl ⟨rfl, [], [], rfl, rfl, ⟨⟨_, rfl, (.refl _)⟩, rfl, trivial⟩,  trivial⟩ (doneA (.inr rfl) rfl ⟨trivial, trivial⟩ (.refl _) hasNil))
        · have h44 := cond_neg c68 h44
          refine AWc.skip ?_
          refine AWc.rg hmix rfl rfl ?_
          refine RegV.p0 rfl rfl rfl ?_
          refine RegV.p0 (v := (.d (.int .i64 (IntKind.i64.wrap (y44_1 + (1 : Int)))))) rfl rfl rfl ?_
          refine RegV.p0 rfl rfl rfl ?_
          refine RegV.nil0 ?_
          exact ⟨(IntKind.i64.wrap (y44_1 + (1 : Int))), h44, ⟨rfl, [], [], rfl, rfl, ⟨⟨_, rfl, (.refl _)⟩, rfl, ⟨⟨_, rfl, (.refl _)⟩, rfl, ⟨⟨_, rfl, (.refl _)⟩, rfl, trivial⟩⟩⟩,  trivial⟩⟩
      · have h44 := cond_neg c54 h44
        cases h44
        dsimp only at h
        refine AWc.exit ?_
        refine inBlk_eq ?_
        refine AWc.seq ?_
        refine AWc.rg hmix rfl rfl ?_
        refine RegV.p0 rfl rfl rfl ?_
        refine RegV.nil0 ?_
        have hr := Option.some.inj h
        subst hr
        exact AWc.ret (canQ (N := 40) (k := 0) (l' := [(6, (.d (.bool true)))]) (H' := []) rfl ⟨rfl, [], [], rfl, rfl, ⟨⟨_, rfl, (.refl _)⟩, rfl, trivial⟩,  trivial⟩ (doneA (.inr rfl) rfl ⟨trivial, trivial⟩ (.refl _) hasNil))
/-- courant/courantlaw22.KeyedBytes -/
def C18 (N : Nat → Nat) : AFunc := { n := 62, params := 2, res := [.tmp 4], body :=
 (.seq (.region false [⟨(some 4), .mv (.k (.d (.bool false))), none, []⟩])
  (.seq (.seq (.region false [⟨(some 11), .mv (.t 0), none, []⟩,
     ⟨(some 12), .call (.k (.d (.fn (N 70)))) [(.t 11)], none, [0]⟩,
     ⟨(some 13), .un .not (.t 12), none, [1]⟩,
     ⟨(some 14), .mv (.t 13), none, [2, 1]⟩,
     ⟨(some 15), .mv (.t 1), (some (14, false)), [3]⟩,
     ⟨(some 16), .len (.t 15), (some (14, false)), [4, 3]⟩,
     ⟨(some 17), .bin .gtr (.t 16) (.k (.d (.int .i64 5000))), (some (14, false)), [5, 3]⟩,
     ⟨(some 18), .pick (.t 14) (.k (.d (.bool true))) (.t 17), none, [3, 6]⟩])
    (.cond (.t 18) (.seq (.region false [⟨(some 19), .call (.k (.d (.fn (N 69)))) [], none, []⟩,
       ⟨(some 4), .mv (.t 19), none, [0]⟩])
      .ret)
     (.skip)))
   (.seq (.region false [⟨(some 20), .mv (.t 0), none, []⟩,
     ⟨(some 21), .call (.k (.d (.fn (N 71)))) [(.t 20)], none, [0]⟩,
     ⟨(some 22), .mv (.t 1), none, []⟩,
     ⟨(some 23), .call (.k (.d (.fn (N 21)))) [(.t 22), (.k (.d (.int .u8 71)))], none, [2, 1]⟩,
     ⟨(some 5), .mv (.t 21), none, [1, 3, 0]⟩,
     ⟨(some 6), .mv (.t 23), none, [3, 4, 0, 1, 2]⟩])
    (.seq (.region false [⟨(some 25), .mv (.t 6), none, []⟩,
      ⟨(some 26), .call (.k (.d (.fn (N 78)))) [(.t 25)], none, [0]⟩,
      ⟨(some 24), .mv (.t 26), none, [1]⟩,
      ⟨(some 27), .ext (.t 24) 0, none, [2]⟩,
      ⟨(some 28), .ext (.t 24) 1, none, [2]⟩,
      ⟨(some 7), .mv (.t 27), none, [3, 1, 0, 2]⟩,
      ⟨(some 8), .mv (.t 28), none, [4, 5, 0, 1, 2, 3]⟩])
     (.seq (.region false [⟨(some 30), .mv (.t 1), none, []⟩,
       ⟨(some 31), .call (.k (.d (.fn (N 79)))) [(.t 30)], none, [0]⟩,
       ⟨(some 29), .mv (.t 31), none, [1]⟩,
       ⟨(some 32), .ext (.t 29) 0, none, [2]⟩,
       ⟨(some 33), .ext (.t 29) 1, none, [2]⟩,
       ⟨(some 9), .mv (.t 32), none, [3, 1, 0, 2]⟩,
       ⟨(some 10), .mv (.t 33), none, [4, 5, 0, 1, 2, 3]⟩])
      (.seq (.region false [⟨(some 34), .call (.k (.d (.fn (N 69)))) [], none, []⟩,
        ⟨(some 35), .mv (.t 34), none, [0]⟩,
        ⟨(some 36), .mv (.t 5), (some (35, true)), [1]⟩,
        ⟨(some 37), .call (.k (.d (.fn (N 80)))) [(.t 36)], (some (35, true)), [2, 1]⟩,
        ⟨(some 38), .mv (.t 0), (some (35, true)), [1]⟩,
        ⟨(some 39), .call (.k (.d (.fn (N 81)))) [(.t 38)], (some (35, true)), [4, 3, 1]⟩,
        ⟨(some 40), .call (.k (.d (.fn (N 22)))) [(.t 37), (.t 39)], (some (35, true)), [3, 5, 1]⟩,
        ⟨(some 41), .pick (.t 35) (.t 40) (.k (.d (.bool false))), none, [1, 6]⟩,
        ⟨(some 42), .mv (.t 41), none, [7, 6]⟩,
        ⟨(some 43), .mv (.t 7), (some (42, true)), [8]⟩,
        ⟨(some 44), .mv (.t 9), (some (42, true)), [8]⟩,
        ⟨(some 45), .call (.k (.d (.fn (N 76)))) [(.t 43), (.t 44)], (some (42, true)), [9, 10, 8]⟩,
        ⟨(some 46), .pick (.t 42) (.t 45) (.k (.d (.bool false))), none, [8, 11]⟩,
        ⟨(some 47), .mv (.t 46), none, [12, 11]⟩,
        ⟨(some 48), .mv (.t 8), (some (47, true)), [13]⟩,
        ⟨(some 49), .mv (.t 10), (some (47, true)), [13]⟩,
        ⟨(some 50), .bin .eql (.t 48) (.t 49), (some (47, true)), [14, 15, 13]⟩,
        ⟨(some 51), .pick (.t 47) (.t 50) (.k (.d (.bool false))), none, [13, 16]⟩,
        ⟨(some 52), .mv (.t 51), none, [17, 13]⟩,
        ⟨(some 53), .mv (.t 5), (some (52, true)), [18]⟩,
        ⟨(some 54), .mv (.t 0), (some (52, true)), [18]⟩,
        ⟨(some 55), .call (.k (.d (.fn (N 76)))) [(.t 53), (.t 54)], (some (52, true)), [19, 20, 18]⟩,
        ⟨(some 56), .pick (.t 52) (.t 55) (.k (.d (.bool false))), none, [18, 21]⟩,
        ⟨(some 57), .mv (.t 56), none, [22, 21]⟩,
        ⟨(some 58), .mv (.t 6), (some (57, true)), [23]⟩,
        ⟨(some 59), .mv (.t 1), (some (57, true)), [23]⟩,
        ⟨(some 60), .call (.k (.d (.fn (N 29)))) [(.t 58), (.t 59), (.k (.d (.int .u8 71)))], (some (57, true)), [24, 25, 23]⟩,
        ⟨(some 61), .pick (.t 57) (.t 60) (.k (.d (.bool false))), none, [23, 26]⟩,
        ⟨(some 4), .mv (.t 61), none, [27, 26, 0, 1, 2, 3, 4, 5, 6, 7, 8, 9, 10, 11, 12, 13, 14, 15, 16, 17, 18, 19, 20, 21, 22, 23, 24, 25]⟩])
       .ret)))))) }
def HC18 (P : Program) (N : Nat → Nat) : Prop := HasF P (N 18) (C18 N) ∧ HC70 P N ∧ HC69 P N ∧ HC71 P N ∧ HC21 P N ∧ HC78 P N ∧ HC79 P N ∧ HC80 P N ∧ HC81 P N ∧ HC22 P N ∧ HC76 P N ∧ HC29 P N
def f18 (k : Nat) (a0 : (List TPair)) (a1 : (List UInt8)) : Option Bool := (f70 k a0).bind fun r10 => cond (!r10) ((f69 k).bind fun r21 => some r21) (cond (decide (((a1.length : Nat) : Int) > (5000 : Int))) ((f69 k).bind fun r21 => some r21) ((f71 k a0).bind fun r29 => (f21 k a1 (71 : UInt8)).bind fun r31 => (f78 k (List.take (((0 : Int)).toNat + a1.length) r31)).bind fun r38 => (f79 k a1).bind fun r48 => (f69 k).bind fun r57 => cond r57 ((f80 k r29).bind fun r60 => (f81 k a0).bind fun r62 => (f22 k r60 r62).bind fun r63 => cond (decide (r60 = r62)) ((f76 k r38.1 r48.1).bind fun r68 => cond r68 (cond (decide (r38.2 = r48.2)) ((f76 k r29 a0).bind fun r78 => cond r78 ((f29 k r31 (((0 : Int)).toNat + a1.length) a1 (71 : UInt8)).bind fun r83 => some r83) (some false)) (some false)) (some false)) (some false)) (some false)))
theorem F18 {P : Program} {N : Nat → Nat} (hmix : P.follows .mixedOrders = true) (hc : HC18 P N) {k : Nat} {a0 : (List TPair)} {a1 : (List UInt8)} {r : Bool} (h : f18 k a0 a1 = some r) :
    ACalls P (N 18) [(.d (.sl (List.map TPair.enc a0))), (.d (.sl (List.map byteD a1)))] [] (.d (.bool r)) [] := by
  refine acalls_canon (F := C18 N) hc.1 0 0 rfl ?_
  unfold f18 at h
  dsimp only [C18, startL]
  refine AWc.seq ?_
  refine AWc.rg hmix rfl rfl ?_
  refine RegV.p0 rfl rfl rfl ?_
  refine RegV.nil0 ?_
  refine AWc.seq ?_
  refine AWc.seq ?_
  refine AWc.rg hmix rfl rfl ?_
  refine RegV.p0 rfl rfl rfl ?_
  obtain ⟨r10, e10, h⟩ := bind_some h
  refine RegV.call0 (F70 hmix hc.2.1 e10) rfl rfl rfl rfl (.cons (.refl _) .nil) rfl ?_
  refine RegV.p0 (v := (.d (.bool (!r10)))) rfl rfl rfl ?_
  refine RegV.p0 rfl rfl rfl ?_
  refine RegV.split (fun c12 => ?_) (fun c12 => ?_)
  · have h := cond_pos c12 h
    refine RegV.noS rfl rfl ?_
    refine RegV.noS rfl rfl ?_
    refine RegV.noS rfl rfl ?_
    refine RegV.p0 rfl rfl rfl ?_
    refine RegV.nil0 ?_
    refine AWc.cond rfl (fun _ => ?_) (fun hc => by cases hc)
    refine AWc.seq ?_
    refine AWc.rg hmix rfl rfl ?_
    obtain ⟨r21, e21, h⟩ := bind_some h
    refine RegV.call0 (F69 hmix hc.2.2.1 e21) rfl rfl rfl rfl .nil rfl ?_
    refine RegV.p0 rfl rfl rfl ?_
    refine RegV.nil0 ?_
    have hr := Option.some.inj h
    subst hr
    exact AWc.ret (canQ (N := 62) (k := 0) (l' := [(4, (.d (.bool r21)))]) (H' := []) rfl ⟨rfl, [], [], rfl, rfl, ⟨⟨_, rfl, (.refl _)⟩, rfl, trivial⟩,  trivial⟩ (doneA (.inr rfl) rfl ⟨trivial, trivial⟩ (.refl _) hasNil))
  · have h := cond_neg c12 h
    refine RegV.p0 rfl rfl rfl ?_
    refine RegV.len (xs := a1) (e := byteD) rfl rfl rfl rfl ?_
    refine RegV.p0 (v := (.d (.bool (decide (((a1.length : Nat) : Int) > (5000 : Int)))))) rfl rfl rfl ?_
    refine RegV.p0 rfl rfl rfl ?_
    refine RegV.nil0 ?_
    refine AWc.cond rfl (fun c17 => ?_) (fun c17 => ?_)
    · have h := cond_pos c17 h
      refine AWc.seq ?_
      refine AWc.rg hmix rfl rfl ?_
      obtain ⟨r21, e21, h⟩ := bind_some h
      refine RegV.call0 (F69 hmix hc.2.2.1 e21) rfl rfl rfl rfl .nil rfl ?_
      refine RegV.p0 rfl rfl rfl ?_
      refine RegV.nil0 ?_
      have hr := Option.some.inj h
      subst hr
      exact AWc.ret (canQ (N := 62) (k := 0) (l' := [(4, (.d (.bool r21)))]) (H' := []) rfl ⟨rfl, [], [], rfl, rfl, ⟨⟨_, rfl, (.refl _)⟩, rfl, trivial⟩,  trivial⟩ (doneA (.inr rfl) rfl ⟨trivial, trivial⟩ (.refl _) hasNil))
    · have h := cond_neg c17 h
      refine AWc.skip ?_
      refine AWc.seq ?_
      refine AWc.rg hmix rfl rfl ?_
      refine RegV.p0 rfl rfl rfl ?_
      obtain ⟨r29, e29, h⟩ := bind_some h
      refine RegV.callS (q := false) (H' := [(0, (.tok ((List.map TPair.enc r29).length * 3)))]) (c' := 1) (show ACalls P (N 71) [(.d (.sl (List.map TPair.enc a0)))] [] (.ap 0 3 (List.map TPair.enc r29)) [(0, (.tok ((List.map TPair.enc r29).length * 3)))] from ACalls.use (F71 hmix hc.2.2.2.1 e29) [(0, 0)] 1 rfl) rfl rfl rfl rfl (.cons (.refl _) .nil) (.refl _) (fun h => by cases h) rfl hasNil rfl rfl rfl rfl ?_
      refine RegV.p0 rfl rfl rfl ?_
      obtain ⟨r31, e31, h⟩ := bind_some h
      refine RegV.call0 (F21 hmix hc.2.2.2.2.1 e31) rfl rfl rfl rfl (.cons (.refl _) (.cons (.refl _) .nil)) rfl ?_
      refine RegV.p0 rfl rfl rfl ?_
      refine RegV.p0 rfl rfl rfl ?_
      refine RegV.nil0 ?_
      refine AWc.seq ?_
      refine AWc.rg hmix rfl rfl ?_
      refine RegV.p0 rfl rfl rfl ?_
      obtain ⟨r38, e38, h⟩ := bind_some h
      refine RegV.callS (q := false) (H' := [(1, (.tok ((List.map TPair.enc r38.1).length * 3))), (0, (.tok ((List.map TPair.enc r29).length * 3)))]) (c' := 2) (show ACalls P (N 78) [(.d (.sl (List.map byteD (List.take (((0 : Int)).toNat + a1.length) r31))))] [] (.tup [(.ap 1 3 (List.map TPair.enc r38.1)), (.d (.int .i64 r38.2))]) [(1, (.tok ((List.map TPair.enc r38.1).length * 3)))] from ACalls.use (F78 hmix hc.2.2.2.2.2.1 e38) [(0, 1)] 1 rfl) rfl rfl rfl rfl (.cons .win .nil) (.refl _) (fun h => by cases h) rfl hasNil rfl rfl rfl rfl ?_
      refine RegV.p0 rfl rfl rfl ?_
      refine RegV.p0 rfl rfl rfl ?_
      refine RegV.p0 rfl rfl rfl ?_
      refine RegV.p0 rfl rfl rfl ?_
      refine RegV.p0 rfl rfl rfl ?_
      refine RegV.nil0 ?_
      refine AWc.seq ?_
      refine AWc.rg hmix rfl rfl ?_
      refine RegV.p0 rfl rfl rfl ?_
      obtain ⟨r48, e48, h⟩ := bind_some h
      refine RegV.callS (q := false) (H' := [(2, (.tok ((List.map TPair.enc r48.1).length * 3))), (1, (.tok ((List.map TPair.enc r38.1).length * 3))), (0, (.tok ((List.map TPair.enc r29).length * 3)))]) (c' := 3) (show ACalls P (N 79) [(.d (.sl (List.map byteD a1)))] [] (.tup [(.ap 2 3 (List.map TPair.enc r48.1)), (.d (.int .i64 r48.2))]) [(2, (.tok ((List.map TPair.enc r48.1).length * 3)))] from ACalls.use (F79 hmix hc.2.2.2.2.2.2.1 e48) [(0, 2)] 1 rfl) rfl rfl rfl rfl (.cons (.refl _) .nil) (.refl _) (fun h => by cases h) rfl hasNil rfl rfl rfl rfl ?_
      refine RegV.p0 rfl rfl rfl ?_
      refine RegV.p0 rfl rfl rfl ?_
      refine RegV.p0 rfl rfl rfl ?_
      refine RegV.p0 rfl rfl rfl ?_
      refine RegV.p0 rfl rfl rfl ?_
      refine RegV.nil0 ?_
      refine AWc.seq ?_
      refine AWc.rg hmix rfl rfl ?_
      obtain ⟨r57, e57, h⟩ := bind_some h
      refine RegV.call0 (F69 hmix hc.2.2.1 e57) rfl rfl rfl rfl .nil rfl ?_
      refine RegV.p0 rfl rfl rfl ?_
      refine RegV.split (fun c58 => ?_) (fun c58 => ?_)
      · have h := cond_pos c58 h
        refine RegV.p0 rfl rfl rfl ?_
        obtain ⟨r60, e60, h⟩ := bind_some h
        refine RegV.callS (q := false) (H' := [(3, (.tok ((List.map byteD r60).length * 1))), (2, (.tok ((List.map TPair.enc r48.1).length * 3))), (1, (.tok ((List.map TPair.enc r38.1).length * 3))), (0, (.tok ((List.map TPair.enc r29).length * 3)))]) (c' := 4) (show ACalls P (N 80) [(.d (.sl (List.map TPair.enc r29)))] [] (.ap 3 1 (List.map byteD r60)) [(3, (.tok ((List.map byteD r60).length * 1)))] from ACalls.use (F80 hmix hc.2.2.2.2.2.2.2.1 e60) [(0, 3)] 1 rfl) rfl rfl rfl rfl (.cons (.sl rfl) .nil) (.refl _) (fun h => by cases h) rfl hasNil rfl rfl rfl rfl ?_
        refine RegV.p0 rfl rfl rfl ?_
        obtain ⟨r62, e62, h⟩ := bind_some h
        refine RegV.callS (q := false) (H' := [(4, (.tok ((List.map byteD r62).length * 1))), (3, (.tok ((List.map byteD r60).length * 1))), (2, (.tok ((List.map TPair.enc r48.1).length * 3))), (1, (.tok ((List.map TPair.enc r38.1).length * 3))), (0, (.tok ((List.map TPair.enc r29).length * 3)))]) (c' := 5) (show ACalls P (N 81) [(.d (.sl (List.map TPair.enc a0)))] [] (.ap 4 1 (List.map byteD r62)) [(4, (.tok ((List.map byteD r62).length * 1)))] from ACalls.use (F81 hmix hc.2.2.2.2.2.2.2.2.1 e62) [(0, 4)] 1 rfl) rfl rfl rfl rfl (.cons (.refl _) .nil) (.refl _) (fun h => by cases h) rfl hasNil rfl rfl rfl rfl ?_
        obtain ⟨r63, e63, h⟩ := bind_some h
        refine RegV.call0 (F22 hmix hc.2.2.2.2.2.2.2.2.2.1 e63) rfl rfl rfl rfl (.cons (.sl rfl) (.cons (.sl rfl) .nil)) rfl ?_
        refine RegV.p0 rfl rfl rfl ?_
        refine RegV.p0 rfl rfl rfl ?_
        refine RegV.split (fun c65 => ?_) (fun c65 => ?_)
        · have h := cond_pos c65 h
          refine RegV.p0 rfl rfl rfl ?_
          refine RegV.p0 rfl rfl rfl ?_
          obtain ⟨r68, e68, h⟩ := bind_some h
          refine RegV.call0 (F76 hmix hc.2.2.2.2.2.2.2.2.2.2.1 e68) rfl rfl rfl rfl (.cons (.sl rfl) (.cons (.sl rfl) .nil)) rfl ?_
          refine RegV.p0 rfl rfl rfl ?_
          refine RegV.p0 rfl rfl rfl ?_
          refine RegV.split (fun c70 => ?_) (fun c70 => ?_)
          · have h := cond_pos c70 h
            refine RegV.p0 rfl rfl rfl ?_
            refine RegV.p0 rfl rfl rfl ?_
            refine RegV.p0 (v := (.d (.bool (decide (r38.2 = r48.2))))) rfl rfl rfl ?_
            refine RegV.p0 rfl rfl rfl ?_
            refine RegV.p0 rfl rfl rfl ?_
            refine RegV.split (fun c75 => ?_) (fun c75 => ?_)
            · have h := cond_pos c75 h
              refine RegV.p0 rfl rfl rfl ?_
              refine RegV.p0 rfl rfl rfl ?_
              obtain ⟨r78, e78, h⟩ := bind_some h
              refine RegV.call0 (F76 hmix hc.2.2.2.2.2.2.2.2.2.2.1 e78) rfl rfl rfl rfl (.cons (.sl rfl) (.cons (.refl _) .nil)) rfl ?_
              refine RegV.p0 rfl rfl rfl ?_
              refine RegV.p0 rfl rfl rfl ?_
              refine RegV.split (fun c80 => ?_) (fun c80 => ?_)
              · have h := cond_pos c80 h
                refine RegV.p0 rfl rfl rfl ?_
                refine RegV.p0 rfl rfl rfl ?_
                obtain ⟨r83, e83, h⟩ := bind_some h
                refine RegV.call0 (F29 hmix hc.2.2.2.2.2.2.2.2.2.2.2 e83) rfl rfl rfl rfl (.cons (.refl _) (.cons (.refl _) (.cons (.refl _) .nil))) rfl ?_
                refine RegV.p0 rfl rfl rfl ?_
                refine RegV.p0 rfl rfl rfl ?_
                refine RegV.nil0 ?_
                have hr := Option.some.inj h
                subst hr
                exact AWc.ret (canQ (N := 62) (k := 0) (l' := [(4, (.d (.bool r83)))]) (H' := []) rfl ⟨rfl, [], [], rfl, rfl, ⟨⟨_, rfl, (.refl _)⟩, rfl, trivial⟩,  trivial⟩ (doneA (.inr rfl) rfl ⟨trivial, trivial⟩ (.refl _) hasNil))
              · have h := cond_neg c80 h
                refine RegV.noS rfl rfl ?_
                refine RegV.noS rfl rfl ?_
                refine RegV.noS rfl rfl ?_
                refine RegV.p0 rfl rfl rfl ?_
                refine RegV.p0 rfl rfl rfl ?_
                refine RegV.nil0 ?_
                have hr := Option.some.inj h
                subst hr
                exact AWc.ret (canQ (N := 62) (k := 0) (l' := [(4, (.d (.bool false)))]) (H' := []) rfl ⟨rfl, [], [], rfl, rfl, ⟨⟨_, rfl, (.refl _)⟩, rfl, trivial⟩,  trivial⟩ (doneA (.inr rfl) rfl ⟨trivial, trivial⟩ (.refl _) hasNil))
            · have h := cond_neg c75 h
              refine RegV.noS rfl rfl ?_
              refine RegV.noS rfl rfl ?_
              refine RegV.noS rfl rfl ?_
              refine RegV.p0 rfl rfl rfl ?_
              refine RegV.p0 rfl rfl rfl ?_
              refine RegV.noS rfl rfl ?_
              refine RegV.noS rfl rfl ?_
              refine RegV.noS rfl rfl ?_
              refine RegV.p0 rfl rfl rfl ?_
              refine RegV.p0 rfl rfl rfl ?_
              refine RegV.nil0 ?_
              have hr := Option.some.inj h
              subst hr
              exact AWc.ret (canQ (N := 62) (k := 0) (l' := [(4, (.d (.bool false)))]) (H' := []) rfl ⟨rfl, [], [], rfl, rfl, ⟨⟨_, rfl, (.refl _)⟩, rfl, trivial⟩,  trivial⟩ (doneA (.inr rfl) rfl ⟨trivial, trivial⟩ (.refl _) hasNil))
          · have h := cond_neg c70 h
            refine RegV.noS rfl rfl ?_
            refine RegV.noS rfl rfl ?_
            refine RegV.noS rfl rfl ?_
            refine RegV.p0 rfl rfl rfl ?_
            refine RegV.p0 rfl rfl rfl ?_
            refine RegV.noS rfl rfl ?_
            refine RegV.noS rfl rfl ?_
            refine RegV.noS rfl rfl ?_
            refine RegV.p0 rfl rfl rfl ?_
            refine RegV.p0 rfl rfl rfl ?_
            refine RegV.noS rfl rfl ?_
            refine RegV.noS rfl rfl ?_
            refine RegV.noS rfl rfl ?_
            refine RegV.p0 rfl rfl rfl ?_
            refine RegV.p0 rfl rfl rfl ?_
            refine RegV.nil0 ?_
            have hr := Option.some.inj h
            subst hr
            exact AWc.ret (canQ (N := 62) (k := 0) (l' := [(4, (.d (.bool false)))]) (H' := []) rfl ⟨rfl, [], [], rfl, rfl, ⟨⟨_, rfl, (.refl _)⟩, rfl, trivial⟩,  trivial⟩ (doneA (.inr rfl) rfl ⟨trivial, trivial⟩ (.refl _) hasNil))
        · have h := cond_neg c65 h
          refine RegV.noS rfl rfl ?_
          refine RegV.noS rfl rfl ?_
          refine RegV.noS rfl rfl ?_
          refine RegV.p0 rfl rfl rfl ?_
          refine RegV.p0 rfl rfl rfl ?_
          refine RegV.noS rfl rfl ?_
          refine RegV.noS rfl rfl ?_
          refine RegV.noS rfl rfl ?_
          refine RegV.p0 rfl rfl rfl ?_
          refine RegV.p0 rfl rfl rfl ?_
          refine RegV.noS rfl rfl ?_
          refine RegV.noS rfl rfl ?_
          refine RegV.noS rfl rfl ?_
          refine RegV.p0 rfl rfl rfl ?_
          refine RegV.p0 rfl rfl rfl ?_
          refine RegV.noS rfl rfl ?_
          refine RegV.noS rfl rfl ?_
          refine RegV.noS rfl rfl ?_
          refine RegV.p0 rfl rfl rfl ?_
          refine RegV.p0 rfl rfl rfl ?_
          refine RegV.nil0 ?_
          have hr := Option.some.inj h
          subst hr
          exact AWc.ret (canQ (N := 62) (k := 0) (l' := [(4, (.d (.bool false)))]) (H' := []) rfl ⟨rfl, [], [], rfl, rfl, ⟨⟨_, rfl, (.refl _)⟩, rfl, trivial⟩,  trivial⟩ (doneA (.inr rfl) rfl ⟨trivial, trivial⟩ (.refl _) hasNil))
      · have h := cond_neg c58 h
        refine RegV.noS rfl rfl ?_
        refine RegV.noS rfl rfl ?_
        refine RegV.noS rfl rfl ?_
        refine RegV.noS rfl rfl ?_
        refine RegV.noS rfl rfl ?_
        refine RegV.p0 rfl rfl rfl ?_
        refine RegV.p0 rfl rfl rfl ?_
        refine RegV.noS rfl rfl ?_
        refine RegV.noS rfl rfl ?_
        refine RegV.noS rfl rfl ?_
        refine RegV.p0 rfl rfl rfl ?_
        refine RegV.p0 rfl rfl rfl ?_
        refine RegV.noS rfl rfl ?_
        refine RegV.noS rfl rfl ?_
        refine RegV.noS rfl rfl ?_
        refine RegV.p0 rfl rfl rfl ?_
        refine RegV.p0 rfl rfl rfl ?_
        refine RegV.noS rfl rfl ?_
        refine RegV.noS rfl rfl ?_
        refine RegV.noS rfl rfl ?_
        refine RegV.p0 rfl rfl rfl ?_
        refine RegV.p0 rfl rfl rfl ?_
        refine RegV.noS rfl rfl ?_
        refine RegV.noS rfl rfl ?_
        refine RegV.noS rfl rfl ?_
        refine RegV.p0 rfl rfl rfl ?_
        refine RegV.p0 rfl rfl rfl ?_
        refine RegV.nil0 ?_
        have hr := Option.some.inj h
        subst hr
        exact AWc.ret (canQ (N := 62) (k := 0) (l' := [(4, (.d (.bool false)))]) (H' := []) rfl ⟨rfl, [], [], rfl, rfl, ⟨⟨_, rfl, (.refl _)⟩, rfl, trivial⟩,  trivial⟩ (doneA (.inr rfl) rfl ⟨trivial, trivial⟩ (.refl _) hasNil))
end Go.Proofs.Abs
