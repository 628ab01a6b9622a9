/- Written by gen.py: functions of the program as Lean functions, and that the code comes to them. -/
import Derived.Test.YtgimibhacllcpaaGCrc
set_option linter.unusedVariables false
set_option linter.unusedSimpArgs false
set_option maxRecDepth 100000
set_option maxHeartbeats 4000000
namespace Go.Proofs.Abs
open Go

/-- slices.All[[]byte,byte] -/
def C225 (N : Nat → Nat) : AFunc := { n := 4, params := 1, res := [.tmp 2], body :=
 (.seq (.region false [⟨(some 1), .box (.t 0), none, []⟩,
   ⟨(some 2), .mv (.k (.d .nilf)), none, []⟩])
  (.seq (.region false [⟨(some 3), .mkfn (N 226) [(.t 1)], none, []⟩,
    ⟨(some 2), .mv (.t 3), none, [0]⟩])
   .ret)) }
def HC225 (P : Program) (N : Nat → Nat) : Prop := HasF P (N 225) (C225 N)
def f225 (k : Nat) (a0 : (List UInt8)) (a1 : Nat) (a2 : Nat) : Option Unit := some ()
theorem F225 {P : Program} {N : Nat → Nat} (hmix : P.follows .mixedOrders = true) (hc : HC225 P N) {k : Nat} {a0 : (List UInt8)} {a1 : Nat} {a2 : Nat} {r : Unit} (h : f225 k a0 a1 a2 = some r) :
    ACalls P (N 225) [(.sl 0 0 a1 a2 1)] [(0, (cellsO byteD a0))] (.fn (N 226) [(.ptr 1 0)]) [(1, (.cells [(.sl 0 0 a1 a2 1)])), (0, (cellsO byteD a0))] := by
  refine acalls_canon (F := C225 N) hc 1 2 rfl ?_
  unfold f225 at h
  dsimp only [C225, startL]
  refine AWc.seq ?_
  refine AWc.rg hmix rfl rfl ?_
  refine RegV.evS (own := false) (v := (.ptr 1 0)) (H' := [(1, (.cells [(.sl 0 0 a1 a2 1)])), (0, (cellsO byteD a0))]) (c' := 2) rfl rfl trivial rfl rfl rfl rfl rfl rfl ?_
  refine RegV.p0 rfl rfl rfl ?_
  refine RegV.nil0 ?_
  refine AWc.seq ?_
  refine AWc.rg hmix rfl rfl ?_
  refine RegV.p0 (v := (.fn (N 226) [(.ptr 1 0)])) rfl rfl rfl ?_
  refine RegV.p0 rfl rfl rfl ?_
  refine RegV.nil0 ?_
  have hr := Option.some.inj h
  subst hr
  exact AWc.ret (canQ (N := 4) (k := 2) (l' := [(2, (.fn (N 226) [(.ptr 1 0)]))]) (H' := [(1, (.cells [(.sl 0 0 a1 a2 1)])), (0, (cellsO byteD a0))]) rfl ⟨rfl, [], [], rfl, rfl, ⟨⟨_, rfl, (.refl _)⟩, rfl, trivial⟩, ⟨⟨_, rfl, (.refl _)⟩, rfl, rfl, ⟨⟨_, rfl, (.refl _)⟩, rfl, rfl, trivial⟩⟩⟩ (doneA (.inr rfl) rfl ⟨trivial, trivial⟩ (.refl _) (hasCons rfl (hasCons rfl hasNil))))
def L224_0a (N : Nat → Nat) : ACode :=
 (.region false [⟨(some 6), .mv (.t 11), none, []⟩])
def L224_0b (N : Nat → Nat) : ACode :=
 (.block 1 (.region true [⟨(some 13), .load (.t 5) 1 false, none, []⟩,
   ⟨(some 14), .mv (.t 6), none, []⟩,
   ⟨(some 15), .load (.t 2) 1 false, none, []⟩,
   ⟨(some 16), .load (.t 3) 1 false, none, []⟩,
   ⟨(some 17), .bin .sub (.t 16) (.k (.d (.int .i64 1))), none, [3]⟩,
   ⟨(some 18), .mv (.t 6), none, []⟩,
   ⟨(some 19), .bin .sub (.t 17) (.t 18), none, [4, 5]⟩,
   ⟨(some 20), .bin .mul (.k (.d (.int .i64 8))) (.t 19), none, [6]⟩,
   ⟨(some 21), .bin .shr (.t 15) (.t 20), none, [2, 7]⟩,
   ⟨(some 22), .cvi .u8 (.t 21), none, [8]⟩,
   ⟨(some 23), .iaddr (.t 13) (.t 14) 1, none, [0, 1, 2, 3, 4, 5, 6, 7, 8, 9]⟩,
   ⟨none, .store (.t 23) (.t 22) 1, none, [10, 9, 0, 1, 2, 3, 4, 5, 6, 7, 8]⟩]))
/-- courant/frame.number -/
def C224 (N : Nat → Nat) : AFunc := { n := 25, params := 2, res := [.tmp 4], body :=
 (.seq (.region false [⟨(some 2), .box (.t 0), none, []⟩,
   ⟨(some 3), .box (.t 1), none, []⟩,
   ⟨(some 4), .mv (.k .nils), none, []⟩])
  (.seq (.region false [⟨(some 7), .load (.t 3) 1 false, none, []⟩,
    ⟨(some 8), .mksl (.t 7) (.t 7) 1 1 [(.int .u8 0)], none, [0]⟩,
    ⟨(some 5), .alloc [(.sl [])], none, []⟩,
    ⟨none, .store (.t 5) (.t 8) 1, none, [2, 1, 0]⟩])
   (.seq (.seq (.region false [⟨(some 9), .load (.t 5) 1 false, none, []⟩,
      ⟨(some 10), .call (.k (.d (.fn (N 225)))) [(.t 9)], none, [0]⟩])
     (.block 0 (.rangeFunc (.t 10) [11, 12] (L224_0a N) (L224_0b N))))
    (.seq (.region false [⟨(some 24), .load (.t 5) 1 false, none, []⟩,
      ⟨(some 4), .mv (.t 24), none, [0]⟩])
     .ret)))) }
def HCb224_21 (P : Program) (N : Nat → Nat) : Prop := True
def b224_21 (k : Nat) (a0 : Int) (a1 : Int) (a2 : (List UInt8)) (a3 : Nat) (a4 : Nat) (a5 : Int) (a6 : UInt8) : Option Unit := gd (0 ≤ (IntKind.i64.wrap ((8 : Int) * (IntKind.i64.wrap ((IntKind.i64.wrap (a1 - (1 : Int))) - a5))))) (gd (0 ≤ a5 ∧ a5 < ((a3 : Nat) : Int)) (gd ((a5).toNat < a2.length) (some ())))
theorem B224_21 {P : Program} {N : Nat → Nat} (hmix : P.follows .mixedOrders = true) (hc : HCb224_21 P N) {asg0 bd0 : Code} (ha0 : compCode P asg0 = L224_0a N) (hb0 : compCode P bd0 = L224_0b N) {k : Nat} {a0 : Int} {a1 : Int} {a2 : (List UInt8)} {a3 : Nat} {a4 : Nat} {a5 : Int} {a6 : UInt8} {r : Unit} (h : b224_21 k a0 a1 a2 a3 a4 a5 a6 = some r) :
    ARound P 0 [(.d (.int .i64 a5)), (.d (.int .u8 ((a6.toNat : Nat) : Int)))] [(0, (.lp 25 [(2, (.ptr 1 0)), (3, (.ptr 2 0)), (5, (.ptr 3 0))] [11, 12] asg0 bd0 .ready none)), (1, (.cells [(.d (.int .u64 a0))])), (2, (.cells [(.d (.int .i64 a1))])), (3, (.cells [(.sl 4 0 a3 a4 1)])), (4, (cellsO byteD a2))] (.d (.bool true)) [(0, (.lp 25 [(2, (.ptr 1 0)), (3, (.ptr 2 0)), (5, (.ptr 3 0))] [11, 12] asg0 bd0 .ready none)), (1, (.cells [(.d (.int .u64 a0))])), (2, (.cells [(.d (.int .i64 a1))])), (3, (.cells [(.sl 4 0 a3 a4 1)])), (4, (cellsO byteD (List.set a2 (a5).toNat (u8 (IntKind.u8.wrap (Int.fdiv a0 (2 ^ (min ((IntKind.i64.wrap ((8 : Int) * (IntKind.i64.wrap ((IntKind.i64.wrap (a1 - (1 : Int))) - a5))))).toNat IntKind.u64.bits))))))))] := by
  refine around_gen 5 5 ha0 hb0 rfl rfl (fun ro => ?_)
  unfold b224_21 at h
  dsimp only [L224_0a, L224_0b, putArgs]
  refine AWc.rg hmix rfl rfl ?_
  refine RegV.p0 rfl rfl rfl ?_
  refine RegV.nil0 ?_
  refine asgDone rfl rfl ?_
  refine AWc.block ?_
  refine AWc.rg hmix rfl rfl ?_
  refine RegV.ld (v := (.sl 4 0 a3 a4 1)) (H' := [(3, (.cells [(.sl 4 0 a3 a4 1)])), (0, (.lp 25 [(2, (.ptr 1 0)), (3, (.ptr 2 0)), (5, (.ptr 3 0))] [11, 12] asg0 bd0 .busy none)), (1, (.cells [(.d (.int .u64 a0))])), (2, (.cells [(.d (.int .i64 a1))])), (4, (cellsO byteD a2))]) rfl rfl trivial rfl rfl rfl rfl rfl ?_
  refine RegV.p0 rfl rfl rfl ?_
  refine RegV.ld (v := (.d (.int .u64 a0))) (H' := [(1, (.cells [(.d (.int .u64 a0))])), (3, (.cells [(.sl 4 0 a3 a4 1)])), (0, (.lp 25 [(2, (.ptr 1 0)), (3, (.ptr 2 0)), (5, (.ptr 3 0))] [11, 12] asg0 bd0 .busy none)), (2, (.cells [(.d (.int .i64 a1))])), (4, (cellsO byteD a2))]) rfl rfl trivial rfl rfl rfl rfl rfl ?_
  refine RegV.ld (v := (.d (.int .i64 a1))) (H' := [(2, (.cells [(.d (.int .i64 a1))])), (1, (.cells [(.d (.int .u64 a0))])), (3, (.cells [(.sl 4 0 a3 a4 1)])), (0, (.lp 25 [(2, (.ptr 1 0)), (3, (.ptr 2 0)), (5, (.ptr 3 0))] [11, 12] asg0 bd0 .busy none)), (4, (cellsO byteD a2))]) rfl rfl trivial rfl rfl rfl rfl rfl ?_
  refine RegV.p0 (v := (.d (.int .i64 (IntKind.i64.wrap (a1 - (1 : Int)))))) rfl rfl rfl ?_
  refine RegV.p0 rfl rfl rfl ?_
  refine RegV.p0 (v := (.d (.int .i64 (IntKind.i64.wrap ((IntKind.i64.wrap (a1 - (1 : Int))) - a5))))) rfl rfl rfl ?_
  refine RegV.p0 (v := (.d (.int .i64 (IntKind.i64.wrap ((8 : Int) * (IntKind.i64.wrap ((IntKind.i64.wrap (a1 - (1 : Int))) - a5))))))) rfl rfl rfl ?_
  obtain ⟨b37, h⟩ := gd_some h
  refine RegV.p1 (v := (.d (.int .u64 (Int.fdiv a0 (2 ^ (min ((IntKind.i64.wrap ((8 : Int) * (IntKind.i64.wrap ((IntKind.i64.wrap (a1 - (1 : Int))) - a5))))).toNat IntKind.u64.bits)))))) rfl rfl b37 rfl rfl ?_
  refine RegV.p0 (v := (.d (.int .u8 (IntKind.u8.wrap (Int.fdiv a0 (2 ^ (min ((IntKind.i64.wrap ((8 : Int) * (IntKind.i64.wrap ((IntKind.i64.wrap (a1 - (1 : Int))) - a5))))).toNat IntKind.u64.bits))))))) rfl rfl rfl ?_
  obtain ⟨b39, h⟩ := gd_some h
  refine RegV.iaS0 (z := 1) rfl rfl rfl b39 rfl ?_
  obtain ⟨b40, h⟩ := gd_some h
  refine RegV.stS (e := byteD) (xs := a2) (i := (a5).toNat) (v := (u8 (IntKind.u8.wrap (Int.fdiv a0 (2 ^ (min ((IntKind.i64.wrap ((8 : Int) * (IntKind.i64.wrap ((IntKind.i64.wrap (a1 - (1 : Int))) - a5))))).toNat IntKind.u64.bits)))))) (H' := [(4, (cellsO byteD (List.set a2 (a5).toNat (u8 (IntKind.u8.wrap (Int.fdiv a0 (2 ^ (min ((IntKind.i64.wrap ((8 : Int) * (IntKind.i64.wrap ((IntKind.i64.wrap (a1 - (1 : Int))) - a5))))).toNat IntKind.u64.bits)))))))), (2, (.cells [(.d (.int .i64 a1))])), (1, (.cells [(.d (.int .u64 a0))])), (3, (.cells [(.sl 4 0 a3 a4 1)])), (0, (.lp 25 [(2, (.ptr 1 0)), (3, (.ptr 2 0)), (5, (.ptr 3 0))] [11, 12] asg0 bd0 .busy none))]) rfl rfl rfl (cellsU8 (u8_wrap _)) byteD_ok rfl b40 rfl rfl rfl ?_
  refine RegV.nil1 (by kernel_rfl) ?_
  have hr := Option.some.inj h
  subst hr
  exact (canQ (N := 25) (k := 5) (l' := []) (H' := [(0, (.lp 25 [(2, (.ptr 1 0)), (3, (.ptr 2 0)), (5, (.ptr 3 0))] [11, 12] asg0 bd0 .busy none)), (1, (.cells [(.d (.int .u64 a0))])), (2, (.cells [(.d (.int .i64 a1))])), (3, (.cells [(.sl 4 0 a3 a4 1)])), (4, (cellsO byteD (List.set a2 (a5).toNat (u8 (IntKind.u8.wrap (Int.fdiv a0 (2 ^ (min ((IntKind.i64.wrap ((8 : Int) * (IntKind.i64.wrap ((IntKind.i64.wrap (a1 - (1 : Int))) - a5))))).toNat IntKind.u64.bits))))))))]) rfl ⟨rfl, [], [], rfl, rfl,  trivial, ⟨⟨_, rfl, (.refl _)⟩, rfl, rfl, ⟨⟨_, rfl, (.refl _)⟩, rfl, rfl, ⟨⟨_, rfl, (.refl _)⟩, rfl, rfl, ⟨⟨_, rfl, (.refl _)⟩, rfl, rfl, ⟨⟨_, rfl, (.refl _)⟩, rfl, rfl, trivial⟩⟩⟩⟩⟩⟩ (roundD rfl rfl rfl rfl (hasCons rfl (hasCons rfl (hasCons rfl (hasCons rfl (hasCons rfl hasNil)))))))
/-- slices.All[[]byte,byte]$1 -/
def C226 (N : Nat → Nat) : AFunc := { n := 18, params := 2, res := [], body :=
 (.seq (.region false [⟨(some 5), .load (.t 1) 1 false, none, []⟩,
   ⟨(some 6), .len (.t 5), none, [0]⟩,
   ⟨(some 7), .mv (.k (.d (.int .i64 0))), none, []⟩])
  (.block 0 (.loop (.seq (.region false [⟨(some 8), .bin .lss (.t 7) (.t 6), none, []⟩])
     (.seq (.cond (.t 8) (.skip)
       (.exit 0))
      (.seq (.block 1 (.seq (.region false [⟨(some 9), .mv (.t 7), none, []⟩,
          ⟨(some 10), .iaddr (.t 5) (.t 7) 1, none, []⟩,
          ⟨(some 11), .load (.t 10) 1 false, none, [1]⟩,
          ⟨(some 3), .mv (.t 9), none, [0, 1, 2]⟩,
          ⟨(some 4), .mv (.t 11), none, [2, 3, 0, 1]⟩])
         (.seq (.region false [⟨(some 12), .mv (.t 0), none, []⟩,
           ⟨(some 13), .mv (.t 3), none, []⟩,
           ⟨(some 14), .mv (.t 4), none, []⟩,
           ⟨(some 15), .call (.t 12) [(.t 13), (.t 14)], none, [0, 1, 2]⟩,
           ⟨(some 16), .un .not (.t 15), none, [3]⟩])
          (.cond (.t 16) .ret
           (.skip)))))
       (.region false [⟨(some 17), .bin .add (.t 7) (.k (.d (.int .i64 1))), none, []⟩,
        ⟨(some 7), .mv (.t 17), none, [0]⟩]))))))) }
def HC226 (P : Program) (N : Nat → Nat) : Prop := HasF P (N 226) (C226 N) ∧ HCb224_21 P N
def f226_l7 (a5 : Nat) (a0 : Int) (a1 : Int) (a3 : Nat) (a4 : Nat) : Nat → Int → (List UInt8) → Option (LR2 (List UInt8) Unit (List UInt8))
  | 0, _, _ => none
  | k + 1, y7_1, y7_2 => cond (decide (y7_1 < ((a5 : Nat) : Int))) (gd (0 ≤ y7_1 ∧ y7_1 < ((a5 : Nat) : Int)) (gd ((y7_1).toNat < y7_2.length) ((b224_21 k a0 a1 y7_2 a3 a4 y7_1 (List.getD y7_2 (y7_1).toNat default)).bind fun r33 => f226_l7 a5 a0 a1 a3 a4 k (IntKind.i64.wrap (y7_1 + (1 : Int))) (List.set y7_2 (y7_1).toNat (u8 (IntKind.u8.wrap (Int.fdiv a0 (2 ^ (min ((IntKind.i64.wrap ((8 : Int) * (IntKind.i64.wrap ((IntKind.i64.wrap (a1 - (1 : Int))) - y7_1))))).toNat IntKind.u64.bits))))))))) (some (.b0 y7_2))
def f226 (k : Nat) (a0 : Int) (a1 : Int) (a2 : (List UInt8)) (a3 : Nat) (a4 : Nat) (a5 : Nat) (a6 : Nat) : Option (List UInt8) := (f226_l7 a5 a0 a1 a3 a4 k (0 : Int) a2).bind fun o7 => match o7 with | .b0 x7_1 => some x7_1 | _ => none
theorem F226 {P : Program} {N : Nat → Nat} (hmix : P.follows .mixedOrders = true) (hc : HC226 P N) {asg0 bd0 : Code} (ha0 : compCode P asg0 = L224_0a N) (hb0 : compCode P bd0 = L224_0b N) {k : Nat} {a0 : Int} {a1 : Int} {a2 : (List UInt8)} {a3 : Nat} {a4 : Nat} {a5 : Nat} {a6 : Nat} {r : (List UInt8)} (h : f226 k a0 a1 a2 a3 a4 a5 a6 = some r) :
    ACalls P (N 226) [(.lf 0), (.ptr 5 0)] [(0, (.lp 25 [(2, (.ptr 1 0)), (3, (.ptr 2 0)), (5, (.ptr 3 0))] [11, 12] asg0 bd0 .ready none)), (1, (.cells [(.d (.int .u64 a0))])), (2, (.cells [(.d (.int .i64 a1))])), (3, (.cells [(.sl 4 0 a3 a4 1)])), (4, (cellsO byteD a2)), (5, (.cells [(.sl 4 0 a5 a6 1)]))] (.tup []) [(0, (.lp 25 [(2, (.ptr 1 0)), (3, (.ptr 2 0)), (5, (.ptr 3 0))] [11, 12] asg0 bd0 .ready none)), (1, (.cells [(.d (.int .u64 a0))])), (2, (.cells [(.d (.int .i64 a1))])), (3, (.cells [(.sl 4 0 a3 a4 1)])), (4, (cellsO byteD r)), (5, (.cells [(.sl 4 0 a5 a6 1)]))] := by
  refine acalls_canon (F := C226 N) hc.1 6 6 rfl ?_
  unfold f226 at h
  dsimp only [C226, startL]
  refine AWc.seq ?_
  refine AWc.rg hmix rfl rfl ?_
  refine RegV.ld (v := (.sl 4 0 a5 a6 1)) (H' := [(5, (.cells [(.sl 4 0 a5 a6 1)])), (0, (.lp 25 [(2, (.ptr 1 0)), (3, (.ptr 2 0)), (5, (.ptr 3 0))] [11, 12] asg0 bd0 .ready none)), (1, (.cells [(.d (.int .u64 a0))])), (2, (.cells [(.d (.int .i64 a1))])), (3, (.cells [(.sl 4 0 a3 a4 1)])), (4, (cellsO byteD a2))]) rfl rfl trivial rfl rfl rfl rfl rfl ?_
  refine RegV.p0 (v := (.d (.int .i64 ((a5 : Nat) : Int)))) rfl rfl rfl ?_
  refine RegV.p0 rfl rfl rfl ?_
  refine RegV.nil0 ?_
  obtain ⟨o7, h7, h⟩ := bind_some h
  refine AWc.block ?_
  refine AWc.loopK (N := 18) 6 (fun (x : (Int × (List UInt8))) => [(0, (.lf 0)), (5, (.sl 4 0 a5 a6 1)), (6, (.d (.int .i64 ((a5 : Nat) : Int)))), (7, (.d (.int .i64 x.1)))]) (fun x => [(0, (.lp 25 [(2, (.ptr 1 0)), (3, (.ptr 2 0)), (5, (.ptr 3 0))] [11, 12] asg0 bd0 .ready none)), (4, (cellsO byteD x.2)), (1, (.cells [(.d (.int .u64 a0))])), (2, (.cells [(.d (.int .i64 a1))])), (3, (.cells [(.sl 4 0 a3 a4 1)])), (5, (.cells [(.sl 4 0 a5 a6 1)]))]) (fun k x => f226_l7 a5 a0 a1 a3 a4 k x.1 x.2 = some o7) k ((0 : Int), a2) rfl_le (fun x hx => by cases hx) h7 ⟨rfl, [], [], rfl, rfl, ⟨⟨_, rfl, (.refl _)⟩, rfl, ⟨⟨_, rfl, (.refl _)⟩, rfl, ⟨⟨_, rfl, (.refl _)⟩, rfl, ⟨⟨_, rfl, (.refl _)⟩, rfl, trivial⟩⟩⟩⟩, ⟨⟨_, rfl, (.refl _)⟩, rfl, rfl, ⟨⟨_, rfl, (.refl _)⟩, rfl, rfl, ⟨⟨_, rfl, (.refl _)⟩, rfl, rfl, ⟨⟨_, rfl, (.refl _)⟩, rfl, rfl, ⟨⟨_, rfl, (.refl _)⟩, rfl, rfl, ⟨⟨_, rfl, (.refl _)⟩, rfl, rfl, trivial⟩⟩⟩⟩⟩⟩⟩ ?_
  clear h7
  intro k
  rintro ⟨y7_1, y7_2⟩ h7
  dsimp only at h7 ⊢
  rw [f226_l7] at h7
  refine AWc.seq ?_
  refine AWc.rg hmix rfl rfl ?_
  refine RegV.p0 (v := (.d (.bool (decide (y7_1 < ((a5 : Nat) : Int)))))) rfl rfl rfl ?_
  refine RegV.nil0 ?_
  refine AWc.seq ?_
  refine AWc.cond rfl (fun c14 => ?_) (fun c14 => ?_)
  · have h7 := cond_pos c14 h7
    refine AWc.skip ?_
    refine AWc.seq ?_
    refine AWc.block ?_
    refine AWc.seq ?_
    refine AWc.rg hmix rfl rfl ?_
    refine RegV.p0 rfl rfl rfl ?_
    obtain ⟨b23, h7⟩ := gd_some h7
    refine RegV.iaS0 (z := 1) rfl rfl rfl b23 rfl ?_
    obtain ⟨b24, h7⟩ := gd_some h7
    refine RegV.ldS (e := byteD) (xs := y7_2) (i := (y7_1).toNat) (H' := [(4, (cellsO byteD y7_2)), (0, (.lp 25 [(2, (.ptr 1 0)), (3, (.ptr 2 0)), (5, (.ptr 3 0))] [11, 12] asg0 bd0 .ready none)), (1, (.cells [(.d (.int .u64 a0))])), (2, (.cells [(.d (.int .i64 a1))])), (3, (.cells [(.sl 4 0 a3 a4 1)])), (5, (.cells [(.sl 4 0 a5 a6 1)]))]) rfl rfl byteD_ok rfl b24 rfl rfl rfl rfl ?_
    refine RegV.p0 rfl rfl rfl ?_
    refine RegV.p0 rfl rfl rfl ?_
    refine RegV.nil0 ?_
    refine AWc.seq ?_
    refine AWc.rg hmix rfl rfl ?_
    refine RegV.p0 rfl rfl rfl ?_
    refine RegV.p0 rfl rfl rfl ?_
    refine RegV.p0 rfl rfl rfl ?_
    obtain ⟨r33, e33, h7⟩ := bind_some h7
    refine RegV.yield (H' := [(0, (.lp 25 [(2, (.ptr 1 0)), (3, (.ptr 2 0)), (5, (.ptr 3 0))] [11, 12] asg0 bd0 .ready none)), (1, (.cells [(.d (.int .u64 a0))])), (2, (.cells [(.d (.int .i64 a1))])), (3, (.cells [(.sl 4 0 a3 a4 1)])), (4, (cellsO byteD (List.set y7_2 (y7_1).toNat (u8 (IntKind.u8.wrap (Int.fdiv a0 (2 ^ (min ((IntKind.i64.wrap ((8 : Int) * (IntKind.i64.wrap ((IntKind.i64.wrap (a1 - (1 : Int))) - y7_1))))).toNat IntKind.u64.bits)))))))), (5, (.cells [(.sl 4 0 a5 a6 1)]))]) (c' := 6) (show ARound P 0 [(.d (.int .i64 y7_1)), (.d (.int .u8 (((List.getD y7_2 (y7_1).toNat default).toNat : Nat) : Int)))] [(0, (.lp 25 [(2, (.ptr 1 0)), (3, (.ptr 2 0)), (5, (.ptr 3 0))] [11, 12] asg0 bd0 .ready none)), (1, (.cells [(.d (.int .u64 a0))])), (2, (.cells [(.d (.int .i64 a1))])), (3, (.cells [(.sl 4 0 a3 a4 1)])), (4, (cellsO byteD y7_2))] (.d (.bool true)) [(0, (.lp 25 [(2, (.ptr 1 0)), (3, (.ptr 2 0)), (5, (.ptr 3 0))] [11, 12] asg0 bd0 .ready none)), (1, (.cells [(.d (.int .u64 a0))])), (2, (.cells [(.d (.int .i64 a1))])), (3, (.cells [(.sl 4 0 a3 a4 1)])), (4, (cellsO byteD (List.set y7_2 (y7_1).toNat (u8 (IntKind.u8.wrap (Int.fdiv a0 (2 ^ (min ((IntKind.i64.wrap ((8 : Int) * (IntKind.i64.wrap ((IntKind.i64.wrap (a1 - (1 : Int))) - y7_1))))).toNat IntKind.u64.bits))))))))] from ARound.use (B224_21 hmix hc.2 ha0 hb0 e33) [(0, 0), (1, 1), (2, 2), (3, 3), (4, 4)] 5 rfl) rfl rfl rfl (.cons (.refl _) (.cons (.refl _) .nil)) rfl (hasCons rfl (hasCons rfl (hasCons rfl (hasCons rfl (hasCons rfl hasNil))))) rfl rfl rfl rfl ?_
    refine RegV.p0 (v := (.d (.bool false))) rfl rfl rfl ?_
    refine RegV.nil0 ?_
    refine AWc.cond rfl (fun hc => by cases hc) (fun _ => ?_)
    refine AWc.skip ?_
    refine AWc.rg hmix rfl rfl ?_
    refine RegV.p0 (v := (.d (.int .i64 (IntKind.i64.wrap (y7_1 + (1 : Int)))))) rfl rfl rfl ?_
    refine RegV.p0 rfl rfl rfl ?_
    refine RegV.nil0 ?_
    exact ⟨((IntKind.i64.wrap (y7_1 + (1 : Int))), (List.set y7_2 (y7_1).toNat (u8 (IntKind.u8.wrap (Int.fdiv a0 (2 ^ (min ((IntKind.i64.wrap ((8 : Int) * (IntKind.i64.wrap ((IntKind.i64.wrap (a1 - (1 : Int))) - y7_1))))).toNat IntKind.u64.bits))))))), h7, ⟨rfl, [], [], rfl, rfl, ⟨⟨_, rfl, (.refl _)⟩, rfl, ⟨⟨_, rfl, (.refl _)⟩, rfl, ⟨⟨_, rfl, (.refl _)⟩, rfl, ⟨⟨_, rfl, (.refl _)⟩, rfl, trivial⟩⟩⟩⟩, ⟨⟨_, rfl, (.refl _)⟩, rfl, rfl, ⟨⟨_, rfl, (.refl _)⟩, rfl, rfl, ⟨⟨_, rfl, (.refl _)⟩, rfl, rfl, ⟨⟨_, rfl, (.refl _)⟩, rfl, rfl, ⟨⟨_, rfl, (.refl _)⟩, rfl, rfl, ⟨⟨_, rfl, (.refl _)⟩, rfl, rfl, trivial⟩⟩⟩⟩⟩⟩⟩⟩
  · have h7 := cond_neg c14 h7
    cases h7
    dsimp only at h
    refine AWc.exit ?_
    refine inBlk_eq ?_
    have hr := Option.some.inj h
    subst hr
    exact canQ (N := 18) (k := 6) (l' := []) (H' := [(0, (.lp 25 [(2, (.ptr 1 0)), (3, (.ptr 2 0)), (5, (.ptr 3 0))] [11, 12] asg0 bd0 .ready none)), (1, (.cells [(.d (.int .u64 a0))])), (2, (.cells [(.d (.int .i64 a1))])), (3, (.cells [(.sl 4 0 a3 a4 1)])), (4, (cellsO byteD y7_2)), (5, (.cells [(.sl 4 0 a5 a6 1)]))]) rfl ⟨rfl, [], [], rfl, rfl,  trivial, ⟨⟨_, rfl, (.refl _)⟩, rfl, rfl, ⟨⟨_, rfl, (.refl _)⟩, rfl, rfl, ⟨⟨_, rfl, (.refl _)⟩, rfl, rfl, ⟨⟨_, rfl, (.refl _)⟩, rfl, rfl, ⟨⟨_, rfl, (.refl _)⟩, rfl, rfl, ⟨⟨_, rfl, (.refl _)⟩, rfl, rfl, trivial⟩⟩⟩⟩⟩⟩⟩ (doneA (.inl rfl) rfl trivial (.refl _) (hasCons rfl (hasCons rfl (hasCons rfl (hasCons rfl (hasCons rfl (hasCons rfl hasNil)))))))
def HC224 (P : Program) (N : Nat → Nat) : Prop := HasF P (N 224) (C224 N) ∧ HC225 P N ∧ HC226 P N
def f224 (k : Nat) (a0 : Int) (a1 : Int) : Option (List UInt8) := gd (0 ≤ a1 ∧ a1 ≤ a1 ∧ a1 * 1 ≤ 281474976710656) ((f225 k (List.replicate (a1).toNat (default : UInt8)) ((a1).toNat) ((a1).toNat)).bind fun r19 => (f226 k a0 a1 (List.replicate (a1).toNat (default : UInt8)) ((a1).toNat) ((a1).toNat) ((a1).toNat) ((a1).toNat)).bind fun rf21 => gd (((a1).toNat) = rf21.length) (some rf21))
theorem F224 {P : Program} {N : Nat → Nat} (hmix : P.follows .mixedOrders = true) (hc : HC224 P N) {k : Nat} {a0 : Int} {a1 : Int} {r : (List UInt8)} (h : f224 k a0 a1 = some r) :
    ACalls P (N 224) [(.d (.int .u64 a0)), (.d (.int .i64 a1))] [] (.d (.sl (List.map byteD r))) [] := by
  refine acalls_canon (F := C224 N) hc.1 0 0 rfl ?_
  unfold f224 at h
  dsimp only [C224, startL]
  refine AWc.seq ?_
  refine AWc.rg hmix rfl rfl ?_
  refine RegV.evS (own := false) (v := (.ptr 0 0)) (H' := [(0, (.cells [(.d (.int .u64 a0))]))]) (c' := 1) rfl rfl trivial rfl rfl rfl rfl rfl rfl ?_
  refine RegV.evS (own := false) (v := (.ptr 1 0)) (H' := [(1, (.cells [(.d (.int .i64 a1))])), (0, (.cells [(.d (.int .u64 a0))]))]) (c' := 2) rfl rfl trivial rfl rfl rfl rfl rfl rfl ?_
  refine RegV.p0 rfl rfl rfl ?_
  refine RegV.nil0 ?_
  refine AWc.seq ?_
  refine AWc.rg hmix rfl rfl ?_
  refine RegV.ld (v := (.d (.int .i64 a1))) (H' := [(1, (.cells [(.d (.int .i64 a1))])), (0, (.cells [(.d (.int .u64 a0))]))]) rfl rfl trivial rfl rfl rfl rfl rfl ?_
  obtain ⟨b11, h⟩ := gd_some h
  refine RegV.mkS (e := byteD) (a0 := default) rfl rfl rfl byteD_ok rfl rfl b11 rfl rfl ?_
  refine RegV.evS (own := false) (v := (.ptr 3 0)) (H' := [(3, (.cells [.nils])), (2, (cellsO byteD (List.replicate (a1).toNat (default : UInt8)))), (1, (.cells [(.d (.int .i64 a1))])), (0, (.cells [(.d (.int .u64 a0))]))]) (c' := 4) rfl rfl trivial rfl rfl rfl rfl rfl rfl ?_
  refine RegV.evN (own := false) (H' := [(3, (.cells [(.sl 2 0 ((a1).toNat) ((a1).toNat) 1)])), (2, (cellsO byteD (List.replicate (a1).toNat (default : UInt8)))), (1, (.cells [(.d (.int .i64 a1))])), (0, (.cells [(.d (.int .u64 a0))]))]) (c' := 4) rfl rfl (by exact ⟨rfl, Nat.le_of_ble_eq_true rfl, rfl⟩) rfl rfl rfl rfl ?_
  refine RegV.nil0 ?_
  refine AWc.seq ?_
  refine AWc.seq ?_
  refine AWc.rg hmix rfl rfl ?_
  refine RegV.ld (v := (.sl 2 0 ((a1).toNat) ((a1).toNat) 1)) (H' := [(3, (.cells [(.sl 2 0 ((a1).toNat) ((a1).toNat) 1)])), (2, (cellsO byteD (List.replicate (a1).toNat (default : UInt8)))), (1, (.cells [(.d (.int .i64 a1))])), (0, (.cells [(.d (.int .u64 a0))]))]) rfl rfl trivial rfl rfl rfl rfl rfl ?_
  obtain ⟨r19, e19, h⟩ := bind_some h
  refine RegV.callS (q := false) (H' := [(4, (.cells [(.sl 2 0 ((a1).toNat) ((a1).toNat) 1)])), (2, (cellsO byteD (List.replicate (a1).toNat (default : UInt8)))), (3, (.cells [(.sl 2 0 ((a1).toNat) ((a1).toNat) 1)])), (1, (.cells [(.d (.int .i64 a1))])), (0, (.cells [(.d (.int .u64 a0))]))]) (c' := 5) (show ACalls P (N 225) [(.sl 2 0 ((a1).toNat) ((a1).toNat) 1)] [(2, (cellsO byteD (List.replicate (a1).toNat (default : UInt8))))] (.fn (N 226) [(.ptr 4 0)]) [(4, (.cells [(.sl 2 0 ((a1).toNat) ((a1).toNat) 1)])), (2, (cellsO byteD (List.replicate (a1).toNat (default : UInt8))))] from ACalls.use (F225 hmix hc.2.1 e19) [(0, 2), (1, 4)] 2 rfl) rfl rfl rfl rfl (.cons (.refl _) .nil) (.refl _) (fun h => by cases h) rfl (hasCons rfl hasNil) rfl rfl rfl rfl ?_
  refine RegV.nil0 ?_
  refine AWc.block ?_
  refine AWc.rangeFunc [(2, (.ptr 0 0)), (3, (.ptr 1 0)), (5, (.ptr 3 0))] rfl rfl rfl rfl ⟨rfl, rfl, rfl, trivial⟩ (fun asgU21 bdU21 haU21 hbU21 => ?_)
  obtain ⟨rf21, ef21, h⟩ := bind_some h
  refine rfN (H' := [(0, (.cells [(.d (.int .u64 a0))])), (1, (.cells [(.d (.int .i64 a1))])), (3, (.cells [(.sl 2 0 ((a1).toNat) ((a1).toNat) 1)])), (2, (cellsO byteD rf21)), (4, (.cells [(.sl 2 0 ((a1).toNat) ((a1).toNat) 1)]))]) (c' := 6) (show ACalls P (N 226) [(.lf 5), (.ptr 4 0)] [(5, (.lp 25 [(2, (.ptr 0 0)), (3, (.ptr 1 0)), (5, (.ptr 3 0))] [11, 12] asgU21 bdU21 .ready none)), (0, (.cells [(.d (.int .u64 a0))])), (1, (.cells [(.d (.int .i64 a1))])), (3, (.cells [(.sl 2 0 ((a1).toNat) ((a1).toNat) 1)])), (2, (cellsO byteD (List.replicate (a1).toNat (default : UInt8)))), (4, (.cells [(.sl 2 0 ((a1).toNat) ((a1).toNat) 1)]))] (.tup []) [(5, (.lp 25 [(2, (.ptr 0 0)), (3, (.ptr 1 0)), (5, (.ptr 3 0))] [11, 12] asgU21 bdU21 .ready none)), (0, (.cells [(.d (.int .u64 a0))])), (1, (.cells [(.d (.int .i64 a1))])), (3, (.cells [(.sl 2 0 ((a1).toNat) ((a1).toNat) 1)])), (2, (cellsO byteD rf21)), (4, (.cells [(.sl 2 0 ((a1).toNat) ((a1).toNat) 1)]))] from ACalls.use (F226 hmix hc.2.2 haU21 hbU21 ef21) [(0, 5), (1, 0), (2, 1), (3, 3), (4, 2), (5, 4)] 6 rfl) (.cons (.refl _) (.cons (.refl _) .nil)) (hasCons rfl (hasCons rfl (hasCons rfl (hasCons rfl (hasCons rfl (hasCons rfl hasNil)))))) rfl rfl rfl rfl rfl ?_
  refine AWc.seq ?_
  refine AWc.rg hmix rfl rfl ?_
  refine RegV.ld (v := (.sl 2 0 ((a1).toNat) ((a1).toNat) 1)) (H' := [(3, (.cells [(.sl 2 0 ((a1).toNat) ((a1).toNat) 1)])), (0, (.cells [(.d (.int .u64 a0))])), (1, (.cells [(.d (.int .i64 a1))])), (2, (cellsO byteD rf21)), (4, (.cells [(.sl 2 0 ((a1).toNat) ((a1).toNat) 1)]))]) rfl rfl trivial rfl rfl rfl rfl rfl ?_
  refine RegV.p0 rfl rfl rfl ?_
  refine RegV.nil0 ?_
  obtain ⟨bs2, h⟩ := gd_some h
  refine AWc.seal (l0 := 2) (xs := rf21) (l' := [(4, (.d (.sl (List.map byteD rf21))))]) (H' := [(3, (.cells [(.sl 2 0 ((a1).toNat) ((a1).toNat) 1)])), (0, (.cells [(.d (.int .u64 a0))])), (1, (.cells [(.d (.int .i64 a1))])), (2, (.tok (rf21.length * 1))), (4, (.cells [(.sl 2 0 ((a1).toNat) ((a1).toNat) 1)]))]) byteD_ok rfl ⟨⟨_, rfl, .all ⟨bs2, Nat.le_refl _⟩⟩, trivial⟩ rfl ?_
  have hr := Option.some.inj h
  subst hr
  exact AWc.ret (canQ (N := 25) (k := 0) (l' := [(4, (.d (.sl (List.map byteD rf21))))]) (H' := []) rfl ⟨rfl, [], [], rfl, rfl, ⟨⟨_, rfl, (.refl _)⟩, rfl, trivial⟩,  trivial⟩ (doneA (.inr rfl) rfl ⟨trivial, trivial⟩ (.refl _) hasNil))
/-- slices.Grow[[]byte,byte] -/
def C111 (N : Nat → Nat) : AFunc := { n := 27, params := 2, res := [.tmp 4], body :=
 (.seq (.region false [⟨(some 4), .mv (.k .nils), none, []⟩])
  (.seq (.seq (.region false [⟨(some 5), .mv (.t 1), none, []⟩,
     ⟨(some 6), .bin .lss (.t 5) (.k (.d (.int .i64 0))), none, [0]⟩])
    (.cond (.t 6) (.region false [⟨(some 7), .bad, none, []⟩,
      ⟨none, .bad, none, [0]⟩])
     (.skip)))
   (.seq (.seq (.region false [⟨(some 8), .mv (.t 1), none, []⟩,
      ⟨(some 9), .mv (.t 0), none, []⟩,
      ⟨(some 10), .cap (.t 9), none, [1]⟩,
      ⟨(some 11), .mv (.t 0), none, []⟩,
      ⟨(some 12), .len (.t 11), none, [3]⟩,
      ⟨(some 13), .bin .sub (.t 10) (.t 12), none, [2, 4]⟩,
      ⟨(some 14), .bin .sub (.t 8) (.t 13), none, [0, 5]⟩,
      ⟨(some 1), .mv (.t 14), none, [6, 0, 1, 2, 3, 4, 5]⟩])
     (.seq (.region false [⟨(some 15), .mv (.t 1), none, []⟩,
       ⟨(some 16), .bin .gtr (.t 15) (.k (.d (.int .i64 0))), none, [0]⟩])
      (.cond (.t 16) (.region false [⟨(some 17), .mv (.t 0), none, []⟩,
        ⟨(some 18), .mv (.t 0), none, []⟩,
        ⟨(some 19), .cap (.t 18), none, [1]⟩,
        ⟨(some 20), .slc (.t 17) none (some (.t 19)) none 1, none, [0, 2]⟩,
        ⟨(some 21), .mv (.t 1), none, []⟩,
        ⟨(some 22), .grow (.t 20) (.t 21) 1 1 [(.int .u8 0)], none, [3, 4]⟩,
        ⟨(some 23), .mv (.t 0), none, []⟩,
        ⟨(some 24), .len (.t 23), none, [6]⟩,
        ⟨(some 25), .slc (.t 22) none (some (.t 24)) none 1, none, [5, 7]⟩,
        ⟨(some 0), .mv (.t 25), none, [8, 5, 0, 1, 2, 3, 4, 6, 7]⟩])
       (.skip))))
    (.seq (.region false [⟨(some 26), .mv (.t 0), none, []⟩,
      ⟨(some 4), .mv (.t 26), none, [0]⟩])
     .ret)))) }
def HC111 (P : Program) (N : Nat → Nat) : Prop := HasF P (N 111) (C111 N)
def f111 (k : Nat) (a0 : Int) : Option Unit := gd (0 ≤ a0 ∧ a0 * 1 ≤ 281474976710656) (some ())
theorem F111 {P : Program} {N : Nat → Nat} (hmix : P.follows .mixedOrders = true) (hc : HC111 P N) {k : Nat} {a0 : Int} {r : Unit} (h : f111 k a0 = some r) :
    ACalls P (N 111) [.nils, .d (.int .i64 a0)] [] (.ap 0 1 (List.map byteD ([] : List UInt8))) [(0, (.tok ((List.map byteD ([] : List UInt8)).length * 1)))] := by
  unfold f111 at h
  obtain ⟨⟨b, b'⟩, h⟩ := gd_some h
  exact grow_gen hmix hc rfl rfl rfl b b' (by omega)
/-- slices.Concat[[]byte,byte] -/
def C91 (N : Nat → Nat) : AFunc := { n := 36, params := 1, res := [.tmp 2], body :=
 (.seq (.region false [⟨(some 2), .mv (.k .nils), none, []⟩])
  (.seq (.region false [⟨(some 3), .mv (.k (.d (.int .i64 0))), none, []⟩])
   (.seq (.seq (.region false [⟨(some 9), .mv (.t 0), none, []⟩,
      ⟨(some 10), .len (.t 9), none, [0]⟩,
      ⟨(some 11), .mv (.k (.d (.int .i64 0))), none, []⟩])
     (.block 0 (.loop (.seq (.region false [⟨(some 12), .bin .lss (.t 11) (.t 10), none, []⟩])
        (.seq (.cond (.t 12) (.skip)
          (.exit 0))
         (.seq (.block 1 (.seq (.region false [⟨(some 13), .iaddr (.t 9) (.t 11) 1, none, []⟩,
             ⟨(some 14), .load (.t 13) 1 false, none, [0]⟩,
             ⟨(some 5), .mv (.t 14), none, [1, 0]⟩])
            (.seq (.region false [⟨(some 15), .mv (.t 3), none, []⟩,
              ⟨(some 16), .mv (.t 5), none, []⟩,
              ⟨(some 17), .len (.t 16), none, [1]⟩,
              ⟨(some 18), .bin .add (.t 15) (.t 17), none, [0, 2]⟩,
              ⟨(some 3), .mv (.t 18), none, [3, 0, 1, 2]⟩])
             (.seq (.region false [⟨(some 19), .mv (.t 3), none, []⟩,
               ⟨(some 20), .bin .lss (.t 19) (.k (.d (.int .i64 0))), none, [0]⟩])
              (.cond (.t 20) (.region false [⟨(some 21), .bad, none, []⟩,
                ⟨none, .bad, none, [0]⟩])
               (.skip))))))
          (.region false [⟨(some 22), .bin .add (.t 11) (.k (.d (.int .i64 1))), none, []⟩,
           ⟨(some 11), .mv (.t 22), none, [0]⟩])))))))
    (.seq (.region false [⟨(some 23), .mv (.t 3), none, []⟩,
      ⟨(some 24), .call (.k (.d (.fn (N 111)))) [(.k .nils), (.t 23)], none, [0]⟩,
      ⟨(some 6), .mv (.t 24), none, [1, 0]⟩])
     (.seq (.seq (.region false [⟨(some 25), .mv (.t 0), none, []⟩,
        ⟨(some 26), .len (.t 25), none, [0]⟩,
        ⟨(some 27), .mv (.k (.d (.int .i64 0))), none, []⟩])
       (.block 2 (.loop (.seq (.region false [⟨(some 28), .bin .lss (.t 27) (.t 26), none, []⟩])
          (.seq (.cond (.t 28) (.skip)
            (.exit 2))
           (.seq (.block 3 (.seq (.region false [⟨(some 29), .iaddr (.t 25) (.t 27) 1, none, []⟩,
               ⟨(some 30), .load (.t 29) 1 false, none, [0]⟩,
               ⟨(some 8), .mv (.t 30), none, [1, 0]⟩])
              (.region false [⟨(some 31), .mv (.t 6), none, []⟩,
               ⟨(some 32), .mv (.t 8), none, []⟩,
               ⟨(some 33), .app (.t 31) (.t 32) 1 1 [(.int .u8 0)], none, [0, 1]⟩,
               ⟨(some 6), .mv (.t 33), none, [2, 0, 1]⟩])))
            (.region false [⟨(some 34), .bin .add (.t 27) (.k (.d (.int .i64 1))), none, []⟩,
             ⟨(some 27), .mv (.t 34), none, [0]⟩])))))))
      (.seq (.region false [⟨(some 35), .mv (.t 6), none, []⟩,
        ⟨(some 2), .mv (.t 35), none, [0]⟩])
       .ret)))))) }
def HC91 (P : Program) (N : Nat → Nat) : Prop := HasF P (N 91) (C91 N) ∧ HC111 P N
def f91_l70 (a0 : (List (List UInt8))) : Nat → (List UInt8) → Int → Option (LR2 (List UInt8) Unit (List UInt8))
  | 0, _, _ => none
  | k + 1, y70_1, y70_2 => cond (decide (y70_2 < ((a0.length : Nat) : Int))) (gd (0 ≤ y70_2 ∧ y70_2 < ((a0.length : Nat) : Int)) (gd ((y70_1.length + (rd a0 y70_2).length) * 2 * 1 ≤ 281474976710656) (f91_l70 a0 k (y70_1 ++ (rd a0 y70_2)) (IntKind.i64.wrap (y70_2 + (1 : Int)))))) (some (.b0 y70_1))
def f91_j57 (k : Nat) (a0 : (List (List UInt8))) (j57_1 : Int) : Option (List UInt8) := (f111 k j57_1).bind fun r61 => (f91_l70 a0 k ([] : List UInt8) (0 : Int)).bind fun o70 => match o70 with | .b0 x70_1 => some x70_1 | _ => none
def f91_l16 (a0 : (List (List UInt8))) : Nat → Int → Int → Option (LR2 Int Unit (List UInt8))
  | 0, _, _ => none
  | k + 1, y16_1, y16_2 => cond (decide (y16_2 < ((a0.length : Nat) : Int))) (gd (0 ≤ y16_2 ∧ y16_2 < ((a0.length : Nat) : Int)) (cond (decide ((IntKind.i64.wrap (y16_1 + (((rd a0 y16_2).length : Nat) : Int))) < (0 : Int))) (none) (f91_l16 a0 k (IntKind.i64.wrap (y16_1 + (((rd a0 y16_2).length : Nat) : Int))) (IntKind.i64.wrap (y16_2 + (1 : Int)))))) (some (.b0 y16_1))
def f91 (k : Nat) (a0 : (List (List UInt8))) : Option (List UInt8) := (f91_l16 a0 k (0 : Int) (0 : Int)).bind fun o16 => match o16 with | .b0 x16_1 => f91_j57 k a0 x16_1 | _ => none
theorem F91 {P : Program} {N : Nat → Nat} (hmix : P.follows .mixedOrders = true) (hc : HC91 P N) {k : Nat} {a0 : (List (List UInt8))} {r : (List UInt8)} (h : f91 k a0 = some r) :
    ACalls P (N 91) [(.d (.sl (List.map (slE byteD) a0)))] [] (.ap 0 1 (List.map byteD r)) [(0, (.tok ((List.map byteD r).length * 1)))] := by
  refine acalls_canon (F := C91 N) hc.1 0 1 rfl ?_
  unfold f91 at h
  dsimp only [C91, startL]
  refine AWc.seq ?_
  refine AWc.rg hmix rfl rfl ?_
  refine RegV.p0 rfl rfl rfl ?_
  refine RegV.nil0 ?_
  refine AWc.seq ?_
  refine AWc.rg hmix rfl rfl ?_
  refine RegV.p0 rfl rfl rfl ?_
  refine RegV.nil0 ?_
  refine AWc.seqS (N := 36) 0 (fun (z : Int) => [(0, (.d (.sl (List.map (slE byteD) a0)))), (3, (.d (.int .i64 z)))]) (fun z => []) (fun z => f91_j57 k a0 z = some r) rfl_le ?_ ?_
  · refine AWc.seq ?_
    refine AWc.rg hmix rfl rfl ?_
    refine RegV.p0 rfl rfl rfl ?_
    refine RegV.len (xs := a0) (e := (slE byteD)) rfl rfl rfl rfl ?_
    refine RegV.p0 rfl rfl rfl ?_
    refine RegV.nil0 ?_
    obtain ⟨o16, h16, h⟩ := bind_some h
    refine AWc.block ?_
    refine AWc.loopK (N := 36) 0 (fun (x : (Int × Int)) => [(0, (.d (.sl (List.map (slE byteD) a0)))), (3, (.d (.int .i64 x.1))), (9, (.d (.sl (List.map (slE byteD) a0)))), (10, (.d (.int .i64 ((a0.length : Nat) : Int)))), (11, (.d (.int .i64 x.2)))]) (fun x => []) (fun k x => f91_l16 a0 k x.1 x.2 = some o16) k ((0 : Int), (0 : Int)) rfl_le (fun x hx => by cases hx) h16 ⟨rfl, [], [], rfl, rfl, ⟨⟨_, rfl, (.refl _)⟩, rfl, ⟨⟨_, rfl, (.refl _)⟩, rfl, ⟨⟨_, rfl, (.refl _)⟩, rfl, ⟨⟨_, rfl, (.refl _)⟩, rfl, ⟨⟨_, rfl, (.refl _)⟩, rfl, trivial⟩⟩⟩⟩⟩,  trivial⟩ ?_
    clear h16
    intro k
    rintro ⟨y16_1, y16_2⟩ h16
    dsimp only at h16 ⊢
    rw [f91_l16] at h16
    refine AWc.seq ?_
    refine AWc.rg hmix rfl rfl ?_
    refine RegV.p0 (v := (.d (.bool (decide (y16_2 < ((a0.length : Nat) : Int)))))) rfl rfl rfl ?_
    refine RegV.nil0 ?_
    refine AWc.seq ?_
    refine AWc.cond rfl (fun c23 => ?_) (fun c23 => ?_)
    · have h16 := cond_pos c23 h16
      refine AWc.skip ?_
      refine AWc.seq ?_
      refine AWc.block ?_
      refine AWc.seq ?_
      refine AWc.rg hmix rfl rfl ?_
      obtain ⟨b31, h16⟩ := gd_some h16
      refine RegV.iad (xs := a0) (e := (slE byteD)) rfl rfl rfl rfl (fun _ => rfl) b31 rfl ?_
      refine RegV.p0 (v := (.d (.sl (List.map byteD (rd a0 y16_2))))) rfl rfl rfl ?_
      refine RegV.p0 rfl rfl rfl ?_
      refine RegV.nil0 ?_
      refine AWc.seq ?_
      refine AWc.rg hmix rfl rfl ?_
      refine RegV.p0 rfl rfl rfl ?_
      refine RegV.p0 rfl rfl rfl ?_
      refine RegV.len (xs := (rd a0 y16_2)) (e := byteD) rfl rfl rfl rfl ?_
      refine RegV.p0 (v := (.d (.int .i64 (IntKind.i64.wrap (y16_1 + (((rd a0 y16_2).length : Nat) : Int)))))) rfl rfl rfl ?_
      refine RegV.p0 rfl rfl rfl ?_
      refine RegV.nil0 ?_
      refine AWc.seq ?_
      refine AWc.rg hmix rfl rfl ?_
      refine RegV.p0 rfl rfl rfl ?_
      refine RegV.p0 (v := (.d (.bool (decide ((IntKind.i64.wrap (y16_1 + (((rd a0 y16_2).length : Nat) : Int))) < (0 : Int)))))) rfl rfl rfl ?_
      refine RegV.nil0 ?_
      refine AWc.cond rfl (fun c47 => ?_) (fun c47 => ?_)
      · have h16 := cond_pos c47 h16
        refine AWc.rg hmix rfl rfl ?_
        cases h16
      · have h16 := cond_neg c47 h16
        refine AWc.skip ?_
        refine AWc.rg hmix rfl rfl ?_
        refine RegV.p0 (v := (.d (.int .i64 (IntKind.i64.wrap (y16_2 + (1 : Int)))))) rfl rfl rfl ?_
        refine RegV.p0 rfl rfl rfl ?_
        refine RegV.nil0 ?_
        exact ⟨((IntKind.i64.wrap (y16_1 + (((rd a0 y16_2).length : Nat) : Int))), (IntKind.i64.wrap (y16_2 + (1 : Int)))), h16, ⟨rfl, [], [], rfl, rfl, ⟨⟨_, rfl, (.refl _)⟩, rfl, ⟨⟨_, rfl, (.refl _)⟩, rfl, ⟨⟨_, rfl, (.refl _)⟩, rfl, ⟨⟨_, rfl, (.refl _)⟩, rfl, ⟨⟨_, rfl, (.refl _)⟩, rfl, trivial⟩⟩⟩⟩⟩,  trivial⟩⟩
    · have h16 := cond_neg c23 h16
      cases h16
      dsimp only at h
      refine AWc.exit ?_
      refine inBlk_eq ?_
      exact ⟨y16_1, h, ⟨rfl, [], [], rfl, rfl, ⟨⟨_, rfl, (.refl _)⟩, rfl, ⟨⟨_, rfl, (.refl _)⟩, rfl, trivial⟩⟩,  trivial⟩⟩
  · intro j57_1 h
    unfold f91_j57 at h
    refine AWc.seq ?_
    refine AWc.rg hmix rfl rfl ?_
    refine RegV.p0 rfl rfl rfl ?_
    obtain ⟨r61, e61, h⟩ := bind_some h
    refine RegV.callS (q := false) (H' := [(0, (.tok ((List.map byteD ([] : List UInt8)).length * 1)))]) (c' := 1) (show ACalls P (N 111) [.nils, (.d (.int .i64 j57_1))] [] (.ap 0 1 (List.map byteD ([] : List UInt8))) [(0, (.tok ((List.map byteD ([] : List UInt8)).length * 1)))] from ACalls.use (F111 hmix hc.2 e61) [(0, 0)] 1 rfl) rfl rfl rfl rfl (.cons (.refl _) (.cons (.refl _) .nil)) (.refl _) (fun h => by cases h) rfl hasNil rfl rfl rfl rfl ?_
    refine RegV.p0 rfl rfl rfl ?_
    refine RegV.nil0 ?_
    refine AWc.seq ?_
    refine AWc.seq ?_
    refine AWc.rg hmix rfl rfl ?_
    refine RegV.p0 rfl rfl rfl ?_
    refine RegV.len (xs := a0) (e := (slE byteD)) rfl rfl rfl rfl ?_
    refine RegV.p0 rfl rfl rfl ?_
    refine RegV.nil0 ?_
    obtain ⟨o70, h70, h⟩ := bind_some h
    refine AWc.block ?_
    refine AWc.loopK (N := 36) 1 (fun (x : ((List UInt8) × Int)) => [(6, (.ap 0 1 (List.map byteD x.1))), (25, (.d (.sl (List.map (slE byteD) a0)))), (26, (.d (.int .i64 ((a0.length : Nat) : Int)))), (27, (.d (.int .i64 x.2)))]) (fun x => [(0, (.tok ((List.map byteD x.1).length * 1)))]) (fun k x => f91_l70 a0 k x.1 x.2 = some o70) k (([] : List UInt8), (0 : Int)) rfl_le (fun x hx => by cases hx) h70 ⟨rfl, [], [], rfl, rfl, ⟨⟨_, rfl, (.refl _)⟩, rfl, ⟨⟨_, rfl, (.refl _)⟩, rfl, ⟨⟨_, rfl, (.refl _)⟩, rfl, ⟨⟨_, rfl, (.refl _)⟩, rfl, trivial⟩⟩⟩⟩, ⟨⟨_, rfl, (.refl _)⟩, rfl, rfl, trivial⟩⟩ ?_
    clear h70
    intro k
    rintro ⟨y70_1, y70_2⟩ h70
    dsimp only at h70 ⊢
    rw [f91_l70] at h70
    refine AWc.seq ?_
    refine AWc.rg hmix rfl rfl ?_
    refine RegV.p0 (v := (.d (.bool (decide (y70_2 < ((a0.length : Nat) : Int)))))) rfl rfl rfl ?_
    refine RegV.nil0 ?_
    refine AWc.seq ?_
    refine AWc.cond rfl (fun c77 => ?_) (fun c77 => ?_)
    · have h70 := cond_pos c77 h70
      refine AWc.skip ?_
      refine AWc.seq ?_
      refine AWc.block ?_
      refine AWc.seq ?_
      refine AWc.rg hmix rfl rfl ?_
      obtain ⟨b85, h70⟩ := gd_some h70
      refine RegV.iad (xs := a0) (e := (slE byteD)) rfl rfl rfl rfl (fun _ => rfl) b85 rfl ?_
      refine RegV.p0 (v := (.d (.sl (List.map byteD (rd a0 y70_2))))) rfl rfl rfl ?_
      refine RegV.p0 rfl rfl rfl ?_
      refine RegV.nil0 ?_
      refine AWc.rg hmix rfl rfl ?_
      refine RegV.p0 rfl rfl rfl ?_
      refine RegV.p0 rfl rfl rfl ?_
      obtain ⟨b92, h70⟩ := gd_some h70
      refine RegV.appA (xs := y70_1) (ys := (rd a0 y70_2)) (e := byteD) (H1 := []) rfl rfl rfl rfl (fun _ => rfl) rfl rfl b92 rfl rfl rfl ?_
      refine RegV.p0 rfl rfl rfl ?_
      refine RegV.nil0 ?_
      refine AWc.rg hmix rfl rfl ?_
      refine RegV.p0 (v := (.d (.int .i64 (IntKind.i64.wrap (y70_2 + (1 : Int)))))) rfl rfl rfl ?_
      refine RegV.p0 rfl rfl rfl ?_
      refine RegV.nil0 ?_
      exact ⟨((y70_1 ++ (rd a0 y70_2)), (IntKind.i64.wrap (y70_2 + (1 : Int)))), h70, ⟨rfl, [], [(0, 1)], rfl, rfl, ⟨⟨_, rfl, (.refl _)⟩, rfl, ⟨⟨_, rfl, (.refl _)⟩, rfl, ⟨⟨_, rfl, (.refl _)⟩, rfl, ⟨⟨_, rfl, (.refl _)⟩, rfl, trivial⟩⟩⟩⟩, ⟨⟨_, rfl, (.refl _)⟩, rfl, rfl, trivial⟩⟩⟩
    · have h70 := cond_neg c77 h70
      cases h70
      dsimp only at h
      refine AWc.exit ?_
      refine inBlk_eq ?_
      refine AWc.seq ?_
      refine AWc.rg hmix rfl rfl ?_
      refine RegV.p0 rfl rfl rfl ?_
      refine RegV.p0 rfl rfl rfl ?_
      refine RegV.nil0 ?_
      have hr := Option.some.inj h
      subst hr
      exact AWc.ret (canQ (N := 36) (k := 1) (l' := [(2, (.ap 0 1 (List.map byteD y70_1)))]) (H' := [(0, (.tok ((List.map byteD y70_1).length * 1)))]) rfl ⟨rfl, [], [], rfl, rfl, ⟨⟨_, rfl, (.refl _)⟩, rfl, trivial⟩, ⟨⟨_, rfl, (.refl _)⟩, rfl, rfl, trivial⟩⟩ (doneA (.inr rfl) rfl ⟨trivial, trivial⟩ (.refl _) (hasCons rfl hasNil)))
/-- courant/frame.Make -/
def C223 (N : Nat → Nat) : AFunc := { n := 26, params := 2, res := [.tmp 4, .tmp 5], body :=
 (.seq (.region false [⟨(some 4), .mv (.k .nils), none, []⟩,
   ⟨(some 5), .mv (.k (.d (.int .i64 0))), none, [0]⟩])
  (.seq (.seq (.region false [⟨(some 7), .mv (.t 1), none, []⟩,
     ⟨(some 8), .len (.t 7), none, [0]⟩,
     ⟨(some 9), .bin .gtr (.t 8) (.k (.d (.int .i64 32768))), none, [1]⟩])
    (.cond (.t 9) (.seq (.region false [⟨(some 4), .mv (.k .nils), none, []⟩,
       ⟨(some 5), .mv (.k (.d (.int .i64 5))), none, [0]⟩])
      .ret)
     (.skip)))
   (.seq (.region false [⟨(some 10), .mv (.t 0), none, []⟩,
     ⟨(some 11), .call (.k (.d (.fn (N 224)))) [(.t 10), (.k (.d (.int .i64 8)))], none, [0]⟩,
     ⟨(some 12), .mv (.t 1), none, []⟩,
     ⟨(some 13), .bslice 2 1 [(.sl [])] [(0, (.t 11)), (1, (.t 12))], none, [1, 2]⟩,
     ⟨(some 14), .call (.k (.d (.fn (N 91)))) [(.t 13)], none, [3, 1]⟩,
     ⟨(some 6), .mv (.t 14), none, [4, 0, 1, 2, 3]⟩])
    (.seq (.region false [⟨(some 15), .mv (.t 1), none, []⟩,
      ⟨(some 16), .len (.t 15), none, [0]⟩,
      ⟨(some 17), .cvi .u64 (.t 16), none, [1]⟩,
      ⟨(some 18), .call (.k (.d (.fn (N 224)))) [(.t 17), (.k (.d (.int .i64 4)))], none, [2]⟩,
      ⟨(some 19), .mv (.t 6), none, []⟩,
      ⟨(some 20), .call (.k (.d (.fn (N 263)))) [(.t 19)], none, [4, 3]⟩,
      ⟨(some 21), .cvi .u64 (.t 20), none, [5]⟩,
      ⟨(some 22), .call (.k (.d (.fn (N 224)))) [(.t 21), (.k (.d (.int .i64 4)))], none, [6, 5]⟩,
      ⟨(some 23), .mv (.t 6), none, []⟩,
      ⟨(some 24), .bslice 3 1 [(.sl [])] [(0, (.t 18)), (1, (.t 22)), (2, (.t 23))], none, [3, 7, 8]⟩,
      ⟨(some 25), .call (.k (.d (.fn (N 91)))) [(.t 24)], none, [9, 7]⟩,
      ⟨(some 4), .mv (.t 25), none, [10, 0, 1, 2, 3, 4, 5, 6, 7, 8, 9]⟩,
      ⟨(some 5), .mv (.k (.d (.int .i64 0))), none, [11, 0, 1, 2, 3, 4, 5, 6, 7, 8, 9, 10]⟩])
     .ret)))) }
def HC223 (P : Program) (N : Nat → Nat) : Prop := HasF P (N 223) (C223 N) ∧ HC224 P N ∧ HC91 P N ∧ HC263 P N
def f223 (k : Nat) (a0 : Int) (a1 : (List UInt8)) : Option ((List UInt8) × Int) := cond (decide (((a1.length : Nat) : Int) > (32768 : Int))) (some (([] : List UInt8), (5 : Int))) ((f224 k a0 (8 : Int)).bind fun r25 => (f91 k ([r25, a1] : List (List UInt8))).bind fun r28 => (f224 k (IntKind.u64.wrap ((a1.length : Nat) : Int)) (4 : Int)).bind fun r36 => (f263 k r28).bind fun r38 => (f224 k (IntKind.u64.wrap r38) (4 : Int)).bind fun r40 => (f91 k ([r36, r40, r28] : List (List UInt8))).bind fun r43 => some (r43, (0 : Int)))
theorem F223 {P : Program} {N : Nat → Nat} (hmix : P.follows .mixedOrders = true) (hc : HC223 P N) {k : Nat} {a0 : Int} {a1 : (List UInt8)} {r : ((List UInt8) × Int)} (h : f223 k a0 a1 = some r) :
    ACalls P (N 223) [(.d (.int .u64 a0)), (.d (.sl (List.map byteD a1)))] [] (.tup [(.ap 0 1 (List.map byteD r.1)), (.d (.int .i64 r.2))]) [(0, (.tok ((List.map byteD r.1).length * 1)))] := by
  refine acalls_canon (F := C223 N) hc.1 0 1 rfl ?_
  unfold f223 at h
  dsimp only [C223, startL]
  refine AWc.seq ?_
  refine AWc.rg hmix rfl rfl ?_
  refine RegV.p0 rfl rfl rfl ?_
  refine RegV.p0 rfl rfl rfl ?_
  refine RegV.nil0 ?_
  refine AWc.seq ?_
  refine AWc.seq ?_
  refine AWc.rg hmix rfl rfl ?_
  refine RegV.p0 rfl rfl rfl ?_
  refine RegV.len (xs := a1) (e := byteD) rfl rfl rfl rfl ?_
  refine RegV.p0 (v := (.d (.bool (decide (((a1.length : Nat) : Int) > (32768 : Int)))))) rfl rfl rfl ?_
  refine RegV.nil0 ?_
  refine AWc.cond rfl (fun c13 => ?_) (fun c13 => ?_)
  · have h := cond_pos c13 h
    refine AWc.seq ?_
    refine AWc.rg hmix rfl rfl ?_
    refine RegV.p0 rfl rfl rfl ?_
    refine RegV.p0 rfl rfl rfl ?_
    refine RegV.nil0 ?_
    have hr := Option.some.inj h
    subst hr
    exact AWc.ret (canQ (N := 26) (k := 1) (l' := [(4, (.ap 0 1 (List.map byteD ([] : List UInt8)))), (5, (.d (.int .i64 (5 : Int))))]) (H' := [(0, (.tok ((List.map byteD ([] : List UInt8)).length * 1)))]) rfl ⟨rfl, [.tok 0], [(0, 0)], rfl, rfl, ⟨⟨_, rfl, .nil⟩, rfl, ⟨⟨_, rfl, (.refl _)⟩, rfl, trivial⟩⟩, ⟨⟨_, rfl, (.refl _)⟩, rfl, rfl, trivial⟩⟩ (doneA (.inr rfl) rfl ⟨trivial, ⟨trivial, trivial⟩⟩ (.refl _) (hasCons rfl hasNil)))
  · have h := cond_neg c13 h
    refine AWc.skip ?_
    refine AWc.seq ?_
    refine AWc.rg hmix rfl rfl ?_
    refine RegV.p0 rfl rfl rfl ?_
    obtain ⟨r25, e25, h⟩ := bind_some h
    refine RegV.call0 (F224 hmix hc.2.1 e25) rfl rfl rfl rfl (.cons (.refl _) (.cons (.refl _) .nil)) rfl ?_
    refine RegV.p0 rfl rfl rfl ?_
    refine RegV.p1 (v := (.d (.sl (List.map (slE byteD) ([r25, a1] : List (List UInt8)))))) rfl rfl (by exact ⟨rfl, Nat.le_of_ble_eq_true rfl, mapLen (e := (slE byteD)) (xs := ([r25, a1] : List (List UInt8))) (z := 1) (fun _ => rfl)⟩) rfl rfl ?_
    obtain ⟨r28, e28, h⟩ := bind_some h
    refine RegV.callS (q := false) (H' := [(0, (.tok ((List.map byteD r28).length * 1)))]) (c' := 1) (show ACalls P (N 91) [(.d (.sl (List.map (slE byteD) ([r25, a1] : List (List UInt8)))))] [] (.ap 0 1 (List.map byteD r28)) [(0, (.tok ((List.map byteD r28).length * 1)))] from ACalls.use (F91 hmix hc.2.2.1 e28) [(0, 0)] 1 rfl) rfl rfl rfl rfl (.cons (.refl _) .nil) (.refl _) (fun h => by cases h) rfl hasNil rfl rfl rfl rfl ?_
    refine RegV.p0 rfl rfl rfl ?_
    refine RegV.nil0 ?_
    refine AWc.seq ?_
    refine AWc.rg hmix rfl rfl ?_
    refine RegV.p0 rfl rfl rfl ?_
    refine RegV.len (xs := a1) (e := byteD) rfl rfl rfl rfl ?_
    refine RegV.p0 (v := (.d (.int .u64 (IntKind.u64.wrap ((a1.length : Nat) : Int))))) rfl rfl rfl ?_
    obtain ⟨r36, e36, h⟩ := bind_some h
    refine RegV.call0 (F224 hmix hc.2.1 e36) rfl rfl rfl rfl (.cons (.refl _) (.cons (.refl _) .nil)) rfl ?_
    refine RegV.p0 rfl rfl rfl ?_
    obtain ⟨r38, e38, h⟩ := bind_some h
    refine RegV.call0 (F263 hmix hc.2.2.2 e38) rfl rfl rfl rfl (.cons (.sl rfl) .nil) rfl ?_
    refine RegV.p0 (v := (.d (.int .u64 (IntKind.u64.wrap r38)))) rfl rfl rfl ?_
    obtain ⟨r40, e40, h⟩ := bind_some h
    refine RegV.call0 (F224 hmix hc.2.1 e40) rfl rfl rfl rfl (.cons (.refl _) (.cons (.refl _) .nil)) rfl ?_
    refine RegV.p0 rfl rfl rfl ?_
    refine RegV.p1 (v := (.d (.sl (List.map (slE byteD) ([r36, r40, r28] : List (List UInt8)))))) rfl rfl (by exact ⟨rfl, Nat.le_of_ble_eq_true rfl, mapLen (e := (slE byteD)) (xs := ([r36, r40, r28] : List (List UInt8))) (z := 1) (fun _ => rfl)⟩) rfl rfl ?_
    obtain ⟨r43, e43, h⟩ := bind_some h
    refine RegV.callS (q := false) (H' := [(1, (.tok ((List.map byteD r43).length * 1))), (0, (.tok ((List.map byteD r28).length * 1)))]) (c' := 2) (show ACalls P (N 91) [(.d (.sl (List.map (slE byteD) ([r36, r40, r28] : List (List UInt8)))))] [] (.ap 1 1 (List.map byteD r43)) [(1, (.tok ((List.map byteD r43).length * 1)))] from ACalls.use (F91 hmix hc.2.2.1 e43) [(0, 1)] 1 rfl) rfl rfl rfl rfl (.cons (.refl _) .nil) (.refl _) (fun h => by cases h) rfl hasNil rfl rfl rfl rfl ?_
    refine RegV.p0 rfl rfl rfl ?_
    refine RegV.p0 rfl rfl rfl ?_
    refine RegV.nil0 ?_
    have hr := Option.some.inj h
    subst hr
    exact AWc.ret (canQ (N := 26) (k := 1) (l' := [(4, (.ap 0 1 (List.map byteD r43))), (5, (.d (.int .i64 (0 : Int))))]) (H' := [(0, (.tok ((List.map byteD r43).length * 1)))]) rfl ⟨rfl, [], [(0, 1)], rfl, rfl, ⟨⟨_, rfl, (.refl _)⟩, rfl, ⟨⟨_, rfl, (.refl _)⟩, rfl, trivial⟩⟩, ⟨⟨_, rfl, (.refl _)⟩, rfl, rfl, trivial⟩⟩ (doneA (.inr rfl) rfl ⟨trivial, ⟨trivial, trivial⟩⟩ (.refl _) (hasCons rfl hasNil)))
/-- courant/courantlaw18.awake -/
def C222 (N : Nat → Nat) : AFunc := { n := 20, params := 0, res := [.tmp 0], body :=
 (.seq (.region false [⟨(some 0), .mv (.k (.d (.bool false))), none, []⟩])
  (.seq (.region false [⟨(some 4), .call (.k (.d (.fn (N 223)))) [(.k (.d (.int .u64 1))), (.k .nils)], none, []⟩,
    ⟨(some 3), .mv (.t 4), none, [0]⟩,
    ⟨(some 5), .ext (.t 3) 0, none, [1]⟩,
    ⟨(some 6), .ext (.t 3) 1, none, [1]⟩,
    ⟨(some 1), .mv (.t 5), none, [2, 0, 1]⟩,
    ⟨(some 2), .mv (.t 6), none, [3, 4, 0, 1, 2]⟩])
   (.seq (.region false [⟨(some 7), .mv (.t 2), none, []⟩,
     ⟨(some 8), .bin .eql (.t 7) (.k (.d (.int .i64 0))), none, [0]⟩,
     ⟨(some 9), .mv (.t 8), none, [1]⟩,
     ⟨(some 10), .mv (.t 1), (some (9, true)), [2]⟩,
     ⟨(some 11), .len (.t 10), (some (9, true)), [3, 2]⟩,
     ⟨(some 12), .bin .eql (.t 11) (.k (.d (.int .i64 16))), (some (9, true)), [4, 2]⟩,
     ⟨(some 13), .pick (.t 9) (.t 12) (.k (.d (.bool false))), none, [2, 5]⟩,
     ⟨(some 14), .mv (.t 13), none, [6, 2]⟩,
     ⟨(some 15), .mv (.t 1), (some (14, true)), [7]⟩,
     ⟨(some 16), .iaddr (.t 15) (.k (.d (.int .i64 15))) 1, (some (14, true)), [8, 7]⟩,
     ⟨(some 17), .load (.t 16) 1 false, (some (14, true)), [9, 7]⟩,
     ⟨(some 18), .bin .eql (.t 17) (.k (.d (.int .u8 1))), (some (14, true)), [10, 7]⟩,
     ⟨(some 19), .pick (.t 14) (.t 18) (.k (.d (.bool false))), none, [7, 11]⟩,
     ⟨(some 0), .mv (.t 19), none, [12, 7, 0, 1, 2, 3, 4, 5, 6, 8, 9, 10, 11]⟩])
    .ret))) }
def HC222 (P : Program) (N : Nat → Nat) : Prop := HasF P (N 222) (C222 N) ∧ HC223 P N
def f222 (k : Nat) : Option Bool := (f223 k (1 : Int) ([] : List UInt8)).bind fun r8 => cond (decide (r8.2 = (0 : Int))) (cond (decide (((r8.1.length : Nat) : Int) = (16 : Int))) (gd (0 ≤ (15 : Int) ∧ (15 : Int) < ((r8.1.length : Nat) : Int)) (some (decide ((((rd r8.1 (15 : Int)).toNat : Nat) : Int) = (1 : Int))))) (some false)) (some false)
theorem F222 {P : Program} {N : Nat → Nat} (hmix : P.follows .mixedOrders = true) (hc : HC222 P N) {k : Nat} {r : Bool} (h : f222 k = some r) :
    ACalls P (N 222) [] [] (.d (.bool r)) [] := by
  refine acalls_canon (F := C222 N) hc.1 0 0 rfl ?_
  unfold f222 at h
  dsimp only [C222, startL]
  refine AWc.seq ?_
  refine AWc.rg hmix rfl rfl ?_
  refine RegV.p0 rfl rfl rfl ?_
  refine RegV.nil0 ?_
  refine AWc.seq ?_
  refine AWc.rg hmix rfl rfl ?_
  obtain ⟨r8, e8, h⟩ := bind_some h
  refine RegV.callS (q := false) (H' := [(0, (.tok ((List.map byteD r8.1).length * 1)))]) (c' := 1) (show ACalls P (N 223) [(.d (.int .u64 (1 : Int))), (.d (.sl (List.map byteD ([] : List UInt8))))] [] (.tup [(.ap 0 1 (List.map byteD r8.1)), (.d (.int .i64 r8.2))]) [(0, (.tok ((List.map byteD r8.1).length * 1)))] from ACalls.use (F223 hmix hc.2 e8) [(0, 0)] 1 rfl) rfl rfl rfl rfl (.cons (.refl _) (.cons (.sl rfl) .nil)) (.refl _) (fun h => by cases h) rfl hasNil rfl rfl rfl rfl ?_
  refine RegV.p0 rfl rfl rfl ?_
  refine RegV.p0 rfl rfl rfl ?_
  refine RegV.p0 rfl rfl rfl ?_
  refine RegV.p0 rfl rfl rfl ?_
  refine RegV.p0 rfl rfl rfl ?_
  refine RegV.nil0 ?_
  refine AWc.seq ?_
  refine AWc.rg hmix rfl rfl ?_
  refine RegV.p0 rfl rfl rfl ?_
  refine RegV.p0 (v := (.d (.bool (decide (r8.2 = (0 : Int)))))) rfl rfl rfl ?_
  refine RegV.p0 rfl rfl rfl ?_
  refine RegV.split (fun c19 => ?_) (fun c19 => ?_)
  · have h := cond_pos c19 h
    refine RegV.p0 rfl rfl rfl ?_
    refine RegV.len (xs := r8.1) (e := byteD) rfl rfl rfl rfl ?_
    refine RegV.p0 (v := (.d (.bool (decide (((r8.1.length : Nat) : Int) = (16 : Int)))))) rfl rfl rfl ?_
    refine RegV.p0 rfl rfl rfl ?_
    refine RegV.p0 rfl rfl rfl ?_
    refine RegV.split (fun c24 => ?_) (fun c24 => ?_)
    · have h := cond_pos c24 h
      refine RegV.p0 rfl rfl rfl ?_
      obtain ⟨b26, h⟩ := gd_some h
      refine RegV.iad (xs := r8.1) (e := byteD) rfl rfl rfl rfl (fun _ => rfl) b26 rfl ?_
      refine RegV.p0 (v := (.d (.int .u8 (((rd r8.1 (15 : Int)).toNat : Nat) : Int)))) rfl rfl rfl ?_
      refine RegV.p0 (v := (.d (.bool (decide ((((rd r8.1 (15 : Int)).toNat : Nat) : Int) = (1 : Int)))))) rfl rfl rfl ?_
      refine RegV.p0 rfl rfl rfl ?_
      refine RegV.p0 rfl rfl rfl ?_
      refine RegV.nil0 ?_
      have hr := Option.some.inj h
      subst hr
      exact AWc.ret (canQ (N := 20) (k := 0) (l' := [(0, (.d (.bool (decide ((((rd r8.1 (15 : Int)).toNat : Nat) : Int) = (1 : Int))))))]) (H' := []) rfl ⟨rfl, [], [], rfl, rfl, ⟨⟨_, rfl, (.refl _)⟩, rfl, trivial⟩,  trivial⟩ (doneA (.inr rfl) rfl ⟨trivial, trivial⟩ (.refl _) hasNil))
    · have h := cond_neg c24 h
      refine RegV.noS rfl rfl ?_
      refine RegV.noS rfl rfl ?_
      refine RegV.noS rfl rfl ?_
      refine RegV.noS rfl rfl ?_
      refine RegV.p0 rfl rfl rfl ?_
      refine RegV.p0 rfl rfl rfl ?_
      refine RegV.nil0 ?_
      have hr := Option.some.inj h
      subst hr
      exact AWc.ret (canQ (N := 20) (k := 0) (l' := [(0, (.d (.bool false)))]) (H' := []) rfl ⟨rfl, [], [], rfl, rfl, ⟨⟨_, rfl, (.refl _)⟩, rfl, trivial⟩,  trivial⟩ (doneA (.inr rfl) rfl ⟨trivial, trivial⟩ (.refl _) hasNil))
  · have h := cond_neg c19 h
    refine RegV.noS rfl rfl ?_
    refine RegV.noS rfl rfl ?_
    refine RegV.noS rfl rfl ?_
    refine RegV.p0 rfl rfl rfl ?_
    refine RegV.p0 rfl rfl rfl ?_
    refine RegV.noS rfl rfl ?_
    refine RegV.noS rfl rfl ?_
    refine RegV.noS rfl rfl ?_
    refine RegV.noS rfl rfl ?_
    refine RegV.p0 rfl rfl rfl ?_
    refine RegV.p0 rfl rfl rfl ?_
    refine RegV.nil0 ?_
    have hr := Option.some.inj h
    subst hr
    exact AWc.ret (canQ (N := 20) (k := 0) (l' := [(0, (.d (.bool false)))]) (H' := []) rfl ⟨rfl, [], [], rfl, rfl, ⟨⟨_, rfl, (.refl _)⟩, rfl, trivial⟩,  trivial⟩ (doneA (.inr rfl) rfl ⟨trivial, trivial⟩ (.refl _) hasNil))
/-- courant/courantref18.big -/
def C271 (N : Nat → Nat) : AFunc := { n := 23, params := 2, res := [.tmp 4], body :=
 (.seq (.region false [⟨(some 4), .mv (.k .nils), none, []⟩])
  (.seq (.region false [⟨(some 5), .mv (.k .nils), none, []⟩])
   (.seq (.seq (.region false [⟨(some 7), .mv (.t 1), none, []⟩,
      ⟨(some 8), .bin .sub (.t 7) (.k (.d (.int .i64 1))), none, [0]⟩,
      ⟨(some 6), .mv (.t 8), none, [1, 0]⟩])
     (.block 0 (.loop (.seq (.seq (.region false [⟨(some 9), .mv (.t 6), none, []⟩,
          ⟨(some 10), .bin .geq (.t 9) (.k (.d (.int .i64 0))), none, [0]⟩])
         (.cond (.t 10) (.skip)
          (.exit 0)))
        (.seq (.block 1 (.region false [⟨(some 13), .mv (.t 5), none, []⟩,
           ⟨(some 14), .mv (.t 0), none, []⟩,
           ⟨(some 15), .mv (.t 6), none, []⟩,
           ⟨(some 16), .bin .mul (.k (.d (.int .i64 8))) (.t 15), none, [2]⟩,
           ⟨(some 17), .cvi .u64 (.t 16), none, [3]⟩,
           ⟨(some 18), .bin .shr (.t 14) (.t 17), none, [1, 4]⟩,
           ⟨(some 19), .cvi .u8 (.t 18), none, [5]⟩,
           ⟨(some 20), .bslice 1 1 [(.int .u8 0)] [(0, (.t 19))], none, [6]⟩,
           ⟨(some 21), .app (.t 13) (.t 20) 1 1 [(.int .u8 0)], none, [0, 7]⟩,
           ⟨(some 5), .mv (.t 21), none, [8, 0, 1, 2, 3, 4, 5, 6, 7]⟩]))
         (.region false [⟨(some 11), .mv (.t 6), none, []⟩,
          ⟨(some 12), .bin .sub (.t 11) (.k (.d (.int .i64 1))), none, [0]⟩,
          ⟨(some 6), .mv (.t 12), none, [1, 0]⟩]))))))
    (.seq (.region false [⟨(some 22), .mv (.t 5), none, []⟩,
      ⟨(some 4), .mv (.t 22), none, [0]⟩])
     .ret)))) }
def HC271 (P : Program) (N : Nat → Nat) : Prop := HasF P (N 271) (C271 N)
def f271_l16 (a0 : Int) : Nat → (List UInt8) → Int → Option (LR2 (List UInt8) Unit (List UInt8))
  | 0, _, _ => none
  | k + 1, y16_1, y16_2 => cond (decide (y16_2 ≥ (0 : Int))) (gd (0 ≤ (IntKind.u64.wrap (IntKind.i64.wrap ((8 : Int) * y16_2)))) (gd ((y16_1.length + ([(u8 (IntKind.u8.wrap (Int.fdiv a0 (2 ^ (min ((IntKind.u64.wrap (IntKind.i64.wrap ((8 : Int) * y16_2)))).toNat IntKind.u64.bits)))))] : List UInt8).length) * 2 * 1 ≤ 281474976710656) (f271_l16 a0 k (y16_1 ++ ([(u8 (IntKind.u8.wrap (Int.fdiv a0 (2 ^ (min ((IntKind.u64.wrap (IntKind.i64.wrap ((8 : Int) * y16_2)))).toNat IntKind.u64.bits)))))] : List UInt8)) (IntKind.i64.wrap (y16_2 - (1 : Int)))))) (some (.b0 y16_1))
def f271 (k : Nat) (a0 : Int) (a1 : Int) : Option (List UInt8) := (f271_l16 a0 k ([] : List UInt8) (IntKind.i64.wrap (a1 - (1 : Int)))).bind fun o16 => match o16 with | .b0 x16_1 => some x16_1 | _ => none
theorem F271 {P : Program} {N : Nat → Nat} (hmix : P.follows .mixedOrders = true) (hc : HC271 P N) {k : Nat} {a0 : Int} {a1 : Int} {r : (List UInt8)} (h : f271 k a0 a1 = some r) :
    ACalls P (N 271) [(.d (.int .u64 a0)), (.d (.int .i64 a1))] [] (.ap 0 1 (List.map byteD r)) [(0, (.tok ((List.map byteD r).length * 1)))] := by
  refine acalls_canon (F := C271 N) hc 0 1 rfl ?_
  unfold f271 at h
  dsimp only [C271, startL]
  refine AWc.seq ?_
  refine AWc.rg hmix rfl rfl ?_
  refine RegV.p0 rfl rfl rfl ?_
  refine RegV.nil0 ?_
  refine AWc.seq ?_
  refine AWc.rg hmix rfl rfl ?_
  refine RegV.p0 rfl rfl rfl ?_
  refine RegV.nil0 ?_
  refine AWc.seq ?_
  refine AWc.seq ?_
  refine AWc.rg hmix rfl rfl ?_
  refine RegV.p0 rfl rfl rfl ?_
  refine RegV.p0 (v := (.d (.int .i64 (IntKind.i64.wrap (a1 - (1 : Int)))))) rfl rfl rfl ?_
  refine RegV.p0 rfl rfl rfl ?_
  refine RegV.nil0 ?_
  obtain ⟨o16, h16, h⟩ := bind_some h
  refine AWc.block ?_
  refine AWc.loopK (N := 23) 1 (fun (x : ((List UInt8) × Int)) => [(0, (.d (.int .u64 a0))), (5, (.ap 0 1 (List.map byteD x.1))), (6, (.d (.int .i64 x.2)))]) (fun x => [(0, (.tok ((List.map byteD x.1).length * 1)))]) (fun k x => f271_l16 a0 k x.1 x.2 = some o16) k (([] : List UInt8), (IntKind.i64.wrap (a1 - (1 : Int)))) rfl_le (fun x hx => by cases hx) h16 ⟨rfl, [.tok 0], [(0, 0)], rfl, rfl, ⟨⟨_, rfl, (.refl _)⟩, rfl, ⟨⟨_, rfl, .nil⟩, rfl, ⟨⟨_, rfl, (.refl _)⟩, rfl, trivial⟩⟩⟩, ⟨⟨_, rfl, (.refl _)⟩, rfl, rfl, trivial⟩⟩ ?_
  clear h16
  intro k
  rintro ⟨y16_1, y16_2⟩ h16
  dsimp only at h16 ⊢
  rw [f271_l16] at h16
  refine AWc.seq ?_
  refine AWc.seq ?_
  refine AWc.rg hmix rfl rfl ?_
  refine RegV.p0 rfl rfl rfl ?_
  refine RegV.p0 (v := (.d (.bool (decide (y16_2 ≥ (0 : Int)))))) rfl rfl rfl ?_
  refine RegV.nil0 ?_
  refine AWc.cond rfl (fun c24 => ?_) (fun c24 => ?_)
  · have h16 := cond_pos c24 h16
    refine AWc.skip ?_
    refine AWc.seq ?_
    refine AWc.block ?_
    refine AWc.rg hmix rfl rfl ?_
    refine RegV.p0 rfl rfl rfl ?_
    refine RegV.p0 rfl rfl rfl ?_
    refine RegV.p0 rfl rfl rfl ?_
    refine RegV.p0 (v := (.d (.int .i64 (IntKind.i64.wrap ((8 : Int) * y16_2))))) rfl rfl rfl ?_
    refine RegV.p0 (v := (.d (.int .u64 (IntKind.u64.wrap (IntKind.i64.wrap ((8 : Int) * y16_2)))))) rfl rfl rfl ?_
    obtain ⟨b36, h16⟩ := gd_some h16
    refine RegV.p1 (v := (.d (.int .u64 (Int.fdiv a0 (2 ^ (min ((IntKind.u64.wrap (IntKind.i64.wrap ((8 : Int) * y16_2)))).toNat IntKind.u64.bits)))))) rfl rfl b36 rfl rfl ?_
    refine RegV.p0 (v := (.d (.int .u8 (IntKind.u8.wrap (Int.fdiv a0 (2 ^ (min ((IntKind.u64.wrap (IntKind.i64.wrap ((8 : Int) * y16_2)))).toNat IntKind.u64.bits))))))) rfl rfl rfl ?_
    refine RegV.p1 (v := .d (.sl [(.int .u8 (IntKind.u8.wrap (Int.fdiv a0 (2 ^ (min ((IntKind.u64.wrap (IntKind.i64.wrap ((8 : Int) * y16_2)))).toNat IntKind.u64.bits)))))])) (v' := (.d (.sl (List.map byteD ([(u8 (IntKind.u8.wrap (Int.fdiv a0 (2 ^ (min ((IntKind.u64.wrap (IntKind.i64.wrap ((8 : Int) * y16_2)))).toNat IntKind.u64.bits)))))] : List UInt8))))) (s := ([(.int .u8 0)] : List D).length = 1 ∧ 1 * 1 ≤ 16777216 ∧ ∀ d ∈ ([(.int .u8 (IntKind.u8.wrap (Int.fdiv a0 (2 ^ (min ((IntKind.u64.wrap (IntKind.i64.wrap ((8 : Int) * y16_2)))).toNat IntKind.u64.bits)))))] : List D), d.cells.length = 1) rfl rfl ⟨rfl, Nat.le_of_ble_eq_true rfl, by simp [D.cells]⟩ rfl (by simp only [List.map_cons, List.map_nil, byteD, ← u8_eq (u8_wrap _), ← u8_eq (u8_bits _ _ _)]) ?_
    obtain ⟨b39, h16⟩ := gd_some h16
    refine RegV.appA (xs := y16_1) (ys := ([(u8 (IntKind.u8.wrap (Int.fdiv a0 (2 ^ (min ((IntKind.u64.wrap (IntKind.i64.wrap ((8 : Int) * y16_2)))).toNat IntKind.u64.bits)))))] : List UInt8)) (e := byteD) (H1 := []) rfl rfl rfl rfl (fun _ => rfl) rfl rfl b39 rfl rfl rfl ?_
    refine RegV.p0 rfl rfl rfl ?_
    refine RegV.nil0 ?_
    refine AWc.rg hmix rfl rfl ?_
    refine RegV.p0 rfl rfl rfl ?_
    refine RegV.p0 (v := (.d (.int .i64 (IntKind.i64.wrap (y16_2 - (1 : Int)))))) rfl rfl rfl ?_
    refine RegV.p0 rfl rfl rfl ?_
    refine RegV.nil0 ?_
    exact ⟨((y16_1 ++ ([(u8 (IntKind.u8.wrap (Int.fdiv a0 (2 ^ (min ((IntKind.u64.wrap (IntKind.i64.wrap ((8 : Int) * y16_2)))).toNat IntKind.u64.bits)))))] : List UInt8)), (IntKind.i64.wrap (y16_2 - (1 : Int)))), h16, ⟨rfl, [], [(0, 1)], rfl, rfl, ⟨⟨_, rfl, (.refl _)⟩, rfl, ⟨⟨_, rfl, (.refl _)⟩, rfl, ⟨⟨_, rfl, (.refl _)⟩, rfl, trivial⟩⟩⟩, ⟨⟨_, rfl, (.refl _)⟩, rfl, rfl, trivial⟩⟩⟩
  · have h16 := cond_neg c24 h16
    cases h16
    dsimp only at h
    refine AWc.exit ?_
    refine inBlk_eq ?_
    refine AWc.seq ?_
    refine AWc.rg hmix rfl rfl ?_
    refine RegV.p0 rfl rfl rfl ?_
    refine RegV.p0 rfl rfl rfl ?_
    refine RegV.nil0 ?_
    have hr := Option.some.inj h
    subst hr
    exact AWc.ret (canQ (N := 23) (k := 1) (l' := [(4, (.ap 0 1 (List.map byteD y16_1)))]) (H' := [(0, (.tok ((List.map byteD y16_1).length * 1)))]) rfl ⟨rfl, [], [], rfl, rfl, ⟨⟨_, rfl, (.refl _)⟩, rfl, trivial⟩, ⟨⟨_, rfl, (.refl _)⟩, rfl, rfl, trivial⟩⟩ (doneA (.inr rfl) rfl ⟨trivial, trivial⟩ (.refl _) (hasCons rfl hasNil)))
/-- courant/courantref18.Make -/
def C270 (N : Nat → Nat) : AFunc := { n := 27, params := 2, res := [.tmp 4, .tmp 5], body :=
 (.seq (.region false [⟨(some 4), .mv (.k .nils), none, []⟩,
   ⟨(some 5), .mv (.k (.d (.int .i64 0))), none, [0]⟩])
  (.seq (.seq (.region false [⟨(some 8), .mv (.t 1), none, []⟩,
     ⟨(some 9), .len (.t 8), none, [0]⟩,
     ⟨(some 10), .bin .gtr (.t 9) (.k (.d (.int .i64 32768))), none, [1]⟩])
    (.cond (.t 10) (.seq (.region false [⟨(some 4), .mv (.k .nils), none, []⟩,
       ⟨(some 5), .mv (.k (.d (.int .i64 5))), none, [0]⟩])
      .ret)
     (.skip)))
   (.seq (.region false [⟨(some 11), .mv (.t 0), none, []⟩,
     ⟨(some 12), .call (.k (.d (.fn (N 271)))) [(.t 11), (.k (.d (.int .i64 8)))], none, [0]⟩,
     ⟨(some 13), .mv (.t 1), none, []⟩,
     ⟨(some 14), .app (.t 12) (.t 13) 1 1 [(.int .u8 0)], none, [1, 2]⟩,
     ⟨(some 6), .mv (.t 14), none, [3, 0, 1, 2]⟩])
    (.seq (.region false [⟨(some 15), .mv (.t 1), none, []⟩,
      ⟨(some 16), .len (.t 15), none, [0]⟩,
      ⟨(some 17), .cvi .u64 (.t 16), none, [1]⟩,
      ⟨(some 18), .call (.k (.d (.fn (N 271)))) [(.t 17), (.k (.d (.int .i64 4)))], none, [2]⟩,
      ⟨(some 19), .mv (.t 6), none, []⟩,
      ⟨(some 20), .call (.k (.d (.fn (N 268)))) [(.t 19)], none, [4, 3]⟩,
      ⟨(some 21), .cvi .u64 (.t 20), none, [5]⟩,
      ⟨(some 22), .call (.k (.d (.fn (N 271)))) [(.t 21), (.k (.d (.int .i64 4)))], none, [6, 5]⟩,
      ⟨(some 23), .app (.t 18) (.t 22) 1 1 [(.int .u8 0)], none, [3, 7]⟩,
      ⟨(some 7), .mv (.t 23), none, [8, 0, 1, 2, 3, 4, 5, 6, 7]⟩])
     (.seq (.region false [⟨(some 24), .mv (.t 7), none, []⟩,
       ⟨(some 25), .mv (.t 6), none, []⟩,
       ⟨(some 26), .app (.t 24) (.t 25) 1 1 [(.int .u8 0)], none, [0, 1]⟩,
       ⟨(some 4), .mv (.t 26), none, [2, 0, 1]⟩,
       ⟨(some 5), .mv (.k (.d (.int .i64 0))), none, [3, 0, 1, 2]⟩])
      .ret))))) }
def HC270 (P : Program) (N : Nat → Nat) : Prop := HasF P (N 270) (C270 N) ∧ HC271 P N ∧ HC268 P N
def f270 (k : Nat) (a0 : Int) (a1 : (List UInt8)) : Option ((List UInt8) × Int) := cond (decide (((a1.length : Nat) : Int) > (32768 : Int))) (some (([] : List UInt8), (5 : Int))) ((f271 k a0 (8 : Int)).bind fun r25 => gd ((r25.length + a1.length) * 2 * 1 ≤ 281474976710656) ((f271 k (IntKind.u64.wrap ((a1.length : Nat) : Int)) (4 : Int)).bind fun r35 => (f268 k (r25 ++ a1)).bind fun r37 => (f271 k (IntKind.u64.wrap r37) (4 : Int)).bind fun r39 => gd ((r35.length + r39.length) * 2 * 1 ≤ 281474976710656) (gd (((r35 ++ r39).length + (r25 ++ a1).length) * 2 * 1 ≤ 281474976710656) (some (((r35 ++ r39) ++ (r25 ++ a1)), (0 : Int))))))
theorem F270 {P : Program} {N : Nat → Nat} (hmix : P.follows .mixedOrders = true) (hc : HC270 P N) {k : Nat} {a0 : Int} {a1 : (List UInt8)} {r : ((List UInt8) × Int)} (h : f270 k a0 a1 = some r) :
    ACalls P (N 270) [(.d (.int .u64 a0)), (.d (.sl (List.map byteD a1)))] [] (.tup [(.ap 0 1 (List.map byteD r.1)), (.d (.int .i64 r.2))]) [(0, (.tok ((List.map byteD r.1).length * 1)))] := by
  refine acalls_canon (F := C270 N) hc.1 0 1 rfl ?_
  unfold f270 at h
  dsimp only [C270, startL]
  refine AWc.seq ?_
  refine AWc.rg hmix rfl rfl ?_
  refine RegV.p0 rfl rfl rfl ?_
  refine RegV.p0 rfl rfl rfl ?_
  refine RegV.nil0 ?_
  refine AWc.seq ?_
  refine AWc.seq ?_
  refine AWc.rg hmix rfl rfl ?_
  refine RegV.p0 rfl rfl rfl ?_
  refine RegV.len (xs := a1) (e := byteD) rfl rfl rfl rfl ?_
  refine RegV.p0 (v := (.d (.bool (decide (((a1.length : Nat) : Int) > (32768 : Int)))))) rfl rfl rfl ?_
  refine RegV.nil0 ?_
  refine AWc.cond rfl (fun c13 => ?_) (fun c13 => ?_)
  · have h := cond_pos c13 h
    refine AWc.seq ?_
    refine AWc.rg hmix rfl rfl ?_
    refine RegV.p0 rfl rfl rfl ?_
    refine RegV.p0 rfl rfl rfl ?_
    refine RegV.nil0 ?_
    have hr := Option.some.inj h
    subst hr
    exact AWc.ret (canQ (N := 27) (k := 1) (l' := [(4, (.ap 0 1 (List.map byteD ([] : List UInt8)))), (5, (.d (.int .i64 (5 : Int))))]) (H' := [(0, (.tok ((List.map byteD ([] : List UInt8)).length * 1)))]) rfl ⟨rfl, [.tok 0], [(0, 0)], rfl, rfl, ⟨⟨_, rfl, .nil⟩, rfl, ⟨⟨_, rfl, (.refl _)⟩, rfl, trivial⟩⟩, ⟨⟨_, rfl, (.refl _)⟩, rfl, rfl, trivial⟩⟩ (doneA (.inr rfl) rfl ⟨trivial, ⟨trivial, trivial⟩⟩ (.refl _) (hasCons rfl hasNil)))
  · have h := cond_neg c13 h
    refine AWc.skip ?_
    refine AWc.seq ?_
    refine AWc.rg hmix rfl rfl ?_
    refine RegV.p0 rfl rfl rfl ?_
    obtain ⟨r25, e25, h⟩ := bind_some h
    refine RegV.callS (q := false) (H' := [(0, (.tok ((List.map byteD r25).length * 1)))]) (c' := 1) (show ACalls P (N 271) [(.d (.int .u64 a0)), (.d (.int .i64 (8 : Int)))] [] (.ap 0 1 (List.map byteD r25)) [(0, (.tok ((List.map byteD r25).length * 1)))] from ACalls.use (F271 hmix hc.2.1 e25) [(0, 0)] 1 rfl) rfl rfl rfl rfl (.cons (.refl _) (.cons (.refl _) .nil)) (.refl _) (fun h => by cases h) rfl hasNil rfl rfl rfl rfl ?_
    refine RegV.p0 rfl rfl rfl ?_
    obtain ⟨b27, h⟩ := gd_some h
    refine RegV.appA (xs := r25) (ys := a1) (e := byteD) (H1 := []) rfl rfl rfl rfl (fun _ => rfl) rfl rfl b27 rfl rfl rfl ?_
    refine RegV.p0 rfl rfl rfl ?_
    refine RegV.nil0 ?_
    refine AWc.seq ?_
    refine AWc.rg hmix rfl rfl ?_
    refine RegV.p0 rfl rfl rfl ?_
    refine RegV.len (xs := a1) (e := byteD) rfl rfl rfl rfl ?_
    refine RegV.p0 (v := (.d (.int .u64 (IntKind.u64.wrap ((a1.length : Nat) : Int))))) rfl rfl rfl ?_
    obtain ⟨r35, e35, h⟩ := bind_some h
    refine RegV.callS (q := false) (H' := [(2, (.tok ((List.map byteD r35).length * 1))), (1, (.tok ((List.map byteD (r25 ++ a1)).length * 1)))]) (c' := 3) (show ACalls P (N 271) [(.d (.int .u64 (IntKind.u64.wrap ((a1.length : Nat) : Int)))), (.d (.int .i64 (4 : Int)))] [] (.ap 2 1 (List.map byteD r35)) [(2, (.tok ((List.map byteD r35).length * 1)))] from ACalls.use (F271 hmix hc.2.1 e35) [(0, 2)] 1 rfl) rfl rfl rfl rfl (.cons (.refl _) (.cons (.refl _) .nil)) (.refl _) (fun h => by cases h) rfl hasNil rfl rfl rfl rfl ?_
    refine RegV.p0 rfl rfl rfl ?_
    obtain ⟨r37, e37, h⟩ := bind_some h
    refine RegV.call0 (F268 hmix hc.2.2 e37) rfl rfl rfl rfl (.cons (.sl rfl) .nil) rfl ?_
    refine RegV.p0 (v := (.d (.int .u64 (IntKind.u64.wrap r37)))) rfl rfl rfl ?_
    obtain ⟨r39, e39, h⟩ := bind_some h
    refine RegV.callS (q := false) (H' := [(3, (.tok ((List.map byteD r39).length * 1))), (2, (.tok ((List.map byteD r35).length * 1))), (1, (.tok ((List.map byteD (r25 ++ a1)).length * 1)))]) (c' := 4) (show ACalls P (N 271) [(.d (.int .u64 (IntKind.u64.wrap r37))), (.d (.int .i64 (4 : Int)))] [] (.ap 3 1 (List.map byteD r39)) [(3, (.tok ((List.map byteD r39).length * 1)))] from ACalls.use (F271 hmix hc.2.1 e39) [(0, 3)] 1 rfl) rfl rfl rfl rfl (.cons (.refl _) (.cons (.refl _) .nil)) (.refl _) (fun h => by cases h) rfl hasNil rfl rfl rfl rfl ?_
    obtain ⟨b40, h⟩ := gd_some h
    refine RegV.appA (xs := r35) (ys := r39) (e := byteD) (H1 := [(3, (.tok ((List.map byteD r39).length * 1))), (1, (.tok ((List.map byteD (r25 ++ a1)).length * 1)))]) rfl rfl rfl rfl (fun _ => rfl) rfl rfl b40 rfl rfl rfl ?_
    refine RegV.p0 rfl rfl rfl ?_
    refine RegV.nil0 ?_
    refine AWc.seq ?_
    refine AWc.rg hmix rfl rfl ?_
    refine RegV.p0 rfl rfl rfl ?_
    refine RegV.p0 rfl rfl rfl ?_
    obtain ⟨b47, h⟩ := gd_some h
    refine RegV.appA (xs := (r35 ++ r39)) (ys := (r25 ++ a1)) (e := byteD) (H1 := [(3, (.tok ((List.map byteD r39).length * 1))), (1, (.tok ((List.map byteD (r25 ++ a1)).length * 1)))]) rfl rfl rfl rfl (fun _ => rfl) rfl rfl b47 rfl rfl rfl ?_
    refine RegV.p0 rfl rfl rfl ?_
    refine RegV.p0 rfl rfl rfl ?_
    refine RegV.nil0 ?_
    have hr := Option.some.inj h
    subst hr
    exact AWc.ret (canQ (N := 27) (k := 1) (l' := [(4, (.ap 0 1 (List.map byteD ((r35 ++ r39) ++ (r25 ++ a1))))), (5, (.d (.int .i64 (0 : Int))))]) (H' := [(0, (.tok ((List.map byteD ((r35 ++ r39) ++ (r25 ++ a1))).length * 1)))]) rfl ⟨rfl, [], [(0, 5)], rfl, rfl, ⟨⟨_, rfl, (.refl _)⟩, rfl, ⟨⟨_, rfl, (.refl _)⟩, rfl, trivial⟩⟩, ⟨⟨_, rfl, (.refl _)⟩, rfl, rfl, trivial⟩⟩ (doneA (.inr rfl) rfl ⟨trivial, ⟨trivial, trivial⟩⟩ (.refl _) (hasCons rfl hasNil)))
/-- courant/couranthelp.Bytes -/
def C22 (N : Nat → Nat) : AFunc := { n := 10, params := 2, res := [.tmp 4], body :=
 (.seq (.region false [⟨(some 4), .mv (.k (.d (.bool false))), none, []⟩])
  (.seq (.region false [⟨(some 5), .mv (.t 0), none, []⟩,
    ⟨(some 6), .bs2s (.t 5), none, [0]⟩,
    ⟨(some 7), .mv (.t 1), none, []⟩,
    ⟨(some 8), .bs2s (.t 7), none, [2]⟩,
    ⟨(some 9), .bin .eql (.t 6) (.t 8), none, [1, 3]⟩,
    ⟨(some 4), .mv (.t 9), none, [4, 0, 1, 2, 3]⟩])
   .ret)) }
def HC22 (P : Program) (N : Nat → Nat) : Prop := HasF P (N 22) (C22 N)
def f22 (k : Nat) (a0 : (List UInt8)) (a1 : (List UInt8)) : Option Unit := some ()
theorem F22 {P : Program} {N : Nat → Nat} (hmix : P.follows .mixedOrders = true) (hc : HC22 P N) {k : Nat} {a0 : (List UInt8)} {a1 : (List UInt8)} {r : Unit} (h : f22 k a0 a1 = some r) :
    ACalls P (N 22) [(.d (.sl (List.map byteD a0))), (.d (.sl (List.map byteD a1)))] [] (.d (.bool (decide (a0 = a1)))) [] := by
  refine acalls_canon (F := C22 N) hc 0 0 rfl ?_
  unfold f22 at h
  dsimp only [C22, startL]
  refine AWc.seq ?_
  refine AWc.rg hmix rfl rfl ?_
  refine RegV.p0 rfl rfl rfl ?_
  refine RegV.nil0 ?_
  refine AWc.seq ?_
  refine AWc.rg hmix rfl rfl ?_
  refine RegV.p0 rfl rfl rfl ?_
  refine RegV.bs2s (b := a0) rfl rfl rfl ?_
  refine RegV.p0 rfl rfl rfl ?_
  refine RegV.bs2s (b := a1) rfl rfl rfl ?_
  refine RegV.p0 (v := (.d (.bool (decide (a0 = a1))))) rfl rfl rfl ?_
  refine RegV.p0 rfl rfl rfl ?_
  refine RegV.nil0 ?_
  have hr := Option.some.inj h
  subst hr
  exact AWc.ret (canQ (N := 10) (k := 0) (l' := [(4, (.d (.bool (decide (a0 = a1)))))]) (H' := []) rfl ⟨rfl, [], [], rfl, rfl, ⟨⟨_, rfl, (.refl _)⟩, rfl, trivial⟩,  trivial⟩ (doneA (.inr rfl) rfl ⟨trivial, trivial⟩ (.refl _) hasNil))
/-- courant/courantlaw18.FrameMakes -/
def C221 (N : Nat → Nat) : AFunc := { n := 44, params := 2, res := [.tmp 4], body :=
 (.seq (.region false [⟨(some 4), .mv (.k (.d (.bool false))), none, []⟩])
  (.seq (.seq (.region false [⟨(some 10), .mv (.t 1), none, []⟩,
     ⟨(some 11), .len (.t 10), none, [0]⟩,
     ⟨(some 12), .bin .gtr (.t 11) (.k (.d (.int .i64 5000))), none, [1]⟩])
    (.cond (.t 12) (.seq (.region false [⟨(some 13), .call (.k (.d (.fn (N 222)))) [], none, []⟩,
       ⟨(some 4), .mv (.t 13), none, [0]⟩])
      .ret)
     (.skip)))
   (.seq (.region false [⟨(some 14), .mv (.t 1), none, []⟩,
     ⟨(some 15), .call (.k (.d (.fn (N 21)))) [(.t 14), (.k (.d (.int .u8 71)))], none, [0]⟩,
     ⟨(some 5), .mv (.t 15), none, [1, 0]⟩])
    (.seq (.region false [⟨(some 17), .mv (.t 0), none, []⟩,
      ⟨(some 18), .mv (.t 5), none, []⟩,
      ⟨(some 19), .call (.k (.d (.fn (N 223)))) [(.t 17), (.t 18)], none, [0, 1]⟩,
      ⟨(some 16), .mv (.t 19), none, [2]⟩,
      ⟨(some 20), .ext (.t 16) 0, none, [3]⟩,
      ⟨(some 21), .ext (.t 16) 1, none, [3]⟩,
      ⟨(some 6), .mv (.t 20), none, [4, 2, 0, 1, 3]⟩,
      ⟨(some 7), .mv (.t 21), none, [5, 6, 0, 1, 2, 3, 4]⟩])
     (.seq (.region false [⟨(some 23), .mv (.t 0), none, []⟩,
       ⟨(some 24), .mv (.t 1), none, []⟩,
       ⟨(some 25), .call (.k (.d (.fn (N 270)))) [(.t 23), (.t 24)], none, [0, 1]⟩,
       ⟨(some 22), .mv (.t 25), none, [2]⟩,
       ⟨(some 26), .ext (.t 22) 0, none, [3]⟩,
       ⟨(some 27), .ext (.t 22) 1, none, [3]⟩,
       ⟨(some 8), .mv (.t 26), none, [4, 2, 0, 1, 3]⟩,
       ⟨(some 9), .mv (.t 27), none, [5, 6, 0, 1, 2, 3, 4]⟩])
      (.seq (.region false [⟨(some 28), .call (.k (.d (.fn (N 222)))) [], none, []⟩,
        ⟨(some 29), .mv (.t 28), none, [0]⟩,
        ⟨(some 30), .mv (.t 6), (some (29, true)), [1]⟩,
        ⟨(some 31), .mv (.t 8), (some (29, true)), [1]⟩,
        ⟨(some 32), .call (.k (.d (.fn (N 22)))) [(.t 30), (.t 31)], (some (29, true)), [2, 3, 1]⟩,
        ⟨(some 33), .pick (.t 29) (.t 32) (.k (.d (.bool false))), none, [1, 4]⟩,
        ⟨(some 34), .mv (.t 33), none, [5, 4]⟩,
        ⟨(some 35), .mv (.t 7), (some (34, true)), [6]⟩,
        ⟨(some 36), .mv (.t 9), (some (34, true)), [6]⟩,
        ⟨(some 37), .bin .eql (.t 35) (.t 36), (some (34, true)), [7, 8, 6]⟩,
        ⟨(some 38), .pick (.t 34) (.t 37) (.k (.d (.bool false))), none, [6, 9]⟩,
        ⟨(some 39), .mv (.t 38), none, [10, 6]⟩,
        ⟨(some 40), .mv (.t 5), (some (39, true)), [11]⟩,
        ⟨(some 41), .mv (.t 1), (some (39, true)), [11]⟩,
        ⟨(some 42), .call (.k (.d (.fn (N 29)))) [(.t 40), (.t 41), (.k (.d (.int .u8 71)))], (some (39, true)), [12, 13, 11]⟩,
        ⟨(some 43), .pick (.t 39) (.t 42) (.k (.d (.bool false))), none, [11, 14]⟩,
        ⟨(some 4), .mv (.t 43), none, [15, 14, 0, 1, 2, 3, 4, 5, 6, 7, 8, 9, 10, 11, 12, 13]⟩])
       .ret)))))) }
def HC221 (P : Program) (N : Nat → Nat) : Prop := HasF P (N 221) (C221 N) ∧ HC222 P N ∧ HC21 P N ∧ HC223 P N ∧ HC270 P N ∧ HC22 P N ∧ HC29 P N
def f221 (k : Nat) (a0 : Int) (a1 : (List UInt8)) : Option Bool := cond (decide (((a1.length : Nat) : Int) > (5000 : Int))) ((f222 k).bind fun r16 => some r16) ((f21 k a1 (71 : UInt8)).bind fun r24 => (f223 k a0 (List.take (((0 : Int)).toNat + a1.length) r24)).bind fun r31 => (f270 k a0 a1).bind fun r42 => (f222 k).bind fun r51 => cond r51 ((f22 k r31.1 r42.1).bind fun r55 => cond (decide (r31.1 = r42.1)) (cond (decide (r31.2 = r42.2)) ((f29 k r24 (((0 : Int)).toNat + a1.length) a1 (71 : UInt8)).bind fun r65 => some r65) (some false)) (some false)) (some false))
theorem F221 {P : Program} {N : Nat → Nat} (hmix : P.follows .mixedOrders = true) (hc : HC221 P N) {k : Nat} {a0 : Int} {a1 : (List UInt8)} {r : Bool} (h : f221 k a0 a1 = some r) :
    ACalls P (N 221) [(.d (.int .u64 a0)), (.d (.sl (List.map byteD a1)))] [] (.d (.bool r)) [] := by
  refine acalls_canon (F := C221 N) hc.1 0 0 rfl ?_
  unfold f221 at h
  dsimp only [C221, startL]
  refine AWc.seq ?_
  refine AWc.rg hmix rfl rfl ?_
  refine RegV.p0 rfl rfl rfl ?_
  refine RegV.nil0 ?_
  refine AWc.seq ?_
  refine AWc.seq ?_
  refine AWc.rg hmix rfl rfl ?_
  refine RegV.p0 rfl rfl rfl ?_
  refine RegV.len (xs := a1) (e := byteD) rfl rfl rfl rfl ?_
  refine RegV.p0 (v := (.d (.bool (decide (((a1.length : Nat) : Int) > (5000 : Int)))))) rfl rfl rfl ?_
  refine RegV.nil0 ?_
  refine AWc.cond rfl (fun c12 => ?_) (fun c12 => ?_)
  · have h := cond_pos c12 h
    refine AWc.seq ?_
    refine AWc.rg hmix rfl rfl ?_
    obtain ⟨r16, e16, h⟩ := bind_some h
    refine RegV.call0 (F222 hmix hc.2.1 e16) rfl rfl rfl rfl .nil rfl ?_
    refine RegV.p0 rfl rfl rfl ?_
    refine RegV.nil0 ?_
    have hr := Option.some.inj h
    subst hr
    exact AWc.ret (canQ (N := 44) (k := 0) (l' := [(4, (.d (.bool r16)))]) (H' := []) rfl ⟨rfl, [], [], rfl, rfl, ⟨⟨_, rfl, (.refl _)⟩, rfl, trivial⟩,  trivial⟩ (doneA (.inr rfl) rfl ⟨trivial, trivial⟩ (.refl _) hasNil))
  · have h := cond_neg c12 h
    refine AWc.skip ?_
    refine AWc.seq ?_
    refine AWc.rg hmix rfl rfl ?_
    refine RegV.p0 rfl rfl rfl ?_
    obtain ⟨r24, e24, h⟩ := bind_some h
    refine RegV.call0 (F21 hmix hc.2.2.1 e24) rfl rfl rfl rfl (.cons (.refl _) (.cons (.refl _) .nil)) rfl ?_
    refine RegV.p0 rfl rfl rfl ?_
    refine RegV.nil0 ?_
    refine AWc.seq ?_
    refine AWc.rg hmix rfl rfl ?_
    refine RegV.p0 rfl rfl rfl ?_
    refine RegV.p0 rfl rfl rfl ?_
    obtain ⟨r31, e31, h⟩ := bind_some h
    refine RegV.callS (q := false) (H' := [(0, (.tok ((List.map byteD r31.1).length * 1)))]) (c' := 1) (show ACalls P (N 223) [(.d (.int .u64 a0)), (.d (.sl (List.map byteD (List.take (((0 : Int)).toNat + a1.length) r24))))] [] (.tup [(.ap 0 1 (List.map byteD r31.1)), (.d (.int .i64 r31.2))]) [(0, (.tok ((List.map byteD r31.1).length * 1)))] from ACalls.use (F223 hmix hc.2.2.2.1 e31) [(0, 0)] 1 rfl) rfl rfl rfl rfl (.cons (.refl _) (.cons .win .nil)) (.refl _) (fun h => by cases h) rfl hasNil rfl rfl rfl rfl ?_
    refine RegV.p0 rfl rfl rfl ?_
    refine RegV.p0 rfl rfl rfl ?_
    refine RegV.p0 rfl rfl rfl ?_
    refine RegV.p0 rfl rfl rfl ?_
    refine RegV.p0 rfl rfl rfl ?_
    refine RegV.nil0 ?_
    refine AWc.seq ?_
    refine AWc.rg hmix rfl rfl ?_
    refine RegV.p0 rfl rfl rfl ?_
    refine RegV.p0 rfl rfl rfl ?_
    obtain ⟨r42, e42, h⟩ := bind_some h
    refine RegV.callS (q := false) (H' := [(1, (.tok ((List.map byteD r42.1).length * 1))), (0, (.tok ((List.map byteD r31.1).length * 1)))]) (c' := 2) (show ACalls P (N 270) [(.d (.int .u64 a0)), (.d (.sl (List.map byteD a1)))] [] (.tup [(.ap 1 1 (List.map byteD r42.1)), (.d (.int .i64 r42.2))]) [(1, (.tok ((List.map byteD r42.1).length * 1)))] from ACalls.use (F270 hmix hc.2.2.2.2.1 e42) [(0, 1)] 1 rfl) rfl rfl rfl rfl (.cons (.refl _) (.cons (.refl _) .nil)) (.refl _) (fun h => by cases h) rfl hasNil rfl rfl rfl rfl ?_
    refine RegV.p0 rfl rfl rfl ?_
    refine RegV.p0 rfl rfl rfl ?_
    refine RegV.p0 rfl rfl rfl ?_
    refine RegV.p0 rfl rfl rfl ?_
    refine RegV.p0 rfl rfl rfl ?_
    refine RegV.nil0 ?_
    refine AWc.seq ?_
    refine AWc.rg hmix rfl rfl ?_
    obtain ⟨r51, e51, h⟩ := bind_some h
    refine RegV.call0 (F222 hmix hc.2.1 e51) rfl rfl rfl rfl .nil rfl ?_
    refine RegV.p0 rfl rfl rfl ?_
    refine RegV.split (fun c52 => ?_) (fun c52 => ?_)
    · have h := cond_pos c52 h
      refine RegV.p0 rfl rfl rfl ?_
      refine RegV.p0 rfl rfl rfl ?_
      obtain ⟨r55, e55, h⟩ := bind_some h
      refine RegV.call0 (F22 hmix hc.2.2.2.2.2.1 e55) rfl rfl rfl rfl (.cons (.sl rfl) (.cons (.sl rfl) .nil)) rfl ?_
      refine RegV.p0 rfl rfl rfl ?_
      refine RegV.p0 rfl rfl rfl ?_
      refine RegV.split (fun c57 => ?_) (fun c57 => ?_)
      · have h := cond_pos c57 h
        refine RegV.p0 rfl rfl rfl ?_
        refine RegV.p0 rfl rfl rfl ?_
        refine RegV.p0 (v := (.d (.bool (decide (r31.2 = r42.2))))) rfl rfl rfl ?_
        refine RegV.p0 rfl rfl rfl ?_
        refine RegV.p0 rfl rfl rfl ?_
        refine RegV.split (fun c62 => ?_) (fun c62 => ?_)
        · have h := cond_pos c62 h
          refine RegV.p0 rfl rfl rfl ?_
          refine RegV.p0 rfl rfl rfl ?_
          obtain ⟨r65, e65, h⟩ := bind_some h
          refine RegV.call0 (F29 hmix hc.2.2.2.2.2.2 e65) rfl rfl rfl rfl (.cons (.refl _) (.cons (.refl _) (.cons (.refl _) .nil))) rfl ?_
          refine RegV.p0 rfl rfl rfl ?_
          refine RegV.p0 rfl rfl rfl ?_
          refine RegV.nil0 ?_
          have hr := Option.some.inj h
          subst hr
          exact AWc.ret (canQ (N := 44) (k := 0) (l' := [(4, (.d (.bool r65)))]) (H' := []) rfl ⟨rfl, [], [], rfl, rfl, ⟨⟨_, rfl, (.refl _)⟩, rfl, trivial⟩,  trivial⟩ (doneA (.inr rfl) rfl ⟨trivial, trivial⟩ (.refl _) hasNil))
        · have h := cond_neg c62 h
          refine RegV.noS rfl rfl ?_
          refine RegV.noS rfl rfl ?_
          refine RegV.noS rfl rfl ?_
          refine RegV.p0 rfl rfl rfl ?_
          refine RegV.p0 rfl rfl rfl ?_
          refine RegV.nil0 ?_
          have hr := Option.some.inj h
          subst hr
          exact AWc.ret (canQ (N := 44) (k := 0) (l' := [(4, (.d (.bool false)))]) (H' := []) rfl ⟨rfl, [], [], rfl, rfl, ⟨⟨_, rfl, (.refl _)⟩, rfl, trivial⟩,  trivial⟩ (doneA (.inr rfl) rfl ⟨trivial, trivial⟩ (.refl _) hasNil))
      · have h := cond_neg c57 h
        refine RegV.noS rfl rfl ?_
        refine RegV.noS rfl rfl ?_
        refine RegV.noS rfl rfl ?_
        refine RegV.p0 rfl rfl rfl ?_
        refine RegV.p0 rfl rfl rfl ?_
        refine RegV.noS rfl rfl ?_
        refine RegV.noS rfl rfl ?_
        refine RegV.noS rfl rfl ?_
        refine RegV.p0 rfl rfl rfl ?_
        refine RegV.p0 rfl rfl rfl ?_
        refine RegV.nil0 ?_
        have hr := Option.some.inj h
        subst hr
        exact AWc.ret (canQ (N := 44) (k := 0) (l' := [(4, (.d (.bool false)))]) (H' := []) rfl ⟨rfl, [], [], rfl, rfl, ⟨⟨_, rfl, (.refl _)⟩, rfl, trivial⟩,  trivial⟩ (doneA (.inr rfl) rfl ⟨trivial, trivial⟩ (.refl _) hasNil))
    · have h := cond_neg c52 h
      refine RegV.noS rfl rfl ?_
      refine RegV.noS rfl rfl ?_
      refine RegV.noS rfl rfl ?_
      refine RegV.p0 rfl rfl rfl ?_
      refine RegV.p0 rfl rfl rfl ?_
      refine RegV.noS rfl rfl ?_
      refine RegV.noS rfl rfl ?_
      refine RegV.noS rfl rfl ?_
      refine RegV.p0 rfl rfl rfl ?_
      refine RegV.p0 rfl rfl rfl ?_
      refine RegV.noS rfl rfl ?_
      refine RegV.noS rfl rfl ?_
      refine RegV.noS rfl rfl ?_
      refine RegV.p0 rfl rfl rfl ?_
      refine RegV.p0 rfl rfl rfl ?_
      refine RegV.nil0 ?_
      have hr := Option.some.inj h
      subst hr
      exact AWc.ret (canQ (N := 44) (k := 0) (l' := [(4, (.d (.bool false)))]) (H' := []) rfl ⟨rfl, [], [], rfl, rfl, ⟨⟨_, rfl, (.refl _)⟩, rfl, trivial⟩,  trivial⟩ (doneA (.inr rfl) rfl ⟨trivial, trivial⟩ (.refl _) hasNil))
/-- courant/courantlaw18.FrameLimit -/
def C227 (N : Nat → Nat) : AFunc := { n := 45, params := 1, res := [.tmp 2], body :=
 (.seq (.region false [⟨(some 2), .mv (.k (.d (.bool false))), none, []⟩])
  (.seq (.region false [⟨(some 3), .mv (.k (.d (.int .i64 32768))), none, []⟩])
   (.seq (.seq (.region false [⟨(some 6), .mv (.t 0), none, []⟩])
     (.cond (.t 6) (.region false [⟨(some 7), .mv (.t 3), none, []⟩,
       ⟨(some 8), .bin .add (.t 7) (.k (.d (.int .i64 1))), none, [0]⟩,
       ⟨(some 3), .mv (.t 8), none, [1, 0]⟩])
      (.skip)))
    (.seq (.region false [⟨(some 10), .mv (.t 3), none, []⟩,
      ⟨(some 11), .mksl (.t 10) (.t 10) 1 1 [(.int .u8 0)], none, [0]⟩,
      ⟨(some 12), .call (.k (.d (.fn (N 223)))) [(.k (.d (.int .u64 7))), (.t 11)], none, [1]⟩,
      ⟨(some 9), .mv (.t 12), none, [2]⟩,
      ⟨(some 13), .ext (.t 9) 0, none, [3]⟩,
      ⟨(some 14), .ext (.t 9) 1, none, [3]⟩,
      ⟨(some 4), .mv (.t 13), none, [4, 2, 0, 1, 3]⟩,
      ⟨(some 5), .mv (.t 14), none, [5, 6, 0, 1, 2, 3, 4]⟩])
     (.seq (.region false [⟨(some 15), .call (.k (.d (.fn (N 222)))) [], none, []⟩,
       ⟨(some 16), .mv (.t 15), none, [0]⟩,
       ⟨(some 17), .mv (.t 5), (some (16, true)), [1]⟩,
       ⟨(some 18), .bin .eql (.t 17) (.k (.d (.int .i64 5))), (some (16, true)), [2, 1]⟩,
       ⟨(some 19), .mv (.t 0), (some (16, true)), [1]⟩,
       ⟨(some 20), .beq false (.t 18) (.t 19), (some (16, true)), [3, 4, 1]⟩,
       ⟨(some 21), .pick (.t 16) (.t 20) (.k (.d (.bool false))), none, [1, 5]⟩,
       ⟨(some 22), .mv (.t 21), none, [6, 1]⟩,
       ⟨(some 23), .mv (.t 0), (some (22, true)), [7]⟩,
       ⟨(some 24), .mv (.t 23), (some (22, true)), [8, 7]⟩,
       ⟨(some 25), .mv (.t 4), (some (24, true)), [9]⟩,
       ⟨(some 26), .len (.t 25), (some (24, true)), [10, 9]⟩,
       ⟨(some 27), .bin .eql (.t 26) (.k (.d (.int .i64 0))), (some (24, true)), [11, 9]⟩,
       ⟨(some 28), .pick (.t 24) (.t 27) (.k (.d (.bool false))), (some (22, true)), [9, 12, 7]⟩,
       ⟨(some 29), .mv (.t 28), (some (22, true)), [13, 9, 7]⟩,
       ⟨(some 30), .mv (.t 0), (some (29, false)), [14]⟩,
       ⟨(some 31), .un .not (.t 30), (some (29, false)), [15, 14]⟩,
       ⟨(some 32), .mv (.t 31), (some (29, false)), [16, 14]⟩,
       ⟨(some 33), .mv (.t 5), (some (32, true)), [17]⟩,
       ⟨(some 34), .bin .eql (.t 33) (.k (.d (.int .i64 0))), (some (32, true)), [18, 17]⟩,
       ⟨(some 35), .pick (.t 32) (.t 34) (.k (.d (.bool false))), (some (29, false)), [17, 19, 14]⟩,
       ⟨(some 36), .mv (.t 35), (some (29, false)), [20, 17, 14]⟩,
       ⟨(some 37), .mv (.t 4), (some (36, true)), [21]⟩,
       ⟨(some 38), .len (.t 37), (some (36, true)), [22, 21]⟩,
       ⟨(some 39), .mv (.t 3), (some (36, true)), [21]⟩,
       ⟨(some 40), .bin .add (.t 39) (.k (.d (.int .i64 16))), (some (36, true)), [24, 21]⟩,
       ⟨(some 41), .bin .eql (.t 38) (.t 40), (some (36, true)), [23, 25, 21]⟩,
       ⟨(some 42), .pick (.t 36) (.t 41) (.k (.d (.bool false))), (some (29, false)), [21, 26, 14]⟩,
       ⟨(some 43), .pick (.t 29) (.k (.d (.bool true))) (.t 42), (some (22, true)), [14, 27, 7]⟩,
       ⟨(some 44), .pick (.t 22) (.t 43) (.k (.d (.bool false))), none, [7, 28]⟩,
       ⟨(some 2), .mv (.t 44), none, [29, 21, 0, 1, 2, 3, 4, 5, 6, 7, 8, 9, 10, 11, 12, 13, 14, 15, 16, 17, 18, 19, 20, 22, 23, 24, 25, 26, 27, 28]⟩])
      .ret))))) }
def HC227 (P : Program) (N : Nat → Nat) : Prop := HasF P (N 227) (C227 N) ∧ HC223 P N ∧ HC222 P N
def f227_j21 (k : Nat) (a0 : Bool) (j21_1 : Int) : Option Bool := gd (0 ≤ j21_1 ∧ j21_1 ≤ j21_1 ∧ j21_1 * 1 ≤ 281474976710656) ((f223 k (7 : Int) (List.replicate (j21_1).toNat (default : UInt8))).bind fun r26 => (f222 k).bind fun r35 => cond r35 (cond ((decide (r26.2 = (5 : Int))) == a0) (cond a0 (cond (decide (((r26.1.length : Nat) : Int) = (0 : Int))) (some true) (cond (!a0) (cond (decide (r26.2 = (0 : Int))) (some (decide (((r26.1.length : Nat) : Int) = (IntKind.i64.wrap (j21_1 + (16 : Int)))))) (some false)) (some false))) (cond (!a0) (cond (decide (r26.2 = (0 : Int))) (some (decide (((r26.1.length : Nat) : Int) = (IntKind.i64.wrap (j21_1 + (16 : Int)))))) (some false)) (some false))) (some false)) (some false))
def f227 (k : Nat) (a0 : Bool) : Option Bool := cond a0 (f227_j21 k a0 (IntKind.i64.wrap ((32768 : Int) + (1 : Int)))) (f227_j21 k a0 (32768 : Int))
theorem F227 {P : Program} {N : Nat → Nat} (hmix : P.follows .mixedOrders = true) (hc : HC227 P N) {k : Nat} {a0 : Bool} {r : Bool} (h : f227 k a0 = some r) :
    ACalls P (N 227) [(.d (.bool a0))] [] (.d (.bool r)) [] := by
  refine acalls_canon (F := C227 N) hc.1 0 0 rfl ?_
  unfold f227 at h
  dsimp only [C227, startL]
  refine AWc.seq ?_
  refine AWc.rg hmix rfl rfl ?_
  refine RegV.p0 rfl rfl rfl ?_
  refine RegV.nil0 ?_
  refine AWc.seq ?_
  refine AWc.rg hmix rfl rfl ?_
  refine RegV.p0 rfl rfl rfl ?_
  refine RegV.nil0 ?_
  refine AWc.seqS (N := 45) 0 (fun (z : Int) => [(0, (.d (.bool a0))), (3, (.d (.int .i64 z)))]) (fun z => []) (fun z => f227_j21 k a0 z = some r) rfl_le ?_ ?_
  · refine AWc.seq ?_
    refine AWc.rg hmix rfl rfl ?_
    refine RegV.p0 rfl rfl rfl ?_
    refine RegV.nil0 ?_
    refine AWc.cond rfl (fun c14 => ?_) (fun c14 => ?_)
    · have h := cond_pos c14 h
      refine AWc.rg hmix rfl rfl ?_
      refine RegV.p0 rfl rfl rfl ?_
      refine RegV.p0 (v := (.d (.int .i64 (IntKind.i64.wrap ((32768 : Int) + (1 : Int)))))) rfl rfl rfl ?_
      refine RegV.p0 rfl rfl rfl ?_
      refine RegV.nil0 ?_
      exact ⟨(IntKind.i64.wrap ((32768 : Int) + (1 : Int))), h, ⟨rfl, [], [], rfl, rfl, ⟨⟨_, rfl, (.refl _)⟩, rfl, ⟨⟨_, rfl, (.refl _)⟩, rfl, trivial⟩⟩,  trivial⟩⟩
    · have h := cond_neg c14 h
      refine AWc.skip ?_
      exact ⟨(32768 : Int), h, ⟨rfl, [], [], rfl, rfl, ⟨⟨_, rfl, (.refl _)⟩, rfl, ⟨⟨_, rfl, (.refl _)⟩, rfl, trivial⟩⟩,  trivial⟩⟩
  · intro j21_1 h
    unfold f227_j21 at h
    refine AWc.seq ?_
    refine AWc.rg hmix rfl rfl ?_
    refine RegV.p0 rfl rfl rfl ?_
    obtain ⟨b25, h⟩ := gd_some h
    refine RegV.mkD (e := byteD) (a0 := default) rfl rfl rfl rfl rfl rfl rfl b25 rfl ?_
    obtain ⟨r26, e26, h⟩ := bind_some h
    refine RegV.callS (q := false) (H' := [(0, (.tok ((List.map byteD r26.1).length * 1)))]) (c' := 1) (show ACalls P (N 223) [(.d (.int .u64 (7 : Int))), (.d (.sl (List.map byteD (List.replicate (j21_1).toNat (default : UInt8)))))] [] (.tup [(.ap 0 1 (List.map byteD r26.1)), (.d (.int .i64 r26.2))]) [(0, (.tok ((List.map byteD r26.1).length * 1)))] from ACalls.use (F223 hmix hc.2.1 e26) [(0, 0)] 1 rfl) rfl rfl rfl rfl (.cons (.refl _) (.cons (.refl _) .nil)) (.refl _) (fun h => by cases h) rfl hasNil rfl rfl rfl rfl ?_
    refine RegV.p0 rfl rfl rfl ?_
    refine RegV.p0 rfl rfl rfl ?_
    refine RegV.p0 rfl rfl rfl ?_
    refine RegV.p0 rfl rfl rfl ?_
    refine RegV.p0 rfl rfl rfl ?_
    refine RegV.nil0 ?_
    refine AWc.seq ?_
    refine AWc.rg hmix rfl rfl ?_
    obtain ⟨r35, e35, h⟩ := bind_some h
    refine RegV.call0 (F222 hmix hc.2.2 e35) rfl rfl rfl rfl .nil rfl ?_
    refine RegV.p0 rfl rfl rfl ?_
    refine RegV.split (fun c36 => ?_) (fun c36 => ?_)
    · have h := cond_pos c36 h
      refine RegV.p0 rfl rfl rfl ?_
      refine RegV.p0 (v := (.d (.bool (decide (r26.2 = (5 : Int)))))) rfl rfl rfl ?_
      refine RegV.p0 rfl rfl rfl ?_
      refine RegV.p0 (v := (.d (.bool ((decide (r26.2 = (5 : Int))) == a0)))) rfl rfl rfl ?_
      refine RegV.p0 rfl rfl rfl ?_
      refine RegV.p0 rfl rfl rfl ?_
      refine RegV.split (fun c42 => ?_) (fun c42 => ?_)
      · have h := cond_pos c42 h
        refine RegV.p0 rfl rfl rfl ?_
        refine RegV.p0 rfl rfl rfl ?_
        refine RegV.split (fun c44 => ?_) (fun c44 => ?_)
        · have h := cond_pos c44 h
          refine RegV.p0 rfl rfl rfl ?_
          refine RegV.len (xs := r26.1) (e := byteD) rfl rfl rfl rfl ?_
          refine RegV.p0 (v := (.d (.bool (decide (((r26.1.length : Nat) : Int) = (0 : Int)))))) rfl rfl rfl ?_
          refine RegV.p0 rfl rfl rfl ?_
          refine RegV.p0 rfl rfl rfl ?_
          refine RegV.split (fun c49 => ?_) (fun c49 => ?_)
          · have h := cond_pos c49 h
            refine RegV.noS rfl rfl ?_
            refine RegV.noS rfl rfl ?_
            refine RegV.noS rfl rfl ?_
            refine RegV.noS rfl rfl ?_
            refine RegV.noS rfl rfl ?_
            refine RegV.noS rfl rfl ?_
            refine RegV.noS rfl rfl ?_
            refine RegV.noS rfl rfl ?_
            refine RegV.noS rfl rfl ?_
            refine RegV.noS rfl rfl ?_
            refine RegV.noS rfl rfl ?_
            refine RegV.noS rfl rfl ?_
            refine RegV.noS rfl rfl ?_
            refine RegV.p0 rfl rfl rfl ?_
            refine RegV.p0 rfl rfl rfl ?_
            refine RegV.p0 rfl rfl rfl ?_
            refine RegV.nil0 ?_
            have hr := Option.some.inj h
            subst hr
            exact AWc.ret (canQ (N := 45) (k := 0) (l' := [(2, (.d (.bool true)))]) (H' := []) rfl ⟨rfl, [], [], rfl, rfl, ⟨⟨_, rfl, (.refl _)⟩, rfl, trivial⟩,  trivial⟩ (doneA (.inr rfl) rfl ⟨trivial, trivial⟩ (.refl _) hasNil))
          · have h := cond_neg c49 h
            refine RegV.p0 rfl rfl rfl ?_
            refine RegV.p0 (v := (.d (.bool (!a0)))) rfl rfl rfl ?_
            refine RegV.p0 rfl rfl rfl ?_
            refine RegV.split (fun c52 => ?_) (fun c52 => ?_)
            · have h := cond_pos c52 h
              refine RegV.p0 rfl rfl rfl ?_
              refine RegV.p0 (v := (.d (.bool (decide (r26.2 = (0 : Int)))))) rfl rfl rfl ?_
              refine RegV.p0 rfl rfl rfl ?_
              refine RegV.p0 rfl rfl rfl ?_
              refine RegV.split (fun c56 => ?_) (fun c56 => ?_)
              · have h := cond_pos c56 h
                refine RegV.p0 rfl rfl rfl ?_
                refine RegV.len (xs := r26.1) (e := byteD) rfl rfl rfl rfl ?_
                refine RegV.p0 rfl rfl rfl ?_
                refine RegV.p0 (v := (.d (.int .i64 (IntKind.i64.wrap (j21_1 + (16 : Int)))))) rfl rfl rfl ?_
                refine RegV.p0 (v := (.d (.bool (decide (((r26.1.length : Nat) : Int) = (IntKind.i64.wrap (j21_1 + (16 : Int)))))))) rfl rfl rfl ?_
                refine RegV.p0 rfl rfl rfl ?_
                refine RegV.p0 rfl rfl rfl ?_
                refine RegV.p0 rfl rfl rfl ?_
                refine RegV.p0 rfl rfl rfl ?_
                refine RegV.nil0 ?_
                have hr := Option.some.inj h
                subst hr
                exact AWc.ret (canQ (N := 45) (k := 0) (l' := [(2, (.d (.bool (decide (((r26.1.length : Nat) : Int) = (IntKind.i64.wrap (j21_1 + (16 : Int))))))))]) (H' := []) rfl ⟨rfl, [], [], rfl, rfl, ⟨⟨_, rfl, (.refl _)⟩, rfl, trivial⟩,  trivial⟩ (doneA (.inr rfl) rfl ⟨trivial, trivial⟩ (.refl _) hasNil))
              · have h := cond_neg c56 h
                refine RegV.noS rfl rfl ?_
                refine RegV.noS rfl rfl ?_
                refine RegV.noS rfl rfl ?_
                refine RegV.noS rfl rfl ?_
                refine RegV.noS rfl rfl ?_
                refine RegV.p0 rfl rfl rfl ?_
                refine RegV.p0 rfl rfl rfl ?_
                refine RegV.p0 rfl rfl rfl ?_
                refine RegV.p0 rfl rfl rfl ?_
                refine RegV.nil0 ?_
                have hr := Option.some.inj h
                subst hr
                exact AWc.ret (canQ (N := 45) (k := 0) (l' := [(2, (.d (.bool false)))]) (H' := []) rfl ⟨rfl, [], [], rfl, rfl, ⟨⟨_, rfl, (.refl _)⟩, rfl, trivial⟩,  trivial⟩ (doneA (.inr rfl) rfl ⟨trivial, trivial⟩ (.refl _) hasNil))
            · have h := cond_neg c52 h
              refine RegV.noS rfl rfl ?_
              refine RegV.noS rfl rfl ?_
              refine RegV.p0 rfl rfl rfl ?_
              refine RegV.p0 rfl rfl rfl ?_
              refine RegV.noS rfl rfl ?_
              refine RegV.noS rfl rfl ?_
              refine RegV.noS rfl rfl ?_
              refine RegV.noS rfl rfl ?_
              refine RegV.noS rfl rfl ?_
              refine RegV.p0 rfl rfl rfl ?_
              refine RegV.p0 rfl rfl rfl ?_
              refine RegV.p0 rfl rfl rfl ?_
              refine RegV.p0 rfl rfl rfl ?_
              refine RegV.nil0 ?_
              have hr := Option.some.inj h
              subst hr
              exact AWc.ret (canQ (N := 45) (k := 0) (l' := [(2, (.d (.bool false)))]) (H' := []) rfl ⟨rfl, [], [], rfl, rfl, ⟨⟨_, rfl, (.refl _)⟩, rfl, trivial⟩,  trivial⟩ (doneA (.inr rfl) rfl ⟨trivial, trivial⟩ (.refl _) hasNil))
        · have h := cond_neg c44 h
          refine RegV.noS rfl rfl ?_
          refine RegV.noS rfl rfl ?_
          refine RegV.noS rfl rfl ?_
          refine RegV.p0 rfl rfl rfl ?_
          refine RegV.p0 rfl rfl rfl ?_
          refine RegV.p0 rfl rfl rfl ?_
          refine RegV.p0 (v := (.d (.bool (!a0)))) rfl rfl rfl ?_
          refine RegV.p0 rfl rfl rfl ?_
          refine RegV.split (fun c52 => ?_) (fun c52 => ?_)
          · have h := cond_pos c52 h
            refine RegV.p0 rfl rfl rfl ?_
            refine RegV.p0 (v := (.d (.bool (decide (r26.2 = (0 : Int)))))) rfl rfl rfl ?_
            refine RegV.p0 rfl rfl rfl ?_
            refine RegV.p0 rfl rfl rfl ?_
            refine RegV.split (fun c56 => ?_) (fun c56 => ?_)
            · have h := cond_pos c56 h
              refine RegV.p0 rfl rfl rfl ?_
              refine RegV.len (xs := r26.1) (e := byteD) rfl rfl rfl rfl ?_
              refine RegV.p0 rfl rfl rfl ?_
              refine RegV.p0 (v := (.d (.int .i64 (IntKind.i64.wrap (j21_1 + (16 : Int)))))) rfl rfl rfl ?_
              refine RegV.p0 (v := (.d (.bool (decide (((r26.1.length : Nat) : Int) = (IntKind.i64.wrap (j21_1 + (16 : Int)))))))) rfl rfl rfl ?_
              refine RegV.p0 rfl rfl rfl ?_
              refine RegV.p0 rfl rfl rfl ?_
              refine RegV.p0 rfl rfl rfl ?_
              refine RegV.p0 rfl rfl rfl ?_
              refine RegV.nil0 ?_
              have hr := Option.some.inj h
              subst hr
              exact AWc.ret (canQ (N := 45) (k := 0) (l' := [(2, (.d (.bool (decide (((r26.1.length : Nat) : Int) = (IntKind.i64.wrap (j21_1 + (16 : Int))))))))]) (H' := []) rfl ⟨rfl, [], [], rfl, rfl, ⟨⟨_, rfl, (.refl _)⟩, rfl, trivial⟩,  trivial⟩ (doneA (.inr rfl) rfl ⟨trivial, trivial⟩ (.refl _) hasNil))
            · have h := cond_neg c56 h
              refine RegV.noS rfl rfl ?_
              refine RegV.noS rfl rfl ?_
              refine RegV.noS rfl rfl ?_
              refine RegV.noS rfl rfl ?_
              refine RegV.noS rfl rfl ?_
              refine RegV.p0 rfl rfl rfl ?_
              refine RegV.p0 rfl rfl rfl ?_
              refine RegV.p0 rfl rfl rfl ?_
              refine RegV.p0 rfl rfl rfl ?_
              refine RegV.nil0 ?_
              have hr := Option.some.inj h
              subst hr
              exact AWc.ret (canQ (N := 45) (k := 0) (l' := [(2, (.d (.bool false)))]) (H' := []) rfl ⟨rfl, [], [], rfl, rfl, ⟨⟨_, rfl, (.refl _)⟩, rfl, trivial⟩,  trivial⟩ (doneA (.inr rfl) rfl ⟨trivial, trivial⟩ (.refl _) hasNil))
          · have h := cond_neg c52 h
            refine RegV.noS rfl rfl ?_
            refine RegV.noS rfl rfl ?_
            refine RegV.p0 rfl rfl rfl ?_
            refine RegV.p0 rfl rfl rfl ?_
            refine RegV.noS rfl rfl ?_
            refine RegV.noS rfl rfl ?_
            refine RegV.noS rfl rfl ?_
            refine RegV.noS rfl rfl ?_
            refine RegV.noS rfl rfl ?_
            refine RegV.p0 rfl rfl rfl ?_
            refine RegV.p0 rfl rfl rfl ?_
            refine RegV.p0 rfl rfl rfl ?_
            refine RegV.p0 rfl rfl rfl ?_
            refine RegV.nil0 ?_
            have hr := Option.some.inj h
            subst hr
            exact AWc.ret (canQ (N := 45) (k := 0) (l' := [(2, (.d (.bool false)))]) (H' := []) rfl ⟨rfl, [], [], rfl, rfl, ⟨⟨_, rfl, (.refl _)⟩, rfl, trivial⟩,  trivial⟩ (doneA (.inr rfl) rfl ⟨trivial, trivial⟩ (.refl _) hasNil))
      · have h := cond_neg c42 h
        refine RegV.noS rfl rfl ?_
        refine RegV.noS rfl rfl ?_
        refine RegV.noS rfl rfl ?_
        refine RegV.noS rfl rfl ?_
        refine RegV.noS rfl rfl ?_
        refine RegV.noS rfl rfl ?_
        refine RegV.noS rfl rfl ?_
        refine RegV.noS rfl rfl ?_
        refine RegV.noS rfl rfl ?_
        refine RegV.noS rfl rfl ?_
        refine RegV.noS rfl rfl ?_
        refine RegV.noS rfl rfl ?_
        refine RegV.noS rfl rfl ?_
        refine RegV.noS rfl rfl ?_
        refine RegV.noS rfl rfl ?_
        refine RegV.noS rfl rfl ?_
        refine RegV.noS rfl rfl ?_
        refine RegV.noS rfl rfl ?_
        refine RegV.noS rfl rfl ?_
        refine RegV.noS rfl rfl ?_
        refine RegV.noS rfl rfl ?_
        refine RegV.p0 rfl rfl rfl ?_
        refine RegV.p0 rfl rfl rfl ?_
        refine RegV.nil0 ?_
        have hr := Option.some.inj h
        subst hr
        exact AWc.ret (canQ (N := 45) (k := 0) (l' := [(2, (.d (.bool false)))]) (H' := []) rfl ⟨rfl, [], [], rfl, rfl, ⟨⟨_, rfl, (.refl _)⟩, rfl, trivial⟩,  trivial⟩ (doneA (.inr rfl) rfl ⟨trivial, trivial⟩ (.refl _) hasNil))
    · have h := cond_neg c36 h
      refine RegV.noS rfl rfl ?_
      refine RegV.noS rfl rfl ?_
      refine RegV.noS rfl rfl ?_
      refine RegV.noS rfl rfl ?_
      refine RegV.p0 rfl rfl rfl ?_
      refine RegV.p0 rfl rfl rfl ?_
      refine RegV.noS rfl rfl ?_
      refine RegV.noS rfl rfl ?_
      refine RegV.noS rfl rfl ?_
      refine RegV.noS rfl rfl ?_
      refine RegV.noS rfl rfl ?_
      refine RegV.noS rfl rfl ?_
      refine RegV.noS rfl rfl ?_
      refine RegV.noS rfl rfl ?_
      refine RegV.noS rfl rfl ?_
      refine RegV.noS rfl rfl ?_
      refine RegV.noS rfl rfl ?_
      refine RegV.noS rfl rfl ?_
      refine RegV.noS rfl rfl ?_
      refine RegV.noS rfl rfl ?_
      refine RegV.noS rfl rfl ?_
      refine RegV.noS rfl rfl ?_
      refine RegV.noS rfl rfl ?_
      refine RegV.noS rfl rfl ?_
      refine RegV.noS rfl rfl ?_
      refine RegV.noS rfl rfl ?_
      refine RegV.noS rfl rfl ?_
      refine RegV.p0 rfl rfl rfl ?_
      refine RegV.p0 rfl rfl rfl ?_
      refine RegV.nil0 ?_
      have hr := Option.some.inj h
      subst hr
      exact AWc.ret (canQ (N := 45) (k := 0) (l' := [(2, (.d (.bool false)))]) (H' := []) rfl ⟨rfl, [], [], rfl, rfl, ⟨⟨_, rfl, (.refl _)⟩, rfl, trivial⟩,  trivial⟩ (doneA (.inr rfl) rfl ⟨trivial, trivial⟩ (.refl _) hasNil))
end Go.Proofs.Abs
