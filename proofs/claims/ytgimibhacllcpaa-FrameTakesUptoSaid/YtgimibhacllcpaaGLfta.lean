/- Written by gen.py: functions of the program as Lean functions, and that the code comes to them. -/
import Derived.Test.YtgimibhacllcpaaAbsxd
set_option linter.unusedVariables false
set_option linter.unusedSimpArgs false
set_option maxRecDepth 100000
set_option maxHeartbeats 4000000
namespace Go.Proofs.Abs
open Go
structure TRec where
  fOffset : Int
  fData : (List UInt8)
instance : Inhabited TRec := ⟨⟨default, default⟩⟩
instance : DecidableEq TRec := fun a b => decidable_of_iff (a.fOffset = b.fOffset ∧ a.fData = b.fData ∧ True) ⟨fun h => by cases a; cases b; simp_all, fun h => by subst h; simp⟩
def TRec.enc (x : TRec) : D := .agg [.int .u64 x.fOffset, .sl (List.map byteD x.fData)]
theorem TRec.ok : EncOK TRec.enc 2 true := ⟨fun _ => rfl, fun _ c hc => by simp only [TRec.enc, D.cells, List.mem_cons, List.not_mem_nil, or_false] at hc; rcases hc with rfl | rfl <;> rfl, fun _ => rfl⟩
def TRec.wf (x : TRec) : Prop := (0 ≤ x.fOffset ∧ x.fOffset ≤ 18446744073709551615) ∧ (∀ e0 ∈ x.fData, True) ∧ True
def TRec.sz (x : TRec) : Nat := (1 + (((x.fData.map (fun _ => 1)).sum + 1) + 0)) + 1
/-- slices.All[[]byte,byte] -/
def C225 (N : Nat → Nat) : AFunc := { n := 4, params := 1, res := [.tmp 2], body :=
 (.seq (.region false [⟨(some 1), .box (.t 0), none, []⟩,
   ⟨(some 2), .mv (.k (.d .nilf)), none, []⟩])
  (.seq (.region false [⟨(some 3), .mkfn (N 226) [(.t 1)], none, []⟩,
    ⟨(some 2), .mv (.t 3), none, [0]⟩])
   .ret)) }
def HC225 (P : Program) (N : Nat → Nat) : Prop := HasF P (N 225) (C225 N)
def f225 (k : Nat) (a0 : (List UInt8)) (a1 : Nat) (a2 : Nat) : Option Unit := some ()
theorem F225 {P : Program} {N : Nat → Nat} (hmix : P.follows .mixedOrders = true) (hc : HC225 P N) {k : Nat} {a0 : (List UInt8)} {a1 : Nat} {a2 : Nat} {r : Unit} (h : f225 k a0 a1 a2 = some r) :
    ACalls P (N 225) [(.sl 0 0 a1 a2 1)] [(0, (cellsO byteD a0))] (.fn (N 226) [(.ptr 1 0)]) [(1, (.cells [(.sl 0 0 a1 a2 1)])), (0, (cellsO byteD a0))] := by
  refine acalls_canon (F := C225 N) hc 1 2 rfl ?_
  unfold f225 at h
  dsimp only [C225, startL]
  refine AWc.seq ?_
  refine AWc.rg hmix rfl rfl ?_
  refine RegV.evS (own := false) (v := (.ptr 1 0)) (H' := [(1, (.cells [(.sl 0 0 a1 a2 1)])), (0, (cellsO byteD a0))]) (c' := 2) rfl rfl trivial rfl rfl rfl rfl rfl rfl ?_
  refine RegV.p0 rfl rfl rfl ?_
  refine RegV.nil0 ?_
  refine AWc.seq ?_
  refine AWc.rg hmix rfl rfl ?_
  refine RegV.p0 (v := (.fn (N 226) [(.ptr 1 0)])) rfl rfl rfl ?_
  refine RegV.p0 rfl rfl rfl ?_
  refine RegV.nil0 ?_
  have hr := Option.some.inj h
  subst hr
  exact AWc.ret (canQ (N := 4) (k := 2) (l' := [(2, (.fn (N 226) [(.ptr 1 0)]))]) (H' := [(1, (.cells [(.sl 0 0 a1 a2 1)])), (0, (cellsO byteD a0))]) rfl ⟨rfl, [], [], rfl, rfl, ⟨⟨_, rfl, (.refl _)⟩, rfl, trivial⟩, ⟨⟨_, rfl, (.refl _)⟩, rfl, rfl, ⟨⟨_, rfl, (.refl _)⟩, rfl, rfl, trivial⟩⟩⟩ (doneA (.inr rfl) rfl ⟨trivial, trivial⟩ (.refl _) (hasCons rfl (hasCons rfl hasNil))))
def L224_0a (N : Nat → Nat) : ACode :=
 (.region false [⟨(some 6), .mv (.t 11), none, []⟩])
def L224_0b (N : Nat → Nat) : ACode :=
 (.block 1 (.region true [⟨(some 13), .load (.t 5) 1 false, none, []⟩,
   ⟨(some 14), .mv (.t 6), none, []⟩,
   ⟨(some 15), .load (.t 2) 1 false, none, []⟩,
   ⟨(some 16), .load (.t 3) 1 false, none, []⟩,
   ⟨(some 17), .bin .sub (.t 16) (.k (.d (.int .i64 1))), none, [3]⟩,
   ⟨(some 18), .mv (.t 6), none, []⟩,
   ⟨(some 19), .bin .sub (.t 17) (.t 18), none, [4, 5]⟩,
   ⟨(some 20), .bin .mul (.k (.d (.int .i64 8))) (.t 19), none, [6]⟩,
   ⟨(some 21), .bin .shr (.t 15) (.t 20), none, [2, 7]⟩,
   ⟨(some 22), .cvi .u8 (.t 21), none, [8]⟩,
   ⟨(some 23), .iaddr (.t 13) (.t 14) 1, none, [0, 1, 2, 3, 4, 5, 6, 7, 8, 9]⟩,
   ⟨none, .store (.t 23) (.t 22) 1, none, [10, 9, 0, 1, 2, 3, 4, 5, 6, 7, 8]⟩]))
/-- courant/frame.number -/
def C224 (N : Nat → Nat) : AFunc := { n := 25, params := 2, res := [.tmp 4], body :=
 (.seq (.region false [⟨(some 2), .box (.t 0), none, []⟩,
   ⟨(some 3), .box (.t 1), none, []⟩,
   ⟨(some 4), .mv (.k .nils), none, []⟩])
  (.seq (.region false [⟨(some 7), .load (.t 3) 1 false, none, []⟩,
    ⟨(some 8), .mksl (.t 7) (.t 7) 1 1 [(.int .u8 0)], none, [0]⟩,
    ⟨(some 5), .alloc [(.sl [])], none, []⟩,
    ⟨none, .store (.t 5) (.t 8) 1, none, [2, 1, 0]⟩])
   (.seq (.seq (.region false [⟨(some 9), .load (.t 5) 1 false, none, []⟩,
      ⟨(some 10), .call (.k (.d (.fn (N 225)))) [(.t 9)], none, [0]⟩])
     (.block 0 (.rangeFunc (.t 10) [11, 12] (L224_0a N) (L224_0b N))))
    (.seq (.region false [⟨(some 24), .load (.t 5) 1 false, none, []⟩,
      ⟨(some 4), .mv (.t 24), none, [0]⟩])
     .ret)))) }
def HCb224_21 (P : Program) (N : Nat → Nat) : Prop := True
def b224_21 (k : Nat) (a0 : Int) (a1 : Int) (a2 : (List UInt8)) (a3 : Nat) (a4 : Nat) (a5 : Int) (a6 : UInt8) : Option Unit := gd (0 ≤ (IntKind.i64.wrap ((8 : Int) * (IntKind.i64.wrap ((IntKind.i64.wrap (a1 - (1 : Int))) - a5))))) (gd (0 ≤ a5 ∧ a5 < ((a3 : Nat) : Int)) (gd ((a5).toNat < a2.length) (some ())))
theorem B224_21 {P : Program} {N : Nat → Nat} (hmix : P.follows .mixedOrders = true) (hc : HCb224_21 P N) {asg0 bd0 : Code} (ha0 : compCode P asg0 = L224_0a N) (hb0 : compCode P bd0 = L224_0b N) {k : Nat} {a0 : Int} {a1 : Int} {a2 : (List UInt8)} {a3 : Nat} {a4 : Nat} {a5 : Int} {a6 : UInt8} {r : Unit} (h : b224_21 k a0 a1 a2 a3 a4 a5 a6 = some r) :
    ARound P 0 [(.d (.int .i64 a5)), (.d (.int .u8 ((a6.toNat : Nat) : Int)))] [(0, (.lp 25 [(2, (.ptr 1 0)), (3, (.ptr 2 0)), (5, (.ptr 3 0))] [11, 12] asg0 bd0 .ready none)), (1, (.cells [(.d (.int .u64 a0))])), (2, (.cells [(.d (.int .i64 a1))])), (3, (.cells [(.sl 4 0 a3 a4 1)])), (4, (cellsO byteD a2))] (.d (.bool true)) [(0, (.lp 25 [(2, (.ptr 1 0)), (3, (.ptr 2 0)), (5, (.ptr 3 0))] [11, 12] asg0 bd0 .ready none)), (1, (.cells [(.d (.int .u64 a0))])), (2, (.cells [(.d (.int .i64 a1))])), (3, (.cells [(.sl 4 0 a3 a4 1)])), (4, (cellsO byteD (List.set a2 (a5).toNat (u8 (IntKind.u8.wrap (Int.fdiv a0 (2 ^ (min ((IntKind.i64.wrap ((8 : Int) * (IntKind.i64.wrap ((IntKind.i64.wrap (a1 - (1 : Int))) - a5))))).toNat IntKind.u64.bits))))))))] := by
  refine around_gen 5 5 ha0 hb0 rfl rfl (fun ro => ?_)
  unfold b224_21 at h
  dsimp only [L224_0a, L224_0b, putArgs]
  refine AWc.rg hmix rfl rfl ?_
  refine RegV.p0 rfl rfl rfl ?_
  refine RegV.nil0 ?_
  refine asgDone rfl rfl ?_
  refine AWc.block ?_
  refine AWc.rg hmix rfl rfl ?_
  refine RegV.ld (v := (.sl 4 0 a3 a4 1)) (H' := [(3, (.cells [(.sl 4 0 a3 a4 1)])), (0, (.lp 25 [(2, (.ptr 1 0)), (3, (.ptr 2 0)), (5, (.ptr 3 0))] [11, 12] asg0 bd0 .busy none)), (1, (.cells [(.d (.int .u64 a0))])), (2, (.cells [(.d (.int .i64 a1))])), (4, (cellsO byteD a2))]) rfl rfl trivial rfl rfl rfl rfl rfl ?_
  refine RegV.p0 rfl rfl rfl ?_
  refine RegV.ld (v := (.d (.int .u64 a0))) (H' := [(1, (.cells [(.d (.int .u64 a0))])), (3, (.cells [(.sl 4 0 a3 a4 1)])), (0, (.lp 25 [(2, (.ptr 1 0)), (3, (.ptr 2 0)), (5, (.ptr 3 0))] [11, 12] asg0 bd0 .busy none)), (2, (.cells [(.d (.int .i64 a1))])), (4, (cellsO byteD a2))]) rfl rfl trivial rfl rfl rfl rfl rfl ?_
  refine RegV.ld (v := (.d (.int .i64 a1))) (H' := [(2, (.cells [(.d (.int .i64 a1))])), (1, (.cells [(.d (.int .u64 a0))])), (3, (.cells [(.sl 4 0 a3 a4 1)])), (0, (.lp 25 [(2, (.ptr 1 0)), (3, (.ptr 2 0)), (5, (.ptr 3 0))] [11, 12] asg0 bd0 .busy none)), (4, (cellsO byteD a2))]) rfl rfl trivial rfl rfl rfl rfl rfl ?_
  refine RegV.p0 (v := (.d (.int .i64 (IntKind.i64.wrap (a1 - (1 : Int)))))) rfl rfl rfl ?_
  refine RegV.p0 rfl rfl rfl ?_
  refine RegV.p0 (v := (.d (.int .i64 (IntKind.i64.wrap ((IntKind.i64.wrap (a1 - (1 : Int))) - a5))))) rfl rfl rfl ?_
  refine RegV.p0 (v := (.d (.int .i64 (IntKind.i64.wrap ((8 : Int) * (IntKind.i64.wrap ((IntKind.i64.wrap (a1 - (1 : Int))) - a5))))))) rfl rfl rfl ?_
  obtain ⟨b37, h⟩ := gd_some h
  refine RegV.p1 (v := (.d (.int .u64 (Int.fdiv a0 (2 ^ (min ((IntKind.i64.wrap ((8 : Int) * (IntKind.i64.wrap ((IntKind.i64.wrap (a1 - (1 : Int))) - a5))))).toNat IntKind.u64.bits)))))) rfl rfl b37 rfl rfl ?_
  refine RegV.p0 (v := (.d (.int .u8 (IntKind.u8.wrap (Int.fdiv a0 (2 ^ (min ((IntKind.i64.wrap ((8 : Int) * (IntKind.i64.wrap ((IntKind.i64.wrap (a1 - (1 : Int))) - a5))))).toNat IntKind.u64.bits))))))) rfl rfl rfl ?_
  obtain ⟨b39, h⟩ := gd_some h
  refine RegV.iaS0 (z := 1) rfl rfl rfl b39 rfl ?_
  obtain ⟨b40, h⟩ := gd_some h
  refine RegV.stS (e := byteD) (xs := a2) (i := (a5).toNat) (v := (u8 (IntKind.u8.wrap (Int.fdiv a0 (2 ^ (min ((IntKind.i64.wrap ((8 : Int) * (IntKind.i64.wrap ((IntKind.i64.wrap (a1 - (1 : Int))) - a5))))).toNat IntKind.u64.bits)))))) (H' := [(4, (cellsO byteD (List.set a2 (a5).toNat (u8 (IntKind.u8.wrap (Int.fdiv a0 (2 ^ (min ((IntKind.i64.wrap ((8 : Int) * (IntKind.i64.wrap ((IntKind.i64.wrap (a1 - (1 : Int))) - a5))))).toNat IntKind.u64.bits)))))))), (2, (.cells [(.d (.int .i64 a1))])), (1, (.cells [(.d (.int .u64 a0))])), (3, (.cells [(.sl 4 0 a3 a4 1)])), (0, (.lp 25 [(2, (.ptr 1 0)), (3, (.ptr 2 0)), (5, (.ptr 3 0))] [11, 12] asg0 bd0 .busy none))]) rfl rfl rfl (cellsU8 (u8_wrap _)) byteD_ok rfl b40 rfl rfl rfl ?_
  refine RegV.nil1 (by kernel_rfl) ?_
  have hr := Option.some.inj h
  subst hr
  exact (canQ (N := 25) (k := 5) (l' := []) (H' := [(0, (.lp 25 [(2, (.ptr 1 0)), (3, (.ptr 2 0)), (5, (.ptr 3 0))] [11, 12] asg0 bd0 .busy none)), (1, (.cells [(.d (.int .u64 a0))])), (2, (.cells [(.d (.int .i64 a1))])), (3, (.cells [(.sl 4 0 a3 a4 1)])), (4, (cellsO byteD (List.set a2 (a5).toNat (u8 (IntKind.u8.wrap (Int.fdiv a0 (2 ^ (min ((IntKind.i64.wrap ((8 : Int) * (IntKind.i64.wrap ((IntKind.i64.wrap (a1 - (1 : Int))) - a5))))).toNat IntKind.u64.bits))))))))]) rfl ⟨rfl, [], [], rfl, rfl,  trivial, ⟨⟨_, rfl, (.refl _)⟩, rfl, rfl, ⟨⟨_, rfl, (.refl _)⟩, rfl, rfl, ⟨⟨_, rfl, (.refl _)⟩, rfl, rfl, ⟨⟨_, rfl, (.refl _)⟩, rfl, rfl, ⟨⟨_, rfl, (.refl _)⟩, rfl, rfl, trivial⟩⟩⟩⟩⟩⟩ (roundD rfl rfl rfl rfl (hasCons rfl (hasCons rfl (hasCons rfl (hasCons rfl (hasCons rfl hasNil)))))))
/-- slices.All[[]byte,byte]$1 -/
def C226 (N : Nat → Nat) : AFunc := { n := 18, params := 2, res := [], body :=
 (.seq (.region false [⟨(some 5), .load (.t 1) 1 false, none, []⟩,
   ⟨(some 6), .len (.t 5), none, [0]⟩,
   ⟨(some 7), .mv (.k (.d (.int .i64 0))), none, []⟩])
  (.block 0 (.loop (.seq (.region false [⟨(some 8), .bin .lss (.t 7) (.t 6), none, []⟩])
     (.seq (.cond (.t 8) (.skip)
       (.exit 0))
      (.seq (.block 1 (.seq (.region false [⟨(some 9), .mv (.t 7), none, []⟩,
          ⟨(some 10), .iaddr (.t 5) (.t 7) 1, none, []⟩,
          ⟨(some 11), .load (.t 10) 1 false, none, [1]⟩,
          ⟨(some 3), .mv (.t 9), none, [0, 1, 2]⟩,
          ⟨(some 4), .mv (.t 11), none, [2, 3, 0, 1]⟩])
         (.seq (.region false [⟨(some 12), .mv (.t 0), none, []⟩,
           ⟨(some 13), .mv (.t 3), none, []⟩,
           ⟨(some 14), .mv (.t 4), none, []⟩,
           ⟨(some 15), .call (.t 12) [(.t 13), (.t 14)], none, [0, 1, 2]⟩,
           ⟨(some 16), .un .not (.t 15), none, [3]⟩])
          (.cond (.t 16) .ret
           (.skip)))))
       (.region false [⟨(some 17), .bin .add (.t 7) (.k (.d (.int .i64 1))), none, []⟩,
        ⟨(some 7), .mv (.t 17), none, [0]⟩]))))))) }
def HC226 (P : Program) (N : Nat → Nat) : Prop := HasF P (N 226) (C226 N) ∧ HCb224_21 P N
def f226_l7 (a5 : Nat) (a0 : Int) (a1 : Int) (a3 : Nat) (a4 : Nat) : Nat → Int → (List UInt8) → Option (LR2 (List UInt8) Unit (List UInt8))
  | 0, _, _ => none
  | k + 1, y7_1, y7_2 => cond (decide (y7_1 < ((a5 : Nat) : Int))) (gd (0 ≤ y7_1 ∧ y7_1 < ((a5 : Nat) : Int)) (gd ((y7_1).toNat < y7_2.length) ((b224_21 k a0 a1 y7_2 a3 a4 y7_1 (List.getD y7_2 (y7_1).toNat default)).bind fun r33 => f226_l7 a5 a0 a1 a3 a4 k (IntKind.i64.wrap (y7_1 + (1 : Int))) (List.set y7_2 (y7_1).toNat (u8 (IntKind.u8.wrap (Int.fdiv a0 (2 ^ (min ((IntKind.i64.wrap ((8 : Int) * (IntKind.i64.wrap ((IntKind.i64.wrap (a1 - (1 : Int))) - y7_1))))).toNat IntKind.u64.bits))))))))) (some (.b0 y7_2))
def f226 (k : Nat) (a0 : Int) (a1 : Int) (a2 : (List UInt8)) (a3 : Nat) (a4 : Nat) (a5 : Nat) (a6 : Nat) : Option (List UInt8) := (f226_l7 a5 a0 a1 a3 a4 k (0 : Int) a2).bind fun o7 => match o7 with | .b0 x7_1 => some x7_1 | _ => none
theorem F226 {P : Program} {N : Nat → Nat} (hmix : P.follows .mixedOrders = true) (hc : HC226 P N) {asg0 bd0 : Code} (ha0 : compCode P asg0 = L224_0a N) (hb0 : compCode P bd0 = L224_0b N) {k : Nat} {a0 : Int} {a1 : Int} {a2 : (List UInt8)} {a3 : Nat} {a4 : Nat} {a5 : Nat} {a6 : Nat} {r : (List UInt8)} (h : f226 k a0 a1 a2 a3 a4 a5 a6 = some r) :
    ACalls P (N 226) [(.lf 0), (.ptr 5 0)] [(0, (.lp 25 [(2, (.ptr 1 0)), (3, (.ptr 2 0)), (5, (.ptr 3 0))] [11, 12] asg0 bd0 .ready none)), (1, (.cells [(.d (.int .u64 a0))])), (2, (.cells [(.d (.int .i64 a1))])), (3, (.cells [(.sl 4 0 a3 a4 1)])), (4, (cellsO byteD a2)), (5, (.cells [(.sl 4 0 a5 a6 1)]))] (.tup []) [(0, (.lp 25 [(2, (.ptr 1 0)), (3, (.ptr 2 0)), (5, (.ptr 3 0))] [11, 12] asg0 bd0 .ready none)), (1, (.cells [(.d (.int .u64 a0))])), (2, (.cells [(.d (.int .i64 a1))])), (3, (.cells [(.sl 4 0 a3 a4 1)])), (4, (cellsO byteD r)), (5, (.cells [(.sl 4 0 a5 a6 1)]))] := by
  refine acalls_canon (F := C226 N) hc.1 6 6 rfl ?_
  unfold f226 at h
  dsimp only [C226, startL]
  refine AWc.seq ?_
  refine AWc.rg hmix rfl rfl ?_
  refine RegV.ld (v := (.sl 4 0 a5 a6 1)) (H' := [(5, (.cells [(.sl 4 0 a5 a6 1)])), (0, (.lp 25 [(2, (.ptr 1 0)), (3, (.ptr 2 0)), (5, (.ptr 3 0))] [11, 12] asg0 bd0 .ready none)), (1, (.cells [(.d (.int .u64 a0))])), (2, (.cells [(.d (.int .i64 a1))])), (3, (.cells [(.sl 4 0 a3 a4 1)])), (4, (cellsO byteD a2))]) rfl rfl trivial rfl rfl rfl rfl rfl ?_
  refine RegV.p0 (v := (.d (.int .i64 ((a5 : Nat) : Int)))) rfl rfl rfl ?_
  refine RegV.p0 rfl rfl rfl ?_
  refine RegV.nil0 ?_
  obtain ⟨o7, h7, h⟩ := bind_some h
  refine AWc.block ?_
  refine AWc.loopK (N := 18) 6 (fun (x : (Int × (List UInt8))) => [(0, (.lf 0)), (5, (.sl 4 0 a5 a6 1)), (6, (.d (.int .i64 ((a5 : Nat) : Int)))), (7, (.d (.int .i64 x.1)))]) (fun x => [(0, (.lp 25 [(2, (.ptr 1 0)), (3, (.ptr 2 0)), (5, (.ptr 3 0))] [11, 12] asg0 bd0 .ready none)), (4, (cellsO byteD x.2)), (1, (.cells [(.d (.int .u64 a0))])), (2, (.cells [(.d (.int .i64 a1))])), (3, (.cells [(.sl 4 0 a3 a4 1)])), (5, (.cells [(.sl 4 0 a5 a6 1)]))]) (fun k x => f226_l7 a5 a0 a1 a3 a4 k x.1 x.2 = some o7) k ((0 : Int), a2) rfl_le (fun x hx => by cases hx) h7 ⟨rfl, [], [], rfl, rfl, ⟨⟨_, rfl, (.refl _)⟩, rfl, ⟨⟨_, rfl, (.refl _)⟩, rfl, ⟨⟨_, rfl, (.refl _)⟩, rfl, ⟨⟨_, rfl, (.refl _)⟩, rfl, trivial⟩⟩⟩⟩, ⟨⟨_, rfl, (.refl _)⟩, rfl, rfl, ⟨⟨_, rfl, (.refl _)⟩, rfl, rfl, ⟨⟨_, rfl, (.refl _)⟩, rfl, rfl, ⟨⟨_, rfl, (.refl _)⟩, rfl, rfl, ⟨⟨_, rfl, (.refl _)⟩, rfl, rfl, ⟨⟨_, rfl, (.refl _)⟩, rfl, rfl, trivial⟩⟩⟩⟩⟩⟩⟩ ?_
  clear h7
  intro k
  rintro ⟨y7_1, y7_2⟩ h7
  dsimp only at h7 ⊢
  rw [f226_l7] at h7
  refine AWc.seq ?_
  refine AWc.rg hmix rfl rfl ?_
  refine RegV.p0 (v := (.d (.bool (decide (y7_1 < ((a5 : Nat) : Int)))))) rfl rfl rfl ?_
  refine RegV.nil0 ?_
  refine AWc.seq ?_
  refine AWc.cond rfl (fun c14 => ?_) (fun c14 => ?_)
  · have h7 := cond_pos c14 h7
    refine AWc.skip ?_
    refine AWc.seq ?_
    refine AWc.block ?_
    refine AWc.seq ?_
    refine AWc.rg hmix rfl rfl ?_
    refine RegV.p0 rfl rfl rfl ?_
    obtain ⟨b23, h7⟩ := gd_some h7
    refine RegV.iaS0 (z := 1) rfl rfl rfl b23 rfl ?_
    obtain ⟨b24, h7⟩ := gd_some h7
    refine RegV.ldS (e := byteD) (xs := y7_2) (i := (y7_1).toNat) (H' := [(4, (cellsO byteD y7_2)), (0, (.lp 25 [(2, (.ptr 1 0)), (3, (.ptr 2 0)), (5, (.ptr 3 0))] [11, 12] asg0 bd0 .ready none)), (1, (.cells [(.d (.int .u64 a0))])), (2, (.cells [(.d (.int .i64 a1))])), (3, (.cells [(.sl 4 0 a3 a4 1)])), (5, (.cells [(.sl 4 0 a5 a6 1)]))]) rfl rfl byteD_ok rfl b24 rfl rfl rfl rfl ?_
    refine RegV.p0 rfl rfl rfl ?_
    refine RegV.p0 rfl rfl rfl ?_
    refine RegV.nil0 ?_
    refine AWc.seq ?_
    refine AWc.rg hmix rfl rfl ?_
    refine RegV.p0 rfl rfl rfl ?_
    refine RegV.p0 rfl rfl rfl ?_
    refine RegV.p0 rfl rfl rfl ?_
    obtain ⟨r33, e33, h7⟩ := bind_some h7
    refine RegV.yield (H' := [(0, (.lp 25 [(2, (.ptr 1 0)), (3, (.ptr 2 0)), (5, (.ptr 3 0))] [11, 12] asg0 bd0 .ready none)), (1, (.cells [(.d (.int .u64 a0))])), (2, (.cells [(.d (.int .i64 a1))])), (3, (.cells [(.sl 4 0 a3 a4 1)])), (4, (cellsO byteD (List.set y7_2 (y7_1).toNat (u8 (IntKind.u8.wrap (Int.fdiv a0 (2 ^ (min ((IntKind.i64.wrap ((8 : Int) * (IntKind.i64.wrap ((IntKind.i64.wrap (a1 - (1 : Int))) - y7_1))))).toNat IntKind.u64.bits)))))))), (5, (.cells [(.sl 4 0 a5 a6 1)]))]) (c' := 6) (show ARound P 0 [(.d (.int .i64 y7_1)), (.d (.int .u8 (((List.getD y7_2 (y7_1).toNat default).toNat : Nat) : Int)))] [(0, (.lp 25 [(2, (.ptr 1 0)), (3, (.ptr 2 0)), (5, (.ptr 3 0))] [11, 12] asg0 bd0 .ready none)), (1, (.cells [(.d (.int .u64 a0))])), (2, (.cells [(.d (.int .i64 a1))])), (3, (.cells [(.sl 4 0 a3 a4 1)])), (4, (cellsO byteD y7_2))] (.d (.bool true)) [(0, (.lp 25 [(2, (.ptr 1 0)), (3, (.ptr 2 0)), (5, (.ptr 3 0))] [11, 12] asg0 bd0 .ready none)), (1, (.cells [(.d (.int .u64 a0))])), (2, (.cells [(.d (.int .i64 a1))])), (3, (.cells [(.sl 4 0 a3 a4 1)])), (4, (cellsO byteD (List.set y7_2 (y7_1).toNat (u8 (IntKind.u8.wrap (Int.fdiv a0 (2 ^ (min ((IntKind.i64.wrap ((8 : Int) * (IntKind.i64.wrap ((IntKind.i64.wrap (a1 - (1 : Int))) - y7_1))))).toNat IntKind.u64.bits))))))))] from ARound.use (B224_21 hmix hc.2 ha0 hb0 e33) [(0, 0), (1, 1), (2, 2), (3, 3), (4, 4)] 5 rfl) rfl rfl rfl (.cons (.refl _) (.cons (.refl _) .nil)) rfl (hasCons rfl (hasCons rfl (hasCons rfl (hasCons rfl (hasCons rfl hasNil))))) rfl rfl rfl rfl ?_
    refine RegV.p0 (v := (.d (.bool false))) rfl rfl rfl ?_
    refine RegV.nil0 ?_
    refine AWc.cond rfl (fun hc => by cases hc) (fun _ => ?_)
    refine AWc.skip ?_
    refine AWc.rg hmix rfl rfl ?_
    refine RegV.p0 (v := (.d (.int .i64 (IntKind.i64.wrap (y7_1 + (1 : Int)))))) rfl rfl rfl ?_
    refine RegV.p0 rfl rfl rfl ?_
    refine RegV.nil0 ?_
    exact ⟨((IntKind.i64.wrap (y7_1 + (1 : Int))), (List.set y7_2 (y7_1).toNat (u8 (IntKind.u8.wrap (Int.fdiv a0 (2 ^ (min ((IntKind.i64.wrap ((8 : Int) * (IntKind.i64.wrap ((IntKind.i64.wrap (a1 - (1 : Int))) - y7_1))))).toNat IntKind.u64.bits))))))), h7, ⟨rfl, [], [], rfl, rfl, ⟨⟨_, rfl, (.refl _)⟩, rfl, ⟨⟨_, rfl, (.refl _)⟩, rfl, ⟨⟨_, rfl, (.refl _)⟩, rfl, ⟨⟨_, rfl, (.refl _)⟩, rfl, trivial⟩⟩⟩⟩, ⟨⟨_, rfl, (.refl _)⟩, rfl, rfl, ⟨⟨_, rfl, (.refl _)⟩, rfl, rfl, ⟨⟨_, rfl, (.refl _)⟩, rfl, rfl, ⟨⟨_, rfl, (.refl _)⟩, rfl, rfl, ⟨⟨_, rfl, (.refl _)⟩, rfl, rfl, ⟨⟨_, rfl, (.refl _)⟩, rfl, rfl, trivial⟩⟩⟩⟩⟩⟩⟩⟩
  · have h7 := cond_neg c14 h7
    cases h7
    dsimp only at h
    refine AWc.exit ?_
    refine inBlk_eq ?_
    have hr := Option.some.inj h
    subst hr
    exact canQ (N := 18) (k := 6) (l' := []) (H' := [(0, (.lp 25 [(2, (.ptr 1 0)), (3, (.ptr 2 0)), (5, (.ptr 3 0))] [11, 12] asg0 bd0 .ready none)), (1, (.cells [(.d (.int .u64 a0))])), (2, (.cells [(.d (.int .i64 a1))])), (3, (.cells [(.sl 4 0 a3 a4 1)])), (4, (cellsO byteD y7_2)), (5, (.cells [(.sl 4 0 a5 a6 1)]))]) rfl ⟨rfl, [], [], rfl, rfl,  trivial, ⟨⟨_, rfl, (.refl _)⟩, rfl, rfl, ⟨⟨_, rfl, (.refl _)⟩, rfl, rfl, ⟨⟨_, rfl, (.refl _)⟩, rfl, rfl, ⟨⟨_, rfl, (.refl _)⟩, rfl, rfl, ⟨⟨_, rfl, (.refl _)⟩, rfl, rfl, ⟨⟨_, rfl, (.refl _)⟩, rfl, rfl, trivial⟩⟩⟩⟩⟩⟩⟩ (doneA (.inl rfl) rfl trivial (.refl _) (hasCons rfl (hasCons rfl (hasCons rfl (hasCons rfl (hasCons rfl (hasCons rfl hasNil)))))))
def HC224 (P : Program) (N : Nat → Nat) : Prop := HasF P (N 224) (C224 N) ∧ HC225 P N ∧ HC226 P N
def f224 (k : Nat) (a0 : Int) (a1 : Int) : Option (List UInt8) := gd (0 ≤ a1 ∧ a1 ≤ a1 ∧ a1 * 1 ≤ 281474976710656) ((f225 k (List.replicate (a1).toNat (default : UInt8)) ((a1).toNat) ((a1).toNat)).bind fun r19 => (f226 k a0 a1 (List.replicate (a1).toNat (default : UInt8)) ((a1).toNat) ((a1).toNat) ((a1).toNat) ((a1).toNat)).bind fun rf21 => gd (((a1).toNat) = rf21.length) (some rf21))
theorem F224 {P : Program} {N : Nat → Nat} (hmix : P.follows .mixedOrders = true) (hc : HC224 P N) {k : Nat} {a0 : Int} {a1 : Int} {r : (List UInt8)} (h : f224 k a0 a1 = some r) :
    ACalls P (N 224) [(.d (.int .u64 a0)), (.d (.int .i64 a1))] [] (.d (.sl (List.map byteD r))) [] := by
  refine acalls_canon (F := C224 N) hc.1 0 0 rfl ?_
  unfold f224 at h
  dsimp only [C224, startL]
  refine AWc.seq ?_
  refine AWc.rg hmix rfl rfl ?_
  refine RegV.evS (own := false) (v := (.ptr 0 0)) (H' := [(0, (.cells [(.d (.int .u64 a0))]))]) (c' := 1) rfl rfl trivial rfl rfl rfl rfl rfl rfl ?_
  refine RegV.evS (own := false) (v := (.ptr 1 0)) (H' := [(1, (.cells [(.d (.int .i64 a1))])), (0, (.cells [(.d (.int .u64 a0))]))]) (c' := 2) rfl rfl trivial rfl rfl rfl rfl rfl rfl ?_
  refine RegV.p0 rfl rfl rfl ?_
  refine RegV.nil0 ?_
  refine AWc.seq ?_
  refine AWc.rg hmix rfl rfl ?_
  refine RegV.ld (v := (.d (.int .i64 a1))) (H' := [(1, (.cells [(.d (.int .i64 a1))])), (0, (.cells [(.d (.int .u64 a0))]))]) rfl rfl trivial rfl rfl rfl rfl rfl ?_
  obtain ⟨b11, h⟩ := gd_some h
  refine RegV.mkS (e := byteD) (a0 := default) rfl rfl rfl byteD_ok rfl rfl b11 rfl rfl ?_
  refine RegV.evS (own := false) (v := (.ptr 3 0)) (H' := [(3, (.cells [.nils])), (2, (cellsO byteD (List.replicate (a1).toNat (default : UInt8)))), (1, (.cells [(.d (.int .i64 a1))])), (0, (.cells [(.d (.int .u64 a0))]))]) (c' := 4) rfl rfl trivial rfl rfl rfl rfl rfl rfl ?_
  refine RegV.evN (own := false) (H' := [(3, (.cells [(.sl 2 0 ((a1).toNat) ((a1).toNat) 1)])), (2, (cellsO byteD (List.replicate (a1).toNat (default : UInt8)))), (1, (.cells [(.d (.int .i64 a1))])), (0, (.cells [(.d (.int .u64 a0))]))]) (c' := 4) rfl rfl (by exact ⟨rfl, Nat.le_of_ble_eq_true rfl, rfl⟩) rfl rfl rfl rfl ?_
  refine RegV.nil0 ?_
  refine AWc.seq ?_
  refine AWc.seq ?_
  refine AWc.rg hmix rfl rfl ?_
  refine RegV.ld (v := (.sl 2 0 ((a1).toNat) ((a1).toNat) 1)) (H' := [(3, (.cells [(.sl 2 0 ((a1).toNat) ((a1).toNat) 1)])), (2, (cellsO byteD (List.replicate (a1).toNat (default : UInt8)))), (1, (.cells [(.d (.int .i64 a1))])), (0, (.cells [(.d (.int .u64 a0))]))]) rfl rfl trivial rfl rfl rfl rfl rfl ?_
  obtain ⟨r19, e19, h⟩ := bind_some h
  refine RegV.callS (q := false) (H' := [(4, (.cells [(.sl 2 0 ((a1).toNat) ((a1).toNat) 1)])), (2, (cellsO byteD (List.replicate (a1).toNat (default : UInt8)))), (3, (.cells [(.sl 2 0 ((a1).toNat) ((a1).toNat) 1)])), (1, (.cells [(.d (.int .i64 a1))])), (0, (.cells [(.d (.int .u64 a0))]))]) (c' := 5) (show ACalls P (N 225) [(.sl 2 0 ((a1).toNat) ((a1).toNat) 1)] [(2, (cellsO byteD (List.replicate (a1).toNat (default : UInt8))))] (.fn (N 226) [(.ptr 4 0)]) [(4, (.cells [(.sl 2 0 ((a1).toNat) ((a1).toNat) 1)])), (2, (cellsO byteD (List.replicate (a1).toNat (default : UInt8))))] from ACalls.use (F225 hmix hc.2.1 e19) [(0, 2), (1, 4)] 2 rfl) rfl rfl rfl rfl (.cons (.refl _) .nil) (.refl _) (fun h => by cases h) rfl (hasCons rfl hasNil) rfl rfl rfl rfl ?_
  refine RegV.nil0 ?_
  refine AWc.block ?_
  refine AWc.rangeFunc [(2, (.ptr 0 0)), (3, (.ptr 1 0)), (5, (.ptr 3 0))] rfl rfl rfl rfl ⟨rfl, rfl, rfl, trivial⟩ (fun asgU21 bdU21 haU21 hbU21 => ?_)
  obtain ⟨rf21, ef21, h⟩ := bind_some h
  refine rfN (H' := [(0, (.cells [(.d (.int .u64 a0))])), (1, (.cells [(.d (.int .i64 a1))])), (3, (.cells [(.sl 2 0 ((a1).toNat) ((a1).toNat) 1)])), (2, (cellsO byteD rf21)), (4, (.cells [(.sl 2 0 ((a1).toNat) ((a1).toNat) 1)]))]) (c' := 6) (show ACalls P (N 226) [(.lf 5), (.ptr 4 0)] [(5, (.lp 25 [(2, (.ptr 0 0)), (3, (.ptr 1 0)), (5, (.ptr 3 0))] [11, 12] asgU21 bdU21 .ready none)), (0, (.cells [(.d (.int .u64 a0))])), (1, (.cells [(.d (.int .i64 a1))])), (3, (.cells [(.sl 2 0 ((a1).toNat) ((a1).toNat) 1)])), (2, (cellsO byteD (List.replicate (a1).toNat (default : UInt8)))), (4, (.cells [(.sl 2 0 ((a1).toNat) ((a1).toNat) 1)]))] (.tup []) [(5, (.lp 25 [(2, (.ptr 0 0)), (3, (.ptr 1 0)), (5, (.ptr 3 0))] [11, 12] asgU21 bdU21 .ready none)), (0, (.cells [(.d (.int .u64 a0))])), (1, (.cells [(.d (.int .i64 a1))])), (3, (.cells [(.sl 2 0 ((a1).toNat) ((a1).toNat) 1)])), (2, (cellsO byteD rf21)), (4, (.cells [(.sl 2 0 ((a1).toNat) ((a1).toNat) 1)]))] from ACalls.use (F226 hmix hc.2.2 haU21 hbU21 ef21) [(0, 5), (1, 0), (2, 1), (3, 3), (4, 2), (5, 4)] 6 rfl) (.cons (.refl _) (.cons (.refl _) .nil)) (hasCons rfl (hasCons rfl (hasCons rfl (hasCons rfl (hasCons rfl (hasCons rfl hasNil)))))) rfl rfl rfl rfl rfl ?_
  refine AWc.seq ?_
  refine AWc.rg hmix rfl rfl ?_
  refine RegV.ld (v := (.sl 2 0 ((a1).toNat) ((a1).toNat) 1)) (H' := [(3, (.cells [(.sl 2 0 ((a1).toNat) ((a1).toNat) 1)])), (0, (.cells [(.d (.int .u64 a0))])), (1, (.cells [(.d (.int .i64 a1))])), (2, (cellsO byteD rf21)), (4, (.cells [(.sl 2 0 ((a1).toNat) ((a1).toNat) 1)]))]) rfl rfl trivial rfl rfl rfl rfl rfl ?_
  refine RegV.p0 rfl rfl rfl ?_
  refine RegV.nil0 ?_
  obtain ⟨bs2, h⟩ := gd_some h
  refine AWc.seal (l0 := 2) (xs := rf21) (l' := [(4, (.d (.sl (List.map byteD rf21))))]) (H' := [(3, (.cells [(.sl 2 0 ((a1).toNat) ((a1).toNat) 1)])), (0, (.cells [(.d (.int .u64 a0))])), (1, (.cells [(.d (.int .i64 a1))])), (2, (.tok (rf21.length * 1))), (4, (.cells [(.sl 2 0 ((a1).toNat) ((a1).toNat) 1)]))]) byteD_ok rfl ⟨⟨_, rfl, .all ⟨bs2, Nat.le_refl _⟩⟩, trivial⟩ rfl ?_
  have hr := Option.some.inj h
  subst hr
  exact AWc.ret (canQ (N := 25) (k := 0) (l' := [(4, (.d (.sl (List.map byteD rf21))))]) (H' := []) rfl ⟨rfl, [], [], rfl, rfl, ⟨⟨_, rfl, (.refl _)⟩, rfl, trivial⟩,  trivial⟩ (doneA (.inr rfl) rfl ⟨trivial, trivial⟩ (.refl _) hasNil))
/-- slices.Grow[[]byte,byte] -/
def C111 (N : Nat → Nat) : AFunc := { n := 27, params := 2, res := [.tmp 4], body :=
 (.seq (.region false [⟨(some 4), .mv (.k .nils), none, []⟩])
  (.seq (.seq (.region false [⟨(some 5), .mv (.t 1), none, []⟩,
     ⟨(some 6), .bin .lss (.t 5) (.k (.d (.int .i64 0))), none, [0]⟩])
    (.cond (.t 6) (.region false [⟨(some 7), .bad, none, []⟩,
      ⟨none, .bad, none, [0]⟩])
     (.skip)))
   (.seq (.seq (.region false [⟨(some 8), .mv (.t 1), none, []⟩,
      ⟨(some 9), .mv (.t 0), none, []⟩,
      ⟨(some 10), .cap (.t 9), none, [1]⟩,
      ⟨(some 11), .mv (.t 0), none, []⟩,
      ⟨(some 12), .len (.t 11), none, [3]⟩,
      ⟨(some 13), .bin .sub (.t 10) (.t 12), none, [2, 4]⟩,
      ⟨(some 14), .bin .sub (.t 8) (.t 13), none, [0, 5]⟩,
      ⟨(some 1), .mv (.t 14), none, [6, 0, 1, 2, 3, 4, 5]⟩])
     (.seq (.region false [⟨(some 15), .mv (.t 1), none, []⟩,
       ⟨(some 16), .bin .gtr (.t 15) (.k (.d (.int .i64 0))), none, [0]⟩])
      (.cond (.t 16) (.region false [⟨(some 17), .mv (.t 0), none, []⟩,
        ⟨(some 18), .mv (.t 0), none, []⟩,
        ⟨(some 19), .cap (.t 18), none, [1]⟩,
        ⟨(some 20), .slc (.t 17) none (some (.t 19)) none 1, none, [0, 2]⟩,
        ⟨(some 21), .mv (.t 1), none, []⟩,
        ⟨(some 22), .grow (.t 20) (.t 21) 1 1 [(.int .u8 0)], none, [3, 4]⟩,
        ⟨(some 23), .mv (.t 0), none, []⟩,
        ⟨(some 24), .len (.t 23), none, [6]⟩,
        ⟨(some 25), .slc (.t 22) none (some (.t 24)) none 1, none, [5, 7]⟩,
        ⟨(some 0), .mv (.t 25), none, [8, 5, 0, 1, 2, 3, 4, 6, 7]⟩])
       (.skip))))
    (.seq (.region false [⟨(some 26), .mv (.t 0), none, []⟩,
      ⟨(some 4), .mv (.t 26), none, [0]⟩])
     .ret)))) }
def HC111 (P : Program) (N : Nat → Nat) : Prop := HasF P (N 111) (C111 N)
def f111 (k : Nat) (a0 : Int) : Option Unit := gd (0 ≤ a0 ∧ a0 * 1 ≤ 281474976710656) (some ())
theorem F111 {P : Program} {N : Nat → Nat} (hmix : P.follows .mixedOrders = true) (hc : HC111 P N) {k : Nat} {a0 : Int} {r : Unit} (h : f111 k a0 = some r) :
    ACalls P (N 111) [.nils, .d (.int .i64 a0)] [] (.ap 0 1 (List.map byteD ([] : List UInt8))) [(0, (.tok ((List.map byteD ([] : List UInt8)).length * 1)))] := by
  unfold f111 at h
  obtain ⟨⟨b, b'⟩, h⟩ := gd_some h
  exact grow_gen hmix hc rfl rfl rfl b b' (by omega)
/-- slices.Concat[[]byte,byte] -/
def C91 (N : Nat → Nat) : AFunc := { n := 36, params := 1, res := [.tmp 2], body :=
 (.seq (.region false [⟨(some 2), .mv (.k .nils), none, []⟩])
  (.seq (.region false [⟨(some 3), .mv (.k (.d (.int .i64 0))), none, []⟩])
   (.seq (.seq (.region false [⟨(some 9), .mv (.t 0), none, []⟩,
      ⟨(some 10), .len (.t 9), none, [0]⟩,
      ⟨(some 11), .mv (.k (.d (.int .i64 0))), none, []⟩])
     (.block 0 (.loop (.seq (.region false [⟨(some 12), .bin .lss (.t 11) (.t 10), none, []⟩])
        (.seq (.cond (.t 12) (.skip)
          (.exit 0))
         (.seq (.block 1 (.seq (.region false [⟨(some 13), .iaddr (.t 9) (.t 11) 1, none, []⟩,
             ⟨(some 14), .load (.t 13) 1 false, none, [0]⟩,
             ⟨(some 5), .mv (.t 14), none, [1, 0]⟩])
            (.seq (.region false [⟨(some 15), .mv (.t 3), none, []⟩,
              ⟨(some 16), .mv (.t 5), none, []⟩,
              ⟨(some 17), .len (.t 16), none, [1]⟩,
              ⟨(some 18), .bin .add (.t 15) (.t 17), none, [0, 2]⟩,
              ⟨(some 3), .mv (.t 18), none, [3, 0, 1, 2]⟩])
             (.seq (.region false [⟨(some 19), .mv (.t 3), none, []⟩,
               ⟨(some 20), .bin .lss (.t 19) (.k (.d (.int .i64 0))), none, [0]⟩])
              (.cond (.t 20) (.region false [⟨(some 21), .bad, none, []⟩,
                ⟨none, .bad, none, [0]⟩])
               (.skip))))))
          (.region false [⟨(some 22), .bin .add (.t 11) (.k (.d (.int .i64 1))), none, []⟩,
           ⟨(some 11), .mv (.t 22), none, [0]⟩])))))))
    (.seq (.region false [⟨(some 23), .mv (.t 3), none, []⟩,
      ⟨(some 24), .call (.k (.d (.fn (N 111)))) [(.k .nils), (.t 23)], none, [0]⟩,
      ⟨(some 6), .mv (.t 24), none, [1, 0]⟩])
     (.seq (.seq (.region false [⟨(some 25), .mv (.t 0), none, []⟩,
        ⟨(some 26), .len (.t 25), none, [0]⟩,
        ⟨(some 27), .mv (.k (.d (.int .i64 0))), none, []⟩])
       (.block 2 (.loop (.seq (.region false [⟨(some 28), .bin .lss (.t 27) (.t 26), none, []⟩])
          (.seq (.cond (.t 28) (.skip)
            (.exit 2))
           (.seq (.block 3 (.seq (.region false [⟨(some 29), .iaddr (.t 25) (.t 27) 1, none, []⟩,
               ⟨(some 30), .load (.t 29) 1 false, none, [0]⟩,
               ⟨(some 8), .mv (.t 30), none, [1, 0]⟩])
              (.region false [⟨(some 31), .mv (.t 6), none, []⟩,
               ⟨(some 32), .mv (.t 8), none, []⟩,
               ⟨(some 33), .app (.t 31) (.t 32) 1 1 [(.int .u8 0)], none, [0, 1]⟩,
               ⟨(some 6), .mv (.t 33), none, [2, 0, 1]⟩])))
            (.region false [⟨(some 34), .bin .add (.t 27) (.k (.d (.int .i64 1))), none, []⟩,
             ⟨(some 27), .mv (.t 34), none, [0]⟩])))))))
      (.seq (.region false [⟨(some 35), .mv (.t 6), none, []⟩,
        ⟨(some 2), .mv (.t 35), none, [0]⟩])
       .ret)))))) }
def HC91 (P : Program) (N : Nat → Nat) : Prop := HasF P (N 91) (C91 N) ∧ HC111 P N
def f91_l70 (a0 : (List (List UInt8))) : Nat → (List UInt8) → Int → Option (LR2 (List UInt8) Unit (List UInt8))
  | 0, _, _ => none
  | k + 1, y70_1, y70_2 => cond (decide (y70_2 < ((a0.length : Nat) : Int))) (gd (0 ≤ y70_2 ∧ y70_2 < ((a0.length : Nat) : Int)) (gd ((y70_1.length + (rd a0 y70_2).length) * 2 * 1 ≤ 281474976710656) (f91_l70 a0 k (y70_1 ++ (rd a0 y70_2)) (IntKind.i64.wrap (y70_2 + (1 : Int)))))) (some (.b0 y70_1))
def f91_j57 (k : Nat) (a0 : (List (List UInt8))) (j57_1 : Int) : Option (List UInt8) := (f111 k j57_1).bind fun r61 => (f91_l70 a0 k ([] : List UInt8) (0 : Int)).bind fun o70 => match o70 with | .b0 x70_1 => some x70_1 | _ => none
def f91_l16 (a0 : (List (List UInt8))) : Nat → Int → Int → Option (LR2 Int Unit (List UInt8))
  | 0, _, _ => none
  | k + 1, y16_1, y16_2 => cond (decide (y16_2 < ((a0.length : Nat) : Int))) (gd (0 ≤ y16_2 ∧ y16_2 < ((a0.length : Nat) : Int)) (cond (decide ((IntKind.i64.wrap (y16_1 + (((rd a0 y16_2).length : Nat) : Int))) < (0 : Int))) (none) (f91_l16 a0 k (IntKind.i64.wrap (y16_1 + (((rd a0 y16_2).length : Nat) : Int))) (IntKind.i64.wrap (y16_2 + (1 : Int)))))) (some (.b0 y16_1))
def f91 (k : Nat) (a0 : (List (List UInt8))) : Option (List UInt8) := (f91_l16 a0 k (0 : Int) (0 : Int)).bind fun o16 => match o16 with | .b0 x16_1 => f91_j57 k a0 x16_1 | _ => none
theorem F91 {P : Program} {N : Nat → Nat} (hmix : P.follows .mixedOrders = true) (hc : HC91 P N) {k : Nat} {a0 : (List (List UInt8))} {r : (List UInt8)} (h : f91 k a0 = some r) :
    ACalls P (N 91) [(.d (.sl (List.map (slE byteD) a0)))] [] (.ap 0 1 (List.map byteD r)) [(0, (.tok ((List.map byteD r).length * 1)))] := by
  refine acalls_canon (F := C91 N) hc.1 0 1 rfl ?_
  unfold f91 at h
  dsimp only [C91, startL]
  refine AWc.seq ?_
  refine AWc.rg hmix rfl rfl ?_
  refine RegV.p0 rfl rfl rfl ?_
  refine RegV.nil0 ?_
  refine AWc.seq ?_
  refine AWc.rg hmix rfl rfl ?_
  refine RegV.p0 rfl rfl rfl ?_
  refine RegV.nil0 ?_
  refine AWc.seqS (N := 36) 0 (fun (z : Int) => [(0, (.d (.sl (List.map (slE byteD) a0)))), (3, (.d (.int .i64 z)))]) (fun z => []) (fun z => f91_j57 k a0 z = some r) rfl_le ?_ ?_
  · refine AWc.seq ?_
    refine AWc.rg hmix rfl rfl ?_
    refine RegV.p0 rfl rfl rfl ?_
    refine RegV.len (xs := a0) (e := (slE byteD)) rfl rfl rfl rfl ?_
    refine RegV.p0 rfl rfl rfl ?_
    refine RegV.nil0 ?_
    obtain ⟨o16, h16, h⟩ := bind_some h
    refine AWc.block ?_
    refine AWc.loopK (N := 36) 0 (fun (x : (Int × Int)) => [(0, (.d (.sl (List.map (slE byteD) a0)))), (3, (.d (.int .i64 x.1))), (9, (.d (.sl (List.map (slE byteD) a0)))), (10, (.d (.int .i64 ((a0.length : Nat) : Int)))), (11, (.d (.int .i64 x.2)))]) (fun x => []) (fun k x => f91_l16 a0 k x.1 x.2 = some o16) k ((0 : Int), (0 : Int)) rfl_le (fun x hx => by cases hx) h16 ⟨rfl, [], [], rfl, rfl, ⟨⟨_, rfl, (.refl _)⟩, rfl, ⟨⟨_, rfl, (.refl _)⟩, rfl, ⟨⟨_, rfl, (.refl _)⟩, rfl, ⟨⟨_, rfl, (.refl _)⟩, rfl, ⟨⟨_, rfl, (.refl _)⟩, rfl, trivial⟩⟩⟩⟩⟩,  trivial⟩ ?_
    clear h16
    intro k
    rintro ⟨y16_1, y16_2⟩ h16
    dsimp only at h16 ⊢
    rw [f91_l16] at h16
    refine AWc.seq ?_
    refine AWc.rg hmix rfl rfl ?_
    refine RegV.p0 (v := (.d (.bool (decide (y16_2 < ((a0.length : Nat) : Int)))))) rfl rfl rfl ?_
    refine RegV.nil0 ?_
    refine AWc.seq ?_
    refine AWc.cond rfl (fun c23 => ?_) (fun c23 => ?_)
    · have h16 := cond_pos c23 h16
      refine AWc.skip ?_
      refine AWc.seq ?_
      refine AWc.block ?_
      refine AWc.seq ?_
      refine AWc.rg hmix rfl rfl ?_
      obtain ⟨b31, h16⟩ := gd_some h16
      refine RegV.iad (xs := a0) (e := (slE byteD)) rfl rfl rfl rfl (fun _ => rfl) b31 rfl ?_
      refine RegV.p0 (v := (.d (.sl (List.map byteD (rd a0 y16_2))))) rfl rfl rfl ?_
      refine RegV.p0 rfl rfl rfl ?_
      refine RegV.nil0 ?_
      refine AWc.seq ?_
      refine AWc.rg hmix rfl rfl ?_
      refine RegV.p0 rfl rfl rfl ?_
      refine RegV.p0 rfl rfl rfl ?_
      refine RegV.len (xs := (rd a0 y16_2)) (e := byteD) rfl rfl rfl rfl ?_
      refine RegV.p0 (v := (.d (.int .i64 (IntKind.i64.wrap (y16_1 + (((rd a0 y16_2).length : Nat) : Int)))))) rfl rfl rfl ?_
      refine RegV.p0 rfl rfl rfl ?_
      refine RegV.nil0 ?_
      refine AWc.seq ?_
      refine AWc.rg hmix rfl rfl ?_
      refine RegV.p0 rfl rfl rfl ?_
      refine RegV.p0 (v := (.d (.bool (decide ((IntKind.i64.wrap (y16_1 + (((rd a0 y16_2).length : Nat) : Int))) < (0 : Int)))))) rfl rfl rfl ?_
      refine RegV.nil0 ?_
      refine AWc.cond rfl (fun c47 => ?_) (fun c47 => ?_)
      · have h16 := cond_pos c47 h16
        refine AWc.rg hmix rfl rfl ?_
        cases h16
      · have h16 := cond_neg c47 h16
        refine AWc.skip ?_
        refine AWc.rg hmix rfl rfl ?_
        refine RegV.p0 (v := (.d (.int .i64 (IntKind.i64.wrap (y16_2 + (1 : Int)))))) rfl rfl rfl ?_
        refine RegV.p0 rfl rfl rfl ?_
        refine RegV.nil0 ?_
        exact ⟨((IntKind.i64.wrap (y16_1 + (((rd a0 y16_2).length : Nat) : Int))), (IntKind.i64.wrap (y16_2 + (1 : Int)))), h16, ⟨rfl, [], [], rfl, rfl, ⟨⟨_, rfl, (.refl _)⟩, rfl, ⟨⟨_, rfl, (.refl _)⟩, rfl, ⟨⟨_, rfl, (.refl _)⟩, rfl, ⟨⟨_, rfl, (.refl _)⟩, rfl, ⟨⟨_, rfl, (.refl _)⟩, rfl, trivial⟩⟩⟩⟩⟩,  trivial⟩⟩
    · have h16 := cond_neg c23 h16
      cases h16
      dsimp only at h
      refine AWc.exit ?_
      refine inBlk_eq ?_
      exact ⟨y16_1, h, ⟨rfl, [], [], rfl, rfl, ⟨⟨_, rfl, (.refl _)⟩, rfl, ⟨⟨_, rfl, (.refl _)⟩, rfl, trivial⟩⟩,  trivial⟩⟩
  · intro j57_1 h
    unfold f91_j57 at h
    refine AWc.seq ?_
    refine AWc.rg hmix rfl rfl ?_
    refine RegV.p0 rfl rfl rfl ?_
    obtain ⟨r61, e61, h⟩ := bind_some h
    refine RegV.callS (q := false) (H' := [(0, (.tok ((List.map byteD ([] : List UInt8)).length * 1)))]) (c' := 1) (show ACalls P (N 111) [.nils, (.d (.int .i64 j57_1))] [] (.ap 0 1 (List.map byteD ([] : List UInt8))) [(0, (.tok ((List.map byteD ([] : List UInt8)).length * 1)))] from ACalls.use (F111 hmix hc.2 e61) [(0, 0)] 1 rfl) rfl rfl rfl rfl (.cons (.refl _) (.cons (.refl _) .nil)) (.refl _) (fun h => by cases h) rfl hasNil rfl rfl rfl rfl ?_
    refine RegV.p0 rfl rfl rfl ?_
    refine RegV.nil0 ?_
    refine AWc.seq ?_
    refine AWc.seq ?_
    refine AWc.rg hmix rfl rfl ?_
    refine RegV.p0 rfl rfl rfl ?_
    refine RegV.len (xs := a0) (e := (slE byteD)) rfl rfl rfl rfl ?_
    refine RegV.p0 rfl rfl rfl ?_
    refine RegV.nil0 ?_
    obtain ⟨o70, h70, h⟩ := bind_some h
    refine AWc.block ?_
    refine AWc.loopK (N := 36) 1 (fun (x : ((List UInt8) × Int)) => [(6, (.ap 0 1 (List.map byteD x.1))), (25, (.d (.sl (List.map (slE byteD) a0)))), (26, (.d (.int .i64 ((a0.length : Nat) : Int)))), (27, (.d (.int .i64 x.2)))]) (fun x => [(0, (.tok ((List.map byteD x.1).length * 1)))]) (fun k x => f91_l70 a0 k x.1 x.2 = some o70) k (([] : List UInt8), (0 : Int)) rfl_le (fun x hx => by cases hx) h70 ⟨rfl, [], [], rfl, rfl, ⟨⟨_, rfl, (.refl _)⟩, rfl, ⟨⟨_, rfl, (.refl _)⟩, rfl, ⟨⟨_, rfl, (.refl _)⟩, rfl, ⟨⟨_, rfl, (.refl _)⟩, rfl, trivial⟩⟩⟩⟩, ⟨⟨_, rfl, (.refl _)⟩, rfl, rfl, trivial⟩⟩ ?_
    clear h70
    intro k
    rintro ⟨y70_1, y70_2⟩ h70
    dsimp only at h70 ⊢
    rw [f91_l70] at h70
    refine AWc.seq ?_
    refine AWc.rg hmix rfl rfl ?_
    refine RegV.p0 (v := (.d (.bool (decide (y70_2 < ((a0.length : Nat) : Int)))))) rfl rfl rfl ?_
    refine RegV.nil0 ?_
    refine AWc.seq ?_
    refine AWc.cond rfl (fun c77 => ?_) (fun c77 => ?_)
    · have h70 := cond_pos c77 h70
      refine AWc.skip ?_
      refine AWc.seq ?_
      refine AWc.block ?_
      refine AWc.seq ?_
      refine AWc.rg hmix rfl rfl ?_
      obtain ⟨b85, h70⟩ := gd_some h70
      refine RegV.iad (xs := a0) (e := (slE byteD)) rfl rfl rfl rfl (fun _ => rfl) b85 rfl ?_
      refine RegV.p0 (v := (.d (.sl (List.map byteD (rd a0 y70_2))))) rfl rfl rfl ?_
      refine RegV.p0 rfl rfl rfl ?_
      refine RegV.nil0 ?_
      refine AWc.rg hmix rfl rfl ?_
      refine RegV.p0 rfl rfl rfl ?_
      refine RegV.p0 rfl rfl rfl ?_
      obtain ⟨b92, h70⟩ := gd_some h70
      refine RegV.appA (xs := y70_1) (ys := (rd a0 y70_2)) (e := byteD) (H1 := []) rfl rfl rfl rfl (fun _ => rfl) rfl rfl b92 rfl rfl rfl ?_
      refine RegV.p0 rfl rfl rfl ?_
      refine RegV.nil0 ?_
      refine AWc.rg hmix rfl rfl ?_
      refine RegV.p0 (v := (.d (.int .i64 (IntKind.i64.wrap (y70_2 + (1 : Int)))))) rfl rfl rfl ?_
      refine RegV.p0 rfl rfl rfl ?_
      refine RegV.nil0 ?_
      exact ⟨((y70_1 ++ (rd a0 y70_2)), (IntKind.i64.wrap (y70_2 + (1 : Int)))), h70, ⟨rfl, [], [(0, 1)], rfl, rfl, ⟨⟨_, rfl, (.refl _)⟩, rfl, ⟨⟨_, rfl, (.refl _)⟩, rfl, ⟨⟨_, rfl, (.refl _)⟩, rfl, ⟨⟨_, rfl, (.refl _)⟩, rfl, trivial⟩⟩⟩⟩, ⟨⟨_, rfl, (.refl _)⟩, rfl, rfl, trivial⟩⟩⟩
    · have h70 := cond_neg c77 h70
      cases h70
      dsimp only at h
      refine AWc.exit ?_
      refine inBlk_eq ?_
      refine AWc.seq ?_
      refine AWc.rg hmix rfl rfl ?_
      refine RegV.p0 rfl rfl rfl ?_
      refine RegV.p0 rfl rfl rfl ?_
      refine RegV.nil0 ?_
      have hr := Option.some.inj h
      subst hr
      exact AWc.ret (canQ (N := 36) (k := 1) (l' := [(2, (.ap 0 1 (List.map byteD y70_1)))]) (H' := [(0, (.tok ((List.map byteD y70_1).length * 1)))]) rfl ⟨rfl, [], [], rfl, rfl, ⟨⟨_, rfl, (.refl _)⟩, rfl, trivial⟩, ⟨⟨_, rfl, (.refl _)⟩, rfl, rfl, trivial⟩⟩ (doneA (.inr rfl) rfl ⟨trivial, trivial⟩ (.refl _) (hasCons rfl hasNil)))
/-- courant/crc.table -/
def C265 (N : Nat → Nat) : AFunc := { n := 25, params := 0, res := [.cell 0 256 true], body :=
 (.seq (.region false [⟨(some 0), .alloc (List.replicate 256 (.int .u32 0)), none, []⟩])
  (.seq (.region false [⟨(some 1), .alloc (List.replicate 256 (.int .u32 0)), none, []⟩])
   (.seq (.seq (.region false [⟨(some 4), .mv (.k (.d (.int .i64 0))), none, []⟩])
     (.block 0 (.loop (.seq (.region false [⟨(some 5), .bin .lss (.t 4) (.k (.d (.int .i64 256))), none, []⟩])
        (.seq (.cond (.t 5) (.skip)
          (.exit 0))
         (.seq (.block 1 (.seq (.region false [⟨(some 6), .mv (.t 4), none, []⟩,
             ⟨(some 2), .mv (.t 6), none, [0]⟩])
            (.seq (.region false [⟨(some 7), .mv (.t 2), none, []⟩,
              ⟨(some 8), .cvi .u32 (.t 7), none, [0]⟩,
              ⟨(some 3), .mv (.t 8), none, [1, 0]⟩])
             (.seq (.seq (.region false [⟨(some 9), .mv (.k (.d (.int .i64 0))), none, []⟩])
               (.block 2 (.loop (.seq (.region false [⟨(some 10), .bin .lss (.t 9) (.k (.d (.int .i64 8))), none, []⟩])
                  (.seq (.cond (.t 10) (.skip)
                    (.exit 2))
                   (.seq (.block 3 (.seq (.region false [⟨(some 11), .mv (.t 3), none, []⟩,
                       ⟨(some 12), .bin .and (.t 11) (.k (.d (.int .u32 1))), none, [0]⟩,
                       ⟨(some 13), .bin .neq (.t 12) (.k (.d (.int .u32 0))), none, [1]⟩])
                      (.cond (.t 13) (.region false [⟨(some 14), .mv (.t 3), none, []⟩,
                        ⟨(some 15), .bin .shr (.t 14) (.k (.d (.int .u64 1))), none, [0]⟩,
                        ⟨(some 16), .bin .xor (.t 15) (.k (.d (.int .u32 2197175160))), none, [1]⟩,
                        ⟨(some 3), .mv (.t 16), none, [2, 0, 1]⟩])
                       (.region false [⟨(some 17), .mv (.t 3), none, []⟩,
                        ⟨(some 18), .bin .shr (.t 17) (.k (.d (.int .u64 1))), none, [0]⟩,
                        ⟨(some 3), .mv (.t 18), none, [1, 0]⟩]))))
                    (.region false [⟨(some 19), .bin .add (.t 9) (.k (.d (.int .i64 1))), none, []⟩,
                     ⟨(some 9), .mv (.t 19), none, [0]⟩])))))))
              (.region false [⟨(some 20), .mv (.t 2), none, []⟩,
               ⟨(some 21), .mv (.t 3), none, []⟩,
               ⟨(some 22), .aaddr (.t 1) (.t 20) 256 1, none, [0, 1]⟩,
               ⟨none, .store (.t 22) (.t 21) 1, none, [2, 1, 0]⟩])))))
          (.region false [⟨(some 23), .bin .add (.t 4) (.k (.d (.int .i64 1))), none, []⟩,
           ⟨(some 4), .mv (.t 23), none, [0]⟩])))))))
    (.seq (.region false [⟨(some 24), .load (.t 1) 256 true, none, []⟩,
      ⟨none, .store (.t 0) (.t 24) 256, none, [0]⟩])
     .ret)))) }
def HC265 (P : Program) (N : Nat → Nat) : Prop := HasF P (N 265) (C265 N)
def f265_j76 (L : Int → (List Int) → Option (LR2 (List Int) Unit (List Int))) (k : Nat) (y14_1 : Int) (y14_2 : (List Int)) (j76_1 : Int) : Option (LR2 (List Int) Unit (List Int)) := gd (0 ≤ y14_1 ∧ y14_1 < 256) (gd ((y14_1).toNat < y14_2.length) (L (IntKind.i64.wrap (y14_1 + (1 : Int))) (List.set y14_2 (y14_1).toNat j76_1)))
def f265_l42 : Nat → Int → Int → Option (LR2 Int Unit (List Int))
  | 0, _, _ => none
  | k + 1, y42_1, y42_2 => cond (decide (y42_2 < (8 : Int))) (cond (decide ((bitsA .and .u32 y42_1 (1 : Int)) ≠ (0 : Int))) (f265_l42 k (bitsA .xor .u32 (Int.fdiv y42_1 (2 ^ (min ((1 : Int)).toNat IntKind.u32.bits))) (2197175160 : Int)) (IntKind.i64.wrap (y42_2 + (1 : Int)))) (f265_l42 k (Int.fdiv y42_1 (2 ^ (min ((1 : Int)).toNat IntKind.u32.bits))) (IntKind.i64.wrap (y42_2 + (1 : Int))))) (some (.b0 y42_1))
def f265_l14 : Nat → Int → (List Int) → Option (LR2 (List Int) Unit (List Int))
  | 0, _, _ => none
  | k + 1, y14_1, y14_2 => cond (decide (y14_1 < (256 : Int))) ((f265_l42 k (IntKind.u32.wrap y14_1) (0 : Int)).bind fun o42 => match o42 with | .b0 x42_1 => f265_j76 (f265_l14 k) k y14_1 y14_2 x42_1 | _ => none) (some (.b0 y14_2))
def f265 (k : Nat) : Option (List Int) := (f265_l14 k (0 : Int) (List.replicate 256 (default : Int))).bind fun o14 => match o14 with | .b0 x14_1 => gd (x14_1.length * 1 = 256) (gd ((List.replicate 256 (default : Int)).length * 1 = 256 ∧ x14_1.length * 1 = 256) (gd (x14_1.length * 1 = 256) (some x14_1))) | _ => none
theorem F265 {P : Program} {N : Nat → Nat} (hmix : P.follows .mixedOrders = true) (hc : HC265 P N) {k : Nat} {r : (List Int)} (h : f265 k = some r) :
    ACalls P (N 265) [] [] (.d (.agg (cellsD (D.int .u32) r))) [] := by
  refine acalls_canon (F := C265 N) hc 0 0 rfl ?_
  unfold f265 at h
  dsimp only [C265, startL]
  refine AWc.seq ?_
  refine AWc.rg hmix rfl rfl ?_
  refine RegV.newA (e := (D.int .u32)) (xs := (List.replicate 256 (default : Int))) rfl (by kernel_rfl) rfl rfl ?_
  refine RegV.nil0 ?_
  refine AWc.seq ?_
  refine AWc.rg hmix rfl rfl ?_
  refine RegV.newA (e := (D.int .u32)) (xs := (List.replicate 256 (default : Int))) rfl (by kernel_rfl) rfl rfl ?_
  refine RegV.nil0 ?_
  refine AWc.seq ?_
  refine AWc.seq ?_
  refine AWc.rg hmix rfl rfl ?_
  refine RegV.p0 rfl rfl rfl ?_
  refine RegV.nil0 ?_
  obtain ⟨o14, h14, h⟩ := bind_some h
  refine AWc.block ?_
  refine AWc.loopK (N := 25) 2 (fun (x : (Int × (List Int))) => [(0, (.ptr 0 0)), (1, (.ptr 1 0)), (4, (.d (.int .i64 x.1)))]) (fun x => [(0, (cellsO (D.int .u32) (List.replicate 256 (default : Int)))), (1, (cellsO (D.int .u32) x.2))]) (fun k x => f265_l14 k x.1 x.2 = some o14) k ((0 : Int), (List.replicate 256 (default : Int))) rfl_le (fun x hx => by cases hx) h14 ⟨rfl, [], [], rfl, rfl, ⟨⟨_, rfl, (.refl _)⟩, rfl, ⟨⟨_, rfl, (.refl _)⟩, rfl, ⟨⟨_, rfl, (.refl _)⟩, rfl, trivial⟩⟩⟩, ⟨⟨_, rfl, (.refl _)⟩, rfl, rfl, ⟨⟨_, rfl, (.refl _)⟩, rfl, rfl, trivial⟩⟩⟩ ?_
  clear h14
  intro k
  rintro ⟨y14_1, y14_2⟩ h14
  dsimp only at h14 ⊢
  rw [f265_l14] at h14
  refine AWc.seq ?_
  refine AWc.rg hmix rfl rfl ?_
  refine RegV.p0 (v := (.d (.bool (decide (y14_1 < (256 : Int)))))) rfl rfl rfl ?_
  refine RegV.nil0 ?_
  refine AWc.seq ?_
  refine AWc.cond rfl (fun c21 => ?_) (fun c21 => ?_)
  · have h14 := cond_pos c21 h14
    refine AWc.skip ?_
    refine AWc.seq ?_
    refine AWc.block ?_
    refine AWc.seq ?_
    refine AWc.rg hmix rfl rfl ?_
    refine RegV.p0 rfl rfl rfl ?_
    refine RegV.p0 rfl rfl rfl ?_
    refine RegV.nil0 ?_
    refine AWc.seq ?_
    refine AWc.rg hmix rfl rfl ?_
    refine RegV.p0 rfl rfl rfl ?_
    refine RegV.p0 (v := (.d (.int .u32 (IntKind.u32.wrap y14_1)))) rfl rfl rfl ?_
    refine RegV.p0 rfl rfl rfl ?_
    refine RegV.nil0 ?_
    refine AWc.seqS (N := 25) 2 (fun (z : Int) => [(0, (.ptr 0 0)), (1, (.ptr 1 0)), (2, (.d (.int .i64 y14_1))), (3, (.d (.int .u32 z))), (4, (.d (.int .i64 y14_1)))]) (fun z => [(0, (cellsO (D.int .u32) (List.replicate 256 (default : Int)))), (1, (cellsO (D.int .u32) y14_2))]) (fun z => f265_j76 (f265_l14 k) k y14_1 y14_2 z = some o14) rfl_le ?_ ?_
    · refine AWc.seq ?_
      refine AWc.rg hmix rfl rfl ?_
      refine RegV.p0 rfl rfl rfl ?_
      refine RegV.nil0 ?_
      obtain ⟨o42, h42, h14⟩ := bind_some h14
      refine AWc.block ?_
      refine AWc.loopK (N := 25) 2 (fun (x : (Int × Int)) => [(0, (.ptr 0 0)), (1, (.ptr 1 0)), (2, (.d (.int .i64 y14_1))), (3, (.d (.int .u32 x.1))), (4, (.d (.int .i64 y14_1))), (9, (.d (.int .i64 x.2)))]) (fun x => [(0, (cellsO (D.int .u32) (List.replicate 256 (default : Int)))), (1, (cellsO (D.int .u32) y14_2))]) (fun k x => f265_l42 k x.1 x.2 = some o42) k ((IntKind.u32.wrap y14_1), (0 : Int)) rfl_le (fun x hx => by cases hx) h42 ⟨rfl, [], [], rfl, rfl, ⟨⟨_, rfl, (.refl _)⟩, rfl, ⟨⟨_, rfl, (.refl _)⟩, rfl, ⟨⟨_, rfl, (.refl _)⟩, rfl, ⟨⟨_, rfl, (.refl _)⟩, rfl, ⟨⟨_, rfl, (.refl _)⟩, rfl, ⟨⟨_, rfl, (.refl _)⟩, rfl, trivial⟩⟩⟩⟩⟩⟩, ⟨⟨_, rfl, (.refl _)⟩, rfl, rfl, ⟨⟨_, rfl, (.refl _)⟩, rfl, rfl, trivial⟩⟩⟩ ?_
      clear h42
      intro k
      rintro ⟨y42_1, y42_2⟩ h42
      dsimp only at h42 ⊢
      rw [f265_l42] at h42
      refine AWc.seq ?_
      refine AWc.rg hmix rfl rfl ?_
      refine RegV.p0 (v := (.d (.bool (decide (y42_2 < (8 : Int)))))) rfl rfl rfl ?_
      refine RegV.nil0 ?_
      refine AWc.seq ?_
      refine AWc.cond rfl (fun c49 => ?_) (fun c49 => ?_)
      · have h42 := cond_pos c49 h42
        refine AWc.skip ?_
        refine AWc.seq ?_
        refine AWc.block ?_
        refine AWc.seq ?_
        refine AWc.rg hmix rfl rfl ?_
        refine RegV.p0 rfl rfl rfl ?_
        refine RegV.p0 (v := (.d (.int .u32 (bitsA .and .u32 y42_1 (1 : Int))))) rfl rfl rfl ?_
        refine RegV.p0 (v := (.d (.bool (decide ((bitsA .and .u32 y42_1 (1 : Int)) ≠ (0 : Int)))))) rfl rfl rfl ?_
        refine RegV.nil0 ?_
        refine AWc.cond rfl (fun c60 => ?_) (fun c60 => ?_)
        · have h42 := cond_pos c60 h42
          refine AWc.rg hmix rfl rfl ?_
          refine RegV.p0 rfl rfl rfl ?_
          refine RegV.p1 (v := (.d (.int .u32 (Int.fdiv y42_1 (2 ^ (min ((1 : Int)).toNat IntKind.u32.bits)))))) rfl rfl (by decide) rfl rfl ?_
          refine RegV.p0 (v := (.d (.int .u32 (bitsA .xor .u32 (Int.fdiv y42_1 (2 ^ (min ((1 : Int)).toNat IntKind.u32.bits))) (2197175160 : Int))))) rfl rfl rfl ?_
          refine RegV.p0 rfl rfl rfl ?_
          refine RegV.nil0 ?_
          refine AWc.rg hmix rfl rfl ?_
          refine RegV.p0 (v := (.d (.int .i64 (IntKind.i64.wrap (y42_2 + (1 : Int)))))) rfl rfl rfl ?_
          refine RegV.p0 rfl rfl rfl ?_
          refine RegV.nil0 ?_
          exact ⟨((bitsA .xor .u32 (Int.fdiv y42_1 (2 ^ (min ((1 : Int)).toNat IntKind.u32.bits))) (2197175160 : Int)), (IntKind.i64.wrap (y42_2 + (1 : Int)))), h42, ⟨rfl, [], [], rfl, rfl, ⟨⟨_, rfl, (.refl _)⟩, rfl, ⟨⟨_, rfl, (.refl _)⟩, rfl, ⟨⟨_, rfl, (.refl _)⟩, rfl, ⟨⟨_, rfl, (.refl _)⟩, rfl, ⟨⟨_, rfl, (.refl _)⟩, rfl, ⟨⟨_, rfl, (.refl _)⟩, rfl, trivial⟩⟩⟩⟩⟩⟩, ⟨⟨_, rfl, (.refl _)⟩, rfl, rfl, ⟨⟨_, rfl, (.refl _)⟩, rfl, rfl, trivial⟩⟩⟩⟩
        · have h42 := cond_neg c60 h42
          refine AWc.rg hmix rfl rfl ?_
          refine RegV.p0 rfl rfl rfl ?_
          refine RegV.p1 (v := (.d (.int .u32 (Int.fdiv y42_1 (2 ^ (min ((1 : Int)).toNat IntKind.u32.bits)))))) rfl rfl (by decide) rfl rfl ?_
          refine RegV.p0 rfl rfl rfl ?_
          refine RegV.nil0 ?_
          refine AWc.rg hmix rfl rfl ?_
          refine RegV.p0 (v := (.d (.int .i64 (IntKind.i64.wrap (y42_2 + (1 : Int)))))) rfl rfl rfl ?_
          refine RegV.p0 rfl rfl rfl ?_
          refine RegV.nil0 ?_
          exact ⟨((Int.fdiv y42_1 (2 ^ (min ((1 : Int)).toNat IntKind.u32.bits))), (IntKind.i64.wrap (y42_2 + (1 : Int)))), h42, ⟨rfl, [], [], rfl, rfl, ⟨⟨_, rfl, (.refl _)⟩, rfl, ⟨⟨_, rfl, (.refl _)⟩, rfl, ⟨⟨_, rfl, (.refl _)⟩, rfl, ⟨⟨_, rfl, (.refl _)⟩, rfl, ⟨⟨_, rfl, (.refl _)⟩, rfl, ⟨⟨_, rfl, (.refl _)⟩, rfl, trivial⟩⟩⟩⟩⟩⟩, ⟨⟨_, rfl, (.refl _)⟩, rfl, rfl, ⟨⟨_, rfl, (.refl _)⟩, rfl, rfl, trivial⟩⟩⟩⟩
      · have h42 := cond_neg c49 h42
        cases h42
        dsimp only at h14
        refine AWc.exit ?_
        refine inBlk_eq ?_
        exact ⟨y42_1, h14, ⟨rfl, [], [], rfl, rfl, ⟨⟨_, rfl, (.refl _)⟩, rfl, ⟨⟨_, rfl, (.refl _)⟩, rfl, ⟨⟨_, rfl, (.refl _)⟩, rfl, ⟨⟨_, rfl, (.refl _)⟩, rfl, ⟨⟨_, rfl, (.refl _)⟩, rfl, trivial⟩⟩⟩⟩⟩, ⟨⟨_, rfl, (.refl _)⟩, rfl, rfl, ⟨⟨_, rfl, (.refl _)⟩, rfl, rfl, trivial⟩⟩⟩⟩
    · intro j76_1 h14
      unfold f265_j76 at h14
      refine AWc.rg hmix rfl rfl ?_
      refine RegV.p0 rfl rfl rfl ?_
      refine RegV.p0 rfl rfl rfl ?_
      obtain ⟨b80, h14⟩ := gd_some h14
      refine RegV.aad rfl rfl rfl b80 rfl ?_
      obtain ⟨b81, h14⟩ := gd_some h14
      refine RegV.stS (e := (D.int .u32)) (xs := y14_2) (i := (y14_1).toNat) (v := j76_1) (H' := [(1, (cellsO (D.int .u32) (List.set y14_2 (y14_1).toNat j76_1))), (0, (cellsO (D.int .u32) (List.replicate 256 (default : Int))))]) rfl rfl rfl rfl (int_ok _) rfl b81 rfl rfl rfl ?_
      refine RegV.nil0 ?_
      refine AWc.rg hmix rfl rfl ?_
      refine RegV.p0 (v := (.d (.int .i64 (IntKind.i64.wrap (y14_1 + (1 : Int)))))) rfl rfl rfl ?_
      refine RegV.p0 rfl rfl rfl ?_
      refine RegV.nil0 ?_
      exact ⟨((IntKind.i64.wrap (y14_1 + (1 : Int))), (List.set y14_2 (y14_1).toNat j76_1)), h14, ⟨rfl, [], [], rfl, rfl, ⟨⟨_, rfl, (.refl _)⟩, rfl, ⟨⟨_, rfl, (.refl _)⟩, rfl, ⟨⟨_, rfl, (.refl _)⟩, rfl, trivial⟩⟩⟩, ⟨⟨_, rfl, (.refl _)⟩, rfl, rfl, ⟨⟨_, rfl, (.refl _)⟩, rfl, rfl, trivial⟩⟩⟩⟩
  · have h14 := cond_neg c21 h14
    cases h14
    dsimp only at h
    refine AWc.exit ?_
    refine inBlk_eq ?_
    refine AWc.seq ?_
    refine AWc.rg hmix rfl rfl ?_
    obtain ⟨b89, h⟩ := gd_some h
    refine RegV.ldA (e := (D.int .u32)) (xs := y14_2) (H' := [(1, (cellsO (D.int .u32) y14_2)), (0, (cellsO (D.int .u32) (List.replicate 256 (default : Int))))]) rfl rfl (int_ok _) rfl b89 rfl rfl rfl rfl ?_
    obtain ⟨b90, h⟩ := gd_some h
    refine RegV.stA (e := (D.int .u32)) (xs := (List.replicate 256 (default : Int))) (ys := y14_2) (H' := [(0, (cellsO (D.int .u32) y14_2)), (1, (cellsO (D.int .u32) y14_2))]) rfl rfl rfl (int_ok _) rfl b90 rfl rfl rfl ?_
    refine RegV.nil0 ?_
    obtain ⟨bR, h⟩ := gd_some h
    have hr := Option.some.inj h
    subst hr
    exact AWc.ret (canQ (N := 25) (k := 1) (l' := [(0, (.ptr 0 0))]) (H' := [(0, (cellsC (D.int .u32) y14_2))]) rfl ⟨rfl, [], [], rfl, rfl, ⟨⟨_, rfl, (.refl _)⟩, rfl, trivial⟩, ⟨⟨_, rfl, .rowC⟩, rfl, ltbC, trivial⟩⟩ (doneArr (.inr rfl) rfl (int_ok _) rfl bR hasNil))
/-- slices.Values[[]byte,byte] -/
def C266 (N : Nat → Nat) : AFunc := { n := 4, params := 1, res := [.tmp 2], body :=
 (.seq (.region false [⟨(some 1), .box (.t 0), none, []⟩,
   ⟨(some 2), .mv (.k (.d .nilf)), none, []⟩])
  (.seq (.region false [⟨(some 3), .mkfn (N 267) [(.t 1)], none, []⟩,
    ⟨(some 2), .mv (.t 3), none, [0]⟩])
   .ret)) }
def HC266 (P : Program) (N : Nat → Nat) : Prop := HasF P (N 266) (C266 N)
def f266 (k : Nat) (a0 : (List UInt8)) : Option Unit := some ()
theorem F266 {P : Program} {N : Nat → Nat} (hmix : P.follows .mixedOrders = true) (hc : HC266 P N) {k : Nat} {a0 : (List UInt8)} {r : Unit} (h : f266 k a0 = some r) :
    ACalls P (N 266) [(.d (.sl (List.map byteD a0)))] [] (.fn (N 267) [(.ptr 0 0)]) [(0, (.cells [(.d (.sl (List.map byteD a0)))]))] := by
  refine acalls_canon (F := C266 N) hc 0 1 rfl ?_
  unfold f266 at h
  dsimp only [C266, startL]
  refine AWc.seq ?_
  refine AWc.rg hmix rfl rfl ?_
  refine RegV.evS (own := false) (v := (.ptr 0 0)) (H' := [(0, (.cells [(.d (.sl (List.map byteD a0)))]))]) (c' := 1) rfl rfl trivial rfl rfl rfl rfl rfl rfl ?_
  refine RegV.p0 rfl rfl rfl ?_
  refine RegV.nil0 ?_
  refine AWc.seq ?_
  refine AWc.rg hmix rfl rfl ?_
  refine RegV.p0 (v := (.fn (N 267) [(.ptr 0 0)])) rfl rfl rfl ?_
  refine RegV.p0 rfl rfl rfl ?_
  refine RegV.nil0 ?_
  have hr := Option.some.inj h
  subst hr
  exact AWc.ret (canQ (N := 4) (k := 1) (l' := [(2, (.fn (N 267) [(.ptr 0 0)]))]) (H' := [(0, (.cells [(.d (.sl (List.map byteD a0)))]))]) rfl ⟨rfl, [], [], rfl, rfl, ⟨⟨_, rfl, (.refl _)⟩, rfl, trivial⟩, ⟨⟨_, rfl, (.refl _)⟩, rfl, rfl, trivial⟩⟩ (doneA (.inr rfl) rfl ⟨trivial, trivial⟩ (.refl _) (hasCons rfl hasNil)))
def L264_0a (N : Nat → Nat) : ACode :=
 (.region false [⟨(some 7), .mv (.t 13), none, []⟩])
def L264_0b (N : Nat → Nat) : ACode :=
 (.block 1 (.region true [⟨(some 14), .load (.t 6) 1 false, none, []⟩,
   ⟨(some 15), .bin .shr (.t 14) (.k (.d (.int .u64 8))), none, [0]⟩,
   ⟨(some 16), .load (.t 6) 1 false, none, []⟩,
   ⟨(some 17), .cvi .u8 (.t 16), none, [2]⟩,
   ⟨(some 18), .mv (.t 7), none, []⟩,
   ⟨(some 19), .bin .xor (.t 17) (.t 18), none, [3, 4]⟩,
   ⟨(some 20), .aaddr (.t 5) (.t 19) 256 1, none, [5]⟩,
   ⟨(some 21), .load (.t 20) 1 false, none, [6]⟩,
   ⟨(some 22), .bin .xor (.t 15) (.t 21), none, [1, 7]⟩,
   ⟨none, .store (.t 6) (.t 22) 1, none, [8, 0, 1, 2, 3, 4, 5, 6, 7]⟩]))
/-- courant/crc.Add -/
def C264 (N : Nat → Nat) : AFunc := { n := 25, params := 2, res := [.tmp 4], body :=
 (.seq (.region false [⟨(some 4), .mv (.k (.d (.int .u32 0))), none, []⟩])
  (.seq (.region false [⟨(some 8), .call (.k (.d (.fn (N 265)))) [], none, []⟩,
    ⟨(some 5), .alloc (List.replicate 256 (.int .u32 0)), none, []⟩,
    ⟨none, .store (.t 5) (.t 8) 256, none, [1, 0]⟩])
   (.seq (.region false [⟨(some 9), .mv (.t 0), none, []⟩,
     ⟨(some 10), .bin .xor (.t 9) (.k (.d (.int .u32 4294967295))), none, [0]⟩,
     ⟨(some 6), .alloc [(.int .u32 0)], none, []⟩,
     ⟨none, .store (.t 6) (.t 10) 1, none, [2, 1, 0]⟩])
    (.seq (.seq (.region false [⟨(some 11), .mv (.t 1), none, []⟩,
       ⟨(some 12), .call (.k (.d (.fn (N 266)))) [(.t 11)], none, [0]⟩])
      (.block 0 (.rangeFunc (.t 12) [13] (L264_0a N) (L264_0b N))))
     (.seq (.region false [⟨(some 23), .load (.t 6) 1 false, none, []⟩,
       ⟨(some 24), .bin .xor (.t 23) (.k (.d (.int .u32 4294967295))), none, [0]⟩,
       ⟨(some 4), .mv (.t 24), none, [1, 0]⟩])
      .ret))))) }
def HCb264_25 (P : Program) (N : Nat → Nat) : Prop := True
def b264_25 (k : Nat) (a0 : (List Int)) (a1 : Int) (a2 : UInt8) : Option Unit := gd (0 ≤ (bitsA .xor .u8 (IntKind.u8.wrap a1) ((a2.toNat : Nat) : Int)) ∧ (bitsA .xor .u8 (IntKind.u8.wrap a1) ((a2.toNat : Nat) : Int)) < 256) (gd (((bitsA .xor .u8 (IntKind.u8.wrap a1) ((a2.toNat : Nat) : Int))).toNat < a0.length) (some ()))
theorem B264_25 {P : Program} {N : Nat → Nat} (hmix : P.follows .mixedOrders = true) (hc : HCb264_25 P N) {asg0 bd0 : Code} (ha0 : compCode P asg0 = L264_0a N) (hb0 : compCode P bd0 = L264_0b N) {k : Nat} {a0 : (List Int)} {a1 : Int} {a2 : UInt8} {r : Unit} (h : b264_25 k a0 a1 a2 = some r) :
    ARound P 0 [(.d (.int .u8 ((a2.toNat : Nat) : Int)))] [(0, (.lp 25 [(5, (.ptr 1 0)), (6, (.ptr 2 0))] [13] asg0 bd0 .ready none)), (1, (cellsO (D.int .u32) a0)), (2, (.cells [(.d (.int .u32 a1))]))] (.d (.bool true)) [(0, (.lp 25 [(5, (.ptr 1 0)), (6, (.ptr 2 0))] [13] asg0 bd0 .ready none)), (1, (cellsO (D.int .u32) a0)), (2, (.cells [(.d (.int .u32 (bitsA .xor .u32 (Int.fdiv a1 (2 ^ (min ((8 : Int)).toNat IntKind.u32.bits))) (List.getD a0 ((bitsA .xor .u8 (IntKind.u8.wrap a1) ((a2.toNat : Nat) : Int))).toNat default))))]))] := by
  refine around_gen 3 3 ha0 hb0 rfl rfl (fun ro => ?_)
  unfold b264_25 at h
  dsimp only [L264_0a, L264_0b, putArgs]
  refine AWc.rg hmix rfl rfl ?_
  refine RegV.p0 rfl rfl rfl ?_
  refine RegV.nil0 ?_
  refine asgDone rfl rfl ?_
  refine AWc.block ?_
  refine AWc.rg hmix rfl rfl ?_
  refine RegV.ld (v := (.d (.int .u32 a1))) (H' := [(2, (.cells [(.d (.int .u32 a1))])), (0, (.lp 25 [(5, (.ptr 1 0)), (6, (.ptr 2 0))] [13] asg0 bd0 .busy none)), (1, (cellsO (D.int .u32) a0))]) rfl rfl trivial rfl rfl rfl rfl rfl ?_
  refine RegV.p1 (v := (.d (.int .u32 (Int.fdiv a1 (2 ^ (min ((8 : Int)).toNat IntKind.u32.bits)))))) rfl rfl (by decide) rfl rfl ?_
  refine RegV.ld (v := (.d (.int .u32 a1))) (H' := [(2, (.cells [(.d (.int .u32 a1))])), (0, (.lp 25 [(5, (.ptr 1 0)), (6, (.ptr 2 0))] [13] asg0 bd0 .busy none)), (1, (cellsO (D.int .u32) a0))]) rfl rfl trivial rfl rfl rfl rfl rfl ?_
  refine RegV.p0 (v := (.d (.int .u8 (IntKind.u8.wrap a1)))) rfl rfl rfl ?_
  refine RegV.p0 rfl rfl rfl ?_
  refine RegV.p0 (v := (.d (.int .u8 (bitsA .xor .u8 (IntKind.u8.wrap a1) ((a2.toNat : Nat) : Int))))) rfl rfl rfl ?_
  obtain ⟨b39, h⟩ := gd_some h
  refine RegV.aad rfl rfl rfl b39 rfl ?_
  obtain ⟨b40, h⟩ := gd_some h
  refine RegV.ldS (e := (D.int .u32)) (xs := a0) (i := ((bitsA .xor .u8 (IntKind.u8.wrap a1) ((a2.toNat : Nat) : Int))).toNat) (H' := [(1, (cellsO (D.int .u32) a0)), (2, (.cells [(.d (.int .u32 a1))])), (0, (.lp 25 [(5, (.ptr 1 0)), (6, (.ptr 2 0))] [13] asg0 bd0 .busy none))]) rfl rfl (int_ok _) rfl b40 rfl rfl rfl rfl ?_
  refine RegV.p0 (v := (.d (.int .u32 (bitsA .xor .u32 (Int.fdiv a1 (2 ^ (min ((8 : Int)).toNat IntKind.u32.bits))) (List.getD a0 ((bitsA .xor .u8 (IntKind.u8.wrap a1) ((a2.toNat : Nat) : Int))).toNat default))))) rfl rfl rfl ?_
  refine RegV.evN (own := false) (H' := [(2, (.cells [(.d (.int .u32 (bitsA .xor .u32 (Int.fdiv a1 (2 ^ (min ((8 : Int)).toNat IntKind.u32.bits))) (List.getD a0 ((bitsA .xor .u8 (IntKind.u8.wrap a1) ((a2.toNat : Nat) : Int))).toNat default))))])), (1, (cellsO (D.int .u32) a0)), (0, (.lp 25 [(5, (.ptr 1 0)), (6, (.ptr 2 0))] [13] asg0 bd0 .busy none))]) (c' := 3) rfl rfl (by exact ⟨rfl, Nat.le_of_ble_eq_true rfl, rfl⟩) rfl rfl rfl rfl ?_
  refine RegV.nil1 (by kernel_rfl) ?_
  have hr := Option.some.inj h
  subst hr
  exact (canQ (N := 25) (k := 3) (l' := []) (H' := [(0, (.lp 25 [(5, (.ptr 1 0)), (6, (.ptr 2 0))] [13] asg0 bd0 .busy none)), (1, (cellsO (D.int .u32) a0)), (2, (.cells [(.d (.int .u32 (bitsA .xor .u32 (Int.fdiv a1 (2 ^ (min ((8 : Int)).toNat IntKind.u32.bits))) (List.getD a0 ((bitsA .xor .u8 (IntKind.u8.wrap a1) ((a2.toNat : Nat) : Int))).toNat default))))]))]) rfl ⟨rfl, [], [], rfl, rfl,  trivial, ⟨⟨_, rfl, (.refl _)⟩, rfl, rfl, ⟨⟨_, rfl, (.refl _)⟩, rfl, rfl, ⟨⟨_, rfl, (.refl _)⟩, rfl, rfl, trivial⟩⟩⟩⟩ (roundD rfl rfl rfl rfl (hasCons rfl (hasCons rfl (hasCons rfl hasNil)))))
/-- slices.Values[[]byte,byte]$1 -/
def C267 (N : Nat → Nat) : AFunc := { n := 16, params := 2, res := [], body :=
 (.seq (.region false [⟨(some 5), .load (.t 1) 1 false, none, []⟩,
   ⟨(some 6), .len (.t 5), none, [0]⟩,
   ⟨(some 7), .mv (.k (.d (.int .i64 0))), none, []⟩])
  (.block 0 (.loop (.seq (.region false [⟨(some 8), .bin .lss (.t 7) (.t 6), none, []⟩])
     (.seq (.cond (.t 8) (.skip)
       (.exit 0))
      (.seq (.block 1 (.seq (.region false [⟨(some 9), .iaddr (.t 5) (.t 7) 1, none, []⟩,
          ⟨(some 10), .load (.t 9) 1 false, none, [0]⟩,
          ⟨(some 4), .mv (.t 10), none, [1, 0]⟩])
         (.seq (.region false [⟨(some 11), .mv (.t 0), none, []⟩,
           ⟨(some 12), .mv (.t 4), none, []⟩,
           ⟨(some 13), .call (.t 11) [(.t 12)], none, [0, 1]⟩,
           ⟨(some 14), .un .not (.t 13), none, [2]⟩])
          (.cond (.t 14) .ret
           (.skip)))))
       (.region false [⟨(some 15), .bin .add (.t 7) (.k (.d (.int .i64 1))), none, []⟩,
        ⟨(some 7), .mv (.t 15), none, [0]⟩]))))))) }
def HC267 (P : Program) (N : Nat → Nat) : Prop := HasF P (N 267) (C267 N) ∧ HCb264_25 P N
def f267_l7 (a2 : (List UInt8)) (a0 : (List Int)) : Nat → Int → Int → Option (LR2 Int Unit Int)
  | 0, _, _ => none
  | k + 1, y7_1, y7_2 => cond (decide (y7_1 < ((a2.length : Nat) : Int))) (gd (0 ≤ y7_1 ∧ y7_1 < ((a2.length : Nat) : Int)) ((b264_25 k a0 y7_2 (rd a2 y7_1)).bind fun r30 => f267_l7 a2 a0 k (IntKind.i64.wrap (y7_1 + (1 : Int))) (bitsA .xor .u32 (Int.fdiv y7_2 (2 ^ (min ((8 : Int)).toNat IntKind.u32.bits))) (List.getD a0 ((bitsA .xor .u8 (IntKind.u8.wrap y7_2) (((rd a2 y7_1).toNat : Nat) : Int))).toNat default)))) (some (.b0 y7_2))
def f267 (k : Nat) (a0 : (List Int)) (a1 : Int) (a2 : (List UInt8)) : Option Int := (f267_l7 a2 a0 k (0 : Int) a1).bind fun o7 => match o7 with | .b0 x7_1 => some x7_1 | _ => none
theorem F267 {P : Program} {N : Nat → Nat} (hmix : P.follows .mixedOrders = true) (hc : HC267 P N) {asg0 bd0 : Code} (ha0 : compCode P asg0 = L264_0a N) (hb0 : compCode P bd0 = L264_0b N) {k : Nat} {a0 : (List Int)} {a1 : Int} {a2 : (List UInt8)} {r : Int} (h : f267 k a0 a1 a2 = some r) :
    ACalls P (N 267) [(.lf 0), (.ptr 3 0)] [(0, (.lp 25 [(5, (.ptr 1 0)), (6, (.ptr 2 0))] [13] asg0 bd0 .ready none)), (1, (cellsO (D.int .u32) a0)), (2, (.cells [(.d (.int .u32 a1))])), (3, (.cells [(.d (.sl (List.map byteD a2)))]))] (.tup []) [(0, (.lp 25 [(5, (.ptr 1 0)), (6, (.ptr 2 0))] [13] asg0 bd0 .ready none)), (1, (cellsO (D.int .u32) a0)), (2, (.cells [(.d (.int .u32 r))])), (3, (.cells [(.d (.sl (List.map byteD a2)))]))] := by
  refine acalls_canon (F := C267 N) hc.1 4 4 rfl ?_
  unfold f267 at h
  dsimp only [C267, startL]
  refine AWc.seq ?_
  refine AWc.rg hmix rfl rfl ?_
  refine RegV.ld (v := (.d (.sl (List.map byteD a2)))) (H' := [(3, (.cells [(.d (.sl (List.map byteD a2)))])), (0, (.lp 25 [(5, (.ptr 1 0)), (6, (.ptr 2 0))] [13] asg0 bd0 .ready none)), (1, (cellsO (D.int .u32) a0)), (2, (.cells [(.d (.int .u32 a1))]))]) rfl rfl trivial rfl rfl rfl rfl rfl ?_
  refine RegV.len (xs := a2) (e := byteD) rfl rfl rfl rfl ?_
  refine RegV.p0 rfl rfl rfl ?_
  refine RegV.nil0 ?_
  obtain ⟨o7, h7, h⟩ := bind_some h
  refine AWc.block ?_
  refine AWc.loopK (N := 16) 4 (fun (x : (Int × Int)) => [(0, (.lf 0)), (5, (.d (.sl (List.map byteD a2)))), (6, (.d (.int .i64 ((a2.length : Nat) : Int)))), (7, (.d (.int .i64 x.1)))]) (fun x => [(0, (.lp 25 [(5, (.ptr 1 0)), (6, (.ptr 2 0))] [13] asg0 bd0 .ready none)), (1, (cellsO (D.int .u32) a0)), (2, (.cells [(.d (.int .u32 x.2))])), (3, (.cells [(.d (.sl (List.map byteD a2)))]))]) (fun k x => f267_l7 a2 a0 k x.1 x.2 = some o7) k ((0 : Int), a1) rfl_le (fun x hx => by cases hx) h7 ⟨rfl, [], [], rfl, rfl, ⟨⟨_, rfl, (.refl _)⟩, rfl, ⟨⟨_, rfl, (.refl _)⟩, rfl, ⟨⟨_, rfl, (.refl _)⟩, rfl, ⟨⟨_, rfl, (.refl _)⟩, rfl, trivial⟩⟩⟩⟩, ⟨⟨_, rfl, (.refl _)⟩, rfl, rfl, ⟨⟨_, rfl, (.refl _)⟩, rfl, rfl, ⟨⟨_, rfl, (.refl _)⟩, rfl, rfl, ⟨⟨_, rfl, (.refl _)⟩, rfl, rfl, trivial⟩⟩⟩⟩⟩ ?_
  clear h7
  intro k
  rintro ⟨y7_1, y7_2⟩ h7
  dsimp only at h7 ⊢
  rw [f267_l7] at h7
  refine AWc.seq ?_
  refine AWc.rg hmix rfl rfl ?_
  refine RegV.p0 (v := (.d (.bool (decide (y7_1 < ((a2.length : Nat) : Int)))))) rfl rfl rfl ?_
  refine RegV.nil0 ?_
  refine AWc.seq ?_
  refine AWc.cond rfl (fun c14 => ?_) (fun c14 => ?_)
  · have h7 := cond_pos c14 h7
    refine AWc.skip ?_
    refine AWc.seq ?_
    refine AWc.block ?_
    refine AWc.seq ?_
    refine AWc.rg hmix rfl rfl ?_
    obtain ⟨b22, h7⟩ := gd_some h7
    refine RegV.iad (xs := a2) (e := byteD) rfl rfl rfl rfl (fun _ => rfl) b22 rfl ?_
    refine RegV.p0 (v := (.d (.int .u8 (((rd a2 y7_1).toNat : Nat) : Int)))) rfl rfl rfl ?_
    refine RegV.p0 rfl rfl rfl ?_
    refine RegV.nil0 ?_
    refine AWc.seq ?_
    refine AWc.rg hmix rfl rfl ?_
    refine RegV.p0 rfl rfl rfl ?_
    refine RegV.p0 rfl rfl rfl ?_
    obtain ⟨r30, e30, h7⟩ := bind_some h7
    refine RegV.yield (H' := [(0, (.lp 25 [(5, (.ptr 1 0)), (6, (.ptr 2 0))] [13] asg0 bd0 .ready none)), (1, (cellsO (D.int .u32) a0)), (2, (.cells [(.d (.int .u32 (bitsA .xor .u32 (Int.fdiv y7_2 (2 ^ (min ((8 : Int)).toNat IntKind.u32.bits))) (List.getD a0 ((bitsA .xor .u8 (IntKind.u8.wrap y7_2) (((rd a2 y7_1).toNat : Nat) : Int))).toNat default))))])), (3, (.cells [(.d (.sl (List.map byteD a2)))]))]) (c' := 4) (show ARound P 0 [(.d (.int .u8 (((rd a2 y7_1).toNat : Nat) : Int)))] [(0, (.lp 25 [(5, (.ptr 1 0)), (6, (.ptr 2 0))] [13] asg0 bd0 .ready none)), (1, (cellsO (D.int .u32) a0)), (2, (.cells [(.d (.int .u32 y7_2))]))] (.d (.bool true)) [(0, (.lp 25 [(5, (.ptr 1 0)), (6, (.ptr 2 0))] [13] asg0 bd0 .ready none)), (1, (cellsO (D.int .u32) a0)), (2, (.cells [(.d (.int .u32 (bitsA .xor .u32 (Int.fdiv y7_2 (2 ^ (min ((8 : Int)).toNat IntKind.u32.bits))) (List.getD a0 ((bitsA .xor .u8 (IntKind.u8.wrap y7_2) (((rd a2 y7_1).toNat : Nat) : Int))).toNat default))))]))] from ARound.use (B264_25 hmix hc.2 ha0 hb0 e30) [(0, 0), (1, 1), (2, 2)] 3 rfl) rfl rfl rfl (.cons (.refl _) .nil) rfl (hasCons rfl (hasCons rfl (hasCons rfl hasNil))) rfl rfl rfl rfl ?_
    refine RegV.p0 (v := (.d (.bool false))) rfl rfl rfl ?_
    refine RegV.nil0 ?_
    refine AWc.cond rfl (fun hc => by cases hc) (fun _ => ?_)
    refine AWc.skip ?_
    refine AWc.rg hmix rfl rfl ?_
    refine RegV.p0 (v := (.d (.int .i64 (IntKind.i64.wrap (y7_1 + (1 : Int)))))) rfl rfl rfl ?_
    refine RegV.p0 rfl rfl rfl ?_
    refine RegV.nil0 ?_
    exact ⟨((IntKind.i64.wrap (y7_1 + (1 : Int))), (bitsA .xor .u32 (Int.fdiv y7_2 (2 ^ (min ((8 : Int)).toNat IntKind.u32.bits))) (List.getD a0 ((bitsA .xor .u8 (IntKind.u8.wrap y7_2) (((rd a2 y7_1).toNat : Nat) : Int))).toNat default))), h7, ⟨rfl, [], [], rfl, rfl, ⟨⟨_, rfl, (.refl _)⟩, rfl, ⟨⟨_, rfl, (.refl _)⟩, rfl, ⟨⟨_, rfl, (.refl _)⟩, rfl, ⟨⟨_, rfl, (.refl _)⟩, rfl, trivial⟩⟩⟩⟩, ⟨⟨_, rfl, (.refl _)⟩, rfl, rfl, ⟨⟨_, rfl, (.refl _)⟩, rfl, rfl, ⟨⟨_, rfl, (.refl _)⟩, rfl, rfl, ⟨⟨_, rfl, (.refl _)⟩, rfl, rfl, trivial⟩⟩⟩⟩⟩⟩
  · have h7 := cond_neg c14 h7
    cases h7
    dsimp only at h
    refine AWc.exit ?_
    refine inBlk_eq ?_
    have hr := Option.some.inj h
    subst hr
    exact canQ (N := 16) (k := 4) (l' := []) (H' := [(0, (.lp 25 [(5, (.ptr 1 0)), (6, (.ptr 2 0))] [13] asg0 bd0 .ready none)), (1, (cellsO (D.int .u32) a0)), (2, (.cells [(.d (.int .u32 y7_2))])), (3, (.cells [(.d (.sl (List.map byteD a2)))]))]) rfl ⟨rfl, [], [], rfl, rfl,  trivial, ⟨⟨_, rfl, (.refl _)⟩, rfl, rfl, ⟨⟨_, rfl, (.refl _)⟩, rfl, rfl, ⟨⟨_, rfl, (.refl _)⟩, rfl, rfl, ⟨⟨_, rfl, (.refl _)⟩, rfl, rfl, trivial⟩⟩⟩⟩⟩ (doneA (.inl rfl) rfl trivial (.refl _) (hasCons rfl (hasCons rfl (hasCons rfl (hasCons rfl hasNil)))))
def HC264 (P : Program) (N : Nat → Nat) : Prop := HasF P (N 264) (C264 N) ∧ HC265 P N ∧ HC266 P N ∧ HC267 P N
def f264 (k : Nat) (a0 : Int) (a1 : (List UInt8)) : Option Int := (f265 k).bind fun r8 => gd ((List.replicate 256 (default : Int)).length * 1 = 256 ∧ r8.length * 1 = 256) ((f266 k a1).bind fun r23 => (f267 k r8 (bitsA .xor .u32 a0 (4294967295 : Int)) a1).bind fun rf25 => some (bitsA .xor .u32 rf25 (4294967295 : Int)))
theorem F264 {P : Program} {N : Nat → Nat} (hmix : P.follows .mixedOrders = true) (hc : HC264 P N) {k : Nat} {a0 : Int} {a1 : (List UInt8)} {r : Int} (h : f264 k a0 a1 = some r) :
    ACalls P (N 264) [(.d (.int .u32 a0)), (.d (.sl (List.map byteD a1)))] [] (.d (.int .u32 r)) [] := by
  refine acalls_canon (F := C264 N) hc.1 0 0 rfl ?_
  unfold f264 at h
  dsimp only [C264, startL]
  refine AWc.seq ?_
  refine AWc.rg hmix rfl rfl ?_
  refine RegV.p0 rfl rfl rfl ?_
  refine RegV.nil0 ?_
  refine AWc.seq ?_
  refine AWc.rg hmix rfl rfl ?_
  obtain ⟨r8, e8, h⟩ := bind_some h
  refine RegV.call0 (F265 hmix hc.2.1 e8) rfl rfl rfl rfl .nil rfl ?_
  refine RegV.newA (e := (D.int .u32)) (xs := (List.replicate 256 (default : Int))) rfl (by kernel_rfl) rfl rfl ?_
  obtain ⟨b10, h⟩ := gd_some h
  refine RegV.stA (e := (D.int .u32)) (xs := (List.replicate 256 (default : Int))) (ys := r8) (H' := [(0, (cellsO (D.int .u32) r8))]) rfl rfl rfl (int_ok _) rfl b10 rfl rfl rfl ?_
  refine RegV.nil0 ?_
  refine AWc.seq ?_
  refine AWc.rg hmix rfl rfl ?_
  refine RegV.p0 rfl rfl rfl ?_
  refine RegV.p0 (v := (.d (.int .u32 (bitsA .xor .u32 a0 (4294967295 : Int))))) rfl rfl rfl ?_
  refine RegV.evS (own := false) (v := (.ptr 1 0)) (H' := [(1, (.cells [(.d (.int .u32 (0 : Int)))])), (0, (cellsO (D.int .u32) r8))]) (c' := 2) rfl rfl trivial rfl rfl rfl rfl rfl rfl ?_
  refine RegV.evN (own := false) (H' := [(1, (.cells [(.d (.int .u32 (bitsA .xor .u32 a0 (4294967295 : Int))))])), (0, (cellsO (D.int .u32) r8))]) (c' := 2) rfl rfl (by exact ⟨rfl, Nat.le_of_ble_eq_true rfl, rfl⟩) rfl rfl rfl rfl ?_
  refine RegV.nil0 ?_
  refine AWc.seq ?_
  refine AWc.seq ?_
  refine AWc.rg hmix rfl rfl ?_
  refine RegV.p0 rfl rfl rfl ?_
  obtain ⟨r23, e23, h⟩ := bind_some h
  refine RegV.callS (q := false) (H' := [(2, (.cells [(.d (.sl (List.map byteD a1)))])), (1, (.cells [(.d (.int .u32 (bitsA .xor .u32 a0 (4294967295 : Int))))])), (0, (cellsO (D.int .u32) r8))]) (c' := 3) (show ACalls P (N 266) [(.d (.sl (List.map byteD a1)))] [] (.fn (N 267) [(.ptr 2 0)]) [(2, (.cells [(.d (.sl (List.map byteD a1)))]))] from ACalls.use (F266 hmix hc.2.2.1 e23) [(0, 2)] 1 rfl) rfl rfl rfl rfl (.cons (.refl _) .nil) (.refl _) (fun h => by cases h) rfl hasNil rfl rfl rfl rfl ?_
  refine RegV.nil0 ?_
  refine AWc.block ?_
  refine AWc.rangeFunc [(5, (.ptr 0 0)), (6, (.ptr 1 0))] rfl rfl rfl rfl ⟨rfl, rfl, trivial⟩ (fun asgU25 bdU25 haU25 hbU25 => ?_)
  obtain ⟨rf25, ef25, h⟩ := bind_some h
  refine rfN (H' := [(0, (cellsO (D.int .u32) r8)), (1, (.cells [(.d (.int .u32 rf25))])), (2, (.cells [(.d (.sl (List.map byteD a1)))]))]) (c' := 4) (show ACalls P (N 267) [(.lf 3), (.ptr 2 0)] [(3, (.lp 25 [(5, (.ptr 0 0)), (6, (.ptr 1 0))] [13] asgU25 bdU25 .ready none)), (0, (cellsO (D.int .u32) r8)), (1, (.cells [(.d (.int .u32 (bitsA .xor .u32 a0 (4294967295 : Int))))])), (2, (.cells [(.d (.sl (List.map byteD a1)))]))] (.tup []) [(3, (.lp 25 [(5, (.ptr 0 0)), (6, (.ptr 1 0))] [13] asgU25 bdU25 .ready none)), (0, (cellsO (D.int .u32) r8)), (1, (.cells [(.d (.int .u32 rf25))])), (2, (.cells [(.d (.sl (List.map byteD a1)))]))] from ACalls.use (F267 hmix hc.2.2.2 haU25 hbU25 ef25) [(0, 3), (1, 0), (2, 1), (3, 2)] 4 rfl) (.cons (.refl _) (.cons (.refl _) .nil)) (hasCons rfl (hasCons rfl (hasCons rfl (hasCons rfl hasNil)))) rfl rfl rfl rfl rfl ?_
  refine AWc.seq ?_
  refine AWc.rg hmix rfl rfl ?_
  refine RegV.ld (v := (.d (.int .u32 rf25))) (H' := [(1, (.cells [(.d (.int .u32 rf25))])), (0, (cellsO (D.int .u32) r8)), (2, (.cells [(.d (.sl (List.map byteD a1)))]))]) rfl rfl trivial rfl rfl rfl rfl rfl ?_
  refine RegV.p0 (v := (.d (.int .u32 (bitsA .xor .u32 rf25 (4294967295 : Int))))) rfl rfl rfl ?_
  refine RegV.p0 rfl rfl rfl ?_
  refine RegV.nil0 ?_
  have hr := Option.some.inj h
  subst hr
  exact AWc.ret (canQ (N := 25) (k := 0) (l' := [(4, (.d (.int .u32 (bitsA .xor .u32 rf25 (4294967295 : Int)))))]) (H' := []) rfl ⟨rfl, [], [], rfl, rfl, ⟨⟨_, rfl, (.refl _)⟩, rfl, trivial⟩,  trivial⟩ (doneA (.inr rfl) rfl ⟨trivial, trivial⟩ (.refl _) hasNil))
/-- courant/crc.Sum -/
def C263 (N : Nat → Nat) : AFunc := { n := 5, params := 1, res := [.tmp 2], body :=
 (.seq (.region false [⟨(some 2), .mv (.k (.d (.int .u32 0))), none, []⟩])
  (.seq (.region false [⟨(some 3), .mv (.t 0), none, []⟩,
    ⟨(some 4), .call (.k (.d (.fn (N 264)))) [(.k (.d (.int .u32 0))), (.t 3)], none, [0]⟩,
    ⟨(some 2), .mv (.t 4), none, [1, 0]⟩])
   .ret)) }
def HC263 (P : Program) (N : Nat → Nat) : Prop := HasF P (N 263) (C263 N) ∧ HC264 P N
def f263 (k : Nat) (a0 : (List UInt8)) : Option Int := (f264 k (0 : Int) a0).bind fun r9 => some r9
theorem F263 {P : Program} {N : Nat → Nat} (hmix : P.follows .mixedOrders = true) (hc : HC263 P N) {k : Nat} {a0 : (List UInt8)} {r : Int} (h : f263 k a0 = some r) :
    ACalls P (N 263) [(.d (.sl (List.map byteD a0)))] [] (.d (.int .u32 r)) [] := by
  refine acalls_canon (F := C263 N) hc.1 0 0 rfl ?_
  unfold f263 at h
  dsimp only [C263, startL]
  refine AWc.seq ?_
  refine AWc.rg hmix rfl rfl ?_
  refine RegV.p0 rfl rfl rfl ?_
  refine RegV.nil0 ?_
  refine AWc.seq ?_
  refine AWc.rg hmix rfl rfl ?_
  refine RegV.p0 rfl rfl rfl ?_
  obtain ⟨r9, e9, h⟩ := bind_some h
  refine RegV.call0 (F264 hmix hc.2 e9) rfl rfl rfl rfl (.cons (.refl _) (.cons (.refl _) .nil)) rfl ?_
  refine RegV.p0 rfl rfl rfl ?_
  refine RegV.nil0 ?_
  have hr := Option.some.inj h
  subst hr
  exact AWc.ret (canQ (N := 5) (k := 0) (l' := [(2, (.d (.int .u32 r9)))]) (H' := []) rfl ⟨rfl, [], [], rfl, rfl, ⟨⟨_, rfl, (.refl _)⟩, rfl, trivial⟩,  trivial⟩ (doneA (.inr rfl) rfl ⟨trivial, trivial⟩ (.refl _) hasNil))
/-- courant/frame.Make -/
def C223 (N : Nat → Nat) : AFunc := { n := 26, params := 2, res := [.tmp 4, .tmp 5], body :=
 (.seq (.region false [⟨(some 4), .mv (.k .nils), none, []⟩,
   ⟨(some 5), .mv (.k (.d (.int .i64 0))), none, [0]⟩])
  (.seq (.seq (.region false [⟨(some 7), .mv (.t 1), none, []⟩,
     ⟨(some 8), .len (.t 7), none, [0]⟩,
     ⟨(some 9), .bin .gtr (.t 8) (.k (.d (.int .i64 32768))), none, [1]⟩])
    (.cond (.t 9) (.seq (.region false [⟨(some 4), .mv (.k .nils), none, []⟩,
       ⟨(some 5), .mv (.k (.d (.int .i64 5))), none, [0]⟩])
      .ret)
     (.skip)))
   (.seq (.region false [⟨(some 10), .mv (.t 0), none, []⟩,
     ⟨(some 11), .call (.k (.d (.fn (N 224)))) [(.t 10), (.k (.d (.int .i64 8)))], none, [0]⟩,
     ⟨(some 12), .mv (.t 1), none, []⟩,
     ⟨(some 13), .bslice 2 1 [(.sl [])] [(0, (.t 11)), (1, (.t 12))], none, [1, 2]⟩,
     ⟨(some 14), .call (.k (.d (.fn (N 91)))) [(.t 13)], none, [3, 1]⟩,
     ⟨(some 6), .mv (.t 14), none, [4, 0, 1, 2, 3]⟩])
    (.seq (.region false [⟨(some 15), .mv (.t 1), none, []⟩,
      ⟨(some 16), .len (.t 15), none, [0]⟩,
      ⟨(some 17), .cvi .u64 (.t 16), none, [1]⟩,
      ⟨(some 18), .call (.k (.d (.fn (N 224)))) [(.t 17), (.k (.d (.int .i64 4)))], none, [2]⟩,
      ⟨(some 19), .mv (.t 6), none, []⟩,
      ⟨(some 20), .call (.k (.d (.fn (N 263)))) [(.t 19)], none, [4, 3]⟩,
      ⟨(some 21), .cvi .u64 (.t 20), none, [5]⟩,
      ⟨(some 22), .call (.k (.d (.fn (N 224)))) [(.t 21), (.k (.d (.int .i64 4)))], none, [6, 5]⟩,
      ⟨(some 23), .mv (.t 6), none, []⟩,
      ⟨(some 24), .bslice 3 1 [(.sl [])] [(0, (.t 18)), (1, (.t 22)), (2, (.t 23))], none, [3, 7, 8]⟩,
      ⟨(some 25), .call (.k (.d (.fn (N 91)))) [(.t 24)], none, [9, 7]⟩,
      ⟨(some 4), .mv (.t 25), none, [10, 0, 1, 2, 3, 4, 5, 6, 7, 8, 9]⟩,
      ⟨(some 5), .mv (.k (.d (.int .i64 0))), none, [11, 0, 1, 2, 3, 4, 5, 6, 7, 8, 9, 10]⟩])
     .ret)))) }
def HC223 (P : Program) (N : Nat → Nat) : Prop := HasF P (N 223) (C223 N) ∧ HC224 P N ∧ HC91 P N ∧ HC263 P N
def f223 (k : Nat) (a0 : Int) (a1 : (List UInt8)) : Option ((List UInt8) × Int) := cond (decide (((a1.length : Nat) : Int) > (32768 : Int))) (some (([] : List UInt8), (5 : Int))) ((f224 k a0 (8 : Int)).bind fun r25 => (f91 k ([r25, a1] : List (List UInt8))).bind fun r28 => (f224 k (IntKind.u64.wrap ((a1.length : Nat) : Int)) (4 : Int)).bind fun r36 => (f263 k r28).bind fun r38 => (f224 k (IntKind.u64.wrap r38) (4 : Int)).bind fun r40 => (f91 k ([r36, r40, r28] : List (List UInt8))).bind fun r43 => some (r43, (0 : Int)))
theorem F223 {P : Program} {N : Nat → Nat} (hmix : P.follows .mixedOrders = true) (hc : HC223 P N) {k : Nat} {a0 : Int} {a1 : (List UInt8)} {r : ((List UInt8) × Int)} (h : f223 k a0 a1 = some r) :
    ACalls P (N 223) [(.d (.int .u64 a0)), (.d (.sl (List.map byteD a1)))] [] (.tup [(.ap 0 1 (List.map byteD r.1)), (.d (.int .i64 r.2))]) [(0, (.tok ((List.map byteD r.1).length * 1)))] := by
  refine acalls_canon (F := C223 N) hc.1 0 1 rfl ?_
  unfold f223 at h
  dsimp only [C223, startL]
  refine AWc.seq ?_
  refine AWc.rg hmix rfl rfl ?_
  refine RegV.p0 rfl rfl rfl ?_
  refine RegV.p0 rfl rfl rfl ?_
  refine RegV.nil0 ?_
  refine AWc.seq ?_
  refine AWc.seq ?_
  refine AWc.rg hmix rfl rfl ?_
  refine RegV.p0 rfl rfl rfl ?_
  refine RegV.len (xs := a1) (e := byteD) rfl rfl rfl rfl ?_
  refine RegV.p0 (v := (.d (.bool (decide (((a1.length : Nat) : Int) > (32768 : Int)))))) rfl rfl rfl ?_
  refine RegV.nil0 ?_
  refine AWc.cond rfl (fun c13 => ?_) (fun c13 => ?_)
  · have h := cond_pos c13 h
    refine AWc.seq ?_
    refine AWc.rg hmix rfl rfl ?_
    refine RegV.p0 rfl rfl rfl ?_
    refine RegV.p0 rfl rfl rfl ?_
    refine RegV.nil0 ?_
    have hr := Option.some.inj h
    subst hr
    exact AWc.ret (canQ (N := 26) (k := 1) (l' := [(4, (.ap 0 1 (List.map byteD ([] : List UInt8)))), (5, (.d (.int .i64 (5 : Int))))]) (H' := [(0, (.tok ((List.map byteD ([] : List UInt8)).length * 1)))]) rfl ⟨rfl, [.tok 0], [(0, 0)], rfl, rfl, ⟨⟨_, rfl, .nil⟩, rfl, ⟨⟨_, rfl, (.refl _)⟩, rfl, trivial⟩⟩, ⟨⟨_, rfl, (.refl _)⟩, rfl, rfl, trivial⟩⟩ (doneA (.inr rfl) rfl ⟨trivial, ⟨trivial, trivial⟩⟩ (.refl _) (hasCons rfl hasNil)))
  · have h := cond_neg c13 h
    refine AWc.skip ?_
    refine AWc.seq ?_
    refine AWc.rg hmix rfl rfl ?_
    refine RegV.p0 rfl rfl rfl ?_
    obtain ⟨r25, e25, h⟩ := bind_some h
    refine RegV.call0 (F224 hmix hc.2.1 e25) rfl rfl rfl rfl (.cons (.refl _) (.cons (.refl _) .nil)) rfl ?_
    refine RegV.p0 rfl rfl rfl ?_
    refine RegV.p1 (v := (.d (.sl (List.map (slE byteD) ([r25, a1] : List (List UInt8)))))) rfl rfl (by exact ⟨rfl, Nat.le_of_ble_eq_true rfl, mapLen (e := (slE byteD)) (xs := ([r25, a1] : List (List UInt8))) (z := 1) (fun _ => rfl)⟩) rfl rfl ?_
    obtain ⟨r28, e28, h⟩ := bind_some h
    refine RegV.callS (q := false) (H' := [(0, (.tok ((List.map byteD r28).length * 1)))]) (c' := 1) (show ACalls P (N 91) [(.d (.sl (List.map (slE byteD) ([r25, a1] : List (List UInt8)))))] [] (.ap 0 1 (List.map byteD r28)) [(0, (.tok ((List.map byteD r28).length * 1)))] from ACalls.use (F91 hmix hc.2.2.1 e28) [(0, 0)] 1 rfl) rfl rfl rfl rfl (.cons (.refl _) .nil) (.refl _) (fun h => by cases h) rfl hasNil rfl rfl rfl rfl ?_
    refine RegV.p0 rfl rfl rfl ?_
    refine RegV.nil0 ?_
    refine AWc.seq ?_
    refine AWc.rg hmix rfl rfl ?_
    refine RegV.p0 rfl rfl rfl ?_
    refine RegV.len (xs := a1) (e := byteD) rfl rfl rfl rfl ?_
    refine RegV.p0 (v := (.d (.int .u64 (IntKind.u64.wrap ((a1.length : Nat) : Int))))) rfl rfl rfl ?_
    obtain ⟨r36, e36, h⟩ := bind_some h
    refine RegV.call0 (F224 hmix hc.2.1 e36) rfl rfl rfl rfl (.cons (.refl _) (.cons (.refl _) .nil)) rfl ?_
    refine RegV.p0 rfl rfl rfl ?_
    obtain ⟨r38, e38, h⟩ := bind_some h
    refine RegV.call0 (F263 hmix hc.2.2.2 e38) rfl rfl rfl rfl (.cons (.sl rfl) .nil) rfl ?_
    refine RegV.p0 (v := (.d (.int .u64 (IntKind.u64.wrap r38)))) rfl rfl rfl ?_
    obtain ⟨r40, e40, h⟩ := bind_some h
    refine RegV.call0 (F224 hmix hc.2.1 e40) rfl rfl rfl rfl (.cons (.refl _) (.cons (.refl _) .nil)) rfl ?_
    refine RegV.p0 rfl rfl rfl ?_
    refine RegV.p1 (v := (.d (.sl (List.map (slE byteD) ([r36, r40, r28] : List (List UInt8)))))) rfl rfl (by exact ⟨rfl, Nat.le_of_ble_eq_true rfl, mapLen (e := (slE byteD)) (xs := ([r36, r40, r28] : List (List UInt8))) (z := 1) (fun _ => rfl)⟩) rfl rfl ?_
    obtain ⟨r43, e43, h⟩ := bind_some h
    refine RegV.callS (q := false) (H' := [(1, (.tok ((List.map byteD r43).length * 1))), (0, (.tok ((List.map byteD r28).length * 1)))]) (c' := 2) (show ACalls P (N 91) [(.d (.sl (List.map (slE byteD) ([r36, r40, r28] : List (List UInt8)))))] [] (.ap 1 1 (List.map byteD r43)) [(1, (.tok ((List.map byteD r43).length * 1)))] from ACalls.use (F91 hmix hc.2.2.1 e43) [(0, 1)] 1 rfl) rfl rfl rfl rfl (.cons (.refl _) .nil) (.refl _) (fun h => by cases h) rfl hasNil rfl rfl rfl rfl ?_
    refine RegV.p0 rfl rfl rfl ?_
    refine RegV.p0 rfl rfl rfl ?_
    refine RegV.nil0 ?_
    have hr := Option.some.inj h
    subst hr
    exact AWc.ret (canQ (N := 26) (k := 1) (l' := [(4, (.ap 0 1 (List.map byteD r43))), (5, (.d (.int .i64 (0 : Int))))]) (H' := [(0, (.tok ((List.map byteD r43).length * 1)))]) rfl ⟨rfl, [], [(0, 1)], rfl, rfl, ⟨⟨_, rfl, (.refl _)⟩, rfl, ⟨⟨_, rfl, (.refl _)⟩, rfl, trivial⟩⟩, ⟨⟨_, rfl, (.refl _)⟩, rfl, rfl, trivial⟩⟩ (doneA (.inr rfl) rfl ⟨trivial, ⟨trivial, trivial⟩⟩ (.refl _) (hasCons rfl hasNil)))
/-- courant/courantlaw18.awake -/
def C222 (N : Nat → Nat) : AFunc := { n := 20, params := 0, res := [.tmp 0], body :=
 (.seq (.region false [⟨(some 0), .mv (.k (.d (.bool false))), none, []⟩])
  (.seq (.region false [⟨(some 4), .call (.k (.d (.fn (N 223)))) [(.k (.d (.int .u64 1))), (.k .nils)], none, []⟩,
    ⟨(some 3), .mv (.t 4), none, [0]⟩,
    ⟨(some 5), .ext (.t 3) 0, none, [1]⟩,
    ⟨(some 6), .ext (.t 3) 1, none, [1]⟩,
    ⟨(some 1), .mv (.t 5), none, [2, 0, 1]⟩,
    ⟨(some 2), .mv (.t 6), none, [3, 4, 0, 1, 2]⟩])
   (.seq (.region false [⟨(some 7), .mv (.t 2), none, []⟩,
     ⟨(some 8), .bin .eql (.t 7) (.k (.d (.int .i64 0))), none, [0]⟩,
     ⟨(some 9), .mv (.t 8), none, [1]⟩,
     ⟨(some 10), .mv (.t 1), (some (9, true)), [2]⟩,
     ⟨(some 11), .len (.t 10), (some (9, true)), [3, 2]⟩,
     ⟨(some 12), .bin .eql (.t 11) (.k (.d (.int .i64 16))), (some (9, true)), [4, 2]⟩,
     ⟨(some 13), .pick (.t 9) (.t 12) (.k (.d (.bool false))), none, [2, 5]⟩,
     ⟨(some 14), .mv (.t 13), none, [6, 2]⟩,
     ⟨(some 15), .mv (.t 1), (some (14, true)), [7]⟩,
     ⟨(some 16), .iaddr (.t 15) (.k (.d (.int .i64 15))) 1, (some (14, true)), [8, 7]⟩,
     ⟨(some 17), .load (.t 16) 1 false, (some (14, true)), [9, 7]⟩,
     ⟨(some 18), .bin .eql (.t 17) (.k (.d (.int .u8 1))), (some (14, true)), [10, 7]⟩,
     ⟨(some 19), .pick (.t 14) (.t 18) (.k (.d (.bool false))), none, [7, 11]⟩,
     ⟨(some 0), .mv (.t 19), none, [12, 7, 0, 1, 2, 3, 4, 5, 6, 8, 9, 10, 11]⟩])
    .ret))) }
def HC222 (P : Program) (N : Nat → Nat) : Prop := HasF P (N 222) (C222 N) ∧ HC223 P N
def f222 (k : Nat) : Option Bool := (f223 k (1 : Int) ([] : List UInt8)).bind fun r8 => cond (decide (r8.2 = (0 : Int))) (cond (decide (((r8.1.length : Nat) : Int) = (16 : Int))) (gd (0 ≤ (15 : Int) ∧ (15 : Int) < ((r8.1.length : Nat) : Int)) (some (decide ((((rd r8.1 (15 : Int)).toNat : Nat) : Int) = (1 : Int))))) (some false)) (some false)
theorem F222 {P : Program} {N : Nat → Nat} (hmix : P.follows .mixedOrders = true) (hc : HC222 P N) {k : Nat} {r : Bool} (h : f222 k = some r) :
    ACalls P (N 222) [] [] (.d (.bool r)) [] := by
  refine acalls_canon (F := C222 N) hc.1 0 0 rfl ?_
  unfold f222 at h
  dsimp only [C222, startL]
  refine AWc.seq ?_
  refine AWc.rg hmix rfl rfl ?_
  refine RegV.p0 rfl rfl rfl ?_
  refine RegV.nil0 ?_
  refine AWc.seq ?_
  refine AWc.rg hmix rfl rfl ?_
  obtain ⟨r8, e8, h⟩ := bind_some h
  refine RegV.callS (q := false) (H' := [(0, (.tok ((List.map byteD r8.1).length * 1)))]) (c' := 1) (show ACalls P (N 223) [(.d (.int .u64 (1 : Int))), (.d (.sl (List.map byteD ([] : List UInt8))))] [] (.tup [(.ap 0 1 (List.map byteD r8.1)), (.d (.int .i64 r8.2))]) [(0, (.tok ((List.map byteD r8.1).length * 1)))] from ACalls.use (F223 hmix hc.2 e8) [(0, 0)] 1 rfl) rfl rfl rfl rfl (.cons (.refl _) (.cons (.sl rfl) .nil)) (.refl _) (fun h => by cases h) rfl hasNil rfl rfl rfl rfl ?_
  refine RegV.p0 rfl rfl rfl ?_
  refine RegV.p0 rfl rfl rfl ?_
  refine RegV.p0 rfl rfl rfl ?_
  refine RegV.p0 rfl rfl rfl ?_
  refine RegV.p0 rfl rfl rfl ?_
  refine RegV.nil0 ?_
  refine AWc.seq ?_
  refine AWc.rg hmix rfl rfl ?_
  refine RegV.p0 rfl rfl rfl ?_
  refine RegV.p0 (v := (.d (.bool (decide (r8.2 = (0 : Int)))))) rfl rfl rfl ?_
  refine RegV.p0 rfl rfl rfl ?_
  refine RegV.split (fun c19 => ?_) (fun c19 => ?_)
  · have h := cond_pos c19 h
    refine RegV.p0 rfl rfl rfl ?_
    refine RegV.len (xs := r8.1) (e := byteD) rfl rfl rfl rfl ?_
    refine RegV.p0 (v := (.d (.bool (decide (((r8.1.length : Nat) : Int) = (16 : Int)))))) rfl rfl rfl ?_
    refine RegV.p0 rfl rfl rfl ?_
    refine RegV.p0 rfl rfl rfl ?_
    refine RegV.split (fun c24 => ?_) (fun c24 => ?_)
    · have h := cond_pos c24 h
      refine RegV.p0 rfl rfl rfl ?_
      obtain ⟨b26, h⟩ := gd_some h
      refine RegV.iad (xs := r8.1) (e := byteD) rfl rfl rfl rfl (fun _ => rfl) b26 rfl ?_
      refine RegV.p0 (v := (.d (.int .u8 (((rd r8.1 (15 : Int)).toNat : Nat) : Int)))) rfl rfl rfl ?_
      refine RegV.p0 (v := (.d (.bool (decide ((((rd r8.1 (15 : Int)).toNat : Nat) : Int) = (1 : Int)))))) rfl rfl rfl ?_
      refine RegV.p0 rfl rfl rfl ?_
      refine RegV.p0 rfl rfl rfl ?_
      refine RegV.nil0 ?_
      have hr := Option.some.inj h
      subst hr
      exact AWc.ret (canQ (N := 20) (k := 0) (l' := [(0, (.d (.bool (decide ((((rd r8.1 (15 : Int)).toNat : Nat) : Int) = (1 : Int))))))]) (H' := []) rfl ⟨rfl, [], [], rfl, rfl, ⟨⟨_, rfl, (.refl _)⟩, rfl, trivial⟩,  trivial⟩ (doneA (.inr rfl) rfl ⟨trivial, trivial⟩ (.refl _) hasNil))
    · have h := cond_neg c24 h
      refine RegV.noS rfl rfl ?_
      refine RegV.noS rfl rfl ?_
      refine RegV.noS rfl rfl ?_
      refine RegV.noS rfl rfl ?_
      refine RegV.p0 rfl rfl rfl ?_
      refine RegV.p0 rfl rfl rfl ?_
      refine RegV.nil0 ?_
      have hr := Option.some.inj h
      subst hr
      exact AWc.ret (canQ (N := 20) (k := 0) (l' := [(0, (.d (.bool false)))]) (H' := []) rfl ⟨rfl, [], [], rfl, rfl, ⟨⟨_, rfl, (.refl _)⟩, rfl, trivial⟩,  trivial⟩ (doneA (.inr rfl) rfl ⟨trivial, trivial⟩ (.refl _) hasNil))
  · have h := cond_neg c19 h
    refine RegV.noS rfl rfl ?_
    refine RegV.noS rfl rfl ?_
    refine RegV.noS rfl rfl ?_
    refine RegV.p0 rfl rfl rfl ?_
    refine RegV.p0 rfl rfl rfl ?_
    refine RegV.noS rfl rfl ?_
    refine RegV.noS rfl rfl ?_
    refine RegV.noS rfl rfl ?_
    refine RegV.noS rfl rfl ?_
    refine RegV.p0 rfl rfl rfl ?_
    refine RegV.p0 rfl rfl rfl ?_
    refine RegV.nil0 ?_
    have hr := Option.some.inj h
    subst hr
    exact AWc.ret (canQ (N := 20) (k := 0) (l' := [(0, (.d (.bool false)))]) (H' := []) rfl ⟨rfl, [], [], rfl, rfl, ⟨⟨_, rfl, (.refl _)⟩, rfl, trivial⟩,  trivial⟩ (doneA (.inr rfl) rfl ⟨trivial, trivial⟩ (.refl _) hasNil))
/-- courant/couranthelp.Own[byte] -/
def C21 (N : Nat → Nat) : AFunc := { n := 33, params := 2, res := [.tmp 4], body :=
 (.seq (.region false [⟨(some 4), .mv (.k .nils), none, []⟩])
  (.seq (.region false [⟨(some 8), .mv (.t 0), none, []⟩,
    ⟨(some 9), .len (.t 8), none, [0]⟩,
    ⟨(some 10), .bin .add (.t 9) (.k (.d (.int .i64 3))), none, [1]⟩,
    ⟨(some 11), .mksl (.k (.d (.int .i64 0))) (.t 10) 1 1 [(.int .u8 0)], none, [2]⟩,
    ⟨(some 5), .mv (.t 11), none, [3, 0, 1, 2]⟩])
   (.seq (.region false [⟨(some 12), .mv (.t 5), none, []⟩,
     ⟨(some 13), .mv (.t 0), none, []⟩,
     ⟨(some 14), .app (.t 12) (.t 13) 1 1 [(.int .u8 0)], none, [0, 1]⟩,
     ⟨(some 5), .mv (.t 14), none, [2, 0, 1]⟩])
    (.seq (.region false [⟨(some 15), .mv (.t 5), none, []⟩,
      ⟨(some 16), .mv (.t 0), none, []⟩,
      ⟨(some 17), .len (.t 16), none, [1]⟩,
      ⟨(some 18), .bin .add (.t 17) (.k (.d (.int .i64 3))), none, [2]⟩,
      ⟨(some 19), .slc (.t 15) none (some (.t 18)) none 1, none, [0, 3]⟩,
      ⟨(some 6), .mv (.t 19), none, [4, 0, 1, 2, 3]⟩])
     (.seq (.seq (.region false [⟨(some 20), .mv (.t 0), none, []⟩,
        ⟨(some 21), .len (.t 20), none, [0]⟩,
        ⟨(some 7), .mv (.t 21), none, [1, 0]⟩])
       (.block 0 (.loop (.seq (.seq (.region false [⟨(some 22), .mv (.t 7), none, []⟩,
            ⟨(some 23), .mv (.t 6), none, []⟩,
            ⟨(some 24), .len (.t 23), none, [1]⟩,
            ⟨(some 25), .bin .lss (.t 22) (.t 24), none, [0, 2]⟩])
           (.cond (.t 25) (.skip)
            (.exit 0)))
          (.seq (.block 1 (.region false [⟨(some 28), .mv (.t 6), none, []⟩,
             ⟨(some 29), .mv (.t 7), none, []⟩,
             ⟨(some 30), .mv (.t 1), none, []⟩,
             ⟨(some 31), .iaddr (.t 28) (.t 29) 1, none, [0, 1, 2]⟩,
             ⟨none, .store (.t 31) (.t 30) 1, none, [3, 2, 0, 1]⟩]))
           (.region false [⟨(some 26), .mv (.t 7), none, []⟩,
            ⟨(some 27), .bin .add (.t 26) (.k (.d (.int .i64 1))), none, [0]⟩,
            ⟨(some 7), .mv (.t 27), none, [1, 0]⟩]))))))
      (.seq (.region false [⟨(some 32), .mv (.t 5), none, []⟩,
        ⟨(some 4), .mv (.t 32), none, [0]⟩])
       .ret)))))) }
def HC21 (P : Program) (N : Nat → Nat) : Prop := HasF P (N 21) (C21 N)
def f21_l36 (a0 : (List UInt8)) (a1 : UInt8) : Nat → Int → (List UInt8) → Option (LR2 (List UInt8) Unit (List UInt8))
  | 0, _, _ => none
  | k + 1, y36_1, y36_2 => cond (decide (y36_1 < ((((IntKind.i64.wrap (((a0.length : Nat) : Int) + (3 : Int)))).toNat : Nat) : Int))) (gd (0 ≤ y36_1 ∧ y36_1 < ((((IntKind.i64.wrap (((a0.length : Nat) : Int) + (3 : Int)))).toNat : Nat) : Int)) (gd ((y36_1).toNat < y36_2.length) (f21_l36 a0 a1 k (IntKind.i64.wrap (y36_1 + (1 : Int))) (List.set y36_2 (y36_1).toNat a1)))) (some (.b0 y36_2))
def f21 (k : Nat) (a0 : (List UInt8)) (a1 : UInt8) : Option (List UInt8) := gd (0 ≤ (0 : Int) ∧ (0 : Int) ≤ (IntKind.i64.wrap (((a0.length : Nat) : Int) + (3 : Int))) ∧ (IntKind.i64.wrap (((a0.length : Nat) : Int) + (3 : Int))) * 1 ≤ 281474976710656) (gd (((0 : Int)).toNat + a0.length ≤ ((IntKind.i64.wrap (((a0.length : Nat) : Int) + (3 : Int)))).toNat ∧ ((IntKind.i64.wrap (((a0.length : Nat) : Int) + (3 : Int)))).toNat ≤ (List.replicate ((IntKind.i64.wrap (((a0.length : Nat) : Int) + (3 : Int)))).toNat (default : UInt8)).length) (gd (0 ≤ (IntKind.i64.wrap (((a0.length : Nat) : Int) + (3 : Int))) ∧ (IntKind.i64.wrap (((a0.length : Nat) : Int) + (3 : Int))) ≤ ((((IntKind.i64.wrap (((a0.length : Nat) : Int) + (3 : Int)))).toNat : Nat) : Int)) ((f21_l36 a0 a1 k ((a0.length : Nat) : Int) (List.take (((0 : Int)).toNat) (List.replicate ((IntKind.i64.wrap (((a0.length : Nat) : Int) + (3 : Int)))).toNat (default : UInt8)) ++ a0 ++ List.drop (((0 : Int)).toNat + a0.length) (List.replicate ((IntKind.i64.wrap (((a0.length : Nat) : Int) + (3 : Int)))).toNat (default : UInt8)))).bind fun o36 => match o36 with | .b0 x36_1 => gd (((((0 : Int)).toNat + a0.length) ≤ x36_1.length ∧ ((IntKind.i64.wrap (((a0.length : Nat) : Int) + (3 : Int)))).toNat = x36_1.length)) (some x36_1) | _ => none)))
theorem F21 {P : Program} {N : Nat → Nat} (hmix : P.follows .mixedOrders = true) (hc : HC21 P N) {k : Nat} {a0 : (List UInt8)} {a1 : UInt8} {r : (List UInt8)} (h : f21 k a0 a1 = some r) :
    ACalls P (N 21) [(.d (.sl (List.map byteD a0))), (.d (.int .u8 ((a1.toNat : Nat) : Int)))] [] (.win (List.map byteD r) (((0 : Int)).toNat + a0.length)) [] := by
  refine acalls_canon (F := C21 N) hc 0 0 rfl ?_
  unfold f21 at h
  dsimp only [C21, startL]
  refine AWc.seq ?_
  refine AWc.rg hmix rfl rfl ?_
  refine RegV.p0 rfl rfl rfl ?_
  refine RegV.nil0 ?_
  refine AWc.seq ?_
  refine AWc.rg hmix rfl rfl ?_
  refine RegV.p0 rfl rfl rfl ?_
  refine RegV.len (xs := a0) (e := byteD) rfl rfl rfl rfl ?_
  refine RegV.p0 (v := (.d (.int .i64 (IntKind.i64.wrap (((a0.length : Nat) : Int) + (3 : Int)))))) rfl rfl rfl ?_
  obtain ⟨b11, h⟩ := gd_some h
  refine RegV.mkS (e := byteD) (a0 := default) rfl rfl rfl byteD_ok rfl rfl b11 rfl rfl ?_
  refine RegV.p0 rfl rfl rfl ?_
  refine RegV.nil0 ?_
  refine AWc.seq ?_
  refine AWc.rg hmix rfl rfl ?_
  refine RegV.p0 rfl rfl rfl ?_
  refine RegV.p0 rfl rfl rfl ?_
  obtain ⟨b18, h⟩ := gd_some h
  refine RegV.apS (xs := (List.replicate ((IntKind.i64.wrap (((a0.length : Nat) : Int) + (3 : Int)))).toNat (default : UInt8))) (ys := a0) (e := byteD) (H' := [(0, (cellsO byteD (List.take (((0 : Int)).toNat) (List.replicate ((IntKind.i64.wrap (((a0.length : Nat) : Int) + (3 : Int)))).toNat (default : UInt8)) ++ a0 ++ List.drop (((0 : Int)).toNat + a0.length) (List.replicate ((IntKind.i64.wrap (((a0.length : Nat) : Int) + (3 : Int)))).toNat (default : UInt8)))))]) rfl rfl rfl rfl byteD_ok rfl rfl b18 rfl rfl rfl rfl ?_
  refine RegV.p0 rfl rfl rfl ?_
  refine RegV.nil0 ?_
  refine AWc.seq ?_
  refine AWc.rg hmix rfl rfl ?_
  refine RegV.p0 rfl rfl rfl ?_
  refine RegV.p0 rfl rfl rfl ?_
  refine RegV.len (xs := a0) (e := byteD) rfl rfl rfl rfl ?_
  refine RegV.p0 (v := (.d (.int .i64 (IntKind.i64.wrap (((a0.length : Nat) : Int) + (3 : Int)))))) rfl rfl rfl ?_
  obtain ⟨b27, h⟩ := gd_some h
  refine RegV.slH (hi := (IntKind.i64.wrap (((a0.length : Nat) : Int) + (3 : Int)))) rfl rfl rfl b27 rfl ?_
  refine RegV.p0 rfl rfl rfl ?_
  refine RegV.nil0 ?_
  refine AWc.seq ?_
  refine AWc.seq ?_
  refine AWc.rg hmix rfl rfl ?_
  refine RegV.p0 rfl rfl rfl ?_
  refine RegV.len (xs := a0) (e := byteD) rfl rfl rfl rfl ?_
  refine RegV.p0 rfl rfl rfl ?_
  refine RegV.nil0 ?_
  obtain ⟨o36, h36, h⟩ := bind_some h
  refine AWc.block ?_
  refine AWc.loopK (N := 33) 1 (fun (x : (Int × (List UInt8))) => [(1, (.d (.int .u8 ((a1.toNat : Nat) : Int)))), (5, (.sl 0 0 (((0 : Int)).toNat + a0.length) (((IntKind.i64.wrap (((a0.length : Nat) : Int) + (3 : Int)))).toNat) 1)), (6, (.sl 0 0 (((IntKind.i64.wrap (((a0.length : Nat) : Int) + (3 : Int)))).toNat) (((IntKind.i64.wrap (((a0.length : Nat) : Int) + (3 : Int)))).toNat) 1)), (7, (.d (.int .i64 x.1)))]) (fun x => [(0, (cellsO byteD x.2))]) (fun k x => f21_l36 a0 a1 k x.1 x.2 = some o36) k (((a0.length : Nat) : Int), (List.take (((0 : Int)).toNat) (List.replicate ((IntKind.i64.wrap (((a0.length : Nat) : Int) + (3 : Int)))).toNat (default : UInt8)) ++ a0 ++ List.drop (((0 : Int)).toNat + a0.length) (List.replicate ((IntKind.i64.wrap (((a0.length : Nat) : Int) + (3 : Int)))).toNat (default : UInt8)))) rfl_le (fun x hx => by cases hx) h36 ⟨rfl, [], [], rfl, rfl, ⟨⟨_, rfl, (.refl _)⟩, rfl, ⟨⟨_, rfl, (.refl _)⟩, rfl, ⟨⟨_, rfl, (.refl _)⟩, rfl, ⟨⟨_, rfl, (.refl _)⟩, rfl, trivial⟩⟩⟩⟩, ⟨⟨_, rfl, (.refl _)⟩, rfl, rfl, trivial⟩⟩ ?_
  clear h36
  intro k
  rintro ⟨y36_1, y36_2⟩ h36
  dsimp only at h36 ⊢
  rw [f21_l36] at h36
  refine AWc.seq ?_
  refine AWc.seq ?_
  refine AWc.rg hmix rfl rfl ?_
  refine RegV.p0 rfl rfl rfl ?_
  refine RegV.p0 rfl rfl rfl ?_
  refine RegV.p0 (v := (.d (.int .i64 ((((IntKind.i64.wrap (((a0.length : Nat) : Int) + (3 : Int)))).toNat : Nat) : Int)))) rfl rfl rfl ?_
  refine RegV.p0 (v := (.d (.bool (decide (y36_1 < ((((IntKind.i64.wrap (((a0.length : Nat) : Int) + (3 : Int)))).toNat : Nat) : Int)))))) rfl rfl rfl ?_
  refine RegV.nil0 ?_
  refine AWc.cond rfl (fun c46 => ?_) (fun c46 => ?_)
  · have h36 := cond_pos c46 h36
    refine AWc.skip ?_
    refine AWc.seq ?_
    refine AWc.block ?_
    refine AWc.rg hmix rfl rfl ?_
    refine RegV.p0 rfl rfl rfl ?_
    refine RegV.p0 rfl rfl rfl ?_
    refine RegV.p0 rfl rfl rfl ?_
    obtain ⟨b56, h36⟩ := gd_some h36
    refine RegV.iaS0 (z := 1) rfl rfl rfl b56 rfl ?_
    obtain ⟨b57, h36⟩ := gd_some h36
    refine RegV.stS (e := byteD) (xs := y36_2) (i := (y36_1).toNat) (v := a1) (H' := [(0, (cellsO byteD (List.set y36_2 (y36_1).toNat a1)))]) rfl rfl rfl rfl byteD_ok rfl b57 rfl rfl rfl ?_
    refine RegV.nil0 ?_
    refine AWc.rg hmix rfl rfl ?_
    refine RegV.p0 rfl rfl rfl ?_
    refine RegV.p0 (v := (.d (.int .i64 (IntKind.i64.wrap (y36_1 + (1 : Int)))))) rfl rfl rfl ?_
    refine RegV.p0 rfl rfl rfl ?_
    refine RegV.nil0 ?_
    exact ⟨((IntKind.i64.wrap (y36_1 + (1 : Int))), (List.set y36_2 (y36_1).toNat a1)), h36, ⟨rfl, [], [], rfl, rfl, ⟨⟨_, rfl, (.refl _)⟩, rfl, ⟨⟨_, rfl, (.refl _)⟩, rfl, ⟨⟨_, rfl, (.refl _)⟩, rfl, ⟨⟨_, rfl, (.refl _)⟩, rfl, trivial⟩⟩⟩⟩, ⟨⟨_, rfl, (.refl _)⟩, rfl, rfl, trivial⟩⟩⟩
  · have h36 := cond_neg c46 h36
    cases h36
    dsimp only at h
    refine AWc.exit ?_
    refine inBlk_eq ?_
    refine AWc.seq ?_
    refine AWc.rg hmix rfl rfl ?_
    refine RegV.p0 rfl rfl rfl ?_
    refine RegV.p0 rfl rfl rfl ?_
    refine RegV.nil0 ?_
    obtain ⟨bs0, h⟩ := gd_some h
    refine AWc.seal (l0 := 0) (xs := y36_2) (l' := [(4, (.win (List.map byteD y36_2) (((0 : Int)).toNat + a0.length)))]) (H' := [(0, (.tok (y36_2.length * 1)))]) byteD_ok rfl ⟨⟨_, rfl, .win bs0⟩, trivial⟩ rfl ?_
    have hr := Option.some.inj h
    subst hr
    exact AWc.ret (canQ (N := 33) (k := 0) (l' := [(4, (.win (List.map byteD y36_2) (((0 : Int)).toNat + a0.length)))]) (H' := []) rfl ⟨rfl, [], [], rfl, rfl, ⟨⟨_, rfl, (.refl _)⟩, rfl, trivial⟩,  trivial⟩ (doneA (.inr rfl) rfl ⟨trivial, trivial⟩ (.refl _) hasNil))
/-- courant/frame.take -/
def C275 (N : Nat → Nat) : AFunc := { n := 19, params := 1, res := [.tmp 2], body :=
 (.seq (.region false [⟨(some 2), .mv (.k (.d (.int .u64 0))), none, []⟩])
  (.seq (.region false [⟨(some 3), .mv (.k (.d (.int .u64 0))), none, []⟩])
   (.seq (.seq (.region false [⟨(some 6), .mv (.t 0), none, []⟩,
      ⟨(some 7), .len (.t 6), none, [0]⟩,
      ⟨(some 8), .mv (.k (.d (.int .i64 0))), none, []⟩])
     (.block 0 (.loop (.seq (.region false [⟨(some 9), .bin .lss (.t 8) (.t 7), none, []⟩])
        (.seq (.cond (.t 9) (.skip)
          (.exit 0))
         (.seq (.block 1 (.seq (.region false [⟨(some 10), .iaddr (.t 6) (.t 8) 1, none, []⟩,
             ⟨(some 11), .load (.t 10) 1 false, none, [0]⟩,
             ⟨(some 5), .mv (.t 11), none, [1, 0]⟩])
            (.region false [⟨(some 12), .mv (.t 3), none, []⟩,
             ⟨(some 13), .bin .shl (.t 12) (.k (.d (.int .u64 8))), none, [0]⟩,
             ⟨(some 14), .mv (.t 5), none, []⟩,
             ⟨(some 15), .cvi .u64 (.t 14), none, [2]⟩,
             ⟨(some 16), .bin .or (.t 13) (.t 15), none, [1, 3]⟩,
             ⟨(some 3), .mv (.t 16), none, [4, 0, 1, 2, 3]⟩])))
          (.region false [⟨(some 17), .bin .add (.t 8) (.k (.d (.int .i64 1))), none, []⟩,
           ⟨(some 8), .mv (.t 17), none, [0]⟩])))))))
    (.seq (.region false [⟨(some 18), .mv (.t 3), none, []⟩,
      ⟨(some 2), .mv (.t 18), none, [0]⟩])
     .ret)))) }
def HC275 (P : Program) (N : Nat → Nat) : Prop := HasF P (N 275) (C275 N)
def f275_l16 (a0 : (List UInt8)) : Nat → Int → Int → Option (LR2 Int Unit Int)
  | 0, _, _ => none
  | k + 1, y16_1, y16_2 => cond (decide (y16_2 < ((a0.length : Nat) : Int))) (gd (0 ≤ y16_2 ∧ y16_2 < ((a0.length : Nat) : Int)) (f275_l16 a0 k (bitsA .or .u64 (IntKind.u64.wrap (y16_1 * 2 ^ (min ((8 : Int)).toNat IntKind.u64.bits))) (IntKind.u64.wrap (((rd a0 y16_2).toNat : Nat) : Int))) (IntKind.i64.wrap (y16_2 + (1 : Int))))) (some (.b0 y16_1))
def f275 (k : Nat) (a0 : (List UInt8)) : Option Int := (f275_l16 a0 k (0 : Int) (0 : Int)).bind fun o16 => match o16 with | .b0 x16_1 => some x16_1 | _ => none
theorem F275 {P : Program} {N : Nat → Nat} (hmix : P.follows .mixedOrders = true) (hc : HC275 P N) {k : Nat} {a0 : (List UInt8)} {r : Int} (h : f275 k a0 = some r) :
    ACalls P (N 275) [(.d (.sl (List.map byteD a0)))] [] (.d (.int .u64 r)) [] := by
  refine acalls_canon (F := C275 N) hc 0 0 rfl ?_
  unfold f275 at h
  dsimp only [C275, startL]
  refine AWc.seq ?_
  refine AWc.rg hmix rfl rfl ?_
  refine RegV.p0 rfl rfl rfl ?_
  refine RegV.nil0 ?_
  refine AWc.seq ?_
  refine AWc.rg hmix rfl rfl ?_
  refine RegV.p0 rfl rfl rfl ?_
  refine RegV.nil0 ?_
  refine AWc.seq ?_
  refine AWc.seq ?_
  refine AWc.rg hmix rfl rfl ?_
  refine RegV.p0 rfl rfl rfl ?_
  refine RegV.len (xs := a0) (e := byteD) rfl rfl rfl rfl ?_
  refine RegV.p0 rfl rfl rfl ?_
  refine RegV.nil0 ?_
  obtain ⟨o16, h16, h⟩ := bind_some h
  refine AWc.block ?_
  refine AWc.loopK (N := 19) 0 (fun (x : (Int × Int)) => [(3, (.d (.int .u64 x.1))), (6, (.d (.sl (List.map byteD a0)))), (7, (.d (.int .i64 ((a0.length : Nat) : Int)))), (8, (.d (.int .i64 x.2)))]) (fun x => []) (fun k x => f275_l16 a0 k x.1 x.2 = some o16) k ((0 : Int), (0 : Int)) rfl_le (fun x hx => by cases hx) h16 ⟨rfl, [], [], rfl, rfl, ⟨⟨_, rfl, (.refl _)⟩, rfl, ⟨⟨_, rfl, (.refl _)⟩, rfl, ⟨⟨_, rfl, (.refl _)⟩, rfl, ⟨⟨_, rfl, (.refl _)⟩, rfl, trivial⟩⟩⟩⟩,  trivial⟩ ?_
  clear h16
  intro k
  rintro ⟨y16_1, y16_2⟩ h16
  dsimp only at h16 ⊢
  rw [f275_l16] at h16
  refine AWc.seq ?_
  refine AWc.rg hmix rfl rfl ?_
  refine RegV.p0 (v := (.d (.bool (decide (y16_2 < ((a0.length : Nat) : Int)))))) rfl rfl rfl ?_
  refine RegV.nil0 ?_
  refine AWc.seq ?_
  refine AWc.cond rfl (fun c23 => ?_) (fun c23 => ?_)
  · have h16 := cond_pos c23 h16
    refine AWc.skip ?_
    refine AWc.seq ?_
    refine AWc.block ?_
    refine AWc.seq ?_
    refine AWc.rg hmix rfl rfl ?_
    obtain ⟨b31, h16⟩ := gd_some h16
    refine RegV.iad (xs := a0) (e := byteD) rfl rfl rfl rfl (fun _ => rfl) b31 rfl ?_
    refine RegV.p0 (v := (.d (.int .u8 (((rd a0 y16_2).toNat : Nat) : Int)))) rfl rfl rfl ?_
    refine RegV.p0 rfl rfl rfl ?_
    refine RegV.nil0 ?_
    refine AWc.rg hmix rfl rfl ?_
    refine RegV.p0 rfl rfl rfl ?_
    refine RegV.p1 (v := (.d (.int .u64 (IntKind.u64.wrap (y16_1 * 2 ^ (min ((8 : Int)).toNat IntKind.u64.bits)))))) rfl rfl (by decide) rfl rfl ?_
    refine RegV.p0 rfl rfl rfl ?_
    refine RegV.p0 (v := (.d (.int .u64 (IntKind.u64.wrap (((rd a0 y16_2).toNat : Nat) : Int))))) rfl rfl rfl ?_
    refine RegV.p0 (v := (.d (.int .u64 (bitsA .or .u64 (IntKind.u64.wrap (y16_1 * 2 ^ (min ((8 : Int)).toNat IntKind.u64.bits))) (IntKind.u64.wrap (((rd a0 y16_2).toNat : Nat) : Int)))))) rfl rfl rfl ?_
    refine RegV.p0 rfl rfl rfl ?_
    refine RegV.nil0 ?_
    refine AWc.rg hmix rfl rfl ?_
    refine RegV.p0 (v := (.d (.int .i64 (IntKind.i64.wrap (y16_2 + (1 : Int)))))) rfl rfl rfl ?_
    refine RegV.p0 rfl rfl rfl ?_
    refine RegV.nil0 ?_
    exact ⟨((bitsA .or .u64 (IntKind.u64.wrap (y16_1 * 2 ^ (min ((8 : Int)).toNat IntKind.u64.bits))) (IntKind.u64.wrap (((rd a0 y16_2).toNat : Nat) : Int))), (IntKind.i64.wrap (y16_2 + (1 : Int)))), h16, ⟨rfl, [], [], rfl, rfl, ⟨⟨_, rfl, (.refl _)⟩, rfl, ⟨⟨_, rfl, (.refl _)⟩, rfl, ⟨⟨_, rfl, (.refl _)⟩, rfl, ⟨⟨_, rfl, (.refl _)⟩, rfl, trivial⟩⟩⟩⟩,  trivial⟩⟩
  · have h16 := cond_neg c23 h16
    cases h16
    dsimp only at h
    refine AWc.exit ?_
    refine inBlk_eq ?_
    refine AWc.seq ?_
    refine AWc.rg hmix rfl rfl ?_
    refine RegV.p0 rfl rfl rfl ?_
    refine RegV.p0 rfl rfl rfl ?_
    refine RegV.nil0 ?_
    have hr := Option.some.inj h
    subst hr
    exact AWc.ret (canQ (N := 19) (k := 0) (l' := [(2, (.d (.int .u64 y16_1)))]) (H' := []) rfl ⟨rfl, [], [], rfl, rfl, ⟨⟨_, rfl, (.refl _)⟩, rfl, trivial⟩,  trivial⟩ (doneA (.inr rfl) rfl ⟨trivial, trivial⟩ (.refl _) hasNil))
/-- slices.Clone[[]byte,byte] -/
def C87 (N : Nat → Nat) : AFunc := { n := 8, params := 1, res := [.tmp 2], body :=
 (.seq (.region false [⟨(some 2), .mv (.k .nils), none, []⟩])
  (.seq (.seq (.region false [⟨(some 3), .mv (.t 0), none, []⟩,
     ⟨(some 4), .nileq 0 false (.t 3) (.k .nils), none, [0]⟩])
    (.cond (.t 4) (.seq (.region false [⟨(some 2), .mv (.k .nils), none, []⟩])
      .ret)
     (.skip)))
   (.seq (.region false [⟨(some 5), .bslice 0 1 [(.int .u8 0)] [], none, []⟩,
     ⟨(some 6), .mv (.t 0), none, []⟩,
     ⟨(some 7), .app (.t 5) (.t 6) 1 1 [(.int .u8 0)], none, [0, 1]⟩,
     ⟨(some 2), .mv (.t 7), none, [2, 0, 1]⟩])
    .ret))) }
def HC87r (P : Program) (N : Nat → Nat) : Prop := HasF P (N 87) (C87 N)
def f87r (k : Nat) (a0 : List UInt8) : Option (List UInt8) := gd (a0.length * 2 * 1 ≤ 281474976710656) (some a0)
theorem F87r {P : Program} {N : Nat → Nat} (hmix : P.follows .mixedOrders = true) (hc : HC87r P N) {k : Nat} {a0 r : List UInt8} (h : f87r k a0 = some r) :
    ACalls P (N 87) [(.d (.sl (List.map byteD a0)))] [] (.row 0 1 r.length) [(0, (rowO byteD r))] := by
  unfold f87r at h
  obtain ⟨b, h⟩ := gd_some h
  cases h
  exact cloneR_gen hmix byteD_ok hc rfl rfl b
/-- courant/frame.Take -/
def C274 (N : Nat → Nat) : AFunc := { n := 48, params := 1, res := [.cell 2 2 true, .tmp 3, .tmp 4], body :=
 (.seq (.region false [⟨(some 2), .alloc [(.int .u64 0), (.sl [])], none, []⟩,
   ⟨(some 3), .mv (.k (.d (.int .i64 0))), none, []⟩,
   ⟨(some 4), .mv (.k (.d (.int .i64 0))), none, [1]⟩])
  (.seq (.seq (.region false [⟨(some 7), .mv (.t 0), none, []⟩,
     ⟨(some 8), .len (.t 7), none, [0]⟩,
     ⟨(some 9), .bin .lss (.t 8) (.k (.d (.int .i64 16))), none, [1]⟩])
    (.cond (.t 9) (.seq (.region false [⟨(some 10), .build [(.int .u64 0), (.sl [])] [], none, []⟩,
       ⟨none, .store (.t 2) (.t 10) 2, none, [0]⟩,
       ⟨(some 3), .mv (.k (.d (.int .i64 0))), none, [1, 0]⟩,
       ⟨(some 4), .mv (.k (.d (.int .i64 3))), none, [2, 0, 1]⟩])
      .ret)
     (.skip)))
   (.seq (.region false [⟨(some 11), .mv (.t 0), none, []⟩,
     ⟨(some 12), .slc (.t 11) none (some (.k (.d (.int .i64 4)))) none 1, none, [0]⟩,
     ⟨(some 13), .call (.k (.d (.fn (N 275)))) [(.t 12)], none, [1]⟩,
     ⟨(some 5), .mv (.t 13), none, [2, 0, 1]⟩])
    (.seq (.block 0 (.seq (.region false [⟨(some 15), .mv (.t 5), none, []⟩,
        ⟨(some 16), .bin .gtr (.t 15) (.k (.d (.int .u64 32768))), none, [0]⟩,
        ⟨(some 14), .mv (.t 16), none, [1]⟩])
       (.cond (.t 14) (.seq (.region false [⟨(some 17), .build [(.int .u64 0), (.sl [])] [], none, []⟩,
          ⟨none, .store (.t 2) (.t 17) 2, none, [0]⟩,
          ⟨(some 3), .mv (.k (.d (.int .i64 0))), none, [1, 0]⟩,
          ⟨(some 4), .mv (.k (.d (.int .i64 5))), none, [2, 0, 1]⟩])
         .ret)
        (.seq (.region false [⟨(some 19), .mv (.t 5), none, []⟩,
          ⟨(some 20), .mv (.t 0), none, []⟩,
          ⟨(some 21), .len (.t 20), none, [1]⟩,
          ⟨(some 22), .bin .sub (.t 21) (.k (.d (.int .i64 16))), none, [2]⟩,
          ⟨(some 23), .cvi .u64 (.t 22), none, [3]⟩,
          ⟨(some 24), .bin .gtr (.t 19) (.t 23), none, [0, 4]⟩,
          ⟨(some 18), .mv (.t 24), none, [5]⟩])
         (.cond (.t 18) (.seq (.region false [⟨(some 25), .build [(.int .u64 0), (.sl [])] [], none, []⟩,
            ⟨none, .store (.t 2) (.t 25) 2, none, [0]⟩,
            ⟨(some 3), .mv (.k (.d (.int .i64 0))), none, [1, 0]⟩,
            ⟨(some 4), .mv (.k (.d (.int .i64 3))), none, [2, 0, 1]⟩])
           .ret)
          (.skip))))))
     (.seq (.region false [⟨(some 26), .mv (.t 5), none, []⟩,
       ⟨(some 27), .cvi .i64 (.t 26), none, [0]⟩,
       ⟨(some 28), .bin .add (.k (.d (.int .i64 16))) (.t 27), none, [1]⟩,
       ⟨(some 6), .mv (.t 28), none, [2, 0, 1]⟩])
      (.seq (.seq (.region true [⟨(some 29), .mv (.t 0), none, []⟩,
         ⟨(some 30), .mv (.t 6), none, []⟩,
         ⟨(some 31), .slc (.t 29) (some (.k (.d (.int .i64 8)))) (some (.t 30)) none 1, none, [0, 1]⟩,
         ⟨(some 32), .call (.k (.d (.fn (N 263)))) [(.t 31)], none, [2]⟩,
         ⟨(some 33), .cvi .u64 (.t 32), none, [3]⟩,
         ⟨(some 34), .mv (.t 0), none, []⟩,
         ⟨(some 35), .slc (.t 34) (some (.k (.d (.int .i64 4)))) (some (.k (.d (.int .i64 8)))) none 1, none, [5]⟩,
         ⟨(some 36), .call (.k (.d (.fn (N 275)))) [(.t 35)], none, [6, 3]⟩,
         ⟨(some 37), .bin .neq (.t 33) (.t 36), none, [4, 7]⟩])
        (.cond (.t 37) (.seq (.region false [⟨(some 38), .build [(.int .u64 0), (.sl [])] [], none, []⟩,
           ⟨none, .store (.t 2) (.t 38) 2, none, [0]⟩,
           ⟨(some 3), .mv (.k (.d (.int .i64 0))), none, [1, 0]⟩,
           ⟨(some 4), .mv (.k (.d (.int .i64 4))), none, [2, 0, 1]⟩])
          .ret)
         (.skip)))
       (.seq (.region true [⟨(some 39), .mv (.t 0), none, []⟩,
         ⟨(some 40), .slc (.t 39) (some (.k (.d (.int .i64 8)))) (some (.k (.d (.int .i64 16)))) none 1, none, [0]⟩,
         ⟨(some 41), .call (.k (.d (.fn (N 275)))) [(.t 40)], none, [1]⟩,
         ⟨(some 42), .mv (.t 0), none, []⟩,
         ⟨(some 43), .mv (.t 6), none, []⟩,
         ⟨(some 44), .slc (.t 42) (some (.k (.d (.int .i64 16)))) (some (.t 43)) none 1, none, [3, 4]⟩,
         ⟨(some 45), .call (.k (.d (.fn (N 87)))) [(.t 44)], none, [5, 2]⟩,
         ⟨(some 46), .build [(.int .u64 0), (.sl [])] [(0, 1, (.t 41)), (1, 1, (.t 45))], none, [2, 6]⟩,
         ⟨(some 47), .mv (.t 6), none, []⟩,
         ⟨none, .store (.t 2) (.t 46) 2, none, [7, 6, 0, 1, 2, 3, 4, 5]⟩,
         ⟨(some 3), .mv (.t 47), none, [8, 9, 0, 1, 2, 3, 4, 5, 6, 7]⟩,
         ⟨(some 4), .mv (.k (.d (.int .i64 0))), none, [10, 0, 1, 2, 3, 4, 5, 6, 7, 8, 9]⟩])
        .ret))))))) }
def HC274 (P : Program) (N : Nat → Nat) : Prop := HasF P (N 274) (C274 N) ∧ HC275 P N ∧ HC263 P N ∧ HC87r P N
def f274 (k : Nat) (a0 : (List UInt8)) : Option (Int × Int × Int × Nat × (List UInt8)) := cond (decide (((a0.length : Nat) : Int) < (16 : Int))) (some ((0 : Int), (3 : Int), (0 : Int), 0, ([] : List UInt8))) (gd (0 ≤ (0 : Int) ∧ (0 : Int) ≤ (4 : Int) ∧ (4 : Int) ≤ ((a0.length : Nat) : Int)) ((f275 k (sl a0 (0 : Int) (4 : Int))).bind fun r29 => cond (decide (r29 > (32768 : Int))) (some ((0 : Int), (5 : Int), (0 : Int), 0, ([] : List UInt8))) (cond (decide (r29 > (IntKind.u64.wrap (IntKind.i64.wrap (((a0.length : Nat) : Int) - (16 : Int)))))) (some ((0 : Int), (3 : Int), (0 : Int), 0, ([] : List UInt8))) (gd (0 ≤ (8 : Int) ∧ (8 : Int) ≤ (IntKind.i64.wrap ((16 : Int) + (IntKind.i64.wrap r29))) ∧ (IntKind.i64.wrap ((16 : Int) + (IntKind.i64.wrap r29))) ≤ ((a0.length : Nat) : Int)) ((f263 k (sl a0 (8 : Int) (IntKind.i64.wrap ((16 : Int) + (IntKind.i64.wrap r29))))).bind fun r82 => gd (0 ≤ (4 : Int) ∧ (4 : Int) ≤ (8 : Int) ∧ (8 : Int) ≤ ((a0.length : Nat) : Int)) ((f275 k (sl a0 (4 : Int) (8 : Int))).bind fun r86 => cond (decide ((IntKind.u64.wrap r82) ≠ r86)) (some ((0 : Int), (4 : Int), (0 : Int), 0, ([] : List UInt8))) (gd (0 ≤ (8 : Int) ∧ (8 : Int) ≤ (16 : Int) ∧ (16 : Int) ≤ ((a0.length : Nat) : Int)) ((f275 k (sl a0 (8 : Int) (16 : Int))).bind fun r103 => gd (0 ≤ (16 : Int) ∧ (16 : Int) ≤ (IntKind.i64.wrap ((16 : Int) + (IntKind.i64.wrap r29))) ∧ (IntKind.i64.wrap ((16 : Int) + (IntKind.i64.wrap r29))) ≤ ((a0.length : Nat) : Int)) ((f87r k (sl a0 (16 : Int) (IntKind.i64.wrap ((16 : Int) + (IntKind.i64.wrap r29))))).bind fun r107 => some ((IntKind.i64.wrap ((16 : Int) + (IntKind.i64.wrap r29))), (0 : Int), r103, r107.length, r107))))))))))
theorem F274 {P : Program} {N : Nat → Nat} (hmix : P.follows .mixedOrders = true) (hc : HC274 P N) {k : Nat} {a0 : (List UInt8)} {r : (Int × Int × Int × Nat × (List UInt8))} (h : f274 k a0 = some r) :
    ACalls P (N 274) [(.d (.sl (List.map byteD a0)))] [] (.tup [(.agg [(.d (.int .u64 r.2.2.1)), (.row 0 1 r.2.2.2.1)]), (.d (.int .i64 r.1)), (.d (.int .i64 r.2.1))]) [(0, (rowO byteD r.2.2.2.2))] := by
  refine acalls_canon (F := C274 N) hc.1 0 1 rfl ?_
  unfold f274 at h
  dsimp only [C274, startL]
  refine AWc.seq ?_
  refine AWc.rg hmix rfl rfl ?_
  refine RegV.evS (own := false) (v := (.ptr 0 0)) (H' := [(0, (.cells [(.d (.int .u64 (0 : Int))), .nils]))]) (c' := 1) rfl rfl trivial rfl rfl rfl rfl rfl rfl ?_
  refine RegV.p0 rfl rfl rfl ?_
  refine RegV.p0 rfl rfl rfl ?_
  refine RegV.nil0 ?_
  refine AWc.seq ?_
  refine AWc.seq ?_
  refine AWc.rg hmix rfl rfl ?_
  refine RegV.p0 rfl rfl rfl ?_
  refine RegV.len (xs := a0) (e := byteD) rfl rfl rfl rfl ?_
  refine RegV.p0 (v := (.d (.bool (decide (((a0.length : Nat) : Int) < (16 : Int)))))) rfl rfl rfl ?_
  refine RegV.nil0 ?_
  refine AWc.cond rfl (fun c14 => ?_) (fun c14 => ?_)
  · have h := cond_pos c14 h
    refine AWc.seq ?_
    refine AWc.rg hmix rfl rfl ?_
    refine RegV.bld (L' := [(.d (.int .u64 (0 : Int))), .nils]) rfl rfl (by exact trivial) rfl rfl ?_
    refine RegV.evN (own := false) (H' := [(0, (.cells [(.d (.int .u64 (0 : Int))), .nils]))]) (c' := 1) rfl rfl (by exact ⟨rfl, Nat.le_of_ble_eq_true rfl, rfl⟩) rfl rfl rfl rfl ?_
    refine RegV.p0 rfl rfl rfl ?_
    refine RegV.p0 rfl rfl rfl ?_
    refine RegV.nil0 ?_
    have hr := Option.some.inj h
    subst hr
    exact AWc.ret (canQ (N := 48) (k := 2) (l' := [(2, (.ptr 1 0)), (3, (.d (.int .i64 (0 : Int)))), (4, (.d (.int .i64 (3 : Int))))]) (H' := [(1, (.cells [(.d (.int .u64 (0 : Int))), (.row 0 1 (0))])), (0, (rowO byteD ([] : List UInt8)))]) rfl ⟨rfl, [.rowP []], [(1, 0), (0, 1)], rfl, rfl, ⟨⟨_, rfl, (.refl _)⟩, rfl, ⟨⟨_, rfl, (.refl _)⟩, rfl, ⟨⟨_, rfl, (.refl _)⟩, rfl, trivial⟩⟩⟩, ⟨⟨_, rfl, (.cells (.cons (.refl _) (.cons .nilRow .nil)))⟩, rfl, rfl, ⟨⟨_, rfl, (.refl _)⟩, rfl, rfl, trivial⟩⟩⟩ (doneA (.inr rfl) rfl ⟨(Nat.le_of_ble_eq_true rfl), ⟨trivial, ⟨trivial, trivial⟩⟩⟩ (.refl _) (hasCons rfl hasNil)))
  · have h := cond_neg c14 h
    refine AWc.skip ?_
    refine AWc.seq ?_
    refine AWc.rg hmix rfl rfl ?_
    refine RegV.p0 rfl rfl rfl ?_
    obtain ⟨b28, h⟩ := gd_some h
    refine RegV.slc (xs := a0) (e := byteD) (lo := (0 : Int)) (hi := (4 : Int)) rfl rfl rfl b28 (fun _ => rfl) rfl ?_
    obtain ⟨r29, e29, h⟩ := bind_some h
    refine RegV.call0 (F275 hmix hc.2.1 e29) rfl rfl rfl rfl (.cons (.refl _) .nil) rfl ?_
    refine RegV.p0 rfl rfl rfl ?_
    refine RegV.nil0 ?_
    refine AWc.seq ?_
    refine AWc.block ?_
    refine AWc.seq ?_
    refine AWc.rg hmix rfl rfl ?_
    refine RegV.p0 rfl rfl rfl ?_
    refine RegV.p0 (v := (.d (.bool (decide (r29 > (32768 : Int)))))) rfl rfl rfl ?_
    refine RegV.p0 rfl rfl rfl ?_
    refine RegV.nil0 ?_
    refine AWc.cond rfl (fun c39 => ?_) (fun c39 => ?_)
    · have h := cond_pos c39 h
      refine AWc.seq ?_
      refine AWc.rg hmix rfl rfl ?_
      refine RegV.bld (L' := [(.d (.int .u64 (0 : Int))), .nils]) rfl rfl (by exact trivial) rfl rfl ?_
      refine RegV.evN (own := false) (H' := [(0, (.cells [(.d (.int .u64 (0 : Int))), .nils]))]) (c' := 1) rfl rfl (by exact ⟨rfl, Nat.le_of_ble_eq_true rfl, rfl⟩) rfl rfl rfl rfl ?_
      refine RegV.p0 rfl rfl rfl ?_
      refine RegV.p0 rfl rfl rfl ?_
      refine RegV.nil0 ?_
      have hr := Option.some.inj h
      subst hr
      exact AWc.ret (canQ (N := 48) (k := 2) (l' := [(2, (.ptr 1 0)), (3, (.d (.int .i64 (0 : Int)))), (4, (.d (.int .i64 (5 : Int))))]) (H' := [(1, (.cells [(.d (.int .u64 (0 : Int))), (.row 0 1 (0))])), (0, (rowO byteD ([] : List UInt8)))]) rfl ⟨rfl, [.rowP []], [(1, 0), (0, 1)], rfl, rfl, ⟨⟨_, rfl, (.refl _)⟩, rfl, ⟨⟨_, rfl, (.refl _)⟩, rfl, ⟨⟨_, rfl, (.refl _)⟩, rfl, trivial⟩⟩⟩, ⟨⟨_, rfl, (.cells (.cons (.refl _) (.cons .nilRow .nil)))⟩, rfl, rfl, ⟨⟨_, rfl, (.refl _)⟩, rfl, rfl, trivial⟩⟩⟩ (doneA (.inr rfl) rfl ⟨(Nat.le_of_ble_eq_true rfl), ⟨trivial, ⟨trivial, trivial⟩⟩⟩ (.refl _) (hasCons rfl hasNil)))
    · have h := cond_neg c39 h
      refine AWc.seq ?_
      refine AWc.rg hmix rfl rfl ?_
      refine RegV.p0 rfl rfl rfl ?_
      refine RegV.p0 rfl rfl rfl ?_
      refine RegV.len (xs := a0) (e := byteD) rfl rfl rfl rfl ?_
      refine RegV.p0 (v := (.d (.int .i64 (IntKind.i64.wrap (((a0.length : Nat) : Int) - (16 : Int)))))) rfl rfl rfl ?_
      refine RegV.p0 (v := (.d (.int .u64 (IntKind.u64.wrap (IntKind.i64.wrap (((a0.length : Nat) : Int) - (16 : Int))))))) rfl rfl rfl ?_
      refine RegV.p0 (v := (.d (.bool (decide (r29 > (IntKind.u64.wrap (IntKind.i64.wrap (((a0.length : Nat) : Int) - (16 : Int))))))))) rfl rfl rfl ?_
      refine RegV.p0 rfl rfl rfl ?_
      refine RegV.nil0 ?_
      refine AWc.cond rfl (fun c58 => ?_) (fun c58 => ?_)
      · have h := cond_pos c58 h
        refine AWc.seq ?_
        refine AWc.rg hmix rfl rfl ?_
        refine RegV.bld (L' := [(.d (.int .u64 (0 : Int))), .nils]) rfl rfl (by exact trivial) rfl rfl ?_
        refine RegV.evN (own := false) (H' := [(0, (.cells [(.d (.int .u64 (0 : Int))), .nils]))]) (c' := 1) rfl rfl (by exact ⟨rfl, Nat.le_of_ble_eq_true rfl, rfl⟩) rfl rfl rfl rfl ?_
        refine RegV.p0 rfl rfl rfl ?_
        refine RegV.p0 rfl rfl rfl ?_
        refine RegV.nil0 ?_
        have hr := Option.some.inj h
        subst hr
        exact AWc.ret (canQ (N := 48) (k := 2) (l' := [(2, (.ptr 1 0)), (3, (.d (.int .i64 (0 : Int)))), (4, (.d (.int .i64 (3 : Int))))]) (H' := [(1, (.cells [(.d (.int .u64 (0 : Int))), (.row 0 1 (0))])), (0, (rowO byteD ([] : List UInt8)))]) rfl ⟨rfl, [.rowP []], [(1, 0), (0, 1)], rfl, rfl, ⟨⟨_, rfl, (.refl _)⟩, rfl, ⟨⟨_, rfl, (.refl _)⟩, rfl, ⟨⟨_, rfl, (.refl _)⟩, rfl, trivial⟩⟩⟩, ⟨⟨_, rfl, (.cells (.cons (.refl _) (.cons .nilRow .nil)))⟩, rfl, rfl, ⟨⟨_, rfl, (.refl _)⟩, rfl, rfl, trivial⟩⟩⟩ (doneA (.inr rfl) rfl ⟨(Nat.le_of_ble_eq_true rfl), ⟨trivial, ⟨trivial, trivial⟩⟩⟩ (.refl _) (hasCons rfl hasNil)))
      · have h := cond_neg c58 h
        refine AWc.skip ?_
        refine AWc.seq ?_
        refine AWc.rg hmix rfl rfl ?_
        refine RegV.p0 rfl rfl rfl ?_
        refine RegV.p0 (v := (.d (.int .i64 (IntKind.i64.wrap r29)))) rfl rfl rfl ?_
        refine RegV.p0 (v := (.d (.int .i64 (IntKind.i64.wrap ((16 : Int) + (IntKind.i64.wrap r29)))))) rfl rfl rfl ?_
        refine RegV.p0 rfl rfl rfl ?_
        refine RegV.nil0 ?_
        refine AWc.seq ?_
        refine AWc.seq ?_
        refine AWc.rg hmix rfl rfl ?_
        refine RegV.p0 rfl rfl rfl ?_
        refine RegV.p0 rfl rfl rfl ?_
        obtain ⟨b81, h⟩ := gd_some h
        refine RegV.slc (xs := a0) (e := byteD) (lo := (8 : Int)) (hi := (IntKind.i64.wrap ((16 : Int) + (IntKind.i64.wrap r29)))) rfl rfl rfl b81 (fun _ => rfl) rfl ?_
        obtain ⟨r82, e82, h⟩ := bind_some h
        refine RegV.call0 (F263 hmix hc.2.2.1 e82) rfl rfl rfl rfl (.cons (.refl _) .nil) rfl ?_
        refine RegV.p0 (v := (.d (.int .u64 (IntKind.u64.wrap r82)))) rfl rfl rfl ?_
        refine RegV.p0 rfl rfl rfl ?_
        obtain ⟨b85, h⟩ := gd_some h
        refine RegV.slc (xs := a0) (e := byteD) (lo := (4 : Int)) (hi := (8 : Int)) rfl rfl rfl b85 (fun _ => rfl) rfl ?_
        obtain ⟨r86, e86, h⟩ := bind_some h
        refine RegV.call0 (F275 hmix hc.2.1 e86) rfl rfl rfl rfl (.cons (.refl _) .nil) rfl ?_
        refine RegV.p0 (v := (.d (.bool (decide ((IntKind.u64.wrap r82) ≠ r86))))) rfl rfl rfl ?_
        refine RegV.nil1 (by kernel_rfl) ?_
        refine AWc.cond rfl (fun c88 => ?_) (fun c88 => ?_)
        · have h := cond_pos c88 h
          refine AWc.seq ?_
          refine AWc.rg hmix rfl rfl ?_
          refine RegV.bld (L' := [(.d (.int .u64 (0 : Int))), .nils]) rfl rfl (by exact trivial) rfl rfl ?_
          refine RegV.evN (own := false) (H' := [(0, (.cells [(.d (.int .u64 (0 : Int))), .nils]))]) (c' := 1) rfl rfl (by exact ⟨rfl, Nat.le_of_ble_eq_true rfl, rfl⟩) rfl rfl rfl rfl ?_
          refine RegV.p0 rfl rfl rfl ?_
          refine RegV.p0 rfl rfl rfl ?_
          refine RegV.nil0 ?_
          have hr := Option.some.inj h
          subst hr
          exact AWc.ret (canQ (N := 48) (k := 2) (l' := [(2, (.ptr 1 0)), (3, (.d (.int .i64 (0 : Int)))), (4, (.d (.int .i64 (4 : Int))))]) (H' := [(1, (.cells [(.d (.int .u64 (0 : Int))), (.row 0 1 (0))])), (0, (rowO byteD ([] : List UInt8)))]) rfl ⟨rfl, [.rowP []], [(1, 0), (0, 1)], rfl, rfl, ⟨⟨_, rfl, (.refl _)⟩, rfl, ⟨⟨_, rfl, (.refl _)⟩, rfl, ⟨⟨_, rfl, (.refl _)⟩, rfl, trivial⟩⟩⟩, ⟨⟨_, rfl, (.cells (.cons (.refl _) (.cons .nilRow .nil)))⟩, rfl, rfl, ⟨⟨_, rfl, (.refl _)⟩, rfl, rfl, trivial⟩⟩⟩ (doneA (.inr rfl) rfl ⟨(Nat.le_of_ble_eq_true rfl), ⟨trivial, ⟨trivial, trivial⟩⟩⟩ (.refl _) (hasCons rfl hasNil)))
        · have h := cond_neg c88 h
          refine AWc.skip ?_
          refine AWc.seq ?_
          refine AWc.rg hmix rfl rfl ?_
          refine RegV.p0 rfl rfl rfl ?_
          obtain ⟨b102, h⟩ := gd_some h
          refine RegV.slc (xs := a0) (e := byteD) (lo := (8 : Int)) (hi := (16 : Int)) rfl rfl rfl b102 (fun _ => rfl) rfl ?_
          obtain ⟨r103, e103, h⟩ := bind_some h
          refine RegV.call0 (F275 hmix hc.2.1 e103) rfl rfl rfl rfl (.cons (.refl _) .nil) rfl ?_
          refine RegV.p0 rfl rfl rfl ?_
          refine RegV.p0 rfl rfl rfl ?_
          obtain ⟨b106, h⟩ := gd_some h
          refine RegV.slc (xs := a0) (e := byteD) (lo := (16 : Int)) (hi := (IntKind.i64.wrap ((16 : Int) + (IntKind.i64.wrap r29)))) rfl rfl rfl b106 (fun _ => rfl) rfl ?_
          obtain ⟨r107, e107, h⟩ := bind_some h
          refine RegV.callS (q := false) (H' := [(1, (rowO byteD r107)), (0, (.cells [(.d (.int .u64 (0 : Int))), .nils]))]) (c' := 2) (show ACalls P (N 87) [(.d (.sl (List.map byteD (sl a0 (16 : Int) (IntKind.i64.wrap ((16 : Int) + (IntKind.i64.wrap r29)))))))] [] (.row 1 1 r107.length) [(1, (rowO byteD r107))] from ACalls.use (F87r hmix hc.2.2.2 e107) [(0, 1)] 1 rfl) rfl rfl rfl rfl (.cons (.refl _) .nil) (.refl _) (fun h => by cases h) rfl hasNil rfl rfl rfl rfl ?_
          refine RegV.p1 (v := (.agg [(.d (.int .u64 r103)), (.row 1 1 r107.length)])) rfl rfl (by exact ⟨⟨rfl, Nat.le_of_ble_eq_true rfl⟩, ⟨⟨rfl, Nat.le_of_ble_eq_true rfl⟩, trivial⟩⟩) rfl rfl ?_
          refine RegV.p0 rfl rfl rfl ?_
          refine RegV.evN (own := false) (H' := [(0, (.cells [(.d (.int .u64 r103)), (.row 1 1 r107.length)])), (1, (rowO byteD r107))]) (c' := 2) rfl rfl (by exact ⟨rfl, Nat.le_of_ble_eq_true rfl, rfl⟩) rfl rfl rfl rfl ?_
          refine RegV.p0 rfl rfl rfl ?_
          refine RegV.p0 rfl rfl rfl ?_
          refine RegV.nil1 (by kernel_rfl) ?_
          have hr := Option.some.inj h
          subst hr
          exact AWc.ret (canQ (N := 48) (k := 2) (l' := [(2, (.ptr 1 0)), (3, (.d (.int .i64 (IntKind.i64.wrap ((16 : Int) + (IntKind.i64.wrap r29)))))), (4, (.d (.int .i64 (0 : Int))))]) (H' := [(1, (.cells [(.d (.int .u64 r103)), (.row 0 1 r107.length)])), (0, (rowO byteD r107))]) rfl ⟨rfl, [], [(1, 0), (0, 1)], rfl, rfl, ⟨⟨_, rfl, (.refl _)⟩, rfl, ⟨⟨_, rfl, (.refl _)⟩, rfl, ⟨⟨_, rfl, (.refl _)⟩, rfl, trivial⟩⟩⟩, ⟨⟨_, rfl, (.refl _)⟩, rfl, rfl, ⟨⟨_, rfl, (.refl _)⟩, rfl, rfl, trivial⟩⟩⟩ (doneA (.inr rfl) rfl ⟨(Nat.le_of_ble_eq_true rfl), ⟨trivial, ⟨trivial, trivial⟩⟩⟩ (.refl _) (hasCons rfl hasNil)))
/-- courant/courantref18.number -/
def C280 (N : Nat → Nat) : AFunc := { n := 20, params := 1, res := [.tmp 2], body :=
 (.seq (.region false [⟨(some 2), .mv (.k (.d (.int .u64 0))), none, []⟩])
  (.seq (.region false [⟨(some 3), .mv (.k (.d (.int .u64 0))), none, []⟩])
   (.seq (.seq (.region false [⟨(some 4), .mv (.k (.d (.int .i64 0))), none, []⟩])
     (.block 0 (.loop (.seq (.seq (.region false [⟨(some 5), .mv (.t 4), none, []⟩,
          ⟨(some 6), .mv (.t 0), none, []⟩,
          ⟨(some 7), .len (.t 6), none, [1]⟩,
          ⟨(some 8), .bin .lss (.t 5) (.t 7), none, [0, 2]⟩])
         (.cond (.t 8) (.skip)
          (.exit 0)))
        (.seq (.block 1 (.region false [⟨(some 11), .mv (.t 3), none, []⟩,
           ⟨(some 12), .bin .shl (.t 11) (.k (.d (.int .u64 8))), none, [0]⟩,
           ⟨(some 13), .mv (.t 0), none, []⟩,
           ⟨(some 14), .mv (.t 4), none, []⟩,
           ⟨(some 15), .iaddr (.t 13) (.t 14) 1, none, [2, 3]⟩,
           ⟨(some 16), .load (.t 15) 1 false, none, [4]⟩,
           ⟨(some 17), .cvi .u64 (.t 16), none, [5]⟩,
           ⟨(some 18), .bin .or (.t 12) (.t 17), none, [1, 6]⟩,
           ⟨(some 3), .mv (.t 18), none, [7, 0, 1, 2, 3, 4, 5, 6]⟩]))
         (.region false [⟨(some 9), .mv (.t 4), none, []⟩,
          ⟨(some 10), .bin .add (.t 9) (.k (.d (.int .i64 1))), none, [0]⟩,
          ⟨(some 4), .mv (.t 10), none, [1, 0]⟩]))))))
    (.seq (.region false [⟨(some 19), .mv (.t 3), none, []⟩,
      ⟨(some 2), .mv (.t 19), none, [0]⟩])
     .ret)))) }
def HC280 (P : Program) (N : Nat → Nat) : Prop := HasF P (N 280) (C280 N)
def f280_l14 (a0 : (List UInt8)) : Nat → Int → Int → Option (LR2 Int Unit Int)
  | 0, _, _ => none
  | k + 1, y14_1, y14_2 => cond (decide (y14_2 < ((a0.length : Nat) : Int))) (gd (0 ≤ y14_2 ∧ y14_2 < ((a0.length : Nat) : Int)) (f280_l14 a0 k (bitsA .or .u64 (IntKind.u64.wrap (y14_1 * 2 ^ (min ((8 : Int)).toNat IntKind.u64.bits))) (IntKind.u64.wrap (((rd a0 y14_2).toNat : Nat) : Int))) (IntKind.i64.wrap (y14_2 + (1 : Int))))) (some (.b0 y14_1))
def f280 (k : Nat) (a0 : (List UInt8)) : Option Int := (f280_l14 a0 k (0 : Int) (0 : Int)).bind fun o14 => match o14 with | .b0 x14_1 => some x14_1 | _ => none
theorem F280 {P : Program} {N : Nat → Nat} (hmix : P.follows .mixedOrders = true) (hc : HC280 P N) {k : Nat} {a0 : (List UInt8)} {r : Int} (h : f280 k a0 = some r) :
    ACalls P (N 280) [(.d (.sl (List.map byteD a0)))] [] (.d (.int .u64 r)) [] := by
  refine acalls_canon (F := C280 N) hc 0 0 rfl ?_
  unfold f280 at h
  dsimp only [C280, startL]
  refine AWc.seq ?_
  refine AWc.rg hmix rfl rfl ?_
  refine RegV.p0 rfl rfl rfl ?_
  refine RegV.nil0 ?_
  refine AWc.seq ?_
  refine AWc.rg hmix rfl rfl ?_
  refine RegV.p0 rfl rfl rfl ?_
  refine RegV.nil0 ?_
  refine AWc.seq ?_
  refine AWc.seq ?_
  refine AWc.rg hmix rfl rfl ?_
  refine RegV.p0 rfl rfl rfl ?_
  refine RegV.nil0 ?_
  obtain ⟨o14, h14, h⟩ := bind_some h
  refine AWc.block ?_
  refine AWc.loopK (N := 20) 0 (fun (x : (Int × Int)) => [(0, (.d (.sl (List.map byteD a0)))), (3, (.d (.int .u64 x.1))), (4, (.d (.int .i64 x.2)))]) (fun x => []) (fun k x => f280_l14 a0 k x.1 x.2 = some o14) k ((0 : Int), (0 : Int)) rfl_le (fun x hx => by cases hx) h14 ⟨rfl, [], [], rfl, rfl, ⟨⟨_, rfl, (.refl _)⟩, rfl, ⟨⟨_, rfl, (.refl _)⟩, rfl, ⟨⟨_, rfl, (.refl _)⟩, rfl, trivial⟩⟩⟩,  trivial⟩ ?_
  clear h14
  intro k
  rintro ⟨y14_1, y14_2⟩ h14
  dsimp only at h14 ⊢
  rw [f280_l14] at h14
  refine AWc.seq ?_
  refine AWc.seq ?_
  refine AWc.rg hmix rfl rfl ?_
  refine RegV.p0 rfl rfl rfl ?_
  refine RegV.p0 rfl rfl rfl ?_
  refine RegV.len (xs := a0) (e := byteD) rfl rfl rfl rfl ?_
  refine RegV.p0 (v := (.d (.bool (decide (y14_2 < ((a0.length : Nat) : Int)))))) rfl rfl rfl ?_
  refine RegV.nil0 ?_
  refine AWc.cond rfl (fun c24 => ?_) (fun c24 => ?_)
  · have h14 := cond_pos c24 h14
    refine AWc.skip ?_
    refine AWc.seq ?_
    refine AWc.block ?_
    refine AWc.rg hmix rfl rfl ?_
    refine RegV.p0 rfl rfl rfl ?_
    refine RegV.p1 (v := (.d (.int .u64 (IntKind.u64.wrap (y14_1 * 2 ^ (min ((8 : Int)).toNat IntKind.u64.bits)))))) rfl rfl (by decide) rfl rfl ?_
    refine RegV.p0 rfl rfl rfl ?_
    refine RegV.p0 rfl rfl rfl ?_
    obtain ⟨b35, h14⟩ := gd_some h14
    refine RegV.iad (xs := a0) (e := byteD) rfl rfl rfl rfl (fun _ => rfl) b35 rfl ?_
    refine RegV.p0 (v := (.d (.int .u8 (((rd a0 y14_2).toNat : Nat) : Int)))) rfl rfl rfl ?_
    refine RegV.p0 (v := (.d (.int .u64 (IntKind.u64.wrap (((rd a0 y14_2).toNat : Nat) : Int))))) rfl rfl rfl ?_
    refine RegV.p0 (v := (.d (.int .u64 (bitsA .or .u64 (IntKind.u64.wrap (y14_1 * 2 ^ (min ((8 : Int)).toNat IntKind.u64.bits))) (IntKind.u64.wrap (((rd a0 y14_2).toNat : Nat) : Int)))))) rfl rfl rfl ?_
    refine RegV.p0 rfl rfl rfl ?_
    refine RegV.nil0 ?_
    refine AWc.rg hmix rfl rfl ?_
    refine RegV.p0 rfl rfl rfl ?_
    refine RegV.p0 (v := (.d (.int .i64 (IntKind.i64.wrap (y14_2 + (1 : Int)))))) rfl rfl rfl ?_
    refine RegV.p0 rfl rfl rfl ?_
    refine RegV.nil0 ?_
    exact ⟨((bitsA .or .u64 (IntKind.u64.wrap (y14_1 * 2 ^ (min ((8 : Int)).toNat IntKind.u64.bits))) (IntKind.u64.wrap (((rd a0 y14_2).toNat : Nat) : Int))), (IntKind.i64.wrap (y14_2 + (1 : Int)))), h14, ⟨rfl, [], [], rfl, rfl, ⟨⟨_, rfl, (.refl _)⟩, rfl, ⟨⟨_, rfl, (.refl _)⟩, rfl, ⟨⟨_, rfl, (.refl _)⟩, rfl, trivial⟩⟩⟩,  trivial⟩⟩
  · have h14 := cond_neg c24 h14
    cases h14
    dsimp only at h
    refine AWc.exit ?_
    refine inBlk_eq ?_
    refine AWc.seq ?_
    refine AWc.rg hmix rfl rfl ?_
    refine RegV.p0 rfl rfl rfl ?_
    refine RegV.p0 rfl rfl rfl ?_
    refine RegV.nil0 ?_
    have hr := Option.some.inj h
    subst hr
    exact AWc.ret (canQ (N := 20) (k := 0) (l' := [(2, (.d (.int .u64 y14_1)))]) (H' := []) rfl ⟨rfl, [], [], rfl, rfl, ⟨⟨_, rfl, (.refl _)⟩, rfl, trivial⟩,  trivial⟩ (doneA (.inr rfl) rfl ⟨trivial, trivial⟩ (.refl _) hasNil))
/-- courant/courantref17.Add -/
def C269 (N : Nat → Nat) : AFunc := { n := 40, params := 2, res := [.tmp 4], body :=
 (.seq (.region false [⟨(some 4), .mv (.k (.d (.int .u32 0))), none, []⟩])
  (.seq (.region false [⟨(some 9), .mv (.t 0), none, []⟩,
    ⟨(some 10), .un .xor (.t 9), none, [0]⟩,
    ⟨(some 5), .mv (.t 10), none, [1, 0]⟩])
   (.seq (.seq (.region false [⟨(some 6), .mv (.k (.d (.int .i64 0))), none, []⟩])
     (.block 0 (.loop (.seq (.seq (.region false [⟨(some 11), .mv (.t 6), none, []⟩,
          ⟨(some 12), .mv (.t 1), none, []⟩,
          ⟨(some 13), .len (.t 12), none, [1]⟩,
          ⟨(some 14), .bin .lss (.t 11) (.t 13), none, [0, 2]⟩])
         (.cond (.t 14) (.skip)
          (.exit 0)))
        (.seq (.block 1 (.seq (.region false [⟨(some 7), .mv (.k (.d (.int .i64 0))), none, []⟩])
           (.block 2 (.loop (.seq (.seq (.region false [⟨(some 17), .mv (.t 7), none, []⟩,
                ⟨(some 18), .bin .lss (.t 17) (.k (.d (.int .i64 8))), none, [0]⟩])
               (.cond (.t 18) (.skip)
                (.exit 2)))
              (.seq (.block 3 (.seq (.region false [⟨(some 21), .mv (.t 5), none, []⟩,
                  ⟨(some 22), .mv (.t 1), none, []⟩,
                  ⟨(some 23), .mv (.t 6), none, []⟩,
                  ⟨(some 24), .iaddr (.t 22) (.t 23) 1, none, [1, 2]⟩,
                  ⟨(some 25), .load (.t 24) 1 false, none, [3]⟩,
                  ⟨(some 26), .mv (.t 7), none, []⟩,
                  ⟨(some 27), .cvi .u64 (.t 26), none, [5]⟩,
                  ⟨(some 28), .bin .shr (.t 25) (.t 27), none, [4, 6]⟩,
                  ⟨(some 29), .cvi .u32 (.t 28), none, [7]⟩,
                  ⟨(some 30), .bin .xor (.t 21) (.t 29), none, [0, 8]⟩,
                  ⟨(some 31), .bin .and (.t 30) (.k (.d (.int .u32 1))), none, [9]⟩,
                  ⟨(some 32), .bin .eql (.t 31) (.k (.d (.int .u32 1))), none, [10]⟩,
                  ⟨(some 8), .mv (.t 32), none, [11, 0, 1, 2, 3, 4, 5, 6, 7, 8, 9, 10]⟩])
                 (.seq (.region false [⟨(some 33), .mv (.t 5), none, []⟩,
                   ⟨(some 34), .bin .shr (.t 33) (.k (.d (.int .u64 1))), none, [0]⟩,
                   ⟨(some 5), .mv (.t 34), none, [1, 0]⟩])
                  (.seq (.region false [⟨(some 35), .mv (.t 8), none, []⟩])
                   (.cond (.t 35) (.region false [⟨(some 36), .mv (.t 5), none, []⟩,
                     ⟨(some 37), .bin .xor (.t 36) (.k (.d (.int .u32 2197175160))), none, [0]⟩,
                     ⟨(some 5), .mv (.t 37), none, [1, 0]⟩])
                    (.skip))))))
               (.region false [⟨(some 19), .mv (.t 7), none, []⟩,
                ⟨(some 20), .bin .add (.t 19) (.k (.d (.int .i64 1))), none, [0]⟩,
                ⟨(some 7), .mv (.t 20), none, [1, 0]⟩])))))))
         (.region false [⟨(some 15), .mv (.t 6), none, []⟩,
          ⟨(some 16), .bin .add (.t 15) (.k (.d (.int .i64 1))), none, [0]⟩,
          ⟨(some 6), .mv (.t 16), none, [1, 0]⟩]))))))
    (.seq (.region false [⟨(some 38), .mv (.t 5), none, []⟩,
      ⟨(some 39), .un .xor (.t 38), none, [0]⟩,
      ⟨(some 4), .mv (.t 39), none, [1, 0]⟩])
     .ret)))) }
def HC269 (P : Program) (N : Nat → Nat) : Prop := HasF P (N 269) (C269 N)
def f269_j91 (k : Nat) (j91_1 : Int) : Option Int := some (bitsA .xor .u32 (if IntKind.u32.signed then -1 else IntKind.u32.max) j91_1)
def f269_l35 (y16_2 : Int) (a1 : (List UInt8)) : Nat → Int → Int → Option (LR2 Int Unit Int)
  | 0, _, _ => none
  | k + 1, y35_1, y35_2 => cond (decide (y35_2 < (8 : Int))) (gd (0 ≤ y16_2 ∧ y16_2 < ((a1.length : Nat) : Int)) (gd (0 ≤ (IntKind.u64.wrap y35_2)) (cond (decide ((bitsA .and .u32 (bitsA .xor .u32 y35_1 (IntKind.u32.wrap (Int.fdiv (((rd a1 y16_2).toNat : Nat) : Int) (2 ^ (min ((IntKind.u64.wrap y35_2)).toNat IntKind.u8.bits))))) (1 : Int)) = (1 : Int))) (f269_l35 y16_2 a1 k (bitsA .xor .u32 (Int.fdiv y35_1 (2 ^ (min ((1 : Int)).toNat IntKind.u32.bits))) (2197175160 : Int)) (IntKind.i64.wrap (y35_2 + (1 : Int)))) (f269_l35 y16_2 a1 k (Int.fdiv y35_1 (2 ^ (min ((1 : Int)).toNat IntKind.u32.bits))) (IntKind.i64.wrap (y35_2 + (1 : Int))))))) (some (.b0 y35_1))
def f269_l16 (a1 : (List UInt8)) : Nat → Int → Int → Option (LR2 Int Unit Int)
  | 0, _, _ => none
  | k + 1, y16_1, y16_2 => cond (decide (y16_2 < ((a1.length : Nat) : Int))) ((f269_l35 y16_2 a1 k y16_1 (0 : Int)).bind fun o35 => match o35 with | .b0 x35_1 => f269_l16 a1 k x35_1 (IntKind.i64.wrap (y16_2 + (1 : Int))) | _ => none) (some (.b0 y16_1))
def f269 (k : Nat) (a0 : Int) (a1 : (List UInt8)) : Option Int := (f269_l16 a1 k (bitsA .xor .u32 (if IntKind.u32.signed then -1 else IntKind.u32.max) a0) (0 : Int)).bind fun o16 => match o16 with | .b0 x16_1 => f269_j91 k x16_1 | _ => none
theorem F269 {P : Program} {N : Nat → Nat} (hmix : P.follows .mixedOrders = true) (hc : HC269 P N) {k : Nat} {a0 : Int} {a1 : (List UInt8)} {r : Int} (h : f269 k a0 a1 = some r) :
    ACalls P (N 269) [(.d (.int .u32 a0)), (.d (.sl (List.map byteD a1)))] [] (.d (.int .u32 r)) [] := by
  refine acalls_canon (F := C269 N) hc 0 0 rfl ?_
  unfold f269 at h
  dsimp only [C269, startL]
  refine AWc.seq ?_
  refine AWc.rg hmix rfl rfl ?_
  refine RegV.p0 rfl rfl rfl ?_
  refine RegV.nil0 ?_
  refine AWc.seq ?_
  refine AWc.rg hmix rfl rfl ?_
  refine RegV.p0 rfl rfl rfl ?_
  refine RegV.p0 (v := (.d (.int .u32 (bitsA .xor .u32 (if IntKind.u32.signed then -1 else IntKind.u32.max) a0)))) rfl rfl rfl ?_
  refine RegV.p0 rfl rfl rfl ?_
  refine RegV.nil0 ?_
  refine AWc.seqS (N := 40) 0 (fun (z : Int) => [(5, (.d (.int .u32 z)))]) (fun z => []) (fun z => f269_j91 k z = some r) rfl_le ?_ ?_
  · refine AWc.seq ?_
    refine AWc.rg hmix rfl rfl ?_
    refine RegV.p0 rfl rfl rfl ?_
    refine RegV.nil0 ?_
    obtain ⟨o16, h16, h⟩ := bind_some h
    refine AWc.block ?_
    refine AWc.loopK (N := 40) 0 (fun (x : (Int × Int)) => [(1, (.d (.sl (List.map byteD a1)))), (5, (.d (.int .u32 x.1))), (6, (.d (.int .i64 x.2)))]) (fun x => []) (fun k x => f269_l16 a1 k x.1 x.2 = some o16) k ((bitsA .xor .u32 (if IntKind.u32.signed then -1 else IntKind.u32.max) a0), (0 : Int)) rfl_le (fun x hx => by cases hx) h16 ⟨rfl, [], [], rfl, rfl, ⟨⟨_, rfl, (.refl _)⟩, rfl, ⟨⟨_, rfl, (.refl _)⟩, rfl, ⟨⟨_, rfl, (.refl _)⟩, rfl, trivial⟩⟩⟩,  trivial⟩ ?_
    clear h16
    intro k
    rintro ⟨y16_1, y16_2⟩ h16
    dsimp only at h16 ⊢
    rw [f269_l16] at h16
    refine AWc.seq ?_
    refine AWc.seq ?_
    refine AWc.rg hmix rfl rfl ?_
    refine RegV.p0 rfl rfl rfl ?_
    refine RegV.p0 rfl rfl rfl ?_
    refine RegV.len (xs := a1) (e := byteD) rfl rfl rfl rfl ?_
    refine RegV.p0 (v := (.d (.bool (decide (y16_2 < ((a1.length : Nat) : Int)))))) rfl rfl rfl ?_
    refine RegV.nil0 ?_
    refine AWc.cond rfl (fun c26 => ?_) (fun c26 => ?_)
    · have h16 := cond_pos c26 h16
      refine AWc.skip ?_
      refine AWc.seq ?_
      refine AWc.block ?_
      refine AWc.seq ?_
      refine AWc.rg hmix rfl rfl ?_
      refine RegV.p0 rfl rfl rfl ?_
      refine RegV.nil0 ?_
      obtain ⟨o35, h35, h16⟩ := bind_some h16
      refine AWc.block ?_
      refine AWc.loopK (N := 40) 0 (fun (x : (Int × Int)) => [(1, (.d (.sl (List.map byteD a1)))), (5, (.d (.int .u32 x.1))), (6, (.d (.int .i64 y16_2))), (7, (.d (.int .i64 x.2)))]) (fun x => []) (fun k x => f269_l35 y16_2 a1 k x.1 x.2 = some o35) k (y16_1, (0 : Int)) rfl_le (fun x hx => by cases hx) h35 ⟨rfl, [], [], rfl, rfl, ⟨⟨_, rfl, (.refl _)⟩, rfl, ⟨⟨_, rfl, (.refl _)⟩, rfl, ⟨⟨_, rfl, (.refl _)⟩, rfl, ⟨⟨_, rfl, (.refl _)⟩, rfl, trivial⟩⟩⟩⟩,  trivial⟩ ?_
      clear h35
      intro k
      rintro ⟨y35_1, y35_2⟩ h35
      dsimp only at h35 ⊢
      rw [f269_l35] at h35
      refine AWc.seq ?_
      refine AWc.seq ?_
      refine AWc.rg hmix rfl rfl ?_
      refine RegV.p0 rfl rfl rfl ?_
      refine RegV.p0 (v := (.d (.bool (decide (y35_2 < (8 : Int)))))) rfl rfl rfl ?_
      refine RegV.nil0 ?_
      refine AWc.cond rfl (fun c43 => ?_) (fun c43 => ?_)
      · have h35 := cond_pos c43 h35
        refine AWc.skip ?_
        refine AWc.seq ?_
        refine AWc.block ?_
        refine AWc.seq ?_
        refine AWc.rg hmix rfl rfl ?_
        refine RegV.p0 rfl rfl rfl ?_
        refine RegV.p0 rfl rfl rfl ?_
        refine RegV.p0 rfl rfl rfl ?_
        obtain ⟨b54, h35⟩ := gd_some h35
        refine RegV.iad (xs := a1) (e := byteD) rfl rfl rfl rfl (fun _ => rfl) b54 rfl ?_
        refine RegV.p0 (v := (.d (.int .u8 (((rd a1 y16_2).toNat : Nat) : Int)))) rfl rfl rfl ?_
        refine RegV.p0 rfl rfl rfl ?_
        refine RegV.p0 (v := (.d (.int .u64 (IntKind.u64.wrap y35_2)))) rfl rfl rfl ?_
        obtain ⟨b58, h35⟩ := gd_some h35
        refine RegV.p1 (v := (.d (.int .u8 (Int.fdiv (((rd a1 y16_2).toNat : Nat) : Int) (2 ^ (min ((IntKind.u64.wrap y35_2)).toNat IntKind.u8.bits)))))) rfl rfl b58 rfl rfl ?_
        refine RegV.p0 (v := (.d (.int .u32 (IntKind.u32.wrap (Int.fdiv (((rd a1 y16_2).toNat : Nat) : Int) (2 ^ (min ((IntKind.u64.wrap y35_2)).toNat IntKind.u8.bits))))))) rfl rfl rfl ?_
        refine RegV.p0 (v := (.d (.int .u32 (bitsA .xor .u32 y35_1 (IntKind.u32.wrap (Int.fdiv (((rd a1 y16_2).toNat : Nat) : Int) (2 ^ (min ((IntKind.u64.wrap y35_2)).toNat IntKind.u8.bits)))))))) rfl rfl rfl ?_
        refine RegV.p0 (v := (.d (.int .u32 (bitsA .and .u32 (bitsA .xor .u32 y35_1 (IntKind.u32.wrap (Int.fdiv (((rd a1 y16_2).toNat : Nat) : Int) (2 ^ (min ((IntKind.u64.wrap y35_2)).toNat IntKind.u8.bits))))) (1 : Int))))) rfl rfl rfl ?_
        refine RegV.p0 (v := (.d (.bool (decide ((bitsA .and .u32 (bitsA .xor .u32 y35_1 (IntKind.u32.wrap (Int.fdiv (((rd a1 y16_2).toNat : Nat) : Int) (2 ^ (min ((IntKind.u64.wrap y35_2)).toNat IntKind.u8.bits))))) (1 : Int)) = (1 : Int)))))) rfl rfl rfl ?_
        refine RegV.p0 rfl rfl rfl ?_
        refine RegV.nil0 ?_
        refine AWc.seq ?_
        refine AWc.rg hmix rfl rfl ?_
        refine RegV.p0 rfl rfl rfl ?_
        refine RegV.p1 (v := (.d (.int .u32 (Int.fdiv y35_1 (2 ^ (min ((1 : Int)).toNat IntKind.u32.bits)))))) rfl rfl (by decide) rfl rfl ?_
        refine RegV.p0 rfl rfl rfl ?_
        refine RegV.nil0 ?_
        refine AWc.seq ?_
        refine AWc.rg hmix rfl rfl ?_
        refine RegV.p0 rfl rfl rfl ?_
        refine RegV.nil0 ?_
        refine AWc.cond rfl (fun c74 => ?_) (fun c74 => ?_)
        · have h35 := cond_pos c74 h35
          refine AWc.rg hmix rfl rfl ?_
          refine RegV.p0 rfl rfl rfl ?_
          refine RegV.p0 (v := (.d (.int .u32 (bitsA .xor .u32 (Int.fdiv y35_1 (2 ^ (min ((1 : Int)).toNat IntKind.u32.bits))) (2197175160 : Int))))) rfl rfl rfl ?_
          refine RegV.p0 rfl rfl rfl ?_
          refine RegV.nil0 ?_
          refine AWc.rg hmix rfl rfl ?_
          refine RegV.p0 rfl rfl rfl ?_
          refine RegV.p0 (v := (.d (.int .i64 (IntKind.i64.wrap (y35_2 + (1 : Int)))))) rfl rfl rfl ?_
          refine RegV.p0 rfl rfl rfl ?_
          refine RegV.nil0 ?_
          exact ⟨((bitsA .xor .u32 (Int.fdiv y35_1 (2 ^ (min ((1 : Int)).toNat IntKind.u32.bits))) (2197175160 : Int)), (IntKind.i64.wrap (y35_2 + (1 : Int)))), h35, ⟨rfl, [], [], rfl, rfl, ⟨⟨_, rfl, (.refl _)⟩, rfl, ⟨⟨_, rfl, (.refl _)⟩, rfl, ⟨⟨_, rfl, (.refl _)⟩, rfl, ⟨⟨_, rfl, (.refl _)⟩, rfl, trivial⟩⟩⟩⟩,  trivial⟩⟩
        · have h35 := cond_neg c74 h35
          refine AWc.skip ?_
          refine AWc.rg hmix rfl rfl ?_
          refine RegV.p0 rfl rfl rfl ?_
          refine RegV.p0 (v := (.d (.int .i64 (IntKind.i64.wrap (y35_2 + (1 : Int)))))) rfl rfl rfl ?_
          refine RegV.p0 rfl rfl rfl ?_
          refine RegV.nil0 ?_
          exact ⟨((Int.fdiv y35_1 (2 ^ (min ((1 : Int)).toNat IntKind.u32.bits))), (IntKind.i64.wrap (y35_2 + (1 : Int)))), h35, ⟨rfl, [], [], rfl, rfl, ⟨⟨_, rfl, (.refl _)⟩, rfl, ⟨⟨_, rfl, (.refl _)⟩, rfl, ⟨⟨_, rfl, (.refl _)⟩, rfl, ⟨⟨_, rfl, (.refl _)⟩, rfl, trivial⟩⟩⟩⟩,  trivial⟩⟩
      · have h35 := cond_neg c43 h35
        cases h35
        dsimp only at h16
        refine AWc.exit ?_
        refine inBlk_eq ?_
        refine AWc.rg hmix rfl rfl ?_
        refine RegV.p0 rfl rfl rfl ?_
        refine RegV.p0 (v := (.d (.int .i64 (IntKind.i64.wrap (y16_2 + (1 : Int)))))) rfl rfl rfl ?_
        refine RegV.p0 rfl rfl rfl ?_
        refine RegV.nil0 ?_
        exact ⟨(y35_1, (IntKind.i64.wrap (y16_2 + (1 : Int)))), h16, ⟨rfl, [], [], rfl, rfl, ⟨⟨_, rfl, (.refl _)⟩, rfl, ⟨⟨_, rfl, (.refl _)⟩, rfl, ⟨⟨_, rfl, (.refl _)⟩, rfl, trivial⟩⟩⟩,  trivial⟩⟩
    · have h16 := cond_neg c26 h16
      cases h16
      dsimp only at h
      refine AWc.exit ?_
      refine inBlk_eq ?_
      exact ⟨y16_1, h, ⟨rfl, [], [], rfl, rfl, ⟨⟨_, rfl, (.refl _)⟩, rfl, trivial⟩,  trivial⟩⟩
  · intro j91_1 h
    unfold f269_j91 at h
    refine AWc.seq ?_
    refine AWc.rg hmix rfl rfl ?_
    refine RegV.p0 rfl rfl rfl ?_
    refine RegV.p0 (v := (.d (.int .u32 (bitsA .xor .u32 (if IntKind.u32.signed then -1 else IntKind.u32.max) j91_1)))) rfl rfl rfl ?_
    refine RegV.p0 rfl rfl rfl ?_
    refine RegV.nil0 ?_
    have hr := Option.some.inj h
    subst hr
    exact AWc.ret (canQ (N := 40) (k := 0) (l' := [(4, (.d (.int .u32 (bitsA .xor .u32 (if IntKind.u32.signed then -1 else IntKind.u32.max) j91_1))))]) (H' := []) rfl ⟨rfl, [], [], rfl, rfl, ⟨⟨_, rfl, (.refl _)⟩, rfl, trivial⟩,  trivial⟩ (doneA (.inr rfl) rfl ⟨trivial, trivial⟩ (.refl _) hasNil))
/-- courant/courantref17.Sum -/
def C268 (N : Nat → Nat) : AFunc := { n := 5, params := 1, res := [.tmp 2], body :=
 (.seq (.region false [⟨(some 2), .mv (.k (.d (.int .u32 0))), none, []⟩])
  (.seq (.region false [⟨(some 3), .mv (.t 0), none, []⟩,
    ⟨(some 4), .call (.k (.d (.fn (N 269)))) [(.k (.d (.int .u32 0))), (.t 3)], none, [0]⟩,
    ⟨(some 2), .mv (.t 4), none, [1, 0]⟩])
   .ret)) }
def HC268 (P : Program) (N : Nat → Nat) : Prop := HasF P (N 268) (C268 N) ∧ HC269 P N
def f268 (k : Nat) (a0 : (List UInt8)) : Option Int := (f269 k (0 : Int) a0).bind fun r9 => some r9
theorem F268 {P : Program} {N : Nat → Nat} (hmix : P.follows .mixedOrders = true) (hc : HC268 P N) {k : Nat} {a0 : (List UInt8)} {r : Int} (h : f268 k a0 = some r) :
    ACalls P (N 268) [(.d (.sl (List.map byteD a0)))] [] (.d (.int .u32 r)) [] := by
  refine acalls_canon (F := C268 N) hc.1 0 0 rfl ?_
  unfold f268 at h
  dsimp only [C268, startL]
  refine AWc.seq ?_
  refine AWc.rg hmix rfl rfl ?_
  refine RegV.p0 rfl rfl rfl ?_
  refine RegV.nil0 ?_
  refine AWc.seq ?_
  refine AWc.rg hmix rfl rfl ?_
  refine RegV.p0 rfl rfl rfl ?_
  obtain ⟨r9, e9, h⟩ := bind_some h
  refine RegV.call0 (F269 hmix hc.2 e9) rfl rfl rfl rfl (.cons (.refl _) (.cons (.refl _) .nil)) rfl ?_
  refine RegV.p0 rfl rfl rfl ?_
  refine RegV.nil0 ?_
  have hr := Option.some.inj h
  subst hr
  exact AWc.ret (canQ (N := 5) (k := 0) (l' := [(2, (.d (.int .u32 r9)))]) (H' := []) rfl ⟨rfl, [], [], rfl, rfl, ⟨⟨_, rfl, (.refl _)⟩, rfl, trivial⟩,  trivial⟩ (doneA (.inr rfl) rfl ⟨trivial, trivial⟩ (.refl _) hasNil))
/-- courant/courantref18.Take -/
def C279 (N : Nat → Nat) : AFunc := { n := 46, params := 1, res := [.cell 2 2 true, .tmp 3, .tmp 4], body :=
 (.seq (.region false [⟨(some 2), .alloc [(.int .u64 0), (.sl [])], none, []⟩,
   ⟨(some 3), .mv (.k (.d (.int .i64 0))), none, []⟩,
   ⟨(some 4), .mv (.k (.d (.int .i64 0))), none, [1]⟩])
  (.seq (.seq (.region false [⟨(some 7), .mv (.t 0), none, []⟩,
     ⟨(some 8), .len (.t 7), none, [0]⟩,
     ⟨(some 9), .bin .lss (.t 8) (.k (.d (.int .i64 16))), none, [1]⟩])
    (.cond (.t 9) (.seq (.region false [⟨(some 10), .build [(.int .u64 0), (.sl [])] [], none, []⟩,
       ⟨none, .store (.t 2) (.t 10) 2, none, [0]⟩,
       ⟨(some 3), .mv (.k (.d (.int .i64 0))), none, [1, 0]⟩,
       ⟨(some 4), .mv (.k (.d (.int .i64 3))), none, [2, 0, 1]⟩])
      .ret)
     (.skip)))
   (.seq (.region false [⟨(some 11), .mv (.t 0), none, []⟩,
     ⟨(some 12), .slc (.t 11) none (some (.k (.d (.int .i64 4)))) none 1, none, [0]⟩,
     ⟨(some 13), .call (.k (.d (.fn (N 280)))) [(.t 12)], none, [1]⟩,
     ⟨(some 5), .mv (.t 13), none, [2, 0, 1]⟩])
    (.seq (.seq (.region false [⟨(some 14), .mv (.t 5), none, []⟩,
       ⟨(some 15), .bin .gtr (.t 14) (.k (.d (.int .u64 32768))), none, [0]⟩])
      (.cond (.t 15) (.seq (.region false [⟨(some 16), .build [(.int .u64 0), (.sl [])] [], none, []⟩,
         ⟨none, .store (.t 2) (.t 16) 2, none, [0]⟩,
         ⟨(some 3), .mv (.k (.d (.int .i64 0))), none, [1, 0]⟩,
         ⟨(some 4), .mv (.k (.d (.int .i64 5))), none, [2, 0, 1]⟩])
        .ret)
       (.skip)))
     (.seq (.seq (.region false [⟨(some 17), .mv (.t 0), none, []⟩,
        ⟨(some 18), .len (.t 17), none, [0]⟩,
        ⟨(some 19), .bin .sub (.t 18) (.k (.d (.int .i64 16))), none, [1]⟩,
        ⟨(some 20), .cvi .u64 (.t 19), none, [2]⟩,
        ⟨(some 21), .mv (.t 5), none, []⟩,
        ⟨(some 22), .bin .lss (.t 20) (.t 21), none, [3, 4]⟩])
       (.cond (.t 22) (.seq (.region false [⟨(some 23), .build [(.int .u64 0), (.sl [])] [], none, []⟩,
          ⟨none, .store (.t 2) (.t 23) 2, none, [0]⟩,
          ⟨(some 3), .mv (.k (.d (.int .i64 0))), none, [1, 0]⟩,
          ⟨(some 4), .mv (.k (.d (.int .i64 3))), none, [2, 0, 1]⟩])
         .ret)
        (.skip)))
      (.seq (.region false [⟨(some 24), .mv (.t 5), none, []⟩,
        ⟨(some 25), .cvi .i64 (.t 24), none, [0]⟩,
        ⟨(some 26), .bin .add (.k (.d (.int .i64 16))) (.t 25), none, [1]⟩,
        ⟨(some 6), .mv (.t 26), none, [2, 0, 1]⟩])
       (.seq (.seq (.region true [⟨(some 27), .mv (.t 0), none, []⟩,
          ⟨(some 28), .mv (.t 6), none, []⟩,
          ⟨(some 29), .slc (.t 27) (some (.k (.d (.int .i64 8)))) (some (.t 28)) none 1, none, [0, 1]⟩,
          ⟨(some 30), .call (.k (.d (.fn (N 268)))) [(.t 29)], none, [2]⟩,
          ⟨(some 31), .cvi .u64 (.t 30), none, [3]⟩,
          ⟨(some 32), .mv (.t 0), none, []⟩,
          ⟨(some 33), .slc (.t 32) (some (.k (.d (.int .i64 4)))) (some (.k (.d (.int .i64 8)))) none 1, none, [5]⟩,
          ⟨(some 34), .call (.k (.d (.fn (N 280)))) [(.t 33)], none, [6, 3]⟩,
          ⟨(some 35), .bin .neq (.t 31) (.t 34), none, [4, 7]⟩])
         (.cond (.t 35) (.seq (.region false [⟨(some 36), .build [(.int .u64 0), (.sl [])] [], none, []⟩,
            ⟨none, .store (.t 2) (.t 36) 2, none, [0]⟩,
            ⟨(some 3), .mv (.k (.d (.int .i64 0))), none, [1, 0]⟩,
            ⟨(some 4), .mv (.k (.d (.int .i64 4))), none, [2, 0, 1]⟩])
           .ret)
          (.skip)))
        (.seq (.region true [⟨(some 37), .mv (.t 0), none, []⟩,
          ⟨(some 38), .slc (.t 37) (some (.k (.d (.int .i64 8)))) (some (.k (.d (.int .i64 16)))) none 1, none, [0]⟩,
          ⟨(some 39), .call (.k (.d (.fn (N 280)))) [(.t 38)], none, [1]⟩,
          ⟨(some 40), .mv (.t 0), none, []⟩,
          ⟨(some 41), .mv (.t 6), none, []⟩,
          ⟨(some 42), .slc (.t 40) (some (.k (.d (.int .i64 16)))) (some (.t 41)) none 1, none, [3, 4]⟩,
          ⟨(some 43), .app (.k .nils) (.t 42) 1 1 [(.int .u8 0)], none, [5, 2]⟩,
          ⟨(some 44), .build [(.int .u64 0), (.sl [])] [(0, 1, (.t 39)), (1, 1, (.t 43))], none, [2, 6]⟩,
          ⟨(some 45), .mv (.t 6), none, []⟩,
          ⟨none, .store (.t 2) (.t 44) 2, none, [7, 6, 0, 1, 2, 3, 4, 5]⟩,
          ⟨(some 3), .mv (.t 45), none, [8, 9, 0, 1, 2, 3, 4, 5, 6, 7]⟩,
          ⟨(some 4), .mv (.k (.d (.int .i64 0))), none, [10, 0, 1, 2, 3, 4, 5, 6, 7, 8, 9]⟩])
         .ret)))))))) }
def HC279 (P : Program) (N : Nat → Nat) : Prop := HasF P (N 279) (C279 N) ∧ HC280 P N ∧ HC268 P N
def f279 (k : Nat) (a0 : (List UInt8)) : Option (Int × Int × Int × (List UInt8)) := cond (decide (((a0.length : Nat) : Int) < (16 : Int))) (some ((0 : Int), (3 : Int), (0 : Int), ([] : List UInt8))) (gd (0 ≤ (0 : Int) ∧ (0 : Int) ≤ (4 : Int) ∧ (4 : Int) ≤ ((a0.length : Nat) : Int)) ((f280 k (sl a0 (0 : Int) (4 : Int))).bind fun r29 => cond (decide (r29 > (32768 : Int))) (some ((0 : Int), (5 : Int), (0 : Int), ([] : List UInt8))) (cond (decide ((IntKind.u64.wrap (IntKind.i64.wrap (((a0.length : Nat) : Int) - (16 : Int)))) < r29)) (some ((0 : Int), (3 : Int), (0 : Int), ([] : List UInt8))) (gd (0 ≤ (8 : Int) ∧ (8 : Int) ≤ (IntKind.i64.wrap ((16 : Int) + (IntKind.i64.wrap r29))) ∧ (IntKind.i64.wrap ((16 : Int) + (IntKind.i64.wrap r29))) ≤ ((a0.length : Nat) : Int)) ((f268 k (sl a0 (8 : Int) (IntKind.i64.wrap ((16 : Int) + (IntKind.i64.wrap r29))))).bind fun r81 => gd (0 ≤ (4 : Int) ∧ (4 : Int) ≤ (8 : Int) ∧ (8 : Int) ≤ ((a0.length : Nat) : Int)) ((f280 k (sl a0 (4 : Int) (8 : Int))).bind fun r85 => cond (decide ((IntKind.u64.wrap r81) ≠ r85)) (some ((0 : Int), (4 : Int), (0 : Int), ([] : List UInt8))) (gd (0 ≤ (8 : Int) ∧ (8 : Int) ≤ (16 : Int) ∧ (16 : Int) ≤ ((a0.length : Nat) : Int)) ((f280 k (sl a0 (8 : Int) (16 : Int))).bind fun r102 => gd (0 ≤ (16 : Int) ∧ (16 : Int) ≤ (IntKind.i64.wrap ((16 : Int) + (IntKind.i64.wrap r29))) ∧ (IntKind.i64.wrap ((16 : Int) + (IntKind.i64.wrap r29))) ≤ ((a0.length : Nat) : Int)) (gd ((sl a0 (16 : Int) (IntKind.i64.wrap ((16 : Int) + (IntKind.i64.wrap r29)))).length * 1 ≤ 281474976710656) (some ((IntKind.i64.wrap ((16 : Int) + (IntKind.i64.wrap r29))), (0 : Int), r102, (sl a0 (16 : Int) (IntKind.i64.wrap ((16 : Int) + (IntKind.i64.wrap r29)))))))))))))))
theorem F279 {P : Program} {N : Nat → Nat} (hmix : P.follows .mixedOrders = true) (hc : HC279 P N) {k : Nat} {a0 : (List UInt8)} {r : (Int × Int × Int × (List UInt8))} (h : f279 k a0 = some r) :
    ACalls P (N 279) [(.d (.sl (List.map byteD a0)))] [] (.tup [(.d (.agg [(.int .u64 r.2.2.1), (.sl (List.map byteD r.2.2.2))])), (.d (.int .i64 r.1)), (.d (.int .i64 r.2.1))]) [] := by
  refine acalls_canon (F := C279 N) hc.1 0 0 rfl ?_
  unfold f279 at h
  dsimp only [C279, startL]
  refine AWc.seq ?_
  refine AWc.rg hmix rfl rfl ?_
  refine RegV.evS (own := false) (v := (.ptr 0 0)) (H' := [(0, (.cells [(.d (.int .u64 (0 : Int))), .nils]))]) (c' := 1) rfl rfl trivial rfl rfl rfl rfl rfl rfl ?_
  refine RegV.p0 rfl rfl rfl ?_
  refine RegV.p0 rfl rfl rfl ?_
  refine RegV.nil0 ?_
  refine AWc.seq ?_
  refine AWc.seq ?_
  refine AWc.rg hmix rfl rfl ?_
  refine RegV.p0 rfl rfl rfl ?_
  refine RegV.len (xs := a0) (e := byteD) rfl rfl rfl rfl ?_
  refine RegV.p0 (v := (.d (.bool (decide (((a0.length : Nat) : Int) < (16 : Int)))))) rfl rfl rfl ?_
  refine RegV.nil0 ?_
  refine AWc.cond rfl (fun c14 => ?_) (fun c14 => ?_)
  · have h := cond_pos c14 h
    refine AWc.seq ?_
    refine AWc.rg hmix rfl rfl ?_
    refine RegV.p1 (v := (.d (.agg [(.int .u64 (0 : Int)), (.sl (List.map byteD ([] : List UInt8)))]))) rfl rfl trivial rfl rfl ?_
    refine RegV.evN (own := false) (H' := [(0, (.cells [(.d (.int .u64 (0 : Int))), (.d (.sl (List.map byteD ([] : List UInt8))))]))]) (c' := 1) rfl rfl (by exact ⟨rfl, Nat.le_of_ble_eq_true rfl, rfl⟩) rfl rfl rfl rfl ?_
    refine RegV.p0 rfl rfl rfl ?_
    refine RegV.p0 rfl rfl rfl ?_
    refine RegV.nil0 ?_
    have hr := Option.some.inj h
    subst hr
    exact AWc.ret (canQ (N := 46) (k := 1) (l' := [(2, (.ptr 0 0)), (3, (.d (.int .i64 (0 : Int)))), (4, (.d (.int .i64 (3 : Int))))]) (H' := [(0, (.cells [(.d (.int .u64 (0 : Int))), (.d (.sl (List.map byteD ([] : List UInt8))))]))]) rfl ⟨rfl, [], [], rfl, rfl, ⟨⟨_, rfl, (.refl _)⟩, rfl, ⟨⟨_, rfl, (.refl _)⟩, rfl, ⟨⟨_, rfl, (.refl _)⟩, rfl, trivial⟩⟩⟩, ⟨⟨_, rfl, (.refl _)⟩, rfl, rfl, trivial⟩⟩ (doneA (.inr rfl) rfl ⟨(Nat.le_of_ble_eq_true rfl), ⟨trivial, ⟨trivial, trivial⟩⟩⟩ (.refl _) hasNil))
  · have h := cond_neg c14 h
    refine AWc.skip ?_
    refine AWc.seq ?_
    refine AWc.rg hmix rfl rfl ?_
    refine RegV.p0 rfl rfl rfl ?_
    obtain ⟨b28, h⟩ := gd_some h
    refine RegV.slc (xs := a0) (e := byteD) (lo := (0 : Int)) (hi := (4 : Int)) rfl rfl rfl b28 (fun _ => rfl) rfl ?_
    obtain ⟨r29, e29, h⟩ := bind_some h
    refine RegV.call0 (F280 hmix hc.2.1 e29) rfl rfl rfl rfl (.cons (.refl _) .nil) rfl ?_
    refine RegV.p0 rfl rfl rfl ?_
    refine RegV.nil0 ?_
    refine AWc.seq ?_
    refine AWc.seq ?_
    refine AWc.rg hmix rfl rfl ?_
    refine RegV.p0 rfl rfl rfl ?_
    refine RegV.p0 (v := (.d (.bool (decide (r29 > (32768 : Int)))))) rfl rfl rfl ?_
    refine RegV.nil0 ?_
    refine AWc.cond rfl (fun c37 => ?_) (fun c37 => ?_)
    · have h := cond_pos c37 h
      refine AWc.seq ?_
      refine AWc.rg hmix rfl rfl ?_
      refine RegV.p1 (v := (.d (.agg [(.int .u64 (0 : Int)), (.sl (List.map byteD ([] : List UInt8)))]))) rfl rfl trivial rfl rfl ?_
      refine RegV.evN (own := false) (H' := [(0, (.cells [(.d (.int .u64 (0 : Int))), (.d (.sl (List.map byteD ([] : List UInt8))))]))]) (c' := 1) rfl rfl (by exact ⟨rfl, Nat.le_of_ble_eq_true rfl, rfl⟩) rfl rfl rfl rfl ?_
      refine RegV.p0 rfl rfl rfl ?_
      refine RegV.p0 rfl rfl rfl ?_
      refine RegV.nil0 ?_
      have hr := Option.some.inj h
      subst hr
      exact AWc.ret (canQ (N := 46) (k := 1) (l' := [(2, (.ptr 0 0)), (3, (.d (.int .i64 (0 : Int)))), (4, (.d (.int .i64 (5 : Int))))]) (H' := [(0, (.cells [(.d (.int .u64 (0 : Int))), (.d (.sl (List.map byteD ([] : List UInt8))))]))]) rfl ⟨rfl, [], [], rfl, rfl, ⟨⟨_, rfl, (.refl _)⟩, rfl, ⟨⟨_, rfl, (.refl _)⟩, rfl, ⟨⟨_, rfl, (.refl _)⟩, rfl, trivial⟩⟩⟩, ⟨⟨_, rfl, (.refl _)⟩, rfl, rfl, trivial⟩⟩ (doneA (.inr rfl) rfl ⟨(Nat.le_of_ble_eq_true rfl), ⟨trivial, ⟨trivial, trivial⟩⟩⟩ (.refl _) hasNil))
    · have h := cond_neg c37 h
      refine AWc.skip ?_
      refine AWc.seq ?_
      refine AWc.seq ?_
      refine AWc.rg hmix rfl rfl ?_
      refine RegV.p0 rfl rfl rfl ?_
      refine RegV.len (xs := a0) (e := byteD) rfl rfl rfl rfl ?_
      refine RegV.p0 (v := (.d (.int .i64 (IntKind.i64.wrap (((a0.length : Nat) : Int) - (16 : Int)))))) rfl rfl rfl ?_
      refine RegV.p0 (v := (.d (.int .u64 (IntKind.u64.wrap (IntKind.i64.wrap (((a0.length : Nat) : Int) - (16 : Int))))))) rfl rfl rfl ?_
      refine RegV.p0 rfl rfl rfl ?_
      refine RegV.p0 (v := (.d (.bool (decide ((IntKind.u64.wrap (IntKind.i64.wrap (((a0.length : Nat) : Int) - (16 : Int)))) < r29))))) rfl rfl rfl ?_
      refine RegV.nil0 ?_
      refine AWc.cond rfl (fun c57 => ?_) (fun c57 => ?_)
      · have h := cond_pos c57 h
        refine AWc.seq ?_
        refine AWc.rg hmix rfl rfl ?_
        refine RegV.p1 (v := (.d (.agg [(.int .u64 (0 : Int)), (.sl (List.map byteD ([] : List UInt8)))]))) rfl rfl trivial rfl rfl ?_
        refine RegV.evN (own := false) (H' := [(0, (.cells [(.d (.int .u64 (0 : Int))), (.d (.sl (List.map byteD ([] : List UInt8))))]))]) (c' := 1) rfl rfl (by exact ⟨rfl, Nat.le_of_ble_eq_true rfl, rfl⟩) rfl rfl rfl rfl ?_
        refine RegV.p0 rfl rfl rfl ?_
        refine RegV.p0 rfl rfl rfl ?_
        refine RegV.nil0 ?_
        have hr := Option.some.inj h
        subst hr
        exact AWc.ret (canQ (N := 46) (k := 1) (l' := [(2, (.ptr 0 0)), (3, (.d (.int .i64 (0 : Int)))), (4, (.d (.int .i64 (3 : Int))))]) (H' := [(0, (.cells [(.d (.int .u64 (0 : Int))), (.d (.sl (List.map byteD ([] : List UInt8))))]))]) rfl ⟨rfl, [], [], rfl, rfl, ⟨⟨_, rfl, (.refl _)⟩, rfl, ⟨⟨_, rfl, (.refl _)⟩, rfl, ⟨⟨_, rfl, (.refl _)⟩, rfl, trivial⟩⟩⟩, ⟨⟨_, rfl, (.refl _)⟩, rfl, rfl, trivial⟩⟩ (doneA (.inr rfl) rfl ⟨(Nat.le_of_ble_eq_true rfl), ⟨trivial, ⟨trivial, trivial⟩⟩⟩ (.refl _) hasNil))
      · have h := cond_neg c57 h
        refine AWc.skip ?_
        refine AWc.seq ?_
        refine AWc.rg hmix rfl rfl ?_
        refine RegV.p0 rfl rfl rfl ?_
        refine RegV.p0 (v := (.d (.int .i64 (IntKind.i64.wrap r29)))) rfl rfl rfl ?_
        refine RegV.p0 (v := (.d (.int .i64 (IntKind.i64.wrap ((16 : Int) + (IntKind.i64.wrap r29)))))) rfl rfl rfl ?_
        refine RegV.p0 rfl rfl rfl ?_
        refine RegV.nil0 ?_
        refine AWc.seq ?_
        refine AWc.seq ?_
        refine AWc.rg hmix rfl rfl ?_
        refine RegV.p0 rfl rfl rfl ?_
        refine RegV.p0 rfl rfl rfl ?_
        obtain ⟨b80, h⟩ := gd_some h
        refine RegV.slc (xs := a0) (e := byteD) (lo := (8 : Int)) (hi := (IntKind.i64.wrap ((16 : Int) + (IntKind.i64.wrap r29)))) rfl rfl rfl b80 (fun _ => rfl) rfl ?_
        obtain ⟨r81, e81, h⟩ := bind_some h
        refine RegV.call0 (F268 hmix hc.2.2 e81) rfl rfl rfl rfl (.cons (.refl _) .nil) rfl ?_
        refine RegV.p0 (v := (.d (.int .u64 (IntKind.u64.wrap r81)))) rfl rfl rfl ?_
        refine RegV.p0 rfl rfl rfl ?_
        obtain ⟨b84, h⟩ := gd_some h
        refine RegV.slc (xs := a0) (e := byteD) (lo := (4 : Int)) (hi := (8 : Int)) rfl rfl rfl b84 (fun _ => rfl) rfl ?_
        obtain ⟨r85, e85, h⟩ := bind_some h
        refine RegV.call0 (F280 hmix hc.2.1 e85) rfl rfl rfl rfl (.cons (.refl _) .nil) rfl ?_
        refine RegV.p0 (v := (.d (.bool (decide ((IntKind.u64.wrap r81) ≠ r85))))) rfl rfl rfl ?_
        refine RegV.nil1 (by kernel_rfl) ?_
        refine AWc.cond rfl (fun c87 => ?_) (fun c87 => ?_)
        · have h := cond_pos c87 h
          refine AWc.seq ?_
          refine AWc.rg hmix rfl rfl ?_
          refine RegV.p1 (v := (.d (.agg [(.int .u64 (0 : Int)), (.sl (List.map byteD ([] : List UInt8)))]))) rfl rfl trivial rfl rfl ?_
          refine RegV.evN (own := false) (H' := [(0, (.cells [(.d (.int .u64 (0 : Int))), (.d (.sl (List.map byteD ([] : List UInt8))))]))]) (c' := 1) rfl rfl (by exact ⟨rfl, Nat.le_of_ble_eq_true rfl, rfl⟩) rfl rfl rfl rfl ?_
          refine RegV.p0 rfl rfl rfl ?_
          refine RegV.p0 rfl rfl rfl ?_
          refine RegV.nil0 ?_
          have hr := Option.some.inj h
          subst hr
          exact AWc.ret (canQ (N := 46) (k := 1) (l' := [(2, (.ptr 0 0)), (3, (.d (.int .i64 (0 : Int)))), (4, (.d (.int .i64 (4 : Int))))]) (H' := [(0, (.cells [(.d (.int .u64 (0 : Int))), (.d (.sl (List.map byteD ([] : List UInt8))))]))]) rfl ⟨rfl, [], [], rfl, rfl, ⟨⟨_, rfl, (.refl _)⟩, rfl, ⟨⟨_, rfl, (.refl _)⟩, rfl, ⟨⟨_, rfl, (.refl _)⟩, rfl, trivial⟩⟩⟩, ⟨⟨_, rfl, (.refl _)⟩, rfl, rfl, trivial⟩⟩ (doneA (.inr rfl) rfl ⟨(Nat.le_of_ble_eq_true rfl), ⟨trivial, ⟨trivial, trivial⟩⟩⟩ (.refl _) hasNil))
        · have h := cond_neg c87 h
          refine AWc.skip ?_
          refine AWc.seq ?_
          refine AWc.rg hmix rfl rfl ?_
          refine RegV.p0 rfl rfl rfl ?_
          obtain ⟨b101, h⟩ := gd_some h
          refine RegV.slc (xs := a0) (e := byteD) (lo := (8 : Int)) (hi := (16 : Int)) rfl rfl rfl b101 (fun _ => rfl) rfl ?_
          obtain ⟨r102, e102, h⟩ := bind_some h
          refine RegV.call0 (F280 hmix hc.2.1 e102) rfl rfl rfl rfl (.cons (.refl _) .nil) rfl ?_
          refine RegV.p0 rfl rfl rfl ?_
          refine RegV.p0 rfl rfl rfl ?_
          obtain ⟨b105, h⟩ := gd_some h
          refine RegV.slc (xs := a0) (e := byteD) (lo := (16 : Int)) (hi := (IntKind.i64.wrap ((16 : Int) + (IntKind.i64.wrap r29)))) rfl rfl rfl b105 (fun _ => rfl) rfl ?_
          obtain ⟨b106, h⟩ := gd_some h
          refine RegV.appN (ys := (sl a0 (16 : Int) (IntKind.i64.wrap ((16 : Int) + (IntKind.i64.wrap r29))))) (e := byteD) rfl rfl rfl (fun _ => rfl) rfl rfl b106 rfl rfl ?_
          refine RegV.p1 (v := (.d (.agg [(.int .u64 r102), (.sl (List.map byteD (sl a0 (16 : Int) (IntKind.i64.wrap ((16 : Int) + (IntKind.i64.wrap r29))))))]))) rfl rfl (by exact ⟨⟨rfl, Nat.le_of_ble_eq_true rfl⟩, ⟨⟨rfl, Nat.le_of_ble_eq_true rfl⟩, trivial⟩⟩) rfl rfl ?_
          refine RegV.p0 rfl rfl rfl ?_
          refine RegV.evN (own := false) (H' := [(0, (.cells [(.d (.int .u64 r102)), (.d (.sl (List.map byteD (sl a0 (16 : Int) (IntKind.i64.wrap ((16 : Int) + (IntKind.i64.wrap r29)))))))])), (1, (.tok ((List.map byteD (sl a0 (16 : Int) (IntKind.i64.wrap ((16 : Int) + (IntKind.i64.wrap r29))))).length * 1)))]) (c' := 2) rfl rfl (by exact ⟨rfl, Nat.le_of_ble_eq_true rfl, rfl⟩) rfl rfl rfl rfl ?_
          refine RegV.p0 rfl rfl rfl ?_
          refine RegV.p0 rfl rfl rfl ?_
          refine RegV.nil1 (by kernel_rfl) ?_
          have hr := Option.some.inj h
          subst hr
          exact AWc.ret (canQ (N := 46) (k := 1) (l' := [(2, (.ptr 0 0)), (3, (.d (.int .i64 (IntKind.i64.wrap ((16 : Int) + (IntKind.i64.wrap r29)))))), (4, (.d (.int .i64 (0 : Int))))]) (H' := [(0, (.cells [(.d (.int .u64 r102)), (.d (.sl (List.map byteD (sl a0 (16 : Int) (IntKind.i64.wrap ((16 : Int) + (IntKind.i64.wrap r29)))))))]))]) rfl ⟨rfl, [], [], rfl, rfl, ⟨⟨_, rfl, (.refl _)⟩, rfl, ⟨⟨_, rfl, (.refl _)⟩, rfl, ⟨⟨_, rfl, (.refl _)⟩, rfl, trivial⟩⟩⟩, ⟨⟨_, rfl, (.refl _)⟩, rfl, rfl, trivial⟩⟩ (doneA (.inr rfl) rfl ⟨(Nat.le_of_ble_eq_true rfl), ⟨trivial, ⟨trivial, trivial⟩⟩⟩ (.refl _) hasNil))
/-- courant/couranthelp.Bytes -/
def C22 (N : Nat → Nat) : AFunc := { n := 10, params := 2, res := [.tmp 4], body :=
 (.seq (.region false [⟨(some 4), .mv (.k (.d (.bool false))), none, []⟩])
  (.seq (.region false [⟨(some 5), .mv (.t 0), none, []⟩,
    ⟨(some 6), .bs2s (.t 5), none, [0]⟩,
    ⟨(some 7), .mv (.t 1), none, []⟩,
    ⟨(some 8), .bs2s (.t 7), none, [2]⟩,
    ⟨(some 9), .bin .eql (.t 6) (.t 8), none, [1, 3]⟩,
    ⟨(some 4), .mv (.t 9), none, [4, 0, 1, 2, 3]⟩])
   .ret)) }
def HC22 (P : Program) (N : Nat → Nat) : Prop := HasF P (N 22) (C22 N)
def f22 (k : Nat) (a0 : (List UInt8)) (a1 : (List UInt8)) : Option Unit := some ()
theorem F22 {P : Program} {N : Nat → Nat} (hmix : P.follows .mixedOrders = true) (hc : HC22 P N) {k : Nat} {a0 : (List UInt8)} {a1 : (List UInt8)} {r : Unit} (h : f22 k a0 a1 = some r) :
    ACalls P (N 22) [(.d (.sl (List.map byteD a0))), (.d (.sl (List.map byteD a1)))] [] (.d (.bool (decide (a0 = a1)))) [] := by
  refine acalls_canon (F := C22 N) hc 0 0 rfl ?_
  unfold f22 at h
  dsimp only [C22, startL]
  refine AWc.seq ?_
  refine AWc.rg hmix rfl rfl ?_
  refine RegV.p0 rfl rfl rfl ?_
  refine RegV.nil0 ?_
  refine AWc.seq ?_
  refine AWc.rg hmix rfl rfl ?_
  refine RegV.p0 rfl rfl rfl ?_
  refine RegV.bs2s (b := a0) rfl rfl rfl ?_
  refine RegV.p0 rfl rfl rfl ?_
  refine RegV.bs2s (b := a1) rfl rfl rfl ?_
  refine RegV.p0 (v := (.d (.bool (decide (a0 = a1))))) rfl rfl rfl ?_
  refine RegV.p0 rfl rfl rfl ?_
  refine RegV.nil0 ?_
  have hr := Option.some.inj h
  subst hr
  exact AWc.ret (canQ (N := 10) (k := 0) (l' := [(4, (.d (.bool (decide (a0 = a1)))))]) (H' := []) rfl ⟨rfl, [], [], rfl, rfl, ⟨⟨_, rfl, (.refl _)⟩, rfl, trivial⟩,  trivial⟩ (doneA (.inr rfl) rfl ⟨trivial, trivial⟩ (.refl _) hasNil))
/-- courant/couranthelp.Rec -/
def C287 (N : Nat → Nat) : AFunc := { n := 17, params := 2, res := [.tmp 4], body :=
 (.seq (.region false [⟨(some 2), .box (.t 0), none, []⟩,
   ⟨(some 3), .box (.t 1), none, []⟩,
   ⟨(some 4), .mv (.k (.d (.bool false))), none, []⟩])
  (.seq (.region false [⟨(some 5), .faddr (.t 2) 0, none, []⟩,
    ⟨(some 6), .load (.t 5) 1 false, none, [0]⟩,
    ⟨(some 7), .faddr (.t 3) 0, none, []⟩,
    ⟨(some 8), .load (.t 7) 1 false, none, [2]⟩,
    ⟨(some 9), .bin .eql (.t 6) (.t 8), none, [1, 3]⟩,
    ⟨(some 10), .mv (.t 9), none, [4]⟩,
    ⟨(some 11), .faddr (.t 2) 1, (some (10, true)), [5]⟩,
    ⟨(some 12), .load (.t 11) 1 false, (some (10, true)), [6, 5]⟩,
    ⟨(some 13), .faddr (.t 3) 1, (some (10, true)), [5]⟩,
    ⟨(some 14), .load (.t 13) 1 false, (some (10, true)), [8, 5]⟩,
    ⟨(some 15), .call (.k (.d (.fn (N 22)))) [(.t 12), (.t 14)], (some (10, true)), [7, 9, 5]⟩,
    ⟨(some 16), .pick (.t 10) (.t 15) (.k (.d (.bool false))), none, [5, 10]⟩,
    ⟨(some 4), .mv (.t 16), none, [11, 10, 0, 1, 2, 3, 4, 5, 6, 7, 8, 9]⟩])
   .ret)) }
def HC287 (P : Program) (N : Nat → Nat) : Prop := HasF P (N 287) (C287 N) ∧ HC22 P N
def f287 (k : Nat) (a0 : TRec) (a1 : TRec) : Option Bool := cond (decide (a0.fOffset = a1.fOffset)) ((f22 k a0.fData a1.fData).bind fun r20 => some (decide (a0.fData = a1.fData))) (some false)
theorem F287 {P : Program} {N : Nat → Nat} (hmix : P.follows .mixedOrders = true) (hc : HC287 P N) {k : Nat} {a0 : TRec} {a1 : TRec} {r : Bool} (h : f287 k a0 a1 = some r) :
    ACalls P (N 287) [(.d (TRec.enc a0)), (.d (TRec.enc a1))] [] (.d (.bool r)) [] := by
  refine acalls_canon (F := C287 N) hc.1 0 0 rfl ?_
  unfold f287 at h
  dsimp only [C287, startL]
  refine AWc.seq ?_
  refine AWc.rg hmix rfl rfl ?_
  refine RegV.evS (own := false) (v := (.ptr 0 0)) (H' := [(0, (.cells [(.d (.int .u64 a0.fOffset)), (.d (.sl (List.map byteD a0.fData)))]))]) (c' := 1) rfl rfl trivial rfl rfl rfl rfl rfl rfl ?_
  refine RegV.evS (own := false) (v := (.ptr 1 0)) (H' := [(1, (.cells [(.d (.int .u64 a1.fOffset)), (.d (.sl (List.map byteD a1.fData)))])), (0, (.cells [(.d (.int .u64 a0.fOffset)), (.d (.sl (List.map byteD a0.fData)))]))]) (c' := 2) rfl rfl trivial rfl rfl rfl rfl rfl rfl ?_
  refine RegV.p0 rfl rfl rfl ?_
  refine RegV.nil0 ?_
  refine AWc.seq ?_
  refine AWc.rg hmix rfl rfl ?_
  refine RegV.p0 (v := (.ptr 0 0)) rfl rfl rfl ?_
  refine RegV.ld (v := (.d (.int .u64 a0.fOffset))) (H' := [(0, (.cells [(.d (.int .u64 a0.fOffset)), (.d (.sl (List.map byteD a0.fData)))])), (1, (.cells [(.d (.int .u64 a1.fOffset)), (.d (.sl (List.map byteD a1.fData)))]))]) rfl rfl trivial rfl rfl rfl rfl rfl ?_
  refine RegV.p0 (v := (.ptr 1 0)) rfl rfl rfl ?_
  refine RegV.ld (v := (.d (.int .u64 a1.fOffset))) (H' := [(1, (.cells [(.d (.int .u64 a1.fOffset)), (.d (.sl (List.map byteD a1.fData)))])), (0, (.cells [(.d (.int .u64 a0.fOffset)), (.d (.sl (List.map byteD a0.fData)))]))]) rfl rfl trivial rfl rfl rfl rfl rfl ?_
  refine RegV.p0 (v := (.d (.bool (decide (a0.fOffset = a1.fOffset))))) rfl rfl rfl ?_
  refine RegV.p0 rfl rfl rfl ?_
  refine RegV.split (fun c15 => ?_) (fun c15 => ?_)
  · have h := cond_pos c15 h
    refine RegV.p0 (v := (.ptr 0 1)) rfl rfl rfl ?_
    refine RegV.ld (v := (.d (.sl (List.map byteD a0.fData)))) (H' := [(0, (.cells [(.d (.int .u64 a0.fOffset)), (.d (.sl (List.map byteD a0.fData)))])), (1, (.cells [(.d (.int .u64 a1.fOffset)), (.d (.sl (List.map byteD a1.fData)))]))]) rfl rfl trivial rfl rfl rfl rfl rfl ?_
    refine RegV.p0 (v := (.ptr 1 1)) rfl rfl rfl ?_
    refine RegV.ld (v := (.d (.sl (List.map byteD a1.fData)))) (H' := [(1, (.cells [(.d (.int .u64 a1.fOffset)), (.d (.sl (List.map byteD a1.fData)))])), (0, (.cells [(.d (.int .u64 a0.fOffset)), (.d (.sl (List.map byteD a0.fData)))]))]) rfl rfl trivial rfl rfl rfl rfl rfl ?_
    obtain ⟨r20, e20, h⟩ := bind_some h
    refine RegV.call0 (F22 hmix hc.2 e20) rfl rfl rfl rfl (.cons (.refl _) (.cons (.refl _) .nil)) rfl ?_
    refine RegV.p0 rfl rfl rfl ?_
    refine RegV.p0 rfl rfl rfl ?_
    refine RegV.nil0 ?_
    have hr := Option.some.inj h
    subst hr
    exact AWc.ret (canQ (N := 17) (k := 0) (l' := [(4, (.d (.bool (decide (a0.fData = a1.fData)))))]) (H' := []) rfl ⟨rfl, [], [], rfl, rfl, ⟨⟨_, rfl, (.refl _)⟩, rfl, trivial⟩,  trivial⟩ (doneA (.inr rfl) rfl ⟨trivial, trivial⟩ (.refl _) hasNil))
  · have h := cond_neg c15 h
    refine RegV.noS rfl rfl ?_
    refine RegV.noS rfl rfl ?_
    refine RegV.noS rfl rfl ?_
    refine RegV.noS rfl rfl ?_
    refine RegV.noS rfl rfl ?_
    refine RegV.p0 rfl rfl rfl ?_
    refine RegV.p0 rfl rfl rfl ?_
    refine RegV.nil0 ?_
    have hr := Option.some.inj h
    subst hr
    exact AWc.ret (canQ (N := 17) (k := 0) (l' := [(4, (.d (.bool false)))]) (H' := []) rfl ⟨rfl, [], [], rfl, rfl, ⟨⟨_, rfl, (.refl _)⟩, rfl, trivial⟩,  trivial⟩ (doneA (.inr rfl) rfl ⟨trivial, trivial⟩ (.refl _) hasNil))
/-- courant/couranthelp.Spoil -/
def C45 (N : Nat → Nat) : AFunc := { n := 17, params := 1, res := [], body :=
 (.seq (.region false [⟨(some 2), .mv (.k (.d (.int .i64 0))), none, []⟩])
  (.block 0 (.loop (.seq (.seq (.region false [⟨(some 3), .mv (.t 2), none, []⟩,
       ⟨(some 4), .mv (.t 0), none, []⟩,
       ⟨(some 5), .len (.t 4), none, [1]⟩,
       ⟨(some 6), .bin .lss (.t 3) (.t 5), none, [0, 2]⟩])
      (.cond (.t 6) (.skip)
       (.exit 0)))
     (.seq (.block 1 (.region false [⟨(some 9), .mv (.t 0), none, []⟩,
        ⟨(some 10), .mv (.t 2), none, []⟩,
        ⟨(some 11), .mv (.t 0), none, []⟩,
        ⟨(some 12), .mv (.t 2), none, []⟩,
        ⟨(some 13), .iaddr (.t 11) (.t 12) 1, none, [2, 3]⟩,
        ⟨(some 14), .load (.t 13) 1 false, none, [4]⟩,
        ⟨(some 15), .bin .xor (.t 14) (.k (.d (.int .u8 85))), none, [5]⟩,
        ⟨(some 16), .iaddr (.t 9) (.t 10) 1, none, [0, 1, 2, 3, 4, 5, 6]⟩,
        ⟨none, .store (.t 16) (.t 15) 1, none, [7, 6, 0, 1, 2, 3, 4, 5]⟩]))
      (.region false [⟨(some 7), .mv (.t 2), none, []⟩,
       ⟨(some 8), .bin .add (.t 7) (.k (.d (.int .i64 1))), none, [0]⟩,
       ⟨(some 2), .mv (.t 8), none, [1, 0]⟩])))))) }
def HC45 (P : Program) (N : Nat → Nat) : Prop := HasF P (N 45) (C45 N)
def f45_l5 (a1 : Nat) : Nat → Int → (List UInt8) → Option (LR2 (List UInt8) Unit (List UInt8))
  | 0, _, _ => none
  | k + 1, y5_1, y5_2 => cond (decide (y5_1 < ((a1 : Nat) : Int))) (gd (0 ≤ y5_1 ∧ y5_1 < ((a1 : Nat) : Int)) (gd ((y5_1).toNat < y5_2.length) (gd (0 ≤ y5_1 ∧ y5_1 < ((a1 : Nat) : Int)) (gd ((y5_1).toNat < y5_2.length) (f45_l5 a1 k (IntKind.i64.wrap (y5_1 + (1 : Int))) (List.set y5_2 (y5_1).toNat (u8 (bitsA .xor .u8 (((List.getD y5_2 (y5_1).toNat default).toNat : Nat) : Int) (85 : Int))))))))) (some (.b0 y5_2))
def f45 (k : Nat) (a0 : (List UInt8)) (a1 : Nat) : Option (List UInt8) := (f45_l5 a1 k (0 : Int) a0).bind fun o5 => match o5 with | .b0 x5_1 => some x5_1 | _ => none
theorem F45 {P : Program} {N : Nat → Nat} (hmix : P.follows .mixedOrders = true) (hc : HC45 P N) {k : Nat} {a0 : (List UInt8)} {a1 : Nat} {r : (List UInt8)} (h : f45 k a0 a1 = some r) :
    ACalls P (N 45) [(.row 0 1 a1)] [(0, (rowO byteD a0))] (.tup []) [(0, (rowO byteD r))] := by
  refine acalls_canon (F := C45 N) hc 1 1 rfl ?_
  unfold f45 at h
  dsimp only [C45, startL]
  refine AWc.seq ?_
  refine AWc.rg hmix rfl rfl ?_
  refine RegV.p0 rfl rfl rfl ?_
  refine RegV.nil0 ?_
  obtain ⟨o5, h5, h⟩ := bind_some h
  refine AWc.block ?_
  refine AWc.loopK (N := 17) 1 (fun (x : (Int × (List UInt8))) => [(0, (.row 0 1 a1)), (2, (.d (.int .i64 x.1)))]) (fun x => [(0, (rowO byteD x.2))]) (fun k x => f45_l5 a1 k x.1 x.2 = some o5) k ((0 : Int), a0) rfl_le (fun x hx => by cases hx) h5 ⟨rfl, [], [], rfl, rfl, ⟨⟨_, rfl, (.refl _)⟩, rfl, ⟨⟨_, rfl, (.refl _)⟩, rfl, trivial⟩⟩, ⟨⟨_, rfl, (.refl _)⟩, rfl, rfl, trivial⟩⟩ ?_
  clear h5
  intro k
  rintro ⟨y5_1, y5_2⟩ h5
  dsimp only at h5 ⊢
  rw [f45_l5] at h5
  refine AWc.seq ?_
  refine AWc.seq ?_
  refine AWc.rg hmix rfl rfl ?_
  refine RegV.p0 rfl rfl rfl ?_
  refine RegV.p0 rfl rfl rfl ?_
  refine RegV.lenR (len := a1) rfl rfl rfl ?_
  refine RegV.p0 (v := (.d (.bool (decide (y5_1 < ((a1 : Nat) : Int)))))) rfl rfl rfl ?_
  refine RegV.nil0 ?_
  refine AWc.cond rfl (fun c15 => ?_) (fun c15 => ?_)
  · have h5 := cond_pos c15 h5
    refine AWc.skip ?_
    refine AWc.seq ?_
    refine AWc.block ?_
    refine AWc.rg hmix rfl rfl ?_
    refine RegV.p0 rfl rfl rfl ?_
    refine RegV.p0 rfl rfl rfl ?_
    refine RegV.p0 rfl rfl rfl ?_
    refine RegV.p0 rfl rfl rfl ?_
    obtain ⟨b26, h5⟩ := gd_some h5
    refine RegV.iaR (z := 1) rfl rfl (fun _ => rfl) b26 rfl ?_
    obtain ⟨b27, h5⟩ := gd_some h5
    refine RegV.ldR (e := byteD) (xs := y5_2) (i := (y5_1).toNat) (H' := [(0, (rowO byteD y5_2))]) rfl rfl rfl byteD_ok rfl b27 rfl rfl rfl rfl ?_
    refine RegV.p0 (v := (.d (.int .u8 (bitsA .xor .u8 (((List.getD y5_2 (y5_1).toNat default).toNat : Nat) : Int) (85 : Int))))) rfl rfl rfl ?_
    obtain ⟨b29, h5⟩ := gd_some h5
    refine RegV.iaR (z := 1) rfl rfl (fun _ => rfl) b29 rfl ?_
    obtain ⟨b30, h5⟩ := gd_some h5
    refine RegV.stR (e := byteD) (xs := y5_2) (i := (y5_1).toNat) (v := (u8 (bitsA .xor .u8 (((List.getD y5_2 (y5_1).toNat default).toNat : Nat) : Int) (85 : Int)))) (H' := [(0, (rowO byteD (List.set y5_2 (y5_1).toNat (u8 (bitsA .xor .u8 (((List.getD y5_2 (y5_1).toNat default).toNat : Nat) : Int) (85 : Int))))))]) rfl rfl rfl rfl (cellsU8 (u8_bits _ _ _)) byteD_ok rfl b30 rfl rfl rfl ?_
    refine RegV.nil0 ?_
    refine AWc.rg hmix rfl rfl ?_
    refine RegV.p0 rfl rfl rfl ?_
    refine RegV.p0 (v := (.d (.int .i64 (IntKind.i64.wrap (y5_1 + (1 : Int)))))) rfl rfl rfl ?_
    refine RegV.p0 rfl rfl rfl ?_
    refine RegV.nil0 ?_
    exact ⟨((IntKind.i64.wrap (y5_1 + (1 : Int))), (List.set y5_2 (y5_1).toNat (u8 (bitsA .xor .u8 (((List.getD y5_2 (y5_1).toNat default).toNat : Nat) : Int) (85 : Int))))), h5, ⟨rfl, [], [], rfl, rfl, ⟨⟨_, rfl, (.refl _)⟩, rfl, ⟨⟨_, rfl, (.refl _)⟩, rfl, trivial⟩⟩, ⟨⟨_, rfl, (.refl _)⟩, rfl, rfl, trivial⟩⟩⟩
  · have h5 := cond_neg c15 h5
    cases h5
    dsimp only at h
    refine AWc.exit ?_
    refine inBlk_eq ?_
    have hr := Option.some.inj h
    subst hr
    exact canQ (N := 17) (k := 1) (l' := []) (H' := [(0, (rowO byteD y5_2))]) rfl ⟨rfl, [], [], rfl, rfl,  trivial, ⟨⟨_, rfl, (.refl _)⟩, rfl, rfl, trivial⟩⟩ (doneA (.inl rfl) rfl trivial (.refl _) (hasCons rfl hasNil))
/-- courant/couranthelp.Plain[byte]$1 -/
def C109 (N : Nat → Nat) : AFunc := { n := 8, params := 2, res := [.tmp 4], body :=
 (.seq (.region false [⟨(some 4), .mv (.k (.d (.bool false))), none, []⟩])
  (.seq (.region false [⟨(some 5), .mv (.t 0), none, []⟩,
    ⟨(some 6), .mv (.t 1), none, []⟩,
    ⟨(some 7), .bin .eql (.t 5) (.t 6), none, [0, 1]⟩,
    ⟨(some 4), .mv (.t 7), none, [2, 0, 1]⟩])
   .ret)) }
def HC109 (P : Program) (N : Nat → Nat) : Prop := HasF P (N 109) (C109 N)
def f109 (k : Nat) (a0 : UInt8) (a1 : UInt8) : Option Unit := some ()
theorem F109 {P : Program} {N : Nat → Nat} (hmix : P.follows .mixedOrders = true) (hc : HC109 P N) {k : Nat} {a0 : UInt8} {a1 : UInt8} {r : Unit} (h : f109 k a0 a1 = some r) :
    ACalls P (N 109) [(.d (.int .u8 ((a0.toNat : Nat) : Int))), (.d (.int .u8 ((a1.toNat : Nat) : Int)))] [] (.d (.bool (decide (((a0.toNat : Nat) : Int) = ((a1.toNat : Nat) : Int))))) [] := by
  refine acalls_canon (F := C109 N) hc 0 0 rfl ?_
  unfold f109 at h
  dsimp only [C109, startL]
  refine AWc.seq ?_
  refine AWc.rg hmix rfl rfl ?_
  refine RegV.p0 rfl rfl rfl ?_
  refine RegV.nil0 ?_
  refine AWc.seq ?_
  refine AWc.rg hmix rfl rfl ?_
  refine RegV.p0 rfl rfl rfl ?_
  refine RegV.p0 rfl rfl rfl ?_
  refine RegV.p0 (v := (.d (.bool (decide (((a0.toNat : Nat) : Int) = ((a1.toNat : Nat) : Int)))))) rfl rfl rfl ?_
  refine RegV.p0 rfl rfl rfl ?_
  refine RegV.nil0 ?_
  have hr := Option.some.inj h
  subst hr
  exact AWc.ret (canQ (N := 8) (k := 0) (l' := [(4, (.d (.bool (decide (((a0.toNat : Nat) : Int) = ((a1.toNat : Nat) : Int))))))]) (H' := []) rfl ⟨rfl, [], [], rfl, rfl, ⟨⟨_, rfl, (.refl _)⟩, rfl, trivial⟩,  trivial⟩ (doneA (.inr rfl) rfl ⟨trivial, trivial⟩ (.refl _) hasNil))
/-- courant/couranthelp.Same[byte] -/
def C108 (N : Nat → Nat) : AFunc := { n := 30, params := 3, res := [.tmp 6], body :=
 (.seq (.region false [⟨(some 6), .mv (.k (.d (.bool false))), none, []⟩])
  (.seq (.seq (.region false [⟨(some 8), .mv (.t 0), none, []⟩,
     ⟨(some 9), .len (.t 8), none, [0]⟩,
     ⟨(some 10), .mv (.t 1), none, []⟩,
     ⟨(some 11), .len (.t 10), none, [2]⟩,
     ⟨(some 12), .bin .neq (.t 9) (.t 11), none, [1, 3]⟩])
    (.cond (.t 12) (.seq (.region false [⟨(some 6), .mv (.k (.d (.bool false))), none, []⟩])
      .ret)
     (.skip)))
   (.seq (.seq (.region false [⟨(some 7), .mv (.k (.d (.int .i64 0))), none, []⟩])
     (.block 0 (.loop (.seq (.seq (.region false [⟨(some 13), .mv (.t 7), none, []⟩,
          ⟨(some 14), .mv (.t 0), none, []⟩,
          ⟨(some 15), .len (.t 14), none, [1]⟩,
          ⟨(some 16), .bin .lss (.t 13) (.t 15), none, [0, 2]⟩])
         (.cond (.t 16) (.skip)
          (.exit 0)))
        (.seq (.block 1 (.seq (.region true [⟨(some 19), .mv (.t 2), none, []⟩,
            ⟨(some 20), .mv (.t 0), none, []⟩,
            ⟨(some 21), .mv (.t 7), none, []⟩,
            ⟨(some 22), .iaddr (.t 20) (.t 21) 1, none, [1, 2]⟩,
            ⟨(some 23), .load (.t 22) 1 false, none, [3]⟩,
            ⟨(some 24), .mv (.t 1), none, []⟩,
            ⟨(some 25), .mv (.t 7), none, []⟩,
            ⟨(some 26), .iaddr (.t 24) (.t 25) 1, none, [5, 6]⟩,
            ⟨(some 27), .load (.t 26) 1 false, none, [7]⟩,
            ⟨(some 28), .call (.t 19) [(.t 23), (.t 27)], none, [0, 4, 8]⟩,
            ⟨(some 29), .un .not (.t 28), none, [9]⟩])
           (.cond (.t 29) (.seq (.region false [⟨(some 6), .mv (.k (.d (.bool false))), none, []⟩])
             .ret)
            (.skip))))
         (.region false [⟨(some 17), .mv (.t 7), none, []⟩,
          ⟨(some 18), .bin .add (.t 17) (.k (.d (.int .i64 1))), none, [0]⟩,
          ⟨(some 7), .mv (.t 18), none, [1, 0]⟩]))))))
    (.seq (.region false [⟨(some 6), .mv (.k (.d (.bool true))), none, []⟩])
     .ret)))) }
def HC108 (P : Program) (N : Nat → Nat) : Prop := HasF P (N 108) (C108 N) ∧ HC109 P N
def f108_l26 (a0 : (List UInt8)) (a1 : (List UInt8)) : Nat → Int → Option (LR2 Unit Unit Bool)
  | 0, _ => none
  | k + 1, y26_1 => cond (decide (y26_1 < ((a0.length : Nat) : Int))) (gd (0 ≤ y26_1 ∧ y26_1 < ((a0.length : Nat) : Int)) (gd (0 ≤ y26_1 ∧ y26_1 < ((a1.length : Nat) : Int)) ((f109 k (rd a0 y26_1) (rd a1 y26_1)).bind fun r53 => cond (!(decide ((((rd a0 y26_1).toNat : Nat) : Int) = (((rd a1 y26_1).toNat : Nat) : Int)))) (some (.r false)) (f108_l26 a0 a1 k (IntKind.i64.wrap (y26_1 + (1 : Int))))))) (some (.b0 ()))
def f108 (k : Nat) (a0 : (List UInt8)) (a1 : (List UInt8)) : Option Bool := cond (decide (((a0.length : Nat) : Int) ≠ ((a1.length : Nat) : Int))) (some false) ((f108_l26 a0 a1 k (0 : Int)).bind fun o26 => match o26 with | .b0 () => some true | .r x => some x | _ => none)
theorem F108 {P : Program} {N : Nat → Nat} (hmix : P.follows .mixedOrders = true) (hc : HC108 P N) {k : Nat} {a0 : (List UInt8)} {a1 : (List UInt8)} {r : Bool} (h : f108 k a0 a1 = some r) :
    ACalls P (N 108) [(.d (.sl (List.map byteD a0))), (.d (.sl (List.map byteD a1))), (.d (.fn (N 109)))] [] (.d (.bool r)) [] := by
  refine acalls_canon (F := C108 N) hc.1 0 0 rfl ?_
  unfold f108 at h
  dsimp only [C108, startL]
  refine AWc.seq ?_
  refine AWc.rg hmix rfl rfl ?_
  refine RegV.p0 rfl rfl rfl ?_
  refine RegV.nil0 ?_
  refine AWc.seq ?_
  refine AWc.seq ?_
  refine AWc.rg hmix rfl rfl ?_
  refine RegV.p0 rfl rfl rfl ?_
  refine RegV.len (xs := a0) (e := byteD) rfl rfl rfl rfl ?_
  refine RegV.p0 rfl rfl rfl ?_
  refine RegV.len (xs := a1) (e := byteD) rfl rfl rfl rfl ?_
  refine RegV.p0 (v := (.d (.bool (decide (((a0.length : Nat) : Int) ≠ ((a1.length : Nat) : Int)))))) rfl rfl rfl ?_
  refine RegV.nil0 ?_
  refine AWc.cond rfl (fun c14 => ?_) (fun c14 => ?_)
  · have h := cond_pos c14 h
    refine AWc.seq ?_
    refine AWc.rg hmix rfl rfl ?_
    refine RegV.p0 rfl rfl rfl ?_
    refine RegV.nil0 ?_
    have hr := Option.some.inj h
    subst hr
    exact AWc.ret (canQ (N := 30) (k := 0) (l' := [(6, (.d (.bool false)))]) (H' := []) rfl ⟨rfl, [], [], rfl, rfl, ⟨⟨_, rfl, (.refl _)⟩, rfl, trivial⟩,  trivial⟩ (doneA (.inr rfl) rfl ⟨trivial, trivial⟩ (.refl _) hasNil))
  · have h := cond_neg c14 h
    refine AWc.skip ?_
    refine AWc.seq ?_
    refine AWc.seq ?_
    refine AWc.rg hmix rfl rfl ?_
    refine RegV.p0 rfl rfl rfl ?_
    refine RegV.nil0 ?_
    obtain ⟨o26, h26, h⟩ := bind_some h
    refine AWc.block ?_
    refine AWc.loopK (N := 30) 0 (fun (x : Int) => [(0, (.d (.sl (List.map byteD a0)))), (1, (.d (.sl (List.map byteD a1)))), (2, (.d (.fn (N 109)))), (7, (.d (.int .i64 x)))]) (fun x => []) (fun k x => f108_l26 a0 a1 k x = some o26) k (0 : Int) rfl_le (fun x hx => by cases hx) h26 ⟨rfl, [], [], rfl, rfl, ⟨⟨_, rfl, (.refl _)⟩, rfl, ⟨⟨_, rfl, (.refl _)⟩, rfl, ⟨⟨_, rfl, (.refl _)⟩, rfl, ⟨⟨_, rfl, (.refl _)⟩, rfl, trivial⟩⟩⟩⟩,  trivial⟩ ?_
    clear h26
    intro k
    intro y26_1 h26
    rw [f108_l26] at h26
    refine AWc.seq ?_
    refine AWc.seq ?_
    refine AWc.rg hmix rfl rfl ?_
    refine RegV.p0 rfl rfl rfl ?_
    refine RegV.p0 rfl rfl rfl ?_
    refine RegV.len (xs := a0) (e := byteD) rfl rfl rfl rfl ?_
    refine RegV.p0 (v := (.d (.bool (decide (y26_1 < ((a0.length : Nat) : Int)))))) rfl rfl rfl ?_
    refine RegV.nil0 ?_
    refine AWc.cond rfl (fun c36 => ?_) (fun c36 => ?_)
    · have h26 := cond_pos c36 h26
      refine AWc.skip ?_
      refine AWc.seq ?_
      refine AWc.block ?_
      refine AWc.seq ?_
      refine AWc.rg hmix rfl rfl ?_
      refine RegV.p0 rfl rfl rfl ?_
      refine RegV.p0 rfl rfl rfl ?_
      refine RegV.p0 rfl rfl rfl ?_
      obtain ⟨b47, h26⟩ := gd_some h26
      refine RegV.iad (xs := a0) (e := byteD) rfl rfl rfl rfl (fun _ => rfl) b47 rfl ?_
      refine RegV.p0 (v := (.d (.int .u8 (((rd a0 y26_1).toNat : Nat) : Int)))) rfl rfl rfl ?_
      refine RegV.p0 rfl rfl rfl ?_
      refine RegV.p0 rfl rfl rfl ?_
      obtain ⟨b51, h26⟩ := gd_some h26
      refine RegV.iad (xs := a1) (e := byteD) rfl rfl rfl rfl (fun _ => rfl) b51 rfl ?_
      refine RegV.p0 (v := (.d (.int .u8 (((rd a1 y26_1).toNat : Nat) : Int)))) rfl rfl rfl ?_
      obtain ⟨r53, e53, h26⟩ := bind_some h26
      refine RegV.call0 (F109 hmix hc.2 e53) rfl rfl rfl rfl (.cons (.refl _) (.cons (.refl _) .nil)) rfl ?_
      refine RegV.p0 (v := (.d (.bool (!(decide ((((rd a0 y26_1).toNat : Nat) : Int) = (((rd a1 y26_1).toNat : Nat) : Int))))))) rfl rfl rfl ?_
      refine RegV.nil1 (by kernel_rfl) ?_
      refine AWc.cond rfl (fun c55 => ?_) (fun c55 => ?_)
      · have h26 := cond_pos c55 h26
        refine AWc.seq ?_
        refine AWc.rg hmix rfl rfl ?_
        refine RegV.p0 rfl rfl rfl ?_
        refine RegV.nil0 ?_
        cases h26
        dsimp only at h
        have hr := Option.some.inj h
        subst hr
        exact AWc.ret (canQ (N := 30) (k := 0) (l' := [(6, (.d (.bool false)))]) (H' := []) rfl ⟨rfl, [], [], rfl, rfl, ⟨⟨_, rfl, (.refl _)⟩, rfl, trivial⟩,  trivial⟩ (doneA (.inr rfl) rfl ⟨trivial, trivial⟩ (.refl _) hasNil))
      · have h26 := cond_neg c55 h26
        refine AWc.skip ?_
        refine AWc.rg hmix rfl rfl ?_
        refine RegV.p0 rfl rfl rfl ?_
        refine RegV.p0 (v := (.d (.int .i64 (IntKind.i64.wrap (y26_1 + (1 : Int)))))) rfl rfl rfl ?_
        refine RegV.p0 rfl rfl rfl ?_
        refine RegV.nil0 ?_
        exact ⟨(IntKind.i64.wrap (y26_1 + (1 : Int))), h26, ⟨rfl, [], [], rfl, rfl, ⟨⟨_, rfl, (.refl _)⟩, rfl, ⟨⟨_, rfl, (.refl _)⟩, rfl, ⟨⟨_, rfl, (.refl _)⟩, rfl, ⟨⟨_, rfl, (.refl _)⟩, rfl, trivial⟩⟩⟩⟩,  trivial⟩⟩
    · have h26 := cond_neg c36 h26
      cases h26
      dsimp only at h
      refine AWc.exit ?_
      refine inBlk_eq ?_
      refine AWc.seq ?_
      refine AWc.rg hmix rfl rfl ?_
      refine RegV.p0 rfl rfl rfl ?_
      refine RegV.nil0 ?_
      have hr := Option.some.inj h
      subst hr
      exact AWc.ret (canQ (N := 30) (k := 0) (l' := [(6, (.d (.bool true)))]) (H' := []) rfl ⟨rfl, [], [], rfl, rfl, ⟨⟨_, rfl, (.refl _)⟩, rfl, trivial⟩,  trivial⟩ (doneA (.inr rfl) rfl ⟨trivial, trivial⟩ (.refl _) hasNil))
/-- courant/couranthelp.Plain[byte] -/
def C83 (N : Nat → Nat) : AFunc := { n := 8, params := 2, res := [.tmp 4], body :=
 (.seq (.region false [⟨(some 4), .mv (.k (.d (.bool false))), none, []⟩])
  (.seq (.region false [⟨(some 5), .mv (.t 0), none, []⟩,
    ⟨(some 6), .mv (.t 1), none, []⟩,
    ⟨(some 7), .call (.k (.d (.fn (N 108)))) [(.t 5), (.t 6), (.k (.d (.fn (N 109))))], none, [0, 1]⟩,
    ⟨(some 4), .mv (.t 7), none, [2, 0, 1]⟩])
   .ret)) }
def HC83 (P : Program) (N : Nat → Nat) : Prop := HasF P (N 83) (C83 N) ∧ HC108 P N
def f83 (k : Nat) (a0 : (List UInt8)) (a1 : (List UInt8)) : Option Bool := (f108 k a0 a1).bind fun r10 => some r10
theorem F83 {P : Program} {N : Nat → Nat} (hmix : P.follows .mixedOrders = true) (hc : HC83 P N) {k : Nat} {a0 : (List UInt8)} {a1 : (List UInt8)} {r : Bool} (h : f83 k a0 a1 = some r) :
    ACalls P (N 83) [(.d (.sl (List.map byteD a0))), (.d (.sl (List.map byteD a1)))] [] (.d (.bool r)) [] := by
  refine acalls_canon (F := C83 N) hc.1 0 0 rfl ?_
  unfold f83 at h
  dsimp only [C83, startL]
  refine AWc.seq ?_
  refine AWc.rg hmix rfl rfl ?_
  refine RegV.p0 rfl rfl rfl ?_
  refine RegV.nil0 ?_
  refine AWc.seq ?_
  refine AWc.rg hmix rfl rfl ?_
  refine RegV.p0 rfl rfl rfl ?_
  refine RegV.p0 rfl rfl rfl ?_
  obtain ⟨r10, e10, h⟩ := bind_some h
  refine RegV.call0 (F108 hmix hc.2 e10) rfl rfl rfl rfl (.cons (.refl _) (.cons (.refl _) (.cons (.refl _) .nil))) rfl ?_
  refine RegV.p0 rfl rfl rfl ?_
  refine RegV.nil0 ?_
  have hr := Option.some.inj h
  subst hr
  exact AWc.ret (canQ (N := 8) (k := 0) (l' := [(4, (.d (.bool r10)))]) (H' := []) rfl ⟨rfl, [], [], rfl, rfl, ⟨⟨_, rfl, (.refl _)⟩, rfl, trivial⟩,  trivial⟩ (doneA (.inr rfl) rfl ⟨trivial, trivial⟩ (.refl _) hasNil))
/-- courant/couranthelp.Kept[byte] -/
def C29 (N : Nat → Nat) : AFunc := { n := 40, params := 3, res := [.tmp 6], body :=
 (.seq (.region false [⟨(some 6), .mv (.k (.d (.bool false))), none, []⟩])
  (.seq (.seq (.region false [⟨(some 9), .mv (.t 0), none, []⟩,
     ⟨(some 10), .mv (.t 1), none, []⟩,
     ⟨(some 11), .call (.k (.d (.fn (N 83)))) [(.t 9), (.t 10)], none, [0, 1]⟩,
     ⟨(some 12), .un .not (.t 11), none, [2]⟩,
     ⟨(some 13), .mv (.t 12), none, [3, 2]⟩,
     ⟨(some 14), .mv (.t 0), (some (13, false)), [4]⟩,
     ⟨(some 15), .cap (.t 14), (some (13, false)), [5, 4]⟩,
     ⟨(some 16), .mv (.t 1), (some (13, false)), [4]⟩,
     ⟨(some 17), .len (.t 16), (some (13, false)), [7, 4]⟩,
     ⟨(some 18), .bin .add (.t 17) (.k (.d (.int .i64 3))), (some (13, false)), [8, 4]⟩,
     ⟨(some 19), .bin .lss (.t 15) (.t 18), (some (13, false)), [6, 9, 4]⟩,
     ⟨(some 20), .pick (.t 13) (.k (.d (.bool true))) (.t 19), none, [4, 10]⟩])
    (.cond (.t 20) (.seq (.region false [⟨(some 6), .mv (.k (.d (.bool false))), none, []⟩])
      .ret)
     (.skip)))
   (.seq (.region false [⟨(some 21), .mv (.t 0), none, []⟩,
     ⟨(some 22), .mv (.t 1), none, []⟩,
     ⟨(some 23), .len (.t 22), none, [1]⟩,
     ⟨(some 24), .bin .add (.t 23) (.k (.d (.int .i64 3))), none, [2]⟩,
     ⟨(some 25), .slc (.t 21) none (some (.t 24)) none 1, none, [0, 3]⟩,
     ⟨(some 7), .mv (.t 25), none, [4, 0, 1, 2, 3]⟩])
    (.seq (.seq (.region false [⟨(some 26), .mv (.t 1), none, []⟩,
       ⟨(some 27), .len (.t 26), none, [0]⟩,
       ⟨(some 8), .mv (.t 27), none, [1, 0]⟩])
      (.block 0 (.loop (.seq (.seq (.region false [⟨(some 28), .mv (.t 8), none, []⟩,
           ⟨(some 29), .mv (.t 7), none, []⟩,
           ⟨(some 30), .len (.t 29), none, [1]⟩,
           ⟨(some 31), .bin .lss (.t 28) (.t 30), none, [0, 2]⟩])
          (.cond (.t 31) (.skip)
           (.exit 0)))
         (.seq (.block 1 (.seq (.region false [⟨(some 34), .mv (.t 7), none, []⟩,
             ⟨(some 35), .mv (.t 8), none, []⟩,
             ⟨(some 36), .iaddr (.t 34) (.t 35) 1, none, [0, 1]⟩,
             ⟨(some 37), .load (.t 36) 1 false, none, [2]⟩,
             ⟨(some 38), .mv (.t 2), none, []⟩,
             ⟨(some 39), .bin .neq (.t 37) (.t 38), none, [3, 4]⟩])
            (.cond (.t 39) (.seq (.region false [⟨(some 6), .mv (.k (.d (.bool false))), none, []⟩])
              .ret)
             (.skip))))
          (.region false [⟨(some 32), .mv (.t 8), none, []⟩,
           ⟨(some 33), .bin .add (.t 32) (.k (.d (.int .i64 1))), none, [0]⟩,
           ⟨(some 8), .mv (.t 33), none, [1, 0]⟩]))))))
     (.seq (.region false [⟨(some 6), .mv (.k (.d (.bool true))), none, []⟩])
      .ret))))) }
def HC29 (P : Program) (N : Nat → Nat) : Prop := HasF P (N 29) (C29 N) ∧ HC83 P N
def f29_l44 (a2 : (List UInt8)) (a0 : (List UInt8)) (a3 : UInt8) : Nat → Int → Option (LR2 Unit Unit Bool)
  | 0, _ => none
  | k + 1, y44_1 => cond (decide (y44_1 < (((List.take (((IntKind.i64.wrap (((a2.length : Nat) : Int) + (3 : Int)))).toNat) a0).length : Nat) : Int))) (gd (0 ≤ y44_1 ∧ y44_1 < (((List.take (((IntKind.i64.wrap (((a2.length : Nat) : Int) + (3 : Int)))).toNat) a0).length : Nat) : Int)) (cond (decide ((((rd (List.take (((IntKind.i64.wrap (((a2.length : Nat) : Int) + (3 : Int)))).toNat) a0) y44_1).toNat : Nat) : Int) ≠ ((a3.toNat : Nat) : Int))) (some (.r false)) (f29_l44 a2 a0 a3 k (IntKind.i64.wrap (y44_1 + (1 : Int)))))) (some (.b0 ()))
def f29 (k : Nat) (a0 : (List UInt8)) (a1 : Nat) (a2 : (List UInt8)) (a3 : UInt8) : Option Bool := (f83 k (List.take a1 a0) a2).bind fun r11 => cond (!r11) (some false) (cond (decide (((a0.length : Nat) : Int) < (IntKind.i64.wrap (((a2.length : Nat) : Int) + (3 : Int))))) (some false) (gd (0 ≤ (IntKind.i64.wrap (((a2.length : Nat) : Int) + (3 : Int))) ∧ (IntKind.i64.wrap (((a2.length : Nat) : Int) + (3 : Int))) ≤ ((a0.length : Nat) : Int)) ((f29_l44 a2 a0 a3 k ((a2.length : Nat) : Int)).bind fun o44 => match o44 with | .b0 () => some true | .r x => some x | _ => none)))
theorem F29 {P : Program} {N : Nat → Nat} (hmix : P.follows .mixedOrders = true) (hc : HC29 P N) {k : Nat} {a0 : (List UInt8)} {a1 : Nat} {a2 : (List UInt8)} {a3 : UInt8} {r : Bool} (h : f29 k a0 a1 a2 a3 = some r) :
    ACalls P (N 29) [(.win (List.map byteD a0) a1), (.d (.sl (List.map byteD a2))), (.d (.int .u8 ((a3.toNat : Nat) : Int)))] [] (.d (.bool r)) [] := by
  refine acalls_canon (F := C29 N) hc.1 0 0 rfl ?_
  unfold f29 at h
  dsimp only [C29, startL]
  refine AWc.seq ?_
  refine AWc.rg hmix rfl rfl ?_
  refine RegV.p0 rfl rfl rfl ?_
  refine RegV.nil0 ?_
  refine AWc.seq ?_
  refine AWc.seq ?_
  refine AWc.rg hmix rfl rfl ?_
  refine RegV.p0 rfl rfl rfl ?_
  refine RegV.p0 rfl rfl rfl ?_
  obtain ⟨r11, e11, h⟩ := bind_some h
  refine RegV.call0 (F83 hmix hc.2 e11) rfl rfl rfl rfl (.cons .win (.cons (.refl _) .nil)) rfl ?_
  refine RegV.p0 (v := (.d (.bool (!r11)))) rfl rfl rfl ?_
  refine RegV.p0 rfl rfl rfl ?_
  refine RegV.split (fun c13 => ?_) (fun c13 => ?_)
  · have h := cond_pos c13 h
    refine RegV.noS rfl rfl ?_
    refine RegV.noS rfl rfl ?_
    refine RegV.noS rfl rfl ?_
    refine RegV.noS rfl rfl ?_
    refine RegV.noS rfl rfl ?_
    refine RegV.noS rfl rfl ?_
    refine RegV.p0 rfl rfl rfl ?_
    refine RegV.nil0 ?_
    refine AWc.cond rfl (fun _ => ?_) (fun hc => by cases hc)
    refine AWc.seq ?_
    refine AWc.rg hmix rfl rfl ?_
    refine RegV.p0 rfl rfl rfl ?_
    refine RegV.nil0 ?_
    have hr := Option.some.inj h
    subst hr
    exact AWc.ret (canQ (N := 40) (k := 0) (l' := [(6, (.d (.bool false)))]) (H' := []) rfl ⟨rfl, [], [], rfl, rfl, ⟨⟨_, rfl, (.refl _)⟩, rfl, trivial⟩,  trivial⟩ (doneA (.inr rfl) rfl ⟨trivial, trivial⟩ (.refl _) hasNil))
  · have h := cond_neg c13 h
    refine RegV.p0 rfl rfl rfl ?_
    refine RegV.capW (ys := a0) (e := byteD) rfl rfl rfl ?_
    refine RegV.p0 rfl rfl rfl ?_
    refine RegV.len (xs := a2) (e := byteD) rfl rfl rfl rfl ?_
    refine RegV.p0 (v := (.d (.int .i64 (IntKind.i64.wrap (((a2.length : Nat) : Int) + (3 : Int)))))) rfl rfl rfl ?_
    refine RegV.p0 (v := (.d (.bool (decide (((a0.length : Nat) : Int) < (IntKind.i64.wrap (((a2.length : Nat) : Int) + (3 : Int)))))))) rfl rfl rfl ?_
    refine RegV.p0 rfl rfl rfl ?_
    refine RegV.nil0 ?_
    refine AWc.cond rfl (fun c21 => ?_) (fun c21 => ?_)
    · have h := cond_pos c21 h
      refine AWc.seq ?_
      refine AWc.rg hmix rfl rfl ?_
      refine RegV.p0 rfl rfl rfl ?_
      refine RegV.nil0 ?_
      have hr := Option.some.inj h
      subst hr
      exact AWc.ret (canQ (N := 40) (k := 0) (l' := [(6, (.d (.bool false)))]) (H' := []) rfl ⟨rfl, [], [], rfl, rfl, ⟨⟨_, rfl, (.refl _)⟩, rfl, trivial⟩,  trivial⟩ (doneA (.inr rfl) rfl ⟨trivial, trivial⟩ (.refl _) hasNil))
    · have h := cond_neg c21 h
      refine AWc.skip ?_
      refine AWc.seq ?_
      refine AWc.rg hmix rfl rfl ?_
      refine RegV.p0 rfl rfl rfl ?_
      refine RegV.p0 rfl rfl rfl ?_
      refine RegV.len (xs := a2) (e := byteD) rfl rfl rfl rfl ?_
      refine RegV.p0 (v := (.d (.int .i64 (IntKind.i64.wrap (((a2.length : Nat) : Int) + (3 : Int)))))) rfl rfl rfl ?_
      obtain ⟨b35, h⟩ := gd_some h
      refine RegV.slW (ys := a0) (e := byteD) (hi := (IntKind.i64.wrap (((a2.length : Nat) : Int) + (3 : Int)))) rfl rfl rfl b35 rfl ?_
      refine RegV.p0 rfl rfl rfl ?_
      refine RegV.nil0 ?_
      refine AWc.seq ?_
      refine AWc.seq ?_
      refine AWc.rg hmix rfl rfl ?_
      refine RegV.p0 rfl rfl rfl ?_
      refine RegV.len (xs := a2) (e := byteD) rfl rfl rfl rfl ?_
      refine RegV.p0 rfl rfl rfl ?_
      refine RegV.nil0 ?_
      obtain ⟨o44, h44, h⟩ := bind_some h
      refine AWc.block ?_
      refine AWc.loopK (N := 40) 0 (fun (x : Int) => [(2, (.d (.int .u8 ((a3.toNat : Nat) : Int)))), (7, (.win (List.map byteD a0) (((IntKind.i64.wrap (((a2.length : Nat) : Int) + (3 : Int)))).toNat))), (8, (.d (.int .i64 x)))]) (fun x => []) (fun k x => f29_l44 a2 a0 a3 k x = some o44) k ((a2.length : Nat) : Int) rfl_le (fun x hx => by cases hx) h44 ⟨rfl, [], [], rfl, rfl, ⟨⟨_, rfl, (.refl _)⟩, rfl, ⟨⟨_, rfl, (.refl _)⟩, rfl, ⟨⟨_, rfl, (.refl _)⟩, rfl, trivial⟩⟩⟩,  trivial⟩ ?_
      clear h44
      intro k
      intro y44_1 h44
      rw [f29_l44] at h44
      refine AWc.seq ?_
      refine AWc.seq ?_
      refine AWc.rg hmix rfl rfl ?_
      refine RegV.p0 rfl rfl rfl ?_
      refine RegV.p0 rfl rfl rfl ?_
      refine RegV.len (xs := (List.take (((IntKind.i64.wrap (((a2.length : Nat) : Int) + (3 : Int)))).toNat) a0)) (e := byteD) rfl rfl (toSlW _ _) rfl ?_
      refine RegV.p0 (v := (.d (.bool (decide (y44_1 < (((List.take (((IntKind.i64.wrap (((a2.length : Nat) : Int) + (3 : Int)))).toNat) a0).length : Nat) : Int)))))) rfl rfl rfl ?_
      refine RegV.nil0 ?_
      refine AWc.cond rfl (fun c54 => ?_) (fun c54 => ?_)
      · have h44 := cond_pos c54 h44
        refine AWc.skip ?_
        refine AWc.seq ?_
        refine AWc.block ?_
        refine AWc.seq ?_
        refine AWc.rg hmix rfl rfl ?_
        refine RegV.p0 rfl rfl rfl ?_
        refine RegV.p0 rfl rfl rfl ?_
        obtain ⟨b64, h44⟩ := gd_some h44
        refine RegV.iad (xs := (List.take (((IntKind.i64.wrap (((a2.length : Nat) : Int) + (3 : Int)))).toNat) a0)) (e := byteD) rfl rfl (toSlW _ _) rfl (fun _ => rfl) b64 rfl ?_
        refine RegV.p0 (v := (.d (.int .u8 (((rd (List.take (((IntKind.i64.wrap (((a2.length : Nat) : Int) + (3 : Int)))).toNat) a0) y44_1).toNat : Nat) : Int)))) rfl rfl rfl ?_
        refine RegV.p0 rfl rfl rfl ?_
        refine RegV.p0 (v := (.d (.bool (decide ((((rd (List.take (((IntKind.i64.wrap (((a2.length : Nat) : Int) + (3 : Int)))).toNat) a0) y44_1).toNat : Nat) : Int) ≠ ((a3.toNat : Nat) : Int)))))) rfl rfl rfl ?_
        refine RegV.nil0 ?_
        refine AWc.cond rfl (fun c68 => ?_) (fun c68 => ?_)
        · have h44 := cond_pos c68 h44
          refine AWc.seq ?_
          refine AWc.rg hmix rfl rfl ?_
          refine RegV.p0 rfl rfl rfl ?_
          refine RegV.nil0 ?_
          cases h44
          dsimp only at h
          have hr := Option.some.inj h
          subst hr
          exact AWc.ret (canQ (N := 40) (k := 0) (l' := [(6, (.d (.bool false)))]) (H' := []) rfl ⟨rfl, [], [], rfl, rfl, ⟨⟨_, rfl, (.refl _)⟩, rfl, trivial⟩,  trivial⟩ (doneA (.inr rfl) rfl ⟨trivial, trivial⟩ (.refl _) hasNil))
        · have h44 := cond_neg c68 h44
          refine AWc.skip ?_
          refine AWc.rg hmix rfl rfl ?_
          refine RegV.p0 rfl rfl rfl ?_
          refine RegV.p0 (v := (.d (.int .i64 (IntKind.i64.wrap (y44_1 + (1 : Int)))))) rfl rfl rfl ?_
          refine RegV.p0 rfl rfl rfl ?_
          refine RegV.nil0 ?_
          exact ⟨(IntKind.i64.wrap (y44_1 + (1 : Int))), h44, ⟨rfl, [], [], rfl, rfl, ⟨⟨_, rfl, (.refl _)⟩, rfl, ⟨⟨_, rfl, (.refl _)⟩, rfl, ⟨⟨_, rfl, (.refl _)⟩, rfl, trivial⟩⟩⟩,  trivial⟩⟩
      · have h44 := cond_neg c54 h44
        cases h44
        dsimp only at h
        refine AWc.exit ?_
        refine inBlk_eq ?_
        refine AWc.seq ?_
        refine AWc.rg hmix rfl rfl ?_
        refine RegV.p0 rfl rfl rfl ?_
        refine RegV.nil0 ?_
        have hr := Option.some.inj h
        subst hr
        exact AWc.ret (canQ (N := 40) (k := 0) (l' := [(6, (.d (.bool true)))]) (H' := []) rfl ⟨rfl, [], [], rfl, rfl, ⟨⟨_, rfl, (.refl _)⟩, rfl, trivial⟩,  trivial⟩ (doneA (.inr rfl) rfl ⟨trivial, trivial⟩ (.refl _) hasNil))
/-- courant/courantlaw18.FrameTakes -/
def C252 (N : Nat → Nat) : AFunc := { n := 52, params := 1, res := [.tmp 2], body :=
 (.seq (.region false [⟨(some 2), .mv (.k (.d (.bool false))), none, []⟩])
  (.seq (.seq (.region false [⟨(some 10), .mv (.t 0), none, []⟩,
     ⟨(some 11), .len (.t 10), none, [0]⟩,
     ⟨(some 12), .bin .gtr (.t 11) (.k (.d (.int .i64 5000))), none, [1]⟩])
    (.cond (.t 12) (.seq (.region false [⟨(some 13), .call (.k (.d (.fn (N 222)))) [], none, []⟩,
       ⟨(some 2), .mv (.t 13), none, [0]⟩])
      .ret)
     (.skip)))
   (.seq (.region false [⟨(some 14), .mv (.t 0), none, []⟩,
     ⟨(some 15), .call (.k (.d (.fn (N 21)))) [(.t 14), (.k (.d (.int .u8 71)))], none, [0]⟩,
     ⟨(some 3), .mv (.t 15), none, [1, 0]⟩])
    (.seq (.region false [⟨(some 17), .mv (.t 3), none, []⟩,
      ⟨(some 18), .call (.k (.d (.fn (N 274)))) [(.t 17)], none, [0]⟩,
      ⟨(some 16), .mv (.t 18), none, [1]⟩,
      ⟨(some 19), .ext (.t 16) 0, none, [2]⟩,
      ⟨(some 20), .ext (.t 16) 1, none, [2]⟩,
      ⟨(some 21), .ext (.t 16) 2, none, [2]⟩,
      ⟨(some 4), .alloc [(.int .u64 0), (.sl [])], none, []⟩,
      ⟨none, .store (.t 4) (.t 19) 2, none, [6, 3, 1, 0, 2]⟩,
      ⟨(some 5), .mv (.t 20), none, [4, 7, 0, 1, 2, 3, 6]⟩,
      ⟨(some 6), .mv (.t 21), none, [5, 8, 0, 1, 2, 3, 4, 6, 7]⟩])
     (.seq (.region false [⟨(some 23), .mv (.t 0), none, []⟩,
       ⟨(some 24), .call (.k (.d (.fn (N 279)))) [(.t 23)], none, [0]⟩,
       ⟨(some 22), .mv (.t 24), none, [1]⟩,
       ⟨(some 25), .ext (.t 22) 0, none, [2]⟩,
       ⟨(some 26), .ext (.t 22) 1, none, [2]⟩,
       ⟨(some 27), .ext (.t 22) 2, none, [2]⟩,
       ⟨(some 7), .alloc [(.int .u64 0), (.sl [])], none, []⟩,
       ⟨none, .store (.t 7) (.t 25) 2, none, [6, 3, 1, 0, 2]⟩,
       ⟨(some 8), .mv (.t 26), none, [4, 7, 0, 1, 2, 3, 6]⟩,
       ⟨(some 9), .mv (.t 27), none, [5, 8, 0, 1, 2, 3, 4, 6, 7]⟩])
      (.seq (.seq (.region false [⟨(some 28), .call (.k (.d (.fn (N 222)))) [], none, []⟩,
         ⟨(some 29), .un .not (.t 28), none, [0]⟩,
         ⟨(some 30), .mv (.t 29), none, [1, 0]⟩,
         ⟨(some 31), .load (.t 4) 2 true, (some (30, false)), [2]⟩,
         ⟨(some 32), .load (.t 7) 2 true, (some (30, false)), [2]⟩,
         ⟨(some 33), .call (.k (.d (.fn (N 287)))) [(.t 31), (.t 32)], (some (30, false)), [3, 4, 2]⟩,
         ⟨(some 34), .un .not (.t 33), (some (30, false)), [5, 2]⟩,
         ⟨(some 35), .pick (.t 30) (.k (.d (.bool true))) (.t 34), none, [2, 6]⟩,
         ⟨(some 36), .mv (.t 35), none, [7, 5]⟩,
         ⟨(some 37), .mv (.t 5), (some (36, false)), [8]⟩,
         ⟨(some 38), .mv (.t 8), (some (36, false)), [8]⟩,
         ⟨(some 39), .bin .neq (.t 37) (.t 38), (some (36, false)), [9, 10, 8]⟩,
         ⟨(some 40), .pick (.t 36) (.k (.d (.bool true))) (.t 39), none, [8, 11]⟩,
         ⟨(some 41), .mv (.t 40), none, [12, 8]⟩,
         ⟨(some 42), .mv (.t 6), (some (41, false)), [13]⟩,
         ⟨(some 43), .mv (.t 9), (some (41, false)), [13]⟩,
         ⟨(some 44), .bin .neq (.t 42) (.t 43), (some (41, false)), [14, 15, 13]⟩,
         ⟨(some 45), .pick (.t 41) (.k (.d (.bool true))) (.t 44), none, [13, 16]⟩])
        (.cond (.t 45) (.seq (.region false [⟨(some 2), .mv (.k (.d (.bool false))), none, []⟩])
          .ret)
         (.skip)))
       (.seq (.region false [⟨(some 46), .faddr (.t 4) 1, none, []⟩,
         ⟨(some 47), .load (.t 46) 1 false, none, [0]⟩,
         ⟨(some 48), .call (.k (.d (.fn (N 45)))) [(.t 47)], none, [1]⟩])
        (.seq (.region false [⟨(some 49), .mv (.t 3), none, []⟩,
          ⟨(some 50), .mv (.t 0), none, []⟩,
          ⟨(some 51), .call (.k (.d (.fn (N 29)))) [(.t 49), (.t 50), (.k (.d (.int .u8 71)))], none, [0, 1]⟩,
          ⟨(some 2), .mv (.t 51), none, [2, 0, 1]⟩])
         .ret)))))))) }
def HC252 (P : Program) (N : Nat → Nat) : Prop := HasF P (N 252) (C252 N) ∧ HC222 P N ∧ HC21 P N ∧ HC274 P N ∧ HC279 P N ∧ HC287 P N ∧ HC45 P N ∧ HC29 P N
def f252 (k : Nat) (a0 : (List UInt8)) : Option Bool := cond (decide (((a0.length : Nat) : Int) > (5000 : Int))) ((f222 k).bind fun r16 => some r16) ((f21 k a0 (71 : UInt8)).bind fun r24 => (f274 k (List.take (((0 : Int)).toNat + a0.length) r24)).bind fun r30 => (f279 k a0).bind fun r43 => (f222 k).bind fun r56 => cond (!r56) (some false) (gd (r30.2.2.2.1 ≤ r30.2.2.2.2.length) ((f287 k (TRec.mk r30.2.2.1 (List.take r30.2.2.2.1 r30.2.2.2.2)) (TRec.mk r43.2.2.1 r43.2.2.2)).bind fun r61 => cond (!r61) (some false) (cond (decide (r30.1 ≠ r43.1)) (some false) (cond (decide (r30.2.1 ≠ r43.2.1)) (some false) ((f45 k r30.2.2.2.2 r30.2.2.2.1).bind fun r86 => (f29 k r24 (((0 : Int)).toNat + a0.length) a0 (71 : UInt8)).bind fun r92 => some r92))))))
theorem F252 {P : Program} {N : Nat → Nat} (hmix : P.follows .mixedOrders = true) (hc : HC252 P N) {k : Nat} {a0 : (List UInt8)} {r : Bool} (h : f252 k a0 = some r) :
    ACalls P (N 252) [(.d (.sl (List.map byteD a0)))] [] (.d (.bool r)) [] := by
  refine acalls_canon (F := C252 N) hc.1 0 0 rfl ?_
  unfold f252 at h
  dsimp only [C252, startL]
  refine AWc.seq ?_
  refine AWc.rg hmix rfl rfl ?_
  refine RegV.p0 rfl rfl rfl ?_
  refine RegV.nil0 ?_
  refine AWc.seq ?_
  refine AWc.seq ?_
  refine AWc.rg hmix rfl rfl ?_
  refine RegV.p0 rfl rfl rfl ?_
  refine RegV.len (xs := a0) (e := byteD) rfl rfl rfl rfl ?_
  refine RegV.p0 (v := (.d (.bool (decide (((a0.length : Nat) : Int) > (5000 : Int)))))) rfl rfl rfl ?_
  refine RegV.nil0 ?_
  refine AWc.cond rfl (fun c12 => ?_) (fun c12 => ?_)
  · have h := cond_pos c12 h
    refine AWc.seq ?_
    refine AWc.rg hmix rfl rfl ?_
    obtain ⟨r16, e16, h⟩ := bind_some h
    refine RegV.call0 (F222 hmix hc.2.1 e16) rfl rfl rfl rfl .nil rfl ?_
    refine RegV.p0 rfl rfl rfl ?_
    refine RegV.nil0 ?_
    have hr := Option.some.inj h
    subst hr
    exact AWc.ret (canQ (N := 52) (k := 0) (l' := [(2, (.d (.bool r16)))]) (H' := []) rfl ⟨rfl, [], [], rfl, rfl, ⟨⟨_, rfl, (.refl _)⟩, rfl, trivial⟩,  trivial⟩ (doneA (.inr rfl) rfl ⟨trivial, trivial⟩ (.refl _) hasNil))
  · have h := cond_neg c12 h
    refine AWc.skip ?_
    refine AWc.seq ?_
    refine AWc.rg hmix rfl rfl ?_
    refine RegV.p0 rfl rfl rfl ?_
    obtain ⟨r24, e24, h⟩ := bind_some h
    refine RegV.call0 (F21 hmix hc.2.2.1 e24) rfl rfl rfl rfl (.cons (.refl _) (.cons (.refl _) .nil)) rfl ?_
    refine RegV.p0 rfl rfl rfl ?_
    refine RegV.nil0 ?_
    refine AWc.seq ?_
    refine AWc.rg hmix rfl rfl ?_
    refine RegV.p0 rfl rfl rfl ?_
    obtain ⟨r30, e30, h⟩ := bind_some h
    refine RegV.callS (q := false) (H' := [(0, (rowO byteD r30.2.2.2.2))]) (c' := 1) (show ACalls P (N 274) [(.d (.sl (List.map byteD (List.take (((0 : Int)).toNat + a0.length) r24))))] [] (.tup [(.agg [(.d (.int .u64 r30.2.2.1)), (.row 0 1 r30.2.2.2.1)]), (.d (.int .i64 r30.1)), (.d (.int .i64 r30.2.1))]) [(0, (rowO byteD r30.2.2.2.2))] from ACalls.use (F274 hmix hc.2.2.2.1 e30) [(0, 0)] 1 rfl) rfl rfl rfl rfl (.cons .win .nil) (.refl _) (fun h => by cases h) rfl hasNil rfl rfl rfl rfl ?_
    refine RegV.p0 rfl rfl rfl ?_
    refine RegV.p0 rfl rfl rfl ?_
    refine RegV.p0 rfl rfl rfl ?_
    refine RegV.p0 rfl rfl rfl ?_
    refine RegV.evS (own := false) (v := (.ptr 1 0)) (H' := [(1, (.cells [(.d (.int .u64 (0 : Int))), .nils])), (0, (rowO byteD r30.2.2.2.2))]) (c' := 2) rfl rfl trivial rfl rfl rfl rfl rfl rfl ?_
    refine RegV.evN (own := false) (H' := [(1, (.cells [(.d (.int .u64 r30.2.2.1)), (.row 0 1 r30.2.2.2.1)])), (0, (rowO byteD r30.2.2.2.2))]) (c' := 2) rfl rfl (by exact ⟨rfl, Nat.le_of_ble_eq_true rfl, rfl⟩) rfl rfl rfl rfl ?_
    refine RegV.p0 rfl rfl rfl ?_
    refine RegV.p0 rfl rfl rfl ?_
    refine RegV.nil0 ?_
    refine AWc.seq ?_
    refine AWc.rg hmix rfl rfl ?_
    refine RegV.p0 rfl rfl rfl ?_
    obtain ⟨r43, e43, h⟩ := bind_some h
    refine RegV.call0 (F279 hmix hc.2.2.2.2.1 e43) rfl rfl rfl rfl (.cons (.refl _) .nil) rfl ?_
    refine RegV.p0 rfl rfl rfl ?_
    refine RegV.p0 rfl rfl rfl ?_
    refine RegV.p0 rfl rfl rfl ?_
    refine RegV.p0 rfl rfl rfl ?_
    refine RegV.evS (own := false) (v := (.ptr 2 0)) (H' := [(2, (.cells [(.d (.int .u64 (0 : Int))), .nils])), (1, (.cells [(.d (.int .u64 r30.2.2.1)), (.row 0 1 r30.2.2.2.1)])), (0, (rowO byteD r30.2.2.2.2))]) (c' := 3) rfl rfl trivial rfl rfl rfl rfl rfl rfl ?_
    refine RegV.evN (own := false) (H' := [(2, (.cells [(.d (.int .u64 r43.2.2.1)), (.d (.sl (List.map byteD r43.2.2.2)))])), (1, (.cells [(.d (.int .u64 r30.2.2.1)), (.row 0 1 r30.2.2.2.1)])), (0, (rowO byteD r30.2.2.2.2))]) (c' := 3) rfl rfl (by exact ⟨rfl, Nat.le_of_ble_eq_true rfl, rfl⟩) rfl rfl rfl rfl ?_
    refine RegV.p0 rfl rfl rfl ?_
    refine RegV.p0 rfl rfl rfl ?_
    refine RegV.nil0 ?_
    refine AWc.seq ?_
    refine AWc.seq ?_
    refine AWc.rg hmix rfl rfl ?_
    obtain ⟨r56, e56, h⟩ := bind_some h
    refine RegV.call0 (F222 hmix hc.2.1 e56) rfl rfl rfl rfl .nil rfl ?_
    refine RegV.p0 (v := (.d (.bool (!r56)))) rfl rfl rfl ?_
    refine RegV.p0 rfl rfl rfl ?_
    refine RegV.split (fun c58 => ?_) (fun c58 => ?_)
    · have h := cond_pos c58 h
      refine RegV.noS rfl rfl ?_
      refine RegV.noS rfl rfl ?_
      refine RegV.noS rfl rfl ?_
      refine RegV.noS rfl rfl ?_
      refine RegV.p0 rfl rfl rfl ?_
      refine RegV.p0 rfl rfl rfl ?_
      refine RegV.noS rfl rfl ?_
      refine RegV.noS rfl rfl ?_
      refine RegV.noS rfl rfl ?_
      refine RegV.p0 rfl rfl rfl ?_
      refine RegV.p0 rfl rfl rfl ?_
      refine RegV.noS rfl rfl ?_
      refine RegV.noS rfl rfl ?_
      refine RegV.noS rfl rfl ?_
      refine RegV.p0 rfl rfl rfl ?_
      refine RegV.nil0 ?_
      refine AWc.cond rfl (fun _ => ?_) (fun hc => by cases hc)
      refine AWc.seq ?_
      refine AWc.rg hmix rfl rfl ?_
      refine RegV.p0 rfl rfl rfl ?_
      refine RegV.nil0 ?_
      have hr := Option.some.inj h
      subst hr
      exact AWc.ret (canQ (N := 52) (k := 0) (l' := [(2, (.d (.bool false)))]) (H' := []) rfl ⟨rfl, [], [], rfl, rfl, ⟨⟨_, rfl, (.refl _)⟩, rfl, trivial⟩,  trivial⟩ (doneA (.inr rfl) rfl ⟨trivial, trivial⟩ (.refl _) hasNil))
    · have h := cond_neg c58 h
      refine RegV.ld (v := (.agg [(.d (.int .u64 r30.2.2.1)), (.row 0 1 r30.2.2.2.1)])) (H' := [(1, (.cells [(.d (.int .u64 r30.2.2.1)), (.row 0 1 r30.2.2.2.1)])), (2, (.cells [(.d (.int .u64 r43.2.2.1)), (.d (.sl (List.map byteD r43.2.2.2)))])), (0, (rowO byteD r30.2.2.2.2))]) rfl rfl (Nat.le_of_ble_eq_true rfl) rfl rfl rfl rfl rfl ?_
      refine RegV.ld (v := (.d (.agg [(.int .u64 r43.2.2.1), (.sl (List.map byteD r43.2.2.2))]))) (H' := [(2, (.cells [(.d (.int .u64 r43.2.2.1)), (.d (.sl (List.map byteD r43.2.2.2)))])), (1, (.cells [(.d (.int .u64 r30.2.2.1)), (.row 0 1 r30.2.2.2.1)])), (0, (rowO byteD r30.2.2.2.2))]) rfl rfl (Nat.le_of_ble_eq_true rfl) rfl rfl rfl rfl rfl ?_
      obtain ⟨bw0, h⟩ := gd_some h
      obtain ⟨r61, e61, h⟩ := bind_some h
      refine RegV.callS (q := true) (H' := [(0, (rowO byteD r30.2.2.2.2)), (2, (.cells [(.d (.int .u64 r43.2.2.1)), (.d (.sl (List.map byteD r43.2.2.2)))])), (1, (.cells [(.d (.int .u64 r30.2.2.1)), (.row 0 1 r30.2.2.2.1)]))]) (c' := 3) (show ACalls P (N 287) [(.agg [(.d (.int .u64 r30.2.2.1)), (.row 0 1 r30.2.2.2.1)]), (.d (.agg [(.int .u64 r43.2.2.1), (.sl (List.map byteD r43.2.2.2))]))] [(0, (rowO byteD r30.2.2.2.2))] (.d (.bool r61)) [(0, (rowO byteD r30.2.2.2.2))] from ACalls.borrow (e := byteD) (xs := r30.2.2.2.2) (views := [(.agg [(.d (.int .u64 r30.2.2.1)), (.d (.sl (List.map byteD (List.take r30.2.2.2.1 r30.2.2.2.2))))]), (.d (.agg [(.int .u64 r43.2.2.1), (.sl (List.map byteD r43.2.2.2))]))]) (F287 hmix hc.2.2.2.2.2.1 e61) rfl byteD_ok (.inr rfl) (.cons (BorL.agg (.cons .same (.cons (.row bw0) .nil))) (.cons .same .nil)) (.cons (.aggd rfl) (.cons (.refl _) .nil)) .bool) rfl rfl rfl rfl (SubL.refl _) (.refl _) (fun _ => rfl) rfl (hasCons rfl hasNil) rfl rfl rfl rfl ?_
      refine RegV.p0 (v := (.d (.bool (!r61)))) rfl rfl rfl ?_
      refine RegV.p0 rfl rfl rfl ?_
      refine RegV.p0 rfl rfl rfl ?_
      refine RegV.split (fun c64 => ?_) (fun c64 => ?_)
      · have h := cond_pos c64 h
        refine RegV.noS rfl rfl ?_
        refine RegV.noS rfl rfl ?_
        refine RegV.noS rfl rfl ?_
        refine RegV.p0 rfl rfl rfl ?_
        refine RegV.p0 rfl rfl rfl ?_
        refine RegV.noS rfl rfl ?_
        refine RegV.noS rfl rfl ?_
        refine RegV.noS rfl rfl ?_
        refine RegV.p0 rfl rfl rfl ?_
        refine RegV.nil0 ?_
        refine AWc.cond rfl (fun _ => ?_) (fun hc => by cases hc)
        refine AWc.seq ?_
        refine AWc.rg hmix rfl rfl ?_
        refine RegV.p0 rfl rfl rfl ?_
        refine RegV.nil0 ?_
        have hr := Option.some.inj h
        subst hr
        exact AWc.ret (canQ (N := 52) (k := 0) (l' := [(2, (.d (.bool false)))]) (H' := []) rfl ⟨rfl, [], [], rfl, rfl, ⟨⟨_, rfl, (.refl _)⟩, rfl, trivial⟩,  trivial⟩ (doneA (.inr rfl) rfl ⟨trivial, trivial⟩ (.refl _) hasNil))
      · have h := cond_neg c64 h
        refine RegV.p0 rfl rfl rfl ?_
        refine RegV.p0 rfl rfl rfl ?_
        refine RegV.p0 (v := (.d (.bool (decide (r30.1 ≠ r43.1))))) rfl rfl rfl ?_
        refine RegV.p0 rfl rfl rfl ?_
        refine RegV.p0 rfl rfl rfl ?_
        refine RegV.split (fun c69 => ?_) (fun c69 => ?_)
        · have h := cond_pos c69 h
          refine RegV.noS rfl rfl ?_
          refine RegV.noS rfl rfl ?_
          refine RegV.noS rfl rfl ?_
          refine RegV.p0 rfl rfl rfl ?_
          refine RegV.nil0 ?_
          refine AWc.cond rfl (fun _ => ?_) (fun hc => by cases hc)
          refine AWc.seq ?_
          refine AWc.rg hmix rfl rfl ?_
          refine RegV.p0 rfl rfl rfl ?_
          refine RegV.nil0 ?_
          have hr := Option.some.inj h
          subst hr
          exact AWc.ret (canQ (N := 52) (k := 0) (l' := [(2, (.d (.bool false)))]) (H' := []) rfl ⟨rfl, [], [], rfl, rfl, ⟨⟨_, rfl, (.refl _)⟩, rfl, trivial⟩,  trivial⟩ (doneA (.inr rfl) rfl ⟨trivial, trivial⟩ (.refl _) hasNil))
        · have h := cond_neg c69 h
          refine RegV.p0 rfl rfl rfl ?_
          refine RegV.p0 rfl rfl rfl ?_
          refine RegV.p0 (v := (.d (.bool (decide (r30.2.1 ≠ r43.2.1))))) rfl rfl rfl ?_
          refine RegV.p0 rfl rfl rfl ?_
          refine RegV.nil0 ?_
          refine AWc.cond rfl (fun c74 => ?_) (fun c74 => ?_)
          · have h := cond_pos c74 h
            refine AWc.seq ?_
            refine AWc.rg hmix rfl rfl ?_
            refine RegV.p0 rfl rfl rfl ?_
            refine RegV.nil0 ?_
            have hr := Option.some.inj h
            subst hr
            exact AWc.ret (canQ (N := 52) (k := 0) (l' := [(2, (.d (.bool false)))]) (H' := []) rfl ⟨rfl, [], [], rfl, rfl, ⟨⟨_, rfl, (.refl _)⟩, rfl, trivial⟩,  trivial⟩ (doneA (.inr rfl) rfl ⟨trivial, trivial⟩ (.refl _) hasNil))
          · have h := cond_neg c74 h
            refine AWc.skip ?_
            refine AWc.seq ?_
            refine AWc.rg hmix rfl rfl ?_
            refine RegV.p0 (v := (.ptr 1 1)) rfl rfl rfl ?_
            refine RegV.ld (v := (.row 0 1 r30.2.2.2.1)) (H' := [(1, (.cells [(.d (.int .u64 r30.2.2.1)), (.row 0 1 r30.2.2.2.1)])), (0, (rowO byteD r30.2.2.2.2)), (2, (.cells [(.d (.int .u64 r43.2.2.1)), (.d (.sl (List.map byteD r43.2.2.2)))]))]) rfl rfl trivial rfl rfl rfl rfl rfl ?_
            obtain ⟨r86, e86, h⟩ := bind_some h
            refine RegV.callS (q := false) (H' := [(0, (rowO byteD r86)), (1, (.cells [(.d (.int .u64 r30.2.2.1)), (.row 0 1 r30.2.2.2.1)])), (2, (.cells [(.d (.int .u64 r43.2.2.1)), (.d (.sl (List.map byteD r43.2.2.2)))]))]) (c' := 3) (show ACalls P (N 45) [(.row 0 1 r30.2.2.2.1)] [(0, (rowO byteD r30.2.2.2.2))] (.tup []) [(0, (rowO byteD r86))] from ACalls.use (F45 hmix hc.2.2.2.2.2.2.1 e86) [(0, 0)] 1 rfl) rfl rfl rfl rfl (.cons (.refl _) .nil) (.refl _) (fun h => by cases h) rfl (hasCons rfl hasNil) rfl rfl rfl rfl ?_
            refine RegV.nil0 ?_
            refine AWc.seq ?_
            refine AWc.rg hmix rfl rfl ?_
            refine RegV.p0 rfl rfl rfl ?_
            refine RegV.p0 rfl rfl rfl ?_
            obtain ⟨r92, e92, h⟩ := bind_some h
            refine RegV.call0 (F29 hmix hc.2.2.2.2.2.2.2 e92) rfl rfl rfl rfl (.cons (.refl _) (.cons (.refl _) (.cons (.refl _) .nil))) rfl ?_
            refine RegV.p0 rfl rfl rfl ?_
            refine RegV.nil0 ?_
            have hr := Option.some.inj h
            subst hr
            exact AWc.ret (canQ (N := 52) (k := 0) (l' := [(2, (.d (.bool r92)))]) (H' := []) rfl ⟨rfl, [], [], rfl, rfl, ⟨⟨_, rfl, (.refl _)⟩, rfl, trivial⟩,  trivial⟩ (doneA (.inr rfl) rfl ⟨trivial, trivial⟩ (.refl _) hasNil))
end Go.Proofs.Abs
