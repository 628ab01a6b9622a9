/- Written by gen.py: functions of the program as Lean functions, and that the code comes to them. -/
import Derived.Test.YtojmpoboidomeaaGLrpl
set_option linter.unusedVariables false
set_option linter.unusedSimpArgs false
set_option maxRecDepth 100000
set_option maxHeartbeats 4000000
namespace Go.Proofs.Abs
open Go
/-- (*courant/request.reader).message -/
def C98 (N : Nat → Nat) : AFunc := { n := 29, params := 1, res := [.cell 2 5 true], body :=
 (.seq (.region false [⟨(some 2), .alloc [(.int .u64 0), (.int .u64 0), (.int .u64 0), (.int .i64 0), (.sl [])], none, []⟩])
  (.seq (.region true [⟨(some 4), .mv (.t 0), none, []⟩,
    ⟨(some 5), .nilchk (.t 4), none, [0]⟩,
    ⟨(some 6), .faddr (.t 5) 0, none, [1]⟩,
    ⟨(some 7), .load (.t 6) 1 false, none, [2]⟩,
    ⟨(some 8), .call (.k (.d (.fn (N 39)))) [(.t 7)], none, [3]⟩,
    ⟨(some 9), .mv (.t 0), none, []⟩,
    ⟨(some 10), .nilchk (.t 9), none, [5]⟩,
    ⟨(some 11), .faddr (.t 10) 0, none, [6]⟩,
    ⟨(some 12), .load (.t 11) 1 false, none, [7]⟩,
    ⟨(some 13), .call (.k (.d (.fn (N 39)))) [(.t 12)], none, [8, 4]⟩,
    ⟨(some 14), .mv (.t 0), none, []⟩,
    ⟨(some 15), .nilchk (.t 14), none, [10]⟩,
    ⟨(some 16), .faddr (.t 15) 0, none, [11]⟩,
    ⟨(some 17), .load (.t 16) 1 false, none, [12]⟩,
    ⟨(some 18), .call (.k (.d (.fn (N 39)))) [(.t 17)], none, [13, 9]⟩,
    ⟨(some 19), .mv (.t 0), none, []⟩,
    ⟨(some 20), .call (.k (.d (.fn (N 92)))) [(.t 19)], none, [15, 14]⟩,
    ⟨(some 21), .build [(.int .u64 0), (.int .u64 0), (.int .u64 0), (.int .i64 0), (.sl [])] [(0, 1, (.t 8)), (1, 1, (.t 13)), (2, 1, (.t 18)), (3, 1, (.t 20))], none, [4, 9, 14, 16]⟩,
    ⟨(some 3), .alloc [(.int .u64 0), (.int .u64 0), (.int .u64 0), (.int .i64 0), (.sl [])], none, []⟩,
    ⟨none, .store (.t 3) (.t 21) 5, none, [18, 17, 16, 0, 1, 2, 3, 4, 5, 6, 7, 8, 9, 10, 11, 12, 13, 14, 15]⟩])
   (.seq (.region false [⟨(some 22), .mv (.t 0), none, []⟩,
     ⟨(some 23), .nilchk (.t 22), none, [0]⟩,
     ⟨(some 24), .faddr (.t 23) 0, none, [1]⟩,
     ⟨(some 25), .load (.t 24) 1 false, none, [2]⟩,
     ⟨(some 26), .call (.k (.d (.fn (N 31)))) [(.t 25), (.k (.d (.int .i64 20000)))], none, [3]⟩,
     ⟨(some 27), .faddr (.t 3) 4, none, [0, 1, 2, 3, 4]⟩,
     ⟨none, .store (.t 27) (.t 26) 1, none, [5, 4, 0, 1, 2, 3]⟩])
    (.seq (.region false [⟨(some 28), .load (.t 3) 5 true, none, []⟩,
      ⟨none, .store (.t 2) (.t 28) 5, none, [0]⟩])
     .ret)))) }
def HC98 (P : Program) (N : Nat → Nat) : Prop := HasF P (N 98) (C98 N) ∧ HC39 P N ∧ HC92 P N ∧ HC31 P N
def f98 (k : Nat) (a0 : (List UInt8)) (a1 : Int) (a2 : Int) : Option (Int × Int × Int × Int × (List UInt8) × Int × Int) := (f39 k a0 a1 a2).bind fun r12 => (f39 k a0 r12.2.1 r12.2.2).bind fun r17 => (f39 k a0 r17.2.1 r17.2.2).bind fun r22 => (f92 k a0 r22.2.1 r22.2.2).bind fun r24 => (f31 k a0 r24.2.1 r24.2.2 (20000 : Int)).bind fun r35 => some (r12.1, r17.1, r22.1, r24.1, r35.1, r35.2.1, r35.2.2)
theorem F98 {P : Program} {N : Nat → Nat} (hmix : P.follows .mixedOrders = true) (hc : HC98 P N) {k : Nat} {a0 : (List UInt8)} {a1 : Int} {a2 : Int} {r : (Int × Int × Int × Int × (List UInt8) × Int × Int)} (h : f98 k a0 a1 a2 = some r) :
    ACalls P (N 98) [(.ptr 0 0)] [(0, (.cells [(.ptr 1 0)])), (1, (.cells [(.d (.sl (List.map byteD a0))), (.d (.int .i64 a1)), (.d (.int .i64 a2))]))] (.d (.agg [(.int .u64 r.1), (.int .u64 r.2.1), (.int .u64 r.2.2.1), (.int .i64 r.2.2.2.1), (.sl (List.map byteD r.2.2.2.2.1))])) [(0, (.cells [(.ptr 1 0)])), (1, (.cells [(.d (.sl (List.map byteD a0))), (.d (.int .i64 r.2.2.2.2.2.1)), (.d (.int .i64 r.2.2.2.2.2.2))]))] := by
  refine acalls_canon (F := C98 N) hc.1 2 2 rfl ?_
  unfold f98 at h
  dsimp only [C98, startL]
  refine AWc.seq ?_
  refine AWc.rg hmix rfl rfl ?_
  refine RegV.evS (own := false) (v := (.ptr 2 0)) (H' := [(2, (.cells [(.d (.int .u64 (0 : Int))), (.d (.int .u64 (0 : Int))), (.d (.int .u64 (0 : Int))), (.d (.int .i64 (0 : Int))), .nils])), (0, (.cells [(.ptr 1 0)])), (1, (.cells [(.d (.sl (List.map byteD a0))), (.d (.int .i64 a1)), (.d (.int .i64 a2))]))]) (c' := 3) rfl rfl trivial rfl rfl rfl rfl rfl rfl ?_
  refine RegV.nil0 ?_
  refine AWc.seq ?_
  refine AWc.rg hmix rfl rfl ?_
  refine RegV.p0 rfl rfl rfl ?_
  refine RegV.p0 rfl rfl rfl ?_
  refine RegV.p0 (v := (.ptr 0 0)) rfl rfl rfl ?_
  refine RegV.ld (v := (.ptr 1 0)) (H' := [(0, (.cells [(.ptr 1 0)])), (2, (.cells [(.d (.int .u64 (0 : Int))), (.d (.int .u64 (0 : Int))), (.d (.int .u64 (0 : Int))), (.d (.int .i64 (0 : Int))), .nils])), (1, (.cells [(.d (.sl (List.map byteD a0))), (.d (.int .i64 a1)), (.d (.int .i64 a2))]))]) rfl rfl trivial rfl rfl rfl rfl rfl ?_
  obtain ⟨r12, e12, h⟩ := bind_some h
  refine RegV.callS (q := false) (H' := [(1, (.cells [(.d (.sl (List.map byteD a0))), (.d (.int .i64 r12.2.1)), (.d (.int .i64 r12.2.2))])), (0, (.cells [(.ptr 1 0)])), (2, (.cells [(.d (.int .u64 (0 : Int))), (.d (.int .u64 (0 : Int))), (.d (.int .u64 (0 : Int))), (.d (.int .i64 (0 : Int))), .nils]))]) (c' := 3) (show ACalls P (N 39) [(.ptr 1 0)] [(1, (.cells [(.d (.sl (List.map byteD a0))), (.d (.int .i64 a1)), (.d (.int .i64 a2))]))] (.d (.int .u64 r12.1)) [(1, (.cells [(.d (.sl (List.map byteD a0))), (.d (.int .i64 r12.2.1)), (.d (.int .i64 r12.2.2))]))] from ACalls.use (F39 hmix hc.2.1 e12) [(0, 1)] 1 rfl) rfl rfl rfl rfl (.cons (.refl _) .nil) (.refl _) (fun h => by cases h) rfl (hasCons rfl hasNil) rfl rfl rfl rfl ?_
  refine RegV.p0 rfl rfl rfl ?_
  refine RegV.p0 rfl rfl rfl ?_
  refine RegV.p0 (v := (.ptr 0 0)) rfl rfl rfl ?_
  refine RegV.ld (v := (.ptr 1 0)) (H' := [(0, (.cells [(.ptr 1 0)])), (1, (.cells [(.d (.sl (List.map byteD a0))), (.d (.int .i64 r12.2.1)), (.d (.int .i64 r12.2.2))])), (2, (.cells [(.d (.int .u64 (0 : Int))), (.d (.int .u64 (0 : Int))), (.d (.int .u64 (0 : Int))), (.d (.int .i64 (0 : Int))), .nils]))]) rfl rfl trivial rfl rfl rfl rfl rfl ?_
  obtain ⟨r17, e17, h⟩ := bind_some h
  refine RegV.callS (q := false) (H' := [(1, (.cells [(.d (.sl (List.map byteD a0))), (.d (.int .i64 r17.2.1)), (.d (.int .i64 r17.2.2))])), (0, (.cells [(.ptr 1 0)])), (2, (.cells [(.d (.int .u64 (0 : Int))), (.d (.int .u64 (0 : Int))), (.d (.int .u64 (0 : Int))), (.d (.int .i64 (0 : Int))), .nils]))]) (c' := 3) (show ACalls P (N 39) [(.ptr 1 0)] [(1, (.cells [(.d (.sl (List.map byteD a0))), (.d (.int .i64 r12.2.1)), (.d (.int .i64 r12.2.2))]))] (.d (.int .u64 r17.1)) [(1, (.cells [(.d (.sl (List.map byteD a0))), (.d (.int .i64 r17.2.1)), (.d (.int .i64 r17.2.2))]))] from ACalls.use (F39 hmix hc.2.1 e17) [(0, 1)] 1 rfl) rfl rfl rfl rfl (.cons (.refl _) .nil) (.refl _) (fun h => by cases h) rfl (hasCons rfl hasNil) rfl rfl rfl rfl ?_
  refine RegV.p0 rfl rfl rfl ?_
  refine RegV.p0 rfl rfl rfl ?_
  refine RegV.p0 (v := (.ptr 0 0)) rfl rfl rfl ?_
  refine RegV.ld (v := (.ptr 1 0)) (H' := [(0, (.cells [(.ptr 1 0)])), (1, (.cells [(.d (.sl (List.map byteD a0))), (.d (.int .i64 r17.2.1)), (.d (.int .i64 r17.2.2))])), (2, (.cells [(.d (.int .u64 (0 : Int))), (.d (.int .u64 (0 : Int))), (.d (.int .u64 (0 : Int))), (.d (.int .i64 (0 : Int))), .nils]))]) rfl rfl trivial rfl rfl rfl rfl rfl ?_
  obtain ⟨r22, e22, h⟩ := bind_some h
  refine RegV.callS (q := false) (H' := [(1, (.cells [(.d (.sl (List.map byteD a0))), (.d (.int .i64 r22.2.1)), (.d (.int .i64 r22.2.2))])), (0, (.cells [(.ptr 1 0)])), (2, (.cells [(.d (.int .u64 (0 : Int))), (.d (.int .u64 (0 : Int))), (.d (.int .u64 (0 : Int))), (.d (.int .i64 (0 : Int))), .nils]))]) (c' := 3) (show ACalls P (N 39) [(.ptr 1 0)] [(1, (.cells [(.d (.sl (List.map byteD a0))), (.d (.int .i64 r17.2.1)), (.d (.int .i64 r17.2.2))]))] (.d (.int .u64 r22.1)) [(1, (.cells [(.d (.sl (List.map byteD a0))), (.d (.int .i64 r22.2.1)), (.d (.int .i64 r22.2.2))]))] from ACalls.use (F39 hmix hc.2.1 e22) [(0, 1)] 1 rfl) rfl rfl rfl rfl (.cons (.refl _) .nil) (.refl _) (fun h => by cases h) rfl (hasCons rfl hasNil) rfl rfl rfl rfl ?_
  refine RegV.p0 rfl rfl rfl ?_
  obtain ⟨r24, e24, h⟩ := bind_some h
  refine RegV.callS (q := false) (H' := [(0, (.cells [(.ptr 1 0)])), (1, (.cells [(.d (.sl (List.map byteD a0))), (.d (.int .i64 r24.2.1)), (.d (.int .i64 r24.2.2))])), (2, (.cells [(.d (.int .u64 (0 : Int))), (.d (.int .u64 (0 : Int))), (.d (.int .u64 (0 : Int))), (.d (.int .i64 (0 : Int))), .nils]))]) (c' := 3) (show ACalls P (N 92) [(.ptr 0 0)] [(0, (.cells [(.ptr 1 0)])), (1, (.cells [(.d (.sl (List.map byteD a0))), (.d (.int .i64 r22.2.1)), (.d (.int .i64 r22.2.2))]))] (.d (.int .i64 r24.1)) [(0, (.cells [(.ptr 1 0)])), (1, (.cells [(.d (.sl (List.map byteD a0))), (.d (.int .i64 r24.2.1)), (.d (.int .i64 r24.2.2))]))] from ACalls.use (F92 hmix hc.2.2.1 e24) [(0, 0), (1, 1)] 2 rfl) rfl rfl rfl rfl (.cons (.refl _) .nil) (.refl _) (fun h => by cases h) rfl (hasCons rfl (hasCons rfl hasNil)) rfl rfl rfl rfl ?_
  refine RegV.p1 (v := (.d (.agg [(.int .u64 r12.1), (.int .u64 r17.1), (.int .u64 r22.1), (.int .i64 r24.1), (.sl (List.map byteD ([] : List UInt8)))]))) rfl rfl (by exact ⟨⟨rfl, Nat.le_of_ble_eq_true rfl⟩, ⟨⟨rfl, Nat.le_of_ble_eq_true rfl⟩, ⟨⟨rfl, Nat.le_of_ble_eq_true rfl⟩, ⟨⟨rfl, Nat.le_of_ble_eq_true rfl⟩, trivial⟩⟩⟩⟩) rfl rfl ?_
  refine RegV.evS (own := false) (v := (.ptr 3 0)) (H' := [(3, (.cells [(.d (.int .u64 (0 : Int))), (.d (.int .u64 (0 : Int))), (.d (.int .u64 (0 : Int))), (.d (.int .i64 (0 : Int))), .nils])), (0, (.cells [(.ptr 1 0)])), (1, (.cells [(.d (.sl (List.map byteD a0))), (.d (.int .i64 r24.2.1)), (.d (.int .i64 r24.2.2))])), (2, (.cells [(.d (.int .u64 (0 : Int))), (.d (.int .u64 (0 : Int))), (.d (.int .u64 (0 : Int))), (.d (.int .i64 (0 : Int))), .nils]))]) (c' := 4) rfl rfl trivial rfl rfl rfl rfl rfl rfl ?_
  refine RegV.evN (own := false) (H' := [(3, (.cells [(.d (.int .u64 r12.1)), (.d (.int .u64 r17.1)), (.d (.int .u64 r22.1)), (.d (.int .i64 r24.1)), (.d (.sl (List.map byteD ([] : List UInt8))))])), (0, (.cells [(.ptr 1 0)])), (1, (.cells [(.d (.sl (List.map byteD a0))), (.d (.int .i64 r24.2.1)), (.d (.int .i64 r24.2.2))])), (2, (.cells [(.d (.int .u64 (0 : Int))), (.d (.int .u64 (0 : Int))), (.d (.int .u64 (0 : Int))), (.d (.int .i64 (0 : Int))), .nils]))]) (c' := 4) rfl rfl (by exact ⟨rfl, Nat.le_of_ble_eq_true rfl, rfl⟩) rfl rfl rfl rfl ?_
  refine RegV.nil1 (by kernel_rfl) ?_
  refine AWc.seq ?_
  refine AWc.rg hmix rfl rfl ?_
  refine RegV.p0 rfl rfl rfl ?_
  refine RegV.p0 rfl rfl rfl ?_
  refine RegV.p0 (v := (.ptr 0 0)) rfl rfl rfl ?_
  refine RegV.ld (v := (.ptr 1 0)) (H' := [(0, (.cells [(.ptr 1 0)])), (3, (.cells [(.d (.int .u64 r12.1)), (.d (.int .u64 r17.1)), (.d (.int .u64 r22.1)), (.d (.int .i64 r24.1)), (.d (.sl (List.map byteD ([] : List UInt8))))])), (1, (.cells [(.d (.sl (List.map byteD a0))), (.d (.int .i64 r24.2.1)), (.d (.int .i64 r24.2.2))])), (2, (.cells [(.d (.int .u64 (0 : Int))), (.d (.int .u64 (0 : Int))), (.d (.int .u64 (0 : Int))), (.d (.int .i64 (0 : Int))), .nils]))]) rfl rfl trivial rfl rfl rfl rfl rfl ?_
  obtain ⟨r35, e35, h⟩ := bind_some h
  refine RegV.callS (q := false) (H' := [(4, (.tok ((List.map byteD r35.1).length * 1))), (1, (.cells [(.d (.sl (List.map byteD a0))), (.d (.int .i64 r35.2.1)), (.d (.int .i64 r35.2.2))])), (0, (.cells [(.ptr 1 0)])), (3, (.cells [(.d (.int .u64 r12.1)), (.d (.int .u64 r17.1)), (.d (.int .u64 r22.1)), (.d (.int .i64 r24.1)), (.d (.sl (List.map byteD ([] : List UInt8))))])), (2, (.cells [(.d (.int .u64 (0 : Int))), (.d (.int .u64 (0 : Int))), (.d (.int .u64 (0 : Int))), (.d (.int .i64 (0 : Int))), .nils]))]) (c' := 5) (show ACalls P (N 31) [(.ptr 1 0), (.d (.int .i64 (20000 : Int)))] [(1, (.cells [(.d (.sl (List.map byteD a0))), (.d (.int .i64 r24.2.1)), (.d (.int .i64 r24.2.2))]))] (.ap 4 1 (List.map byteD r35.1)) [(4, (.tok ((List.map byteD r35.1).length * 1))), (1, (.cells [(.d (.sl (List.map byteD a0))), (.d (.int .i64 r35.2.1)), (.d (.int .i64 r35.2.2))]))] from ACalls.use (F31 hmix hc.2.2.2 e35) [(0, 1), (1, 4)] 2 rfl) rfl rfl rfl rfl (.cons (.refl _) (.cons (.refl _) .nil)) (.refl _) (fun h => by cases h) rfl (hasCons rfl hasNil) rfl rfl rfl rfl ?_
  refine RegV.p0 (v := (.ptr 3 4)) rfl rfl rfl ?_
  refine RegV.evN (own := false) (H' := [(3, (.cells [(.d (.int .u64 r12.1)), (.d (.int .u64 r17.1)), (.d (.int .u64 r22.1)), (.d (.int .i64 r24.1)), (.ap 4 1 (List.map byteD r35.1))])), (4, (.tok ((List.map byteD r35.1).length * 1))), (1, (.cells [(.d (.sl (List.map byteD a0))), (.d (.int .i64 r35.2.1)), (.d (.int .i64 r35.2.2))])), (0, (.cells [(.ptr 1 0)])), (2, (.cells [(.d (.int .u64 (0 : Int))), (.d (.int .u64 (0 : Int))), (.d (.int .u64 (0 : Int))), (.d (.int .i64 (0 : Int))), .nils]))]) (c' := 5) rfl rfl (by exact ⟨rfl, Nat.le_of_ble_eq_true rfl, rfl⟩) rfl rfl rfl rfl ?_
  refine RegV.nil0 ?_
  refine AWc.seq ?_
  refine AWc.rg hmix rfl rfl ?_
  refine RegV.ld (v := (.d (.agg [(.int .u64 r12.1), (.int .u64 r17.1), (.int .u64 r22.1), (.int .i64 r24.1), (.sl (List.map byteD r35.1))]))) (H' := [(3, (.cells [(.d (.int .u64 r12.1)), (.d (.int .u64 r17.1)), (.d (.int .u64 r22.1)), (.d (.int .i64 r24.1)), (.ap 4 1 (List.map byteD r35.1))])), (4, (.tok ((List.map byteD r35.1).length * 1))), (1, (.cells [(.d (.sl (List.map byteD a0))), (.d (.int .i64 r35.2.1)), (.d (.int .i64 r35.2.2))])), (0, (.cells [(.ptr 1 0)])), (2, (.cells [(.d (.int .u64 (0 : Int))), (.d (.int .u64 (0 : Int))), (.d (.int .u64 (0 : Int))), (.d (.int .i64 (0 : Int))), .nils]))]) rfl rfl (Nat.le_of_ble_eq_true rfl) rfl rfl rfl rfl rfl ?_
  refine RegV.evN (own := false) (H' := [(2, (.cells [(.d (.int .u64 r12.1)), (.d (.int .u64 r17.1)), (.d (.int .u64 r22.1)), (.d (.int .i64 r24.1)), (.d (.sl (List.map byteD r35.1)))])), (3, (.cells [(.d (.int .u64 r12.1)), (.d (.int .u64 r17.1)), (.d (.int .u64 r22.1)), (.d (.int .i64 r24.1)), (.ap 4 1 (List.map byteD r35.1))])), (4, (.tok ((List.map byteD r35.1).length * 1))), (1, (.cells [(.d (.sl (List.map byteD a0))), (.d (.int .i64 r35.2.1)), (.d (.int .i64 r35.2.2))])), (0, (.cells [(.ptr 1 0)]))]) (c' := 5) rfl rfl (by exact ⟨rfl, Nat.le_of_ble_eq_true rfl, rfl⟩) rfl rfl rfl rfl ?_
  refine RegV.nil0 ?_
  have hr := Option.some.inj h
  subst hr
  exact AWc.ret (canQ (N := 29) (k := 3) (l' := [(2, (.ptr 2 0))]) (H' := [(2, (.cells [(.d (.int .u64 r12.1)), (.d (.int .u64 r17.1)), (.d (.int .u64 r22.1)), (.d (.int .i64 r24.1)), (.d (.sl (List.map byteD r35.1)))])), (0, (.cells [(.ptr 1 0)])), (1, (.cells [(.d (.sl (List.map byteD a0))), (.d (.int .i64 r35.2.1)), (.d (.int .i64 r35.2.2))]))]) rfl ⟨rfl, [], [], rfl, rfl, ⟨⟨_, rfl, (.refl _)⟩, rfl, trivial⟩, ⟨⟨_, rfl, (.refl _)⟩, rfl, rfl, ⟨⟨_, rfl, (.refl _)⟩, rfl, rfl, ⟨⟨_, rfl, (.refl _)⟩, rfl, rfl, trivial⟩⟩⟩⟩ (doneA (.inr rfl) rfl ⟨(Nat.le_of_ble_eq_true rfl), trivial⟩ (.refl _) (hasCons rfl (hasCons rfl hasNil))))
/-- (*courant/code.Reader).End -/
def C43 (N : Nat → Nat) : AFunc := { n := 12, params := 1, res := [.tmp 2], body :=
 (.seq (.region false [⟨(some 2), .mv (.k (.d (.int .i64 0))), none, []⟩])
  (.seq (.seq (.region false [⟨(some 4), .mv (.t 0), none, []⟩,
     ⟨(some 5), .call (.k (.d (.fn (N 42)))) [(.t 4)], none, [0]⟩,
     ⟨(some 3), .mv (.t 5), none, [1, 0]⟩])
    (.seq (.region false [⟨(some 6), .mv (.t 3), none, []⟩,
      ⟨(some 7), .bin .neq (.t 6) (.k (.d (.int .i64 0))), none, [0]⟩])
     (.cond (.t 7) (.seq (.region false [⟨(some 8), .mv (.t 3), none, []⟩,
        ⟨(some 2), .mv (.t 8), none, [0]⟩])
       .ret)
      (.skip))))
   (.seq (.seq (.region false [⟨(some 9), .mv (.t 0), none, []⟩,
      ⟨(some 10), .call (.k (.d (.fn (N 32)))) [(.t 9)], none, [0]⟩,
      ⟨(some 11), .bin .gtr (.t 10) (.k (.d (.int .i64 0))), none, [1]⟩])
     (.cond (.t 11) (.seq (.region false [⟨(some 2), .mv (.k (.d (.int .i64 4))), none, []⟩])
       .ret)
      (.skip)))
    (.seq (.region false [⟨(some 2), .mv (.k (.d (.int .i64 0))), none, []⟩])
     .ret)))) }
def HC43 (P : Program) (N : Nat → Nat) : Prop := HasF P (N 43) (C43 N) ∧ HC42 P N ∧ HC32 P N
def f43 (k : Nat) (a0 : (List UInt8)) (a1 : Int) (a2 : Int) : Option Int := (f42 k a0 a1 a2).bind fun r10 => cond (decide (a2 ≠ (0 : Int))) (some a2) ((f32 k a0 a1 a2).bind fun r30 => cond (decide ((IntKind.i64.wrap (((a0.length : Nat) : Int) - a1)) > (0 : Int))) (some (4 : Int)) (some (0 : Int)))
theorem F43 {P : Program} {N : Nat → Nat} (hmix : P.follows .mixedOrders = true) (hc : HC43 P N) {k : Nat} {a0 : (List UInt8)} {a1 : Int} {a2 : Int} {r : Int} (h : f43 k a0 a1 a2 = some r) :
    ACalls P (N 43) [(.ptr 0 0)] [(0, (.cells [(.d (.sl (List.map byteD a0))), (.d (.int .i64 a1)), (.d (.int .i64 a2))]))] (.d (.int .i64 r)) [(0, (.cells [(.d (.sl (List.map byteD a0))), (.d (.int .i64 a1)), (.d (.int .i64 a2))]))] := by
  refine acalls_canon (F := C43 N) hc.1 1 1 rfl ?_
  unfold f43 at h
  dsimp only [C43, startL]
  refine AWc.seq ?_
  refine AWc.rg hmix rfl rfl ?_
  refine RegV.p0 rfl rfl rfl ?_
  refine RegV.nil0 ?_
  refine AWc.seq ?_
  refine AWc.seq ?_
  refine AWc.rg hmix rfl rfl ?_
  refine RegV.p0 rfl rfl rfl ?_
  obtain ⟨r10, e10, h⟩ := bind_some h
  refine RegV.callS (q := true) (H' := [(0, (.cells [(.d (.sl (List.map byteD a0))), (.d (.int .i64 a1)), (.d (.int .i64 a2))]))]) (c' := 1) (show ACalls P (N 42) [(.ptr 0 0)] [(0, (.cells [(.d (.sl (List.map byteD a0))), (.d (.int .i64 a1)), (.d (.int .i64 a2))]))] (.d (.int .i64 a2)) [(0, (.cells [(.d (.sl (List.map byteD a0))), (.d (.int .i64 a1)), (.d (.int .i64 a2))]))] from ACalls.use (F42 hmix hc.2.1 e10) [(0, 0)] 1 rfl) rfl rfl rfl rfl (.cons (.refl _) .nil) (.refl _) (fun _ => rfl) rfl (hasCons rfl hasNil) rfl rfl rfl rfl ?_
  refine RegV.p0 rfl rfl rfl ?_
  refine RegV.nil0 ?_
  refine AWc.seq ?_
  refine AWc.rg hmix rfl rfl ?_
  refine RegV.p0 rfl rfl rfl ?_
  refine RegV.p0 (v := (.d (.bool (decide (a2 ≠ (0 : Int)))))) rfl rfl rfl ?_
  refine RegV.nil0 ?_
  refine AWc.cond rfl (fun c17 => ?_) (fun c17 => ?_)
  · have h := cond_pos c17 h
    refine AWc.seq ?_
    refine AWc.rg hmix rfl rfl ?_
    refine RegV.p0 rfl rfl rfl ?_
    refine RegV.p0 rfl rfl rfl ?_
    refine RegV.nil0 ?_
    have hr := Option.some.inj h
    subst hr
    exact AWc.ret (canQ (N := 12) (k := 1) (l' := [(2, (.d (.int .i64 a2)))]) (H' := [(0, (.cells [(.d (.sl (List.map byteD a0))), (.d (.int .i64 a1)), (.d (.int .i64 a2))]))]) rfl ⟨rfl, [], [], rfl, rfl, ⟨⟨_, rfl, (.refl _)⟩, rfl, trivial⟩, ⟨⟨_, rfl, (.refl _)⟩, rfl, rfl, trivial⟩⟩ (doneA (.inr rfl) rfl ⟨trivial, trivial⟩ (.refl _) (hasCons rfl hasNil)))
  · have h := cond_neg c17 h
    refine AWc.skip ?_
    refine AWc.seq ?_
    refine AWc.seq ?_
    refine AWc.rg hmix rfl rfl ?_
    refine RegV.p0 rfl rfl rfl ?_
    obtain ⟨r30, e30, h⟩ := bind_some h
    refine RegV.callS (q := true) (H' := [(0, (.cells [(.d (.sl (List.map byteD a0))), (.d (.int .i64 a1)), (.d (.int .i64 a2))]))]) (c' := 1) (show ACalls P (N 32) [(.ptr 0 0)] [(0, (.cells [(.d (.sl (List.map byteD a0))), (.d (.int .i64 a1)), (.d (.int .i64 a2))]))] (.d (.int .i64 (IntKind.i64.wrap (((a0.length : Nat) : Int) - a1)))) [(0, (.cells [(.d (.sl (List.map byteD a0))), (.d (.int .i64 a1)), (.d (.int .i64 a2))]))] from ACalls.use (F32 hmix hc.2.2 e30) [(0, 0)] 1 rfl) rfl rfl rfl rfl (.cons (.refl _) .nil) (.refl _) (fun _ => rfl) rfl (hasCons rfl hasNil) rfl rfl rfl rfl ?_
    refine RegV.p0 (v := (.d (.bool (decide ((IntKind.i64.wrap (((a0.length : Nat) : Int) - a1)) > (0 : Int)))))) rfl rfl rfl ?_
    refine RegV.nil0 ?_
    refine AWc.cond rfl (fun c32 => ?_) (fun c32 => ?_)
    · have h := cond_pos c32 h
      refine AWc.seq ?_
      refine AWc.rg hmix rfl rfl ?_
      refine RegV.p0 rfl rfl rfl ?_
      refine RegV.nil0 ?_
      have hr := Option.some.inj h
      subst hr
      exact AWc.ret (canQ (N := 12) (k := 1) (l' := [(2, (.d (.int .i64 (4 : Int))))]) (H' := [(0, (.cells [(.d (.sl (List.map byteD a0))), (.d (.int .i64 a1)), (.d (.int .i64 a2))]))]) rfl ⟨rfl, [], [], rfl, rfl, ⟨⟨_, rfl, (.refl _)⟩, rfl, trivial⟩, ⟨⟨_, rfl, (.refl _)⟩, rfl, rfl, trivial⟩⟩ (doneA (.inr rfl) rfl ⟨trivial, trivial⟩ (.refl _) (hasCons rfl hasNil)))
    · have h := cond_neg c32 h
      refine AWc.skip ?_
      refine AWc.seq ?_
      refine AWc.rg hmix rfl rfl ?_
      refine RegV.p0 rfl rfl rfl ?_
      refine RegV.nil0 ?_
      have hr := Option.some.inj h
      subst hr
      exact AWc.ret (canQ (N := 12) (k := 1) (l' := [(2, (.d (.int .i64 (0 : Int))))]) (H' := [(0, (.cells [(.d (.sl (List.map byteD a0))), (.d (.int .i64 a1)), (.d (.int .i64 a2))]))]) rfl ⟨rfl, [], [], rfl, rfl, ⟨⟨_, rfl, (.refl _)⟩, rfl, trivial⟩, ⟨⟨_, rfl, (.refl _)⟩, rfl, rfl, trivial⟩⟩ (doneA (.inr rfl) rfl ⟨trivial, trivial⟩ (.refl _) (hasCons rfl hasNil)))
/-- courant/request.TakeReply -/
def C63 (N : Nat → Nat) : AFunc := { n := 72, params := 1, res := [.cell 2 6 true, .tmp 3], body :=
 (.seq (.region false [⟨(some 2), .alloc [(.int .i64 0), (.int .i64 0), (.int .i64 0), (.int .u64 0), (.str []), (.sl [])], none, []⟩,
   ⟨(some 3), .mv (.k (.d (.int .i64 0))), none, []⟩])
  (.seq (.region false [⟨(some 8), .mv (.t 0), none, []⟩,
    ⟨(some 9), .call (.k (.d (.fn (N 30)))) [(.t 8)], none, [0]⟩,
    ⟨(some 10), .build [.nilp] [(0, 1, (.t 9))], none, [1]⟩,
    ⟨(some 11), .box (.t 10), none, [2]⟩,
    ⟨(some 4), .mv (.t 11), none, [3, 1, 0, 2]⟩])
   (.seq (.region false [⟨(some 12), .mv (.t 4), none, []⟩,
     ⟨(some 13), .call (.k (.d (.fn (N 92)))) [(.t 12)], none, [0]⟩,
     ⟨(some 14), .mv (.t 4), none, []⟩,
     ⟨(some 15), .call (.k (.d (.fn (N 92)))) [(.t 14)], none, [2, 1]⟩,
     ⟨(some 16), .mv (.t 4), none, []⟩,
     ⟨(some 17), .call (.k (.d (.fn (N 92)))) [(.t 16)], none, [4, 3]⟩,
     ⟨(some 18), .build [(.int .i64 0), (.int .i64 0), (.int .i64 0), (.int .u64 0), (.str []), (.sl [])] [(0, 1, (.t 13)), (1, 1, (.t 15)), (2, 1, (.t 17))], none, [1, 3, 5]⟩,
     ⟨(some 5), .alloc [(.int .i64 0), (.int .i64 0), (.int .i64 0), (.int .u64 0), (.str []), (.sl [])], none, []⟩,
     ⟨none, .store (.t 5) (.t 18) 6, none, [7, 6, 5, 0, 1, 2, 3, 4]⟩])
    (.seq (.region false [⟨(some 19), .mv (.t 4), none, []⟩,
      ⟨(some 20), .nilchk (.t 19), none, [0]⟩,
      ⟨(some 21), .faddr (.t 20) 0, none, [1]⟩,
      ⟨(some 22), .load (.t 21) 1 false, none, [2]⟩,
      ⟨(some 23), .call (.k (.d (.fn (N 39)))) [(.t 22)], none, [3]⟩,
      ⟨(some 24), .faddr (.t 5) 3, none, [0, 1, 2, 3, 4]⟩,
      ⟨none, .store (.t 24) (.t 23) 1, none, [5, 4, 0, 1, 2, 3]⟩])
     (.seq (.region false [⟨(some 25), .mv (.t 4), none, []⟩,
       ⟨(some 26), .call (.k (.d (.fn (N 93)))) [(.t 25)], none, [0]⟩,
       ⟨(some 27), .faddr (.t 5) 4, none, [0, 1]⟩,
       ⟨none, .store (.t 27) (.t 26) 1, none, [2, 1, 0]⟩])
      (.seq (.region false [⟨(some 28), .mv (.t 4), none, []⟩,
        ⟨(some 29), .call (.k (.d (.fn (N 92)))) [(.t 28)], none, [0]⟩,
        ⟨(some 6), .mv (.t 29), none, [1, 0]⟩])
       (.seq (.block 0 (.seq (.region false [⟨(some 31), .mv (.t 4), none, []⟩,
           ⟨(some 32), .nilchk (.t 31), none, [0]⟩,
           ⟨(some 33), .faddr (.t 32) 0, none, [1]⟩,
           ⟨(some 34), .load (.t 33) 1 false, none, [2]⟩,
           ⟨(some 35), .call (.k (.d (.fn (N 42)))) [(.t 34)], none, [3]⟩,
           ⟨(some 36), .bin .neq (.t 35) (.k (.d (.int .i64 0))), none, [4]⟩,
           ⟨(some 30), .mv (.t 36), none, [5, 4]⟩])
          (.cond (.t 30) (.seq (.region false [⟨(some 37), .build [(.int .i64 0), (.int .i64 0), (.int .i64 0), (.int .u64 0), (.str []), (.sl [])] [], none, []⟩,
             ⟨(some 38), .mv (.t 4), none, []⟩,
             ⟨(some 39), .nilchk (.t 38), none, [1]⟩,
             ⟨(some 40), .faddr (.t 39) 0, none, [2]⟩,
             ⟨(some 41), .load (.t 40) 1 false, none, [3]⟩,
             ⟨(some 42), .call (.k (.d (.fn (N 42)))) [(.t 41)], none, [4]⟩,
             ⟨none, .store (.t 2) (.t 37) 6, none, [0, 5]⟩,
             ⟨(some 3), .mv (.t 42), none, [5, 6, 0, 1, 2, 3, 4]⟩])
            .ret)
           (.seq (.region false [⟨(some 44), .mv (.t 6), none, []⟩,
             ⟨(some 45), .bin .lss (.t 44) (.k (.d (.int .i64 0))), none, [0]⟩,
             ⟨(some 43), .mv (.t 45), none, [1]⟩])
            (.cond (.t 43) (.seq (.region false [⟨(some 46), .build [(.int .i64 0), (.int .i64 0), (.int .i64 0), (.int .u64 0), (.str []), (.sl [])] [], none, []⟩,
               ⟨none, .store (.t 2) (.t 46) 6, none, [0]⟩,
               ⟨(some 3), .mv (.k (.d (.int .i64 4))), none, [1, 0]⟩])
              .ret)
             (.seq (.region false [⟨(some 48), .mv (.t 6), none, []⟩,
               ⟨(some 49), .bin .gtr (.t 48) (.k (.d (.int .i64 50))), none, [0]⟩,
               ⟨(some 47), .mv (.t 49), none, [1]⟩])
              (.cond (.t 47) (.seq (.region false [⟨(some 50), .build [(.int .i64 0), (.int .i64 0), (.int .i64 0), (.int .u64 0), (.str []), (.sl [])] [], none, []⟩,
                 ⟨none, .store (.t 2) (.t 50) 6, none, [0]⟩,
                 ⟨(some 3), .mv (.k (.d (.int .i64 5))), none, [1, 0]⟩])
                .ret)
               (.skip))))))))
        (.seq (.seq (.region false [⟨(some 51), .mv (.t 6), none, []⟩,
           ⟨(some 52), .mv (.k (.d (.int .i64 0))), none, []⟩])
          (.block 1 (.loop (.seq (.region false [⟨(some 53), .bin .lss (.t 52) (.t 51), none, []⟩])
             (.seq (.cond (.t 53) (.skip)
               (.exit 1))
              (.seq (.block 2 (.region true [⟨(some 54), .faddr (.t 5) 5, none, []⟩,
                 ⟨(some 55), .load (.t 54) 1 false, none, [0]⟩,
                 ⟨(some 56), .mv (.t 4), none, []⟩,
                 ⟨(some 57), .call (.k (.d (.fn (N 98)))) [(.t 56)], none, [2]⟩,
                 ⟨(some 58), .bslice 1 5 [(.int .u64 0), (.int .u64 0), (.int .u64 0), (.int .i64 0), (.sl [])] [(0, (.t 57))], none, [3]⟩,
                 ⟨(some 59), .app (.t 55) (.t 58) 5 56 [(.int .u64 0), (.int .u64 0), (.int .u64 0), (.int .i64 0), (.sl [])], none, [1, 4, 3]⟩,
                 ⟨(some 60), .faddr (.t 5) 5, none, [0, 1, 2, 3, 4, 5]⟩,
                 ⟨none, .store (.t 60) (.t 59) 1, none, [6, 5, 0, 1, 2, 3, 4]⟩]))
               (.region false [⟨(some 61), .bin .add (.t 52) (.k (.d (.int .i64 1))), none, []⟩,
                ⟨(some 52), .mv (.t 61), none, [0]⟩])))))))
         (.seq (.seq (.region false [⟨(some 62), .mv (.t 4), none, []⟩,
            ⟨(some 63), .nilchk (.t 62), none, [0]⟩,
            ⟨(some 64), .faddr (.t 63) 0, none, [1]⟩,
            ⟨(some 65), .load (.t 64) 1 false, none, [2]⟩,
            ⟨(some 66), .call (.k (.d (.fn (N 43)))) [(.t 65)], none, [3]⟩,
            ⟨(some 7), .mv (.t 66), none, [4, 0, 1, 2, 3]⟩])
           (.seq (.region false [⟨(some 67), .mv (.t 7), none, []⟩,
             ⟨(some 68), .bin .neq (.t 67) (.k (.d (.int .i64 0))), none, [0]⟩])
            (.cond (.t 68) (.seq (.region false [⟨(some 69), .build [(.int .i64 0), (.int .i64 0), (.int .i64 0), (.int .u64 0), (.str []), (.sl [])] [], none, []⟩,
               ⟨(some 70), .mv (.t 7), none, []⟩,
               ⟨none, .store (.t 2) (.t 69) 6, none, [0]⟩,
               ⟨(some 3), .mv (.t 70), none, [1, 2, 0]⟩])
              .ret)
             (.skip))))
          (.seq (.region false [⟨(some 71), .load (.t 5) 6 true, none, []⟩,
            ⟨none, .store (.t 2) (.t 71) 6, none, [0]⟩,
            ⟨(some 3), .mv (.k (.d (.int .i64 0))), none, [1, 0]⟩])
           .ret)))))))))) }
def HC63 (P : Program) (N : Nat → Nat) : Prop := HasF P (N 63) (C63 N) ∧ HC30 P N ∧ HC92 P N ∧ HC39 P N ∧ HC93 P N ∧ HC42 P N ∧ HC98 P N ∧ HC43 P N
def f63_j135 (k : Nat) (a0 : (List UInt8)) (r18 : (Int × Int × Int)) (r20 : (Int × Int × Int)) (r22 : (Int × Int × Int)) (r33 : (Int × Int × Int)) (r40 : ((List UInt8) × Int × Int)) (j135_1 : (List TMessage)) (j135_2 : Int) (j135_3 : Int) : Option (Int × Int × Int × Int × Int × (List UInt8) × (List TMessage)) := (f43 k a0 j135_2 j135_3).bind fun r143 => cond (decide (r143 ≠ (0 : Int))) (some (r143, (0 : Int), (0 : Int), (0 : Int), (0 : Int), ([] : List UInt8), ([] : List TMessage))) (some ((0 : Int), r18.1, r20.1, r22.1, r33.1, r40.1, j135_1))
def f63_l109 (r47 : (Int × Int × Int)) (a0 : (List UInt8)) : Nat → Int → (List TMessage) → Int → Int → Option (LR2 ((List TMessage) × Int × Int) Unit (Int × Int × Int × Int × Int × (List UInt8) × (List TMessage)))
  | 0, _, _, _, _ => none
  | k + 1, y109_1, y109_2, y109_3, y109_4 => cond (decide (y109_1 < r47.1)) ((f98 k a0 y109_3 y109_4).bind fun r126 => gd ((y109_2.length + ([(TMessage.mk r126.1 r126.2.1 r126.2.2.1 r126.2.2.2.1 r126.2.2.2.2.1)] : List TMessage).length) * 2 * 56 ≤ 281474976710656) (f63_l109 r47 a0 k (IntKind.i64.wrap (y109_1 + (1 : Int))) (y109_2 ++ ([(TMessage.mk r126.1 r126.2.1 r126.2.2.1 r126.2.2.2.1 r126.2.2.2.2.1)] : List TMessage)) r126.2.2.2.2.2.1 r126.2.2.2.2.2.2)) (some (.b0 (y109_2, y109_3, y109_4)))
def f63 (k : Nat) (a0 : (List UInt8)) : Option (Int × Int × Int × Int × Int × (List UInt8) × (List TMessage)) := (f30 k a0).bind fun r10 => (f92 k a0 (0 : Int) (0 : Int)).bind fun r18 => (f92 k a0 r18.2.1 r18.2.2).bind fun r20 => (f92 k a0 r20.2.1 r20.2.2).bind fun r22 => (f39 k a0 r22.2.1 r22.2.2).bind fun r33 => (f93 k a0 r33.2.1 r33.2.2).bind fun r40 => (f92 k a0 r40.2.1 r40.2.2).bind fun r47 => (f42 k a0 r47.2.1 r47.2.2).bind fun r58 => cond (decide (r47.2.2 ≠ (0 : Int))) ((f42 k a0 r47.2.1 r47.2.2).bind fun r70 => some (r47.2.2, (0 : Int), (0 : Int), (0 : Int), (0 : Int), ([] : List UInt8), ([] : List TMessage))) (cond (decide (r47.1 < (0 : Int))) (some ((4 : Int), (0 : Int), (0 : Int), (0 : Int), (0 : Int), ([] : List UInt8), ([] : List TMessage))) (cond (decide (r47.1 > (50 : Int))) (some ((5 : Int), (0 : Int), (0 : Int), (0 : Int), (0 : Int), ([] : List UInt8), ([] : List TMessage))) ((f63_l109 r47 a0 k (0 : Int) ([] : List TMessage) r47.2.1 r47.2.2).bind fun o109 => match o109 with | .b0 (x109_1, x109_2, x109_3) => f63_j135 k a0 r18 r20 r22 r33 r40 x109_1 x109_2 x109_3 | _ => none)))
theorem F63 {P : Program} {N : Nat → Nat} (hmix : P.follows .mixedOrders = true) (hc : HC63 P N) {k : Nat} {a0 : (List UInt8)} {r : (Int × Int × Int × Int × Int × (List UInt8) × (List TMessage))} (h : f63 k a0 = some r) :
    ACalls P (N 63) [(.d (.sl (List.map byteD a0)))] [] (.tup [(.d (.agg [(.int .i64 r.2.1), (.int .i64 r.2.2.1), (.int .i64 r.2.2.2.1), (.int .u64 r.2.2.2.2.1), (.str r.2.2.2.2.2.1), (.sl (List.map TMessage.enc r.2.2.2.2.2.2))])), (.d (.int .i64 r.1))]) [] := by
  refine acalls_canon (F := C63 N) hc.1 0 0 rfl ?_
  unfold f63 at h
  dsimp only [C63, startL]
  refine AWc.seq ?_
  refine AWc.rg hmix rfl rfl ?_
  refine RegV.evS (own := false) (v := (.ptr 0 0)) (H' := [(0, (.cells [(.d (.int .i64 (0 : Int))), (.d (.int .i64 (0 : Int))), (.d (.int .i64 (0 : Int))), (.d (.int .u64 (0 : Int))), (.d (.str ([] : List UInt8))), .nils]))]) (c' := 1) rfl rfl trivial rfl rfl rfl rfl rfl rfl ?_
  refine RegV.p0 rfl rfl rfl ?_
  refine RegV.nil0 ?_
  refine AWc.seq ?_
  refine AWc.rg hmix rfl rfl ?_
  refine RegV.p0 rfl rfl rfl ?_
  obtain ⟨r10, e10, h⟩ := bind_some h
  refine RegV.callS (q := false) (H' := [(1, (.cells [(.d (.sl (List.map byteD a0))), (.d (.int .i64 (0 : Int))), (.d (.int .i64 (0 : Int)))])), (0, (.cells [(.d (.int .i64 (0 : Int))), (.d (.int .i64 (0 : Int))), (.d (.int .i64 (0 : Int))), (.d (.int .u64 (0 : Int))), (.d (.str ([] : List UInt8))), .nils]))]) (c' := 2) (show ACalls P (N 30) [(.d (.sl (List.map byteD a0)))] [] (.ptr 1 0) [(1, (.cells [(.d (.sl (List.map byteD a0))), (.d (.int .i64 (0 : Int))), (.d (.int .i64 (0 : Int)))]))] from ACalls.use (F30 hmix hc.2.1 e10) [(0, 1)] 1 rfl) rfl rfl rfl rfl (.cons (.refl _) .nil) (.refl _) (fun h => by cases h) rfl hasNil rfl rfl rfl rfl ?_
  refine RegV.p1 (v := (.agg [(.ptr 1 0)])) rfl rfl (by exact ⟨⟨rfl, Nat.le_of_ble_eq_true rfl⟩, trivial⟩) rfl rfl ?_
  refine RegV.evS (own := false) (v := (.ptr 2 0)) (H' := [(2, (.cells [(.ptr 1 0)])), (1, (.cells [(.d (.sl (List.map byteD a0))), (.d (.int .i64 (0 : Int))), (.d (.int .i64 (0 : Int)))])), (0, (.cells [(.d (.int .i64 (0 : Int))), (.d (.int .i64 (0 : Int))), (.d (.int .i64 (0 : Int))), (.d (.int .u64 (0 : Int))), (.d (.str ([] : List UInt8))), .nils]))]) (c' := 3) rfl rfl trivial rfl rfl rfl rfl rfl rfl ?_
  refine RegV.p0 rfl rfl rfl ?_
  refine RegV.nil0 ?_
  refine AWc.seq ?_
  refine AWc.rg hmix rfl rfl ?_
  refine RegV.p0 rfl rfl rfl ?_
  obtain ⟨r18, e18, h⟩ := bind_some h
  refine RegV.callS (q := false) (H' := [(2, (.cells [(.ptr 1 0)])), (1, (.cells [(.d (.sl (List.map byteD a0))), (.d (.int .i64 r18.2.1)), (.d (.int .i64 r18.2.2))])), (0, (.cells [(.d (.int .i64 (0 : Int))), (.d (.int .i64 (0 : Int))), (.d (.int .i64 (0 : Int))), (.d (.int .u64 (0 : Int))), (.d (.str ([] : List UInt8))), .nils]))]) (c' := 3) (show ACalls P (N 92) [(.ptr 2 0)] [(2, (.cells [(.ptr 1 0)])), (1, (.cells [(.d (.sl (List.map byteD a0))), (.d (.int .i64 (0 : Int))), (.d (.int .i64 (0 : Int)))]))] (.d (.int .i64 r18.1)) [(2, (.cells [(.ptr 1 0)])), (1, (.cells [(.d (.sl (List.map byteD a0))), (.d (.int .i64 r18.2.1)), (.d (.int .i64 r18.2.2))]))] from ACalls.use (F92 hmix hc.2.2.1 e18) [(0, 2), (1, 1)] 2 rfl) rfl rfl rfl rfl (.cons (.refl _) .nil) (.refl _) (fun h => by cases h) rfl (hasCons rfl (hasCons rfl hasNil)) rfl rfl rfl rfl ?_
  refine RegV.p0 rfl rfl rfl ?_
  obtain ⟨r20, e20, h⟩ := bind_some h
  refine RegV.callS (q := false) (H' := [(2, (.cells [(.ptr 1 0)])), (1, (.cells [(.d (.sl (List.map byteD a0))), (.d (.int .i64 r20.2.1)), (.d (.int .i64 r20.2.2))])), (0, (.cells [(.d (.int .i64 (0 : Int))), (.d (.int .i64 (0 : Int))), (.d (.int .i64 (0 : Int))), (.d (.int .u64 (0 : Int))), (.d (.str ([] : List UInt8))), .nils]))]) (c' := 3) (show ACalls P (N 92) [(.ptr 2 0)] [(2, (.cells [(.ptr 1 0)])), (1, (.cells [(.d (.sl (List.map byteD a0))), (.d (.int .i64 r18.2.1)), (.d (.int .i64 r18.2.2))]))] (.d (.int .i64 r20.1)) [(2, (.cells [(.ptr 1 0)])), (1, (.cells [(.d (.sl (List.map byteD a0))), (.d (.int .i64 r20.2.1)), (.d (.int .i64 r20.2.2))]))] from ACalls.use (F92 hmix hc.2.2.1 e20) [(0, 2), (1, 1)] 2 rfl) rfl rfl rfl rfl (.cons (.refl _) .nil) (.refl _) (fun h => by cases h) rfl (hasCons rfl (hasCons rfl hasNil)) rfl rfl rfl rfl ?_
  refine RegV.p0 rfl rfl rfl ?_
  obtain ⟨r22, e22, h⟩ := bind_some h
  refine RegV.callS (q := false) (H' := [(2, (.cells [(.ptr 1 0)])), (1, (.cells [(.d (.sl (List.map byteD a0))), (.d (.int .i64 r22.2.1)), (.d (.int .i64 r22.2.2))])), (0, (.cells [(.d (.int .i64 (0 : Int))), (.d (.int .i64 (0 : Int))), (.d (.int .i64 (0 : Int))), (.d (.int .u64 (0 : Int))), (.d (.str ([] : List UInt8))), .nils]))]) (c' := 3) (show ACalls P (N 92) [(.ptr 2 0)] [(2, (.cells [(.ptr 1 0)])), (1, (.cells [(.d (.sl (List.map byteD a0))), (.d (.int .i64 r20.2.1)), (.d (.int .i64 r20.2.2))]))] (.d (.int .i64 r22.1)) [(2, (.cells [(.ptr 1 0)])), (1, (.cells [(.d (.sl (List.map byteD a0))), (.d (.int .i64 r22.2.1)), (.d (.int .i64 r22.2.2))]))] from ACalls.use (F92 hmix hc.2.2.1 e22) [(0, 2), (1, 1)] 2 rfl) rfl rfl rfl rfl (.cons (.refl _) .nil) (.refl _) (fun h => by cases h) rfl (hasCons rfl (hasCons rfl hasNil)) rfl rfl rfl rfl ?_
  refine RegV.bld (L' := [(.d (.int .i64 r18.1)), (.d (.int .i64 r20.1)), (.d (.int .i64 r22.1)), (.d (.int .u64 (0 : Int))), (.d (.str ([] : List UInt8))), .nils]) rfl rfl (by exact ⟨⟨rfl, Nat.le_of_ble_eq_true rfl⟩, ⟨⟨rfl, Nat.le_of_ble_eq_true rfl⟩, ⟨⟨rfl, Nat.le_of_ble_eq_true rfl⟩, trivial⟩⟩⟩) rfl rfl ?_
  refine RegV.evS (own := false) (v := (.ptr 3 0)) (H' := [(3, (.cells [(.d (.int .i64 (0 : Int))), (.d (.int .i64 (0 : Int))), (.d (.int .i64 (0 : Int))), (.d (.int .u64 (0 : Int))), (.d (.str ([] : List UInt8))), .nils])), (2, (.cells [(.ptr 1 0)])), (1, (.cells [(.d (.sl (List.map byteD a0))), (.d (.int .i64 r22.2.1)), (.d (.int .i64 r22.2.2))])), (0, (.cells [(.d (.int .i64 (0 : Int))), (.d (.int .i64 (0 : Int))), (.d (.int .i64 (0 : Int))), (.d (.int .u64 (0 : Int))), (.d (.str ([] : List UInt8))), .nils]))]) (c' := 4) rfl rfl trivial rfl rfl rfl rfl rfl rfl ?_
  refine RegV.evN (own := false) (H' := [(3, (.cells [(.d (.int .i64 r18.1)), (.d (.int .i64 r20.1)), (.d (.int .i64 r22.1)), (.d (.int .u64 (0 : Int))), (.d (.str ([] : List UInt8))), .nils])), (2, (.cells [(.ptr 1 0)])), (1, (.cells [(.d (.sl (List.map byteD a0))), (.d (.int .i64 r22.2.1)), (.d (.int .i64 r22.2.2))])), (0, (.cells [(.d (.int .i64 (0 : Int))), (.d (.int .i64 (0 : Int))), (.d (.int .i64 (0 : Int))), (.d (.int .u64 (0 : Int))), (.d (.str ([] : List UInt8))), .nils]))]) (c' := 4) rfl rfl (by exact ⟨rfl, Nat.le_of_ble_eq_true rfl, rfl⟩) rfl rfl rfl rfl ?_
  refine RegV.nil0 ?_
  refine AWc.seq ?_
  refine AWc.rg hmix rfl rfl ?_
  refine RegV.p0 rfl rfl rfl ?_
  refine RegV.p0 rfl rfl rfl ?_
  refine RegV.p0 (v := (.ptr 2 0)) rfl rfl rfl ?_
  refine RegV.ld (v := (.ptr 1 0)) (H' := [(2, (.cells [(.ptr 1 0)])), (3, (.cells [(.d (.int .i64 r18.1)), (.d (.int .i64 r20.1)), (.d (.int .i64 r22.1)), (.d (.int .u64 (0 : Int))), (.d (.str ([] : List UInt8))), .nils])), (1, (.cells [(.d (.sl (List.map byteD a0))), (.d (.int .i64 r22.2.1)), (.d (.int .i64 r22.2.2))])), (0, (.cells [(.d (.int .i64 (0 : Int))), (.d (.int .i64 (0 : Int))), (.d (.int .i64 (0 : Int))), (.d (.int .u64 (0 : Int))), (.d (.str ([] : List UInt8))), .nils]))]) rfl rfl trivial rfl rfl rfl rfl rfl ?_
  obtain ⟨r33, e33, h⟩ := bind_some h
  refine RegV.callS (q := false) (H' := [(1, (.cells [(.d (.sl (List.map byteD a0))), (.d (.int .i64 r33.2.1)), (.d (.int .i64 r33.2.2))])), (2, (.cells [(.ptr 1 0)])), (3, (.cells [(.d (.int .i64 r18.1)), (.d (.int .i64 r20.1)), (.d (.int .i64 r22.1)), (.d (.int .u64 (0 : Int))), (.d (.str ([] : List UInt8))), .nils])), (0, (.cells [(.d (.int .i64 (0 : Int))), (.d (.int .i64 (0 : Int))), (.d (.int .i64 (0 : Int))), (.d (.int .u64 (0 : Int))), (.d (.str ([] : List UInt8))), .nils]))]) (c' := 4) (show ACalls P (N 39) [(.ptr 1 0)] [(1, (.cells [(.d (.sl (List.map byteD a0))), (.d (.int .i64 r22.2.1)), (.d (.int .i64 r22.2.2))]))] (.d (.int .u64 r33.1)) [(1, (.cells [(.d (.sl (List.map byteD a0))), (.d (.int .i64 r33.2.1)), (.d (.int .i64 r33.2.2))]))] from ACalls.use (F39 hmix hc.2.2.2.1 e33) [(0, 1)] 1 rfl) rfl rfl rfl rfl (.cons (.refl _) .nil) (.refl _) (fun h => by cases h) rfl (hasCons rfl hasNil) rfl rfl rfl rfl ?_
  refine RegV.p0 (v := (.ptr 3 3)) rfl rfl rfl ?_
  refine RegV.evN (own := false) (H' := [(3, (.cells [(.d (.int .i64 r18.1)), (.d (.int .i64 r20.1)), (.d (.int .i64 r22.1)), (.d (.int .u64 r33.1)), (.d (.str ([] : List UInt8))), .nils])), (1, (.cells [(.d (.sl (List.map byteD a0))), (.d (.int .i64 r33.2.1)), (.d (.int .i64 r33.2.2))])), (2, (.cells [(.ptr 1 0)])), (0, (.cells [(.d (.int .i64 (0 : Int))), (.d (.int .i64 (0 : Int))), (.d (.int .i64 (0 : Int))), (.d (.int .u64 (0 : Int))), (.d (.str ([] : List UInt8))), .nils]))]) (c' := 4) rfl rfl (by exact ⟨rfl, Nat.le_of_ble_eq_true rfl, rfl⟩) rfl rfl rfl rfl ?_
  refine RegV.nil0 ?_
  refine AWc.seq ?_
  refine AWc.rg hmix rfl rfl ?_
  refine RegV.p0 rfl rfl rfl ?_
  obtain ⟨r40, e40, h⟩ := bind_some h
  refine RegV.callS (q := false) (H' := [(2, (.cells [(.ptr 1 0)])), (1, (.cells [(.d (.sl (List.map byteD a0))), (.d (.int .i64 r40.2.1)), (.d (.int .i64 r40.2.2))])), (3, (.cells [(.d (.int .i64 r18.1)), (.d (.int .i64 r20.1)), (.d (.int .i64 r22.1)), (.d (.int .u64 r33.1)), (.d (.str ([] : List UInt8))), .nils])), (0, (.cells [(.d (.int .i64 (0 : Int))), (.d (.int .i64 (0 : Int))), (.d (.int .i64 (0 : Int))), (.d (.int .u64 (0 : Int))), (.d (.str ([] : List UInt8))), .nils]))]) (c' := 4) (show ACalls P (N 93) [(.ptr 2 0)] [(2, (.cells [(.ptr 1 0)])), (1, (.cells [(.d (.sl (List.map byteD a0))), (.d (.int .i64 r33.2.1)), (.d (.int .i64 r33.2.2))]))] (.d (.str r40.1)) [(2, (.cells [(.ptr 1 0)])), (1, (.cells [(.d (.sl (List.map byteD a0))), (.d (.int .i64 r40.2.1)), (.d (.int .i64 r40.2.2))]))] from ACalls.use (F93 hmix hc.2.2.2.2.1 e40) [(0, 2), (1, 1)] 2 rfl) rfl rfl rfl rfl (.cons (.refl _) .nil) (.refl _) (fun h => by cases h) rfl (hasCons rfl (hasCons rfl hasNil)) rfl rfl rfl rfl ?_
  refine RegV.p0 (v := (.ptr 3 4)) rfl rfl rfl ?_
  refine RegV.evN (own := false) (H' := [(3, (.cells [(.d (.int .i64 r18.1)), (.d (.int .i64 r20.1)), (.d (.int .i64 r22.1)), (.d (.int .u64 r33.1)), (.d (.str r40.1)), .nils])), (2, (.cells [(.ptr 1 0)])), (1, (.cells [(.d (.sl (List.map byteD a0))), (.d (.int .i64 r40.2.1)), (.d (.int .i64 r40.2.2))])), (0, (.cells [(.d (.int .i64 (0 : Int))), (.d (.int .i64 (0 : Int))), (.d (.int .i64 (0 : Int))), (.d (.int .u64 (0 : Int))), (.d (.str ([] : List UInt8))), .nils]))]) (c' := 4) rfl rfl (by exact ⟨rfl, Nat.le_of_ble_eq_true rfl, rfl⟩) rfl rfl rfl rfl ?_
  refine RegV.nil0 ?_
  refine AWc.seq ?_
  refine AWc.rg hmix rfl rfl ?_
  refine RegV.p0 rfl rfl rfl ?_
  obtain ⟨r47, e47, h⟩ := bind_some h
  refine RegV.callS (q := false) (H' := [(2, (.cells [(.ptr 1 0)])), (1, (.cells [(.d (.sl (List.map byteD a0))), (.d (.int .i64 r47.2.1)), (.d (.int .i64 r47.2.2))])), (3, (.cells [(.d (.int .i64 r18.1)), (.d (.int .i64 r20.1)), (.d (.int .i64 r22.1)), (.d (.int .u64 r33.1)), (.d (.str r40.1)), .nils])), (0, (.cells [(.d (.int .i64 (0 : Int))), (.d (.int .i64 (0 : Int))), (.d (.int .i64 (0 : Int))), (.d (.int .u64 (0 : Int))), (.d (.str ([] : List UInt8))), .nils]))]) (c' := 4) (show ACalls P (N 92) [(.ptr 2 0)] [(2, (.cells [(.ptr 1 0)])), (1, (.cells [(.d (.sl (List.map byteD a0))), (.d (.int .i64 r40.2.1)), (.d (.int .i64 r40.2.2))]))] (.d (.int .i64 r47.1)) [(2, (.cells [(.ptr 1 0)])), (1, (.cells [(.d (.sl (List.map byteD a0))), (.d (.int .i64 r47.2.1)), (.d (.int .i64 r47.2.2))]))] from ACalls.use (F92 hmix hc.2.2.1 e47) [(0, 2), (1, 1)] 2 rfl) rfl rfl rfl rfl (.cons (.refl _) .nil) (.refl _) (fun h => by cases h) rfl (hasCons rfl (hasCons rfl hasNil)) rfl rfl rfl rfl ?_
  refine RegV.p0 rfl rfl rfl ?_
  refine RegV.nil0 ?_
  refine AWc.seq ?_
  refine AWc.block ?_
  refine AWc.seq ?_
  refine AWc.rg hmix rfl rfl ?_
  refine RegV.p0 rfl rfl rfl ?_
  refine RegV.p0 rfl rfl rfl ?_
  refine RegV.p0 (v := (.ptr 2 0)) rfl rfl rfl ?_
  refine RegV.ld (v := (.ptr 1 0)) (H' := [(2, (.cells [(.ptr 1 0)])), (1, (.cells [(.d (.sl (List.map byteD a0))), (.d (.int .i64 r47.2.1)), (.d (.int .i64 r47.2.2))])), (3, (.cells [(.d (.int .i64 r18.1)), (.d (.int .i64 r20.1)), (.d (.int .i64 r22.1)), (.d (.int .u64 r33.1)), (.d (.str r40.1)), .nils])), (0, (.cells [(.d (.int .i64 (0 : Int))), (.d (.int .i64 (0 : Int))), (.d (.int .i64 (0 : Int))), (.d (.int .u64 (0 : Int))), (.d (.str ([] : List UInt8))), .nils]))]) rfl rfl trivial rfl rfl rfl rfl rfl ?_
  obtain ⟨r58, e58, h⟩ := bind_some h
  refine RegV.callS (q := true) (H' := [(1, (.cells [(.d (.sl (List.map byteD a0))), (.d (.int .i64 r47.2.1)), (.d (.int .i64 r47.2.2))])), (2, (.cells [(.ptr 1 0)])), (3, (.cells [(.d (.int .i64 r18.1)), (.d (.int .i64 r20.1)), (.d (.int .i64 r22.1)), (.d (.int .u64 r33.1)), (.d (.str r40.1)), .nils])), (0, (.cells [(.d (.int .i64 (0 : Int))), (.d (.int .i64 (0 : Int))), (.d (.int .i64 (0 : Int))), (.d (.int .u64 (0 : Int))), (.d (.str ([] : List UInt8))), .nils]))]) (c' := 4) (show ACalls P (N 42) [(.ptr 1 0)] [(1, (.cells [(.d (.sl (List.map byteD a0))), (.d (.int .i64 r47.2.1)), (.d (.int .i64 r47.2.2))]))] (.d (.int .i64 r47.2.2)) [(1, (.cells [(.d (.sl (List.map byteD a0))), (.d (.int .i64 r47.2.1)), (.d (.int .i64 r47.2.2))]))] from ACalls.use (F42 hmix hc.2.2.2.2.2.1 e58) [(0, 1)] 1 rfl) rfl rfl rfl rfl (.cons (.refl _) .nil) (.refl _) (fun _ => rfl) rfl (hasCons rfl hasNil) rfl rfl rfl rfl ?_
  refine RegV.p0 (v := (.d (.bool (decide (r47.2.2 ≠ (0 : Int)))))) rfl rfl rfl ?_
  refine RegV.p0 rfl rfl rfl ?_
  refine RegV.nil0 ?_
  refine AWc.cond rfl (fun c61 => ?_) (fun c61 => ?_)
  · have h := cond_pos c61 h
    refine AWc.seq ?_
    refine AWc.rg hmix rfl rfl ?_
    refine RegV.p1 (v := (.d (.agg [(.int .i64 (0 : Int)), (.int .i64 (0 : Int)), (.int .i64 (0 : Int)), (.int .u64 (0 : Int)), (.str ([] : List UInt8)), (.sl (List.map TMessage.enc ([] : List TMessage)))]))) rfl rfl trivial rfl rfl ?_
    refine RegV.p0 rfl rfl rfl ?_
    refine RegV.p0 rfl rfl rfl ?_
    refine RegV.p0 (v := (.ptr 2 0)) rfl rfl rfl ?_
    refine RegV.ld (v := (.ptr 1 0)) (H' := [(2, (.cells [(.ptr 1 0)])), (1, (.cells [(.d (.sl (List.map byteD a0))), (.d (.int .i64 r47.2.1)), (.d (.int .i64 r47.2.2))])), (3, (.cells [(.d (.int .i64 r18.1)), (.d (.int .i64 r20.1)), (.d (.int .i64 r22.1)), (.d (.int .u64 r33.1)), (.d (.str r40.1)), .nils])), (0, (.cells [(.d (.int .i64 (0 : Int))), (.d (.int .i64 (0 : Int))), (.d (.int .i64 (0 : Int))), (.d (.int .u64 (0 : Int))), (.d (.str ([] : List UInt8))), .nils]))]) rfl rfl trivial rfl rfl rfl rfl rfl ?_
    obtain ⟨r70, e70, h⟩ := bind_some h
    refine RegV.callS (q := true) (H' := [(1, (.cells [(.d (.sl (List.map byteD a0))), (.d (.int .i64 r47.2.1)), (.d (.int .i64 r47.2.2))])), (2, (.cells [(.ptr 1 0)])), (3, (.cells [(.d (.int .i64 r18.1)), (.d (.int .i64 r20.1)), (.d (.int .i64 r22.1)), (.d (.int .u64 r33.1)), (.d (.str r40.1)), .nils])), (0, (.cells [(.d (.int .i64 (0 : Int))), (.d (.int .i64 (0 : Int))), (.d (.int .i64 (0 : Int))), (.d (.int .u64 (0 : Int))), (.d (.str ([] : List UInt8))), .nils]))]) (c' := 4) (show ACalls P (N 42) [(.ptr 1 0)] [(1, (.cells [(.d (.sl (List.map byteD a0))), (.d (.int .i64 r47.2.1)), (.d (.int .i64 r47.2.2))]))] (.d (.int .i64 r47.2.2)) [(1, (.cells [(.d (.sl (List.map byteD a0))), (.d (.int .i64 r47.2.1)), (.d (.int .i64 r47.2.2))]))] from ACalls.use (F42 hmix hc.2.2.2.2.2.1 e70) [(0, 1)] 1 rfl) rfl rfl rfl rfl (.cons (.refl _) .nil) (.refl _) (fun _ => rfl) rfl (hasCons rfl hasNil) rfl rfl rfl rfl ?_
    refine RegV.evN (own := false) (H' := [(0, (.cells [(.d (.int .i64 (0 : Int))), (.d (.int .i64 (0 : Int))), (.d (.int .i64 (0 : Int))), (.d (.int .u64 (0 : Int))), (.d (.str ([] : List UInt8))), (.d (.sl (List.map TMessage.enc ([] : List TMessage))))])), (1, (.cells [(.d (.sl (List.map byteD a0))), (.d (.int .i64 r47.2.1)), (.d (.int .i64 r47.2.2))])), (2, (.cells [(.ptr 1 0)])), (3, (.cells [(.d (.int .i64 r18.1)), (.d (.int .i64 r20.1)), (.d (.int .i64 r22.1)), (.d (.int .u64 r33.1)), (.d (.str r40.1)), .nils]))]) (c' := 4) rfl rfl (by exact ⟨rfl, Nat.le_of_ble_eq_true rfl, rfl⟩) rfl rfl rfl rfl ?_
    refine RegV.p0 rfl rfl rfl ?_
    refine RegV.nil0 ?_
    have hr := Option.some.inj h
    subst hr
    exact AWc.ret (canQ (N := 72) (k := 1) (l' := [(2, (.ptr 0 0)), (3, (.d (.int .i64 r47.2.2)))]) (H' := [(0, (.cells [(.d (.int .i64 (0 : Int))), (.d (.int .i64 (0 : Int))), (.d (.int .i64 (0 : Int))), (.d (.int .u64 (0 : Int))), (.d (.str ([] : List UInt8))), (.d (.sl (List.map TMessage.enc ([] : List TMessage))))]))]) rfl ⟨rfl, [], [], rfl, rfl, ⟨⟨_, rfl, (.refl _)⟩, rfl, ⟨⟨_, rfl, (.refl _)⟩, rfl, trivial⟩⟩, ⟨⟨_, rfl, (.refl _)⟩, rfl, rfl, trivial⟩⟩ (doneA (.inr rfl) rfl ⟨(Nat.le_of_ble_eq_true rfl), ⟨trivial, trivial⟩⟩ (.refl _) hasNil))
  · have h := cond_neg c61 h
    refine AWc.seq ?_
    refine AWc.rg hmix rfl rfl ?_
    refine RegV.p0 rfl rfl rfl ?_
    refine RegV.p0 (v := (.d (.bool (decide (r47.1 < (0 : Int)))))) rfl rfl rfl ?_
    refine RegV.p0 rfl rfl rfl ?_
    refine RegV.nil0 ?_
    refine AWc.cond rfl (fun c80 => ?_) (fun c80 => ?_)
    · have h := cond_pos c80 h
      refine AWc.seq ?_
      refine AWc.rg hmix rfl rfl ?_
      refine RegV.p1 (v := (.d (.agg [(.int .i64 (0 : Int)), (.int .i64 (0 : Int)), (.int .i64 (0 : Int)), (.int .u64 (0 : Int)), (.str ([] : List UInt8)), (.sl (List.map TMessage.enc ([] : List TMessage)))]))) rfl rfl trivial rfl rfl ?_
      refine RegV.evN (own := false) (H' := [(0, (.cells [(.d (.int .i64 (0 : Int))), (.d (.int .i64 (0 : Int))), (.d (.int .i64 (0 : Int))), (.d (.int .u64 (0 : Int))), (.d (.str ([] : List UInt8))), (.d (.sl (List.map TMessage.enc ([] : List TMessage))))])), (1, (.cells [(.d (.sl (List.map byteD a0))), (.d (.int .i64 r47.2.1)), (.d (.int .i64 r47.2.2))])), (2, (.cells [(.ptr 1 0)])), (3, (.cells [(.d (.int .i64 r18.1)), (.d (.int .i64 r20.1)), (.d (.int .i64 r22.1)), (.d (.int .u64 r33.1)), (.d (.str r40.1)), .nils]))]) (c' := 4) rfl rfl (by exact ⟨rfl, Nat.le_of_ble_eq_true rfl, rfl⟩) rfl rfl rfl rfl ?_
      refine RegV.p0 rfl rfl rfl ?_
      refine RegV.nil0 ?_
      have hr := Option.some.inj h
      subst hr
      exact AWc.ret (canQ (N := 72) (k := 1) (l' := [(2, (.ptr 0 0)), (3, (.d (.int .i64 (4 : Int))))]) (H' := [(0, (.cells [(.d (.int .i64 (0 : Int))), (.d (.int .i64 (0 : Int))), (.d (.int .i64 (0 : Int))), (.d (.int .u64 (0 : Int))), (.d (.str ([] : List UInt8))), (.d (.sl (List.map TMessage.enc ([] : List TMessage))))]))]) rfl ⟨rfl, [], [], rfl, rfl, ⟨⟨_, rfl, (.refl _)⟩, rfl, ⟨⟨_, rfl, (.refl _)⟩, rfl, trivial⟩⟩, ⟨⟨_, rfl, (.refl _)⟩, rfl, rfl, trivial⟩⟩ (doneA (.inr rfl) rfl ⟨(Nat.le_of_ble_eq_true rfl), ⟨trivial, trivial⟩⟩ (.refl _) hasNil))
    · have h := cond_neg c80 h
      refine AWc.seq ?_
      refine AWc.rg hmix rfl rfl ?_
      refine RegV.p0 rfl rfl rfl ?_
      refine RegV.p0 (v := (.d (.bool (decide (r47.1 > (50 : Int)))))) rfl rfl rfl ?_
      refine RegV.p0 rfl rfl rfl ?_
      refine RegV.nil0 ?_
      refine AWc.cond rfl (fun c94 => ?_) (fun c94 => ?_)
      · have h := cond_pos c94 h
        refine AWc.seq ?_
        refine AWc.rg hmix rfl rfl ?_
        refine RegV.p1 (v := (.d (.agg [(.int .i64 (0 : Int)), (.int .i64 (0 : Int)), (.int .i64 (0 : Int)), (.int .u64 (0 : Int)), (.str ([] : List UInt8)), (.sl (List.map TMessage.enc ([] : List TMessage)))]))) rfl rfl trivial rfl rfl ?_
        refine RegV.evN (own := false) (H' := [(0, (.cells [(.d (.int .i64 (0 : Int))), (.d (.int .i64 (0 : Int))), (.d (.int .i64 (0 : Int))), (.d (.int .u64 (0 : Int))), (.d (.str ([] : List UInt8))), (.d (.sl (List.map TMessage.enc ([] : List TMessage))))])), (1, (.cells [(.d (.sl (List.map byteD a0))), (.d (.int .i64 r47.2.1)), (.d (.int .i64 r47.2.2))])), (2, (.cells [(.ptr 1 0)])), (3, (.cells [(.d (.int .i64 r18.1)), (.d (.int .i64 r20.1)), (.d (.int .i64 r22.1)), (.d (.int .u64 r33.1)), (.d (.str r40.1)), .nils]))]) (c' := 4) rfl rfl (by exact ⟨rfl, Nat.le_of_ble_eq_true rfl, rfl⟩) rfl rfl rfl rfl ?_
        refine RegV.p0 rfl rfl rfl ?_
        refine RegV.nil0 ?_
        have hr := Option.some.inj h
        subst hr
        exact AWc.ret (canQ (N := 72) (k := 1) (l' := [(2, (.ptr 0 0)), (3, (.d (.int .i64 (5 : Int))))]) (H' := [(0, (.cells [(.d (.int .i64 (0 : Int))), (.d (.int .i64 (0 : Int))), (.d (.int .i64 (0 : Int))), (.d (.int .u64 (0 : Int))), (.d (.str ([] : List UInt8))), (.d (.sl (List.map TMessage.enc ([] : List TMessage))))]))]) rfl ⟨rfl, [], [], rfl, rfl, ⟨⟨_, rfl, (.refl _)⟩, rfl, ⟨⟨_, rfl, (.refl _)⟩, rfl, trivial⟩⟩, ⟨⟨_, rfl, (.refl _)⟩, rfl, rfl, trivial⟩⟩ (doneA (.inr rfl) rfl ⟨(Nat.le_of_ble_eq_true rfl), ⟨trivial, trivial⟩⟩ (.refl _) hasNil))
      · have h := cond_neg c94 h
        refine AWc.skip ?_
        refine AWc.seqS (N := 72) 5 (fun (z : ((List TMessage) × Int × Int)) => [(2, (.ptr 0 0)), (4, (.ptr 1 0)), (5, (.ptr 2 0))]) (fun z => [(0, (.cells [(.d (.int .i64 (0 : Int))), (.d (.int .i64 (0 : Int))), (.d (.int .i64 (0 : Int))), (.d (.int .u64 (0 : Int))), (.d (.str ([] : List UInt8))), .nils])), (1, (.cells [(.ptr 3 0)])), (2, (.cells [(.d (.int .i64 r18.1)), (.d (.int .i64 r20.1)), (.d (.int .i64 r22.1)), (.d (.int .u64 r33.1)), (.d (.str r40.1)), (.ap 4 5 (List.map TMessage.enc z.1))])), (3, (.cells [(.d (.sl (List.map byteD a0))), (.d (.int .i64 z.2.1)), (.d (.int .i64 z.2.2))])), (4, (.tok ((List.map TMessage.enc z.1).length * 5)))]) (fun z => f63_j135 k a0 r18 r20 r22 r33 r40 z.1 z.2.1 z.2.2 = some r) rfl_le ?_ ?_
        · refine AWc.seq ?_
          refine AWc.rg hmix rfl rfl ?_
          refine RegV.p0 rfl rfl rfl ?_
          refine RegV.p0 rfl rfl rfl ?_
          refine RegV.nil0 ?_
          obtain ⟨o109, h109, h⟩ := bind_some h
          refine AWc.block ?_
          refine AWc.loopK (N := 72) 5 (fun (x : (Int × (List TMessage) × Int × Int)) => [(2, (.ptr 0 0)), (4, (.ptr 1 0)), (5, (.ptr 2 0)), (51, (.d (.int .i64 r47.1))), (52, (.d (.int .i64 x.1)))]) (fun x => [(0, (.cells [(.d (.int .i64 (0 : Int))), (.d (.int .i64 (0 : Int))), (.d (.int .i64 (0 : Int))), (.d (.int .u64 (0 : Int))), (.d (.str ([] : List UInt8))), .nils])), (1, (.cells [(.ptr 3 0)])), (2, (.cells [(.d (.int .i64 r18.1)), (.d (.int .i64 r20.1)), (.d (.int .i64 r22.1)), (.d (.int .u64 r33.1)), (.d (.str r40.1)), (.ap 4 5 (List.map TMessage.enc x.2.1))])), (3, (.cells [(.d (.sl (List.map byteD a0))), (.d (.int .i64 x.2.2.1)), (.d (.int .i64 x.2.2.2))])), (4, (.tok ((List.map TMessage.enc x.2.1).length * 5)))]) (fun k x => f63_l109 r47 a0 k x.1 x.2.1 x.2.2.1 x.2.2.2 = some o109) k ((0 : Int), ([] : List TMessage), r47.2.1, r47.2.2) rfl_le (fun x hx => by cases hx) h109 ⟨rfl, [.tok 0], [(1, 2), (2, 3), (3, 1), (4, 4)], rfl, rfl, ⟨⟨_, rfl, (.refl _)⟩, rfl, ⟨⟨_, rfl, (.refl _)⟩, rfl, ⟨⟨_, rfl, (.refl _)⟩, rfl, ⟨⟨_, rfl, (.refl _)⟩, rfl, ⟨⟨_, rfl, (.refl _)⟩, rfl, trivial⟩⟩⟩⟩⟩, ⟨⟨_, rfl, (.refl _)⟩, rfl, rfl, ⟨⟨_, rfl, (.refl _)⟩, rfl, rfl, ⟨⟨_, rfl, (.cells (.cons (.refl _) (.cons (.refl _) (.cons (.refl _) (.cons (.refl _) (.cons (.refl _) (.cons .nil .nil)))))))⟩, rfl, rfl, ⟨⟨_, rfl, (.refl _)⟩, rfl, rfl, ⟨⟨_, rfl, (.refl _)⟩, rfl, rfl, trivial⟩⟩⟩⟩⟩⟩ ?_
          clear h109
          intro k
          rintro ⟨y109_1, y109_2, y109_3, y109_4⟩ h109
          dsimp only at h109 ⊢
          rw [f63_l109] at h109
          refine AWc.seq ?_
          refine AWc.rg hmix rfl rfl ?_
          refine RegV.p0 (v := (.d (.bool (decide (y109_1 < r47.1))))) rfl rfl rfl ?_
          refine RegV.nil0 ?_
          refine AWc.seq ?_
          refine AWc.cond rfl (fun c116 => ?_) (fun c116 => ?_)
          · have h109 := cond_pos c116 h109
            refine AWc.skip ?_
            refine AWc.seq ?_
            refine AWc.block ?_
            refine AWc.rg hmix rfl rfl ?_
            refine RegV.p0 (v := (.ptr 2 5)) rfl rfl rfl ?_
            refine RegV.ld (v := (.ap 4 5 (List.map TMessage.enc y109_2))) (H' := [(2, (.cells [(.d (.int .i64 r18.1)), (.d (.int .i64 r20.1)), (.d (.int .i64 r22.1)), (.d (.int .u64 r33.1)), (.d (.str r40.1)), (.ap 4 5 (List.map TMessage.enc y109_2))])), (0, (.cells [(.d (.int .i64 (0 : Int))), (.d (.int .i64 (0 : Int))), (.d (.int .i64 (0 : Int))), (.d (.int .u64 (0 : Int))), (.d (.str ([] : List UInt8))), .nils])), (1, (.cells [(.ptr 3 0)])), (3, (.cells [(.d (.sl (List.map byteD a0))), (.d (.int .i64 y109_3)), (.d (.int .i64 y109_4))])), (4, (.tok ((List.map TMessage.enc y109_2).length * 5)))]) rfl rfl trivial rfl rfl rfl rfl rfl ?_
            refine RegV.p0 rfl rfl rfl ?_
            obtain ⟨r126, e126, h109⟩ := bind_some h109
            refine RegV.callS (q := false) (H' := [(1, (.cells [(.ptr 3 0)])), (3, (.cells [(.d (.sl (List.map byteD a0))), (.d (.int .i64 r126.2.2.2.2.2.1)), (.d (.int .i64 r126.2.2.2.2.2.2))])), (2, (.cells [(.d (.int .i64 r18.1)), (.d (.int .i64 r20.1)), (.d (.int .i64 r22.1)), (.d (.int .u64 r33.1)), (.d (.str r40.1)), (.ap 4 5 (List.map TMessage.enc y109_2))])), (0, (.cells [(.d (.int .i64 (0 : Int))), (.d (.int .i64 (0 : Int))), (.d (.int .i64 (0 : Int))), (.d (.int .u64 (0 : Int))), (.d (.str ([] : List UInt8))), .nils])), (4, (.tok ((List.map TMessage.enc y109_2).length * 5)))]) (c' := 5) (show ACalls P (N 98) [(.ptr 1 0)] [(1, (.cells [(.ptr 3 0)])), (3, (.cells [(.d (.sl (List.map byteD a0))), (.d (.int .i64 y109_3)), (.d (.int .i64 y109_4))]))] (.d (.agg [(.int .u64 r126.1), (.int .u64 r126.2.1), (.int .u64 r126.2.2.1), (.int .i64 r126.2.2.2.1), (.sl (List.map byteD r126.2.2.2.2.1))])) [(1, (.cells [(.ptr 3 0)])), (3, (.cells [(.d (.sl (List.map byteD a0))), (.d (.int .i64 r126.2.2.2.2.2.1)), (.d (.int .i64 r126.2.2.2.2.2.2))]))] from ACalls.use (F98 hmix hc.2.2.2.2.2.2.1 e126) [(0, 1), (1, 3)] 2 rfl) rfl rfl rfl rfl (.cons (.refl _) .nil) (.refl _) (fun h => by cases h) rfl (hasCons rfl (hasCons rfl hasNil)) rfl rfl rfl rfl ?_
            refine RegV.p1 (v := (.d (.sl (List.map TMessage.enc ([(TMessage.mk r126.1 r126.2.1 r126.2.2.1 r126.2.2.2.1 r126.2.2.2.2.1)] : List TMessage))))) rfl rfl (by exact ⟨rfl, Nat.le_of_ble_eq_true rfl, mapLen (e := TMessage.enc) (xs := ([(TMessage.mk r126.1 r126.2.1 r126.2.2.1 r126.2.2.2.1 r126.2.2.2.2.1)] : List TMessage)) (z := 5) (fun _ => rfl)⟩) rfl rfl ?_
            obtain ⟨b128, h109⟩ := gd_some h109
            refine RegV.appA (xs := y109_2) (ys := ([(TMessage.mk r126.1 r126.2.1 r126.2.2.1 r126.2.2.2.1 r126.2.2.2.2.1)] : List TMessage)) (e := TMessage.enc) (H1 := [(1, (.cells [(.ptr 3 0)])), (3, (.cells [(.d (.sl (List.map byteD a0))), (.d (.int .i64 r126.2.2.2.2.2.1)), (.d (.int .i64 r126.2.2.2.2.2.2))])), (2, (.cells [(.d (.int .i64 r18.1)), (.d (.int .i64 r20.1)), (.d (.int .i64 r22.1)), (.d (.int .u64 r33.1)), (.d (.str r40.1)), (.ap 4 5 (List.map TMessage.enc y109_2))])), (0, (.cells [(.d (.int .i64 (0 : Int))), (.d (.int .i64 (0 : Int))), (.d (.int .i64 (0 : Int))), (.d (.int .u64 (0 : Int))), (.d (.str ([] : List UInt8))), .nils]))]) rfl rfl rfl rfl (fun _ => rfl) rfl rfl b128 rfl rfl rfl ?_
            refine RegV.p0 (v := (.ptr 2 5)) rfl rfl rfl ?_
            refine RegV.evN (own := false) (H' := [(2, (.cells [(.d (.int .i64 r18.1)), (.d (.int .i64 r20.1)), (.d (.int .i64 r22.1)), (.d (.int .u64 r33.1)), (.d (.str r40.1)), (.ap 5 5 (List.map TMessage.enc (y109_2 ++ ([(TMessage.mk r126.1 r126.2.1 r126.2.2.1 r126.2.2.2.1 r126.2.2.2.2.1)] : List TMessage))))])), (5, (.tok ((List.map TMessage.enc (y109_2 ++ ([(TMessage.mk r126.1 r126.2.1 r126.2.2.1 r126.2.2.2.1 r126.2.2.2.2.1)] : List TMessage))).length * 5))), (1, (.cells [(.ptr 3 0)])), (3, (.cells [(.d (.sl (List.map byteD a0))), (.d (.int .i64 r126.2.2.2.2.2.1)), (.d (.int .i64 r126.2.2.2.2.2.2))])), (0, (.cells [(.d (.int .i64 (0 : Int))), (.d (.int .i64 (0 : Int))), (.d (.int .i64 (0 : Int))), (.d (.int .u64 (0 : Int))), (.d (.str ([] : List UInt8))), .nils]))]) (c' := 6) rfl rfl (by exact ⟨rfl, Nat.le_of_ble_eq_true rfl, rfl⟩) rfl rfl rfl rfl ?_
            refine RegV.nil1 (by kernel_rfl) ?_
            refine AWc.rg hmix rfl rfl ?_
            refine RegV.p0 (v := (.d (.int .i64 (IntKind.i64.wrap (y109_1 + (1 : Int)))))) rfl rfl rfl ?_
            refine RegV.p0 rfl rfl rfl ?_
            refine RegV.nil0 ?_
            exact ⟨((IntKind.i64.wrap (y109_1 + (1 : Int))), (y109_2 ++ ([(TMessage.mk r126.1 r126.2.1 r126.2.2.1 r126.2.2.2.1 r126.2.2.2.2.1)] : List TMessage)), r126.2.2.2.2.2.1, r126.2.2.2.2.2.2), h109, ⟨rfl, [], [(4, 5)], rfl, rfl, ⟨⟨_, rfl, (.refl _)⟩, rfl, ⟨⟨_, rfl, (.refl _)⟩, rfl, ⟨⟨_, rfl, (.refl _)⟩, rfl, ⟨⟨_, rfl, (.refl _)⟩, rfl, ⟨⟨_, rfl, (.refl _)⟩, rfl, trivial⟩⟩⟩⟩⟩, ⟨⟨_, rfl, (.refl _)⟩, rfl, rfl, ⟨⟨_, rfl, (.refl _)⟩, rfl, rfl, ⟨⟨_, rfl, (.refl _)⟩, rfl, rfl, ⟨⟨_, rfl, (.refl _)⟩, rfl, rfl, ⟨⟨_, rfl, (.refl _)⟩, rfl, rfl, trivial⟩⟩⟩⟩⟩⟩⟩
          · have h109 := cond_neg c116 h109
            cases h109
            dsimp only at h
            refine AWc.exit ?_
            refine inBlk_eq ?_
            exact ⟨(y109_2, y109_3, y109_4), h, ⟨rfl, [], [], rfl, rfl, ⟨⟨_, rfl, (.refl _)⟩, rfl, ⟨⟨_, rfl, (.refl _)⟩, rfl, ⟨⟨_, rfl, (.refl _)⟩, rfl, trivial⟩⟩⟩, ⟨⟨_, rfl, (.refl _)⟩, rfl, rfl, ⟨⟨_, rfl, (.refl _)⟩, rfl, rfl, ⟨⟨_, rfl, (.refl _)⟩, rfl, rfl, ⟨⟨_, rfl, (.refl _)⟩, rfl, rfl, ⟨⟨_, rfl, (.refl _)⟩, rfl, rfl, trivial⟩⟩⟩⟩⟩⟩⟩
        · rintro ⟨j135_1, j135_2, j135_3⟩ h
          dsimp only at h ⊢
          unfold f63_j135 at h
          refine AWc.seq ?_
          refine AWc.seq ?_
          refine AWc.rg hmix rfl rfl ?_
          refine RegV.p0 rfl rfl rfl ?_
          refine RegV.p0 rfl rfl rfl ?_
          refine RegV.p0 (v := (.ptr 1 0)) rfl rfl rfl ?_
          refine RegV.ld (v := (.ptr 3 0)) (H' := [(1, (.cells [(.ptr 3 0)])), (0, (.cells [(.d (.int .i64 (0 : Int))), (.d (.int .i64 (0 : Int))), (.d (.int .i64 (0 : Int))), (.d (.int .u64 (0 : Int))), (.d (.str ([] : List UInt8))), .nils])), (2, (.cells [(.d (.int .i64 r18.1)), (.d (.int .i64 r20.1)), (.d (.int .i64 r22.1)), (.d (.int .u64 r33.1)), (.d (.str r40.1)), (.ap 4 5 (List.map TMessage.enc j135_1))])), (3, (.cells [(.d (.sl (List.map byteD a0))), (.d (.int .i64 j135_2)), (.d (.int .i64 j135_3))])), (4, (.tok ((List.map TMessage.enc j135_1).length * 5)))]) rfl rfl trivial rfl rfl rfl rfl rfl ?_
          obtain ⟨r143, e143, h⟩ := bind_some h
          refine RegV.callS (q := true) (H' := [(3, (.cells [(.d (.sl (List.map byteD a0))), (.d (.int .i64 j135_2)), (.d (.int .i64 j135_3))])), (1, (.cells [(.ptr 3 0)])), (0, (.cells [(.d (.int .i64 (0 : Int))), (.d (.int .i64 (0 : Int))), (.d (.int .i64 (0 : Int))), (.d (.int .u64 (0 : Int))), (.d (.str ([] : List UInt8))), .nils])), (2, (.cells [(.d (.int .i64 r18.1)), (.d (.int .i64 r20.1)), (.d (.int .i64 r22.1)), (.d (.int .u64 r33.1)), (.d (.str r40.1)), (.ap 4 5 (List.map TMessage.enc j135_1))])), (4, (.tok ((List.map TMessage.enc j135_1).length * 5)))]) (c' := 5) (show ACalls P (N 43) [(.ptr 3 0)] [(3, (.cells [(.d (.sl (List.map byteD a0))), (.d (.int .i64 j135_2)), (.d (.int .i64 j135_3))]))] (.d (.int .i64 r143)) [(3, (.cells [(.d (.sl (List.map byteD a0))), (.d (.int .i64 j135_2)), (.d (.int .i64 j135_3))]))] from ACalls.use (F43 hmix hc.2.2.2.2.2.2.2 e143) [(0, 3)] 1 rfl) rfl rfl rfl rfl (.cons (.refl _) .nil) (.refl _) (fun _ => rfl) rfl (hasCons rfl hasNil) rfl rfl rfl rfl ?_
          refine RegV.p0 rfl rfl rfl ?_
          refine RegV.nil0 ?_
          refine AWc.seq ?_
          refine AWc.rg hmix rfl rfl ?_
          refine RegV.p0 rfl rfl rfl ?_
          refine RegV.p0 (v := (.d (.bool (decide (r143 ≠ (0 : Int)))))) rfl rfl rfl ?_
          refine RegV.nil0 ?_
          refine AWc.cond rfl (fun c150 => ?_) (fun c150 => ?_)
          · have h := cond_pos c150 h
            refine AWc.seq ?_
            refine AWc.rg hmix rfl rfl ?_
            refine RegV.p1 (v := (.d (.agg [(.int .i64 (0 : Int)), (.int .i64 (0 : Int)), (.int .i64 (0 : Int)), (.int .u64 (0 : Int)), (.str ([] : List UInt8)), (.sl (List.map TMessage.enc ([] : List TMessage)))]))) rfl rfl trivial rfl rfl ?_
            refine RegV.p0 rfl rfl rfl ?_
            refine RegV.evN (own := false) (H' := [(0, (.cells [(.d (.int .i64 (0 : Int))), (.d (.int .i64 (0 : Int))), (.d (.int .i64 (0 : Int))), (.d (.int .u64 (0 : Int))), (.d (.str ([] : List UInt8))), (.d (.sl (List.map TMessage.enc ([] : List TMessage))))])), (3, (.cells [(.d (.sl (List.map byteD a0))), (.d (.int .i64 j135_2)), (.d (.int .i64 j135_3))])), (1, (.cells [(.ptr 3 0)])), (2, (.cells [(.d (.int .i64 r18.1)), (.d (.int .i64 r20.1)), (.d (.int .i64 r22.1)), (.d (.int .u64 r33.1)), (.d (.str r40.1)), (.ap 4 5 (List.map TMessage.enc j135_1))])), (4, (.tok ((List.map TMessage.enc j135_1).length * 5)))]) (c' := 5) rfl rfl (by exact ⟨rfl, Nat.le_of_ble_eq_true rfl, rfl⟩) rfl rfl rfl rfl ?_
            refine RegV.p0 rfl rfl rfl ?_
            refine RegV.nil0 ?_
            have hr := Option.some.inj h
            subst hr
            exact AWc.ret (canQ (N := 72) (k := 1) (l' := [(2, (.ptr 0 0)), (3, (.d (.int .i64 r143)))]) (H' := [(0, (.cells [(.d (.int .i64 (0 : Int))), (.d (.int .i64 (0 : Int))), (.d (.int .i64 (0 : Int))), (.d (.int .u64 (0 : Int))), (.d (.str ([] : List UInt8))), (.d (.sl (List.map TMessage.enc ([] : List TMessage))))]))]) rfl ⟨rfl, [], [], rfl, rfl, ⟨⟨_, rfl, (.refl _)⟩, rfl, ⟨⟨_, rfl, (.refl _)⟩, rfl, trivial⟩⟩, ⟨⟨_, rfl, (.refl _)⟩, rfl, rfl, trivial⟩⟩ (doneA (.inr rfl) rfl ⟨(Nat.le_of_ble_eq_true rfl), ⟨trivial, trivial⟩⟩ (.refl _) hasNil))
          · have h := cond_neg c150 h
            refine AWc.skip ?_
            refine AWc.seq ?_
            refine AWc.rg hmix rfl rfl ?_
            refine RegV.ld (v := (.d (.agg [(.int .i64 r18.1), (.int .i64 r20.1), (.int .i64 r22.1), (.int .u64 r33.1), (.str r40.1), (.sl (List.map TMessage.enc j135_1))]))) (H' := [(2, (.cells [(.d (.int .i64 r18.1)), (.d (.int .i64 r20.1)), (.d (.int .i64 r22.1)), (.d (.int .u64 r33.1)), (.d (.str r40.1)), (.ap 4 5 (List.map TMessage.enc j135_1))])), (3, (.cells [(.d (.sl (List.map byteD a0))), (.d (.int .i64 j135_2)), (.d (.int .i64 j135_3))])), (1, (.cells [(.ptr 3 0)])), (0, (.cells [(.d (.int .i64 (0 : Int))), (.d (.int .i64 (0 : Int))), (.d (.int .i64 (0 : Int))), (.d (.int .u64 (0 : Int))), (.d (.str ([] : List UInt8))), .nils])), (4, (.tok ((List.map TMessage.enc j135_1).length * 5)))]) rfl rfl (Nat.le_of_ble_eq_true rfl) rfl rfl rfl rfl rfl ?_
            refine RegV.evN (own := false) (H' := [(0, (.cells [(.d (.int .i64 r18.1)), (.d (.int .i64 r20.1)), (.d (.int .i64 r22.1)), (.d (.int .u64 r33.1)), (.d (.str r40.1)), (.d (.sl (List.map TMessage.enc j135_1)))])), (2, (.cells [(.d (.int .i64 r18.1)), (.d (.int .i64 r20.1)), (.d (.int .i64 r22.1)), (.d (.int .u64 r33.1)), (.d (.str r40.1)), (.ap 4 5 (List.map TMessage.enc j135_1))])), (3, (.cells [(.d (.sl (List.map byteD a0))), (.d (.int .i64 j135_2)), (.d (.int .i64 j135_3))])), (1, (.cells [(.ptr 3 0)])), (4, (.tok ((List.map TMessage.enc j135_1).length * 5)))]) (c' := 5) rfl rfl (by exact ⟨rfl, Nat.le_of_ble_eq_true rfl, rfl⟩) rfl rfl rfl rfl ?_
            refine RegV.p0 rfl rfl rfl ?_
            refine RegV.nil0 ?_
            have hr := Option.some.inj h
            subst hr
            exact AWc.ret (canQ (N := 72) (k := 1) (l' := [(2, (.ptr 0 0)), (3, (.d (.int .i64 (0 : Int))))]) (H' := [(0, (.cells [(.d (.int .i64 r18.1)), (.d (.int .i64 r20.1)), (.d (.int .i64 r22.1)), (.d (.int .u64 r33.1)), (.d (.str r40.1)), (.d (.sl (List.map TMessage.enc j135_1)))]))]) rfl ⟨rfl, [], [], rfl, rfl, ⟨⟨_, rfl, (.refl _)⟩, rfl, ⟨⟨_, rfl, (.refl _)⟩, rfl, trivial⟩⟩, ⟨⟨_, rfl, (.refl _)⟩, rfl, rfl, trivial⟩⟩ (doneA (.inr rfl) rfl ⟨(Nat.le_of_ble_eq_true rfl), ⟨trivial, trivial⟩⟩ (.refl _) hasNil))
/-- courant/courantref01.New -/
def C44 (N : Nat → Nat) : AFunc := { n := 7, params := 1, res := [.tmp 2], body :=
 (.seq (.region false [⟨(some 2), .mv (.k (.d .nilp)), none, []⟩])
  (.seq (.region false [⟨(some 3), .mv (.t 0), none, []⟩,
    ⟨(some 4), .app (.k .nils) (.t 3) 1 1 [(.int .u8 0)], none, [0]⟩,
    ⟨(some 5), .build [(.sl []), (.int .i64 0), (.int .i64 0)] [(0, 1, (.t 4))], none, [1]⟩,
    ⟨(some 6), .box (.t 5), none, [2]⟩,
    ⟨(some 2), .mv (.t 6), none, [3, 1, 0, 2]⟩])
   .ret)) }
def HC44 (P : Program) (N : Nat → Nat) : Prop := HasF P (N 44) (C44 N)
def f44 (k : Nat) (a0 : (List UInt8)) : Option Unit := gd (a0.length * 1 ≤ 281474976710656) (some ())
theorem F44 {P : Program} {N : Nat → Nat} (hmix : P.follows .mixedOrders = true) (hc : HC44 P N) {k : Nat} {a0 : (List UInt8)} {r : Unit} (h : f44 k a0 = some r) :
    ACalls P (N 44) [(.d (.sl (List.map byteD a0)))] [] (.ptr 0 0) [(0, (.cells [(.d (.sl (List.map byteD a0))), (.d (.int .i64 (0 : Int))), (.d (.int .i64 (0 : Int)))]))] := by
  refine acalls_canon (F := C44 N) hc 0 1 rfl ?_
  unfold f44 at h
  dsimp only [C44, startL]
  refine AWc.seq ?_
  refine AWc.rg hmix rfl rfl ?_
  refine RegV.p0 rfl rfl rfl ?_
  refine RegV.nil0 ?_
  refine AWc.seq ?_
  refine AWc.rg hmix rfl rfl ?_
  refine RegV.p0 rfl rfl rfl ?_
  obtain ⟨b9, h⟩ := gd_some h
  refine RegV.appN (ys := a0) (e := byteD) rfl rfl rfl (fun _ => rfl) rfl rfl b9 rfl rfl ?_
  refine RegV.p1 (v := (.d (.agg [(.sl (List.map byteD a0)), (.int .i64 (0 : Int)), (.int .i64 (0 : Int))]))) rfl rfl (by exact ⟨⟨rfl, Nat.le_of_ble_eq_true rfl⟩, trivial⟩) rfl rfl ?_
  refine RegV.evS (own := false) (v := (.ptr 1 0)) (H' := [(1, (.cells [(.d (.sl (List.map byteD a0))), (.d (.int .i64 (0 : Int))), (.d (.int .i64 (0 : Int)))])), (0, (.tok ((List.map byteD a0).length * 1)))]) (c' := 2) rfl rfl trivial rfl rfl rfl rfl rfl rfl ?_
  refine RegV.p0 rfl rfl rfl ?_
  refine RegV.nil0 ?_
  have hr := Option.some.inj h
  subst hr
  exact AWc.ret (canQ (N := 7) (k := 1) (l' := [(2, (.ptr 0 0))]) (H' := [(0, (.cells [(.d (.sl (List.map byteD a0))), (.d (.int .i64 (0 : Int))), (.d (.int .i64 (0 : Int)))]))]) rfl ⟨rfl, [], [(0, 1)], rfl, rfl, ⟨⟨_, rfl, (.refl _)⟩, rfl, trivial⟩, ⟨⟨_, rfl, (.refl _)⟩, rfl, rfl, trivial⟩⟩ (doneA (.inr rfl) rfl ⟨trivial, trivial⟩ (.refl _) (hasCons rfl hasNil)))
/-- (*courant/courantref01.Reader).number -/
def C89 (N : Nat → Nat) : AFunc := { n := 60, params := 1, res := [.tmp 2, .tmp 3, .tmp 4], body :=
 (.seq (.region false [⟨(some 2), .mv (.k (.d (.int .u64 0))), none, []⟩,
   ⟨(some 3), .mv (.k (.d (.int .i64 0))), none, [0]⟩,
   ⟨(some 4), .mv (.k (.d (.int .i64 0))), none, [1]⟩])
  (.seq (.region false [⟨(some 5), .mv (.k (.d (.int .u64 0))), none, []⟩])
   (.seq (.region false [⟨(some 6), .mv (.k (.d (.int .i64 0))), none, []⟩])
    (.block 0 (.loop (.seq (.block 1 (.seq (.seq (.region true [⟨(some 10), .mv (.t 0), none, []⟩,
           ⟨(some 11), .nilchk (.t 10), none, [0]⟩,
           ⟨(some 12), .faddr (.t 11) 1, none, [1]⟩,
           ⟨(some 13), .load (.t 12) 1 false, none, [2]⟩,
           ⟨(some 14), .mv (.t 6), none, []⟩,
           ⟨(some 15), .bin .add (.t 13) (.t 14), none, [3, 4]⟩,
           ⟨(some 16), .mv (.t 0), none, []⟩,
           ⟨(some 17), .nilchk (.t 16), none, [6]⟩,
           ⟨(some 18), .faddr (.t 17) 0, none, [7]⟩,
           ⟨(some 19), .load (.t 18) 1 false, none, [8]⟩,
           ⟨(some 20), .len (.t 19), none, [9]⟩,
           ⟨(some 21), .bin .geq (.t 15) (.t 20), none, [5, 10]⟩])
          (.cond (.t 21) (.seq (.region false [⟨(some 2), .mv (.k (.d (.int .u64 0))), none, []⟩,
             ⟨(some 3), .mv (.k (.d (.int .i64 0))), none, [0]⟩,
             ⟨(some 4), .mv (.k (.d (.int .i64 3))), none, [1, 0]⟩])
            .ret)
           (.skip)))
         (.seq (.region true [⟨(some 22), .mv (.t 0), none, []⟩,
           ⟨(some 23), .nilchk (.t 22), none, [0]⟩,
           ⟨(some 24), .faddr (.t 23) 0, none, [1]⟩,
           ⟨(some 25), .load (.t 24) 1 false, none, [2]⟩,
           ⟨(some 26), .mv (.t 0), none, []⟩,
           ⟨(some 27), .nilchk (.t 26), none, [4]⟩,
           ⟨(some 28), .faddr (.t 27) 1, none, [5]⟩,
           ⟨(some 29), .load (.t 28) 1 false, none, [6]⟩,
           ⟨(some 30), .mv (.t 6), none, []⟩,
           ⟨(some 31), .bin .add (.t 29) (.t 30), none, [7, 8]⟩,
           ⟨(some 32), .iaddr (.t 25) (.t 31) 1, none, [3, 9]⟩,
           ⟨(some 33), .load (.t 32) 1 false, none, [10]⟩,
           ⟨(some 7), .mv (.t 33), none, [11, 0, 1, 2, 3, 4, 5, 6, 7, 8, 9, 10]⟩])
          (.seq (.seq (.region false [⟨(some 34), .mv (.t 6), none, []⟩,
             ⟨(some 35), .bin .eql (.t 34) (.k (.d (.int .i64 9))), none, [0]⟩,
             ⟨(some 36), .mv (.t 35), none, [1]⟩,
             ⟨(some 37), .mv (.t 7), (some (36, true)), [2]⟩,
             ⟨(some 38), .bin .gtr (.t 37) (.k (.d (.int .u8 1))), (some (36, true)), [3, 2]⟩,
             ⟨(some 39), .pick (.t 36) (.t 38) (.k (.d (.bool false))), none, [2, 4]⟩])
            (.cond (.t 39) (.seq (.region false [⟨(some 2), .mv (.k (.d (.int .u64 0))), none, []⟩,
               ⟨(some 3), .mv (.k (.d (.int .i64 0))), none, [0]⟩,
               ⟨(some 4), .mv (.k (.d (.int .i64 4))), none, [1, 0]⟩])
              .ret)
             (.skip)))
           (.seq (.region false [⟨(some 40), .mv (.t 5), none, []⟩,
             ⟨(some 41), .mv (.t 7), none, []⟩,
             ⟨(some 42), .bin .and (.t 41) (.k (.d (.int .u8 127))), none, [1]⟩,
             ⟨(some 43), .cvi .u64 (.t 42), none, [2]⟩,
             ⟨(some 44), .mv (.t 6), none, []⟩,
             ⟨(some 45), .bin .mul (.k (.d (.int .i64 7))) (.t 44), none, [4]⟩,
             ⟨(some 46), .cvi .u64 (.t 45), none, [5]⟩,
             ⟨(some 47), .bin .shl (.t 43) (.t 46), none, [3, 6]⟩,
             ⟨(some 48), .bin .or (.t 40) (.t 47), none, [0, 7]⟩,
             ⟨(some 5), .mv (.t 48), none, [8, 0, 1, 2, 3, 4, 5, 6, 7]⟩])
            (.seq (.region false [⟨(some 49), .mv (.t 7), none, []⟩,
              ⟨(some 50), .bin .lss (.t 49) (.k (.d (.int .u8 128))), none, [0]⟩])
             (.cond (.t 50) (.seq (.seq (.region false [⟨(some 51), .mv (.t 7), none, []⟩,
                 ⟨(some 52), .bin .eql (.t 51) (.k (.d (.int .u8 0))), none, [0]⟩,
                 ⟨(some 53), .mv (.t 52), none, [1]⟩,
                 ⟨(some 54), .mv (.t 6), (some (53, true)), [2]⟩,
                 ⟨(some 55), .bin .gtr (.t 54) (.k (.d (.int .i64 0))), (some (53, true)), [3, 2]⟩,
                 ⟨(some 56), .pick (.t 53) (.t 55) (.k (.d (.bool false))), none, [2, 4]⟩])
                (.cond (.t 56) (.seq (.region false [⟨(some 2), .mv (.k (.d (.int .u64 0))), none, []⟩,
                   ⟨(some 3), .mv (.k (.d (.int .i64 0))), none, [0]⟩,
                   ⟨(some 4), .mv (.k (.d (.int .i64 4))), none, [1, 0]⟩])
                  .ret)
                 (.skip)))
               (.seq (.region false [⟨(some 57), .mv (.t 5), none, []⟩,
                 ⟨(some 58), .mv (.t 6), none, []⟩,
                 ⟨(some 59), .bin .add (.t 58) (.k (.d (.int .i64 1))), none, [1]⟩,
                 ⟨(some 2), .mv (.t 57), none, [0]⟩,
                 ⟨(some 3), .mv (.t 59), none, [2, 3, 0, 1]⟩,
                 ⟨(some 4), .mv (.k (.d (.int .i64 0))), none, [4, 0, 1, 2, 3]⟩])
                .ret))
              (.skip))))))))
       (.region false [⟨(some 8), .mv (.t 6), none, []⟩,
        ⟨(some 9), .bin .add (.t 8) (.k (.d (.int .i64 1))), none, [0]⟩,
        ⟨(some 6), .mv (.t 9), none, [1, 0]⟩]))))))) }
def HC89 (P : Program) (N : Nat → Nat) : Prop := HasF P (N 89) (C89 N)
def f89_j108 (k : Nat) (y15_1 : Int) (a0 : (List UInt8)) (a1 : Int) (y15_2 : Int) (j108_1 : Bool) : Option (LR2 Unit Unit (Int × Int × Int)) := cond j108_1 (some (.r ((0 : Int), (0 : Int), (4 : Int)))) (some (.r ((bitsA .or .u64 y15_1 (IntKind.u64.wrap ((IntKind.u64.wrap (bitsA .and .u8 (((rd a0 (IntKind.i64.wrap (a1 + y15_2))).toNat : Nat) : Int) (127 : Int))) * 2 ^ (min ((IntKind.u64.wrap (IntKind.i64.wrap ((7 : Int) * y15_2)))).toNat IntKind.u64.bits)))), (IntKind.i64.wrap (y15_2 + (1 : Int))), (0 : Int))))
def f89_j70 (L : Int → Int → Option (LR2 Unit Unit (Int × Int × Int))) (k : Nat) (y15_2 : Int) (a0 : (List UInt8)) (a1 : Int) (y15_1 : Int) (j70_1 : Bool) : Option (LR2 Unit Unit (Int × Int × Int)) := cond j70_1 (some (.r ((0 : Int), (0 : Int), (4 : Int)))) (gd (0 ≤ (IntKind.u64.wrap (IntKind.i64.wrap ((7 : Int) * y15_2)))) (cond (decide ((((rd a0 (IntKind.i64.wrap (a1 + y15_2))).toNat : Nat) : Int) < (128 : Int))) (cond (decide ((((rd a0 (IntKind.i64.wrap (a1 + y15_2))).toNat : Nat) : Int) = (0 : Int))) (f89_j108 k y15_1 a0 a1 y15_2 (decide (y15_2 > (0 : Int)))) (f89_j108 k y15_1 a0 a1 y15_2 false)) (L (bitsA .or .u64 y15_1 (IntKind.u64.wrap ((IntKind.u64.wrap (bitsA .and .u8 (((rd a0 (IntKind.i64.wrap (a1 + y15_2))).toNat : Nat) : Int) (127 : Int))) * 2 ^ (min ((IntKind.u64.wrap (IntKind.i64.wrap ((7 : Int) * y15_2)))).toNat IntKind.u64.bits)))) (IntKind.i64.wrap (y15_2 + (1 : Int))))))
def f89_l15 (a1 : Int) (a0 : (List UInt8)) : Nat → Int → Int → Option (LR2 Unit Unit (Int × Int × Int))
  | 0, _, _ => none
  | k + 1, y15_1, y15_2 => cond (decide ((IntKind.i64.wrap (a1 + y15_2)) ≥ ((a0.length : Nat) : Int))) (some (.r ((0 : Int), (0 : Int), (3 : Int)))) (gd (0 ≤ (IntKind.i64.wrap (a1 + y15_2)) ∧ (IntKind.i64.wrap (a1 + y15_2)) < ((a0.length : Nat) : Int)) (cond (decide (y15_2 = (9 : Int))) (f89_j70 (f89_l15 a1 a0 k) k y15_2 a0 a1 y15_1 (decide ((((rd a0 (IntKind.i64.wrap (a1 + y15_2))).toNat : Nat) : Int) > (1 : Int)))) (f89_j70 (f89_l15 a1 a0 k) k y15_2 a0 a1 y15_1 false)))
def f89 (k : Nat) (a0 : (List UInt8)) (a1 : Int) (a2 : Int) : Option (Int × Int × Int) := (f89_l15 a1 a0 k (0 : Int) (0 : Int)).bind fun o15 => match o15 with | .r x => some x | _ => none
theorem F89 {P : Program} {N : Nat → Nat} (hmix : P.follows .mixedOrders = true) (hc : HC89 P N) {k : Nat} {a0 : (List UInt8)} {a1 : Int} {a2 : Int} {r : (Int × Int × Int)} (h : f89 k a0 a1 a2 = some r) :
    ACalls P (N 89) [(.ptr 0 0)] [(0, (.cells [(.d (.sl (List.map byteD a0))), (.d (.int .i64 a1)), (.d (.int .i64 a2))]))] (.tup [(.d (.int .u64 r.1)), (.d (.int .i64 r.2.1)), (.d (.int .i64 r.2.2))]) [(0, (.cells [(.d (.sl (List.map byteD a0))), (.d (.int .i64 a1)), (.d (.int .i64 a2))]))] := by
  refine acalls_canon (F := C89 N) hc 1 1 rfl ?_
  unfold f89 at h
  dsimp only [C89, startL]
  refine AWc.seq ?_
  refine AWc.rg hmix rfl rfl ?_
  refine RegV.p0 rfl rfl rfl ?_
  refine RegV.p0 rfl rfl rfl ?_
  refine RegV.p0 rfl rfl rfl ?_
  refine RegV.nil0 ?_
  refine AWc.seq ?_
  refine AWc.rg hmix rfl rfl ?_
  refine RegV.p0 rfl rfl rfl ?_
  refine RegV.nil0 ?_
  refine AWc.seq ?_
  refine AWc.rg hmix rfl rfl ?_
  refine RegV.p0 rfl rfl rfl ?_
  refine RegV.nil0 ?_
  obtain ⟨o15, h15, h⟩ := bind_some h
  refine AWc.block ?_
  refine AWc.loopK (N := 60) 1 (fun (x : (Int × Int)) => [(0, (.ptr 0 0)), (5, (.d (.int .u64 x.1))), (6, (.d (.int .i64 x.2)))]) (fun x => [(0, (.cells [(.d (.sl (List.map byteD a0))), (.d (.int .i64 a1)), (.d (.int .i64 a2))]))]) (fun k x => f89_l15 a1 a0 k x.1 x.2 = some o15) k ((0 : Int), (0 : Int)) rfl_le (fun x hx => by cases hx) h15 ⟨rfl, [], [], rfl, rfl, ⟨⟨_, rfl, (.refl _)⟩, rfl, ⟨⟨_, rfl, (.refl _)⟩, rfl, ⟨⟨_, rfl, (.refl _)⟩, rfl, trivial⟩⟩⟩, ⟨⟨_, rfl, (.refl _)⟩, rfl, rfl, trivial⟩⟩ ?_
  clear h15
  intro k
  rintro ⟨y15_1, y15_2⟩ h15
  dsimp only at h15 ⊢
  rw [f89_l15] at h15
  refine AWc.seq ?_
  refine AWc.block ?_
  refine AWc.seq ?_
  refine AWc.seq ?_
  refine AWc.rg hmix rfl rfl ?_
  refine RegV.p0 rfl rfl rfl ?_
  refine RegV.p0 rfl rfl rfl ?_
  refine RegV.p0 (v := (.ptr 0 1)) rfl rfl rfl ?_
  refine RegV.ld (v := (.d (.int .i64 a1))) (H' := [(0, (.cells [(.d (.sl (List.map byteD a0))), (.d (.int .i64 a1)), (.d (.int .i64 a2))]))]) rfl rfl trivial rfl rfl rfl rfl rfl ?_
  refine RegV.p0 rfl rfl rfl ?_
  refine RegV.p0 (v := (.d (.int .i64 (IntKind.i64.wrap (a1 + y15_2))))) rfl rfl rfl ?_
  refine RegV.p0 rfl rfl rfl ?_
  refine RegV.p0 rfl rfl rfl ?_
  refine RegV.p0 (v := (.ptr 0 0)) rfl rfl rfl ?_
  refine RegV.ld (v := (.d (.sl (List.map byteD a0)))) (H' := [(0, (.cells [(.d (.sl (List.map byteD a0))), (.d (.int .i64 a1)), (.d (.int .i64 a2))]))]) rfl rfl trivial rfl rfl rfl rfl rfl ?_
  refine RegV.len (xs := a0) (e := byteD) rfl rfl rfl rfl ?_
  refine RegV.p0 (v := (.d (.bool (decide ((IntKind.i64.wrap (a1 + y15_2)) ≥ ((a0.length : Nat) : Int)))))) rfl rfl rfl ?_
  refine RegV.nil1 (by kernel_rfl) ?_
  refine AWc.cond rfl (fun c35 => ?_) (fun c35 => ?_)
  · have h15 := cond_pos c35 h15
    refine AWc.seq ?_
    refine AWc.rg hmix rfl rfl ?_
    refine RegV.p0 rfl rfl rfl ?_
    refine RegV.p0 rfl rfl rfl ?_
    refine RegV.p0 rfl rfl rfl ?_
    refine RegV.nil0 ?_
    cases h15
    dsimp only at h
    have hr := Option.some.inj h
    subst hr
    exact AWc.ret (canQ (N := 60) (k := 1) (l' := [(2, (.d (.int .u64 (0 : Int)))), (3, (.d (.int .i64 (0 : Int)))), (4, (.d (.int .i64 (3 : Int))))]) (H' := [(0, (.cells [(.d (.sl (List.map byteD a0))), (.d (.int .i64 a1)), (.d (.int .i64 a2))]))]) rfl ⟨rfl, [], [], rfl, rfl, ⟨⟨_, rfl, (.refl _)⟩, rfl, ⟨⟨_, rfl, (.refl _)⟩, rfl, ⟨⟨_, rfl, (.refl _)⟩, rfl, trivial⟩⟩⟩, ⟨⟨_, rfl, (.refl _)⟩, rfl, rfl, trivial⟩⟩ (doneA (.inr rfl) rfl ⟨trivial, ⟨trivial, ⟨trivial, trivial⟩⟩⟩ (.refl _) (hasCons rfl hasNil)))
  · have h15 := cond_neg c35 h15
    refine AWc.skip ?_
    refine AWc.seq ?_
    refine AWc.rg hmix rfl rfl ?_
    refine RegV.p0 rfl rfl rfl ?_
    refine RegV.p0 rfl rfl rfl ?_
    refine RegV.p0 (v := (.ptr 0 0)) rfl rfl rfl ?_
    refine RegV.ld (v := (.d (.sl (List.map byteD a0)))) (H' := [(0, (.cells [(.d (.sl (List.map byteD a0))), (.d (.int .i64 a1)), (.d (.int .i64 a2))]))]) rfl rfl trivial rfl rfl rfl rfl rfl ?_
    refine RegV.p0 rfl rfl rfl ?_
    refine RegV.p0 rfl rfl rfl ?_
    refine RegV.p0 (v := (.ptr 0 1)) rfl rfl rfl ?_
    refine RegV.ld (v := (.d (.int .i64 a1))) (H' := [(0, (.cells [(.d (.sl (List.map byteD a0))), (.d (.int .i64 a1)), (.d (.int .i64 a2))]))]) rfl rfl trivial rfl rfl rfl rfl rfl ?_
    refine RegV.p0 rfl rfl rfl ?_
    refine RegV.p0 (v := (.d (.int .i64 (IntKind.i64.wrap (a1 + y15_2))))) rfl rfl rfl ?_
    obtain ⟨b57, h15⟩ := gd_some h15
    refine RegV.iad (xs := a0) (e := byteD) rfl rfl rfl rfl (fun _ => rfl) b57 rfl ?_
    refine RegV.p0 (v := (.d (.int .u8 (((rd a0 (IntKind.i64.wrap (a1 + y15_2))).toNat : Nat) : Int)))) rfl rfl rfl ?_
    refine RegV.p0 rfl rfl rfl ?_
    refine RegV.nil1 (by kernel_rfl) ?_
    refine AWc.seq ?_
    refine AWc.seqS (N := 60) 1 (fun (z : Bool) => [(0, (.ptr 0 0)), (5, (.d (.int .u64 y15_1))), (6, (.d (.int .i64 y15_2))), (7, (.d (.int .u8 (((rd a0 (IntKind.i64.wrap (a1 + y15_2))).toNat : Nat) : Int)))), (37, .any), (38, .any), (39, (.d (.bool z)))]) (fun z => [(0, (.cells [(.d (.sl (List.map byteD a0))), (.d (.int .i64 a1)), (.d (.int .i64 a2))]))]) (fun z => f89_j70 (f89_l15 a1 a0 k) k y15_2 a0 a1 y15_1 z = some o15) rfl_le ?_ ?_
    · refine AWc.rg hmix rfl rfl ?_
      refine RegV.p0 rfl rfl rfl ?_
      refine RegV.p0 (v := (.d (.bool (decide (y15_2 = (9 : Int)))))) rfl rfl rfl ?_
      refine RegV.p0 rfl rfl rfl ?_
      refine RegV.split (fun c66 => ?_) (fun c66 => ?_)
      · have h15 := cond_pos c66 h15
        refine RegV.p0 rfl rfl rfl ?_
        refine RegV.p0 (v := (.d (.bool (decide ((((rd a0 (IntKind.i64.wrap (a1 + y15_2))).toNat : Nat) : Int) > (1 : Int)))))) rfl rfl rfl ?_
        refine RegV.p0 rfl rfl rfl ?_
        refine RegV.nil0 ?_
        exact ⟨(decide ((((rd a0 (IntKind.i64.wrap (a1 + y15_2))).toNat : Nat) : Int) > (1 : Int))), h15, ⟨rfl, [], [], rfl, rfl, ⟨⟨_, rfl, (.refl _)⟩, rfl, ⟨⟨_, rfl, (.refl _)⟩, rfl, ⟨⟨_, rfl, (.refl _)⟩, rfl, ⟨⟨_, rfl, (.refl _)⟩, rfl, ⟨⟨_, rfl, (.any _)⟩, rfl, ⟨⟨_, rfl, (.any _)⟩, rfl, ⟨⟨_, rfl, (.refl _)⟩, rfl, trivial⟩⟩⟩⟩⟩⟩⟩, ⟨⟨_, rfl, (.refl _)⟩, rfl, rfl, trivial⟩⟩⟩
      · have h15 := cond_neg c66 h15
        refine RegV.noS rfl rfl ?_
        refine RegV.noS rfl rfl ?_
        refine RegV.p0 rfl rfl rfl ?_
        refine RegV.nil0 ?_
        exact ⟨false, h15, ⟨rfl, [], [], rfl, rfl, ⟨⟨_, rfl, (.refl _)⟩, rfl, ⟨⟨_, rfl, (.refl _)⟩, rfl, ⟨⟨_, rfl, (.refl _)⟩, rfl, ⟨⟨_, rfl, (.refl _)⟩, rfl, ⟨⟨_, rfl, (.any _)⟩, rfl, ⟨⟨_, rfl, (.any _)⟩, rfl, ⟨⟨_, rfl, (.refl _)⟩, rfl, trivial⟩⟩⟩⟩⟩⟩⟩, ⟨⟨_, rfl, (.refl _)⟩, rfl, rfl, trivial⟩⟩⟩
    · intro j70_1 h15
      unfold f89_j70 at h15
      refine AWc.cond rfl (fun c70 => ?_) (fun c70 => ?_)
      · have h15 := cond_pos c70 h15
        refine AWc.seq ?_
        refine AWc.rg hmix rfl rfl ?_
        refine RegV.p0 rfl rfl rfl ?_
        refine RegV.p0 rfl rfl rfl ?_
        refine RegV.p0 rfl rfl rfl ?_
        refine RegV.nil0 ?_
        cases h15
        dsimp only at h
        have hr := Option.some.inj h
        subst hr
        exact AWc.ret (canQ (N := 60) (k := 1) (l' := [(2, (.d (.int .u64 (0 : Int)))), (3, (.d (.int .i64 (0 : Int)))), (4, (.d (.int .i64 (4 : Int))))]) (H' := [(0, (.cells [(.d (.sl (List.map byteD a0))), (.d (.int .i64 a1)), (.d (.int .i64 a2))]))]) rfl ⟨rfl, [], [], rfl, rfl, ⟨⟨_, rfl, (.refl _)⟩, rfl, ⟨⟨_, rfl, (.refl _)⟩, rfl, ⟨⟨_, rfl, (.refl _)⟩, rfl, trivial⟩⟩⟩, ⟨⟨_, rfl, (.refl _)⟩, rfl, rfl, trivial⟩⟩ (doneA (.inr rfl) rfl ⟨trivial, ⟨trivial, ⟨trivial, trivial⟩⟩⟩ (.refl _) (hasCons rfl hasNil)))
      · have h15 := cond_neg c70 h15
        refine AWc.skip ?_
        refine AWc.seq ?_
        refine AWc.rg hmix rfl rfl ?_
        refine RegV.p0 rfl rfl rfl ?_
        refine RegV.p0 rfl rfl rfl ?_
        refine RegV.p0 (v := (.d (.int .u8 (bitsA .and .u8 (((rd a0 (IntKind.i64.wrap (a1 + y15_2))).toNat : Nat) : Int) (127 : Int))))) rfl rfl rfl ?_
        refine RegV.p0 (v := (.d (.int .u64 (IntKind.u64.wrap (bitsA .and .u8 (((rd a0 (IntKind.i64.wrap (a1 + y15_2))).toNat : Nat) : Int) (127 : Int)))))) rfl rfl rfl ?_
        refine RegV.p0 rfl rfl rfl ?_
        refine RegV.p0 (v := (.d (.int .i64 (IntKind.i64.wrap ((7 : Int) * y15_2))))) rfl rfl rfl ?_
        refine RegV.p0 (v := (.d (.int .u64 (IntKind.u64.wrap (IntKind.i64.wrap ((7 : Int) * y15_2)))))) rfl rfl rfl ?_
        obtain ⟨b89, h15⟩ := gd_some h15
        refine RegV.p1 (v := (.d (.int .u64 (IntKind.u64.wrap ((IntKind.u64.wrap (bitsA .and .u8 (((rd a0 (IntKind.i64.wrap (a1 + y15_2))).toNat : Nat) : Int) (127 : Int))) * 2 ^ (min ((IntKind.u64.wrap (IntKind.i64.wrap ((7 : Int) * y15_2)))).toNat IntKind.u64.bits)))))) rfl rfl b89 rfl rfl ?_
        refine RegV.p0 (v := (.d (.int .u64 (bitsA .or .u64 y15_1 (IntKind.u64.wrap ((IntKind.u64.wrap (bitsA .and .u8 (((rd a0 (IntKind.i64.wrap (a1 + y15_2))).toNat : Nat) : Int) (127 : Int))) * 2 ^ (min ((IntKind.u64.wrap (IntKind.i64.wrap ((7 : Int) * y15_2)))).toNat IntKind.u64.bits))))))) rfl rfl rfl ?_
        refine RegV.p0 rfl rfl rfl ?_
        refine RegV.nil0 ?_
        refine AWc.seq ?_
        refine AWc.rg hmix rfl rfl ?_
        refine RegV.p0 rfl rfl rfl ?_
        refine RegV.p0 (v := (.d (.bool (decide ((((rd a0 (IntKind.i64.wrap (a1 + y15_2))).toNat : Nat) : Int) < (128 : Int)))))) rfl rfl rfl ?_
        refine RegV.nil0 ?_
        refine AWc.cond rfl (fun c97 => ?_) (fun c97 => ?_)
        · have h15 := cond_pos c97 h15
          refine AWc.seq ?_
          refine AWc.seqS (N := 60) 1 (fun (z : Bool) => [(5, (.d (.int .u64 (bitsA .or .u64 y15_1 (IntKind.u64.wrap ((IntKind.u64.wrap (bitsA .and .u8 (((rd a0 (IntKind.i64.wrap (a1 + y15_2))).toNat : Nat) : Int) (127 : Int))) * 2 ^ (min ((IntKind.u64.wrap (IntKind.i64.wrap ((7 : Int) * y15_2)))).toNat IntKind.u64.bits))))))), (6, (.d (.int .i64 y15_2))), (56, (.d (.bool z)))]) (fun z => [(0, (.cells [(.d (.sl (List.map byteD a0))), (.d (.int .i64 a1)), (.d (.int .i64 a2))]))]) (fun z => f89_j108 k y15_1 a0 a1 y15_2 z = some o15) rfl_le ?_ ?_
          · refine AWc.rg hmix rfl rfl ?_
            refine RegV.p0 rfl rfl rfl ?_
            refine RegV.p0 (v := (.d (.bool (decide ((((rd a0 (IntKind.i64.wrap (a1 + y15_2))).toNat : Nat) : Int) = (0 : Int)))))) rfl rfl rfl ?_
            refine RegV.p0 rfl rfl rfl ?_
            refine RegV.split (fun c104 => ?_) (fun c104 => ?_)
            · have h15 := cond_pos c104 h15
              refine RegV.p0 rfl rfl rfl ?_
              refine RegV.p0 (v := (.d (.bool (decide (y15_2 > (0 : Int)))))) rfl rfl rfl ?_
              refine RegV.p0 rfl rfl rfl ?_
              refine RegV.nil0 ?_
              exact ⟨(decide (y15_2 > (0 : Int))), h15, ⟨rfl, [], [], rfl, rfl, ⟨⟨_, rfl, (.refl _)⟩, rfl, ⟨⟨_, rfl, (.refl _)⟩, rfl, ⟨⟨_, rfl, (.refl _)⟩, rfl, trivial⟩⟩⟩, ⟨⟨_, rfl, (.refl _)⟩, rfl, rfl, trivial⟩⟩⟩
            · have h15 := cond_neg c104 h15
              refine RegV.noS rfl rfl ?_
              refine RegV.noS rfl rfl ?_
              refine RegV.p0 rfl rfl rfl ?_
              refine RegV.nil0 ?_
              exact ⟨false, h15, ⟨rfl, [], [], rfl, rfl, ⟨⟨_, rfl, (.refl _)⟩, rfl, ⟨⟨_, rfl, (.refl _)⟩, rfl, ⟨⟨_, rfl, (.refl _)⟩, rfl, trivial⟩⟩⟩, ⟨⟨_, rfl, (.refl _)⟩, rfl, rfl, trivial⟩⟩⟩
          · intro j108_1 h15
            unfold f89_j108 at h15
            refine AWc.cond rfl (fun c108 => ?_) (fun c108 => ?_)
            · have h15 := cond_pos c108 h15
              refine AWc.seq ?_
              refine AWc.rg hmix rfl rfl ?_
              refine RegV.p0 rfl rfl rfl ?_
              refine RegV.p0 rfl rfl rfl ?_
              refine RegV.p0 rfl rfl rfl ?_
              refine RegV.nil0 ?_
              cases h15
              dsimp only at h
              have hr := Option.some.inj h
              subst hr
              exact AWc.ret (canQ (N := 60) (k := 1) (l' := [(2, (.d (.int .u64 (0 : Int)))), (3, (.d (.int .i64 (0 : Int)))), (4, (.d (.int .i64 (4 : Int))))]) (H' := [(0, (.cells [(.d (.sl (List.map byteD a0))), (.d (.int .i64 a1)), (.d (.int .i64 a2))]))]) rfl ⟨rfl, [], [], rfl, rfl, ⟨⟨_, rfl, (.refl _)⟩, rfl, ⟨⟨_, rfl, (.refl _)⟩, rfl, ⟨⟨_, rfl, (.refl _)⟩, rfl, trivial⟩⟩⟩, ⟨⟨_, rfl, (.refl _)⟩, rfl, rfl, trivial⟩⟩ (doneA (.inr rfl) rfl ⟨trivial, ⟨trivial, ⟨trivial, trivial⟩⟩⟩ (.refl _) (hasCons rfl hasNil)))
            · have h15 := cond_neg c108 h15
              refine AWc.skip ?_
              refine AWc.seq ?_
              refine AWc.rg hmix rfl rfl ?_
              refine RegV.p0 rfl rfl rfl ?_
              refine RegV.p0 rfl rfl rfl ?_
              refine RegV.p0 (v := (.d (.int .i64 (IntKind.i64.wrap (y15_2 + (1 : Int)))))) rfl rfl rfl ?_
              refine RegV.p0 rfl rfl rfl ?_
              refine RegV.p0 rfl rfl rfl ?_
              refine RegV.p0 rfl rfl rfl ?_
              refine RegV.nil0 ?_
              cases h15
              dsimp only at h
              have hr := Option.some.inj h
              subst hr
              exact AWc.ret (canQ (N := 60) (k := 1) (l' := [(2, (.d (.int .u64 (bitsA .or .u64 y15_1 (IntKind.u64.wrap ((IntKind.u64.wrap (bitsA .and .u8 (((rd a0 (IntKind.i64.wrap (a1 + y15_2))).toNat : Nat) : Int) (127 : Int))) * 2 ^ (min ((IntKind.u64.wrap (IntKind.i64.wrap ((7 : Int) * y15_2)))).toNat IntKind.u64.bits))))))), (3, (.d (.int .i64 (IntKind.i64.wrap (y15_2 + (1 : Int)))))), (4, (.d (.int .i64 (0 : Int))))]) (H' := [(0, (.cells [(.d (.sl (List.map byteD a0))), (.d (.int .i64 a1)), (.d (.int .i64 a2))]))]) rfl ⟨rfl, [], [], rfl, rfl, ⟨⟨_, rfl, (.refl _)⟩, rfl, ⟨⟨_, rfl, (.refl _)⟩, rfl, ⟨⟨_, rfl, (.refl _)⟩, rfl, trivial⟩⟩⟩, ⟨⟨_, rfl, (.refl _)⟩, rfl, rfl, trivial⟩⟩ (doneA (.inr rfl) rfl ⟨trivial, ⟨trivial, ⟨trivial, trivial⟩⟩⟩ (.refl _) (hasCons rfl hasNil)))
        · have h15 := cond_neg c97 h15
          refine AWc.skip ?_
          refine AWc.rg hmix rfl rfl ?_
          refine RegV.p0 rfl rfl rfl ?_
          refine RegV.p0 (v := (.d (.int .i64 (IntKind.i64.wrap (y15_2 + (1 : Int)))))) rfl rfl rfl ?_
          refine RegV.p0 rfl rfl rfl ?_
          refine RegV.nil0 ?_
          exact ⟨((bitsA .or .u64 y15_1 (IntKind.u64.wrap ((IntKind.u64.wrap (bitsA .and .u8 (((rd a0 (IntKind.i64.wrap (a1 + y15_2))).toNat : Nat) : Int) (127 : Int))) * 2 ^ (min ((IntKind.u64.wrap (IntKind.i64.wrap ((7 : Int) * y15_2)))).toNat IntKind.u64.bits)))), (IntKind.i64.wrap (y15_2 + (1 : Int)))), h15, ⟨rfl, [], [], rfl, rfl, ⟨⟨_, rfl, (.refl _)⟩, rfl, ⟨⟨_, rfl, (.refl _)⟩, rfl, ⟨⟨_, rfl, (.refl _)⟩, rfl, trivial⟩⟩⟩, ⟨⟨_, rfl, (.refl _)⟩, rfl, rfl, trivial⟩⟩⟩
/-- (*courant/courantref01.Reader).Num -/
def C46 (N : Nat → Nat) : AFunc := { n := 31, params := 1, res := [.tmp 2], body :=
 (.seq (.region false [⟨(some 2), .mv (.k (.d (.int .u64 0))), none, []⟩])
  (.seq (.seq (.region false [⟨(some 6), .mv (.t 0), none, []⟩,
     ⟨(some 7), .nilchk (.t 6), none, [0]⟩,
     ⟨(some 8), .faddr (.t 7) 2, none, [1]⟩,
     ⟨(some 9), .load (.t 8) 1 false, none, [2]⟩,
     ⟨(some 10), .bin .neq (.t 9) (.k (.d (.int .i64 0))), none, [3]⟩])
    (.cond (.t 10) (.seq (.region false [⟨(some 2), .mv (.k (.d (.int .u64 0))), none, []⟩])
      .ret)
     (.skip)))
   (.seq (.region false [⟨(some 12), .mv (.t 0), none, []⟩,
     ⟨(some 13), .call (.k (.d (.fn (N 89)))) [(.t 12)], none, [0]⟩,
     ⟨(some 11), .mv (.t 13), none, [1]⟩,
     ⟨(some 14), .ext (.t 11) 0, none, [2]⟩,
     ⟨(some 15), .ext (.t 11) 1, none, [2]⟩,
     ⟨(some 16), .ext (.t 11) 2, none, [2]⟩,
     ⟨(some 3), .mv (.t 14), none, [3, 1, 0, 2]⟩,
     ⟨(some 4), .mv (.t 15), none, [4, 6, 0, 1, 2, 3]⟩,
     ⟨(some 5), .mv (.t 16), none, [5, 7, 0, 1, 2, 3, 4, 6]⟩])
    (.seq (.region false [⟨(some 17), .mv (.t 0), none, []⟩,
      ⟨(some 18), .mv (.t 5), none, []⟩,
      ⟨(some 19), .nilchk (.t 17), none, [0, 1]⟩,
      ⟨(some 20), .faddr (.t 19) 2, none, [2, 0, 1]⟩,
      ⟨none, .store (.t 20) (.t 18) 1, none, [3, 1, 0]⟩])
     (.seq (.region false [⟨(some 21), .mv (.t 0), none, []⟩,
       ⟨(some 22), .mv (.t 0), none, []⟩,
       ⟨(some 23), .nilchk (.t 22), none, [1]⟩,
       ⟨(some 24), .faddr (.t 23) 1, none, [2]⟩,
       ⟨(some 25), .load (.t 24) 1 false, none, [3]⟩,
       ⟨(some 26), .mv (.t 4), none, []⟩,
       ⟨(some 27), .bin .add (.t 25) (.t 26), none, [4, 5]⟩,
       ⟨(some 28), .nilchk (.t 21), none, [0, 1, 2, 3, 4, 5, 6]⟩,
       ⟨(some 29), .faddr (.t 28) 1, none, [7, 0, 1, 2, 3, 4, 5, 6]⟩,
       ⟨none, .store (.t 29) (.t 27) 1, none, [8, 6, 0, 1, 2, 3, 4, 5]⟩])
      (.seq (.region false [⟨(some 30), .mv (.t 3), none, []⟩,
        ⟨(some 2), .mv (.t 30), none, [0]⟩])
       .ret)))))) }
def HC46 (P : Program) (N : Nat → Nat) : Prop := HasF P (N 46) (C46 N) ∧ HC89 P N
def f46 (k : Nat) (a0 : (List UInt8)) (a1 : Int) (a2 : Int) : Option (Int × Int × Int) := cond (decide (a2 ≠ (0 : Int))) (some ((0 : Int), a1, a2)) ((f89 k a0 a1 a2).bind fun r25 => some (r25.1, (IntKind.i64.wrap (a1 + r25.2.1)), r25.2.2))
theorem F46 {P : Program} {N : Nat → Nat} (hmix : P.follows .mixedOrders = true) (hc : HC46 P N) {k : Nat} {a0 : (List UInt8)} {a1 : Int} {a2 : Int} {r : (Int × Int × Int)} (h : f46 k a0 a1 a2 = some r) :
    ACalls P (N 46) [(.ptr 0 0)] [(0, (.cells [(.d (.sl (List.map byteD a0))), (.d (.int .i64 a1)), (.d (.int .i64 a2))]))] (.d (.int .u64 r.1)) [(0, (.cells [(.d (.sl (List.map byteD a0))), (.d (.int .i64 r.2.1)), (.d (.int .i64 r.2.2))]))] := by
  refine acalls_canon (F := C46 N) hc.1 1 1 rfl ?_
  unfold f46 at h
  dsimp only [C46, startL]
  refine AWc.seq ?_
  refine AWc.rg hmix rfl rfl ?_
  refine RegV.p0 rfl rfl rfl ?_
  refine RegV.nil0 ?_
  refine AWc.seq ?_
  refine AWc.seq ?_
  refine AWc.rg hmix rfl rfl ?_
  refine RegV.p0 rfl rfl rfl ?_
  refine RegV.p0 rfl rfl rfl ?_
  refine RegV.p0 (v := (.ptr 0 2)) rfl rfl rfl ?_
  refine RegV.ld (v := (.d (.int .i64 a2))) (H' := [(0, (.cells [(.d (.sl (List.map byteD a0))), (.d (.int .i64 a1)), (.d (.int .i64 a2))]))]) rfl rfl trivial rfl rfl rfl rfl rfl ?_
  refine RegV.p0 (v := (.d (.bool (decide (a2 ≠ (0 : Int)))))) rfl rfl rfl ?_
  refine RegV.nil0 ?_
  refine AWc.cond rfl (fun c14 => ?_) (fun c14 => ?_)
  · have h := cond_pos c14 h
    refine AWc.seq ?_
    refine AWc.rg hmix rfl rfl ?_
    refine RegV.p0 rfl rfl rfl ?_
    refine RegV.nil0 ?_
    have hr := Option.some.inj h
    subst hr
    exact AWc.ret (canQ (N := 31) (k := 1) (l' := [(2, (.d (.int .u64 (0 : Int))))]) (H' := [(0, (.cells [(.d (.sl (List.map byteD a0))), (.d (.int .i64 a1)), (.d (.int .i64 a2))]))]) rfl ⟨rfl, [], [], rfl, rfl, ⟨⟨_, rfl, (.refl _)⟩, rfl, trivial⟩, ⟨⟨_, rfl, (.refl _)⟩, rfl, rfl, trivial⟩⟩ (doneA (.inr rfl) rfl ⟨trivial, trivial⟩ (.refl _) (hasCons rfl hasNil)))
  · have h := cond_neg c14 h
    refine AWc.skip ?_
    refine AWc.seq ?_
    refine AWc.rg hmix rfl rfl ?_
    refine RegV.p0 rfl rfl rfl ?_
    obtain ⟨r25, e25, h⟩ := bind_some h
    refine RegV.callS (q := true) (H' := [(0, (.cells [(.d (.sl (List.map byteD a0))), (.d (.int .i64 a1)), (.d (.int .i64 a2))]))]) (c' := 1) (show ACalls P (N 89) [(.ptr 0 0)] [(0, (.cells [(.d (.sl (List.map byteD a0))), (.d (.int .i64 a1)), (.d (.int .i64 a2))]))] (.tup [(.d (.int .u64 r25.1)), (.d (.int .i64 r25.2.1)), (.d (.int .i64 r25.2.2))]) [(0, (.cells [(.d (.sl (List.map byteD a0))), (.d (.int .i64 a1)), (.d (.int .i64 a2))]))] from ACalls.use (F89 hmix hc.2 e25) [(0, 0)] 1 rfl) rfl rfl rfl rfl (.cons (.refl _) .nil) (.refl _) (fun _ => rfl) rfl (hasCons rfl hasNil) rfl rfl rfl rfl ?_
    refine RegV.p0 rfl rfl rfl ?_
    refine RegV.p0 rfl rfl rfl ?_
    refine RegV.p0 rfl rfl rfl ?_
    refine RegV.p0 rfl rfl rfl ?_
    refine RegV.p0 rfl rfl rfl ?_
    refine RegV.p0 rfl rfl rfl ?_
    refine RegV.p0 rfl rfl rfl ?_
    refine RegV.nil0 ?_
    refine AWc.seq ?_
    refine AWc.rg hmix rfl rfl ?_
    refine RegV.p0 rfl rfl rfl ?_
    refine RegV.p0 rfl rfl rfl ?_
    refine RegV.p0 rfl rfl rfl ?_
    refine RegV.p0 (v := (.ptr 0 2)) rfl rfl rfl ?_
    refine RegV.evN (own := false) (H' := [(0, (.cells [(.d (.sl (List.map byteD a0))), (.d (.int .i64 a1)), (.d (.int .i64 r25.2.2))]))]) (c' := 1) rfl rfl (by exact ⟨rfl, Nat.le_of_ble_eq_true rfl, rfl⟩) rfl rfl rfl rfl ?_
    refine RegV.nil0 ?_
    refine AWc.seq ?_
    refine AWc.rg hmix rfl rfl ?_
    refine RegV.p0 rfl rfl rfl ?_
    refine RegV.p0 rfl rfl rfl ?_
    refine RegV.p0 rfl rfl rfl ?_
    refine RegV.p0 (v := (.ptr 0 1)) rfl rfl rfl ?_
    refine RegV.ld (v := (.d (.int .i64 a1))) (H' := [(0, (.cells [(.d (.sl (List.map byteD a0))), (.d (.int .i64 a1)), (.d (.int .i64 r25.2.2))]))]) rfl rfl trivial rfl rfl rfl rfl rfl ?_
    refine RegV.p0 rfl rfl rfl ?_
    refine RegV.p0 (v := (.d (.int .i64 (IntKind.i64.wrap (a1 + r25.2.1))))) rfl rfl rfl ?_
    refine RegV.p0 rfl rfl rfl ?_
    refine RegV.p0 (v := (.ptr 0 1)) rfl rfl rfl ?_
    refine RegV.evN (own := false) (H' := [(0, (.cells [(.d (.sl (List.map byteD a0))), (.d (.int .i64 (IntKind.i64.wrap (a1 + r25.2.1)))), (.d (.int .i64 r25.2.2))]))]) (c' := 1) rfl rfl (by exact ⟨rfl, Nat.le_of_ble_eq_true rfl, rfl⟩) rfl rfl rfl rfl ?_
    refine RegV.nil0 ?_
    refine AWc.seq ?_
    refine AWc.rg hmix rfl rfl ?_
    refine RegV.p0 rfl rfl rfl ?_
    refine RegV.p0 rfl rfl rfl ?_
    refine RegV.nil0 ?_
    have hr := Option.some.inj h
    subst hr
    exact AWc.ret (canQ (N := 31) (k := 1) (l' := [(2, (.d (.int .u64 r25.1)))]) (H' := [(0, (.cells [(.d (.sl (List.map byteD a0))), (.d (.int .i64 (IntKind.i64.wrap (a1 + r25.2.1)))), (.d (.int .i64 r25.2.2))]))]) rfl ⟨rfl, [], [], rfl, rfl, ⟨⟨_, rfl, (.refl _)⟩, rfl, trivial⟩, ⟨⟨_, rfl, (.refl _)⟩, rfl, rfl, trivial⟩⟩ (doneA (.inr rfl) rfl ⟨trivial, trivial⟩ (.refl _) (hasCons rfl hasNil)))
/-- courant/courantref01.signed -/
def C90 (N : Nat → Nat) : AFunc := { n := 14, params := 1, res := [.tmp 2], body :=
 (.seq (.region false [⟨(some 2), .mv (.k (.d (.int .i64 0))), none, []⟩])
  (.seq (.seq (.region false [⟨(some 3), .mv (.t 0), none, []⟩,
     ⟨(some 4), .bin .rem (.t 3) (.k (.d (.int .u64 2))), none, [0]⟩,
     ⟨(some 5), .bin .eql (.t 4) (.k (.d (.int .u64 0))), none, [1]⟩])
    (.cond (.t 5) (.seq (.region false [⟨(some 6), .mv (.t 0), none, []⟩,
       ⟨(some 7), .bin .quo (.t 6) (.k (.d (.int .u64 2))), none, [0]⟩,
       ⟨(some 8), .cvi .i64 (.t 7), none, [1]⟩,
       ⟨(some 2), .mv (.t 8), none, [2, 0, 1]⟩])
      .ret)
     (.skip)))
   (.seq (.region false [⟨(some 9), .mv (.t 0), none, []⟩,
     ⟨(some 10), .bin .quo (.t 9) (.k (.d (.int .u64 2))), none, [0]⟩,
     ⟨(some 11), .cvi .i64 (.t 10), none, [1]⟩,
     ⟨(some 12), .un .neg (.t 11), none, [2]⟩,
     ⟨(some 13), .bin .sub (.t 12) (.k (.d (.int .i64 1))), none, [3]⟩,
     ⟨(some 2), .mv (.t 13), none, [4, 0, 1, 2, 3]⟩])
    .ret))) }
def HC90 (P : Program) (N : Nat → Nat) : Prop := HasF P (N 90) (C90 N)
def f90 (k : Nat) (a0 : Int) : Option Int := cond (decide ((Int.tmod a0 (2 : Int)) = (0 : Int))) (some (IntKind.i64.wrap (IntKind.u64.wrap (Int.tdiv a0 (2 : Int))))) (some (IntKind.i64.wrap ((IntKind.i64.wrap (0 - (IntKind.i64.wrap (IntKind.u64.wrap (Int.tdiv a0 (2 : Int)))))) - (1 : Int))))
theorem F90 {P : Program} {N : Nat → Nat} (hmix : P.follows .mixedOrders = true) (hc : HC90 P N) {k : Nat} {a0 : Int} {r : Int} (h : f90 k a0 = some r) :
    ACalls P (N 90) [(.d (.int .u64 a0))] [] (.d (.int .i64 r)) [] := by
  refine acalls_canon (F := C90 N) hc 0 0 rfl ?_
  unfold f90 at h
  dsimp only [C90, startL]
  refine AWc.seq ?_
  refine AWc.rg hmix rfl rfl ?_
  refine RegV.p0 rfl rfl rfl ?_
  refine RegV.nil0 ?_
  refine AWc.seq ?_
  refine AWc.seq ?_
  refine AWc.rg hmix rfl rfl ?_
  refine RegV.p0 rfl rfl rfl ?_
  refine RegV.p1 (v := (.d (.int .u64 (Int.tmod a0 (2 : Int))))) rfl rfl (by decide) rfl rfl ?_
  refine RegV.p0 (v := (.d (.bool (decide ((Int.tmod a0 (2 : Int)) = (0 : Int)))))) rfl rfl rfl ?_
  refine RegV.nil0 ?_
  refine AWc.cond rfl (fun c12 => ?_) (fun c12 => ?_)
  · have h := cond_pos c12 h
    refine AWc.seq ?_
    refine AWc.rg hmix rfl rfl ?_
    refine RegV.p0 rfl rfl rfl ?_
    refine RegV.p1 (v := (.d (.int .u64 (IntKind.u64.wrap (Int.tdiv a0 (2 : Int)))))) rfl rfl (by decide) rfl rfl ?_
    refine RegV.p0 (v := (.d (.int .i64 (IntKind.i64.wrap (IntKind.u64.wrap (Int.tdiv a0 (2 : Int))))))) rfl rfl rfl ?_
    refine RegV.p0 rfl rfl rfl ?_
    refine RegV.nil0 ?_
    have hr := Option.some.inj h
    subst hr
    exact AWc.ret (canQ (N := 14) (k := 0) (l' := [(2, (.d (.int .i64 (IntKind.i64.wrap (IntKind.u64.wrap (Int.tdiv a0 (2 : Int)))))))]) (H' := []) rfl ⟨rfl, [], [], rfl, rfl, ⟨⟨_, rfl, (.refl _)⟩, rfl, trivial⟩,  trivial⟩ (doneA (.inr rfl) rfl ⟨trivial, trivial⟩ (.refl _) hasNil))
  · have h := cond_neg c12 h
    refine AWc.skip ?_
    refine AWc.seq ?_
    refine AWc.rg hmix rfl rfl ?_
    refine RegV.p0 rfl rfl rfl ?_
    refine RegV.p1 (v := (.d (.int .u64 (IntKind.u64.wrap (Int.tdiv a0 (2 : Int)))))) rfl rfl (by decide) rfl rfl ?_
    refine RegV.p0 (v := (.d (.int .i64 (IntKind.i64.wrap (IntKind.u64.wrap (Int.tdiv a0 (2 : Int))))))) rfl rfl rfl ?_
    refine RegV.p0 (v := (.d (.int .i64 (IntKind.i64.wrap (0 - (IntKind.i64.wrap (IntKind.u64.wrap (Int.tdiv a0 (2 : Int))))))))) rfl rfl rfl ?_
    refine RegV.p0 (v := (.d (.int .i64 (IntKind.i64.wrap ((IntKind.i64.wrap (0 - (IntKind.i64.wrap (IntKind.u64.wrap (Int.tdiv a0 (2 : Int)))))) - (1 : Int)))))) rfl rfl rfl ?_
    refine RegV.p0 rfl rfl rfl ?_
    refine RegV.nil0 ?_
    have hr := Option.some.inj h
    subst hr
    exact AWc.ret (canQ (N := 14) (k := 0) (l' := [(2, (.d (.int .i64 (IntKind.i64.wrap ((IntKind.i64.wrap (0 - (IntKind.i64.wrap (IntKind.u64.wrap (Int.tdiv a0 (2 : Int)))))) - (1 : Int))))))]) (H' := []) rfl ⟨rfl, [], [], rfl, rfl, ⟨⟨_, rfl, (.refl _)⟩, rfl, trivial⟩,  trivial⟩ (doneA (.inr rfl) rfl ⟨trivial, trivial⟩ (.refl _) hasNil))
/-- (*courant/courantref01.Reader).Zig -/
def C47 (N : Nat → Nat) : AFunc := { n := 6, params := 1, res := [.tmp 2], body :=
 (.seq (.region false [⟨(some 2), .mv (.k (.d (.int .i64 0))), none, []⟩])
  (.seq (.region false [⟨(some 3), .mv (.t 0), none, []⟩,
    ⟨(some 4), .call (.k (.d (.fn (N 46)))) [(.t 3)], none, [0]⟩,
    ⟨(some 5), .call (.k (.d (.fn (N 90)))) [(.t 4)], none, [1]⟩,
    ⟨(some 2), .mv (.t 5), none, [2, 0, 1]⟩])
   .ret)) }
def HC47 (P : Program) (N : Nat → Nat) : Prop := HasF P (N 47) (C47 N) ∧ HC46 P N ∧ HC90 P N
def f47 (k : Nat) (a0 : (List UInt8)) (a1 : Int) (a2 : Int) : Option (Int × Int × Int) := (f46 k a0 a1 a2).bind fun r9 => (f90 k r9.1).bind fun r10 => some (r10, r9.2.1, r9.2.2)
theorem F47 {P : Program} {N : Nat → Nat} (hmix : P.follows .mixedOrders = true) (hc : HC47 P N) {k : Nat} {a0 : (List UInt8)} {a1 : Int} {a2 : Int} {r : (Int × Int × Int)} (h : f47 k a0 a1 a2 = some r) :
    ACalls P (N 47) [(.ptr 0 0)] [(0, (.cells [(.d (.sl (List.map byteD a0))), (.d (.int .i64 a1)), (.d (.int .i64 a2))]))] (.d (.int .i64 r.1)) [(0, (.cells [(.d (.sl (List.map byteD a0))), (.d (.int .i64 r.2.1)), (.d (.int .i64 r.2.2))]))] := by
  refine acalls_canon (F := C47 N) hc.1 1 1 rfl ?_
  unfold f47 at h
  dsimp only [C47, startL]
  refine AWc.seq ?_
  refine AWc.rg hmix rfl rfl ?_
  refine RegV.p0 rfl rfl rfl ?_
  refine RegV.nil0 ?_
  refine AWc.seq ?_
  refine AWc.rg hmix rfl rfl ?_
  refine RegV.p0 rfl rfl rfl ?_
  obtain ⟨r9, e9, h⟩ := bind_some h
  refine RegV.callS (q := false) (H' := [(0, (.cells [(.d (.sl (List.map byteD a0))), (.d (.int .i64 r9.2.1)), (.d (.int .i64 r9.2.2))]))]) (c' := 1) (show ACalls P (N 46) [(.ptr 0 0)] [(0, (.cells [(.d (.sl (List.map byteD a0))), (.d (.int .i64 a1)), (.d (.int .i64 a2))]))] (.d (.int .u64 r9.1)) [(0, (.cells [(.d (.sl (List.map byteD a0))), (.d (.int .i64 r9.2.1)), (.d (.int .i64 r9.2.2))]))] from ACalls.use (F46 hmix hc.2.1 e9) [(0, 0)] 1 rfl) rfl rfl rfl rfl (.cons (.refl _) .nil) (.refl _) (fun h => by cases h) rfl (hasCons rfl hasNil) rfl rfl rfl rfl ?_
  obtain ⟨r10, e10, h⟩ := bind_some h
  refine RegV.call0 (F90 hmix hc.2.2 e10) rfl rfl rfl rfl (.cons (.refl _) .nil) rfl ?_
  refine RegV.p0 rfl rfl rfl ?_
  refine RegV.nil0 ?_
  have hr := Option.some.inj h
  subst hr
  exact AWc.ret (canQ (N := 6) (k := 1) (l' := [(2, (.d (.int .i64 r10)))]) (H' := [(0, (.cells [(.d (.sl (List.map byteD a0))), (.d (.int .i64 r9.2.1)), (.d (.int .i64 r9.2.2))]))]) rfl ⟨rfl, [], [], rfl, rfl, ⟨⟨_, rfl, (.refl _)⟩, rfl, trivial⟩, ⟨⟨_, rfl, (.refl _)⟩, rfl, rfl, trivial⟩⟩ (doneA (.inr rfl) rfl ⟨trivial, trivial⟩ (.refl _) (hasCons rfl hasNil)))
/-- (*courant/courantref01.Reader).Text -/
def C48 (N : Nat → Nat) : AFunc := { n := 90, params := 2, res := [.tmp 4], body :=
 (.seq (.region false [⟨(some 4), .mv (.k .nils), none, []⟩])
  (.seq (.seq (.region false [⟨(some 10), .mv (.t 0), none, []⟩,
     ⟨(some 11), .nilchk (.t 10), none, [0]⟩,
     ⟨(some 12), .faddr (.t 11) 2, none, [1]⟩,
     ⟨(some 13), .load (.t 12) 1 false, none, [2]⟩,
     ⟨(some 14), .bin .neq (.t 13) (.k (.d (.int .i64 0))), none, [3]⟩])
    (.cond (.t 14) (.seq (.region false [⟨(some 4), .mv (.k .nils), none, []⟩])
      .ret)
     (.skip)))
   (.seq (.region false [⟨(some 16), .mv (.t 0), none, []⟩,
     ⟨(some 17), .call (.k (.d (.fn (N 89)))) [(.t 16)], none, [0]⟩,
     ⟨(some 15), .mv (.t 17), none, [1]⟩,
     ⟨(some 18), .ext (.t 15) 0, none, [2]⟩,
     ⟨(some 19), .ext (.t 15) 1, none, [2]⟩,
     ⟨(some 20), .ext (.t 15) 2, none, [2]⟩,
     ⟨(some 5), .mv (.t 18), none, [3, 1, 0, 2]⟩,
     ⟨(some 6), .mv (.t 19), none, [4, 6, 0, 1, 2, 3]⟩,
     ⟨(some 7), .mv (.t 20), none, [5, 7, 0, 1, 2, 3, 4, 6]⟩])
    (.seq (.region false [⟨(some 21), .mv (.t 5), none, []⟩,
      ⟨(some 22), .call (.k (.d (.fn (N 90)))) [(.t 21)], none, [0]⟩,
      ⟨(some 8), .mv (.t 22), none, [1, 0]⟩])
     (.seq (.block 0 (.seq (.region false [⟨(some 24), .mv (.t 7), none, []⟩,
         ⟨(some 25), .bin .neq (.t 24) (.k (.d (.int .i64 0))), none, [0]⟩,
         ⟨(some 23), .mv (.t 25), none, [1]⟩])
        (.cond (.t 23) (.region false [⟨(some 26), .mv (.t 0), none, []⟩,
          ⟨(some 27), .mv (.t 7), none, []⟩,
          ⟨(some 28), .nilchk (.t 26), none, [0, 1]⟩,
          ⟨(some 29), .faddr (.t 28) 2, none, [2, 0, 1]⟩,
          ⟨none, .store (.t 29) (.t 27) 1, none, [3, 1, 0]⟩])
         (.seq (.region false [⟨(some 31), .mv (.t 8), none, []⟩,
           ⟨(some 32), .bin .lss (.t 31) (.k (.d (.int .i64 0))), none, [0]⟩,
           ⟨(some 30), .mv (.t 32), none, [1]⟩])
          (.cond (.t 30) (.region false [⟨(some 33), .mv (.t 0), none, []⟩,
            ⟨(some 34), .nilchk (.t 33), none, [0]⟩,
            ⟨(some 35), .faddr (.t 34) 2, none, [1, 0]⟩,
            ⟨none, .store (.t 35) (.k (.d (.int .i64 4))) 1, none, [2, 0]⟩])
           (.seq (.region false [⟨(some 37), .mv (.t 8), none, []⟩,
             ⟨(some 38), .mv (.t 1), none, []⟩,
             ⟨(some 39), .mm true [(.t 38), (.k (.d (.int .i64 0)))], none, [1]⟩,
             ⟨(some 40), .bin .gtr (.t 37) (.t 39), none, [0, 2]⟩,
             ⟨(some 36), .mv (.t 40), none, [3]⟩])
            (.cond (.t 36) (.region false [⟨(some 41), .mv (.t 0), none, []⟩,
              ⟨(some 42), .nilchk (.t 41), none, [0]⟩,
              ⟨(some 43), .faddr (.t 42) 2, none, [1, 0]⟩,
              ⟨none, .store (.t 43) (.k (.d (.int .i64 5))) 1, none, [2, 0]⟩])
             (.seq (.region true [⟨(some 45), .mv (.t 8), none, []⟩,
               ⟨(some 46), .mv (.t 0), none, []⟩,
               ⟨(some 47), .nilchk (.t 46), none, [1]⟩,
               ⟨(some 48), .faddr (.t 47) 0, none, [2]⟩,
               ⟨(some 49), .load (.t 48) 1 false, none, [3]⟩,
               ⟨(some 50), .len (.t 49), none, [4]⟩,
               ⟨(some 51), .mv (.t 0), none, []⟩,
               ⟨(some 52), .nilchk (.t 51), none, [6]⟩,
               ⟨(some 53), .faddr (.t 52) 1, none, [7]⟩,
               ⟨(some 54), .load (.t 53) 1 false, none, [8]⟩,
               ⟨(some 55), .bin .sub (.t 50) (.t 54), none, [5, 9]⟩,
               ⟨(some 56), .mv (.t 6), none, []⟩,
               ⟨(some 57), .bin .sub (.t 55) (.t 56), none, [10, 11]⟩,
               ⟨(some 58), .bin .gtr (.t 45) (.t 57), none, [0, 12]⟩,
               ⟨(some 44), .mv (.t 58), none, [13]⟩])
              (.cond (.t 44) (.region false [⟨(some 59), .mv (.t 0), none, []⟩,
                ⟨(some 60), .nilchk (.t 59), none, [0]⟩,
                ⟨(some 61), .faddr (.t 60) 2, none, [1, 0]⟩,
                ⟨none, .store (.t 61) (.k (.d (.int .i64 3))) 1, none, [2, 0]⟩])
               (.skip))))))))))
      (.seq (.seq (.region false [⟨(some 62), .mv (.t 0), none, []⟩,
         ⟨(some 63), .nilchk (.t 62), none, [0]⟩,
         ⟨(some 64), .faddr (.t 63) 2, none, [1]⟩,
         ⟨(some 65), .load (.t 64) 1 false, none, [2]⟩,
         ⟨(some 66), .bin .neq (.t 65) (.k (.d (.int .i64 0))), none, [3]⟩])
        (.cond (.t 66) (.seq (.region false [⟨(some 4), .mv (.k .nils), none, []⟩])
          .ret)
         (.skip)))
       (.seq (.region false [⟨(some 67), .mv (.t 0), none, []⟩,
         ⟨(some 68), .nilchk (.t 67), none, [0]⟩,
         ⟨(some 69), .faddr (.t 68) 1, none, [1]⟩,
         ⟨(some 70), .load (.t 69) 1 false, none, [2]⟩,
         ⟨(some 71), .mv (.t 6), none, []⟩,
         ⟨(some 72), .bin .add (.t 70) (.t 71), none, [3, 4]⟩,
         ⟨(some 9), .mv (.t 72), none, [5, 0, 1, 2, 3, 4]⟩])
        (.seq (.region false [⟨(some 73), .mv (.t 0), none, []⟩,
          ⟨(some 74), .mv (.t 9), none, []⟩,
          ⟨(some 75), .mv (.t 8), none, []⟩,
          ⟨(some 76), .bin .add (.t 74) (.t 75), none, [1, 2]⟩,
          ⟨(some 77), .nilchk (.t 73), none, [0, 1, 2, 3]⟩,
          ⟨(some 78), .faddr (.t 77) 1, none, [4, 0, 1, 2, 3]⟩,
          ⟨none, .store (.t 78) (.t 76) 1, none, [5, 3, 0, 1, 2]⟩])
         (.seq (.region true [⟨(some 79), .mv (.t 0), none, []⟩,
           ⟨(some 80), .nilchk (.t 79), none, [0]⟩,
           ⟨(some 81), .faddr (.t 80) 0, none, [1]⟩,
           ⟨(some 82), .load (.t 81) 1 false, none, [2]⟩,
           ⟨(some 83), .mv (.t 9), none, []⟩,
           ⟨(some 84), .mv (.t 0), none, []⟩,
           ⟨(some 85), .nilchk (.t 84), none, [5]⟩,
           ⟨(some 86), .faddr (.t 85) 1, none, [6]⟩,
           ⟨(some 87), .load (.t 86) 1 false, none, [7]⟩,
           ⟨(some 88), .slc (.t 82) (some (.t 83)) (some (.t 87)) none 1, none, [3, 4, 8]⟩,
           ⟨(some 89), .app (.k .nils) (.t 88) 1 1 [(.int .u8 0)], none, [9]⟩,
           ⟨(some 4), .mv (.t 89), none, [10, 0, 1, 2, 3, 4, 5, 6, 7, 8, 9]⟩])
          .ret))))))))) }
def HC48 (P : Program) (N : Nat → Nat) : Prop := HasF P (N 48) (C48 N) ∧ HC89 P N ∧ HC90 P N
def f48_j109 (k : Nat) (a1 : Int) (r25 : (Int × Int × Int)) (r37 : Int) (a0 : (List UInt8)) (j109_1 : Int) : Option ((List UInt8) × Int × Int) := cond (decide (j109_1 ≠ (0 : Int))) (some (([] : List UInt8), a1, j109_1)) (gd (0 ≤ (IntKind.i64.wrap (a1 + r25.2.1)) ∧ (IntKind.i64.wrap (a1 + r25.2.1)) ≤ (IntKind.i64.wrap ((IntKind.i64.wrap (a1 + r25.2.1)) + r37)) ∧ (IntKind.i64.wrap ((IntKind.i64.wrap (a1 + r25.2.1)) + r37)) ≤ ((a0.length : Nat) : Int)) (gd ((sl a0 (IntKind.i64.wrap (a1 + r25.2.1)) (IntKind.i64.wrap ((IntKind.i64.wrap (a1 + r25.2.1)) + r37))).length * 1 ≤ 281474976710656) (some ((sl a0 (IntKind.i64.wrap (a1 + r25.2.1)) (IntKind.i64.wrap ((IntKind.i64.wrap (a1 + r25.2.1)) + r37))), (IntKind.i64.wrap ((IntKind.i64.wrap (a1 + r25.2.1)) + r37)), j109_1))))
def f48 (k : Nat) (a0 : (List UInt8)) (a1 : Int) (a2 : Int) (a3 : Int) : Option ((List UInt8) × Int × Int) := cond (decide (a2 ≠ (0 : Int))) (some (([] : List UInt8), a1, a2)) ((f89 k a0 a1 a2).bind fun r25 => (f90 k r25.1).bind fun r37 => cond (decide (r25.2.2 ≠ (0 : Int))) (f48_j109 k a1 r25 r37 a0 r25.2.2) (cond (decide (r37 < (0 : Int))) (f48_j109 k a1 r25 r37 a0 (4 : Int)) (cond (decide (r37 > (max a3 (0 : Int)))) (f48_j109 k a1 r25 r37 a0 (5 : Int)) (cond (decide (r37 > (IntKind.i64.wrap ((IntKind.i64.wrap (((a0.length : Nat) : Int) - a1)) - r25.2.1)))) (f48_j109 k a1 r25 r37 a0 (3 : Int)) (f48_j109 k a1 r25 r37 a0 a2)))))
theorem F48 {P : Program} {N : Nat → Nat} (hmix : P.follows .mixedOrders = true) (hc : HC48 P N) {k : Nat} {a0 : (List UInt8)} {a1 : Int} {a2 : Int} {a3 : Int} {r : ((List UInt8) × Int × Int)} (h : f48 k a0 a1 a2 a3 = some r) :
    ACalls P (N 48) [(.ptr 0 0), (.d (.int .i64 a3))] [(0, (.cells [(.d (.sl (List.map byteD a0))), (.d (.int .i64 a1)), (.d (.int .i64 a2))]))] (.ap 1 1 (List.map byteD r.1)) [(1, (.tok ((List.map byteD r.1).length * 1))), (0, (.cells [(.d (.sl (List.map byteD a0))), (.d (.int .i64 r.2.1)), (.d (.int .i64 r.2.2))]))] := by
  refine acalls_canon (F := C48 N) hc.1 1 2 rfl ?_
  unfold f48 at h
  dsimp only [C48, startL]
  refine AWc.seq ?_
  refine AWc.rg hmix rfl rfl ?_
  refine RegV.p0 rfl rfl rfl ?_
  refine RegV.nil0 ?_
  refine AWc.seq ?_
  refine AWc.seq ?_
  refine AWc.rg hmix rfl rfl ?_
  refine RegV.p0 rfl rfl rfl ?_
  refine RegV.p0 rfl rfl rfl ?_
  refine RegV.p0 (v := (.ptr 0 2)) rfl rfl rfl ?_
  refine RegV.ld (v := (.d (.int .i64 a2))) (H' := [(0, (.cells [(.d (.sl (List.map byteD a0))), (.d (.int .i64 a1)), (.d (.int .i64 a2))]))]) rfl rfl trivial rfl rfl rfl rfl rfl ?_
  refine RegV.p0 (v := (.d (.bool (decide (a2 ≠ (0 : Int)))))) rfl rfl rfl ?_
  refine RegV.nil0 ?_
  refine AWc.cond rfl (fun c14 => ?_) (fun c14 => ?_)
  · have h := cond_pos c14 h
    refine AWc.seq ?_
    refine AWc.rg hmix rfl rfl ?_
    refine RegV.p0 rfl rfl rfl ?_
    refine RegV.nil0 ?_
    have hr := Option.some.inj h
    subst hr
    exact AWc.ret (canQ (N := 90) (k := 2) (l' := [(4, (.ap 1 1 (List.map byteD ([] : List UInt8))))]) (H' := [(1, (.tok ((List.map byteD ([] : List UInt8)).length * 1))), (0, (.cells [(.d (.sl (List.map byteD a0))), (.d (.int .i64 a1)), (.d (.int .i64 a2))]))]) rfl ⟨rfl, [.tok 0], [(1, 1)], rfl, rfl, ⟨⟨_, rfl, .nil⟩, rfl, trivial⟩, ⟨⟨_, rfl, (.refl _)⟩, rfl, rfl, ⟨⟨_, rfl, (.refl _)⟩, rfl, rfl, trivial⟩⟩⟩ (doneA (.inr rfl) rfl ⟨trivial, trivial⟩ (.refl _) (hasCons rfl (hasCons rfl hasNil))))
  · have h := cond_neg c14 h
    refine AWc.skip ?_
    refine AWc.seq ?_
    refine AWc.rg hmix rfl rfl ?_
    refine RegV.p0 rfl rfl rfl ?_
    obtain ⟨r25, e25, h⟩ := bind_some h
    refine RegV.callS (q := true) (H' := [(0, (.cells [(.d (.sl (List.map byteD a0))), (.d (.int .i64 a1)), (.d (.int .i64 a2))]))]) (c' := 1) (show ACalls P (N 89) [(.ptr 0 0)] [(0, (.cells [(.d (.sl (List.map byteD a0))), (.d (.int .i64 a1)), (.d (.int .i64 a2))]))] (.tup [(.d (.int .u64 r25.1)), (.d (.int .i64 r25.2.1)), (.d (.int .i64 r25.2.2))]) [(0, (.cells [(.d (.sl (List.map byteD a0))), (.d (.int .i64 a1)), (.d (.int .i64 a2))]))] from ACalls.use (F89 hmix hc.2.1 e25) [(0, 0)] 1 rfl) rfl rfl rfl rfl (.cons (.refl _) .nil) (.refl _) (fun _ => rfl) rfl (hasCons rfl hasNil) rfl rfl rfl rfl ?_
    refine RegV.p0 rfl rfl rfl ?_
    refine RegV.p0 rfl rfl rfl ?_
    refine RegV.p0 rfl rfl rfl ?_
    refine RegV.p0 rfl rfl rfl ?_
    refine RegV.p0 rfl rfl rfl ?_
    refine RegV.p0 rfl rfl rfl ?_
    refine RegV.p0 rfl rfl rfl ?_
    refine RegV.nil0 ?_
    refine AWc.seq ?_
    refine AWc.rg hmix rfl rfl ?_
    refine RegV.p0 rfl rfl rfl ?_
    obtain ⟨r37, e37, h⟩ := bind_some h
    refine RegV.call0 (F90 hmix hc.2.2 e37) rfl rfl rfl rfl (.cons (.refl _) .nil) rfl ?_
    refine RegV.p0 rfl rfl rfl ?_
    refine RegV.nil0 ?_
    refine AWc.seqS (N := 90) 1 (fun (z : Int) => [(0, (.ptr 0 0)), (6, (.d (.int .i64 r25.2.1))), (8, (.d (.int .i64 r37)))]) (fun z => [(0, (.cells [(.d (.sl (List.map byteD a0))), (.d (.int .i64 a1)), (.d (.int .i64 z))]))]) (fun z => f48_j109 k a1 r25 r37 a0 z = some r) rfl_le ?_ ?_
    · refine AWc.block ?_
      refine AWc.seq ?_
      refine AWc.rg hmix rfl rfl ?_
      refine RegV.p0 rfl rfl rfl ?_
      refine RegV.p0 (v := (.d (.bool (decide (r25.2.2 ≠ (0 : Int)))))) rfl rfl rfl ?_
      refine RegV.p0 rfl rfl rfl ?_
      refine RegV.nil0 ?_
      refine AWc.cond rfl (fun c47 => ?_) (fun c47 => ?_)
      · have h := cond_pos c47 h
        refine AWc.rg hmix rfl rfl ?_
        refine RegV.p0 rfl rfl rfl ?_
        refine RegV.p0 rfl rfl rfl ?_
        refine RegV.p0 rfl rfl rfl ?_
        refine RegV.p0 (v := (.ptr 0 2)) rfl rfl rfl ?_
        refine RegV.evN (own := false) (H' := [(0, (.cells [(.d (.sl (List.map byteD a0))), (.d (.int .i64 a1)), (.d (.int .i64 r25.2.2))]))]) (c' := 1) rfl rfl (by exact ⟨rfl, Nat.le_of_ble_eq_true rfl, rfl⟩) rfl rfl rfl rfl ?_
        refine RegV.nil0 ?_
        exact ⟨r25.2.2, h, ⟨rfl, [], [], rfl, rfl, ⟨⟨_, rfl, (.refl _)⟩, rfl, ⟨⟨_, rfl, (.refl _)⟩, rfl, ⟨⟨_, rfl, (.refl _)⟩, rfl, trivial⟩⟩⟩, ⟨⟨_, rfl, (.refl _)⟩, rfl, rfl, trivial⟩⟩⟩
      · have h := cond_neg c47 h
        refine AWc.seq ?_
        refine AWc.rg hmix rfl rfl ?_
        refine RegV.p0 rfl rfl rfl ?_
        refine RegV.p0 (v := (.d (.bool (decide (r37 < (0 : Int)))))) rfl rfl rfl ?_
        refine RegV.p0 rfl rfl rfl ?_
        refine RegV.nil0 ?_
        refine AWc.cond rfl (fun c61 => ?_) (fun c61 => ?_)
        · have h := cond_pos c61 h
          refine AWc.rg hmix rfl rfl ?_
          refine RegV.p0 rfl rfl rfl ?_
          refine RegV.p0 rfl rfl rfl ?_
          refine RegV.p0 (v := (.ptr 0 2)) rfl rfl rfl ?_
          refine RegV.evN (own := false) (H' := [(0, (.cells [(.d (.sl (List.map byteD a0))), (.d (.int .i64 a1)), (.d (.int .i64 (4 : Int)))]))]) (c' := 1) rfl rfl (by exact ⟨rfl, Nat.le_of_ble_eq_true rfl, rfl⟩) rfl rfl rfl rfl ?_
          refine RegV.nil0 ?_
          exact ⟨(4 : Int), h, ⟨rfl, [], [], rfl, rfl, ⟨⟨_, rfl, (.refl _)⟩, rfl, ⟨⟨_, rfl, (.refl _)⟩, rfl, ⟨⟨_, rfl, (.refl _)⟩, rfl, trivial⟩⟩⟩, ⟨⟨_, rfl, (.refl _)⟩, rfl, rfl, trivial⟩⟩⟩
        · have h := cond_neg c61 h
          refine AWc.seq ?_
          refine AWc.rg hmix rfl rfl ?_
          refine RegV.p0 rfl rfl rfl ?_
          refine RegV.p0 rfl rfl rfl ?_
          refine RegV.p0 (v := (.d (.int .i64 (max a3 (0 : Int))))) rfl rfl rfl ?_
          refine RegV.p0 (v := (.d (.bool (decide (r37 > (max a3 (0 : Int))))))) rfl rfl rfl ?_
          refine RegV.p0 rfl rfl rfl ?_
          refine RegV.nil0 ?_
          refine AWc.cond rfl (fun c76 => ?_) (fun c76 => ?_)
          · have h := cond_pos c76 h
            refine AWc.rg hmix rfl rfl ?_
            refine RegV.p0 rfl rfl rfl ?_
            refine RegV.p0 rfl rfl rfl ?_
            refine RegV.p0 (v := (.ptr 0 2)) rfl rfl rfl ?_
            refine RegV.evN (own := false) (H' := [(0, (.cells [(.d (.sl (List.map byteD a0))), (.d (.int .i64 a1)), (.d (.int .i64 (5 : Int)))]))]) (c' := 1) rfl rfl (by exact ⟨rfl, Nat.le_of_ble_eq_true rfl, rfl⟩) rfl rfl rfl rfl ?_
            refine RegV.nil0 ?_
            exact ⟨(5 : Int), h, ⟨rfl, [], [], rfl, rfl, ⟨⟨_, rfl, (.refl _)⟩, rfl, ⟨⟨_, rfl, (.refl _)⟩, rfl, ⟨⟨_, rfl, (.refl _)⟩, rfl, trivial⟩⟩⟩, ⟨⟨_, rfl, (.refl _)⟩, rfl, rfl, trivial⟩⟩⟩
          · have h := cond_neg c76 h
            refine AWc.seq ?_
            refine AWc.rg hmix rfl rfl ?_
            refine RegV.p0 rfl rfl rfl ?_
            refine RegV.p0 rfl rfl rfl ?_
            refine RegV.p0 rfl rfl rfl ?_
            refine RegV.p0 (v := (.ptr 0 0)) rfl rfl rfl ?_
            refine RegV.ld (v := (.d (.sl (List.map byteD a0)))) (H' := [(0, (.cells [(.d (.sl (List.map byteD a0))), (.d (.int .i64 a1)), (.d (.int .i64 a2))]))]) rfl rfl trivial rfl rfl rfl rfl rfl ?_
            refine RegV.len (xs := a0) (e := byteD) rfl rfl rfl rfl ?_
            refine RegV.p0 rfl rfl rfl ?_
            refine RegV.p0 rfl rfl rfl ?_
            refine RegV.p0 (v := (.ptr 0 1)) rfl rfl rfl ?_
            refine RegV.ld (v := (.d (.int .i64 a1))) (H' := [(0, (.cells [(.d (.sl (List.map byteD a0))), (.d (.int .i64 a1)), (.d (.int .i64 a2))]))]) rfl rfl trivial rfl rfl rfl rfl rfl ?_
            refine RegV.p0 (v := (.d (.int .i64 (IntKind.i64.wrap (((a0.length : Nat) : Int) - a1))))) rfl rfl rfl ?_
            refine RegV.p0 rfl rfl rfl ?_
            refine RegV.p0 (v := (.d (.int .i64 (IntKind.i64.wrap ((IntKind.i64.wrap (((a0.length : Nat) : Int) - a1)) - r25.2.1))))) rfl rfl rfl ?_
            refine RegV.p0 (v := (.d (.bool (decide (r37 > (IntKind.i64.wrap ((IntKind.i64.wrap (((a0.length : Nat) : Int) - a1)) - r25.2.1))))))) rfl rfl rfl ?_
            refine RegV.p0 rfl rfl rfl ?_
            refine RegV.nil1 (by kernel_rfl) ?_
            refine AWc.cond rfl (fun c101 => ?_) (fun c101 => ?_)
            · have h := cond_pos c101 h
              refine AWc.rg hmix rfl rfl ?_
              refine RegV.p0 rfl rfl rfl ?_
              refine RegV.p0 rfl rfl rfl ?_
              refine RegV.p0 (v := (.ptr 0 2)) rfl rfl rfl ?_
              refine RegV.evN (own := false) (H' := [(0, (.cells [(.d (.sl (List.map byteD a0))), (.d (.int .i64 a1)), (.d (.int .i64 (3 : Int)))]))]) (c' := 1) rfl rfl (by exact ⟨rfl, Nat.le_of_ble_eq_true rfl, rfl⟩) rfl rfl rfl rfl ?_
              refine RegV.nil0 ?_
              exact ⟨(3 : Int), h, ⟨rfl, [], [], rfl, rfl, ⟨⟨_, rfl, (.refl _)⟩, rfl, ⟨⟨_, rfl, (.refl _)⟩, rfl, ⟨⟨_, rfl, (.refl _)⟩, rfl, trivial⟩⟩⟩, ⟨⟨_, rfl, (.refl _)⟩, rfl, rfl, trivial⟩⟩⟩
            · have h := cond_neg c101 h
              refine AWc.skip ?_
              exact ⟨a2, h, ⟨rfl, [], [], rfl, rfl, ⟨⟨_, rfl, (.refl _)⟩, rfl, ⟨⟨_, rfl, (.refl _)⟩, rfl, ⟨⟨_, rfl, (.refl _)⟩, rfl, trivial⟩⟩⟩, ⟨⟨_, rfl, (.refl _)⟩, rfl, rfl, trivial⟩⟩⟩
    · intro j109_1 h
      unfold f48_j109 at h
      refine AWc.seq ?_
      refine AWc.seq ?_
      refine AWc.rg hmix rfl rfl ?_
      refine RegV.p0 rfl rfl rfl ?_
      refine RegV.p0 rfl rfl rfl ?_
      refine RegV.p0 (v := (.ptr 0 2)) rfl rfl rfl ?_
      refine RegV.ld (v := (.d (.int .i64 j109_1))) (H' := [(0, (.cells [(.d (.sl (List.map byteD a0))), (.d (.int .i64 a1)), (.d (.int .i64 j109_1))]))]) rfl rfl trivial rfl rfl rfl rfl rfl ?_
      refine RegV.p0 (v := (.d (.bool (decide (j109_1 ≠ (0 : Int)))))) rfl rfl rfl ?_
      refine RegV.nil0 ?_
      refine AWc.cond rfl (fun c118 => ?_) (fun c118 => ?_)
      · have h := cond_pos c118 h
        refine AWc.seq ?_
        refine AWc.rg hmix rfl rfl ?_
        refine RegV.p0 rfl rfl rfl ?_
        refine RegV.nil0 ?_
        have hr := Option.some.inj h
        subst hr
        exact AWc.ret (canQ (N := 90) (k := 2) (l' := [(4, (.ap 1 1 (List.map byteD ([] : List UInt8))))]) (H' := [(1, (.tok ((List.map byteD ([] : List UInt8)).length * 1))), (0, (.cells [(.d (.sl (List.map byteD a0))), (.d (.int .i64 a1)), (.d (.int .i64 j109_1))]))]) rfl ⟨rfl, [.tok 0], [(1, 1)], rfl, rfl, ⟨⟨_, rfl, .nil⟩, rfl, trivial⟩, ⟨⟨_, rfl, (.refl _)⟩, rfl, rfl, ⟨⟨_, rfl, (.refl _)⟩, rfl, rfl, trivial⟩⟩⟩ (doneA (.inr rfl) rfl ⟨trivial, trivial⟩ (.refl _) (hasCons rfl (hasCons rfl hasNil))))
      · have h := cond_neg c118 h
        refine AWc.skip ?_
        refine AWc.seq ?_
        refine AWc.rg hmix rfl rfl ?_
        refine RegV.p0 rfl rfl rfl ?_
        refine RegV.p0 rfl rfl rfl ?_
        refine RegV.p0 (v := (.ptr 0 1)) rfl rfl rfl ?_
        refine RegV.ld (v := (.d (.int .i64 a1))) (H' := [(0, (.cells [(.d (.sl (List.map byteD a0))), (.d (.int .i64 a1)), (.d (.int .i64 j109_1))]))]) rfl rfl trivial rfl rfl rfl rfl rfl ?_
        refine RegV.p0 rfl rfl rfl ?_
        refine RegV.p0 (v := (.d (.int .i64 (IntKind.i64.wrap (a1 + r25.2.1))))) rfl rfl rfl ?_
        refine RegV.p0 rfl rfl rfl ?_
        refine RegV.nil0 ?_
        refine AWc.seq ?_
        refine AWc.rg hmix rfl rfl ?_
        refine RegV.p0 rfl rfl rfl ?_
        refine RegV.p0 rfl rfl rfl ?_
        refine RegV.p0 rfl rfl rfl ?_
        refine RegV.p0 (v := (.d (.int .i64 (IntKind.i64.wrap ((IntKind.i64.wrap (a1 + r25.2.1)) + r37))))) rfl rfl rfl ?_
        refine RegV.p0 rfl rfl rfl ?_
        refine RegV.p0 (v := (.ptr 0 1)) rfl rfl rfl ?_
        refine RegV.evN (own := false) (H' := [(0, (.cells [(.d (.sl (List.map byteD a0))), (.d (.int .i64 (IntKind.i64.wrap ((IntKind.i64.wrap (a1 + r25.2.1)) + r37)))), (.d (.int .i64 j109_1))]))]) (c' := 1) rfl rfl (by exact ⟨rfl, Nat.le_of_ble_eq_true rfl, rfl⟩) rfl rfl rfl rfl ?_
        refine RegV.nil0 ?_
        refine AWc.seq ?_
        refine AWc.rg hmix rfl rfl ?_
        refine RegV.p0 rfl rfl rfl ?_
        refine RegV.p0 rfl rfl rfl ?_
        refine RegV.p0 (v := (.ptr 0 0)) rfl rfl rfl ?_
        refine RegV.ld (v := (.d (.sl (List.map byteD a0)))) (H' := [(0, (.cells [(.d (.sl (List.map byteD a0))), (.d (.int .i64 (IntKind.i64.wrap ((IntKind.i64.wrap (a1 + r25.2.1)) + r37)))), (.d (.int .i64 j109_1))]))]) rfl rfl trivial rfl rfl rfl rfl rfl ?_
        refine RegV.p0 rfl rfl rfl ?_
        refine RegV.p0 rfl rfl rfl ?_
        refine RegV.p0 rfl rfl rfl ?_
        refine RegV.p0 (v := (.ptr 0 1)) rfl rfl rfl ?_
        refine RegV.ld (v := (.d (.int .i64 (IntKind.i64.wrap ((IntKind.i64.wrap (a1 + r25.2.1)) + r37))))) (H' := [(0, (.cells [(.d (.sl (List.map byteD a0))), (.d (.int .i64 (IntKind.i64.wrap ((IntKind.i64.wrap (a1 + r25.2.1)) + r37)))), (.d (.int .i64 j109_1))]))]) rfl rfl trivial rfl rfl rfl rfl rfl ?_
        obtain ⟨b157, h⟩ := gd_some h
        refine RegV.slc (xs := a0) (e := byteD) (lo := (IntKind.i64.wrap (a1 + r25.2.1))) (hi := (IntKind.i64.wrap ((IntKind.i64.wrap (a1 + r25.2.1)) + r37))) rfl rfl rfl b157 (fun _ => rfl) rfl ?_
        obtain ⟨b158, h⟩ := gd_some h
        refine RegV.appN (ys := (sl a0 (IntKind.i64.wrap (a1 + r25.2.1)) (IntKind.i64.wrap ((IntKind.i64.wrap (a1 + r25.2.1)) + r37)))) (e := byteD) rfl rfl rfl (fun _ => rfl) rfl rfl b158 rfl rfl ?_
        refine RegV.p0 rfl rfl rfl ?_
        refine RegV.nil1 (by kernel_rfl) ?_
        have hr := Option.some.inj h
        subst hr
        exact AWc.ret (canQ (N := 90) (k := 2) (l' := [(4, (.ap 1 1 (List.map byteD (sl a0 (IntKind.i64.wrap (a1 + r25.2.1)) (IntKind.i64.wrap ((IntKind.i64.wrap (a1 + r25.2.1)) + r37))))))]) (H' := [(1, (.tok ((List.map byteD (sl a0 (IntKind.i64.wrap (a1 + r25.2.1)) (IntKind.i64.wrap ((IntKind.i64.wrap (a1 + r25.2.1)) + r37)))).length * 1))), (0, (.cells [(.d (.sl (List.map byteD a0))), (.d (.int .i64 (IntKind.i64.wrap ((IntKind.i64.wrap (a1 + r25.2.1)) + r37)))), (.d (.int .i64 j109_1))]))]) rfl ⟨rfl, [], [], rfl, rfl, ⟨⟨_, rfl, (.refl _)⟩, rfl, trivial⟩, ⟨⟨_, rfl, (.refl _)⟩, rfl, rfl, ⟨⟨_, rfl, (.refl _)⟩, rfl, rfl, trivial⟩⟩⟩ (doneA (.inr rfl) rfl ⟨trivial, trivial⟩ (.refl _) (hasCons rfl (hasCons rfl hasNil))))
/-- (*courant/courantref01.Reader).End -/
def C51 (N : Nat → Nat) : AFunc := { n := 24, params := 1, res := [.tmp 2], body :=
 (.seq (.region false [⟨(some 2), .mv (.k (.d (.int .i64 0))), none, []⟩])
  (.seq (.seq (.region true [⟨(some 3), .mv (.t 0), none, []⟩,
     ⟨(some 4), .nilchk (.t 3), none, [0]⟩,
     ⟨(some 5), .faddr (.t 4) 2, none, [1]⟩,
     ⟨(some 6), .load (.t 5) 1 false, none, [2]⟩,
     ⟨(some 7), .bin .eql (.t 6) (.k (.d (.int .i64 0))), none, [3]⟩,
     ⟨(some 8), .mv (.t 7), none, [4]⟩,
     ⟨(some 9), .mv (.t 0), (some (8, true)), [5]⟩,
     ⟨(some 10), .nilchk (.t 9), (some (8, true)), [6, 5]⟩,
     ⟨(some 11), .faddr (.t 10) 1, (some (8, true)), [7, 5]⟩,
     ⟨(some 12), .load (.t 11) 1 false, (some (8, true)), [8, 5]⟩,
     ⟨(some 13), .mv (.t 0), (some (8, true)), [5]⟩,
     ⟨(some 14), .nilchk (.t 13), (some (8, true)), [10, 5]⟩,
     ⟨(some 15), .faddr (.t 14) 0, (some (8, true)), [11, 5]⟩,
     ⟨(some 16), .load (.t 15) 1 false, (some (8, true)), [12, 5]⟩,
     ⟨(some 17), .len (.t 16), (some (8, true)), [13, 5]⟩,
     ⟨(some 18), .bin .lss (.t 12) (.t 17), (some (8, true)), [9, 14, 5]⟩,
     ⟨(some 19), .pick (.t 8) (.t 18) (.k (.d (.bool false))), none, [5, 15]⟩])
    (.cond (.t 19) (.seq (.region false [⟨(some 2), .mv (.k (.d (.int .i64 4))), none, []⟩])
      .ret)
     (.skip)))
   (.seq (.region false [⟨(some 20), .mv (.t 0), none, []⟩,
     ⟨(some 21), .nilchk (.t 20), none, [0]⟩,
     ⟨(some 22), .faddr (.t 21) 2, none, [1]⟩,
     ⟨(some 23), .load (.t 22) 1 false, none, [2]⟩,
     ⟨(some 2), .mv (.t 23), none, [3, 0, 1, 2]⟩])
    .ret))) }
def HC51 (P : Program) (N : Nat → Nat) : Prop := HasF P (N 51) (C51 N)
def f51_j33 (k : Nat) (a2 : Int) : Option Int := some a2
def f51 (k : Nat) (a0 : (List UInt8)) (a1 : Int) (a2 : Int) : Option Int := cond (decide (a2 = (0 : Int))) (cond (decide (a1 < ((a0.length : Nat) : Int))) (some (4 : Int)) (f51_j33 k a2)) (f51_j33 k a2)
theorem F51 {P : Program} {N : Nat → Nat} (hmix : P.follows .mixedOrders = true) (hc : HC51 P N) {k : Nat} {a0 : (List UInt8)} {a1 : Int} {a2 : Int} {r : Int} (h : f51 k a0 a1 a2 = some r) :
    ACalls P (N 51) [(.ptr 0 0)] [(0, (.cells [(.d (.sl (List.map byteD a0))), (.d (.int .i64 a1)), (.d (.int .i64 a2))]))] (.d (.int .i64 r)) [(0, (.cells [(.d (.sl (List.map byteD a0))), (.d (.int .i64 a1)), (.d (.int .i64 a2))]))] := by
  refine acalls_canon (F := C51 N) hc 1 1 rfl ?_
  unfold f51 at h
  dsimp only [C51, startL]
  refine AWc.seq ?_
  refine AWc.rg hmix rfl rfl ?_
  refine RegV.p0 rfl rfl rfl ?_
  refine RegV.nil0 ?_
  refine AWc.seqS (N := 24) 1 (fun (z : Unit) => [(0, (.ptr 0 0))]) (fun z => [(0, (.cells [(.d (.sl (List.map byteD a0))), (.d (.int .i64 a1)), (.d (.int .i64 a2))]))]) (fun z => f51_j33 k a2 = some r) rfl_le ?_ ?_
  · refine AWc.seq ?_
    refine AWc.rg hmix rfl rfl ?_
    refine RegV.p0 rfl rfl rfl ?_
    refine RegV.p0 rfl rfl rfl ?_
    refine RegV.p0 (v := (.ptr 0 2)) rfl rfl rfl ?_
    refine RegV.ld (v := (.d (.int .i64 a2))) (H' := [(0, (.cells [(.d (.sl (List.map byteD a0))), (.d (.int .i64 a1)), (.d (.int .i64 a2))]))]) rfl rfl trivial rfl rfl rfl rfl rfl ?_
    refine RegV.p0 (v := (.d (.bool (decide (a2 = (0 : Int)))))) rfl rfl rfl ?_
    refine RegV.p0 rfl rfl rfl ?_
    refine RegV.split (fun c14 => ?_) (fun c14 => ?_)
    · have h := cond_pos c14 h
      refine RegV.p0 rfl rfl rfl ?_
      refine RegV.p0 rfl rfl rfl ?_
      refine RegV.p0 (v := (.ptr 0 1)) rfl rfl rfl ?_
      refine RegV.ld (v := (.d (.int .i64 a1))) (H' := [(0, (.cells [(.d (.sl (List.map byteD a0))), (.d (.int .i64 a1)), (.d (.int .i64 a2))]))]) rfl rfl trivial rfl rfl rfl rfl rfl ?_
      refine RegV.p0 rfl rfl rfl ?_
      refine RegV.p0 rfl rfl rfl ?_
      refine RegV.p0 (v := (.ptr 0 0)) rfl rfl rfl ?_
      refine RegV.ld (v := (.d (.sl (List.map byteD a0)))) (H' := [(0, (.cells [(.d (.sl (List.map byteD a0))), (.d (.int .i64 a1)), (.d (.int .i64 a2))]))]) rfl rfl trivial rfl rfl rfl rfl rfl ?_
      refine RegV.len (xs := a0) (e := byteD) rfl rfl rfl rfl ?_
      refine RegV.p0 (v := (.d (.bool (decide (a1 < ((a0.length : Nat) : Int)))))) rfl rfl rfl ?_
      refine RegV.p0 rfl rfl rfl ?_
      refine RegV.nil1 (by kernel_rfl) ?_
      refine AWc.cond rfl (fun c26 => ?_) (fun c26 => ?_)
      · have h := cond_pos c26 h
        refine AWc.seq ?_
        refine AWc.rg hmix rfl rfl ?_
        refine RegV.p0 rfl rfl rfl ?_
        refine RegV.nil0 ?_
        have hr := Option.some.inj h
        subst hr
        exact AWc.ret (canQ (N := 24) (k := 1) (l' := [(2, (.d (.int .i64 (4 : Int))))]) (H' := [(0, (.cells [(.d (.sl (List.map byteD a0))), (.d (.int .i64 a1)), (.d (.int .i64 a2))]))]) rfl ⟨rfl, [], [], rfl, rfl, ⟨⟨_, rfl, (.refl _)⟩, rfl, trivial⟩, ⟨⟨_, rfl, (.refl _)⟩, rfl, rfl, trivial⟩⟩ (doneA (.inr rfl) rfl ⟨trivial, trivial⟩ (.refl _) (hasCons rfl hasNil)))
      · have h := cond_neg c26 h
        refine AWc.skip ?_
        exact ⟨(), h, ⟨rfl, [], [], rfl, rfl, ⟨⟨_, rfl, (.refl _)⟩, rfl, trivial⟩, ⟨⟨_, rfl, (.refl _)⟩, rfl, rfl, trivial⟩⟩⟩
    · have h := cond_neg c14 h
      refine RegV.noS rfl rfl ?_
      refine RegV.noS rfl rfl ?_
      refine RegV.noS rfl rfl ?_
      refine RegV.noS rfl rfl ?_
      refine RegV.noS rfl rfl ?_
      refine RegV.noS rfl rfl ?_
      refine RegV.noS rfl rfl ?_
      refine RegV.noS rfl rfl ?_
      refine RegV.noS rfl rfl ?_
      refine RegV.noS rfl rfl ?_
      refine RegV.p0 rfl rfl rfl ?_
      refine RegV.nil1 (by kernel_rfl) ?_
      refine AWc.cond rfl (fun hc => by cases hc) (fun _ => ?_)
      refine AWc.skip ?_
      exact ⟨(), h, ⟨rfl, [], [], rfl, rfl, ⟨⟨_, rfl, (.refl _)⟩, rfl, trivial⟩, ⟨⟨_, rfl, (.refl _)⟩, rfl, rfl, trivial⟩⟩⟩
  · rintro ⟨⟩ h
    unfold f51_j33 at h
    refine AWc.seq ?_
    refine AWc.rg hmix rfl rfl ?_
    refine RegV.p0 rfl rfl rfl ?_
    refine RegV.p0 rfl rfl rfl ?_
    refine RegV.p0 (v := (.ptr 0 2)) rfl rfl rfl ?_
    refine RegV.ld (v := (.d (.int .i64 a2))) (H' := [(0, (.cells [(.d (.sl (List.map byteD a0))), (.d (.int .i64 a1)), (.d (.int .i64 a2))]))]) rfl rfl trivial rfl rfl rfl rfl rfl ?_
    refine RegV.p0 rfl rfl rfl ?_
    refine RegV.nil0 ?_
    have hr := Option.some.inj h
    subst hr
    exact AWc.ret (canQ (N := 24) (k := 1) (l' := [(2, (.d (.int .i64 a2)))]) (H' := [(0, (.cells [(.d (.sl (List.map byteD a0))), (.d (.int .i64 a1)), (.d (.int .i64 a2))]))]) rfl ⟨rfl, [], [], rfl, rfl, ⟨⟨_, rfl, (.refl _)⟩, rfl, trivial⟩, ⟨⟨_, rfl, (.refl _)⟩, rfl, rfl, trivial⟩⟩ (doneA (.inr rfl) rfl ⟨trivial, trivial⟩ (.refl _) (hasCons rfl hasNil)))
/-- courant/courantref27.TakeReply -/
def C64 (N : Nat → Nat) : AFunc := { n := 82, params := 1, res := [.cell 2 6 true, .tmp 3], body :=
 (.seq (.region false [⟨(some 2), .alloc [(.int .i64 0), (.int .i64 0), (.int .i64 0), (.int .u64 0), (.str []), (.sl [])], none, []⟩,
   ⟨(some 3), .mv (.k (.d (.int .i64 0))), none, []⟩])
  (.seq (.region false [⟨(some 10), .mv (.t 0), none, []⟩,
    ⟨(some 11), .call (.k (.d (.fn (N 44)))) [(.t 10)], none, [0]⟩,
    ⟨(some 4), .mv (.t 11), none, [1, 0]⟩])
   (.seq (.region false [⟨(some 12), .mv (.t 4), none, []⟩,
     ⟨(some 13), .call (.k (.d (.fn (N 47)))) [(.t 12)], none, [0]⟩,
     ⟨(some 14), .build [(.int .i64 0), (.int .i64 0), (.int .i64 0), (.int .u64 0), (.str []), (.sl [])] [(0, 1, (.t 13))], none, [1]⟩,
     ⟨(some 5), .alloc [(.int .i64 0), (.int .i64 0), (.int .i64 0), (.int .u64 0), (.str []), (.sl [])], none, []⟩,
     ⟨none, .store (.t 5) (.t 14) 6, none, [3, 2, 1, 0]⟩])
    (.seq (.region false [⟨(some 15), .mv (.t 4), none, []⟩,
      ⟨(some 16), .call (.k (.d (.fn (N 47)))) [(.t 15)], none, [0]⟩,
      ⟨(some 17), .mv (.t 4), none, []⟩,
      ⟨(some 18), .call (.k (.d (.fn (N 47)))) [(.t 17)], none, [2, 1]⟩,
      ⟨(some 19), .faddr (.t 5) 1, none, [0, 1]⟩,
      ⟨none, .store (.t 19) (.t 16) 1, none, [4, 1, 3, 0]⟩,
      ⟨(some 20), .faddr (.t 5) 2, none, [0, 1, 2, 3, 4, 5]⟩,
      ⟨none, .store (.t 20) (.t 18) 1, none, [6, 3, 5, 0, 1, 2, 4]⟩])
     (.seq (.region false [⟨(some 21), .mv (.t 4), none, []⟩,
       ⟨(some 22), .call (.k (.d (.fn (N 46)))) [(.t 21)], none, [0]⟩,
       ⟨(some 23), .faddr (.t 5) 3, none, [0, 1]⟩,
       ⟨none, .store (.t 23) (.t 22) 1, none, [2, 1, 0]⟩])
      (.seq (.region false [⟨(some 24), .mv (.t 4), none, []⟩,
        ⟨(some 25), .call (.k (.d (.fn (N 48)))) [(.t 24), (.k (.d (.int .i64 20000)))], none, [0]⟩,
        ⟨(some 26), .bs2s (.t 25), none, [1]⟩,
        ⟨(some 27), .faddr (.t 5) 4, none, [0, 1, 2]⟩,
        ⟨none, .store (.t 27) (.t 26) 1, none, [3, 2, 1, 0]⟩])
       (.seq (.region false [⟨(some 28), .mv (.t 4), none, []⟩,
         ⟨(some 29), .call (.k (.d (.fn (N 47)))) [(.t 28)], none, [0]⟩,
         ⟨(some 6), .mv (.t 29), none, [1, 0]⟩])
        (.seq (.block 0 (.seq (.region false [⟨(some 31), .mv (.t 4), none, []⟩,
            ⟨(some 32), .nilchk (.t 31), none, [0]⟩,
            ⟨(some 33), .faddr (.t 32) 2, none, [1]⟩,
            ⟨(some 34), .load (.t 33) 1 false, none, [2]⟩,
            ⟨(some 35), .bin .neq (.t 34) (.k (.d (.int .i64 0))), none, [3]⟩,
            ⟨(some 30), .mv (.t 35), none, [4]⟩])
           (.cond (.t 30) (.seq (.region true [⟨(some 36), .build [(.int .i64 0), (.int .i64 0), (.int .i64 0), (.int .u64 0), (.str []), (.sl [])] [], none, []⟩,
              ⟨(some 37), .mv (.t 4), none, []⟩,
              ⟨(some 38), .nilchk (.t 37), none, [1]⟩,
              ⟨(some 39), .faddr (.t 38) 2, none, [2]⟩,
              ⟨(some 40), .load (.t 39) 1 false, none, [3]⟩,
              ⟨none, .store (.t 2) (.t 36) 6, none, [0]⟩,
              ⟨(some 3), .mv (.t 40), none, [4, 5, 0, 1, 2, 3]⟩])
             .ret)
            (.seq (.region false [⟨(some 42), .mv (.t 6), none, []⟩,
              ⟨(some 43), .bin .lss (.t 42) (.k (.d (.int .i64 0))), none, [0]⟩,
              ⟨(some 41), .mv (.t 43), none, [1]⟩])
             (.cond (.t 41) (.seq (.region false [⟨(some 44), .build [(.int .i64 0), (.int .i64 0), (.int .i64 0), (.int .u64 0), (.str []), (.sl [])] [], none, []⟩,
                ⟨none, .store (.t 2) (.t 44) 6, none, [0]⟩,
                ⟨(some 3), .mv (.k (.d (.int .i64 4))), none, [1, 0]⟩])
               .ret)
              (.seq (.region false [⟨(some 46), .mv (.t 6), none, []⟩,
                ⟨(some 47), .bin .gtr (.t 46) (.k (.d (.int .i64 50))), none, [0]⟩,
                ⟨(some 45), .mv (.t 47), none, [1]⟩])
               (.cond (.t 45) (.seq (.region false [⟨(some 48), .build [(.int .i64 0), (.int .i64 0), (.int .i64 0), (.int .u64 0), (.str []), (.sl [])] [], none, []⟩,
                  ⟨none, .store (.t 2) (.t 48) 6, none, [0]⟩,
                  ⟨(some 3), .mv (.k (.d (.int .i64 5))), none, [1, 0]⟩])
                 .ret)
                (.skip))))))))
         (.seq (.seq (.region false [⟨(some 7), .mv (.k (.d (.int .i64 0))), none, []⟩])
           (.block 1 (.loop (.seq (.seq (.region false [⟨(some 49), .mv (.t 7), none, []⟩,
                ⟨(some 50), .mv (.t 6), none, []⟩,
                ⟨(some 51), .bin .lss (.t 49) (.t 50), none, [0, 1]⟩])
               (.cond (.t 51) (.skip)
                (.exit 1)))
              (.seq (.block 2 (.seq (.region false [⟨(some 54), .mv (.t 4), none, []⟩,
                  ⟨(some 55), .call (.k (.d (.fn (N 46)))) [(.t 54)], none, [0]⟩,
                  ⟨(some 56), .build [(.int .u64 0), (.int .u64 0), (.int .u64 0), (.int .i64 0), (.sl [])] [(0, 1, (.t 55))], none, [1]⟩,
                  ⟨(some 8), .alloc [(.int .u64 0), (.int .u64 0), (.int .u64 0), (.int .i64 0), (.sl [])], none, []⟩,
                  ⟨none, .store (.t 8) (.t 56) 5, none, [3, 2, 1, 0]⟩])
                 (.seq (.region false [⟨(some 57), .mv (.t 4), none, []⟩,
                   ⟨(some 58), .call (.k (.d (.fn (N 46)))) [(.t 57)], none, [0]⟩,
                   ⟨(some 59), .mv (.t 4), none, []⟩,
                   ⟨(some 60), .call (.k (.d (.fn (N 46)))) [(.t 59)], none, [2, 1]⟩,
                   ⟨(some 61), .faddr (.t 8) 1, none, [0, 1]⟩,
                   ⟨none, .store (.t 61) (.t 58) 1, none, [4, 1, 3, 0]⟩,
                   ⟨(some 62), .faddr (.t 8) 2, none, [0, 1, 2, 3, 4, 5]⟩,
                   ⟨none, .store (.t 62) (.t 60) 1, none, [6, 3, 5, 0, 1, 2, 4]⟩])
                  (.seq (.region false [⟨(some 63), .mv (.t 4), none, []⟩,
                    ⟨(some 64), .call (.k (.d (.fn (N 47)))) [(.t 63)], none, [0]⟩,
                    ⟨(some 65), .faddr (.t 8) 3, none, [0, 1]⟩,
                    ⟨none, .store (.t 65) (.t 64) 1, none, [2, 1, 0]⟩])
                   (.seq (.region false [⟨(some 66), .mv (.t 4), none, []⟩,
                     ⟨(some 67), .call (.k (.d (.fn (N 48)))) [(.t 66), (.k (.d (.int .i64 20000)))], none, [0]⟩,
                     ⟨(some 68), .faddr (.t 8) 4, none, [0, 1]⟩,
                     ⟨none, .store (.t 68) (.t 67) 1, none, [2, 1, 0]⟩])
                    (.region false [⟨(some 69), .faddr (.t 5) 5, none, []⟩,
                     ⟨(some 70), .load (.t 69) 1 false, none, [0]⟩,
                     ⟨(some 71), .load (.t 8) 5 true, none, []⟩,
                     ⟨(some 72), .bslice 1 5 [(.int .u64 0), (.int .u64 0), (.int .u64 0), (.int .i64 0), (.sl [])] [(0, (.t 71))], none, [2]⟩,
                     ⟨(some 73), .app (.t 70) (.t 72) 5 56 [(.int .u64 0), (.int .u64 0), (.int .u64 0), (.int .i64 0), (.sl [])], none, [1, 3]⟩,
                     ⟨(some 74), .faddr (.t 5) 5, none, [0, 1, 2, 3, 4]⟩,
                     ⟨none, .store (.t 74) (.t 73) 1, none, [5, 4, 0, 1, 2, 3]⟩]))))))
               (.region false [⟨(some 52), .mv (.t 7), none, []⟩,
                ⟨(some 53), .bin .add (.t 52) (.k (.d (.int .i64 1))), none, [0]⟩,
                ⟨(some 7), .mv (.t 53), none, [1, 0]⟩]))))))
          (.seq (.region false [⟨(some 75), .mv (.t 4), none, []⟩,
            ⟨(some 76), .call (.k (.d (.fn (N 51)))) [(.t 75)], none, [0]⟩,
            ⟨(some 9), .mv (.t 76), none, [1, 0]⟩])
           (.seq (.seq (.region false [⟨(some 77), .mv (.t 9), none, []⟩,
              ⟨(some 78), .bin .neq (.t 77) (.k (.d (.int .i64 0))), none, [0]⟩])
             (.cond (.t 78) (.seq (.region false [⟨(some 79), .build [(.int .i64 0), (.int .i64 0), (.int .i64 0), (.int .u64 0), (.str []), (.sl [])] [], none, []⟩,
                ⟨(some 80), .mv (.t 9), none, []⟩,
                ⟨none, .store (.t 2) (.t 79) 6, none, [0]⟩,
                ⟨(some 3), .mv (.t 80), none, [1, 2, 0]⟩])
               .ret)
              (.skip)))
            (.seq (.region false [⟨(some 81), .load (.t 5) 6 true, none, []⟩,
              ⟨none, .store (.t 2) (.t 81) 6, none, [0]⟩,
              ⟨(some 3), .mv (.k (.d (.int .i64 0))), none, [1, 0]⟩])
             .ret)))))))))))) }
def HC64 (P : Program) (N : Nat → Nat) : Prop := HasF P (N 64) (C64 N) ∧ HC44 P N ∧ HC47 P N ∧ HC46 P N ∧ HC48 P N ∧ HC51 P N
def f64_j170 (k : Nat) (a0 : (List UInt8)) (r16 : (Int × Int × Int)) (r24 : (Int × Int × Int)) (r26 : (Int × Int × Int)) (r35 : (Int × Int × Int)) (r42 : ((List UInt8) × Int × Int)) (j170_1 : Int) (j170_2 : Int) (j170_3 : (List TMessage)) : Option (Int × Int × Int × Int × Int × (List UInt8) × (List TMessage)) := (f51 k a0 j170_1 j170_2).bind fun r174 => cond (decide (r174 ≠ (0 : Int))) (some (r174, (0 : Int), (0 : Int), (0 : Int), (0 : Int), ([] : List UInt8), ([] : List TMessage))) (some ((0 : Int), r16.1, r24.1, r26.1, r35.1, r42.1, j170_3))
def f64_l109 (r50 : (Int × Int × Int)) (a0 : (List UInt8)) : Nat → Int → Int → Int → (List TMessage) → Option (LR2 (Int × Int × (List TMessage)) Unit (Int × Int × Int × Int × Int × (List UInt8) × (List TMessage)))
  | 0, _, _, _, _ => none
  | k + 1, y109_1, y109_2, y109_3, y109_4 => cond (decide (y109_1 < r50.1)) ((f46 k a0 y109_2 y109_3).bind fun r127 => (f46 k a0 r127.2.1 r127.2.2).bind fun r135 => (f46 k a0 r135.2.1 r135.2.2).bind fun r137 => (f47 k a0 r137.2.1 r137.2.2).bind fun r146 => (f48 k a0 r146.2.1 r146.2.2 (20000 : Int)).bind fun r153 => gd ((y109_4.length + ([(TMessage.mk r127.1 r135.1 r137.1 r146.1 r153.1)] : List TMessage).length) * 2 * 56 ≤ 281474976710656) (f64_l109 r50 a0 k (IntKind.i64.wrap (y109_1 + (1 : Int))) r153.2.1 r153.2.2 (y109_4 ++ ([(TMessage.mk r127.1 r135.1 r137.1 r146.1 r153.1)] : List TMessage)))) (some (.b0 (y109_2, y109_3, y109_4)))
def f64 (k : Nat) (a0 : (List UInt8)) : Option (Int × Int × Int × Int × Int × (List UInt8) × (List TMessage)) := (f44 k a0).bind fun r10 => (f47 k a0 (0 : Int) (0 : Int)).bind fun r16 => (f47 k a0 r16.2.1 r16.2.2).bind fun r24 => (f47 k a0 r24.2.1 r24.2.2).bind fun r26 => (f46 k a0 r26.2.1 r26.2.2).bind fun r35 => (f48 k a0 r35.2.1 r35.2.2 (20000 : Int)).bind fun r42 => (f47 k a0 r42.2.1 r42.2.2).bind fun r50 => cond (decide (r50.2.2 ≠ (0 : Int))) (some (r50.2.2, (0 : Int), (0 : Int), (0 : Int), (0 : Int), ([] : List UInt8), ([] : List TMessage))) (cond (decide (r50.1 < (0 : Int))) (some ((4 : Int), (0 : Int), (0 : Int), (0 : Int), (0 : Int), ([] : List UInt8), ([] : List TMessage))) (cond (decide (r50.1 > (50 : Int))) (some ((5 : Int), (0 : Int), (0 : Int), (0 : Int), (0 : Int), ([] : List UInt8), ([] : List TMessage))) ((f64_l109 r50 a0 k (0 : Int) r50.2.1 r50.2.2 ([] : List TMessage)).bind fun o109 => match o109 with | .b0 (x109_1, x109_2, x109_3) => f64_j170 k a0 r16 r24 r26 r35 r42 x109_1 x109_2 x109_3 | _ => none)))
theorem F64 {P : Program} {N : Nat → Nat} (hmix : P.follows .mixedOrders = true) (hc : HC64 P N) {k : Nat} {a0 : (List UInt8)} {r : (Int × Int × Int × Int × Int × (List UInt8) × (List TMessage))} (h : f64 k a0 = some r) :
    ACalls P (N 64) [(.d (.sl (List.map byteD a0)))] [] (.tup [(.d (.agg [(.int .i64 r.2.1), (.int .i64 r.2.2.1), (.int .i64 r.2.2.2.1), (.int .u64 r.2.2.2.2.1), (.str r.2.2.2.2.2.1), (.sl (List.map TMessage.enc r.2.2.2.2.2.2))])), (.d (.int .i64 r.1))]) [] := by
  refine acalls_canon (F := C64 N) hc.1 0 0 rfl ?_
  unfold f64 at h
  dsimp only [C64, startL]
  refine AWc.seq ?_
  refine AWc.rg hmix rfl rfl ?_
  refine RegV.evS (own := false) (v := (.ptr 0 0)) (H' := [(0, (.cells [(.d (.int .i64 (0 : Int))), (.d (.int .i64 (0 : Int))), (.d (.int .i64 (0 : Int))), (.d (.int .u64 (0 : Int))), (.d (.str ([] : List UInt8))), .nils]))]) (c' := 1) rfl rfl trivial rfl rfl rfl rfl rfl rfl ?_
  refine RegV.p0 rfl rfl rfl ?_
  refine RegV.nil0 ?_
  refine AWc.seq ?_
  refine AWc.rg hmix rfl rfl ?_
  refine RegV.p0 rfl rfl rfl ?_
  obtain ⟨r10, e10, h⟩ := bind_some h
  refine RegV.callS (q := false) (H' := [(1, (.cells [(.d (.sl (List.map byteD a0))), (.d (.int .i64 (0 : Int))), (.d (.int .i64 (0 : Int)))])), (0, (.cells [(.d (.int .i64 (0 : Int))), (.d (.int .i64 (0 : Int))), (.d (.int .i64 (0 : Int))), (.d (.int .u64 (0 : Int))), (.d (.str ([] : List UInt8))), .nils]))]) (c' := 2) (show ACalls P (N 44) [(.d (.sl (List.map byteD a0)))] [] (.ptr 1 0) [(1, (.cells [(.d (.sl (List.map byteD a0))), (.d (.int .i64 (0 : Int))), (.d (.int .i64 (0 : Int)))]))] from ACalls.use (F44 hmix hc.2.1 e10) [(0, 1)] 1 rfl) rfl rfl rfl rfl (.cons (.refl _) .nil) (.refl _) (fun h => by cases h) rfl hasNil rfl rfl rfl rfl ?_
  refine RegV.p0 rfl rfl rfl ?_
  refine RegV.nil0 ?_
  refine AWc.seq ?_
  refine AWc.rg hmix rfl rfl ?_
  refine RegV.p0 rfl rfl rfl ?_
  obtain ⟨r16, e16, h⟩ := bind_some h
  refine RegV.callS (q := false) (H' := [(1, (.cells [(.d (.sl (List.map byteD a0))), (.d (.int .i64 r16.2.1)), (.d (.int .i64 r16.2.2))])), (0, (.cells [(.d (.int .i64 (0 : Int))), (.d (.int .i64 (0 : Int))), (.d (.int .i64 (0 : Int))), (.d (.int .u64 (0 : Int))), (.d (.str ([] : List UInt8))), .nils]))]) (c' := 2) (show ACalls P (N 47) [(.ptr 1 0)] [(1, (.cells [(.d (.sl (List.map byteD a0))), (.d (.int .i64 (0 : Int))), (.d (.int .i64 (0 : Int)))]))] (.d (.int .i64 r16.1)) [(1, (.cells [(.d (.sl (List.map byteD a0))), (.d (.int .i64 r16.2.1)), (.d (.int .i64 r16.2.2))]))] from ACalls.use (F47 hmix hc.2.2.1 e16) [(0, 1)] 1 rfl) rfl rfl rfl rfl (.cons (.refl _) .nil) (.refl _) (fun h => by cases h) rfl (hasCons rfl hasNil) rfl rfl rfl rfl ?_
  refine RegV.bld (L' := [(.d (.int .i64 r16.1)), (.d (.int .i64 (0 : Int))), (.d (.int .i64 (0 : Int))), (.d (.int .u64 (0 : Int))), (.d (.str ([] : List UInt8))), .nils]) rfl rfl (by exact ⟨⟨rfl, Nat.le_of_ble_eq_true rfl⟩, trivial⟩) rfl rfl ?_
  refine RegV.evS (own := false) (v := (.ptr 2 0)) (H' := [(2, (.cells [(.d (.int .i64 (0 : Int))), (.d (.int .i64 (0 : Int))), (.d (.int .i64 (0 : Int))), (.d (.int .u64 (0 : Int))), (.d (.str ([] : List UInt8))), .nils])), (1, (.cells [(.d (.sl (List.map byteD a0))), (.d (.int .i64 r16.2.1)), (.d (.int .i64 r16.2.2))])), (0, (.cells [(.d (.int .i64 (0 : Int))), (.d (.int .i64 (0 : Int))), (.d (.int .i64 (0 : Int))), (.d (.int .u64 (0 : Int))), (.d (.str ([] : List UInt8))), .nils]))]) (c' := 3) rfl rfl trivial rfl rfl rfl rfl rfl rfl ?_
  refine RegV.evN (own := false) (H' := [(2, (.cells [(.d (.int .i64 r16.1)), (.d (.int .i64 (0 : Int))), (.d (.int .i64 (0 : Int))), (.d (.int .u64 (0 : Int))), (.d (.str ([] : List UInt8))), .nils])), (1, (.cells [(.d (.sl (List.map byteD a0))), (.d (.int .i64 r16.2.1)), (.d (.int .i64 r16.2.2))])), (0, (.cells [(.d (.int .i64 (0 : Int))), (.d (.int .i64 (0 : Int))), (.d (.int .i64 (0 : Int))), (.d (.int .u64 (0 : Int))), (.d (.str ([] : List UInt8))), .nils]))]) (c' := 3) rfl rfl (by exact ⟨rfl, Nat.le_of_ble_eq_true rfl, rfl⟩) rfl rfl rfl rfl ?_
  refine RegV.nil0 ?_
  refine AWc.seq ?_
  refine AWc.rg hmix rfl rfl ?_
  refine RegV.p0 rfl rfl rfl ?_
  obtain ⟨r24, e24, h⟩ := bind_some h
  refine RegV.callS (q := false) (H' := [(1, (.cells [(.d (.sl (List.map byteD a0))), (.d (.int .i64 r24.2.1)), (.d (.int .i64 r24.2.2))])), (2, (.cells [(.d (.int .i64 r16.1)), (.d (.int .i64 (0 : Int))), (.d (.int .i64 (0 : Int))), (.d (.int .u64 (0 : Int))), (.d (.str ([] : List UInt8))), .nils])), (0, (.cells [(.d (.int .i64 (0 : Int))), (.d (.int .i64 (0 : Int))), (.d (.int .i64 (0 : Int))), (.d (.int .u64 (0 : Int))), (.d (.str ([] : List UInt8))), .nils]))]) (c' := 3) (show ACalls P (N 47) [(.ptr 1 0)] [(1, (.cells [(.d (.sl (List.map byteD a0))), (.d (.int .i64 r16.2.1)), (.d (.int .i64 r16.2.2))]))] (.d (.int .i64 r24.1)) [(1, (.cells [(.d (.sl (List.map byteD a0))), (.d (.int .i64 r24.2.1)), (.d (.int .i64 r24.2.2))]))] from ACalls.use (F47 hmix hc.2.2.1 e24) [(0, 1)] 1 rfl) rfl rfl rfl rfl (.cons (.refl _) .nil) (.refl _) (fun h => by cases h) rfl (hasCons rfl hasNil) rfl rfl rfl rfl ?_
  refine RegV.p0 rfl rfl rfl ?_
  obtain ⟨r26, e26, h⟩ := bind_some h
  refine RegV.callS (q := false) (H' := [(1, (.cells [(.d (.sl (List.map byteD a0))), (.d (.int .i64 r26.2.1)), (.d (.int .i64 r26.2.2))])), (2, (.cells [(.d (.int .i64 r16.1)), (.d (.int .i64 (0 : Int))), (.d (.int .i64 (0 : Int))), (.d (.int .u64 (0 : Int))), (.d (.str ([] : List UInt8))), .nils])), (0, (.cells [(.d (.int .i64 (0 : Int))), (.d (.int .i64 (0 : Int))), (.d (.int .i64 (0 : Int))), (.d (.int .u64 (0 : Int))), (.d (.str ([] : List UInt8))), .nils]))]) (c' := 3) (show ACalls P (N 47) [(.ptr 1 0)] [(1, (.cells [(.d (.sl (List.map byteD a0))), (.d (.int .i64 r24.2.1)), (.d (.int .i64 r24.2.2))]))] (.d (.int .i64 r26.1)) [(1, (.cells [(.d (.sl (List.map byteD a0))), (.d (.int .i64 r26.2.1)), (.d (.int .i64 r26.2.2))]))] from ACalls.use (F47 hmix hc.2.2.1 e26) [(0, 1)] 1 rfl) rfl rfl rfl rfl (.cons (.refl _) .nil) (.refl _) (fun h => by cases h) rfl (hasCons rfl hasNil) rfl rfl rfl rfl ?_
  refine RegV.p0 (v := (.ptr 2 1)) rfl rfl rfl ?_
  refine RegV.evN (own := false) (H' := [(2, (.cells [(.d (.int .i64 r16.1)), (.d (.int .i64 r24.1)), (.d (.int .i64 (0 : Int))), (.d (.int .u64 (0 : Int))), (.d (.str ([] : List UInt8))), .nils])), (1, (.cells [(.d (.sl (List.map byteD a0))), (.d (.int .i64 r26.2.1)), (.d (.int .i64 r26.2.2))])), (0, (.cells [(.d (.int .i64 (0 : Int))), (.d (.int .i64 (0 : Int))), (.d (.int .i64 (0 : Int))), (.d (.int .u64 (0 : Int))), (.d (.str ([] : List UInt8))), .nils]))]) (c' := 3) rfl rfl (by exact ⟨rfl, Nat.le_of_ble_eq_true rfl, rfl⟩) rfl rfl rfl rfl ?_
  refine RegV.p0 (v := (.ptr 2 2)) rfl rfl rfl ?_
  refine RegV.evN (own := false) (H' := [(2, (.cells [(.d (.int .i64 r16.1)), (.d (.int .i64 r24.1)), (.d (.int .i64 r26.1)), (.d (.int .u64 (0 : Int))), (.d (.str ([] : List UInt8))), .nils])), (1, (.cells [(.d (.sl (List.map byteD a0))), (.d (.int .i64 r26.2.1)), (.d (.int .i64 r26.2.2))])), (0, (.cells [(.d (.int .i64 (0 : Int))), (.d (.int .i64 (0 : Int))), (.d (.int .i64 (0 : Int))), (.d (.int .u64 (0 : Int))), (.d (.str ([] : List UInt8))), .nils]))]) (c' := 3) rfl rfl (by exact ⟨rfl, Nat.le_of_ble_eq_true rfl, rfl⟩) rfl rfl rfl rfl ?_
  refine RegV.nil0 ?_
  refine AWc.seq ?_
  refine AWc.rg hmix rfl rfl ?_
  refine RegV.p0 rfl rfl rfl ?_
  obtain ⟨r35, e35, h⟩ := bind_some h
  refine RegV.callS (q := false) (H' := [(1, (.cells [(.d (.sl (List.map byteD a0))), (.d (.int .i64 r35.2.1)), (.d (.int .i64 r35.2.2))])), (2, (.cells [(.d (.int .i64 r16.1)), (.d (.int .i64 r24.1)), (.d (.int .i64 r26.1)), (.d (.int .u64 (0 : Int))), (.d (.str ([] : List UInt8))), .nils])), (0, (.cells [(.d (.int .i64 (0 : Int))), (.d (.int .i64 (0 : Int))), (.d (.int .i64 (0 : Int))), (.d (.int .u64 (0 : Int))), (.d (.str ([] : List UInt8))), .nils]))]) (c' := 3) (show ACalls P (N 46) [(.ptr 1 0)] [(1, (.cells [(.d (.sl (List.map byteD a0))), (.d (.int .i64 r26.2.1)), (.d (.int .i64 r26.2.2))]))] (.d (.int .u64 r35.1)) [(1, (.cells [(.d (.sl (List.map byteD a0))), (.d (.int .i64 r35.2.1)), (.d (.int .i64 r35.2.2))]))] from ACalls.use (F46 hmix hc.2.2.2.1 e35) [(0, 1)] 1 rfl) rfl rfl rfl rfl (.cons (.refl _) .nil) (.refl _) (fun h => by cases h) rfl (hasCons rfl hasNil) rfl rfl rfl rfl ?_
  refine RegV.p0 (v := (.ptr 2 3)) rfl rfl rfl ?_
  refine RegV.evN (own := false) (H' := [(2, (.cells [(.d (.int .i64 r16.1)), (.d (.int .i64 r24.1)), (.d (.int .i64 r26.1)), (.d (.int .u64 r35.1)), (.d (.str ([] : List UInt8))), .nils])), (1, (.cells [(.d (.sl (List.map byteD a0))), (.d (.int .i64 r35.2.1)), (.d (.int .i64 r35.2.2))])), (0, (.cells [(.d (.int .i64 (0 : Int))), (.d (.int .i64 (0 : Int))), (.d (.int .i64 (0 : Int))), (.d (.int .u64 (0 : Int))), (.d (.str ([] : List UInt8))), .nils]))]) (c' := 3) rfl rfl (by exact ⟨rfl, Nat.le_of_ble_eq_true rfl, rfl⟩) rfl rfl rfl rfl ?_
  refine RegV.nil0 ?_
  refine AWc.seq ?_
  refine AWc.rg hmix rfl rfl ?_
  refine RegV.p0 rfl rfl rfl ?_
  obtain ⟨r42, e42, h⟩ := bind_some h
  refine RegV.callS (q := false) (H' := [(3, (.tok ((List.map byteD r42.1).length * 1))), (1, (.cells [(.d (.sl (List.map byteD a0))), (.d (.int .i64 r42.2.1)), (.d (.int .i64 r42.2.2))])), (2, (.cells [(.d (.int .i64 r16.1)), (.d (.int .i64 r24.1)), (.d (.int .i64 r26.1)), (.d (.int .u64 r35.1)), (.d (.str ([] : List UInt8))), .nils])), (0, (.cells [(.d (.int .i64 (0 : Int))), (.d (.int .i64 (0 : Int))), (.d (.int .i64 (0 : Int))), (.d (.int .u64 (0 : Int))), (.d (.str ([] : List UInt8))), .nils]))]) (c' := 4) (show ACalls P (N 48) [(.ptr 1 0), (.d (.int .i64 (20000 : Int)))] [(1, (.cells [(.d (.sl (List.map byteD a0))), (.d (.int .i64 r35.2.1)), (.d (.int .i64 r35.2.2))]))] (.ap 3 1 (List.map byteD r42.1)) [(3, (.tok ((List.map byteD r42.1).length * 1))), (1, (.cells [(.d (.sl (List.map byteD a0))), (.d (.int .i64 r42.2.1)), (.d (.int .i64 r42.2.2))]))] from ACalls.use (F48 hmix hc.2.2.2.2.1 e42) [(0, 1), (1, 3)] 2 rfl) rfl rfl rfl rfl (.cons (.refl _) (.cons (.refl _) .nil)) (.refl _) (fun h => by cases h) rfl (hasCons rfl hasNil) rfl rfl rfl rfl ?_
  refine RegV.bs2s (b := r42.1) rfl rfl rfl ?_
  refine RegV.p0 (v := (.ptr 2 4)) rfl rfl rfl ?_
  refine RegV.evN (own := false) (H' := [(2, (.cells [(.d (.int .i64 r16.1)), (.d (.int .i64 r24.1)), (.d (.int .i64 r26.1)), (.d (.int .u64 r35.1)), (.d (.str r42.1)), .nils])), (3, (.tok ((List.map byteD r42.1).length * 1))), (1, (.cells [(.d (.sl (List.map byteD a0))), (.d (.int .i64 r42.2.1)), (.d (.int .i64 r42.2.2))])), (0, (.cells [(.d (.int .i64 (0 : Int))), (.d (.int .i64 (0 : Int))), (.d (.int .i64 (0 : Int))), (.d (.int .u64 (0 : Int))), (.d (.str ([] : List UInt8))), .nils]))]) (c' := 4) rfl rfl (by exact ⟨rfl, Nat.le_of_ble_eq_true rfl, rfl⟩) rfl rfl rfl rfl ?_
  refine RegV.nil0 ?_
  refine AWc.seq ?_
  refine AWc.rg hmix rfl rfl ?_
  refine RegV.p0 rfl rfl rfl ?_
  obtain ⟨r50, e50, h⟩ := bind_some h
  refine RegV.callS (q := false) (H' := [(1, (.cells [(.d (.sl (List.map byteD a0))), (.d (.int .i64 r50.2.1)), (.d (.int .i64 r50.2.2))])), (2, (.cells [(.d (.int .i64 r16.1)), (.d (.int .i64 r24.1)), (.d (.int .i64 r26.1)), (.d (.int .u64 r35.1)), (.d (.str r42.1)), .nils])), (3, (.tok ((List.map byteD r42.1).length * 1))), (0, (.cells [(.d (.int .i64 (0 : Int))), (.d (.int .i64 (0 : Int))), (.d (.int .i64 (0 : Int))), (.d (.int .u64 (0 : Int))), (.d (.str ([] : List UInt8))), .nils]))]) (c' := 4) (show ACalls P (N 47) [(.ptr 1 0)] [(1, (.cells [(.d (.sl (List.map byteD a0))), (.d (.int .i64 r42.2.1)), (.d (.int .i64 r42.2.2))]))] (.d (.int .i64 r50.1)) [(1, (.cells [(.d (.sl (List.map byteD a0))), (.d (.int .i64 r50.2.1)), (.d (.int .i64 r50.2.2))]))] from ACalls.use (F47 hmix hc.2.2.1 e50) [(0, 1)] 1 rfl) rfl rfl rfl rfl (.cons (.refl _) .nil) (.refl _) (fun h => by cases h) rfl (hasCons rfl hasNil) rfl rfl rfl rfl ?_
  refine RegV.p0 rfl rfl rfl ?_
  refine RegV.nil0 ?_
  refine AWc.seq ?_
  refine AWc.block ?_
  refine AWc.seq ?_
  refine AWc.rg hmix rfl rfl ?_
  refine RegV.p0 rfl rfl rfl ?_
  refine RegV.p0 rfl rfl rfl ?_
  refine RegV.p0 (v := (.ptr 1 2)) rfl rfl rfl ?_
  refine RegV.ld (v := (.d (.int .i64 r50.2.2))) (H' := [(1, (.cells [(.d (.sl (List.map byteD a0))), (.d (.int .i64 r50.2.1)), (.d (.int .i64 r50.2.2))])), (2, (.cells [(.d (.int .i64 r16.1)), (.d (.int .i64 r24.1)), (.d (.int .i64 r26.1)), (.d (.int .u64 r35.1)), (.d (.str r42.1)), .nils])), (3, (.tok ((List.map byteD r42.1).length * 1))), (0, (.cells [(.d (.int .i64 (0 : Int))), (.d (.int .i64 (0 : Int))), (.d (.int .i64 (0 : Int))), (.d (.int .u64 (0 : Int))), (.d (.str ([] : List UInt8))), .nils]))]) rfl rfl trivial rfl rfl rfl rfl rfl ?_
  refine RegV.p0 (v := (.d (.bool (decide (r50.2.2 ≠ (0 : Int)))))) rfl rfl rfl ?_
  refine RegV.p0 rfl rfl rfl ?_
  refine RegV.nil0 ?_
  refine AWc.cond rfl (fun c63 => ?_) (fun c63 => ?_)
  · have h := cond_pos c63 h
    refine AWc.seq ?_
    refine AWc.rg hmix rfl rfl ?_
    refine RegV.p1 (v := (.d (.agg [(.int .i64 (0 : Int)), (.int .i64 (0 : Int)), (.int .i64 (0 : Int)), (.int .u64 (0 : Int)), (.str ([] : List UInt8)), (.sl (List.map TMessage.enc ([] : List TMessage)))]))) rfl rfl trivial rfl rfl ?_
    refine RegV.p0 rfl rfl rfl ?_
    refine RegV.p0 rfl rfl rfl ?_
    refine RegV.p0 (v := (.ptr 1 2)) rfl rfl rfl ?_
    refine RegV.ld (v := (.d (.int .i64 r50.2.2))) (H' := [(1, (.cells [(.d (.sl (List.map byteD a0))), (.d (.int .i64 r50.2.1)), (.d (.int .i64 r50.2.2))])), (2, (.cells [(.d (.int .i64 r16.1)), (.d (.int .i64 r24.1)), (.d (.int .i64 r26.1)), (.d (.int .u64 r35.1)), (.d (.str r42.1)), .nils])), (3, (.tok ((List.map byteD r42.1).length * 1))), (0, (.cells [(.d (.int .i64 (0 : Int))), (.d (.int .i64 (0 : Int))), (.d (.int .i64 (0 : Int))), (.d (.int .u64 (0 : Int))), (.d (.str ([] : List UInt8))), .nils]))]) rfl rfl trivial rfl rfl rfl rfl rfl ?_
    refine RegV.evN (own := false) (H' := [(0, (.cells [(.d (.int .i64 (0 : Int))), (.d (.int .i64 (0 : Int))), (.d (.int .i64 (0 : Int))), (.d (.int .u64 (0 : Int))), (.d (.str ([] : List UInt8))), (.d (.sl (List.map TMessage.enc ([] : List TMessage))))])), (1, (.cells [(.d (.sl (List.map byteD a0))), (.d (.int .i64 r50.2.1)), (.d (.int .i64 r50.2.2))])), (2, (.cells [(.d (.int .i64 r16.1)), (.d (.int .i64 r24.1)), (.d (.int .i64 r26.1)), (.d (.int .u64 r35.1)), (.d (.str r42.1)), .nils])), (3, (.tok ((List.map byteD r42.1).length * 1)))]) (c' := 4) rfl rfl (by exact ⟨rfl, Nat.le_of_ble_eq_true rfl, rfl⟩) rfl rfl rfl rfl ?_
    refine RegV.p0 rfl rfl rfl ?_
    refine RegV.nil1 (by kernel_rfl) ?_
    have hr := Option.some.inj h
    subst hr
    exact AWc.ret (canQ (N := 82) (k := 1) (l' := [(2, (.ptr 0 0)), (3, (.d (.int .i64 r50.2.2)))]) (H' := [(0, (.cells [(.d (.int .i64 (0 : Int))), (.d (.int .i64 (0 : Int))), (.d (.int .i64 (0 : Int))), (.d (.int .u64 (0 : Int))), (.d (.str ([] : List UInt8))), (.d (.sl (List.map TMessage.enc ([] : List TMessage))))]))]) rfl ⟨rfl, [], [], rfl, rfl, ⟨⟨_, rfl, (.refl _)⟩, rfl, ⟨⟨_, rfl, (.refl _)⟩, rfl, trivial⟩⟩, ⟨⟨_, rfl, (.refl _)⟩, rfl, rfl, trivial⟩⟩ (doneA (.inr rfl) rfl ⟨(Nat.le_of_ble_eq_true rfl), ⟨trivial, trivial⟩⟩ (.refl _) hasNil))
  · have h := cond_neg c63 h
    refine AWc.seq ?_
    refine AWc.rg hmix rfl rfl ?_
    refine RegV.p0 rfl rfl rfl ?_
    refine RegV.p0 (v := (.d (.bool (decide (r50.1 < (0 : Int)))))) rfl rfl rfl ?_
    refine RegV.p0 rfl rfl rfl ?_
    refine RegV.nil0 ?_
    refine AWc.cond rfl (fun c81 => ?_) (fun c81 => ?_)
    · have h := cond_pos c81 h
      refine AWc.seq ?_
      refine AWc.rg hmix rfl rfl ?_
      refine RegV.p1 (v := (.d (.agg [(.int .i64 (0 : Int)), (.int .i64 (0 : Int)), (.int .i64 (0 : Int)), (.int .u64 (0 : Int)), (.str ([] : List UInt8)), (.sl (List.map TMessage.enc ([] : List TMessage)))]))) rfl rfl trivial rfl rfl ?_
      refine RegV.evN (own := false) (H' := [(0, (.cells [(.d (.int .i64 (0 : Int))), (.d (.int .i64 (0 : Int))), (.d (.int .i64 (0 : Int))), (.d (.int .u64 (0 : Int))), (.d (.str ([] : List UInt8))), (.d (.sl (List.map TMessage.enc ([] : List TMessage))))])), (1, (.cells [(.d (.sl (List.map byteD a0))), (.d (.int .i64 r50.2.1)), (.d (.int .i64 r50.2.2))])), (2, (.cells [(.d (.int .i64 r16.1)), (.d (.int .i64 r24.1)), (.d (.int .i64 r26.1)), (.d (.int .u64 r35.1)), (.d (.str r42.1)), .nils])), (3, (.tok ((List.map byteD r42.1).length * 1)))]) (c' := 4) rfl rfl (by exact ⟨rfl, Nat.le_of_ble_eq_true rfl, rfl⟩) rfl rfl rfl rfl ?_
      refine RegV.p0 rfl rfl rfl ?_
      refine RegV.nil0 ?_
      have hr := Option.some.inj h
      subst hr
      exact AWc.ret (canQ (N := 82) (k := 1) (l' := [(2, (.ptr 0 0)), (3, (.d (.int .i64 (4 : Int))))]) (H' := [(0, (.cells [(.d (.int .i64 (0 : Int))), (.d (.int .i64 (0 : Int))), (.d (.int .i64 (0 : Int))), (.d (.int .u64 (0 : Int))), (.d (.str ([] : List UInt8))), (.d (.sl (List.map TMessage.enc ([] : List TMessage))))]))]) rfl ⟨rfl, [], [], rfl, rfl, ⟨⟨_, rfl, (.refl _)⟩, rfl, ⟨⟨_, rfl, (.refl _)⟩, rfl, trivial⟩⟩, ⟨⟨_, rfl, (.refl _)⟩, rfl, rfl, trivial⟩⟩ (doneA (.inr rfl) rfl ⟨(Nat.le_of_ble_eq_true rfl), ⟨trivial, trivial⟩⟩ (.refl _) hasNil))
    · have h := cond_neg c81 h
      refine AWc.seq ?_
      refine AWc.rg hmix rfl rfl ?_
      refine RegV.p0 rfl rfl rfl ?_
      refine RegV.p0 (v := (.d (.bool (decide (r50.1 > (50 : Int)))))) rfl rfl rfl ?_
      refine RegV.p0 rfl rfl rfl ?_
      refine RegV.nil0 ?_
      refine AWc.cond rfl (fun c95 => ?_) (fun c95 => ?_)
      · have h := cond_pos c95 h
        refine AWc.seq ?_
        refine AWc.rg hmix rfl rfl ?_
        refine RegV.p1 (v := (.d (.agg [(.int .i64 (0 : Int)), (.int .i64 (0 : Int)), (.int .i64 (0 : Int)), (.int .u64 (0 : Int)), (.str ([] : List UInt8)), (.sl (List.map TMessage.enc ([] : List TMessage)))]))) rfl rfl trivial rfl rfl ?_
        refine RegV.evN (own := false) (H' := [(0, (.cells [(.d (.int .i64 (0 : Int))), (.d (.int .i64 (0 : Int))), (.d (.int .i64 (0 : Int))), (.d (.int .u64 (0 : Int))), (.d (.str ([] : List UInt8))), (.d (.sl (List.map TMessage.enc ([] : List TMessage))))])), (1, (.cells [(.d (.sl (List.map byteD a0))), (.d (.int .i64 r50.2.1)), (.d (.int .i64 r50.2.2))])), (2, (.cells [(.d (.int .i64 r16.1)), (.d (.int .i64 r24.1)), (.d (.int .i64 r26.1)), (.d (.int .u64 r35.1)), (.d (.str r42.1)), .nils])), (3, (.tok ((List.map byteD r42.1).length * 1)))]) (c' := 4) rfl rfl (by exact ⟨rfl, Nat.le_of_ble_eq_true rfl, rfl⟩) rfl rfl rfl rfl ?_
        refine RegV.p0 rfl rfl rfl ?_
        refine RegV.nil0 ?_
        have hr := Option.some.inj h
        subst hr
        exact AWc.ret (canQ (N := 82) (k := 1) (l' := [(2, (.ptr 0 0)), (3, (.d (.int .i64 (5 : Int))))]) (H' := [(0, (.cells [(.d (.int .i64 (0 : Int))), (.d (.int .i64 (0 : Int))), (.d (.int .i64 (0 : Int))), (.d (.int .u64 (0 : Int))), (.d (.str ([] : List UInt8))), (.d (.sl (List.map TMessage.enc ([] : List TMessage))))]))]) rfl ⟨rfl, [], [], rfl, rfl, ⟨⟨_, rfl, (.refl _)⟩, rfl, ⟨⟨_, rfl, (.refl _)⟩, rfl, trivial⟩⟩, ⟨⟨_, rfl, (.refl _)⟩, rfl, rfl, trivial⟩⟩ (doneA (.inr rfl) rfl ⟨(Nat.le_of_ble_eq_true rfl), ⟨trivial, trivial⟩⟩ (.refl _) hasNil))
      · have h := cond_neg c95 h
        refine AWc.skip ?_
        refine AWc.seqS (N := 82) 4 (fun (z : (Int × Int × (List TMessage))) => [(2, (.ptr 0 0)), (4, (.ptr 1 0)), (5, (.ptr 2 0))]) (fun z => [(0, (.cells [(.d (.int .i64 (0 : Int))), (.d (.int .i64 (0 : Int))), (.d (.int .i64 (0 : Int))), (.d (.int .u64 (0 : Int))), (.d (.str ([] : List UInt8))), .nils])), (1, (.cells [(.d (.sl (List.map byteD a0))), (.d (.int .i64 z.1)), (.d (.int .i64 z.2.1))])), (2, (.cells [(.d (.int .i64 r16.1)), (.d (.int .i64 r24.1)), (.d (.int .i64 r26.1)), (.d (.int .u64 r35.1)), (.d (.str r42.1)), (.ap 3 5 (List.map TMessage.enc z.2.2))])), (3, (.tok ((List.map TMessage.enc z.2.2).length * 5)))]) (fun z => f64_j170 k a0 r16 r24 r26 r35 r42 z.1 z.2.1 z.2.2 = some r) rfl_le ?_ ?_
        · refine AWc.seq ?_
          refine AWc.rg hmix rfl rfl ?_
          refine RegV.p0 rfl rfl rfl ?_
          refine RegV.nil0 ?_
          obtain ⟨o109, h109, h⟩ := bind_some h
          refine AWc.block ?_
          refine AWc.loopK (N := 82) 4 (fun (x : (Int × Int × Int × (List TMessage))) => [(2, (.ptr 0 0)), (4, (.ptr 1 0)), (5, (.ptr 2 0)), (6, (.d (.int .i64 r50.1))), (7, (.d (.int .i64 x.1)))]) (fun x => [(0, (.cells [(.d (.int .i64 (0 : Int))), (.d (.int .i64 (0 : Int))), (.d (.int .i64 (0 : Int))), (.d (.int .u64 (0 : Int))), (.d (.str ([] : List UInt8))), .nils])), (1, (.cells [(.d (.sl (List.map byteD a0))), (.d (.int .i64 x.2.1)), (.d (.int .i64 x.2.2.1))])), (2, (.cells [(.d (.int .i64 r16.1)), (.d (.int .i64 r24.1)), (.d (.int .i64 r26.1)), (.d (.int .u64 r35.1)), (.d (.str r42.1)), (.ap 3 5 (List.map TMessage.enc x.2.2.2))])), (3, (.tok ((List.map TMessage.enc x.2.2.2).length * 5)))]) (fun k x => f64_l109 r50 a0 k x.1 x.2.1 x.2.2.1 x.2.2.2 = some o109) k ((0 : Int), r50.2.1, r50.2.2, ([] : List TMessage)) rfl_le (fun x hx => by cases hx) h109 ⟨rfl, [.tok 0], [(3, 4)], rfl, rfl, ⟨⟨_, rfl, (.refl _)⟩, rfl, ⟨⟨_, rfl, (.refl _)⟩, rfl, ⟨⟨_, rfl, (.refl _)⟩, rfl, ⟨⟨_, rfl, (.refl _)⟩, rfl, ⟨⟨_, rfl, (.refl _)⟩, rfl, trivial⟩⟩⟩⟩⟩, ⟨⟨_, rfl, (.refl _)⟩, rfl, rfl, ⟨⟨_, rfl, (.refl _)⟩, rfl, rfl, ⟨⟨_, rfl, (.cells (.cons (.refl _) (.cons (.refl _) (.cons (.refl _) (.cons (.refl _) (.cons (.refl _) (.cons .nil .nil)))))))⟩, rfl, rfl, ⟨⟨_, rfl, (.refl _)⟩, rfl, rfl, trivial⟩⟩⟩⟩⟩ ?_
          clear h109
          intro k
          rintro ⟨y109_1, y109_2, y109_3, y109_4⟩ h109
          dsimp only at h109 ⊢
          rw [f64_l109] at h109
          refine AWc.seq ?_
          refine AWc.seq ?_
          refine AWc.rg hmix rfl rfl ?_
          refine RegV.p0 rfl rfl rfl ?_
          refine RegV.p0 rfl rfl rfl ?_
          refine RegV.p0 (v := (.d (.bool (decide (y109_1 < r50.1))))) rfl rfl rfl ?_
          refine RegV.nil0 ?_
          refine AWc.cond rfl (fun c118 => ?_) (fun c118 => ?_)
          · have h109 := cond_pos c118 h109
            refine AWc.skip ?_
            refine AWc.seq ?_
            refine AWc.block ?_
            refine AWc.seq ?_
            refine AWc.rg hmix rfl rfl ?_
            refine RegV.p0 rfl rfl rfl ?_
            obtain ⟨r127, e127, h109⟩ := bind_some h109
            refine RegV.callS (q := false) (H' := [(1, (.cells [(.d (.sl (List.map byteD a0))), (.d (.int .i64 r127.2.1)), (.d (.int .i64 r127.2.2))])), (0, (.cells [(.d (.int .i64 (0 : Int))), (.d (.int .i64 (0 : Int))), (.d (.int .i64 (0 : Int))), (.d (.int .u64 (0 : Int))), (.d (.str ([] : List UInt8))), .nils])), (2, (.cells [(.d (.int .i64 r16.1)), (.d (.int .i64 r24.1)), (.d (.int .i64 r26.1)), (.d (.int .u64 r35.1)), (.d (.str r42.1)), (.ap 3 5 (List.map TMessage.enc y109_4))])), (3, (.tok ((List.map TMessage.enc y109_4).length * 5)))]) (c' := 4) (show ACalls P (N 46) [(.ptr 1 0)] [(1, (.cells [(.d (.sl (List.map byteD a0))), (.d (.int .i64 y109_2)), (.d (.int .i64 y109_3))]))] (.d (.int .u64 r127.1)) [(1, (.cells [(.d (.sl (List.map byteD a0))), (.d (.int .i64 r127.2.1)), (.d (.int .i64 r127.2.2))]))] from ACalls.use (F46 hmix hc.2.2.2.1 e127) [(0, 1)] 1 rfl) rfl rfl rfl rfl (.cons (.refl _) .nil) (.refl _) (fun h => by cases h) rfl (hasCons rfl hasNil) rfl rfl rfl rfl ?_
            refine RegV.p1 (v := (.d (.agg [(.int .u64 r127.1), (.int .u64 (0 : Int)), (.int .u64 (0 : Int)), (.int .i64 (0 : Int)), (.sl (List.map byteD ([] : List UInt8)))]))) rfl rfl (by exact ⟨⟨rfl, Nat.le_of_ble_eq_true rfl⟩, trivial⟩) rfl rfl ?_
            refine RegV.evS (own := false) (v := (.ptr 4 0)) (H' := [(4, (.cells [(.d (.int .u64 (0 : Int))), (.d (.int .u64 (0 : Int))), (.d (.int .u64 (0 : Int))), (.d (.int .i64 (0 : Int))), .nils])), (1, (.cells [(.d (.sl (List.map byteD a0))), (.d (.int .i64 r127.2.1)), (.d (.int .i64 r127.2.2))])), (0, (.cells [(.d (.int .i64 (0 : Int))), (.d (.int .i64 (0 : Int))), (.d (.int .i64 (0 : Int))), (.d (.int .u64 (0 : Int))), (.d (.str ([] : List UInt8))), .nils])), (2, (.cells [(.d (.int .i64 r16.1)), (.d (.int .i64 r24.1)), (.d (.int .i64 r26.1)), (.d (.int .u64 r35.1)), (.d (.str r42.1)), (.ap 3 5 (List.map TMessage.enc y109_4))])), (3, (.tok ((List.map TMessage.enc y109_4).length * 5)))]) (c' := 5) rfl rfl trivial rfl rfl rfl rfl rfl rfl ?_
            refine RegV.evN (own := false) (H' := [(4, (.cells [(.d (.int .u64 r127.1)), (.d (.int .u64 (0 : Int))), (.d (.int .u64 (0 : Int))), (.d (.int .i64 (0 : Int))), (.d (.sl (List.map byteD ([] : List UInt8))))])), (1, (.cells [(.d (.sl (List.map byteD a0))), (.d (.int .i64 r127.2.1)), (.d (.int .i64 r127.2.2))])), (0, (.cells [(.d (.int .i64 (0 : Int))), (.d (.int .i64 (0 : Int))), (.d (.int .i64 (0 : Int))), (.d (.int .u64 (0 : Int))), (.d (.str ([] : List UInt8))), .nils])), (2, (.cells [(.d (.int .i64 r16.1)), (.d (.int .i64 r24.1)), (.d (.int .i64 r26.1)), (.d (.int .u64 r35.1)), (.d (.str r42.1)), (.ap 3 5 (List.map TMessage.enc y109_4))])), (3, (.tok ((List.map TMessage.enc y109_4).length * 5)))]) (c' := 5) rfl rfl (by exact ⟨rfl, Nat.le_of_ble_eq_true rfl, rfl⟩) rfl rfl rfl rfl ?_
            refine RegV.nil0 ?_
            refine AWc.seq ?_
            refine AWc.rg hmix rfl rfl ?_
            refine RegV.p0 rfl rfl rfl ?_
            obtain ⟨r135, e135, h109⟩ := bind_some h109
            refine RegV.callS (q := false) (H' := [(1, (.cells [(.d (.sl (List.map byteD a0))), (.d (.int .i64 r135.2.1)), (.d (.int .i64 r135.2.2))])), (4, (.cells [(.d (.int .u64 r127.1)), (.d (.int .u64 (0 : Int))), (.d (.int .u64 (0 : Int))), (.d (.int .i64 (0 : Int))), (.d (.sl (List.map byteD ([] : List UInt8))))])), (0, (.cells [(.d (.int .i64 (0 : Int))), (.d (.int .i64 (0 : Int))), (.d (.int .i64 (0 : Int))), (.d (.int .u64 (0 : Int))), (.d (.str ([] : List UInt8))), .nils])), (2, (.cells [(.d (.int .i64 r16.1)), (.d (.int .i64 r24.1)), (.d (.int .i64 r26.1)), (.d (.int .u64 r35.1)), (.d (.str r42.1)), (.ap 3 5 (List.map TMessage.enc y109_4))])), (3, (.tok ((List.map TMessage.enc y109_4).length * 5)))]) (c' := 5) (show ACalls P (N 46) [(.ptr 1 0)] [(1, (.cells [(.d (.sl (List.map byteD a0))), (.d (.int .i64 r127.2.1)), (.d (.int .i64 r127.2.2))]))] (.d (.int .u64 r135.1)) [(1, (.cells [(.d (.sl (List.map byteD a0))), (.d (.int .i64 r135.2.1)), (.d (.int .i64 r135.2.2))]))] from ACalls.use (F46 hmix hc.2.2.2.1 e135) [(0, 1)] 1 rfl) rfl rfl rfl rfl (.cons (.refl _) .nil) (.refl _) (fun h => by cases h) rfl (hasCons rfl hasNil) rfl rfl rfl rfl ?_
            refine RegV.p0 rfl rfl rfl ?_
            obtain ⟨r137, e137, h109⟩ := bind_some h109
            refine RegV.callS (q := false) (H' := [(1, (.cells [(.d (.sl (List.map byteD a0))), (.d (.int .i64 r137.2.1)), (.d (.int .i64 r137.2.2))])), (4, (.cells [(.d (.int .u64 r127.1)), (.d (.int .u64 (0 : Int))), (.d (.int .u64 (0 : Int))), (.d (.int .i64 (0 : Int))), (.d (.sl (List.map byteD ([] : List UInt8))))])), (0, (.cells [(.d (.int .i64 (0 : Int))), (.d (.int .i64 (0 : Int))), (.d (.int .i64 (0 : Int))), (.d (.int .u64 (0 : Int))), (.d (.str ([] : List UInt8))), .nils])), (2, (.cells [(.d (.int .i64 r16.1)), (.d (.int .i64 r24.1)), (.d (.int .i64 r26.1)), (.d (.int .u64 r35.1)), (.d (.str r42.1)), (.ap 3 5 (List.map TMessage.enc y109_4))])), (3, (.tok ((List.map TMessage.enc y109_4).length * 5)))]) (c' := 5) (show ACalls P (N 46) [(.ptr 1 0)] [(1, (.cells [(.d (.sl (List.map byteD a0))), (.d (.int .i64 r135.2.1)), (.d (.int .i64 r135.2.2))]))] (.d (.int .u64 r137.1)) [(1, (.cells [(.d (.sl (List.map byteD a0))), (.d (.int .i64 r137.2.1)), (.d (.int .i64 r137.2.2))]))] from ACalls.use (F46 hmix hc.2.2.2.1 e137) [(0, 1)] 1 rfl) rfl rfl rfl rfl (.cons (.refl _) .nil) (.refl _) (fun h => by cases h) rfl (hasCons rfl hasNil) rfl rfl rfl rfl ?_
            refine RegV.p0 (v := (.ptr 4 1)) rfl rfl rfl ?_
            refine RegV.evN (own := false) (H' := [(4, (.cells [(.d (.int .u64 r127.1)), (.d (.int .u64 r135.1)), (.d (.int .u64 (0 : Int))), (.d (.int .i64 (0 : Int))), (.d (.sl (List.map byteD ([] : List UInt8))))])), (1, (.cells [(.d (.sl (List.map byteD a0))), (.d (.int .i64 r137.2.1)), (.d (.int .i64 r137.2.2))])), (0, (.cells [(.d (.int .i64 (0 : Int))), (.d (.int .i64 (0 : Int))), (.d (.int .i64 (0 : Int))), (.d (.int .u64 (0 : Int))), (.d (.str ([] : List UInt8))), .nils])), (2, (.cells [(.d (.int .i64 r16.1)), (.d (.int .i64 r24.1)), (.d (.int .i64 r26.1)), (.d (.int .u64 r35.1)), (.d (.str r42.1)), (.ap 3 5 (List.map TMessage.enc y109_4))])), (3, (.tok ((List.map TMessage.enc y109_4).length * 5)))]) (c' := 5) rfl rfl (by exact ⟨rfl, Nat.le_of_ble_eq_true rfl, rfl⟩) rfl rfl rfl rfl ?_
            refine RegV.p0 (v := (.ptr 4 2)) rfl rfl rfl ?_
            refine RegV.evN (own := false) (H' := [(4, (.cells [(.d (.int .u64 r127.1)), (.d (.int .u64 r135.1)), (.d (.int .u64 r137.1)), (.d (.int .i64 (0 : Int))), (.d (.sl (List.map byteD ([] : List UInt8))))])), (1, (.cells [(.d (.sl (List.map byteD a0))), (.d (.int .i64 r137.2.1)), (.d (.int .i64 r137.2.2))])), (0, (.cells [(.d (.int .i64 (0 : Int))), (.d (.int .i64 (0 : Int))), (.d (.int .i64 (0 : Int))), (.d (.int .u64 (0 : Int))), (.d (.str ([] : List UInt8))), .nils])), (2, (.cells [(.d (.int .i64 r16.1)), (.d (.int .i64 r24.1)), (.d (.int .i64 r26.1)), (.d (.int .u64 r35.1)), (.d (.str r42.1)), (.ap 3 5 (List.map TMessage.enc y109_4))])), (3, (.tok ((List.map TMessage.enc y109_4).length * 5)))]) (c' := 5) rfl rfl (by exact ⟨rfl, Nat.le_of_ble_eq_true rfl, rfl⟩) rfl rfl rfl rfl ?_
            refine RegV.nil0 ?_
            refine AWc.seq ?_
            refine AWc.rg hmix rfl rfl ?_
            refine RegV.p0 rfl rfl rfl ?_
            obtain ⟨r146, e146, h109⟩ := bind_some h109
            refine RegV.callS (q := false) (H' := [(1, (.cells [(.d (.sl (List.map byteD a0))), (.d (.int .i64 r146.2.1)), (.d (.int .i64 r146.2.2))])), (4, (.cells [(.d (.int .u64 r127.1)), (.d (.int .u64 r135.1)), (.d (.int .u64 r137.1)), (.d (.int .i64 (0 : Int))), (.d (.sl (List.map byteD ([] : List UInt8))))])), (0, (.cells [(.d (.int .i64 (0 : Int))), (.d (.int .i64 (0 : Int))), (.d (.int .i64 (0 : Int))), (.d (.int .u64 (0 : Int))), (.d (.str ([] : List UInt8))), .nils])), (2, (.cells [(.d (.int .i64 r16.1)), (.d (.int .i64 r24.1)), (.d (.int .i64 r26.1)), (.d (.int .u64 r35.1)), (.d (.str r42.1)), (.ap 3 5 (List.map TMessage.enc y109_4))])), (3, (.tok ((List.map TMessage.enc y109_4).length * 5)))]) (c' := 5) (show ACalls P (N 47) [(.ptr 1 0)] [(1, (.cells [(.d (.sl (List.map byteD a0))), (.d (.int .i64 r137.2.1)), (.d (.int .i64 r137.2.2))]))] (.d (.int .i64 r146.1)) [(1, (.cells [(.d (.sl (List.map byteD a0))), (.d (.int .i64 r146.2.1)), (.d (.int .i64 r146.2.2))]))] from ACalls.use (F47 hmix hc.2.2.1 e146) [(0, 1)] 1 rfl) rfl rfl rfl rfl (.cons (.refl _) .nil) (.refl _) (fun h => by cases h) rfl (hasCons rfl hasNil) rfl rfl rfl rfl ?_
            refine RegV.p0 (v := (.ptr 4 3)) rfl rfl rfl ?_
            refine RegV.evN (own := false) (H' := [(4, (.cells [(.d (.int .u64 r127.1)), (.d (.int .u64 r135.1)), (.d (.int .u64 r137.1)), (.d (.int .i64 r146.1)), (.d (.sl (List.map byteD ([] : List UInt8))))])), (1, (.cells [(.d (.sl (List.map byteD a0))), (.d (.int .i64 r146.2.1)), (.d (.int .i64 r146.2.2))])), (0, (.cells [(.d (.int .i64 (0 : Int))), (.d (.int .i64 (0 : Int))), (.d (.int .i64 (0 : Int))), (.d (.int .u64 (0 : Int))), (.d (.str ([] : List UInt8))), .nils])), (2, (.cells [(.d (.int .i64 r16.1)), (.d (.int .i64 r24.1)), (.d (.int .i64 r26.1)), (.d (.int .u64 r35.1)), (.d (.str r42.1)), (.ap 3 5 (List.map TMessage.enc y109_4))])), (3, (.tok ((List.map TMessage.enc y109_4).length * 5)))]) (c' := 5) rfl rfl (by exact ⟨rfl, Nat.le_of_ble_eq_true rfl, rfl⟩) rfl rfl rfl rfl ?_
            refine RegV.nil0 ?_
            refine AWc.seq ?_
            refine AWc.rg hmix rfl rfl ?_
            refine RegV.p0 rfl rfl rfl ?_
            obtain ⟨r153, e153, h109⟩ := bind_some h109
            refine RegV.callS (q := false) (H' := [(5, (.tok ((List.map byteD r153.1).length * 1))), (1, (.cells [(.d (.sl (List.map byteD a0))), (.d (.int .i64 r153.2.1)), (.d (.int .i64 r153.2.2))])), (4, (.cells [(.d (.int .u64 r127.1)), (.d (.int .u64 r135.1)), (.d (.int .u64 r137.1)), (.d (.int .i64 r146.1)), (.d (.sl (List.map byteD ([] : List UInt8))))])), (0, (.cells [(.d (.int .i64 (0 : Int))), (.d (.int .i64 (0 : Int))), (.d (.int .i64 (0 : Int))), (.d (.int .u64 (0 : Int))), (.d (.str ([] : List UInt8))), .nils])), (2, (.cells [(.d (.int .i64 r16.1)), (.d (.int .i64 r24.1)), (.d (.int .i64 r26.1)), (.d (.int .u64 r35.1)), (.d (.str r42.1)), (.ap 3 5 (List.map TMessage.enc y109_4))])), (3, (.tok ((List.map TMessage.enc y109_4).length * 5)))]) (c' := 6) (show ACalls P (N 48) [(.ptr 1 0), (.d (.int .i64 (20000 : Int)))] [(1, (.cells [(.d (.sl (List.map byteD a0))), (.d (.int .i64 r146.2.1)), (.d (.int .i64 r146.2.2))]))] (.ap 5 1 (List.map byteD r153.1)) [(5, (.tok ((List.map byteD r153.1).length * 1))), (1, (.cells [(.d (.sl (List.map byteD a0))), (.d (.int .i64 r153.2.1)), (.d (.int .i64 r153.2.2))]))] from ACalls.use (F48 hmix hc.2.2.2.2.1 e153) [(0, 1), (1, 5)] 2 rfl) rfl rfl rfl rfl (.cons (.refl _) (.cons (.refl _) .nil)) (.refl _) (fun h => by cases h) rfl (hasCons rfl hasNil) rfl rfl rfl rfl ?_
            refine RegV.p0 (v := (.ptr 4 4)) rfl rfl rfl ?_
            refine RegV.evN (own := false) (H' := [(4, (.cells [(.d (.int .u64 r127.1)), (.d (.int .u64 r135.1)), (.d (.int .u64 r137.1)), (.d (.int .i64 r146.1)), (.ap 5 1 (List.map byteD r153.1))])), (5, (.tok ((List.map byteD r153.1).length * 1))), (1, (.cells [(.d (.sl (List.map byteD a0))), (.d (.int .i64 r153.2.1)), (.d (.int .i64 r153.2.2))])), (0, (.cells [(.d (.int .i64 (0 : Int))), (.d (.int .i64 (0 : Int))), (.d (.int .i64 (0 : Int))), (.d (.int .u64 (0 : Int))), (.d (.str ([] : List UInt8))), .nils])), (2, (.cells [(.d (.int .i64 r16.1)), (.d (.int .i64 r24.1)), (.d (.int .i64 r26.1)), (.d (.int .u64 r35.1)), (.d (.str r42.1)), (.ap 3 5 (List.map TMessage.enc y109_4))])), (3, (.tok ((List.map TMessage.enc y109_4).length * 5)))]) (c' := 6) rfl rfl (by exact ⟨rfl, Nat.le_of_ble_eq_true rfl, rfl⟩) rfl rfl rfl rfl ?_
            refine RegV.nil0 ?_
            refine AWc.rg hmix rfl rfl ?_
            refine RegV.p0 (v := (.ptr 2 5)) rfl rfl rfl ?_
            refine RegV.ld (v := (.ap 3 5 (List.map TMessage.enc y109_4))) (H' := [(2, (.cells [(.d (.int .i64 r16.1)), (.d (.int .i64 r24.1)), (.d (.int .i64 r26.1)), (.d (.int .u64 r35.1)), (.d (.str r42.1)), (.ap 3 5 (List.map TMessage.enc y109_4))])), (4, (.cells [(.d (.int .u64 r127.1)), (.d (.int .u64 r135.1)), (.d (.int .u64 r137.1)), (.d (.int .i64 r146.1)), (.ap 5 1 (List.map byteD r153.1))])), (5, (.tok ((List.map byteD r153.1).length * 1))), (1, (.cells [(.d (.sl (List.map byteD a0))), (.d (.int .i64 r153.2.1)), (.d (.int .i64 r153.2.2))])), (0, (.cells [(.d (.int .i64 (0 : Int))), (.d (.int .i64 (0 : Int))), (.d (.int .i64 (0 : Int))), (.d (.int .u64 (0 : Int))), (.d (.str ([] : List UInt8))), .nils])), (3, (.tok ((List.map TMessage.enc y109_4).length * 5)))]) rfl rfl trivial rfl rfl rfl rfl rfl ?_
            refine RegV.ld (v := (.d (.agg [(.int .u64 r127.1), (.int .u64 r135.1), (.int .u64 r137.1), (.int .i64 r146.1), (.sl (List.map byteD r153.1))]))) (H' := [(4, (.cells [(.d (.int .u64 r127.1)), (.d (.int .u64 r135.1)), (.d (.int .u64 r137.1)), (.d (.int .i64 r146.1)), (.ap 5 1 (List.map byteD r153.1))])), (2, (.cells [(.d (.int .i64 r16.1)), (.d (.int .i64 r24.1)), (.d (.int .i64 r26.1)), (.d (.int .u64 r35.1)), (.d (.str r42.1)), (.ap 3 5 (List.map TMessage.enc y109_4))])), (5, (.tok ((List.map byteD r153.1).length * 1))), (1, (.cells [(.d (.sl (List.map byteD a0))), (.d (.int .i64 r153.2.1)), (.d (.int .i64 r153.2.2))])), (0, (.cells [(.d (.int .i64 (0 : Int))), (.d (.int .i64 (0 : Int))), (.d (.int .i64 (0 : Int))), (.d (.int .u64 (0 : Int))), (.d (.str ([] : List UInt8))), .nils])), (3, (.tok ((List.map TMessage.enc y109_4).length * 5)))]) rfl rfl (Nat.le_of_ble_eq_true rfl) rfl rfl rfl rfl rfl ?_
            refine RegV.p1 (v := (.d (.sl (List.map TMessage.enc ([(TMessage.mk r127.1 r135.1 r137.1 r146.1 r153.1)] : List TMessage))))) rfl rfl (by exact ⟨rfl, Nat.le_of_ble_eq_true rfl, mapLen (e := TMessage.enc) (xs := ([(TMessage.mk r127.1 r135.1 r137.1 r146.1 r153.1)] : List TMessage)) (z := 5) (fun _ => rfl)⟩) rfl rfl ?_
            obtain ⟨b162, h109⟩ := gd_some h109
            refine RegV.appA (xs := y109_4) (ys := ([(TMessage.mk r127.1 r135.1 r137.1 r146.1 r153.1)] : List TMessage)) (e := TMessage.enc) (H1 := [(4, (.cells [(.d (.int .u64 r127.1)), (.d (.int .u64 r135.1)), (.d (.int .u64 r137.1)), (.d (.int .i64 r146.1)), (.ap 5 1 (List.map byteD r153.1))])), (2, (.cells [(.d (.int .i64 r16.1)), (.d (.int .i64 r24.1)), (.d (.int .i64 r26.1)), (.d (.int .u64 r35.1)), (.d (.str r42.1)), (.ap 3 5 (List.map TMessage.enc y109_4))])), (5, (.tok ((List.map byteD r153.1).length * 1))), (1, (.cells [(.d (.sl (List.map byteD a0))), (.d (.int .i64 r153.2.1)), (.d (.int .i64 r153.2.2))])), (0, (.cells [(.d (.int .i64 (0 : Int))), (.d (.int .i64 (0 : Int))), (.d (.int .i64 (0 : Int))), (.d (.int .u64 (0 : Int))), (.d (.str ([] : List UInt8))), .nils]))]) rfl rfl rfl rfl (fun _ => rfl) rfl rfl b162 rfl rfl rfl ?_
            refine RegV.p0 (v := (.ptr 2 5)) rfl rfl rfl ?_
            refine RegV.evN (own := false) (H' := [(2, (.cells [(.d (.int .i64 r16.1)), (.d (.int .i64 r24.1)), (.d (.int .i64 r26.1)), (.d (.int .u64 r35.1)), (.d (.str r42.1)), (.ap 6 5 (List.map TMessage.enc (y109_4 ++ ([(TMessage.mk r127.1 r135.1 r137.1 r146.1 r153.1)] : List TMessage))))])), (6, (.tok ((List.map TMessage.enc (y109_4 ++ ([(TMessage.mk r127.1 r135.1 r137.1 r146.1 r153.1)] : List TMessage))).length * 5))), (4, (.cells [(.d (.int .u64 r127.1)), (.d (.int .u64 r135.1)), (.d (.int .u64 r137.1)), (.d (.int .i64 r146.1)), (.ap 5 1 (List.map byteD r153.1))])), (5, (.tok ((List.map byteD r153.1).length * 1))), (1, (.cells [(.d (.sl (List.map byteD a0))), (.d (.int .i64 r153.2.1)), (.d (.int .i64 r153.2.2))])), (0, (.cells [(.d (.int .i64 (0 : Int))), (.d (.int .i64 (0 : Int))), (.d (.int .i64 (0 : Int))), (.d (.int .u64 (0 : Int))), (.d (.str ([] : List UInt8))), .nils]))]) (c' := 7) rfl rfl (by exact ⟨rfl, Nat.le_of_ble_eq_true rfl, rfl⟩) rfl rfl rfl rfl ?_
            refine RegV.nil0 ?_
            refine AWc.rg hmix rfl rfl ?_
            refine RegV.p0 rfl rfl rfl ?_
            refine RegV.p0 (v := (.d (.int .i64 (IntKind.i64.wrap (y109_1 + (1 : Int)))))) rfl rfl rfl ?_
            refine RegV.p0 rfl rfl rfl ?_
            refine RegV.nil0 ?_
            exact ⟨((IntKind.i64.wrap (y109_1 + (1 : Int))), r153.2.1, r153.2.2, (y109_4 ++ ([(TMessage.mk r127.1 r135.1 r137.1 r146.1 r153.1)] : List TMessage))), h109, ⟨rfl, [], [(3, 6)], rfl, rfl, ⟨⟨_, rfl, (.refl _)⟩, rfl, ⟨⟨_, rfl, (.refl _)⟩, rfl, ⟨⟨_, rfl, (.refl _)⟩, rfl, ⟨⟨_, rfl, (.refl _)⟩, rfl, ⟨⟨_, rfl, (.refl _)⟩, rfl, trivial⟩⟩⟩⟩⟩, ⟨⟨_, rfl, (.refl _)⟩, rfl, rfl, ⟨⟨_, rfl, (.refl _)⟩, rfl, rfl, ⟨⟨_, rfl, (.refl _)⟩, rfl, rfl, ⟨⟨_, rfl, (.refl _)⟩, rfl, rfl, trivial⟩⟩⟩⟩⟩⟩
          · have h109 := cond_neg c118 h109
            cases h109
            dsimp only at h
            refine AWc.exit ?_
            refine inBlk_eq ?_
            exact ⟨(y109_2, y109_3, y109_4), h, ⟨rfl, [], [], rfl, rfl, ⟨⟨_, rfl, (.refl _)⟩, rfl, ⟨⟨_, rfl, (.refl _)⟩, rfl, ⟨⟨_, rfl, (.refl _)⟩, rfl, trivial⟩⟩⟩, ⟨⟨_, rfl, (.refl _)⟩, rfl, rfl, ⟨⟨_, rfl, (.refl _)⟩, rfl, rfl, ⟨⟨_, rfl, (.refl _)⟩, rfl, rfl, ⟨⟨_, rfl, (.refl _)⟩, rfl, rfl, trivial⟩⟩⟩⟩⟩⟩
        · rintro ⟨j170_1, j170_2, j170_3⟩ h
          dsimp only at h ⊢
          unfold f64_j170 at h
          refine AWc.seq ?_
          refine AWc.rg hmix rfl rfl ?_
          refine RegV.p0 rfl rfl rfl ?_
          obtain ⟨r174, e174, h⟩ := bind_some h
          refine RegV.callS (q := true) (H' := [(1, (.cells [(.d (.sl (List.map byteD a0))), (.d (.int .i64 j170_1)), (.d (.int .i64 j170_2))])), (0, (.cells [(.d (.int .i64 (0 : Int))), (.d (.int .i64 (0 : Int))), (.d (.int .i64 (0 : Int))), (.d (.int .u64 (0 : Int))), (.d (.str ([] : List UInt8))), .nils])), (2, (.cells [(.d (.int .i64 r16.1)), (.d (.int .i64 r24.1)), (.d (.int .i64 r26.1)), (.d (.int .u64 r35.1)), (.d (.str r42.1)), (.ap 3 5 (List.map TMessage.enc j170_3))])), (3, (.tok ((List.map TMessage.enc j170_3).length * 5)))]) (c' := 4) (show ACalls P (N 51) [(.ptr 1 0)] [(1, (.cells [(.d (.sl (List.map byteD a0))), (.d (.int .i64 j170_1)), (.d (.int .i64 j170_2))]))] (.d (.int .i64 r174)) [(1, (.cells [(.d (.sl (List.map byteD a0))), (.d (.int .i64 j170_1)), (.d (.int .i64 j170_2))]))] from ACalls.use (F51 hmix hc.2.2.2.2.2 e174) [(0, 1)] 1 rfl) rfl rfl rfl rfl (.cons (.refl _) .nil) (.refl _) (fun _ => rfl) rfl (hasCons rfl hasNil) rfl rfl rfl rfl ?_
          refine RegV.p0 rfl rfl rfl ?_
          refine RegV.nil0 ?_
          refine AWc.seq ?_
          refine AWc.seq ?_
          refine AWc.rg hmix rfl rfl ?_
          refine RegV.p0 rfl rfl rfl ?_
          refine RegV.p0 (v := (.d (.bool (decide (r174 ≠ (0 : Int)))))) rfl rfl rfl ?_
          refine RegV.nil0 ?_
          refine AWc.cond rfl (fun c182 => ?_) (fun c182 => ?_)
          · have h := cond_pos c182 h
            refine AWc.seq ?_
            refine AWc.rg hmix rfl rfl ?_
            refine RegV.p1 (v := (.d (.agg [(.int .i64 (0 : Int)), (.int .i64 (0 : Int)), (.int .i64 (0 : Int)), (.int .u64 (0 : Int)), (.str ([] : List UInt8)), (.sl (List.map TMessage.enc ([] : List TMessage)))]))) rfl rfl trivial rfl rfl ?_
            refine RegV.p0 rfl rfl rfl ?_
            refine RegV.evN (own := false) (H' := [(0, (.cells [(.d (.int .i64 (0 : Int))), (.d (.int .i64 (0 : Int))), (.d (.int .i64 (0 : Int))), (.d (.int .u64 (0 : Int))), (.d (.str ([] : List UInt8))), (.d (.sl (List.map TMessage.enc ([] : List TMessage))))])), (1, (.cells [(.d (.sl (List.map byteD a0))), (.d (.int .i64 j170_1)), (.d (.int .i64 j170_2))])), (2, (.cells [(.d (.int .i64 r16.1)), (.d (.int .i64 r24.1)), (.d (.int .i64 r26.1)), (.d (.int .u64 r35.1)), (.d (.str r42.1)), (.ap 3 5 (List.map TMessage.enc j170_3))])), (3, (.tok ((List.map TMessage.enc j170_3).length * 5)))]) (c' := 4) rfl rfl (by exact ⟨rfl, Nat.le_of_ble_eq_true rfl, rfl⟩) rfl rfl rfl rfl ?_
            refine RegV.p0 rfl rfl rfl ?_
            refine RegV.nil0 ?_
            have hr := Option.some.inj h
            subst hr
            exact AWc.ret (canQ (N := 82) (k := 1) (l' := [(2, (.ptr 0 0)), (3, (.d (.int .i64 r174)))]) (H' := [(0, (.cells [(.d (.int .i64 (0 : Int))), (.d (.int .i64 (0 : Int))), (.d (.int .i64 (0 : Int))), (.d (.int .u64 (0 : Int))), (.d (.str ([] : List UInt8))), (.d (.sl (List.map TMessage.enc ([] : List TMessage))))]))]) rfl ⟨rfl, [], [], rfl, rfl, ⟨⟨_, rfl, (.refl _)⟩, rfl, ⟨⟨_, rfl, (.refl _)⟩, rfl, trivial⟩⟩, ⟨⟨_, rfl, (.refl _)⟩, rfl, rfl, trivial⟩⟩ (doneA (.inr rfl) rfl ⟨(Nat.le_of_ble_eq_true rfl), ⟨trivial, trivial⟩⟩ (.refl _) hasNil))
          · have h := cond_neg c182 h
            refine AWc.skip ?_
            refine AWc.seq ?_
            refine AWc.rg hmix rfl rfl ?_
            refine RegV.ld (v := (.d (.agg [(.int .i64 r16.1), (.int .i64 r24.1), (.int .i64 r26.1), (.int .u64 r35.1), (.str r42.1), (.sl (List.map TMessage.enc j170_3))]))) (H' := [(2, (.cells [(.d (.int .i64 r16.1)), (.d (.int .i64 r24.1)), (.d (.int .i64 r26.1)), (.d (.int .u64 r35.1)), (.d (.str r42.1)), (.ap 3 5 (List.map TMessage.enc j170_3))])), (1, (.cells [(.d (.sl (List.map byteD a0))), (.d (.int .i64 j170_1)), (.d (.int .i64 j170_2))])), (0, (.cells [(.d (.int .i64 (0 : Int))), (.d (.int .i64 (0 : Int))), (.d (.int .i64 (0 : Int))), (.d (.int .u64 (0 : Int))), (.d (.str ([] : List UInt8))), .nils])), (3, (.tok ((List.map TMessage.enc j170_3).length * 5)))]) rfl rfl (Nat.le_of_ble_eq_true rfl) rfl rfl rfl rfl rfl ?_
            refine RegV.evN (own := false) (H' := [(0, (.cells [(.d (.int .i64 r16.1)), (.d (.int .i64 r24.1)), (.d (.int .i64 r26.1)), (.d (.int .u64 r35.1)), (.d (.str r42.1)), (.d (.sl (List.map TMessage.enc j170_3)))])), (2, (.cells [(.d (.int .i64 r16.1)), (.d (.int .i64 r24.1)), (.d (.int .i64 r26.1)), (.d (.int .u64 r35.1)), (.d (.str r42.1)), (.ap 3 5 (List.map TMessage.enc j170_3))])), (1, (.cells [(.d (.sl (List.map byteD a0))), (.d (.int .i64 j170_1)), (.d (.int .i64 j170_2))])), (3, (.tok ((List.map TMessage.enc j170_3).length * 5)))]) (c' := 4) rfl rfl (by exact ⟨rfl, Nat.le_of_ble_eq_true rfl, rfl⟩) rfl rfl rfl rfl ?_
            refine RegV.p0 rfl rfl rfl ?_
            refine RegV.nil0 ?_
            have hr := Option.some.inj h
            subst hr
            exact AWc.ret (canQ (N := 82) (k := 1) (l' := [(2, (.ptr 0 0)), (3, (.d (.int .i64 (0 : Int))))]) (H' := [(0, (.cells [(.d (.int .i64 r16.1)), (.d (.int .i64 r24.1)), (.d (.int .i64 r26.1)), (.d (.int .u64 r35.1)), (.d (.str r42.1)), (.d (.sl (List.map TMessage.enc j170_3)))]))]) rfl ⟨rfl, [], [], rfl, rfl, ⟨⟨_, rfl, (.refl _)⟩, rfl, ⟨⟨_, rfl, (.refl _)⟩, rfl, trivial⟩⟩, ⟨⟨_, rfl, (.refl _)⟩, rfl, rfl, trivial⟩⟩ (doneA (.inr rfl) rfl ⟨(Nat.le_of_ble_eq_true rfl), ⟨trivial, trivial⟩⟩ (.refl _) hasNil))
/-- courant/courantref01.Num -/
def C24 (N : Nat → Nat) : AFunc := { n := 20, params := 1, res := [.tmp 2], body :=
 (.seq (.region false [⟨(some 2), .mv (.k .nils), none, []⟩])
  (.seq (.region false [⟨(some 3), .mv (.k .nils), none, []⟩])
   (.seq (.block 0 (.loop (.seq (.seq (.region false [⟨(some 4), .mv (.t 0), none, []⟩,
         ⟨(some 5), .bin .geq (.t 4) (.k (.d (.int .u64 128))), none, [0]⟩])
        (.cond (.t 5) (.skip)
         (.exit 0)))
       (.block 1 (.seq (.region false [⟨(some 6), .mv (.t 3), none, []⟩,
          ⟨(some 7), .mv (.t 0), none, []⟩,
          ⟨(some 8), .bin .rem (.t 7) (.k (.d (.int .u64 128))), none, [1]⟩,
          ⟨(some 9), .cvi .u8 (.t 8), none, [2]⟩,
          ⟨(some 10), .bin .add (.t 9) (.k (.d (.int .u8 128))), none, [3]⟩,
          ⟨(some 11), .bslice 1 1 [(.int .u8 0)] [(0, (.t 10))], none, [4]⟩,
          ⟨(some 12), .app (.t 6) (.t 11) 1 1 [(.int .u8 0)], none, [0, 5]⟩,
          ⟨(some 3), .mv (.t 12), none, [6, 0, 1, 2, 3, 4, 5]⟩])
         (.region false [⟨(some 13), .mv (.t 0), none, []⟩,
          ⟨(some 14), .bin .quo (.t 13) (.k (.d (.int .u64 128))), none, [0]⟩,
          ⟨(some 0), .mv (.t 14), none, [1, 0]⟩]))))))
    (.seq (.region false [⟨(some 15), .mv (.t 3), none, []⟩,
      ⟨(some 16), .mv (.t 0), none, []⟩,
      ⟨(some 17), .cvi .u8 (.t 16), none, [1]⟩,
      ⟨(some 18), .bslice 1 1 [(.int .u8 0)] [(0, (.t 17))], none, [2]⟩,
      ⟨(some 19), .app (.t 15) (.t 18) 1 1 [(.int .u8 0)], none, [0, 3]⟩,
      ⟨(some 2), .mv (.t 19), none, [4, 0, 1, 2, 3]⟩])
     .ret)))) }
def HC24 (P : Program) (N : Nat → Nat) : Prop := HasF P (N 24) (C24 N)
def f24_l10 : Nat → Int → (List UInt8) → Option (LR2 (Int × (List UInt8)) Unit (List UInt8))
  | 0, _, _ => none
  | k + 1, y10_1, y10_2 => cond (decide (y10_1 ≥ (128 : Int))) (gd ((y10_2.length + ([(u8 (IntKind.u8.wrap ((IntKind.u8.wrap (Int.tmod y10_1 (128 : Int))) + (128 : Int))))] : List UInt8).length) * 2 * 1 ≤ 281474976710656) (f24_l10 k (IntKind.u64.wrap (Int.tdiv y10_1 (128 : Int))) (y10_2 ++ ([(u8 (IntKind.u8.wrap ((IntKind.u8.wrap (Int.tmod y10_1 (128 : Int))) + (128 : Int))))] : List UInt8)))) (some (.b0 (y10_1, y10_2)))
def f24 (k : Nat) (a0 : Int) : Option (List UInt8) := (f24_l10 k a0 ([] : List UInt8)).bind fun o10 => match o10 with | .b0 (x10_1, x10_2) => gd ((x10_2.length + ([(u8 (IntKind.u8.wrap x10_1))] : List UInt8).length) * 2 * 1 ≤ 281474976710656) (some (x10_2 ++ ([(u8 (IntKind.u8.wrap x10_1))] : List UInt8))) | _ => none
theorem F24 {P : Program} {N : Nat → Nat} (hmix : P.follows .mixedOrders = true) (hc : HC24 P N) {k : Nat} {a0 : Int} {r : (List UInt8)} (h : f24 k a0 = some r) :
    ACalls P (N 24) [(.d (.int .u64 a0))] [] (.ap 0 1 (List.map byteD r)) [(0, (.tok ((List.map byteD r).length * 1)))] := by
  refine acalls_canon (F := C24 N) hc 0 1 rfl ?_
  unfold f24 at h
  dsimp only [C24, startL]
  refine AWc.seq ?_
  refine AWc.rg hmix rfl rfl ?_
  refine RegV.p0 rfl rfl rfl ?_
  refine RegV.nil0 ?_
  refine AWc.seq ?_
  refine AWc.rg hmix rfl rfl ?_
  refine RegV.p0 rfl rfl rfl ?_
  refine RegV.nil0 ?_
  obtain ⟨o10, h10, h⟩ := bind_some h
  refine AWc.seqS (N := 20) 1 (fun (z : (Int × (List UInt8))) => [(0, (.d (.int .u64 z.1))), (3, (.ap 0 1 (List.map byteD z.2)))]) (fun z => [(0, (.tok ((List.map byteD z.2).length * 1)))]) (fun z => o10 = .b0 z) rfl_le ?_ ?_
  · refine AWc.block ?_
    refine AWc.loopK (N := 20) 1 (fun (x : (Int × (List UInt8))) => [(0, (.d (.int .u64 x.1))), (3, (.ap 0 1 (List.map byteD x.2)))]) (fun x => [(0, (.tok ((List.map byteD x.2).length * 1)))]) (fun k x => f24_l10 k x.1 x.2 = some o10) k (a0, ([] : List UInt8)) rfl_le (fun x hx => by cases hx) h10 ⟨rfl, [.tok 0], [(0, 0)], rfl, rfl, ⟨⟨_, rfl, (.refl _)⟩, rfl, ⟨⟨_, rfl, .nil⟩, rfl, trivial⟩⟩, ⟨⟨_, rfl, (.refl _)⟩, rfl, rfl, trivial⟩⟩ ?_
    clear h10
    intro k
    rintro ⟨y10_1, y10_2⟩ h10
    dsimp only at h10 ⊢
    rw [f24_l10] at h10
    refine AWc.seq ?_
    refine AWc.seq ?_
    refine AWc.rg hmix rfl rfl ?_
    refine RegV.p0 rfl rfl rfl ?_
    refine RegV.p0 (v := (.d (.bool (decide (y10_1 ≥ (128 : Int)))))) rfl rfl rfl ?_
    refine RegV.nil0 ?_
    refine AWc.cond rfl (fun c18 => ?_) (fun c18 => ?_)
    · have h10 := cond_pos c18 h10
      refine AWc.skip ?_
      refine AWc.block ?_
      refine AWc.seq ?_
      refine AWc.rg hmix rfl rfl ?_
      refine RegV.p0 rfl rfl rfl ?_
      refine RegV.p0 rfl rfl rfl ?_
      refine RegV.p1 (v := (.d (.int .u64 (Int.tmod y10_1 (128 : Int))))) rfl rfl (by decide) rfl rfl ?_
      refine RegV.p0 (v := (.d (.int .u8 (IntKind.u8.wrap (Int.tmod y10_1 (128 : Int)))))) rfl rfl rfl ?_
      refine RegV.p0 (v := (.d (.int .u8 (IntKind.u8.wrap ((IntKind.u8.wrap (Int.tmod y10_1 (128 : Int))) + (128 : Int)))))) rfl rfl rfl ?_
      refine RegV.p1 (v := .d (.sl [(.int .u8 (IntKind.u8.wrap ((IntKind.u8.wrap (Int.tmod y10_1 (128 : Int))) + (128 : Int))))])) (v' := (.d (.sl (List.map byteD ([(u8 (IntKind.u8.wrap ((IntKind.u8.wrap (Int.tmod y10_1 (128 : Int))) + (128 : Int))))] : List UInt8))))) (s := ([(.int .u8 0)] : List D).length = 1 ∧ 1 * 1 ≤ 16777216 ∧ ∀ d ∈ ([(.int .u8 (IntKind.u8.wrap ((IntKind.u8.wrap (Int.tmod y10_1 (128 : Int))) + (128 : Int))))] : List D), d.cells.length = 1) rfl rfl ⟨rfl, Nat.le_of_ble_eq_true rfl, by simp [D.cells]⟩ rfl (by simp only [List.map_cons, List.map_nil, byteD, ← u8_eq (u8_wrap _), ← u8_eq (u8_bits _ _ _)]) ?_
      obtain ⟨b31, h10⟩ := gd_some h10
      refine RegV.appA (xs := y10_2) (ys := ([(u8 (IntKind.u8.wrap ((IntKind.u8.wrap (Int.tmod y10_1 (128 : Int))) + (128 : Int))))] : List UInt8)) (e := byteD) (H1 := []) rfl rfl rfl rfl (fun _ => rfl) rfl rfl b31 rfl rfl rfl ?_
      refine RegV.p0 rfl rfl rfl ?_
      refine RegV.nil0 ?_
      refine AWc.rg hmix rfl rfl ?_
      refine RegV.p0 rfl rfl rfl ?_
      refine RegV.p1 (v := (.d (.int .u64 (IntKind.u64.wrap (Int.tdiv y10_1 (128 : Int)))))) rfl rfl (by decide) rfl rfl ?_
      refine RegV.p0 rfl rfl rfl ?_
      refine RegV.nil0 ?_
      exact ⟨((IntKind.u64.wrap (Int.tdiv y10_1 (128 : Int))), (y10_2 ++ ([(u8 (IntKind.u8.wrap ((IntKind.u8.wrap (Int.tmod y10_1 (128 : Int))) + (128 : Int))))] : List UInt8))), h10, ⟨rfl, [], [(0, 1)], rfl, rfl, ⟨⟨_, rfl, (.refl _)⟩, rfl, ⟨⟨_, rfl, (.refl _)⟩, rfl, trivial⟩⟩, ⟨⟨_, rfl, (.refl _)⟩, rfl, rfl, trivial⟩⟩⟩
    · have h10 := cond_neg c18 h10
      cases h10
      dsimp only at h
      refine AWc.exit ?_
      refine inBlk_eq ?_
      exact ⟨(y10_1, y10_2), rfl, ⟨rfl, [], [], rfl, rfl, ⟨⟨_, rfl, (.refl _)⟩, rfl, ⟨⟨_, rfl, (.refl _)⟩, rfl, trivial⟩⟩, ⟨⟨_, rfl, (.refl _)⟩, rfl, rfl, trivial⟩⟩⟩
  · rintro ⟨x10_1, x10_2⟩ ho
    subst ho
    dsimp only at h ⊢
    refine AWc.seq ?_
    refine AWc.rg hmix rfl rfl ?_
    refine RegV.p0 rfl rfl rfl ?_
    refine RegV.p0 rfl rfl rfl ?_
    refine RegV.p0 (v := (.d (.int .u8 (IntKind.u8.wrap x10_1)))) rfl rfl rfl ?_
    refine RegV.p1 (v := .d (.sl [(.int .u8 (IntKind.u8.wrap x10_1))])) (v' := (.d (.sl (List.map byteD ([(u8 (IntKind.u8.wrap x10_1))] : List UInt8))))) (s := ([(.int .u8 0)] : List D).length = 1 ∧ 1 * 1 ≤ 16777216 ∧ ∀ d ∈ ([(.int .u8 (IntKind.u8.wrap x10_1))] : List D), d.cells.length = 1) rfl rfl ⟨rfl, Nat.le_of_ble_eq_true rfl, by simp [D.cells]⟩ rfl (by simp only [List.map_cons, List.map_nil, byteD, ← u8_eq (u8_wrap _), ← u8_eq (u8_bits _ _ _)]) ?_
    obtain ⟨b45, h⟩ := gd_some h
    refine RegV.appA (xs := x10_2) (ys := ([(u8 (IntKind.u8.wrap x10_1))] : List UInt8)) (e := byteD) (H1 := []) rfl rfl rfl rfl (fun _ => rfl) rfl rfl b45 rfl rfl rfl ?_
    refine RegV.p0 rfl rfl rfl ?_
    refine RegV.nil0 ?_
    have hr := Option.some.inj h
    subst hr
    exact AWc.ret (canQ (N := 20) (k := 1) (l' := [(2, (.ap 0 1 (List.map byteD (x10_2 ++ ([(u8 (IntKind.u8.wrap x10_1))] : List UInt8)))))]) (H' := [(0, (.tok ((List.map byteD (x10_2 ++ ([(u8 (IntKind.u8.wrap x10_1))] : List UInt8))).length * 1)))]) rfl ⟨rfl, [], [(0, 1)], rfl, rfl, ⟨⟨_, rfl, (.refl _)⟩, rfl, trivial⟩, ⟨⟨_, rfl, (.refl _)⟩, rfl, rfl, trivial⟩⟩ (doneA (.inr rfl) rfl ⟨trivial, trivial⟩ (.refl _) (hasCons rfl hasNil)))
/-- courant/courantref01.Zig -/
def C26 (N : Nat → Nat) : AFunc := { n := 16, params := 1, res := [.tmp 2], body :=
 (.seq (.region false [⟨(some 2), .mv (.k .nils), none, []⟩])
  (.seq (.seq (.region false [⟨(some 3), .mv (.t 0), none, []⟩,
     ⟨(some 4), .bin .geq (.t 3) (.k (.d (.int .i64 0))), none, [0]⟩])
    (.cond (.t 4) (.seq (.region false [⟨(some 5), .mv (.t 0), none, []⟩,
       ⟨(some 6), .cvi .u64 (.t 5), none, [0]⟩,
       ⟨(some 7), .bin .mul (.t 6) (.k (.d (.int .u64 2))), none, [1]⟩,
       ⟨(some 8), .call (.k (.d (.fn (N 24)))) [(.t 7)], none, [2]⟩,
       ⟨(some 2), .mv (.t 8), none, [3, 0, 1, 2]⟩])
      .ret)
     (.skip)))
   (.seq (.region false [⟨(some 9), .mv (.t 0), none, []⟩,
     ⟨(some 10), .bin .add (.t 9) (.k (.d (.int .i64 1))), none, [0]⟩,
     ⟨(some 11), .un .neg (.t 10), none, [1]⟩,
     ⟨(some 12), .cvi .u64 (.t 11), none, [2]⟩,
     ⟨(some 13), .bin .mul (.t 12) (.k (.d (.int .u64 2))), none, [3]⟩,
     ⟨(some 14), .bin .add (.t 13) (.k (.d (.int .u64 1))), none, [4]⟩,
     ⟨(some 15), .call (.k (.d (.fn (N 24)))) [(.t 14)], none, [5]⟩,
     ⟨(some 2), .mv (.t 15), none, [6, 0, 1, 2, 3, 4, 5]⟩])
    .ret))) }
def HC26 (P : Program) (N : Nat → Nat) : Prop := HasF P (N 26) (C26 N) ∧ HC24 P N
def f26 (k : Nat) (a0 : Int) : Option (List UInt8) := cond (decide (a0 ≥ (0 : Int))) ((f24 k (IntKind.u64.wrap ((IntKind.u64.wrap a0) * (2 : Int)))).bind fun r18 => some r18) ((f24 k (IntKind.u64.wrap ((IntKind.u64.wrap ((IntKind.u64.wrap (IntKind.i64.wrap (0 - (IntKind.i64.wrap (a0 + (1 : Int)))))) * (2 : Int))) + (1 : Int)))).bind fun r31 => some r31)
theorem F26 {P : Program} {N : Nat → Nat} (hmix : P.follows .mixedOrders = true) (hc : HC26 P N) {k : Nat} {a0 : Int} {r : (List UInt8)} (h : f26 k a0 = some r) :
    ACalls P (N 26) [(.d (.int .i64 a0))] [] (.ap 0 1 (List.map byteD r)) [(0, (.tok ((List.map byteD r).length * 1)))] := by
  refine acalls_canon (F := C26 N) hc.1 0 1 rfl ?_
  unfold f26 at h
  dsimp only [C26, startL]
  refine AWc.seq ?_
  refine AWc.rg hmix rfl rfl ?_
  refine RegV.p0 rfl rfl rfl ?_
  refine RegV.nil0 ?_
  refine AWc.seq ?_
  refine AWc.seq ?_
  refine AWc.rg hmix rfl rfl ?_
  refine RegV.p0 rfl rfl rfl ?_
  refine RegV.p0 (v := (.d (.bool (decide (a0 ≥ (0 : Int)))))) rfl rfl rfl ?_
  refine RegV.nil0 ?_
  refine AWc.cond rfl (fun c11 => ?_) (fun c11 => ?_)
  · have h := cond_pos c11 h
    refine AWc.seq ?_
    refine AWc.rg hmix rfl rfl ?_
    refine RegV.p0 rfl rfl rfl ?_
    refine RegV.p0 (v := (.d (.int .u64 (IntKind.u64.wrap a0)))) rfl rfl rfl ?_
    refine RegV.p0 (v := (.d (.int .u64 (IntKind.u64.wrap ((IntKind.u64.wrap a0) * (2 : Int)))))) rfl rfl rfl ?_
    obtain ⟨r18, e18, h⟩ := bind_some h
    refine RegV.callS (q := false) (H' := [(0, (.tok ((List.map byteD r18).length * 1)))]) (c' := 1) (show ACalls P (N 24) [(.d (.int .u64 (IntKind.u64.wrap ((IntKind.u64.wrap a0) * (2 : Int)))))] [] (.ap 0 1 (List.map byteD r18)) [(0, (.tok ((List.map byteD r18).length * 1)))] from ACalls.use (F24 hmix hc.2 e18) [(0, 0)] 1 rfl) rfl rfl rfl rfl (.cons (.refl _) .nil) (.refl _) (fun h => by cases h) rfl hasNil rfl rfl rfl rfl ?_
    refine RegV.p0 rfl rfl rfl ?_
    refine RegV.nil0 ?_
    have hr := Option.some.inj h
    subst hr
    exact AWc.ret (canQ (N := 16) (k := 1) (l' := [(2, (.ap 0 1 (List.map byteD r18)))]) (H' := [(0, (.tok ((List.map byteD r18).length * 1)))]) rfl ⟨rfl, [], [], rfl, rfl, ⟨⟨_, rfl, (.refl _)⟩, rfl, trivial⟩, ⟨⟨_, rfl, (.refl _)⟩, rfl, rfl, trivial⟩⟩ (doneA (.inr rfl) rfl ⟨trivial, trivial⟩ (.refl _) (hasCons rfl hasNil)))
  · have h := cond_neg c11 h
    refine AWc.skip ?_
    refine AWc.seq ?_
    refine AWc.rg hmix rfl rfl ?_
    refine RegV.p0 rfl rfl rfl ?_
    refine RegV.p0 (v := (.d (.int .i64 (IntKind.i64.wrap (a0 + (1 : Int)))))) rfl rfl rfl ?_
    refine RegV.p0 (v := (.d (.int .i64 (IntKind.i64.wrap (0 - (IntKind.i64.wrap (a0 + (1 : Int)))))))) rfl rfl rfl ?_
    refine RegV.p0 (v := (.d (.int .u64 (IntKind.u64.wrap (IntKind.i64.wrap (0 - (IntKind.i64.wrap (a0 + (1 : Int))))))))) rfl rfl rfl ?_
    refine RegV.p0 (v := (.d (.int .u64 (IntKind.u64.wrap ((IntKind.u64.wrap (IntKind.i64.wrap (0 - (IntKind.i64.wrap (a0 + (1 : Int)))))) * (2 : Int)))))) rfl rfl rfl ?_
    refine RegV.p0 (v := (.d (.int .u64 (IntKind.u64.wrap ((IntKind.u64.wrap ((IntKind.u64.wrap (IntKind.i64.wrap (0 - (IntKind.i64.wrap (a0 + (1 : Int)))))) * (2 : Int))) + (1 : Int)))))) rfl rfl rfl ?_
    obtain ⟨r31, e31, h⟩ := bind_some h
    refine RegV.callS (q := false) (H' := [(0, (.tok ((List.map byteD r31).length * 1)))]) (c' := 1) (show ACalls P (N 24) [(.d (.int .u64 (IntKind.u64.wrap ((IntKind.u64.wrap ((IntKind.u64.wrap (IntKind.i64.wrap (0 - (IntKind.i64.wrap (a0 + (1 : Int)))))) * (2 : Int))) + (1 : Int)))))] [] (.ap 0 1 (List.map byteD r31)) [(0, (.tok ((List.map byteD r31).length * 1)))] from ACalls.use (F24 hmix hc.2 e31) [(0, 0)] 1 rfl) rfl rfl rfl rfl (.cons (.refl _) .nil) (.refl _) (fun h => by cases h) rfl hasNil rfl rfl rfl rfl ?_
    refine RegV.p0 rfl rfl rfl ?_
    refine RegV.nil0 ?_
    have hr := Option.some.inj h
    subst hr
    exact AWc.ret (canQ (N := 16) (k := 1) (l' := [(2, (.ap 0 1 (List.map byteD r31)))]) (H' := [(0, (.tok ((List.map byteD r31).length * 1)))]) rfl ⟨rfl, [], [], rfl, rfl, ⟨⟨_, rfl, (.refl _)⟩, rfl, trivial⟩, ⟨⟨_, rfl, (.refl _)⟩, rfl, rfl, trivial⟩⟩ (doneA (.inr rfl) rfl ⟨trivial, trivial⟩ (.refl _) (hasCons rfl hasNil)))
/-- courant/courantref01.Text -/
def C28 (N : Nat → Nat) : AFunc := { n := 8, params := 1, res := [.tmp 2], body :=
 (.seq (.region false [⟨(some 2), .mv (.k .nils), none, []⟩])
  (.seq (.region false [⟨(some 3), .mv (.t 0), none, []⟩,
    ⟨(some 4), .len (.t 3), none, [0]⟩,
    ⟨(some 5), .call (.k (.d (.fn (N 26)))) [(.t 4)], none, [1]⟩,
    ⟨(some 6), .mv (.t 0), none, []⟩,
    ⟨(some 7), .app (.t 5) (.t 6) 1 1 [(.int .u8 0)], none, [2, 3]⟩,
    ⟨(some 2), .mv (.t 7), none, [4, 0, 1, 2, 3]⟩])
   .ret)) }
def HC28 (P : Program) (N : Nat → Nat) : Prop := HasF P (N 28) (C28 N) ∧ HC26 P N
def f28 (k : Nat) (a0 : (List UInt8)) : Option (List UInt8) := (f26 k ((a0.length : Nat) : Int)).bind fun r10 => gd ((r10.length + a0.length) * 2 * 1 ≤ 281474976710656) (some (r10 ++ a0))
theorem F28 {P : Program} {N : Nat → Nat} (hmix : P.follows .mixedOrders = true) (hc : HC28 P N) {k : Nat} {a0 : (List UInt8)} {r : (List UInt8)} (h : f28 k a0 = some r) :
    ACalls P (N 28) [(.d (.sl (List.map byteD a0)))] [] (.ap 0 1 (List.map byteD r)) [(0, (.tok ((List.map byteD r).length * 1)))] := by
  refine acalls_canon (F := C28 N) hc.1 0 1 rfl ?_
  unfold f28 at h
  dsimp only [C28, startL]
  refine AWc.seq ?_
  refine AWc.rg hmix rfl rfl ?_
  refine RegV.p0 rfl rfl rfl ?_
  refine RegV.nil0 ?_
  refine AWc.seq ?_
  refine AWc.rg hmix rfl rfl ?_
  refine RegV.p0 rfl rfl rfl ?_
  refine RegV.len (xs := a0) (e := byteD) rfl rfl rfl rfl ?_
  obtain ⟨r10, e10, h⟩ := bind_some h
  refine RegV.callS (q := false) (H' := [(0, (.tok ((List.map byteD r10).length * 1)))]) (c' := 1) (show ACalls P (N 26) [(.d (.int .i64 ((a0.length : Nat) : Int)))] [] (.ap 0 1 (List.map byteD r10)) [(0, (.tok ((List.map byteD r10).length * 1)))] from ACalls.use (F26 hmix hc.2 e10) [(0, 0)] 1 rfl) rfl rfl rfl rfl (.cons (.refl _) .nil) (.refl _) (fun h => by cases h) rfl hasNil rfl rfl rfl rfl ?_
  refine RegV.p0 rfl rfl rfl ?_
  obtain ⟨b12, h⟩ := gd_some h
  refine RegV.appA (xs := r10) (ys := a0) (e := byteD) (H1 := []) rfl rfl rfl rfl (fun _ => rfl) rfl rfl b12 rfl rfl rfl ?_
  refine RegV.p0 rfl rfl rfl ?_
  refine RegV.nil0 ?_
  have hr := Option.some.inj h
  subst hr
  exact AWc.ret (canQ (N := 8) (k := 1) (l' := [(2, (.ap 0 1 (List.map byteD (r10 ++ a0))))]) (H' := [(0, (.tok ((List.map byteD (r10 ++ a0)).length * 1)))]) rfl ⟨rfl, [], [(0, 1)], rfl, rfl, ⟨⟨_, rfl, (.refl _)⟩, rfl, trivial⟩, ⟨⟨_, rfl, (.refl _)⟩, rfl, rfl, trivial⟩⟩ (doneA (.inr rfl) rfl ⟨trivial, trivial⟩ (.refl _) (hasCons rfl hasNil)))
end Go.Proofs.Abs
