/- Written by gen.py: functions of the program as Lean functions, and that the code comes to them. -/
import Derived.Test.YtojmpoboidomeaaGLrba
set_option linter.unusedVariables false
set_option linter.unusedSimpArgs false
set_option maxRecDepth 100000
set_option maxHeartbeats 4000000
namespace Go.Proofs.Abs
open Go
/-- courant/request.Take -/
def C57 (N : Nat → Nat) : AFunc := { n := 63, params := 1, res := [.cell 2 11 true, .tmp 3], body :=
 (.seq (.region false [⟨(some 2), .alloc [(.int .i64 0), (.str []), (.str []), (.str []), (.int .i64 0), (.int .i64 0), (.int .u64 0), (.int .u64 0), (.int .u64 0), (.int .i64 0), (.sl [])], none, []⟩,
   ⟨(some 3), .mv (.k (.d (.int .i64 0))), none, []⟩])
  (.seq (.region false [⟨(some 7), .mv (.t 0), none, []⟩,
    ⟨(some 8), .call (.k (.d (.fn (N 30)))) [(.t 7)], none, [0]⟩,
    ⟨(some 9), .build [.nilp] [(0, 1, (.t 8))], none, [1]⟩,
    ⟨(some 10), .box (.t 9), none, [2]⟩,
    ⟨(some 4), .mv (.t 10), none, [3, 1, 0, 2]⟩])
   (.seq (.region false [⟨(some 11), .mv (.t 4), none, []⟩,
     ⟨(some 12), .call (.k (.d (.fn (N 92)))) [(.t 11)], none, [0]⟩,
     ⟨(some 13), .mv (.t 4), none, []⟩,
     ⟨(some 14), .call (.k (.d (.fn (N 93)))) [(.t 13)], none, [2, 1]⟩,
     ⟨(some 15), .mv (.t 4), none, []⟩,
     ⟨(some 16), .call (.k (.d (.fn (N 93)))) [(.t 15)], none, [4, 3]⟩,
     ⟨(some 17), .mv (.t 4), none, []⟩,
     ⟨(some 18), .call (.k (.d (.fn (N 93)))) [(.t 17)], none, [6, 5]⟩,
     ⟨(some 19), .build [(.int .i64 0), (.str []), (.str []), (.str []), (.int .i64 0), (.int .i64 0), (.int .u64 0), (.int .u64 0), (.int .u64 0), (.int .i64 0), (.sl [])] [(0, 1, (.t 12)), (1, 1, (.t 14)), (2, 1, (.t 16)), (3, 1, (.t 18))], none, [1, 3, 5, 7]⟩,
     ⟨(some 5), .alloc [(.int .i64 0), (.str []), (.str []), (.str []), (.int .i64 0), (.int .i64 0), (.int .u64 0), (.int .u64 0), (.int .u64 0), (.int .i64 0), (.sl [])], none, []⟩,
     ⟨none, .store (.t 5) (.t 19) 11, none, [9, 8, 7, 0, 1, 2, 3, 4, 5, 6]⟩])
    (.seq (.region false [⟨(some 20), .mv (.t 4), none, []⟩,
      ⟨(some 21), .call (.k (.d (.fn (N 92)))) [(.t 20)], none, [0]⟩,
      ⟨(some 22), .mv (.t 4), none, []⟩,
      ⟨(some 23), .call (.k (.d (.fn (N 92)))) [(.t 22)], none, [2, 1]⟩,
      ⟨(some 24), .faddr (.t 5) 4, none, [0, 1]⟩,
      ⟨none, .store (.t 24) (.t 21) 1, none, [4, 1, 3, 0]⟩,
      ⟨(some 25), .faddr (.t 5) 5, none, [0, 1, 2, 3, 4, 5]⟩,
      ⟨none, .store (.t 25) (.t 23) 1, none, [6, 3, 5, 0, 1, 2, 4]⟩])
     (.seq (.region true [⟨(some 26), .mv (.t 4), none, []⟩,
       ⟨(some 27), .nilchk (.t 26), none, [0]⟩,
       ⟨(some 28), .faddr (.t 27) 0, none, [1]⟩,
       ⟨(some 29), .load (.t 28) 1 false, none, [2]⟩,
       ⟨(some 30), .call (.k (.d (.fn (N 39)))) [(.t 29)], none, [3]⟩,
       ⟨(some 31), .mv (.t 4), none, []⟩,
       ⟨(some 32), .nilchk (.t 31), none, [5]⟩,
       ⟨(some 33), .faddr (.t 32) 0, none, [6]⟩,
       ⟨(some 34), .load (.t 33) 1 false, none, [7]⟩,
       ⟨(some 35), .call (.k (.d (.fn (N 39)))) [(.t 34)], none, [8, 4]⟩,
       ⟨(some 36), .mv (.t 4), none, []⟩,
       ⟨(some 37), .nilchk (.t 36), none, [10]⟩,
       ⟨(some 38), .faddr (.t 37) 0, none, [11]⟩,
       ⟨(some 39), .load (.t 38) 1 false, none, [12]⟩,
       ⟨(some 40), .call (.k (.d (.fn (N 39)))) [(.t 39)], none, [13, 9]⟩,
       ⟨(some 41), .faddr (.t 5) 6, none, [0, 1, 2, 3, 4]⟩,
       ⟨none, .store (.t 41) (.t 30) 1, none, [15, 4, 14, 0, 1, 2, 3]⟩,
       ⟨(some 42), .faddr (.t 5) 7, none, [0, 1, 2, 3, 4, 5, 6, 7, 8, 9, 15, 16]⟩,
       ⟨none, .store (.t 42) (.t 35) 1, none, [17, 9, 16, 0, 1, 2, 3, 4, 5, 6, 7, 8, 15]⟩,
       ⟨(some 43), .faddr (.t 5) 8, none, [0, 1, 2, 3, 4, 5, 6, 7, 8, 9, 10, 11, 12, 13, 14, 15, 16, 17, 18]⟩,
       ⟨none, .store (.t 43) (.t 40) 1, none, [19, 14, 18, 0, 1, 2, 3, 4, 5, 6, 7, 8, 9, 10, 11, 12, 13, 15, 16, 17]⟩])
      (.seq (.region false [⟨(some 44), .mv (.t 4), none, []⟩,
        ⟨(some 45), .call (.k (.d (.fn (N 92)))) [(.t 44)], none, [0]⟩,
        ⟨(some 46), .faddr (.t 5) 9, none, [0, 1]⟩,
        ⟨none, .store (.t 46) (.t 45) 1, none, [2, 1, 0]⟩])
       (.seq (.region false [⟨(some 47), .mv (.t 4), none, []⟩,
         ⟨(some 48), .nilchk (.t 47), none, [0]⟩,
         ⟨(some 49), .faddr (.t 48) 0, none, [1]⟩,
         ⟨(some 50), .load (.t 49) 1 false, none, [2]⟩,
         ⟨(some 51), .call (.k (.d (.fn (N 31)))) [(.t 50), (.k (.d (.int .i64 20000)))], none, [3]⟩,
         ⟨(some 52), .faddr (.t 5) 10, none, [0, 1, 2, 3, 4]⟩,
         ⟨none, .store (.t 52) (.t 51) 1, none, [5, 4, 0, 1, 2, 3]⟩])
        (.seq (.seq (.region false [⟨(some 53), .mv (.t 4), none, []⟩,
           ⟨(some 54), .nilchk (.t 53), none, [0]⟩,
           ⟨(some 55), .faddr (.t 54) 0, none, [1]⟩,
           ⟨(some 56), .load (.t 55) 1 false, none, [2]⟩,
           ⟨(some 57), .call (.k (.d (.fn (N 43)))) [(.t 56)], none, [3]⟩,
           ⟨(some 6), .mv (.t 57), none, [4, 0, 1, 2, 3]⟩])
          (.seq (.region false [⟨(some 58), .mv (.t 6), none, []⟩,
            ⟨(some 59), .bin .neq (.t 58) (.k (.d (.int .i64 0))), none, [0]⟩])
           (.cond (.t 59) (.seq (.region false [⟨(some 60), .build [(.int .i64 0), (.str []), (.str []), (.str []), (.int .i64 0), (.int .i64 0), (.int .u64 0), (.int .u64 0), (.int .u64 0), (.int .i64 0), (.sl [])] [], none, []⟩,
              ⟨(some 61), .mv (.t 6), none, []⟩,
              ⟨none, .store (.t 2) (.t 60) 11, none, [0]⟩,
              ⟨(some 3), .mv (.t 61), none, [1, 2, 0]⟩])
             .ret)
            (.skip))))
         (.seq (.region false [⟨(some 62), .load (.t 5) 11 true, none, []⟩,
           ⟨none, .store (.t 2) (.t 62) 11, none, [0]⟩,
           ⟨(some 3), .mv (.k (.d (.int .i64 0))), none, [1, 0]⟩])
          .ret))))))))) }
def HC57 (P : Program) (N : Nat → Nat) : Prop := HasF P (N 57) (C57 N) ∧ HC30 P N ∧ HC92 P N ∧ HC93 P N ∧ HC39 P N ∧ HC31 P N ∧ HC43 P N
def f57 (k : Nat) (a0 : (List UInt8)) : Option (Int × Int × (List UInt8) × (List UInt8) × (List UInt8) × Int × Int × Int × Int × Int × Int × (List UInt8)) := (f30 k a0).bind fun r10 => (f92 k a0 (0 : Int) (0 : Int)).bind fun r18 => (f93 k a0 r18.2.1 r18.2.2).bind fun r20 => (f93 k a0 r20.2.1 r20.2.2).bind fun r22 => (f93 k a0 r22.2.1 r22.2.2).bind fun r24 => (f92 k a0 r24.2.1 r24.2.2).bind fun r32 => (f92 k a0 r32.2.1 r32.2.2).bind fun r34 => (f39 k a0 r34.2.1 r34.2.2).bind fun r46 => (f39 k a0 r46.2.1 r46.2.2).bind fun r51 => (f39 k a0 r51.2.1 r51.2.2).bind fun r56 => (f92 k a0 r56.2.1 r56.2.2).bind fun r67 => (f31 k a0 r67.2.1 r67.2.2 (20000 : Int)).bind fun r77 => (f43 k a0 r77.2.1 r77.2.2).bind fun r88 => cond (decide (r88 ≠ (0 : Int))) (some (r88, (0 : Int), ([] : List UInt8), ([] : List UInt8), ([] : List UInt8), (0 : Int), (0 : Int), (0 : Int), (0 : Int), (0 : Int), (0 : Int), ([] : List UInt8))) (some ((0 : Int), r18.1, r20.1, r22.1, r24.1, r32.1, r34.1, r46.1, r51.1, r56.1, r67.1, r77.1))
theorem F57 {P : Program} {N : Nat → Nat} (hmix : P.follows .mixedOrders = true) (hc : HC57 P N) {k : Nat} {a0 : (List UInt8)} {r : (Int × Int × (List UInt8) × (List UInt8) × (List UInt8) × Int × Int × Int × Int × Int × Int × (List UInt8))} (h : f57 k a0 = some r) :
    ACalls P (N 57) [(.d (.sl (List.map byteD a0)))] [] (.tup [(.d (.agg [(.int .i64 r.2.1), (.str r.2.2.1), (.str r.2.2.2.1), (.str r.2.2.2.2.1), (.int .i64 r.2.2.2.2.2.1), (.int .i64 r.2.2.2.2.2.2.1), (.int .u64 r.2.2.2.2.2.2.2.1), (.int .u64 r.2.2.2.2.2.2.2.2.1), (.int .u64 r.2.2.2.2.2.2.2.2.2.1), (.int .i64 r.2.2.2.2.2.2.2.2.2.2.1), (.sl (List.map byteD r.2.2.2.2.2.2.2.2.2.2.2))])), (.d (.int .i64 r.1))]) [] := by
  refine acalls_canon (F := C57 N) hc.1 0 0 rfl ?_
  unfold f57 at h
  dsimp only [C57, startL]
  refine AWc.seq ?_
  refine AWc.rg hmix rfl rfl ?_
  refine RegV.evS (own := false) (v := (.ptr 0 0)) (H' := [(0, (.cells [(.d (.int .i64 (0 : Int))), (.d (.str ([] : List UInt8))), (.d (.str ([] : List UInt8))), (.d (.str ([] : List UInt8))), (.d (.int .i64 (0 : Int))), (.d (.int .i64 (0 : Int))), (.d (.int .u64 (0 : Int))), (.d (.int .u64 (0 : Int))), (.d (.int .u64 (0 : Int))), (.d (.int .i64 (0 : Int))), .nils]))]) (c' := 1) rfl rfl trivial rfl rfl rfl rfl rfl rfl ?_
  refine RegV.p0 rfl rfl rfl ?_
  refine RegV.nil0 ?_
  refine AWc.seq ?_
  refine AWc.rg hmix rfl rfl ?_
  refine RegV.p0 rfl rfl rfl ?_
  obtain ⟨r10, e10, h⟩ := bind_some h
  refine RegV.callS (q := false) (H' := [(1, (.cells [(.d (.sl (List.map byteD a0))), (.d (.int .i64 (0 : Int))), (.d (.int .i64 (0 : Int)))])), (0, (.cells [(.d (.int .i64 (0 : Int))), (.d (.str ([] : List UInt8))), (.d (.str ([] : List UInt8))), (.d (.str ([] : List UInt8))), (.d (.int .i64 (0 : Int))), (.d (.int .i64 (0 : Int))), (.d (.int .u64 (0 : Int))), (.d (.int .u64 (0 : Int))), (.d (.int .u64 (0 : Int))), (.d (.int .i64 (0 : Int))), .nils]))]) (c' := 2) (show ACalls P (N 30) [(.d (.sl (List.map byteD a0)))] [] (.ptr 1 0) [(1, (.cells [(.d (.sl (List.map byteD a0))), (.d (.int .i64 (0 : Int))), (.d (.int .i64 (0 : Int)))]))] from ACalls.use (F30 hmix hc.2.1 e10) [(0, 1)] 1 rfl) rfl rfl rfl rfl (.cons (.refl _) .nil) (.refl _) (fun h => by cases h) rfl hasNil rfl rfl rfl rfl ?_
  refine RegV.p1 (v := (.agg [(.ptr 1 0)])) rfl rfl (by exact ⟨⟨rfl, Nat.le_of_ble_eq_true rfl⟩, trivial⟩) rfl rfl ?_
  refine RegV.evS (own := false) (v := (.ptr 2 0)) (H' := [(2, (.cells [(.ptr 1 0)])), (1, (.cells [(.d (.sl (List.map byteD a0))), (.d (.int .i64 (0 : Int))), (.d (.int .i64 (0 : Int)))])), (0, (.cells [(.d (.int .i64 (0 : Int))), (.d (.str ([] : List UInt8))), (.d (.str ([] : List UInt8))), (.d (.str ([] : List UInt8))), (.d (.int .i64 (0 : Int))), (.d (.int .i64 (0 : Int))), (.d (.int .u64 (0 : Int))), (.d (.int .u64 (0 : Int))), (.d (.int .u64 (0 : Int))), (.d (.int .i64 (0 : Int))), .nils]))]) (c' := 3) rfl rfl trivial rfl rfl rfl rfl rfl rfl ?_
  refine RegV.p0 rfl rfl rfl ?_
  refine RegV.nil0 ?_
  refine AWc.seq ?_
  refine AWc.rg hmix rfl rfl ?_
  refine RegV.p0 rfl rfl rfl ?_
  obtain ⟨r18, e18, h⟩ := bind_some h
  refine RegV.callS (q := false) (H' := [(2, (.cells [(.ptr 1 0)])), (1, (.cells [(.d (.sl (List.map byteD a0))), (.d (.int .i64 r18.2.1)), (.d (.int .i64 r18.2.2))])), (0, (.cells [(.d (.int .i64 (0 : Int))), (.d (.str ([] : List UInt8))), (.d (.str ([] : List UInt8))), (.d (.str ([] : List UInt8))), (.d (.int .i64 (0 : Int))), (.d (.int .i64 (0 : Int))), (.d (.int .u64 (0 : Int))), (.d (.int .u64 (0 : Int))), (.d (.int .u64 (0 : Int))), (.d (.int .i64 (0 : Int))), .nils]))]) (c' := 3) (show ACalls P (N 92) [(.ptr 2 0)] [(2, (.cells [(.ptr 1 0)])), (1, (.cells [(.d (.sl (List.map byteD a0))), (.d (.int .i64 (0 : Int))), (.d (.int .i64 (0 : Int)))]))] (.d (.int .i64 r18.1)) [(2, (.cells [(.ptr 1 0)])), (1, (.cells [(.d (.sl (List.map byteD a0))), (.d (.int .i64 r18.2.1)), (.d (.int .i64 r18.2.2))]))] from ACalls.use (F92 hmix hc.2.2.1 e18) [(0, 2), (1, 1)] 2 rfl) rfl rfl rfl rfl (.cons (.refl _) .nil) (.refl _) (fun h => by cases h) rfl (hasCons rfl (hasCons rfl hasNil)) rfl rfl rfl rfl ?_
  refine RegV.p0 rfl rfl rfl ?_
  obtain ⟨r20, e20, h⟩ := bind_some h
  refine RegV.callS (q := false) (H' := [(2, (.cells [(.ptr 1 0)])), (1, (.cells [(.d (.sl (List.map byteD a0))), (.d (.int .i64 r20.2.1)), (.d (.int .i64 r20.2.2))])), (0, (.cells [(.d (.int .i64 (0 : Int))), (.d (.str ([] : List UInt8))), (.d (.str ([] : List UInt8))), (.d (.str ([] : List UInt8))), (.d (.int .i64 (0 : Int))), (.d (.int .i64 (0 : Int))), (.d (.int .u64 (0 : Int))), (.d (.int .u64 (0 : Int))), (.d (.int .u64 (0 : Int))), (.d (.int .i64 (0 : Int))), .nils]))]) (c' := 3) (show ACalls P (N 93) [(.ptr 2 0)] [(2, (.cells [(.ptr 1 0)])), (1, (.cells [(.d (.sl (List.map byteD a0))), (.d (.int .i64 r18.2.1)), (.d (.int .i64 r18.2.2))]))] (.d (.str r20.1)) [(2, (.cells [(.ptr 1 0)])), (1, (.cells [(.d (.sl (List.map byteD a0))), (.d (.int .i64 r20.2.1)), (.d (.int .i64 r20.2.2))]))] from ACalls.use (F93 hmix hc.2.2.2.1 e20) [(0, 2), (1, 1)] 2 rfl) rfl rfl rfl rfl (.cons (.refl _) .nil) (.refl _) (fun h => by cases h) rfl (hasCons rfl (hasCons rfl hasNil)) rfl rfl rfl rfl ?_
  refine RegV.p0 rfl rfl rfl ?_
  obtain ⟨r22, e22, h⟩ := bind_some h
  refine RegV.callS (q := false) (H' := [(2, (.cells [(.ptr 1 0)])), (1, (.cells [(.d (.sl (List.map byteD a0))), (.d (.int .i64 r22.2.1)), (.d (.int .i64 r22.2.2))])), (0, (.cells [(.d (.int .i64 (0 : Int))), (.d (.str ([] : List UInt8))), (.d (.str ([] : List UInt8))), (.d (.str ([] : List UInt8))), (.d (.int .i64 (0 : Int))), (.d (.int .i64 (0 : Int))), (.d (.int .u64 (0 : Int))), (.d (.int .u64 (0 : Int))), (.d (.int .u64 (0 : Int))), (.d (.int .i64 (0 : Int))), .nils]))]) (c' := 3) (show ACalls P (N 93) [(.ptr 2 0)] [(2, (.cells [(.ptr 1 0)])), (1, (.cells [(.d (.sl (List.map byteD a0))), (.d (.int .i64 r20.2.1)), (.d (.int .i64 r20.2.2))]))] (.d (.str r22.1)) [(2, (.cells [(.ptr 1 0)])), (1, (.cells [(.d (.sl (List.map byteD a0))), (.d (.int .i64 r22.2.1)), (.d (.int .i64 r22.2.2))]))] from ACalls.use (F93 hmix hc.2.2.2.1 e22) [(0, 2), (1, 1)] 2 rfl) rfl rfl rfl rfl (.cons (.refl _) .nil) (.refl _) (fun h => by cases h) rfl (hasCons rfl (hasCons rfl hasNil)) rfl rfl rfl rfl ?_
  refine RegV.p0 rfl rfl rfl ?_
  obtain ⟨r24, e24, h⟩ := bind_some h
  refine RegV.callS (q := false) (H' := [(2, (.cells [(.ptr 1 0)])), (1, (.cells [(.d (.sl (List.map byteD a0))), (.d (.int .i64 r24.2.1)), (.d (.int .i64 r24.2.2))])), (0, (.cells [(.d (.int .i64 (0 : Int))), (.d (.str ([] : List UInt8))), (.d (.str ([] : List UInt8))), (.d (.str ([] : List UInt8))), (.d (.int .i64 (0 : Int))), (.d (.int .i64 (0 : Int))), (.d (.int .u64 (0 : Int))), (.d (.int .u64 (0 : Int))), (.d (.int .u64 (0 : Int))), (.d (.int .i64 (0 : Int))), .nils]))]) (c' := 3) (show ACalls P (N 93) [(.ptr 2 0)] [(2, (.cells [(.ptr 1 0)])), (1, (.cells [(.d (.sl (List.map byteD a0))), (.d (.int .i64 r22.2.1)), (.d (.int .i64 r22.2.2))]))] (.d (.str r24.1)) [(2, (.cells [(.ptr 1 0)])), (1, (.cells [(.d (.sl (List.map byteD a0))), (.d (.int .i64 r24.2.1)), (.d (.int .i64 r24.2.2))]))] from ACalls.use (F93 hmix hc.2.2.2.1 e24) [(0, 2), (1, 1)] 2 rfl) rfl rfl rfl rfl (.cons (.refl _) .nil) (.refl _) (fun h => by cases h) rfl (hasCons rfl (hasCons rfl hasNil)) rfl rfl rfl rfl ?_
  refine RegV.p1 (v := (.d (.agg [(.int .i64 r18.1), (.str r20.1), (.str r22.1), (.str r24.1), (.int .i64 (0 : Int)), (.int .i64 (0 : Int)), (.int .u64 (0 : Int)), (.int .u64 (0 : Int)), (.int .u64 (0 : Int)), (.int .i64 (0 : Int)), (.sl (List.map byteD ([] : List UInt8)))]))) rfl rfl (by exact ⟨⟨rfl, Nat.le_of_ble_eq_true rfl⟩, ⟨⟨rfl, Nat.le_of_ble_eq_true rfl⟩, ⟨⟨rfl, Nat.le_of_ble_eq_true rfl⟩, ⟨⟨rfl, Nat.le_of_ble_eq_true rfl⟩, trivial⟩⟩⟩⟩) rfl rfl ?_
  refine RegV.evS (own := false) (v := (.ptr 3 0)) (H' := [(3, (.cells [(.d (.int .i64 (0 : Int))), (.d (.str ([] : List UInt8))), (.d (.str ([] : List UInt8))), (.d (.str ([] : List UInt8))), (.d (.int .i64 (0 : Int))), (.d (.int .i64 (0 : Int))), (.d (.int .u64 (0 : Int))), (.d (.int .u64 (0 : Int))), (.d (.int .u64 (0 : Int))), (.d (.int .i64 (0 : Int))), .nils])), (2, (.cells [(.ptr 1 0)])), (1, (.cells [(.d (.sl (List.map byteD a0))), (.d (.int .i64 r24.2.1)), (.d (.int .i64 r24.2.2))])), (0, (.cells [(.d (.int .i64 (0 : Int))), (.d (.str ([] : List UInt8))), (.d (.str ([] : List UInt8))), (.d (.str ([] : List UInt8))), (.d (.int .i64 (0 : Int))), (.d (.int .i64 (0 : Int))), (.d (.int .u64 (0 : Int))), (.d (.int .u64 (0 : Int))), (.d (.int .u64 (0 : Int))), (.d (.int .i64 (0 : Int))), .nils]))]) (c' := 4) rfl rfl trivial rfl rfl rfl rfl rfl rfl ?_
  refine RegV.evN (own := false) (H' := [(3, (.cells [(.d (.int .i64 r18.1)), (.d (.str r20.1)), (.d (.str r22.1)), (.d (.str r24.1)), (.d (.int .i64 (0 : Int))), (.d (.int .i64 (0 : Int))), (.d (.int .u64 (0 : Int))), (.d (.int .u64 (0 : Int))), (.d (.int .u64 (0 : Int))), (.d (.int .i64 (0 : Int))), (.d (.sl (List.map byteD ([] : List UInt8))))])), (2, (.cells [(.ptr 1 0)])), (1, (.cells [(.d (.sl (List.map byteD a0))), (.d (.int .i64 r24.2.1)), (.d (.int .i64 r24.2.2))])), (0, (.cells [(.d (.int .i64 (0 : Int))), (.d (.str ([] : List UInt8))), (.d (.str ([] : List UInt8))), (.d (.str ([] : List UInt8))), (.d (.int .i64 (0 : Int))), (.d (.int .i64 (0 : Int))), (.d (.int .u64 (0 : Int))), (.d (.int .u64 (0 : Int))), (.d (.int .u64 (0 : Int))), (.d (.int .i64 (0 : Int))), .nils]))]) (c' := 4) rfl rfl (by exact ⟨rfl, Nat.le_of_ble_eq_true rfl, rfl⟩) rfl rfl rfl rfl ?_
  refine RegV.nil0 ?_
  refine AWc.seq ?_
  refine AWc.rg hmix rfl rfl ?_
  refine RegV.p0 rfl rfl rfl ?_
  obtain ⟨r32, e32, h⟩ := bind_some h
  refine RegV.callS (q := false) (H' := [(2, (.cells [(.ptr 1 0)])), (1, (.cells [(.d (.sl (List.map byteD a0))), (.d (.int .i64 r32.2.1)), (.d (.int .i64 r32.2.2))])), (3, (.cells [(.d (.int .i64 r18.1)), (.d (.str r20.1)), (.d (.str r22.1)), (.d (.str r24.1)), (.d (.int .i64 (0 : Int))), (.d (.int .i64 (0 : Int))), (.d (.int .u64 (0 : Int))), (.d (.int .u64 (0 : Int))), (.d (.int .u64 (0 : Int))), (.d (.int .i64 (0 : Int))), (.d (.sl (List.map byteD ([] : List UInt8))))])), (0, (.cells [(.d (.int .i64 (0 : Int))), (.d (.str ([] : List UInt8))), (.d (.str ([] : List UInt8))), (.d (.str ([] : List UInt8))), (.d (.int .i64 (0 : Int))), (.d (.int .i64 (0 : Int))), (.d (.int .u64 (0 : Int))), (.d (.int .u64 (0 : Int))), (.d (.int .u64 (0 : Int))), (.d (.int .i64 (0 : Int))), .nils]))]) (c' := 4) (show ACalls P (N 92) [(.ptr 2 0)] [(2, (.cells [(.ptr 1 0)])), (1, (.cells [(.d (.sl (List.map byteD a0))), (.d (.int .i64 r24.2.1)), (.d (.int .i64 r24.2.2))]))] (.d (.int .i64 r32.1)) [(2, (.cells [(.ptr 1 0)])), (1, (.cells [(.d (.sl (List.map byteD a0))), (.d (.int .i64 r32.2.1)), (.d (.int .i64 r32.2.2))]))] from ACalls.use (F92 hmix hc.2.2.1 e32) [(0, 2), (1, 1)] 2 rfl) rfl rfl rfl rfl (.cons (.refl _) .nil) (.refl _) (fun h => by cases h) rfl (hasCons rfl (hasCons rfl hasNil)) rfl rfl rfl rfl ?_
  refine RegV.p0 rfl rfl rfl ?_
  obtain ⟨r34, e34, h⟩ := bind_some h
  refine RegV.callS (q := false) (H' := [(2, (.cells [(.ptr 1 0)])), (1, (.cells [(.d (.sl (List.map byteD a0))), (.d (.int .i64 r34.2.1)), (.d (.int .i64 r34.2.2))])), (3, (.cells [(.d (.int .i64 r18.1)), (.d (.str r20.1)), (.d (.str r22.1)), (.d (.str r24.1)), (.d (.int .i64 (0 : Int))), (.d (.int .i64 (0 : Int))), (.d (.int .u64 (0 : Int))), (.d (.int .u64 (0 : Int))), (.d (.int .u64 (0 : Int))), (.d (.int .i64 (0 : Int))), (.d (.sl (List.map byteD ([] : List UInt8))))])), (0, (.cells [(.d (.int .i64 (0 : Int))), (.d (.str ([] : List UInt8))), (.d (.str ([] : List UInt8))), (.d (.str ([] : List UInt8))), (.d (.int .i64 (0 : Int))), (.d (.int .i64 (0 : Int))), (.d (.int .u64 (0 : Int))), (.d (.int .u64 (0 : Int))), (.d (.int .u64 (0 : Int))), (.d (.int .i64 (0 : Int))), .nils]))]) (c' := 4) (show ACalls P (N 92) [(.ptr 2 0)] [(2, (.cells [(.ptr 1 0)])), (1, (.cells [(.d (.sl (List.map byteD a0))), (.d (.int .i64 r32.2.1)), (.d (.int .i64 r32.2.2))]))] (.d (.int .i64 r34.1)) [(2, (.cells [(.ptr 1 0)])), (1, (.cells [(.d (.sl (List.map byteD a0))), (.d (.int .i64 r34.2.1)), (.d (.int .i64 r34.2.2))]))] from ACalls.use (F92 hmix hc.2.2.1 e34) [(0, 2), (1, 1)] 2 rfl) rfl rfl rfl rfl (.cons (.refl _) .nil) (.refl _) (fun h => by cases h) rfl (hasCons rfl (hasCons rfl hasNil)) rfl rfl rfl rfl ?_
  refine RegV.p0 (v := (.ptr 3 4)) rfl rfl rfl ?_
  refine RegV.evN (own := false) (H' := [(3, (.cells [(.d (.int .i64 r18.1)), (.d (.str r20.1)), (.d (.str r22.1)), (.d (.str r24.1)), (.d (.int .i64 r32.1)), (.d (.int .i64 (0 : Int))), (.d (.int .u64 (0 : Int))), (.d (.int .u64 (0 : Int))), (.d (.int .u64 (0 : Int))), (.d (.int .i64 (0 : Int))), (.d (.sl (List.map byteD ([] : List UInt8))))])), (2, (.cells [(.ptr 1 0)])), (1, (.cells [(.d (.sl (List.map byteD a0))), (.d (.int .i64 r34.2.1)), (.d (.int .i64 r34.2.2))])), (0, (.cells [(.d (.int .i64 (0 : Int))), (.d (.str ([] : List UInt8))), (.d (.str ([] : List UInt8))), (.d (.str ([] : List UInt8))), (.d (.int .i64 (0 : Int))), (.d (.int .i64 (0 : Int))), (.d (.int .u64 (0 : Int))), (.d (.int .u64 (0 : Int))), (.d (.int .u64 (0 : Int))), (.d (.int .i64 (0 : Int))), .nils]))]) (c' := 4) rfl rfl (by exact ⟨rfl, Nat.le_of_ble_eq_true rfl, rfl⟩) rfl rfl rfl rfl ?_
  refine RegV.p0 (v := (.ptr 3 5)) rfl rfl rfl ?_
  refine RegV.evN (own := false) (H' := [(3, (.cells [(.d (.int .i64 r18.1)), (.d (.str r20.1)), (.d (.str r22.1)), (.d (.str r24.1)), (.d (.int .i64 r32.1)), (.d (.int .i64 r34.1)), (.d (.int .u64 (0 : Int))), (.d (.int .u64 (0 : Int))), (.d (.int .u64 (0 : Int))), (.d (.int .i64 (0 : Int))), (.d (.sl (List.map byteD ([] : List UInt8))))])), (2, (.cells [(.ptr 1 0)])), (1, (.cells [(.d (.sl (List.map byteD a0))), (.d (.int .i64 r34.2.1)), (.d (.int .i64 r34.2.2))])), (0, (.cells [(.d (.int .i64 (0 : Int))), (.d (.str ([] : List UInt8))), (.d (.str ([] : List UInt8))), (.d (.str ([] : List UInt8))), (.d (.int .i64 (0 : Int))), (.d (.int .i64 (0 : Int))), (.d (.int .u64 (0 : Int))), (.d (.int .u64 (0 : Int))), (.d (.int .u64 (0 : Int))), (.d (.int .i64 (0 : Int))), .nils]))]) (c' := 4) rfl rfl (by exact ⟨rfl, Nat.le_of_ble_eq_true rfl, rfl⟩) rfl rfl rfl rfl ?_
  refine RegV.nil0 ?_
  refine AWc.seq ?_
  refine AWc.rg hmix rfl rfl ?_
  refine RegV.p0 rfl rfl rfl ?_
  refine RegV.p0 rfl rfl rfl ?_
  refine RegV.p0 (v := (.ptr 2 0)) rfl rfl rfl ?_
  refine RegV.ld (v := (.ptr 1 0)) (H' := [(2, (.cells [(.ptr 1 0)])), (3, (.cells [(.d (.int .i64 r18.1)), (.d (.str r20.1)), (.d (.str r22.1)), (.d (.str r24.1)), (.d (.int .i64 r32.1)), (.d (.int .i64 r34.1)), (.d (.int .u64 (0 : Int))), (.d (.int .u64 (0 : Int))), (.d (.int .u64 (0 : Int))), (.d (.int .i64 (0 : Int))), (.d (.sl (List.map byteD ([] : List UInt8))))])), (1, (.cells [(.d (.sl (List.map byteD a0))), (.d (.int .i64 r34.2.1)), (.d (.int .i64 r34.2.2))])), (0, (.cells [(.d (.int .i64 (0 : Int))), (.d (.str ([] : List UInt8))), (.d (.str ([] : List UInt8))), (.d (.str ([] : List UInt8))), (.d (.int .i64 (0 : Int))), (.d (.int .i64 (0 : Int))), (.d (.int .u64 (0 : Int))), (.d (.int .u64 (0 : Int))), (.d (.int .u64 (0 : Int))), (.d (.int .i64 (0 : Int))), .nils]))]) rfl rfl trivial rfl rfl rfl rfl rfl ?_
  obtain ⟨r46, e46, h⟩ := bind_some h
  refine RegV.callS (q := false) (H' := [(1, (.cells [(.d (.sl (List.map byteD a0))), (.d (.int .i64 r46.2.1)), (.d (.int .i64 r46.2.2))])), (2, (.cells [(.ptr 1 0)])), (3, (.cells [(.d (.int .i64 r18.1)), (.d (.str r20.1)), (.d (.str r22.1)), (.d (.str r24.1)), (.d (.int .i64 r32.1)), (.d (.int .i64 r34.1)), (.d (.int .u64 (0 : Int))), (.d (.int .u64 (0 : Int))), (.d (.int .u64 (0 : Int))), (.d (.int .i64 (0 : Int))), (.d (.sl (List.map byteD ([] : List UInt8))))])), (0, (.cells [(.d (.int .i64 (0 : Int))), (.d (.str ([] : List UInt8))), (.d (.str ([] : List UInt8))), (.d (.str ([] : List UInt8))), (.d (.int .i64 (0 : Int))), (.d (.int .i64 (0 : Int))), (.d (.int .u64 (0 : Int))), (.d (.int .u64 (0 : Int))), (.d (.int .u64 (0 : Int))), (.d (.int .i64 (0 : Int))), .nils]))]) (c' := 4) (show ACalls P (N 39) [(.ptr 1 0)] [(1, (.cells [(.d (.sl (List.map byteD a0))), (.d (.int .i64 r34.2.1)), (.d (.int .i64 r34.2.2))]))] (.d (.int .u64 r46.1)) [(1, (.cells [(.d (.sl (List.map byteD a0))), (.d (.int .i64 r46.2.1)), (.d (.int .i64 r46.2.2))]))] from ACalls.use (F39 hmix hc.2.2.2.2.1 e46) [(0, 1)] 1 rfl) rfl rfl rfl rfl (.cons (.refl _) .nil) (.refl _) (fun h => by cases h) rfl (hasCons rfl hasNil) rfl rfl rfl rfl ?_
  refine RegV.p0 rfl rfl rfl ?_
  refine RegV.p0 rfl rfl rfl ?_
  refine RegV.p0 (v := (.ptr 2 0)) rfl rfl rfl ?_
  refine RegV.ld (v := (.ptr 1 0)) (H' := [(2, (.cells [(.ptr 1 0)])), (1, (.cells [(.d (.sl (List.map byteD a0))), (.d (.int .i64 r46.2.1)), (.d (.int .i64 r46.2.2))])), (3, (.cells [(.d (.int .i64 r18.1)), (.d (.str r20.1)), (.d (.str r22.1)), (.d (.str r24.1)), (.d (.int .i64 r32.1)), (.d (.int .i64 r34.1)), (.d (.int .u64 (0 : Int))), (.d (.int .u64 (0 : Int))), (.d (.int .u64 (0 : Int))), (.d (.int .i64 (0 : Int))), (.d (.sl (List.map byteD ([] : List UInt8))))])), (0, (.cells [(.d (.int .i64 (0 : Int))), (.d (.str ([] : List UInt8))), (.d (.str ([] : List UInt8))), (.d (.str ([] : List UInt8))), (.d (.int .i64 (0 : Int))), (.d (.int .i64 (0 : Int))), (.d (.int .u64 (0 : Int))), (.d (.int .u64 (0 : Int))), (.d (.int .u64 (0 : Int))), (.d (.int .i64 (0 : Int))), .nils]))]) rfl rfl trivial rfl rfl rfl rfl rfl ?_
  obtain ⟨r51, e51, h⟩ := bind_some h
  refine RegV.callS (q := false) (H' := [(1, (.cells [(.d (.sl (List.map byteD a0))), (.d (.int .i64 r51.2.1)), (.d (.int .i64 r51.2.2))])), (2, (.cells [(.ptr 1 0)])), (3, (.cells [(.d (.int .i64 r18.1)), (.d (.str r20.1)), (.d (.str r22.1)), (.d (.str r24.1)), (.d (.int .i64 r32.1)), (.d (.int .i64 r34.1)), (.d (.int .u64 (0 : Int))), (.d (.int .u64 (0 : Int))), (.d (.int .u64 (0 : Int))), (.d (.int .i64 (0 : Int))), (.d (.sl (List.map byteD ([] : List UInt8))))])), (0, (.cells [(.d (.int .i64 (0 : Int))), (.d (.str ([] : List UInt8))), (.d (.str ([] : List UInt8))), (.d (.str ([] : List UInt8))), (.d (.int .i64 (0 : Int))), (.d (.int .i64 (0 : Int))), (.d (.int .u64 (0 : Int))), (.d (.int .u64 (0 : Int))), (.d (.int .u64 (0 : Int))), (.d (.int .i64 (0 : Int))), .nils]))]) (c' := 4) (show ACalls P (N 39) [(.ptr 1 0)] [(1, (.cells [(.d (.sl (List.map byteD a0))), (.d (.int .i64 r46.2.1)), (.d (.int .i64 r46.2.2))]))] (.d (.int .u64 r51.1)) [(1, (.cells [(.d (.sl (List.map byteD a0))), (.d (.int .i64 r51.2.1)), (.d (.int .i64 r51.2.2))]))] from ACalls.use (F39 hmix hc.2.2.2.2.1 e51) [(0, 1)] 1 rfl) rfl rfl rfl rfl (.cons (.refl _) .nil) (.refl _) (fun h => by cases h) rfl (hasCons rfl hasNil) rfl rfl rfl rfl ?_
  refine RegV.p0 rfl rfl rfl ?_
  refine RegV.p0 rfl rfl rfl ?_
  refine RegV.p0 (v := (.ptr 2 0)) rfl rfl rfl ?_
  refine RegV.ld (v := (.ptr 1 0)) (H' := [(2, (.cells [(.ptr 1 0)])), (1, (.cells [(.d (.sl (List.map byteD a0))), (.d (.int .i64 r51.2.1)), (.d (.int .i64 r51.2.2))])), (3, (.cells [(.d (.int .i64 r18.1)), (.d (.str r20.1)), (.d (.str r22.1)), (.d (.str r24.1)), (.d (.int .i64 r32.1)), (.d (.int .i64 r34.1)), (.d (.int .u64 (0 : Int))), (.d (.int .u64 (0 : Int))), (.d (.int .u64 (0 : Int))), (.d (.int .i64 (0 : Int))), (.d (.sl (List.map byteD ([] : List UInt8))))])), (0, (.cells [(.d (.int .i64 (0 : Int))), (.d (.str ([] : List UInt8))), (.d (.str ([] : List UInt8))), (.d (.str ([] : List UInt8))), (.d (.int .i64 (0 : Int))), (.d (.int .i64 (0 : Int))), (.d (.int .u64 (0 : Int))), (.d (.int .u64 (0 : Int))), (.d (.int .u64 (0 : Int))), (.d (.int .i64 (0 : Int))), .nils]))]) rfl rfl trivial rfl rfl rfl rfl rfl ?_
  obtain ⟨r56, e56, h⟩ := bind_some h
  refine RegV.callS (q := false) (H' := [(1, (.cells [(.d (.sl (List.map byteD a0))), (.d (.int .i64 r56.2.1)), (.d (.int .i64 r56.2.2))])), (2, (.cells [(.ptr 1 0)])), (3, (.cells [(.d (.int .i64 r18.1)), (.d (.str r20.1)), (.d (.str r22.1)), (.d (.str r24.1)), (.d (.int .i64 r32.1)), (.d (.int .i64 r34.1)), (.d (.int .u64 (0 : Int))), (.d (.int .u64 (0 : Int))), (.d (.int .u64 (0 : Int))), (.d (.int .i64 (0 : Int))), (.d (.sl (List.map byteD ([] : List UInt8))))])), (0, (.cells [(.d (.int .i64 (0 : Int))), (.d (.str ([] : List UInt8))), (.d (.str ([] : List UInt8))), (.d (.str ([] : List UInt8))), (.d (.int .i64 (0 : Int))), (.d (.int .i64 (0 : Int))), (.d (.int .u64 (0 : Int))), (.d (.int .u64 (0 : Int))), (.d (.int .u64 (0 : Int))), (.d (.int .i64 (0 : Int))), .nils]))]) (c' := 4) (show ACalls P (N 39) [(.ptr 1 0)] [(1, (.cells [(.d (.sl (List.map byteD a0))), (.d (.int .i64 r51.2.1)), (.d (.int .i64 r51.2.2))]))] (.d (.int .u64 r56.1)) [(1, (.cells [(.d (.sl (List.map byteD a0))), (.d (.int .i64 r56.2.1)), (.d (.int .i64 r56.2.2))]))] from ACalls.use (F39 hmix hc.2.2.2.2.1 e56) [(0, 1)] 1 rfl) rfl rfl rfl rfl (.cons (.refl _) .nil) (.refl _) (fun h => by cases h) rfl (hasCons rfl hasNil) rfl rfl rfl rfl ?_
  refine RegV.p0 (v := (.ptr 3 6)) rfl rfl rfl ?_
  refine RegV.evN (own := false) (H' := [(3, (.cells [(.d (.int .i64 r18.1)), (.d (.str r20.1)), (.d (.str r22.1)), (.d (.str r24.1)), (.d (.int .i64 r32.1)), (.d (.int .i64 r34.1)), (.d (.int .u64 r46.1)), (.d (.int .u64 (0 : Int))), (.d (.int .u64 (0 : Int))), (.d (.int .i64 (0 : Int))), (.d (.sl (List.map byteD ([] : List UInt8))))])), (1, (.cells [(.d (.sl (List.map byteD a0))), (.d (.int .i64 r56.2.1)), (.d (.int .i64 r56.2.2))])), (2, (.cells [(.ptr 1 0)])), (0, (.cells [(.d (.int .i64 (0 : Int))), (.d (.str ([] : List UInt8))), (.d (.str ([] : List UInt8))), (.d (.str ([] : List UInt8))), (.d (.int .i64 (0 : Int))), (.d (.int .i64 (0 : Int))), (.d (.int .u64 (0 : Int))), (.d (.int .u64 (0 : Int))), (.d (.int .u64 (0 : Int))), (.d (.int .i64 (0 : Int))), .nils]))]) (c' := 4) rfl rfl (by exact ⟨rfl, Nat.le_of_ble_eq_true rfl, rfl⟩) rfl rfl rfl rfl ?_
  refine RegV.p0 (v := (.ptr 3 7)) rfl rfl rfl ?_
  refine RegV.evN (own := false) (H' := [(3, (.cells [(.d (.int .i64 r18.1)), (.d (.str r20.1)), (.d (.str r22.1)), (.d (.str r24.1)), (.d (.int .i64 r32.1)), (.d (.int .i64 r34.1)), (.d (.int .u64 r46.1)), (.d (.int .u64 r51.1)), (.d (.int .u64 (0 : Int))), (.d (.int .i64 (0 : Int))), (.d (.sl (List.map byteD ([] : List UInt8))))])), (1, (.cells [(.d (.sl (List.map byteD a0))), (.d (.int .i64 r56.2.1)), (.d (.int .i64 r56.2.2))])), (2, (.cells [(.ptr 1 0)])), (0, (.cells [(.d (.int .i64 (0 : Int))), (.d (.str ([] : List UInt8))), (.d (.str ([] : List UInt8))), (.d (.str ([] : List UInt8))), (.d (.int .i64 (0 : Int))), (.d (.int .i64 (0 : Int))), (.d (.int .u64 (0 : Int))), (.d (.int .u64 (0 : Int))), (.d (.int .u64 (0 : Int))), (.d (.int .i64 (0 : Int))), .nils]))]) (c' := 4) rfl rfl (by exact ⟨rfl, Nat.le_of_ble_eq_true rfl, rfl⟩) rfl rfl rfl rfl ?_
  refine RegV.p0 (v := (.ptr 3 8)) rfl rfl rfl ?_
  refine RegV.evN (own := false) (H' := [(3, (.cells [(.d (.int .i64 r18.1)), (.d (.str r20.1)), (.d (.str r22.1)), (.d (.str r24.1)), (.d (.int .i64 r32.1)), (.d (.int .i64 r34.1)), (.d (.int .u64 r46.1)), (.d (.int .u64 r51.1)), (.d (.int .u64 r56.1)), (.d (.int .i64 (0 : Int))), (.d (.sl (List.map byteD ([] : List UInt8))))])), (1, (.cells [(.d (.sl (List.map byteD a0))), (.d (.int .i64 r56.2.1)), (.d (.int .i64 r56.2.2))])), (2, (.cells [(.ptr 1 0)])), (0, (.cells [(.d (.int .i64 (0 : Int))), (.d (.str ([] : List UInt8))), (.d (.str ([] : List UInt8))), (.d (.str ([] : List UInt8))), (.d (.int .i64 (0 : Int))), (.d (.int .i64 (0 : Int))), (.d (.int .u64 (0 : Int))), (.d (.int .u64 (0 : Int))), (.d (.int .u64 (0 : Int))), (.d (.int .i64 (0 : Int))), .nils]))]) (c' := 4) rfl rfl (by exact ⟨rfl, Nat.le_of_ble_eq_true rfl, rfl⟩) rfl rfl rfl rfl ?_
  refine RegV.nil1 (by kernel_rfl) ?_
  refine AWc.seq ?_
  refine AWc.rg hmix rfl rfl ?_
  refine RegV.p0 rfl rfl rfl ?_
  obtain ⟨r67, e67, h⟩ := bind_some h
  refine RegV.callS (q := false) (H' := [(2, (.cells [(.ptr 1 0)])), (1, (.cells [(.d (.sl (List.map byteD a0))), (.d (.int .i64 r67.2.1)), (.d (.int .i64 r67.2.2))])), (3, (.cells [(.d (.int .i64 r18.1)), (.d (.str r20.1)), (.d (.str r22.1)), (.d (.str r24.1)), (.d (.int .i64 r32.1)), (.d (.int .i64 r34.1)), (.d (.int .u64 r46.1)), (.d (.int .u64 r51.1)), (.d (.int .u64 r56.1)), (.d (.int .i64 (0 : Int))), (.d (.sl (List.map byteD ([] : List UInt8))))])), (0, (.cells [(.d (.int .i64 (0 : Int))), (.d (.str ([] : List UInt8))), (.d (.str ([] : List UInt8))), (.d (.str ([] : List UInt8))), (.d (.int .i64 (0 : Int))), (.d (.int .i64 (0 : Int))), (.d (.int .u64 (0 : Int))), (.d (.int .u64 (0 : Int))), (.d (.int .u64 (0 : Int))), (.d (.int .i64 (0 : Int))), .nils]))]) (c' := 4) (show ACalls P (N 92) [(.ptr 2 0)] [(2, (.cells [(.ptr 1 0)])), (1, (.cells [(.d (.sl (List.map byteD a0))), (.d (.int .i64 r56.2.1)), (.d (.int .i64 r56.2.2))]))] (.d (.int .i64 r67.1)) [(2, (.cells [(.ptr 1 0)])), (1, (.cells [(.d (.sl (List.map byteD a0))), (.d (.int .i64 r67.2.1)), (.d (.int .i64 r67.2.2))]))] from ACalls.use (F92 hmix hc.2.2.1 e67) [(0, 2), (1, 1)] 2 rfl) rfl rfl rfl rfl (.cons (.refl _) .nil) (.refl _) (fun h => by cases h) rfl (hasCons rfl (hasCons rfl hasNil)) rfl rfl rfl rfl ?_
  refine RegV.p0 (v := (.ptr 3 9)) rfl rfl rfl ?_
  refine RegV.evN (own := false) (H' := [(3, (.cells [(.d (.int .i64 r18.1)), (.d (.str r20.1)), (.d (.str r22.1)), (.d (.str r24.1)), (.d (.int .i64 r32.1)), (.d (.int .i64 r34.1)), (.d (.int .u64 r46.1)), (.d (.int .u64 r51.1)), (.d (.int .u64 r56.1)), (.d (.int .i64 r67.1)), (.d (.sl (List.map byteD ([] : List UInt8))))])), (2, (.cells [(.ptr 1 0)])), (1, (.cells [(.d (.sl (List.map byteD a0))), (.d (.int .i64 r67.2.1)), (.d (.int .i64 r67.2.2))])), (0, (.cells [(.d (.int .i64 (0 : Int))), (.d (.str ([] : List UInt8))), (.d (.str ([] : List UInt8))), (.d (.str ([] : List UInt8))), (.d (.int .i64 (0 : Int))), (.d (.int .i64 (0 : Int))), (.d (.int .u64 (0 : Int))), (.d (.int .u64 (0 : Int))), (.d (.int .u64 (0 : Int))), (.d (.int .i64 (0 : Int))), .nils]))]) (c' := 4) rfl rfl (by exact ⟨rfl, Nat.le_of_ble_eq_true rfl, rfl⟩) rfl rfl rfl rfl ?_
  refine RegV.nil0 ?_
  refine AWc.seq ?_
  refine AWc.rg hmix rfl rfl ?_
  refine RegV.p0 rfl rfl rfl ?_
  refine RegV.p0 rfl rfl rfl ?_
  refine RegV.p0 (v := (.ptr 2 0)) rfl rfl rfl ?_
  refine RegV.ld (v := (.ptr 1 0)) (H' := [(2, (.cells [(.ptr 1 0)])), (3, (.cells [(.d (.int .i64 r18.1)), (.d (.str r20.1)), (.d (.str r22.1)), (.d (.str r24.1)), (.d (.int .i64 r32.1)), (.d (.int .i64 r34.1)), (.d (.int .u64 r46.1)), (.d (.int .u64 r51.1)), (.d (.int .u64 r56.1)), (.d (.int .i64 r67.1)), (.d (.sl (List.map byteD ([] : List UInt8))))])), (1, (.cells [(.d (.sl (List.map byteD a0))), (.d (.int .i64 r67.2.1)), (.d (.int .i64 r67.2.2))])), (0, (.cells [(.d (.int .i64 (0 : Int))), (.d (.str ([] : List UInt8))), (.d (.str ([] : List UInt8))), (.d (.str ([] : List UInt8))), (.d (.int .i64 (0 : Int))), (.d (.int .i64 (0 : Int))), (.d (.int .u64 (0 : Int))), (.d (.int .u64 (0 : Int))), (.d (.int .u64 (0 : Int))), (.d (.int .i64 (0 : Int))), .nils]))]) rfl rfl trivial rfl rfl rfl rfl rfl ?_
  obtain ⟨r77, e77, h⟩ := bind_some h
  refine RegV.callS (q := false) (H' := [(4, (.tok ((List.map byteD r77.1).length * 1))), (1, (.cells [(.d (.sl (List.map byteD a0))), (.d (.int .i64 r77.2.1)), (.d (.int .i64 r77.2.2))])), (2, (.cells [(.ptr 1 0)])), (3, (.cells [(.d (.int .i64 r18.1)), (.d (.str r20.1)), (.d (.str r22.1)), (.d (.str r24.1)), (.d (.int .i64 r32.1)), (.d (.int .i64 r34.1)), (.d (.int .u64 r46.1)), (.d (.int .u64 r51.1)), (.d (.int .u64 r56.1)), (.d (.int .i64 r67.1)), (.d (.sl (List.map byteD ([] : List UInt8))))])), (0, (.cells [(.d (.int .i64 (0 : Int))), (.d (.str ([] : List UInt8))), (.d (.str ([] : List UInt8))), (.d (.str ([] : List UInt8))), (.d (.int .i64 (0 : Int))), (.d (.int .i64 (0 : Int))), (.d (.int .u64 (0 : Int))), (.d (.int .u64 (0 : Int))), (.d (.int .u64 (0 : Int))), (.d (.int .i64 (0 : Int))), .nils]))]) (c' := 5) (show ACalls P (N 31) [(.ptr 1 0), (.d (.int .i64 (20000 : Int)))] [(1, (.cells [(.d (.sl (List.map byteD a0))), (.d (.int .i64 r67.2.1)), (.d (.int .i64 r67.2.2))]))] (.ap 4 1 (List.map byteD r77.1)) [(4, (.tok ((List.map byteD r77.1).length * 1))), (1, (.cells [(.d (.sl (List.map byteD a0))), (.d (.int .i64 r77.2.1)), (.d (.int .i64 r77.2.2))]))] from ACalls.use (F31 hmix hc.2.2.2.2.2.1 e77) [(0, 1), (1, 4)] 2 rfl) rfl rfl rfl rfl (.cons (.refl _) (.cons (.refl _) .nil)) (.refl _) (fun h => by cases h) rfl (hasCons rfl hasNil) rfl rfl rfl rfl ?_
  refine RegV.p0 (v := (.ptr 3 10)) rfl rfl rfl ?_
  refine RegV.evN (own := false) (H' := [(3, (.cells [(.d (.int .i64 r18.1)), (.d (.str r20.1)), (.d (.str r22.1)), (.d (.str r24.1)), (.d (.int .i64 r32.1)), (.d (.int .i64 r34.1)), (.d (.int .u64 r46.1)), (.d (.int .u64 r51.1)), (.d (.int .u64 r56.1)), (.d (.int .i64 r67.1)), (.ap 4 1 (List.map byteD r77.1))])), (4, (.tok ((List.map byteD r77.1).length * 1))), (1, (.cells [(.d (.sl (List.map byteD a0))), (.d (.int .i64 r77.2.1)), (.d (.int .i64 r77.2.2))])), (2, (.cells [(.ptr 1 0)])), (0, (.cells [(.d (.int .i64 (0 : Int))), (.d (.str ([] : List UInt8))), (.d (.str ([] : List UInt8))), (.d (.str ([] : List UInt8))), (.d (.int .i64 (0 : Int))), (.d (.int .i64 (0 : Int))), (.d (.int .u64 (0 : Int))), (.d (.int .u64 (0 : Int))), (.d (.int .u64 (0 : Int))), (.d (.int .i64 (0 : Int))), .nils]))]) (c' := 5) rfl rfl (by exact ⟨rfl, Nat.le_of_ble_eq_true rfl, rfl⟩) rfl rfl rfl rfl ?_
  refine RegV.nil0 ?_
  refine AWc.seq ?_
  refine AWc.seq ?_
  refine AWc.rg hmix rfl rfl ?_
  refine RegV.p0 rfl rfl rfl ?_
  refine RegV.p0 rfl rfl rfl ?_
  refine RegV.p0 (v := (.ptr 2 0)) rfl rfl rfl ?_
  refine RegV.ld (v := (.ptr 1 0)) (H' := [(2, (.cells [(.ptr 1 0)])), (3, (.cells [(.d (.int .i64 r18.1)), (.d (.str r20.1)), (.d (.str r22.1)), (.d (.str r24.1)), (.d (.int .i64 r32.1)), (.d (.int .i64 r34.1)), (.d (.int .u64 r46.1)), (.d (.int .u64 r51.1)), (.d (.int .u64 r56.1)), (.d (.int .i64 r67.1)), (.ap 4 1 (List.map byteD r77.1))])), (4, (.tok ((List.map byteD r77.1).length * 1))), (1, (.cells [(.d (.sl (List.map byteD a0))), (.d (.int .i64 r77.2.1)), (.d (.int .i64 r77.2.2))])), (0, (.cells [(.d (.int .i64 (0 : Int))), (.d (.str ([] : List UInt8))), (.d (.str ([] : List UInt8))), (.d (.str ([] : List UInt8))), (.d (.int .i64 (0 : Int))), (.d (.int .i64 (0 : Int))), (.d (.int .u64 (0 : Int))), (.d (.int .u64 (0 : Int))), (.d (.int .u64 (0 : Int))), (.d (.int .i64 (0 : Int))), .nils]))]) rfl rfl trivial rfl rfl rfl rfl rfl ?_
  obtain ⟨r88, e88, h⟩ := bind_some h
  refine RegV.callS (q := true) (H' := [(1, (.cells [(.d (.sl (List.map byteD a0))), (.d (.int .i64 r77.2.1)), (.d (.int .i64 r77.2.2))])), (2, (.cells [(.ptr 1 0)])), (3, (.cells [(.d (.int .i64 r18.1)), (.d (.str r20.1)), (.d (.str r22.1)), (.d (.str r24.1)), (.d (.int .i64 r32.1)), (.d (.int .i64 r34.1)), (.d (.int .u64 r46.1)), (.d (.int .u64 r51.1)), (.d (.int .u64 r56.1)), (.d (.int .i64 r67.1)), (.ap 4 1 (List.map byteD r77.1))])), (4, (.tok ((List.map byteD r77.1).length * 1))), (0, (.cells [(.d (.int .i64 (0 : Int))), (.d (.str ([] : List UInt8))), (.d (.str ([] : List UInt8))), (.d (.str ([] : List UInt8))), (.d (.int .i64 (0 : Int))), (.d (.int .i64 (0 : Int))), (.d (.int .u64 (0 : Int))), (.d (.int .u64 (0 : Int))), (.d (.int .u64 (0 : Int))), (.d (.int .i64 (0 : Int))), .nils]))]) (c' := 5) (show ACalls P (N 43) [(.ptr 1 0)] [(1, (.cells [(.d (.sl (List.map byteD a0))), (.d (.int .i64 r77.2.1)), (.d (.int .i64 r77.2.2))]))] (.d (.int .i64 r88)) [(1, (.cells [(.d (.sl (List.map byteD a0))), (.d (.int .i64 r77.2.1)), (.d (.int .i64 r77.2.2))]))] from ACalls.use (F43 hmix hc.2.2.2.2.2.2 e88) [(0, 1)] 1 rfl) rfl rfl rfl rfl (.cons (.refl _) .nil) (.refl _) (fun _ => rfl) rfl (hasCons rfl hasNil) rfl rfl rfl rfl ?_
  refine RegV.p0 rfl rfl rfl ?_
  refine RegV.nil0 ?_
  refine AWc.seq ?_
  refine AWc.rg hmix rfl rfl ?_
  refine RegV.p0 rfl rfl rfl ?_
  refine RegV.p0 (v := (.d (.bool (decide (r88 ≠ (0 : Int)))))) rfl rfl rfl ?_
  refine RegV.nil0 ?_
  refine AWc.cond rfl (fun c95 => ?_) (fun c95 => ?_)
  · have h := cond_pos c95 h
    refine AWc.seq ?_
    refine AWc.rg hmix rfl rfl ?_
    refine RegV.p1 (v := (.d (.agg [(.int .i64 (0 : Int)), (.str ([] : List UInt8)), (.str ([] : List UInt8)), (.str ([] : List UInt8)), (.int .i64 (0 : Int)), (.int .i64 (0 : Int)), (.int .u64 (0 : Int)), (.int .u64 (0 : Int)), (.int .u64 (0 : Int)), (.int .i64 (0 : Int)), (.sl (List.map byteD ([] : List UInt8)))]))) rfl rfl trivial rfl rfl ?_
    refine RegV.p0 rfl rfl rfl ?_
    refine RegV.evN (own := false) (H' := [(0, (.cells [(.d (.int .i64 (0 : Int))), (.d (.str ([] : List UInt8))), (.d (.str ([] : List UInt8))), (.d (.str ([] : List UInt8))), (.d (.int .i64 (0 : Int))), (.d (.int .i64 (0 : Int))), (.d (.int .u64 (0 : Int))), (.d (.int .u64 (0 : Int))), (.d (.int .u64 (0 : Int))), (.d (.int .i64 (0 : Int))), (.d (.sl (List.map byteD ([] : List UInt8))))])), (1, (.cells [(.d (.sl (List.map byteD a0))), (.d (.int .i64 r77.2.1)), (.d (.int .i64 r77.2.2))])), (2, (.cells [(.ptr 1 0)])), (3, (.cells [(.d (.int .i64 r18.1)), (.d (.str r20.1)), (.d (.str r22.1)), (.d (.str r24.1)), (.d (.int .i64 r32.1)), (.d (.int .i64 r34.1)), (.d (.int .u64 r46.1)), (.d (.int .u64 r51.1)), (.d (.int .u64 r56.1)), (.d (.int .i64 r67.1)), (.ap 4 1 (List.map byteD r77.1))])), (4, (.tok ((List.map byteD r77.1).length * 1)))]) (c' := 5) rfl rfl (by exact ⟨rfl, Nat.le_of_ble_eq_true rfl, rfl⟩) rfl rfl rfl rfl ?_
    refine RegV.p0 rfl rfl rfl ?_
    refine RegV.nil0 ?_
    have hr := Option.some.inj h
    subst hr
    exact AWc.ret (canQ (N := 63) (k := 1) (l' := [(2, (.ptr 0 0)), (3, (.d (.int .i64 r88)))]) (H' := [(0, (.cells [(.d (.int .i64 (0 : Int))), (.d (.str ([] : List UInt8))), (.d (.str ([] : List UInt8))), (.d (.str ([] : List UInt8))), (.d (.int .i64 (0 : Int))), (.d (.int .i64 (0 : Int))), (.d (.int .u64 (0 : Int))), (.d (.int .u64 (0 : Int))), (.d (.int .u64 (0 : Int))), (.d (.int .i64 (0 : Int))), (.d (.sl (List.map byteD ([] : List UInt8))))]))]) rfl ⟨rfl, [], [], rfl, rfl, ⟨⟨_, rfl, (.refl _)⟩, rfl, ⟨⟨_, rfl, (.refl _)⟩, rfl, trivial⟩⟩, ⟨⟨_, rfl, (.refl _)⟩, rfl, rfl, trivial⟩⟩ (doneA (.inr rfl) rfl ⟨(Nat.le_of_ble_eq_true rfl), ⟨trivial, trivial⟩⟩ (.refl _) hasNil))
  · have h := cond_neg c95 h
    refine AWc.skip ?_
    refine AWc.seq ?_
    refine AWc.rg hmix rfl rfl ?_
    refine RegV.ld (v := (.d (.agg [(.int .i64 r18.1), (.str r20.1), (.str r22.1), (.str r24.1), (.int .i64 r32.1), (.int .i64 r34.1), (.int .u64 r46.1), (.int .u64 r51.1), (.int .u64 r56.1), (.int .i64 r67.1), (.sl (List.map byteD r77.1))]))) (H' := [(3, (.cells [(.d (.int .i64 r18.1)), (.d (.str r20.1)), (.d (.str r22.1)), (.d (.str r24.1)), (.d (.int .i64 r32.1)), (.d (.int .i64 r34.1)), (.d (.int .u64 r46.1)), (.d (.int .u64 r51.1)), (.d (.int .u64 r56.1)), (.d (.int .i64 r67.1)), (.ap 4 1 (List.map byteD r77.1))])), (1, (.cells [(.d (.sl (List.map byteD a0))), (.d (.int .i64 r77.2.1)), (.d (.int .i64 r77.2.2))])), (2, (.cells [(.ptr 1 0)])), (4, (.tok ((List.map byteD r77.1).length * 1))), (0, (.cells [(.d (.int .i64 (0 : Int))), (.d (.str ([] : List UInt8))), (.d (.str ([] : List UInt8))), (.d (.str ([] : List UInt8))), (.d (.int .i64 (0 : Int))), (.d (.int .i64 (0 : Int))), (.d (.int .u64 (0 : Int))), (.d (.int .u64 (0 : Int))), (.d (.int .u64 (0 : Int))), (.d (.int .i64 (0 : Int))), .nils]))]) rfl rfl (Nat.le_of_ble_eq_true rfl) rfl rfl rfl rfl rfl ?_
    refine RegV.evN (own := false) (H' := [(0, (.cells [(.d (.int .i64 r18.1)), (.d (.str r20.1)), (.d (.str r22.1)), (.d (.str r24.1)), (.d (.int .i64 r32.1)), (.d (.int .i64 r34.1)), (.d (.int .u64 r46.1)), (.d (.int .u64 r51.1)), (.d (.int .u64 r56.1)), (.d (.int .i64 r67.1)), (.d (.sl (List.map byteD r77.1)))])), (3, (.cells [(.d (.int .i64 r18.1)), (.d (.str r20.1)), (.d (.str r22.1)), (.d (.str r24.1)), (.d (.int .i64 r32.1)), (.d (.int .i64 r34.1)), (.d (.int .u64 r46.1)), (.d (.int .u64 r51.1)), (.d (.int .u64 r56.1)), (.d (.int .i64 r67.1)), (.ap 4 1 (List.map byteD r77.1))])), (1, (.cells [(.d (.sl (List.map byteD a0))), (.d (.int .i64 r77.2.1)), (.d (.int .i64 r77.2.2))])), (2, (.cells [(.ptr 1 0)])), (4, (.tok ((List.map byteD r77.1).length * 1)))]) (c' := 5) rfl rfl (by exact ⟨rfl, Nat.le_of_ble_eq_true rfl, rfl⟩) rfl rfl rfl rfl ?_
    refine RegV.p0 rfl rfl rfl ?_
    refine RegV.nil0 ?_
    have hr := Option.some.inj h
    subst hr
    exact AWc.ret (canQ (N := 63) (k := 1) (l' := [(2, (.ptr 0 0)), (3, (.d (.int .i64 (0 : Int))))]) (H' := [(0, (.cells [(.d (.int .i64 r18.1)), (.d (.str r20.1)), (.d (.str r22.1)), (.d (.str r24.1)), (.d (.int .i64 r32.1)), (.d (.int .i64 r34.1)), (.d (.int .u64 r46.1)), (.d (.int .u64 r51.1)), (.d (.int .u64 r56.1)), (.d (.int .i64 r67.1)), (.d (.sl (List.map byteD r77.1)))]))]) rfl ⟨rfl, [], [], rfl, rfl, ⟨⟨_, rfl, (.refl _)⟩, rfl, ⟨⟨_, rfl, (.refl _)⟩, rfl, trivial⟩⟩, ⟨⟨_, rfl, (.refl _)⟩, rfl, rfl, trivial⟩⟩ (doneA (.inr rfl) rfl ⟨(Nat.le_of_ble_eq_true rfl), ⟨trivial, trivial⟩⟩ (.refl _) hasNil))
/-- (*courant/request.reader).message -/
def C98 (N : Nat → Nat) : AFunc := { n := 29, params := 1, res := [.cell 2 5 true], body :=
 (.seq (.region false [⟨(some 2), .alloc [(.int .u64 0), (.int .u64 0), (.int .u64 0), (.int .i64 0), (.sl [])], none, []⟩])
  (.seq (.region true [⟨(some 4), .mv (.t 0), none, []⟩,
    ⟨(some 5), .nilchk (.t 4), none, [0]⟩,
    ⟨(some 6), .faddr (.t 5) 0, none, [1]⟩,
    ⟨(some 7), .load (.t 6) 1 false, none, [2]⟩,
    ⟨(some 8), .call (.k (.d (.fn (N 39)))) [(.t 7)], none, [3]⟩,
    ⟨(some 9), .mv (.t 0), none, []⟩,
    ⟨(some 10), .nilchk (.t 9), none, [5]⟩,
    ⟨(some 11), .faddr (.t 10) 0, none, [6]⟩,
    ⟨(some 12), .load (.t 11) 1 false, none, [7]⟩,
    ⟨(some 13), .call (.k (.d (.fn (N 39)))) [(.t 12)], none, [8, 4]⟩,
    ⟨(some 14), .mv (.t 0), none, []⟩,
    ⟨(some 15), .nilchk (.t 14), none, [10]⟩,
    ⟨(some 16), .faddr (.t 15) 0, none, [11]⟩,
    ⟨(some 17), .load (.t 16) 1 false, none, [12]⟩,
    ⟨(some 18), .call (.k (.d (.fn (N 39)))) [(.t 17)], none, [13, 9]⟩,
    ⟨(some 19), .mv (.t 0), none, []⟩,
    ⟨(some 20), .call (.k (.d (.fn (N 92)))) [(.t 19)], none, [15, 14]⟩,
    ⟨(some 21), .build [(.int .u64 0), (.int .u64 0), (.int .u64 0), (.int .i64 0), (.sl [])] [(0, 1, (.t 8)), (1, 1, (.t 13)), (2, 1, (.t 18)), (3, 1, (.t 20))], none, [4, 9, 14, 16]⟩,
    ⟨(some 3), .alloc [(.int .u64 0), (.int .u64 0), (.int .u64 0), (.int .i64 0), (.sl [])], none, []⟩,
    ⟨none, .store (.t 3) (.t 21) 5, none, [18, 17, 16, 0, 1, 2, 3, 4, 5, 6, 7, 8, 9, 10, 11, 12, 13, 14, 15]⟩])
   (.seq (.region false [⟨(some 22), .mv (.t 0), none, []⟩,
     ⟨(some 23), .nilchk (.t 22), none, [0]⟩,
     ⟨(some 24), .faddr (.t 23) 0, none, [1]⟩,
     ⟨(some 25), .load (.t 24) 1 false, none, [2]⟩,
     ⟨(some 26), .call (.k (.d (.fn (N 31)))) [(.t 25), (.k (.d (.int .i64 20000)))], none, [3]⟩,
     ⟨(some 27), .faddr (.t 3) 4, none, [0, 1, 2, 3, 4]⟩,
     ⟨none, .store (.t 27) (.t 26) 1, none, [5, 4, 0, 1, 2, 3]⟩])
    (.seq (.region false [⟨(some 28), .load (.t 3) 5 true, none, []⟩,
      ⟨none, .store (.t 2) (.t 28) 5, none, [0]⟩])
     .ret)))) }
def HC98 (P : Program) (N : Nat → Nat) : Prop := HasF P (N 98) (C98 N) ∧ HC39 P N ∧ HC92 P N ∧ HC31 P N
def f98 (k : Nat) (a0 : (List UInt8)) (a1 : Int) (a2 : Int) : Option (Int × Int × Int × Int × (List UInt8) × Int × Int) := (f39 k a0 a1 a2).bind fun r12 => (f39 k a0 r12.2.1 r12.2.2).bind fun r17 => (f39 k a0 r17.2.1 r17.2.2).bind fun r22 => (f92 k a0 r22.2.1 r22.2.2).bind fun r24 => (f31 k a0 r24.2.1 r24.2.2 (20000 : Int)).bind fun r35 => some (r12.1, r17.1, r22.1, r24.1, r35.1, r35.2.1, r35.2.2)
theorem F98 {P : Program} {N : Nat → Nat} (hmix : P.follows .mixedOrders = true) (hc : HC98 P N) {k : Nat} {a0 : (List UInt8)} {a1 : Int} {a2 : Int} {r : (Int × Int × Int × Int × (List UInt8) × Int × Int)} (h : f98 k a0 a1 a2 = some r) :
    ACalls P (N 98) [(.ptr 0 0)] [(0, (.cells [(.ptr 1 0)])), (1, (.cells [(.d (.sl (List.map byteD a0))), (.d (.int .i64 a1)), (.d (.int .i64 a2))]))] (.d (.agg [(.int .u64 r.1), (.int .u64 r.2.1), (.int .u64 r.2.2.1), (.int .i64 r.2.2.2.1), (.sl (List.map byteD r.2.2.2.2.1))])) [(0, (.cells [(.ptr 1 0)])), (1, (.cells [(.d (.sl (List.map byteD a0))), (.d (.int .i64 r.2.2.2.2.2.1)), (.d (.int .i64 r.2.2.2.2.2.2))]))] := by
  refine acalls_canon (F := C98 N) hc.1 2 2 rfl ?_
  unfold f98 at h
  dsimp only [C98, startL]
  refine AWc.seq ?_
  refine AWc.rg hmix rfl rfl ?_
  refine RegV.evS (own := false) (v := (.ptr 2 0)) (H' := [(2, (.cells [(.d (.int .u64 (0 : Int))), (.d (.int .u64 (0 : Int))), (.d (.int .u64 (0 : Int))), (.d (.int .i64 (0 : Int))), .nils])), (0, (.cells [(.ptr 1 0)])), (1, (.cells [(.d (.sl (List.map byteD a0))), (.d (.int .i64 a1)), (.d (.int .i64 a2))]))]) (c' := 3) rfl rfl trivial rfl rfl rfl rfl rfl rfl ?_
  refine RegV.nil0 ?_
  refine AWc.seq ?_
  refine AWc.rg hmix rfl rfl ?_
  refine RegV.p0 rfl rfl rfl ?_
  refine RegV.p0 rfl rfl rfl ?_
  refine RegV.p0 (v := (.ptr 0 0)) rfl rfl rfl ?_
  refine RegV.ld (v := (.ptr 1 0)) (H' := [(0, (.cells [(.ptr 1 0)])), (2, (.cells [(.d (.int .u64 (0 : Int))), (.d (.int .u64 (0 : Int))), (.d (.int .u64 (0 : Int))), (.d (.int .i64 (0 : Int))), .nils])), (1, (.cells [(.d (.sl (List.map byteD a0))), (.d (.int .i64 a1)), (.d (.int .i64 a2))]))]) rfl rfl trivial rfl rfl rfl rfl rfl ?_
  obtain ⟨r12, e12, h⟩ := bind_some h
  refine RegV.callS (q := false) (H' := [(1, (.cells [(.d (.sl (List.map byteD a0))), (.d (.int .i64 r12.2.1)), (.d (.int .i64 r12.2.2))])), (0, (.cells [(.ptr 1 0)])), (2, (.cells [(.d (.int .u64 (0 : Int))), (.d (.int .u64 (0 : Int))), (.d (.int .u64 (0 : Int))), (.d (.int .i64 (0 : Int))), .nils]))]) (c' := 3) (show ACalls P (N 39) [(.ptr 1 0)] [(1, (.cells [(.d (.sl (List.map byteD a0))), (.d (.int .i64 a1)), (.d (.int .i64 a2))]))] (.d (.int .u64 r12.1)) [(1, (.cells [(.d (.sl (List.map byteD a0))), (.d (.int .i64 r12.2.1)), (.d (.int .i64 r12.2.2))]))] from ACalls.use (F39 hmix hc.2.1 e12) [(0, 1)] 1 rfl) rfl rfl rfl rfl (.cons (.refl _) .nil) (.refl _) (fun h => by cases h) rfl (hasCons rfl hasNil) rfl rfl rfl rfl ?_
  refine RegV.p0 rfl rfl rfl ?_
  refine RegV.p0 rfl rfl rfl ?_
  refine RegV.p0 (v := (.ptr 0 0)) rfl rfl rfl ?_
  refine RegV.ld (v := (.ptr 1 0)) (H' := [(0, (.cells [(.ptr 1 0)])), (1, (.cells [(.d (.sl (List.map byteD a0))), (.d (.int .i64 r12.2.1)), (.d (.int .i64 r12.2.2))])), (2, (.cells [(.d (.int .u64 (0 : Int))), (.d (.int .u64 (0 : Int))), (.d (.int .u64 (0 : Int))), (.d (.int .i64 (0 : Int))), .nils]))]) rfl rfl trivial rfl rfl rfl rfl rfl ?_
  obtain ⟨r17, e17, h⟩ := bind_some h
  refine RegV.callS (q := false) (H' := [(1, (.cells [(.d (.sl (List.map byteD a0))), (.d (.int .i64 r17.2.1)), (.d (.int .i64 r17.2.2))])), (0, (.cells [(.ptr 1 0)])), (2, (.cells [(.d (.int .u64 (0 : Int))), (.d (.int .u64 (0 : Int))), (.d (.int .u64 (0 : Int))), (.d (.int .i64 (0 : Int))), .nils]))]) (c' := 3) (show ACalls P (N 39) [(.ptr 1 0)] [(1, (.cells [(.d (.sl (List.map byteD a0))), (.d (.int .i64 r12.2.1)), (.d (.int .i64 r12.2.2))]))] (.d (.int .u64 r17.1)) [(1, (.cells [(.d (.sl (List.map byteD a0))), (.d (.int .i64 r17.2.1)), (.d (.int .i64 r17.2.2))]))] from ACalls.use (F39 hmix hc.2.1 e17) [(0, 1)] 1 rfl) rfl rfl rfl rfl (.cons (.refl _) .nil) (.refl _) (fun h => by cases h) rfl (hasCons rfl hasNil) rfl rfl rfl rfl ?_
  refine RegV.p0 rfl rfl rfl ?_
  refine RegV.p0 rfl rfl rfl ?_
  refine RegV.p0 (v := (.ptr 0 0)) rfl rfl rfl ?_
  refine RegV.ld (v := (.ptr 1 0)) (H' := [(0, (.cells [(.ptr 1 0)])), (1, (.cells [(.d (.sl (List.map byteD a0))), (.d (.int .i64 r17.2.1)), (.d (.int .i64 r17.2.2))])), (2, (.cells [(.d (.int .u64 (0 : Int))), (.d (.int .u64 (0 : Int))), (.d (.int .u64 (0 : Int))), (.d (.int .i64 (0 : Int))), .nils]))]) rfl rfl trivial rfl rfl rfl rfl rfl ?_
  obtain ⟨r22, e22, h⟩ := bind_some h
  refine RegV.callS (q := false) (H' := [(1, (.cells [(.d (.sl (List.map byteD a0))), (.d (.int .i64 r22.2.1)), (.d (.int .i64 r22.2.2))])), (0, (.cells [(.ptr 1 0)])), (2, (.cells [(.d (.int .u64 (0 : Int))), (.d (.int .u64 (0 : Int))), (.d (.int .u64 (0 : Int))), (.d (.int .i64 (0 : Int))), .nils]))]) (c' := 3) (show ACalls P (N 39) [(.ptr 1 0)] [(1, (.cells [(.d (.sl (List.map byteD a0))), (.d (.int .i64 r17.2.1)), (.d (.int .i64 r17.2.2))]))] (.d (.int .u64 r22.1)) [(1, (.cells [(.d (.sl (List.map byteD a0))), (.d (.int .i64 r22.2.1)), (.d (.int .i64 r22.2.2))]))] from ACalls.use (F39 hmix hc.2.1 e22) [(0, 1)] 1 rfl) rfl rfl rfl rfl (.cons (.refl _) .nil) (.refl _) (fun h => by cases h) rfl (hasCons rfl hasNil) rfl rfl rfl rfl ?_
  refine RegV.p0 rfl rfl rfl ?_
  obtain ⟨r24, e24, h⟩ := bind_some h
  refine RegV.callS (q := false) (H' := [(0, (.cells [(.ptr 1 0)])), (1, (.cells [(.d (.sl (List.map byteD a0))), (.d (.int .i64 r24.2.1)), (.d (.int .i64 r24.2.2))])), (2, (.cells [(.d (.int .u64 (0 : Int))), (.d (.int .u64 (0 : Int))), (.d (.int .u64 (0 : Int))), (.d (.int .i64 (0 : Int))), .nils]))]) (c' := 3) (show ACalls P (N 92) [(.ptr 0 0)] [(0, (.cells [(.ptr 1 0)])), (1, (.cells [(.d (.sl (List.map byteD a0))), (.d (.int .i64 r22.2.1)), (.d (.int .i64 r22.2.2))]))] (.d (.int .i64 r24.1)) [(0, (.cells [(.ptr 1 0)])), (1, (.cells [(.d (.sl (List.map byteD a0))), (.d (.int .i64 r24.2.1)), (.d (.int .i64 r24.2.2))]))] from ACalls.use (F92 hmix hc.2.2.1 e24) [(0, 0), (1, 1)] 2 rfl) rfl rfl rfl rfl (.cons (.refl _) .nil) (.refl _) (fun h => by cases h) rfl (hasCons rfl (hasCons rfl hasNil)) rfl rfl rfl rfl ?_
  refine RegV.p1 (v := (.d (.agg [(.int .u64 r12.1), (.int .u64 r17.1), (.int .u64 r22.1), (.int .i64 r24.1), (.sl (List.map byteD ([] : List UInt8)))]))) rfl rfl (by exact ⟨⟨rfl, Nat.le_of_ble_eq_true rfl⟩, ⟨⟨rfl, Nat.le_of_ble_eq_true rfl⟩, ⟨⟨rfl, Nat.le_of_ble_eq_true rfl⟩, ⟨⟨rfl, Nat.le_of_ble_eq_true rfl⟩, trivial⟩⟩⟩⟩) rfl rfl ?_
  refine RegV.evS (own := false) (v := (.ptr 3 0)) (H' := [(3, (.cells [(.d (.int .u64 (0 : Int))), (.d (.int .u64 (0 : Int))), (.d (.int .u64 (0 : Int))), (.d (.int .i64 (0 : Int))), .nils])), (0, (.cells [(.ptr 1 0)])), (1, (.cells [(.d (.sl (List.map byteD a0))), (.d (.int .i64 r24.2.1)), (.d (.int .i64 r24.2.2))])), (2, (.cells [(.d (.int .u64 (0 : Int))), (.d (.int .u64 (0 : Int))), (.d (.int .u64 (0 : Int))), (.d (.int .i64 (0 : Int))), .nils]))]) (c' := 4) rfl rfl trivial rfl rfl rfl rfl rfl rfl ?_
  refine RegV.evN (own := false) (H' := [(3, (.cells [(.d (.int .u64 r12.1)), (.d (.int .u64 r17.1)), (.d (.int .u64 r22.1)), (.d (.int .i64 r24.1)), (.d (.sl (List.map byteD ([] : List UInt8))))])), (0, (.cells [(.ptr 1 0)])), (1, (.cells [(.d (.sl (List.map byteD a0))), (.d (.int .i64 r24.2.1)), (.d (.int .i64 r24.2.2))])), (2, (.cells [(.d (.int .u64 (0 : Int))), (.d (.int .u64 (0 : Int))), (.d (.int .u64 (0 : Int))), (.d (.int .i64 (0 : Int))), .nils]))]) (c' := 4) rfl rfl (by exact ⟨rfl, Nat.le_of_ble_eq_true rfl, rfl⟩) rfl rfl rfl rfl ?_
  refine RegV.nil1 (by kernel_rfl) ?_
  refine AWc.seq ?_
  refine AWc.rg hmix rfl rfl ?_
  refine RegV.p0 rfl rfl rfl ?_
  refine RegV.p0 rfl rfl rfl ?_
  refine RegV.p0 (v := (.ptr 0 0)) rfl rfl rfl ?_
  refine RegV.ld (v := (.ptr 1 0)) (H' := [(0, (.cells [(.ptr 1 0)])), (3, (.cells [(.d (.int .u64 r12.1)), (.d (.int .u64 r17.1)), (.d (.int .u64 r22.1)), (.d (.int .i64 r24.1)), (.d (.sl (List.map byteD ([] : List UInt8))))])), (1, (.cells [(.d (.sl (List.map byteD a0))), (.d (.int .i64 r24.2.1)), (.d (.int .i64 r24.2.2))])), (2, (.cells [(.d (.int .u64 (0 : Int))), (.d (.int .u64 (0 : Int))), (.d (.int .u64 (0 : Int))), (.d (.int .i64 (0 : Int))), .nils]))]) rfl rfl trivial rfl rfl rfl rfl rfl ?_
  obtain ⟨r35, e35, h⟩ := bind_some h
  refine RegV.callS (q := false) (H' := [(4, (.tok ((List.map byteD r35.1).length * 1))), (1, (.cells [(.d (.sl (List.map byteD a0))), (.d (.int .i64 r35.2.1)), (.d (.int .i64 r35.2.2))])), (0, (.cells [(.ptr 1 0)])), (3, (.cells [(.d (.int .u64 r12.1)), (.d (.int .u64 r17.1)), (.d (.int .u64 r22.1)), (.d (.int .i64 r24.1)), (.d (.sl (List.map byteD ([] : List UInt8))))])), (2, (.cells [(.d (.int .u64 (0 : Int))), (.d (.int .u64 (0 : Int))), (.d (.int .u64 (0 : Int))), (.d (.int .i64 (0 : Int))), .nils]))]) (c' := 5) (show ACalls P (N 31) [(.ptr 1 0), (.d (.int .i64 (20000 : Int)))] [(1, (.cells [(.d (.sl (List.map byteD a0))), (.d (.int .i64 r24.2.1)), (.d (.int .i64 r24.2.2))]))] (.ap 4 1 (List.map byteD r35.1)) [(4, (.tok ((List.map byteD r35.1).length * 1))), (1, (.cells [(.d (.sl (List.map byteD a0))), (.d (.int .i64 r35.2.1)), (.d (.int .i64 r35.2.2))]))] from ACalls.use (F31 hmix hc.2.2.2 e35) [(0, 1), (1, 4)] 2 rfl) rfl rfl rfl rfl (.cons (.refl _) (.cons (.refl _) .nil)) (.refl _) (fun h => by cases h) rfl (hasCons rfl hasNil) rfl rfl rfl rfl ?_
  refine RegV.p0 (v := (.ptr 3 4)) rfl rfl rfl ?_
  refine RegV.evN (own := false) (H' := [(3, (.cells [(.d (.int .u64 r12.1)), (.d (.int .u64 r17.1)), (.d (.int .u64 r22.1)), (.d (.int .i64 r24.1)), (.ap 4 1 (List.map byteD r35.1))])), (4, (.tok ((List.map byteD r35.1).length * 1))), (1, (.cells [(.d (.sl (List.map byteD a0))), (.d (.int .i64 r35.2.1)), (.d (.int .i64 r35.2.2))])), (0, (.cells [(.ptr 1 0)])), (2, (.cells [(.d (.int .u64 (0 : Int))), (.d (.int .u64 (0 : Int))), (.d (.int .u64 (0 : Int))), (.d (.int .i64 (0 : Int))), .nils]))]) (c' := 5) rfl rfl (by exact ⟨rfl, Nat.le_of_ble_eq_true rfl, rfl⟩) rfl rfl rfl rfl ?_
  refine RegV.nil0 ?_
  refine AWc.seq ?_
  refine AWc.rg hmix rfl rfl ?_
  refine RegV.ld (v := (.d (.agg [(.int .u64 r12.1), (.int .u64 r17.1), (.int .u64 r22.1), (.int .i64 r24.1), (.sl (List.map byteD r35.1))]))) (H' := [(3, (.cells [(.d (.int .u64 r12.1)), (.d (.int .u64 r17.1)), (.d (.int .u64 r22.1)), (.d (.int .i64 r24.1)), (.ap 4 1 (List.map byteD r35.1))])), (4, (.tok ((List.map byteD r35.1).length * 1))), (1, (.cells [(.d (.sl (List.map byteD a0))), (.d (.int .i64 r35.2.1)), (.d (.int .i64 r35.2.2))])), (0, (.cells [(.ptr 1 0)])), (2, (.cells [(.d (.int .u64 (0 : Int))), (.d (.int .u64 (0 : Int))), (.d (.int .u64 (0 : Int))), (.d (.int .i64 (0 : Int))), .nils]))]) rfl rfl (Nat.le_of_ble_eq_true rfl) rfl rfl rfl rfl rfl ?_
  refine RegV.evN (own := false) (H' := [(2, (.cells [(.d (.int .u64 r12.1)), (.d (.int .u64 r17.1)), (.d (.int .u64 r22.1)), (.d (.int .i64 r24.1)), (.d (.sl (List.map byteD r35.1)))])), (3, (.cells [(.d (.int .u64 r12.1)), (.d (.int .u64 r17.1)), (.d (.int .u64 r22.1)), (.d (.int .i64 r24.1)), (.ap 4 1 (List.map byteD r35.1))])), (4, (.tok ((List.map byteD r35.1).length * 1))), (1, (.cells [(.d (.sl (List.map byteD a0))), (.d (.int .i64 r35.2.1)), (.d (.int .i64 r35.2.2))])), (0, (.cells [(.ptr 1 0)]))]) (c' := 5) rfl rfl (by exact ⟨rfl, Nat.le_of_ble_eq_true rfl, rfl⟩) rfl rfl rfl rfl ?_
  refine RegV.nil0 ?_
  have hr := Option.some.inj h
  subst hr
  exact AWc.ret (canQ (N := 29) (k := 3) (l' := [(2, (.ptr 2 0))]) (H' := [(2, (.cells [(.d (.int .u64 r12.1)), (.d (.int .u64 r17.1)), (.d (.int .u64 r22.1)), (.d (.int .i64 r24.1)), (.d (.sl (List.map byteD r35.1)))])), (0, (.cells [(.ptr 1 0)])), (1, (.cells [(.d (.sl (List.map byteD a0))), (.d (.int .i64 r35.2.1)), (.d (.int .i64 r35.2.2))]))]) rfl ⟨rfl, [], [], rfl, rfl, ⟨⟨_, rfl, (.refl _)⟩, rfl, trivial⟩, ⟨⟨_, rfl, (.refl _)⟩, rfl, rfl, ⟨⟨_, rfl, (.refl _)⟩, rfl, rfl, ⟨⟨_, rfl, (.refl _)⟩, rfl, rfl, trivial⟩⟩⟩⟩ (doneA (.inr rfl) rfl ⟨(Nat.le_of_ble_eq_true rfl), trivial⟩ (.refl _) (hasCons rfl (hasCons rfl hasNil))))
/-- courant/request.TakeReply -/
def C63 (N : Nat → Nat) : AFunc := { n := 72, params := 1, res := [.cell 2 6 true, .tmp 3], body :=
 (.seq (.region false [⟨(some 2), .alloc [(.int .i64 0), (.int .i64 0), (.int .i64 0), (.int .u64 0), (.str []), (.sl [])], none, []⟩,
   ⟨(some 3), .mv (.k (.d (.int .i64 0))), none, []⟩])
  (.seq (.region false [⟨(some 8), .mv (.t 0), none, []⟩,
    ⟨(some 9), .call (.k (.d (.fn (N 30)))) [(.t 8)], none, [0]⟩,
    ⟨(some 10), .build [.nilp] [(0, 1, (.t 9))], none, [1]⟩,
    ⟨(some 11), .box (.t 10), none, [2]⟩,
    ⟨(some 4), .mv (.t 11), none, [3, 1, 0, 2]⟩])
   (.seq (.region false [⟨(some 12), .mv (.t 4), none, []⟩,
     ⟨(some 13), .call (.k (.d (.fn (N 92)))) [(.t 12)], none, [0]⟩,
     ⟨(some 14), .mv (.t 4), none, []⟩,
     ⟨(some 15), .call (.k (.d (.fn (N 92)))) [(.t 14)], none, [2, 1]⟩,
     ⟨(some 16), .mv (.t 4), none, []⟩,
     ⟨(some 17), .call (.k (.d (.fn (N 92)))) [(.t 16)], none, [4, 3]⟩,
     ⟨(some 18), .build [(.int .i64 0), (.int .i64 0), (.int .i64 0), (.int .u64 0), (.str []), (.sl [])] [(0, 1, (.t 13)), (1, 1, (.t 15)), (2, 1, (.t 17))], none, [1, 3, 5]⟩,
     ⟨(some 5), .alloc [(.int .i64 0), (.int .i64 0), (.int .i64 0), (.int .u64 0), (.str []), (.sl [])], none, []⟩,
     ⟨none, .store (.t 5) (.t 18) 6, none, [7, 6, 5, 0, 1, 2, 3, 4]⟩])
    (.seq (.region false [⟨(some 19), .mv (.t 4), none, []⟩,
      ⟨(some 20), .nilchk (.t 19), none, [0]⟩,
      ⟨(some 21), .faddr (.t 20) 0, none, [1]⟩,
      ⟨(some 22), .load (.t 21) 1 false, none, [2]⟩,
      ⟨(some 23), .call (.k (.d (.fn (N 39)))) [(.t 22)], none, [3]⟩,
      ⟨(some 24), .faddr (.t 5) 3, none, [0, 1, 2, 3, 4]⟩,
      ⟨none, .store (.t 24) (.t 23) 1, none, [5, 4, 0, 1, 2, 3]⟩])
     (.seq (.region false [⟨(some 25), .mv (.t 4), none, []⟩,
       ⟨(some 26), .call (.k (.d (.fn (N 93)))) [(.t 25)], none, [0]⟩,
       ⟨(some 27), .faddr (.t 5) 4, none, [0, 1]⟩,
       ⟨none, .store (.t 27) (.t 26) 1, none, [2, 1, 0]⟩])
      (.seq (.region false [⟨(some 28), .mv (.t 4), none, []⟩,
        ⟨(some 29), .call (.k (.d (.fn (N 92)))) [(.t 28)], none, [0]⟩,
        ⟨(some 6), .mv (.t 29), none, [1, 0]⟩])
       (.seq (.block 0 (.seq (.region false [⟨(some 31), .mv (.t 4), none, []⟩,
           ⟨(some 32), .nilchk (.t 31), none, [0]⟩,
           ⟨(some 33), .faddr (.t 32) 0, none, [1]⟩,
           ⟨(some 34), .load (.t 33) 1 false, none, [2]⟩,
           ⟨(some 35), .call (.k (.d (.fn (N 42)))) [(.t 34)], none, [3]⟩,
           ⟨(some 36), .bin .neq (.t 35) (.k (.d (.int .i64 0))), none, [4]⟩,
           ⟨(some 30), .mv (.t 36), none, [5, 4]⟩])
          (.cond (.t 30) (.seq (.region false [⟨(some 37), .build [(.int .i64 0), (.int .i64 0), (.int .i64 0), (.int .u64 0), (.str []), (.sl [])] [], none, []⟩,
             ⟨(some 38), .mv (.t 4), none, []⟩,
             ⟨(some 39), .nilchk (.t 38), none, [1]⟩,
             ⟨(some 40), .faddr (.t 39) 0, none, [2]⟩,
             ⟨(some 41), .load (.t 40) 1 false, none, [3]⟩,
             ⟨(some 42), .call (.k (.d (.fn (N 42)))) [(.t 41)], none, [4]⟩,
             ⟨none, .store (.t 2) (.t 37) 6, none, [0, 5]⟩,
             ⟨(some 3), .mv (.t 42), none, [5, 6, 0, 1, 2, 3, 4]⟩])
            .ret)
           (.seq (.region false [⟨(some 44), .mv (.t 6), none, []⟩,
             ⟨(some 45), .bin .lss (.t 44) (.k (.d (.int .i64 0))), none, [0]⟩,
             ⟨(some 43), .mv (.t 45), none, [1]⟩])
            (.cond (.t 43) (.seq (.region false [⟨(some 46), .build [(.int .i64 0), (.int .i64 0), (.int .i64 0), (.int .u64 0), (.str []), (.sl [])] [], none, []⟩,
               ⟨none, .store (.t 2) (.t 46) 6, none, [0]⟩,
               ⟨(some 3), .mv (.k (.d (.int .i64 4))), none, [1, 0]⟩])
              .ret)
             (.seq (.region false [⟨(some 48), .mv (.t 6), none, []⟩,
               ⟨(some 49), .bin .gtr (.t 48) (.k (.d (.int .i64 50))), none, [0]⟩,
               ⟨(some 47), .mv (.t 49), none, [1]⟩])
              (.cond (.t 47) (.seq (.region false [⟨(some 50), .build [(.int .i64 0), (.int .i64 0), (.int .i64 0), (.int .u64 0), (.str []), (.sl [])] [], none, []⟩,
                 ⟨none, .store (.t 2) (.t 50) 6, none, [0]⟩,
                 ⟨(some 3), .mv (.k (.d (.int .i64 5))), none, [1, 0]⟩])
                .ret)
               (.skip))))))))
        (.seq (.seq (.region false [⟨(some 51), .mv (.t 6), none, []⟩,
           ⟨(some 52), .mv (.k (.d (.int .i64 0))), none, []⟩])
          (.block 1 (.loop (.seq (.region false [⟨(some 53), .bin .lss (.t 52) (.t 51), none, []⟩])
             (.seq (.cond (.t 53) (.skip)
               (.exit 1))
              (.seq (.block 2 (.region true [⟨(some 54), .faddr (.t 5) 5, none, []⟩,
                 ⟨(some 55), .load (.t 54) 1 false, none, [0]⟩,
                 ⟨(some 56), .mv (.t 4), none, []⟩,
                 ⟨(some 57), .call (.k (.d (.fn (N 98)))) [(.t 56)], none, [2]⟩,
                 ⟨(some 58), .bslice 1 5 [(.int .u64 0), (.int .u64 0), (.int .u64 0), (.int .i64 0), (.sl [])] [(0, (.t 57))], none, [3]⟩,
                 ⟨(some 59), .app (.t 55) (.t 58) 5 56 [(.int .u64 0), (.int .u64 0), (.int .u64 0), (.int .i64 0), (.sl [])], none, [1, 4, 3]⟩,
                 ⟨(some 60), .faddr (.t 5) 5, none, [0, 1, 2, 3, 4, 5]⟩,
                 ⟨none, .store (.t 60) (.t 59) 1, none, [6, 5, 0, 1, 2, 3, 4]⟩]))
               (.region false [⟨(some 61), .bin .add (.t 52) (.k (.d (.int .i64 1))), none, []⟩,
                ⟨(some 52), .mv (.t 61), none, [0]⟩])))))))
         (.seq (.seq (.region false [⟨(some 62), .mv (.t 4), none, []⟩,
            ⟨(some 63), .nilchk (.t 62), none, [0]⟩,
            ⟨(some 64), .faddr (.t 63) 0, none, [1]⟩,
            ⟨(some 65), .load (.t 64) 1 false, none, [2]⟩,
            ⟨(some 66), .call (.k (.d (.fn (N 43)))) [(.t 65)], none, [3]⟩,
            ⟨(some 7), .mv (.t 66), none, [4, 0, 1, 2, 3]⟩])
           (.seq (.region false [⟨(some 67), .mv (.t 7), none, []⟩,
             ⟨(some 68), .bin .neq (.t 67) (.k (.d (.int .i64 0))), none, [0]⟩])
            (.cond (.t 68) (.seq (.region false [⟨(some 69), .build [(.int .i64 0), (.int .i64 0), (.int .i64 0), (.int .u64 0), (.str []), (.sl [])] [], none, []⟩,
               ⟨(some 70), .mv (.t 7), none, []⟩,
               ⟨none, .store (.t 2) (.t 69) 6, none, [0]⟩,
               ⟨(some 3), .mv (.t 70), none, [1, 2, 0]⟩])
              .ret)
             (.skip))))
          (.seq (.region false [⟨(some 71), .load (.t 5) 6 true, none, []⟩,
            ⟨none, .store (.t 2) (.t 71) 6, none, [0]⟩,
            ⟨(some 3), .mv (.k (.d (.int .i64 0))), none, [1, 0]⟩])
           .ret)))))))))) }
def HC63 (P : Program) (N : Nat → Nat) : Prop := HasF P (N 63) (C63 N) ∧ HC30 P N ∧ HC92 P N ∧ HC39 P N ∧ HC93 P N ∧ HC42 P N ∧ HC98 P N ∧ HC43 P N
def f63_j135 (k : Nat) (a0 : (List UInt8)) (r18 : (Int × Int × Int)) (r20 : (Int × Int × Int)) (r22 : (Int × Int × Int)) (r33 : (Int × Int × Int)) (r40 : ((List UInt8) × Int × Int)) (j135_1 : (List TMessage)) (j135_2 : Int) (j135_3 : Int) : Option (Int × Int × Int × Int × Int × (List UInt8) × (List TMessage)) := (f43 k a0 j135_2 j135_3).bind fun r143 => cond (decide (r143 ≠ (0 : Int))) (some (r143, (0 : Int), (0 : Int), (0 : Int), (0 : Int), ([] : List UInt8), ([] : List TMessage))) (some ((0 : Int), r18.1, r20.1, r22.1, r33.1, r40.1, j135_1))
def f63_l109 (r47 : (Int × Int × Int)) (a0 : (List UInt8)) : Nat → Int → (List TMessage) → Int → Int → Option (LR2 ((List TMessage) × Int × Int) Unit (Int × Int × Int × Int × Int × (List UInt8) × (List TMessage)))
  | 0, _, _, _, _ => none
  | k + 1, y109_1, y109_2, y109_3, y109_4 => cond (decide (y109_1 < r47.1)) ((f98 k a0 y109_3 y109_4).bind fun r126 => gd ((y109_2.length + ([(TMessage.mk r126.1 r126.2.1 r126.2.2.1 r126.2.2.2.1 r126.2.2.2.2.1)] : List TMessage).length) * 2 * 56 ≤ 281474976710656) (f63_l109 r47 a0 k (IntKind.i64.wrap (y109_1 + (1 : Int))) (y109_2 ++ ([(TMessage.mk r126.1 r126.2.1 r126.2.2.1 r126.2.2.2.1 r126.2.2.2.2.1)] : List TMessage)) r126.2.2.2.2.2.1 r126.2.2.2.2.2.2)) (some (.b0 (y109_2, y109_3, y109_4)))
def f63 (k : Nat) (a0 : (List UInt8)) : Option (Int × Int × Int × Int × Int × (List UInt8) × (List TMessage)) := (f30 k a0).bind fun r10 => (f92 k a0 (0 : Int) (0 : Int)).bind fun r18 => (f92 k a0 r18.2.1 r18.2.2).bind fun r20 => (f92 k a0 r20.2.1 r20.2.2).bind fun r22 => (f39 k a0 r22.2.1 r22.2.2).bind fun r33 => (f93 k a0 r33.2.1 r33.2.2).bind fun r40 => (f92 k a0 r40.2.1 r40.2.2).bind fun r47 => (f42 k a0 r47.2.1 r47.2.2).bind fun r58 => cond (decide (r47.2.2 ≠ (0 : Int))) ((f42 k a0 r47.2.1 r47.2.2).bind fun r70 => some (r47.2.2, (0 : Int), (0 : Int), (0 : Int), (0 : Int), ([] : List UInt8), ([] : List TMessage))) (cond (decide (r47.1 < (0 : Int))) (some ((4 : Int), (0 : Int), (0 : Int), (0 : Int), (0 : Int), ([] : List UInt8), ([] : List TMessage))) (cond (decide (r47.1 > (50 : Int))) (some ((5 : Int), (0 : Int), (0 : Int), (0 : Int), (0 : Int), ([] : List UInt8), ([] : List TMessage))) ((f63_l109 r47 a0 k (0 : Int) ([] : List TMessage) r47.2.1 r47.2.2).bind fun o109 => match o109 with | .b0 (x109_1, x109_2, x109_3) => f63_j135 k a0 r18 r20 r22 r33 r40 x109_1 x109_2 x109_3 | _ => none)))
theorem F63 {P : Program} {N : Nat → Nat} (hmix : P.follows .mixedOrders = true) (hc : HC63 P N) {k : Nat} {a0 : (List UInt8)} {r : (Int × Int × Int × Int × Int × (List UInt8) × (List TMessage))} (h : f63 k a0 = some r) :
    ACalls P (N 63) [(.d (.sl (List.map byteD a0)))] [] (.tup [(.d (.agg [(.int .i64 r.2.1), (.int .i64 r.2.2.1), (.int .i64 r.2.2.2.1), (.int .u64 r.2.2.2.2.1), (.str r.2.2.2.2.2.1), (.sl (List.map TMessage.enc r.2.2.2.2.2.2))])), (.d (.int .i64 r.1))]) [] := by
  refine acalls_canon (F := C63 N) hc.1 0 0 rfl ?_
  unfold f63 at h
  dsimp only [C63, startL]
  refine AWc.seq ?_
  refine AWc.rg hmix rfl rfl ?_
  refine RegV.evS (own := false) (v := (.ptr 0 0)) (H' := [(0, (.cells [(.d (.int .i64 (0 : Int))), (.d (.int .i64 (0 : Int))), (.d (.int .i64 (0 : Int))), (.d (.int .u64 (0 : Int))), (.d (.str ([] : List UInt8))), .nils]))]) (c' := 1) rfl rfl trivial rfl rfl rfl rfl rfl rfl ?_
  refine RegV.p0 rfl rfl rfl ?_
  refine RegV.nil0 ?_
  refine AWc.seq ?_
  refine AWc.rg hmix rfl rfl ?_
  refine RegV.p0 rfl rfl rfl ?_
  obtain ⟨r10, e10, h⟩ := bind_some h
  refine RegV.callS (q := false) (H' := [(1, (.cells [(.d (.sl (List.map byteD a0))), (.d (.int .i64 (0 : Int))), (.d (.int .i64 (0 : Int)))])), (0, (.cells [(.d (.int .i64 (0 : Int))), (.d (.int .i64 (0 : Int))), (.d (.int .i64 (0 : Int))), (.d (.int .u64 (0 : Int))), (.d (.str ([] : List UInt8))), .nils]))]) (c' := 2) (show ACalls P (N 30) [(.d (.sl (List.map byteD a0)))] [] (.ptr 1 0) [(1, (.cells [(.d (.sl (List.map byteD a0))), (.d (.int .i64 (0 : Int))), (.d (.int .i64 (0 : Int)))]))] from ACalls.use (F30 hmix hc.2.1 e10) [(0, 1)] 1 rfl) rfl rfl rfl rfl (.cons (.refl _) .nil) (.refl _) (fun h => by cases h) rfl hasNil rfl rfl rfl rfl ?_
  refine RegV.p1 (v := (.agg [(.ptr 1 0)])) rfl rfl (by exact ⟨⟨rfl, Nat.le_of_ble_eq_true rfl⟩, trivial⟩) rfl rfl ?_
  refine RegV.evS (own := false) (v := (.ptr 2 0)) (H' := [(2, (.cells [(.ptr 1 0)])), (1, (.cells [(.d (.sl (List.map byteD a0))), (.d (.int .i64 (0 : Int))), (.d (.int .i64 (0 : Int)))])), (0, (.cells [(.d (.int .i64 (0 : Int))), (.d (.int .i64 (0 : Int))), (.d (.int .i64 (0 : Int))), (.d (.int .u64 (0 : Int))), (.d (.str ([] : List UInt8))), .nils]))]) (c' := 3) rfl rfl trivial rfl rfl rfl rfl rfl rfl ?_
  refine RegV.p0 rfl rfl rfl ?_
  refine RegV.nil0 ?_
  refine AWc.seq ?_
  refine AWc.rg hmix rfl rfl ?_
  refine RegV.p0 rfl rfl rfl ?_
  obtain ⟨r18, e18, h⟩ := bind_some h
  refine RegV.callS (q := false) (H' := [(2, (.cells [(.ptr 1 0)])), (1, (.cells [(.d (.sl (List.map byteD a0))), (.d (.int .i64 r18.2.1)), (.d (.int .i64 r18.2.2))])), (0, (.cells [(.d (.int .i64 (0 : Int))), (.d (.int .i64 (0 : Int))), (.d (.int .i64 (0 : Int))), (.d (.int .u64 (0 : Int))), (.d (.str ([] : List UInt8))), .nils]))]) (c' := 3) (show ACalls P (N 92) [(.ptr 2 0)] [(2, (.cells [(.ptr 1 0)])), (1, (.cells [(.d (.sl (List.map byteD a0))), (.d (.int .i64 (0 : Int))), (.d (.int .i64 (0 : Int)))]))] (.d (.int .i64 r18.1)) [(2, (.cells [(.ptr 1 0)])), (1, (.cells [(.d (.sl (List.map byteD a0))), (.d (.int .i64 r18.2.1)), (.d (.int .i64 r18.2.2))]))] from ACalls.use (F92 hmix hc.2.2.1 e18) [(0, 2), (1, 1)] 2 rfl) rfl rfl rfl rfl (.cons (.refl _) .nil) (.refl _) (fun h => by cases h) rfl (hasCons rfl (hasCons rfl hasNil)) rfl rfl rfl rfl ?_
  refine RegV.p0 rfl rfl rfl ?_
  obtain ⟨r20, e20, h⟩ := bind_some h
  refine RegV.callS (q := false) (H' := [(2, (.cells [(.ptr 1 0)])), (1, (.cells [(.d (.sl (List.map byteD a0))), (.d (.int .i64 r20.2.1)), (.d (.int .i64 r20.2.2))])), (0, (.cells [(.d (.int .i64 (0 : Int))), (.d (.int .i64 (0 : Int))), (.d (.int .i64 (0 : Int))), (.d (.int .u64 (0 : Int))), (.d (.str ([] : List UInt8))), .nils]))]) (c' := 3) (show ACalls P (N 92) [(.ptr 2 0)] [(2, (.cells [(.ptr 1 0)])), (1, (.cells [(.d (.sl (List.map byteD a0))), (.d (.int .i64 r18.2.1)), (.d (.int .i64 r18.2.2))]))] (.d (.int .i64 r20.1)) [(2, (.cells [(.ptr 1 0)])), (1, (.cells [(.d (.sl (List.map byteD a0))), (.d (.int .i64 r20.2.1)), (.d (.int .i64 r20.2.2))]))] from ACalls.use (F92 hmix hc.2.2.1 e20) [(0, 2), (1, 1)] 2 rfl) rfl rfl rfl rfl (.cons (.refl _) .nil) (.refl _) (fun h => by cases h) rfl (hasCons rfl (hasCons rfl hasNil)) rfl rfl rfl rfl ?_
  refine RegV.p0 rfl rfl rfl ?_
  obtain ⟨r22, e22, h⟩ := bind_some h
  refine RegV.callS (q := false) (H' := [(2, (.cells [(.ptr 1 0)])), (1, (.cells [(.d (.sl (List.map byteD a0))), (.d (.int .i64 r22.2.1)), (.d (.int .i64 r22.2.2))])), (0, (.cells [(.d (.int .i64 (0 : Int))), (.d (.int .i64 (0 : Int))), (.d (.int .i64 (0 : Int))), (.d (.int .u64 (0 : Int))), (.d (.str ([] : List UInt8))), .nils]))]) (c' := 3) (show ACalls P (N 92) [(.ptr 2 0)] [(2, (.cells [(.ptr 1 0)])), (1, (.cells [(.d (.sl (List.map byteD a0))), (.d (.int .i64 r20.2.1)), (.d (.int .i64 r20.2.2))]))] (.d (.int .i64 r22.1)) [(2, (.cells [(.ptr 1 0)])), (1, (.cells [(.d (.sl (List.map byteD a0))), (.d (.int .i64 r22.2.1)), (.d (.int .i64 r22.2.2))]))] from ACalls.use (F92 hmix hc.2.2.1 e22) [(0, 2), (1, 1)] 2 rfl) rfl rfl rfl rfl (.cons (.refl _) .nil) (.refl _) (fun h => by cases h) rfl (hasCons rfl (hasCons rfl hasNil)) rfl rfl rfl rfl ?_
  refine RegV.bld (L' := [(.d (.int .i64 r18.1)), (.d (.int .i64 r20.1)), (.d (.int .i64 r22.1)), (.d (.int .u64 (0 : Int))), (.d (.str ([] : List UInt8))), .nils]) rfl rfl (by exact ⟨⟨rfl, Nat.le_of_ble_eq_true rfl⟩, ⟨⟨rfl, Nat.le_of_ble_eq_true rfl⟩, ⟨⟨rfl, Nat.le_of_ble_eq_true rfl⟩, trivial⟩⟩⟩) rfl rfl ?_
  refine RegV.evS (own := false) (v := (.ptr 3 0)) (H' := [(3, (.cells [(.d (.int .i64 (0 : Int))), (.d (.int .i64 (0 : Int))), (.d (.int .i64 (0 : Int))), (.d (.int .u64 (0 : Int))), (.d (.str ([] : List UInt8))), .nils])), (2, (.cells [(.ptr 1 0)])), (1, (.cells [(.d (.sl (List.map byteD a0))), (.d (.int .i64 r22.2.1)), (.d (.int .i64 r22.2.2))])), (0, (.cells [(.d (.int .i64 (0 : Int))), (.d (.int .i64 (0 : Int))), (.d (.int .i64 (0 : Int))), (.d (.int .u64 (0 : Int))), (.d (.str ([] : List UInt8))), .nils]))]) (c' := 4) rfl rfl trivial rfl rfl rfl rfl rfl rfl ?_
  refine RegV.evN (own := false) (H' := [(3, (.cells [(.d (.int .i64 r18.1)), (.d (.int .i64 r20.1)), (.d (.int .i64 r22.1)), (.d (.int .u64 (0 : Int))), (.d (.str ([] : List UInt8))), .nils])), (2, (.cells [(.ptr 1 0)])), (1, (.cells [(.d (.sl (List.map byteD a0))), (.d (.int .i64 r22.2.1)), (.d (.int .i64 r22.2.2))])), (0, (.cells [(.d (.int .i64 (0 : Int))), (.d (.int .i64 (0 : Int))), (.d (.int .i64 (0 : Int))), (.d (.int .u64 (0 : Int))), (.d (.str ([] : List UInt8))), .nils]))]) (c' := 4) rfl rfl (by exact ⟨rfl, Nat.le_of_ble_eq_true rfl, rfl⟩) rfl rfl rfl rfl ?_
  refine RegV.nil0 ?_
  refine AWc.seq ?_
  refine AWc.rg hmix rfl rfl ?_
  refine RegV.p0 rfl rfl rfl ?_
  refine RegV.p0 rfl rfl rfl ?_
  refine RegV.p0 (v := (.ptr 2 0)) rfl rfl rfl ?_
  refine RegV.ld (v := (.ptr 1 0)) (H' := [(2, (.cells [(.ptr 1 0)])), (3, (.cells [(.d (.int .i64 r18.1)), (.d (.int .i64 r20.1)), (.d (.int .i64 r22.1)), (.d (.int .u64 (0 : Int))), (.d (.str ([] : List UInt8))), .nils])), (1, (.cells [(.d (.sl (List.map byteD a0))), (.d (.int .i64 r22.2.1)), (.d (.int .i64 r22.2.2))])), (0, (.cells [(.d (.int .i64 (0 : Int))), (.d (.int .i64 (0 : Int))), (.d (.int .i64 (0 : Int))), (.d (.int .u64 (0 : Int))), (.d (.str ([] : List UInt8))), .nils]))]) rfl rfl trivial rfl rfl rfl rfl rfl ?_
  obtain ⟨r33, e33, h⟩ := bind_some h
  refine RegV.callS (q := false) (H' := [(1, (.cells [(.d (.sl (List.map byteD a0))), (.d (.int .i64 r33.2.1)), (.d (.int .i64 r33.2.2))])), (2, (.cells [(.ptr 1 0)])), (3, (.cells [(.d (.int .i64 r18.1)), (.d (.int .i64 r20.1)), (.d (.int .i64 r22.1)), (.d (.int .u64 (0 : Int))), (.d (.str ([] : List UInt8))), .nils])), (0, (.cells [(.d (.int .i64 (0 : Int))), (.d (.int .i64 (0 : Int))), (.d (.int .i64 (0 : Int))), (.d (.int .u64 (0 : Int))), (.d (.str ([] : List UInt8))), .nils]))]) (c' := 4) (show ACalls P (N 39) [(.ptr 1 0)] [(1, (.cells [(.d (.sl (List.map byteD a0))), (.d (.int .i64 r22.2.1)), (.d (.int .i64 r22.2.2))]))] (.d (.int .u64 r33.1)) [(1, (.cells [(.d (.sl (List.map byteD a0))), (.d (.int .i64 r33.2.1)), (.d (.int .i64 r33.2.2))]))] from ACalls.use (F39 hmix hc.2.2.2.1 e33) [(0, 1)] 1 rfl) rfl rfl rfl rfl (.cons (.refl _) .nil) (.refl _) (fun h => by cases h) rfl (hasCons rfl hasNil) rfl rfl rfl rfl ?_
  refine RegV.p0 (v := (.ptr 3 3)) rfl rfl rfl ?_
  refine RegV.evN (own := false) (H' := [(3, (.cells [(.d (.int .i64 r18.1)), (.d (.int .i64 r20.1)), (.d (.int .i64 r22.1)), (.d (.int .u64 r33.1)), (.d (.str ([] : List UInt8))), .nils])), (1, (.cells [(.d (.sl (List.map byteD a0))), (.d (.int .i64 r33.2.1)), (.d (.int .i64 r33.2.2))])), (2, (.cells [(.ptr 1 0)])), (0, (.cells [(.d (.int .i64 (0 : Int))), (.d (.int .i64 (0 : Int))), (.d (.int .i64 (0 : Int))), (.d (.int .u64 (0 : Int))), (.d (.str ([] : List UInt8))), .nils]))]) (c' := 4) rfl rfl (by exact ⟨rfl, Nat.le_of_ble_eq_true rfl, rfl⟩) rfl rfl rfl rfl ?_
  refine RegV.nil0 ?_
  refine AWc.seq ?_
  refine AWc.rg hmix rfl rfl ?_
  refine RegV.p0 rfl rfl rfl ?_
  obtain ⟨r40, e40, h⟩ := bind_some h
  refine RegV.callS (q := false) (H' := [(2, (.cells [(.ptr 1 0)])), (1, (.cells [(.d (.sl (List.map byteD a0))), (.d (.int .i64 r40.2.1)), (.d (.int .i64 r40.2.2))])), (3, (.cells [(.d (.int .i64 r18.1)), (.d (.int .i64 r20.1)), (.d (.int .i64 r22.1)), (.d (.int .u64 r33.1)), (.d (.str ([] : List UInt8))), .nils])), (0, (.cells [(.d (.int .i64 (0 : Int))), (.d (.int .i64 (0 : Int))), (.d (.int .i64 (0 : Int))), (.d (.int .u64 (0 : Int))), (.d (.str ([] : List UInt8))), .nils]))]) (c' := 4) (show ACalls P (N 93) [(.ptr 2 0)] [(2, (.cells [(.ptr 1 0)])), (1, (.cells [(.d (.sl (List.map byteD a0))), (.d (.int .i64 r33.2.1)), (.d (.int .i64 r33.2.2))]))] (.d (.str r40.1)) [(2, (.cells [(.ptr 1 0)])), (1, (.cells [(.d (.sl (List.map byteD a0))), (.d (.int .i64 r40.2.1)), (.d (.int .i64 r40.2.2))]))] from ACalls.use (F93 hmix hc.2.2.2.2.1 e40) [(0, 2), (1, 1)] 2 rfl) rfl rfl rfl rfl (.cons (.refl _) .nil) (.refl _) (fun h => by cases h) rfl (hasCons rfl (hasCons rfl hasNil)) rfl rfl rfl rfl ?_
  refine RegV.p0 (v := (.ptr 3 4)) rfl rfl rfl ?_
  refine RegV.evN (own := false) (H' := [(3, (.cells [(.d (.int .i64 r18.1)), (.d (.int .i64 r20.1)), (.d (.int .i64 r22.1)), (.d (.int .u64 r33.1)), (.d (.str r40.1)), .nils])), (2, (.cells [(.ptr 1 0)])), (1, (.cells [(.d (.sl (List.map byteD a0))), (.d (.int .i64 r40.2.1)), (.d (.int .i64 r40.2.2))])), (0, (.cells [(.d (.int .i64 (0 : Int))), (.d (.int .i64 (0 : Int))), (.d (.int .i64 (0 : Int))), (.d (.int .u64 (0 : Int))), (.d (.str ([] : List UInt8))), .nils]))]) (c' := 4) rfl rfl (by exact ⟨rfl, Nat.le_of_ble_eq_true rfl, rfl⟩) rfl rfl rfl rfl ?_
  refine RegV.nil0 ?_
  refine AWc.seq ?_
  refine AWc.rg hmix rfl rfl ?_
  refine RegV.p0 rfl rfl rfl ?_
  obtain ⟨r47, e47, h⟩ := bind_some h
  refine RegV.callS (q := false) (H' := [(2, (.cells [(.ptr 1 0)])), (1, (.cells [(.d (.sl (List.map byteD a0))), (.d (.int .i64 r47.2.1)), (.d (.int .i64 r47.2.2))])), (3, (.cells [(.d (.int .i64 r18.1)), (.d (.int .i64 r20.1)), (.d (.int .i64 r22.1)), (.d (.int .u64 r33.1)), (.d (.str r40.1)), .nils])), (0, (.cells [(.d (.int .i64 (0 : Int))), (.d (.int .i64 (0 : Int))), (.d (.int .i64 (0 : Int))), (.d (.int .u64 (0 : Int))), (.d (.str ([] : List UInt8))), .nils]))]) (c' := 4) (show ACalls P (N 92) [(.ptr 2 0)] [(2, (.cells [(.ptr 1 0)])), (1, (.cells [(.d (.sl (List.map byteD a0))), (.d (.int .i64 r40.2.1)), (.d (.int .i64 r40.2.2))]))] (.d (.int .i64 r47.1)) [(2, (.cells [(.ptr 1 0)])), (1, (.cells [(.d (.sl (List.map byteD a0))), (.d (.int .i64 r47.2.1)), (.d (.int .i64 r47.2.2))]))] from ACalls.use (F92 hmix hc.2.2.1 e47) [(0, 2), (1, 1)] 2 rfl) rfl rfl rfl rfl (.cons (.refl _) .nil) (.refl _) (fun h => by cases h) rfl (hasCons rfl (hasCons rfl hasNil)) rfl rfl rfl rfl ?_
  refine RegV.p0 rfl rfl rfl ?_
  refine RegV.nil0 ?_
  refine AWc.seq ?_
  refine AWc.block ?_
  refine AWc.seq ?_
  refine AWc.rg hmix rfl rfl ?_
  refine RegV.p0 rfl rfl rfl ?_
  refine RegV.p0 rfl rfl rfl ?_
  refine RegV.p0 (v := (.ptr 2 0)) rfl rfl rfl ?_
  refine RegV.ld (v := (.ptr 1 0)) (H' := [(2, (.cells [(.ptr 1 0)])), (1, (.cells [(.d (.sl (List.map byteD a0))), (.d (.int .i64 r47.2.1)), (.d (.int .i64 r47.2.2))])), (3, (.cells [(.d (.int .i64 r18.1)), (.d (.int .i64 r20.1)), (.d (.int .i64 r22.1)), (.d (.int .u64 r33.1)), (.d (.str r40.1)), .nils])), (0, (.cells [(.d (.int .i64 (0 : Int))), (.d (.int .i64 (0 : Int))), (.d (.int .i64 (0 : Int))), (.d (.int .u64 (0 : Int))), (.d (.str ([] : List UInt8))), .nils]))]) rfl rfl trivial rfl rfl rfl rfl rfl ?_
  obtain ⟨r58, e58, h⟩ := bind_some h
  refine RegV.callS (q := true) (H' := [(1, (.cells [(.d (.sl (List.map byteD a0))), (.d (.int .i64 r47.2.1)), (.d (.int .i64 r47.2.2))])), (2, (.cells [(.ptr 1 0)])), (3, (.cells [(.d (.int .i64 r18.1)), (.d (.int .i64 r20.1)), (.d (.int .i64 r22.1)), (.d (.int .u64 r33.1)), (.d (.str r40.1)), .nils])), (0, (.cells [(.d (.int .i64 (0 : Int))), (.d (.int .i64 (0 : Int))), (.d (.int .i64 (0 : Int))), (.d (.int .u64 (0 : Int))), (.d (.str ([] : List UInt8))), .nils]))]) (c' := 4) (show ACalls P (N 42) [(.ptr 1 0)] [(1, (.cells [(.d (.sl (List.map byteD a0))), (.d (.int .i64 r47.2.1)), (.d (.int .i64 r47.2.2))]))] (.d (.int .i64 r47.2.2)) [(1, (.cells [(.d (.sl (List.map byteD a0))), (.d (.int .i64 r47.2.1)), (.d (.int .i64 r47.2.2))]))] from ACalls.use (F42 hmix hc.2.2.2.2.2.1 e58) [(0, 1)] 1 rfl) rfl rfl rfl rfl (.cons (.refl _) .nil) (.refl _) (fun _ => rfl) rfl (hasCons rfl hasNil) rfl rfl rfl rfl ?_
  refine RegV.p0 (v := (.d (.bool (decide (r47.2.2 ≠ (0 : Int)))))) rfl rfl rfl ?_
  refine RegV.p0 rfl rfl rfl ?_
  refine RegV.nil0 ?_
  refine AWc.cond rfl (fun c61 => ?_) (fun c61 => ?_)
  · have h := cond_pos c61 h
    refine AWc.seq ?_
    refine AWc.rg hmix rfl rfl ?_
    refine RegV.p1 (v := (.d (.agg [(.int .i64 (0 : Int)), (.int .i64 (0 : Int)), (.int .i64 (0 : Int)), (.int .u64 (0 : Int)), (.str ([] : List UInt8)), (.sl (List.map TMessage.enc ([] : List TMessage)))]))) rfl rfl trivial rfl rfl ?_
    refine RegV.p0 rfl rfl rfl ?_
    refine RegV.p0 rfl rfl rfl ?_
    refine RegV.p0 (v := (.ptr 2 0)) rfl rfl rfl ?_
    refine RegV.ld (v := (.ptr 1 0)) (H' := [(2, (.cells [(.ptr 1 0)])), (1, (.cells [(.d (.sl (List.map byteD a0))), (.d (.int .i64 r47.2.1)), (.d (.int .i64 r47.2.2))])), (3, (.cells [(.d (.int .i64 r18.1)), (.d (.int .i64 r20.1)), (.d (.int .i64 r22.1)), (.d (.int .u64 r33.1)), (.d (.str r40.1)), .nils])), (0, (.cells [(.d (.int .i64 (0 : Int))), (.d (.int .i64 (0 : Int))), (.d (.int .i64 (0 : Int))), (.d (.int .u64 (0 : Int))), (.d (.str ([] : List UInt8))), .nils]))]) rfl rfl trivial rfl rfl rfl rfl rfl ?_
    obtain ⟨r70, e70, h⟩ := bind_some h
    refine RegV.callS (q := true) (H' := [(1, (.cells [(.d (.sl (List.map byteD a0))), (.d (.int .i64 r47.2.1)), (.d (.int .i64 r47.2.2))])), (2, (.cells [(.ptr 1 0)])), (3, (.cells [(.d (.int .i64 r18.1)), (.d (.int .i64 r20.1)), (.d (.int .i64 r22.1)), (.d (.int .u64 r33.1)), (.d (.str r40.1)), .nils])), (0, (.cells [(.d (.int .i64 (0 : Int))), (.d (.int .i64 (0 : Int))), (.d (.int .i64 (0 : Int))), (.d (.int .u64 (0 : Int))), (.d (.str ([] : List UInt8))), .nils]))]) (c' := 4) (show ACalls P (N 42) [(.ptr 1 0)] [(1, (.cells [(.d (.sl (List.map byteD a0))), (.d (.int .i64 r47.2.1)), (.d (.int .i64 r47.2.2))]))] (.d (.int .i64 r47.2.2)) [(1, (.cells [(.d (.sl (List.map byteD a0))), (.d (.int .i64 r47.2.1)), (.d (.int .i64 r47.2.2))]))] from ACalls.use (F42 hmix hc.2.2.2.2.2.1 e70) [(0, 1)] 1 rfl) rfl rfl rfl rfl (.cons (.refl _) .nil) (.refl _) (fun _ => rfl) rfl (hasCons rfl hasNil) rfl rfl rfl rfl ?_
    refine RegV.evN (own := false) (H' := [(0, (.cells [(.d (.int .i64 (0 : Int))), (.d (.int .i64 (0 : Int))), (.d (.int .i64 (0 : Int))), (.d (.int .u64 (0 : Int))), (.d (.str ([] : List UInt8))), (.d (.sl (List.map TMessage.enc ([] : List TMessage))))])), (1, (.cells [(.d (.sl (List.map byteD a0))), (.d (.int .i64 r47.2.1)), (.d (.int .i64 r47.2.2))])), (2, (.cells [(.ptr 1 0)])), (3, (.cells [(.d (.int .i64 r18.1)), (.d (.int .i64 r20.1)), (.d (.int .i64 r22.1)), (.d (.int .u64 r33.1)), (.d (.str r40.1)), .nils]))]) (c' := 4) rfl rfl (by exact ⟨rfl, Nat.le_of_ble_eq_true rfl, rfl⟩) rfl rfl rfl rfl ?_
    refine RegV.p0 rfl rfl rfl ?_
    refine RegV.nil0 ?_
    have hr := Option.some.inj h
    subst hr
    exact AWc.ret (canQ (N := 72) (k := 1) (l' := [(2, (.ptr 0 0)), (3, (.d (.int .i64 r47.2.2)))]) (H' := [(0, (.cells [(.d (.int .i64 (0 : Int))), (.d (.int .i64 (0 : Int))), (.d (.int .i64 (0 : Int))), (.d (.int .u64 (0 : Int))), (.d (.str ([] : List UInt8))), (.d (.sl (List.map TMessage.enc ([] : List TMessage))))]))]) rfl ⟨rfl, [], [], rfl, rfl, ⟨⟨_, rfl, (.refl _)⟩, rfl, ⟨⟨_, rfl, (.refl _)⟩, rfl, trivial⟩⟩, ⟨⟨_, rfl, (.refl _)⟩, rfl, rfl, trivial⟩⟩ (doneA (.inr rfl) rfl ⟨(Nat.le_of_ble_eq_true rfl), ⟨trivial, trivial⟩⟩ (.refl _) hasNil))
  · have h := cond_neg c61 h
    refine AWc.seq ?_
    refine AWc.rg hmix rfl rfl ?_
    refine RegV.p0 rfl rfl rfl ?_
    refine RegV.p0 (v := (.d (.bool (decide (r47.1 < (0 : Int)))))) rfl rfl rfl ?_
    refine RegV.p0 rfl rfl rfl ?_
    refine RegV.nil0 ?_
    refine AWc.cond rfl (fun c80 => ?_) (fun c80 => ?_)
    · have h := cond_pos c80 h
      refine AWc.seq ?_
      refine AWc.rg hmix rfl rfl ?_
      refine RegV.p1 (v := (.d (.agg [(.int .i64 (0 : Int)), (.int .i64 (0 : Int)), (.int .i64 (0 : Int)), (.int .u64 (0 : Int)), (.str ([] : List UInt8)), (.sl (List.map TMessage.enc ([] : List TMessage)))]))) rfl rfl trivial rfl rfl ?_
      refine RegV.evN (own := false) (H' := [(0, (.cells [(.d (.int .i64 (0 : Int))), (.d (.int .i64 (0 : Int))), (.d (.int .i64 (0 : Int))), (.d (.int .u64 (0 : Int))), (.d (.str ([] : List UInt8))), (.d (.sl (List.map TMessage.enc ([] : List TMessage))))])), (1, (.cells [(.d (.sl (List.map byteD a0))), (.d (.int .i64 r47.2.1)), (.d (.int .i64 r47.2.2))])), (2, (.cells [(.ptr 1 0)])), (3, (.cells [(.d (.int .i64 r18.1)), (.d (.int .i64 r20.1)), (.d (.int .i64 r22.1)), (.d (.int .u64 r33.1)), (.d (.str r40.1)), .nils]))]) (c' := 4) rfl rfl (by exact ⟨rfl, Nat.le_of_ble_eq_true rfl, rfl⟩) rfl rfl rfl rfl ?_
      refine RegV.p0 rfl rfl rfl ?_
      refine RegV.nil0 ?_
      have hr := Option.some.inj h
      subst hr
      exact AWc.ret (canQ (N := 72) (k := 1) (l' := [(2, (.ptr 0 0)), (3, (.d (.int .i64 (4 : Int))))]) (H' := [(0, (.cells [(.d (.int .i64 (0 : Int))), (.d (.int .i64 (0 : Int))), (.d (.int .i64 (0 : Int))), (.d (.int .u64 (0 : Int))), (.d (.str ([] : List UInt8))), (.d (.sl (List.map TMessage.enc ([] : List TMessage))))]))]) rfl ⟨rfl, [], [], rfl, rfl, ⟨⟨_, rfl, (.refl _)⟩, rfl, ⟨⟨_, rfl, (.refl _)⟩, rfl, trivial⟩⟩, ⟨⟨_, rfl, (.refl _)⟩, rfl, rfl, trivial⟩⟩ (doneA (.inr rfl) rfl ⟨(Nat.le_of_ble_eq_true rfl), ⟨trivial, trivial⟩⟩ (.refl _) hasNil))
    · have h := cond_neg c80 h
      refine AWc.seq ?_
      refine AWc.rg hmix rfl rfl ?_
      refine RegV.p0 rfl rfl rfl ?_
      refine RegV.p0 (v := (.d (.bool (decide (r47.1 > (50 : Int)))))) rfl rfl rfl ?_
      refine RegV.p0 rfl rfl rfl ?_
      refine RegV.nil0 ?_
      refine AWc.cond rfl (fun c94 => ?_) (fun c94 => ?_)
      · have h := cond_pos c94 h
        refine AWc.seq ?_
        refine AWc.rg hmix rfl rfl ?_
        refine RegV.p1 (v := (.d (.agg [(.int .i64 (0 : Int)), (.int .i64 (0 : Int)), (.int .i64 (0 : Int)), (.int .u64 (0 : Int)), (.str ([] : List UInt8)), (.sl (List.map TMessage.enc ([] : List TMessage)))]))) rfl rfl trivial rfl rfl ?_
        refine RegV.evN (own := false) (H' := [(0, (.cells [(.d (.int .i64 (0 : Int))), (.d (.int .i64 (0 : Int))), (.d (.int .i64 (0 : Int))), (.d (.int .u64 (0 : Int))), (.d (.str ([] : List UInt8))), (.d (.sl (List.map TMessage.enc ([] : List TMessage))))])), (1, (.cells [(.d (.sl (List.map byteD a0))), (.d (.int .i64 r47.2.1)), (.d (.int .i64 r47.2.2))])), (2, (.cells [(.ptr 1 0)])), (3, (.cells [(.d (.int .i64 r18.1)), (.d (.int .i64 r20.1)), (.d (.int .i64 r22.1)), (.d (.int .u64 r33.1)), (.d (.str r40.1)), .nils]))]) (c' := 4) rfl rfl (by exact ⟨rfl, Nat.le_of_ble_eq_true rfl, rfl⟩) rfl rfl rfl rfl ?_
        refine RegV.p0 rfl rfl rfl ?_
        refine RegV.nil0 ?_
        have hr := Option.some.inj h
        subst hr
        exact AWc.ret (canQ (N := 72) (k := 1) (l' := [(2, (.ptr 0 0)), (3, (.d (.int .i64 (5 : Int))))]) (H' := [(0, (.cells [(.d (.int .i64 (0 : Int))), (.d (.int .i64 (0 : Int))), (.d (.int .i64 (0 : Int))), (.d (.int .u64 (0 : Int))), (.d (.str ([] : List UInt8))), (.d (.sl (List.map TMessage.enc ([] : List TMessage))))]))]) rfl ⟨rfl, [], [], rfl, rfl, ⟨⟨_, rfl, (.refl _)⟩, rfl, ⟨⟨_, rfl, (.refl _)⟩, rfl, trivial⟩⟩, ⟨⟨_, rfl, (.refl _)⟩, rfl, rfl, trivial⟩⟩ (doneA (.inr rfl) rfl ⟨(Nat.le_of_ble_eq_true rfl), ⟨trivial, trivial⟩⟩ (.refl _) hasNil))
      · have h := cond_neg c94 h
        refine AWc.skip ?_
        refine AWc.seqS (N := 72) 5 (fun (z : ((List TMessage) × Int × Int)) => [(2, (.ptr 0 0)), (4, (.ptr 1 0)), (5, (.ptr 2 0))]) (fun z => [(0, (.cells [(.d (.int .i64 (0 : Int))), (.d (.int .i64 (0 : Int))), (.d (.int .i64 (0 : Int))), (.d (.int .u64 (0 : Int))), (.d (.str ([] : List UInt8))), .nils])), (1, (.cells [(.ptr 3 0)])), (2, (.cells [(.d (.int .i64 r18.1)), (.d (.int .i64 r20.1)), (.d (.int .i64 r22.1)), (.d (.int .u64 r33.1)), (.d (.str r40.1)), (.ap 4 5 (List.map TMessage.enc z.1))])), (3, (.cells [(.d (.sl (List.map byteD a0))), (.d (.int .i64 z.2.1)), (.d (.int .i64 z.2.2))])), (4, (.tok ((List.map TMessage.enc z.1).length * 5)))]) (fun z => f63_j135 k a0 r18 r20 r22 r33 r40 z.1 z.2.1 z.2.2 = some r) rfl_le ?_ ?_
        · refine AWc.seq ?_
          refine AWc.rg hmix rfl rfl ?_
          refine RegV.p0 rfl rfl rfl ?_
          refine RegV.p0 rfl rfl rfl ?_
          refine RegV.nil0 ?_
          obtain ⟨o109, h109, h⟩ := bind_some h
          refine AWc.block ?_
          refine AWc.loopK (N := 72) 5 (fun (x : (Int × (List TMessage) × Int × Int)) => [(2, (.ptr 0 0)), (4, (.ptr 1 0)), (5, (.ptr 2 0)), (51, (.d (.int .i64 r47.1))), (52, (.d (.int .i64 x.1)))]) (fun x => [(0, (.cells [(.d (.int .i64 (0 : Int))), (.d (.int .i64 (0 : Int))), (.d (.int .i64 (0 : Int))), (.d (.int .u64 (0 : Int))), (.d (.str ([] : List UInt8))), .nils])), (1, (.cells [(.ptr 3 0)])), (2, (.cells [(.d (.int .i64 r18.1)), (.d (.int .i64 r20.1)), (.d (.int .i64 r22.1)), (.d (.int .u64 r33.1)), (.d (.str r40.1)), (.ap 4 5 (List.map TMessage.enc x.2.1))])), (3, (.cells [(.d (.sl (List.map byteD a0))), (.d (.int .i64 x.2.2.1)), (.d (.int .i64 x.2.2.2))])), (4, (.tok ((List.map TMessage.enc x.2.1).length * 5)))]) (fun k x => f63_l109 r47 a0 k x.1 x.2.1 x.2.2.1 x.2.2.2 = some o109) k ((0 : Int), ([] : List TMessage), r47.2.1, r47.2.2) rfl_le (fun x hx => by cases hx) h109 ⟨rfl, [.tok 0], [(1, 2), (2, 3), (3, 1), (4, 4)], rfl, rfl, ⟨⟨_, rfl, (.refl _)⟩, rfl, ⟨⟨_, rfl, (.refl _)⟩, rfl, ⟨⟨_, rfl, (.refl _)⟩, rfl, ⟨⟨_, rfl, (.refl _)⟩, rfl, ⟨⟨_, rfl, (.refl _)⟩, rfl, trivial⟩⟩⟩⟩⟩, ⟨⟨_, rfl, (.refl _)⟩, rfl, rfl, ⟨⟨_, rfl, (.refl _)⟩, rfl, rfl, ⟨⟨_, rfl, (.cells (.cons (.refl _) (.cons (.refl _) (.cons (.refl _) (.cons (.refl _) (.cons (.refl _) (.cons .nil .nil)))))))⟩, rfl, rfl, ⟨⟨_, rfl, (.refl _)⟩, rfl, rfl, ⟨⟨_, rfl, (.refl _)⟩, rfl, rfl, trivial⟩⟩⟩⟩⟩⟩ ?_
          clear h109
          intro k
          rintro ⟨y109_1, y109_2, y109_3, y109_4⟩ h109
          dsimp only at h109 ⊢
          rw [f63_l109] at h109
          refine AWc.seq ?_
          refine AWc.rg hmix rfl rfl ?_
          refine RegV.p0 (v := (.d (.bool (decide (y109_1 < r47.1))))) rfl rfl rfl ?_
          refine RegV.nil0 ?_
          refine AWc.seq ?_
          refine AWc.cond rfl (fun c116 => ?_) (fun c116 => ?_)
          · have h109 := cond_pos c116 h109
            refine AWc.skip ?_
            refine AWc.seq ?_
            refine AWc.block ?_
            refine AWc.rg hmix rfl rfl ?_
            refine RegV.p0 (v := (.ptr 2 5)) rfl rfl rfl ?_
            refine RegV.ld (v := (.ap 4 5 (List.map TMessage.enc y109_2))) (H' := [(2, (.cells [(.d (.int .i64 r18.1)), (.d (.int .i64 r20.1)), (.d (.int .i64 r22.1)), (.d (.int .u64 r33.1)), (.d (.str r40.1)), (.ap 4 5 (List.map TMessage.enc y109_2))])), (0, (.cells [(.d (.int .i64 (0 : Int))), (.d (.int .i64 (0 : Int))), (.d (.int .i64 (0 : Int))), (.d (.int .u64 (0 : Int))), (.d (.str ([] : List UInt8))), .nils])), (1, (.cells [(.ptr 3 0)])), (3, (.cells [(.d (.sl (List.map byteD a0))), (.d (.int .i64 y109_3)), (.d (.int .i64 y109_4))])), (4, (.tok ((List.map TMessage.enc y109_2).length * 5)))]) rfl rfl trivial rfl rfl rfl rfl rfl ?_
            refine RegV.p0 rfl rfl rfl ?_
            obtain ⟨r126, e126, h109⟩ := bind_some h109
            refine RegV.callS (q := false) (H' := [(1, (.cells [(.ptr 3 0)])), (3, (.cells [(.d (.sl (List.map byteD a0))), (.d (.int .i64 r126.2.2.2.2.2.1)), (.d (.int .i64 r126.2.2.2.2.2.2))])), (2, (.cells [(.d (.int .i64 r18.1)), (.d (.int .i64 r20.1)), (.d (.int .i64 r22.1)), (.d (.int .u64 r33.1)), (.d (.str r40.1)), (.ap 4 5 (List.map TMessage.enc y109_2))])), (0, (.cells [(.d (.int .i64 (0 : Int))), (.d (.int .i64 (0 : Int))), (.d (.int .i64 (0 : Int))), (.d (.int .u64 (0 : Int))), (.d (.str ([] : List UInt8))), .nils])), (4, (.tok ((List.map TMessage.enc y109_2).length * 5)))]) (c' := 5) (show ACalls P (N 98) [(.ptr 1 0)] [(1, (.cells [(.ptr 3 0)])), (3, (.cells [(.d (.sl (List.map byteD a0))), (.d (.int .i64 y109_3)), (.d (.int .i64 y109_4))]))] (.d (.agg [(.int .u64 r126.1), (.int .u64 r126.2.1), (.int .u64 r126.2.2.1), (.int .i64 r126.2.2.2.1), (.sl (List.map byteD r126.2.2.2.2.1))])) [(1, (.cells [(.ptr 3 0)])), (3, (.cells [(.d (.sl (List.map byteD a0))), (.d (.int .i64 r126.2.2.2.2.2.1)), (.d (.int .i64 r126.2.2.2.2.2.2))]))] from ACalls.use (F98 hmix hc.2.2.2.2.2.2.1 e126) [(0, 1), (1, 3)] 2 rfl) rfl rfl rfl rfl (.cons (.refl _) .nil) (.refl _) (fun h => by cases h) rfl (hasCons rfl (hasCons rfl hasNil)) rfl rfl rfl rfl ?_
            refine RegV.p1 (v := (.d (.sl (List.map TMessage.enc ([(TMessage.mk r126.1 r126.2.1 r126.2.2.1 r126.2.2.2.1 r126.2.2.2.2.1)] : List TMessage))))) rfl rfl (by exact ⟨rfl, Nat.le_of_ble_eq_true rfl, mapLen (e := TMessage.enc) (xs := ([(TMessage.mk r126.1 r126.2.1 r126.2.2.1 r126.2.2.2.1 r126.2.2.2.2.1)] : List TMessage)) (z := 5) (fun _ => rfl)⟩) rfl rfl ?_
            obtain ⟨b128, h109⟩ := gd_some h109
            refine RegV.appA (xs := y109_2) (ys := ([(TMessage.mk r126.1 r126.2.1 r126.2.2.1 r126.2.2.2.1 r126.2.2.2.2.1)] : List TMessage)) (e := TMessage.enc) (H1 := [(1, (.cells [(.ptr 3 0)])), (3, (.cells [(.d (.sl (List.map byteD a0))), (.d (.int .i64 r126.2.2.2.2.2.1)), (.d (.int .i64 r126.2.2.2.2.2.2))])), (2, (.cells [(.d (.int .i64 r18.1)), (.d (.int .i64 r20.1)), (.d (.int .i64 r22.1)), (.d (.int .u64 r33.1)), (.d (.str r40.1)), (.ap 4 5 (List.map TMessage.enc y109_2))])), (0, (.cells [(.d (.int .i64 (0 : Int))), (.d (.int .i64 (0 : Int))), (.d (.int .i64 (0 : Int))), (.d (.int .u64 (0 : Int))), (.d (.str ([] : List UInt8))), .nils]))]) rfl rfl rfl rfl (fun _ => rfl) rfl rfl b128 rfl rfl rfl ?_
            refine RegV.p0 (v := (.ptr 2 5)) rfl rfl rfl ?_
            refine RegV.evN (own := false) (H' := [(2, (.cells [(.d (.int .i64 r18.1)), (.d (.int .i64 r20.1)), (.d (.int .i64 r22.1)), (.d (.int .u64 r33.1)), (.d (.str r40.1)), (.ap 5 5 (List.map TMessage.enc (y109_2 ++ ([(TMessage.mk r126.1 r126.2.1 r126.2.2.1 r126.2.2.2.1 r126.2.2.2.2.1)] : List TMessage))))])), (5, (.tok ((List.map TMessage.enc (y109_2 ++ ([(TMessage.mk r126.1 r126.2.1 r126.2.2.1 r126.2.2.2.1 r126.2.2.2.2.1)] : List TMessage))).length * 5))), (1, (.cells [(.ptr 3 0)])), (3, (.cells [(.d (.sl (List.map byteD a0))), (.d (.int .i64 r126.2.2.2.2.2.1)), (.d (.int .i64 r126.2.2.2.2.2.2))])), (0, (.cells [(.d (.int .i64 (0 : Int))), (.d (.int .i64 (0 : Int))), (.d (.int .i64 (0 : Int))), (.d (.int .u64 (0 : Int))), (.d (.str ([] : List UInt8))), .nils]))]) (c' := 6) rfl rfl (by exact ⟨rfl, Nat.le_of_ble_eq_true rfl, rfl⟩) rfl rfl rfl rfl ?_
            refine RegV.nil1 (by kernel_rfl) ?_
            refine AWc.rg hmix rfl rfl ?_
            refine RegV.p0 (v := (.d (.int .i64 (IntKind.i64.wrap (y109_1 + (1 : Int)))))) rfl rfl rfl ?_
            refine RegV.p0 rfl rfl rfl ?_
            refine RegV.nil0 ?_
            exact ⟨((IntKind.i64.wrap (y109_1 + (1 : Int))), (y109_2 ++ ([(TMessage.mk r126.1 r126.2.1 r126.2.2.1 r126.2.2.2.1 r126.2.2.2.2.1)] : List TMessage)), r126.2.2.2.2.2.1, r126.2.2.2.2.2.2), h109, ⟨rfl, [], [(4, 5)], rfl, rfl, ⟨⟨_, rfl, (.refl _)⟩, rfl, ⟨⟨_, rfl, (.refl _)⟩, rfl, ⟨⟨_, rfl, (.refl _)⟩, rfl, ⟨⟨_, rfl, (.refl _)⟩, rfl, ⟨⟨_, rfl, (.refl _)⟩, rfl, trivial⟩⟩⟩⟩⟩, ⟨⟨_, rfl, (.refl _)⟩, rfl, rfl, ⟨⟨_, rfl, (.refl _)⟩, rfl, rfl, ⟨⟨_, rfl, (.refl _)⟩, rfl, rfl, ⟨⟨_, rfl, (.refl _)⟩, rfl, rfl, ⟨⟨_, rfl, (.refl _)⟩, rfl, rfl, trivial⟩⟩⟩⟩⟩⟩⟩
          · have h109 := cond_neg c116 h109
            cases h109
            dsimp only at h
            refine AWc.exit ?_
            refine inBlk_eq ?_
            exact ⟨(y109_2, y109_3, y109_4), h, ⟨rfl, [], [], rfl, rfl, ⟨⟨_, rfl, (.refl _)⟩, rfl, ⟨⟨_, rfl, (.refl _)⟩, rfl, ⟨⟨_, rfl, (.refl _)⟩, rfl, trivial⟩⟩⟩, ⟨⟨_, rfl, (.refl _)⟩, rfl, rfl, ⟨⟨_, rfl, (.refl _)⟩, rfl, rfl, ⟨⟨_, rfl, (.refl _)⟩, rfl, rfl, ⟨⟨_, rfl, (.refl _)⟩, rfl, rfl, ⟨⟨_, rfl, (.refl _)⟩, rfl, rfl, trivial⟩⟩⟩⟩⟩⟩⟩
        · rintro ⟨j135_1, j135_2, j135_3⟩ h
          dsimp only at h ⊢
          unfold f63_j135 at h
          refine AWc.seq ?_
          refine AWc.seq ?_
          refine AWc.rg hmix rfl rfl ?_
          refine RegV.p0 rfl rfl rfl ?_
          refine RegV.p0 rfl rfl rfl ?_
          refine RegV.p0 (v := (.ptr 1 0)) rfl rfl rfl ?_
          refine RegV.ld (v := (.ptr 3 0)) (H' := [(1, (.cells [(.ptr 3 0)])), (0, (.cells [(.d (.int .i64 (0 : Int))), (.d (.int .i64 (0 : Int))), (.d (.int .i64 (0 : Int))), (.d (.int .u64 (0 : Int))), (.d (.str ([] : List UInt8))), .nils])), (2, (.cells [(.d (.int .i64 r18.1)), (.d (.int .i64 r20.1)), (.d (.int .i64 r22.1)), (.d (.int .u64 r33.1)), (.d (.str r40.1)), (.ap 4 5 (List.map TMessage.enc j135_1))])), (3, (.cells [(.d (.sl (List.map byteD a0))), (.d (.int .i64 j135_2)), (.d (.int .i64 j135_3))])), (4, (.tok ((List.map TMessage.enc j135_1).length * 5)))]) rfl rfl trivial rfl rfl rfl rfl rfl ?_
          obtain ⟨r143, e143, h⟩ := bind_some h
          refine RegV.callS (q := true) (H' := [(3, (.cells [(.d (.sl (List.map byteD a0))), (.d (.int .i64 j135_2)), (.d (.int .i64 j135_3))])), (1, (.cells [(.ptr 3 0)])), (0, (.cells [(.d (.int .i64 (0 : Int))), (.d (.int .i64 (0 : Int))), (.d (.int .i64 (0 : Int))), (.d (.int .u64 (0 : Int))), (.d (.str ([] : List UInt8))), .nils])), (2, (.cells [(.d (.int .i64 r18.1)), (.d (.int .i64 r20.1)), (.d (.int .i64 r22.1)), (.d (.int .u64 r33.1)), (.d (.str r40.1)), (.ap 4 5 (List.map TMessage.enc j135_1))])), (4, (.tok ((List.map TMessage.enc j135_1).length * 5)))]) (c' := 5) (show ACalls P (N 43) [(.ptr 3 0)] [(3, (.cells [(.d (.sl (List.map byteD a0))), (.d (.int .i64 j135_2)), (.d (.int .i64 j135_3))]))] (.d (.int .i64 r143)) [(3, (.cells [(.d (.sl (List.map byteD a0))), (.d (.int .i64 j135_2)), (.d (.int .i64 j135_3))]))] from ACalls.use (F43 hmix hc.2.2.2.2.2.2.2 e143) [(0, 3)] 1 rfl) rfl rfl rfl rfl (.cons (.refl _) .nil) (.refl _) (fun _ => rfl) rfl (hasCons rfl hasNil) rfl rfl rfl rfl ?_
          refine RegV.p0 rfl rfl rfl ?_
          refine RegV.nil0 ?_
          refine AWc.seq ?_
          refine AWc.rg hmix rfl rfl ?_
          refine RegV.p0 rfl rfl rfl ?_
          refine RegV.p0 (v := (.d (.bool (decide (r143 ≠ (0 : Int)))))) rfl rfl rfl ?_
          refine RegV.nil0 ?_
          refine AWc.cond rfl (fun c150 => ?_) (fun c150 => ?_)
          · have h := cond_pos c150 h
            refine AWc.seq ?_
            refine AWc.rg hmix rfl rfl ?_
            refine RegV.p1 (v := (.d (.agg [(.int .i64 (0 : Int)), (.int .i64 (0 : Int)), (.int .i64 (0 : Int)), (.int .u64 (0 : Int)), (.str ([] : List UInt8)), (.sl (List.map TMessage.enc ([] : List TMessage)))]))) rfl rfl trivial rfl rfl ?_
            refine RegV.p0 rfl rfl rfl ?_
            refine RegV.evN (own := false) (H' := [(0, (.cells [(.d (.int .i64 (0 : Int))), (.d (.int .i64 (0 : Int))), (.d (.int .i64 (0 : Int))), (.d (.int .u64 (0 : Int))), (.d (.str ([] : List UInt8))), (.d (.sl (List.map TMessage.enc ([] : List TMessage))))])), (3, (.cells [(.d (.sl (List.map byteD a0))), (.d (.int .i64 j135_2)), (.d (.int .i64 j135_3))])), (1, (.cells [(.ptr 3 0)])), (2, (.cells [(.d (.int .i64 r18.1)), (.d (.int .i64 r20.1)), (.d (.int .i64 r22.1)), (.d (.int .u64 r33.1)), (.d (.str r40.1)), (.ap 4 5 (List.map TMessage.enc j135_1))])), (4, (.tok ((List.map TMessage.enc j135_1).length * 5)))]) (c' := 5) rfl rfl (by exact ⟨rfl, Nat.le_of_ble_eq_true rfl, rfl⟩) rfl rfl rfl rfl ?_
            refine RegV.p0 rfl rfl rfl ?_
            refine RegV.nil0 ?_
            have hr := Option.some.inj h
            subst hr
            exact AWc.ret (canQ (N := 72) (k := 1) (l' := [(2, (.ptr 0 0)), (3, (.d (.int .i64 r143)))]) (H' := [(0, (.cells [(.d (.int .i64 (0 : Int))), (.d (.int .i64 (0 : Int))), (.d (.int .i64 (0 : Int))), (.d (.int .u64 (0 : Int))), (.d (.str ([] : List UInt8))), (.d (.sl (List.map TMessage.enc ([] : List TMessage))))]))]) rfl ⟨rfl, [], [], rfl, rfl, ⟨⟨_, rfl, (.refl _)⟩, rfl, ⟨⟨_, rfl, (.refl _)⟩, rfl, trivial⟩⟩, ⟨⟨_, rfl, (.refl _)⟩, rfl, rfl, trivial⟩⟩ (doneA (.inr rfl) rfl ⟨(Nat.le_of_ble_eq_true rfl), ⟨trivial, trivial⟩⟩ (.refl _) hasNil))
          · have h := cond_neg c150 h
            refine AWc.skip ?_
            refine AWc.seq ?_
            refine AWc.rg hmix rfl rfl ?_
            refine RegV.ld (v := (.d (.agg [(.int .i64 r18.1), (.int .i64 r20.1), (.int .i64 r22.1), (.int .u64 r33.1), (.str r40.1), (.sl (List.map TMessage.enc j135_1))]))) (H' := [(2, (.cells [(.d (.int .i64 r18.1)), (.d (.int .i64 r20.1)), (.d (.int .i64 r22.1)), (.d (.int .u64 r33.1)), (.d (.str r40.1)), (.ap 4 5 (List.map TMessage.enc j135_1))])), (3, (.cells [(.d (.sl (List.map byteD a0))), (.d (.int .i64 j135_2)), (.d (.int .i64 j135_3))])), (1, (.cells [(.ptr 3 0)])), (0, (.cells [(.d (.int .i64 (0 : Int))), (.d (.int .i64 (0 : Int))), (.d (.int .i64 (0 : Int))), (.d (.int .u64 (0 : Int))), (.d (.str ([] : List UInt8))), .nils])), (4, (.tok ((List.map TMessage.enc j135_1).length * 5)))]) rfl rfl (Nat.le_of_ble_eq_true rfl) rfl rfl rfl rfl rfl ?_
            refine RegV.evN (own := false) (H' := [(0, (.cells [(.d (.int .i64 r18.1)), (.d (.int .i64 r20.1)), (.d (.int .i64 r22.1)), (.d (.int .u64 r33.1)), (.d (.str r40.1)), (.d (.sl (List.map TMessage.enc j135_1)))])), (2, (.cells [(.d (.int .i64 r18.1)), (.d (.int .i64 r20.1)), (.d (.int .i64 r22.1)), (.d (.int .u64 r33.1)), (.d (.str r40.1)), (.ap 4 5 (List.map TMessage.enc j135_1))])), (3, (.cells [(.d (.sl (List.map byteD a0))), (.d (.int .i64 j135_2)), (.d (.int .i64 j135_3))])), (1, (.cells [(.ptr 3 0)])), (4, (.tok ((List.map TMessage.enc j135_1).length * 5)))]) (c' := 5) rfl rfl (by exact ⟨rfl, Nat.le_of_ble_eq_true rfl, rfl⟩) rfl rfl rfl rfl ?_
            refine RegV.p0 rfl rfl rfl ?_
            refine RegV.nil0 ?_
            have hr := Option.some.inj h
            subst hr
            exact AWc.ret (canQ (N := 72) (k := 1) (l' := [(2, (.ptr 0 0)), (3, (.d (.int .i64 (0 : Int))))]) (H' := [(0, (.cells [(.d (.int .i64 r18.1)), (.d (.int .i64 r20.1)), (.d (.int .i64 r22.1)), (.d (.int .u64 r33.1)), (.d (.str r40.1)), (.d (.sl (List.map TMessage.enc j135_1)))]))]) rfl ⟨rfl, [], [], rfl, rfl, ⟨⟨_, rfl, (.refl _)⟩, rfl, ⟨⟨_, rfl, (.refl _)⟩, rfl, trivial⟩⟩, ⟨⟨_, rfl, (.refl _)⟩, rfl, rfl, trivial⟩⟩ (doneA (.inr rfl) rfl ⟨(Nat.le_of_ble_eq_true rfl), ⟨trivial, trivial⟩⟩ (.refl _) hasNil))
/-- courant/couranthelp.Bytes -/
def C22 (N : Nat → Nat) : AFunc := { n := 10, params := 2, res := [.tmp 4], body :=
 (.seq (.region false [⟨(some 4), .mv (.k (.d (.bool false))), none, []⟩])
  (.seq (.region false [⟨(some 5), .mv (.t 0), none, []⟩,
    ⟨(some 6), .bs2s (.t 5), none, [0]⟩,
    ⟨(some 7), .mv (.t 1), none, []⟩,
    ⟨(some 8), .bs2s (.t 7), none, [2]⟩,
    ⟨(some 9), .bin .eql (.t 6) (.t 8), none, [1, 3]⟩,
    ⟨(some 4), .mv (.t 9), none, [4, 0, 1, 2, 3]⟩])
   .ret)) }
def HC22 (P : Program) (N : Nat → Nat) : Prop := HasF P (N 22) (C22 N)
def f22 (k : Nat) (a0 : (List UInt8)) (a1 : (List UInt8)) : Option Unit := some ()
theorem F22 {P : Program} {N : Nat → Nat} (hmix : P.follows .mixedOrders = true) (hc : HC22 P N) {k : Nat} {a0 : (List UInt8)} {a1 : (List UInt8)} {r : Unit} (h : f22 k a0 a1 = some r) :
    ACalls P (N 22) [(.d (.sl (List.map byteD a0))), (.d (.sl (List.map byteD a1)))] [] (.d (.bool (decide (a0 = a1)))) [] := by
  refine acalls_canon (F := C22 N) hc 0 0 rfl ?_
  unfold f22 at h
  dsimp only [C22, startL]
  refine AWc.seq ?_
  refine AWc.rg hmix rfl rfl ?_
  refine RegV.p0 rfl rfl rfl ?_
  refine RegV.nil0 ?_
  refine AWc.seq ?_
  refine AWc.rg hmix rfl rfl ?_
  refine RegV.p0 rfl rfl rfl ?_
  refine RegV.bs2s (b := a0) rfl rfl rfl ?_
  refine RegV.p0 rfl rfl rfl ?_
  refine RegV.bs2s (b := a1) rfl rfl rfl ?_
  refine RegV.p0 (v := (.d (.bool (decide (a0 = a1))))) rfl rfl rfl ?_
  refine RegV.p0 rfl rfl rfl ?_
  refine RegV.nil0 ?_
  have hr := Option.some.inj h
  subst hr
  exact AWc.ret (canQ (N := 10) (k := 0) (l' := [(4, (.d (.bool (decide (a0 = a1)))))]) (H' := []) rfl ⟨rfl, [], [], rfl, rfl, ⟨⟨_, rfl, (.refl _)⟩, rfl, trivial⟩,  trivial⟩ (doneA (.inr rfl) rfl ⟨trivial, trivial⟩ (.refl _) hasNil))
/-- courant/couranthelp.Request -/
def C61 (N : Nat → Nat) : AFunc := { n := 80, params := 2, res := [.tmp 4], body :=
 (.seq (.region false [⟨(some 2), .box (.t 0), none, []⟩,
   ⟨(some 3), .box (.t 1), none, []⟩,
   ⟨(some 4), .mv (.k (.d (.bool false))), none, []⟩])
  (.seq (.region false [⟨(some 5), .faddr (.t 2) 0, none, []⟩,
    ⟨(some 6), .load (.t 5) 1 false, none, [0]⟩,
    ⟨(some 7), .faddr (.t 3) 0, none, []⟩,
    ⟨(some 8), .load (.t 7) 1 false, none, [2]⟩,
    ⟨(some 9), .bin .eql (.t 6) (.t 8), none, [1, 3]⟩,
    ⟨(some 10), .mv (.t 9), none, [4]⟩,
    ⟨(some 11), .faddr (.t 2) 1, (some (10, true)), [5]⟩,
    ⟨(some 12), .load (.t 11) 1 false, (some (10, true)), [6, 5]⟩,
    ⟨(some 13), .faddr (.t 3) 1, (some (10, true)), [5]⟩,
    ⟨(some 14), .load (.t 13) 1 false, (some (10, true)), [8, 5]⟩,
    ⟨(some 15), .bin .eql (.t 12) (.t 14), (some (10, true)), [7, 9, 5]⟩,
    ⟨(some 16), .pick (.t 10) (.t 15) (.k (.d (.bool false))), none, [5, 10]⟩,
    ⟨(some 17), .mv (.t 16), none, [11, 5]⟩,
    ⟨(some 18), .faddr (.t 2) 2, (some (17, true)), [12]⟩,
    ⟨(some 19), .load (.t 18) 1 false, (some (17, true)), [13, 12]⟩,
    ⟨(some 20), .faddr (.t 3) 2, (some (17, true)), [12]⟩,
    ⟨(some 21), .load (.t 20) 1 false, (some (17, true)), [15, 12]⟩,
    ⟨(some 22), .bin .eql (.t 19) (.t 21), (some (17, true)), [14, 16, 12]⟩,
    ⟨(some 23), .pick (.t 17) (.t 22) (.k (.d (.bool false))), none, [12, 17]⟩,
    ⟨(some 24), .mv (.t 23), none, [18, 12]⟩,
    ⟨(some 25), .faddr (.t 2) 3, (some (24, true)), [19]⟩,
    ⟨(some 26), .load (.t 25) 1 false, (some (24, true)), [20, 19]⟩,
    ⟨(some 27), .faddr (.t 3) 3, (some (24, true)), [19]⟩,
    ⟨(some 28), .load (.t 27) 1 false, (some (24, true)), [22, 19]⟩,
    ⟨(some 29), .bin .eql (.t 26) (.t 28), (some (24, true)), [21, 23, 19]⟩,
    ⟨(some 30), .pick (.t 24) (.t 29) (.k (.d (.bool false))), none, [19, 24]⟩,
    ⟨(some 31), .mv (.t 30), none, [25, 19]⟩,
    ⟨(some 32), .faddr (.t 2) 4, (some (31, true)), [26]⟩,
    ⟨(some 33), .load (.t 32) 1 false, (some (31, true)), [27, 26]⟩,
    ⟨(some 34), .faddr (.t 3) 4, (some (31, true)), [26]⟩,
    ⟨(some 35), .load (.t 34) 1 false, (some (31, true)), [29, 26]⟩,
    ⟨(some 36), .bin .eql (.t 33) (.t 35), (some (31, true)), [28, 30, 26]⟩,
    ⟨(some 37), .pick (.t 31) (.t 36) (.k (.d (.bool false))), none, [26, 31]⟩,
    ⟨(some 38), .mv (.t 37), none, [32, 26]⟩,
    ⟨(some 39), .faddr (.t 2) 5, (some (38, true)), [33]⟩,
    ⟨(some 40), .load (.t 39) 1 false, (some (38, true)), [34, 33]⟩,
    ⟨(some 41), .faddr (.t 3) 5, (some (38, true)), [33]⟩,
    ⟨(some 42), .load (.t 41) 1 false, (some (38, true)), [36, 33]⟩,
    ⟨(some 43), .bin .eql (.t 40) (.t 42), (some (38, true)), [35, 37, 33]⟩,
    ⟨(some 44), .pick (.t 38) (.t 43) (.k (.d (.bool false))), none, [33, 38]⟩,
    ⟨(some 45), .mv (.t 44), none, [39, 33]⟩,
    ⟨(some 46), .faddr (.t 2) 6, (some (45, true)), [40]⟩,
    ⟨(some 47), .load (.t 46) 1 false, (some (45, true)), [41, 40]⟩,
    ⟨(some 48), .faddr (.t 3) 6, (some (45, true)), [40]⟩,
    ⟨(some 49), .load (.t 48) 1 false, (some (45, true)), [43, 40]⟩,
    ⟨(some 50), .bin .eql (.t 47) (.t 49), (some (45, true)), [42, 44, 40]⟩,
    ⟨(some 51), .pick (.t 45) (.t 50) (.k (.d (.bool false))), none, [40, 45]⟩,
    ⟨(some 52), .mv (.t 51), none, [46, 40]⟩,
    ⟨(some 53), .faddr (.t 2) 7, (some (52, true)), [47]⟩,
    ⟨(some 54), .load (.t 53) 1 false, (some (52, true)), [48, 47]⟩,
    ⟨(some 55), .faddr (.t 3) 7, (some (52, true)), [47]⟩,
    ⟨(some 56), .load (.t 55) 1 false, (some (52, true)), [50, 47]⟩,
    ⟨(some 57), .bin .eql (.t 54) (.t 56), (some (52, true)), [49, 51, 47]⟩,
    ⟨(some 58), .pick (.t 52) (.t 57) (.k (.d (.bool false))), none, [47, 52]⟩,
    ⟨(some 59), .mv (.t 58), none, [53, 47]⟩,
    ⟨(some 60), .faddr (.t 2) 8, (some (59, true)), [54]⟩,
    ⟨(some 61), .load (.t 60) 1 false, (some (59, true)), [55, 54]⟩,
    ⟨(some 62), .faddr (.t 3) 8, (some (59, true)), [54]⟩,
    ⟨(some 63), .load (.t 62) 1 false, (some (59, true)), [57, 54]⟩,
    ⟨(some 64), .bin .eql (.t 61) (.t 63), (some (59, true)), [56, 58, 54]⟩,
    ⟨(some 65), .pick (.t 59) (.t 64) (.k (.d (.bool false))), none, [54, 59]⟩,
    ⟨(some 66), .mv (.t 65), none, [60, 54]⟩,
    ⟨(some 67), .faddr (.t 2) 9, (some (66, true)), [61]⟩,
    ⟨(some 68), .load (.t 67) 1 false, (some (66, true)), [62, 61]⟩,
    ⟨(some 69), .faddr (.t 3) 9, (some (66, true)), [61]⟩,
    ⟨(some 70), .load (.t 69) 1 false, (some (66, true)), [64, 61]⟩,
    ⟨(some 71), .bin .eql (.t 68) (.t 70), (some (66, true)), [63, 65, 61]⟩,
    ⟨(some 72), .pick (.t 66) (.t 71) (.k (.d (.bool false))), none, [61, 66]⟩,
    ⟨(some 73), .mv (.t 72), none, [67, 61]⟩,
    ⟨(some 74), .faddr (.t 2) 10, (some (73, true)), [68]⟩,
    ⟨(some 75), .load (.t 74) 1 false, (some (73, true)), [69, 68]⟩,
    ⟨(some 76), .faddr (.t 3) 10, (some (73, true)), [68]⟩,
    ⟨(some 77), .load (.t 76) 1 false, (some (73, true)), [71, 68]⟩,
    ⟨(some 78), .call (.k (.d (.fn (N 22)))) [(.t 75), (.t 77)], (some (73, true)), [70, 72, 68]⟩,
    ⟨(some 79), .pick (.t 73) (.t 78) (.k (.d (.bool false))), none, [68, 73]⟩,
    ⟨(some 4), .mv (.t 79), none, [74, 73, 0, 1, 2, 3, 4, 5, 6, 7, 8, 9, 10, 11, 12, 13, 14, 15, 16, 17, 18, 19, 20, 21, 22, 23, 24, 25, 26, 27, 28, 29, 30, 31, 32, 33, 34, 35, 36, 37, 38, 39, 40, 41, 42, 43, 44, 45, 46, 47, 48, 49, 50, 51, 52, 53, 54, 55, 56, 57, 58, 59, 60, 61, 62, 63, 64, 65, 66, 67, 68, 69, 70, 71, 72]⟩])
   .ret)) }
def HC61 (P : Program) (N : Nat → Nat) : Prop := HasF P (N 61) (C61 N) ∧ HC22 P N
def f61 (k : Nat) (a0 : TRequest) (a1 : TRequest) : Option Bool := cond (decide (a0.fKind = a1.fKind)) (cond (decide (a0.fName = a1.fName)) (cond (decide (a0.fText = a1.fText)) (cond (decide (a0.fGroup = a1.fGroup)) (cond (decide (a0.fN = a1.fN)) (cond (decide (a0.fVersion = a1.fVersion)) (cond (decide (a0.fProducer = a1.fProducer)) (cond (decide (a0.fSeq = a1.fSeq)) (cond (decide (a0.fOffset = a1.fOffset)) (cond (decide (a0.fMost = a1.fMost)) ((f22 k a0.fData a1.fData).bind fun r83 => some (decide (a0.fData = a1.fData))) (some false)) (some false)) (some false)) (some false)) (some false)) (some false)) (some false)) (some false)) (some false)) (some false)
theorem F61 {P : Program} {N : Nat → Nat} (hmix : P.follows .mixedOrders = true) (hc : HC61 P N) {k : Nat} {a0 : TRequest} {a1 : TRequest} {r : Bool} (h : f61 k a0 a1 = some r) :
    ACalls P (N 61) [(.d (TRequest.enc a0)), (.d (TRequest.enc a1))] [] (.d (.bool r)) [] := by
  refine acalls_canon (F := C61 N) hc.1 0 0 rfl ?_
  unfold f61 at h
  dsimp only [C61, startL]
  refine AWc.seq ?_
  refine AWc.rg hmix rfl rfl ?_
  refine RegV.evS (own := false) (v := (.ptr 0 0)) (H' := [(0, (.cells [(.d (.int .i64 a0.fKind)), (.d (.str a0.fName)), (.d (.str a0.fText)), (.d (.str a0.fGroup)), (.d (.int .i64 a0.fN)), (.d (.int .i64 a0.fVersion)), (.d (.int .u64 a0.fProducer)), (.d (.int .u64 a0.fSeq)), (.d (.int .u64 a0.fOffset)), (.d (.int .i64 a0.fMost)), (.d (.sl (List.map byteD a0.fData)))]))]) (c' := 1) rfl rfl trivial rfl rfl rfl rfl rfl rfl ?_
  refine RegV.evS (own := false) (v := (.ptr 1 0)) (H' := [(1, (.cells [(.d (.int .i64 a1.fKind)), (.d (.str a1.fName)), (.d (.str a1.fText)), (.d (.str a1.fGroup)), (.d (.int .i64 a1.fN)), (.d (.int .i64 a1.fVersion)), (.d (.int .u64 a1.fProducer)), (.d (.int .u64 a1.fSeq)), (.d (.int .u64 a1.fOffset)), (.d (.int .i64 a1.fMost)), (.d (.sl (List.map byteD a1.fData)))])), (0, (.cells [(.d (.int .i64 a0.fKind)), (.d (.str a0.fName)), (.d (.str a0.fText)), (.d (.str a0.fGroup)), (.d (.int .i64 a0.fN)), (.d (.int .i64 a0.fVersion)), (.d (.int .u64 a0.fProducer)), (.d (.int .u64 a0.fSeq)), (.d (.int .u64 a0.fOffset)), (.d (.int .i64 a0.fMost)), (.d (.sl (List.map byteD a0.fData)))]))]) (c' := 2) rfl rfl trivial rfl rfl rfl rfl rfl rfl ?_
  refine RegV.p0 rfl rfl rfl ?_
  refine RegV.nil0 ?_
  refine AWc.seq ?_
  refine AWc.rg hmix rfl rfl ?_
  refine RegV.p0 (v := (.ptr 0 0)) rfl rfl rfl ?_
  refine RegV.ld (v := (.d (.int .i64 a0.fKind))) (H' := [(0, (.cells [(.d (.int .i64 a0.fKind)), (.d (.str a0.fName)), (.d (.str a0.fText)), (.d (.str a0.fGroup)), (.d (.int .i64 a0.fN)), (.d (.int .i64 a0.fVersion)), (.d (.int .u64 a0.fProducer)), (.d (.int .u64 a0.fSeq)), (.d (.int .u64 a0.fOffset)), (.d (.int .i64 a0.fMost)), (.d (.sl (List.map byteD a0.fData)))])), (1, (.cells [(.d (.int .i64 a1.fKind)), (.d (.str a1.fName)), (.d (.str a1.fText)), (.d (.str a1.fGroup)), (.d (.int .i64 a1.fN)), (.d (.int .i64 a1.fVersion)), (.d (.int .u64 a1.fProducer)), (.d (.int .u64 a1.fSeq)), (.d (.int .u64 a1.fOffset)), (.d (.int .i64 a1.fMost)), (.d (.sl (List.map byteD a1.fData)))]))]) rfl rfl trivial rfl rfl rfl rfl rfl ?_
  refine RegV.p0 (v := (.ptr 1 0)) rfl rfl rfl ?_
  refine RegV.ld (v := (.d (.int .i64 a1.fKind))) (H' := [(1, (.cells [(.d (.int .i64 a1.fKind)), (.d (.str a1.fName)), (.d (.str a1.fText)), (.d (.str a1.fGroup)), (.d (.int .i64 a1.fN)), (.d (.int .i64 a1.fVersion)), (.d (.int .u64 a1.fProducer)), (.d (.int .u64 a1.fSeq)), (.d (.int .u64 a1.fOffset)), (.d (.int .i64 a1.fMost)), (.d (.sl (List.map byteD a1.fData)))])), (0, (.cells [(.d (.int .i64 a0.fKind)), (.d (.str a0.fName)), (.d (.str a0.fText)), (.d (.str a0.fGroup)), (.d (.int .i64 a0.fN)), (.d (.int .i64 a0.fVersion)), (.d (.int .u64 a0.fProducer)), (.d (.int .u64 a0.fSeq)), (.d (.int .u64 a0.fOffset)), (.d (.int .i64 a0.fMost)), (.d (.sl (List.map byteD a0.fData)))]))]) rfl rfl trivial rfl rfl rfl rfl rfl ?_
  refine RegV.p0 (v := (.d (.bool (decide (a0.fKind = a1.fKind))))) rfl rfl rfl ?_
  refine RegV.p0 rfl rfl rfl ?_
  refine RegV.split (fun c15 => ?_) (fun c15 => ?_)
  · have h := cond_pos c15 h
    refine RegV.p0 (v := (.ptr 0 1)) rfl rfl rfl ?_
    refine RegV.ld (v := (.d (.str a0.fName))) (H' := [(0, (.cells [(.d (.int .i64 a0.fKind)), (.d (.str a0.fName)), (.d (.str a0.fText)), (.d (.str a0.fGroup)), (.d (.int .i64 a0.fN)), (.d (.int .i64 a0.fVersion)), (.d (.int .u64 a0.fProducer)), (.d (.int .u64 a0.fSeq)), (.d (.int .u64 a0.fOffset)), (.d (.int .i64 a0.fMost)), (.d (.sl (List.map byteD a0.fData)))])), (1, (.cells [(.d (.int .i64 a1.fKind)), (.d (.str a1.fName)), (.d (.str a1.fText)), (.d (.str a1.fGroup)), (.d (.int .i64 a1.fN)), (.d (.int .i64 a1.fVersion)), (.d (.int .u64 a1.fProducer)), (.d (.int .u64 a1.fSeq)), (.d (.int .u64 a1.fOffset)), (.d (.int .i64 a1.fMost)), (.d (.sl (List.map byteD a1.fData)))]))]) rfl rfl trivial rfl rfl rfl rfl rfl ?_
    refine RegV.p0 (v := (.ptr 1 1)) rfl rfl rfl ?_
    refine RegV.ld (v := (.d (.str a1.fName))) (H' := [(1, (.cells [(.d (.int .i64 a1.fKind)), (.d (.str a1.fName)), (.d (.str a1.fText)), (.d (.str a1.fGroup)), (.d (.int .i64 a1.fN)), (.d (.int .i64 a1.fVersion)), (.d (.int .u64 a1.fProducer)), (.d (.int .u64 a1.fSeq)), (.d (.int .u64 a1.fOffset)), (.d (.int .i64 a1.fMost)), (.d (.sl (List.map byteD a1.fData)))])), (0, (.cells [(.d (.int .i64 a0.fKind)), (.d (.str a0.fName)), (.d (.str a0.fText)), (.d (.str a0.fGroup)), (.d (.int .i64 a0.fN)), (.d (.int .i64 a0.fVersion)), (.d (.int .u64 a0.fProducer)), (.d (.int .u64 a0.fSeq)), (.d (.int .u64 a0.fOffset)), (.d (.int .i64 a0.fMost)), (.d (.sl (List.map byteD a0.fData)))]))]) rfl rfl trivial rfl rfl rfl rfl rfl ?_
    refine RegV.p0 (v := (.d (.bool (decide (a0.fName = a1.fName))))) rfl rfl rfl ?_
    refine RegV.p0 rfl rfl rfl ?_
    refine RegV.p0 rfl rfl rfl ?_
    refine RegV.split (fun c22 => ?_) (fun c22 => ?_)
    · have h := cond_pos c22 h
      refine RegV.p0 (v := (.ptr 0 2)) rfl rfl rfl ?_
      refine RegV.ld (v := (.d (.str a0.fText))) (H' := [(0, (.cells [(.d (.int .i64 a0.fKind)), (.d (.str a0.fName)), (.d (.str a0.fText)), (.d (.str a0.fGroup)), (.d (.int .i64 a0.fN)), (.d (.int .i64 a0.fVersion)), (.d (.int .u64 a0.fProducer)), (.d (.int .u64 a0.fSeq)), (.d (.int .u64 a0.fOffset)), (.d (.int .i64 a0.fMost)), (.d (.sl (List.map byteD a0.fData)))])), (1, (.cells [(.d (.int .i64 a1.fKind)), (.d (.str a1.fName)), (.d (.str a1.fText)), (.d (.str a1.fGroup)), (.d (.int .i64 a1.fN)), (.d (.int .i64 a1.fVersion)), (.d (.int .u64 a1.fProducer)), (.d (.int .u64 a1.fSeq)), (.d (.int .u64 a1.fOffset)), (.d (.int .i64 a1.fMost)), (.d (.sl (List.map byteD a1.fData)))]))]) rfl rfl trivial rfl rfl rfl rfl rfl ?_
      refine RegV.p0 (v := (.ptr 1 2)) rfl rfl rfl ?_
      refine RegV.ld (v := (.d (.str a1.fText))) (H' := [(1, (.cells [(.d (.int .i64 a1.fKind)), (.d (.str a1.fName)), (.d (.str a1.fText)), (.d (.str a1.fGroup)), (.d (.int .i64 a1.fN)), (.d (.int .i64 a1.fVersion)), (.d (.int .u64 a1.fProducer)), (.d (.int .u64 a1.fSeq)), (.d (.int .u64 a1.fOffset)), (.d (.int .i64 a1.fMost)), (.d (.sl (List.map byteD a1.fData)))])), (0, (.cells [(.d (.int .i64 a0.fKind)), (.d (.str a0.fName)), (.d (.str a0.fText)), (.d (.str a0.fGroup)), (.d (.int .i64 a0.fN)), (.d (.int .i64 a0.fVersion)), (.d (.int .u64 a0.fProducer)), (.d (.int .u64 a0.fSeq)), (.d (.int .u64 a0.fOffset)), (.d (.int .i64 a0.fMost)), (.d (.sl (List.map byteD a0.fData)))]))]) rfl rfl trivial rfl rfl rfl rfl rfl ?_
      refine RegV.p0 (v := (.d (.bool (decide (a0.fText = a1.fText))))) rfl rfl rfl ?_
      refine RegV.p0 rfl rfl rfl ?_
      refine RegV.p0 rfl rfl rfl ?_
      refine RegV.split (fun c29 => ?_) (fun c29 => ?_)
      · have h := cond_pos c29 h
        refine RegV.p0 (v := (.ptr 0 3)) rfl rfl rfl ?_
        refine RegV.ld (v := (.d (.str a0.fGroup))) (H' := [(0, (.cells [(.d (.int .i64 a0.fKind)), (.d (.str a0.fName)), (.d (.str a0.fText)), (.d (.str a0.fGroup)), (.d (.int .i64 a0.fN)), (.d (.int .i64 a0.fVersion)), (.d (.int .u64 a0.fProducer)), (.d (.int .u64 a0.fSeq)), (.d (.int .u64 a0.fOffset)), (.d (.int .i64 a0.fMost)), (.d (.sl (List.map byteD a0.fData)))])), (1, (.cells [(.d (.int .i64 a1.fKind)), (.d (.str a1.fName)), (.d (.str a1.fText)), (.d (.str a1.fGroup)), (.d (.int .i64 a1.fN)), (.d (.int .i64 a1.fVersion)), (.d (.int .u64 a1.fProducer)), (.d (.int .u64 a1.fSeq)), (.d (.int .u64 a1.fOffset)), (.d (.int .i64 a1.fMost)), (.d (.sl (List.map byteD a1.fData)))]))]) rfl rfl trivial rfl rfl rfl rfl rfl ?_
        refine RegV.p0 (v := (.ptr 1 3)) rfl rfl rfl ?_
        refine RegV.ld (v := (.d (.str a1.fGroup))) (H' := [(1, (.cells [(.d (.int .i64 a1.fKind)), (.d (.str a1.fName)), (.d (.str a1.fText)), (.d (.str a1.fGroup)), (.d (.int .i64 a1.fN)), (.d (.int .i64 a1.fVersion)), (.d (.int .u64 a1.fProducer)), (.d (.int .u64 a1.fSeq)), (.d (.int .u64 a1.fOffset)), (.d (.int .i64 a1.fMost)), (.d (.sl (List.map byteD a1.fData)))])), (0, (.cells [(.d (.int .i64 a0.fKind)), (.d (.str a0.fName)), (.d (.str a0.fText)), (.d (.str a0.fGroup)), (.d (.int .i64 a0.fN)), (.d (.int .i64 a0.fVersion)), (.d (.int .u64 a0.fProducer)), (.d (.int .u64 a0.fSeq)), (.d (.int .u64 a0.fOffset)), (.d (.int .i64 a0.fMost)), (.d (.sl (List.map byteD a0.fData)))]))]) rfl rfl trivial rfl rfl rfl rfl rfl ?_
        refine RegV.p0 (v := (.d (.bool (decide (a0.fGroup = a1.fGroup))))) rfl rfl rfl ?_
        refine RegV.p0 rfl rfl rfl ?_
        refine RegV.p0 rfl rfl rfl ?_
        refine RegV.split (fun c36 => ?_) (fun c36 => ?_)
        · have h := cond_pos c36 h
          refine RegV.p0 (v := (.ptr 0 4)) rfl rfl rfl ?_
          refine RegV.ld (v := (.d (.int .i64 a0.fN))) (H' := [(0, (.cells [(.d (.int .i64 a0.fKind)), (.d (.str a0.fName)), (.d (.str a0.fText)), (.d (.str a0.fGroup)), (.d (.int .i64 a0.fN)), (.d (.int .i64 a0.fVersion)), (.d (.int .u64 a0.fProducer)), (.d (.int .u64 a0.fSeq)), (.d (.int .u64 a0.fOffset)), (.d (.int .i64 a0.fMost)), (.d (.sl (List.map byteD a0.fData)))])), (1, (.cells [(.d (.int .i64 a1.fKind)), (.d (.str a1.fName)), (.d (.str a1.fText)), (.d (.str a1.fGroup)), (.d (.int .i64 a1.fN)), (.d (.int .i64 a1.fVersion)), (.d (.int .u64 a1.fProducer)), (.d (.int .u64 a1.fSeq)), (.d (.int .u64 a1.fOffset)), (.d (.int .i64 a1.fMost)), (.d (.sl (List.map byteD a1.fData)))]))]) rfl rfl trivial rfl rfl rfl rfl rfl ?_
          refine RegV.p0 (v := (.ptr 1 4)) rfl rfl rfl ?_
          refine RegV.ld (v := (.d (.int .i64 a1.fN))) (H' := [(1, (.cells [(.d (.int .i64 a1.fKind)), (.d (.str a1.fName)), (.d (.str a1.fText)), (.d (.str a1.fGroup)), (.d (.int .i64 a1.fN)), (.d (.int .i64 a1.fVersion)), (.d (.int .u64 a1.fProducer)), (.d (.int .u64 a1.fSeq)), (.d (.int .u64 a1.fOffset)), (.d (.int .i64 a1.fMost)), (.d (.sl (List.map byteD a1.fData)))])), (0, (.cells [(.d (.int .i64 a0.fKind)), (.d (.str a0.fName)), (.d (.str a0.fText)), (.d (.str a0.fGroup)), (.d (.int .i64 a0.fN)), (.d (.int .i64 a0.fVersion)), (.d (.int .u64 a0.fProducer)), (.d (.int .u64 a0.fSeq)), (.d (.int .u64 a0.fOffset)), (.d (.int .i64 a0.fMost)), (.d (.sl (List.map byteD a0.fData)))]))]) rfl rfl trivial rfl rfl rfl rfl rfl ?_
          refine RegV.p0 (v := (.d (.bool (decide (a0.fN = a1.fN))))) rfl rfl rfl ?_
          refine RegV.p0 rfl rfl rfl ?_
          refine RegV.p0 rfl rfl rfl ?_
          refine RegV.split (fun c43 => ?_) (fun c43 => ?_)
          · have h := cond_pos c43 h
            refine RegV.p0 (v := (.ptr 0 5)) rfl rfl rfl ?_
            refine RegV.ld (v := (.d (.int .i64 a0.fVersion))) (H' := [(0, (.cells [(.d (.int .i64 a0.fKind)), (.d (.str a0.fName)), (.d (.str a0.fText)), (.d (.str a0.fGroup)), (.d (.int .i64 a0.fN)), (.d (.int .i64 a0.fVersion)), (.d (.int .u64 a0.fProducer)), (.d (.int .u64 a0.fSeq)), (.d (.int .u64 a0.fOffset)), (.d (.int .i64 a0.fMost)), (.d (.sl (List.map byteD a0.fData)))])), (1, (.cells [(.d (.int .i64 a1.fKind)), (.d (.str a1.fName)), (.d (.str a1.fText)), (.d (.str a1.fGroup)), (.d (.int .i64 a1.fN)), (.d (.int .i64 a1.fVersion)), (.d (.int .u64 a1.fProducer)), (.d (.int .u64 a1.fSeq)), (.d (.int .u64 a1.fOffset)), (.d (.int .i64 a1.fMost)), (.d (.sl (List.map byteD a1.fData)))]))]) rfl rfl trivial rfl rfl rfl rfl rfl ?_
            refine RegV.p0 (v := (.ptr 1 5)) rfl rfl rfl ?_
            refine RegV.ld (v := (.d (.int .i64 a1.fVersion))) (H' := [(1, (.cells [(.d (.int .i64 a1.fKind)), (.d (.str a1.fName)), (.d (.str a1.fText)), (.d (.str a1.fGroup)), (.d (.int .i64 a1.fN)), (.d (.int .i64 a1.fVersion)), (.d (.int .u64 a1.fProducer)), (.d (.int .u64 a1.fSeq)), (.d (.int .u64 a1.fOffset)), (.d (.int .i64 a1.fMost)), (.d (.sl (List.map byteD a1.fData)))])), (0, (.cells [(.d (.int .i64 a0.fKind)), (.d (.str a0.fName)), (.d (.str a0.fText)), (.d (.str a0.fGroup)), (.d (.int .i64 a0.fN)), (.d (.int .i64 a0.fVersion)), (.d (.int .u64 a0.fProducer)), (.d (.int .u64 a0.fSeq)), (.d (.int .u64 a0.fOffset)), (.d (.int .i64 a0.fMost)), (.d (.sl (List.map byteD a0.fData)))]))]) rfl rfl trivial rfl rfl rfl rfl rfl ?_
            refine RegV.p0 (v := (.d (.bool (decide (a0.fVersion = a1.fVersion))))) rfl rfl rfl ?_
            refine RegV.p0 rfl rfl rfl ?_
            refine RegV.p0 rfl rfl rfl ?_
            refine RegV.split (fun c50 => ?_) (fun c50 => ?_)
            · have h := cond_pos c50 h
              refine RegV.p0 (v := (.ptr 0 6)) rfl rfl rfl ?_
              refine RegV.ld (v := (.d (.int .u64 a0.fProducer))) (H' := [(0, (.cells [(.d (.int .i64 a0.fKind)), (.d (.str a0.fName)), (.d (.str a0.fText)), (.d (.str a0.fGroup)), (.d (.int .i64 a0.fN)), (.d (.int .i64 a0.fVersion)), (.d (.int .u64 a0.fProducer)), (.d (.int .u64 a0.fSeq)), (.d (.int .u64 a0.fOffset)), (.d (.int .i64 a0.fMost)), (.d (.sl (List.map byteD a0.fData)))])), (1, (.cells [(.d (.int .i64 a1.fKind)), (.d (.str a1.fName)), (.d (.str a1.fText)), (.d (.str a1.fGroup)), (.d (.int .i64 a1.fN)), (.d (.int .i64 a1.fVersion)), (.d (.int .u64 a1.fProducer)), (.d (.int .u64 a1.fSeq)), (.d (.int .u64 a1.fOffset)), (.d (.int .i64 a1.fMost)), (.d (.sl (List.map byteD a1.fData)))]))]) rfl rfl trivial rfl rfl rfl rfl rfl ?_
              refine RegV.p0 (v := (.ptr 1 6)) rfl rfl rfl ?_
              refine RegV.ld (v := (.d (.int .u64 a1.fProducer))) (H' := [(1, (.cells [(.d (.int .i64 a1.fKind)), (.d (.str a1.fName)), (.d (.str a1.fText)), (.d (.str a1.fGroup)), (.d (.int .i64 a1.fN)), (.d (.int .i64 a1.fVersion)), (.d (.int .u64 a1.fProducer)), (.d (.int .u64 a1.fSeq)), (.d (.int .u64 a1.fOffset)), (.d (.int .i64 a1.fMost)), (.d (.sl (List.map byteD a1.fData)))])), (0, (.cells [(.d (.int .i64 a0.fKind)), (.d (.str a0.fName)), (.d (.str a0.fText)), (.d (.str a0.fGroup)), (.d (.int .i64 a0.fN)), (.d (.int .i64 a0.fVersion)), (.d (.int .u64 a0.fProducer)), (.d (.int .u64 a0.fSeq)), (.d (.int .u64 a0.fOffset)), (.d (.int .i64 a0.fMost)), (.d (.sl (List.map byteD a0.fData)))]))]) rfl rfl trivial rfl rfl rfl rfl rfl ?_
              refine RegV.p0 (v := (.d (.bool (decide (a0.fProducer = a1.fProducer))))) rfl rfl rfl ?_
              refine RegV.p0 rfl rfl rfl ?_
              refine RegV.p0 rfl rfl rfl ?_
              refine RegV.split (fun c57 => ?_) (fun c57 => ?_)
              · have h := cond_pos c57 h
                refine RegV.p0 (v := (.ptr 0 7)) rfl rfl rfl ?_
                refine RegV.ld (v := (.d (.int .u64 a0.fSeq))) (H' := [(0, (.cells [(.d (.int .i64 a0.fKind)), (.d (.str a0.fName)), (.d (.str a0.fText)), (.d (.str a0.fGroup)), (.d (.int .i64 a0.fN)), (.d (.int .i64 a0.fVersion)), (.d (.int .u64 a0.fProducer)), (.d (.int .u64 a0.fSeq)), (.d (.int .u64 a0.fOffset)), (.d (.int .i64 a0.fMost)), (.d (.sl (List.map byteD a0.fData)))])), (1, (.cells [(.d (.int .i64 a1.fKind)), (.d (.str a1.fName)), (.d (.str a1.fText)), (.d (.str a1.fGroup)), (.d (.int .i64 a1.fN)), (.d (.int .i64 a1.fVersion)), (.d (.int .u64 a1.fProducer)), (.d (.int .u64 a1.fSeq)), (.d (.int .u64 a1.fOffset)), (.d (.int .i64 a1.fMost)), (.d (.sl (List.map byteD a1.fData)))]))]) rfl rfl trivial rfl rfl rfl rfl rfl ?_
                refine RegV.p0 (v := (.ptr 1 7)) rfl rfl rfl ?_
                refine RegV.ld (v := (.d (.int .u64 a1.fSeq))) (H' := [(1, (.cells [(.d (.int .i64 a1.fKind)), (.d (.str a1.fName)), (.d (.str a1.fText)), (.d (.str a1.fGroup)), (.d (.int .i64 a1.fN)), (.d (.int .i64 a1.fVersion)), (.d (.int .u64 a1.fProducer)), (.d (.int .u64 a1.fSeq)), (.d (.int .u64 a1.fOffset)), (.d (.int .i64 a1.fMost)), (.d (.sl (List.map byteD a1.fData)))])), (0, (.cells [(.d (.int .i64 a0.fKind)), (.d (.str a0.fName)), (.d (.str a0.fText)), (.d (.str a0.fGroup)), (.d (.int .i64 a0.fN)), (.d (.int .i64 a0.fVersion)), (.d (.int .u64 a0.fProducer)), (.d (.int .u64 a0.fSeq)), (.d (.int .u64 a0.fOffset)), (.d (.int .i64 a0.fMost)), (.d (.sl (List.map byteD a0.fData)))]))]) rfl rfl trivial rfl rfl rfl rfl rfl ?_
                refine RegV.p0 (v := (.d (.bool (decide (a0.fSeq = a1.fSeq))))) rfl rfl rfl ?_
                refine RegV.p0 rfl rfl rfl ?_
                refine RegV.p0 rfl rfl rfl ?_
                refine RegV.split (fun c64 => ?_) (fun c64 => ?_)
                · have h := cond_pos c64 h
                  refine RegV.p0 (v := (.ptr 0 8)) rfl rfl rfl ?_
                  refine RegV.ld (v := (.d (.int .u64 a0.fOffset))) (H' := [(0, (.cells [(.d (.int .i64 a0.fKind)), (.d (.str a0.fName)), (.d (.str a0.fText)), (.d (.str a0.fGroup)), (.d (.int .i64 a0.fN)), (.d (.int .i64 a0.fVersion)), (.d (.int .u64 a0.fProducer)), (.d (.int .u64 a0.fSeq)), (.d (.int .u64 a0.fOffset)), (.d (.int .i64 a0.fMost)), (.d (.sl (List.map byteD a0.fData)))])), (1, (.cells [(.d (.int .i64 a1.fKind)), (.d (.str a1.fName)), (.d (.str a1.fText)), (.d (.str a1.fGroup)), (.d (.int .i64 a1.fN)), (.d (.int .i64 a1.fVersion)), (.d (.int .u64 a1.fProducer)), (.d (.int .u64 a1.fSeq)), (.d (.int .u64 a1.fOffset)), (.d (.int .i64 a1.fMost)), (.d (.sl (List.map byteD a1.fData)))]))]) rfl rfl trivial rfl rfl rfl rfl rfl ?_
                  refine RegV.p0 (v := (.ptr 1 8)) rfl rfl rfl ?_
                  refine RegV.ld (v := (.d (.int .u64 a1.fOffset))) (H' := [(1, (.cells [(.d (.int .i64 a1.fKind)), (.d (.str a1.fName)), (.d (.str a1.fText)), (.d (.str a1.fGroup)), (.d (.int .i64 a1.fN)), (.d (.int .i64 a1.fVersion)), (.d (.int .u64 a1.fProducer)), (.d (.int .u64 a1.fSeq)), (.d (.int .u64 a1.fOffset)), (.d (.int .i64 a1.fMost)), (.d (.sl (List.map byteD a1.fData)))])), (0, (.cells [(.d (.int .i64 a0.fKind)), (.d (.str a0.fName)), (.d (.str a0.fText)), (.d (.str a0.fGroup)), (.d (.int .i64 a0.fN)), (.d (.int .i64 a0.fVersion)), (.d (.int .u64 a0.fProducer)), (.d (.int .u64 a0.fSeq)), (.d (.int .u64 a0.fOffset)), (.d (.int .i64 a0.fMost)), (.d (.sl (List.map byteD a0.fData)))]))]) rfl rfl trivial rfl rfl rfl rfl rfl ?_
                  refine RegV.p0 (v := (.d (.bool (decide (a0.fOffset = a1.fOffset))))) rfl rfl rfl ?_
                  refine RegV.p0 rfl rfl rfl ?_
                  refine RegV.p0 rfl rfl rfl ?_
                  refine RegV.split (fun c71 => ?_) (fun c71 => ?_)
                  · have h := cond_pos c71 h
                    refine RegV.p0 (v := (.ptr 0 9)) rfl rfl rfl ?_
                    refine RegV.ld (v := (.d (.int .i64 a0.fMost))) (H' := [(0, (.cells [(.d (.int .i64 a0.fKind)), (.d (.str a0.fName)), (.d (.str a0.fText)), (.d (.str a0.fGroup)), (.d (.int .i64 a0.fN)), (.d (.int .i64 a0.fVersion)), (.d (.int .u64 a0.fProducer)), (.d (.int .u64 a0.fSeq)), (.d (.int .u64 a0.fOffset)), (.d (.int .i64 a0.fMost)), (.d (.sl (List.map byteD a0.fData)))])), (1, (.cells [(.d (.int .i64 a1.fKind)), (.d (.str a1.fName)), (.d (.str a1.fText)), (.d (.str a1.fGroup)), (.d (.int .i64 a1.fN)), (.d (.int .i64 a1.fVersion)), (.d (.int .u64 a1.fProducer)), (.d (.int .u64 a1.fSeq)), (.d (.int .u64 a1.fOffset)), (.d (.int .i64 a1.fMost)), (.d (.sl (List.map byteD a1.fData)))]))]) rfl rfl trivial rfl rfl rfl rfl rfl ?_
                    refine RegV.p0 (v := (.ptr 1 9)) rfl rfl rfl ?_
                    refine RegV.ld (v := (.d (.int .i64 a1.fMost))) (H' := [(1, (.cells [(.d (.int .i64 a1.fKind)), (.d (.str a1.fName)), (.d (.str a1.fText)), (.d (.str a1.fGroup)), (.d (.int .i64 a1.fN)), (.d (.int .i64 a1.fVersion)), (.d (.int .u64 a1.fProducer)), (.d (.int .u64 a1.fSeq)), (.d (.int .u64 a1.fOffset)), (.d (.int .i64 a1.fMost)), (.d (.sl (List.map byteD a1.fData)))])), (0, (.cells [(.d (.int .i64 a0.fKind)), (.d (.str a0.fName)), (.d (.str a0.fText)), (.d (.str a0.fGroup)), (.d (.int .i64 a0.fN)), (.d (.int .i64 a0.fVersion)), (.d (.int .u64 a0.fProducer)), (.d (.int .u64 a0.fSeq)), (.d (.int .u64 a0.fOffset)), (.d (.int .i64 a0.fMost)), (.d (.sl (List.map byteD a0.fData)))]))]) rfl rfl trivial rfl rfl rfl rfl rfl ?_
                    refine RegV.p0 (v := (.d (.bool (decide (a0.fMost = a1.fMost))))) rfl rfl rfl ?_
                    refine RegV.p0 rfl rfl rfl ?_
                    refine RegV.p0 rfl rfl rfl ?_
                    refine RegV.split (fun c78 => ?_) (fun c78 => ?_)
                    · have h := cond_pos c78 h
                      refine RegV.p0 (v := (.ptr 0 10)) rfl rfl rfl ?_
                      refine RegV.ld (v := (.d (.sl (List.map byteD a0.fData)))) (H' := [(0, (.cells [(.d (.int .i64 a0.fKind)), (.d (.str a0.fName)), (.d (.str a0.fText)), (.d (.str a0.fGroup)), (.d (.int .i64 a0.fN)), (.d (.int .i64 a0.fVersion)), (.d (.int .u64 a0.fProducer)), (.d (.int .u64 a0.fSeq)), (.d (.int .u64 a0.fOffset)), (.d (.int .i64 a0.fMost)), (.d (.sl (List.map byteD a0.fData)))])), (1, (.cells [(.d (.int .i64 a1.fKind)), (.d (.str a1.fName)), (.d (.str a1.fText)), (.d (.str a1.fGroup)), (.d (.int .i64 a1.fN)), (.d (.int .i64 a1.fVersion)), (.d (.int .u64 a1.fProducer)), (.d (.int .u64 a1.fSeq)), (.d (.int .u64 a1.fOffset)), (.d (.int .i64 a1.fMost)), (.d (.sl (List.map byteD a1.fData)))]))]) rfl rfl trivial rfl rfl rfl rfl rfl ?_
                      refine RegV.p0 (v := (.ptr 1 10)) rfl rfl rfl ?_
                      refine RegV.ld (v := (.d (.sl (List.map byteD a1.fData)))) (H' := [(1, (.cells [(.d (.int .i64 a1.fKind)), (.d (.str a1.fName)), (.d (.str a1.fText)), (.d (.str a1.fGroup)), (.d (.int .i64 a1.fN)), (.d (.int .i64 a1.fVersion)), (.d (.int .u64 a1.fProducer)), (.d (.int .u64 a1.fSeq)), (.d (.int .u64 a1.fOffset)), (.d (.int .i64 a1.fMost)), (.d (.sl (List.map byteD a1.fData)))])), (0, (.cells [(.d (.int .i64 a0.fKind)), (.d (.str a0.fName)), (.d (.str a0.fText)), (.d (.str a0.fGroup)), (.d (.int .i64 a0.fN)), (.d (.int .i64 a0.fVersion)), (.d (.int .u64 a0.fProducer)), (.d (.int .u64 a0.fSeq)), (.d (.int .u64 a0.fOffset)), (.d (.int .i64 a0.fMost)), (.d (.sl (List.map byteD a0.fData)))]))]) rfl rfl trivial rfl rfl rfl rfl rfl ?_
                      obtain ⟨r83, e83, h⟩ := bind_some h
                      refine RegV.call0 (F22 hmix hc.2 e83) rfl rfl rfl rfl (.cons (.refl _) (.cons (.refl _) .nil)) rfl ?_
                      refine RegV.p0 rfl rfl rfl ?_
                      refine RegV.p0 rfl rfl rfl ?_
                      refine RegV.nil0 ?_
                      have hr := Option.some.inj h
                      subst hr
                      exact AWc.ret (canQ (N := 80) (k := 0) (l' := [(4, (.d (.bool (decide (a0.fData = a1.fData)))))]) (H' := []) rfl ⟨rfl, [], [], rfl, rfl, ⟨⟨_, rfl, (.refl _)⟩, rfl, trivial⟩,  trivial⟩ (doneA (.inr rfl) rfl ⟨trivial, trivial⟩ (.refl _) hasNil))
                    · have h := cond_neg c78 h
                      refine RegV.noS rfl rfl ?_
                      refine RegV.noS rfl rfl ?_
                      refine RegV.noS rfl rfl ?_
                      refine RegV.noS rfl rfl ?_
                      refine RegV.noS rfl rfl ?_
                      refine RegV.p0 rfl rfl rfl ?_
                      refine RegV.p0 rfl rfl rfl ?_
                      refine RegV.nil0 ?_
                      have hr := Option.some.inj h
                      subst hr
                      exact AWc.ret (canQ (N := 80) (k := 0) (l' := [(4, (.d (.bool false)))]) (H' := []) rfl ⟨rfl, [], [], rfl, rfl, ⟨⟨_, rfl, (.refl _)⟩, rfl, trivial⟩,  trivial⟩ (doneA (.inr rfl) rfl ⟨trivial, trivial⟩ (.refl _) hasNil))
                  · have h := cond_neg c71 h
                    refine RegV.noS rfl rfl ?_
                    refine RegV.noS rfl rfl ?_
                    refine RegV.noS rfl rfl ?_
                    refine RegV.noS rfl rfl ?_
                    refine RegV.noS rfl rfl ?_
                    refine RegV.p0 rfl rfl rfl ?_
                    refine RegV.p0 rfl rfl rfl ?_
                    refine RegV.noS rfl rfl ?_
                    refine RegV.noS rfl rfl ?_
                    refine RegV.noS rfl rfl ?_
                    refine RegV.noS rfl rfl ?_
                    refine RegV.noS rfl rfl ?_
                    refine RegV.p0 rfl rfl rfl ?_
                    refine RegV.p0 rfl rfl rfl ?_
                    refine RegV.nil0 ?_
                    have hr := Option.some.inj h
                    subst hr
                    exact AWc.ret (canQ (N := 80) (k := 0) (l' := [(4, (.d (.bool false)))]) (H' := []) rfl ⟨rfl, [], [], rfl, rfl, ⟨⟨_, rfl, (.refl _)⟩, rfl, trivial⟩,  trivial⟩ (doneA (.inr rfl) rfl ⟨trivial, trivial⟩ (.refl _) hasNil))
                · have h := cond_neg c64 h
                  refine RegV.noS rfl rfl ?_
                  refine RegV.noS rfl rfl ?_
                  refine RegV.noS rfl rfl ?_
                  refine RegV.noS rfl rfl ?_
                  refine RegV.noS rfl rfl ?_
                  refine RegV.p0 rfl rfl rfl ?_
                  refine RegV.p0 rfl rfl rfl ?_
                  refine RegV.noS rfl rfl ?_
                  refine RegV.noS rfl rfl ?_
                  refine RegV.noS rfl rfl ?_
                  refine RegV.noS rfl rfl ?_
                  refine RegV.noS rfl rfl ?_
                  refine RegV.p0 rfl rfl rfl ?_
                  refine RegV.p0 rfl rfl rfl ?_
                  refine RegV.noS rfl rfl ?_
                  refine RegV.noS rfl rfl ?_
                  refine RegV.noS rfl rfl ?_
                  refine RegV.noS rfl rfl ?_
                  refine RegV.noS rfl rfl ?_
                  refine RegV.p0 rfl rfl rfl ?_
                  refine RegV.p0 rfl rfl rfl ?_
                  refine RegV.nil0 ?_
                  have hr := Option.some.inj h
                  subst hr
                  exact AWc.ret (canQ (N := 80) (k := 0) (l' := [(4, (.d (.bool false)))]) (H' := []) rfl ⟨rfl, [], [], rfl, rfl, ⟨⟨_, rfl, (.refl _)⟩, rfl, trivial⟩,  trivial⟩ (doneA (.inr rfl) rfl ⟨trivial, trivial⟩ (.refl _) hasNil))
              · have h := cond_neg c57 h
                refine RegV.noS rfl rfl ?_
                refine RegV.noS rfl rfl ?_
                refine RegV.noS rfl rfl ?_
                refine RegV.noS rfl rfl ?_
                refine RegV.noS rfl rfl ?_
                refine RegV.p0 rfl rfl rfl ?_
                refine RegV.p0 rfl rfl rfl ?_
                refine RegV.noS rfl rfl ?_
                refine RegV.noS rfl rfl ?_
                refine RegV.noS rfl rfl ?_
                refine RegV.noS rfl rfl ?_
                refine RegV.noS rfl rfl ?_
                refine RegV.p0 rfl rfl rfl ?_
                refine RegV.p0 rfl rfl rfl ?_
                refine RegV.noS rfl rfl ?_
                refine RegV.noS rfl rfl ?_
                refine RegV.noS rfl rfl ?_
                refine RegV.noS rfl rfl ?_
                refine RegV.noS rfl rfl ?_
                refine RegV.p0 rfl rfl rfl ?_
                refine RegV.p0 rfl rfl rfl ?_
                refine RegV.noS rfl rfl ?_
                refine RegV.noS rfl rfl ?_
                refine RegV.noS rfl rfl ?_
                refine RegV.noS rfl rfl ?_
                refine RegV.noS rfl rfl ?_
                refine RegV.p0 rfl rfl rfl ?_
                refine RegV.p0 rfl rfl rfl ?_
                refine RegV.nil0 ?_
                have hr := Option.some.inj h
                subst hr
                exact AWc.ret (canQ (N := 80) (k := 0) (l' := [(4, (.d (.bool false)))]) (H' := []) rfl ⟨rfl, [], [], rfl, rfl, ⟨⟨_, rfl, (.refl _)⟩, rfl, trivial⟩,  trivial⟩ (doneA (.inr rfl) rfl ⟨trivial, trivial⟩ (.refl _) hasNil))
            · have h := cond_neg c50 h
              refine RegV.noS rfl rfl ?_
              refine RegV.noS rfl rfl ?_
              refine RegV.noS rfl rfl ?_
              refine RegV.noS rfl rfl ?_
              refine RegV.noS rfl rfl ?_
              refine RegV.p0 rfl rfl rfl ?_
              refine RegV.p0 rfl rfl rfl ?_
              refine RegV.noS rfl rfl ?_
              refine RegV.noS rfl rfl ?_
              refine RegV.noS rfl rfl ?_
              refine RegV.noS rfl rfl ?_
              refine RegV.noS rfl rfl ?_
              refine RegV.p0 rfl rfl rfl ?_
              refine RegV.p0 rfl rfl rfl ?_
              refine RegV.noS rfl rfl ?_
              refine RegV.noS rfl rfl ?_
              refine RegV.noS rfl rfl ?_
              refine RegV.noS rfl rfl ?_
              refine RegV.noS rfl rfl ?_
              refine RegV.p0 rfl rfl rfl ?_
              refine RegV.p0 rfl rfl rfl ?_
              refine RegV.noS rfl rfl ?_
              refine RegV.noS rfl rfl ?_
              refine RegV.noS rfl rfl ?_
              refine RegV.noS rfl rfl ?_
              refine RegV.noS rfl rfl ?_
              refine RegV.p0 rfl rfl rfl ?_
              refine RegV.p0 rfl rfl rfl ?_
              refine RegV.noS rfl rfl ?_
              refine RegV.noS rfl rfl ?_
              refine RegV.noS rfl rfl ?_
              refine RegV.noS rfl rfl ?_
              refine RegV.noS rfl rfl ?_
              refine RegV.p0 rfl rfl rfl ?_
              refine RegV.p0 rfl rfl rfl ?_
              refine RegV.nil0 ?_
              have hr := Option.some.inj h
              subst hr
              exact AWc.ret (canQ (N := 80) (k := 0) (l' := [(4, (.d (.bool false)))]) (H' := []) rfl ⟨rfl, [], [], rfl, rfl, ⟨⟨_, rfl, (.refl _)⟩, rfl, trivial⟩,  trivial⟩ (doneA (.inr rfl) rfl ⟨trivial, trivial⟩ (.refl _) hasNil))
          · have h := cond_neg c43 h
            refine RegV.noS rfl rfl ?_
            refine RegV.noS rfl rfl ?_
            refine RegV.noS rfl rfl ?_
            refine RegV.noS rfl rfl ?_
            refine RegV.noS rfl rfl ?_
            refine RegV.p0 rfl rfl rfl ?_
            refine RegV.p0 rfl rfl rfl ?_
            refine RegV.noS rfl rfl ?_
            refine RegV.noS rfl rfl ?_
            refine RegV.noS rfl rfl ?_
            refine RegV.noS rfl rfl ?_
            refine RegV.noS rfl rfl ?_
            refine RegV.p0 rfl rfl rfl ?_
            refine RegV.p0 rfl rfl rfl ?_
            refine RegV.noS rfl rfl ?_
            refine RegV.noS rfl rfl ?_
            refine RegV.noS rfl rfl ?_
            refine RegV.noS rfl rfl ?_
            refine RegV.noS rfl rfl ?_
            refine RegV.p0 rfl rfl rfl ?_
            refine RegV.p0 rfl rfl rfl ?_
            refine RegV.noS rfl rfl ?_
            refine RegV.noS rfl rfl ?_
            refine RegV.noS rfl rfl ?_
            refine RegV.noS rfl rfl ?_
            refine RegV.noS rfl rfl ?_
            refine RegV.p0 rfl rfl rfl ?_
            refine RegV.p0 rfl rfl rfl ?_
            refine RegV.noS rfl rfl ?_
            refine RegV.noS rfl rfl ?_
            refine RegV.noS rfl rfl ?_
            refine RegV.noS rfl rfl ?_
            refine RegV.noS rfl rfl ?_
            refine RegV.p0 rfl rfl rfl ?_
            refine RegV.p0 rfl rfl rfl ?_
            refine RegV.noS rfl rfl ?_
            refine RegV.noS rfl rfl ?_
            refine RegV.noS rfl rfl ?_
            refine RegV.noS rfl rfl ?_
            refine RegV.noS rfl rfl ?_
            refine RegV.p0 rfl rfl rfl ?_
            refine RegV.p0 rfl rfl rfl ?_
            refine RegV.nil0 ?_
            have hr := Option.some.inj h
            subst hr
            exact AWc.ret (canQ (N := 80) (k := 0) (l' := [(4, (.d (.bool false)))]) (H' := []) rfl ⟨rfl, [], [], rfl, rfl, ⟨⟨_, rfl, (.refl _)⟩, rfl, trivial⟩,  trivial⟩ (doneA (.inr rfl) rfl ⟨trivial, trivial⟩ (.refl _) hasNil))
        · have h := cond_neg c36 h
          refine RegV.noS rfl rfl ?_
          refine RegV.noS rfl rfl ?_
          refine RegV.noS rfl rfl ?_
          refine RegV.noS rfl rfl ?_
          refine RegV.noS rfl rfl ?_
          refine RegV.p0 rfl rfl rfl ?_
          refine RegV.p0 rfl rfl rfl ?_
          refine RegV.noS rfl rfl ?_
          refine RegV.noS rfl rfl ?_
          refine RegV.noS rfl rfl ?_
          refine RegV.noS rfl rfl ?_
          refine RegV.noS rfl rfl ?_
          refine RegV.p0 rfl rfl rfl ?_
          refine RegV.p0 rfl rfl rfl ?_
          refine RegV.noS rfl rfl ?_
          refine RegV.noS rfl rfl ?_
          refine RegV.noS rfl rfl ?_
          refine RegV.noS rfl rfl ?_
          refine RegV.noS rfl rfl ?_
          refine RegV.p0 rfl rfl rfl ?_
          refine RegV.p0 rfl rfl rfl ?_
          refine RegV.noS rfl rfl ?_
          refine RegV.noS rfl rfl ?_
          refine RegV.noS rfl rfl ?_
          refine RegV.noS rfl rfl ?_
          refine RegV.noS rfl rfl ?_
          refine RegV.p0 rfl rfl rfl ?_
          refine RegV.p0 rfl rfl rfl ?_
          refine RegV.noS rfl rfl ?_
          refine RegV.noS rfl rfl ?_
          refine RegV.noS rfl rfl ?_
          refine RegV.noS rfl rfl ?_
          refine RegV.noS rfl rfl ?_
          refine RegV.p0 rfl rfl rfl ?_
          refine RegV.p0 rfl rfl rfl ?_
          refine RegV.noS rfl rfl ?_
          refine RegV.noS rfl rfl ?_
          refine RegV.noS rfl rfl ?_
          refine RegV.noS rfl rfl ?_
          refine RegV.noS rfl rfl ?_
          refine RegV.p0 rfl rfl rfl ?_
          refine RegV.p0 rfl rfl rfl ?_
          refine RegV.noS rfl rfl ?_
          refine RegV.noS rfl rfl ?_
          refine RegV.noS rfl rfl ?_
          refine RegV.noS rfl rfl ?_
          refine RegV.noS rfl rfl ?_
          refine RegV.p0 rfl rfl rfl ?_
          refine RegV.p0 rfl rfl rfl ?_
          refine RegV.nil0 ?_
          have hr := Option.some.inj h
          subst hr
          exact AWc.ret (canQ (N := 80) (k := 0) (l' := [(4, (.d (.bool false)))]) (H' := []) rfl ⟨rfl, [], [], rfl, rfl, ⟨⟨_, rfl, (.refl _)⟩, rfl, trivial⟩,  trivial⟩ (doneA (.inr rfl) rfl ⟨trivial, trivial⟩ (.refl _) hasNil))
      · have h := cond_neg c29 h
        refine RegV.noS rfl rfl ?_
        refine RegV.noS rfl rfl ?_
        refine RegV.noS rfl rfl ?_
        refine RegV.noS rfl rfl ?_
        refine RegV.noS rfl rfl ?_
        refine RegV.p0 rfl rfl rfl ?_
        refine RegV.p0 rfl rfl rfl ?_
        refine RegV.noS rfl rfl ?_
        refine RegV.noS rfl rfl ?_
        refine RegV.noS rfl rfl ?_
        refine RegV.noS rfl rfl ?_
        refine RegV.noS rfl rfl ?_
        refine RegV.p0 rfl rfl rfl ?_
        refine RegV.p0 rfl rfl rfl ?_
        refine RegV.noS rfl rfl ?_
        refine RegV.noS rfl rfl ?_
        refine RegV.noS rfl rfl ?_
        refine RegV.noS rfl rfl ?_
        refine RegV.noS rfl rfl ?_
        refine RegV.p0 rfl rfl rfl ?_
        refine RegV.p0 rfl rfl rfl ?_
        refine RegV.noS rfl rfl ?_
        refine RegV.noS rfl rfl ?_
        refine RegV.noS rfl rfl ?_
        refine RegV.noS rfl rfl ?_
        refine RegV.noS rfl rfl ?_
        refine RegV.p0 rfl rfl rfl ?_
        refine RegV.p0 rfl rfl rfl ?_
        refine RegV.noS rfl rfl ?_
        refine RegV.noS rfl rfl ?_
        refine RegV.noS rfl rfl ?_
        refine RegV.noS rfl rfl ?_
        refine RegV.noS rfl rfl ?_
        refine RegV.p0 rfl rfl rfl ?_
        refine RegV.p0 rfl rfl rfl ?_
        refine RegV.noS rfl rfl ?_
        refine RegV.noS rfl rfl ?_
        refine RegV.noS rfl rfl ?_
        refine RegV.noS rfl rfl ?_
        refine RegV.noS rfl rfl ?_
        refine RegV.p0 rfl rfl rfl ?_
        refine RegV.p0 rfl rfl rfl ?_
        refine RegV.noS rfl rfl ?_
        refine RegV.noS rfl rfl ?_
        refine RegV.noS rfl rfl ?_
        refine RegV.noS rfl rfl ?_
        refine RegV.noS rfl rfl ?_
        refine RegV.p0 rfl rfl rfl ?_
        refine RegV.p0 rfl rfl rfl ?_
        refine RegV.noS rfl rfl ?_
        refine RegV.noS rfl rfl ?_
        refine RegV.noS rfl rfl ?_
        refine RegV.noS rfl rfl ?_
        refine RegV.noS rfl rfl ?_
        refine RegV.p0 rfl rfl rfl ?_
        refine RegV.p0 rfl rfl rfl ?_
        refine RegV.nil0 ?_
        have hr := Option.some.inj h
        subst hr
        exact AWc.ret (canQ (N := 80) (k := 0) (l' := [(4, (.d (.bool false)))]) (H' := []) rfl ⟨rfl, [], [], rfl, rfl, ⟨⟨_, rfl, (.refl _)⟩, rfl, trivial⟩,  trivial⟩ (doneA (.inr rfl) rfl ⟨trivial, trivial⟩ (.refl _) hasNil))
    · have h := cond_neg c22 h
      refine RegV.noS rfl rfl ?_
      refine RegV.noS rfl rfl ?_
      refine RegV.noS rfl rfl ?_
      refine RegV.noS rfl rfl ?_
      refine RegV.noS rfl rfl ?_
      refine RegV.p0 rfl rfl rfl ?_
      refine RegV.p0 rfl rfl rfl ?_
      refine RegV.noS rfl rfl ?_
      refine RegV.noS rfl rfl ?_
      refine RegV.noS rfl rfl ?_
      refine RegV.noS rfl rfl ?_
      refine RegV.noS rfl rfl ?_
      refine RegV.p0 rfl rfl rfl ?_
      refine RegV.p0 rfl rfl rfl ?_
      refine RegV.noS rfl rfl ?_
      refine RegV.noS rfl rfl ?_
      refine RegV.noS rfl rfl ?_
      refine RegV.noS rfl rfl ?_
      refine RegV.noS rfl rfl ?_
      refine RegV.p0 rfl rfl rfl ?_
      refine RegV.p0 rfl rfl rfl ?_
      refine RegV.noS rfl rfl ?_
      refine RegV.noS rfl rfl ?_
      refine RegV.noS rfl rfl ?_
      refine RegV.noS rfl rfl ?_
      refine RegV.noS rfl rfl ?_
      refine RegV.p0 rfl rfl rfl ?_
      refine RegV.p0 rfl rfl rfl ?_
      refine RegV.noS rfl rfl ?_
      refine RegV.noS rfl rfl ?_
      refine RegV.noS rfl rfl ?_
      refine RegV.noS rfl rfl ?_
      refine RegV.noS rfl rfl ?_
      refine RegV.p0 rfl rfl rfl ?_
      refine RegV.p0 rfl rfl rfl ?_
      refine RegV.noS rfl rfl ?_
      refine RegV.noS rfl rfl ?_
      refine RegV.noS rfl rfl ?_
      refine RegV.noS rfl rfl ?_
      refine RegV.noS rfl rfl ?_
      refine RegV.p0 rfl rfl rfl ?_
      refine RegV.p0 rfl rfl rfl ?_
      refine RegV.noS rfl rfl ?_
      refine RegV.noS rfl rfl ?_
      refine RegV.noS rfl rfl ?_
      refine RegV.noS rfl rfl ?_
      refine RegV.noS rfl rfl ?_
      refine RegV.p0 rfl rfl rfl ?_
      refine RegV.p0 rfl rfl rfl ?_
      refine RegV.noS rfl rfl ?_
      refine RegV.noS rfl rfl ?_
      refine RegV.noS rfl rfl ?_
      refine RegV.noS rfl rfl ?_
      refine RegV.noS rfl rfl ?_
      refine RegV.p0 rfl rfl rfl ?_
      refine RegV.p0 rfl rfl rfl ?_
      refine RegV.noS rfl rfl ?_
      refine RegV.noS rfl rfl ?_
      refine RegV.noS rfl rfl ?_
      refine RegV.noS rfl rfl ?_
      refine RegV.noS rfl rfl ?_
      refine RegV.p0 rfl rfl rfl ?_
      refine RegV.p0 rfl rfl rfl ?_
      refine RegV.nil0 ?_
      have hr := Option.some.inj h
      subst hr
      exact AWc.ret (canQ (N := 80) (k := 0) (l' := [(4, (.d (.bool false)))]) (H' := []) rfl ⟨rfl, [], [], rfl, rfl, ⟨⟨_, rfl, (.refl _)⟩, rfl, trivial⟩,  trivial⟩ (doneA (.inr rfl) rfl ⟨trivial, trivial⟩ (.refl _) hasNil))
  · have h := cond_neg c15 h
    refine RegV.noS rfl rfl ?_
    refine RegV.noS rfl rfl ?_
    refine RegV.noS rfl rfl ?_
    refine RegV.noS rfl rfl ?_
    refine RegV.noS rfl rfl ?_
    refine RegV.p0 rfl rfl rfl ?_
    refine RegV.p0 rfl rfl rfl ?_
    refine RegV.noS rfl rfl ?_
    refine RegV.noS rfl rfl ?_
    refine RegV.noS rfl rfl ?_
    refine RegV.noS rfl rfl ?_
    refine RegV.noS rfl rfl ?_
    refine RegV.p0 rfl rfl rfl ?_
    refine RegV.p0 rfl rfl rfl ?_
    refine RegV.noS rfl rfl ?_
    refine RegV.noS rfl rfl ?_
    refine RegV.noS rfl rfl ?_
    refine RegV.noS rfl rfl ?_
    refine RegV.noS rfl rfl ?_
    refine RegV.p0 rfl rfl rfl ?_
    refine RegV.p0 rfl rfl rfl ?_
    refine RegV.noS rfl rfl ?_
    refine RegV.noS rfl rfl ?_
    refine RegV.noS rfl rfl ?_
    refine RegV.noS rfl rfl ?_
    refine RegV.noS rfl rfl ?_
    refine RegV.p0 rfl rfl rfl ?_
    refine RegV.p0 rfl rfl rfl ?_
    refine RegV.noS rfl rfl ?_
    refine RegV.noS rfl rfl ?_
    refine RegV.noS rfl rfl ?_
    refine RegV.noS rfl rfl ?_
    refine RegV.noS rfl rfl ?_
    refine RegV.p0 rfl rfl rfl ?_
    refine RegV.p0 rfl rfl rfl ?_
    refine RegV.noS rfl rfl ?_
    refine RegV.noS rfl rfl ?_
    refine RegV.noS rfl rfl ?_
    refine RegV.noS rfl rfl ?_
    refine RegV.noS rfl rfl ?_
    refine RegV.p0 rfl rfl rfl ?_
    refine RegV.p0 rfl rfl rfl ?_
    refine RegV.noS rfl rfl ?_
    refine RegV.noS rfl rfl ?_
    refine RegV.noS rfl rfl ?_
    refine RegV.noS rfl rfl ?_
    refine RegV.noS rfl rfl ?_
    refine RegV.p0 rfl rfl rfl ?_
    refine RegV.p0 rfl rfl rfl ?_
    refine RegV.noS rfl rfl ?_
    refine RegV.noS rfl rfl ?_
    refine RegV.noS rfl rfl ?_
    refine RegV.noS rfl rfl ?_
    refine RegV.noS rfl rfl ?_
    refine RegV.p0 rfl rfl rfl ?_
    refine RegV.p0 rfl rfl rfl ?_
    refine RegV.noS rfl rfl ?_
    refine RegV.noS rfl rfl ?_
    refine RegV.noS rfl rfl ?_
    refine RegV.noS rfl rfl ?_
    refine RegV.noS rfl rfl ?_
    refine RegV.p0 rfl rfl rfl ?_
    refine RegV.p0 rfl rfl rfl ?_
    refine RegV.noS rfl rfl ?_
    refine RegV.noS rfl rfl ?_
    refine RegV.noS rfl rfl ?_
    refine RegV.noS rfl rfl ?_
    refine RegV.noS rfl rfl ?_
    refine RegV.p0 rfl rfl rfl ?_
    refine RegV.p0 rfl rfl rfl ?_
    refine RegV.nil0 ?_
    have hr := Option.some.inj h
    subst hr
    exact AWc.ret (canQ (N := 80) (k := 0) (l' := [(4, (.d (.bool false)))]) (H' := []) rfl ⟨rfl, [], [], rfl, rfl, ⟨⟨_, rfl, (.refl _)⟩, rfl, trivial⟩,  trivial⟩ (doneA (.inr rfl) rfl ⟨trivial, trivial⟩ (.refl _) hasNil))
/-- courant/couranthelp.Message -/
def C38 (N : Nat → Nat) : AFunc := { n := 38, params := 2, res := [.tmp 4], body :=
 (.seq (.region false [⟨(some 2), .box (.t 0), none, []⟩,
   ⟨(some 3), .box (.t 1), none, []⟩,
   ⟨(some 4), .mv (.k (.d (.bool false))), none, []⟩])
  (.seq (.region false [⟨(some 5), .faddr (.t 2) 0, none, []⟩,
    ⟨(some 6), .load (.t 5) 1 false, none, [0]⟩,
    ⟨(some 7), .faddr (.t 3) 0, none, []⟩,
    ⟨(some 8), .load (.t 7) 1 false, none, [2]⟩,
    ⟨(some 9), .bin .eql (.t 6) (.t 8), none, [1, 3]⟩,
    ⟨(some 10), .mv (.t 9), none, [4]⟩,
    ⟨(some 11), .faddr (.t 2) 1, (some (10, true)), [5]⟩,
    ⟨(some 12), .load (.t 11) 1 false, (some (10, true)), [6, 5]⟩,
    ⟨(some 13), .faddr (.t 3) 1, (some (10, true)), [5]⟩,
    ⟨(some 14), .load (.t 13) 1 false, (some (10, true)), [8, 5]⟩,
    ⟨(some 15), .bin .eql (.t 12) (.t 14), (some (10, true)), [7, 9, 5]⟩,
    ⟨(some 16), .pick (.t 10) (.t 15) (.k (.d (.bool false))), none, [5, 10]⟩,
    ⟨(some 17), .mv (.t 16), none, [11, 5]⟩,
    ⟨(some 18), .faddr (.t 2) 2, (some (17, true)), [12]⟩,
    ⟨(some 19), .load (.t 18) 1 false, (some (17, true)), [13, 12]⟩,
    ⟨(some 20), .faddr (.t 3) 2, (some (17, true)), [12]⟩,
    ⟨(some 21), .load (.t 20) 1 false, (some (17, true)), [15, 12]⟩,
    ⟨(some 22), .bin .eql (.t 19) (.t 21), (some (17, true)), [14, 16, 12]⟩,
    ⟨(some 23), .pick (.t 17) (.t 22) (.k (.d (.bool false))), none, [12, 17]⟩,
    ⟨(some 24), .mv (.t 23), none, [18, 12]⟩,
    ⟨(some 25), .faddr (.t 2) 3, (some (24, true)), [19]⟩,
    ⟨(some 26), .load (.t 25) 1 false, (some (24, true)), [20, 19]⟩,
    ⟨(some 27), .faddr (.t 3) 3, (some (24, true)), [19]⟩,
    ⟨(some 28), .load (.t 27) 1 false, (some (24, true)), [22, 19]⟩,
    ⟨(some 29), .bin .eql (.t 26) (.t 28), (some (24, true)), [21, 23, 19]⟩,
    ⟨(some 30), .pick (.t 24) (.t 29) (.k (.d (.bool false))), none, [19, 24]⟩,
    ⟨(some 31), .mv (.t 30), none, [25, 19]⟩,
    ⟨(some 32), .faddr (.t 2) 4, (some (31, true)), [26]⟩,
    ⟨(some 33), .load (.t 32) 1 false, (some (31, true)), [27, 26]⟩,
    ⟨(some 34), .faddr (.t 3) 4, (some (31, true)), [26]⟩,
    ⟨(some 35), .load (.t 34) 1 false, (some (31, true)), [29, 26]⟩,
    ⟨(some 36), .call (.k (.d (.fn (N 22)))) [(.t 33), (.t 35)], (some (31, true)), [28, 30, 26]⟩,
    ⟨(some 37), .pick (.t 31) (.t 36) (.k (.d (.bool false))), none, [26, 31]⟩,
    ⟨(some 4), .mv (.t 37), none, [32, 31, 0, 1, 2, 3, 4, 5, 6, 7, 8, 9, 10, 11, 12, 13, 14, 15, 16, 17, 18, 19, 20, 21, 22, 23, 24, 25, 26, 27, 28, 29, 30]⟩])
   .ret)) }
def HC38 (P : Program) (N : Nat → Nat) : Prop := HasF P (N 38) (C38 N) ∧ HC22 P N
def f38 (k : Nat) (a0 : TMessage) (a1 : TMessage) : Option Bool := cond (decide (a0.fOffset = a1.fOffset)) (cond (decide (a0.fProducer = a1.fProducer)) (cond (decide (a0.fSeq = a1.fSeq)) (cond (decide (a0.fVersion = a1.fVersion)) ((f22 k a0.fData a1.fData).bind fun r41 => some (decide (a0.fData = a1.fData))) (some false)) (some false)) (some false)) (some false)
theorem F38 {P : Program} {N : Nat → Nat} (hmix : P.follows .mixedOrders = true) (hc : HC38 P N) {k : Nat} {a0 : TMessage} {a1 : TMessage} {r : Bool} (h : f38 k a0 a1 = some r) :
    ACalls P (N 38) [(.d (TMessage.enc a0)), (.d (TMessage.enc a1))] [] (.d (.bool r)) [] := by
  refine acalls_canon (F := C38 N) hc.1 0 0 rfl ?_
  unfold f38 at h
  dsimp only [C38, startL]
  refine AWc.seq ?_
  refine AWc.rg hmix rfl rfl ?_
  refine RegV.evS (own := false) (v := (.ptr 0 0)) (H' := [(0, (.cells [(.d (.int .u64 a0.fOffset)), (.d (.int .u64 a0.fProducer)), (.d (.int .u64 a0.fSeq)), (.d (.int .i64 a0.fVersion)), (.d (.sl (List.map byteD a0.fData)))]))]) (c' := 1) rfl rfl trivial rfl rfl rfl rfl rfl rfl ?_
  refine RegV.evS (own := false) (v := (.ptr 1 0)) (H' := [(1, (.cells [(.d (.int .u64 a1.fOffset)), (.d (.int .u64 a1.fProducer)), (.d (.int .u64 a1.fSeq)), (.d (.int .i64 a1.fVersion)), (.d (.sl (List.map byteD a1.fData)))])), (0, (.cells [(.d (.int .u64 a0.fOffset)), (.d (.int .u64 a0.fProducer)), (.d (.int .u64 a0.fSeq)), (.d (.int .i64 a0.fVersion)), (.d (.sl (List.map byteD a0.fData)))]))]) (c' := 2) rfl rfl trivial rfl rfl rfl rfl rfl rfl ?_
  refine RegV.p0 rfl rfl rfl ?_
  refine RegV.nil0 ?_
  refine AWc.seq ?_
  refine AWc.rg hmix rfl rfl ?_
  refine RegV.p0 (v := (.ptr 0 0)) rfl rfl rfl ?_
  refine RegV.ld (v := (.d (.int .u64 a0.fOffset))) (H' := [(0, (.cells [(.d (.int .u64 a0.fOffset)), (.d (.int .u64 a0.fProducer)), (.d (.int .u64 a0.fSeq)), (.d (.int .i64 a0.fVersion)), (.d (.sl (List.map byteD a0.fData)))])), (1, (.cells [(.d (.int .u64 a1.fOffset)), (.d (.int .u64 a1.fProducer)), (.d (.int .u64 a1.fSeq)), (.d (.int .i64 a1.fVersion)), (.d (.sl (List.map byteD a1.fData)))]))]) rfl rfl trivial rfl rfl rfl rfl rfl ?_
  refine RegV.p0 (v := (.ptr 1 0)) rfl rfl rfl ?_
  refine RegV.ld (v := (.d (.int .u64 a1.fOffset))) (H' := [(1, (.cells [(.d (.int .u64 a1.fOffset)), (.d (.int .u64 a1.fProducer)), (.d (.int .u64 a1.fSeq)), (.d (.int .i64 a1.fVersion)), (.d (.sl (List.map byteD a1.fData)))])), (0, (.cells [(.d (.int .u64 a0.fOffset)), (.d (.int .u64 a0.fProducer)), (.d (.int .u64 a0.fSeq)), (.d (.int .i64 a0.fVersion)), (.d (.sl (List.map byteD a0.fData)))]))]) rfl rfl trivial rfl rfl rfl rfl rfl ?_
  refine RegV.p0 (v := (.d (.bool (decide (a0.fOffset = a1.fOffset))))) rfl rfl rfl ?_
  refine RegV.p0 rfl rfl rfl ?_
  refine RegV.split (fun c15 => ?_) (fun c15 => ?_)
  · have h := cond_pos c15 h
    refine RegV.p0 (v := (.ptr 0 1)) rfl rfl rfl ?_
    refine RegV.ld (v := (.d (.int .u64 a0.fProducer))) (H' := [(0, (.cells [(.d (.int .u64 a0.fOffset)), (.d (.int .u64 a0.fProducer)), (.d (.int .u64 a0.fSeq)), (.d (.int .i64 a0.fVersion)), (.d (.sl (List.map byteD a0.fData)))])), (1, (.cells [(.d (.int .u64 a1.fOffset)), (.d (.int .u64 a1.fProducer)), (.d (.int .u64 a1.fSeq)), (.d (.int .i64 a1.fVersion)), (.d (.sl (List.map byteD a1.fData)))]))]) rfl rfl trivial rfl rfl rfl rfl rfl ?_
    refine RegV.p0 (v := (.ptr 1 1)) rfl rfl rfl ?_
    refine RegV.ld (v := (.d (.int .u64 a1.fProducer))) (H' := [(1, (.cells [(.d (.int .u64 a1.fOffset)), (.d (.int .u64 a1.fProducer)), (.d (.int .u64 a1.fSeq)), (.d (.int .i64 a1.fVersion)), (.d (.sl (List.map byteD a1.fData)))])), (0, (.cells [(.d (.int .u64 a0.fOffset)), (.d (.int .u64 a0.fProducer)), (.d (.int .u64 a0.fSeq)), (.d (.int .i64 a0.fVersion)), (.d (.sl (List.map byteD a0.fData)))]))]) rfl rfl trivial rfl rfl rfl rfl rfl ?_
    refine RegV.p0 (v := (.d (.bool (decide (a0.fProducer = a1.fProducer))))) rfl rfl rfl ?_
    refine RegV.p0 rfl rfl rfl ?_
    refine RegV.p0 rfl rfl rfl ?_
    refine RegV.split (fun c22 => ?_) (fun c22 => ?_)
    · have h := cond_pos c22 h
      refine RegV.p0 (v := (.ptr 0 2)) rfl rfl rfl ?_
      refine RegV.ld (v := (.d (.int .u64 a0.fSeq))) (H' := [(0, (.cells [(.d (.int .u64 a0.fOffset)), (.d (.int .u64 a0.fProducer)), (.d (.int .u64 a0.fSeq)), (.d (.int .i64 a0.fVersion)), (.d (.sl (List.map byteD a0.fData)))])), (1, (.cells [(.d (.int .u64 a1.fOffset)), (.d (.int .u64 a1.fProducer)), (.d (.int .u64 a1.fSeq)), (.d (.int .i64 a1.fVersion)), (.d (.sl (List.map byteD a1.fData)))]))]) rfl rfl trivial rfl rfl rfl rfl rfl ?_
      refine RegV.p0 (v := (.ptr 1 2)) rfl rfl rfl ?_
      refine RegV.ld (v := (.d (.int .u64 a1.fSeq))) (H' := [(1, (.cells [(.d (.int .u64 a1.fOffset)), (.d (.int .u64 a1.fProducer)), (.d (.int .u64 a1.fSeq)), (.d (.int .i64 a1.fVersion)), (.d (.sl (List.map byteD a1.fData)))])), (0, (.cells [(.d (.int .u64 a0.fOffset)), (.d (.int .u64 a0.fProducer)), (.d (.int .u64 a0.fSeq)), (.d (.int .i64 a0.fVersion)), (.d (.sl (List.map byteD a0.fData)))]))]) rfl rfl trivial rfl rfl rfl rfl rfl ?_
      refine RegV.p0 (v := (.d (.bool (decide (a0.fSeq = a1.fSeq))))) rfl rfl rfl ?_
      refine RegV.p0 rfl rfl rfl ?_
      refine RegV.p0 rfl rfl rfl ?_
      refine RegV.split (fun c29 => ?_) (fun c29 => ?_)
      · have h := cond_pos c29 h
        refine RegV.p0 (v := (.ptr 0 3)) rfl rfl rfl ?_
        refine RegV.ld (v := (.d (.int .i64 a0.fVersion))) (H' := [(0, (.cells [(.d (.int .u64 a0.fOffset)), (.d (.int .u64 a0.fProducer)), (.d (.int .u64 a0.fSeq)), (.d (.int .i64 a0.fVersion)), (.d (.sl (List.map byteD a0.fData)))])), (1, (.cells [(.d (.int .u64 a1.fOffset)), (.d (.int .u64 a1.fProducer)), (.d (.int .u64 a1.fSeq)), (.d (.int .i64 a1.fVersion)), (.d (.sl (List.map byteD a1.fData)))]))]) rfl rfl trivial rfl rfl rfl rfl rfl ?_
        refine RegV.p0 (v := (.ptr 1 3)) rfl rfl rfl ?_
        refine RegV.ld (v := (.d (.int .i64 a1.fVersion))) (H' := [(1, (.cells [(.d (.int .u64 a1.fOffset)), (.d (.int .u64 a1.fProducer)), (.d (.int .u64 a1.fSeq)), (.d (.int .i64 a1.fVersion)), (.d (.sl (List.map byteD a1.fData)))])), (0, (.cells [(.d (.int .u64 a0.fOffset)), (.d (.int .u64 a0.fProducer)), (.d (.int .u64 a0.fSeq)), (.d (.int .i64 a0.fVersion)), (.d (.sl (List.map byteD a0.fData)))]))]) rfl rfl trivial rfl rfl rfl rfl rfl ?_
        refine RegV.p0 (v := (.d (.bool (decide (a0.fVersion = a1.fVersion))))) rfl rfl rfl ?_
        refine RegV.p0 rfl rfl rfl ?_
        refine RegV.p0 rfl rfl rfl ?_
        refine RegV.split (fun c36 => ?_) (fun c36 => ?_)
        · have h := cond_pos c36 h
          refine RegV.p0 (v := (.ptr 0 4)) rfl rfl rfl ?_
          refine RegV.ld (v := (.d (.sl (List.map byteD a0.fData)))) (H' := [(0, (.cells [(.d (.int .u64 a0.fOffset)), (.d (.int .u64 a0.fProducer)), (.d (.int .u64 a0.fSeq)), (.d (.int .i64 a0.fVersion)), (.d (.sl (List.map byteD a0.fData)))])), (1, (.cells [(.d (.int .u64 a1.fOffset)), (.d (.int .u64 a1.fProducer)), (.d (.int .u64 a1.fSeq)), (.d (.int .i64 a1.fVersion)), (.d (.sl (List.map byteD a1.fData)))]))]) rfl rfl trivial rfl rfl rfl rfl rfl ?_
          refine RegV.p0 (v := (.ptr 1 4)) rfl rfl rfl ?_
          refine RegV.ld (v := (.d (.sl (List.map byteD a1.fData)))) (H' := [(1, (.cells [(.d (.int .u64 a1.fOffset)), (.d (.int .u64 a1.fProducer)), (.d (.int .u64 a1.fSeq)), (.d (.int .i64 a1.fVersion)), (.d (.sl (List.map byteD a1.fData)))])), (0, (.cells [(.d (.int .u64 a0.fOffset)), (.d (.int .u64 a0.fProducer)), (.d (.int .u64 a0.fSeq)), (.d (.int .i64 a0.fVersion)), (.d (.sl (List.map byteD a0.fData)))]))]) rfl rfl trivial rfl rfl rfl rfl rfl ?_
          obtain ⟨r41, e41, h⟩ := bind_some h
          refine RegV.call0 (F22 hmix hc.2 e41) rfl rfl rfl rfl (.cons (.refl _) (.cons (.refl _) .nil)) rfl ?_
          refine RegV.p0 rfl rfl rfl ?_
          refine RegV.p0 rfl rfl rfl ?_
          refine RegV.nil0 ?_
          have hr := Option.some.inj h
          subst hr
          exact AWc.ret (canQ (N := 38) (k := 0) (l' := [(4, (.d (.bool (decide (a0.fData = a1.fData)))))]) (H' := []) rfl ⟨rfl, [], [], rfl, rfl, ⟨⟨_, rfl, (.refl _)⟩, rfl, trivial⟩,  trivial⟩ (doneA (.inr rfl) rfl ⟨trivial, trivial⟩ (.refl _) hasNil))
        · have h := cond_neg c36 h
          refine RegV.noS rfl rfl ?_
          refine RegV.noS rfl rfl ?_
          refine RegV.noS rfl rfl ?_
          refine RegV.noS rfl rfl ?_
          refine RegV.noS rfl rfl ?_
          refine RegV.p0 rfl rfl rfl ?_
          refine RegV.p0 rfl rfl rfl ?_
          refine RegV.nil0 ?_
          have hr := Option.some.inj h
          subst hr
          exact AWc.ret (canQ (N := 38) (k := 0) (l' := [(4, (.d (.bool false)))]) (H' := []) rfl ⟨rfl, [], [], rfl, rfl, ⟨⟨_, rfl, (.refl _)⟩, rfl, trivial⟩,  trivial⟩ (doneA (.inr rfl) rfl ⟨trivial, trivial⟩ (.refl _) hasNil))
      · have h := cond_neg c29 h
        refine RegV.noS rfl rfl ?_
        refine RegV.noS rfl rfl ?_
        refine RegV.noS rfl rfl ?_
        refine RegV.noS rfl rfl ?_
        refine RegV.noS rfl rfl ?_
        refine RegV.p0 rfl rfl rfl ?_
        refine RegV.p0 rfl rfl rfl ?_
        refine RegV.noS rfl rfl ?_
        refine RegV.noS rfl rfl ?_
        refine RegV.noS rfl rfl ?_
        refine RegV.noS rfl rfl ?_
        refine RegV.noS rfl rfl ?_
        refine RegV.p0 rfl rfl rfl ?_
        refine RegV.p0 rfl rfl rfl ?_
        refine RegV.nil0 ?_
        have hr := Option.some.inj h
        subst hr
        exact AWc.ret (canQ (N := 38) (k := 0) (l' := [(4, (.d (.bool false)))]) (H' := []) rfl ⟨rfl, [], [], rfl, rfl, ⟨⟨_, rfl, (.refl _)⟩, rfl, trivial⟩,  trivial⟩ (doneA (.inr rfl) rfl ⟨trivial, trivial⟩ (.refl _) hasNil))
    · have h := cond_neg c22 h
      refine RegV.noS rfl rfl ?_
      refine RegV.noS rfl rfl ?_
      refine RegV.noS rfl rfl ?_
      refine RegV.noS rfl rfl ?_
      refine RegV.noS rfl rfl ?_
      refine RegV.p0 rfl rfl rfl ?_
      refine RegV.p0 rfl rfl rfl ?_
      refine RegV.noS rfl rfl ?_
      refine RegV.noS rfl rfl ?_
      refine RegV.noS rfl rfl ?_
      refine RegV.noS rfl rfl ?_
      refine RegV.noS rfl rfl ?_
      refine RegV.p0 rfl rfl rfl ?_
      refine RegV.p0 rfl rfl rfl ?_
      refine RegV.noS rfl rfl ?_
      refine RegV.noS rfl rfl ?_
      refine RegV.noS rfl rfl ?_
      refine RegV.noS rfl rfl ?_
      refine RegV.noS rfl rfl ?_
      refine RegV.p0 rfl rfl rfl ?_
      refine RegV.p0 rfl rfl rfl ?_
      refine RegV.nil0 ?_
      have hr := Option.some.inj h
      subst hr
      exact AWc.ret (canQ (N := 38) (k := 0) (l' := [(4, (.d (.bool false)))]) (H' := []) rfl ⟨rfl, [], [], rfl, rfl, ⟨⟨_, rfl, (.refl _)⟩, rfl, trivial⟩,  trivial⟩ (doneA (.inr rfl) rfl ⟨trivial, trivial⟩ (.refl _) hasNil))
  · have h := cond_neg c15 h
    refine RegV.noS rfl rfl ?_
    refine RegV.noS rfl rfl ?_
    refine RegV.noS rfl rfl ?_
    refine RegV.noS rfl rfl ?_
    refine RegV.noS rfl rfl ?_
    refine RegV.p0 rfl rfl rfl ?_
    refine RegV.p0 rfl rfl rfl ?_
    refine RegV.noS rfl rfl ?_
    refine RegV.noS rfl rfl ?_
    refine RegV.noS rfl rfl ?_
    refine RegV.noS rfl rfl ?_
    refine RegV.noS rfl rfl ?_
    refine RegV.p0 rfl rfl rfl ?_
    refine RegV.p0 rfl rfl rfl ?_
    refine RegV.noS rfl rfl ?_
    refine RegV.noS rfl rfl ?_
    refine RegV.noS rfl rfl ?_
    refine RegV.noS rfl rfl ?_
    refine RegV.noS rfl rfl ?_
    refine RegV.p0 rfl rfl rfl ?_
    refine RegV.p0 rfl rfl rfl ?_
    refine RegV.noS rfl rfl ?_
    refine RegV.noS rfl rfl ?_
    refine RegV.noS rfl rfl ?_
    refine RegV.noS rfl rfl ?_
    refine RegV.noS rfl rfl ?_
    refine RegV.p0 rfl rfl rfl ?_
    refine RegV.p0 rfl rfl rfl ?_
    refine RegV.nil0 ?_
    have hr := Option.some.inj h
    subst hr
    exact AWc.ret (canQ (N := 38) (k := 0) (l' := [(4, (.d (.bool false)))]) (H' := []) rfl ⟨rfl, [], [], rfl, rfl, ⟨⟨_, rfl, (.refl _)⟩, rfl, trivial⟩,  trivial⟩ (doneA (.inr rfl) rfl ⟨trivial, trivial⟩ (.refl _) hasNil))
/-- courant/couranthelp.Same[courant/api.Message] -/
def C68 (N : Nat → Nat) : AFunc := { n := 30, params := 3, res := [.tmp 6], body :=
 (.seq (.region false [⟨(some 6), .mv (.k (.d (.bool false))), none, []⟩])
  (.seq (.seq (.region false [⟨(some 8), .mv (.t 0), none, []⟩,
     ⟨(some 9), .len (.t 8), none, [0]⟩,
     ⟨(some 10), .mv (.t 1), none, []⟩,
     ⟨(some 11), .len (.t 10), none, [2]⟩,
     ⟨(some 12), .bin .neq (.t 9) (.t 11), none, [1, 3]⟩])
    (.cond (.t 12) (.seq (.region false [⟨(some 6), .mv (.k (.d (.bool false))), none, []⟩])
      .ret)
     (.skip)))
   (.seq (.seq (.region false [⟨(some 7), .mv (.k (.d (.int .i64 0))), none, []⟩])
     (.block 0 (.loop (.seq (.seq (.region false [⟨(some 13), .mv (.t 7), none, []⟩,
          ⟨(some 14), .mv (.t 0), none, []⟩,
          ⟨(some 15), .len (.t 14), none, [1]⟩,
          ⟨(some 16), .bin .lss (.t 13) (.t 15), none, [0, 2]⟩])
         (.cond (.t 16) (.skip)
          (.exit 0)))
        (.seq (.block 1 (.seq (.region true [⟨(some 19), .mv (.t 2), none, []⟩,
            ⟨(some 20), .mv (.t 0), none, []⟩,
            ⟨(some 21), .mv (.t 7), none, []⟩,
            ⟨(some 22), .iaddr (.t 20) (.t 21) 5, none, [1, 2]⟩,
            ⟨(some 23), .load (.t 22) 5 true, none, [3]⟩,
            ⟨(some 24), .mv (.t 1), none, []⟩,
            ⟨(some 25), .mv (.t 7), none, []⟩,
            ⟨(some 26), .iaddr (.t 24) (.t 25) 5, none, [5, 6]⟩,
            ⟨(some 27), .load (.t 26) 5 true, none, [7]⟩,
            ⟨(some 28), .call (.t 19) [(.t 23), (.t 27)], none, [0, 4, 8]⟩,
            ⟨(some 29), .un .not (.t 28), none, [9]⟩])
           (.cond (.t 29) (.seq (.region false [⟨(some 6), .mv (.k (.d (.bool false))), none, []⟩])
             .ret)
            (.skip))))
         (.region false [⟨(some 17), .mv (.t 7), none, []⟩,
          ⟨(some 18), .bin .add (.t 17) (.k (.d (.int .i64 1))), none, [0]⟩,
          ⟨(some 7), .mv (.t 18), none, [1, 0]⟩]))))))
    (.seq (.region false [⟨(some 6), .mv (.k (.d (.bool true))), none, []⟩])
     .ret)))) }
def HC68 (P : Program) (N : Nat → Nat) : Prop := HasF P (N 68) (C68 N) ∧ HC38 P N
def f68_l26 (a0 : (List TMessage)) (a1 : (List TMessage)) : Nat → Int → Option (LR2 Unit Unit Bool)
  | 0, _ => none
  | k + 1, y26_1 => cond (decide (y26_1 < ((a0.length : Nat) : Int))) (gd (0 ≤ y26_1 ∧ y26_1 < ((a0.length : Nat) : Int)) (gd (0 ≤ y26_1 ∧ y26_1 < ((a1.length : Nat) : Int)) ((f38 k (rd a0 y26_1) (rd a1 y26_1)).bind fun r53 => cond (!r53) (some (.r false)) (f68_l26 a0 a1 k (IntKind.i64.wrap (y26_1 + (1 : Int))))))) (some (.b0 ()))
def f68 (k : Nat) (a0 : (List TMessage)) (a1 : (List TMessage)) : Option Bool := cond (decide (((a0.length : Nat) : Int) ≠ ((a1.length : Nat) : Int))) (some false) ((f68_l26 a0 a1 k (0 : Int)).bind fun o26 => match o26 with | .b0 () => some true | .r x => some x | _ => none)
theorem F68 {P : Program} {N : Nat → Nat} (hmix : P.follows .mixedOrders = true) (hc : HC68 P N) {k : Nat} {a0 : (List TMessage)} {a1 : (List TMessage)} {r : Bool} (h : f68 k a0 a1 = some r) :
    ACalls P (N 68) [(.d (.sl (List.map TMessage.enc a0))), (.d (.sl (List.map TMessage.enc a1))), (.d (.fn (N 38)))] [] (.d (.bool r)) [] := by
  refine acalls_canon (F := C68 N) hc.1 0 0 rfl ?_
  unfold f68 at h
  dsimp only [C68, startL]
  refine AWc.seq ?_
  refine AWc.rg hmix rfl rfl ?_
  refine RegV.p0 rfl rfl rfl ?_
  refine RegV.nil0 ?_
  refine AWc.seq ?_
  refine AWc.seq ?_
  refine AWc.rg hmix rfl rfl ?_
  refine RegV.p0 rfl rfl rfl ?_
  refine RegV.len (xs := a0) (e := TMessage.enc) rfl rfl rfl rfl ?_
  refine RegV.p0 rfl rfl rfl ?_
  refine RegV.len (xs := a1) (e := TMessage.enc) rfl rfl rfl rfl ?_
  refine RegV.p0 (v := (.d (.bool (decide (((a0.length : Nat) : Int) ≠ ((a1.length : Nat) : Int)))))) rfl rfl rfl ?_
  refine RegV.nil0 ?_
  refine AWc.cond rfl (fun c14 => ?_) (fun c14 => ?_)
  · have h := cond_pos c14 h
    refine AWc.seq ?_
    refine AWc.rg hmix rfl rfl ?_
    refine RegV.p0 rfl rfl rfl ?_
    refine RegV.nil0 ?_
    have hr := Option.some.inj h
    subst hr
    exact AWc.ret (canQ (N := 30) (k := 0) (l' := [(6, (.d (.bool false)))]) (H' := []) rfl ⟨rfl, [], [], rfl, rfl, ⟨⟨_, rfl, (.refl _)⟩, rfl, trivial⟩,  trivial⟩ (doneA (.inr rfl) rfl ⟨trivial, trivial⟩ (.refl _) hasNil))
  · have h := cond_neg c14 h
    refine AWc.skip ?_
    refine AWc.seq ?_
    refine AWc.seq ?_
    refine AWc.rg hmix rfl rfl ?_
    refine RegV.p0 rfl rfl rfl ?_
    refine RegV.nil0 ?_
    obtain ⟨o26, h26, h⟩ := bind_some h
    refine AWc.block ?_
    refine AWc.loopK (N := 30) 0 (fun (x : Int) => [(0, (.d (.sl (List.map TMessage.enc a0)))), (1, (.d (.sl (List.map TMessage.enc a1)))), (2, (.d (.fn (N 38)))), (7, (.d (.int .i64 x)))]) (fun x => []) (fun k x => f68_l26 a0 a1 k x = some o26) k (0 : Int) rfl_le (fun x hx => by cases hx) h26 ⟨rfl, [], [], rfl, rfl, ⟨⟨_, rfl, (.refl _)⟩, rfl, ⟨⟨_, rfl, (.refl _)⟩, rfl, ⟨⟨_, rfl, (.refl _)⟩, rfl, ⟨⟨_, rfl, (.refl _)⟩, rfl, trivial⟩⟩⟩⟩,  trivial⟩ ?_
    clear h26
    intro k
    intro y26_1 h26
    rw [f68_l26] at h26
    refine AWc.seq ?_
    refine AWc.seq ?_
    refine AWc.rg hmix rfl rfl ?_
    refine RegV.p0 rfl rfl rfl ?_
    refine RegV.p0 rfl rfl rfl ?_
    refine RegV.len (xs := a0) (e := TMessage.enc) rfl rfl rfl rfl ?_
    refine RegV.p0 (v := (.d (.bool (decide (y26_1 < ((a0.length : Nat) : Int)))))) rfl rfl rfl ?_
    refine RegV.nil0 ?_
    refine AWc.cond rfl (fun c36 => ?_) (fun c36 => ?_)
    · have h26 := cond_pos c36 h26
      refine AWc.skip ?_
      refine AWc.seq ?_
      refine AWc.block ?_
      refine AWc.seq ?_
      refine AWc.rg hmix rfl rfl ?_
      refine RegV.p0 rfl rfl rfl ?_
      refine RegV.p0 rfl rfl rfl ?_
      refine RegV.p0 rfl rfl rfl ?_
      obtain ⟨b47, h26⟩ := gd_some h26
      refine RegV.iad (xs := a0) (e := TMessage.enc) rfl rfl rfl rfl (fun _ => rfl) b47 rfl ?_
      refine RegV.p1 (v := (.d (TMessage.enc (rd a0 y26_1)))) rfl rfl rfl rfl rfl ?_
      refine RegV.p0 rfl rfl rfl ?_
      refine RegV.p0 rfl rfl rfl ?_
      obtain ⟨b51, h26⟩ := gd_some h26
      refine RegV.iad (xs := a1) (e := TMessage.enc) rfl rfl rfl rfl (fun _ => rfl) b51 rfl ?_
      refine RegV.p1 (v := (.d (TMessage.enc (rd a1 y26_1)))) rfl rfl rfl rfl rfl ?_
      obtain ⟨r53, e53, h26⟩ := bind_some h26
      refine RegV.call0 (F38 hmix hc.2 e53) rfl rfl rfl rfl (.cons (.refl _) (.cons (.refl _) .nil)) rfl ?_
      refine RegV.p0 (v := (.d (.bool (!r53)))) rfl rfl rfl ?_
      refine RegV.nil1 (by kernel_rfl) ?_
      refine AWc.cond rfl (fun c55 => ?_) (fun c55 => ?_)
      · have h26 := cond_pos c55 h26
        refine AWc.seq ?_
        refine AWc.rg hmix rfl rfl ?_
        refine RegV.p0 rfl rfl rfl ?_
        refine RegV.nil0 ?_
        cases h26
        dsimp only at h
        have hr := Option.some.inj h
        subst hr
        exact AWc.ret (canQ (N := 30) (k := 0) (l' := [(6, (.d (.bool false)))]) (H' := []) rfl ⟨rfl, [], [], rfl, rfl, ⟨⟨_, rfl, (.refl _)⟩, rfl, trivial⟩,  trivial⟩ (doneA (.inr rfl) rfl ⟨trivial, trivial⟩ (.refl _) hasNil))
      · have h26 := cond_neg c55 h26
        refine AWc.skip ?_
        refine AWc.rg hmix rfl rfl ?_
        refine RegV.p0 rfl rfl rfl ?_
        refine RegV.p0 (v := (.d (.int .i64 (IntKind.i64.wrap (y26_1 + (1 : Int)))))) rfl rfl rfl ?_
        refine RegV.p0 rfl rfl rfl ?_
        refine RegV.nil0 ?_
        exact ⟨(IntKind.i64.wrap (y26_1 + (1 : Int))), h26, ⟨rfl, [], [], rfl, rfl, ⟨⟨_, rfl, (.refl _)⟩, rfl, ⟨⟨_, rfl, (.refl _)⟩, rfl, ⟨⟨_, rfl, (.refl _)⟩, rfl, ⟨⟨_, rfl, (.refl _)⟩, rfl, trivial⟩⟩⟩⟩,  trivial⟩⟩
    · have h26 := cond_neg c36 h26
      cases h26
      dsimp only at h
      refine AWc.exit ?_
      refine inBlk_eq ?_
      refine AWc.seq ?_
      refine AWc.rg hmix rfl rfl ?_
      refine RegV.p0 rfl rfl rfl ?_
      refine RegV.nil0 ?_
      have hr := Option.some.inj h
      subst hr
      exact AWc.ret (canQ (N := 30) (k := 0) (l' := [(6, (.d (.bool true)))]) (H' := []) rfl ⟨rfl, [], [], rfl, rfl, ⟨⟨_, rfl, (.refl _)⟩, rfl, trivial⟩,  trivial⟩ (doneA (.inr rfl) rfl ⟨trivial, trivial⟩ (.refl _) hasNil))
/-- courant/couranthelp.Reply -/
def C67 (N : Nat → Nat) : AFunc := { n := 45, params := 2, res := [.tmp 4], body :=
 (.seq (.region false [⟨(some 2), .box (.t 0), none, []⟩,
   ⟨(some 3), .box (.t 1), none, []⟩,
   ⟨(some 4), .mv (.k (.d (.bool false))), none, []⟩])
  (.seq (.region false [⟨(some 5), .faddr (.t 2) 0, none, []⟩,
    ⟨(some 6), .load (.t 5) 1 false, none, [0]⟩,
    ⟨(some 7), .faddr (.t 3) 0, none, []⟩,
    ⟨(some 8), .load (.t 7) 1 false, none, [2]⟩,
    ⟨(some 9), .bin .eql (.t 6) (.t 8), none, [1, 3]⟩,
    ⟨(some 10), .mv (.t 9), none, [4]⟩,
    ⟨(some 11), .faddr (.t 2) 1, (some (10, true)), [5]⟩,
    ⟨(some 12), .load (.t 11) 1 false, (some (10, true)), [6, 5]⟩,
    ⟨(some 13), .faddr (.t 3) 1, (some (10, true)), [5]⟩,
    ⟨(some 14), .load (.t 13) 1 false, (some (10, true)), [8, 5]⟩,
    ⟨(some 15), .bin .eql (.t 12) (.t 14), (some (10, true)), [7, 9, 5]⟩,
    ⟨(some 16), .pick (.t 10) (.t 15) (.k (.d (.bool false))), none, [5, 10]⟩,
    ⟨(some 17), .mv (.t 16), none, [11, 5]⟩,
    ⟨(some 18), .faddr (.t 2) 2, (some (17, true)), [12]⟩,
    ⟨(some 19), .load (.t 18) 1 false, (some (17, true)), [13, 12]⟩,
    ⟨(some 20), .faddr (.t 3) 2, (some (17, true)), [12]⟩,
    ⟨(some 21), .load (.t 20) 1 false, (some (17, true)), [15, 12]⟩,
    ⟨(some 22), .bin .eql (.t 19) (.t 21), (some (17, true)), [14, 16, 12]⟩,
    ⟨(some 23), .pick (.t 17) (.t 22) (.k (.d (.bool false))), none, [12, 17]⟩,
    ⟨(some 24), .mv (.t 23), none, [18, 12]⟩,
    ⟨(some 25), .faddr (.t 2) 3, (some (24, true)), [19]⟩,
    ⟨(some 26), .load (.t 25) 1 false, (some (24, true)), [20, 19]⟩,
    ⟨(some 27), .faddr (.t 3) 3, (some (24, true)), [19]⟩,
    ⟨(some 28), .load (.t 27) 1 false, (some (24, true)), [22, 19]⟩,
    ⟨(some 29), .bin .eql (.t 26) (.t 28), (some (24, true)), [21, 23, 19]⟩,
    ⟨(some 30), .pick (.t 24) (.t 29) (.k (.d (.bool false))), none, [19, 24]⟩,
    ⟨(some 31), .mv (.t 30), none, [25, 19]⟩,
    ⟨(some 32), .faddr (.t 2) 4, (some (31, true)), [26]⟩,
    ⟨(some 33), .load (.t 32) 1 false, (some (31, true)), [27, 26]⟩,
    ⟨(some 34), .faddr (.t 3) 4, (some (31, true)), [26]⟩,
    ⟨(some 35), .load (.t 34) 1 false, (some (31, true)), [29, 26]⟩,
    ⟨(some 36), .bin .eql (.t 33) (.t 35), (some (31, true)), [28, 30, 26]⟩,
    ⟨(some 37), .pick (.t 31) (.t 36) (.k (.d (.bool false))), none, [26, 31]⟩,
    ⟨(some 38), .mv (.t 37), none, [32, 26]⟩,
    ⟨(some 39), .faddr (.t 2) 5, (some (38, true)), [33]⟩,
    ⟨(some 40), .load (.t 39) 1 false, (some (38, true)), [34, 33]⟩,
    ⟨(some 41), .faddr (.t 3) 5, (some (38, true)), [33]⟩,
    ⟨(some 42), .load (.t 41) 1 false, (some (38, true)), [36, 33]⟩,
    ⟨(some 43), .call (.k (.d (.fn (N 68)))) [(.t 40), (.t 42), (.k (.d (.fn (N 38))))], (some (38, true)), [35, 37, 33]⟩,
    ⟨(some 44), .pick (.t 38) (.t 43) (.k (.d (.bool false))), none, [33, 38]⟩,
    ⟨(some 4), .mv (.t 44), none, [39, 38, 0, 1, 2, 3, 4, 5, 6, 7, 8, 9, 10, 11, 12, 13, 14, 15, 16, 17, 18, 19, 20, 21, 22, 23, 24, 25, 26, 27, 28, 29, 30, 31, 32, 33, 34, 35, 36, 37]⟩])
   .ret)) }
def HC67 (P : Program) (N : Nat → Nat) : Prop := HasF P (N 67) (C67 N) ∧ HC68 P N
def f67 (k : Nat) (a0 : TReply) (a1 : TReply) : Option Bool := cond (decide (a0.fErr = a1.fErr)) (cond (decide (a0.fN = a1.fN)) (cond (decide (a0.fID = a1.fID)) (cond (decide (a0.fOffset = a1.fOffset)) (cond (decide (a0.fText = a1.fText)) ((f68 k a0.fMessages a1.fMessages).bind fun r48 => some r48) (some false)) (some false)) (some false)) (some false)) (some false)
theorem F67 {P : Program} {N : Nat → Nat} (hmix : P.follows .mixedOrders = true) (hc : HC67 P N) {k : Nat} {a0 : TReply} {a1 : TReply} {r : Bool} (h : f67 k a0 a1 = some r) :
    ACalls P (N 67) [(.d (TReply.enc a0)), (.d (TReply.enc a1))] [] (.d (.bool r)) [] := by
  refine acalls_canon (F := C67 N) hc.1 0 0 rfl ?_
  unfold f67 at h
  dsimp only [C67, startL]
  refine AWc.seq ?_
  refine AWc.rg hmix rfl rfl ?_
  refine RegV.evS (own := false) (v := (.ptr 0 0)) (H' := [(0, (.cells [(.d (.int .i64 a0.fErr)), (.d (.int .i64 a0.fN)), (.d (.int .i64 a0.fID)), (.d (.int .u64 a0.fOffset)), (.d (.str a0.fText)), (.d (.sl (List.map TMessage.enc a0.fMessages)))]))]) (c' := 1) rfl rfl trivial rfl rfl rfl rfl rfl rfl ?_
  refine RegV.evS (own := false) (v := (.ptr 1 0)) (H' := [(1, (.cells [(.d (.int .i64 a1.fErr)), (.d (.int .i64 a1.fN)), (.d (.int .i64 a1.fID)), (.d (.int .u64 a1.fOffset)), (.d (.str a1.fText)), (.d (.sl (List.map TMessage.enc a1.fMessages)))])), (0, (.cells [(.d (.int .i64 a0.fErr)), (.d (.int .i64 a0.fN)), (.d (.int .i64 a0.fID)), (.d (.int .u64 a0.fOffset)), (.d (.str a0.fText)), (.d (.sl (List.map TMessage.enc a0.fMessages)))]))]) (c' := 2) rfl rfl trivial rfl rfl rfl rfl rfl rfl ?_
  refine RegV.p0 rfl rfl rfl ?_
  refine RegV.nil0 ?_
  refine AWc.seq ?_
  refine AWc.rg hmix rfl rfl ?_
  refine RegV.p0 (v := (.ptr 0 0)) rfl rfl rfl ?_
  refine RegV.ld (v := (.d (.int .i64 a0.fErr))) (H' := [(0, (.cells [(.d (.int .i64 a0.fErr)), (.d (.int .i64 a0.fN)), (.d (.int .i64 a0.fID)), (.d (.int .u64 a0.fOffset)), (.d (.str a0.fText)), (.d (.sl (List.map TMessage.enc a0.fMessages)))])), (1, (.cells [(.d (.int .i64 a1.fErr)), (.d (.int .i64 a1.fN)), (.d (.int .i64 a1.fID)), (.d (.int .u64 a1.fOffset)), (.d (.str a1.fText)), (.d (.sl (List.map TMessage.enc a1.fMessages)))]))]) rfl rfl trivial rfl rfl rfl rfl rfl ?_
  refine RegV.p0 (v := (.ptr 1 0)) rfl rfl rfl ?_
  refine RegV.ld (v := (.d (.int .i64 a1.fErr))) (H' := [(1, (.cells [(.d (.int .i64 a1.fErr)), (.d (.int .i64 a1.fN)), (.d (.int .i64 a1.fID)), (.d (.int .u64 a1.fOffset)), (.d (.str a1.fText)), (.d (.sl (List.map TMessage.enc a1.fMessages)))])), (0, (.cells [(.d (.int .i64 a0.fErr)), (.d (.int .i64 a0.fN)), (.d (.int .i64 a0.fID)), (.d (.int .u64 a0.fOffset)), (.d (.str a0.fText)), (.d (.sl (List.map TMessage.enc a0.fMessages)))]))]) rfl rfl trivial rfl rfl rfl rfl rfl ?_
  refine RegV.p0 (v := (.d (.bool (decide (a0.fErr = a1.fErr))))) rfl rfl rfl ?_
  refine RegV.p0 rfl rfl rfl ?_
  refine RegV.split (fun c15 => ?_) (fun c15 => ?_)
  · have h := cond_pos c15 h
    refine RegV.p0 (v := (.ptr 0 1)) rfl rfl rfl ?_
    refine RegV.ld (v := (.d (.int .i64 a0.fN))) (H' := [(0, (.cells [(.d (.int .i64 a0.fErr)), (.d (.int .i64 a0.fN)), (.d (.int .i64 a0.fID)), (.d (.int .u64 a0.fOffset)), (.d (.str a0.fText)), (.d (.sl (List.map TMessage.enc a0.fMessages)))])), (1, (.cells [(.d (.int .i64 a1.fErr)), (.d (.int .i64 a1.fN)), (.d (.int .i64 a1.fID)), (.d (.int .u64 a1.fOffset)), (.d (.str a1.fText)), (.d (.sl (List.map TMessage.enc a1.fMessages)))]))]) rfl rfl trivial rfl rfl rfl rfl rfl ?_
    refine RegV.p0 (v := (.ptr 1 1)) rfl rfl rfl ?_
    refine RegV.ld (v := (.d (.int .i64 a1.fN))) (H' := [(1, (.cells [(.d (.int .i64 a1.fErr)), (.d (.int .i64 a1.fN)), (.d (.int .i64 a1.fID)), (.d (.int .u64 a1.fOffset)), (.d (.str a1.fText)), (.d (.sl (List.map TMessage.enc a1.fMessages)))])), (0, (.cells [(.d (.int .i64 a0.fErr)), (.d (.int .i64 a0.fN)), (.d (.int .i64 a0.fID)), (.d (.int .u64 a0.fOffset)), (.d (.str a0.fText)), (.d (.sl (List.map TMessage.enc a0.fMessages)))]))]) rfl rfl trivial rfl rfl rfl rfl rfl ?_
    refine RegV.p0 (v := (.d (.bool (decide (a0.fN = a1.fN))))) rfl rfl rfl ?_
    refine RegV.p0 rfl rfl rfl ?_
    refine RegV.p0 rfl rfl rfl ?_
    refine RegV.split (fun c22 => ?_) (fun c22 => ?_)
    · have h := cond_pos c22 h
      refine RegV.p0 (v := (.ptr 0 2)) rfl rfl rfl ?_
      refine RegV.ld (v := (.d (.int .i64 a0.fID))) (H' := [(0, (.cells [(.d (.int .i64 a0.fErr)), (.d (.int .i64 a0.fN)), (.d (.int .i64 a0.fID)), (.d (.int .u64 a0.fOffset)), (.d (.str a0.fText)), (.d (.sl (List.map TMessage.enc a0.fMessages)))])), (1, (.cells [(.d (.int .i64 a1.fErr)), (.d (.int .i64 a1.fN)), (.d (.int .i64 a1.fID)), (.d (.int .u64 a1.fOffset)), (.d (.str a1.fText)), (.d (.sl (List.map TMessage.enc a1.fMessages)))]))]) rfl rfl trivial rfl rfl rfl rfl rfl ?_
      refine RegV.p0 (v := (.ptr 1 2)) rfl rfl rfl ?_
      refine RegV.ld (v := (.d (.int .i64 a1.fID))) (H' := [(1, (.cells [(.d (.int .i64 a1.fErr)), (.d (.int .i64 a1.fN)), (.d (.int .i64 a1.fID)), (.d (.int .u64 a1.fOffset)), (.d (.str a1.fText)), (.d (.sl (List.map TMessage.enc a1.fMessages)))])), (0, (.cells [(.d (.int .i64 a0.fErr)), (.d (.int .i64 a0.fN)), (.d (.int .i64 a0.fID)), (.d (.int .u64 a0.fOffset)), (.d (.str a0.fText)), (.d (.sl (List.map TMessage.enc a0.fMessages)))]))]) rfl rfl trivial rfl rfl rfl rfl rfl ?_
      refine RegV.p0 (v := (.d (.bool (decide (a0.fID = a1.fID))))) rfl rfl rfl ?_
      refine RegV.p0 rfl rfl rfl ?_
      refine RegV.p0 rfl rfl rfl ?_
      refine RegV.split (fun c29 => ?_) (fun c29 => ?_)
      · have h := cond_pos c29 h
        refine RegV.p0 (v := (.ptr 0 3)) rfl rfl rfl ?_
        refine RegV.ld (v := (.d (.int .u64 a0.fOffset))) (H' := [(0, (.cells [(.d (.int .i64 a0.fErr)), (.d (.int .i64 a0.fN)), (.d (.int .i64 a0.fID)), (.d (.int .u64 a0.fOffset)), (.d (.str a0.fText)), (.d (.sl (List.map TMessage.enc a0.fMessages)))])), (1, (.cells [(.d (.int .i64 a1.fErr)), (.d (.int .i64 a1.fN)), (.d (.int .i64 a1.fID)), (.d (.int .u64 a1.fOffset)), (.d (.str a1.fText)), (.d (.sl (List.map TMessage.enc a1.fMessages)))]))]) rfl rfl trivial rfl rfl rfl rfl rfl ?_
        refine RegV.p0 (v := (.ptr 1 3)) rfl rfl rfl ?_
        refine RegV.ld (v := (.d (.int .u64 a1.fOffset))) (H' := [(1, (.cells [(.d (.int .i64 a1.fErr)), (.d (.int .i64 a1.fN)), (.d (.int .i64 a1.fID)), (.d (.int .u64 a1.fOffset)), (.d (.str a1.fText)), (.d (.sl (List.map TMessage.enc a1.fMessages)))])), (0, (.cells [(.d (.int .i64 a0.fErr)), (.d (.int .i64 a0.fN)), (.d (.int .i64 a0.fID)), (.d (.int .u64 a0.fOffset)), (.d (.str a0.fText)), (.d (.sl (List.map TMessage.enc a0.fMessages)))]))]) rfl rfl trivial rfl rfl rfl rfl rfl ?_
        refine RegV.p0 (v := (.d (.bool (decide (a0.fOffset = a1.fOffset))))) rfl rfl rfl ?_
        refine RegV.p0 rfl rfl rfl ?_
        refine RegV.p0 rfl rfl rfl ?_
        refine RegV.split (fun c36 => ?_) (fun c36 => ?_)
        · have h := cond_pos c36 h
          refine RegV.p0 (v := (.ptr 0 4)) rfl rfl rfl ?_
          refine RegV.ld (v := (.d (.str a0.fText))) (H' := [(0, (.cells [(.d (.int .i64 a0.fErr)), (.d (.int .i64 a0.fN)), (.d (.int .i64 a0.fID)), (.d (.int .u64 a0.fOffset)), (.d (.str a0.fText)), (.d (.sl (List.map TMessage.enc a0.fMessages)))])), (1, (.cells [(.d (.int .i64 a1.fErr)), (.d (.int .i64 a1.fN)), (.d (.int .i64 a1.fID)), (.d (.int .u64 a1.fOffset)), (.d (.str a1.fText)), (.d (.sl (List.map TMessage.enc a1.fMessages)))]))]) rfl rfl trivial rfl rfl rfl rfl rfl ?_
          refine RegV.p0 (v := (.ptr 1 4)) rfl rfl rfl ?_
          refine RegV.ld (v := (.d (.str a1.fText))) (H' := [(1, (.cells [(.d (.int .i64 a1.fErr)), (.d (.int .i64 a1.fN)), (.d (.int .i64 a1.fID)), (.d (.int .u64 a1.fOffset)), (.d (.str a1.fText)), (.d (.sl (List.map TMessage.enc a1.fMessages)))])), (0, (.cells [(.d (.int .i64 a0.fErr)), (.d (.int .i64 a0.fN)), (.d (.int .i64 a0.fID)), (.d (.int .u64 a0.fOffset)), (.d (.str a0.fText)), (.d (.sl (List.map TMessage.enc a0.fMessages)))]))]) rfl rfl trivial rfl rfl rfl rfl rfl ?_
          refine RegV.p0 (v := (.d (.bool (decide (a0.fText = a1.fText))))) rfl rfl rfl ?_
          refine RegV.p0 rfl rfl rfl ?_
          refine RegV.p0 rfl rfl rfl ?_
          refine RegV.split (fun c43 => ?_) (fun c43 => ?_)
          · have h := cond_pos c43 h
            refine RegV.p0 (v := (.ptr 0 5)) rfl rfl rfl ?_
            refine RegV.ld (v := (.d (.sl (List.map TMessage.enc a0.fMessages)))) (H' := [(0, (.cells [(.d (.int .i64 a0.fErr)), (.d (.int .i64 a0.fN)), (.d (.int .i64 a0.fID)), (.d (.int .u64 a0.fOffset)), (.d (.str a0.fText)), (.d (.sl (List.map TMessage.enc a0.fMessages)))])), (1, (.cells [(.d (.int .i64 a1.fErr)), (.d (.int .i64 a1.fN)), (.d (.int .i64 a1.fID)), (.d (.int .u64 a1.fOffset)), (.d (.str a1.fText)), (.d (.sl (List.map TMessage.enc a1.fMessages)))]))]) rfl rfl trivial rfl rfl rfl rfl rfl ?_
            refine RegV.p0 (v := (.ptr 1 5)) rfl rfl rfl ?_
            refine RegV.ld (v := (.d (.sl (List.map TMessage.enc a1.fMessages)))) (H' := [(1, (.cells [(.d (.int .i64 a1.fErr)), (.d (.int .i64 a1.fN)), (.d (.int .i64 a1.fID)), (.d (.int .u64 a1.fOffset)), (.d (.str a1.fText)), (.d (.sl (List.map TMessage.enc a1.fMessages)))])), (0, (.cells [(.d (.int .i64 a0.fErr)), (.d (.int .i64 a0.fN)), (.d (.int .i64 a0.fID)), (.d (.int .u64 a0.fOffset)), (.d (.str a0.fText)), (.d (.sl (List.map TMessage.enc a0.fMessages)))]))]) rfl rfl trivial rfl rfl rfl rfl rfl ?_
            obtain ⟨r48, e48, h⟩ := bind_some h
            refine RegV.call0 (F68 hmix hc.2 e48) rfl rfl rfl rfl (.cons (.refl _) (.cons (.refl _) (.cons (.refl _) .nil))) rfl ?_
            refine RegV.p0 rfl rfl rfl ?_
            refine RegV.p0 rfl rfl rfl ?_
            refine RegV.nil0 ?_
            have hr := Option.some.inj h
            subst hr
            exact AWc.ret (canQ (N := 45) (k := 0) (l' := [(4, (.d (.bool r48)))]) (H' := []) rfl ⟨rfl, [], [], rfl, rfl, ⟨⟨_, rfl, (.refl _)⟩, rfl, trivial⟩,  trivial⟩ (doneA (.inr rfl) rfl ⟨trivial, trivial⟩ (.refl _) hasNil))
          · have h := cond_neg c43 h
            refine RegV.noS rfl rfl ?_
            refine RegV.noS rfl rfl ?_
            refine RegV.noS rfl rfl ?_
            refine RegV.noS rfl rfl ?_
            refine RegV.noS rfl rfl ?_
            refine RegV.p0 rfl rfl rfl ?_
            refine RegV.p0 rfl rfl rfl ?_
            refine RegV.nil0 ?_
            have hr := Option.some.inj h
            subst hr
            exact AWc.ret (canQ (N := 45) (k := 0) (l' := [(4, (.d (.bool false)))]) (H' := []) rfl ⟨rfl, [], [], rfl, rfl, ⟨⟨_, rfl, (.refl _)⟩, rfl, trivial⟩,  trivial⟩ (doneA (.inr rfl) rfl ⟨trivial, trivial⟩ (.refl _) hasNil))
        · have h := cond_neg c36 h
          refine RegV.noS rfl rfl ?_
          refine RegV.noS rfl rfl ?_
          refine RegV.noS rfl rfl ?_
          refine RegV.noS rfl rfl ?_
          refine RegV.noS rfl rfl ?_
          refine RegV.p0 rfl rfl rfl ?_
          refine RegV.p0 rfl rfl rfl ?_
          refine RegV.noS rfl rfl ?_
          refine RegV.noS rfl rfl ?_
          refine RegV.noS rfl rfl ?_
          refine RegV.noS rfl rfl ?_
          refine RegV.noS rfl rfl ?_
          refine RegV.p0 rfl rfl rfl ?_
          refine RegV.p0 rfl rfl rfl ?_
          refine RegV.nil0 ?_
          have hr := Option.some.inj h
          subst hr
          exact AWc.ret (canQ (N := 45) (k := 0) (l' := [(4, (.d (.bool false)))]) (H' := []) rfl ⟨rfl, [], [], rfl, rfl, ⟨⟨_, rfl, (.refl _)⟩, rfl, trivial⟩,  trivial⟩ (doneA (.inr rfl) rfl ⟨trivial, trivial⟩ (.refl _) hasNil))
      · have h := cond_neg c29 h
        refine RegV.noS rfl rfl ?_
        refine RegV.noS rfl rfl ?_
        refine RegV.noS rfl rfl ?_
        refine RegV.noS rfl rfl ?_
        refine RegV.noS rfl rfl ?_
        refine RegV.p0 rfl rfl rfl ?_
        refine RegV.p0 rfl rfl rfl ?_
        refine RegV.noS rfl rfl ?_
        refine RegV.noS rfl rfl ?_
        refine RegV.noS rfl rfl ?_
        refine RegV.noS rfl rfl ?_
        refine RegV.noS rfl rfl ?_
        refine RegV.p0 rfl rfl rfl ?_
        refine RegV.p0 rfl rfl rfl ?_
        refine RegV.noS rfl rfl ?_
        refine RegV.noS rfl rfl ?_
        refine RegV.noS rfl rfl ?_
        refine RegV.noS rfl rfl ?_
        refine RegV.noS rfl rfl ?_
        refine RegV.p0 rfl rfl rfl ?_
        refine RegV.p0 rfl rfl rfl ?_
        refine RegV.nil0 ?_
        have hr := Option.some.inj h
        subst hr
        exact AWc.ret (canQ (N := 45) (k := 0) (l' := [(4, (.d (.bool false)))]) (H' := []) rfl ⟨rfl, [], [], rfl, rfl, ⟨⟨_, rfl, (.refl _)⟩, rfl, trivial⟩,  trivial⟩ (doneA (.inr rfl) rfl ⟨trivial, trivial⟩ (.refl _) hasNil))
    · have h := cond_neg c22 h
      refine RegV.noS rfl rfl ?_
      refine RegV.noS rfl rfl ?_
      refine RegV.noS rfl rfl ?_
      refine RegV.noS rfl rfl ?_
      refine RegV.noS rfl rfl ?_
      refine RegV.p0 rfl rfl rfl ?_
      refine RegV.p0 rfl rfl rfl ?_
      refine RegV.noS rfl rfl ?_
      refine RegV.noS rfl rfl ?_
      refine RegV.noS rfl rfl ?_
      refine RegV.noS rfl rfl ?_
      refine RegV.noS rfl rfl ?_
      refine RegV.p0 rfl rfl rfl ?_
      refine RegV.p0 rfl rfl rfl ?_
      refine RegV.noS rfl rfl ?_
      refine RegV.noS rfl rfl ?_
      refine RegV.noS rfl rfl ?_
      refine RegV.noS rfl rfl ?_
      refine RegV.noS rfl rfl ?_
      refine RegV.p0 rfl rfl rfl ?_
      refine RegV.p0 rfl rfl rfl ?_
      refine RegV.noS rfl rfl ?_
      refine RegV.noS rfl rfl ?_
      refine RegV.noS rfl rfl ?_
      refine RegV.noS rfl rfl ?_
      refine RegV.noS rfl rfl ?_
      refine RegV.p0 rfl rfl rfl ?_
      refine RegV.p0 rfl rfl rfl ?_
      refine RegV.nil0 ?_
      have hr := Option.some.inj h
      subst hr
      exact AWc.ret (canQ (N := 45) (k := 0) (l' := [(4, (.d (.bool false)))]) (H' := []) rfl ⟨rfl, [], [], rfl, rfl, ⟨⟨_, rfl, (.refl _)⟩, rfl, trivial⟩,  trivial⟩ (doneA (.inr rfl) rfl ⟨trivial, trivial⟩ (.refl _) hasNil))
  · have h := cond_neg c15 h
    refine RegV.noS rfl rfl ?_
    refine RegV.noS rfl rfl ?_
    refine RegV.noS rfl rfl ?_
    refine RegV.noS rfl rfl ?_
    refine RegV.noS rfl rfl ?_
    refine RegV.p0 rfl rfl rfl ?_
    refine RegV.p0 rfl rfl rfl ?_
    refine RegV.noS rfl rfl ?_
    refine RegV.noS rfl rfl ?_
    refine RegV.noS rfl rfl ?_
    refine RegV.noS rfl rfl ?_
    refine RegV.noS rfl rfl ?_
    refine RegV.p0 rfl rfl rfl ?_
    refine RegV.p0 rfl rfl rfl ?_
    refine RegV.noS rfl rfl ?_
    refine RegV.noS rfl rfl ?_
    refine RegV.noS rfl rfl ?_
    refine RegV.noS rfl rfl ?_
    refine RegV.noS rfl rfl ?_
    refine RegV.p0 rfl rfl rfl ?_
    refine RegV.p0 rfl rfl rfl ?_
    refine RegV.noS rfl rfl ?_
    refine RegV.noS rfl rfl ?_
    refine RegV.noS rfl rfl ?_
    refine RegV.noS rfl rfl ?_
    refine RegV.noS rfl rfl ?_
    refine RegV.p0 rfl rfl rfl ?_
    refine RegV.p0 rfl rfl rfl ?_
    refine RegV.noS rfl rfl ?_
    refine RegV.noS rfl rfl ?_
    refine RegV.noS rfl rfl ?_
    refine RegV.noS rfl rfl ?_
    refine RegV.noS rfl rfl ?_
    refine RegV.p0 rfl rfl rfl ?_
    refine RegV.p0 rfl rfl rfl ?_
    refine RegV.nil0 ?_
    have hr := Option.some.inj h
    subst hr
    exact AWc.ret (canQ (N := 45) (k := 0) (l' := [(4, (.d (.bool false)))]) (H' := []) rfl ⟨rfl, [], [], rfl, rfl, ⟨⟨_, rfl, (.refl _)⟩, rfl, trivial⟩,  trivial⟩ (doneA (.inr rfl) rfl ⟨trivial, trivial⟩ (.refl _) hasNil))
end Go.Proofs.Abs
