/- Contracts: what the laws' helpers do. -/
import Derived.Test.YtojmpoboidomeaaAbsC2
namespace Go.Proofs.Abs
open Go
set_option linter.unusedSimpArgs false
set_option linter.unusedVariables false
theorem at_bytes {a : List UInt8} {i : Nat} (h : i < a.length) : at' (a.map byteD) i = .int .u8 (a[i].toNat : Int) := by
  simp [at', List.getD, h, byteD]
theorem u8_inj {a b : UInt8} : ((a.toNat : Int) = (b.toNat : Int)) ↔ a = b := by
  constructor
  · intro h
    exact UInt8.toNat_inj.1 (by omega)
  · intro h; rw [h]
theorem ACalls.at {P : Program} {f : FuncId} {xs xs' : List AV} {r r' : AV} {H' H'' : AHeap} (h : ACalls P f xs [] r H') (k K : Nat) (hr : AV.ltb K r = true) (hH : (H'.all fun x => Nat.blt x.1 K && x.2.ltb K) = true)
    (e1 : xs.map (AV.ren fun l => k + l) = xs') (e2 : r.ren (fun l => k + l) = r') (e3 : H'.ren (fun l => k + l) = H'') : ACalls P f xs' [] r' H'' := by
  have := h.rename (fun l => k + l) K (fun a _ b _ he => Nat.add_left_cancel he) (AV.lt_of hr) (fun l o hm => by cases hm) (fun l o hm => by
    have := List.all_eq_true.1 hH _ hm
    simp only [Bool.and_eq_true] at this
    exact ⟨Nat.le_of_ble_eq_true this.1, AObj.lt_of this.2⟩)
  rw [e1, e2, e3] at this
  exact this
/-- courant/couranthelp.Plain[byte] -/
def C83 (N : Nat → Nat) : AFunc := { n := 8, params := 2, res := [.tmp 4], body :=
 (.seq (.region false [⟨(some 4), .mv (.k (.d (.bool false))), none, []⟩])
  (.seq (.region false [⟨(some 5), .mv (.t 0), none, []⟩,
    ⟨(some 6), .mv (.t 1), none, []⟩,
    ⟨(some 7), .call (.k (.d (.fn (N 108)))) [(.t 5), (.t 6), (.k (.d (.fn (N 109))))], none, [0, 1]⟩,
    ⟨(some 4), .mv (.t 7), none, [2, 0, 1]⟩])
   .ret)) }

/-- courant/couranthelp.Same[byte] -/
def C108 (N : Nat → Nat) : AFunc := { n := 30, params := 3, res := [.tmp 6], body :=
 (.seq (.region false [⟨(some 6), .mv (.k (.d (.bool false))), none, []⟩])
  (.seq (.seq (.region false [⟨(some 8), .mv (.t 0), none, []⟩,
     ⟨(some 9), .len (.t 8), none, [0]⟩,
     ⟨(some 10), .mv (.t 1), none, []⟩,
     ⟨(some 11), .len (.t 10), none, [2]⟩,
     ⟨(some 12), .bin .neq (.t 9) (.t 11), none, [1, 3]⟩])
    (.cond (.t 12) (.seq (.region false [⟨(some 6), .mv (.k (.d (.bool false))), none, []⟩])
      .ret)
     (.skip)))
   (.seq (.seq (.region false [⟨(some 7), .mv (.k (.d (.int .i64 0))), none, []⟩])
     (.block 0 (.loop (.seq (.seq (.region false [⟨(some 13), .mv (.t 7), none, []⟩,
          ⟨(some 14), .mv (.t 0), none, []⟩,
          ⟨(some 15), .len (.t 14), none, [1]⟩,
          ⟨(some 16), .bin .lss (.t 13) (.t 15), none, [0, 2]⟩])
         (.cond (.t 16) (.skip)
          (.exit 0)))
        (.seq (.block 1 (.seq (.region true [⟨(some 19), .mv (.t 2), none, []⟩,
            ⟨(some 20), .mv (.t 0), none, []⟩,
            ⟨(some 21), .mv (.t 7), none, []⟩,
            ⟨(some 22), .iaddr (.t 20) (.t 21) 1, none, [1, 2]⟩,
            ⟨(some 23), .load (.t 22) 1 false, none, [3]⟩,
            ⟨(some 24), .mv (.t 1), none, []⟩,
            ⟨(some 25), .mv (.t 7), none, []⟩,
            ⟨(some 26), .iaddr (.t 24) (.t 25) 1, none, [5, 6]⟩,
            ⟨(some 27), .load (.t 26) 1 false, none, [7]⟩,
            ⟨(some 28), .call (.t 19) [(.t 23), (.t 27)], none, [0, 4, 8]⟩,
            ⟨(some 29), .un .not (.t 28), none, [9]⟩])
           (.cond (.t 29) (.seq (.region false [⟨(some 6), .mv (.k (.d (.bool false))), none, []⟩])
             .ret)
            (.skip))))
         (.region false [⟨(some 17), .mv (.t 7), none, []⟩,
          ⟨(some 18), .bin .add (.t 17) (.k (.d (.int .i64 1))), none, [0]⟩,
          ⟨(some 7), .mv (.t 18), none, [1, 0]⟩]))))))
    (.seq (.region false [⟨(some 6), .mv (.k (.d (.bool true))), none, []⟩])
     .ret)))) }

/-- courant/courantlaw01.awake -/
def C20 (N : Nat → Nat) : AFunc := { n := 20, params := 0, res := [.tmp 0], body :=
 (.seq (.region false [⟨(some 0), .mv (.k (.d (.bool false))), none, []⟩])
  (.seq (.region false [⟨(some 2), .bslice 1 1 [(.int .u8 0)] [(0, (.k (.d (.int .u8 97))))], none, []⟩,
    ⟨(some 3), .bs2bs (.t 2), none, [0]⟩,
    ⟨(some 4), .call (.k (.d (.fn (N 27)))) [(.t 3)], none, [1]⟩,
    ⟨(some 1), .mv (.t 4), none, [2, 0, 1]⟩])
   (.seq (.region false [⟨(some 5), .mv (.t 1), none, []⟩,
     ⟨(some 6), .len (.t 5), none, [0]⟩,
     ⟨(some 7), .bin .eql (.t 6) (.k (.d (.int .i64 2))), none, [1]⟩,
     ⟨(some 8), .mv (.t 7), none, [2]⟩,
     ⟨(some 9), .mv (.t 1), (some (8, true)), [3]⟩,
     ⟨(some 10), .iaddr (.t 9) (.k (.d (.int .i64 0))) 1, (some (8, true)), [4, 3]⟩,
     ⟨(some 11), .load (.t 10) 1 false, (some (8, true)), [5, 3]⟩,
     ⟨(some 12), .bin .eql (.t 11) (.k (.d (.int .u8 2))), (some (8, true)), [6, 3]⟩,
     ⟨(some 13), .pick (.t 8) (.t 12) (.k (.d (.bool false))), none, [3, 7]⟩,
     ⟨(some 14), .mv (.t 13), none, [8, 3]⟩,
     ⟨(some 15), .mv (.t 1), (some (14, true)), [9]⟩,
     ⟨(some 16), .iaddr (.t 15) (.k (.d (.int .i64 1))) 1, (some (14, true)), [10, 9]⟩,
     ⟨(some 17), .load (.t 16) 1 false, (some (14, true)), [11, 9]⟩,
     ⟨(some 18), .bin .eql (.t 17) (.k (.d (.int .u8 97))), (some (14, true)), [12, 9]⟩,
     ⟨(some 19), .pick (.t 14) (.t 18) (.k (.d (.bool false))), none, [9, 13]⟩,
     ⟨(some 0), .mv (.t 19), none, [14, 9, 0, 1, 2, 3, 4, 5, 6, 7, 8, 10, 11, 12, 13]⟩])
    .ret))) }

section
variable {P : Program} {N : Nat → Nat}
theorem c108 (hmix : P.follows .mixedOrders = true) (h109 : HasF P (N 109) (C109 N)) (h : HasF P (N 108) (C108 N)) (a b : List UInt8) (ha : a.length < 9223372036854775807) :
    ACalls P (N 108) [.d (bytesD a), .d (bytesD b), .d (.fn (N 109))] [] (.d (.bool (decide (a = b)))) [] := by
  refine acalls_data h [bytesD a, bytesD b, .fn (N 109)] [(0, .d (bytesD a)), (1, .d (bytesD b)), (2, .d (.fn (N 109)))] rfl (Nat.le_of_ble_eq_true rfl) ?_
  dsimp only [C108]
  refine AWc.seq ?_
  refine AWc.run (l' := ?l1) (H' := ?h1) (n' := ?n1) (s := ?s1) [] (fun _ => false) (by omega) ?e1 ?p1 ?q1
  case e1 => simp only [runReg, gOn, evOp, evA, lk, cond_true, cond_false, Nat.beq, stepR, dstOK, newOK, topK, putL, appK, restK, hasK, addS, Option.bind_some, out, binA, toSrc, toSl, toEs, toE, toD, toDs, allAV, natListBeq, List.map_cons, List.map_nil, List.range, List.range.loop, lkH, decide_true, Nat.blt, Nat.ble, callOf, AV.scalar, D.isAgg, cellsAV, cellsAll, cells_int, cells_bool, cells_str, cells_sl, cells_agg, cells_fn, cells_nilp, cells_nilf, cells_nili, mkAgg, upd, loadA, oInt, zAV, buildF, nilEq, nilOf, nil0, nil1, nil2, mmA, mmL, zElem, Int.toNat_natCast, List.drop_zero, List.append_nil, List.cons_append, List.nil_append, Int.toNat_zero, Nat.zero_mul, Nat.mul_one, Nat.zero_add]; rfl
  case p1 => simp
  simp only [then', inBlk]
  refine AWc.seq ?_
  refine AWc.seq ?_
  refine AWc.run (l' := ?l2) (H' := ?h2) (n' := ?n2) (s := ?s2) [] (fun _ => false) (by omega) ?e2 ?p2 ?q2
  case e2 => simp only [runReg, gOn, evOp, evA, lk, cond_true, cond_false, Nat.beq, stepR, dstOK, newOK, topK, putL, appK, restK, hasK, addS, Option.bind_some, out, binA, toSrc, toSl, toEs, toE, toD, toDs, allAV, natListBeq, List.map_cons, List.map_nil, List.range, List.range.loop, lkH, decide_true, Nat.blt, Nat.ble, callOf, AV.scalar, D.isAgg, cellsAV, cellsAll, cells_int, cells_bool, cells_str, cells_sl, cells_agg, cells_fn, cells_nilp, cells_nilf, cells_nili, mkAgg, upd, loadA, oInt, zAV, buildF, nilEq, nilOf, nil0, nil1, nil2, mmA, mmL, zElem, Int.toNat_natCast, List.drop_zero, List.append_nil, List.cons_append, List.nil_append, Int.toNat_zero, Nat.zero_mul, Nat.mul_one, Nat.zero_add, List.length_map]; rfl
  case p2 => simp
  simp only [then', inBlk]
  refine AWc.cond rfl (fun hc => ?_) (fun hc => ?_)
  · have hne : a ≠ b := fun he => by rw [he] at hc; simp at hc
    refine AWc.seq ?_
    refine AWc.run (l' := ?l3) (H' := ?h3) (n' := ?n3) (s := ?s3) [] (fun _ => false) (by omega) ?e3 ?p3 ?q3
    case e3 => simp only [runReg, gOn, evOp, evA, lk, cond_true, cond_false, Nat.beq, stepR, dstOK, newOK, topK, putL, appK, restK, hasK, addS, Option.bind_some, out, binA, toSrc, toSl, toEs, toE, toD, toDs, allAV, natListBeq, List.map_cons, List.map_nil, List.range, List.range.loop, lkH, decide_true, Nat.blt, Nat.ble, callOf, AV.scalar, D.isAgg, cellsAV, cellsAll, cells_int, cells_bool, cells_str, cells_sl, cells_agg, cells_fn, cells_nilp, cells_nilf, cells_nili, mkAgg, upd, loadA, oInt, zAV, buildF, nilEq, nilOf, nil0, nil1, nil2, mmA, mmL, zElem, Int.toNat_natCast, List.drop_zero, List.append_nil, List.cons_append, List.nil_append, Int.toNat_zero, Nat.zero_mul, Nat.mul_one, Nat.zero_add]; rfl
    case p3 => simp
    simp only [then', inBlk]
    exact AWc.ret ⟨.inr rfl, _, _, rfl, by simp, by simp [resV, hne], fun x hx => hx⟩
  · have hlen : a.length = b.length := by have := of_decide_eq_false hc; omega
    refine AWc.skip ?_
    simp only [then', inBlk]
    refine AWc.seq ?_
    refine AWc.seq ?_
    refine AWc.run (l' := ?l4) (H' := ?h4) (n' := ?n4) (s := ?s4) [] (fun _ => false) (by omega) ?e4 ?p4 ?q4
    case e4 => simp only [runReg, gOn, evOp, evA, lk, cond_true, cond_false, Nat.beq, stepR, dstOK, newOK, topK, putL, appK, restK, hasK, addS, Option.bind_some, out, binA, toSrc, toSl, toEs, toE, toD, toDs, allAV, natListBeq, List.map_cons, List.map_nil, List.range, List.range.loop, lkH, decide_true, Nat.blt, Nat.ble, callOf, AV.scalar, D.isAgg, cellsAV, cellsAll, cells_int, cells_bool, cells_str, cells_sl, cells_agg, cells_fn, cells_nilp, cells_nilf, cells_nili, mkAgg, upd, loadA, oInt, zAV, buildF, nilEq, nilOf, nil0, nil1, nil2, mmA, mmL, zElem, Int.toNat_natCast, List.drop_zero, List.append_nil, List.cons_append, List.nil_append, Int.toNat_zero, Nat.zero_mul, Nat.mul_one, Nat.zero_add]; rfl
    case p4 => simp
    simp only [then', inBlk]
    refine AWc.block ?_
    refine AWc.loopC (N := 30) 0 (fun (i : Nat) => [(7, .d (.int .i64 (i : Nat))), (0, .d (bytesD a)), (1, .d (bytesD b)), (2, .d (.fn (N 109)))]) (fun _ => []) (fun i => i ≤ a.length ∧ a.take i = b.take i) (fun i => a.length - i) 0 (Nat.zero_le _)
      ⟨Nat.zero_le _, by simp⟩ ⟨rfl, [], rfl, ⟨rfl, rfl, rfl, rfl, rfl, rfl, rfl, rfl, trivial⟩, trivial⟩ ?_
    rintro i ⟨hi, hpre⟩
    refine AWc.seq ?_
    refine AWc.seq ?_
    refine AWc.run (l' := ?l5) (H' := ?h5) (n' := ?n5) (s := ?s5) [] (fun _ => false) (by omega) ?e5 ?p5 ?q5
    case e5 => simp only [runReg, gOn, evOp, evA, lk, cond_true, cond_false, Nat.beq, stepR, dstOK, newOK, topK, putL, appK, restK, hasK, addS, Option.bind_some, out, binA, toSrc, toSl, toEs, toE, toD, toDs, allAV, natListBeq, List.map_cons, List.map_nil, List.range, List.range.loop, lkH, decide_true, Nat.blt, Nat.ble, callOf, AV.scalar, D.isAgg, cellsAV, cellsAll, cells_int, cells_bool, cells_str, cells_sl, cells_agg, cells_fn, cells_nilp, cells_nilf, cells_nili, mkAgg, upd, loadA, oInt, zAV, buildF, nilEq, nilOf, nil0, nil1, nil2, mmA, mmL, zElem, Int.toNat_natCast, List.drop_zero, List.append_nil, List.cons_append, List.nil_append, Int.toNat_zero, Nat.zero_mul, Nat.mul_one, Nat.zero_add, List.length_map]; rfl
    case p5 => simp
    simp only [then', inBlk]
    refine AWc.cond rfl (fun hc => ?_) (fun hc => ?_)
    · have hia : i < a.length := by have := of_decide_eq_true hc; omega
      have hib : i < b.length := by omega
      have ea := at_bytes hia
      have eb := at_bytes hib
      refine AWc.skip ?_
      simp only [then', inBlk]
      refine AWc.seq ?_
      refine AWc.block ?_
      refine AWc.seq ?_
      refine AWc.draw (l' := ?l6) (s := ?s6) hmix [⟨.d (.bool (decide ((a[i].toNat : Int) = (b[i].toNat : Int)))), [], []⟩] (by omega) ?i6 ?d6 ?e6 ?p6 ?q6
      case i6 => rfl
      case d6 => rfl
      case e6 => simp only [runQ, addQ, pickL, usesO, slots, argsOf, Option.toList, List.append, runReg, gOn, evOp, evA, lk, cond_true, cond_false, Nat.beq, stepR, dstOK, newOK, topK, putL, appK, restK, hasK, addS, Option.bind_some, out, binA, toSrc, toSl, toEs, toE, toD, toDs, allAV, natListBeq, List.map_cons, List.map_nil, List.range, List.range.loop, lkH, decide_true, Nat.blt, Nat.ble, callOf, AV.scalar, D.isAgg, cellsAV, cellsAll, cells_int, cells_bool, cells_str, cells_sl, cells_agg, cells_fn, cells_nilp, cells_nilf, cells_nili, mkAgg, upd, loadA, oInt, zAV, buildF, nilEq, nilOf, nil0, nil1, nil2, mmA, mmL, zElem, Int.toNat_natCast, List.drop_zero, List.append_nil, List.cons_append, List.nil_append, Int.toNat_zero, Nat.zero_mul, Nat.mul_one, Nat.zero_add, ea, eb]; rfl
      case p6 => simp [ea, eb, hia, hib, D.cells, c109 h109]
      simp only [then', inBlk]
      refine AWc.cond rfl (fun hc => ?_) (fun hc => ?_)
      · have hne : a ≠ b := fun he => by subst he; simp at hc
        refine AWc.seq ?_
        refine AWc.run (l' := ?l7) (H' := ?h7) (n' := ?n7) (s := ?s7) [] (fun _ => false) (by omega) ?e7 ?p7 ?q7
        case e7 => simp only [runReg, gOn, evOp, evA, lk, cond_true, cond_false, Nat.beq, stepR, dstOK, newOK, topK, putL, appK, restK, hasK, addS, Option.bind_some, out, binA, toSrc, toSl, toEs, toE, toD, toDs, allAV, natListBeq, List.map_cons, List.map_nil, List.range, List.range.loop, lkH, decide_true, Nat.blt, Nat.ble, callOf, AV.scalar, D.isAgg, cellsAV, cellsAll, cells_int, cells_bool, cells_str, cells_sl, cells_agg, cells_fn, cells_nilp, cells_nilf, cells_nili, mkAgg, upd, loadA, oInt, zAV, buildF, nilEq, nilOf, nil0, nil1, nil2, mmA, mmL, zElem, Int.toNat_natCast, List.drop_zero, List.append_nil, List.cons_append, List.nil_append, Int.toNat_zero, Nat.zero_mul, Nat.mul_one, Nat.zero_add]; rfl
        case p7 => simp
        simp only [then', inBlk]
        exact AWc.ret ⟨.inr rfl, _, _, rfl, by simp, by simp [resV, hne], fun x hx => hx⟩
      · have he : a[i] = b[i] := by simpa [u8_inj] using hc
        refine AWc.skip ?_
        simp only [then', inBlk]
        have hw : IntKind.i64.wrap ((i : Int) + 1) = ((i + 1 : Nat) : Int) := by rw [wrap_i64 (by omega) (by omega)]; rfl
        refine AWc.run (l' := ?l8) (H' := ?h8) (n' := ?n8) (s := ?s8) [] (fun _ => false) (by omega) ?e8 ?p8 ?q8
        case e8 => simp only [runReg, gOn, evOp, evA, lk, cond_true, cond_false, Nat.beq, stepR, dstOK, newOK, topK, putL, appK, restK, hasK, addS, Option.bind_some, out, binA, toSrc, toSl, toEs, toE, toD, toDs, allAV, natListBeq, List.map_cons, List.map_nil, List.range, List.range.loop, lkH, decide_true, Nat.blt, Nat.ble, callOf, AV.scalar, D.isAgg, cellsAV, cellsAll, cells_int, cells_bool, cells_str, cells_sl, cells_agg, cells_fn, cells_nilp, cells_nilf, cells_nili, mkAgg, upd, loadA, oInt, zAV, buildF, nilEq, nilOf, nil0, nil1, nil2, mmA, mmL, zElem, Int.toNat_natCast, List.drop_zero, List.append_nil, List.cons_append, List.nil_append, Int.toNat_zero, Nat.zero_mul, Nat.mul_one, Nat.zero_add]; rfl
        case p8 => simp
        simp only [then', inBlk]
        refine ⟨i + 1, ⟨by omega, ?_⟩, ⟨rfl, [], rfl, ⟨?_, rfl, rfl, rfl, rfl, rfl, rfl, rfl, trivial⟩, trivial⟩, by omega⟩
        · rw [List.take_succ_eq_append_getElem hia, List.take_succ_eq_append_getElem hib, hpre, he]
        · simp only [lk, cond_true, cond_false, Nat.beq, AV.ren, hw]
    · have hia : ¬ i < a.length := by have := of_decide_eq_false hc; omega
      have he : a = b := by
        have e1 : a.take i = a := List.take_of_length_le (by omega)
        have e2 : b.take i = b := List.take_of_length_le (by omega)
        rw [← e1, ← e2, hpre]
      refine AWc.exit ?_
      simp only [then', inBlk, if_true]
      refine AWc.seq ?_
      refine AWc.run (l' := ?l9) (H' := ?h9) (n' := ?n9) (s := ?s9) [] (fun _ => false) (by omega) ?e9 ?p9 ?q9
      case e9 => simp only [runReg, gOn, evOp, evA, lk, cond_true, cond_false, Nat.beq, stepR, dstOK, newOK, topK, putL, appK, restK, hasK, addS, Option.bind_some, out, binA, toSrc, toSl, toEs, toE, toD, toDs, allAV, natListBeq, List.map_cons, List.map_nil, List.range, List.range.loop, lkH, decide_true, Nat.blt, Nat.ble, callOf, AV.scalar, D.isAgg, cellsAV, cellsAll, cells_int, cells_bool, cells_str, cells_sl, cells_agg, cells_fn, cells_nilp, cells_nilf, cells_nili, mkAgg, upd, loadA, oInt, zAV, buildF, nilEq, nilOf, nil0, nil1, nil2, mmA, mmL, zElem, Int.toNat_natCast, List.drop_zero, List.append_nil, List.cons_append, List.nil_append, Int.toNat_zero, Nat.zero_mul, Nat.mul_one, Nat.zero_add]; rfl
      case p9 => simp
      simp only [then', inBlk]
      exact AWc.ret ⟨.inr rfl, _, _, rfl, by simp, by simp [resV, he], fun x hx => hx⟩
theorem c83 (hmix : P.follows .mixedOrders = true) (h109 : HasF P (N 109) (C109 N)) (h108 : HasF P (N 108) (C108 N)) (h : HasF P (N 83) (C83 N)) (a b : List UInt8) (ha : a.length < 9223372036854775807) :
    ACalls P (N 83) [.d (bytesD a), .d (bytesD b)] [] (.d (.bool (decide (a = b)))) [] := by
  refine acalls_data h [bytesD a, bytesD b] [(0, .d (bytesD a)), (1, .d (bytesD b))] rfl (Nat.le_of_ble_eq_true rfl) ?_
  dsimp only [C83]
  refine AWc.seq ?_
  refine AWc.run (l' := ?l10) (H' := ?h10) (n' := ?n10) (s := ?s10) [] (fun _ => false) (by omega) ?e10 ?p10 ?q10
  case e10 => simp only [runReg, gOn, evOp, evA, lk, cond_true, cond_false, Nat.beq, stepR, dstOK, newOK, topK, putL, appK, restK, hasK, addS, Option.bind_some, out, binA, toSrc, toSl, toEs, toE, toD, toDs, allAV, natListBeq, List.map_cons, List.map_nil, List.range, List.range.loop, lkH, decide_true, Nat.blt, Nat.ble, callOf, AV.scalar, D.isAgg, cellsAV, cellsAll, cells_int, cells_bool, cells_str, cells_sl, cells_agg, cells_fn, cells_nilp, cells_nilf, cells_nili, mkAgg, upd, loadA, oInt, zAV, buildF, nilEq, nilOf, nil0, nil1, nil2, mmA, mmL, zElem, Int.toNat_natCast, List.drop_zero, List.append_nil, List.cons_append, List.nil_append, Int.toNat_zero, Nat.zero_mul, Nat.mul_one, Nat.zero_add]; rfl
  case p10 => simp
  simp only [then', inBlk]
  refine AWc.seq ?_
  refine AWc.run (l' := ?l11) (H' := ?h11) (n' := ?n11) (s := ?s11) [⟨.d (.bool (decide (a = b))), [], []⟩] (fun _ => false) (by omega) ?e11 ?p11 ?q11
  case e11 => simp only [runReg, gOn, evOp, evA, lk, cond_true, cond_false, Nat.beq, stepR, dstOK, newOK, topK, putL, appK, restK, hasK, addS, Option.bind_some, out, binA, toSrc, toSl, toEs, toE, toD, toDs, allAV, natListBeq, List.map_cons, List.map_nil, List.range, List.range.loop, lkH, decide_true, Nat.blt, Nat.ble, callOf, AV.scalar, D.isAgg, cellsAV, cellsAll, cells_int, cells_bool, cells_str, cells_sl, cells_agg, cells_fn, cells_nilp, cells_nilf, cells_nili, mkAgg, upd, loadA, oInt, zAV, buildF, nilEq, nilOf, nil0, nil1, nil2, mmA, mmL, zElem, Int.toNat_natCast, List.drop_zero, List.append_nil, List.cons_append, List.nil_append, Int.toNat_zero, Nat.zero_mul, Nat.mul_one, Nat.zero_add]; rfl
  case p11 => simp [c108 hmix h109 h108 a b ha]
  simp only [then', inBlk]
  exact AWc.ret ⟨.inr rfl, _, _, rfl, by simp, rfl, fun x hx => hx⟩
theorem c20 (h23 : HasF P (N 23) (C23 N)) (h82 : HasF P (N 82) (C82 N)) (h25 : HasF P (N 25) (C25 N)) (h27 : HasF P (N 27) (C27 N)) (h : HasF P (N 20) (C20 N)) : ACalls P (N 20) [] [] (.d (.bool true)) [] := by
  refine acalls_data h [] [] rfl (Nat.le_of_ble_eq_true rfl) ?_
  dsimp only [C20]
  have e : textB [97] = [2, 97] := by
    have : leb (zz ([97] : List UInt8).length) = [2] := by rw [leb_lt (by decide)]; rfl
    rw [textB, this]; rfl
  have ht := c27 h23 h82 h25 h27 [97] (by decide)
  rw [e] at ht
  refine AWc.seq ?_
  refine AWc.run (l' := ?l12) (H' := ?h12) (n' := ?n12) (s := ?s12) [] (fun _ => false) (by omega) ?e12 ?p12 ?q12
  case e12 => simp only [runReg, gOn, evOp, evA, lk, cond_true, cond_false, Nat.beq, stepR, dstOK, newOK, topK, putL, appK, restK, hasK, addS, Option.bind_some, out, binA, toSrc, toSl, toEs, toE, toD, toDs, allAV, natListBeq, List.map_cons, List.map_nil, List.range, List.range.loop, lkH, decide_true, Nat.blt, Nat.ble, callOf, AV.scalar, D.isAgg, cellsAV, cellsAll, cells_int, cells_bool, cells_str, cells_sl, cells_agg, cells_fn, cells_nilp, cells_nilf, cells_nili, mkAgg, upd, loadA, oInt, zAV, buildF, nilEq, nilOf, nil0, nil1, nil2, mmA, mmL, zElem, Int.toNat_natCast, List.drop_zero, List.append_nil, List.cons_append, List.nil_append, Int.toNat_zero, Nat.zero_mul, Nat.mul_one, Nat.zero_add]; rfl
  case p12 => simp
  simp only [then', inBlk]
  have ht' := ht.at 1 1 (xs' := [.d (.sl [.int .u8 97])]) (r' := .ap 1 1 [.int .u8 2, .int .u8 97]) (H'' := [(1, .tok 2)]) rfl rfl rfl rfl rfl
  refine AWc.seq ?_
  refine AWc.run (l' := ?l13) (H' := ?h13) (n' := ?n13) (s := ?s13) [⟨.ap 1 1 [.int .u8 2, .int .u8 97], [], [(1, .tok 2)]⟩] (fun k => Nat.beq k 0) (by omega) ?e13 ?p13 ?q13
  case e13 => simp only [runReg, gOn, evOp, evA, lk, cond_true, cond_false, Nat.beq, stepR, dstOK, newOK, topK, putL, appK, restK, hasK, addS, Option.bind_some, out, binA, toSrc, toSl, toEs, toE, toD, toDs, allAV, natListBeq, List.map_cons, List.map_nil, List.range, List.range.loop, lkH, decide_true, Nat.blt, Nat.ble, callOf, AV.scalar, D.isAgg, cellsAV, cellsAll, cells_int, cells_bool, cells_str, cells_sl, cells_agg, cells_fn, cells_nilp, cells_nilf, cells_nili, mkAgg, upd, loadA, oInt, zAV, buildF, nilEq, nilOf, nil0, nil1, nil2, mmA, mmL, zElem, Int.toNat_natCast, List.drop_zero, List.append_nil, List.cons_append, List.nil_append, Int.toNat_zero, Nat.zero_mul, Nat.mul_one, Nat.zero_add]; rfl
  case p13 => simp [ht', D.cells]
  simp only [then', inBlk]
  refine AWc.seq ?_
  refine AWc.run (l' := ?l14) (H' := ?h14) (n' := ?n14) (s := ?s14) [] (fun _ => false) (by omega) ?e14 ?p14 ?q14
  case e14 => simp only [runReg, gOn, evOp, evA, lk, cond_true, cond_false, Nat.beq, stepR, dstOK, newOK, topK, putL, appK, restK, hasK, addS, Option.bind_some, out, binA, toSrc, toSl, toEs, toE, toD, toDs, allAV, natListBeq, List.map_cons, List.map_nil, List.range, List.range.loop, lkH, decide_true, Nat.blt, Nat.ble, callOf, AV.scalar, D.isAgg, cellsAV, cellsAll, cells_int, cells_bool, cells_str, cells_sl, cells_agg, cells_fn, cells_nilp, cells_nilf, cells_nili, mkAgg, upd, loadA, oInt, zAV, buildF, nilEq, nilOf, nil0, nil1, nil2, mmA, mmL, zElem, Int.toNat_natCast, List.drop_zero, List.append_nil, List.cons_append, List.nil_append, Int.toNat_zero, Nat.zero_mul, Nat.mul_one, Nat.zero_add, at', List.getD_cons_zero, List.getD_cons_succ, List.length_cons, List.length_nil]; rfl
  case p14 => simp [at', D.cells]
  simp only [then', inBlk]
  exact AWc.ret ⟨.inr rfl, _, _, rfl, by simp, by simp [resV], fun x hx => by cases hx⟩
end
end Go.Proofs.Abs
