/- Contracts: Zig and Text. -/
import Derived.Test.YtojmpoboidomeaaAbsC1
namespace Go.Proofs.Abs
open Go
set_option linter.unusedSimpArgs false
set_option linter.unusedVariables false
def zz (a : Int) : Nat := if 0 ≤ a then (2 * a).toNat else (2 * (-(a + 1)) + 1).toNat
theorem wrap_u64 {n : Int} (h : 0 ≤ n) (h' : n < 18446744073709551616) : IntKind.u64.wrap n = n := by
  simp only [IntKind.wrap, IntKind.signed, IntKind.bits]
  simp
  omega
theorem wrap_u64_mod (n : Int) : IntKind.u64.wrap n = n % 18446744073709551616 := by
  simp only [IntKind.wrap, IntKind.signed, IntKind.bits]
  simp
theorem wrap_i64 {n : Int} (h : -9223372036854775808 ≤ n) (h' : n < 9223372036854775808) : IntKind.i64.wrap n = n := by
  simp only [IntKind.wrap, IntKind.signed, IntKind.bits]
  simp
  split <;> omega
theorem xor0 {x : Int} (h : 0 ≤ x) (h' : x < 18446744073709551616) : bitsA .xor .u64 x 0 = x := by
  obtain ⟨n, rfl⟩ := Int.eq_ofNat_of_zero_le h
  have : (BitVec.ofInt 64 (n : Int) ^^^ BitVec.ofInt 64 0).toNat = n := by
    simp
    omega
  show IntKind.u64.wrap (((BitVec.ofInt 64 (n : Int) ^^^ BitVec.ofInt 64 0).toNat : Nat) : Int) = n
  rw [this]
  exact wrap_u64 (by omega) (by omega)
theorem xor1 {x : Int} (h : 0 ≤ x) (h' : x < 18446744073709551616) : bitsA .xor .u64 x 18446744073709551615 = 18446744073709551615 - x := by
  obtain ⟨n, rfl⟩ := Int.eq_ofNat_of_zero_le h
  have e : BitVec.ofInt 64 18446744073709551615 = BitVec.allOnes 64 := by decide
  have : (BitVec.ofInt 64 (n : Int) ^^^ BitVec.ofInt 64 18446744073709551615).toNat = 18446744073709551615 - n := by
    rw [e, BitVec.xor_allOnes, BitVec.toNat_not]
    simp
    omega
  show IntKind.u64.wrap (((BitVec.ofInt 64 (n : Int) ^^^ BitVec.ofInt 64 18446744073709551615).toNat : Nat) : Int) = _
  rw [this, wrap_u64 (by omega) (by omega)]
  omega
theorem fold_eq {a : Int} (h : -9223372036854775808 ≤ a) (h' : a < 9223372036854775808) :
    bitsA .xor .u64 (IntKind.u64.wrap (IntKind.u64.wrap a * 2 ^ min (Int.toNat 1) IntKind.u64.bits)) (IntKind.u64.wrap (a.fdiv (2 ^ min (Int.toNat 63) IntKind.i64.bits))) = (zz a : Int) := by
  have p1 : (2 : Int) ^ min (Int.toNat 1) IntKind.u64.bits = 2 := rfl
  have p2 : (2 : Int) ^ min (Int.toNat 63) IntKind.i64.bits = 9223372036854775808 := rfl
  rw [p1, p2, Int.fdiv_eq_ediv_of_nonneg _ (by omega)]
  unfold zz
  split
  · have e : a / 9223372036854775808 = 0 := by omega
    rw [e, wrap_u64 (n := a) (by omega) (by omega), wrap_u64 (n := a * 2) (by omega) (by omega), wrap_u64 (n := 0) (by omega) (by omega), xor0 (by omega) (by omega)]
    omega
  · have e : a / 9223372036854775808 = -1 := by omega
    have e2 : IntKind.u64.wrap (-1) = 18446744073709551615 := by decide
    have e3 : IntKind.u64.wrap (IntKind.u64.wrap a * 2) = 2 * a + 18446744073709551616 := by rw [wrap_u64_mod, wrap_u64_mod]; omega
    rw [e, e2, e3, xor1 (by omega) (by omega)]
    omega
theorem zz_lt {a : Int} (h : -9223372036854775808 ≤ a) (h' : a < 9223372036854775808) : zz a < 18446744073709551616 := by
  unfold zz
  split <;> omega
/-- courant/code.Zig -/
def C25 (N : Nat → Nat) : AFunc := { n := 6, params := 1, res := [.tmp 2], body :=
 (.seq (.region false [⟨(some 2), .mv (.k .nils), none, []⟩])
  (.seq (.region false [⟨(some 3), .mv (.t 0), none, []⟩,
    ⟨(some 4), .call (.k (.d (.fn (N 82)))) [(.t 3)], none, [0]⟩,
    ⟨(some 5), .call (.k (.d (.fn (N 23)))) [(.t 4)], none, [1]⟩,
    ⟨(some 2), .mv (.t 5), none, [2, 0, 1]⟩])
   .ret)) }

/-- courant/courantref01.Zig -/
def C26 (N : Nat → Nat) : AFunc := { n := 16, params := 1, res := [.tmp 2], body :=
 (.seq (.region false [⟨(some 2), .mv (.k .nils), none, []⟩])
  (.seq (.seq (.region false [⟨(some 3), .mv (.t 0), none, []⟩,
     ⟨(some 4), .bin .geq (.t 3) (.k (.d (.int .i64 0))), none, [0]⟩])
    (.cond (.t 4) (.seq (.region false [⟨(some 5), .mv (.t 0), none, []⟩,
       ⟨(some 6), .cvi .u64 (.t 5), none, [0]⟩,
       ⟨(some 7), .bin .mul (.t 6) (.k (.d (.int .u64 2))), none, [1]⟩,
       ⟨(some 8), .call (.k (.d (.fn (N 24)))) [(.t 7)], none, [2]⟩,
       ⟨(some 2), .mv (.t 8), none, [3, 0, 1, 2]⟩])
      .ret)
     (.skip)))
   (.seq (.region false [⟨(some 9), .mv (.t 0), none, []⟩,
     ⟨(some 10), .bin .add (.t 9) (.k (.d (.int .i64 1))), none, [0]⟩,
     ⟨(some 11), .un .neg (.t 10), none, [1]⟩,
     ⟨(some 12), .cvi .u64 (.t 11), none, [2]⟩,
     ⟨(some 13), .bin .mul (.t 12) (.k (.d (.int .u64 2))), none, [3]⟩,
     ⟨(some 14), .bin .add (.t 13) (.k (.d (.int .u64 1))), none, [4]⟩,
     ⟨(some 15), .call (.k (.d (.fn (N 24)))) [(.t 14)], none, [5]⟩,
     ⟨(some 2), .mv (.t 15), none, [6, 0, 1, 2, 3, 4, 5]⟩])
    .ret))) }

/-- courant/code.Text -/
def C27 (N : Nat → Nat) : AFunc := { n := 8, params := 1, res := [.tmp 2], body :=
 (.seq (.region false [⟨(some 2), .mv (.k .nils), none, []⟩])
  (.seq (.region false [⟨(some 3), .mv (.t 0), none, []⟩,
    ⟨(some 4), .len (.t 3), none, [0]⟩,
    ⟨(some 5), .call (.k (.d (.fn (N 25)))) [(.t 4)], none, [1]⟩,
    ⟨(some 6), .mv (.t 0), none, []⟩,
    ⟨(some 7), .app (.t 5) (.t 6) 1 1 [(.int .u8 0)], none, [2, 3]⟩,
    ⟨(some 2), .mv (.t 7), none, [4, 0, 1, 2, 3]⟩])
   .ret)) }

/-- courant/courantref01.Text -/
def C28 (N : Nat → Nat) : AFunc := { n := 8, params := 1, res := [.tmp 2], body :=
 (.seq (.region false [⟨(some 2), .mv (.k .nils), none, []⟩])
  (.seq (.region false [⟨(some 3), .mv (.t 0), none, []⟩,
    ⟨(some 4), .len (.t 3), none, [0]⟩,
    ⟨(some 5), .call (.k (.d (.fn (N 26)))) [(.t 4)], none, [1]⟩,
    ⟨(some 6), .mv (.t 0), none, []⟩,
    ⟨(some 7), .app (.t 5) (.t 6) 1 1 [(.int .u8 0)], none, [2, 3]⟩,
    ⟨(some 2), .mv (.t 7), none, [4, 0, 1, 2, 3]⟩])
   .ret)) }

section
variable {P : Program} {N : Nat → Nat}
theorem c82 (h : HasF P (N 82) (C82 N)) (a : Int) (ha : -9223372036854775808 ≤ a) (ha' : a < 9223372036854775808) : ACalls P (N 82) [.d (.int .i64 a)] [] (.d (.int .u64 (zz a : Nat))) [] := by
  refine acalls_data h [.int .i64 a] [(0, .d (.int .i64 a))] rfl (Nat.le_of_ble_eq_true rfl) ?_
  dsimp only [C82]
  refine AWc.seq ?_
  refine AWc.run (l' := ?l1) (H' := ?h1) (n' := ?n1) (s := ?s1) [] (fun _ => false) (by omega) ?e1 ?p1 ?q1
  case e1 => simp only [runReg, gOn, evOp, evA, lk, cond_true, cond_false, Nat.beq, stepR, dstOK, newOK, topK, putL, appK, restK, hasK, addS, Option.bind_some, out, binA, toSrc, toSl, toEs, toE, toD, toDs, allAV, natListBeq, List.map_cons, List.map_nil, List.range, List.range.loop, lkH, decide_true, Nat.blt, Nat.ble, callOf, AV.scalar, D.isAgg, cellsAV, cellsAll, cells_int, cells_bool, cells_str, cells_sl, cells_agg, cells_fn, cells_nilp, cells_nilf, cells_nili, mkAgg, upd, loadA, oInt, zAV, buildF, nilEq, nilOf, nil0, nil1, nil2, mmA, mmL, zElem, Int.toNat_natCast, List.drop_zero, List.append_nil, List.cons_append, List.nil_append, Int.toNat_zero, Nat.zero_mul, Nat.mul_one, Nat.zero_add]; rfl
  case p1 => simp
  simp only [then', inBlk]
  refine AWc.seq ?_
  refine AWc.run (l' := ?l2) (H' := ?h2) (n' := ?n2) (s := ?s2) [] (fun _ => false) (by omega) ?e2 ?p2 ?q2
  case e2 => simp only [runReg, gOn, evOp, evA, lk, cond_true, cond_false, Nat.beq, stepR, dstOK, newOK, topK, putL, appK, restK, hasK, addS, Option.bind_some, out, binA, toSrc, toSl, toEs, toE, toD, toDs, allAV, natListBeq, List.map_cons, List.map_nil, List.range, List.range.loop, lkH, decide_true, Nat.blt, Nat.ble, callOf, AV.scalar, D.isAgg, cellsAV, cellsAll, cells_int, cells_bool, cells_str, cells_sl, cells_agg, cells_fn, cells_nilp, cells_nilf, cells_nili, mkAgg, upd, loadA, oInt, zAV, buildF, nilEq, nilOf, nil0, nil1, nil2, mmA, mmL, zElem, Int.toNat_natCast, List.drop_zero, List.append_nil, List.cons_append, List.nil_append, Int.toNat_zero, Nat.zero_mul, Nat.mul_one, Nat.zero_add]; rfl
  case p2 => simp
  simp only [then', inBlk]
  refine AWc.ret ⟨.inr rfl, _, _, rfl, by simp, ?_, fun x hx => hx⟩
  simp only [resV, fold_eq ha ha']
theorem c25 (h23 : HasF P (N 23) (C23 N)) (h82 : HasF P (N 82) (C82 N)) (h : HasF P (N 25) (C25 N)) (a : Int) (ha : -9223372036854775808 ≤ a) (ha' : a < 9223372036854775808) :
    ACalls P (N 25) [.d (.int .i64 a)] [] (.ap 0 1 ((leb (zz a)).map byteD)) [(0, .tok (leb (zz a)).length)] := by
  refine acalls_of_body h 0 (fun x hx => AV.lt_of (by simp at hx; subst hx; rfl)) (fun l o h => by cases h) ?_ ?_ (Nat.le_of_ble_eq_true rfl) ?_
  · exact .ap (.inr ⟨by simp [AHeap.keys], by simp [AHeap.keys]⟩)
  · intro l o hm
    simp at hm
    obtain ⟨rfl, rfl⟩ := hm
    exact ⟨.inr (by simp [AHeap.keys]), trivial⟩
  dsimp only [C25, startL]
  refine AWc.seq ?_
  refine AWc.run (l' := ?l3) (H' := ?h3) (n' := ?n3) (s := ?s3) [] (fun _ => false) (by omega) ?e3 ?p3 ?q3
  case e3 => simp only [runReg, gOn, evOp, evA, lk, cond_true, cond_false, Nat.beq, stepR, dstOK, newOK, topK, putL, appK, restK, hasK, addS, Option.bind_some, out, binA, toSrc, toSl, toEs, toE, toD, toDs, allAV, natListBeq, List.map_cons, List.map_nil, List.range, List.range.loop, lkH, decide_true, Nat.blt, Nat.ble, callOf, AV.scalar, D.isAgg, cellsAV, cellsAll, cells_int, cells_bool, cells_str, cells_sl, cells_agg, cells_fn, cells_nilp, cells_nilf, cells_nili, mkAgg, upd, loadA, oInt, zAV, buildF, nilEq, nilOf, nil0, nil1, nil2, mmA, mmL, zElem, Int.toNat_natCast, List.drop_zero, List.append_nil, List.cons_append, List.nil_append, Int.toNat_zero, Nat.zero_mul, Nat.mul_one, Nat.zero_add]; rfl
  case p3 => simp
  simp only [then', inBlk]
  refine AWc.seq ?_
  refine AWc.run (l' := ?l4) (H' := ?h4) (n' := ?n4) (s := ?s4) [⟨.d (.int .u64 (zz a : Nat)), [], []⟩, ⟨.ap 0 1 ((leb (zz a)).map byteD), [], [(0, .tok (leb (zz a)).length)]⟩] (fun _ => false) (by omega) ?e4 ?p4 ?q4
  case e4 => simp only [runReg, gOn, evOp, evA, lk, cond_true, cond_false, Nat.beq, stepR, dstOK, newOK, topK, putL, appK, restK, hasK, addS, Option.bind_some, out, binA, toSrc, toSl, toEs, toE, toD, toDs, allAV, natListBeq, List.map_cons, List.map_nil, List.range, List.range.loop, lkH, decide_true, Nat.blt, Nat.ble, callOf, AV.scalar, D.isAgg, cellsAV, cellsAll, cells_int, cells_bool, cells_str, cells_sl, cells_agg, cells_fn, cells_nilp, cells_nilf, cells_nili, mkAgg, upd, loadA, oInt, zAV, buildF, nilEq, nilOf, nil0, nil1, nil2, mmA, mmL, zElem, Int.toNat_natCast, List.drop_zero, List.append_nil, List.cons_append, List.nil_append, Int.toNat_zero, Nat.zero_mul, Nat.mul_one, Nat.zero_add]; rfl
  case p4 => simp [c82 h82 a ha ha', c23 h23 _ (zz_lt ha ha')]
  simp only [then', inBlk]
  exact AWc.ret ⟨.inr rfl, _, _, rfl, by simp, rfl, fun x hx => hx⟩
theorem c26 (h24 : HasF P (N 24) (C24 N)) (h : HasF P (N 26) (C26 N)) (a : Int) (ha : -9223372036854775808 ≤ a) (ha' : a < 9223372036854775808) :
    ACalls P (N 26) [.d (.int .i64 a)] [] (.ap 0 1 ((leb (zz a)).map byteD)) [(0, .tok (leb (zz a)).length)] := by
  refine acalls_of_body h 0 (fun x hx => AV.lt_of (by simp at hx; subst hx; rfl)) (fun l o h => by cases h) ?_ ?_ (Nat.le_of_ble_eq_true rfl) ?_
  · exact .ap (.inr ⟨by simp [AHeap.keys], by simp [AHeap.keys]⟩)
  · intro l o hm
    simp at hm
    obtain ⟨rfl, rfl⟩ := hm
    exact ⟨.inr (by simp [AHeap.keys]), trivial⟩
  dsimp only [C26, startL]
  refine AWc.seq ?_
  refine AWc.run (l' := ?l5) (H' := ?h5) (n' := ?n5) (s := ?s5) [] (fun _ => false) (by omega) ?e5 ?p5 ?q5
  case e5 => simp only [runReg, gOn, evOp, evA, lk, cond_true, cond_false, Nat.beq, stepR, dstOK, newOK, topK, putL, appK, restK, hasK, addS, Option.bind_some, out, binA, toSrc, toSl, toEs, toE, toD, toDs, allAV, natListBeq, List.map_cons, List.map_nil, List.range, List.range.loop, lkH, decide_true, Nat.blt, Nat.ble, callOf, AV.scalar, D.isAgg, cellsAV, cellsAll, cells_int, cells_bool, cells_str, cells_sl, cells_agg, cells_fn, cells_nilp, cells_nilf, cells_nili, mkAgg, upd, loadA, oInt, zAV, buildF, nilEq, nilOf, nil0, nil1, nil2, mmA, mmL, zElem, Int.toNat_natCast, List.drop_zero, List.append_nil, List.cons_append, List.nil_append, Int.toNat_zero, Nat.zero_mul, Nat.mul_one, Nat.zero_add]; rfl
  case p5 => simp
  simp only [then', inBlk]
  refine AWc.seq ?_
  refine AWc.seq ?_
  refine AWc.run (l' := ?l6) (H' := ?h6) (n' := ?n6) (s := ?s6) [] (fun _ => false) (by omega) ?e6 ?p6 ?q6
  case e6 => simp only [runReg, gOn, evOp, evA, lk, cond_true, cond_false, Nat.beq, stepR, dstOK, newOK, topK, putL, appK, restK, hasK, addS, Option.bind_some, out, binA, toSrc, toSl, toEs, toE, toD, toDs, allAV, natListBeq, List.map_cons, List.map_nil, List.range, List.range.loop, lkH, decide_true, Nat.blt, Nat.ble, callOf, AV.scalar, D.isAgg, cellsAV, cellsAll, cells_int, cells_bool, cells_str, cells_sl, cells_agg, cells_fn, cells_nilp, cells_nilf, cells_nili, mkAgg, upd, loadA, oInt, zAV, buildF, nilEq, nilOf, nil0, nil1, nil2, mmA, mmL, zElem, Int.toNat_natCast, List.drop_zero, List.append_nil, List.cons_append, List.nil_append, Int.toNat_zero, Nat.zero_mul, Nat.mul_one, Nat.zero_add]; rfl
  case p6 => simp
  simp only [then', inBlk]
  have hc24 := c24 h24 (zz a) (zz_lt ha ha')
  refine AWc.cond rfl (fun hc => ?_) (fun hc => ?_)
  · have hz : 0 ≤ a := of_decide_eq_true hc
    have e : IntKind.u64.wrap (IntKind.u64.wrap a * 2) = (zz a : Int) := by
      unfold zz
      rw [if_pos hz, wrap_u64 (n := a) (by omega) (by omega), wrap_u64 (by omega) (by omega)]
      omega
    refine AWc.seq ?_
    refine AWc.run (l' := ?l7) (H' := ?h7) (n' := ?n7) (s := ?s7) [⟨.ap 0 1 ((leb (zz a)).map byteD), [], [(0, .tok (leb (zz a)).length)]⟩] (fun _ => false) (by omega) ?e7 ?p7 ?q7
    case e7 => simp only [runReg, gOn, evOp, evA, lk, cond_true, cond_false, Nat.beq, stepR, dstOK, newOK, topK, putL, appK, restK, hasK, addS, Option.bind_some, out, binA, toSrc, toSl, toEs, toE, toD, toDs, allAV, natListBeq, List.map_cons, List.map_nil, List.range, List.range.loop, lkH, decide_true, Nat.blt, Nat.ble, callOf, AV.scalar, D.isAgg, cellsAV, cellsAll, cells_int, cells_bool, cells_str, cells_sl, cells_agg, cells_fn, cells_nilp, cells_nilf, cells_nili, mkAgg, upd, loadA, oInt, zAV, buildF, nilEq, nilOf, nil0, nil1, nil2, mmA, mmL, zElem, Int.toNat_natCast, List.drop_zero, List.append_nil, List.cons_append, List.nil_append, Int.toNat_zero, Nat.zero_mul, Nat.mul_one, Nat.zero_add]; rfl
    case p7 => simp [e, hc24]
    simp only [then', inBlk]
    exact AWc.ret ⟨.inr rfl, _, _, rfl, by simp, rfl, fun x hx => hx⟩
  · have hz : ¬ 0 ≤ a := of_decide_eq_false hc
    have e : IntKind.u64.wrap (IntKind.u64.wrap (IntKind.u64.wrap (IntKind.i64.wrap (0 - IntKind.i64.wrap (a + 1))) * 2) + 1) = (zz a : Int) := by
      unfold zz
      rw [if_neg hz, wrap_i64 (n := a + 1) (by omega) (by omega), wrap_i64 (by omega) (by omega), wrap_u64 (n := 0 - (a + 1)) (by omega) (by omega), wrap_u64 (n := (0 - (a + 1)) * 2) (by omega) (by omega), wrap_u64 (by omega) (by omega)]
      omega
    refine AWc.skip ?_
    simp only [then', inBlk]
    refine AWc.seq ?_
    refine AWc.run (l' := ?l8) (H' := ?h8) (n' := ?n8) (s := ?s8) [⟨.ap 0 1 ((leb (zz a)).map byteD), [], [(0, .tok (leb (zz a)).length)]⟩] (fun _ => false) (by omega) ?e8 ?p8 ?q8
    case e8 => simp only [runReg, gOn, evOp, evA, lk, cond_true, cond_false, Nat.beq, stepR, dstOK, newOK, topK, putL, appK, restK, hasK, addS, Option.bind_some, out, binA, toSrc, toSl, toEs, toE, toD, toDs, allAV, natListBeq, List.map_cons, List.map_nil, List.range, List.range.loop, lkH, decide_true, Nat.blt, Nat.ble, callOf, AV.scalar, D.isAgg, cellsAV, cellsAll, cells_int, cells_bool, cells_str, cells_sl, cells_agg, cells_fn, cells_nilp, cells_nilf, cells_nili, mkAgg, upd, loadA, oInt, zAV, buildF, nilEq, nilOf, nil0, nil1, nil2, mmA, mmL, zElem, Int.toNat_natCast, List.drop_zero, List.append_nil, List.cons_append, List.nil_append, Int.toNat_zero, Nat.zero_mul, Nat.mul_one, Nat.zero_add]; rfl
    case p8 => simp only [e]; simp [hc24]
    simp only [then', inBlk]
    exact AWc.ret ⟨.inr rfl, _, _, rfl, by simp, rfl, fun x hx => hx⟩
def textB (t : List UInt8) : List UInt8 := leb (zz t.length) ++ t
theorem c27 (h23 : HasF P (N 23) (C23 N)) (h82 : HasF P (N 82) (C82 N)) (h25 : HasF P (N 25) (C25 N)) (h : HasF P (N 27) (C27 N)) (t : List UInt8) (ht : t.length ≤ 140737488351232) :
    ACalls P (N 27) [.d (bytesD t)] [] (.ap 0 1 ((textB t).map byteD)) [(0, .tok (textB t).length)] := by
  refine acalls_of_body h 0 (fun x hx => AV.lt_of (by simp at hx; subst hx; rfl)) (fun l o h => by cases h) ?_ ?_ (Nat.le_of_ble_eq_true rfl) ?_
  · exact .ap (.inr ⟨by simp [AHeap.keys], by simp [AHeap.keys]⟩)
  · intro l o hm
    simp at hm
    obtain ⟨rfl, rfl⟩ := hm
    exact ⟨.inr (by simp [AHeap.keys]), trivial⟩
  dsimp only [C27, startL]
  refine AWc.seq ?_
  refine AWc.run (l' := ?l9) (H' := ?h9) (n' := ?n9) (s := ?s9) [] (fun _ => false) (by omega) ?e9 ?p9 ?q9
  case e9 => simp only [runReg, gOn, evOp, evA, lk, cond_true, cond_false, Nat.beq, stepR, dstOK, newOK, topK, putL, appK, restK, hasK, addS, Option.bind_some, out, binA, toSrc, toSl, toEs, toE, toD, toDs, allAV, natListBeq, List.map_cons, List.map_nil, List.range, List.range.loop, lkH, decide_true, Nat.blt, Nat.ble, callOf, AV.scalar, D.isAgg, cellsAV, cellsAll, cells_int, cells_bool, cells_str, cells_sl, cells_agg, cells_fn, cells_nilp, cells_nilf, cells_nili, mkAgg, upd, loadA, oInt, zAV, buildF, nilEq, nilOf, nil0, nil1, nil2, mmA, mmL, zElem, Int.toNat_natCast, List.drop_zero, List.append_nil, List.cons_append, List.nil_append, Int.toNat_zero, Nat.zero_mul, Nat.mul_one, Nat.zero_add]; rfl
  case p9 => simp
  simp only [then', inBlk]
  refine AWc.seq ?_
  have hz := zz_lt (a := t.length) (by omega) (by omega)
  have hl := leb_len10 hz
  refine AWc.run (l' := ?l10) (H' := ?h10) (n' := ?n10) (s := ?s10) [⟨.ap 0 1 ((leb (zz t.length)).map byteD), [], [(0, .tok (leb (zz t.length)).length)]⟩] (fun _ => false) (by omega) ?e10 ?p10 ?q10
  case e10 => simp only [runReg, gOn, evOp, evA, lk, cond_true, cond_false, Nat.beq, stepR, dstOK, newOK, topK, putL, appK, restK, hasK, addS, Option.bind_some, out, binA, toSrc, toSl, toEs, toE, toD, toDs, allAV, natListBeq, List.map_cons, List.map_nil, List.range, List.range.loop, lkH, decide_true, Nat.blt, Nat.ble, callOf, AV.scalar, D.isAgg, cellsAV, cellsAll, cells_int, cells_bool, cells_str, cells_sl, cells_agg, cells_fn, cells_nilp, cells_nilf, cells_nili, mkAgg, upd, loadA, oInt, zAV, buildF, nilEq, nilOf, nil0, nil1, nil2, mmA, mmL, zElem, Int.toNat_natCast, List.drop_zero, List.append_nil, List.cons_append, List.nil_append, Int.toNat_zero, Nat.zero_mul, Nat.mul_one, Nat.zero_add]; rfl
  case p10 => simp [c25 h23 h82 h25 (t.length : Int) (by omega) (by omega), D.cells, byteD]; omega
  simp only [then', inBlk]
  refine AWc.to (N := 8) (k := 1) (l' := [(2, .ap 0 1 ((textB t).map byteD))]) (H' := [(0, .tok (textB t).length)]) (Nat.zero_le _) ⟨rfl, [(0, 1)], rfl, ⟨?_, rfl, trivial⟩, ⟨?_, rfl, rfl, trivial⟩⟩ ?_
  · simp [lk, AV.ren, sub1, textB]
  · simp [lkH, sub1, AObj.ren, textB]
  · exact AWc.ret ⟨.inr rfl, _, _, rfl, by simp, rfl, fun x hx => hx⟩
theorem c28 (h24 : HasF P (N 24) (C24 N)) (h26 : HasF P (N 26) (C26 N)) (h : HasF P (N 28) (C28 N)) (t : List UInt8) (ht : t.length ≤ 140737488351232) :
    ACalls P (N 28) [.d (bytesD t)] [] (.ap 0 1 ((textB t).map byteD)) [(0, .tok (textB t).length)] := by
  refine acalls_of_body h 0 (fun x hx => AV.lt_of (by simp at hx; subst hx; rfl)) (fun l o h => by cases h) ?_ ?_ (Nat.le_of_ble_eq_true rfl) ?_
  · exact .ap (.inr ⟨by simp [AHeap.keys], by simp [AHeap.keys]⟩)
  · intro l o hm
    simp at hm
    obtain ⟨rfl, rfl⟩ := hm
    exact ⟨.inr (by simp [AHeap.keys]), trivial⟩
  dsimp only [C28, startL]
  refine AWc.seq ?_
  refine AWc.run (l' := ?l11) (H' := ?h11) (n' := ?n11) (s := ?s11) [] (fun _ => false) (by omega) ?e11 ?p11 ?q11
  case e11 => simp only [runReg, gOn, evOp, evA, lk, cond_true, cond_false, Nat.beq, stepR, dstOK, newOK, topK, putL, appK, restK, hasK, addS, Option.bind_some, out, binA, toSrc, toSl, toEs, toE, toD, toDs, allAV, natListBeq, List.map_cons, List.map_nil, List.range, List.range.loop, lkH, decide_true, Nat.blt, Nat.ble, callOf, AV.scalar, D.isAgg, cellsAV, cellsAll, cells_int, cells_bool, cells_str, cells_sl, cells_agg, cells_fn, cells_nilp, cells_nilf, cells_nili, mkAgg, upd, loadA, oInt, zAV, buildF, nilEq, nilOf, nil0, nil1, nil2, mmA, mmL, zElem, Int.toNat_natCast, List.drop_zero, List.append_nil, List.cons_append, List.nil_append, Int.toNat_zero, Nat.zero_mul, Nat.mul_one, Nat.zero_add]; rfl
  case p11 => simp
  simp only [then', inBlk]
  refine AWc.seq ?_
  have hz := zz_lt (a := t.length) (by omega) (by omega)
  have hl := leb_len10 hz
  refine AWc.run (l' := ?l12) (H' := ?h12) (n' := ?n12) (s := ?s12) [⟨.ap 0 1 ((leb (zz t.length)).map byteD), [], [(0, .tok (leb (zz t.length)).length)]⟩] (fun _ => false) (by omega) ?e12 ?p12 ?q12
  case e12 => simp only [runReg, gOn, evOp, evA, lk, cond_true, cond_false, Nat.beq, stepR, dstOK, newOK, topK, putL, appK, restK, hasK, addS, Option.bind_some, out, binA, toSrc, toSl, toEs, toE, toD, toDs, allAV, natListBeq, List.map_cons, List.map_nil, List.range, List.range.loop, lkH, decide_true, Nat.blt, Nat.ble, callOf, AV.scalar, D.isAgg, cellsAV, cellsAll, cells_int, cells_bool, cells_str, cells_sl, cells_agg, cells_fn, cells_nilp, cells_nilf, cells_nili, mkAgg, upd, loadA, oInt, zAV, buildF, nilEq, nilOf, nil0, nil1, nil2, mmA, mmL, zElem, Int.toNat_natCast, List.drop_zero, List.append_nil, List.cons_append, List.nil_append, Int.toNat_zero, Nat.zero_mul, Nat.mul_one, Nat.zero_add]; rfl
  case p12 => simp [c26 h24 h26 (t.length : Int) (by omega) (by omega), D.cells, byteD]; omega
  simp only [then', inBlk]
  refine AWc.to (N := 8) (k := 1) (l' := [(2, .ap 0 1 ((textB t).map byteD))]) (H' := [(0, .tok (textB t).length)]) (Nat.zero_le _) ⟨rfl, [(0, 1)], rfl, ⟨?_, rfl, trivial⟩, ⟨?_, rfl, rfl, trivial⟩⟩ ?_
  · simp [lk, AV.ren, sub1, textB]
  · simp [lkH, sub1, AObj.ren, textB]
  · exact AWc.ret ⟨.inr rfl, _, _, rfl, by simp, rfl, fun x hx => hx⟩
end
end Go.Proofs.Abs
