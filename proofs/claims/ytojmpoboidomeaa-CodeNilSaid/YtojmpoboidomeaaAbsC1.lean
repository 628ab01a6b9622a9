/- Contracts. -/
import Derived.Test.YtojmpoboidomeaaAbs23
namespace Go.Proofs.Abs
open Go
set_option linter.unusedSimpArgs false
set_option linter.unusedVariables false
theorem acalls_data {P : Program} {k : FuncId} {F : AFunc} (hF : HasF P k F) (xs : List D) (l : List (Nat × AV)) {r : D} (hl : startL 0 (xs.map .d) = l) (hn : xs.length ≤ F.n)
    (hb : AWc P none 0 F.body ⟨F.n, l⟩ [] 0 (Done F.res (.d r) [])) : ACalls P k (xs.map .d) [] (.d r) [] :=
  acalls_of_body hF 0 (fun x hx => by obtain ⟨d, _, rfl⟩ := List.mem_map.1 hx; exact .d) (fun l o h => by cases h) .d (fun l o h => by cases h) (by simpa using hn) (hl ▸ hb)
theorem byteOf_byteD (a : List UInt8) : (a.map byteD).map byteOf = a := by
  rw [List.map_map]
  conv => rhs; rw [← List.map_id a]
  apply List.map_congr_left
  intro x _
  simp [byteD, byteOf]
theorem isByte_all (a : List UInt8) : ∀ d ∈ a.map byteD, isByte d := by
  intro d hd
  obtain ⟨x, _, rfl⟩ := List.mem_map.1 hd
  have := x.toNat_lt
  simp only [byteD, isByte]
  omega
def leb (n : Nat) : List UInt8 := if n < 128 then [UInt8.ofNat n] else UInt8.ofNat (n % 128 + 128) :: leb (n / 128)
  termination_by n
  decreasing_by omega
theorem wrap_u8 (n : Nat) : IntKind.u8.wrap (n : Int) = ((n % 256 : Nat) : Int) := by
  simp only [IntKind.wrap, IntKind.signed, IntKind.bits]
  simp
theorem or128 (n : Nat) : bitsA .or .u8 ((n % 256 : Nat) : Int) 128 = ((n % 128 + 128 : Nat) : Int) := by
  have : ∀ x, x < 256 → bitsA .or .u8 ((x : Nat) : Int) 128 = ((x % 128 + 128 : Nat) : Int) := by decide +kernel
  rw [this _ (Nat.mod_lt _ (by omega))]
  congr 2
  omega
theorem leb_lt {n : Nat} (h : n < 128) : leb n = [UInt8.ofNat n] := by rw [leb, if_pos h]
theorem leb_ge {n : Nat} (h : ¬ n < 128) : leb n = UInt8.ofNat (n % 128 + 128) :: leb (n / 128) := by rw [leb, if_neg h]
theorem leb_len : ∀ (k n : Nat), n < 128 ^ (k + 1) → (leb n).length ≤ k + 1
  | 0, n, h => by rw [leb_lt (by simpa using h)]; simp
  | k + 1, n, h => by
    by_cases hn : n < 128
    · rw [leb_lt hn]; simp
    · rw [leb_ge hn]
      have := leb_len k (n / 128) (by rw [Nat.div_lt_iff_lt_mul (by omega)]; rw [Nat.pow_succ] at h; exact h)
      simp; omega
theorem leb_len10 {n : Nat} (h : n < 18446744073709551616) : (leb n).length ≤ 10 := leb_len 9 n (Nat.lt_of_lt_of_le h (by decide))
theorem byteD_ofNat {n : Nat} (h : n < 256) : byteD (UInt8.ofNat n) = .int .u8 (n : Int) := by
  simp only [byteD, UInt8.toNat_ofNat']
  rw [Nat.mod_eq_of_lt (by simpa using h)]
/-- courant/couranthelp.Plain[byte]$1 -/
def C109 (N : Nat → Nat) : AFunc := { n := 8, params := 2, res := [.tmp 4], body :=
 (.seq (.region false [⟨(some 4), .mv (.k (.d (.bool false))), none, []⟩])
  (.seq (.region false [⟨(some 5), .mv (.t 0), none, []⟩,
    ⟨(some 6), .mv (.t 1), none, []⟩,
    ⟨(some 7), .bin .eql (.t 5) (.t 6), none, [0, 1]⟩,
    ⟨(some 4), .mv (.t 7), none, [2, 0, 1]⟩])
   .ret)) }

/-- courant/couranthelp.Bytes -/
def C22 (N : Nat → Nat) : AFunc := { n := 10, params := 2, res := [.tmp 4], body :=
 (.seq (.region false [⟨(some 4), .mv (.k (.d (.bool false))), none, []⟩])
  (.seq (.region false [⟨(some 5), .mv (.t 0), none, []⟩,
    ⟨(some 6), .bs2s (.t 5), none, [0]⟩,
    ⟨(some 7), .mv (.t 1), none, []⟩,
    ⟨(some 8), .bs2s (.t 7), none, [2]⟩,
    ⟨(some 9), .bin .eql (.t 6) (.t 8), none, [1, 3]⟩,
    ⟨(some 4), .mv (.t 9), none, [4, 0, 1, 2, 3]⟩])
   .ret)) }

/-- courant/code.fold -/
def C82 (N : Nat → Nat) : AFunc := { n := 10, params := 1, res := [.tmp 2], body :=
 (.seq (.region false [⟨(some 2), .mv (.k (.d (.int .u64 0))), none, []⟩])
  (.seq (.region false [⟨(some 3), .mv (.t 0), none, []⟩,
    ⟨(some 4), .cvi .u64 (.t 3), none, [0]⟩,
    ⟨(some 5), .bin .shl (.t 4) (.k (.d (.int .u64 1))), none, [1]⟩,
    ⟨(some 6), .mv (.t 0), none, []⟩,
    ⟨(some 7), .bin .shr (.t 6) (.k (.d (.int .u64 63))), none, [3]⟩,
    ⟨(some 8), .cvi .u64 (.t 7), none, [4]⟩,
    ⟨(some 9), .bin .xor (.t 5) (.t 8), none, [2, 5]⟩,
    ⟨(some 2), .mv (.t 9), none, [6, 0, 1, 2, 3, 4, 5]⟩])
   .ret)) }

/-- courant/code.Num -/
def C23 (N : Nat → Nat) : AFunc := { n := 19, params := 1, res := [.tmp 2], body :=
 (.seq (.region false [⟨(some 2), .mv (.k .nils), none, []⟩])
  (.seq (.region false [⟨(some 3), .mv (.k .nils), none, []⟩])
   (.seq (.block 0 (.loop (.seq (.seq (.region false [⟨(some 4), .mv (.t 0), none, []⟩,
         ⟨(some 5), .bin .geq (.t 4) (.k (.d (.int .u64 128))), none, [0]⟩])
        (.cond (.t 5) (.skip)
         (.exit 0)))
       (.seq (.block 1 (.region false [⟨(some 8), .mv (.t 3), none, []⟩,
          ⟨(some 9), .mv (.t 0), none, []⟩,
          ⟨(some 10), .cvi .u8 (.t 9), none, [1]⟩,
          ⟨(some 11), .bin .or (.t 10) (.k (.d (.int .u8 128))), none, [2]⟩,
          ⟨(some 12), .bslice 1 1 [(.int .u8 0)] [(0, (.t 11))], none, [3]⟩,
          ⟨(some 13), .app (.t 8) (.t 12) 1 1 [(.int .u8 0)], none, [0, 4]⟩,
          ⟨(some 3), .mv (.t 13), none, [5, 0, 1, 2, 3, 4]⟩]))
        (.region false [⟨(some 6), .mv (.t 0), none, []⟩,
         ⟨(some 7), .bin .shr (.t 6) (.k (.d (.int .u64 7))), none, [0]⟩,
         ⟨(some 0), .mv (.t 7), none, [1, 0]⟩])))))
    (.seq (.region false [⟨(some 14), .mv (.t 3), none, []⟩,
      ⟨(some 15), .mv (.t 0), none, []⟩,
      ⟨(some 16), .cvi .u8 (.t 15), none, [1]⟩,
      ⟨(some 17), .bslice 1 1 [(.int .u8 0)] [(0, (.t 16))], none, [2]⟩,
      ⟨(some 18), .app (.t 14) (.t 17) 1 1 [(.int .u8 0)], none, [0, 3]⟩,
      ⟨(some 2), .mv (.t 18), none, [4, 0, 1, 2, 3]⟩])
     .ret)))) }

/-- courant/courantref01.Num -/
def C24 (N : Nat → Nat) : AFunc := { n := 20, params := 1, res := [.tmp 2], body :=
 (.seq (.region false [⟨(some 2), .mv (.k .nils), none, []⟩])
  (.seq (.region false [⟨(some 3), .mv (.k .nils), none, []⟩])
   (.seq (.block 0 (.loop (.seq (.seq (.region false [⟨(some 4), .mv (.t 0), none, []⟩,
         ⟨(some 5), .bin .geq (.t 4) (.k (.d (.int .u64 128))), none, [0]⟩])
        (.cond (.t 5) (.skip)
         (.exit 0)))
       (.block 1 (.seq (.region false [⟨(some 6), .mv (.t 3), none, []⟩,
          ⟨(some 7), .mv (.t 0), none, []⟩,
          ⟨(some 8), .bin .rem (.t 7) (.k (.d (.int .u64 128))), none, [1]⟩,
          ⟨(some 9), .cvi .u8 (.t 8), none, [2]⟩,
          ⟨(some 10), .bin .add (.t 9) (.k (.d (.int .u8 128))), none, [3]⟩,
          ⟨(some 11), .bslice 1 1 [(.int .u8 0)] [(0, (.t 10))], none, [4]⟩,
          ⟨(some 12), .app (.t 6) (.t 11) 1 1 [(.int .u8 0)], none, [0, 5]⟩,
          ⟨(some 3), .mv (.t 12), none, [6, 0, 1, 2, 3, 4, 5]⟩])
         (.region false [⟨(some 13), .mv (.t 0), none, []⟩,
          ⟨(some 14), .bin .quo (.t 13) (.k (.d (.int .u64 128))), none, [0]⟩,
          ⟨(some 0), .mv (.t 14), none, [1, 0]⟩]))))))
    (.seq (.region false [⟨(some 15), .mv (.t 3), none, []⟩,
      ⟨(some 16), .mv (.t 0), none, []⟩,
      ⟨(some 17), .cvi .u8 (.t 16), none, [1]⟩,
      ⟨(some 18), .bslice 1 1 [(.int .u8 0)] [(0, (.t 17))], none, [2]⟩,
      ⟨(some 19), .app (.t 15) (.t 18) 1 1 [(.int .u8 0)], none, [0, 3]⟩,
      ⟨(some 2), .mv (.t 19), none, [4, 0, 1, 2, 3]⟩])
     .ret)))) }

section
variable {P : Program} {N : Nat → Nat}
theorem c109 (h : HasF P (N 109) (C109 N)) (a b : Int) : ACalls P (N 109) [.d (.int .u8 a), .d (.int .u8 b)] [] (.d (.bool (decide (a = b)))) [] := by
  refine acalls_data h [.int .u8 a, .int .u8 b] [(0, .d (.int .u8 a)), (1, .d (.int .u8 b))] rfl (Nat.le_of_ble_eq_true rfl) ?_
  dsimp only [C109]
  refine AWc.seq ?_
  refine AWc.run (l' := ?l1) (H' := ?h1) (n' := ?n1) (s := ?s1) [] (fun _ => false) (by omega) ?e1 ?p1 ?q1
  case e1 => simp only [runReg, gOn, evOp, evA, lk, cond_true, cond_false, Nat.beq, stepR, dstOK, newOK, topK, putL, appK, restK, hasK, addS, Option.bind_some, out, binA, toSrc, toSl, toEs, toE, toD, toDs, allAV, natListBeq, List.map_cons, List.map_nil, List.range, List.range.loop, lkH, decide_true, Nat.blt, Nat.ble, callOf, AV.scalar, D.isAgg, cellsAV, cellsAll, cells_int, cells_bool, cells_str, cells_sl, cells_agg, cells_fn, cells_nilp, cells_nilf, cells_nili, mkAgg, upd, loadA, oInt, zAV, buildF, nilEq, nilOf, nil0, nil1, nil2, mmA, mmL, zElem, Int.toNat_natCast, List.drop_zero, List.append_nil, List.cons_append, List.nil_append, Int.toNat_zero, Nat.zero_mul, Nat.mul_one, Nat.zero_add]; rfl
  case p1 => simp
  simp only [then', inBlk]
  refine AWc.seq ?_
  refine AWc.run (l' := ?l2) (H' := ?h2) (n' := ?n2) (s := ?s2) [] (fun _ => false) (by omega) ?e2 ?p2 ?q2
  case e2 => simp only [runReg, gOn, evOp, evA, lk, cond_true, cond_false, Nat.beq, stepR, dstOK, newOK, topK, putL, appK, restK, hasK, addS, Option.bind_some, out, binA, toSrc, toSl, toEs, toE, toD, toDs, allAV, natListBeq, List.map_cons, List.map_nil, List.range, List.range.loop, lkH, decide_true, Nat.blt, Nat.ble, callOf, AV.scalar, D.isAgg, cellsAV, cellsAll, cells_int, cells_bool, cells_str, cells_sl, cells_agg, cells_fn, cells_nilp, cells_nilf, cells_nili, mkAgg, upd, loadA, oInt, zAV, buildF, nilEq, nilOf, nil0, nil1, nil2, mmA, mmL, zElem, Int.toNat_natCast, List.drop_zero, List.append_nil, List.cons_append, List.nil_append, Int.toNat_zero, Nat.zero_mul, Nat.mul_one, Nat.zero_add]; rfl
  case p2 => simp
  simp only [then', inBlk]
  refine AWc.ret ?_
  exact ⟨.inr rfl, _, _, rfl, by simp, rfl, fun x hx => hx⟩
theorem c22 (h : HasF P (N 22) (C22 N)) (a b : List UInt8) : ACalls P (N 22) [.d (bytesD a), .d (bytesD b)] [] (.d (.bool (decide (a = b)))) [] := by
  refine acalls_data h [bytesD a, bytesD b] [(0, .d (bytesD a)), (1, .d (bytesD b))] rfl (Nat.le_of_ble_eq_true rfl) ?_
  dsimp only [C22]
  refine AWc.seq ?_
  refine AWc.run (l' := ?l3) (H' := ?h3) (n' := ?n3) (s := ?s3) [] (fun _ => false) (by omega) ?e3 ?p3 ?q3
  case e3 => simp only [runReg, gOn, evOp, evA, lk, cond_true, cond_false, Nat.beq, stepR, dstOK, newOK, topK, putL, appK, restK, hasK, addS, Option.bind_some, out, binA, toSrc, toSl, toEs, toE, toD, toDs, allAV, natListBeq, List.map_cons, List.map_nil, List.range, List.range.loop, lkH, decide_true, Nat.blt, Nat.ble, callOf, AV.scalar, D.isAgg, cellsAV, cellsAll, cells_int, cells_bool, cells_str, cells_sl, cells_agg, cells_fn, cells_nilp, cells_nilf, cells_nili, mkAgg, upd, loadA, oInt, zAV, buildF, nilEq, nilOf, nil0, nil1, nil2, mmA, mmL, zElem, Int.toNat_natCast, List.drop_zero, List.append_nil, List.cons_append, List.nil_append, Int.toNat_zero, Nat.zero_mul, Nat.mul_one, Nat.zero_add]; rfl
  case p3 => simp
  simp only [then', inBlk]
  refine AWc.seq ?_
  refine AWc.run (l' := ?l4) (H' := ?h4) (n' := ?n4) (s := ?s4) [] (fun _ => false) (by omega) ?e4 ?p4 ?q4
  case e4 => simp only [runReg, gOn, evOp, evA, lk, cond_true, cond_false, Nat.beq, stepR, dstOK, newOK, topK, putL, appK, restK, hasK, addS, Option.bind_some, out, binA, toSrc, toSl, toEs, toE, toD, toDs, allAV, natListBeq, List.map_cons, List.map_nil, List.range, List.range.loop, lkH, decide_true, Nat.blt, Nat.ble, callOf, AV.scalar, D.isAgg, cellsAV, cellsAll, cells_int, cells_bool, cells_str, cells_sl, cells_agg, cells_fn, cells_nilp, cells_nilf, cells_nili, mkAgg, upd, loadA, oInt, zAV, buildF, nilEq, nilOf, nil0, nil1, nil2, mmA, mmL, zElem, Int.toNat_natCast, List.drop_zero, List.append_nil, List.cons_append, List.nil_append, Int.toNat_zero, Nat.zero_mul, Nat.mul_one, Nat.zero_add]; rfl
  case p4 => exact ⟨trivial, isByte_all _, trivial, isByte_all _, trivial, trivial, trivial⟩
  simp only [then', inBlk]
  refine AWc.ret ?_
  refine ⟨.inr rfl, _, _, rfl, by simp, ?_, fun x hx => hx⟩
  simp only [byteOf_byteD, resV]
theorem c23 (h : HasF P (N 23) (C23 N)) (u : Nat) (hu : u < 18446744073709551616) : ACalls P (N 23) [.d (.int .u64 u)] [] (.ap 0 1 ((leb u).map byteD)) [(0, .tok (leb u).length)] := by
  refine acalls_of_body h 0 (fun x hx => AV.lt_of (by simp at hx; subst hx; rfl)) (fun l o h => by cases h) ?_ ?_ (Nat.le_of_ble_eq_true rfl) ?_
  · exact .ap (.inr ⟨by simp [AHeap.keys], by simp [AHeap.keys]⟩)
  · intro l o hm
    simp at hm
    obtain ⟨rfl, rfl⟩ := hm
    exact ⟨.inr (by simp [AHeap.keys]), trivial⟩
  dsimp only [C23, startL]
  refine AWc.seq ?_
  refine AWc.run (l' := ?l5) (H' := ?h5) (n' := ?n5) (s := ?s5) [] (fun _ => false) (by omega) ?e5 ?p5 ?q5
  case e5 => simp only [runReg, gOn, evOp, evA, lk, cond_true, cond_false, Nat.beq, stepR, dstOK, newOK, topK, putL, appK, restK, hasK, addS, Option.bind_some, out, binA, toSrc, toSl, toEs, toE, toD, toDs, allAV, natListBeq, List.map_cons, List.map_nil, List.range, List.range.loop, lkH, decide_true, Nat.blt, Nat.ble, callOf, AV.scalar, D.isAgg, cellsAV, cellsAll, cells_int, cells_bool, cells_str, cells_sl, cells_agg, cells_fn, cells_nilp, cells_nilf, cells_nili, mkAgg, upd, loadA, oInt, zAV, buildF, nilEq, nilOf, nil0, nil1, nil2, mmA, mmL, zElem, Int.toNat_natCast, List.drop_zero, List.append_nil, List.cons_append, List.nil_append, Int.toNat_zero, Nat.zero_mul, Nat.mul_one, Nat.zero_add]; rfl
  case p5 => simp
  simp only [then', inBlk]
  refine AWc.seq ?_
  refine AWc.run (l' := ?l6) (H' := ?h6) (n' := ?n6) (s := ?s6) [] (fun _ => false) (by omega) ?e6 ?p6 ?q6
  case e6 => simp only [runReg, gOn, evOp, evA, lk, cond_true, cond_false, Nat.beq, stepR, dstOK, newOK, topK, putL, appK, restK, hasK, addS, Option.bind_some, out, binA, toSrc, toSl, toEs, toE, toD, toDs, allAV, natListBeq, List.map_cons, List.map_nil, List.range, List.range.loop, lkH, decide_true, Nat.blt, Nat.ble, callOf, AV.scalar, D.isAgg, cellsAV, cellsAll, cells_int, cells_bool, cells_str, cells_sl, cells_agg, cells_fn, cells_nilp, cells_nilf, cells_nili, mkAgg, upd, loadA, oInt, zAV, buildF, nilEq, nilOf, nil0, nil1, nil2, mmA, mmL, zElem, Int.toNat_natCast, List.drop_zero, List.append_nil, List.cons_append, List.nil_append, Int.toNat_zero, Nat.zero_mul, Nat.mul_one, Nat.zero_add]; rfl
  case p6 => simp
  simp only [then', inBlk]
  refine AWc.seq ?_
  refine AWc.nilap 3 1 rfl ?_ (fun x hx => by cases hx)
  refine AWc.block ?_
  refine AWc.loopC (N := 19) 1 (fun (x : Nat × List UInt8) => [(3, .ap 0 1 (x.2.map byteD)), (0, .d (.int .u64 (x.1 : Nat)))]) (fun x => [(0, .tok x.2.length)]) (fun x => x.2 ++ leb x.1 = leb u ∧ x.1 ≤ u) (fun x => x.1) (u, []) (Nat.zero_le _)
    ⟨rfl, Nat.le_refl _⟩ ⟨rfl, [], rfl, ⟨rfl, rfl, rfl, rfl, trivial⟩, ⟨rfl, rfl, rfl, trivial⟩⟩ ?_
  rintro ⟨v, xs⟩ ⟨hv, hvu⟩
  dsimp only
  refine AWc.seq ?_
  refine AWc.seq ?_
  refine AWc.run (l' := ?l7) (H' := ?h7) (n' := ?n7) (s := ?s7) [] (fun _ => false) (by omega) ?e7 ?p7 ?q7
  case e7 => simp only [runReg, gOn, evOp, evA, lk, cond_true, cond_false, Nat.beq, stepR, dstOK, newOK, topK, putL, appK, restK, hasK, addS, Option.bind_some, out, binA, toSrc, toSl, toEs, toE, toD, toDs, allAV, natListBeq, List.map_cons, List.map_nil, List.range, List.range.loop, lkH, decide_true, Nat.blt, Nat.ble, callOf, AV.scalar, D.isAgg, cellsAV, cellsAll, cells_int, cells_bool, cells_str, cells_sl, cells_agg, cells_fn, cells_nilp, cells_nilf, cells_nili, mkAgg, upd, loadA, oInt, zAV, buildF, nilEq, nilOf, nil0, nil1, nil2, mmA, mmL, zElem, Int.toNat_natCast, List.drop_zero, List.append_nil, List.cons_append, List.nil_append, Int.toNat_zero, Nat.zero_mul, Nat.mul_one, Nat.zero_add]; rfl
  case p7 => simp
  simp only [then', inBlk]
  refine AWc.cond rfl (fun hc => ?_) (fun hc => ?_)
  · refine AWc.skip ?_
    simp only [then', inBlk]
    have hv128 : ¬ v < 128 := by have := of_decide_eq_true hc; omega
    have hl := leb_len10 hu
    rw [← hv] at hl
    simp only [List.length_append] at hl
    refine AWc.seq ?_
    refine AWc.block ?_
    refine AWc.run (l' := ?l8) (H' := ?h8) (n' := ?n8) (s := ?s8) [] (fun _ => false) (by omega) ?e8 ?p8 ?q8
    case e8 => simp only [runReg, gOn, evOp, evA, lk, cond_true, cond_false, Nat.beq, stepR, dstOK, newOK, topK, putL, appK, restK, hasK, addS, Option.bind_some, out, binA, toSrc, toSl, toEs, toE, toD, toDs, allAV, natListBeq, List.map_cons, List.map_nil, List.range, List.range.loop, lkH, decide_true, Nat.blt, Nat.ble, callOf, AV.scalar, D.isAgg, cellsAV, cellsAll, cells_int, cells_bool, cells_str, cells_sl, cells_agg, cells_fn, cells_nilp, cells_nilf, cells_nili, mkAgg, upd, loadA, oInt, zAV, buildF, nilEq, nilOf, nil0, nil1, nil2, mmA, mmL, zElem, Int.toNat_natCast, List.drop_zero, List.append_nil, List.cons_append, List.nil_append, Int.toNat_zero, Nat.zero_mul, Nat.mul_one, Nat.zero_add]; rfl
    case p8 => simp [D.cells]; omega
    simp only [then', inBlk]
    refine AWc.run (l' := ?l9) (H' := ?h9) (n' := ?n9) (s := ?s9) [] (fun _ => false) (by omega) ?e9 ?p9 ?q9
    case e9 => simp only [runReg, gOn, evOp, evA, lk, cond_true, cond_false, Nat.beq, stepR, dstOK, newOK, topK, putL, appK, restK, hasK, addS, Option.bind_some, out, binA, toSrc, toSl, toEs, toE, toD, toDs, allAV, natListBeq, List.map_cons, List.map_nil, List.range, List.range.loop, lkH, decide_true, Nat.blt, Nat.ble, callOf, AV.scalar, D.isAgg, cellsAV, cellsAll, cells_int, cells_bool, cells_str, cells_sl, cells_agg, cells_fn, cells_nilp, cells_nilf, cells_nili, mkAgg, upd, loadA, oInt, zAV, buildF, nilEq, nilOf, nil0, nil1, nil2, mmA, mmL, zElem, Int.toNat_natCast, List.drop_zero, List.append_nil, List.cons_append, List.nil_append, Int.toNat_zero, Nat.zero_mul, Nat.mul_one, Nat.zero_add]; rfl
    case p9 => simp
    simp only [then', inBlk]
    have e1 : (v : Int).fdiv (2 ^ min (Int.toNat 7) IntKind.u64.bits) = ((v / 128 : Nat) : Int) := by
      have : (2 : Int) ^ min (Int.toNat 7) IntKind.u64.bits = ((128 : Nat) : Int) := rfl
      rw [this, Int.ofNat_fdiv]
    refine ⟨(v / 128, xs ++ [UInt8.ofNat (v % 128 + 128)]), ⟨?_, by dsimp only at hvu ⊢; omega⟩, ⟨rfl, [(0, 1)], rfl, ⟨?_, rfl, ?_, rfl, trivial⟩, ⟨?_, rfl, rfl, trivial⟩⟩, by dsimp only; omega⟩
    · rw [← hv]
      simp only
      rw [leb_ge hv128, List.append_assoc]
      rfl
    · simp only [lk, cond_true, cond_false, Nat.beq, AV.ren, sub1, wrap_u8, or128, List.map_append, List.map_cons, List.map_nil]
      rw [byteD_ofNat (by omega)]
    · simp only [lk, cond_true, cond_false, Nat.beq, AV.ren, e1]
    · simp [lkH, sub1, AObj.ren]
  · refine AWc.exit ?_
    simp only [then', inBlk, if_true]
    have hv128 : v < 128 := by have := of_decide_eq_false hc; omega
    have hl := leb_len10 hu
    rw [← hv] at hl
    simp only [List.length_append] at hl
    refine AWc.seq ?_
    refine AWc.run (l' := ?l10) (H' := ?h10) (n' := ?n10) (s := ?s10) [] (fun _ => false) (by omega) ?e10 ?p10 ?q10
    case e10 => simp only [runReg, gOn, evOp, evA, lk, cond_true, cond_false, Nat.beq, stepR, dstOK, newOK, topK, putL, appK, restK, hasK, addS, Option.bind_some, out, binA, toSrc, toSl, toEs, toE, toD, toDs, allAV, natListBeq, List.map_cons, List.map_nil, List.range, List.range.loop, lkH, decide_true, Nat.blt, Nat.ble, callOf, AV.scalar, D.isAgg, cellsAV, cellsAll, cells_int, cells_bool, cells_str, cells_sl, cells_agg, cells_fn, cells_nilp, cells_nilf, cells_nili, mkAgg, upd, loadA, oInt, zAV, buildF, nilEq, nilOf, nil0, nil1, nil2, mmA, mmL, zElem, Int.toNat_natCast, List.drop_zero, List.append_nil, List.cons_append, List.nil_append, Int.toNat_zero, Nat.zero_mul, Nat.mul_one, Nat.zero_add]; rfl
    case p10 => simp [D.cells]; omega
    simp only [then', inBlk]
    have he : leb u = xs ++ [UInt8.ofNat v] := by rw [← hv, leb_lt hv128]
    have h1 : ((v % 256 : Nat) : Int) = ((v : Nat) : Int) := by rw [Nat.mod_eq_of_lt (by omega)]
    refine AWc.to (N := 19) (k := 1) (l' := [(2, .ap 0 1 ((leb u).map byteD))]) (H' := [(0, .tok (leb u).length)]) (Nat.zero_le _) ⟨rfl, [(0, 1)], rfl, ⟨?_, rfl, trivial⟩, ⟨?_, rfl, rfl, trivial⟩⟩ ?_
    · simp only [lk, cond_true, cond_false, Nat.beq, AV.ren, sub1, wrap_u8, he, h1, List.map_append, List.map_cons, List.map_nil]
      rw [byteD_ofNat (by omega)]
    · simp [lkH, sub1, AObj.ren, he]
    · exact AWc.ret ⟨.inr rfl, _, _, rfl, by simp, rfl, fun x hx => hx⟩
theorem c24 (h : HasF P (N 24) (C24 N)) (u : Nat) (hu : u < 18446744073709551616) : ACalls P (N 24) [.d (.int .u64 u)] [] (.ap 0 1 ((leb u).map byteD)) [(0, .tok (leb u).length)] := by
  refine acalls_of_body h 0 (fun x hx => AV.lt_of (by simp at hx; subst hx; rfl)) (fun l o h => by cases h) ?_ ?_ (Nat.le_of_ble_eq_true rfl) ?_
  · exact .ap (.inr ⟨by simp [AHeap.keys], by simp [AHeap.keys]⟩)
  · intro l o hm
    simp at hm
    obtain ⟨rfl, rfl⟩ := hm
    exact ⟨.inr (by simp [AHeap.keys]), trivial⟩
  dsimp only [C24, startL]
  refine AWc.seq ?_
  refine AWc.run (l' := ?l11) (H' := ?h11) (n' := ?n11) (s := ?s11) [] (fun _ => false) (by omega) ?e11 ?p11 ?q11
  case e11 => simp only [runReg, gOn, evOp, evA, lk, cond_true, cond_false, Nat.beq, stepR, dstOK, newOK, topK, putL, appK, restK, hasK, addS, Option.bind_some, out, binA, toSrc, toSl, toEs, toE, toD, toDs, allAV, natListBeq, List.map_cons, List.map_nil, List.range, List.range.loop, lkH, decide_true, Nat.blt, Nat.ble, callOf, AV.scalar, D.isAgg, cellsAV, cellsAll, cells_int, cells_bool, cells_str, cells_sl, cells_agg, cells_fn, cells_nilp, cells_nilf, cells_nili, mkAgg, upd, loadA, oInt, zAV, buildF, nilEq, nilOf, nil0, nil1, nil2, mmA, mmL, zElem, Int.toNat_natCast, List.drop_zero, List.append_nil, List.cons_append, List.nil_append, Int.toNat_zero, Nat.zero_mul, Nat.mul_one, Nat.zero_add]; rfl
  case p11 => simp
  simp only [then', inBlk]
  refine AWc.seq ?_
  refine AWc.run (l' := ?l12) (H' := ?h12) (n' := ?n12) (s := ?s12) [] (fun _ => false) (by omega) ?e12 ?p12 ?q12
  case e12 => simp only [runReg, gOn, evOp, evA, lk, cond_true, cond_false, Nat.beq, stepR, dstOK, newOK, topK, putL, appK, restK, hasK, addS, Option.bind_some, out, binA, toSrc, toSl, toEs, toE, toD, toDs, allAV, natListBeq, List.map_cons, List.map_nil, List.range, List.range.loop, lkH, decide_true, Nat.blt, Nat.ble, callOf, AV.scalar, D.isAgg, cellsAV, cellsAll, cells_int, cells_bool, cells_str, cells_sl, cells_agg, cells_fn, cells_nilp, cells_nilf, cells_nili, mkAgg, upd, loadA, oInt, zAV, buildF, nilEq, nilOf, nil0, nil1, nil2, mmA, mmL, zElem, Int.toNat_natCast, List.drop_zero, List.append_nil, List.cons_append, List.nil_append, Int.toNat_zero, Nat.zero_mul, Nat.mul_one, Nat.zero_add]; rfl
  case p12 => simp
  simp only [then', inBlk]
  refine AWc.seq ?_
  refine AWc.nilap 3 1 rfl ?_ (fun x hx => by cases hx)
  refine AWc.block ?_
  refine AWc.loopC (N := 20) 1 (fun (x : Nat × List UInt8) => [(3, .ap 0 1 (x.2.map byteD)), (0, .d (.int .u64 (x.1 : Nat)))]) (fun x => [(0, .tok x.2.length)]) (fun x => x.2 ++ leb x.1 = leb u ∧ x.1 ≤ u) (fun x => x.1) (u, []) (Nat.zero_le _)
    ⟨rfl, Nat.le_refl _⟩ ⟨rfl, [], rfl, ⟨rfl, rfl, rfl, rfl, trivial⟩, ⟨rfl, rfl, rfl, trivial⟩⟩ ?_
  rintro ⟨v, xs⟩ ⟨hv, hvu⟩
  dsimp only
  refine AWc.seq ?_
  refine AWc.seq ?_
  refine AWc.run (l' := ?l13) (H' := ?h13) (n' := ?n13) (s := ?s13) [] (fun _ => false) (by omega) ?e13 ?p13 ?q13
  case e13 => simp only [runReg, gOn, evOp, evA, lk, cond_true, cond_false, Nat.beq, stepR, dstOK, newOK, topK, putL, appK, restK, hasK, addS, Option.bind_some, out, binA, toSrc, toSl, toEs, toE, toD, toDs, allAV, natListBeq, List.map_cons, List.map_nil, List.range, List.range.loop, lkH, decide_true, Nat.blt, Nat.ble, callOf, AV.scalar, D.isAgg, cellsAV, cellsAll, cells_int, cells_bool, cells_str, cells_sl, cells_agg, cells_fn, cells_nilp, cells_nilf, cells_nili, mkAgg, upd, loadA, oInt, zAV, buildF, nilEq, nilOf, nil0, nil1, nil2, mmA, mmL, zElem, Int.toNat_natCast, List.drop_zero, List.append_nil, List.cons_append, List.nil_append, Int.toNat_zero, Nat.zero_mul, Nat.mul_one, Nat.zero_add]; rfl
  case p13 => simp
  simp only [then', inBlk]
  refine AWc.cond rfl (fun hc => ?_) (fun hc => ?_)
  · refine AWc.skip ?_
    simp only [then', inBlk]
    have hv128 : ¬ v < 128 := by have := of_decide_eq_true hc; omega
    have hl := leb_len10 hu
    rw [← hv] at hl
    simp only [List.length_append] at hl
    refine AWc.block ?_
    refine AWc.seq ?_
    refine AWc.run (l' := ?l14) (H' := ?h14) (n' := ?n14) (s := ?s14) [] (fun _ => false) (by omega) ?e14 ?p14 ?q14
    case e14 => simp only [runReg, gOn, evOp, evA, lk, cond_true, cond_false, Nat.beq, stepR, dstOK, newOK, topK, putL, appK, restK, hasK, addS, Option.bind_some, out, binA, toSrc, toSl, toEs, toE, toD, toDs, allAV, natListBeq, List.map_cons, List.map_nil, List.range, List.range.loop, lkH, decide_true, Nat.blt, Nat.ble, callOf, AV.scalar, D.isAgg, cellsAV, cellsAll, cells_int, cells_bool, cells_str, cells_sl, cells_agg, cells_fn, cells_nilp, cells_nilf, cells_nili, mkAgg, upd, loadA, oInt, zAV, buildF, nilEq, nilOf, nil0, nil1, nil2, mmA, mmL, zElem, Int.toNat_natCast, List.drop_zero, List.append_nil, List.cons_append, List.nil_append, Int.toNat_zero, Nat.zero_mul, Nat.mul_one, Nat.zero_add]; rfl
    case p14 => simp [D.cells]; omega
    simp only [then', inBlk]
    refine AWc.run (l' := ?l15) (H' := ?h15) (n' := ?n15) (s := ?s15) [] (fun _ => false) (by omega) ?e15 ?p15 ?q15
    case e15 => simp only [runReg, gOn, evOp, evA, lk, cond_true, cond_false, Nat.beq, stepR, dstOK, newOK, topK, putL, appK, restK, hasK, addS, Option.bind_some, out, binA, toSrc, toSl, toEs, toE, toD, toDs, allAV, natListBeq, List.map_cons, List.map_nil, List.range, List.range.loop, lkH, decide_true, Nat.blt, Nat.ble, callOf, AV.scalar, D.isAgg, cellsAV, cellsAll, cells_int, cells_bool, cells_str, cells_sl, cells_agg, cells_fn, cells_nilp, cells_nilf, cells_nili, mkAgg, upd, loadA, oInt, zAV, buildF, nilEq, nilOf, nil0, nil1, nil2, mmA, mmL, zElem, Int.toNat_natCast, List.drop_zero, List.append_nil, List.cons_append, List.nil_append, Int.toNat_zero, Nat.zero_mul, Nat.mul_one, Nat.zero_add]; rfl
    case p15 => simp
    simp only [then', inBlk]
    have e1 : IntKind.u64.wrap ((v : Int).tdiv 128) = ((v / 128 : Nat) : Int) := by
      have : (v : Int).tdiv 128 = ((v / 128 : Nat) : Int) := by rw [Int.tdiv_eq_ediv_of_nonneg (by omega)]; omega
      rw [this]
      simp only [IntKind.wrap, IntKind.signed, IntKind.bits]
      simp
      dsimp only at hvu
      omega
    have e2 : IntKind.u8.wrap (IntKind.u8.wrap ((v : Int).tmod 128) + 128) = ((v % 128 + 128 : Nat) : Int) := by
      have : (v : Int).tmod 128 = ((v % 128 : Nat) : Int) := by rw [Int.tmod_eq_emod_of_nonneg (by omega)]; omega
      rw [this, wrap_u8]
      have : ((v % 128 % 256 : Nat) : Int) + 128 = ((v % 128 + 128 : Nat) : Int) := by omega
      rw [this, wrap_u8]
      omega
    refine ⟨(v / 128, xs ++ [UInt8.ofNat (v % 128 + 128)]), ⟨?_, by dsimp only at hvu ⊢; omega⟩, ⟨rfl, [(0, 1)], rfl, ⟨?_, rfl, ?_, rfl, trivial⟩, ⟨?_, rfl, rfl, trivial⟩⟩, by dsimp only; omega⟩
    · rw [← hv]
      simp only
      rw [leb_ge hv128, List.append_assoc]
      rfl
    · simp only [lk, cond_true, cond_false, Nat.beq, AV.ren, sub1, e2, List.map_append, List.map_cons, List.map_nil]
      rw [byteD_ofNat (by omega)]
    · simp only [lk, cond_true, cond_false, Nat.beq, AV.ren, e1]
    · simp [lkH, sub1, AObj.ren]
  · refine AWc.exit ?_
    simp only [then', inBlk, if_true]
    have hv128 : v < 128 := by have := of_decide_eq_false hc; omega
    have hl := leb_len10 hu
    rw [← hv] at hl
    simp only [List.length_append] at hl
    refine AWc.seq ?_
    refine AWc.run (l' := ?l16) (H' := ?h16) (n' := ?n16) (s := ?s16) [] (fun _ => false) (by omega) ?e16 ?p16 ?q16
    case e16 => simp only [runReg, gOn, evOp, evA, lk, cond_true, cond_false, Nat.beq, stepR, dstOK, newOK, topK, putL, appK, restK, hasK, addS, Option.bind_some, out, binA, toSrc, toSl, toEs, toE, toD, toDs, allAV, natListBeq, List.map_cons, List.map_nil, List.range, List.range.loop, lkH, decide_true, Nat.blt, Nat.ble, callOf, AV.scalar, D.isAgg, cellsAV, cellsAll, cells_int, cells_bool, cells_str, cells_sl, cells_agg, cells_fn, cells_nilp, cells_nilf, cells_nili, mkAgg, upd, loadA, oInt, zAV, buildF, nilEq, nilOf, nil0, nil1, nil2, mmA, mmL, zElem, Int.toNat_natCast, List.drop_zero, List.append_nil, List.cons_append, List.nil_append, Int.toNat_zero, Nat.zero_mul, Nat.mul_one, Nat.zero_add]; rfl
    case p16 => simp [D.cells]; omega
    simp only [then', inBlk]
    have he : leb u = xs ++ [UInt8.ofNat v] := by rw [← hv, leb_lt hv128]
    have h1 : ((v % 256 : Nat) : Int) = ((v : Nat) : Int) := by rw [Nat.mod_eq_of_lt (by omega)]
    refine AWc.to (N := 20) (k := 1) (l' := [(2, .ap 0 1 ((leb u).map byteD))]) (H' := [(0, .tok (leb u).length)]) (Nat.zero_le _) ⟨rfl, [(0, 1)], rfl, ⟨?_, rfl, trivial⟩, ⟨?_, rfl, rfl, trivial⟩⟩ ?_
    · simp only [lk, cond_true, cond_false, Nat.beq, AV.ren, sub1, wrap_u8, he, h1, List.map_append, List.map_cons, List.map_nil]
      rw [byteD_ofNat (by omega)]
    · simp [lkH, sub1, AObj.ren, he]
    · exact AWc.ret ⟨.inr rfl, _, _, rfl, by simp, rfl, fun x hx => hx⟩
end
end Go.Proofs.Abs
