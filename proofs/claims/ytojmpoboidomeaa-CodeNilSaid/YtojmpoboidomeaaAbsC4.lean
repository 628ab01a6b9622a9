/- Contracts: Own and Kept. -/
import Derived.Test.YtojmpoboidomeaaAbsC3
namespace Go.Proofs.Abs
open Go
set_option linter.unusedSimpArgs false
set_option linter.unusedVariables false
theorem ltb_d {k : Nat} : ∀ (l : List D), AObj.ltb k (.cells (l.map .d)) = true
  | [] => by simp [AObj.ltb, AV.ltbL]
  | x :: r => by
    have := ltb_d (k := k) r
    simp only [AObj.ltb] at this
    simp [AObj.ltb, AV.ltbL, AV.ltb, this]
theorem upd_mid : ∀ (A : List AV) (x c : AV) (B : List AV), upd (A ++ x :: B) A.length [c] = A ++ c :: B
  | [], x, c, B => by cases B <;> simp [upd]
  | a :: A, x, c, B => by simp [upd, upd_mid A x c B]
theorem upd_front : ∀ (cs B : List AV), upd (B) 0 cs = cs ++ B.drop cs.length ∨ B.length < cs.length
  | [], B => by cases B <;> simp [upd]
  | c :: cs, [] => .inr (by simp)
  | c :: cs, b :: B => by
    rcases upd_front cs B with h | h
    · left; simp [upd, h]
    · right; simpa using h
theorem renL_d {s : Nat → Nat} (l : List D) : AV.renL s (l.map .d) = l.map .d := by
  rw [renL_eq, List.map_map]
  rfl
/-- bytes, and a tail -/
def ownCells (t : List UInt8) (j : Nat) (m : Int) : List D := t.map byteD ++ (List.replicate j (.int .u8 m) ++ List.replicate (3 - j) (.int .u8 0))
theorem ownCells_len (t : List UInt8) (j : Nat) (m : Int) (hj : j ≤ 3) : (ownCells t j m).length = t.length + 3 := by
  simp [ownCells]; omega
theorem ownCells_next (t : List UInt8) (j : Nat) (m : Int) (hj : j < 3) : upd ((ownCells t j m).map .d) (t.length + j) [.d (.int .u8 m)] = (ownCells t (j + 1) m).map .d := by
  have e : (ownCells t j m).map AV.d = ((t.map byteD ++ List.replicate j (D.int .u8 m)).map AV.d) ++ AV.d (.int .u8 0) :: (List.replicate (3 - (j + 1)) (D.int .u8 0)).map AV.d := by
    have : 3 - j = (3 - (j + 1)) + 1 := by omega
    simp only [ownCells, List.map_append, List.append_assoc]
    rw [this, List.replicate_succ]
    rfl
  have hl : t.length + j = ((t.map byteD ++ List.replicate j (D.int .u8 m)).map AV.d).length := by simp
  rw [e, hl, upd_mid]
  simp only [ownCells, List.map_append, List.append_assoc, List.replicate_succ', List.map_cons, List.map_nil]
  rfl
theorem ownCells_start (t : List UInt8) (m : Int) : upd (List.replicate (t.length + 3) [AV.d (.int .u8 0)]).flatten 0 ((flat (t.map byteD)).map .d) = (ownCells t 0 m).map .d := by
  have hf : flat (t.map byteD) = t.map byteD := flat_scalar fun d hd => by
    obtain ⟨x, _, rfl⟩ := List.mem_map.1 hd
    rfl
  have hr : (List.replicate (t.length + 3) [AV.d (.int .u8 0)]).flatten = List.replicate (t.length + 3) (AV.d (.int .u8 0)) := by
    simp
  rw [hf, hr]
  rcases upd_front ((t.map byteD).map AV.d) (List.replicate (t.length + 3) (AV.d (.int .u8 0))) with h | h
  · rw [h]
    simp [ownCells]
  · simp at h
    omega
/-- courant/couranthelp.Own[byte] -/
def C21 (N : Nat → Nat) : AFunc := { n := 33, params := 2, res := [.tmp 4], body :=
 (.seq (.region false [⟨(some 4), .mv (.k .nils), none, []⟩])
  (.seq (.region false [⟨(some 8), .mv (.t 0), none, []⟩,
    ⟨(some 9), .len (.t 8), none, [0]⟩,
    ⟨(some 10), .bin .add (.t 9) (.k (.d (.int .i64 3))), none, [1]⟩,
    ⟨(some 11), .mksl (.k (.d (.int .i64 0))) (.t 10) 1 1 [(.int .u8 0)], none, [2]⟩,
    ⟨(some 5), .mv (.t 11), none, [3, 0, 1, 2]⟩])
   (.seq (.region false [⟨(some 12), .mv (.t 5), none, []⟩,
     ⟨(some 13), .mv (.t 0), none, []⟩,
     ⟨(some 14), .app (.t 12) (.t 13) 1 1 [(.int .u8 0)], none, [0, 1]⟩,
     ⟨(some 5), .mv (.t 14), none, [2, 0, 1]⟩])
    (.seq (.region false [⟨(some 15), .mv (.t 5), none, []⟩,
      ⟨(some 16), .mv (.t 0), none, []⟩,
      ⟨(some 17), .len (.t 16), none, [1]⟩,
      ⟨(some 18), .bin .add (.t 17) (.k (.d (.int .i64 3))), none, [2]⟩,
      ⟨(some 19), .slc (.t 15) none (some (.t 18)) none 1, none, [0, 3]⟩,
      ⟨(some 6), .mv (.t 19), none, [4, 0, 1, 2, 3]⟩])
     (.seq (.seq (.region false [⟨(some 20), .mv (.t 0), none, []⟩,
        ⟨(some 21), .len (.t 20), none, [0]⟩,
        ⟨(some 7), .mv (.t 21), none, [1, 0]⟩])
       (.block 0 (.loop (.seq (.seq (.region false [⟨(some 22), .mv (.t 7), none, []⟩,
            ⟨(some 23), .mv (.t 6), none, []⟩,
            ⟨(some 24), .len (.t 23), none, [1]⟩,
            ⟨(some 25), .bin .lss (.t 22) (.t 24), none, [0, 2]⟩])
           (.cond (.t 25) (.skip)
            (.exit 0)))
          (.seq (.block 1 (.region false [⟨(some 28), .mv (.t 6), none, []⟩,
             ⟨(some 29), .mv (.t 7), none, []⟩,
             ⟨(some 30), .mv (.t 1), none, []⟩,
             ⟨(some 31), .iaddr (.t 28) (.t 29) 1, none, [0, 1, 2]⟩,
             ⟨none, .store (.t 31) (.t 30) 1, none, [3, 2, 0, 1]⟩]))
           (.region false [⟨(some 26), .mv (.t 7), none, []⟩,
            ⟨(some 27), .bin .add (.t 26) (.k (.d (.int .i64 1))), none, [0]⟩,
            ⟨(some 7), .mv (.t 27), none, [1, 0]⟩]))))))
      (.seq (.region false [⟨(some 32), .mv (.t 5), none, []⟩,
        ⟨(some 4), .mv (.t 32), none, [0]⟩])
       .ret)))))) }

/-- courant/couranthelp.Kept[byte] -/
def C29 (N : Nat → Nat) : AFunc := { n := 40, params := 3, res := [.tmp 6], body :=
 (.seq (.region false [⟨(some 6), .mv (.k (.d (.bool false))), none, []⟩])
  (.seq (.seq (.region false [⟨(some 9), .mv (.t 0), none, []⟩,
     ⟨(some 10), .mv (.t 1), none, []⟩,
     ⟨(some 11), .call (.k (.d (.fn (N 83)))) [(.t 9), (.t 10)], none, [0, 1]⟩,
     ⟨(some 12), .un .not (.t 11), none, [2]⟩,
     ⟨(some 13), .mv (.t 12), none, [3, 2]⟩,
     ⟨(some 14), .mv (.t 0), (some (13, false)), [4]⟩,
     ⟨(some 15), .cap (.t 14), (some (13, false)), [5, 4]⟩,
     ⟨(some 16), .mv (.t 1), (some (13, false)), [4]⟩,
     ⟨(some 17), .len (.t 16), (some (13, false)), [7, 4]⟩,
     ⟨(some 18), .bin .add (.t 17) (.k (.d (.int .i64 3))), (some (13, false)), [8, 4]⟩,
     ⟨(some 19), .bin .lss (.t 15) (.t 18), (some (13, false)), [6, 9, 4]⟩,
     ⟨(some 20), .pick (.t 13) (.k (.d (.bool true))) (.t 19), none, [4, 10]⟩])
    (.cond (.t 20) (.seq (.region false [⟨(some 6), .mv (.k (.d (.bool false))), none, []⟩])
      .ret)
     (.skip)))
   (.seq (.region false [⟨(some 21), .mv (.t 0), none, []⟩,
     ⟨(some 22), .mv (.t 1), none, []⟩,
     ⟨(some 23), .len (.t 22), none, [1]⟩,
     ⟨(some 24), .bin .add (.t 23) (.k (.d (.int .i64 3))), none, [2]⟩,
     ⟨(some 25), .slc (.t 21) none (some (.t 24)) none 1, none, [0, 3]⟩,
     ⟨(some 7), .mv (.t 25), none, [4, 0, 1, 2, 3]⟩])
    (.seq (.seq (.region false [⟨(some 26), .mv (.t 1), none, []⟩,
       ⟨(some 27), .len (.t 26), none, [0]⟩,
       ⟨(some 8), .mv (.t 27), none, [1, 0]⟩])
      (.block 0 (.loop (.seq (.seq (.region false [⟨(some 28), .mv (.t 8), none, []⟩,
           ⟨(some 29), .mv (.t 7), none, []⟩,
           ⟨(some 30), .len (.t 29), none, [1]⟩,
           ⟨(some 31), .bin .lss (.t 28) (.t 30), none, [0, 2]⟩])
          (.cond (.t 31) (.skip)
           (.exit 0)))
         (.seq (.block 1 (.seq (.region false [⟨(some 34), .mv (.t 7), none, []⟩,
             ⟨(some 35), .mv (.t 8), none, []⟩,
             ⟨(some 36), .iaddr (.t 34) (.t 35) 1, none, [0, 1]⟩,
             ⟨(some 37), .load (.t 36) 1 false, none, [2]⟩,
             ⟨(some 38), .mv (.t 2), none, []⟩,
             ⟨(some 39), .bin .neq (.t 37) (.t 38), none, [3, 4]⟩])
            (.cond (.t 39) (.seq (.region false [⟨(some 6), .mv (.k (.d (.bool false))), none, []⟩])
              .ret)
             (.skip))))
          (.region false [⟨(some 32), .mv (.t 8), none, []⟩,
           ⟨(some 33), .bin .add (.t 32) (.k (.d (.int .i64 1))), none, [0]⟩,
           ⟨(some 8), .mv (.t 33), none, [1, 0]⟩]))))))
     (.seq (.region false [⟨(some 6), .mv (.k (.d (.bool true))), none, []⟩])
      .ret))))) }

/-- courant/courantlaw01.CodeWrites -/
def C3 (N : Nat → Nat) : AFunc := { n := 41, params := 3, res := [.tmp 6], body :=
 (.seq (.region false [⟨(some 6), .mv (.k (.d (.bool false))), none, []⟩])
  (.seq (.seq (.region false [⟨(some 8), .mv (.t 2), none, []⟩,
     ⟨(some 9), .len (.t 8), none, [0]⟩,
     ⟨(some 10), .bin .gtr (.t 9) (.k (.d (.int .i64 5000))), none, [1]⟩])
    (.cond (.t 10) (.seq (.region false [⟨(some 11), .call (.k (.d (.fn (N 20)))) [], none, []⟩,
       ⟨(some 6), .mv (.t 11), none, [0]⟩])
      .ret)
     (.skip)))
   (.seq (.region false [⟨(some 12), .mv (.t 2), none, []⟩,
     ⟨(some 13), .call (.k (.d (.fn (N 21)))) [(.t 12), (.k (.d (.int .u8 71)))], none, [0]⟩,
     ⟨(some 7), .mv (.t 13), none, [1, 0]⟩])
    (.seq (.region false [⟨(some 14), .call (.k (.d (.fn (N 20)))) [], none, []⟩,
      ⟨(some 15), .mv (.t 14), none, [0]⟩,
      ⟨(some 16), .mv (.t 0), (some (15, true)), [1]⟩,
      ⟨(some 17), .call (.k (.d (.fn (N 23)))) [(.t 16)], (some (15, true)), [2, 1]⟩,
      ⟨(some 18), .mv (.t 0), (some (15, true)), [1]⟩,
      ⟨(some 19), .call (.k (.d (.fn (N 24)))) [(.t 18)], (some (15, true)), [4, 3, 1]⟩,
      ⟨(some 20), .call (.k (.d (.fn (N 22)))) [(.t 17), (.t 19)], (some (15, true)), [3, 5, 1]⟩,
      ⟨(some 21), .pick (.t 15) (.t 20) (.k (.d (.bool false))), none, [1, 6]⟩,
      ⟨(some 22), .mv (.t 21), none, [7, 6]⟩,
      ⟨(some 23), .mv (.t 1), (some (22, true)), [8]⟩,
      ⟨(some 24), .call (.k (.d (.fn (N 25)))) [(.t 23)], (some (22, true)), [9, 8]⟩,
      ⟨(some 25), .mv (.t 1), (some (22, true)), [8]⟩,
      ⟨(some 26), .call (.k (.d (.fn (N 26)))) [(.t 25)], (some (22, true)), [11, 10, 8]⟩,
      ⟨(some 27), .call (.k (.d (.fn (N 22)))) [(.t 24), (.t 26)], (some (22, true)), [10, 12, 8]⟩,
      ⟨(some 28), .pick (.t 22) (.t 27) (.k (.d (.bool false))), none, [8, 13]⟩,
      ⟨(some 29), .mv (.t 28), none, [14, 13]⟩,
      ⟨(some 30), .mv (.t 7), (some (29, true)), [15]⟩,
      ⟨(some 31), .call (.k (.d (.fn (N 27)))) [(.t 30)], (some (29, true)), [16, 15]⟩,
      ⟨(some 32), .mv (.t 2), (some (29, true)), [15]⟩,
      ⟨(some 33), .call (.k (.d (.fn (N 28)))) [(.t 32)], (some (29, true)), [18, 17, 15]⟩,
      ⟨(some 34), .call (.k (.d (.fn (N 22)))) [(.t 31), (.t 33)], (some (29, true)), [17, 19, 15]⟩,
      ⟨(some 35), .pick (.t 29) (.t 34) (.k (.d (.bool false))), none, [15, 20]⟩,
      ⟨(some 36), .mv (.t 35), none, [21, 20]⟩,
      ⟨(some 37), .mv (.t 7), (some (36, true)), [22]⟩,
      ⟨(some 38), .mv (.t 2), (some (36, true)), [22]⟩,
      ⟨(some 39), .call (.k (.d (.fn (N 29)))) [(.t 37), (.t 38), (.k (.d (.int .u8 71)))], (some (36, true)), [23, 24, 22]⟩,
      ⟨(some 40), .pick (.t 36) (.t 39) (.k (.d (.bool false))), none, [22, 25]⟩,
      ⟨(some 6), .mv (.t 40), none, [26, 25, 0, 1, 2, 3, 4, 5, 6, 7, 8, 9, 10, 11, 12, 13, 14, 15, 16, 17, 18, 19, 20, 21, 22, 23, 24]⟩])
     .ret)))) }

section
variable {P : Program} {N : Nat → Nat}
theorem c21' (h : HasF P (N 21) (C21 N)) (t : List UInt8) (m : Int) (ht : t.length ≤ 140737488351232) :
    ACalls P (N 21) [.d (bytesD t), .d (.int .u8 m)] [] (.sl 0 0 t.length (t.length + 3) 1) [(0, .cells ((ownCells t 3 m).map .d))] := by
  refine acalls_of_body h 0 (fun x hx => AV.lt_of (by simp at hx; rcases hx with rfl | rfl <;> rfl)) (fun l o h => by cases h) ?_ ?_ (Nat.le_of_ble_eq_true rfl) ?_
  · exact .sl (.inr ⟨by simp [AHeap.keys], by simp [AHeap.keys]⟩)
  · intro l o hm
    simp only [List.mem_singleton, Prod.mk.injEq] at hm
    obtain ⟨rfl, rfl⟩ := hm
    refine ⟨.inr (by simp [AHeap.keys]), fun x hx => ?_⟩
    obtain ⟨d, _, rfl⟩ := List.mem_map.1 hx
    exact .d
  dsimp only [C21, startL]
  have hw : IntKind.i64.wrap ((t.length : Int) + 3) = ((t.length + 3 : Nat) : Int) := by rw [wrap_i64 (by omega) (by omega)]; rfl
  refine AWc.seq ?_
  refine AWc.run (l' := ?l1) (H' := ?h1) (n' := ?n1) (s := ?s1) [] (fun _ => false) (by omega) ?e1 ?p1 ?q1
  case e1 => simp only [runReg, gOn, evOp, evA, lk, cond_true, cond_false, Nat.beq, stepR, dstOK, newOK, topK, putL, appK, restK, hasK, addS, Option.bind_some, out, binA, toSrc, toSl, toEs, toE, toD, toDs, allAV, natListBeq, List.map_cons, List.map_nil, List.range, List.range.loop, lkH, decide_true, Nat.blt, Nat.ble, callOf, AV.scalar, D.isAgg, cellsAV, cellsAll, cells_int, cells_bool, cells_str, cells_sl, cells_agg, cells_fn, cells_nilp, cells_nilf, cells_nili, mkAgg, upd, loadA, oInt, zAV, buildF, nilEq, nilOf, nil0, nil1, nil2, mmA, mmL, zElem, Int.toNat_natCast, List.drop_zero, List.append_nil, List.cons_append, List.nil_append, Int.toNat_zero, Nat.zero_mul, Nat.mul_one, Nat.zero_add]; rfl
  case p1 => simp
  simp only [then', inBlk]
  refine AWc.seq ?_
  refine AWc.run (l' := ?l2) (H' := ?h2) (n' := ?n2) (s := ?s2) [] (fun k => Nat.beq k 3) (by omega) ?e2 ?p2 ?q2
  case e2 => simp only [runReg, gOn, evOp, evA, lk, cond_true, cond_false, Nat.beq, stepR, dstOK, newOK, topK, putL, appK, restK, hasK, addS, Option.bind_some, out, binA, toSrc, toSl, toEs, toE, toD, toDs, allAV, natListBeq, List.map_cons, List.map_nil, List.range, List.range.loop, lkH, decide_true, Nat.blt, Nat.ble, callOf, AV.scalar, D.isAgg, cellsAV, cellsAll, cells_int, cells_bool, cells_str, cells_sl, cells_agg, cells_fn, cells_nilp, cells_nilf, cells_nili, mkAgg, upd, loadA, oInt, zAV, buildF, nilEq, nilOf, nil0, nil1, nil2, mmA, mmL, zElem, Int.toNat_natCast, List.drop_zero, List.append_nil, List.cons_append, List.nil_append, Int.toNat_zero, Nat.zero_mul, Nat.mul_one, Nat.zero_add, List.length_map, hw]; rfl
  case p2 => simp; omega
  simp only [then', inBlk]
  refine AWc.seq ?_
  refine AWc.run (l' := ?l3) (H' := ?h3) (n' := ?n3) (s := ?s3) [] (fun _ => false) (by omega) ?e3 ?p3 ?q3
  case e3 => simp only [runReg, gOn, evOp, evA, lk, cond_true, cond_false, Nat.beq, stepR, dstOK, newOK, topK, putL, appK, restK, hasK, addS, Option.bind_some, out, binA, toSrc, toSl, toEs, toE, toD, toDs, allAV, natListBeq, List.map_cons, List.map_nil, List.range, List.range.loop, lkH, decide_true, Nat.blt, Nat.ble, callOf, AV.scalar, D.isAgg, cellsAV, cellsAll, cells_int, cells_bool, cells_str, cells_sl, cells_agg, cells_fn, cells_nilp, cells_nilf, cells_nili, mkAgg, upd, loadA, oInt, zAV, buildF, nilEq, nilOf, nil0, nil1, nil2, mmA, mmL, zElem, Int.toNat_natCast, List.drop_zero, List.append_nil, List.cons_append, List.nil_append, Int.toNat_zero, Nat.zero_mul, Nat.mul_one, Nat.zero_add, List.length_map]; rfl
  case p3 => simp [D.cells, byteD]
  simp only [then', inBlk]
  refine AWc.to (N := 33) (k := 1) (l' := [(5, .sl 0 0 t.length (t.length + 3) 1), (0, .d (bytesD t)), (1, .d (.int .u8 m))]) (H' := [(0, .cells ((ownCells t 0 m).map .d))]) (Nat.zero_le _)
    ⟨rfl, [], rfl, ⟨rfl, rfl, rfl, rfl, rfl, rfl, trivial⟩, ⟨?_, rfl, ?_, trivial⟩⟩ ?_
  · simp only [lkH, sub1, cond_true, Nat.beq, AObj.ren, renL_d, ownCells_start t m]
  · exact ltb_d _
  refine AWc.seq ?_
  refine AWc.run (l' := ?l4) (H' := ?h4) (n' := ?n4) (s := ?s4) [] (fun _ => false) (by omega) ?e4 ?p4 ?q4
  case e4 => simp only [runReg, gOn, evOp, evA, lk, cond_true, cond_false, Nat.beq, stepR, dstOK, newOK, topK, putL, appK, restK, hasK, addS, Option.bind_some, out, binA, toSrc, toSl, toEs, toE, toD, toDs, allAV, natListBeq, List.map_cons, List.map_nil, List.range, List.range.loop, lkH, decide_true, Nat.blt, Nat.ble, callOf, AV.scalar, D.isAgg, cellsAV, cellsAll, cells_int, cells_bool, cells_str, cells_sl, cells_agg, cells_fn, cells_nilp, cells_nilf, cells_nili, mkAgg, upd, loadA, oInt, zAV, buildF, nilEq, nilOf, nil0, nil1, nil2, mmA, mmL, zElem, Int.toNat_natCast, List.drop_zero, List.append_nil, List.cons_append, List.nil_append, Int.toNat_zero, Nat.zero_mul, Nat.mul_one, Nat.zero_add, List.length_map, hw]; rfl
  case p4 => simp; omega
  simp only [then', inBlk]
  refine AWc.seq ?_
  refine AWc.seq ?_
  refine AWc.run (l' := ?l5) (H' := ?h5) (n' := ?n5) (s := ?s5) [] (fun _ => false) (by omega) ?e5 ?p5 ?q5
  case e5 => simp only [runReg, gOn, evOp, evA, lk, cond_true, cond_false, Nat.beq, stepR, dstOK, newOK, topK, putL, appK, restK, hasK, addS, Option.bind_some, out, binA, toSrc, toSl, toEs, toE, toD, toDs, allAV, natListBeq, List.map_cons, List.map_nil, List.range, List.range.loop, lkH, decide_true, Nat.blt, Nat.ble, callOf, AV.scalar, D.isAgg, cellsAV, cellsAll, cells_int, cells_bool, cells_str, cells_sl, cells_agg, cells_fn, cells_nilp, cells_nilf, cells_nili, mkAgg, upd, loadA, oInt, zAV, buildF, nilEq, nilOf, nil0, nil1, nil2, mmA, mmL, zElem, Int.toNat_natCast, List.drop_zero, List.append_nil, List.cons_append, List.nil_append, Int.toNat_zero, Nat.zero_mul, Nat.mul_one, Nat.zero_add, List.length_map]; rfl
  case p5 => simp
  simp only [then', inBlk]
  refine AWc.block ?_
  refine AWc.loopC (N := 33) 1 (fun (j : Nat) => [(7, .d (.int .i64 ((t.length + j : Nat) : Int))), (6, .sl 0 0 (t.length + 3) (t.length + 3) 1), (5, .sl 0 0 t.length (t.length + 3) 1), (1, .d (.int .u8 m))]) (fun j => [(0, .cells ((ownCells t j m).map .d))])
    (fun j => j ≤ 3) (fun j => 3 - j) 0 (Nat.zero_le _) (Nat.zero_le _) ⟨rfl, [], rfl, ⟨rfl, rfl, rfl, rfl, rfl, rfl, rfl, rfl, trivial⟩, ⟨?_, rfl, ?_, trivial⟩⟩ ?_
  · simp only [lkH, sub1, cond_true, Nat.beq, AObj.ren, renL_d]
  · exact ltb_d _
  intro j hj
  refine AWc.seq ?_
  refine AWc.seq ?_
  refine AWc.run (l' := ?l6) (H' := ?h6) (n' := ?n6) (s := ?s6) [] (fun _ => false) (by omega) ?e6 ?p6 ?q6
  case e6 => simp only [runReg, gOn, evOp, evA, lk, cond_true, cond_false, Nat.beq, stepR, dstOK, newOK, topK, putL, appK, restK, hasK, addS, Option.bind_some, out, binA, toSrc, toSl, toEs, toE, toD, toDs, allAV, natListBeq, List.map_cons, List.map_nil, List.range, List.range.loop, lkH, decide_true, Nat.blt, Nat.ble, callOf, AV.scalar, D.isAgg, cellsAV, cellsAll, cells_int, cells_bool, cells_str, cells_sl, cells_agg, cells_fn, cells_nilp, cells_nilf, cells_nili, mkAgg, upd, loadA, oInt, zAV, buildF, nilEq, nilOf, nil0, nil1, nil2, mmA, mmL, zElem, Int.toNat_natCast, List.drop_zero, List.append_nil, List.cons_append, List.nil_append, Int.toNat_zero, Nat.zero_mul, Nat.mul_one, Nat.zero_add, List.length_map]; rfl
  case p6 => simp
  simp only [then', inBlk]
  refine AWc.cond rfl (fun hc => ?_) (fun hc => ?_)
  · have hj3 : j < 3 := by have := of_decide_eq_true hc; omega
    refine AWc.skip ?_
    simp only [then', inBlk]
    refine AWc.seq ?_
    refine AWc.block ?_
    have hl := ownCells_len t j m hj
    refine AWc.run (l' := ?l7) (H' := ?h7) (n' := ?n7) (s := ?s7) [] (fun _ => false) (by omega) ?e7 ?p7 ?q7
    case e7 => simp only [runReg, gOn, evOp, evA, lk, cond_true, cond_false, Nat.beq, stepR, dstOK, newOK, topK, putL, appK, restK, hasK, addS, Option.bind_some, out, binA, toSrc, toSl, toEs, toE, toD, toDs, allAV, natListBeq, List.map_cons, List.map_nil, List.range, List.range.loop, lkH, decide_true, Nat.blt, Nat.ble, callOf, AV.scalar, D.isAgg, cellsAV, cellsAll, cells_int, cells_bool, cells_str, cells_sl, cells_agg, cells_fn, cells_nilp, cells_nilf, cells_nili, mkAgg, upd, loadA, oInt, zAV, buildF, nilEq, nilOf, nil0, nil1, nil2, mmA, mmL, zElem, Int.toNat_natCast, List.drop_zero, List.append_nil, List.cons_append, List.nil_append, Int.toNat_zero, Nat.zero_mul, Nat.mul_one, Nat.zero_add]; rfl
    case p7 => simp [AV.scalar, D.isAgg, hl]; omega
    simp only [then', inBlk]
    have hw1 : IntKind.i64.wrap (((t.length + j : Nat) : Int) + 1) = ((t.length + (j + 1) : Nat) : Int) := by rw [wrap_i64 (by omega) (by omega)]; omega
    refine AWc.run (l' := ?l8) (H' := ?h8) (n' := ?n8) (s := ?s8) [] (fun _ => false) (by omega) ?e8 ?p8 ?q8
    case e8 => simp only [runReg, gOn, evOp, evA, lk, cond_true, cond_false, Nat.beq, stepR, dstOK, newOK, topK, putL, appK, restK, hasK, addS, Option.bind_some, out, binA, toSrc, toSl, toEs, toE, toD, toDs, allAV, natListBeq, List.map_cons, List.map_nil, List.range, List.range.loop, lkH, decide_true, Nat.blt, Nat.ble, callOf, AV.scalar, D.isAgg, cellsAV, cellsAll, cells_int, cells_bool, cells_str, cells_sl, cells_agg, cells_fn, cells_nilp, cells_nilf, cells_nili, mkAgg, upd, loadA, oInt, zAV, buildF, nilEq, nilOf, nil0, nil1, nil2, mmA, mmL, zElem, Int.toNat_natCast, List.drop_zero, List.append_nil, List.cons_append, List.nil_append, Int.toNat_zero, Nat.zero_mul, Nat.mul_one, Nat.zero_add]; rfl
    case p8 => simp
    simp only [then', inBlk]
    refine ⟨j + 1, by omega, ⟨rfl, [], rfl, ⟨?_, rfl, rfl, rfl, rfl, rfl, rfl, rfl, trivial⟩, ⟨?_, rfl, ltb_d _, trivial⟩⟩, by omega⟩
    · simp only [lk, cond_true, cond_false, Nat.beq, AV.ren, hw1]
    · simp only [lkH, sub1, cond_true, Nat.beq, AObj.ren, renL_d, ownCells_next t j m hj3]
  · have hj3 : j = 3 := by have := of_decide_eq_false hc; omega
    subst hj3
    refine AWc.exit ?_
    simp only [then', inBlk, if_true]
    refine AWc.seq ?_
    refine AWc.run (l' := ?l9) (H' := ?h9) (n' := ?n9) (s := ?s9) [] (fun _ => false) (by omega) ?e9 ?p9 ?q9
    case e9 => simp only [runReg, gOn, evOp, evA, lk, cond_true, cond_false, Nat.beq, stepR, dstOK, newOK, topK, putL, appK, restK, hasK, addS, Option.bind_some, out, binA, toSrc, toSl, toEs, toE, toD, toDs, allAV, natListBeq, List.map_cons, List.map_nil, List.range, List.range.loop, lkH, decide_true, Nat.blt, Nat.ble, callOf, AV.scalar, D.isAgg, cellsAV, cellsAll, cells_int, cells_bool, cells_str, cells_sl, cells_agg, cells_fn, cells_nilp, cells_nilf, cells_nili, mkAgg, upd, loadA, oInt, zAV, buildF, nilEq, nilOf, nil0, nil1, nil2, mmA, mmL, zElem, Int.toNat_natCast, List.drop_zero, List.append_nil, List.cons_append, List.nil_append, Int.toNat_zero, Nat.zero_mul, Nat.mul_one, Nat.zero_add]; rfl
    case p9 => simp
    simp only [then', inBlk]
    exact AWc.ret ⟨.inr rfl, _, _, rfl, by simp, rfl, fun x hx => hx⟩
theorem c21 (h : HasF P (N 21) (C21 N)) (t : List UInt8) (m : Int) (ht : t.length ≤ 140737488351232) :
    ACalls P (N 21) [.d (bytesD t), .d (.int .u8 m)] [] (.win (ownCells t 3 m) t.length) [] :=
  (c21' h t m ht).freeze (fun d hd => by
    simp only [ownCells, List.mem_append, List.mem_map, List.mem_replicate] at hd
    rcases hd with ⟨x, _, rfl⟩ | ⟨_, rfl⟩ | ⟨_, rfl⟩ <;> rfl) (ownCells_len t 3 m (by omega)).symm (by omega) (fun x hx => by
      simp at hx
      rcases hx with rfl | rfl <;> exact .d)
theorem ownCells_take (t : List UInt8) (m : Int) : (ownCells t 3 m).take t.length = t.map byteD := by
  have : t.length = (t.map byteD).length := by simp
  rw [ownCells, this, List.take_left]
theorem ownCells_at (t : List UInt8) (m : Int) {i : Nat} (h : t.length ≤ i) (h' : i < t.length + 3) : at' (ownCells t 3 m) i = .int .u8 m := by
  simp only [at', ownCells, List.getD_eq_getElem?_getD]
  rw [List.getElem?_append_right (by simpa using h), List.getElem?_append_left (by simp; omega), List.getElem?_replicate, if_pos (by simp; omega)]
  rfl
theorem c29 (hmix : P.follows .mixedOrders = true) (h109 : HasF P (N 109) (C109 N)) (h108 : HasF P (N 108) (C108 N)) (h83 : HasF P (N 83) (C83 N)) (h : HasF P (N 29) (C29 N)) (t : List UInt8) (m : Int) (ht : t.length ≤ 140737488351232) :
    ACalls P (N 29) [.win (ownCells t 3 m) t.length, .d (bytesD t), .d (.int .u8 m)] [] (.d (.bool true)) [] := by
  refine acalls_of_body h 0 (fun x hx => AV.lt_of (by simp at hx; rcases hx with rfl | rfl | rfl <;> rfl)) (fun l o h => by cases h) .d (fun l o h => by cases h) (Nat.le_of_ble_eq_true rfl) ?_
  dsimp only [C29, startL]
  have hl := ownCells_len t 3 m (by omega)
  have hw : IntKind.i64.wrap ((t.length : Int) + 3) = ((t.length + 3 : Nat) : Int) := by rw [wrap_i64 (by omega) (by omega)]; rfl
  have h0 : decide (((t.length + 3 : Nat) : Int) < ((t.length + 3 : Nat) : Int)) = false := by simp
  have hc83 : ACalls P (N 83) [.win (ownCells t 3 m) t.length, .d (bytesD t)] [] (.d (.bool true)) [] := by
    have := c83 hmix h109 h108 h83 t t (by omega)
    simp only [decide_true] at this
    refine this.args rfl fun j h1 h2 => ?_
    match j with
    | 0 => exact Sub.sl (x := .win (ownCells t 3 m) t.length) (by simp only [toSl, ownCells_take])
    | 1 => exact Sub.refl _
  refine AWc.seq ?_
  refine AWc.run (l' := ?l10) (H' := ?h10) (n' := ?n10) (s := ?s10) [] (fun _ => false) (by omega) ?e10 ?p10 ?q10
  case e10 => simp only [runReg, gOn, evOp, evA, lk, cond_true, cond_false, Nat.beq, stepR, dstOK, newOK, topK, putL, appK, restK, hasK, addS, Option.bind_some, out, binA, toSrc, toSl, toEs, toE, toD, toDs, allAV, natListBeq, List.map_cons, List.map_nil, List.range, List.range.loop, lkH, decide_true, Nat.blt, Nat.ble, callOf, AV.scalar, D.isAgg, cellsAV, cellsAll, cells_int, cells_bool, cells_str, cells_sl, cells_agg, cells_fn, cells_nilp, cells_nilf, cells_nili, mkAgg, upd, loadA, oInt, zAV, buildF, nilEq, nilOf, nil0, nil1, nil2, mmA, mmL, zElem, Int.toNat_natCast, List.drop_zero, List.append_nil, List.cons_append, List.nil_append, Int.toNat_zero, Nat.zero_mul, Nat.mul_one, Nat.zero_add]; rfl
  case p10 => simp
  simp only [then', inBlk]
  refine AWc.seq ?_
  refine AWc.seq ?_
  refine AWc.run (l' := ?l11) (H' := ?h11) (n' := ?n11) (s := ?s11) [⟨.d (.bool true), [], []⟩] (fun _ => false) (by omega) ?e11 ?p11 ?q11
  case e11 => simp only [runReg, gOn, evOp, evA, lk, cond_true, cond_false, Nat.beq, stepR, dstOK, newOK, topK, putL, appK, restK, hasK, addS, Option.bind_some, out, binA, toSrc, toSl, toEs, toE, toD, toDs, allAV, natListBeq, List.map_cons, List.map_nil, List.range, List.range.loop, lkH, decide_true, Nat.blt, Nat.ble, callOf, AV.scalar, D.isAgg, cellsAV, cellsAll, cells_int, cells_bool, cells_str, cells_sl, cells_agg, cells_fn, cells_nilp, cells_nilf, cells_nili, mkAgg, upd, loadA, oInt, zAV, buildF, nilEq, nilOf, nil0, nil1, nil2, mmA, mmL, zElem, Int.toNat_natCast, List.drop_zero, List.append_nil, List.cons_append, List.nil_append, Int.toNat_zero, Nat.zero_mul, Nat.mul_one, Nat.zero_add, List.length_map, hw, hl, h0, Bool.not_true]; rfl
  case p11 => simp [hc83]
  simp only [then', inBlk]
  refine AWc.cond rfl (fun hc => ?_) (fun hc => ?_)
  · cases hc
  refine AWc.skip ?_
  simp only [then', inBlk]
  refine AWc.seq ?_
  refine AWc.run (l' := ?l12) (H' := ?h12) (n' := ?n12) (s := ?s12) [] (fun _ => false) (by omega) ?e12 ?p12 ?q12
  case e12 => simp only [runReg, gOn, evOp, evA, lk, cond_true, cond_false, Nat.beq, stepR, dstOK, newOK, topK, putL, appK, restK, hasK, addS, Option.bind_some, out, binA, toSrc, toSl, toEs, toE, toD, toDs, allAV, natListBeq, List.map_cons, List.map_nil, List.range, List.range.loop, lkH, decide_true, Nat.blt, Nat.ble, callOf, AV.scalar, D.isAgg, cellsAV, cellsAll, cells_int, cells_bool, cells_str, cells_sl, cells_agg, cells_fn, cells_nilp, cells_nilf, cells_nili, mkAgg, upd, loadA, oInt, zAV, buildF, nilEq, nilOf, nil0, nil1, nil2, mmA, mmL, zElem, Int.toNat_natCast, List.drop_zero, List.append_nil, List.cons_append, List.nil_append, Int.toNat_zero, Nat.zero_mul, Nat.mul_one, Nat.zero_add, List.length_map, hw, hl]; rfl
  case p12 => simp [hl]; omega
  simp only [then', inBlk]
  refine AWc.seq ?_
  refine AWc.seq ?_
  refine AWc.run (l' := ?l13) (H' := ?h13) (n' := ?n13) (s := ?s13) [] (fun _ => false) (by omega) ?e13 ?p13 ?q13
  case e13 => simp only [runReg, gOn, evOp, evA, lk, cond_true, cond_false, Nat.beq, stepR, dstOK, newOK, topK, putL, appK, restK, hasK, addS, Option.bind_some, out, binA, toSrc, toSl, toEs, toE, toD, toDs, allAV, natListBeq, List.map_cons, List.map_nil, List.range, List.range.loop, lkH, decide_true, Nat.blt, Nat.ble, callOf, AV.scalar, D.isAgg, cellsAV, cellsAll, cells_int, cells_bool, cells_str, cells_sl, cells_agg, cells_fn, cells_nilp, cells_nilf, cells_nili, mkAgg, upd, loadA, oInt, zAV, buildF, nilEq, nilOf, nil0, nil1, nil2, mmA, mmL, zElem, Int.toNat_natCast, List.drop_zero, List.append_nil, List.cons_append, List.nil_append, Int.toNat_zero, Nat.zero_mul, Nat.mul_one, Nat.zero_add, List.length_map]; rfl
  case p13 => simp
  simp only [then', inBlk]
  refine AWc.block ?_
  refine AWc.loopC (N := 40) 0 (fun (j : Nat) => [(8, .d (.int .i64 ((t.length + j : Nat) : Int))), (7, .win (ownCells t 3 m) (t.length + 3)), (2, .d (.int .u8 m))]) (fun j => [])
    (fun j => j ≤ 3) (fun j => 3 - j) 0 (Nat.zero_le _) (Nat.zero_le _) ⟨rfl, [], rfl, ⟨rfl, rfl, rfl, rfl, rfl, rfl, trivial⟩, trivial⟩ ?_
  intro j hj
  have htk : (ownCells t 3 m).take (t.length + 3) = ownCells t 3 m := List.take_of_length_le (by omega)
  refine AWc.seq ?_
  refine AWc.seq ?_
  refine AWc.run (l' := ?l14) (H' := ?h14) (n' := ?n14) (s := ?s14) [] (fun _ => false) (by omega) ?e14 ?p14 ?q14
  case e14 => simp only [runReg, gOn, evOp, evA, lk, cond_true, cond_false, Nat.beq, stepR, dstOK, newOK, topK, putL, appK, restK, hasK, addS, Option.bind_some, out, binA, toSrc, toSl, toEs, toE, toD, toDs, allAV, natListBeq, List.map_cons, List.map_nil, List.range, List.range.loop, lkH, decide_true, Nat.blt, Nat.ble, callOf, AV.scalar, D.isAgg, cellsAV, cellsAll, cells_int, cells_bool, cells_str, cells_sl, cells_agg, cells_fn, cells_nilp, cells_nilf, cells_nili, mkAgg, upd, loadA, oInt, zAV, buildF, nilEq, nilOf, nil0, nil1, nil2, mmA, mmL, zElem, Int.toNat_natCast, List.drop_zero, List.append_nil, List.cons_append, List.nil_append, Int.toNat_zero, Nat.zero_mul, Nat.mul_one, Nat.zero_add, hl, htk]; rfl
  case p14 => simp
  simp only [then', inBlk]
  refine AWc.cond rfl (fun hc => ?_) (fun hc => ?_)
  · have hj3 : j < 3 := by have := of_decide_eq_true hc; omega
    have hat := ownCells_at t m (i := t.length + j) (by omega) (by omega)
    have hne : decide (m ≠ m) = false := by simp
    refine AWc.skip ?_
    simp only [then', inBlk]
    refine AWc.seq ?_
    refine AWc.block ?_
    refine AWc.seq ?_
    refine AWc.run (l' := ?l15) (H' := ?h15) (n' := ?n15) (s := ?s15) [] (fun _ => false) (by omega) ?e15 ?p15 ?q15
    case e15 => simp only [runReg, gOn, evOp, evA, lk, cond_true, cond_false, Nat.beq, stepR, dstOK, newOK, topK, putL, appK, restK, hasK, addS, Option.bind_some, out, binA, toSrc, toSl, toEs, toE, toD, toDs, allAV, natListBeq, List.map_cons, List.map_nil, List.range, List.range.loop, lkH, decide_true, Nat.blt, Nat.ble, callOf, AV.scalar, D.isAgg, cellsAV, cellsAll, cells_int, cells_bool, cells_str, cells_sl, cells_agg, cells_fn, cells_nilp, cells_nilf, cells_nili, mkAgg, upd, loadA, oInt, zAV, buildF, nilEq, nilOf, nil0, nil1, nil2, mmA, mmL, zElem, Int.toNat_natCast, List.drop_zero, List.append_nil, List.cons_append, List.nil_append, Int.toNat_zero, Nat.zero_mul, Nat.mul_one, Nat.zero_add, htk, hat, hne]; rfl
    case p15 => simp [hl, hat, htk, D.cells]; omega
    simp only [then', inBlk]
    refine AWc.cond rfl (fun hc => ?_) (fun hc => ?_)
    · cases hc
    refine AWc.skip ?_
    simp only [then', inBlk]
    have hw1 : IntKind.i64.wrap (((t.length + j : Nat) : Int) + 1) = ((t.length + (j + 1) : Nat) : Int) := by rw [wrap_i64 (by omega) (by omega)]; omega
    refine AWc.run (l' := ?l16) (H' := ?h16) (n' := ?n16) (s := ?s16) [] (fun _ => false) (by omega) ?e16 ?p16 ?q16
    case e16 => simp only [runReg, gOn, evOp, evA, lk, cond_true, cond_false, Nat.beq, stepR, dstOK, newOK, topK, putL, appK, restK, hasK, addS, Option.bind_some, out, binA, toSrc, toSl, toEs, toE, toD, toDs, allAV, natListBeq, List.map_cons, List.map_nil, List.range, List.range.loop, lkH, decide_true, Nat.blt, Nat.ble, callOf, AV.scalar, D.isAgg, cellsAV, cellsAll, cells_int, cells_bool, cells_str, cells_sl, cells_agg, cells_fn, cells_nilp, cells_nilf, cells_nili, mkAgg, upd, loadA, oInt, zAV, buildF, nilEq, nilOf, nil0, nil1, nil2, mmA, mmL, zElem, Int.toNat_natCast, List.drop_zero, List.append_nil, List.cons_append, List.nil_append, Int.toNat_zero, Nat.zero_mul, Nat.mul_one, Nat.zero_add]; rfl
    case p16 => simp
    simp only [then', inBlk]
    refine ⟨j + 1, by omega, ⟨rfl, [], rfl, ⟨?_, rfl, rfl, rfl, rfl, rfl, trivial⟩, trivial⟩, by omega⟩
    simp only [lk, cond_true, cond_false, Nat.beq, AV.ren, hw1]
  · refine AWc.exit ?_
    simp only [then', inBlk, if_true]
    refine AWc.seq ?_
    refine AWc.run (l' := ?l17) (H' := ?h17) (n' := ?n17) (s := ?s17) [] (fun _ => false) (by omega) ?e17 ?p17 ?q17
    case e17 => simp only [runReg, gOn, evOp, evA, lk, cond_true, cond_false, Nat.beq, stepR, dstOK, newOK, topK, putL, appK, restK, hasK, addS, Option.bind_some, out, binA, toSrc, toSl, toEs, toE, toD, toDs, allAV, natListBeq, List.map_cons, List.map_nil, List.range, List.range.loop, lkH, decide_true, Nat.blt, Nat.ble, callOf, AV.scalar, D.isAgg, cellsAV, cellsAll, cells_int, cells_bool, cells_str, cells_sl, cells_agg, cells_fn, cells_nilp, cells_nilf, cells_nili, mkAgg, upd, loadA, oInt, zAV, buildF, nilEq, nilOf, nil0, nil1, nil2, mmA, mmL, zElem, Int.toNat_natCast, List.drop_zero, List.append_nil, List.cons_append, List.nil_append, Int.toNat_zero, Nat.zero_mul, Nat.mul_one, Nat.zero_add]; rfl
    case p17 => simp
    simp only [then', inBlk]
    exact AWc.ret ⟨.inr rfl, _, _, rfl, by simp, rfl, fun x hx => hx⟩
set_option maxRecDepth 100000 in
theorem c3 (hmix : P.follows .mixedOrders = true) (h20 : HasF P (N 20) (C20 N)) (h21 : HasF P (N 21) (C21 N)) (h22 : HasF P (N 22) (C22 N)) (h23 : HasF P (N 23) (C23 N)) (h24 : HasF P (N 24) (C24 N)) (h25 : HasF P (N 25) (C25 N)) (h26 : HasF P (N 26) (C26 N)) (h27 : HasF P (N 27) (C27 N)) (h28 : HasF P (N 28) (C28 N))
    (h29 : HasF P (N 29) (C29 N)) (h82 : HasF P (N 82) (C82 N)) (h83 : HasF P (N 83) (C83 N)) (h108 : HasF P (N 108) (C108 N)) (h109 : HasF P (N 109) (C109 N)) (h : HasF P (N 3) (C3 N))
    (u : Nat) (a : Int) (t : List UInt8) (hu : u < 18446744073709551616) (ha : -9223372036854775808 ≤ a) (ha' : a < 9223372036854775808) :
    ACalls P (N 3) [.d (.int .u64 u), .d (.int .i64 a), .d (bytesD t)] [] (.d (.bool true)) [] := by
  have h20' := c20 h23 h82 h25 h27 h20
  refine acalls_of_body h 0 (fun x hx => AV.lt_of (by simp at hx; rcases hx with rfl | rfl | rfl <;> rfl)) (fun l o h => by cases h) .d (fun l o h => by cases h) (Nat.le_of_ble_eq_true rfl) ?_
  dsimp only [C3, startL]
  refine AWc.seq ?_
  refine AWc.run (l' := ?l18) (H' := ?h18) (n' := ?n18) (s := ?s18) [] (fun _ => false) (by omega) ?e18 ?p18 ?q18
  case e18 => simp only [runReg, gOn, evOp, evA, lk, cond_true, cond_false, Nat.beq, stepR, dstOK, newOK, topK, putL, appK, restK, hasK, addS, Option.bind_some, out, binA, toSrc, toSl, toEs, toE, toD, toDs, allAV, natListBeq, List.map_cons, List.map_nil, List.range, List.range.loop, lkH, decide_true, Nat.blt, Nat.ble, callOf, AV.scalar, D.isAgg, cellsAV, cellsAll, cells_int, cells_bool, cells_str, cells_sl, cells_agg, cells_fn, cells_nilp, cells_nilf, cells_nili, mkAgg, upd, loadA, oInt, zAV, buildF, nilEq, nilOf, nil0, nil1, nil2, mmA, mmL, zElem, Int.toNat_natCast, List.drop_zero, List.append_nil, List.cons_append, List.nil_append, Int.toNat_zero, Nat.zero_mul, Nat.mul_one, Nat.zero_add]; rfl
  case p18 => simp
  simp only [then', inBlk]
  refine AWc.seq ?_
  refine AWc.seq ?_
  refine AWc.run (l' := ?l19) (H' := ?h19) (n' := ?n19) (s := ?s19) [] (fun _ => false) (by omega) ?e19 ?p19 ?q19
  case e19 => simp only [runReg, gOn, evOp, evA, lk, cond_true, cond_false, Nat.beq, stepR, dstOK, newOK, topK, putL, appK, restK, hasK, addS, Option.bind_some, out, binA, toSrc, toSl, toEs, toE, toD, toDs, allAV, natListBeq, List.map_cons, List.map_nil, List.range, List.range.loop, lkH, decide_true, Nat.blt, Nat.ble, callOf, AV.scalar, D.isAgg, cellsAV, cellsAll, cells_int, cells_bool, cells_str, cells_sl, cells_agg, cells_fn, cells_nilp, cells_nilf, cells_nili, mkAgg, upd, loadA, oInt, zAV, buildF, nilEq, nilOf, nil0, nil1, nil2, mmA, mmL, zElem, Int.toNat_natCast, List.drop_zero, List.append_nil, List.cons_append, List.nil_append, Int.toNat_zero, Nat.zero_mul, Nat.mul_one, Nat.zero_add, List.length_map]; rfl
  case p19 => simp
  simp only [then', inBlk]
  refine AWc.cond rfl (fun hc => ?_) (fun hc => ?_)
  · refine AWc.seq ?_
    refine AWc.run (l' := ?l20) (H' := ?h20) (n' := ?n20) (s := ?s20) [⟨.d (.bool true), [], []⟩] (fun _ => false) (by omega) ?e20 ?p20 ?q20
    case e20 => simp only [runReg, gOn, evOp, evA, lk, cond_true, cond_false, Nat.beq, stepR, dstOK, newOK, topK, putL, appK, restK, hasK, addS, Option.bind_some, out, binA, toSrc, toSl, toEs, toE, toD, toDs, allAV, natListBeq, List.map_cons, List.map_nil, List.range, List.range.loop, lkH, decide_true, Nat.blt, Nat.ble, callOf, AV.scalar, D.isAgg, cellsAV, cellsAll, cells_int, cells_bool, cells_str, cells_sl, cells_agg, cells_fn, cells_nilp, cells_nilf, cells_nili, mkAgg, upd, loadA, oInt, zAV, buildF, nilEq, nilOf, nil0, nil1, nil2, mmA, mmL, zElem, Int.toNat_natCast, List.drop_zero, List.append_nil, List.cons_append, List.nil_append, Int.toNat_zero, Nat.zero_mul, Nat.mul_one, Nat.zero_add]; rfl
    case p20 => simp [h20']
    simp only [then', inBlk]
    exact AWc.ret ⟨.inr rfl, _, _, rfl, by simp, rfl, fun x hx => hx⟩
  have ht : t.length ≤ 5000 := by have := of_decide_eq_false hc; omega
  have hz := zz_lt ha ha'
  refine AWc.skip ?_
  simp only [then', inBlk]
  refine AWc.seq ?_
  refine AWc.run (l' := ?l21) (H' := ?h21) (n' := ?n21) (s := ?s21) [⟨.win (ownCells t 3 71) t.length, [], []⟩] (fun _ => false) (by omega) ?e21 ?p21 ?q21
  case e21 => simp only [runReg, gOn, evOp, evA, lk, cond_true, cond_false, Nat.beq, stepR, dstOK, newOK, topK, putL, appK, restK, hasK, addS, Option.bind_some, out, binA, toSrc, toSl, toEs, toE, toD, toDs, allAV, natListBeq, List.map_cons, List.map_nil, List.range, List.range.loop, lkH, decide_true, Nat.blt, Nat.ble, callOf, AV.scalar, D.isAgg, cellsAV, cellsAll, cells_int, cells_bool, cells_str, cells_sl, cells_agg, cells_fn, cells_nilp, cells_nilf, cells_nili, mkAgg, upd, loadA, oInt, zAV, buildF, nilEq, nilOf, nil0, nil1, nil2, mmA, mmL, zElem, Int.toNat_natCast, List.drop_zero, List.append_nil, List.cons_append, List.nil_append, Int.toNat_zero, Nat.zero_mul, Nat.mul_one, Nat.zero_add]; rfl
  case p21 => simp [c21 h21 t 71 (by omega)]
  simp only [then', inBlk]
  have eqv : ∀ (x : List UInt8) (k l : Nat), ACalls P (N 22) [.ap k 1 (x.map byteD), .ap l 1 (x.map byteD)] [] (.d (.bool true)) [] := by
    intro x k l
    have := c22 h22 x x
    simp only [decide_true] at this
    refine this.args rfl fun j h1 h2 => ?_
    match j with
    | 0 => exact Sub.sl (x := .ap k 1 (x.map byteD)) rfl
    | 1 => exact Sub.sl (x := .ap l 1 (x.map byteD)) rfl
  have atk : ∀ (f : FuncId) (xs : List D) (x : List UInt8) (k : Nat), ACalls P f (xs.map .d) [] (.ap 0 1 (x.map byteD)) [(0, .tok x.length)] → ACalls P f (xs.map .d) [] (.ap k 1 (x.map byteD)) [(k, .tok x.length)] := by
    intro f xs x k hx
    refine hx.at k 1 rfl rfl ?_ rfl rfl
    rw [List.map_map]
    rfl
  refine AWc.seq ?_
  have k23 := c23 h23 u hu
  have k24 : ACalls P (N 24) [.d (.int .u64 u)] [] (.ap 1 1 ((leb u).map byteD)) [(1, .tok (leb u).length)] := atk _ [.int .u64 u] _ 1 (c24 h24 u hu)
  have k25 : ACalls P (N 25) [.d (.int .i64 a)] [] (.ap 2 1 ((leb (zz a)).map byteD)) [(2, .tok (leb (zz a)).length)] := atk _ [.int .i64 a] _ 2 (c25 h23 h82 h25 a ha ha')
  have k26 : ACalls P (N 26) [.d (.int .i64 a)] [] (.ap 3 1 ((leb (zz a)).map byteD)) [(3, .tok (leb (zz a)).length)] := atk _ [.int .i64 a] _ 3 (c26 h24 h26 a ha ha')
  have k27 : ACalls P (N 27) [.win (ownCells t 3 71) t.length] [] (.ap 4 1 ((textB t).map byteD)) [(4, .tok (textB t).length)] := by
    refine (atk _ [bytesD t] _ 4 (c27 h23 h82 h25 h27 t (by omega))).args rfl fun j h1 h2 => ?_
    match j with
    | 0 => exact Sub.sl (x := .win (ownCells t 3 71) t.length) (by simp only [toSl, ownCells_take])
  have k28 : ACalls P (N 28) [.d (bytesD t)] [] (.ap 5 1 ((textB t).map byteD)) [(5, .tok (textB t).length)] := atk _ [bytesD t] _ 5 (c28 h24 h26 h28 t (by omega))
  have k29 := c29 hmix h109 h108 h83 h29 t 71 (by omega)
  refine AWc.pieces (Nat.zero_le _) ?_
  refine RegTo.piece (k' := 9) (l' := ?l22) (H' := ?h22) (c' := ?n22) (s := ?s22) 9 [⟨.d (.bool true), [], []⟩, ⟨.ap 0 1 ((leb u).map byteD), [], [(0, .tok (leb u).length)]⟩, ⟨.ap 1 1 ((leb u).map byteD), [], [(1, .tok (leb u).length)]⟩, ⟨.d (.bool true), [], []⟩] (fun _ => false) _ rfl (Nat.le_of_ble_eq_true rfl) rfl ?e22 ?p22 ?q22
  case e22 => simp only [List.drop_succ_cons, List.take_succ_cons, List.take_zero, runReg, gOn, evOp, evA, lk, cond_true, cond_false, Nat.beq, stepR, dstOK, newOK, topK, putL, appK, restK, hasK, addS, Option.bind_some, out, binA, toSrc, toSl, toEs, toE, toD, toDs, allAV, natListBeq, List.map_cons, List.map_nil, List.range, List.range.loop, lkH, decide_true, Nat.blt, Nat.ble, callOf, AV.scalar, D.isAgg, cellsAV, cellsAll, cells_int, cells_bool, cells_str, cells_sl, cells_agg, cells_fn, cells_nilp, cells_nilf, cells_nili, mkAgg, upd, loadA, oInt, zAV, buildF, nilEq, nilOf, nil0, nil1, nil2, mmA, mmL, zElem, Int.toNat_natCast, List.drop_zero, List.append_nil, List.cons_append, List.nil_append, Int.toNat_zero, Nat.zero_mul, Nat.mul_one, Nat.zero_add]; rfl
  case p22 => simp [h20', eqv, k23, k24]
  refine RegTo.piece (k' := 16) (l' := ?l23) (H' := ?h23) (c' := ?n23) (s := ?s23) 7 [⟨.ap 2 1 ((leb (zz a)).map byteD), [], [(2, .tok (leb (zz a)).length)]⟩, ⟨.ap 3 1 ((leb (zz a)).map byteD), [], [(3, .tok (leb (zz a)).length)]⟩, ⟨.d (.bool true), [], []⟩] (fun _ => false) _ rfl (Nat.le_of_ble_eq_true rfl) rfl ?e23 ?p23 ?q23
  case e23 => simp only [List.drop_succ_cons, List.take_succ_cons, List.take_zero, runReg, gOn, evOp, evA, lk, cond_true, cond_false, Nat.beq, stepR, dstOK, newOK, topK, putL, appK, restK, hasK, addS, Option.bind_some, out, binA, toSrc, toSl, toEs, toE, toD, toDs, allAV, natListBeq, List.map_cons, List.map_nil, List.range, List.range.loop, lkH, decide_true, Nat.blt, Nat.ble, callOf, AV.scalar, D.isAgg, cellsAV, cellsAll, cells_int, cells_bool, cells_str, cells_sl, cells_agg, cells_fn, cells_nilp, cells_nilf, cells_nili, mkAgg, upd, loadA, oInt, zAV, buildF, nilEq, nilOf, nil0, nil1, nil2, mmA, mmL, zElem, Int.toNat_natCast, List.drop_zero, List.append_nil, List.cons_append, List.nil_append, Int.toNat_zero, Nat.zero_mul, Nat.mul_one, Nat.zero_add]; rfl
  case p23 => simp [eqv, k25, k26]
  refine RegTo.piece (k' := 23) (l' := ?l24) (H' := ?h24) (c' := ?n24) (s := ?s24) 7 [⟨.ap 4 1 ((textB t).map byteD), [], [(4, .tok (textB t).length)]⟩, ⟨.ap 5 1 ((textB t).map byteD), [], [(5, .tok (textB t).length)]⟩, ⟨.d (.bool true), [], []⟩] (fun _ => false) _ rfl (Nat.le_of_ble_eq_true rfl) rfl ?e24 ?p24 ?q24
  case e24 => simp only [List.drop_succ_cons, List.take_succ_cons, List.take_zero, runReg, gOn, evOp, evA, lk, cond_true, cond_false, Nat.beq, stepR, dstOK, newOK, topK, putL, appK, restK, hasK, addS, Option.bind_some, out, binA, toSrc, toSl, toEs, toE, toD, toDs, allAV, natListBeq, List.map_cons, List.map_nil, List.range, List.range.loop, lkH, decide_true, Nat.blt, Nat.ble, callOf, AV.scalar, D.isAgg, cellsAV, cellsAll, cells_int, cells_bool, cells_str, cells_sl, cells_agg, cells_fn, cells_nilp, cells_nilf, cells_nili, mkAgg, upd, loadA, oInt, zAV, buildF, nilEq, nilOf, nil0, nil1, nil2, mmA, mmL, zElem, Int.toNat_natCast, List.drop_zero, List.append_nil, List.cons_append, List.nil_append, Int.toNat_zero, Nat.zero_mul, Nat.mul_one, Nat.zero_add]; rfl
  case p24 => simp [eqv, k27, k28]
  refine RegTo.piece (k' := 28) (l' := ?l25) (H' := ?h25) (c' := ?n25) (s := ?s25) 5 [⟨.d (.bool true), [], []⟩] (fun _ => false) _ rfl (Nat.le_of_ble_eq_true rfl) rfl ?e25 ?p25 ?q25
  case e25 => simp only [List.drop_succ_cons, List.take_succ_cons, List.take_zero, runReg, gOn, evOp, evA, lk, cond_true, cond_false, Nat.beq, stepR, dstOK, newOK, topK, putL, appK, restK, hasK, addS, Option.bind_some, out, binA, toSrc, toSl, toEs, toE, toD, toDs, allAV, natListBeq, List.map_cons, List.map_nil, List.range, List.range.loop, lkH, decide_true, Nat.blt, Nat.ble, callOf, AV.scalar, D.isAgg, cellsAV, cellsAll, cells_int, cells_bool, cells_str, cells_sl, cells_agg, cells_fn, cells_nilp, cells_nilf, cells_nili, mkAgg, upd, loadA, oInt, zAV, buildF, nilEq, nilOf, nil0, nil1, nil2, mmA, mmL, zElem, Int.toNat_natCast, List.drop_zero, List.append_nil, List.cons_append, List.nil_append, Int.toNat_zero, Nat.zero_mul, Nat.mul_one, Nat.zero_add]; rfl
  case p25 => simp [k29]
  refine RegTo.done rfl ?_
  simp only [then', inBlk]
  exact AWc.ret ⟨.inr rfl, _, _, rfl, by simp, rfl, fun x hx => by cases hx⟩
end
end Go.Proofs.Abs
