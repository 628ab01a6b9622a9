/- Written by gen.py: functions of the program as Lean functions, and that the code comes to them. -/
import Derived.Test.YtgimibhacllcpaaAbs41
set_option linter.unusedVariables false
set_option linter.unusedSimpArgs false
set_option maxRecDepth 100000
set_option maxHeartbeats 4000000
namespace Go.Proofs.Abs
open Go
structure TSpot where
  fOffset : Int
  fAt : Int
instance : Inhabited TSpot := ⟨⟨default, default⟩⟩
instance : DecidableEq TSpot := fun a b => decidable_of_iff (a.fOffset = b.fOffset ∧ a.fAt = b.fAt ∧ True) ⟨fun h => by cases a; cases b; simp_all, fun h => by subst h; simp⟩
def TSpot.enc (x : TSpot) : D := .agg [.int .u64 x.fOffset, .int .i64 x.fAt]
theorem TSpot.ok : EncOK TSpot.enc 2 true := ⟨fun _ => rfl, fun _ c hc => by simp only [TSpot.enc, D.cells, List.mem_cons, List.not_mem_nil, or_false] at hc; rcases hc with rfl | rfl <;> rfl, fun _ => rfl⟩
def TSpot.wf (x : TSpot) : Prop := (0 ≤ x.fOffset ∧ x.fOffset ≤ 18446744073709551615) ∧ (-9223372036854775808 ≤ x.fAt ∧ x.fAt ≤ 9223372036854775807) ∧ True
def TSpot.sz (x : TSpot) : Nat := (1 + (1 + 0)) + 1
/-- slices.Clone[[]courant/api.Spot,courant/api.Spot] -/
def C209 (N : Nat → Nat) : AFunc := { n := 8, params := 1, res := [.tmp 2], body :=
 (.seq (.region false [⟨(some 2), .mv (.k .nils), none, []⟩])
  (.seq (.seq (.region false [⟨(some 3), .mv (.t 0), none, []⟩,
     ⟨(some 4), .nileq 0 false (.t 3) (.k .nils), none, [0]⟩])
    (.cond (.t 4) (.seq (.region false [⟨(some 2), .mv (.k .nils), none, []⟩])
      .ret)
     (.skip)))
   (.seq (.region false [⟨(some 5), .bslice 0 2 [(.int .u64 0), (.int .i64 0)] [], none, []⟩,
     ⟨(some 6), .mv (.t 0), none, []⟩,
     ⟨(some 7), .app (.t 5) (.t 6) 2 16 [(.int .u64 0), (.int .i64 0)], none, [0, 1]⟩,
     ⟨(some 2), .mv (.t 7), none, [2, 0, 1]⟩])
    .ret))) }
def HC209 (P : Program) (N : Nat → Nat) : Prop := HasF P (N 209) (C209 N)
def f209 (k : Nat) (a0 : List TSpot) : Option (List TSpot) := gd (a0.length * 2 * 16 ≤ 281474976710656) (some a0)
theorem F209 {P : Program} {N : Nat → Nat} (hmix : P.follows .mixedOrders = true) (hc : HC209 P N) {k : Nat} {a0 r : List TSpot} (h : f209 k a0 = some r) :
    ACalls P (N 209) [(.d (.sl (List.map TSpot.enc a0)))] [] (.ap 0 2 (List.map TSpot.enc r)) [(0, (.tok ((List.map TSpot.enc r).length * 2)))] := by
  unfold f209 at h
  obtain ⟨b, h⟩ := gd_some h
  cases h
  exact clone_gen hmix TSpot.ok hc rfl rfl b
/-- courant/index.Right -/
def C200 (N : Nat → Nat) : AFunc := { n := 54, params := 1, res := [.tmp 2], body :=
 (.seq (.region false [⟨(some 2), .mv (.k (.d (.bool false))), none, []⟩])
  (.seq (.seq (.region false [⟨(some 5), .mv (.t 0), none, []⟩,
     ⟨(some 6), .len (.t 5), none, [0]⟩,
     ⟨(some 7), .mv (.k (.d (.int .i64 0))), none, []⟩])
    (.block 0 (.loop (.seq (.region false [⟨(some 8), .bin .lss (.t 7) (.t 6), none, []⟩])
       (.seq (.cond (.t 8) (.skip)
         (.exit 0))
        (.seq (.block 1 (.seq (.region false [⟨(some 9), .mv (.t 7), none, []⟩,
            ⟨(some 10), .iaddr (.t 5) (.t 7) 2, none, []⟩,
            ⟨(some 11), .load (.t 10) 2 true, none, [1]⟩,
            ⟨(some 4), .alloc [(.int .u64 0), (.int .i64 0)], none, []⟩,
            ⟨(some 3), .mv (.t 9), none, [0, 1, 2, 3]⟩,
            ⟨none, .store (.t 4) (.t 11) 2, none, [3, 2, 4, 0, 1]⟩])
           (.seq (.region true [⟨(some 12), .faddr (.t 4) 1, none, []⟩,
             ⟨(some 13), .load (.t 12) 1 false, none, [0]⟩,
             ⟨(some 14), .bin .lss (.t 13) (.k (.d (.int .i64 0))), none, [1]⟩,
             ⟨(some 15), .mv (.t 14), none, [2]⟩,
             ⟨(some 16), .mv (.t 3), (some (15, false)), [3]⟩,
             ⟨(some 17), .bin .gtr (.t 16) (.k (.d (.int .i64 0))), (some (15, false)), [4, 3]⟩,
             ⟨(some 18), .mv (.t 17), (some (15, false)), [5, 3]⟩,
             ⟨(some 19), .faddr (.t 4) 0, (some (18, true)), [6]⟩,
             ⟨(some 20), .load (.t 19) 1 false, (some (18, true)), [7, 6]⟩,
             ⟨(some 21), .mv (.t 0), (some (18, true)), [6]⟩,
             ⟨(some 22), .mv (.t 3), (some (18, true)), [6]⟩,
             ⟨(some 23), .bin .sub (.t 22) (.k (.d (.int .i64 1))), (some (18, true)), [10, 6]⟩,
             ⟨(some 24), .iaddr (.t 21) (.t 23) 2, (some (18, true)), [9, 11, 6]⟩,
             ⟨(some 25), .faddr (.t 24) 0, (some (18, true)), [12, 6]⟩,
             ⟨(some 26), .load (.t 25) 1 false, (some (18, true)), [13, 6]⟩,
             ⟨(some 27), .bin .leq (.t 20) (.t 26), (some (18, true)), [8, 14, 6]⟩,
             ⟨(some 28), .mv (.t 27), (some (18, true)), [15, 6]⟩,
             ⟨(some 29), .faddr (.t 4) 1, (some (28, false)), [16]⟩,
             ⟨(some 30), .load (.t 29) 1 false, (some (28, false)), [17, 16]⟩,
             ⟨(some 31), .mv (.t 0), (some (28, false)), [16]⟩,
             ⟨(some 32), .mv (.t 3), (some (28, false)), [16]⟩,
             ⟨(some 33), .bin .sub (.t 32) (.k (.d (.int .i64 1))), (some (28, false)), [20, 16]⟩,
             ⟨(some 34), .iaddr (.t 31) (.t 33) 2, (some (28, false)), [19, 21, 16]⟩,
             ⟨(some 35), .faddr (.t 34) 1, (some (28, false)), [22, 16]⟩,
             ⟨(some 36), .load (.t 35) 1 false, (some (28, false)), [23, 16]⟩,
             ⟨(some 37), .bin .lss (.t 30) (.t 36), (some (28, false)), [18, 24, 16]⟩,
             ⟨(some 38), .pick (.t 28) (.k (.d (.bool true))) (.t 37), (some (18, true)), [16, 25, 6]⟩,
             ⟨(some 39), .mv (.t 38), (some (18, true)), [26, 16, 6]⟩,
             ⟨(some 40), .faddr (.t 4) 1, (some (39, false)), [27]⟩,
             ⟨(some 41), .load (.t 40) 1 false, (some (39, false)), [28, 27]⟩,
             ⟨(some 42), .mv (.t 0), (some (39, false)), [27]⟩,
             ⟨(some 43), .mv (.t 3), (some (39, false)), [27]⟩,
             ⟨(some 44), .bin .sub (.t 43) (.k (.d (.int .i64 1))), (some (39, false)), [31, 27]⟩,
             ⟨(some 45), .iaddr (.t 42) (.t 44) 2, (some (39, false)), [30, 32, 27]⟩,
             ⟨(some 46), .faddr (.t 45) 1, (some (39, false)), [33, 27]⟩,
             ⟨(some 47), .load (.t 46) 1 false, (some (39, false)), [34, 27]⟩,
             ⟨(some 48), .bin .sub (.t 41) (.t 47), (some (39, false)), [29, 35, 27]⟩,
             ⟨(some 49), .bin .lss (.t 48) (.k (.d (.int .i64 512))), (some (39, false)), [36, 27]⟩,
             ⟨(some 50), .pick (.t 39) (.k (.d (.bool true))) (.t 49), (some (18, true)), [27, 37, 6]⟩,
             ⟨(some 51), .pick (.t 18) (.t 50) (.k (.d (.bool false))), (some (15, false)), [6, 38, 3]⟩,
             ⟨(some 52), .pick (.t 15) (.k (.d (.bool true))) (.t 51), none, [3, 39]⟩])
            (.cond (.t 52) (.seq (.region false [⟨(some 2), .mv (.k (.d (.bool false))), none, []⟩])
              .ret)
             (.skip)))))
         (.region false [⟨(some 53), .bin .add (.t 7) (.k (.d (.int .i64 1))), none, []⟩,
          ⟨(some 7), .mv (.t 53), none, [0]⟩])))))))
   (.seq (.region false [⟨(some 2), .mv (.k (.d (.bool true))), none, []⟩])
    .ret))) }
def HC200 (P : Program) (N : Nat → Nat) : Prop := HasF P (N 200) (C200 N)
def f200_l12 (a0 : (List TSpot)) : Nat → Int → Option (LR2 Unit Unit Bool)
  | 0, _ => none
  | k + 1, y12_1 => cond (decide (y12_1 < ((a0.length : Nat) : Int))) (gd (0 ≤ y12_1 ∧ y12_1 < ((a0.length : Nat) : Int)) (cond (decide ((rd a0 y12_1).fAt < (0 : Int))) (some (.r false)) (cond (decide (y12_1 > (0 : Int))) (gd (0 ≤ (IntKind.i64.wrap (y12_1 - (1 : Int))) ∧ (IntKind.i64.wrap (y12_1 - (1 : Int))) < ((a0.length : Nat) : Int)) (cond (decide ((rd a0 y12_1).fOffset ≤ (rd a0 (IntKind.i64.wrap (y12_1 - (1 : Int)))).fOffset)) (some (.r false)) (gd (0 ≤ (IntKind.i64.wrap (y12_1 - (1 : Int))) ∧ (IntKind.i64.wrap (y12_1 - (1 : Int))) < ((a0.length : Nat) : Int)) (cond (decide ((rd a0 y12_1).fAt < (rd a0 (IntKind.i64.wrap (y12_1 - (1 : Int)))).fAt)) (some (.r false)) (gd (0 ≤ (IntKind.i64.wrap (y12_1 - (1 : Int))) ∧ (IntKind.i64.wrap (y12_1 - (1 : Int))) < ((a0.length : Nat) : Int)) (cond (decide ((IntKind.i64.wrap ((rd a0 y12_1).fAt - (rd a0 (IntKind.i64.wrap (y12_1 - (1 : Int)))).fAt)) < (512 : Int))) (some (.r false)) (f200_l12 a0 k (IntKind.i64.wrap (y12_1 + (1 : Int)))))))))) (f200_l12 a0 k (IntKind.i64.wrap (y12_1 + (1 : Int))))))) (some (.b0 ()))
def f200 (k : Nat) (a0 : (List TSpot)) : Option Bool := (f200_l12 a0 k (0 : Int)).bind fun o12 => match o12 with | .b0 () => some true | .r x => some x | _ => none
theorem F200 {P : Program} {N : Nat → Nat} (hmix : P.follows .mixedOrders = true) (hc : HC200 P N) {k : Nat} {a0 : (List TSpot)} {r : Bool} (h : f200 k a0 = some r) :
    ACalls P (N 200) [(.d (.sl (List.map TSpot.enc a0)))] [] (.d (.bool r)) [] := by
  refine acalls_canon (F := C200 N) hc 0 0 rfl ?_
  unfold f200 at h
  dsimp only [C200, startL]
  refine AWc.seq ?_
  refine AWc.rg hmix rfl rfl ?_
  refine RegV.p0 rfl rfl rfl ?_
  refine RegV.nil0 ?_
  refine AWc.seq ?_
  refine AWc.seq ?_
  refine AWc.rg hmix rfl rfl ?_
  refine RegV.p0 rfl rfl rfl ?_
  refine RegV.len (xs := a0) (e := TSpot.enc) rfl rfl rfl rfl ?_
  refine RegV.p0 rfl rfl rfl ?_
  refine RegV.nil0 ?_
  obtain ⟨o12, h12, h⟩ := bind_some h
  refine AWc.block ?_
  refine AWc.loopK (N := 54) 0 (fun (x : Int) => [(0, (.d (.sl (List.map TSpot.enc a0)))), (5, (.d (.sl (List.map TSpot.enc a0)))), (6, (.d (.int .i64 ((a0.length : Nat) : Int)))), (7, (.d (.int .i64 x)))]) (fun x => []) (fun k x => f200_l12 a0 k x = some o12) k (0 : Int) rfl_le (fun x hx => by cases hx) h12 ⟨rfl, [], [], rfl, rfl, ⟨⟨_, rfl, (.refl _)⟩, rfl, ⟨⟨_, rfl, (.refl _)⟩, rfl, ⟨⟨_, rfl, (.refl _)⟩, rfl, ⟨⟨_, rfl, (.refl _)⟩, rfl, trivial⟩⟩⟩⟩,  trivial⟩ ?_
  clear h12
  intro k
  intro y12_1 h12
  rw [f200_l12] at h12
  refine AWc.seq ?_
  refine AWc.rg hmix rfl rfl ?_
  refine RegV.p0 (v := (.d (.bool (decide (y12_1 < ((a0.length : Nat) : Int)))))) rfl rfl rfl ?_
  refine RegV.nil0 ?_
  refine AWc.seq ?_
  refine AWc.cond rfl (fun c19 => ?_) (fun c19 => ?_)
  · have h12 := cond_pos c19 h12
    refine AWc.skip ?_
    refine AWc.seq ?_
    refine AWc.block ?_
    refine AWc.seq ?_
    refine AWc.rg hmix rfl rfl ?_
    refine RegV.p0 rfl rfl rfl ?_
    obtain ⟨b28, h12⟩ := gd_some h12
    refine RegV.iad (xs := a0) (e := TSpot.enc) rfl rfl rfl rfl (fun _ => rfl) b28 rfl ?_
    refine RegV.p1 (v := (.d (TSpot.enc (rd a0 y12_1)))) rfl rfl rfl rfl rfl ?_
    refine RegV.evS (own := false) (v := (.ptr 0 0)) (H' := [(0, (.cells [(.d (.int .u64 (0 : Int))), (.d (.int .i64 (0 : Int)))]))]) (c' := 1) rfl rfl trivial rfl rfl rfl rfl rfl rfl ?_
    refine RegV.p0 rfl rfl rfl ?_
    refine RegV.evN (own := false) (H' := [(0, (.cells [(.d (.int .u64 (rd a0 y12_1).fOffset)), (.d (.int .i64 (rd a0 y12_1).fAt))]))]) (c' := 1) rfl rfl (by exact ⟨rfl, Nat.le_of_ble_eq_true rfl, rfl⟩) rfl rfl rfl rfl ?_
    refine RegV.nil0 ?_
    refine AWc.seq ?_
    refine AWc.rg hmix rfl rfl ?_
    refine RegV.p0 (v := (.ptr 0 1)) rfl rfl rfl ?_
    refine RegV.ld (v := (.d (.int .i64 (rd a0 y12_1).fAt))) (H' := [(0, (.cells [(.d (.int .u64 (rd a0 y12_1).fOffset)), (.d (.int .i64 (rd a0 y12_1).fAt))]))]) rfl rfl trivial rfl rfl rfl rfl rfl ?_
    refine RegV.p0 (v := (.d (.bool (decide ((rd a0 y12_1).fAt < (0 : Int)))))) rfl rfl rfl ?_
    refine RegV.p0 rfl rfl rfl ?_
    refine RegV.split (fun c39 => ?_) (fun c39 => ?_)
    · have h12 := cond_pos c39 h12
      refine RegV.noS rfl rfl ?_
      refine RegV.noS rfl rfl ?_
      refine RegV.noS rfl rfl ?_
      refine RegV.noS rfl rfl ?_
      refine RegV.noS rfl rfl ?_
      refine RegV.noS rfl rfl ?_
      refine RegV.noS rfl rfl ?_
      refine RegV.noS rfl rfl ?_
      refine RegV.noS rfl rfl ?_
      refine RegV.noS rfl rfl ?_
      refine RegV.noS rfl rfl ?_
      refine RegV.noS rfl rfl ?_
      refine RegV.noS rfl rfl ?_
      refine RegV.noS rfl rfl ?_
      refine RegV.noS rfl rfl ?_
      refine RegV.noS rfl rfl ?_
      refine RegV.noS rfl rfl ?_
      refine RegV.noS rfl rfl ?_
      refine RegV.noS rfl rfl ?_
      refine RegV.noS rfl rfl ?_
      refine RegV.noS rfl rfl ?_
      refine RegV.noS rfl rfl ?_
      refine RegV.noS rfl rfl ?_
      refine RegV.noS rfl rfl ?_
      refine RegV.noS rfl rfl ?_
      refine RegV.noS rfl rfl ?_
      refine RegV.noS rfl rfl ?_
      refine RegV.noS rfl rfl ?_
      refine RegV.noS rfl rfl ?_
      refine RegV.noS rfl rfl ?_
      refine RegV.noS rfl rfl ?_
      refine RegV.noS rfl rfl ?_
      refine RegV.noS rfl rfl ?_
      refine RegV.noS rfl rfl ?_
      refine RegV.noS rfl rfl ?_
      refine RegV.noS rfl rfl ?_
      refine RegV.p0 rfl rfl rfl ?_
      refine RegV.nil1 (by kernel_rfl) ?_
      refine AWc.cond rfl (fun _ => ?_) (fun hc => by cases hc)
      refine AWc.seq ?_
      refine AWc.rg hmix rfl rfl ?_
      refine RegV.p0 rfl rfl rfl ?_
      refine RegV.nil0 ?_
      cases h12
      dsimp only at h
      have hr := Option.some.inj h
      subst hr
      exact AWc.ret (canQ (N := 54) (k := 0) (l' := [(2, (.d (.bool false)))]) (H' := []) rfl ⟨rfl, [], [], rfl, rfl, ⟨⟨_, rfl, (.refl _)⟩, rfl, trivial⟩,  trivial⟩ (doneA (.inr rfl) rfl ⟨trivial, trivial⟩ (.refl _) hasNil))
    · have h12 := cond_neg c39 h12
      refine RegV.p0 rfl rfl rfl ?_
      refine RegV.p0 (v := (.d (.bool (decide (y12_1 > (0 : Int)))))) rfl rfl rfl ?_
      refine RegV.p0 rfl rfl rfl ?_
      refine RegV.split (fun c42 => ?_) (fun c42 => ?_)
      · have h12 := cond_pos c42 h12
        refine RegV.p0 (v := (.ptr 0 0)) rfl rfl rfl ?_
        refine RegV.ld (v := (.d (.int .u64 (rd a0 y12_1).fOffset))) (H' := [(0, (.cells [(.d (.int .u64 (rd a0 y12_1).fOffset)), (.d (.int .i64 (rd a0 y12_1).fAt))]))]) rfl rfl trivial rfl rfl rfl rfl rfl ?_
        refine RegV.p0 rfl rfl rfl ?_
        refine RegV.p0 rfl rfl rfl ?_
        refine RegV.p0 (v := (.d (.int .i64 (IntKind.i64.wrap (y12_1 - (1 : Int)))))) rfl rfl rfl ?_
        obtain ⟨b48, h12⟩ := gd_some h12
        refine RegV.iad (xs := a0) (e := TSpot.enc) rfl rfl rfl rfl (fun _ => rfl) b48 rfl ?_
        refine RegV.p0 (v := (.cp (TSpot.enc (rd a0 (IntKind.i64.wrap (y12_1 - (1 : Int))))) 0)) rfl rfl rfl ?_
        refine RegV.p0 (v := (.d (.int .u64 (rd a0 (IntKind.i64.wrap (y12_1 - (1 : Int)))).fOffset))) rfl rfl rfl ?_
        refine RegV.p0 (v := (.d (.bool (decide ((rd a0 y12_1).fOffset ≤ (rd a0 (IntKind.i64.wrap (y12_1 - (1 : Int)))).fOffset))))) rfl rfl rfl ?_
        refine RegV.p0 rfl rfl rfl ?_
        refine RegV.split (fun c52 => ?_) (fun c52 => ?_)
        · have h12 := cond_pos c52 h12
          refine RegV.noS rfl rfl ?_
          refine RegV.noS rfl rfl ?_
          refine RegV.noS rfl rfl ?_
          refine RegV.noS rfl rfl ?_
          refine RegV.noS rfl rfl ?_
          refine RegV.noS rfl rfl ?_
          refine RegV.noS rfl rfl ?_
          refine RegV.noS rfl rfl ?_
          refine RegV.noS rfl rfl ?_
          refine RegV.p0 rfl rfl rfl ?_
          refine RegV.p0 rfl rfl rfl ?_
          refine RegV.noS rfl rfl ?_
          refine RegV.noS rfl rfl ?_
          refine RegV.noS rfl rfl ?_
          refine RegV.noS rfl rfl ?_
          refine RegV.noS rfl rfl ?_
          refine RegV.noS rfl rfl ?_
          refine RegV.noS rfl rfl ?_
          refine RegV.noS rfl rfl ?_
          refine RegV.noS rfl rfl ?_
          refine RegV.noS rfl rfl ?_
          refine RegV.p0 rfl rfl rfl ?_
          refine RegV.p0 rfl rfl rfl ?_
          refine RegV.p0 rfl rfl rfl ?_
          refine RegV.nil1 (by kernel_rfl) ?_
          refine AWc.cond rfl (fun _ => ?_) (fun hc => by cases hc)
          refine AWc.seq ?_
          refine AWc.rg hmix rfl rfl ?_
          refine RegV.p0 rfl rfl rfl ?_
          refine RegV.nil0 ?_
          cases h12
          dsimp only at h
          have hr := Option.some.inj h
          subst hr
          exact AWc.ret (canQ (N := 54) (k := 0) (l' := [(2, (.d (.bool false)))]) (H' := []) rfl ⟨rfl, [], [], rfl, rfl, ⟨⟨_, rfl, (.refl _)⟩, rfl, trivial⟩,  trivial⟩ (doneA (.inr rfl) rfl ⟨trivial, trivial⟩ (.refl _) hasNil))
        · have h12 := cond_neg c52 h12
          refine RegV.p0 (v := (.ptr 0 1)) rfl rfl rfl ?_
          refine RegV.ld (v := (.d (.int .i64 (rd a0 y12_1).fAt))) (H' := [(0, (.cells [(.d (.int .u64 (rd a0 y12_1).fOffset)), (.d (.int .i64 (rd a0 y12_1).fAt))]))]) rfl rfl trivial rfl rfl rfl rfl rfl ?_
          refine RegV.p0 rfl rfl rfl ?_
          refine RegV.p0 rfl rfl rfl ?_
          refine RegV.p0 (v := (.d (.int .i64 (IntKind.i64.wrap (y12_1 - (1 : Int)))))) rfl rfl rfl ?_
          obtain ⟨b58, h12⟩ := gd_some h12
          refine RegV.iad (xs := a0) (e := TSpot.enc) rfl rfl rfl rfl (fun _ => rfl) b58 rfl ?_
          refine RegV.p0 (v := (.cp (TSpot.enc (rd a0 (IntKind.i64.wrap (y12_1 - (1 : Int))))) 1)) rfl rfl rfl ?_
          refine RegV.p0 (v := (.d (.int .i64 (rd a0 (IntKind.i64.wrap (y12_1 - (1 : Int)))).fAt))) rfl rfl rfl ?_
          refine RegV.p0 (v := (.d (.bool (decide ((rd a0 y12_1).fAt < (rd a0 (IntKind.i64.wrap (y12_1 - (1 : Int)))).fAt))))) rfl rfl rfl ?_
          refine RegV.p0 rfl rfl rfl ?_
          refine RegV.p0 rfl rfl rfl ?_
          refine RegV.split (fun c63 => ?_) (fun c63 => ?_)
          · have h12 := cond_pos c63 h12
            refine RegV.noS rfl rfl ?_
            refine RegV.noS rfl rfl ?_
            refine RegV.noS rfl rfl ?_
            refine RegV.noS rfl rfl ?_
            refine RegV.noS rfl rfl ?_
            refine RegV.noS rfl rfl ?_
            refine RegV.noS rfl rfl ?_
            refine RegV.noS rfl rfl ?_
            refine RegV.noS rfl rfl ?_
            refine RegV.noS rfl rfl ?_
            refine RegV.p0 rfl rfl rfl ?_
            refine RegV.p0 rfl rfl rfl ?_
            refine RegV.p0 rfl rfl rfl ?_
            refine RegV.nil1 (by kernel_rfl) ?_
            refine AWc.cond rfl (fun _ => ?_) (fun hc => by cases hc)
            refine AWc.seq ?_
            refine AWc.rg hmix rfl rfl ?_
            refine RegV.p0 rfl rfl rfl ?_
            refine RegV.nil0 ?_
            cases h12
            dsimp only at h
            have hr := Option.some.inj h
            subst hr
            exact AWc.ret (canQ (N := 54) (k := 0) (l' := [(2, (.d (.bool false)))]) (H' := []) rfl ⟨rfl, [], [], rfl, rfl, ⟨⟨_, rfl, (.refl _)⟩, rfl, trivial⟩,  trivial⟩ (doneA (.inr rfl) rfl ⟨trivial, trivial⟩ (.refl _) hasNil))
          · have h12 := cond_neg c63 h12
            refine RegV.p0 (v := (.ptr 0 1)) rfl rfl rfl ?_
            refine RegV.ld (v := (.d (.int .i64 (rd a0 y12_1).fAt))) (H' := [(0, (.cells [(.d (.int .u64 (rd a0 y12_1).fOffset)), (.d (.int .i64 (rd a0 y12_1).fAt))]))]) rfl rfl trivial rfl rfl rfl rfl rfl ?_
            refine RegV.p0 rfl rfl rfl ?_
            refine RegV.p0 rfl rfl rfl ?_
            refine RegV.p0 (v := (.d (.int .i64 (IntKind.i64.wrap (y12_1 - (1 : Int)))))) rfl rfl rfl ?_
            obtain ⟨b69, h12⟩ := gd_some h12
            refine RegV.iad (xs := a0) (e := TSpot.enc) rfl rfl rfl rfl (fun _ => rfl) b69 rfl ?_
            refine RegV.p0 (v := (.cp (TSpot.enc (rd a0 (IntKind.i64.wrap (y12_1 - (1 : Int))))) 1)) rfl rfl rfl ?_
            refine RegV.p0 (v := (.d (.int .i64 (rd a0 (IntKind.i64.wrap (y12_1 - (1 : Int)))).fAt))) rfl rfl rfl ?_
            refine RegV.p0 (v := (.d (.int .i64 (IntKind.i64.wrap ((rd a0 y12_1).fAt - (rd a0 (IntKind.i64.wrap (y12_1 - (1 : Int)))).fAt))))) rfl rfl rfl ?_
            refine RegV.p0 (v := (.d (.bool (decide ((IntKind.i64.wrap ((rd a0 y12_1).fAt - (rd a0 (IntKind.i64.wrap (y12_1 - (1 : Int)))).fAt)) < (512 : Int)))))) rfl rfl rfl ?_
            refine RegV.p0 rfl rfl rfl ?_
            refine RegV.p0 rfl rfl rfl ?_
            refine RegV.p0 rfl rfl rfl ?_
            refine RegV.nil1 (by kernel_rfl) ?_
            refine AWc.cond rfl (fun c77 => ?_) (fun c77 => ?_)
            · have h12 := cond_pos c77 h12
              refine AWc.seq ?_
              refine AWc.rg hmix rfl rfl ?_
              refine RegV.p0 rfl rfl rfl ?_
              refine RegV.nil0 ?_
              cases h12
              dsimp only at h
              have hr := Option.some.inj h
              subst hr
              exact AWc.ret (canQ (N := 54) (k := 0) (l' := [(2, (.d (.bool false)))]) (H' := []) rfl ⟨rfl, [], [], rfl, rfl, ⟨⟨_, rfl, (.refl _)⟩, rfl, trivial⟩,  trivial⟩ (doneA (.inr rfl) rfl ⟨trivial, trivial⟩ (.refl _) hasNil))
            · have h12 := cond_neg c77 h12
              refine AWc.skip ?_
              refine AWc.rg hmix rfl rfl ?_
              refine RegV.p0 (v := (.d (.int .i64 (IntKind.i64.wrap (y12_1 + (1 : Int)))))) rfl rfl rfl ?_
              refine RegV.p0 rfl rfl rfl ?_
              refine RegV.nil0 ?_
              exact ⟨(IntKind.i64.wrap (y12_1 + (1 : Int))), h12, ⟨rfl, [], [], rfl, rfl, ⟨⟨_, rfl, (.refl _)⟩, rfl, ⟨⟨_, rfl, (.refl _)⟩, rfl, ⟨⟨_, rfl, (.refl _)⟩, rfl, ⟨⟨_, rfl, (.refl _)⟩, rfl, trivial⟩⟩⟩⟩,  trivial⟩⟩
      · have h12 := cond_neg c42 h12
        refine RegV.noS rfl rfl ?_
        refine RegV.noS rfl rfl ?_
        refine RegV.noS rfl rfl ?_
        refine RegV.noS rfl rfl ?_
        refine RegV.noS rfl rfl ?_
        refine RegV.noS rfl rfl ?_
        refine RegV.noS rfl rfl ?_
        refine RegV.noS rfl rfl ?_
        refine RegV.noS rfl rfl ?_
        refine RegV.noS rfl rfl ?_
        refine RegV.noS rfl rfl ?_
        refine RegV.noS rfl rfl ?_
        refine RegV.noS rfl rfl ?_
        refine RegV.noS rfl rfl ?_
        refine RegV.noS rfl rfl ?_
        refine RegV.noS rfl rfl ?_
        refine RegV.noS rfl rfl ?_
        refine RegV.noS rfl rfl ?_
        refine RegV.noS rfl rfl ?_
        refine RegV.noS rfl rfl ?_
        refine RegV.noS rfl rfl ?_
        refine RegV.noS rfl rfl ?_
        refine RegV.noS rfl rfl ?_
        refine RegV.noS rfl rfl ?_
        refine RegV.noS rfl rfl ?_
        refine RegV.noS rfl rfl ?_
        refine RegV.noS rfl rfl ?_
        refine RegV.noS rfl rfl ?_
        refine RegV.noS rfl rfl ?_
        refine RegV.noS rfl rfl ?_
        refine RegV.noS rfl rfl ?_
        refine RegV.noS rfl rfl ?_
        refine RegV.p0 rfl rfl rfl ?_
        refine RegV.p0 rfl rfl rfl ?_
        refine RegV.nil1 (by kernel_rfl) ?_
        refine AWc.cond rfl (fun hc => by cases hc) (fun _ => ?_)
        refine AWc.skip ?_
        refine AWc.rg hmix rfl rfl ?_
        refine RegV.p0 (v := (.d (.int .i64 (IntKind.i64.wrap (y12_1 + (1 : Int)))))) rfl rfl rfl ?_
        refine RegV.p0 rfl rfl rfl ?_
        refine RegV.nil0 ?_
        exact ⟨(IntKind.i64.wrap (y12_1 + (1 : Int))), h12, ⟨rfl, [], [], rfl, rfl, ⟨⟨_, rfl, (.refl _)⟩, rfl, ⟨⟨_, rfl, (.refl _)⟩, rfl, ⟨⟨_, rfl, (.refl _)⟩, rfl, ⟨⟨_, rfl, (.refl _)⟩, rfl, trivial⟩⟩⟩⟩,  trivial⟩⟩
  · have h12 := cond_neg c19 h12
    cases h12
    dsimp only at h
    refine AWc.exit ?_
    refine inBlk_eq ?_
    refine AWc.seq ?_
    refine AWc.rg hmix rfl rfl ?_
    refine RegV.p0 rfl rfl rfl ?_
    refine RegV.nil0 ?_
    have hr := Option.some.inj h
    subst hr
    exact AWc.ret (canQ (N := 54) (k := 0) (l' := [(2, (.d (.bool true)))]) (H' := []) rfl ⟨rfl, [], [], rfl, rfl, ⟨⟨_, rfl, (.refl _)⟩, rfl, trivial⟩,  trivial⟩ (doneA (.inr rfl) rfl ⟨trivial, trivial⟩ (.refl _) hasNil))
/-- courant/index.Add -/
def C210 (N : Nat → Nat) : AFunc := { n := 34, params := 3, res := [.tmp 6], body :=
 (.seq (.region false [⟨(some 6), .mv (.k .nils), none, []⟩])
  (.seq (.region false [⟨(some 8), .mv (.t 0), none, []⟩,
    ⟨(some 9), .call (.k (.d (.fn (N 209)))) [(.t 8)], none, [0]⟩,
    ⟨(some 10), .mv (.t 1), none, []⟩,
    ⟨(some 11), .mv (.t 2), none, []⟩,
    ⟨(some 12), .build [(.int .u64 0), (.int .i64 0)] [(0, 1, (.t 10)), (1, 1, (.t 11))], none, [2, 3]⟩,
    ⟨(some 13), .bslice 1 2 [(.int .u64 0), (.int .i64 0)] [(0, (.t 12))], none, [4]⟩,
    ⟨(some 14), .app (.t 9) (.t 13) 2 16 [(.int .u64 0), (.int .i64 0)], none, [1, 5]⟩,
    ⟨(some 7), .mv (.t 14), none, [6, 0, 1, 2, 3, 4, 5]⟩])
   (.seq (.seq (.region false [⟨(some 15), .mv (.t 2), none, []⟩,
      ⟨(some 16), .bin .lss (.t 15) (.k (.d (.int .i64 0))), none, [0]⟩,
      ⟨(some 17), .mv (.t 16), none, [1]⟩,
      ⟨(some 18), .mv (.t 0), (some (17, false)), [2]⟩,
      ⟨(some 19), .len (.t 18), (some (17, false)), [3, 2]⟩,
      ⟨(some 20), .bin .gtr (.t 19) (.k (.d (.int .i64 0))), (some (17, false)), [4, 2]⟩,
      ⟨(some 21), .mv (.t 20), (some (17, false)), [5, 2]⟩,
      ⟨(some 22), .mv (.t 7), (some (21, true)), [6]⟩,
      ⟨(some 23), .mv (.t 0), (some (21, true)), [6]⟩,
      ⟨(some 24), .len (.t 23), (some (21, true)), [8, 6]⟩,
      ⟨(some 25), .bin .sub (.t 24) (.k (.d (.int .i64 1))), (some (21, true)), [9, 6]⟩,
      ⟨(some 26), .slc (.t 22) (some (.t 25)) none none 2, (some (21, true)), [7, 10, 6]⟩,
      ⟨(some 27), .call (.k (.d (.fn (N 200)))) [(.t 26)], (some (21, true)), [11, 6]⟩,
      ⟨(some 28), .un .not (.t 27), (some (21, true)), [12, 6]⟩,
      ⟨(some 29), .pick (.t 21) (.t 28) (.k (.d (.bool false))), (some (17, false)), [6, 13, 2]⟩,
      ⟨(some 30), .pick (.t 17) (.k (.d (.bool true))) (.t 29), none, [2, 14]⟩])
     (.cond (.t 30) (.seq (.region false [⟨(some 31), .mv (.t 0), none, []⟩,
        ⟨(some 32), .call (.k (.d (.fn (N 209)))) [(.t 31)], none, [0]⟩,
        ⟨(some 6), .mv (.t 32), none, [1, 0]⟩])
       .ret)
      (.skip)))
    (.seq (.region false [⟨(some 33), .mv (.t 7), none, []⟩,
      ⟨(some 6), .mv (.t 33), none, [0]⟩])
     .ret)))) }
def HC210 (P : Program) (N : Nat → Nat) : Prop := HasF P (N 210) (C210 N) ∧ HC209 P N ∧ HC200 P N
def f210_j36 (k : Nat) (a0 : (List TSpot)) (r9 : (List TSpot)) (a1 : Int) (a2 : Int) (j36_1 : Bool) : Option (List TSpot) := cond j36_1 ((f209 k a0).bind fun r41 => some r41) (some (r9 ++ ([(TSpot.mk a1 a2)] : List TSpot)))
def f210 (k : Nat) (a0 : (List TSpot)) (a1 : Int) (a2 : Int) : Option (List TSpot) := (f209 k a0).bind fun r9 => gd ((r9.length + ([(TSpot.mk a1 a2)] : List TSpot).length) * 2 * 16 ≤ 281474976710656) (cond (decide (a2 < (0 : Int))) (f210_j36 k a0 r9 a1 a2 true) (cond (decide (((a0.length : Nat) : Int) > (0 : Int))) (gd (0 ≤ (IntKind.i64.wrap (((a0.length : Nat) : Int) - (1 : Int))) ∧ (IntKind.i64.wrap (((a0.length : Nat) : Int) - (1 : Int))) ≤ (((r9 ++ ([(TSpot.mk a1 a2)] : List TSpot)).length : Nat) : Int) ∧ (((r9 ++ ([(TSpot.mk a1 a2)] : List TSpot)).length : Nat) : Int) ≤ (((r9 ++ ([(TSpot.mk a1 a2)] : List TSpot)).length : Nat) : Int)) ((f200 k (sl (r9 ++ ([(TSpot.mk a1 a2)] : List TSpot)) (IntKind.i64.wrap (((a0.length : Nat) : Int) - (1 : Int))) (((r9 ++ ([(TSpot.mk a1 a2)] : List TSpot)).length : Nat) : Int))).bind fun r32 => f210_j36 k a0 r9 a1 a2 (!r32))) (f210_j36 k a0 r9 a1 a2 false)))
theorem F210 {P : Program} {N : Nat → Nat} (hmix : P.follows .mixedOrders = true) (hc : HC210 P N) {k : Nat} {a0 : (List TSpot)} {a1 : Int} {a2 : Int} {r : (List TSpot)} (h : f210 k a0 a1 a2 = some r) :
    ACalls P (N 210) [(.d (.sl (List.map TSpot.enc a0))), (.d (.int .u64 a1)), (.d (.int .i64 a2))] [] (.ap 0 2 (List.map TSpot.enc r)) [(0, (.tok ((List.map TSpot.enc r).length * 2)))] := by
  refine acalls_canon (F := C210 N) hc.1 0 1 rfl ?_
  unfold f210 at h
  dsimp only [C210, startL]
  refine AWc.seq ?_
  refine AWc.rg hmix rfl rfl ?_
  refine RegV.p0 rfl rfl rfl ?_
  refine RegV.nil0 ?_
  refine AWc.seq ?_
  refine AWc.rg hmix rfl rfl ?_
  refine RegV.p0 rfl rfl rfl ?_
  obtain ⟨r9, e9, h⟩ := bind_some h
  refine RegV.callS (q := false) (H' := [(0, (.tok ((List.map TSpot.enc r9).length * 2)))]) (c' := 1) (show ACalls P (N 209) [(.d (.sl (List.map TSpot.enc a0)))] [] (.ap 0 2 (List.map TSpot.enc r9)) [(0, (.tok ((List.map TSpot.enc r9).length * 2)))] from ACalls.use (F209 hmix hc.2.1 e9) [(0, 0)] 1 rfl) rfl rfl rfl rfl (.cons (.refl _) .nil) (.refl _) (fun h => by cases h) rfl hasNil rfl rfl rfl rfl ?_
  refine RegV.p0 rfl rfl rfl ?_
  refine RegV.p0 rfl rfl rfl ?_
  refine RegV.p1 (v := (.d (.agg [(.int .u64 a1), (.int .i64 a2)]))) rfl rfl (by exact ⟨⟨rfl, Nat.le_of_ble_eq_true rfl⟩, ⟨⟨rfl, Nat.le_of_ble_eq_true rfl⟩, trivial⟩⟩) rfl rfl ?_
  refine RegV.p1 (v := (.d (.sl (List.map TSpot.enc ([(TSpot.mk a1 a2)] : List TSpot))))) rfl rfl (by exact ⟨rfl, Nat.le_of_ble_eq_true rfl, mapLen (e := TSpot.enc) (xs := ([(TSpot.mk a1 a2)] : List TSpot)) (z := 2) (fun _ => rfl)⟩) rfl rfl ?_
  obtain ⟨b14, h⟩ := gd_some h
  refine RegV.appA (xs := r9) (ys := ([(TSpot.mk a1 a2)] : List TSpot)) (e := TSpot.enc) (H1 := []) rfl rfl rfl rfl (fun _ => rfl) rfl rfl b14 rfl rfl rfl ?_
  refine RegV.p0 rfl rfl rfl ?_
  refine RegV.nil0 ?_
  refine AWc.seq ?_
  refine AWc.seqS (N := 34) 1 (fun (z : Bool) => [(0, (.d (.sl (List.map TSpot.enc a0)))), (7, (.ap 0 2 (List.map TSpot.enc (r9 ++ ([(TSpot.mk a1 a2)] : List TSpot))))), (30, (.d (.bool z)))]) (fun z => [(0, (.tok ((List.map TSpot.enc (r9 ++ ([(TSpot.mk a1 a2)] : List TSpot))).length * 2)))]) (fun z => f210_j36 k a0 r9 a1 a2 z = some r) rfl_le ?_ ?_
  · refine AWc.rg hmix rfl rfl ?_
    refine RegV.p0 rfl rfl rfl ?_
    refine RegV.p0 (v := (.d (.bool (decide (a2 < (0 : Int)))))) rfl rfl rfl ?_
    refine RegV.p0 rfl rfl rfl ?_
    refine RegV.split (fun c22 => ?_) (fun c22 => ?_)
    · have h := cond_pos c22 h
      refine RegV.noS rfl rfl ?_
      refine RegV.noS rfl rfl ?_
      refine RegV.noS rfl rfl ?_
      refine RegV.noS rfl rfl ?_
      refine RegV.noS rfl rfl ?_
      refine RegV.noS rfl rfl ?_
      refine RegV.noS rfl rfl ?_
      refine RegV.noS rfl rfl ?_
      refine RegV.noS rfl rfl ?_
      refine RegV.noS rfl rfl ?_
      refine RegV.noS rfl rfl ?_
      refine RegV.noS rfl rfl ?_
      refine RegV.p0 rfl rfl rfl ?_
      refine RegV.nil0 ?_
      exact ⟨true, h, ⟨rfl, [], [(0, 1)], rfl, rfl, ⟨⟨_, rfl, (.refl _)⟩, rfl, ⟨⟨_, rfl, (.refl _)⟩, rfl, ⟨⟨_, rfl, (.refl _)⟩, rfl, trivial⟩⟩⟩, ⟨⟨_, rfl, (.refl _)⟩, rfl, rfl, trivial⟩⟩⟩
    · have h := cond_neg c22 h
      refine RegV.p0 rfl rfl rfl ?_
      refine RegV.len (xs := a0) (e := TSpot.enc) rfl rfl rfl rfl ?_
      refine RegV.p0 (v := (.d (.bool (decide (((a0.length : Nat) : Int) > (0 : Int)))))) rfl rfl rfl ?_
      refine RegV.p0 rfl rfl rfl ?_
      refine RegV.split (fun c26 => ?_) (fun c26 => ?_)
      · have h := cond_pos c26 h
        refine RegV.p0 rfl rfl rfl ?_
        refine RegV.p0 rfl rfl rfl ?_
        refine RegV.len (xs := a0) (e := TSpot.enc) rfl rfl rfl rfl ?_
        refine RegV.p0 (v := (.d (.int .i64 (IntKind.i64.wrap (((a0.length : Nat) : Int) - (1 : Int)))))) rfl rfl rfl ?_
        obtain ⟨b31, h⟩ := gd_some h
        refine RegV.slc (xs := (r9 ++ ([(TSpot.mk a1 a2)] : List TSpot))) (e := TSpot.enc) (lo := (IntKind.i64.wrap (((a0.length : Nat) : Int) - (1 : Int)))) (hi := (((r9 ++ ([(TSpot.mk a1 a2)] : List TSpot)).length : Nat) : Int)) rfl rfl (mlen _) b31 (fun _ => rfl) rfl ?_
        obtain ⟨r32, e32, h⟩ := bind_some h
        refine RegV.call0 (F200 hmix hc.2.2 e32) rfl rfl rfl rfl (.cons (.refl _) .nil) rfl ?_
        refine RegV.p0 (v := (.d (.bool (!r32)))) rfl rfl rfl ?_
        refine RegV.p0 rfl rfl rfl ?_
        refine RegV.p0 rfl rfl rfl ?_
        refine RegV.nil0 ?_
        exact ⟨(!r32), h, ⟨rfl, [], [(0, 1)], rfl, rfl, ⟨⟨_, rfl, (.refl _)⟩, rfl, ⟨⟨_, rfl, (.refl _)⟩, rfl, ⟨⟨_, rfl, (.refl _)⟩, rfl, trivial⟩⟩⟩, ⟨⟨_, rfl, (.refl _)⟩, rfl, rfl, trivial⟩⟩⟩
      · have h := cond_neg c26 h
        refine RegV.noS rfl rfl ?_
        refine RegV.noS rfl rfl ?_
        refine RegV.noS rfl rfl ?_
        refine RegV.noS rfl rfl ?_
        refine RegV.noS rfl rfl ?_
        refine RegV.noS rfl rfl ?_
        refine RegV.noS rfl rfl ?_
        refine RegV.p0 rfl rfl rfl ?_
        refine RegV.p0 rfl rfl rfl ?_
        refine RegV.nil0 ?_
        exact ⟨false, h, ⟨rfl, [], [(0, 1)], rfl, rfl, ⟨⟨_, rfl, (.refl _)⟩, rfl, ⟨⟨_, rfl, (.refl _)⟩, rfl, ⟨⟨_, rfl, (.refl _)⟩, rfl, trivial⟩⟩⟩, ⟨⟨_, rfl, (.refl _)⟩, rfl, rfl, trivial⟩⟩⟩
  · intro j36_1 h
    unfold f210_j36 at h
    refine AWc.cond rfl (fun c36 => ?_) (fun c36 => ?_)
    · have h := cond_pos c36 h
      refine AWc.seq ?_
      refine AWc.rg hmix rfl rfl ?_
      refine RegV.p0 rfl rfl rfl ?_
      obtain ⟨r41, e41, h⟩ := bind_some h
      refine RegV.callS (q := false) (H' := [(1, (.tok ((List.map TSpot.enc r41).length * 2))), (0, (.tok ((List.map TSpot.enc (r9 ++ ([(TSpot.mk a1 a2)] : List TSpot))).length * 2)))]) (c' := 2) (show ACalls P (N 209) [(.d (.sl (List.map TSpot.enc a0)))] [] (.ap 1 2 (List.map TSpot.enc r41)) [(1, (.tok ((List.map TSpot.enc r41).length * 2)))] from ACalls.use (F209 hmix hc.2.1 e41) [(0, 1)] 1 rfl) rfl rfl rfl rfl (.cons (.refl _) .nil) (.refl _) (fun h => by cases h) rfl hasNil rfl rfl rfl rfl ?_
      refine RegV.p0 rfl rfl rfl ?_
      refine RegV.nil0 ?_
      have hr := Option.some.inj h
      subst hr
      exact AWc.ret (canQ (N := 34) (k := 1) (l' := [(6, (.ap 0 2 (List.map TSpot.enc r41)))]) (H' := [(0, (.tok ((List.map TSpot.enc r41).length * 2)))]) rfl ⟨rfl, [], [(0, 1)], rfl, rfl, ⟨⟨_, rfl, (.refl _)⟩, rfl, trivial⟩, ⟨⟨_, rfl, (.refl _)⟩, rfl, rfl, trivial⟩⟩ (doneA (.inr rfl) rfl ⟨trivial, trivial⟩ (.refl _) (hasCons rfl hasNil)))
    · have h := cond_neg c36 h
      refine AWc.skip ?_
      refine AWc.seq ?_
      refine AWc.rg hmix rfl rfl ?_
      refine RegV.p0 rfl rfl rfl ?_
      refine RegV.p0 rfl rfl rfl ?_
      refine RegV.nil0 ?_
      have hr := Option.some.inj h
      subst hr
      exact AWc.ret (canQ (N := 34) (k := 1) (l' := [(6, (.ap 0 2 (List.map TSpot.enc (r9 ++ ([(TSpot.mk a1 a2)] : List TSpot)))))]) (H' := [(0, (.tok ((List.map TSpot.enc (r9 ++ ([(TSpot.mk a1 a2)] : List TSpot))).length * 2)))]) rfl ⟨rfl, [], [], rfl, rfl, ⟨⟨_, rfl, (.refl _)⟩, rfl, trivial⟩, ⟨⟨_, rfl, (.refl _)⟩, rfl, rfl, trivial⟩⟩ (doneA (.inr rfl) rfl ⟨trivial, trivial⟩ (.refl _) (hasCons rfl hasNil)))
/-- courant/courantlaw19.awake -/
def C212 (N : Nat → Nat) : AFunc := { n := 17, params := 0, res := [.tmp 0], body :=
 (.seq (.region false [⟨(some 0), .mv (.k (.d (.bool false))), none, []⟩])
  (.seq (.region false [⟨(some 2), .call (.k (.d (.fn (N 210)))) [(.k .nils), (.k (.d (.int .u64 5))), (.k (.d (.int .i64 0)))], none, []⟩,
    ⟨(some 1), .mv (.t 2), none, [0]⟩])
   (.seq (.region false [⟨(some 3), .mv (.t 1), none, []⟩,
     ⟨(some 4), .len (.t 3), none, [0]⟩,
     ⟨(some 5), .bin .eql (.t 4) (.k (.d (.int .i64 1))), none, [1]⟩,
     ⟨(some 6), .mv (.t 5), none, [2]⟩,
     ⟨(some 7), .mv (.t 1), (some (6, true)), [3]⟩,
     ⟨(some 8), .iaddr (.t 7) (.k (.d (.int .i64 0))) 2, (some (6, true)), [4, 3]⟩,
     ⟨(some 9), .load (.t 8) 2 true, (some (6, true)), [5, 3]⟩,
     ⟨(some 10), .build [(.int .u64 0), (.int .i64 0)] [(0, 1, (.k (.d (.int .u64 5))))], (some (6, true)), [3]⟩,
     ⟨(some 11), .aggeq false [0, 0] (.t 9) (.t 10), (some (6, true)), [6, 7, 3]⟩,
     ⟨(some 12), .pick (.t 6) (.t 11) (.k (.d (.bool false))), none, [3, 8]⟩,
     ⟨(some 13), .mv (.t 12), none, [9, 3]⟩,
     ⟨(some 14), .mv (.t 1), (some (13, true)), [10]⟩,
     ⟨(some 15), .call (.k (.d (.fn (N 200)))) [(.t 14)], (some (13, true)), [11, 10]⟩,
     ⟨(some 16), .pick (.t 13) (.t 15) (.k (.d (.bool false))), none, [10, 12]⟩,
     ⟨(some 0), .mv (.t 16), none, [13, 12, 0, 1, 2, 3, 4, 5, 6, 7, 8, 9, 10, 11]⟩])
    .ret))) }
def HC212 (P : Program) (N : Nat → Nat) : Prop := HasF P (N 212) (C212 N) ∧ HC210 P N ∧ HC200 P N
def f212 (k : Nat) : Option Bool := (f210 k ([] : List TSpot) (5 : Int) (0 : Int)).bind fun r8 => cond (decide (((r8.length : Nat) : Int) = (1 : Int))) (gd (0 ≤ (0 : Int) ∧ (0 : Int) < ((r8.length : Nat) : Int)) (cond (decide ((rd r8 (0 : Int)).fOffset = (5 : Int)) && (decide ((rd r8 (0 : Int)).fAt = (0 : Int)) && true)) ((f200 k r8).bind fun r25 => some r25) (some false))) (some false)
theorem F212 {P : Program} {N : Nat → Nat} (hmix : P.follows .mixedOrders = true) (hc : HC212 P N) {k : Nat} {r : Bool} (h : f212 k = some r) :
    ACalls P (N 212) [] [] (.d (.bool r)) [] := by
  refine acalls_canon (F := C212 N) hc.1 0 0 rfl ?_
  unfold f212 at h
  dsimp only [C212, startL]
  refine AWc.seq ?_
  refine AWc.rg hmix rfl rfl ?_
  refine RegV.p0 rfl rfl rfl ?_
  refine RegV.nil0 ?_
  refine AWc.seq ?_
  refine AWc.rg hmix rfl rfl ?_
  obtain ⟨r8, e8, h⟩ := bind_some h
  refine RegV.callS (q := false) (H' := [(0, (.tok ((List.map TSpot.enc r8).length * 2)))]) (c' := 1) (show ACalls P (N 210) [(.d (.sl (List.map TSpot.enc ([] : List TSpot)))), (.d (.int .u64 (5 : Int))), (.d (.int .i64 (0 : Int)))] [] (.ap 0 2 (List.map TSpot.enc r8)) [(0, (.tok ((List.map TSpot.enc r8).length * 2)))] from ACalls.use (F210 hmix hc.2.1 e8) [(0, 0)] 1 rfl) rfl rfl rfl rfl (.cons (.sl rfl) (.cons (.refl _) (.cons (.refl _) .nil))) (.refl _) (fun h => by cases h) rfl hasNil rfl rfl rfl rfl ?_
  refine RegV.p0 rfl rfl rfl ?_
  refine RegV.nil0 ?_
  refine AWc.seq ?_
  refine AWc.rg hmix rfl rfl ?_
  refine RegV.p0 rfl rfl rfl ?_
  refine RegV.len (xs := r8) (e := TSpot.enc) rfl rfl rfl rfl ?_
  refine RegV.p0 (v := (.d (.bool (decide (((r8.length : Nat) : Int) = (1 : Int)))))) rfl rfl rfl ?_
  refine RegV.p0 rfl rfl rfl ?_
  refine RegV.split (fun c16 => ?_) (fun c16 => ?_)
  · have h := cond_pos c16 h
    refine RegV.p0 rfl rfl rfl ?_
    obtain ⟨b18, h⟩ := gd_some h
    refine RegV.iad (xs := r8) (e := TSpot.enc) rfl rfl rfl rfl (fun _ => rfl) b18 rfl ?_
    refine RegV.p1 (v := (.d (TSpot.enc (rd r8 (0 : Int))))) rfl rfl rfl rfl rfl ?_
    refine RegV.p1 (v := (.d (.agg [(.int .u64 (5 : Int)), (.int .i64 (0 : Int))]))) rfl rfl (by exact ⟨⟨rfl, Nat.le_of_ble_eq_true rfl⟩, trivial⟩) rfl rfl ?_
    refine RegV.agq (v := (decide ((rd r8 (0 : Int)).fOffset = (5 : Int)) && (decide ((rd r8 (0 : Int)).fAt = (0 : Int)) && true))) rfl rfl rfl rfl rfl rfl ?_
    refine RegV.p0 rfl rfl rfl ?_
    refine RegV.p0 rfl rfl rfl ?_
    refine RegV.split (fun c23 => ?_) (fun c23 => ?_)
    · have h := cond_pos c23 h
      refine RegV.p0 rfl rfl rfl ?_
      obtain ⟨r25, e25, h⟩ := bind_some h
      refine RegV.call0 (F200 hmix hc.2.2 e25) rfl rfl rfl rfl (.cons (.sl rfl) .nil) rfl ?_
      refine RegV.p0 rfl rfl rfl ?_
      refine RegV.p0 rfl rfl rfl ?_
      refine RegV.nil0 ?_
      have hr := Option.some.inj h
      subst hr
      exact AWc.ret (canQ (N := 17) (k := 0) (l' := [(0, (.d (.bool r25)))]) (H' := []) rfl ⟨rfl, [], [], rfl, rfl, ⟨⟨_, rfl, (.refl _)⟩, rfl, trivial⟩,  trivial⟩ (doneA (.inr rfl) rfl ⟨trivial, trivial⟩ (.refl _) hasNil))
    · have h := cond_neg c23 h
      refine RegV.noS rfl rfl ?_
      refine RegV.noS rfl rfl ?_
      refine RegV.p0 rfl rfl rfl ?_
      refine RegV.p0 rfl rfl rfl ?_
      refine RegV.nil0 ?_
      have hr := Option.some.inj h
      subst hr
      exact AWc.ret (canQ (N := 17) (k := 0) (l' := [(0, (.d (.bool false)))]) (H' := []) rfl ⟨rfl, [], [], rfl, rfl, ⟨⟨_, rfl, (.refl _)⟩, rfl, trivial⟩,  trivial⟩ (doneA (.inr rfl) rfl ⟨trivial, trivial⟩ (.refl _) hasNil))
  · have h := cond_neg c16 h
    refine RegV.noS rfl rfl ?_
    refine RegV.noS rfl rfl ?_
    refine RegV.noS rfl rfl ?_
    refine RegV.noS rfl rfl ?_
    refine RegV.noS rfl rfl ?_
    refine RegV.p0 rfl rfl rfl ?_
    refine RegV.p0 rfl rfl rfl ?_
    refine RegV.noS rfl rfl ?_
    refine RegV.noS rfl rfl ?_
    refine RegV.p0 rfl rfl rfl ?_
    refine RegV.p0 rfl rfl rfl ?_
    refine RegV.nil0 ?_
    have hr := Option.some.inj h
    subst hr
    exact AWc.ret (canQ (N := 17) (k := 0) (l' := [(0, (.d (.bool false)))]) (H' := []) rfl ⟨rfl, [], [], rfl, rfl, ⟨⟨_, rfl, (.refl _)⟩, rfl, trivial⟩,  trivial⟩ (doneA (.inr rfl) rfl ⟨trivial, trivial⟩ (.refl _) hasNil))
/-- courant/couranthelp.Own[courant/api.Spot] -/
def C208 (N : Nat → Nat) : AFunc := { n := 33, params := 2, res := [.tmp 4], body :=
 (.seq (.region false [⟨(some 3), .box (.t 1), none, []⟩,
   ⟨(some 4), .mv (.k .nils), none, []⟩])
  (.seq (.region false [⟨(some 8), .mv (.t 0), none, []⟩,
    ⟨(some 9), .len (.t 8), none, [0]⟩,
    ⟨(some 10), .bin .add (.t 9) (.k (.d (.int .i64 3))), none, [1]⟩,
    ⟨(some 11), .mksl (.k (.d (.int .i64 0))) (.t 10) 2 16 [(.int .u64 0), (.int .i64 0)], none, [2]⟩,
    ⟨(some 5), .mv (.t 11), none, [3, 0, 1, 2]⟩])
   (.seq (.region false [⟨(some 12), .mv (.t 5), none, []⟩,
     ⟨(some 13), .mv (.t 0), none, []⟩,
     ⟨(some 14), .app (.t 12) (.t 13) 2 16 [(.int .u64 0), (.int .i64 0)], none, [0, 1]⟩,
     ⟨(some 5), .mv (.t 14), none, [2, 0, 1]⟩])
    (.seq (.region false [⟨(some 15), .mv (.t 5), none, []⟩,
      ⟨(some 16), .mv (.t 0), none, []⟩,
      ⟨(some 17), .len (.t 16), none, [1]⟩,
      ⟨(some 18), .bin .add (.t 17) (.k (.d (.int .i64 3))), none, [2]⟩,
      ⟨(some 19), .slc (.t 15) none (some (.t 18)) none 2, none, [0, 3]⟩,
      ⟨(some 6), .mv (.t 19), none, [4, 0, 1, 2, 3]⟩])
     (.seq (.seq (.region false [⟨(some 20), .mv (.t 0), none, []⟩,
        ⟨(some 21), .len (.t 20), none, [0]⟩,
        ⟨(some 7), .mv (.t 21), none, [1, 0]⟩])
       (.block 0 (.loop (.seq (.seq (.region false [⟨(some 22), .mv (.t 7), none, []⟩,
            ⟨(some 23), .mv (.t 6), none, []⟩,
            ⟨(some 24), .len (.t 23), none, [1]⟩,
            ⟨(some 25), .bin .lss (.t 22) (.t 24), none, [0, 2]⟩])
           (.cond (.t 25) (.skip)
            (.exit 0)))
          (.seq (.block 1 (.region false [⟨(some 28), .mv (.t 6), none, []⟩,
             ⟨(some 29), .mv (.t 7), none, []⟩,
             ⟨(some 30), .load (.t 3) 2 true, none, []⟩,
             ⟨(some 31), .iaddr (.t 28) (.t 29) 2, none, [0, 1, 2]⟩,
             ⟨none, .store (.t 31) (.t 30) 2, none, [3, 2, 0, 1]⟩]))
           (.region false [⟨(some 26), .mv (.t 7), none, []⟩,
            ⟨(some 27), .bin .add (.t 26) (.k (.d (.int .i64 1))), none, [0]⟩,
            ⟨(some 7), .mv (.t 27), none, [1, 0]⟩]))))))
      (.seq (.region false [⟨(some 32), .mv (.t 5), none, []⟩,
        ⟨(some 4), .mv (.t 32), none, [0]⟩])
       .ret)))))) }
def HC208 (P : Program) (N : Nat → Nat) : Prop := HasF P (N 208) (C208 N)
def f208_l37 (a0 : (List TSpot)) (a1 : TSpot) : Nat → Int → (List TSpot) → Option (LR2 (List TSpot) Unit (List TSpot))
  | 0, _, _ => none
  | k + 1, y37_1, y37_2 => cond (decide (y37_1 < ((((IntKind.i64.wrap (((a0.length : Nat) : Int) + (3 : Int)))).toNat : Nat) : Int))) (gd (0 ≤ y37_1 ∧ y37_1 < ((((IntKind.i64.wrap (((a0.length : Nat) : Int) + (3 : Int)))).toNat : Nat) : Int)) (gd ((y37_1).toNat < y37_2.length) (f208_l37 a0 a1 k (IntKind.i64.wrap (y37_1 + (1 : Int))) (List.set y37_2 (y37_1).toNat (TSpot.mk a1.fOffset a1.fAt))))) (some (.b0 y37_2))
def f208 (k : Nat) (a0 : (List TSpot)) (a1 : TSpot) : Option (List TSpot) := gd (0 ≤ (0 : Int) ∧ (0 : Int) ≤ (IntKind.i64.wrap (((a0.length : Nat) : Int) + (3 : Int))) ∧ (IntKind.i64.wrap (((a0.length : Nat) : Int) + (3 : Int))) * 16 ≤ 281474976710656) (gd (((0 : Int)).toNat + a0.length ≤ ((IntKind.i64.wrap (((a0.length : Nat) : Int) + (3 : Int)))).toNat ∧ ((IntKind.i64.wrap (((a0.length : Nat) : Int) + (3 : Int)))).toNat ≤ (List.replicate ((IntKind.i64.wrap (((a0.length : Nat) : Int) + (3 : Int)))).toNat (default : TSpot)).length) (gd (0 ≤ (IntKind.i64.wrap (((a0.length : Nat) : Int) + (3 : Int))) ∧ (IntKind.i64.wrap (((a0.length : Nat) : Int) + (3 : Int))) ≤ ((((IntKind.i64.wrap (((a0.length : Nat) : Int) + (3 : Int)))).toNat : Nat) : Int)) ((f208_l37 a0 a1 k ((a0.length : Nat) : Int) (List.take (((0 : Int)).toNat) (List.replicate ((IntKind.i64.wrap (((a0.length : Nat) : Int) + (3 : Int)))).toNat (default : TSpot)) ++ a0 ++ List.drop (((0 : Int)).toNat + a0.length) (List.replicate ((IntKind.i64.wrap (((a0.length : Nat) : Int) + (3 : Int)))).toNat (default : TSpot)))).bind fun o37 => match o37 with | .b0 x37_1 => gd (((((0 : Int)).toNat + a0.length) ≤ x37_1.length ∧ ((IntKind.i64.wrap (((a0.length : Nat) : Int) + (3 : Int)))).toNat = x37_1.length)) (some x37_1) | _ => none)))
theorem F208 {P : Program} {N : Nat → Nat} (hmix : P.follows .mixedOrders = true) (hc : HC208 P N) {k : Nat} {a0 : (List TSpot)} {a1 : TSpot} {r : (List TSpot)} (h : f208 k a0 a1 = some r) :
    ACalls P (N 208) [(.d (.sl (List.map TSpot.enc a0))), (.d (TSpot.enc a1))] [] (.win (List.map TSpot.enc r) (((0 : Int)).toNat + a0.length)) [] := by
  refine acalls_canon (F := C208 N) hc 0 0 rfl ?_
  unfold f208 at h
  dsimp only [C208, startL]
  refine AWc.seq ?_
  refine AWc.rg hmix rfl rfl ?_
  refine RegV.evS (own := false) (v := (.ptr 0 0)) (H' := [(0, (.cells [(.d (.int .u64 a1.fOffset)), (.d (.int .i64 a1.fAt))]))]) (c' := 1) rfl rfl trivial rfl rfl rfl rfl rfl rfl ?_
  refine RegV.p0 rfl rfl rfl ?_
  refine RegV.nil0 ?_
  refine AWc.seq ?_
  refine AWc.rg hmix rfl rfl ?_
  refine RegV.p0 rfl rfl rfl ?_
  refine RegV.len (xs := a0) (e := TSpot.enc) rfl rfl rfl rfl ?_
  refine RegV.p0 (v := (.d (.int .i64 (IntKind.i64.wrap (((a0.length : Nat) : Int) + (3 : Int)))))) rfl rfl rfl ?_
  obtain ⟨b12, h⟩ := gd_some h
  refine RegV.mkS (e := TSpot.enc) (a0 := default) rfl rfl rfl TSpot.ok rfl rfl b12 rfl rfl ?_
  refine RegV.p0 rfl rfl rfl ?_
  refine RegV.nil0 ?_
  refine AWc.seq ?_
  refine AWc.rg hmix rfl rfl ?_
  refine RegV.p0 rfl rfl rfl ?_
  refine RegV.p0 rfl rfl rfl ?_
  obtain ⟨b19, h⟩ := gd_some h
  refine RegV.apS (xs := (List.replicate ((IntKind.i64.wrap (((a0.length : Nat) : Int) + (3 : Int)))).toNat (default : TSpot))) (ys := a0) (e := TSpot.enc) (H' := [(1, (cellsO TSpot.enc (List.take (((0 : Int)).toNat) (List.replicate ((IntKind.i64.wrap (((a0.length : Nat) : Int) + (3 : Int)))).toNat (default : TSpot)) ++ a0 ++ List.drop (((0 : Int)).toNat + a0.length) (List.replicate ((IntKind.i64.wrap (((a0.length : Nat) : Int) + (3 : Int)))).toNat (default : TSpot))))), (0, (.cells [(.d (.int .u64 a1.fOffset)), (.d (.int .i64 a1.fAt))]))]) rfl rfl rfl rfl TSpot.ok rfl rfl b19 rfl rfl rfl rfl ?_
  refine RegV.p0 rfl rfl rfl ?_
  refine RegV.nil0 ?_
  refine AWc.seq ?_
  refine AWc.rg hmix rfl rfl ?_
  refine RegV.p0 rfl rfl rfl ?_
  refine RegV.p0 rfl rfl rfl ?_
  refine RegV.len (xs := a0) (e := TSpot.enc) rfl rfl rfl rfl ?_
  refine RegV.p0 (v := (.d (.int .i64 (IntKind.i64.wrap (((a0.length : Nat) : Int) + (3 : Int)))))) rfl rfl rfl ?_
  obtain ⟨b28, h⟩ := gd_some h
  refine RegV.slH (hi := (IntKind.i64.wrap (((a0.length : Nat) : Int) + (3 : Int)))) rfl rfl rfl b28 rfl ?_
  refine RegV.p0 rfl rfl rfl ?_
  refine RegV.nil0 ?_
  refine AWc.seq ?_
  refine AWc.seq ?_
  refine AWc.rg hmix rfl rfl ?_
  refine RegV.p0 rfl rfl rfl ?_
  refine RegV.len (xs := a0) (e := TSpot.enc) rfl rfl rfl rfl ?_
  refine RegV.p0 rfl rfl rfl ?_
  refine RegV.nil0 ?_
  obtain ⟨o37, h37, h⟩ := bind_some h
  refine AWc.block ?_
  refine AWc.loopK (N := 33) 2 (fun (x : (Int × (List TSpot))) => [(3, (.ptr 0 0)), (5, (.sl 1 0 (((0 : Int)).toNat + a0.length) (((IntKind.i64.wrap (((a0.length : Nat) : Int) + (3 : Int)))).toNat) 2)), (6, (.sl 1 0 (((IntKind.i64.wrap (((a0.length : Nat) : Int) + (3 : Int)))).toNat) (((IntKind.i64.wrap (((a0.length : Nat) : Int) + (3 : Int)))).toNat) 2)), (7, (.d (.int .i64 x.1)))]) (fun x => [(0, (.cells [(.d (.int .u64 a1.fOffset)), (.d (.int .i64 a1.fAt))])), (1, (cellsO TSpot.enc x.2))]) (fun k x => f208_l37 a0 a1 k x.1 x.2 = some o37) k (((a0.length : Nat) : Int), (List.take (((0 : Int)).toNat) (List.replicate ((IntKind.i64.wrap (((a0.length : Nat) : Int) + (3 : Int)))).toNat (default : TSpot)) ++ a0 ++ List.drop (((0 : Int)).toNat + a0.length) (List.replicate ((IntKind.i64.wrap (((a0.length : Nat) : Int) + (3 : Int)))).toNat (default : TSpot)))) rfl_le (fun x hx => by cases hx) h37 ⟨rfl, [], [], rfl, rfl, ⟨⟨_, rfl, (.refl _)⟩, rfl, ⟨⟨_, rfl, (.refl _)⟩, rfl, ⟨⟨_, rfl, (.refl _)⟩, rfl, ⟨⟨_, rfl, (.refl _)⟩, rfl, trivial⟩⟩⟩⟩, ⟨⟨_, rfl, (.refl _)⟩, rfl, rfl, ⟨⟨_, rfl, (.refl _)⟩, rfl, rfl, trivial⟩⟩⟩ ?_
  clear h37
  intro k
  rintro ⟨y37_1, y37_2⟩ h37
  dsimp only at h37 ⊢
  rw [f208_l37] at h37
  refine AWc.seq ?_
  refine AWc.seq ?_
  refine AWc.rg hmix rfl rfl ?_
  refine RegV.p0 rfl rfl rfl ?_
  refine RegV.p0 rfl rfl rfl ?_
  refine RegV.p0 (v := (.d (.int .i64 ((((IntKind.i64.wrap (((a0.length : Nat) : Int) + (3 : Int)))).toNat : Nat) : Int)))) rfl rfl rfl ?_
  refine RegV.p0 (v := (.d (.bool (decide (y37_1 < ((((IntKind.i64.wrap (((a0.length : Nat) : Int) + (3 : Int)))).toNat : Nat) : Int)))))) rfl rfl rfl ?_
  refine RegV.nil0 ?_
  refine AWc.cond rfl (fun c47 => ?_) (fun c47 => ?_)
  · have h37 := cond_pos c47 h37
    refine AWc.skip ?_
    refine AWc.seq ?_
    refine AWc.block ?_
    refine AWc.rg hmix rfl rfl ?_
    refine RegV.p0 rfl rfl rfl ?_
    refine RegV.p0 rfl rfl rfl ?_
    refine RegV.ld (v := (.d (.agg [(.int .u64 a1.fOffset), (.int .i64 a1.fAt)]))) (H' := [(0, (.cells [(.d (.int .u64 a1.fOffset)), (.d (.int .i64 a1.fAt))])), (1, (cellsO TSpot.enc y37_2))]) rfl rfl (Nat.le_of_ble_eq_true rfl) rfl rfl rfl rfl rfl ?_
    obtain ⟨b57, h37⟩ := gd_some h37
    refine RegV.iaS0 (z := 2) rfl rfl rfl b57 rfl ?_
    obtain ⟨b58, h37⟩ := gd_some h37
    refine RegV.stS (e := TSpot.enc) (xs := y37_2) (i := (y37_1).toNat) (v := (TSpot.mk a1.fOffset a1.fAt)) (H' := [(1, (cellsO TSpot.enc (List.set y37_2 (y37_1).toNat (TSpot.mk a1.fOffset a1.fAt)))), (0, (.cells [(.d (.int .u64 a1.fOffset)), (.d (.int .i64 a1.fAt))]))]) rfl rfl rfl rfl TSpot.ok rfl b58 rfl rfl rfl ?_
    refine RegV.nil0 ?_
    refine AWc.rg hmix rfl rfl ?_
    refine RegV.p0 rfl rfl rfl ?_
    refine RegV.p0 (v := (.d (.int .i64 (IntKind.i64.wrap (y37_1 + (1 : Int)))))) rfl rfl rfl ?_
    refine RegV.p0 rfl rfl rfl ?_
    refine RegV.nil0 ?_
    exact ⟨((IntKind.i64.wrap (y37_1 + (1 : Int))), (List.set y37_2 (y37_1).toNat (TSpot.mk a1.fOffset a1.fAt))), h37, ⟨rfl, [], [], rfl, rfl, ⟨⟨_, rfl, (.refl _)⟩, rfl, ⟨⟨_, rfl, (.refl _)⟩, rfl, ⟨⟨_, rfl, (.refl _)⟩, rfl, ⟨⟨_, rfl, (.refl _)⟩, rfl, trivial⟩⟩⟩⟩, ⟨⟨_, rfl, (.refl _)⟩, rfl, rfl, ⟨⟨_, rfl, (.refl _)⟩, rfl, rfl, trivial⟩⟩⟩⟩
  · have h37 := cond_neg c47 h37
    cases h37
    dsimp only at h
    refine AWc.exit ?_
    refine inBlk_eq ?_
    refine AWc.seq ?_
    refine AWc.rg hmix rfl rfl ?_
    refine RegV.p0 rfl rfl rfl ?_
    refine RegV.p0 rfl rfl rfl ?_
    refine RegV.nil0 ?_
    obtain ⟨bs1, h⟩ := gd_some h
    refine AWc.seal (l0 := 1) (xs := y37_2) (l' := [(4, (.win (List.map TSpot.enc y37_2) (((0 : Int)).toNat + a0.length)))]) (H' := [(0, (.cells [(.d (.int .u64 a1.fOffset)), (.d (.int .i64 a1.fAt))])), (1, (.tok (y37_2.length * 2)))]) TSpot.ok rfl ⟨⟨_, rfl, .win bs1⟩, trivial⟩ rfl ?_
    have hr := Option.some.inj h
    subst hr
    exact AWc.ret (canQ (N := 33) (k := 0) (l' := [(4, (.win (List.map TSpot.enc y37_2) (((0 : Int)).toNat + a0.length)))]) (H' := []) rfl ⟨rfl, [], [], rfl, rfl, ⟨⟨_, rfl, (.refl _)⟩, rfl, trivial⟩,  trivial⟩ (doneA (.inr rfl) rfl ⟨trivial, trivial⟩ (.refl _) hasNil))
/-- courant/courantref19.Right -/
def C202 (N : Nat → Nat) : AFunc := { n := 49, params := 1, res := [.tmp 2], body :=
 (.seq (.region false [⟨(some 2), .mv (.k (.d (.bool false))), none, []⟩])
  (.seq (.seq (.region false [⟨(some 3), .mv (.k (.d (.int .i64 0))), none, []⟩])
    (.block 0 (.loop (.seq (.seq (.region false [⟨(some 4), .mv (.t 3), none, []⟩,
         ⟨(some 5), .mv (.t 0), none, []⟩,
         ⟨(some 6), .len (.t 5), none, [1]⟩,
         ⟨(some 7), .bin .lss (.t 4) (.t 6), none, [0, 2]⟩])
        (.cond (.t 7) (.skip)
         (.exit 0)))
       (.seq (.block 1 (.seq (.region true [⟨(some 10), .mv (.t 0), none, []⟩,
           ⟨(some 11), .mv (.t 3), none, []⟩,
           ⟨(some 12), .iaddr (.t 10) (.t 11) 2, none, [0, 1]⟩,
           ⟨(some 13), .faddr (.t 12) 1, none, [2]⟩,
           ⟨(some 14), .load (.t 13) 1 false, none, [3]⟩,
           ⟨(some 15), .bin .lss (.t 14) (.k (.d (.int .i64 0))), none, [4]⟩,
           ⟨(some 16), .mv (.t 15), none, [5]⟩,
           ⟨(some 17), .mv (.t 3), (some (16, false)), [6]⟩,
           ⟨(some 18), .bin .gtr (.t 17) (.k (.d (.int .i64 0))), (some (16, false)), [7, 6]⟩,
           ⟨(some 19), .mv (.t 18), (some (16, false)), [8, 6]⟩,
           ⟨(some 20), .mv (.t 0), (some (19, true)), [9]⟩,
           ⟨(some 21), .mv (.t 3), (some (19, true)), [9]⟩,
           ⟨(some 22), .iaddr (.t 20) (.t 21) 2, (some (19, true)), [10, 11, 9]⟩,
           ⟨(some 23), .faddr (.t 22) 0, (some (19, true)), [12, 9]⟩,
           ⟨(some 24), .load (.t 23) 1 false, (some (19, true)), [13, 9]⟩,
           ⟨(some 25), .mv (.t 0), (some (19, true)), [9]⟩,
           ⟨(some 26), .mv (.t 3), (some (19, true)), [9]⟩,
           ⟨(some 27), .bin .sub (.t 26) (.k (.d (.int .i64 1))), (some (19, true)), [16, 9]⟩,
           ⟨(some 28), .iaddr (.t 25) (.t 27) 2, (some (19, true)), [15, 17, 9]⟩,
           ⟨(some 29), .faddr (.t 28) 0, (some (19, true)), [18, 9]⟩,
           ⟨(some 30), .load (.t 29) 1 false, (some (19, true)), [19, 9]⟩,
           ⟨(some 31), .bin .leq (.t 24) (.t 30), (some (19, true)), [14, 20, 9]⟩,
           ⟨(some 32), .mv (.t 31), (some (19, true)), [21, 9]⟩,
           ⟨(some 33), .mv (.t 0), (some (32, false)), [22]⟩,
           ⟨(some 34), .mv (.t 3), (some (32, false)), [22]⟩,
           ⟨(some 35), .iaddr (.t 33) (.t 34) 2, (some (32, false)), [23, 24, 22]⟩,
           ⟨(some 36), .faddr (.t 35) 1, (some (32, false)), [25, 22]⟩,
           ⟨(some 37), .load (.t 36) 1 false, (some (32, false)), [26, 22]⟩,
           ⟨(some 38), .mv (.t 0), (some (32, false)), [22]⟩,
           ⟨(some 39), .mv (.t 3), (some (32, false)), [22]⟩,
           ⟨(some 40), .bin .sub (.t 39) (.k (.d (.int .i64 1))), (some (32, false)), [29, 22]⟩,
           ⟨(some 41), .iaddr (.t 38) (.t 40) 2, (some (32, false)), [28, 30, 22]⟩,
           ⟨(some 42), .faddr (.t 41) 1, (some (32, false)), [31, 22]⟩,
           ⟨(some 43), .load (.t 42) 1 false, (some (32, false)), [32, 22]⟩,
           ⟨(some 44), .bin .sub (.t 37) (.t 43), (some (32, false)), [27, 33, 22]⟩,
           ⟨(some 45), .bin .lss (.t 44) (.k (.d (.int .i64 512))), (some (32, false)), [34, 22]⟩,
           ⟨(some 46), .pick (.t 32) (.k (.d (.bool true))) (.t 45), (some (19, true)), [22, 35, 9]⟩,
           ⟨(some 47), .pick (.t 19) (.t 46) (.k (.d (.bool false))), (some (16, false)), [9, 36, 6]⟩,
           ⟨(some 48), .pick (.t 16) (.k (.d (.bool true))) (.t 47), none, [6, 37]⟩])
          (.cond (.t 48) (.seq (.region false [⟨(some 2), .mv (.k (.d (.bool false))), none, []⟩])
            .ret)
           (.skip))))
        (.region false [⟨(some 8), .mv (.t 3), none, []⟩,
         ⟨(some 9), .bin .add (.t 8) (.k (.d (.int .i64 1))), none, [0]⟩,
         ⟨(some 3), .mv (.t 9), none, [1, 0]⟩]))))))
   (.seq (.region false [⟨(some 2), .mv (.k (.d (.bool true))), none, []⟩])
    .ret))) }
def HC202 (P : Program) (N : Nat → Nat) : Prop := HasF P (N 202) (C202 N)
def f202_l10 (a0 : (List TSpot)) : Nat → Int → Option (LR2 Unit Unit Bool)
  | 0, _ => none
  | k + 1, y10_1 => cond (decide (y10_1 < ((a0.length : Nat) : Int))) (gd (0 ≤ y10_1 ∧ y10_1 < ((a0.length : Nat) : Int)) (cond (decide ((rd a0 y10_1).fAt < (0 : Int))) (some (.r false)) (cond (decide (y10_1 > (0 : Int))) (gd (0 ≤ y10_1 ∧ y10_1 < ((a0.length : Nat) : Int)) (gd (0 ≤ (IntKind.i64.wrap (y10_1 - (1 : Int))) ∧ (IntKind.i64.wrap (y10_1 - (1 : Int))) < ((a0.length : Nat) : Int)) (cond (decide ((rd a0 y10_1).fOffset ≤ (rd a0 (IntKind.i64.wrap (y10_1 - (1 : Int)))).fOffset)) (some (.r false)) (gd (0 ≤ y10_1 ∧ y10_1 < ((a0.length : Nat) : Int)) (gd (0 ≤ (IntKind.i64.wrap (y10_1 - (1 : Int))) ∧ (IntKind.i64.wrap (y10_1 - (1 : Int))) < ((a0.length : Nat) : Int)) (cond (decide ((IntKind.i64.wrap ((rd a0 y10_1).fAt - (rd a0 (IntKind.i64.wrap (y10_1 - (1 : Int)))).fAt)) < (512 : Int))) (some (.r false)) (f202_l10 a0 k (IntKind.i64.wrap (y10_1 + (1 : Int)))))))))) (f202_l10 a0 k (IntKind.i64.wrap (y10_1 + (1 : Int))))))) (some (.b0 ()))
def f202 (k : Nat) (a0 : (List TSpot)) : Option Bool := (f202_l10 a0 k (0 : Int)).bind fun o10 => match o10 with | .b0 () => some true | .r x => some x | _ => none
theorem F202 {P : Program} {N : Nat → Nat} (hmix : P.follows .mixedOrders = true) (hc : HC202 P N) {k : Nat} {a0 : (List TSpot)} {r : Bool} (h : f202 k a0 = some r) :
    ACalls P (N 202) [(.d (.sl (List.map TSpot.enc a0)))] [] (.d (.bool r)) [] := by
  refine acalls_canon (F := C202 N) hc 0 0 rfl ?_
  unfold f202 at h
  dsimp only [C202, startL]
  refine AWc.seq ?_
  refine AWc.rg hmix rfl rfl ?_
  refine RegV.p0 rfl rfl rfl ?_
  refine RegV.nil0 ?_
  refine AWc.seq ?_
  refine AWc.seq ?_
  refine AWc.rg hmix rfl rfl ?_
  refine RegV.p0 rfl rfl rfl ?_
  refine RegV.nil0 ?_
  obtain ⟨o10, h10, h⟩ := bind_some h
  refine AWc.block ?_
  refine AWc.loopK (N := 49) 0 (fun (x : Int) => [(0, (.d (.sl (List.map TSpot.enc a0)))), (3, (.d (.int .i64 x)))]) (fun x => []) (fun k x => f202_l10 a0 k x = some o10) k (0 : Int) rfl_le (fun x hx => by cases hx) h10 ⟨rfl, [], [], rfl, rfl, ⟨⟨_, rfl, (.refl _)⟩, rfl, ⟨⟨_, rfl, (.refl _)⟩, rfl, trivial⟩⟩,  trivial⟩ ?_
  clear h10
  intro k
  intro y10_1 h10
  rw [f202_l10] at h10
  refine AWc.seq ?_
  refine AWc.seq ?_
  refine AWc.rg hmix rfl rfl ?_
  refine RegV.p0 rfl rfl rfl ?_
  refine RegV.p0 rfl rfl rfl ?_
  refine RegV.len (xs := a0) (e := TSpot.enc) rfl rfl rfl rfl ?_
  refine RegV.p0 (v := (.d (.bool (decide (y10_1 < ((a0.length : Nat) : Int)))))) rfl rfl rfl ?_
  refine RegV.nil0 ?_
  refine AWc.cond rfl (fun c20 => ?_) (fun c20 => ?_)
  · have h10 := cond_pos c20 h10
    refine AWc.skip ?_
    refine AWc.seq ?_
    refine AWc.block ?_
    refine AWc.seq ?_
    refine AWc.rg hmix rfl rfl ?_
    refine RegV.p0 rfl rfl rfl ?_
    refine RegV.p0 rfl rfl rfl ?_
    obtain ⟨b30, h10⟩ := gd_some h10
    refine RegV.iad (xs := a0) (e := TSpot.enc) rfl rfl rfl rfl (fun _ => rfl) b30 rfl ?_
    refine RegV.p0 (v := (.cp (TSpot.enc (rd a0 y10_1)) 1)) rfl rfl rfl ?_
    refine RegV.p0 (v := (.d (.int .i64 (rd a0 y10_1).fAt))) rfl rfl rfl ?_
    refine RegV.p0 (v := (.d (.bool (decide ((rd a0 y10_1).fAt < (0 : Int)))))) rfl rfl rfl ?_
    refine RegV.p0 rfl rfl rfl ?_
    refine RegV.split (fun c34 => ?_) (fun c34 => ?_)
    · have h10 := cond_pos c34 h10
      refine RegV.noS rfl rfl ?_
      refine RegV.noS rfl rfl ?_
      refine RegV.noS rfl rfl ?_
      refine RegV.noS rfl rfl ?_
      refine RegV.noS rfl rfl ?_
      refine RegV.noS rfl rfl ?_
      refine RegV.noS rfl rfl ?_
      refine RegV.noS rfl rfl ?_
      refine RegV.noS rfl rfl ?_
      refine RegV.noS rfl rfl ?_
      refine RegV.noS rfl rfl ?_
      refine RegV.noS rfl rfl ?_
      refine RegV.noS rfl rfl ?_
      refine RegV.noS rfl rfl ?_
      refine RegV.noS rfl rfl ?_
      refine RegV.noS rfl rfl ?_
      refine RegV.noS rfl rfl ?_
      refine RegV.noS rfl rfl ?_
      refine RegV.noS rfl rfl ?_
      refine RegV.noS rfl rfl ?_
      refine RegV.noS rfl rfl ?_
      refine RegV.noS rfl rfl ?_
      refine RegV.noS rfl rfl ?_
      refine RegV.noS rfl rfl ?_
      refine RegV.noS rfl rfl ?_
      refine RegV.noS rfl rfl ?_
      refine RegV.noS rfl rfl ?_
      refine RegV.noS rfl rfl ?_
      refine RegV.noS rfl rfl ?_
      refine RegV.noS rfl rfl ?_
      refine RegV.noS rfl rfl ?_
      refine RegV.p0 rfl rfl rfl ?_
      refine RegV.nil1 (by kernel_rfl) ?_
      refine AWc.cond rfl (fun _ => ?_) (fun hc => by cases hc)
      refine AWc.seq ?_
      refine AWc.rg hmix rfl rfl ?_
      refine RegV.p0 rfl rfl rfl ?_
      refine RegV.nil0 ?_
      cases h10
      dsimp only at h
      have hr := Option.some.inj h
      subst hr
      exact AWc.ret (canQ (N := 49) (k := 0) (l' := [(2, (.d (.bool false)))]) (H' := []) rfl ⟨rfl, [], [], rfl, rfl, ⟨⟨_, rfl, (.refl _)⟩, rfl, trivial⟩,  trivial⟩ (doneA (.inr rfl) rfl ⟨trivial, trivial⟩ (.refl _) hasNil))
    · have h10 := cond_neg c34 h10
      refine RegV.p0 rfl rfl rfl ?_
      refine RegV.p0 (v := (.d (.bool (decide (y10_1 > (0 : Int)))))) rfl rfl rfl ?_
      refine RegV.p0 rfl rfl rfl ?_
      refine RegV.split (fun c37 => ?_) (fun c37 => ?_)
      · have h10 := cond_pos c37 h10
        refine RegV.p0 rfl rfl rfl ?_
        refine RegV.p0 rfl rfl rfl ?_
        obtain ⟨b40, h10⟩ := gd_some h10
        refine RegV.iad (xs := a0) (e := TSpot.enc) rfl rfl rfl rfl (fun _ => rfl) b40 rfl ?_
        refine RegV.p0 (v := (.cp (TSpot.enc (rd a0 y10_1)) 0)) rfl rfl rfl ?_
        refine RegV.p0 (v := (.d (.int .u64 (rd a0 y10_1).fOffset))) rfl rfl rfl ?_
        refine RegV.p0 rfl rfl rfl ?_
        refine RegV.p0 rfl rfl rfl ?_
        refine RegV.p0 (v := (.d (.int .i64 (IntKind.i64.wrap (y10_1 - (1 : Int)))))) rfl rfl rfl ?_
        obtain ⟨b46, h10⟩ := gd_some h10
        refine RegV.iad (xs := a0) (e := TSpot.enc) rfl rfl rfl rfl (fun _ => rfl) b46 rfl ?_
        refine RegV.p0 (v := (.cp (TSpot.enc (rd a0 (IntKind.i64.wrap (y10_1 - (1 : Int))))) 0)) rfl rfl rfl ?_
        refine RegV.p0 (v := (.d (.int .u64 (rd a0 (IntKind.i64.wrap (y10_1 - (1 : Int)))).fOffset))) rfl rfl rfl ?_
        refine RegV.p0 (v := (.d (.bool (decide ((rd a0 y10_1).fOffset ≤ (rd a0 (IntKind.i64.wrap (y10_1 - (1 : Int)))).fOffset))))) rfl rfl rfl ?_
        refine RegV.p0 rfl rfl rfl ?_
        refine RegV.split (fun c50 => ?_) (fun c50 => ?_)
        · have h10 := cond_pos c50 h10
          refine RegV.noS rfl rfl ?_
          refine RegV.noS rfl rfl ?_
          refine RegV.noS rfl rfl ?_
          refine RegV.noS rfl rfl ?_
          refine RegV.noS rfl rfl ?_
          refine RegV.noS rfl rfl ?_
          refine RegV.noS rfl rfl ?_
          refine RegV.noS rfl rfl ?_
          refine RegV.noS rfl rfl ?_
          refine RegV.noS rfl rfl ?_
          refine RegV.noS rfl rfl ?_
          refine RegV.noS rfl rfl ?_
          refine RegV.noS rfl rfl ?_
          refine RegV.p0 rfl rfl rfl ?_
          refine RegV.p0 rfl rfl rfl ?_
          refine RegV.p0 rfl rfl rfl ?_
          refine RegV.nil1 (by kernel_rfl) ?_
          refine AWc.cond rfl (fun _ => ?_) (fun hc => by cases hc)
          refine AWc.seq ?_
          refine AWc.rg hmix rfl rfl ?_
          refine RegV.p0 rfl rfl rfl ?_
          refine RegV.nil0 ?_
          cases h10
          dsimp only at h
          have hr := Option.some.inj h
          subst hr
          exact AWc.ret (canQ (N := 49) (k := 0) (l' := [(2, (.d (.bool false)))]) (H' := []) rfl ⟨rfl, [], [], rfl, rfl, ⟨⟨_, rfl, (.refl _)⟩, rfl, trivial⟩,  trivial⟩ (doneA (.inr rfl) rfl ⟨trivial, trivial⟩ (.refl _) hasNil))
        · have h10 := cond_neg c50 h10
          refine RegV.p0 rfl rfl rfl ?_
          refine RegV.p0 rfl rfl rfl ?_
          obtain ⟨b53, h10⟩ := gd_some h10
          refine RegV.iad (xs := a0) (e := TSpot.enc) rfl rfl rfl rfl (fun _ => rfl) b53 rfl ?_
          refine RegV.p0 (v := (.cp (TSpot.enc (rd a0 y10_1)) 1)) rfl rfl rfl ?_
          refine RegV.p0 (v := (.d (.int .i64 (rd a0 y10_1).fAt))) rfl rfl rfl ?_
          refine RegV.p0 rfl rfl rfl ?_
          refine RegV.p0 rfl rfl rfl ?_
          refine RegV.p0 (v := (.d (.int .i64 (IntKind.i64.wrap (y10_1 - (1 : Int)))))) rfl rfl rfl ?_
          obtain ⟨b59, h10⟩ := gd_some h10
          refine RegV.iad (xs := a0) (e := TSpot.enc) rfl rfl rfl rfl (fun _ => rfl) b59 rfl ?_
          refine RegV.p0 (v := (.cp (TSpot.enc (rd a0 (IntKind.i64.wrap (y10_1 - (1 : Int))))) 1)) rfl rfl rfl ?_
          refine RegV.p0 (v := (.d (.int .i64 (rd a0 (IntKind.i64.wrap (y10_1 - (1 : Int)))).fAt))) rfl rfl rfl ?_
          refine RegV.p0 (v := (.d (.int .i64 (IntKind.i64.wrap ((rd a0 y10_1).fAt - (rd a0 (IntKind.i64.wrap (y10_1 - (1 : Int)))).fAt))))) rfl rfl rfl ?_
          refine RegV.p0 (v := (.d (.bool (decide ((IntKind.i64.wrap ((rd a0 y10_1).fAt - (rd a0 (IntKind.i64.wrap (y10_1 - (1 : Int)))).fAt)) < (512 : Int)))))) rfl rfl rfl ?_
          refine RegV.p0 rfl rfl rfl ?_
          refine RegV.p0 rfl rfl rfl ?_
          refine RegV.p0 rfl rfl rfl ?_
          refine RegV.nil1 (by kernel_rfl) ?_
          refine AWc.cond rfl (fun c67 => ?_) (fun c67 => ?_)
          · have h10 := cond_pos c67 h10
            refine AWc.seq ?_
            refine AWc.rg hmix rfl rfl ?_
            refine RegV.p0 rfl rfl rfl ?_
            refine RegV.nil0 ?_
            cases h10
            dsimp only at h
            have hr := Option.some.inj h
            subst hr
            exact AWc.ret (canQ (N := 49) (k := 0) (l' := [(2, (.d (.bool false)))]) (H' := []) rfl ⟨rfl, [], [], rfl, rfl, ⟨⟨_, rfl, (.refl _)⟩, rfl, trivial⟩,  trivial⟩ (doneA (.inr rfl) rfl ⟨trivial, trivial⟩ (.refl _) hasNil))
          · have h10 := cond_neg c67 h10
            refine AWc.skip ?_
            refine AWc.rg hmix rfl rfl ?_
            refine RegV.p0 rfl rfl rfl ?_
            refine RegV.p0 (v := (.d (.int .i64 (IntKind.i64.wrap (y10_1 + (1 : Int)))))) rfl rfl rfl ?_
            refine RegV.p0 rfl rfl rfl ?_
            refine RegV.nil0 ?_
            exact ⟨(IntKind.i64.wrap (y10_1 + (1 : Int))), h10, ⟨rfl, [], [], rfl, rfl, ⟨⟨_, rfl, (.refl _)⟩, rfl, ⟨⟨_, rfl, (.refl _)⟩, rfl, trivial⟩⟩,  trivial⟩⟩
      · have h10 := cond_neg c37 h10
        refine RegV.noS rfl rfl ?_
        refine RegV.noS rfl rfl ?_
        refine RegV.noS rfl rfl ?_
        refine RegV.noS rfl rfl ?_
        refine RegV.noS rfl rfl ?_
        refine RegV.noS rfl rfl ?_
        refine RegV.noS rfl rfl ?_
        refine RegV.noS rfl rfl ?_
        refine RegV.noS rfl rfl ?_
        refine RegV.noS rfl rfl ?_
        refine RegV.noS rfl rfl ?_
        refine RegV.noS rfl rfl ?_
        refine RegV.noS rfl rfl ?_
        refine RegV.noS rfl rfl ?_
        refine RegV.noS rfl rfl ?_
        refine RegV.noS rfl rfl ?_
        refine RegV.noS rfl rfl ?_
        refine RegV.noS rfl rfl ?_
        refine RegV.noS rfl rfl ?_
        refine RegV.noS rfl rfl ?_
        refine RegV.noS rfl rfl ?_
        refine RegV.noS rfl rfl ?_
        refine RegV.noS rfl rfl ?_
        refine RegV.noS rfl rfl ?_
        refine RegV.noS rfl rfl ?_
        refine RegV.noS rfl rfl ?_
        refine RegV.noS rfl rfl ?_
        refine RegV.p0 rfl rfl rfl ?_
        refine RegV.p0 rfl rfl rfl ?_
        refine RegV.nil1 (by kernel_rfl) ?_
        refine AWc.cond rfl (fun hc => by cases hc) (fun _ => ?_)
        refine AWc.skip ?_
        refine AWc.rg hmix rfl rfl ?_
        refine RegV.p0 rfl rfl rfl ?_
        refine RegV.p0 (v := (.d (.int .i64 (IntKind.i64.wrap (y10_1 + (1 : Int)))))) rfl rfl rfl ?_
        refine RegV.p0 rfl rfl rfl ?_
        refine RegV.nil0 ?_
        exact ⟨(IntKind.i64.wrap (y10_1 + (1 : Int))), h10, ⟨rfl, [], [], rfl, rfl, ⟨⟨_, rfl, (.refl _)⟩, rfl, ⟨⟨_, rfl, (.refl _)⟩, rfl, trivial⟩⟩,  trivial⟩⟩
  · have h10 := cond_neg c20 h10
    cases h10
    dsimp only at h
    refine AWc.exit ?_
    refine inBlk_eq ?_
    refine AWc.seq ?_
    refine AWc.rg hmix rfl rfl ?_
    refine RegV.p0 rfl rfl rfl ?_
    refine RegV.nil0 ?_
    have hr := Option.some.inj h
    subst hr
    exact AWc.ret (canQ (N := 49) (k := 0) (l' := [(2, (.d (.bool true)))]) (H' := []) rfl ⟨rfl, [], [], rfl, rfl, ⟨⟨_, rfl, (.refl _)⟩, rfl, trivial⟩,  trivial⟩ (doneA (.inr rfl) rfl ⟨trivial, trivial⟩ (.refl _) hasNil))
/-- courant/couranthelp.Plain[courant/api.Spot]$1 -/
def C207 (N : Nat → Nat) : AFunc := { n := 8, params := 2, res := [.tmp 4], body :=
 (.seq (.region false [⟨(some 2), .box (.t 0), none, []⟩,
   ⟨(some 3), .box (.t 1), none, []⟩,
   ⟨(some 4), .mv (.k (.d (.bool false))), none, []⟩])
  (.seq (.region false [⟨(some 5), .load (.t 2) 2 true, none, []⟩,
    ⟨(some 6), .load (.t 3) 2 true, none, []⟩,
    ⟨(some 7), .aggeq false [0, 0] (.t 5) (.t 6), none, [0, 1]⟩,
    ⟨(some 4), .mv (.t 7), none, [2, 0, 1]⟩])
   .ret)) }
def HC207 (P : Program) (N : Nat → Nat) : Prop := HasF P (N 207) (C207 N)
def f207 (k : Nat) (a0 : TSpot) (a1 : TSpot) : Option Unit := some ()
theorem F207 {P : Program} {N : Nat → Nat} (hmix : P.follows .mixedOrders = true) (hc : HC207 P N) {k : Nat} {a0 : TSpot} {a1 : TSpot} {r : Unit} (h : f207 k a0 a1 = some r) :
    ACalls P (N 207) [(.d (TSpot.enc a0)), (.d (TSpot.enc a1))] [] (.d (.bool (decide (a0.fOffset = a1.fOffset) && (decide (a0.fAt = a1.fAt) && true)))) [] := by
  refine acalls_canon (F := C207 N) hc 0 0 rfl ?_
  unfold f207 at h
  dsimp only [C207, startL]
  refine AWc.seq ?_
  refine AWc.rg hmix rfl rfl ?_
  refine RegV.evS (own := false) (v := (.ptr 0 0)) (H' := [(0, (.cells [(.d (.int .u64 a0.fOffset)), (.d (.int .i64 a0.fAt))]))]) (c' := 1) rfl rfl trivial rfl rfl rfl rfl rfl rfl ?_
  refine RegV.evS (own := false) (v := (.ptr 1 0)) (H' := [(1, (.cells [(.d (.int .u64 a1.fOffset)), (.d (.int .i64 a1.fAt))])), (0, (.cells [(.d (.int .u64 a0.fOffset)), (.d (.int .i64 a0.fAt))]))]) (c' := 2) rfl rfl trivial rfl rfl rfl rfl rfl rfl ?_
  refine RegV.p0 rfl rfl rfl ?_
  refine RegV.nil0 ?_
  refine AWc.seq ?_
  refine AWc.rg hmix rfl rfl ?_
  refine RegV.ld (v := (.d (.agg [(.int .u64 a0.fOffset), (.int .i64 a0.fAt)]))) (H' := [(0, (.cells [(.d (.int .u64 a0.fOffset)), (.d (.int .i64 a0.fAt))])), (1, (.cells [(.d (.int .u64 a1.fOffset)), (.d (.int .i64 a1.fAt))]))]) rfl rfl (Nat.le_of_ble_eq_true rfl) rfl rfl rfl rfl rfl ?_
  refine RegV.ld (v := (.d (.agg [(.int .u64 a1.fOffset), (.int .i64 a1.fAt)]))) (H' := [(1, (.cells [(.d (.int .u64 a1.fOffset)), (.d (.int .i64 a1.fAt))])), (0, (.cells [(.d (.int .u64 a0.fOffset)), (.d (.int .i64 a0.fAt))]))]) rfl rfl (Nat.le_of_ble_eq_true rfl) rfl rfl rfl rfl rfl ?_
  refine RegV.agq (v := (decide (a0.fOffset = a1.fOffset) && (decide (a0.fAt = a1.fAt) && true))) rfl rfl rfl rfl rfl rfl ?_
  refine RegV.p0 rfl rfl rfl ?_
  refine RegV.nil0 ?_
  have hr := Option.some.inj h
  subst hr
  exact AWc.ret (canQ (N := 8) (k := 0) (l' := [(4, (.d (.bool (decide (a0.fOffset = a1.fOffset) && (decide (a0.fAt = a1.fAt) && true)))))]) (H' := []) rfl ⟨rfl, [], [], rfl, rfl, ⟨⟨_, rfl, (.refl _)⟩, rfl, trivial⟩,  trivial⟩ (doneA (.inr rfl) rfl ⟨trivial, trivial⟩ (.refl _) hasNil))
/-- courant/couranthelp.Same[courant/api.Spot] -/
def C206 (N : Nat → Nat) : AFunc := { n := 30, params := 3, res := [.tmp 6], body :=
 (.seq (.region false [⟨(some 6), .mv (.k (.d (.bool false))), none, []⟩])
  (.seq (.seq (.region false [⟨(some 8), .mv (.t 0), none, []⟩,
     ⟨(some 9), .len (.t 8), none, [0]⟩,
     ⟨(some 10), .mv (.t 1), none, []⟩,
     ⟨(some 11), .len (.t 10), none, [2]⟩,
     ⟨(some 12), .bin .neq (.t 9) (.t 11), none, [1, 3]⟩])
    (.cond (.t 12) (.seq (.region false [⟨(some 6), .mv (.k (.d (.bool false))), none, []⟩])
      .ret)
     (.skip)))
   (.seq (.seq (.region false [⟨(some 7), .mv (.k (.d (.int .i64 0))), none, []⟩])
     (.block 0 (.loop (.seq (.seq (.region false [⟨(some 13), .mv (.t 7), none, []⟩,
          ⟨(some 14), .mv (.t 0), none, []⟩,
          ⟨(some 15), .len (.t 14), none, [1]⟩,
          ⟨(some 16), .bin .lss (.t 13) (.t 15), none, [0, 2]⟩])
         (.cond (.t 16) (.skip)
          (.exit 0)))
        (.seq (.block 1 (.seq (.region true [⟨(some 19), .mv (.t 2), none, []⟩,
            ⟨(some 20), .mv (.t 0), none, []⟩,
            ⟨(some 21), .mv (.t 7), none, []⟩,
            ⟨(some 22), .iaddr (.t 20) (.t 21) 2, none, [1, 2]⟩,
            ⟨(some 23), .load (.t 22) 2 true, none, [3]⟩,
            ⟨(some 24), .mv (.t 1), none, []⟩,
            ⟨(some 25), .mv (.t 7), none, []⟩,
            ⟨(some 26), .iaddr (.t 24) (.t 25) 2, none, [5, 6]⟩,
            ⟨(some 27), .load (.t 26) 2 true, none, [7]⟩,
            ⟨(some 28), .call (.t 19) [(.t 23), (.t 27)], none, [0, 4, 8]⟩,
            ⟨(some 29), .un .not (.t 28), none, [9]⟩])
           (.cond (.t 29) (.seq (.region false [⟨(some 6), .mv (.k (.d (.bool false))), none, []⟩])
             .ret)
            (.skip))))
         (.region false [⟨(some 17), .mv (.t 7), none, []⟩,
          ⟨(some 18), .bin .add (.t 17) (.k (.d (.int .i64 1))), none, [0]⟩,
          ⟨(some 7), .mv (.t 18), none, [1, 0]⟩]))))))
    (.seq (.region false [⟨(some 6), .mv (.k (.d (.bool true))), none, []⟩])
     .ret)))) }
def HC206 (P : Program) (N : Nat → Nat) : Prop := HasF P (N 206) (C206 N) ∧ HC207 P N
def f206_l26 (a0 : (List TSpot)) (a1 : (List TSpot)) : Nat → Int → Option (LR2 Unit Unit Bool)
  | 0, _ => none
  | k + 1, y26_1 => cond (decide (y26_1 < ((a0.length : Nat) : Int))) (gd (0 ≤ y26_1 ∧ y26_1 < ((a0.length : Nat) : Int)) (gd (0 ≤ y26_1 ∧ y26_1 < ((a1.length : Nat) : Int)) ((f207 k (rd a0 y26_1) (rd a1 y26_1)).bind fun r53 => cond (!(decide ((rd a0 y26_1).fOffset = (rd a1 y26_1).fOffset) && (decide ((rd a0 y26_1).fAt = (rd a1 y26_1).fAt) && true))) (some (.r false)) (f206_l26 a0 a1 k (IntKind.i64.wrap (y26_1 + (1 : Int))))))) (some (.b0 ()))
def f206 (k : Nat) (a0 : (List TSpot)) (a1 : (List TSpot)) : Option Bool := cond (decide (((a0.length : Nat) : Int) ≠ ((a1.length : Nat) : Int))) (some false) ((f206_l26 a0 a1 k (0 : Int)).bind fun o26 => match o26 with | .b0 () => some true | .r x => some x | _ => none)
theorem F206 {P : Program} {N : Nat → Nat} (hmix : P.follows .mixedOrders = true) (hc : HC206 P N) {k : Nat} {a0 : (List TSpot)} {a1 : (List TSpot)} {r : Bool} (h : f206 k a0 a1 = some r) :
    ACalls P (N 206) [(.d (.sl (List.map TSpot.enc a0))), (.d (.sl (List.map TSpot.enc a1))), (.d (.fn (N 207)))] [] (.d (.bool r)) [] := by
  refine acalls_canon (F := C206 N) hc.1 0 0 rfl ?_
  unfold f206 at h
  dsimp only [C206, startL]
  refine AWc.seq ?_
  refine AWc.rg hmix rfl rfl ?_
  refine RegV.p0 rfl rfl rfl ?_
  refine RegV.nil0 ?_
  refine AWc.seq ?_
  refine AWc.seq ?_
  refine AWc.rg hmix rfl rfl ?_
  refine RegV.p0 rfl rfl rfl ?_
  refine RegV.len (xs := a0) (e := TSpot.enc) rfl rfl rfl rfl ?_
  refine RegV.p0 rfl rfl rfl ?_
  refine RegV.len (xs := a1) (e := TSpot.enc) rfl rfl rfl rfl ?_
  refine RegV.p0 (v := (.d (.bool (decide (((a0.length : Nat) : Int) ≠ ((a1.length : Nat) : Int)))))) rfl rfl rfl ?_
  refine RegV.nil0 ?_
  refine AWc.cond rfl (fun c14 => ?_) (fun c14 => ?_)
  · have h := cond_pos c14 h
    refine AWc.seq ?_
    refine AWc.rg hmix rfl rfl ?_
    refine RegV.p0 rfl rfl rfl ?_
    refine RegV.nil0 ?_
    have hr := Option.some.inj h
    subst hr
    exact AWc.ret (canQ (N := 30) (k := 0) (l' := [(6, (.d (.bool false)))]) (H' := []) rfl ⟨rfl, [], [], rfl, rfl, ⟨⟨_, rfl, (.refl _)⟩, rfl, trivial⟩,  trivial⟩ (doneA (.inr rfl) rfl ⟨trivial, trivial⟩ (.refl _) hasNil))
  · have h := cond_neg c14 h
    refine AWc.skip ?_
    refine AWc.seq ?_
    refine AWc.seq ?_
    refine AWc.rg hmix rfl rfl ?_
    refine RegV.p0 rfl rfl rfl ?_
    refine RegV.nil0 ?_
    obtain ⟨o26, h26, h⟩ := bind_some h
    refine AWc.block ?_
    refine AWc.loopK (N := 30) 0 (fun (x : Int) => [(0, (.d (.sl (List.map TSpot.enc a0)))), (1, (.d (.sl (List.map TSpot.enc a1)))), (2, (.d (.fn (N 207)))), (7, (.d (.int .i64 x)))]) (fun x => []) (fun k x => f206_l26 a0 a1 k x = some o26) k (0 : Int) rfl_le (fun x hx => by cases hx) h26 ⟨rfl, [], [], rfl, rfl, ⟨⟨_, rfl, (.refl _)⟩, rfl, ⟨⟨_, rfl, (.refl _)⟩, rfl, ⟨⟨_, rfl, (.refl _)⟩, rfl, ⟨⟨_, rfl, (.refl _)⟩, rfl, trivial⟩⟩⟩⟩,  trivial⟩ ?_
    clear h26
    intro k
    intro y26_1 h26
    rw [f206_l26] at h26
    refine AWc.seq ?_
    refine AWc.seq ?_
    refine AWc.rg hmix rfl rfl ?_
    refine RegV.p0 rfl rfl rfl ?_
    refine RegV.p0 rfl rfl rfl ?_
    refine RegV.len (xs := a0) (e := TSpot.enc) rfl rfl rfl rfl ?_
    refine RegV.p0 (v := (.d (.bool (decide (y26_1 < ((a0.length : Nat) : Int)))))) rfl rfl rfl ?_
    refine RegV.nil0 ?_
    refine AWc.cond rfl (fun c36 => ?_) (fun c36 => ?_)
    · have h26 := cond_pos c36 h26
      refine AWc.skip ?_
      refine AWc.seq ?_
      refine AWc.block ?_
      refine AWc.seq ?_
      refine AWc.rg hmix rfl rfl ?_
      refine RegV.p0 rfl rfl rfl ?_
      refine RegV.p0 rfl rfl rfl ?_
      refine RegV.p0 rfl rfl rfl ?_
      obtain ⟨b47, h26⟩ := gd_some h26
      refine RegV.iad (xs := a0) (e := TSpot.enc) rfl rfl rfl rfl (fun _ => rfl) b47 rfl ?_
      refine RegV.p1 (v := (.d (TSpot.enc (rd a0 y26_1)))) rfl rfl rfl rfl rfl ?_
      refine RegV.p0 rfl rfl rfl ?_
      refine RegV.p0 rfl rfl rfl ?_
      obtain ⟨b51, h26⟩ := gd_some h26
      refine RegV.iad (xs := a1) (e := TSpot.enc) rfl rfl rfl rfl (fun _ => rfl) b51 rfl ?_
      refine RegV.p1 (v := (.d (TSpot.enc (rd a1 y26_1)))) rfl rfl rfl rfl rfl ?_
      obtain ⟨r53, e53, h26⟩ := bind_some h26
      refine RegV.call0 (F207 hmix hc.2 e53) rfl rfl rfl rfl (.cons (.refl _) (.cons (.refl _) .nil)) rfl ?_
      refine RegV.p0 (v := (.d (.bool (!(decide ((rd a0 y26_1).fOffset = (rd a1 y26_1).fOffset) && (decide ((rd a0 y26_1).fAt = (rd a1 y26_1).fAt) && true)))))) rfl rfl rfl ?_
      refine RegV.nil1 (by kernel_rfl) ?_
      refine AWc.cond rfl (fun c55 => ?_) (fun c55 => ?_)
      · have h26 := cond_pos c55 h26
        refine AWc.seq ?_
        refine AWc.rg hmix rfl rfl ?_
        refine RegV.p0 rfl rfl rfl ?_
        refine RegV.nil0 ?_
        cases h26
        dsimp only at h
        have hr := Option.some.inj h
        subst hr
        exact AWc.ret (canQ (N := 30) (k := 0) (l' := [(6, (.d (.bool false)))]) (H' := []) rfl ⟨rfl, [], [], rfl, rfl, ⟨⟨_, rfl, (.refl _)⟩, rfl, trivial⟩,  trivial⟩ (doneA (.inr rfl) rfl ⟨trivial, trivial⟩ (.refl _) hasNil))
      · have h26 := cond_neg c55 h26
        refine AWc.skip ?_
        refine AWc.rg hmix rfl rfl ?_
        refine RegV.p0 rfl rfl rfl ?_
        refine RegV.p0 (v := (.d (.int .i64 (IntKind.i64.wrap (y26_1 + (1 : Int)))))) rfl rfl rfl ?_
        refine RegV.p0 rfl rfl rfl ?_
        refine RegV.nil0 ?_
        exact ⟨(IntKind.i64.wrap (y26_1 + (1 : Int))), h26, ⟨rfl, [], [], rfl, rfl, ⟨⟨_, rfl, (.refl _)⟩, rfl, ⟨⟨_, rfl, (.refl _)⟩, rfl, ⟨⟨_, rfl, (.refl _)⟩, rfl, ⟨⟨_, rfl, (.refl _)⟩, rfl, trivial⟩⟩⟩⟩,  trivial⟩⟩
    · have h26 := cond_neg c36 h26
      cases h26
      dsimp only at h
      refine AWc.exit ?_
      refine inBlk_eq ?_
      refine AWc.seq ?_
      refine AWc.rg hmix rfl rfl ?_
      refine RegV.p0 rfl rfl rfl ?_
      refine RegV.nil0 ?_
      have hr := Option.some.inj h
      subst hr
      exact AWc.ret (canQ (N := 30) (k := 0) (l' := [(6, (.d (.bool true)))]) (H' := []) rfl ⟨rfl, [], [], rfl, rfl, ⟨⟨_, rfl, (.refl _)⟩, rfl, trivial⟩,  trivial⟩ (doneA (.inr rfl) rfl ⟨trivial, trivial⟩ (.refl _) hasNil))
/-- courant/couranthelp.Plain[courant/api.Spot] -/
def C205 (N : Nat → Nat) : AFunc := { n := 8, params := 2, res := [.tmp 4], body :=
 (.seq (.region false [⟨(some 4), .mv (.k (.d (.bool false))), none, []⟩])
  (.seq (.region false [⟨(some 5), .mv (.t 0), none, []⟩,
    ⟨(some 6), .mv (.t 1), none, []⟩,
    ⟨(some 7), .call (.k (.d (.fn (N 206)))) [(.t 5), (.t 6), (.k (.d (.fn (N 207))))], none, [0, 1]⟩,
    ⟨(some 4), .mv (.t 7), none, [2, 0, 1]⟩])
   .ret)) }
def HC205 (P : Program) (N : Nat → Nat) : Prop := HasF P (N 205) (C205 N) ∧ HC206 P N
def f205 (k : Nat) (a0 : (List TSpot)) (a1 : (List TSpot)) : Option Bool := (f206 k a0 a1).bind fun r10 => some r10
theorem F205 {P : Program} {N : Nat → Nat} (hmix : P.follows .mixedOrders = true) (hc : HC205 P N) {k : Nat} {a0 : (List TSpot)} {a1 : (List TSpot)} {r : Bool} (h : f205 k a0 a1 = some r) :
    ACalls P (N 205) [(.d (.sl (List.map TSpot.enc a0))), (.d (.sl (List.map TSpot.enc a1)))] [] (.d (.bool r)) [] := by
  refine acalls_canon (F := C205 N) hc.1 0 0 rfl ?_
  unfold f205 at h
  dsimp only [C205, startL]
  refine AWc.seq ?_
  refine AWc.rg hmix rfl rfl ?_
  refine RegV.p0 rfl rfl rfl ?_
  refine RegV.nil0 ?_
  refine AWc.seq ?_
  refine AWc.rg hmix rfl rfl ?_
  refine RegV.p0 rfl rfl rfl ?_
  refine RegV.p0 rfl rfl rfl ?_
  obtain ⟨r10, e10, h⟩ := bind_some h
  refine RegV.call0 (F206 hmix hc.2 e10) rfl rfl rfl rfl (.cons (.refl _) (.cons (.refl _) (.cons (.refl _) .nil))) rfl ?_
  refine RegV.p0 rfl rfl rfl ?_
  refine RegV.nil0 ?_
  have hr := Option.some.inj h
  subst hr
  exact AWc.ret (canQ (N := 8) (k := 0) (l' := [(4, (.d (.bool r10)))]) (H' := []) rfl ⟨rfl, [], [], rfl, rfl, ⟨⟨_, rfl, (.refl _)⟩, rfl, trivial⟩,  trivial⟩ (doneA (.inr rfl) rfl ⟨trivial, trivial⟩ (.refl _) hasNil))
/-- courant/couranthelp.Kept[courant/api.Spot] -/
def C213 (N : Nat → Nat) : AFunc := { n := 40, params := 3, res := [.tmp 6], body :=
 (.seq (.region false [⟨(some 5), .box (.t 2), none, []⟩,
   ⟨(some 6), .mv (.k (.d (.bool false))), none, []⟩])
  (.seq (.seq (.region false [⟨(some 9), .mv (.t 0), none, []⟩,
     ⟨(some 10), .mv (.t 1), none, []⟩,
     ⟨(some 11), .call (.k (.d (.fn (N 205)))) [(.t 9), (.t 10)], none, [0, 1]⟩,
     ⟨(some 12), .un .not (.t 11), none, [2]⟩,
     ⟨(some 13), .mv (.t 12), none, [3, 2]⟩,
     ⟨(some 14), .mv (.t 0), (some (13, false)), [4]⟩,
     ⟨(some 15), .cap (.t 14), (some (13, false)), [5, 4]⟩,
     ⟨(some 16), .mv (.t 1), (some (13, false)), [4]⟩,
     ⟨(some 17), .len (.t 16), (some (13, false)), [7, 4]⟩,
     ⟨(some 18), .bin .add (.t 17) (.k (.d (.int .i64 3))), (some (13, false)), [8, 4]⟩,
     ⟨(some 19), .bin .lss (.t 15) (.t 18), (some (13, false)), [6, 9, 4]⟩,
     ⟨(some 20), .pick (.t 13) (.k (.d (.bool true))) (.t 19), none, [4, 10]⟩])
    (.cond (.t 20) (.seq (.region false [⟨(some 6), .mv (.k (.d (.bool false))), none, []⟩])
      .ret)
     (.skip)))
   (.seq (.region false [⟨(some 21), .mv (.t 0), none, []⟩,
     ⟨(some 22), .mv (.t 1), none, []⟩,
     ⟨(some 23), .len (.t 22), none, [1]⟩,
     ⟨(some 24), .bin .add (.t 23) (.k (.d (.int .i64 3))), none, [2]⟩,
     ⟨(some 25), .slc (.t 21) none (some (.t 24)) none 2, none, [0, 3]⟩,
     ⟨(some 7), .mv (.t 25), none, [4, 0, 1, 2, 3]⟩])
    (.seq (.seq (.region false [⟨(some 26), .mv (.t 1), none, []⟩,
       ⟨(some 27), .len (.t 26), none, [0]⟩,
       ⟨(some 8), .mv (.t 27), none, [1, 0]⟩])
      (.block 0 (.loop (.seq (.seq (.region false [⟨(some 28), .mv (.t 8), none, []⟩,
           ⟨(some 29), .mv (.t 7), none, []⟩,
           ⟨(some 30), .len (.t 29), none, [1]⟩,
           ⟨(some 31), .bin .lss (.t 28) (.t 30), none, [0, 2]⟩])
          (.cond (.t 31) (.skip)
           (.exit 0)))
         (.seq (.block 1 (.seq (.region true [⟨(some 34), .mv (.t 7), none, []⟩,
             ⟨(some 35), .mv (.t 8), none, []⟩,
             ⟨(some 36), .iaddr (.t 34) (.t 35) 2, none, [0, 1]⟩,
             ⟨(some 37), .load (.t 36) 2 true, none, [2]⟩,
             ⟨(some 38), .load (.t 5) 2 true, none, []⟩,
             ⟨(some 39), .aggeq true [0, 0] (.t 37) (.t 38), none, [3, 4]⟩])
            (.cond (.t 39) (.seq (.region false [⟨(some 6), .mv (.k (.d (.bool false))), none, []⟩])
              .ret)
             (.skip))))
          (.region false [⟨(some 32), .mv (.t 8), none, []⟩,
           ⟨(some 33), .bin .add (.t 32) (.k (.d (.int .i64 1))), none, [0]⟩,
           ⟨(some 8), .mv (.t 33), none, [1, 0]⟩]))))))
     (.seq (.region false [⟨(some 6), .mv (.k (.d (.bool true))), none, []⟩])
      .ret))))) }
def HC213 (P : Program) (N : Nat → Nat) : Prop := HasF P (N 213) (C213 N) ∧ HC205 P N
def f213_l45 (a2 : (List TSpot)) (a0 : (List TSpot)) (a3 : TSpot) : Nat → Int → Option (LR2 Unit Unit Bool)
  | 0, _ => none
  | k + 1, y45_1 => cond (decide (y45_1 < (((List.take (((IntKind.i64.wrap (((a2.length : Nat) : Int) + (3 : Int)))).toNat) a0).length : Nat) : Int))) (gd (0 ≤ y45_1 ∧ y45_1 < (((List.take (((IntKind.i64.wrap (((a2.length : Nat) : Int) + (3 : Int)))).toNat) a0).length : Nat) : Int)) (cond (!(decide ((rd (List.take (((IntKind.i64.wrap (((a2.length : Nat) : Int) + (3 : Int)))).toNat) a0) y45_1).fOffset = a3.fOffset) && (decide ((rd (List.take (((IntKind.i64.wrap (((a2.length : Nat) : Int) + (3 : Int)))).toNat) a0) y45_1).fAt = a3.fAt) && true))) (some (.r false)) (f213_l45 a2 a0 a3 k (IntKind.i64.wrap (y45_1 + (1 : Int)))))) (some (.b0 ()))
def f213 (k : Nat) (a0 : (List TSpot)) (a1 : Nat) (a2 : (List TSpot)) (a3 : TSpot) : Option Bool := (f205 k (List.take a1 a0) a2).bind fun r12 => cond (!r12) (some false) (cond (decide (((a0.length : Nat) : Int) < (IntKind.i64.wrap (((a2.length : Nat) : Int) + (3 : Int))))) (some false) (gd (0 ≤ (IntKind.i64.wrap (((a2.length : Nat) : Int) + (3 : Int))) ∧ (IntKind.i64.wrap (((a2.length : Nat) : Int) + (3 : Int))) ≤ ((a0.length : Nat) : Int)) ((f213_l45 a2 a0 a3 k ((a2.length : Nat) : Int)).bind fun o45 => match o45 with | .b0 () => some true | .r x => some x | _ => none)))
theorem F213 {P : Program} {N : Nat → Nat} (hmix : P.follows .mixedOrders = true) (hc : HC213 P N) {k : Nat} {a0 : (List TSpot)} {a1 : Nat} {a2 : (List TSpot)} {a3 : TSpot} {r : Bool} (h : f213 k a0 a1 a2 a3 = some r) :
    ACalls P (N 213) [(.win (List.map TSpot.enc a0) a1), (.d (.sl (List.map TSpot.enc a2))), (.d (TSpot.enc a3))] [] (.d (.bool r)) [] := by
  refine acalls_canon (F := C213 N) hc.1 0 0 rfl ?_
  unfold f213 at h
  dsimp only [C213, startL]
  refine AWc.seq ?_
  refine AWc.rg hmix rfl rfl ?_
  refine RegV.evS (own := false) (v := (.ptr 0 0)) (H' := [(0, (.cells [(.d (.int .u64 a3.fOffset)), (.d (.int .i64 a3.fAt))]))]) (c' := 1) rfl rfl trivial rfl rfl rfl rfl rfl rfl ?_
  refine RegV.p0 rfl rfl rfl ?_
  refine RegV.nil0 ?_
  refine AWc.seq ?_
  refine AWc.seq ?_
  refine AWc.rg hmix rfl rfl ?_
  refine RegV.p0 rfl rfl rfl ?_
  refine RegV.p0 rfl rfl rfl ?_
  obtain ⟨r12, e12, h⟩ := bind_some h
  refine RegV.call0 (F205 hmix hc.2 e12) rfl rfl rfl rfl (.cons .win (.cons (.refl _) .nil)) rfl ?_
  refine RegV.p0 (v := (.d (.bool (!r12)))) rfl rfl rfl ?_
  refine RegV.p0 rfl rfl rfl ?_
  refine RegV.split (fun c14 => ?_) (fun c14 => ?_)
  · have h := cond_pos c14 h
    refine RegV.noS rfl rfl ?_
    refine RegV.noS rfl rfl ?_
    refine RegV.noS rfl rfl ?_
    refine RegV.noS rfl rfl ?_
    refine RegV.noS rfl rfl ?_
    refine RegV.noS rfl rfl ?_
    refine RegV.p0 rfl rfl rfl ?_
    refine RegV.nil0 ?_
    refine AWc.cond rfl (fun _ => ?_) (fun hc => by cases hc)
    refine AWc.seq ?_
    refine AWc.rg hmix rfl rfl ?_
    refine RegV.p0 rfl rfl rfl ?_
    refine RegV.nil0 ?_
    have hr := Option.some.inj h
    subst hr
    exact AWc.ret (canQ (N := 40) (k := 0) (l' := [(6, (.d (.bool false)))]) (H' := []) rfl ⟨rfl, [], [], rfl, rfl, ⟨⟨_, rfl, (.refl _)⟩, rfl, trivial⟩,  trivial⟩ (doneA (.inr rfl) rfl ⟨trivial, trivial⟩ (.refl _) hasNil))
  · have h := cond_neg c14 h
    refine RegV.p0 rfl rfl rfl ?_
    refine RegV.capW (ys := a0) (e := TSpot.enc) rfl rfl rfl ?_
    refine RegV.p0 rfl rfl rfl ?_
    refine RegV.len (xs := a2) (e := TSpot.enc) rfl rfl rfl rfl ?_
    refine RegV.p0 (v := (.d (.int .i64 (IntKind.i64.wrap (((a2.length : Nat) : Int) + (3 : Int)))))) rfl rfl rfl ?_
    refine RegV.p0 (v := (.d (.bool (decide (((a0.length : Nat) : Int) < (IntKind.i64.wrap (((a2.length : Nat) : Int) + (3 : Int)))))))) rfl rfl rfl ?_
    refine RegV.p0 rfl rfl rfl ?_
    refine RegV.nil0 ?_
    refine AWc.cond rfl (fun c22 => ?_) (fun c22 => ?_)
    · have h := cond_pos c22 h
      refine AWc.seq ?_
      refine AWc.rg hmix rfl rfl ?_
      refine RegV.p0 rfl rfl rfl ?_
      refine RegV.nil0 ?_
      have hr := Option.some.inj h
      subst hr
      exact AWc.ret (canQ (N := 40) (k := 0) (l' := [(6, (.d (.bool false)))]) (H' := []) rfl ⟨rfl, [], [], rfl, rfl, ⟨⟨_, rfl, (.refl _)⟩, rfl, trivial⟩,  trivial⟩ (doneA (.inr rfl) rfl ⟨trivial, trivial⟩ (.refl _) hasNil))
    · have h := cond_neg c22 h
      refine AWc.skip ?_
      refine AWc.seq ?_
      refine AWc.rg hmix rfl rfl ?_
      refine RegV.p0 rfl rfl rfl ?_
      refine RegV.p0 rfl rfl rfl ?_
      refine RegV.len (xs := a2) (e := TSpot.enc) rfl rfl rfl rfl ?_
      refine RegV.p0 (v := (.d (.int .i64 (IntKind.i64.wrap (((a2.length : Nat) : Int) + (3 : Int)))))) rfl rfl rfl ?_
      obtain ⟨b36, h⟩ := gd_some h
      refine RegV.slW (ys := a0) (e := TSpot.enc) (hi := (IntKind.i64.wrap (((a2.length : Nat) : Int) + (3 : Int)))) rfl rfl rfl b36 rfl ?_
      refine RegV.p0 rfl rfl rfl ?_
      refine RegV.nil0 ?_
      refine AWc.seq ?_
      refine AWc.seq ?_
      refine AWc.rg hmix rfl rfl ?_
      refine RegV.p0 rfl rfl rfl ?_
      refine RegV.len (xs := a2) (e := TSpot.enc) rfl rfl rfl rfl ?_
      refine RegV.p0 rfl rfl rfl ?_
      refine RegV.nil0 ?_
      obtain ⟨o45, h45, h⟩ := bind_some h
      refine AWc.block ?_
      refine AWc.loopK (N := 40) 1 (fun (x : Int) => [(5, (.ptr 0 0)), (7, (.win (List.map TSpot.enc a0) (((IntKind.i64.wrap (((a2.length : Nat) : Int) + (3 : Int)))).toNat))), (8, (.d (.int .i64 x)))]) (fun x => [(0, (.cells [(.d (.int .u64 a3.fOffset)), (.d (.int .i64 a3.fAt))]))]) (fun k x => f213_l45 a2 a0 a3 k x = some o45) k ((a2.length : Nat) : Int) rfl_le (fun x hx => by cases hx) h45 ⟨rfl, [], [], rfl, rfl, ⟨⟨_, rfl, (.refl _)⟩, rfl, ⟨⟨_, rfl, (.refl _)⟩, rfl, ⟨⟨_, rfl, (.refl _)⟩, rfl, trivial⟩⟩⟩, ⟨⟨_, rfl, (.refl _)⟩, rfl, rfl, trivial⟩⟩ ?_
      clear h45
      intro k
      intro y45_1 h45
      rw [f213_l45] at h45
      refine AWc.seq ?_
      refine AWc.seq ?_
      refine AWc.rg hmix rfl rfl ?_
      refine RegV.p0 rfl rfl rfl ?_
      refine RegV.p0 rfl rfl rfl ?_
      refine RegV.len (xs := (List.take (((IntKind.i64.wrap (((a2.length : Nat) : Int) + (3 : Int)))).toNat) a0)) (e := TSpot.enc) rfl rfl (toSlW _ _) rfl ?_
      refine RegV.p0 (v := (.d (.bool (decide (y45_1 < (((List.take (((IntKind.i64.wrap (((a2.length : Nat) : Int) + (3 : Int)))).toNat) a0).length : Nat) : Int)))))) rfl rfl rfl ?_
      refine RegV.nil0 ?_
      refine AWc.cond rfl (fun c55 => ?_) (fun c55 => ?_)
      · have h45 := cond_pos c55 h45
        refine AWc.skip ?_
        refine AWc.seq ?_
        refine AWc.block ?_
        refine AWc.seq ?_
        refine AWc.rg hmix rfl rfl ?_
        refine RegV.p0 rfl rfl rfl ?_
        refine RegV.p0 rfl rfl rfl ?_
        obtain ⟨b65, h45⟩ := gd_some h45
        refine RegV.iad (xs := (List.take (((IntKind.i64.wrap (((a2.length : Nat) : Int) + (3 : Int)))).toNat) a0)) (e := TSpot.enc) rfl rfl (toSlW _ _) rfl (fun _ => rfl) b65 rfl ?_
        refine RegV.p1 (v := (.d (TSpot.enc (rd (List.take (((IntKind.i64.wrap (((a2.length : Nat) : Int) + (3 : Int)))).toNat) a0) y45_1)))) rfl rfl rfl rfl rfl ?_
        refine RegV.ld (v := (.d (.agg [(.int .u64 a3.fOffset), (.int .i64 a3.fAt)]))) (H' := [(0, (.cells [(.d (.int .u64 a3.fOffset)), (.d (.int .i64 a3.fAt))]))]) rfl rfl (Nat.le_of_ble_eq_true rfl) rfl rfl rfl rfl rfl ?_
        refine RegV.agq (v := (!(decide ((rd (List.take (((IntKind.i64.wrap (((a2.length : Nat) : Int) + (3 : Int)))).toNat) a0) y45_1).fOffset = a3.fOffset) && (decide ((rd (List.take (((IntKind.i64.wrap (((a2.length : Nat) : Int) + (3 : Int)))).toNat) a0) y45_1).fAt = a3.fAt) && true)))) rfl rfl rfl rfl rfl rfl ?_
        refine RegV.nil1 (by kernel_rfl) ?_
        refine AWc.cond rfl (fun c69 => ?_) (fun c69 => ?_)
        · have h45 := cond_pos c69 h45
          refine AWc.seq ?_
          refine AWc.rg hmix rfl rfl ?_
          refine RegV.p0 rfl rfl rfl ?_
          refine RegV.nil0 ?_
          cases h45
          dsimp only at h
          have hr := Option.some.inj h
          subst hr
          exact AWc.ret (canQ (N := 40) (k := 0) (l' := [(6, (.d (.bool false)))]) (H' := []) rfl ⟨rfl, [], [], rfl, rfl, ⟨⟨_, rfl, (.refl _)⟩, rfl, trivial⟩,  trivial⟩ (doneA (.inr rfl) rfl ⟨trivial, trivial⟩ (.refl _) hasNil))
        · have h45 := cond_neg c69 h45
          refine AWc.skip ?_
          refine AWc.rg hmix rfl rfl ?_
          refine RegV.p0 rfl rfl rfl ?_
          refine RegV.p0 (v := (.d (.int .i64 (IntKind.i64.wrap (y45_1 + (1 : Int)))))) rfl rfl rfl ?_
          refine RegV.p0 rfl rfl rfl ?_
          refine RegV.nil0 ?_
          exact ⟨(IntKind.i64.wrap (y45_1 + (1 : Int))), h45, ⟨rfl, [], [], rfl, rfl, ⟨⟨_, rfl, (.refl _)⟩, rfl, ⟨⟨_, rfl, (.refl _)⟩, rfl, ⟨⟨_, rfl, (.refl _)⟩, rfl, trivial⟩⟩⟩, ⟨⟨_, rfl, (.refl _)⟩, rfl, rfl, trivial⟩⟩⟩
      · have h45 := cond_neg c55 h45
        cases h45
        dsimp only at h
        refine AWc.exit ?_
        refine inBlk_eq ?_
        refine AWc.seq ?_
        refine AWc.rg hmix rfl rfl ?_
        refine RegV.p0 rfl rfl rfl ?_
        refine RegV.nil0 ?_
        have hr := Option.some.inj h
        subst hr
        exact AWc.ret (canQ (N := 40) (k := 0) (l' := [(6, (.d (.bool true)))]) (H' := []) rfl ⟨rfl, [], [], rfl, rfl, ⟨⟨_, rfl, (.refl _)⟩, rfl, trivial⟩,  trivial⟩ (doneA (.inr rfl) rfl ⟨trivial, trivial⟩ (.refl _) hasNil))
/-- courant/index.Find -/
def C201 (N : Nat → Nat) : AFunc := { n := 21, params := 2, res := [.cell 4 2 true], body :=
 (.seq (.region false [⟨(some 4), .alloc [(.int .u64 0), (.int .i64 0)], none, []⟩])
  (.scope (.seq (.region false [⟨(some 5), .alloc [(.int .u64 0), (.int .i64 0)], none, []⟩])
    (.seq (.label 0)
     (.seq (.seq (.region false [⟨(some 8), .mv (.t 0), none, []⟩,
        ⟨(some 9), .len (.t 8), none, [0]⟩,
        ⟨(some 10), .mv (.k (.d (.int .i64 0))), none, []⟩])
       (.block 0 (.loop (.seq (.region false [⟨(some 11), .bin .lss (.t 10) (.t 9), none, []⟩])
          (.seq (.cond (.t 11) (.skip)
            (.exit 0))
           (.seq (.block 1 (.seq (.region false [⟨(some 12), .iaddr (.t 8) (.t 10) 2, none, []⟩,
               ⟨(some 13), .load (.t 12) 2 true, none, [0]⟩,
               ⟨(some 7), .alloc [(.int .u64 0), (.int .i64 0)], none, []⟩,
               ⟨none, .store (.t 7) (.t 13) 2, none, [2, 1, 0]⟩])
              (.seq (.seq (.region false [⟨(some 14), .faddr (.t 7) 0, none, []⟩,
                 ⟨(some 15), .load (.t 14) 1 false, none, [0]⟩,
                 ⟨(some 16), .mv (.t 1), none, []⟩,
                 ⟨(some 17), .bin .gtr (.t 15) (.t 16), none, [1, 2]⟩])
                (.cond (.t 17) (.exit 0)
                 (.skip)))
               (.region false [⟨(some 18), .load (.t 7) 2 true, none, []⟩,
                ⟨none, .store (.t 5) (.t 18) 2, none, [0]⟩]))))
            (.region false [⟨(some 19), .bin .add (.t 10) (.k (.d (.int .i64 1))), none, []⟩,
             ⟨(some 10), .mv (.t 19), none, [0]⟩])))))))
      (.seq (.region false [⟨(some 20), .load (.t 5) 2 true, none, []⟩,
        ⟨none, .store (.t 4) (.t 20) 2, none, [0]⟩])
       .ret)))))) }
def HC201 (P : Program) (N : Nat → Nat) : Prop := HasF P (N 201) (C201 N)
def f201_l19 (a0 : (List TSpot)) (a1 : Int) : Nat → Int → Int → Int → Option (LR2 (Int × Int) Unit (Int × Int))
  | 0, _, _, _ => none
  | k + 1, y19_1, y19_2, y19_3 => cond (decide (y19_1 < ((a0.length : Nat) : Int))) (gd (0 ≤ y19_1 ∧ y19_1 < ((a0.length : Nat) : Int)) (cond (decide ((rd a0 y19_1).fOffset > a1)) (some (.b0 (y19_2, y19_3))) (f201_l19 a0 a1 k (IntKind.i64.wrap (y19_1 + (1 : Int))) ((rd a0 y19_1).fOffset) ((rd a0 y19_1).fAt)))) (some (.b0 (y19_2, y19_3)))
def f201 (k : Nat) (a0 : (List TSpot)) (a1 : Int) : Option (Int × Int) := (f201_l19 a0 a1 k (0 : Int) (0 : Int) (0 : Int)).bind fun o19 => match o19 with | .b0 (x19_1, x19_2) => some (x19_1, x19_2) | _ => none
theorem F201 {P : Program} {N : Nat → Nat} (hmix : P.follows .mixedOrders = true) (hc : HC201 P N) {k : Nat} {a0 : (List TSpot)} {a1 : Int} {r : (Int × Int)} (h : f201 k a0 a1 = some r) :
    ACalls P (N 201) [(.d (.sl (List.map TSpot.enc a0))), (.d (.int .u64 a1))] [] (.d (.agg [(.int .u64 r.1), (.int .i64 r.2)])) [] := by
  refine acalls_canon (F := C201 N) hc 0 0 rfl ?_
  unfold f201 at h
  dsimp only [C201, startL]
  refine AWc.seq ?_
  refine AWc.rg hmix rfl rfl ?_
  refine RegV.evS (own := false) (v := (.ptr 0 0)) (H' := [(0, (.cells [(.d (.int .u64 (0 : Int))), (.d (.int .i64 (0 : Int)))]))]) (c' := 1) rfl rfl trivial rfl rfl rfl rfl rfl rfl ?_
  refine RegV.nil0 ?_
  refine AWc.scope ?_
  refine AWc.seq ?_
  refine AWc.rg hmix rfl rfl ?_
  refine RegV.evS (own := false) (v := (.ptr 1 0)) (H' := [(1, (.cells [(.d (.int .u64 (0 : Int))), (.d (.int .i64 (0 : Int)))])), (0, (.cells [(.d (.int .u64 (0 : Int))), (.d (.int .i64 (0 : Int)))]))]) (c' := 2) rfl rfl trivial rfl rfl rfl rfl rfl rfl ?_
  refine RegV.nil0 ?_
  refine AWc.seq ?_
  refine AWc.label ?_
  refine AWc.seq ?_
  refine AWc.seq ?_
  refine AWc.rg hmix rfl rfl ?_
  refine RegV.p0 rfl rfl rfl ?_
  refine RegV.len (xs := a0) (e := TSpot.enc) rfl rfl rfl rfl ?_
  refine RegV.p0 rfl rfl rfl ?_
  refine RegV.nil0 ?_
  obtain ⟨o19, h19, h⟩ := bind_some h
  refine AWc.block ?_
  refine AWc.loopK (N := 21) 2 (fun (x : (Int × Int × Int)) => [(1, (.d (.int .u64 a1))), (4, (.ptr 0 0)), (5, (.ptr 1 0)), (8, (.d (.sl (List.map TSpot.enc a0)))), (9, (.d (.int .i64 ((a0.length : Nat) : Int)))), (10, (.d (.int .i64 x.1)))]) (fun x => [(0, (.cells [(.d (.int .u64 (0 : Int))), (.d (.int .i64 (0 : Int)))])), (1, (.cells [(.d (.int .u64 x.2.1)), (.d (.int .i64 x.2.2))]))]) (fun k x => f201_l19 a0 a1 k x.1 x.2.1 x.2.2 = some o19) k ((0 : Int), (0 : Int), (0 : Int)) rfl_le (fun x hx => by cases hx) h19 ⟨rfl, [], [], rfl, rfl, ⟨⟨_, rfl, (.refl _)⟩, rfl, ⟨⟨_, rfl, (.refl _)⟩, rfl, ⟨⟨_, rfl, (.refl _)⟩, rfl, ⟨⟨_, rfl, (.refl _)⟩, rfl, ⟨⟨_, rfl, (.refl _)⟩, rfl, ⟨⟨_, rfl, (.refl _)⟩, rfl, trivial⟩⟩⟩⟩⟩⟩, ⟨⟨_, rfl, (.refl _)⟩, rfl, rfl, ⟨⟨_, rfl, (.refl _)⟩, rfl, rfl, trivial⟩⟩⟩ ?_
  clear h19
  intro k
  rintro ⟨y19_1, y19_2, y19_3⟩ h19
  dsimp only at h19 ⊢
  rw [f201_l19] at h19
  refine AWc.seq ?_
  refine AWc.rg hmix rfl rfl ?_
  refine RegV.p0 (v := (.d (.bool (decide (y19_1 < ((a0.length : Nat) : Int)))))) rfl rfl rfl ?_
  refine RegV.nil0 ?_
  refine AWc.seq ?_
  refine AWc.cond rfl (fun c26 => ?_) (fun c26 => ?_)
  · have h19 := cond_pos c26 h19
    refine AWc.skip ?_
    refine AWc.seq ?_
    refine AWc.block ?_
    refine AWc.seq ?_
    refine AWc.rg hmix rfl rfl ?_
    obtain ⟨b34, h19⟩ := gd_some h19
    refine RegV.iad (xs := a0) (e := TSpot.enc) rfl rfl rfl rfl (fun _ => rfl) b34 rfl ?_
    refine RegV.p1 (v := (.d (TSpot.enc (rd a0 y19_1)))) rfl rfl rfl rfl rfl ?_
    refine RegV.evS (own := false) (v := (.ptr 2 0)) (H' := [(2, (.cells [(.d (.int .u64 (0 : Int))), (.d (.int .i64 (0 : Int)))])), (0, (.cells [(.d (.int .u64 (0 : Int))), (.d (.int .i64 (0 : Int)))])), (1, (.cells [(.d (.int .u64 y19_2)), (.d (.int .i64 y19_3))]))]) (c' := 3) rfl rfl trivial rfl rfl rfl rfl rfl rfl ?_
    refine RegV.evN (own := false) (H' := [(2, (.cells [(.d (.int .u64 (rd a0 y19_1).fOffset)), (.d (.int .i64 (rd a0 y19_1).fAt))])), (0, (.cells [(.d (.int .u64 (0 : Int))), (.d (.int .i64 (0 : Int)))])), (1, (.cells [(.d (.int .u64 y19_2)), (.d (.int .i64 y19_3))]))]) (c' := 3) rfl rfl (by exact ⟨rfl, Nat.le_of_ble_eq_true rfl, rfl⟩) rfl rfl rfl rfl ?_
    refine RegV.nil0 ?_
    refine AWc.seq ?_
    refine AWc.seq ?_
    refine AWc.rg hmix rfl rfl ?_
    refine RegV.p0 (v := (.ptr 2 0)) rfl rfl rfl ?_
    refine RegV.ld (v := (.d (.int .u64 (rd a0 y19_1).fOffset))) (H' := [(2, (.cells [(.d (.int .u64 (rd a0 y19_1).fOffset)), (.d (.int .i64 (rd a0 y19_1).fAt))])), (0, (.cells [(.d (.int .u64 (0 : Int))), (.d (.int .i64 (0 : Int)))])), (1, (.cells [(.d (.int .u64 y19_2)), (.d (.int .i64 y19_3))]))]) rfl rfl trivial rfl rfl rfl rfl rfl ?_
    refine RegV.p0 rfl rfl rfl ?_
    refine RegV.p0 (v := (.d (.bool (decide ((rd a0 y19_1).fOffset > a1))))) rfl rfl rfl ?_
    refine RegV.nil0 ?_
    refine AWc.cond rfl (fun c46 => ?_) (fun c46 => ?_)
    · have h19 := cond_pos c46 h19
      cases h19
      dsimp only at h
      refine AWc.exit ?_
      refine inBlk_ne rfl ?_
      refine inBlk_eq ?_
      refine AWc.seq ?_
      refine AWc.rg hmix rfl rfl ?_
      refine RegV.ld (v := (.d (.agg [(.int .u64 y19_2), (.int .i64 y19_3)]))) (H' := [(1, (.cells [(.d (.int .u64 y19_2)), (.d (.int .i64 y19_3))])), (2, (.cells [(.d (.int .u64 (rd a0 y19_1).fOffset)), (.d (.int .i64 (rd a0 y19_1).fAt))])), (0, (.cells [(.d (.int .u64 (0 : Int))), (.d (.int .i64 (0 : Int)))]))]) rfl rfl (Nat.le_of_ble_eq_true rfl) rfl rfl rfl rfl rfl ?_
      refine RegV.evN (own := false) (H' := [(0, (.cells [(.d (.int .u64 y19_2)), (.d (.int .i64 y19_3))])), (1, (.cells [(.d (.int .u64 y19_2)), (.d (.int .i64 y19_3))])), (2, (.cells [(.d (.int .u64 (rd a0 y19_1).fOffset)), (.d (.int .i64 (rd a0 y19_1).fAt))]))]) (c' := 3) rfl rfl (by exact ⟨rfl, Nat.le_of_ble_eq_true rfl, rfl⟩) rfl rfl rfl rfl ?_
      refine RegV.nil0 ?_
      have hr := Option.some.inj h
      subst hr
      exact AWc.ret (canQ (N := 21) (k := 1) (l' := [(4, (.ptr 0 0))]) (H' := [(0, (.cells [(.d (.int .u64 y19_2)), (.d (.int .i64 y19_3))]))]) rfl ⟨rfl, [], [], rfl, rfl, ⟨⟨_, rfl, (.refl _)⟩, rfl, trivial⟩, ⟨⟨_, rfl, (.refl _)⟩, rfl, rfl, trivial⟩⟩ (doneA (.inr rfl) rfl ⟨(Nat.le_of_ble_eq_true rfl), trivial⟩ (.refl _) hasNil))
    · have h19 := cond_neg c46 h19
      refine AWc.skip ?_
      refine AWc.rg hmix rfl rfl ?_
      refine RegV.ld (v := (.d (.agg [(.int .u64 (rd a0 y19_1).fOffset), (.int .i64 (rd a0 y19_1).fAt)]))) (H' := [(2, (.cells [(.d (.int .u64 (rd a0 y19_1).fOffset)), (.d (.int .i64 (rd a0 y19_1).fAt))])), (0, (.cells [(.d (.int .u64 (0 : Int))), (.d (.int .i64 (0 : Int)))])), (1, (.cells [(.d (.int .u64 y19_2)), (.d (.int .i64 y19_3))]))]) rfl rfl (Nat.le_of_ble_eq_true rfl) rfl rfl rfl rfl rfl ?_
      refine RegV.evN (own := false) (H' := [(1, (.cells [(.d (.int .u64 (rd a0 y19_1).fOffset)), (.d (.int .i64 (rd a0 y19_1).fAt))])), (2, (.cells [(.d (.int .u64 (rd a0 y19_1).fOffset)), (.d (.int .i64 (rd a0 y19_1).fAt))])), (0, (.cells [(.d (.int .u64 (0 : Int))), (.d (.int .i64 (0 : Int)))]))]) (c' := 3) rfl rfl (by exact ⟨rfl, Nat.le_of_ble_eq_true rfl, rfl⟩) rfl rfl rfl rfl ?_
      refine RegV.nil0 ?_
      refine AWc.rg hmix rfl rfl ?_
      refine RegV.p0 (v := (.d (.int .i64 (IntKind.i64.wrap (y19_1 + (1 : Int)))))) rfl rfl rfl ?_
      refine RegV.p0 rfl rfl rfl ?_
      refine RegV.nil0 ?_
      exact ⟨((IntKind.i64.wrap (y19_1 + (1 : Int))), (rd a0 y19_1).fOffset, (rd a0 y19_1).fAt), h19, ⟨rfl, [], [], rfl, rfl, ⟨⟨_, rfl, (.refl _)⟩, rfl, ⟨⟨_, rfl, (.refl _)⟩, rfl, ⟨⟨_, rfl, (.refl _)⟩, rfl, ⟨⟨_, rfl, (.refl _)⟩, rfl, ⟨⟨_, rfl, (.refl _)⟩, rfl, ⟨⟨_, rfl, (.refl _)⟩, rfl, trivial⟩⟩⟩⟩⟩⟩, ⟨⟨_, rfl, (.refl _)⟩, rfl, rfl, ⟨⟨_, rfl, (.refl _)⟩, rfl, rfl, trivial⟩⟩⟩⟩
  · have h19 := cond_neg c26 h19
    cases h19
    dsimp only at h
    refine AWc.exit ?_
    refine inBlk_eq ?_
    refine AWc.seq ?_
    refine AWc.rg hmix rfl rfl ?_
    refine RegV.ld (v := (.d (.agg [(.int .u64 y19_2), (.int .i64 y19_3)]))) (H' := [(1, (.cells [(.d (.int .u64 y19_2)), (.d (.int .i64 y19_3))])), (0, (.cells [(.d (.int .u64 (0 : Int))), (.d (.int .i64 (0 : Int)))]))]) rfl rfl (Nat.le_of_ble_eq_true rfl) rfl rfl rfl rfl rfl ?_
    refine RegV.evN (own := false) (H' := [(0, (.cells [(.d (.int .u64 y19_2)), (.d (.int .i64 y19_3))])), (1, (.cells [(.d (.int .u64 y19_2)), (.d (.int .i64 y19_3))]))]) (c' := 2) rfl rfl (by exact ⟨rfl, Nat.le_of_ble_eq_true rfl, rfl⟩) rfl rfl rfl rfl ?_
    refine RegV.nil0 ?_
    have hr := Option.some.inj h
    subst hr
    exact AWc.ret (canQ (N := 21) (k := 1) (l' := [(4, (.ptr 0 0))]) (H' := [(0, (.cells [(.d (.int .u64 y19_2)), (.d (.int .i64 y19_3))]))]) rfl ⟨rfl, [], [], rfl, rfl, ⟨⟨_, rfl, (.refl _)⟩, rfl, trivial⟩, ⟨⟨_, rfl, (.refl _)⟩, rfl, rfl, trivial⟩⟩ (doneA (.inr rfl) rfl ⟨(Nat.le_of_ble_eq_true rfl), trivial⟩ (.refl _) hasNil))
/-- courant/courantref19.Find -/
def C203 (N : Nat → Nat) : AFunc := { n := 25, params := 2, res := [.cell 4 2 true], body :=
 (.seq (.region false [⟨(some 4), .alloc [(.int .u64 0), (.int .i64 0)], none, []⟩])
  (.seq (.region false [⟨(some 5), .alloc [(.int .u64 0), (.int .i64 0)], none, []⟩])
   (.seq (.seq (.region false [⟨(some 6), .mv (.k (.d (.int .i64 0))), none, []⟩])
     (.block 0 (.loop (.seq (.seq (.region false [⟨(some 7), .mv (.t 6), none, []⟩,
          ⟨(some 8), .mv (.t 0), none, []⟩,
          ⟨(some 9), .len (.t 8), none, [1]⟩,
          ⟨(some 10), .bin .lss (.t 7) (.t 9), none, [0, 2]⟩])
         (.cond (.t 10) (.skip)
          (.exit 0)))
        (.seq (.block 1 (.seq (.region false [⟨(some 13), .mv (.t 0), none, []⟩,
            ⟨(some 14), .mv (.t 6), none, []⟩,
            ⟨(some 15), .iaddr (.t 13) (.t 14) 2, none, [0, 1]⟩,
            ⟨(some 16), .faddr (.t 15) 0, none, [2]⟩,
            ⟨(some 17), .load (.t 16) 1 false, none, [3]⟩,
            ⟨(some 18), .mv (.t 1), none, []⟩,
            ⟨(some 19), .bin .leq (.t 17) (.t 18), none, [4, 5]⟩])
           (.cond (.t 19) (.region false [⟨(some 20), .mv (.t 0), none, []⟩,
             ⟨(some 21), .mv (.t 6), none, []⟩,
             ⟨(some 22), .iaddr (.t 20) (.t 21) 2, none, [0, 1]⟩,
             ⟨(some 23), .load (.t 22) 2 true, none, [2]⟩,
             ⟨none, .store (.t 5) (.t 23) 2, none, [3, 0, 1, 2]⟩])
            (.skip))))
         (.region false [⟨(some 11), .mv (.t 6), none, []⟩,
          ⟨(some 12), .bin .add (.t 11) (.k (.d (.int .i64 1))), none, [0]⟩,
          ⟨(some 6), .mv (.t 12), none, [1, 0]⟩]))))))
    (.seq (.region false [⟨(some 24), .load (.t 5) 2 true, none, []⟩,
      ⟨none, .store (.t 4) (.t 24) 2, none, [0]⟩])
     .ret)))) }
def HC203 (P : Program) (N : Nat → Nat) : Prop := HasF P (N 203) (C203 N)
def f203_l14 (a0 : (List TSpot)) (a1 : Int) : Nat → Int → Int → Int → Option (LR2 (Int × Int) Unit (Int × Int))
  | 0, _, _, _ => none
  | k + 1, y14_1, y14_2, y14_3 => cond (decide (y14_1 < ((a0.length : Nat) : Int))) (gd (0 ≤ y14_1 ∧ y14_1 < ((a0.length : Nat) : Int)) (cond (decide ((rd a0 y14_1).fOffset ≤ a1)) (gd (0 ≤ y14_1 ∧ y14_1 < ((a0.length : Nat) : Int)) (f203_l14 a0 a1 k (IntKind.i64.wrap (y14_1 + (1 : Int))) ((rd a0 y14_1).fOffset) ((rd a0 y14_1).fAt))) (f203_l14 a0 a1 k (IntKind.i64.wrap (y14_1 + (1 : Int))) y14_2 y14_3))) (some (.b0 (y14_2, y14_3)))
def f203 (k : Nat) (a0 : (List TSpot)) (a1 : Int) : Option (Int × Int) := (f203_l14 a0 a1 k (0 : Int) (0 : Int) (0 : Int)).bind fun o14 => match o14 with | .b0 (x14_1, x14_2) => some (x14_1, x14_2) | _ => none
theorem F203 {P : Program} {N : Nat → Nat} (hmix : P.follows .mixedOrders = true) (hc : HC203 P N) {k : Nat} {a0 : (List TSpot)} {a1 : Int} {r : (Int × Int)} (h : f203 k a0 a1 = some r) :
    ACalls P (N 203) [(.d (.sl (List.map TSpot.enc a0))), (.d (.int .u64 a1))] [] (.d (.agg [(.int .u64 r.1), (.int .i64 r.2)])) [] := by
  refine acalls_canon (F := C203 N) hc 0 0 rfl ?_
  unfold f203 at h
  dsimp only [C203, startL]
  refine AWc.seq ?_
  refine AWc.rg hmix rfl rfl ?_
  refine RegV.evS (own := false) (v := (.ptr 0 0)) (H' := [(0, (.cells [(.d (.int .u64 (0 : Int))), (.d (.int .i64 (0 : Int)))]))]) (c' := 1) rfl rfl trivial rfl rfl rfl rfl rfl rfl ?_
  refine RegV.nil0 ?_
  refine AWc.seq ?_
  refine AWc.rg hmix rfl rfl ?_
  refine RegV.evS (own := false) (v := (.ptr 1 0)) (H' := [(1, (.cells [(.d (.int .u64 (0 : Int))), (.d (.int .i64 (0 : Int)))])), (0, (.cells [(.d (.int .u64 (0 : Int))), (.d (.int .i64 (0 : Int)))]))]) (c' := 2) rfl rfl trivial rfl rfl rfl rfl rfl rfl ?_
  refine RegV.nil0 ?_
  refine AWc.seq ?_
  refine AWc.seq ?_
  refine AWc.rg hmix rfl rfl ?_
  refine RegV.p0 rfl rfl rfl ?_
  refine RegV.nil0 ?_
  obtain ⟨o14, h14, h⟩ := bind_some h
  refine AWc.block ?_
  refine AWc.loopK (N := 25) 2 (fun (x : (Int × Int × Int)) => [(0, (.d (.sl (List.map TSpot.enc a0)))), (1, (.d (.int .u64 a1))), (4, (.ptr 0 0)), (5, (.ptr 1 0)), (6, (.d (.int .i64 x.1)))]) (fun x => [(0, (.cells [(.d (.int .u64 (0 : Int))), (.d (.int .i64 (0 : Int)))])), (1, (.cells [(.d (.int .u64 x.2.1)), (.d (.int .i64 x.2.2))]))]) (fun k x => f203_l14 a0 a1 k x.1 x.2.1 x.2.2 = some o14) k ((0 : Int), (0 : Int), (0 : Int)) rfl_le (fun x hx => by cases hx) h14 ⟨rfl, [], [], rfl, rfl, ⟨⟨_, rfl, (.refl _)⟩, rfl, ⟨⟨_, rfl, (.refl _)⟩, rfl, ⟨⟨_, rfl, (.refl _)⟩, rfl, ⟨⟨_, rfl, (.refl _)⟩, rfl, ⟨⟨_, rfl, (.refl _)⟩, rfl, trivial⟩⟩⟩⟩⟩, ⟨⟨_, rfl, (.refl _)⟩, rfl, rfl, ⟨⟨_, rfl, (.refl _)⟩, rfl, rfl, trivial⟩⟩⟩ ?_
  clear h14
  intro k
  rintro ⟨y14_1, y14_2, y14_3⟩ h14
  dsimp only at h14 ⊢
  rw [f203_l14] at h14
  refine AWc.seq ?_
  refine AWc.seq ?_
  refine AWc.rg hmix rfl rfl ?_
  refine RegV.p0 rfl rfl rfl ?_
  refine RegV.p0 rfl rfl rfl ?_
  refine RegV.len (xs := a0) (e := TSpot.enc) rfl rfl rfl rfl ?_
  refine RegV.p0 (v := (.d (.bool (decide (y14_1 < ((a0.length : Nat) : Int)))))) rfl rfl rfl ?_
  refine RegV.nil0 ?_
  refine AWc.cond rfl (fun c24 => ?_) (fun c24 => ?_)
  · have h14 := cond_pos c24 h14
    refine AWc.skip ?_
    refine AWc.seq ?_
    refine AWc.block ?_
    refine AWc.seq ?_
    refine AWc.rg hmix rfl rfl ?_
    refine RegV.p0 rfl rfl rfl ?_
    refine RegV.p0 rfl rfl rfl ?_
    obtain ⟨b34, h14⟩ := gd_some h14
    refine RegV.iad (xs := a0) (e := TSpot.enc) rfl rfl rfl rfl (fun _ => rfl) b34 rfl ?_
    refine RegV.p0 (v := (.cp (TSpot.enc (rd a0 y14_1)) 0)) rfl rfl rfl ?_
    refine RegV.p0 (v := (.d (.int .u64 (rd a0 y14_1).fOffset))) rfl rfl rfl ?_
    refine RegV.p0 rfl rfl rfl ?_
    refine RegV.p0 (v := (.d (.bool (decide ((rd a0 y14_1).fOffset ≤ a1))))) rfl rfl rfl ?_
    refine RegV.nil0 ?_
    refine AWc.cond rfl (fun c39 => ?_) (fun c39 => ?_)
    · have h14 := cond_pos c39 h14
      refine AWc.rg hmix rfl rfl ?_
      refine RegV.p0 rfl rfl rfl ?_
      refine RegV.p0 rfl rfl rfl ?_
      obtain ⟨b44, h14⟩ := gd_some h14
      refine RegV.iad (xs := a0) (e := TSpot.enc) rfl rfl rfl rfl (fun _ => rfl) b44 rfl ?_
      refine RegV.p1 (v := (.d (TSpot.enc (rd a0 y14_1)))) rfl rfl rfl rfl rfl ?_
      refine RegV.evN (own := false) (H' := [(1, (.cells [(.d (.int .u64 (rd a0 y14_1).fOffset)), (.d (.int .i64 (rd a0 y14_1).fAt))])), (0, (.cells [(.d (.int .u64 (0 : Int))), (.d (.int .i64 (0 : Int)))]))]) (c' := 2) rfl rfl (by exact ⟨rfl, Nat.le_of_ble_eq_true rfl, rfl⟩) rfl rfl rfl rfl ?_
      refine RegV.nil0 ?_
      refine AWc.rg hmix rfl rfl ?_
      refine RegV.p0 rfl rfl rfl ?_
      refine RegV.p0 (v := (.d (.int .i64 (IntKind.i64.wrap (y14_1 + (1 : Int)))))) rfl rfl rfl ?_
      refine RegV.p0 rfl rfl rfl ?_
      refine RegV.nil0 ?_
      exact ⟨((IntKind.i64.wrap (y14_1 + (1 : Int))), (rd a0 y14_1).fOffset, (rd a0 y14_1).fAt), h14, ⟨rfl, [], [], rfl, rfl, ⟨⟨_, rfl, (.refl _)⟩, rfl, ⟨⟨_, rfl, (.refl _)⟩, rfl, ⟨⟨_, rfl, (.refl _)⟩, rfl, ⟨⟨_, rfl, (.refl _)⟩, rfl, ⟨⟨_, rfl, (.refl _)⟩, rfl, trivial⟩⟩⟩⟩⟩, ⟨⟨_, rfl, (.refl _)⟩, rfl, rfl, ⟨⟨_, rfl, (.refl _)⟩, rfl, rfl, trivial⟩⟩⟩⟩
    · have h14 := cond_neg c39 h14
      refine AWc.skip ?_
      refine AWc.rg hmix rfl rfl ?_
      refine RegV.p0 rfl rfl rfl ?_
      refine RegV.p0 (v := (.d (.int .i64 (IntKind.i64.wrap (y14_1 + (1 : Int)))))) rfl rfl rfl ?_
      refine RegV.p0 rfl rfl rfl ?_
      refine RegV.nil0 ?_
      exact ⟨((IntKind.i64.wrap (y14_1 + (1 : Int))), y14_2, y14_3), h14, ⟨rfl, [], [], rfl, rfl, ⟨⟨_, rfl, (.refl _)⟩, rfl, ⟨⟨_, rfl, (.refl _)⟩, rfl, ⟨⟨_, rfl, (.refl _)⟩, rfl, ⟨⟨_, rfl, (.refl _)⟩, rfl, ⟨⟨_, rfl, (.refl _)⟩, rfl, trivial⟩⟩⟩⟩⟩, ⟨⟨_, rfl, (.refl _)⟩, rfl, rfl, ⟨⟨_, rfl, (.refl _)⟩, rfl, rfl, trivial⟩⟩⟩⟩
  · have h14 := cond_neg c24 h14
    cases h14
    dsimp only at h
    refine AWc.exit ?_
    refine inBlk_eq ?_
    refine AWc.seq ?_
    refine AWc.rg hmix rfl rfl ?_
    refine RegV.ld (v := (.d (.agg [(.int .u64 y14_2), (.int .i64 y14_3)]))) (H' := [(1, (.cells [(.d (.int .u64 y14_2)), (.d (.int .i64 y14_3))])), (0, (.cells [(.d (.int .u64 (0 : Int))), (.d (.int .i64 (0 : Int)))]))]) rfl rfl (Nat.le_of_ble_eq_true rfl) rfl rfl rfl rfl rfl ?_
    refine RegV.evN (own := false) (H' := [(0, (.cells [(.d (.int .u64 y14_2)), (.d (.int .i64 y14_3))])), (1, (.cells [(.d (.int .u64 y14_2)), (.d (.int .i64 y14_3))]))]) (c' := 2) rfl rfl (by exact ⟨rfl, Nat.le_of_ble_eq_true rfl, rfl⟩) rfl rfl rfl rfl ?_
    refine RegV.nil0 ?_
    have hr := Option.some.inj h
    subst hr
    exact AWc.ret (canQ (N := 25) (k := 1) (l' := [(4, (.ptr 0 0))]) (H' := [(0, (.cells [(.d (.int .u64 y14_2)), (.d (.int .i64 y14_3))]))]) rfl ⟨rfl, [], [], rfl, rfl, ⟨⟨_, rfl, (.refl _)⟩, rfl, trivial⟩, ⟨⟨_, rfl, (.refl _)⟩, rfl, rfl, trivial⟩⟩ (doneA (.inr rfl) rfl ⟨(Nat.le_of_ble_eq_true rfl), trivial⟩ (.refl _) hasNil))
/-- courant/courantlaw19.IndexTells -/
def C211 (N : Nat → Nat) : AFunc := { n := 41, params := 2, res := [.tmp 4], body :=
 (.seq (.region false [⟨(some 4), .mv (.k (.d (.bool false))), none, []⟩])
  (.seq (.seq (.region false [⟨(some 6), .mv (.t 0), none, []⟩,
     ⟨(some 7), .len (.t 6), none, [0]⟩,
     ⟨(some 8), .bin .gtr (.t 7) (.k (.d (.int .i64 500))), none, [1]⟩])
    (.cond (.t 8) (.seq (.region false [⟨(some 9), .call (.k (.d (.fn (N 212)))) [], none, []⟩,
       ⟨(some 4), .mv (.t 9), none, [0]⟩])
      .ret)
     (.skip)))
   (.seq (.region false [⟨(some 10), .mv (.t 0), none, []⟩,
     ⟨(some 11), .build [(.int .u64 0), (.int .i64 0)] [(0, 1, (.k (.d (.int .u64 71))))], none, []⟩,
     ⟨(some 12), .call (.k (.d (.fn (N 208)))) [(.t 10), (.t 11)], none, [0, 1]⟩,
     ⟨(some 5), .mv (.t 12), none, [2, 0, 1]⟩])
    (.seq (.region false [⟨(some 13), .call (.k (.d (.fn (N 212)))) [], none, []⟩,
      ⟨(some 14), .mv (.t 13), none, [0]⟩,
      ⟨(some 15), .mv (.t 5), (some (14, true)), [1]⟩,
      ⟨(some 16), .call (.k (.d (.fn (N 200)))) [(.t 15)], (some (14, true)), [2, 1]⟩,
      ⟨(some 17), .mv (.t 0), (some (14, true)), [1]⟩,
      ⟨(some 18), .call (.k (.d (.fn (N 202)))) [(.t 17)], (some (14, true)), [4, 3, 1]⟩,
      ⟨(some 19), .beq false (.t 16) (.t 18), (some (14, true)), [3, 5, 1]⟩,
      ⟨(some 20), .pick (.t 14) (.t 19) (.k (.d (.bool false))), none, [1, 6]⟩,
      ⟨(some 21), .mv (.t 20), none, [7, 5]⟩,
      ⟨(some 22), .mv (.t 0), (some (21, true)), [8]⟩,
      ⟨(some 23), .call (.k (.d (.fn (N 202)))) [(.t 22)], (some (21, true)), [9, 8]⟩,
      ⟨(some 24), .un .not (.t 23), (some (21, true)), [10, 8]⟩,
      ⟨(some 25), .mv (.t 24), (some (21, true)), [11, 10, 8]⟩,
      ⟨(some 26), .mv (.t 5), (some (25, false)), [12]⟩,
      ⟨(some 27), .mv (.t 1), (some (25, false)), [12]⟩,
      ⟨(some 28), .call (.k (.d (.fn (N 201)))) [(.t 26), (.t 27)], (some (25, false)), [13, 14, 12]⟩,
      ⟨(some 29), .mv (.t 0), (some (25, false)), [12]⟩,
      ⟨(some 30), .mv (.t 1), (some (25, false)), [12]⟩,
      ⟨(some 31), .call (.k (.d (.fn (N 203)))) [(.t 29), (.t 30)], (some (25, false)), [16, 17, 15, 12]⟩,
      ⟨(some 32), .aggeq false [0, 0] (.t 28) (.t 31), (some (25, false)), [15, 18, 12]⟩,
      ⟨(some 33), .pick (.t 25) (.k (.d (.bool true))) (.t 32), (some (21, true)), [12, 19, 8]⟩,
      ⟨(some 34), .pick (.t 21) (.t 33) (.k (.d (.bool false))), none, [8, 20]⟩,
      ⟨(some 35), .mv (.t 34), none, [21, 18]⟩,
      ⟨(some 36), .mv (.t 5), (some (35, true)), [22]⟩,
      ⟨(some 37), .mv (.t 0), (some (35, true)), [22]⟩,
      ⟨(some 38), .build [(.int .u64 0), (.int .i64 0)] [(0, 1, (.k (.d (.int .u64 71))))], (some (35, true)), [22]⟩,
      ⟨(some 39), .call (.k (.d (.fn (N 213)))) [(.t 36), (.t 37), (.t 38)], (some (35, true)), [23, 24, 25, 22]⟩,
      ⟨(some 40), .pick (.t 35) (.t 39) (.k (.d (.bool false))), none, [22, 26]⟩,
      ⟨(some 4), .mv (.t 40), none, [27, 26, 0, 1, 2, 3, 4, 5, 6, 7, 8, 9, 10, 11, 12, 13, 14, 15, 16, 17, 18, 19, 20, 21, 22, 23, 24, 25]⟩])
     .ret)))) }
def HC211 (P : Program) (N : Nat → Nat) : Prop := HasF P (N 211) (C211 N) ∧ HC212 P N ∧ HC208 P N ∧ HC200 P N ∧ HC202 P N ∧ HC213 P N ∧ HC201 P N ∧ HC203 P N
def f211 (k : Nat) (a0 : (List TSpot)) (a1 : Int) : Option Bool := cond (decide (((a0.length : Nat) : Int) > (500 : Int))) ((f212 k).bind fun r16 => some r16) ((f208 k a0 (TSpot.mk (71 : Int) (0 : Int))).bind fun r25 => (f212 k).bind fun r30 => cond r30 ((f200 k (List.take (((0 : Int)).toNat + a0.length) r25)).bind fun r33 => (f202 k a0).bind fun r35 => cond (r33 == r35) ((f202 k a0).bind fun r40 => cond (!r40) ((f213 k r25 (((0 : Int)).toNat + a0.length) a0 (TSpot.mk (71 : Int) (0 : Int))).bind fun r56 => some r56) ((f201 k (List.take (((0 : Int)).toNat + a0.length) r25) a1).bind fun r45 => (f203 k a0 a1).bind fun r48 => cond (decide (r45.1 = r48.1) && (decide (r45.2 = r48.2) && true)) ((f213 k r25 (((0 : Int)).toNat + a0.length) a0 (TSpot.mk (71 : Int) (0 : Int))).bind fun r56 => some r56) (some false))) (some false)) (some false))
theorem F211 {P : Program} {N : Nat → Nat} (hmix : P.follows .mixedOrders = true) (hc : HC211 P N) {k : Nat} {a0 : (List TSpot)} {a1 : Int} {r : Bool} (h : f211 k a0 a1 = some r) :
    ACalls P (N 211) [(.d (.sl (List.map TSpot.enc a0))), (.d (.int .u64 a1))] [] (.d (.bool r)) [] := by
  refine acalls_canon (F := C211 N) hc.1 0 0 rfl ?_
  unfold f211 at h
  dsimp only [C211, startL]
  refine AWc.seq ?_
  refine AWc.rg hmix rfl rfl ?_
  refine RegV.p0 rfl rfl rfl ?_
  refine RegV.nil0 ?_
  refine AWc.seq ?_
  refine AWc.seq ?_
  refine AWc.rg hmix rfl rfl ?_
  refine RegV.p0 rfl rfl rfl ?_
  refine RegV.len (xs := a0) (e := TSpot.enc) rfl rfl rfl rfl ?_
  refine RegV.p0 (v := (.d (.bool (decide (((a0.length : Nat) : Int) > (500 : Int)))))) rfl rfl rfl ?_
  refine RegV.nil0 ?_
  refine AWc.cond rfl (fun c12 => ?_) (fun c12 => ?_)
  · have h := cond_pos c12 h
    refine AWc.seq ?_
    refine AWc.rg hmix rfl rfl ?_
    obtain ⟨r16, e16, h⟩ := bind_some h
    refine RegV.call0 (F212 hmix hc.2.1 e16) rfl rfl rfl rfl .nil rfl ?_
    refine RegV.p0 rfl rfl rfl ?_
    refine RegV.nil0 ?_
    have hr := Option.some.inj h
    subst hr
    exact AWc.ret (canQ (N := 41) (k := 0) (l' := [(4, (.d (.bool r16)))]) (H' := []) rfl ⟨rfl, [], [], rfl, rfl, ⟨⟨_, rfl, (.refl _)⟩, rfl, trivial⟩,  trivial⟩ (doneA (.inr rfl) rfl ⟨trivial, trivial⟩ (.refl _) hasNil))
  · have h := cond_neg c12 h
    refine AWc.skip ?_
    refine AWc.seq ?_
    refine AWc.rg hmix rfl rfl ?_
    refine RegV.p0 rfl rfl rfl ?_
    refine RegV.p1 (v := (.d (.agg [(.int .u64 (71 : Int)), (.int .i64 (0 : Int))]))) rfl rfl (by exact ⟨⟨rfl, Nat.le_of_ble_eq_true rfl⟩, trivial⟩) rfl rfl ?_
    obtain ⟨r25, e25, h⟩ := bind_some h
    refine RegV.call0 (F208 hmix hc.2.2.1 e25) rfl rfl rfl rfl (.cons (.refl _) (.cons (.refl _) .nil)) rfl ?_
    refine RegV.p0 rfl rfl rfl ?_
    refine RegV.nil0 ?_
    refine AWc.seq ?_
    refine AWc.rg hmix rfl rfl ?_
    obtain ⟨r30, e30, h⟩ := bind_some h
    refine RegV.call0 (F212 hmix hc.2.1 e30) rfl rfl rfl rfl .nil rfl ?_
    refine RegV.p0 rfl rfl rfl ?_
    refine RegV.split (fun c31 => ?_) (fun c31 => ?_)
    · have h := cond_pos c31 h
      refine RegV.p0 rfl rfl rfl ?_
      obtain ⟨r33, e33, h⟩ := bind_some h
      refine RegV.call0 (F200 hmix hc.2.2.2.1 e33) rfl rfl rfl rfl (.cons .win .nil) rfl ?_
      refine RegV.p0 rfl rfl rfl ?_
      obtain ⟨r35, e35, h⟩ := bind_some h
      refine RegV.call0 (F202 hmix hc.2.2.2.2.1 e35) rfl rfl rfl rfl (.cons (.refl _) .nil) rfl ?_
      refine RegV.p0 (v := (.d (.bool (r33 == r35)))) rfl rfl rfl ?_
      refine RegV.p0 rfl rfl rfl ?_
      refine RegV.p0 rfl rfl rfl ?_
      refine RegV.split (fun c38 => ?_) (fun c38 => ?_)
      · have h := cond_pos c38 h
        refine RegV.p0 rfl rfl rfl ?_
        obtain ⟨r40, e40, h⟩ := bind_some h
        refine RegV.call0 (F202 hmix hc.2.2.2.2.1 e40) rfl rfl rfl rfl (.cons (.refl _) .nil) rfl ?_
        refine RegV.p0 (v := (.d (.bool (!r40)))) rfl rfl rfl ?_
        refine RegV.p0 rfl rfl rfl ?_
        refine RegV.split (fun c42 => ?_) (fun c42 => ?_)
        · have h := cond_pos c42 h
          refine RegV.noS rfl rfl ?_
          refine RegV.noS rfl rfl ?_
          refine RegV.noS rfl rfl ?_
          refine RegV.noS rfl rfl ?_
          refine RegV.noS rfl rfl ?_
          refine RegV.noS rfl rfl ?_
          refine RegV.noS rfl rfl ?_
          refine RegV.p0 rfl rfl rfl ?_
          refine RegV.p0 rfl rfl rfl ?_
          refine RegV.p0 rfl rfl rfl ?_
          refine RegV.p0 rfl rfl rfl ?_
          refine RegV.p0 rfl rfl rfl ?_
          refine RegV.p1 (v := (.d (.agg [(.int .u64 (71 : Int)), (.int .i64 (0 : Int))]))) rfl rfl (by exact ⟨⟨rfl, Nat.le_of_ble_eq_true rfl⟩, trivial⟩) rfl rfl ?_
          obtain ⟨r56, e56, h⟩ := bind_some h
          refine RegV.call0 (F213 hmix hc.2.2.2.2.2.1 e56) rfl rfl rfl rfl (.cons (.refl _) (.cons (.refl _) (.cons (.refl _) .nil))) rfl ?_
          refine RegV.p0 rfl rfl rfl ?_
          refine RegV.p0 rfl rfl rfl ?_
          refine RegV.nil0 ?_
          have hr := Option.some.inj h
          subst hr
          exact AWc.ret (canQ (N := 41) (k := 0) (l' := [(4, (.d (.bool r56)))]) (H' := []) rfl ⟨rfl, [], [], rfl, rfl, ⟨⟨_, rfl, (.refl _)⟩, rfl, trivial⟩,  trivial⟩ (doneA (.inr rfl) rfl ⟨trivial, trivial⟩ (.refl _) hasNil))
        · have h := cond_neg c42 h
          refine RegV.p0 rfl rfl rfl ?_
          refine RegV.p0 rfl rfl rfl ?_
          obtain ⟨r45, e45, h⟩ := bind_some h
          refine RegV.call0 (F201 hmix hc.2.2.2.2.2.2.1 e45) rfl rfl rfl rfl (.cons .win (.cons (.refl _) .nil)) rfl ?_
          refine RegV.p0 rfl rfl rfl ?_
          refine RegV.p0 rfl rfl rfl ?_
          obtain ⟨r48, e48, h⟩ := bind_some h
          refine RegV.call0 (F203 hmix hc.2.2.2.2.2.2.2 e48) rfl rfl rfl rfl (.cons (.refl _) (.cons (.refl _) .nil)) rfl ?_
          refine RegV.agq (v := (decide (r45.1 = r48.1) && (decide (r45.2 = r48.2) && true))) rfl rfl rfl rfl rfl rfl ?_
          refine RegV.p0 rfl rfl rfl ?_
          refine RegV.p0 rfl rfl rfl ?_
          refine RegV.p0 rfl rfl rfl ?_
          refine RegV.split (fun c52 => ?_) (fun c52 => ?_)
          · have h := cond_pos c52 h
            refine RegV.p0 rfl rfl rfl ?_
            refine RegV.p0 rfl rfl rfl ?_
            refine RegV.p1 (v := (.d (.agg [(.int .u64 (71 : Int)), (.int .i64 (0 : Int))]))) rfl rfl (by exact ⟨⟨rfl, Nat.le_of_ble_eq_true rfl⟩, trivial⟩) rfl rfl ?_
            obtain ⟨r56, e56, h⟩ := bind_some h
            refine RegV.call0 (F213 hmix hc.2.2.2.2.2.1 e56) rfl rfl rfl rfl (.cons (.refl _) (.cons (.refl _) (.cons (.refl _) .nil))) rfl ?_
            refine RegV.p0 rfl rfl rfl ?_
            refine RegV.p0 rfl rfl rfl ?_
            refine RegV.nil0 ?_
            have hr := Option.some.inj h
            subst hr
            exact AWc.ret (canQ (N := 41) (k := 0) (l' := [(4, (.d (.bool r56)))]) (H' := []) rfl ⟨rfl, [], [], rfl, rfl, ⟨⟨_, rfl, (.refl _)⟩, rfl, trivial⟩,  trivial⟩ (doneA (.inr rfl) rfl ⟨trivial, trivial⟩ (.refl _) hasNil))
          · have h := cond_neg c52 h
            refine RegV.noS rfl rfl ?_
            refine RegV.noS rfl rfl ?_
            refine RegV.noS rfl rfl ?_
            refine RegV.noS rfl rfl ?_
            refine RegV.p0 rfl rfl rfl ?_
            refine RegV.p0 rfl rfl rfl ?_
            refine RegV.nil0 ?_
            have hr := Option.some.inj h
            subst hr
            exact AWc.ret (canQ (N := 41) (k := 0) (l' := [(4, (.d (.bool false)))]) (H' := []) rfl ⟨rfl, [], [], rfl, rfl, ⟨⟨_, rfl, (.refl _)⟩, rfl, trivial⟩,  trivial⟩ (doneA (.inr rfl) rfl ⟨trivial, trivial⟩ (.refl _) hasNil))
      · have h := cond_neg c38 h
        refine RegV.noS rfl rfl ?_
        refine RegV.noS rfl rfl ?_
        refine RegV.noS rfl rfl ?_
        refine RegV.noS rfl rfl ?_
        refine RegV.noS rfl rfl ?_
        refine RegV.noS rfl rfl ?_
        refine RegV.noS rfl rfl ?_
        refine RegV.noS rfl rfl ?_
        refine RegV.noS rfl rfl ?_
        refine RegV.noS rfl rfl ?_
        refine RegV.noS rfl rfl ?_
        refine RegV.noS rfl rfl ?_
        refine RegV.p0 rfl rfl rfl ?_
        refine RegV.p0 rfl rfl rfl ?_
        refine RegV.noS rfl rfl ?_
        refine RegV.noS rfl rfl ?_
        refine RegV.noS rfl rfl ?_
        refine RegV.noS rfl rfl ?_
        refine RegV.p0 rfl rfl rfl ?_
        refine RegV.p0 rfl rfl rfl ?_
        refine RegV.nil0 ?_
        have hr := Option.some.inj h
        subst hr
        exact AWc.ret (canQ (N := 41) (k := 0) (l' := [(4, (.d (.bool false)))]) (H' := []) rfl ⟨rfl, [], [], rfl, rfl, ⟨⟨_, rfl, (.refl _)⟩, rfl, trivial⟩,  trivial⟩ (doneA (.inr rfl) rfl ⟨trivial, trivial⟩ (.refl _) hasNil))
    · have h := cond_neg c31 h
      refine RegV.noS rfl rfl ?_
      refine RegV.noS rfl rfl ?_
      refine RegV.noS rfl rfl ?_
      refine RegV.noS rfl rfl ?_
      refine RegV.noS rfl rfl ?_
      refine RegV.p0 rfl rfl rfl ?_
      refine RegV.p0 rfl rfl rfl ?_
      refine RegV.noS rfl rfl ?_
      refine RegV.noS rfl rfl ?_
      refine RegV.noS rfl rfl ?_
      refine RegV.noS rfl rfl ?_
      refine RegV.noS rfl rfl ?_
      refine RegV.noS rfl rfl ?_
      refine RegV.noS rfl rfl ?_
      refine RegV.noS rfl rfl ?_
      refine RegV.noS rfl rfl ?_
      refine RegV.noS rfl rfl ?_
      refine RegV.noS rfl rfl ?_
      refine RegV.noS rfl rfl ?_
      refine RegV.p0 rfl rfl rfl ?_
      refine RegV.p0 rfl rfl rfl ?_
      refine RegV.noS rfl rfl ?_
      refine RegV.noS rfl rfl ?_
      refine RegV.noS rfl rfl ?_
      refine RegV.noS rfl rfl ?_
      refine RegV.p0 rfl rfl rfl ?_
      refine RegV.p0 rfl rfl rfl ?_
      refine RegV.nil0 ?_
      have hr := Option.some.inj h
      subst hr
      exact AWc.ret (canQ (N := 41) (k := 0) (l' := [(4, (.d (.bool false)))]) (H' := []) rfl ⟨rfl, [], [], rfl, rfl, ⟨⟨_, rfl, (.refl _)⟩, rfl, trivial⟩,  trivial⟩ (doneA (.inr rfl) rfl ⟨trivial, trivial⟩ (.refl _) hasNil))
/-- courant/courantref19.Add -/
def C204 (N : Nat → Nat) : AFunc := { n := 45, params := 3, res := [.tmp 6], body :=
 (.seq (.region false [⟨(some 6), .mv (.k .nils), none, []⟩])
  (.seq (.seq (.region false [⟨(some 7), .mv (.t 2), none, []⟩,
     ⟨(some 8), .bin .lss (.t 7) (.k (.d (.int .i64 0))), none, [0]⟩,
     ⟨(some 9), .mv (.t 8), none, [1]⟩,
     ⟨(some 10), .mv (.t 0), (some (9, false)), [2]⟩,
     ⟨(some 11), .len (.t 10), (some (9, false)), [3, 2]⟩,
     ⟨(some 12), .bin .gtr (.t 11) (.k (.d (.int .i64 0))), (some (9, false)), [4, 2]⟩,
     ⟨(some 13), .mv (.t 12), (some (9, false)), [5, 2]⟩,
     ⟨(some 14), .mv (.t 2), (some (13, true)), [6]⟩,
     ⟨(some 15), .mv (.t 0), (some (13, true)), [6]⟩,
     ⟨(some 16), .mv (.t 0), (some (13, true)), [6]⟩,
     ⟨(some 17), .len (.t 16), (some (13, true)), [9, 6]⟩,
     ⟨(some 18), .bin .sub (.t 17) (.k (.d (.int .i64 1))), (some (13, true)), [10, 6]⟩,
     ⟨(some 19), .iaddr (.t 15) (.t 18) 2, (some (13, true)), [8, 11, 6]⟩,
     ⟨(some 20), .faddr (.t 19) 1, (some (13, true)), [12, 6]⟩,
     ⟨(some 21), .load (.t 20) 1 false, (some (13, true)), [13, 6]⟩,
     ⟨(some 22), .bin .sub (.t 14) (.t 21), (some (13, true)), [7, 14, 6]⟩,
     ⟨(some 23), .bin .lss (.t 22) (.k (.d (.int .i64 512))), (some (13, true)), [15, 6]⟩,
     ⟨(some 24), .mv (.t 23), (some (13, true)), [16, 6]⟩,
     ⟨(some 25), .mv (.t 1), (some (24, false)), [17]⟩,
     ⟨(some 26), .mv (.t 0), (some (24, false)), [17]⟩,
     ⟨(some 27), .mv (.t 0), (some (24, false)), [17]⟩,
     ⟨(some 28), .len (.t 27), (some (24, false)), [20, 17]⟩,
     ⟨(some 29), .bin .sub (.t 28) (.k (.d (.int .i64 1))), (some (24, false)), [21, 17]⟩,
     ⟨(some 30), .iaddr (.t 26) (.t 29) 2, (some (24, false)), [19, 22, 17]⟩,
     ⟨(some 31), .faddr (.t 30) 0, (some (24, false)), [23, 17]⟩,
     ⟨(some 32), .load (.t 31) 1 false, (some (24, false)), [24, 17]⟩,
     ⟨(some 33), .bin .leq (.t 25) (.t 32), (some (24, false)), [18, 25, 17]⟩,
     ⟨(some 34), .pick (.t 24) (.k (.d (.bool true))) (.t 33), (some (13, true)), [17, 26, 6]⟩,
     ⟨(some 35), .pick (.t 13) (.t 34) (.k (.d (.bool false))), (some (9, false)), [6, 27, 2]⟩,
     ⟨(some 36), .pick (.t 9) (.k (.d (.bool true))) (.t 35), none, [2, 28]⟩])
    (.cond (.t 36) (.seq (.region false [⟨(some 37), .mv (.t 0), none, []⟩,
       ⟨(some 6), .mv (.t 37), none, [0]⟩])
      .ret)
     (.skip)))
   (.seq (.region false [⟨(some 38), .mv (.t 0), none, []⟩,
     ⟨(some 39), .app (.k .nils) (.t 38) 2 16 [(.int .u64 0), (.int .i64 0)], none, [0]⟩,
     ⟨(some 40), .mv (.t 1), none, []⟩,
     ⟨(some 41), .mv (.t 2), none, []⟩,
     ⟨(some 42), .build [(.int .u64 0), (.int .i64 0)] [(0, 1, (.t 40)), (1, 1, (.t 41))], none, [2, 3]⟩,
     ⟨(some 43), .bslice 1 2 [(.int .u64 0), (.int .i64 0)] [(0, (.t 42))], none, [4]⟩,
     ⟨(some 44), .app (.t 39) (.t 43) 2 16 [(.int .u64 0), (.int .i64 0)], none, [1, 5]⟩,
     ⟨(some 6), .mv (.t 44), none, [6, 0, 1, 2, 3, 4, 5]⟩])
    .ret))) }
def HC204 (P : Program) (N : Nat → Nat) : Prop := HasF P (N 204) (C204 N)
def f204_j47 (k : Nat) (a0 : (List TSpot)) (a1 : Int) (a2 : Int) : Option (List TSpot) := gd (a0.length * 16 ≤ 281474976710656) (gd ((a0.length + ([(TSpot.mk a1 a2)] : List TSpot).length) * 2 * 16 ≤ 281474976710656) (some (a0 ++ ([(TSpot.mk a1 a2)] : List TSpot))))
def f204 (k : Nat) (a0 : (List TSpot)) (a1 : Int) (a2 : Int) : Option (List TSpot) := cond (decide (a2 < (0 : Int))) (some a0) (cond (decide (((a0.length : Nat) : Int) > (0 : Int))) (gd (0 ≤ (IntKind.i64.wrap (((a0.length : Nat) : Int) - (1 : Int))) ∧ (IntKind.i64.wrap (((a0.length : Nat) : Int) - (1 : Int))) < ((a0.length : Nat) : Int)) (cond (decide ((IntKind.i64.wrap (a2 - (rd a0 (IntKind.i64.wrap (((a0.length : Nat) : Int) - (1 : Int)))).fAt)) < (512 : Int))) (some a0) (gd (0 ≤ (IntKind.i64.wrap (((a0.length : Nat) : Int) - (1 : Int))) ∧ (IntKind.i64.wrap (((a0.length : Nat) : Int) - (1 : Int))) < ((a0.length : Nat) : Int)) (cond (decide (a1 ≤ (rd a0 (IntKind.i64.wrap (((a0.length : Nat) : Int) - (1 : Int)))).fOffset)) (some a0) (f204_j47 k a0 a1 a2))))) (f204_j47 k a0 a1 a2))
theorem F204 {P : Program} {N : Nat → Nat} (hmix : P.follows .mixedOrders = true) (hc : HC204 P N) {k : Nat} {a0 : (List TSpot)} {a1 : Int} {a2 : Int} {r : (List TSpot)} (h : f204 k a0 a1 a2 = some r) :
    ACalls P (N 204) [(.d (.sl (List.map TSpot.enc a0))), (.d (.int .u64 a1)), (.d (.int .i64 a2))] [] (.d (.sl (List.map TSpot.enc r))) [] := by
  refine acalls_canon (F := C204 N) hc 0 0 rfl ?_
  unfold f204 at h
  dsimp only [C204, startL]
  refine AWc.seq ?_
  refine AWc.rg hmix rfl rfl ?_
  refine RegV.p0 rfl rfl rfl ?_
  refine RegV.nil0 ?_
  refine AWc.seqS (N := 45) 0 (fun (z : Unit) => [(0, (.d (.sl (List.map TSpot.enc a0)))), (1, (.d (.int .u64 a1))), (2, (.d (.int .i64 a2)))]) (fun z => []) (fun z => f204_j47 k a0 a1 a2 = some r) rfl_le ?_ ?_
  · refine AWc.seq ?_
    refine AWc.rg hmix rfl rfl ?_
    refine RegV.p0 rfl rfl rfl ?_
    refine RegV.p0 (v := (.d (.bool (decide (a2 < (0 : Int)))))) rfl rfl rfl ?_
    refine RegV.p0 rfl rfl rfl ?_
    refine RegV.split (fun c11 => ?_) (fun c11 => ?_)
    · have h := cond_pos c11 h
      refine RegV.noS rfl rfl ?_
      refine RegV.noS rfl rfl ?_
      refine RegV.noS rfl rfl ?_
      refine RegV.noS rfl rfl ?_
      refine RegV.noS rfl rfl ?_
      refine RegV.noS rfl rfl ?_
      refine RegV.noS rfl rfl ?_
      refine RegV.noS rfl rfl ?_
      refine RegV.noS rfl rfl ?_
      refine RegV.noS rfl rfl ?_
      refine RegV.noS rfl rfl ?_
      refine RegV.noS rfl rfl ?_
      refine RegV.noS rfl rfl ?_
      refine RegV.noS rfl rfl ?_
      refine RegV.noS rfl rfl ?_
      refine RegV.noS rfl rfl ?_
      refine RegV.noS rfl rfl ?_
      refine RegV.noS rfl rfl ?_
      refine RegV.noS rfl rfl ?_
      refine RegV.noS rfl rfl ?_
      refine RegV.noS rfl rfl ?_
      refine RegV.noS rfl rfl ?_
      refine RegV.noS rfl rfl ?_
      refine RegV.noS rfl rfl ?_
      refine RegV.noS rfl rfl ?_
      refine RegV.noS rfl rfl ?_
      refine RegV.p0 rfl rfl rfl ?_
      refine RegV.nil0 ?_
      refine AWc.cond rfl (fun _ => ?_) (fun hc => by cases hc)
      refine AWc.seq ?_
      refine AWc.rg hmix rfl rfl ?_
      refine RegV.p0 rfl rfl rfl ?_
      refine RegV.p0 rfl rfl rfl ?_
      refine RegV.nil0 ?_
      have hr := Option.some.inj h
      subst hr
      exact AWc.ret (canQ (N := 45) (k := 0) (l' := [(6, (.d (.sl (List.map TSpot.enc a0))))]) (H' := []) rfl ⟨rfl, [], [], rfl, rfl, ⟨⟨_, rfl, (.refl _)⟩, rfl, trivial⟩,  trivial⟩ (doneA (.inr rfl) rfl ⟨trivial, trivial⟩ (.refl _) hasNil))
    · have h := cond_neg c11 h
      refine RegV.p0 rfl rfl rfl ?_
      refine RegV.len (xs := a0) (e := TSpot.enc) rfl rfl rfl rfl ?_
      refine RegV.p0 (v := (.d (.bool (decide (((a0.length : Nat) : Int) > (0 : Int)))))) rfl rfl rfl ?_
      refine RegV.p0 rfl rfl rfl ?_
      refine RegV.split (fun c15 => ?_) (fun c15 => ?_)
      · have h := cond_pos c15 h
        refine RegV.p0 rfl rfl rfl ?_
        refine RegV.p0 rfl rfl rfl ?_
        refine RegV.p0 rfl rfl rfl ?_
        refine RegV.len (xs := a0) (e := TSpot.enc) rfl rfl rfl rfl ?_
        refine RegV.p0 (v := (.d (.int .i64 (IntKind.i64.wrap (((a0.length : Nat) : Int) - (1 : Int)))))) rfl rfl rfl ?_
        obtain ⟨b21, h⟩ := gd_some h
        refine RegV.iad (xs := a0) (e := TSpot.enc) rfl rfl rfl rfl (fun _ => rfl) b21 rfl ?_
        refine RegV.p0 (v := (.cp (TSpot.enc (rd a0 (IntKind.i64.wrap (((a0.length : Nat) : Int) - (1 : Int))))) 1)) rfl rfl rfl ?_
        refine RegV.p0 (v := (.d (.int .i64 (rd a0 (IntKind.i64.wrap (((a0.length : Nat) : Int) - (1 : Int)))).fAt))) rfl rfl rfl ?_
        refine RegV.p0 (v := (.d (.int .i64 (IntKind.i64.wrap (a2 - (rd a0 (IntKind.i64.wrap (((a0.length : Nat) : Int) - (1 : Int)))).fAt))))) rfl rfl rfl ?_
        refine RegV.p0 (v := (.d (.bool (decide ((IntKind.i64.wrap (a2 - (rd a0 (IntKind.i64.wrap (((a0.length : Nat) : Int) - (1 : Int)))).fAt)) < (512 : Int)))))) rfl rfl rfl ?_
        refine RegV.p0 rfl rfl rfl ?_
        refine RegV.split (fun c26 => ?_) (fun c26 => ?_)
        · have h := cond_pos c26 h
          refine RegV.noS rfl rfl ?_
          refine RegV.noS rfl rfl ?_
          refine RegV.noS rfl rfl ?_
          refine RegV.noS rfl rfl ?_
          refine RegV.noS rfl rfl ?_
          refine RegV.noS rfl rfl ?_
          refine RegV.noS rfl rfl ?_
          refine RegV.noS rfl rfl ?_
          refine RegV.noS rfl rfl ?_
          refine RegV.p0 rfl rfl rfl ?_
          refine RegV.p0 rfl rfl rfl ?_
          refine RegV.p0 rfl rfl rfl ?_
          refine RegV.nil0 ?_
          refine AWc.cond rfl (fun _ => ?_) (fun hc => by cases hc)
          refine AWc.seq ?_
          refine AWc.rg hmix rfl rfl ?_
          refine RegV.p0 rfl rfl rfl ?_
          refine RegV.p0 rfl rfl rfl ?_
          refine RegV.nil0 ?_
          have hr := Option.some.inj h
          subst hr
          exact AWc.ret (canQ (N := 45) (k := 0) (l' := [(6, (.d (.sl (List.map TSpot.enc a0))))]) (H' := []) rfl ⟨rfl, [], [], rfl, rfl, ⟨⟨_, rfl, (.refl _)⟩, rfl, trivial⟩,  trivial⟩ (doneA (.inr rfl) rfl ⟨trivial, trivial⟩ (.refl _) hasNil))
        · have h := cond_neg c26 h
          refine RegV.p0 rfl rfl rfl ?_
          refine RegV.p0 rfl rfl rfl ?_
          refine RegV.p0 rfl rfl rfl ?_
          refine RegV.len (xs := a0) (e := TSpot.enc) rfl rfl rfl rfl ?_
          refine RegV.p0 (v := (.d (.int .i64 (IntKind.i64.wrap (((a0.length : Nat) : Int) - (1 : Int)))))) rfl rfl rfl ?_
          obtain ⟨b32, h⟩ := gd_some h
          refine RegV.iad (xs := a0) (e := TSpot.enc) rfl rfl rfl rfl (fun _ => rfl) b32 rfl ?_
          refine RegV.p0 (v := (.cp (TSpot.enc (rd a0 (IntKind.i64.wrap (((a0.length : Nat) : Int) - (1 : Int))))) 0)) rfl rfl rfl ?_
          refine RegV.p0 (v := (.d (.int .u64 (rd a0 (IntKind.i64.wrap (((a0.length : Nat) : Int) - (1 : Int)))).fOffset))) rfl rfl rfl ?_
          refine RegV.p0 (v := (.d (.bool (decide (a1 ≤ (rd a0 (IntKind.i64.wrap (((a0.length : Nat) : Int) - (1 : Int)))).fOffset))))) rfl rfl rfl ?_
          refine RegV.p0 rfl rfl rfl ?_
          refine RegV.p0 rfl rfl rfl ?_
          refine RegV.p0 rfl rfl rfl ?_
          refine RegV.nil0 ?_
          refine AWc.cond rfl (fun c39 => ?_) (fun c39 => ?_)
          · have h := cond_pos c39 h
            refine AWc.seq ?_
            refine AWc.rg hmix rfl rfl ?_
            refine RegV.p0 rfl rfl rfl ?_
            refine RegV.p0 rfl rfl rfl ?_
            refine RegV.nil0 ?_
            have hr := Option.some.inj h
            subst hr
            exact AWc.ret (canQ (N := 45) (k := 0) (l' := [(6, (.d (.sl (List.map TSpot.enc a0))))]) (H' := []) rfl ⟨rfl, [], [], rfl, rfl, ⟨⟨_, rfl, (.refl _)⟩, rfl, trivial⟩,  trivial⟩ (doneA (.inr rfl) rfl ⟨trivial, trivial⟩ (.refl _) hasNil))
          · have h := cond_neg c39 h
            refine AWc.skip ?_
            exact ⟨(), h, ⟨rfl, [], [], rfl, rfl, ⟨⟨_, rfl, (.refl _)⟩, rfl, ⟨⟨_, rfl, (.refl _)⟩, rfl, ⟨⟨_, rfl, (.refl _)⟩, rfl, trivial⟩⟩⟩,  trivial⟩⟩
      · have h := cond_neg c15 h
        refine RegV.noS rfl rfl ?_
        refine RegV.noS rfl rfl ?_
        refine RegV.noS rfl rfl ?_
        refine RegV.noS rfl rfl ?_
        refine RegV.noS rfl rfl ?_
        refine RegV.noS rfl rfl ?_
        refine RegV.noS rfl rfl ?_
        refine RegV.noS rfl rfl ?_
        refine RegV.noS rfl rfl ?_
        refine RegV.noS rfl rfl ?_
        refine RegV.noS rfl rfl ?_
        refine RegV.noS rfl rfl ?_
        refine RegV.noS rfl rfl ?_
        refine RegV.noS rfl rfl ?_
        refine RegV.noS rfl rfl ?_
        refine RegV.noS rfl rfl ?_
        refine RegV.noS rfl rfl ?_
        refine RegV.noS rfl rfl ?_
        refine RegV.noS rfl rfl ?_
        refine RegV.noS rfl rfl ?_
        refine RegV.noS rfl rfl ?_
        refine RegV.p0 rfl rfl rfl ?_
        refine RegV.p0 rfl rfl rfl ?_
        refine RegV.nil0 ?_
        refine AWc.cond rfl (fun hc => by cases hc) (fun _ => ?_)
        refine AWc.skip ?_
        exact ⟨(), h, ⟨rfl, [], [], rfl, rfl, ⟨⟨_, rfl, (.refl _)⟩, rfl, ⟨⟨_, rfl, (.refl _)⟩, rfl, ⟨⟨_, rfl, (.refl _)⟩, rfl, trivial⟩⟩⟩,  trivial⟩⟩
  · rintro ⟨⟩ h
    unfold f204_j47 at h
    refine AWc.seq ?_
    refine AWc.rg hmix rfl rfl ?_
    refine RegV.p0 rfl rfl rfl ?_
    obtain ⟨b51, h⟩ := gd_some h
    refine RegV.appN (ys := a0) (e := TSpot.enc) rfl rfl rfl (fun _ => rfl) rfl rfl b51 rfl rfl ?_
    refine RegV.p0 rfl rfl rfl ?_
    refine RegV.p0 rfl rfl rfl ?_
    refine RegV.p1 (v := (.d (.agg [(.int .u64 a1), (.int .i64 a2)]))) rfl rfl (by exact ⟨⟨rfl, Nat.le_of_ble_eq_true rfl⟩, ⟨⟨rfl, Nat.le_of_ble_eq_true rfl⟩, trivial⟩⟩) rfl rfl ?_
    refine RegV.p1 (v := (.d (.sl (List.map TSpot.enc ([(TSpot.mk a1 a2)] : List TSpot))))) rfl rfl (by exact ⟨rfl, Nat.le_of_ble_eq_true rfl, mapLen (e := TSpot.enc) (xs := ([(TSpot.mk a1 a2)] : List TSpot)) (z := 2) (fun _ => rfl)⟩) rfl rfl ?_
    obtain ⟨b56, h⟩ := gd_some h
    refine RegV.appA (xs := a0) (ys := ([(TSpot.mk a1 a2)] : List TSpot)) (e := TSpot.enc) (H1 := []) rfl rfl rfl rfl (fun _ => rfl) rfl rfl b56 rfl rfl rfl ?_
    refine RegV.p0 rfl rfl rfl ?_
    refine RegV.nil0 ?_
    have hr := Option.some.inj h
    subst hr
    exact AWc.ret (canQ (N := 45) (k := 0) (l' := [(6, (.d (.sl (List.map TSpot.enc (a0 ++ ([(TSpot.mk a1 a2)] : List TSpot))))))]) (H' := []) rfl ⟨rfl, [], [], rfl, rfl, ⟨⟨_, rfl, (.sl rfl)⟩, rfl, trivial⟩,  trivial⟩ (doneA (.inr rfl) rfl ⟨trivial, trivial⟩ (.refl _) hasNil))
/-- courant/courantlaw19.IndexAdds -/
def C214 (N : Nat → Nat) : AFunc := { n := 65, params := 1, res := [.tmp 2], body :=
 (.seq (.region false [⟨(some 2), .mv (.k (.d (.bool false))), none, []⟩])
  (.seq (.region false [⟨(some 3), .mv (.k .nils), none, []⟩])
   (.seq (.seq (.region false [⟨(some 8), .call (.k (.d (.fn (N 212)))) [], none, []⟩,
      ⟨(some 9), .un .not (.t 8), none, [0]⟩])
     (.cond (.t 9) (.seq (.region false [⟨(some 2), .mv (.k (.d (.bool false))), none, []⟩])
       .ret)
      (.skip)))
    (.seq (.seq (.region false [⟨(some 4), .mv (.k (.d (.int .i64 0))), none, []⟩])
      (.block 0 (.loop (.seq (.seq (.region false [⟨(some 10), .mv (.t 4), none, []⟩,
           ⟨(some 11), .mv (.t 0), none, []⟩,
           ⟨(some 12), .len (.t 11), none, [1]⟩,
           ⟨(some 13), .bin .lss (.t 10) (.t 12), none, [0, 2]⟩,
           ⟨(some 14), .mv (.t 13), none, [3]⟩,
           ⟨(some 15), .mv (.t 4), (some (14, true)), [4]⟩,
           ⟨(some 16), .bin .lss (.t 15) (.k (.d (.int .i64 200))), (some (14, true)), [5, 4]⟩,
           ⟨(some 17), .pick (.t 14) (.t 16) (.k (.d (.bool false))), none, [4, 6]⟩])
          (.cond (.t 17) (.skip)
           (.exit 0)))
         (.seq (.block 1 (.seq (.region false [⟨(some 20), .mv (.t 3), none, []⟩,
             ⟨(some 21), .build [(.int .u64 0), (.int .i64 0)] [(0, 1, (.k (.d (.int .u64 71))))], none, []⟩,
             ⟨(some 22), .call (.k (.d (.fn (N 208)))) [(.t 20), (.t 21)], none, [0, 1]⟩,
             ⟨(some 5), .mv (.t 22), none, [2, 0, 1]⟩])
            (.seq (.region true [⟨(some 23), .mv (.t 5), none, []⟩,
              ⟨(some 24), .mv (.t 0), none, []⟩,
              ⟨(some 25), .mv (.t 4), none, []⟩,
              ⟨(some 26), .iaddr (.t 24) (.t 25) 2, none, [1, 2]⟩,
              ⟨(some 27), .faddr (.t 26) 0, none, [3]⟩,
              ⟨(some 28), .load (.t 27) 1 false, none, [4]⟩,
              ⟨(some 29), .mv (.t 0), none, []⟩,
              ⟨(some 30), .mv (.t 4), none, []⟩,
              ⟨(some 31), .iaddr (.t 29) (.t 30) 2, none, [6, 7]⟩,
              ⟨(some 32), .faddr (.t 31) 1, none, [8]⟩,
              ⟨(some 33), .load (.t 32) 1 false, none, [9]⟩,
              ⟨(some 34), .call (.k (.d (.fn (N 210)))) [(.t 23), (.t 28), (.t 33)], none, [0, 5, 10]⟩,
              ⟨(some 6), .mv (.t 34), none, [11, 0, 1, 2, 3, 4, 5, 6, 7, 8, 9, 10]⟩])
             (.seq (.region true [⟨(some 35), .mv (.t 3), none, []⟩,
               ⟨(some 36), .mv (.t 0), none, []⟩,
               ⟨(some 37), .mv (.t 4), none, []⟩,
               ⟨(some 38), .iaddr (.t 36) (.t 37) 2, none, [1, 2]⟩,
               ⟨(some 39), .faddr (.t 38) 0, none, [3]⟩,
               ⟨(some 40), .load (.t 39) 1 false, none, [4]⟩,
               ⟨(some 41), .mv (.t 0), none, []⟩,
               ⟨(some 42), .mv (.t 4), none, []⟩,
               ⟨(some 43), .iaddr (.t 41) (.t 42) 2, none, [6, 7]⟩,
               ⟨(some 44), .faddr (.t 43) 1, none, [8]⟩,
               ⟨(some 45), .load (.t 44) 1 false, none, [9]⟩,
               ⟨(some 46), .call (.k (.d (.fn (N 204)))) [(.t 35), (.t 40), (.t 45)], none, [0, 5, 10]⟩,
               ⟨(some 7), .mv (.t 46), none, [11, 0, 1, 2, 3, 4, 5, 6, 7, 8, 9, 10]⟩])
              (.seq (.seq (.region false [⟨(some 47), .mv (.t 6), none, []⟩,
                 ⟨(some 48), .mv (.t 7), none, []⟩,
                 ⟨(some 49), .call (.k (.d (.fn (N 205)))) [(.t 47), (.t 48)], none, [0, 1]⟩,
                 ⟨(some 50), .un .not (.t 49), none, [2]⟩,
                 ⟨(some 51), .mv (.t 50), none, [3, 2]⟩,
                 ⟨(some 52), .mv (.t 6), (some (51, false)), [4]⟩,
                 ⟨(some 53), .call (.k (.d (.fn (N 200)))) [(.t 52)], (some (51, false)), [5, 4]⟩,
                 ⟨(some 54), .un .not (.t 53), (some (51, false)), [6, 4]⟩,
                 ⟨(some 55), .pick (.t 51) (.k (.d (.bool true))) (.t 54), none, [4, 7]⟩,
                 ⟨(some 56), .mv (.t 55), none, [8, 6]⟩,
                 ⟨(some 57), .mv (.t 5), (some (56, false)), [9]⟩,
                 ⟨(some 58), .mv (.t 3), (some (56, false)), [9]⟩,
                 ⟨(some 59), .build [(.int .u64 0), (.int .i64 0)] [(0, 1, (.k (.d (.int .u64 71))))], (some (56, false)), [9]⟩,
                 ⟨(some 60), .call (.k (.d (.fn (N 213)))) [(.t 57), (.t 58), (.t 59)], (some (56, false)), [10, 11, 12, 9]⟩,
                 ⟨(some 61), .un .not (.t 60), (some (56, false)), [13, 9]⟩,
                 ⟨(some 62), .pick (.t 56) (.k (.d (.bool true))) (.t 61), none, [9, 14]⟩])
                (.cond (.t 62) (.seq (.region false [⟨(some 2), .mv (.k (.d (.bool false))), none, []⟩])
                  .ret)
                 (.skip)))
               (.region false [⟨(some 63), .mv (.t 7), none, []⟩,
                ⟨(some 64), .app (.k .nils) (.t 63) 2 16 [(.int .u64 0), (.int .i64 0)], none, [0]⟩,
                ⟨(some 3), .mv (.t 64), none, [1, 0]⟩]))))))
          (.region false [⟨(some 18), .mv (.t 4), none, []⟩,
           ⟨(some 19), .bin .add (.t 18) (.k (.d (.int .i64 1))), none, [0]⟩,
           ⟨(some 4), .mv (.t 19), none, [1, 0]⟩]))))))
     (.seq (.region false [⟨(some 2), .mv (.k (.d (.bool true))), none, []⟩])
      .ret))))) }
def HC214 (P : Program) (N : Nat → Nat) : Prop := HasF P (N 214) (C214 N) ∧ HC212 P N ∧ HC208 P N ∧ HC210 P N ∧ HC204 P N ∧ HC205 P N ∧ HC200 P N ∧ HC213 P N
def f214_l27 (a0 : (List TSpot)) : Nat → (List TSpot) → Int → Option (LR2 Unit Unit Bool)
  | 0, _, _ => none
  | k + 1, y27_1, y27_2 => cond (decide (y27_2 < ((a0.length : Nat) : Int))) (cond (decide (y27_2 < (200 : Int))) ((f208 k y27_1 (TSpot.mk (71 : Int) (0 : Int))).bind fun r51 => gd (0 ≤ y27_2 ∧ y27_2 < ((a0.length : Nat) : Int)) (gd (0 ≤ y27_2 ∧ y27_2 < ((a0.length : Nat) : Int)) ((f210 k (List.take (((0 : Int)).toNat + y27_1.length) r51) ((rd a0 y27_2).fOffset) ((rd a0 y27_2).fAt)).bind fun r67 => gd (0 ≤ y27_2 ∧ y27_2 < ((a0.length : Nat) : Int)) (gd (0 ≤ y27_2 ∧ y27_2 < ((a0.length : Nat) : Int)) ((f204 k y27_1 ((rd a0 y27_2).fOffset) ((rd a0 y27_2).fAt)).bind fun r83 => (f205 k r67 r83).bind fun r91 => cond (!r91) (some (.r false)) ((f200 k r67).bind fun r95 => cond (!r95) (some (.r false)) ((f213 k r51 (((0 : Int)).toNat + y27_1.length) y27_1 (TSpot.mk (71 : Int) (0 : Int))).bind fun r102 => cond (!r102) (some (.r false)) (gd (r83.length * 16 ≤ 281474976710656) (f214_l27 a0 k r83 (IntKind.i64.wrap (y27_2 + (1 : Int)))))))))))) (some (.b0 ()))) (some (.b0 ()))
def f214 (k : Nat) (a0 : (List TSpot)) : Option Bool := (f212 k).bind fun r13 => cond (!r13) (some false) ((f214_l27 a0 k ([] : List TSpot) (0 : Int)).bind fun o27 => match o27 with | .b0 () => some true | .r x => some x | _ => none)
theorem F214 {P : Program} {N : Nat → Nat} (hmix : P.follows .mixedOrders = true) (hc : HC214 P N) {k : Nat} {a0 : (List TSpot)} {r : Bool} (h : f214 k a0 = some r) :
    ACalls P (N 214) [(.d (.sl (List.map TSpot.enc a0)))] [] (.d (.bool r)) [] := by
  refine acalls_canon (F := C214 N) hc.1 0 0 rfl ?_
  unfold f214 at h
  dsimp only [C214, startL]
  refine AWc.seq ?_
  refine AWc.rg hmix rfl rfl ?_
  refine RegV.p0 rfl rfl rfl ?_
  refine RegV.nil0 ?_
  refine AWc.seq ?_
  refine AWc.rg hmix rfl rfl ?_
  refine RegV.p0 rfl rfl rfl ?_
  refine RegV.nil0 ?_
  refine AWc.seq ?_
  refine AWc.seq ?_
  refine AWc.rg hmix rfl rfl ?_
  obtain ⟨r13, e13, h⟩ := bind_some h
  refine RegV.call0 (F212 hmix hc.2.1 e13) rfl rfl rfl rfl .nil rfl ?_
  refine RegV.p0 (v := (.d (.bool (!r13)))) rfl rfl rfl ?_
  refine RegV.nil0 ?_
  refine AWc.cond rfl (fun c15 => ?_) (fun c15 => ?_)
  · have h := cond_pos c15 h
    refine AWc.seq ?_
    refine AWc.rg hmix rfl rfl ?_
    refine RegV.p0 rfl rfl rfl ?_
    refine RegV.nil0 ?_
    have hr := Option.some.inj h
    subst hr
    exact AWc.ret (canQ (N := 65) (k := 0) (l' := [(2, (.d (.bool false)))]) (H' := []) rfl ⟨rfl, [], [], rfl, rfl, ⟨⟨_, rfl, (.refl _)⟩, rfl, trivial⟩,  trivial⟩ (doneA (.inr rfl) rfl ⟨trivial, trivial⟩ (.refl _) hasNil))
  · have h := cond_neg c15 h
    refine AWc.skip ?_
    refine AWc.seq ?_
    refine AWc.seq ?_
    refine AWc.rg hmix rfl rfl ?_
    refine RegV.p0 rfl rfl rfl ?_
    refine RegV.nil0 ?_
    obtain ⟨o27, h27, h⟩ := bind_some h
    refine AWc.block ?_
    refine AWc.loopK (N := 65) 1 (fun (x : ((List TSpot) × Int)) => [(0, (.d (.sl (List.map TSpot.enc a0)))), (3, (.ap 0 2 (List.map TSpot.enc x.1))), (4, (.d (.int .i64 x.2)))]) (fun x => [(0, (.tok ((List.map TSpot.enc x.1).length * 2)))]) (fun k x => f214_l27 a0 k x.1 x.2 = some o27) k (([] : List TSpot), (0 : Int)) rfl_le (fun x hx => by cases hx) h27 ⟨rfl, [.tok 0], [(0, 0)], rfl, rfl, ⟨⟨_, rfl, (.refl _)⟩, rfl, ⟨⟨_, rfl, .nil⟩, rfl, ⟨⟨_, rfl, (.refl _)⟩, rfl, trivial⟩⟩⟩, ⟨⟨_, rfl, (.refl _)⟩, rfl, rfl, trivial⟩⟩ ?_
    clear h27
    intro k
    rintro ⟨y27_1, y27_2⟩ h27
    dsimp only at h27 ⊢
    rw [f214_l27] at h27
    refine AWc.seq ?_
    refine AWc.seq ?_
    refine AWc.rg hmix rfl rfl ?_
    refine RegV.p0 rfl rfl rfl ?_
    refine RegV.p0 rfl rfl rfl ?_
    refine RegV.len (xs := a0) (e := TSpot.enc) rfl rfl rfl rfl ?_
    refine RegV.p0 (v := (.d (.bool (decide (y27_2 < ((a0.length : Nat) : Int)))))) rfl rfl rfl ?_
    refine RegV.p0 rfl rfl rfl ?_
    refine RegV.split (fun c37 => ?_) (fun c37 => ?_)
    · have h27 := cond_pos c37 h27
      refine RegV.p0 rfl rfl rfl ?_
      refine RegV.p0 (v := (.d (.bool (decide (y27_2 < (200 : Int)))))) rfl rfl rfl ?_
      refine RegV.p0 rfl rfl rfl ?_
      refine RegV.nil0 ?_
      refine AWc.cond rfl (fun c41 => ?_) (fun c41 => ?_)
      · have h27 := cond_pos c41 h27
        refine AWc.skip ?_
        refine AWc.seq ?_
        refine AWc.block ?_
        refine AWc.seq ?_
        refine AWc.rg hmix rfl rfl ?_
        refine RegV.p0 rfl rfl rfl ?_
        refine RegV.p1 (v := (.d (.agg [(.int .u64 (71 : Int)), (.int .i64 (0 : Int))]))) rfl rfl (by exact ⟨⟨rfl, Nat.le_of_ble_eq_true rfl⟩, trivial⟩) rfl rfl ?_
        obtain ⟨r51, e51, h27⟩ := bind_some h27
        refine RegV.call0 (F208 hmix hc.2.2.1 e51) rfl rfl rfl rfl (.cons (.sl rfl) (.cons (.refl _) .nil)) rfl ?_
        refine RegV.p0 rfl rfl rfl ?_
        refine RegV.nil0 ?_
        refine AWc.seq ?_
        refine AWc.rg hmix rfl rfl ?_
        refine RegV.p0 rfl rfl rfl ?_
        refine RegV.p0 rfl rfl rfl ?_
        refine RegV.p0 rfl rfl rfl ?_
        obtain ⟨b59, h27⟩ := gd_some h27
        refine RegV.iad (xs := a0) (e := TSpot.enc) rfl rfl rfl rfl (fun _ => rfl) b59 rfl ?_
        refine RegV.p0 (v := (.cp (TSpot.enc (rd a0 y27_2)) 0)) rfl rfl rfl ?_
        refine RegV.p0 (v := (.d (.int .u64 (rd a0 y27_2).fOffset))) rfl rfl rfl ?_
        refine RegV.p0 rfl rfl rfl ?_
        refine RegV.p0 rfl rfl rfl ?_
        obtain ⟨b64, h27⟩ := gd_some h27
        refine RegV.iad (xs := a0) (e := TSpot.enc) rfl rfl rfl rfl (fun _ => rfl) b64 rfl ?_
        refine RegV.p0 (v := (.cp (TSpot.enc (rd a0 y27_2)) 1)) rfl rfl rfl ?_
        refine RegV.p0 (v := (.d (.int .i64 (rd a0 y27_2).fAt))) rfl rfl rfl ?_
        obtain ⟨r67, e67, h27⟩ := bind_some h27
        refine RegV.callS (q := false) (H' := [(1, (.tok ((List.map TSpot.enc r67).length * 2))), (0, (.tok ((List.map TSpot.enc y27_1).length * 2)))]) (c' := 2) (show ACalls P (N 210) [(.d (.sl (List.map TSpot.enc (List.take (((0 : Int)).toNat + y27_1.length) r51)))), (.d (.int .u64 ((rd a0 y27_2).fOffset))), (.d (.int .i64 ((rd a0 y27_2).fAt)))] [] (.ap 1 2 (List.map TSpot.enc r67)) [(1, (.tok ((List.map TSpot.enc r67).length * 2)))] from ACalls.use (F210 hmix hc.2.2.2.1 e67) [(0, 1)] 1 rfl) rfl rfl rfl rfl (.cons .win (.cons (.refl _) (.cons (.refl _) .nil))) (.refl _) (fun h => by cases h) rfl hasNil rfl rfl rfl rfl ?_
        refine RegV.p0 rfl rfl rfl ?_
        refine RegV.nil1 (by kernel_rfl) ?_
        refine AWc.seq ?_
        refine AWc.rg hmix rfl rfl ?_
        refine RegV.p0 rfl rfl rfl ?_
        refine RegV.p0 rfl rfl rfl ?_
        refine RegV.p0 rfl rfl rfl ?_
        obtain ⟨b75, h27⟩ := gd_some h27
        refine RegV.iad (xs := a0) (e := TSpot.enc) rfl rfl rfl rfl (fun _ => rfl) b75 rfl ?_
        refine RegV.p0 (v := (.cp (TSpot.enc (rd a0 y27_2)) 0)) rfl rfl rfl ?_
        refine RegV.p0 (v := (.d (.int .u64 (rd a0 y27_2).fOffset))) rfl rfl rfl ?_
        refine RegV.p0 rfl rfl rfl ?_
        refine RegV.p0 rfl rfl rfl ?_
        obtain ⟨b80, h27⟩ := gd_some h27
        refine RegV.iad (xs := a0) (e := TSpot.enc) rfl rfl rfl rfl (fun _ => rfl) b80 rfl ?_
        refine RegV.p0 (v := (.cp (TSpot.enc (rd a0 y27_2)) 1)) rfl rfl rfl ?_
        refine RegV.p0 (v := (.d (.int .i64 (rd a0 y27_2).fAt))) rfl rfl rfl ?_
        obtain ⟨r83, e83, h27⟩ := bind_some h27
        refine RegV.call0 (F204 hmix hc.2.2.2.2.1 e83) rfl rfl rfl rfl (.cons (.sl rfl) (.cons (.refl _) (.cons (.refl _) .nil))) rfl ?_
        refine RegV.p0 rfl rfl rfl ?_
        refine RegV.nil1 (by kernel_rfl) ?_
        refine AWc.seq ?_
        refine AWc.seq ?_
        refine AWc.rg hmix rfl rfl ?_
        refine RegV.p0 rfl rfl rfl ?_
        refine RegV.p0 rfl rfl rfl ?_
        obtain ⟨r91, e91, h27⟩ := bind_some h27
        refine RegV.call0 (F205 hmix hc.2.2.2.2.2.1 e91) rfl rfl rfl rfl (.cons (.sl rfl) (.cons (.refl _) .nil)) rfl ?_
        refine RegV.p0 (v := (.d (.bool (!r91)))) rfl rfl rfl ?_
        refine RegV.p0 rfl rfl rfl ?_
        refine RegV.split (fun c93 => ?_) (fun c93 => ?_)
        · have h27 := cond_pos c93 h27
          refine RegV.noS rfl rfl ?_
          refine RegV.noS rfl rfl ?_
          refine RegV.noS rfl rfl ?_
          refine RegV.p0 rfl rfl rfl ?_
          refine RegV.p0 rfl rfl rfl ?_
          refine RegV.noS rfl rfl ?_
          refine RegV.noS rfl rfl ?_
          refine RegV.noS rfl rfl ?_
          refine RegV.noS rfl rfl ?_
          refine RegV.noS rfl rfl ?_
          refine RegV.p0 rfl rfl rfl ?_
          refine RegV.nil0 ?_
          refine AWc.cond rfl (fun _ => ?_) (fun hc => by cases hc)
          refine AWc.seq ?_
          refine AWc.rg hmix rfl rfl ?_
          refine RegV.p0 rfl rfl rfl ?_
          refine RegV.nil0 ?_
          cases h27
          dsimp only at h
          have hr := Option.some.inj h
          subst hr
          exact AWc.ret (canQ (N := 65) (k := 0) (l' := [(2, (.d (.bool false)))]) (H' := []) rfl ⟨rfl, [], [], rfl, rfl, ⟨⟨_, rfl, (.refl _)⟩, rfl, trivial⟩,  trivial⟩ (doneA (.inr rfl) rfl ⟨trivial, trivial⟩ (.refl _) hasNil))
        · have h27 := cond_neg c93 h27
          refine RegV.p0 rfl rfl rfl ?_
          obtain ⟨r95, e95, h27⟩ := bind_some h27
          refine RegV.call0 (F200 hmix hc.2.2.2.2.2.2.1 e95) rfl rfl rfl rfl (.cons (.sl rfl) .nil) rfl ?_
          refine RegV.p0 (v := (.d (.bool (!r95)))) rfl rfl rfl ?_
          refine RegV.p0 rfl rfl rfl ?_
          refine RegV.p0 rfl rfl rfl ?_
          refine RegV.split (fun c98 => ?_) (fun c98 => ?_)
          · have h27 := cond_pos c98 h27
            refine RegV.noS rfl rfl ?_
            refine RegV.noS rfl rfl ?_
            refine RegV.noS rfl rfl ?_
            refine RegV.noS rfl rfl ?_
            refine RegV.noS rfl rfl ?_
            refine RegV.p0 rfl rfl rfl ?_
            refine RegV.nil0 ?_
            refine AWc.cond rfl (fun _ => ?_) (fun hc => by cases hc)
            refine AWc.seq ?_
            refine AWc.rg hmix rfl rfl ?_
            refine RegV.p0 rfl rfl rfl ?_
            refine RegV.nil0 ?_
            cases h27
            dsimp only at h
            have hr := Option.some.inj h
            subst hr
            exact AWc.ret (canQ (N := 65) (k := 0) (l' := [(2, (.d (.bool false)))]) (H' := []) rfl ⟨rfl, [], [], rfl, rfl, ⟨⟨_, rfl, (.refl _)⟩, rfl, trivial⟩,  trivial⟩ (doneA (.inr rfl) rfl ⟨trivial, trivial⟩ (.refl _) hasNil))
          · have h27 := cond_neg c98 h27
            refine RegV.p0 rfl rfl rfl ?_
            refine RegV.p0 rfl rfl rfl ?_
            refine RegV.p1 (v := (.d (.agg [(.int .u64 (71 : Int)), (.int .i64 (0 : Int))]))) rfl rfl (by exact ⟨⟨rfl, Nat.le_of_ble_eq_true rfl⟩, trivial⟩) rfl rfl ?_
            obtain ⟨r102, e102, h27⟩ := bind_some h27
            refine RegV.call0 (F213 hmix hc.2.2.2.2.2.2.2 e102) rfl rfl rfl rfl (.cons (.refl _) (.cons (.sl rfl) (.cons (.refl _) .nil))) rfl ?_
            refine RegV.p0 (v := (.d (.bool (!r102)))) rfl rfl rfl ?_
            refine RegV.p0 rfl rfl rfl ?_
            refine RegV.nil0 ?_
            refine AWc.cond rfl (fun c105 => ?_) (fun c105 => ?_)
            · have h27 := cond_pos c105 h27
              refine AWc.seq ?_
              refine AWc.rg hmix rfl rfl ?_
              refine RegV.p0 rfl rfl rfl ?_
              refine RegV.nil0 ?_
              cases h27
              dsimp only at h
              have hr := Option.some.inj h
              subst hr
              exact AWc.ret (canQ (N := 65) (k := 0) (l' := [(2, (.d (.bool false)))]) (H' := []) rfl ⟨rfl, [], [], rfl, rfl, ⟨⟨_, rfl, (.refl _)⟩, rfl, trivial⟩,  trivial⟩ (doneA (.inr rfl) rfl ⟨trivial, trivial⟩ (.refl _) hasNil))
            · have h27 := cond_neg c105 h27
              refine AWc.skip ?_
              refine AWc.rg hmix rfl rfl ?_
              refine RegV.p0 rfl rfl rfl ?_
              obtain ⟨b115, h27⟩ := gd_some h27
              refine RegV.appN (ys := r83) (e := TSpot.enc) rfl rfl rfl (fun _ => rfl) rfl rfl b115 rfl rfl ?_
              refine RegV.p0 rfl rfl rfl ?_
              refine RegV.nil0 ?_
              refine AWc.rg hmix rfl rfl ?_
              refine RegV.p0 rfl rfl rfl ?_
              refine RegV.p0 (v := (.d (.int .i64 (IntKind.i64.wrap (y27_2 + (1 : Int)))))) rfl rfl rfl ?_
              refine RegV.p0 rfl rfl rfl ?_
              refine RegV.nil0 ?_
              exact ⟨(r83, (IntKind.i64.wrap (y27_2 + (1 : Int)))), h27, ⟨rfl, [], [(0, 2)], rfl, rfl, ⟨⟨_, rfl, (.refl _)⟩, rfl, ⟨⟨_, rfl, (.refl _)⟩, rfl, ⟨⟨_, rfl, (.refl _)⟩, rfl, trivial⟩⟩⟩, ⟨⟨_, rfl, (.refl _)⟩, rfl, rfl, trivial⟩⟩⟩
      · have h27 := cond_neg c41 h27
        cases h27
        dsimp only at h
        refine AWc.exit ?_
        refine inBlk_eq ?_
        refine AWc.seq ?_
        refine AWc.rg hmix rfl rfl ?_
        refine RegV.p0 rfl rfl rfl ?_
        refine RegV.nil0 ?_
        have hr := Option.some.inj h
        subst hr
        exact AWc.ret (canQ (N := 65) (k := 0) (l' := [(2, (.d (.bool true)))]) (H' := []) rfl ⟨rfl, [], [], rfl, rfl, ⟨⟨_, rfl, (.refl _)⟩, rfl, trivial⟩,  trivial⟩ (doneA (.inr rfl) rfl ⟨trivial, trivial⟩ (.refl _) hasNil))
    · have h27 := cond_neg c37 h27
      refine RegV.noS rfl rfl ?_
      refine RegV.noS rfl rfl ?_
      refine RegV.p0 rfl rfl rfl ?_
      refine RegV.nil0 ?_
      refine AWc.cond rfl (fun hc => by cases hc) (fun _ => ?_)
      cases h27
      dsimp only at h
      refine AWc.exit ?_
      refine inBlk_eq ?_
      refine AWc.seq ?_
      refine AWc.rg hmix rfl rfl ?_
      refine RegV.p0 rfl rfl rfl ?_
      refine RegV.nil0 ?_
      have hr := Option.some.inj h
      subst hr
      exact AWc.ret (canQ (N := 65) (k := 0) (l' := [(2, (.d (.bool true)))]) (H' := []) rfl ⟨rfl, [], [], rfl, rfl, ⟨⟨_, rfl, (.refl _)⟩, rfl, trivial⟩,  trivial⟩ (doneA (.inr rfl) rfl ⟨trivial, trivial⟩ (.refl _) hasNil))
/-- courant/courantlaw19.IndexFinds -/
def C215 (N : Nat → Nat) : AFunc := { n := 148, params := 3, res := [.tmp 6], body :=
 (.seq (.region false [⟨(some 6), .mv (.k (.d (.bool false))), none, []⟩])
  (.seq (.region false [⟨(some 7), .mv (.k .nils), none, []⟩])
   (.seq (.region false [⟨(some 8), .mv (.k (.d (.int .i64 0))), none, []⟩,
     ⟨(some 9), .mv (.k (.d (.int .u64 0))), none, [0]⟩])
    (.seq (.seq (.region false [⟨(some 14), .call (.k (.d (.fn (N 212)))) [], none, []⟩,
       ⟨(some 15), .un .not (.t 14), none, [0]⟩])
      (.cond (.t 15) (.seq (.region false [⟨(some 6), .mv (.k (.d (.bool false))), none, []⟩])
        .ret)
       (.skip)))
     (.seq (.seq (.region false [⟨(some 10), .mv (.k (.d (.int .i64 0))), none, []⟩])
       (.block 0 (.loop (.seq (.seq (.region false [⟨(some 16), .mv (.t 10), none, []⟩,
            ⟨(some 17), .mv (.t 0), none, []⟩,
            ⟨(some 18), .len (.t 17), none, [1]⟩,
            ⟨(some 19), .bin .lss (.t 16) (.t 18), none, [0, 2]⟩,
            ⟨(some 20), .mv (.t 19), none, [3]⟩,
            ⟨(some 21), .mv (.t 10), (some (20, true)), [4]⟩,
            ⟨(some 22), .mv (.t 1), (some (20, true)), [4]⟩,
            ⟨(some 23), .len (.t 22), (some (20, true)), [6, 4]⟩,
            ⟨(some 24), .bin .lss (.t 21) (.t 23), (some (20, true)), [5, 7, 4]⟩,
            ⟨(some 25), .pick (.t 20) (.t 24) (.k (.d (.bool false))), none, [4, 8]⟩,
            ⟨(some 26), .mv (.t 25), none, [9, 4]⟩,
            ⟨(some 27), .mv (.t 10), (some (26, true)), [10]⟩,
            ⟨(some 28), .bin .lss (.t 27) (.k (.d (.int .i64 100))), (some (26, true)), [11, 10]⟩,
            ⟨(some 29), .pick (.t 26) (.t 28) (.k (.d (.bool false))), none, [10, 12]⟩])
           (.cond (.t 29) (.skip)
            (.exit 0)))
          (.seq (.block 1 (.seq (.region false [⟨(some 32), .mv (.t 7), none, []⟩,
              ⟨(some 33), .mv (.t 9), none, []⟩,
              ⟨(some 34), .mv (.t 8), none, []⟩,
              ⟨(some 35), .call (.k (.d (.fn (N 210)))) [(.t 32), (.t 33), (.t 34)], none, [0, 1, 2]⟩,
              ⟨(some 7), .mv (.t 35), none, [3, 0, 1, 2]⟩])
             (.seq (.region false [⟨(some 36), .mv (.t 9), none, []⟩,
               ⟨(some 37), .bin .add (.t 36) (.k (.d (.int .u64 1))), none, [0]⟩,
               ⟨(some 38), .mv (.t 0), none, []⟩,
               ⟨(some 39), .mv (.t 10), none, []⟩,
               ⟨(some 40), .iaddr (.t 38) (.t 39) 1, none, [2, 3]⟩,
               ⟨(some 41), .load (.t 40) 1 false, none, [4]⟩,
               ⟨(some 42), .cvi .u64 (.t 41), none, [5]⟩,
               ⟨(some 43), .bin .rem (.t 42) (.k (.d (.int .u64 5))), none, [6]⟩,
               ⟨(some 44), .bin .add (.t 37) (.t 43), none, [1, 7]⟩,
               ⟨(some 9), .mv (.t 44), none, [8, 0, 1, 2, 3, 4, 5, 6, 7]⟩])
              (.region false [⟨(some 45), .mv (.t 8), none, []⟩,
               ⟨(some 46), .bin .add (.t 45) (.k (.d (.int .i64 16))), none, [0]⟩,
               ⟨(some 47), .mv (.t 1), none, []⟩,
               ⟨(some 48), .mv (.t 10), none, []⟩,
               ⟨(some 49), .iaddr (.t 47) (.t 48) 1, none, [2, 3]⟩,
               ⟨(some 50), .load (.t 49) 1 false, none, [4]⟩,
               ⟨(some 51), .cvi .u64 (.t 50), none, [5]⟩,
               ⟨(some 52), .bin .rem (.t 51) (.k (.d (.int .u64 900))), none, [6]⟩,
               ⟨(some 53), .cvi .i64 (.t 52), none, [7]⟩,
               ⟨(some 54), .bin .add (.t 46) (.t 53), none, [1, 8]⟩,
               ⟨(some 8), .mv (.t 54), none, [9, 0, 1, 2, 3, 4, 5, 6, 7, 8]⟩]))))
           (.region false [⟨(some 30), .mv (.t 10), none, []⟩,
            ⟨(some 31), .bin .add (.t 30) (.k (.d (.int .i64 1))), none, [0]⟩,
            ⟨(some 10), .mv (.t 31), none, [1, 0]⟩]))))))
      (.seq (.region false [⟨(some 55), .mv (.t 7), none, []⟩,
        ⟨(some 56), .mv (.t 2), none, []⟩,
        ⟨(some 57), .call (.k (.d (.fn (N 201)))) [(.t 55), (.t 56)], none, [0, 1]⟩,
        ⟨(some 11), .alloc [(.int .u64 0), (.int .i64 0)], none, []⟩,
        ⟨none, .store (.t 11) (.t 57) 2, none, [3, 2, 0, 1]⟩])
       (.seq (.region false [⟨(some 58), .load (.t 11) 2 true, none, []⟩,
         ⟨(some 59), .build [(.int .u64 0), (.int .i64 0)] [], none, []⟩,
         ⟨(some 60), .aggeq false [0, 0] (.t 58) (.t 59), none, [0, 1]⟩,
         ⟨(some 61), .mv (.t 60), none, [2]⟩,
         ⟨(some 62), .mv (.t 7), (some (61, true)), [3]⟩,
         ⟨(some 63), .len (.t 62), (some (61, true)), [4, 3]⟩,
         ⟨(some 64), .bin .eql (.t 63) (.k (.d (.int .i64 0))), (some (61, true)), [5, 3]⟩,
         ⟨(some 65), .mv (.t 64), (some (61, true)), [6, 3]⟩,
         ⟨(some 66), .mv (.t 7), (some (65, false)), [7]⟩,
         ⟨(some 67), .iaddr (.t 66) (.k (.d (.int .i64 0))) 2, (some (65, false)), [8, 7]⟩,
         ⟨(some 68), .faddr (.t 67) 0, (some (65, false)), [9, 7]⟩,
         ⟨(some 69), .load (.t 68) 1 false, (some (65, false)), [10, 7]⟩,
         ⟨(some 70), .mv (.t 2), (some (65, false)), [7]⟩,
         ⟨(some 71), .bin .gtr (.t 69) (.t 70), (some (65, false)), [11, 12, 7]⟩,
         ⟨(some 72), .pick (.t 65) (.k (.d (.bool true))) (.t 71), (some (61, true)), [7, 13, 3]⟩,
         ⟨(some 73), .pick (.t 61) (.t 72) (.k (.d (.bool false))), none, [3, 14]⟩,
         ⟨(some 12), .mv (.t 73), none, [15, 7, 0, 1, 2, 3, 4, 5, 6, 8, 9, 10, 11, 12, 13, 14]⟩])
        (.seq (.seq (.region false [⟨(some 13), .mv (.k (.d (.int .i64 0))), none, []⟩])
          (.block 2 (.loop (.seq (.seq (.region false [⟨(some 74), .mv (.t 13), none, []⟩,
               ⟨(some 75), .mv (.t 7), none, []⟩,
               ⟨(some 76), .len (.t 75), none, [1]⟩,
               ⟨(some 77), .bin .lss (.t 74) (.t 76), none, [0, 2]⟩])
              (.cond (.t 77) (.skip)
               (.exit 2)))
             (.seq (.block 3 (.seq (.seq (.region true [⟨(some 80), .mv (.t 13), none, []⟩,
                  ⟨(some 81), .bin .gtr (.t 80) (.k (.d (.int .i64 0))), none, [0]⟩,
                  ⟨(some 82), .mv (.t 81), none, [1]⟩,
                  ⟨(some 83), .mv (.t 7), (some (82, true)), [2]⟩,
                  ⟨(some 84), .mv (.t 13), (some (82, true)), [2]⟩,
                  ⟨(some 85), .iaddr (.t 83) (.t 84) 2, (some (82, true)), [3, 4, 2]⟩,
                  ⟨(some 86), .faddr (.t 85) 1, (some (82, true)), [5, 2]⟩,
                  ⟨(some 87), .load (.t 86) 1 false, (some (82, true)), [6, 2]⟩,
                  ⟨(some 88), .mv (.t 7), (some (82, true)), [2]⟩,
                  ⟨(some 89), .mv (.t 13), (some (82, true)), [2]⟩,
                  ⟨(some 90), .bin .sub (.t 89) (.k (.d (.int .i64 1))), (some (82, true)), [9, 2]⟩,
                  ⟨(some 91), .iaddr (.t 88) (.t 90) 2, (some (82, true)), [8, 10, 2]⟩,
                  ⟨(some 92), .faddr (.t 91) 1, (some (82, true)), [11, 2]⟩,
                  ⟨(some 93), .load (.t 92) 1 false, (some (82, true)), [12, 2]⟩,
                  ⟨(some 94), .bin .sub (.t 87) (.t 93), (some (82, true)), [7, 13, 2]⟩,
                  ⟨(some 95), .bin .lss (.t 94) (.k (.d (.int .i64 512))), (some (82, true)), [14, 2]⟩,
                  ⟨(some 96), .mv (.t 95), (some (82, true)), [15, 2]⟩,
                  ⟨(some 97), .mv (.t 7), (some (96, false)), [16]⟩,
                  ⟨(some 98), .mv (.t 13), (some (96, false)), [16]⟩,
                  ⟨(some 99), .iaddr (.t 97) (.t 98) 2, (some (96, false)), [17, 18, 16]⟩,
                  ⟨(some 100), .faddr (.t 99) 0, (some (96, false)), [19, 16]⟩,
                  ⟨(some 101), .load (.t 100) 1 false, (some (96, false)), [20, 16]⟩,
                  ⟨(some 102), .mv (.t 7), (some (96, false)), [16]⟩,
                  ⟨(some 103), .mv (.t 13), (some (96, false)), [16]⟩,
                  ⟨(some 104), .bin .sub (.t 103) (.k (.d (.int .i64 1))), (some (96, false)), [23, 16]⟩,
                  ⟨(some 105), .iaddr (.t 102) (.t 104) 2, (some (96, false)), [22, 24, 16]⟩,
                  ⟨(some 106), .faddr (.t 105) 0, (some (96, false)), [25, 16]⟩,
                  ⟨(some 107), .load (.t 106) 1 false, (some (96, false)), [26, 16]⟩,
                  ⟨(some 108), .bin .leq (.t 101) (.t 107), (some (96, false)), [21, 27, 16]⟩,
                  ⟨(some 109), .pick (.t 96) (.k (.d (.bool true))) (.t 108), (some (82, true)), [16, 28, 2]⟩,
                  ⟨(some 110), .pick (.t 82) (.t 109) (.k (.d (.bool false))), none, [2, 29]⟩])
                 (.cond (.t 110) (.seq (.region false [⟨(some 6), .mv (.k (.d (.bool false))), none, []⟩])
                   .ret)
                  (.skip)))
                (.region true [⟨(some 111), .mv (.t 12), none, []⟩,
                 ⟨(some 112), .mv (.t 111), none, [0]⟩,
                 ⟨(some 113), .mv (.t 7), (some (112, false)), [1]⟩,
                 ⟨(some 114), .mv (.t 13), (some (112, false)), [1]⟩,
                 ⟨(some 115), .iaddr (.t 113) (.t 114) 2, (some (112, false)), [2, 3, 1]⟩,
                 ⟨(some 116), .load (.t 115) 2 true, (some (112, false)), [4, 1]⟩,
                 ⟨(some 117), .load (.t 11) 2 true, (some (112, false)), [1]⟩,
                 ⟨(some 118), .aggeq false [0, 0] (.t 116) (.t 117), (some (112, false)), [5, 6, 1]⟩,
                 ⟨(some 119), .mv (.t 118), (some (112, false)), [7, 1]⟩,
                 ⟨(some 120), .faddr (.t 11) 0, (some (119, true)), [8]⟩,
                 ⟨(some 121), .load (.t 120) 1 false, (some (119, true)), [9, 8]⟩,
                 ⟨(some 122), .mv (.t 2), (some (119, true)), [8]⟩,
                 ⟨(some 123), .bin .leq (.t 121) (.t 122), (some (119, true)), [10, 11, 8]⟩,
                 ⟨(some 124), .pick (.t 119) (.t 123) (.k (.d (.bool false))), (some (112, false)), [8, 12, 1]⟩,
                 ⟨(some 125), .mv (.t 124), (some (112, false)), [13, 8, 1]⟩,
                 ⟨(some 126), .mv (.t 13), (some (125, true)), [14]⟩,
                 ⟨(some 127), .bin .add (.t 126) (.k (.d (.int .i64 1))), (some (125, true)), [15, 14]⟩,
                 ⟨(some 128), .mv (.t 7), (some (125, true)), [14]⟩,
                 ⟨(some 129), .len (.t 128), (some (125, true)), [17, 14]⟩,
                 ⟨(some 130), .bin .eql (.t 127) (.t 129), (some (125, true)), [16, 18, 14]⟩,
                 ⟨(some 131), .mv (.t 130), (some (125, true)), [19, 14]⟩,
                 ⟨(some 132), .mv (.t 7), (some (131, false)), [20]⟩,
                 ⟨(some 133), .mv (.t 13), (some (131, false)), [20]⟩,
                 ⟨(some 134), .bin .add (.t 133) (.k (.d (.int .i64 1))), (some (131, false)), [22, 20]⟩,
                 ⟨(some 135), .iaddr (.t 132) (.t 134) 2, (some (131, false)), [21, 23, 20]⟩,
                 ⟨(some 136), .faddr (.t 135) 0, (some (131, false)), [24, 20]⟩,
                 ⟨(some 137), .load (.t 136) 1 false, (some (131, false)), [25, 20]⟩,
                 ⟨(some 138), .mv (.t 2), (some (131, false)), [20]⟩,
                 ⟨(some 139), .bin .gtr (.t 137) (.t 138), (some (131, false)), [26, 27, 20]⟩,
                 ⟨(some 140), .pick (.t 131) (.k (.d (.bool true))) (.t 139), (some (125, true)), [20, 28, 14]⟩,
                 ⟨(some 141), .pick (.t 125) (.t 140) (.k (.d (.bool false))), (some (112, false)), [14, 29, 1]⟩,
                 ⟨(some 142), .pick (.t 112) (.k (.d (.bool true))) (.t 141), none, [1, 30]⟩,
                 ⟨(some 12), .mv (.t 142), none, [31, 20, 0, 1, 2, 3, 4, 5, 6, 7, 8, 9, 10, 11, 12, 13, 14, 15, 16, 17, 18, 19, 21, 22, 23, 24, 25, 26, 27, 28, 29, 30]⟩])))
              (.region false [⟨(some 78), .mv (.t 13), none, []⟩,
               ⟨(some 79), .bin .add (.t 78) (.k (.d (.int .i64 1))), none, [0]⟩,
               ⟨(some 13), .mv (.t 79), none, [1, 0]⟩]))))))
         (.seq (.region false [⟨(some 143), .mv (.t 12), none, []⟩,
           ⟨(some 144), .mv (.t 143), none, [0]⟩,
           ⟨(some 145), .mv (.t 7), (some (144, true)), [1]⟩,
           ⟨(some 146), .call (.k (.d (.fn (N 200)))) [(.t 145)], (some (144, true)), [2, 1]⟩,
           ⟨(some 147), .pick (.t 144) (.t 146) (.k (.d (.bool false))), none, [1, 3]⟩,
           ⟨(some 6), .mv (.t 147), none, [4, 3, 0, 1, 2]⟩])
          .ret))))))))) }
def HC215 (P : Program) (N : Nat → Nat) : Prop := HasF P (N 215) (C215 N) ∧ HC212 P N ∧ HC210 P N ∧ HC201 P N ∧ HC200 P N
def f215_j226 (k : Nat) (j96_1 : (List TSpot)) (j226_1 : Bool) : Option Bool := cond j226_1 ((f200 k j96_1).bind fun r232 => some r232) (some false)
def f215_j186 (L : Bool → Int → Option (LR2 Bool Unit Bool)) (k : Nat) (y129_1 : Bool) (y129_2 : Int) (j96_1 : (List TSpot)) (r101 : (Int × Int)) (a2 : Int) : Option (LR2 Bool Unit Bool) := cond y129_1 (L true (IntKind.i64.wrap (y129_2 + (1 : Int)))) (gd (0 ≤ y129_2 ∧ y129_2 < ((j96_1.length : Nat) : Int)) (cond (decide ((rd j96_1 y129_2).fOffset = r101.1) && (decide ((rd j96_1 y129_2).fAt = r101.2) && true)) (cond (decide (r101.1 ≤ a2)) (cond (decide ((IntKind.i64.wrap (y129_2 + (1 : Int))) = ((j96_1.length : Nat) : Int))) (L true (IntKind.i64.wrap (y129_2 + (1 : Int)))) (gd (0 ≤ (IntKind.i64.wrap (y129_2 + (1 : Int))) ∧ (IntKind.i64.wrap (y129_2 + (1 : Int))) < ((j96_1.length : Nat) : Int)) (L (decide ((rd j96_1 (IntKind.i64.wrap (y129_2 + (1 : Int)))).fOffset > a2)) (IntKind.i64.wrap (y129_2 + (1 : Int)))))) (L false (IntKind.i64.wrap (y129_2 + (1 : Int))))) (L false (IntKind.i64.wrap (y129_2 + (1 : Int))))))
def f215_l129 (j96_1 : (List TSpot)) (r101 : (Int × Int)) (a2 : Int) : Nat → Bool → Int → Option (LR2 Bool Unit Bool)
  | 0, _, _ => none
  | k + 1, y129_1, y129_2 => cond (decide (y129_2 < ((j96_1.length : Nat) : Int))) (cond (decide (y129_2 > (0 : Int))) (gd (0 ≤ y129_2 ∧ y129_2 < ((j96_1.length : Nat) : Int)) (gd (0 ≤ (IntKind.i64.wrap (y129_2 - (1 : Int))) ∧ (IntKind.i64.wrap (y129_2 - (1 : Int))) < ((j96_1.length : Nat) : Int)) (cond (decide ((IntKind.i64.wrap ((rd j96_1 y129_2).fAt - (rd j96_1 (IntKind.i64.wrap (y129_2 - (1 : Int)))).fAt)) < (512 : Int))) (some (.r false)) (gd (0 ≤ y129_2 ∧ y129_2 < ((j96_1.length : Nat) : Int)) (gd (0 ≤ (IntKind.i64.wrap (y129_2 - (1 : Int))) ∧ (IntKind.i64.wrap (y129_2 - (1 : Int))) < ((j96_1.length : Nat) : Int)) (cond (decide ((rd j96_1 y129_2).fOffset ≤ (rd j96_1 (IntKind.i64.wrap (y129_2 - (1 : Int)))).fOffset)) (some (.r false)) (f215_j186 (f215_l129 j96_1 r101 a2 k) k y129_1 y129_2 j96_1 r101 a2))))))) (f215_j186 (f215_l129 j96_1 r101 a2 k) k y129_1 y129_2 j96_1 r101 a2)) (some (.b0 y129_1))
def f215_j124 (k : Nat) (j96_1 : (List TSpot)) (r101 : (Int × Int)) (a2 : Int) (j124_1 : Bool) : Option Bool := (f215_l129 j96_1 r101 a2 k j124_1 (0 : Int)).bind fun o129 => match o129 with | .b0 x129_1 => f215_j226 k j96_1 x129_1 | .r x => some x | _ => none
def f215_j96 (k : Nat) (a2 : Int) (j96_1 : (List TSpot)) : Option Bool := (f201 k j96_1 a2).bind fun r101 => cond (decide (r101.1 = (0 : Int)) && (decide (r101.2 = (0 : Int)) && true)) (cond (decide (((j96_1.length : Nat) : Int) = (0 : Int))) (f215_j124 k j96_1 r101 a2 true) (gd (0 ≤ (0 : Int) ∧ (0 : Int) < ((j96_1.length : Nat) : Int)) (f215_j124 k j96_1 r101 a2 (decide ((rd j96_1 (0 : Int)).fOffset > a2))))) (f215_j124 k j96_1 r101 a2 false)
def f215_l32 (a0 : (List Int)) (a1 : (List Int)) : Nat → (List TSpot) → Int → Int → Int → Option (LR2 (List TSpot) Unit Bool)
  | 0, _, _, _, _ => none
  | k + 1, y32_1, y32_2, y32_3, y32_4 => cond (decide (y32_4 < ((a0.length : Nat) : Int))) (cond (decide (y32_4 < ((a1.length : Nat) : Int))) (cond (decide (y32_4 < (100 : Int))) ((f210 k y32_1 y32_3 y32_2).bind fun r63 => gd (0 ≤ y32_4 ∧ y32_4 < ((a0.length : Nat) : Int)) (gd (0 ≤ y32_4 ∧ y32_4 < ((a1.length : Nat) : Int)) (f215_l32 a0 a1 k r63 (IntKind.i64.wrap ((IntKind.i64.wrap (y32_2 + (16 : Int))) + (IntKind.i64.wrap (Int.tmod (IntKind.u64.wrap (rd a1 y32_4)) (900 : Int))))) (IntKind.u64.wrap ((IntKind.u64.wrap (y32_3 + (1 : Int))) + (Int.tmod (IntKind.u64.wrap (rd a0 y32_4)) (5 : Int)))) (IntKind.i64.wrap (y32_4 + (1 : Int)))))) (some (.b0 y32_1))) (some (.b0 y32_1))) (some (.b0 y32_1))
def f215 (k : Nat) (a0 : (List Int)) (a1 : (List Int)) (a2 : Int) : Option Bool := (f212 k).bind fun r18 => cond (!r18) (some false) ((f215_l32 a0 a1 k ([] : List TSpot) (0 : Int) (0 : Int) (0 : Int)).bind fun o32 => match o32 with | .b0 x32_1 => f215_j96 k a2 x32_1 | _ => none)
theorem F215 {P : Program} {N : Nat → Nat} (hmix : P.follows .mixedOrders = true) (hc : HC215 P N) {k : Nat} {a0 : (List Int)} {a1 : (List Int)} {a2 : Int} {r : Bool} (h : f215 k a0 a1 a2 = some r) :
    ACalls P (N 215) [(.d (.sl (List.map (D.int .i64) a0))), (.d (.sl (List.map (D.int .i64) a1))), (.d (.int .u64 a2))] [] (.d (.bool r)) [] := by
  refine acalls_canon (F := C215 N) hc.1 0 0 rfl ?_
  unfold f215 at h
  dsimp only [C215, startL]
  refine AWc.seq ?_
  refine AWc.rg hmix rfl rfl ?_
  refine RegV.p0 rfl rfl rfl ?_
  refine RegV.nil0 ?_
  refine AWc.seq ?_
  refine AWc.rg hmix rfl rfl ?_
  refine RegV.p0 rfl rfl rfl ?_
  refine RegV.nil0 ?_
  refine AWc.seq ?_
  refine AWc.rg hmix rfl rfl ?_
  refine RegV.p0 rfl rfl rfl ?_
  refine RegV.p0 rfl rfl rfl ?_
  refine RegV.nil0 ?_
  refine AWc.seq ?_
  refine AWc.seq ?_
  refine AWc.rg hmix rfl rfl ?_
  obtain ⟨r18, e18, h⟩ := bind_some h
  refine RegV.call0 (F212 hmix hc.2.1 e18) rfl rfl rfl rfl .nil rfl ?_
  refine RegV.p0 (v := (.d (.bool (!r18)))) rfl rfl rfl ?_
  refine RegV.nil0 ?_
  refine AWc.cond rfl (fun c20 => ?_) (fun c20 => ?_)
  · have h := cond_pos c20 h
    refine AWc.seq ?_
    refine AWc.rg hmix rfl rfl ?_
    refine RegV.p0 rfl rfl rfl ?_
    refine RegV.nil0 ?_
    have hr := Option.some.inj h
    subst hr
    exact AWc.ret (canQ (N := 148) (k := 0) (l' := [(6, (.d (.bool false)))]) (H' := []) rfl ⟨rfl, [], [], rfl, rfl, ⟨⟨_, rfl, (.refl _)⟩, rfl, trivial⟩,  trivial⟩ (doneA (.inr rfl) rfl ⟨trivial, trivial⟩ (.refl _) hasNil))
  · have h := cond_neg c20 h
    refine AWc.skip ?_
    refine AWc.seqS (N := 148) 1 (fun (z : (List TSpot)) => [(2, (.d (.int .u64 a2))), (7, (.ap 0 2 (List.map TSpot.enc z)))]) (fun z => [(0, (.tok ((List.map TSpot.enc z).length * 2)))]) (fun z => f215_j96 k a2 z = some r) rfl_le ?_ ?_
    · refine AWc.seq ?_
      refine AWc.rg hmix rfl rfl ?_
      refine RegV.p0 rfl rfl rfl ?_
      refine RegV.nil0 ?_
      obtain ⟨o32, h32, h⟩ := bind_some h
      refine AWc.block ?_
      refine AWc.loopK (N := 148) 1 (fun (x : ((List TSpot) × Int × Int × Int)) => [(0, (.d (.sl (List.map (D.int .i64) a0)))), (1, (.d (.sl (List.map (D.int .i64) a1)))), (2, (.d (.int .u64 a2))), (7, (.ap 0 2 (List.map TSpot.enc x.1))), (8, (.d (.int .i64 x.2.1))), (9, (.d (.int .u64 x.2.2.1))), (10, (.d (.int .i64 x.2.2.2)))]) (fun x => [(0, (.tok ((List.map TSpot.enc x.1).length * 2)))]) (fun k x => f215_l32 a0 a1 k x.1 x.2.1 x.2.2.1 x.2.2.2 = some o32) k (([] : List TSpot), (0 : Int), (0 : Int), (0 : Int)) rfl_le (fun x hx => by cases hx) h32 ⟨rfl, [.tok 0], [(0, 0)], rfl, rfl, ⟨⟨_, rfl, (.refl _)⟩, rfl, ⟨⟨_, rfl, (.refl _)⟩, rfl, ⟨⟨_, rfl, (.refl _)⟩, rfl, ⟨⟨_, rfl, .nil⟩, rfl, ⟨⟨_, rfl, (.refl _)⟩, rfl, ⟨⟨_, rfl, (.refl _)⟩, rfl, ⟨⟨_, rfl, (.refl _)⟩, rfl, trivial⟩⟩⟩⟩⟩⟩⟩, ⟨⟨_, rfl, (.refl _)⟩, rfl, rfl, trivial⟩⟩ ?_
      clear h32
      intro k
      rintro ⟨y32_1, y32_2, y32_3, y32_4⟩ h32
      dsimp only at h32 ⊢
      rw [f215_l32] at h32
      refine AWc.seq ?_
      refine AWc.seq ?_
      refine AWc.rg hmix rfl rfl ?_
      refine RegV.p0 rfl rfl rfl ?_
      refine RegV.p0 rfl rfl rfl ?_
      refine RegV.len (xs := a0) (e := (D.int .i64)) rfl rfl rfl rfl ?_
      refine RegV.p0 (v := (.d (.bool (decide (y32_4 < ((a0.length : Nat) : Int)))))) rfl rfl rfl ?_
      refine RegV.p0 rfl rfl rfl ?_
      refine RegV.split (fun c42 => ?_) (fun c42 => ?_)
      · have h32 := cond_pos c42 h32
        refine RegV.p0 rfl rfl rfl ?_
        refine RegV.p0 rfl rfl rfl ?_
        refine RegV.len (xs := a1) (e := (D.int .i64)) rfl rfl rfl rfl ?_
        refine RegV.p0 (v := (.d (.bool (decide (y32_4 < ((a1.length : Nat) : Int)))))) rfl rfl rfl ?_
        refine RegV.p0 rfl rfl rfl ?_
        refine RegV.p0 rfl rfl rfl ?_
        refine RegV.split (fun c48 => ?_) (fun c48 => ?_)
        · have h32 := cond_pos c48 h32
          refine RegV.p0 rfl rfl rfl ?_
          refine RegV.p0 (v := (.d (.bool (decide (y32_4 < (100 : Int)))))) rfl rfl rfl ?_
          refine RegV.p0 rfl rfl rfl ?_
          refine RegV.nil0 ?_
          refine AWc.cond rfl (fun c52 => ?_) (fun c52 => ?_)
          · have h32 := cond_pos c52 h32
            refine AWc.skip ?_
            refine AWc.seq ?_
            refine AWc.block ?_
            refine AWc.seq ?_
            refine AWc.rg hmix rfl rfl ?_
            refine RegV.p0 rfl rfl rfl ?_
            refine RegV.p0 rfl rfl rfl ?_
            refine RegV.p0 rfl rfl rfl ?_
            obtain ⟨r63, e63, h32⟩ := bind_some h32
            refine RegV.callS (q := false) (H' := [(1, (.tok ((List.map TSpot.enc r63).length * 2))), (0, (.tok ((List.map TSpot.enc y32_1).length * 2)))]) (c' := 2) (show ACalls P (N 210) [(.d (.sl (List.map TSpot.enc y32_1))), (.d (.int .u64 y32_3)), (.d (.int .i64 y32_2))] [] (.ap 1 2 (List.map TSpot.enc r63)) [(1, (.tok ((List.map TSpot.enc r63).length * 2)))] from ACalls.use (F210 hmix hc.2.2.1 e63) [(0, 1)] 1 rfl) rfl rfl rfl rfl (.cons (.sl rfl) (.cons (.refl _) (.cons (.refl _) .nil))) (.refl _) (fun h => by cases h) rfl hasNil rfl rfl rfl rfl ?_
            refine RegV.p0 rfl rfl rfl ?_
            refine RegV.nil0 ?_
            refine AWc.seq ?_
            refine AWc.rg hmix rfl rfl ?_
            refine RegV.p0 rfl rfl rfl ?_
            refine RegV.p0 (v := (.d (.int .u64 (IntKind.u64.wrap (y32_3 + (1 : Int)))))) rfl rfl rfl ?_
            refine RegV.p0 rfl rfl rfl ?_
            refine RegV.p0 rfl rfl rfl ?_
            obtain ⟨b72, h32⟩ := gd_some h32
            refine RegV.iad (xs := a0) (e := (D.int .i64)) rfl rfl rfl rfl (fun _ => rfl) b72 rfl ?_
            refine RegV.p0 (v := (.d (.int .i64 (rd a0 y32_4)))) rfl rfl rfl ?_
            refine RegV.p0 (v := (.d (.int .u64 (IntKind.u64.wrap (rd a0 y32_4))))) rfl rfl rfl ?_
            refine RegV.p1 (v := (.d (.int .u64 (Int.tmod (IntKind.u64.wrap (rd a0 y32_4)) (5 : Int))))) rfl rfl (by decide) rfl rfl ?_
            refine RegV.p0 (v := (.d (.int .u64 (IntKind.u64.wrap ((IntKind.u64.wrap (y32_3 + (1 : Int))) + (Int.tmod (IntKind.u64.wrap (rd a0 y32_4)) (5 : Int))))))) rfl rfl rfl ?_
            refine RegV.p0 rfl rfl rfl ?_
            refine RegV.nil0 ?_
            refine AWc.rg hmix rfl rfl ?_
            refine RegV.p0 rfl rfl rfl ?_
            refine RegV.p0 (v := (.d (.int .i64 (IntKind.i64.wrap (y32_2 + (16 : Int)))))) rfl rfl rfl ?_
            refine RegV.p0 rfl rfl rfl ?_
            refine RegV.p0 rfl rfl rfl ?_
            obtain ⟨b84, h32⟩ := gd_some h32
            refine RegV.iad (xs := a1) (e := (D.int .i64)) rfl rfl rfl rfl (fun _ => rfl) b84 rfl ?_
            refine RegV.p0 (v := (.d (.int .i64 (rd a1 y32_4)))) rfl rfl rfl ?_
            refine RegV.p0 (v := (.d (.int .u64 (IntKind.u64.wrap (rd a1 y32_4))))) rfl rfl rfl ?_
            refine RegV.p1 (v := (.d (.int .u64 (Int.tmod (IntKind.u64.wrap (rd a1 y32_4)) (900 : Int))))) rfl rfl (by decide) rfl rfl ?_
            refine RegV.p0 (v := (.d (.int .i64 (IntKind.i64.wrap (Int.tmod (IntKind.u64.wrap (rd a1 y32_4)) (900 : Int)))))) rfl rfl rfl ?_
            refine RegV.p0 (v := (.d (.int .i64 (IntKind.i64.wrap ((IntKind.i64.wrap (y32_2 + (16 : Int))) + (IntKind.i64.wrap (Int.tmod (IntKind.u64.wrap (rd a1 y32_4)) (900 : Int)))))))) rfl rfl rfl ?_
            refine RegV.p0 rfl rfl rfl ?_
            refine RegV.nil0 ?_
            refine AWc.rg hmix rfl rfl ?_
            refine RegV.p0 rfl rfl rfl ?_
            refine RegV.p0 (v := (.d (.int .i64 (IntKind.i64.wrap (y32_4 + (1 : Int)))))) rfl rfl rfl ?_
            refine RegV.p0 rfl rfl rfl ?_
            refine RegV.nil0 ?_
            exact ⟨(r63, (IntKind.i64.wrap ((IntKind.i64.wrap (y32_2 + (16 : Int))) + (IntKind.i64.wrap (Int.tmod (IntKind.u64.wrap (rd a1 y32_4)) (900 : Int))))), (IntKind.u64.wrap ((IntKind.u64.wrap (y32_3 + (1 : Int))) + (Int.tmod (IntKind.u64.wrap (rd a0 y32_4)) (5 : Int)))), (IntKind.i64.wrap (y32_4 + (1 : Int)))), h32, ⟨rfl, [], [(0, 1)], rfl, rfl, ⟨⟨_, rfl, (.refl _)⟩, rfl, ⟨⟨_, rfl, (.refl _)⟩, rfl, ⟨⟨_, rfl, (.refl _)⟩, rfl, ⟨⟨_, rfl, (.refl _)⟩, rfl, ⟨⟨_, rfl, (.refl _)⟩, rfl, ⟨⟨_, rfl, (.refl _)⟩, rfl, ⟨⟨_, rfl, (.refl _)⟩, rfl, trivial⟩⟩⟩⟩⟩⟩⟩, ⟨⟨_, rfl, (.refl _)⟩, rfl, rfl, trivial⟩⟩⟩
          · have h32 := cond_neg c52 h32
            cases h32
            dsimp only at h
            refine AWc.exit ?_
            refine inBlk_eq ?_
            exact ⟨y32_1, h, ⟨rfl, [], [], rfl, rfl, ⟨⟨_, rfl, (.refl _)⟩, rfl, ⟨⟨_, rfl, (.refl _)⟩, rfl, trivial⟩⟩, ⟨⟨_, rfl, (.refl _)⟩, rfl, rfl, trivial⟩⟩⟩
        · have h32 := cond_neg c48 h32
          refine RegV.noS rfl rfl ?_
          refine RegV.noS rfl rfl ?_
          refine RegV.p0 rfl rfl rfl ?_
          refine RegV.nil0 ?_
          refine AWc.cond rfl (fun hc => by cases hc) (fun _ => ?_)
          cases h32
          dsimp only at h
          refine AWc.exit ?_
          refine inBlk_eq ?_
          exact ⟨y32_1, h, ⟨rfl, [], [], rfl, rfl, ⟨⟨_, rfl, (.refl _)⟩, rfl, ⟨⟨_, rfl, (.refl _)⟩, rfl, trivial⟩⟩, ⟨⟨_, rfl, (.refl _)⟩, rfl, rfl, trivial⟩⟩⟩
      · have h32 := cond_neg c42 h32
        refine RegV.noS rfl rfl ?_
        refine RegV.noS rfl rfl ?_
        refine RegV.noS rfl rfl ?_
        refine RegV.noS rfl rfl ?_
        refine RegV.p0 rfl rfl rfl ?_
        refine RegV.p0 rfl rfl rfl ?_
        refine RegV.noS rfl rfl ?_
        refine RegV.noS rfl rfl ?_
        refine RegV.p0 rfl rfl rfl ?_
        refine RegV.nil0 ?_
        refine AWc.cond rfl (fun hc => by cases hc) (fun _ => ?_)
        cases h32
        dsimp only at h
        refine AWc.exit ?_
        refine inBlk_eq ?_
        exact ⟨y32_1, h, ⟨rfl, [], [], rfl, rfl, ⟨⟨_, rfl, (.refl _)⟩, rfl, ⟨⟨_, rfl, (.refl _)⟩, rfl, trivial⟩⟩, ⟨⟨_, rfl, (.refl _)⟩, rfl, rfl, trivial⟩⟩⟩
    · intro j96_1 h
      unfold f215_j96 at h
      refine AWc.seq ?_
      refine AWc.rg hmix rfl rfl ?_
      refine RegV.p0 rfl rfl rfl ?_
      refine RegV.p0 rfl rfl rfl ?_
      obtain ⟨r101, e101, h⟩ := bind_some h
      refine RegV.call0 (F201 hmix hc.2.2.2.1 e101) rfl rfl rfl rfl (.cons (.sl rfl) (.cons (.refl _) .nil)) rfl ?_
      refine RegV.evS (own := false) (v := (.ptr 1 0)) (H' := [(1, (.cells [(.d (.int .u64 (0 : Int))), (.d (.int .i64 (0 : Int)))])), (0, (.tok ((List.map TSpot.enc j96_1).length * 2)))]) (c' := 2) rfl rfl trivial rfl rfl rfl rfl rfl rfl ?_
      refine RegV.evN (own := false) (H' := [(1, (.cells [(.d (.int .u64 r101.1)), (.d (.int .i64 r101.2))])), (0, (.tok ((List.map TSpot.enc j96_1).length * 2)))]) (c' := 2) rfl rfl (by exact ⟨rfl, Nat.le_of_ble_eq_true rfl, rfl⟩) rfl rfl rfl rfl ?_
      refine RegV.nil0 ?_
      refine AWc.seqS (N := 148) 2 (fun (z : Bool) => [(2, (.d (.int .u64 a2))), (7, (.ap 0 2 (List.map TSpot.enc j96_1))), (11, (.ptr 1 0)), (12, (.d (.bool z)))]) (fun z => [(0, (.tok ((List.map TSpot.enc j96_1).length * 2))), (1, (.cells [(.d (.int .u64 r101.1)), (.d (.int .i64 r101.2))]))]) (fun z => f215_j124 k j96_1 r101 a2 z = some r) rfl_le ?_ ?_
      · refine AWc.rg hmix rfl rfl ?_
        refine RegV.ld (v := (.d (.agg [(.int .u64 r101.1), (.int .i64 r101.2)]))) (H' := [(1, (.cells [(.d (.int .u64 r101.1)), (.d (.int .i64 r101.2))])), (0, (.tok ((List.map TSpot.enc j96_1).length * 2)))]) rfl rfl (Nat.le_of_ble_eq_true rfl) rfl rfl rfl rfl rfl ?_
        refine RegV.p1 (v := (.d (.agg [(.int .u64 (0 : Int)), (.int .i64 (0 : Int))]))) rfl rfl trivial rfl rfl ?_
        refine RegV.agq (v := (decide (r101.1 = (0 : Int)) && (decide (r101.2 = (0 : Int)) && true))) rfl rfl rfl rfl rfl rfl ?_
        refine RegV.p0 rfl rfl rfl ?_
        refine RegV.split (fun c110 => ?_) (fun c110 => ?_)
        · have h := cond_pos c110 h
          refine RegV.p0 rfl rfl rfl ?_
          refine RegV.len (xs := j96_1) (e := TSpot.enc) rfl rfl rfl rfl ?_
          refine RegV.p0 (v := (.d (.bool (decide (((j96_1.length : Nat) : Int) = (0 : Int)))))) rfl rfl rfl ?_
          refine RegV.p0 rfl rfl rfl ?_
          refine RegV.split (fun c114 => ?_) (fun c114 => ?_)
          · have h := cond_pos c114 h
            refine RegV.noS rfl rfl ?_
            refine RegV.noS rfl rfl ?_
            refine RegV.noS rfl rfl ?_
            refine RegV.noS rfl rfl ?_
            refine RegV.noS rfl rfl ?_
            refine RegV.noS rfl rfl ?_
            refine RegV.p0 rfl rfl rfl ?_
            refine RegV.p0 rfl rfl rfl ?_
            refine RegV.p0 rfl rfl rfl ?_
            refine RegV.nil0 ?_
            exact ⟨true, h, ⟨rfl, [], [], rfl, rfl, ⟨⟨_, rfl, (.refl _)⟩, rfl, ⟨⟨_, rfl, (.refl _)⟩, rfl, ⟨⟨_, rfl, (.refl _)⟩, rfl, ⟨⟨_, rfl, (.refl _)⟩, rfl, trivial⟩⟩⟩⟩, ⟨⟨_, rfl, (.refl _)⟩, rfl, rfl, ⟨⟨_, rfl, (.refl _)⟩, rfl, rfl, trivial⟩⟩⟩⟩
          · have h := cond_neg c114 h
            refine RegV.p0 rfl rfl rfl ?_
            obtain ⟨b116, h⟩ := gd_some h
            refine RegV.iad (xs := j96_1) (e := TSpot.enc) rfl rfl rfl rfl (fun _ => rfl) b116 rfl ?_
            refine RegV.p0 (v := (.cp (TSpot.enc (rd j96_1 (0 : Int))) 0)) rfl rfl rfl ?_
            refine RegV.p0 (v := (.d (.int .u64 (rd j96_1 (0 : Int)).fOffset))) rfl rfl rfl ?_
            refine RegV.p0 rfl rfl rfl ?_
            refine RegV.p0 (v := (.d (.bool (decide ((rd j96_1 (0 : Int)).fOffset > a2))))) rfl rfl rfl ?_
            refine RegV.p0 rfl rfl rfl ?_
            refine RegV.p0 rfl rfl rfl ?_
            refine RegV.p0 rfl rfl rfl ?_
            refine RegV.nil0 ?_
            exact ⟨(decide ((rd j96_1 (0 : Int)).fOffset > a2)), h, ⟨rfl, [], [], rfl, rfl, ⟨⟨_, rfl, (.refl _)⟩, rfl, ⟨⟨_, rfl, (.refl _)⟩, rfl, ⟨⟨_, rfl, (.refl _)⟩, rfl, ⟨⟨_, rfl, (.refl _)⟩, rfl, trivial⟩⟩⟩⟩, ⟨⟨_, rfl, (.refl _)⟩, rfl, rfl, ⟨⟨_, rfl, (.refl _)⟩, rfl, rfl, trivial⟩⟩⟩⟩
        · have h := cond_neg c110 h
          refine RegV.noS rfl rfl ?_
          refine RegV.noS rfl rfl ?_
          refine RegV.noS rfl rfl ?_
          refine RegV.noS rfl rfl ?_
          refine RegV.noS rfl rfl ?_
          refine RegV.noS rfl rfl ?_
          refine RegV.noS rfl rfl ?_
          refine RegV.noS rfl rfl ?_
          refine RegV.noS rfl rfl ?_
          refine RegV.noS rfl rfl ?_
          refine RegV.noS rfl rfl ?_
          refine RegV.p0 rfl rfl rfl ?_
          refine RegV.p0 rfl rfl rfl ?_
          refine RegV.nil0 ?_
          exact ⟨false, h, ⟨rfl, [], [], rfl, rfl, ⟨⟨_, rfl, (.refl _)⟩, rfl, ⟨⟨_, rfl, (.refl _)⟩, rfl, ⟨⟨_, rfl, (.refl _)⟩, rfl, ⟨⟨_, rfl, (.refl _)⟩, rfl, trivial⟩⟩⟩⟩, ⟨⟨_, rfl, (.refl _)⟩, rfl, rfl, ⟨⟨_, rfl, (.refl _)⟩, rfl, rfl, trivial⟩⟩⟩⟩
      · intro j124_1 h
        unfold f215_j124 at h
        refine AWc.seqS (N := 148) 1 (fun (z : Bool) => [(7, (.ap 0 2 (List.map TSpot.enc j96_1))), (12, (.d (.bool z)))]) (fun z => [(0, (.tok ((List.map TSpot.enc j96_1).length * 2)))]) (fun z => f215_j226 k j96_1 z = some r) rfl_le ?_ ?_
        · refine AWc.seq ?_
          refine AWc.rg hmix rfl rfl ?_
          refine RegV.p0 rfl rfl rfl ?_
          refine RegV.nil0 ?_
          obtain ⟨o129, h129, h⟩ := bind_some h
          refine AWc.block ?_
          refine AWc.loopK (N := 148) 2 (fun (x : (Bool × Int)) => [(2, (.d (.int .u64 a2))), (7, (.ap 0 2 (List.map TSpot.enc j96_1))), (11, (.ptr 1 0)), (12, (.d (.bool x.1))), (13, (.d (.int .i64 x.2)))]) (fun x => [(0, (.tok ((List.map TSpot.enc j96_1).length * 2))), (1, (.cells [(.d (.int .u64 r101.1)), (.d (.int .i64 r101.2))]))]) (fun k x => f215_l129 j96_1 r101 a2 k x.1 x.2 = some o129) k (j124_1, (0 : Int)) rfl_le (fun x hx => by cases hx) h129 ⟨rfl, [], [], rfl, rfl, ⟨⟨_, rfl, (.refl _)⟩, rfl, ⟨⟨_, rfl, (.refl _)⟩, rfl, ⟨⟨_, rfl, (.refl _)⟩, rfl, ⟨⟨_, rfl, (.refl _)⟩, rfl, ⟨⟨_, rfl, (.refl _)⟩, rfl, trivial⟩⟩⟩⟩⟩, ⟨⟨_, rfl, (.refl _)⟩, rfl, rfl, ⟨⟨_, rfl, (.refl _)⟩, rfl, rfl, trivial⟩⟩⟩ ?_
          clear h129
          intro k
          rintro ⟨y129_1, y129_2⟩ h129
          dsimp only at h129 ⊢
          rw [f215_l129] at h129
          refine AWc.seq ?_
          refine AWc.seq ?_
          refine AWc.rg hmix rfl rfl ?_
          refine RegV.p0 rfl rfl rfl ?_
          refine RegV.p0 rfl rfl rfl ?_
          refine RegV.len (xs := j96_1) (e := TSpot.enc) rfl rfl rfl rfl ?_
          refine RegV.p0 (v := (.d (.bool (decide (y129_2 < ((j96_1.length : Nat) : Int)))))) rfl rfl rfl ?_
          refine RegV.nil0 ?_
          refine AWc.cond rfl (fun c139 => ?_) (fun c139 => ?_)
          · have h129 := cond_pos c139 h129
            refine AWc.skip ?_
            refine AWc.seq ?_
            refine AWc.block ?_
            refine AWc.seqS (N := 148) 2 (fun (z : Unit) => [(2, (.d (.int .u64 a2))), (7, (.ap 0 2 (List.map TSpot.enc j96_1))), (11, (.ptr 1 0)), (12, (.d (.bool y129_1))), (13, (.d (.int .i64 y129_2))), (83, .any), (84, .any), (85, .any), (86, .any), (87, .any), (88, .any), (89, .any), (90, .any), (91, .any), (92, .any), (93, .any), (94, .any), (95, .any), (96, .any), (97, .any), (98, .any), (99, .any), (100, .any), (101, .any), (102, .any), (103, .any), (104, .any), (105, .any), (106, .any), (107, .any), (108, .any), (109, .any)]) (fun z => [(0, (.tok ((List.map TSpot.enc j96_1).length * 2))), (1, (.cells [(.d (.int .u64 r101.1)), (.d (.int .i64 r101.2))]))]) (fun z => f215_j186 (f215_l129 j96_1 r101 a2 k) k y129_1 y129_2 j96_1 r101 a2 = some o129) rfl_le ?_ ?_
            · refine AWc.seq ?_
              refine AWc.rg hmix rfl rfl ?_
              refine RegV.p0 rfl rfl rfl ?_
              refine RegV.p0 (v := (.d (.bool (decide (y129_2 > (0 : Int)))))) rfl rfl rfl ?_
              refine RegV.p0 rfl rfl rfl ?_
              refine RegV.split (fun c150 => ?_) (fun c150 => ?_)
              · have h129 := cond_pos c150 h129
                refine RegV.p0 rfl rfl rfl ?_
                refine RegV.p0 rfl rfl rfl ?_
                obtain ⟨b153, h129⟩ := gd_some h129
                refine RegV.iad (xs := j96_1) (e := TSpot.enc) rfl rfl rfl rfl (fun _ => rfl) b153 rfl ?_
                refine RegV.p0 (v := (.cp (TSpot.enc (rd j96_1 y129_2)) 1)) rfl rfl rfl ?_
                refine RegV.p0 (v := (.d (.int .i64 (rd j96_1 y129_2).fAt))) rfl rfl rfl ?_
                refine RegV.p0 rfl rfl rfl ?_
                refine RegV.p0 rfl rfl rfl ?_
                refine RegV.p0 (v := (.d (.int .i64 (IntKind.i64.wrap (y129_2 - (1 : Int)))))) rfl rfl rfl ?_
                obtain ⟨b159, h129⟩ := gd_some h129
                refine RegV.iad (xs := j96_1) (e := TSpot.enc) rfl rfl rfl rfl (fun _ => rfl) b159 rfl ?_
                refine RegV.p0 (v := (.cp (TSpot.enc (rd j96_1 (IntKind.i64.wrap (y129_2 - (1 : Int))))) 1)) rfl rfl rfl ?_
                refine RegV.p0 (v := (.d (.int .i64 (rd j96_1 (IntKind.i64.wrap (y129_2 - (1 : Int)))).fAt))) rfl rfl rfl ?_
                refine RegV.p0 (v := (.d (.int .i64 (IntKind.i64.wrap ((rd j96_1 y129_2).fAt - (rd j96_1 (IntKind.i64.wrap (y129_2 - (1 : Int)))).fAt))))) rfl rfl rfl ?_
                refine RegV.p0 (v := (.d (.bool (decide ((IntKind.i64.wrap ((rd j96_1 y129_2).fAt - (rd j96_1 (IntKind.i64.wrap (y129_2 - (1 : Int)))).fAt)) < (512 : Int)))))) rfl rfl rfl ?_
                refine RegV.p0 rfl rfl rfl ?_
                refine RegV.split (fun c164 => ?_) (fun c164 => ?_)
                · have h129 := cond_pos c164 h129
                  refine RegV.noS rfl rfl ?_
                  refine RegV.noS rfl rfl ?_
                  refine RegV.noS rfl rfl ?_
                  refine RegV.noS rfl rfl ?_
                  refine RegV.noS rfl rfl ?_
                  refine RegV.noS rfl rfl ?_
                  refine RegV.noS rfl rfl ?_
                  refine RegV.noS rfl rfl ?_
                  refine RegV.noS rfl rfl ?_
                  refine RegV.noS rfl rfl ?_
                  refine RegV.noS rfl rfl ?_
                  refine RegV.noS rfl rfl ?_
                  refine RegV.p0 rfl rfl rfl ?_
                  refine RegV.p0 rfl rfl rfl ?_
                  refine RegV.nil1 (by kernel_rfl) ?_
                  refine AWc.cond rfl (fun _ => ?_) (fun hc => by cases hc)
                  refine AWc.seq ?_
                  refine AWc.rg hmix rfl rfl ?_
                  refine RegV.p0 rfl rfl rfl ?_
                  refine RegV.nil0 ?_
                  cases h129
                  dsimp only at h
                  have hr := Option.some.inj h
                  subst hr
                  exact AWc.ret (canQ (N := 148) (k := 0) (l' := [(6, (.d (.bool false)))]) (H' := []) rfl ⟨rfl, [], [], rfl, rfl, ⟨⟨_, rfl, (.refl _)⟩, rfl, trivial⟩,  trivial⟩ (doneA (.inr rfl) rfl ⟨trivial, trivial⟩ (.refl _) hasNil))
                · have h129 := cond_neg c164 h129
                  refine RegV.p0 rfl rfl rfl ?_
                  refine RegV.p0 rfl rfl rfl ?_
                  obtain ⟨b167, h129⟩ := gd_some h129
                  refine RegV.iad (xs := j96_1) (e := TSpot.enc) rfl rfl rfl rfl (fun _ => rfl) b167 rfl ?_
                  refine RegV.p0 (v := (.cp (TSpot.enc (rd j96_1 y129_2)) 0)) rfl rfl rfl ?_
                  refine RegV.p0 (v := (.d (.int .u64 (rd j96_1 y129_2).fOffset))) rfl rfl rfl ?_
                  refine RegV.p0 rfl rfl rfl ?_
                  refine RegV.p0 rfl rfl rfl ?_
                  refine RegV.p0 (v := (.d (.int .i64 (IntKind.i64.wrap (y129_2 - (1 : Int)))))) rfl rfl rfl ?_
                  obtain ⟨b173, h129⟩ := gd_some h129
                  refine RegV.iad (xs := j96_1) (e := TSpot.enc) rfl rfl rfl rfl (fun _ => rfl) b173 rfl ?_
                  refine RegV.p0 (v := (.cp (TSpot.enc (rd j96_1 (IntKind.i64.wrap (y129_2 - (1 : Int))))) 0)) rfl rfl rfl ?_
                  refine RegV.p0 (v := (.d (.int .u64 (rd j96_1 (IntKind.i64.wrap (y129_2 - (1 : Int)))).fOffset))) rfl rfl rfl ?_
                  refine RegV.p0 (v := (.d (.bool (decide ((rd j96_1 y129_2).fOffset ≤ (rd j96_1 (IntKind.i64.wrap (y129_2 - (1 : Int)))).fOffset))))) rfl rfl rfl ?_
                  refine RegV.p0 rfl rfl rfl ?_
                  refine RegV.p0 rfl rfl rfl ?_
                  refine RegV.nil1 (by kernel_rfl) ?_
                  refine AWc.cond rfl (fun c179 => ?_) (fun c179 => ?_)
                  · have h129 := cond_pos c179 h129
                    refine AWc.seq ?_
                    refine AWc.rg hmix rfl rfl ?_
                    refine RegV.p0 rfl rfl rfl ?_
                    refine RegV.nil0 ?_
                    cases h129
                    dsimp only at h
                    have hr := Option.some.inj h
                    subst hr
                    exact AWc.ret (canQ (N := 148) (k := 0) (l' := [(6, (.d (.bool false)))]) (H' := []) rfl ⟨rfl, [], [], rfl, rfl, ⟨⟨_, rfl, (.refl _)⟩, rfl, trivial⟩,  trivial⟩ (doneA (.inr rfl) rfl ⟨trivial, trivial⟩ (.refl _) hasNil))
                  · have h129 := cond_neg c179 h129
                    refine AWc.skip ?_
                    exact ⟨(), h129, ⟨rfl, [], [], rfl, rfl, ⟨⟨_, rfl, (.refl _)⟩, rfl, ⟨⟨_, rfl, (.refl _)⟩, rfl, ⟨⟨_, rfl, (.refl _)⟩, rfl, ⟨⟨_, rfl, (.refl _)⟩, rfl, ⟨⟨_, rfl, (.refl _)⟩, rfl, ⟨⟨_, rfl, (.any _)⟩, rfl, ⟨⟨_, rfl, (.any _)⟩, rfl, ⟨⟨_, rfl, (.any _)⟩, rfl, ⟨⟨_, rfl, (.any _)⟩, rfl, ⟨⟨_, rfl, (.any _)⟩, rfl, ⟨⟨_, rfl, (.any _)⟩, rfl, ⟨⟨_, rfl, (.any _)⟩, rfl, ⟨⟨_, rfl, (.any _)⟩, rfl, ⟨⟨_, rfl, (.any _)⟩, rfl, ⟨⟨_, rfl, (.any _)⟩, rfl, ⟨⟨_, rfl, (.any _)⟩, rfl, ⟨⟨_, rfl, (.any _)⟩, rfl, ⟨⟨_, rfl, (.any _)⟩, rfl, ⟨⟨_, rfl, (.any _)⟩, rfl, ⟨⟨_, rfl, (.any _)⟩, rfl, ⟨⟨_, rfl, (.any _)⟩, rfl, ⟨⟨_, rfl, (.any _)⟩, rfl, ⟨⟨_, rfl, (.any _)⟩, rfl, ⟨⟨_, rfl, (.any _)⟩, rfl, ⟨⟨_, rfl, (.any _)⟩, rfl, ⟨⟨_, rfl, (.any _)⟩, rfl, ⟨⟨_, rfl, (.any _)⟩, rfl, ⟨⟨_, rfl, (.any _)⟩, rfl, ⟨⟨_, rfl, (.any _)⟩, rfl, ⟨⟨_, rfl, (.any _)⟩, rfl, ⟨⟨_, rfl, (.any _)⟩, rfl, ⟨⟨_, rfl, (.any _)⟩, rfl, trivial⟩⟩⟩⟩⟩⟩⟩⟩⟩⟩⟩⟩⟩⟩⟩⟩⟩⟩⟩⟩⟩⟩⟩⟩⟩⟩⟩⟩⟩⟩⟩⟩, ⟨⟨_, rfl, (.refl _)⟩, rfl, rfl, ⟨⟨_, rfl, (.refl _)⟩, rfl, rfl, trivial⟩⟩⟩⟩
              · have h129 := cond_neg c150 h129
                refine RegV.noS rfl rfl ?_
                refine RegV.noS rfl rfl ?_
                refine RegV.noS rfl rfl ?_
                refine RegV.noS rfl rfl ?_
                refine RegV.noS rfl rfl ?_
                refine RegV.noS rfl rfl ?_
                refine RegV.noS rfl rfl ?_
                refine RegV.noS rfl rfl ?_
                refine RegV.noS rfl rfl ?_
                refine RegV.noS rfl rfl ?_
                refine RegV.noS rfl rfl ?_
                refine RegV.noS rfl rfl ?_
                refine RegV.noS rfl rfl ?_
                refine RegV.noS rfl rfl ?_
                refine RegV.noS rfl rfl ?_
                refine RegV.noS rfl rfl ?_
                refine RegV.noS rfl rfl ?_
                refine RegV.noS rfl rfl ?_
                refine RegV.noS rfl rfl ?_
                refine RegV.noS rfl rfl ?_
                refine RegV.noS rfl rfl ?_
                refine RegV.noS rfl rfl ?_
                refine RegV.noS rfl rfl ?_
                refine RegV.noS rfl rfl ?_
                refine RegV.noS rfl rfl ?_
                refine RegV.noS rfl rfl ?_
                refine RegV.noS rfl rfl ?_
                refine RegV.p0 rfl rfl rfl ?_
                refine RegV.nil1 (by kernel_rfl) ?_
                refine AWc.cond rfl (fun hc => by cases hc) (fun _ => ?_)
                refine AWc.skip ?_
                exact ⟨(), h129, ⟨rfl, [], [], rfl, rfl, ⟨⟨_, rfl, (.refl _)⟩, rfl, ⟨⟨_, rfl, (.refl _)⟩, rfl, ⟨⟨_, rfl, (.refl _)⟩, rfl, ⟨⟨_, rfl, (.refl _)⟩, rfl, ⟨⟨_, rfl, (.refl _)⟩, rfl, ⟨⟨_, rfl, (.any _)⟩, rfl, ⟨⟨_, rfl, (.any _)⟩, rfl, ⟨⟨_, rfl, (.any _)⟩, rfl, ⟨⟨_, rfl, (.any _)⟩, rfl, ⟨⟨_, rfl, (.any _)⟩, rfl, ⟨⟨_, rfl, (.any _)⟩, rfl, ⟨⟨_, rfl, (.any _)⟩, rfl, ⟨⟨_, rfl, (.any _)⟩, rfl, ⟨⟨_, rfl, (.any _)⟩, rfl, ⟨⟨_, rfl, (.any _)⟩, rfl, ⟨⟨_, rfl, (.any _)⟩, rfl, ⟨⟨_, rfl, (.any _)⟩, rfl, ⟨⟨_, rfl, (.any _)⟩, rfl, ⟨⟨_, rfl, (.any _)⟩, rfl, ⟨⟨_, rfl, (.any _)⟩, rfl, ⟨⟨_, rfl, (.any _)⟩, rfl, ⟨⟨_, rfl, (.any _)⟩, rfl, ⟨⟨_, rfl, (.any _)⟩, rfl, ⟨⟨_, rfl, (.any _)⟩, rfl, ⟨⟨_, rfl, (.any _)⟩, rfl, ⟨⟨_, rfl, (.any _)⟩, rfl, ⟨⟨_, rfl, (.any _)⟩, rfl, ⟨⟨_, rfl, (.any _)⟩, rfl, ⟨⟨_, rfl, (.any _)⟩, rfl, ⟨⟨_, rfl, (.any _)⟩, rfl, ⟨⟨_, rfl, (.any _)⟩, rfl, ⟨⟨_, rfl, (.any _)⟩, rfl, trivial⟩⟩⟩⟩⟩⟩⟩⟩⟩⟩⟩⟩⟩⟩⟩⟩⟩⟩⟩⟩⟩⟩⟩⟩⟩⟩⟩⟩⟩⟩⟩⟩, ⟨⟨_, rfl, (.refl _)⟩, rfl, rfl, ⟨⟨_, rfl, (.refl _)⟩, rfl, rfl, trivial⟩⟩⟩⟩
            · rintro ⟨⟩ h129
              unfold f215_j186 at h129
              refine AWc.rg hmix rfl rfl ?_
              refine RegV.p0 rfl rfl rfl ?_
              refine RegV.p0 rfl rfl rfl ?_
              refine RegV.split (fun c189 => ?_) (fun c189 => ?_)
              · have h129 := cond_pos c189 h129
                refine RegV.noS rfl rfl ?_
                refine RegV.noS rfl rfl ?_
                refine RegV.noS rfl rfl ?_
                refine RegV.noS rfl rfl ?_
                refine RegV.noS rfl rfl ?_
                refine RegV.noS rfl rfl ?_
                refine RegV.noS rfl rfl ?_
                refine RegV.noS rfl rfl ?_
                refine RegV.noS rfl rfl ?_
                refine RegV.noS rfl rfl ?_
                refine RegV.noS rfl rfl ?_
                refine RegV.noS rfl rfl ?_
                refine RegV.noS rfl rfl ?_
                refine RegV.noS rfl rfl ?_
                refine RegV.noS rfl rfl ?_
                refine RegV.noS rfl rfl ?_
                refine RegV.noS rfl rfl ?_
                refine RegV.noS rfl rfl ?_
                refine RegV.noS rfl rfl ?_
                refine RegV.noS rfl rfl ?_
                refine RegV.noS rfl rfl ?_
                refine RegV.noS rfl rfl ?_
                refine RegV.noS rfl rfl ?_
                refine RegV.noS rfl rfl ?_
                refine RegV.noS rfl rfl ?_
                refine RegV.noS rfl rfl ?_
                refine RegV.noS rfl rfl ?_
                refine RegV.noS rfl rfl ?_
                refine RegV.noS rfl rfl ?_
                refine RegV.p0 rfl rfl rfl ?_
                refine RegV.p0 rfl rfl rfl ?_
                refine RegV.nil1 (by kernel_rfl) ?_
                refine AWc.rg hmix rfl rfl ?_
                refine RegV.p0 rfl rfl rfl ?_
                refine RegV.p0 (v := (.d (.int .i64 (IntKind.i64.wrap (y129_2 + (1 : Int)))))) rfl rfl rfl ?_
                refine RegV.p0 rfl rfl rfl ?_
                refine RegV.nil0 ?_
                exact ⟨(true, (IntKind.i64.wrap (y129_2 + (1 : Int)))), h129, ⟨rfl, [], [], rfl, rfl, ⟨⟨_, rfl, (.refl _)⟩, rfl, ⟨⟨_, rfl, (.refl _)⟩, rfl, ⟨⟨_, rfl, (.refl _)⟩, rfl, ⟨⟨_, rfl, (.refl _)⟩, rfl, ⟨⟨_, rfl, (.refl _)⟩, rfl, trivial⟩⟩⟩⟩⟩, ⟨⟨_, rfl, (.refl _)⟩, rfl, rfl, ⟨⟨_, rfl, (.refl _)⟩, rfl, rfl, trivial⟩⟩⟩⟩
              · have h129 := cond_neg c189 h129
                refine RegV.p0 rfl rfl rfl ?_
                refine RegV.p0 rfl rfl rfl ?_
                obtain ⟨b192, h129⟩ := gd_some h129
                refine RegV.iad (xs := j96_1) (e := TSpot.enc) rfl rfl rfl rfl (fun _ => rfl) b192 rfl ?_
                refine RegV.p1 (v := (.d (TSpot.enc (rd j96_1 y129_2)))) rfl rfl rfl rfl rfl ?_
                refine RegV.ld (v := (.d (.agg [(.int .u64 r101.1), (.int .i64 r101.2)]))) (H' := [(1, (.cells [(.d (.int .u64 r101.1)), (.d (.int .i64 r101.2))])), (0, (.tok ((List.map TSpot.enc j96_1).length * 2)))]) rfl rfl (Nat.le_of_ble_eq_true rfl) rfl rfl rfl rfl rfl ?_
                refine RegV.agq (v := (decide ((rd j96_1 y129_2).fOffset = r101.1) && (decide ((rd j96_1 y129_2).fAt = r101.2) && true))) rfl rfl rfl rfl rfl rfl ?_
                refine RegV.p0 rfl rfl rfl ?_
                refine RegV.split (fun c196 => ?_) (fun c196 => ?_)
                · have h129 := cond_pos c196 h129
                  refine RegV.p0 (v := (.ptr 1 0)) rfl rfl rfl ?_
                  refine RegV.ld (v := (.d (.int .u64 r101.1))) (H' := [(1, (.cells [(.d (.int .u64 r101.1)), (.d (.int .i64 r101.2))])), (0, (.tok ((List.map TSpot.enc j96_1).length * 2)))]) rfl rfl trivial rfl rfl rfl rfl rfl ?_
                  refine RegV.p0 rfl rfl rfl ?_
                  refine RegV.p0 (v := (.d (.bool (decide (r101.1 ≤ a2))))) rfl rfl rfl ?_
                  refine RegV.p0 rfl rfl rfl ?_
                  refine RegV.p0 rfl rfl rfl ?_
                  refine RegV.split (fun c202 => ?_) (fun c202 => ?_)
                  · have h129 := cond_pos c202 h129
                    refine RegV.p0 rfl rfl rfl ?_
                    refine RegV.p0 (v := (.d (.int .i64 (IntKind.i64.wrap (y129_2 + (1 : Int)))))) rfl rfl rfl ?_
                    refine RegV.p0 rfl rfl rfl ?_
                    refine RegV.len (xs := j96_1) (e := TSpot.enc) rfl rfl rfl rfl ?_
                    refine RegV.p0 (v := (.d (.bool (decide ((IntKind.i64.wrap (y129_2 + (1 : Int))) = ((j96_1.length : Nat) : Int)))))) rfl rfl rfl ?_
                    refine RegV.p0 rfl rfl rfl ?_
                    refine RegV.split (fun c208 => ?_) (fun c208 => ?_)
                    · have h129 := cond_pos c208 h129
                      refine RegV.noS rfl rfl ?_
                      refine RegV.noS rfl rfl ?_
                      refine RegV.noS rfl rfl ?_
                      refine RegV.noS rfl rfl ?_
                      refine RegV.noS rfl rfl ?_
                      refine RegV.noS rfl rfl ?_
                      refine RegV.noS rfl rfl ?_
                      refine RegV.noS rfl rfl ?_
                      refine RegV.p0 rfl rfl rfl ?_
                      refine RegV.p0 rfl rfl rfl ?_
                      refine RegV.p0 rfl rfl rfl ?_
                      refine RegV.p0 rfl rfl rfl ?_
                      refine RegV.nil1 (by kernel_rfl) ?_
                      refine AWc.rg hmix rfl rfl ?_
                      refine RegV.p0 rfl rfl rfl ?_
                      refine RegV.p0 (v := (.d (.int .i64 (IntKind.i64.wrap (y129_2 + (1 : Int)))))) rfl rfl rfl ?_
                      refine RegV.p0 rfl rfl rfl ?_
                      refine RegV.nil0 ?_
                      exact ⟨(true, (IntKind.i64.wrap (y129_2 + (1 : Int)))), h129, ⟨rfl, [], [], rfl, rfl, ⟨⟨_, rfl, (.refl _)⟩, rfl, ⟨⟨_, rfl, (.refl _)⟩, rfl, ⟨⟨_, rfl, (.refl _)⟩, rfl, ⟨⟨_, rfl, (.refl _)⟩, rfl, ⟨⟨_, rfl, (.refl _)⟩, rfl, trivial⟩⟩⟩⟩⟩, ⟨⟨_, rfl, (.refl _)⟩, rfl, rfl, ⟨⟨_, rfl, (.refl _)⟩, rfl, rfl, trivial⟩⟩⟩⟩
                    · have h129 := cond_neg c208 h129
                      refine RegV.p0 rfl rfl rfl ?_
                      refine RegV.p0 rfl rfl rfl ?_
                      refine RegV.p0 (v := (.d (.int .i64 (IntKind.i64.wrap (y129_2 + (1 : Int)))))) rfl rfl rfl ?_
                      obtain ⟨b212, h129⟩ := gd_some h129
                      refine RegV.iad (xs := j96_1) (e := TSpot.enc) rfl rfl rfl rfl (fun _ => rfl) b212 rfl ?_
                      refine RegV.p0 (v := (.cp (TSpot.enc (rd j96_1 (IntKind.i64.wrap (y129_2 + (1 : Int))))) 0)) rfl rfl rfl ?_
                      refine RegV.p0 (v := (.d (.int .u64 (rd j96_1 (IntKind.i64.wrap (y129_2 + (1 : Int)))).fOffset))) rfl rfl rfl ?_
                      refine RegV.p0 rfl rfl rfl ?_
                      refine RegV.p0 (v := (.d (.bool (decide ((rd j96_1 (IntKind.i64.wrap (y129_2 + (1 : Int)))).fOffset > a2))))) rfl rfl rfl ?_
                      refine RegV.p0 rfl rfl rfl ?_
                      refine RegV.p0 rfl rfl rfl ?_
                      refine RegV.p0 rfl rfl rfl ?_
                      refine RegV.p0 rfl rfl rfl ?_
                      refine RegV.nil1 (by kernel_rfl) ?_
                      refine AWc.rg hmix rfl rfl ?_
                      refine RegV.p0 rfl rfl rfl ?_
                      refine RegV.p0 (v := (.d (.int .i64 (IntKind.i64.wrap (y129_2 + (1 : Int)))))) rfl rfl rfl ?_
                      refine RegV.p0 rfl rfl rfl ?_
                      refine RegV.nil0 ?_
                      exact ⟨((decide ((rd j96_1 (IntKind.i64.wrap (y129_2 + (1 : Int)))).fOffset > a2)), (IntKind.i64.wrap (y129_2 + (1 : Int)))), h129, ⟨rfl, [], [], rfl, rfl, ⟨⟨_, rfl, (.refl _)⟩, rfl, ⟨⟨_, rfl, (.refl _)⟩, rfl, ⟨⟨_, rfl, (.refl _)⟩, rfl, ⟨⟨_, rfl, (.refl _)⟩, rfl, ⟨⟨_, rfl, (.refl _)⟩, rfl, trivial⟩⟩⟩⟩⟩, ⟨⟨_, rfl, (.refl _)⟩, rfl, rfl, ⟨⟨_, rfl, (.refl _)⟩, rfl, rfl, trivial⟩⟩⟩⟩
                  · have h129 := cond_neg c202 h129
                    refine RegV.noS rfl rfl ?_
                    refine RegV.noS rfl rfl ?_
                    refine RegV.noS rfl rfl ?_
                    refine RegV.noS rfl rfl ?_
                    refine RegV.noS rfl rfl ?_
                    refine RegV.noS rfl rfl ?_
                    refine RegV.noS rfl rfl ?_
                    refine RegV.noS rfl rfl ?_
                    refine RegV.noS rfl rfl ?_
                    refine RegV.noS rfl rfl ?_
                    refine RegV.noS rfl rfl ?_
                    refine RegV.noS rfl rfl ?_
                    refine RegV.noS rfl rfl ?_
                    refine RegV.noS rfl rfl ?_
                    refine RegV.noS rfl rfl ?_
                    refine RegV.p0 rfl rfl rfl ?_
                    refine RegV.p0 rfl rfl rfl ?_
                    refine RegV.p0 rfl rfl rfl ?_
                    refine RegV.nil1 (by kernel_rfl) ?_
                    refine AWc.rg hmix rfl rfl ?_
                    refine RegV.p0 rfl rfl rfl ?_
                    refine RegV.p0 (v := (.d (.int .i64 (IntKind.i64.wrap (y129_2 + (1 : Int)))))) rfl rfl rfl ?_
                    refine RegV.p0 rfl rfl rfl ?_
                    refine RegV.nil0 ?_
                    exact ⟨(false, (IntKind.i64.wrap (y129_2 + (1 : Int)))), h129, ⟨rfl, [], [], rfl, rfl, ⟨⟨_, rfl, (.refl _)⟩, rfl, ⟨⟨_, rfl, (.refl _)⟩, rfl, ⟨⟨_, rfl, (.refl _)⟩, rfl, ⟨⟨_, rfl, (.refl _)⟩, rfl, ⟨⟨_, rfl, (.refl _)⟩, rfl, trivial⟩⟩⟩⟩⟩, ⟨⟨_, rfl, (.refl _)⟩, rfl, rfl, ⟨⟨_, rfl, (.refl _)⟩, rfl, rfl, trivial⟩⟩⟩⟩
                · have h129 := cond_neg c196 h129
                  refine RegV.noS rfl rfl ?_
                  refine RegV.noS rfl rfl ?_
                  refine RegV.noS rfl rfl ?_
                  refine RegV.noS rfl rfl ?_
                  refine RegV.p0 rfl rfl rfl ?_
                  refine RegV.p0 rfl rfl rfl ?_
                  refine RegV.noS rfl rfl ?_
                  refine RegV.noS rfl rfl ?_
                  refine RegV.noS rfl rfl ?_
                  refine RegV.noS rfl rfl ?_
                  refine RegV.noS rfl rfl ?_
                  refine RegV.noS rfl rfl ?_
                  refine RegV.noS rfl rfl ?_
                  refine RegV.noS rfl rfl ?_
                  refine RegV.noS rfl rfl ?_
                  refine RegV.noS rfl rfl ?_
                  refine RegV.noS rfl rfl ?_
                  refine RegV.noS rfl rfl ?_
                  refine RegV.noS rfl rfl ?_
                  refine RegV.noS rfl rfl ?_
                  refine RegV.noS rfl rfl ?_
                  refine RegV.p0 rfl rfl rfl ?_
                  refine RegV.p0 rfl rfl rfl ?_
                  refine RegV.p0 rfl rfl rfl ?_
                  refine RegV.nil1 (by kernel_rfl) ?_
                  refine AWc.rg hmix rfl rfl ?_
                  refine RegV.p0 rfl rfl rfl ?_
                  refine RegV.p0 (v := (.d (.int .i64 (IntKind.i64.wrap (y129_2 + (1 : Int)))))) rfl rfl rfl ?_
                  refine RegV.p0 rfl rfl rfl ?_
                  refine RegV.nil0 ?_
                  exact ⟨(false, (IntKind.i64.wrap (y129_2 + (1 : Int)))), h129, ⟨rfl, [], [], rfl, rfl, ⟨⟨_, rfl, (.refl _)⟩, rfl, ⟨⟨_, rfl, (.refl _)⟩, rfl, ⟨⟨_, rfl, (.refl _)⟩, rfl, ⟨⟨_, rfl, (.refl _)⟩, rfl, ⟨⟨_, rfl, (.refl _)⟩, rfl, trivial⟩⟩⟩⟩⟩, ⟨⟨_, rfl, (.refl _)⟩, rfl, rfl, ⟨⟨_, rfl, (.refl _)⟩, rfl, rfl, trivial⟩⟩⟩⟩
          · have h129 := cond_neg c139 h129
            cases h129
            dsimp only at h
            refine AWc.exit ?_
            refine inBlk_eq ?_
            exact ⟨y129_1, h, ⟨rfl, [], [], rfl, rfl, ⟨⟨_, rfl, (.refl _)⟩, rfl, ⟨⟨_, rfl, (.refl _)⟩, rfl, trivial⟩⟩, ⟨⟨_, rfl, (.refl _)⟩, rfl, rfl, trivial⟩⟩⟩
        · intro j226_1 h
          unfold f215_j226 at h
          refine AWc.seq ?_
          refine AWc.rg hmix rfl rfl ?_
          refine RegV.p0 rfl rfl rfl ?_
          refine RegV.p0 rfl rfl rfl ?_
          refine RegV.split (fun c230 => ?_) (fun c230 => ?_)
          · have h := cond_pos c230 h
            refine RegV.p0 rfl rfl rfl ?_
            obtain ⟨r232, e232, h⟩ := bind_some h
            refine RegV.call0 (F200 hmix hc.2.2.2.2 e232) rfl rfl rfl rfl (.cons (.sl rfl) .nil) rfl ?_
            refine RegV.p0 rfl rfl rfl ?_
            refine RegV.p0 rfl rfl rfl ?_
            refine RegV.nil0 ?_
            have hr := Option.some.inj h
            subst hr
            exact AWc.ret (canQ (N := 148) (k := 0) (l' := [(6, (.d (.bool r232)))]) (H' := []) rfl ⟨rfl, [], [], rfl, rfl, ⟨⟨_, rfl, (.refl _)⟩, rfl, trivial⟩,  trivial⟩ (doneA (.inr rfl) rfl ⟨trivial, trivial⟩ (.refl _) hasNil))
          · have h := cond_neg c230 h
            refine RegV.noS rfl rfl ?_
            refine RegV.noS rfl rfl ?_
            refine RegV.p0 rfl rfl rfl ?_
            refine RegV.p0 rfl rfl rfl ?_
            refine RegV.nil0 ?_
            have hr := Option.some.inj h
            subst hr
            exact AWc.ret (canQ (N := 148) (k := 0) (l' := [(6, (.d (.bool false)))]) (H' := []) rfl ⟨rfl, [], [], rfl, rfl, ⟨⟨_, rfl, (.refl _)⟩, rfl, trivial⟩,  trivial⟩ (doneA (.inr rfl) rfl ⟨trivial, trivial⟩ (.refl _) hasNil))
end Go.Proofs.Abs
