/- Written by gen.py: functions of the program as Lean functions, and that the code comes to them. -/
import Derived.Test.YtojmpoboidomeaaAbsxf
set_option linter.unusedVariables false
set_option linter.unusedSimpArgs false
set_option maxRecDepth 100000
set_option maxHeartbeats 4000000
namespace Go.Proofs.Abs
open Go
structure TPair where
  fKey : (List UInt8)
  fValue : (List UInt8)
  fGone : Bool
instance : Inhabited TPair := ⟨⟨default, default, default⟩⟩
instance : DecidableEq TPair := fun a b => decidable_of_iff (a.fKey = b.fKey ∧ a.fValue = b.fValue ∧ a.fGone = b.fGone ∧ True) ⟨fun h => by cases a; cases b; simp_all, fun h => by subst h; simp⟩
def TPair.enc (x : TPair) : D := .agg [.str x.fKey, .sl (List.map byteD x.fValue), .bool x.fGone]
theorem TPair.ok : EncOK TPair.enc 3 true := ⟨fun _ => rfl, fun _ c hc => by simp only [TPair.enc, D.cells, List.mem_cons, List.not_mem_nil, or_false] at hc; rcases hc with rfl | rfl | rfl <;> rfl, fun _ => rfl⟩
def TPair.wf (x : TPair) : Prop := True ∧ (∀ e0 ∈ x.fValue, True) ∧ True ∧ True
def TPair.sz (x : TPair) : Nat := ((x.fKey.length + 1) + (((x.fValue.map (fun _ => 1)).sum + 1) + (1 + 0))) + 1
/-- courant/courantlaw22.few -/
def C70 (N : Nat → Nat) : AFunc := { n := 37, params := 1, res := [.tmp 2], body :=
 (.seq (.region false [⟨(some 2), .mv (.k (.d (.bool false))), none, []⟩])
  (.seq (.region false [⟨(some 3), .mv (.k (.d (.int .i64 0))), none, []⟩])
   (.seq (.seq (.region false [⟨(some 4), .mv (.k (.d (.int .i64 0))), none, []⟩])
     (.block 0 (.loop (.seq (.seq (.region false [⟨(some 5), .mv (.t 4), none, []⟩,
          ⟨(some 6), .mv (.t 0), none, []⟩,
          ⟨(some 7), .len (.t 6), none, [1]⟩,
          ⟨(some 8), .bin .lss (.t 5) (.t 7), none, [0, 2]⟩,
          ⟨(some 9), .mv (.t 8), none, [3]⟩,
          ⟨(some 10), .mv (.t 4), (some (9, true)), [4]⟩,
          ⟨(some 11), .bin .lss (.t 10) (.k (.d (.int .i64 200))), (some (9, true)), [5, 4]⟩,
          ⟨(some 12), .pick (.t 9) (.t 11) (.k (.d (.bool false))), none, [4, 6]⟩])
         (.cond (.t 12) (.skip)
          (.exit 0)))
        (.seq (.block 1 (.region true [⟨(some 15), .mv (.t 3), none, []⟩,
           ⟨(some 16), .mv (.t 0), none, []⟩,
           ⟨(some 17), .mv (.t 4), none, []⟩,
           ⟨(some 18), .iaddr (.t 16) (.t 17) 3, none, [1, 2]⟩,
           ⟨(some 19), .faddr (.t 18) 0, none, [3]⟩,
           ⟨(some 20), .load (.t 19) 1 false, none, [4]⟩,
           ⟨(some 21), .slen (.t 20), none, [5]⟩,
           ⟨(some 22), .bin .add (.t 15) (.t 21), none, [0, 6]⟩,
           ⟨(some 23), .mv (.t 0), none, []⟩,
           ⟨(some 24), .mv (.t 4), none, []⟩,
           ⟨(some 25), .iaddr (.t 23) (.t 24) 3, none, [8, 9]⟩,
           ⟨(some 26), .faddr (.t 25) 1, none, [10]⟩,
           ⟨(some 27), .load (.t 26) 1 false, none, [11]⟩,
           ⟨(some 28), .len (.t 27), none, [12]⟩,
           ⟨(some 29), .bin .add (.t 22) (.t 28), none, [7, 13]⟩,
           ⟨(some 3), .mv (.t 29), none, [14, 0, 1, 2, 3, 4, 5, 6, 7, 8, 9, 10, 11, 12, 13]⟩]))
         (.region false [⟨(some 13), .mv (.t 4), none, []⟩,
          ⟨(some 14), .bin .add (.t 13) (.k (.d (.int .i64 1))), none, [0]⟩,
          ⟨(some 4), .mv (.t 14), none, [1, 0]⟩]))))))
    (.seq (.region false [⟨(some 30), .mv (.t 0), none, []⟩,
      ⟨(some 31), .len (.t 30), none, [0]⟩,
      ⟨(some 32), .bin .lss (.t 31) (.k (.d (.int .i64 200))), none, [1]⟩,
      ⟨(some 33), .mv (.t 32), none, [2]⟩,
      ⟨(some 34), .mv (.t 3), (some (33, true)), [3]⟩,
      ⟨(some 35), .bin .lss (.t 34) (.k (.d (.int .i64 20000))), (some (33, true)), [4, 3]⟩,
      ⟨(some 36), .pick (.t 33) (.t 35) (.k (.d (.bool false))), none, [3, 5]⟩,
      ⟨(some 2), .mv (.t 36), none, [6, 3, 0, 1, 2, 4, 5]⟩])
     .ret)))) }
def HC70 (P : Program) (N : Nat → Nat) : Prop := HasF P (N 70) (C70 N)
def f70_j56 (k : Nat) (a0 : (List TPair)) (j56_1 : Int) : Option Bool := cond (decide (((a0.length : Nat) : Int) < (200 : Int))) (some (decide (j56_1 < (20000 : Int)))) (some false)
def f70_l14 (a0 : (List TPair)) : Nat → Int → Int → Option (LR2 Int Unit Bool)
  | 0, _, _ => none
  | k + 1, y14_1, y14_2 => cond (decide (y14_2 < ((a0.length : Nat) : Int))) (cond (decide (y14_2 < (200 : Int))) (gd (0 ≤ y14_2 ∧ y14_2 < ((a0.length : Nat) : Int)) (gd (0 ≤ y14_2 ∧ y14_2 < ((a0.length : Nat) : Int)) (f70_l14 a0 k (IntKind.i64.wrap ((IntKind.i64.wrap (y14_1 + ((((rd a0 y14_2).fKey).length : Nat) : Int))) + ((((rd a0 y14_2).fValue).length : Nat) : Int))) (IntKind.i64.wrap (y14_2 + (1 : Int)))))) (some (.b0 y14_1))) (some (.b0 y14_1))
def f70 (k : Nat) (a0 : (List TPair)) : Option Bool := (f70_l14 a0 k (0 : Int) (0 : Int)).bind fun o14 => (match o14 with | .b0 x14_1 => f70_j56 k a0 x14_1 | _ => none)
theorem F70 {P : Program} {N : Nat → Nat} (hmix : P.follows .mixedOrders = true) (hc : HC70 P N) {k : Nat} {a0 : (List TPair)} {r : Bool} (h : f70 k a0 = some r) :
    ACalls P (N 70) [(.d (.sl (List.map TPair.enc a0)))] [] (.d (.bool r)) [] := by
  refine acalls_canon (F := C70 N) hc 0 0 rfl ?_
  unfold f70 at h
  dsimp only [C70, startL]
  refine AWc.seq ?_
  refine AWc.rg hmix rfl rfl ?_
  refine RegV.p0 rfl rfl rfl ?_
  refine RegV.nil0 ?_
  refine AWc.seq ?_
  refine AWc.rg hmix rfl rfl ?_
  refine RegV.p0 rfl rfl rfl ?_
  refine RegV.nil0 ?_
  refine AWc.seqS (N := 37) 0 (fun (z : Int) => [(0, (.d (.sl (List.map TPair.enc a0)))), (3, (.d (.int .i64 z)))]) (fun z => []) (fun z => f70_j56 k a0 z = some r) rfl_le ?_ ?_
  · refine AWc.seq ?_
    refine AWc.rg hmix rfl rfl ?_
    refine RegV.p0 rfl rfl rfl ?_
    refine RegV.nil0 ?_
    obtain ⟨o14, h14, h⟩ := bind_some h
    refine AWc.block ?_
    refine AWc.loopK (N := 37) 0 (fun (x : (Int × Int)) => [(0, (.d (.sl (List.map TPair.enc a0)))), (3, (.d (.int .i64 x.1))), (4, (.d (.int .i64 x.2)))]) (fun x => []) (fun k x => f70_l14 a0 k x.1 x.2 = some o14) k ((0 : Int), (0 : Int)) rfl_le (fun x hx => by cases hx) h14 ⟨rfl, [], [], rfl, rfl, ⟨⟨_, rfl, (.refl _)⟩, rfl, ⟨⟨_, rfl, (.refl _)⟩, rfl, ⟨⟨_, rfl, (.refl _)⟩, rfl, trivial⟩⟩⟩,  trivial⟩ ?_
    clear h14
    intro k
    rintro ⟨y14_1, y14_2⟩ h14
    dsimp only at h14 ⊢
    rw [f70_l14] at h14
    refine AWc.seq ?_
    refine AWc.seq ?_
    refine AWc.rg hmix rfl rfl ?_
    refine RegV.p0 rfl rfl rfl ?_
    refine RegV.p0 rfl rfl rfl ?_
    refine RegV.len (xs := a0) (e := TPair.enc) rfl rfl rfl rfl ?_
    refine RegV.p0 (v := (.d (.bool (decide (y14_2 < ((a0.length : Nat) : Int)))))) rfl rfl rfl ?_
    refine RegV.p0 rfl rfl rfl ?_
    refine RegV.split (fun c24 => ?_) (fun c24 => ?_)
    · have h14 := cond_pos c24 h14
      refine RegV.p0 rfl rfl rfl ?_
      refine RegV.p0 (v := (.d (.bool (decide (y14_2 < (200 : Int)))))) rfl rfl rfl ?_
      refine RegV.p0 rfl rfl rfl ?_
      refine RegV.nil0 ?_
      refine AWc.cond rfl (fun c28 => ?_) (fun c28 => ?_)
      · have h14 := cond_pos c28 h14
        refine AWc.skip ?_
        refine AWc.seq ?_
        refine AWc.block ?_
        refine AWc.rg hmix rfl rfl ?_
        refine RegV.p0 rfl rfl rfl ?_
        refine RegV.p0 rfl rfl rfl ?_
        refine RegV.p0 rfl rfl rfl ?_
        obtain ⟨b38, h14⟩ := gd_some h14
        refine RegV.iad (xs := a0) (e := TPair.enc) rfl rfl rfl rfl (fun _ => rfl) b38 rfl ?_
        refine RegV.p0 (v := (.cp (TPair.enc (rd a0 y14_2)) 0)) rfl rfl rfl ?_
        refine RegV.p0 (v := (.d (.str (rd a0 y14_2).fKey))) rfl rfl rfl ?_
        refine RegV.p0 (v := (.d (.int .i64 ((((rd a0 y14_2).fKey).length : Nat) : Int)))) rfl rfl rfl ?_
        refine RegV.p0 (v := (.d (.int .i64 (IntKind.i64.wrap (y14_1 + ((((rd a0 y14_2).fKey).length : Nat) : Int)))))) rfl rfl rfl ?_
        refine RegV.p0 rfl rfl rfl ?_
        refine RegV.p0 rfl rfl rfl ?_
        obtain ⟨b45, h14⟩ := gd_some h14
        refine RegV.iad (xs := a0) (e := TPair.enc) rfl rfl rfl rfl (fun _ => rfl) b45 rfl ?_
        refine RegV.p0 (v := (.cp (TPair.enc (rd a0 y14_2)) 1)) rfl rfl rfl ?_
        refine RegV.p0 (v := (.d (.sl (List.map byteD (rd a0 y14_2).fValue)))) rfl rfl rfl ?_
        refine RegV.len (xs := (rd a0 y14_2).fValue) (e := byteD) rfl rfl rfl rfl ?_
        refine RegV.p0 (v := (.d (.int .i64 (IntKind.i64.wrap ((IntKind.i64.wrap (y14_1 + ((((rd a0 y14_2).fKey).length : Nat) : Int))) + ((((rd a0 y14_2).fValue).length : Nat) : Int)))))) rfl rfl rfl ?_
        refine RegV.p0 rfl rfl rfl ?_
        refine RegV.nil1 (by kernel_rfl) ?_
        refine AWc.rg hmix rfl rfl ?_
        refine RegV.p0 rfl rfl rfl ?_
        refine RegV.p0 (v := (.d (.int .i64 (IntKind.i64.wrap (y14_2 + (1 : Int)))))) rfl rfl rfl ?_
        refine RegV.p0 rfl rfl rfl ?_
        refine RegV.nil0 ?_
        exact ⟨((IntKind.i64.wrap ((IntKind.i64.wrap (y14_1 + ((((rd a0 y14_2).fKey).length : Nat) : Int))) + ((((rd a0 y14_2).fValue).length : Nat) : Int))), (IntKind.i64.wrap (y14_2 + (1 : Int)))), h14, ⟨rfl, [], [], rfl, rfl, ⟨⟨_, rfl, (.refl _)⟩, rfl, ⟨⟨_, rfl, (.refl _)⟩, rfl, ⟨⟨_, rfl, (.refl _)⟩, rfl, trivial⟩⟩⟩,  trivial⟩⟩
      · have h14 := cond_neg c28 h14
        cases h14
        dsimp only at h
        refine AWc.exit ?_
        refine inBlk_eq ?_
        exact ⟨y14_1, h, ⟨rfl, [], [], rfl, rfl, ⟨⟨_, rfl, (.refl _)⟩, rfl, ⟨⟨_, rfl, (.refl _)⟩, rfl, trivial⟩⟩,  trivial⟩⟩
    · have h14 := cond_neg c24 h14
      refine RegV.noS rfl rfl ?_
      refine RegV.noS rfl rfl ?_
      refine RegV.p0 rfl rfl rfl ?_
      refine RegV.nil0 ?_
      refine AWc.cond rfl (fun hc => by cases hc) (fun _ => ?_)
      cases h14
      dsimp only at h
      refine AWc.exit ?_
      refine inBlk_eq ?_
      exact ⟨y14_1, h, ⟨rfl, [], [], rfl, rfl, ⟨⟨_, rfl, (.refl _)⟩, rfl, ⟨⟨_, rfl, (.refl _)⟩, rfl, trivial⟩⟩,  trivial⟩⟩
  · intro j56_1 h
    unfold f70_j56 at h
    refine AWc.seq ?_
    refine AWc.rg hmix rfl rfl ?_
    refine RegV.p0 rfl rfl rfl ?_
    refine RegV.len (xs := a0) (e := TPair.enc) rfl rfl rfl rfl ?_
    refine RegV.p0 (v := (.d (.bool (decide (((a0.length : Nat) : Int) < (200 : Int)))))) rfl rfl rfl ?_
    refine RegV.p0 rfl rfl rfl ?_
    refine RegV.split (fun c62 => ?_) (fun c62 => ?_)
    · have h := cond_pos c62 h
      refine RegV.p0 rfl rfl rfl ?_
      refine RegV.p0 (v := (.d (.bool (decide (j56_1 < (20000 : Int)))))) rfl rfl rfl ?_
      refine RegV.p0 rfl rfl rfl ?_
      refine RegV.p0 rfl rfl rfl ?_
      refine RegV.nil0 ?_
      have hr := Option.some.inj h
      subst hr
      exact AWc.ret (canQ (N := 37) (k := 0) (l' := [(2, (.d (.bool (decide (j56_1 < (20000 : Int))))))]) (H' := []) rfl ⟨rfl, [], [], rfl, rfl, ⟨⟨_, rfl, (.refl _)⟩, rfl, trivial⟩,  trivial⟩ (doneA (.inr rfl) rfl ⟨trivial, trivial⟩ (.refl _) hasNil))
    · have h := cond_neg c62 h
      refine RegV.noS rfl rfl ?_
      refine RegV.noS rfl rfl ?_
      refine RegV.p0 rfl rfl rfl ?_
      refine RegV.p0 rfl rfl rfl ?_
      refine RegV.nil0 ?_
      have hr := Option.some.inj h
      subst hr
      exact AWc.ret (canQ (N := 37) (k := 0) (l' := [(2, (.d (.bool false)))]) (H' := []) rfl ⟨rfl, [], [], rfl, rfl, ⟨⟨_, rfl, (.refl _)⟩, rfl, trivial⟩,  trivial⟩ (doneA (.inr rfl) rfl ⟨trivial, trivial⟩ (.refl _) hasNil))
/-- slices.Clone[[]byte,byte] -/
def C87 (N : Nat → Nat) : AFunc := { n := 8, params := 1, res := [.tmp 2], body :=
 (.seq (.region false [⟨(some 2), .mv (.k .nils), none, []⟩])
  (.seq (.seq (.region false [⟨(some 3), .mv (.t 0), none, []⟩,
     ⟨(some 4), .nileq 0 false (.t 3) (.k .nils), none, [0]⟩])
    (.cond (.t 4) (.seq (.region false [⟨(some 2), .mv (.k .nils), none, []⟩])
      .ret)
     (.skip)))
   (.seq (.region false [⟨(some 5), .bslice 0 1 [(.int .u8 0)] [], none, []⟩,
     ⟨(some 6), .mv (.t 0), none, []⟩,
     ⟨(some 7), .app (.t 5) (.t 6) 1 1 [(.int .u8 0)], none, [0, 1]⟩,
     ⟨(some 2), .mv (.t 7), none, [2, 0, 1]⟩])
    .ret))) }
def HC87 (P : Program) (N : Nat → Nat) : Prop := HasF P (N 87) (C87 N)
def f87 (k : Nat) (a0 : List UInt8) : Option (List UInt8) := gd (a0.length * 2 * 1 ≤ 281474976710656) (some a0)
theorem F87 {P : Program} {N : Nat → Nat} (hmix : P.follows .mixedOrders = true) (hc : HC87 P N) {k : Nat} {a0 r : List UInt8} (h : f87 k a0 = some r) :
    ACalls P (N 87) [(.d (.sl (List.map byteD a0)))] [] (.ap 0 1 (List.map byteD r)) [(0, (.tok ((List.map byteD r).length * 1)))] := by
  unfold f87 at h
  obtain ⟨b, h⟩ := gd_some h
  cases h
  exact clone_gen hmix byteD_ok hc rfl rfl b
/-- slices.Values[[]courant/api.Pair,courant/api.Pair] -/
def C100 (N : Nat → Nat) : AFunc := { n := 4, params := 1, res := [.tmp 2], body :=
 (.seq (.region false [⟨(some 1), .box (.t 0), none, []⟩,
   ⟨(some 2), .mv (.k (.d .nilf)), none, []⟩])
  (.seq (.region false [⟨(some 3), .mkfn (N 113) [(.t 1)], none, []⟩,
    ⟨(some 2), .mv (.t 3), none, [0]⟩])
   .ret)) }
def HC100 (P : Program) (N : Nat → Nat) : Prop := HasF P (N 100) (C100 N)
def f100 (k : Nat) (a0 : (List TPair)) : Option Unit := some ()
theorem F100 {P : Program} {N : Nat → Nat} (hmix : P.follows .mixedOrders = true) (hc : HC100 P N) {k : Nat} {a0 : (List TPair)} {r : Unit} (h : f100 k a0 = some r) :
    ACalls P (N 100) [(.d (.sl (List.map TPair.enc a0)))] [] (.fn (N 113) [(.ptr 0 0)]) [(0, (.cells [(.d (.sl (List.map TPair.enc a0)))]))] := by
  refine acalls_canon (F := C100 N) hc 0 1 rfl ?_
  unfold f100 at h
  dsimp only [C100, startL]
  refine AWc.seq ?_
  refine AWc.rg hmix rfl rfl ?_
  refine RegV.evS (own := false) (v := (.ptr 0 0)) (H' := [(0, (.cells [(.d (.sl (List.map TPair.enc a0)))]))]) (c' := 1) rfl rfl trivial rfl rfl rfl rfl rfl rfl ?_
  refine RegV.p0 rfl rfl rfl ?_
  refine RegV.nil0 ?_
  refine AWc.seq ?_
  refine AWc.rg hmix rfl rfl ?_
  refine RegV.p0 (v := (.fn (N 113) [(.ptr 0 0)])) rfl rfl rfl ?_
  refine RegV.p0 rfl rfl rfl ?_
  refine RegV.nil0 ?_
  have hr := Option.some.inj h
  subst hr
  exact AWc.ret (canQ (N := 4) (k := 1) (l' := [(2, (.fn (N 113) [(.ptr 0 0)]))]) (H' := [(0, (.cells [(.d (.sl (List.map TPair.enc a0)))]))]) rfl ⟨rfl, [], [], rfl, rfl, ⟨⟨_, rfl, (.refl _)⟩, rfl, trivial⟩, ⟨⟨_, rfl, (.refl _)⟩, rfl, rfl, trivial⟩⟩ (doneA (.inr rfl) rfl ⟨trivial, trivial⟩ (.refl _) (hasCons rfl hasNil)))
/-- courant/keyed.place -/
def C101 (N : Nat → Nat) : AFunc := { n := 38, params := 2, res := [.tmp 4, .tmp 5], body :=
 (.seq (.region false [⟨(some 4), .mv (.k (.d (.int .i64 0))), none, []⟩,
   ⟨(some 5), .mv (.k (.d (.bool false))), none, [0]⟩])
  (.scope (.seq (.region false [⟨(some 9), .mv (.t 0), none, []⟩,
     ⟨(some 10), .len (.t 9), none, [0]⟩,
     ⟨(some 6), .mv (.t 10), none, [1, 0]⟩])
    (.seq (.label 0)
     (.seq (.seq (.region false [⟨(some 11), .mv (.t 0), none, []⟩,
        ⟨(some 12), .len (.t 11), none, [0]⟩,
        ⟨(some 13), .mv (.k (.d (.int .i64 0))), none, []⟩])
       (.block 0 (.loop (.seq (.region false [⟨(some 14), .bin .lss (.t 13) (.t 12), none, []⟩])
          (.seq (.cond (.t 14) (.skip)
            (.exit 0))
           (.seq (.block 1 (.seq (.region false [⟨(some 15), .mv (.t 13), none, []⟩,
               ⟨(some 16), .iaddr (.t 11) (.t 13) 3, none, []⟩,
               ⟨(some 17), .load (.t 16) 3 true, none, [1]⟩,
               ⟨(some 8), .alloc [(.str []), (.sl []), (.bool false)], none, []⟩,
               ⟨(some 7), .mv (.t 15), none, [0, 1, 2, 3]⟩,
               ⟨none, .store (.t 8) (.t 17) 3, none, [3, 2, 4, 0, 1]⟩])
              (.seq (.region false [⟨(some 18), .faddr (.t 8) 0, none, []⟩,
                ⟨(some 19), .load (.t 18) 1 false, none, [0]⟩,
                ⟨(some 20), .mv (.t 1), none, []⟩,
                ⟨(some 21), .bin .geq (.t 19) (.t 20), none, [1, 2]⟩])
               (.cond (.t 21) (.seq (.region false [⟨(some 22), .mv (.t 7), none, []⟩,
                  ⟨(some 6), .mv (.t 22), none, [0]⟩])
                 (.exit 0))
                (.skip)))))
            (.region false [⟨(some 23), .bin .add (.t 13) (.k (.d (.int .i64 1))), none, []⟩,
             ⟨(some 13), .mv (.t 23), none, [0]⟩])))))))
      (.seq (.region true [⟨(some 24), .mv (.t 6), none, []⟩,
        ⟨(some 25), .mv (.t 6), none, []⟩,
        ⟨(some 26), .mv (.t 0), none, []⟩,
        ⟨(some 27), .len (.t 26), none, [2]⟩,
        ⟨(some 28), .bin .lss (.t 25) (.t 27), none, [1, 3]⟩,
        ⟨(some 29), .mv (.t 28), none, [4]⟩,
        ⟨(some 30), .mv (.t 0), (some (29, true)), [5]⟩,
        ⟨(some 31), .mv (.t 6), (some (29, true)), [5]⟩,
        ⟨(some 32), .iaddr (.t 30) (.t 31) 3, (some (29, true)), [6, 7, 5]⟩,
        ⟨(some 33), .faddr (.t 32) 0, (some (29, true)), [8, 5]⟩,
        ⟨(some 34), .load (.t 33) 1 false, (some (29, true)), [9, 5]⟩,
        ⟨(some 35), .mv (.t 1), (some (29, true)), [5]⟩,
        ⟨(some 36), .bin .eql (.t 34) (.t 35), (some (29, true)), [10, 11, 5]⟩,
        ⟨(some 37), .pick (.t 29) (.t 36) (.k (.d (.bool false))), none, [5, 12]⟩,
        ⟨(some 4), .mv (.t 24), none, [0, 5]⟩,
        ⟨(some 5), .mv (.t 37), none, [13, 14, 0, 1, 2, 3, 4, 5, 6, 7, 8, 9, 10, 11, 12]⟩])
       .ret)))))) }
def HC101 (P : Program) (N : Nat → Nat) : Prop := HasF P (N 101) (C101 N)
def f101_j62 (k : Nat) (a0 : (List TPair)) (a1 : (List UInt8)) (j62_1 : Int) : Option (Int × Bool) := cond (decide (j62_1 < ((a0.length : Nat) : Int))) (gd (0 ≤ j62_1 ∧ j62_1 < ((a0.length : Nat) : Int)) (some (j62_1, (decide ((rd a0 j62_1).fKey = a1))))) (some (j62_1, false))
def f101_l22 (a0 : (List TPair)) (a1 : (List UInt8)) : Nat → Int → Option (LR2 Int Unit (Int × Bool))
  | 0, _ => none
  | k + 1, y22_1 => cond (decide (y22_1 < ((a0.length : Nat) : Int))) (gd (0 ≤ y22_1 ∧ y22_1 < ((a0.length : Nat) : Int)) (cond (!(Op.bytesLess (rd a0 y22_1).fKey a1)) (some (.b0 y22_1)) (f101_l22 a0 a1 k (IntKind.i64.wrap (y22_1 + (1 : Int)))))) (some (.b0 ((a0.length : Nat) : Int)))
def f101 (k : Nat) (a0 : (List TPair)) (a1 : (List UInt8)) : Option (Int × Bool) := (f101_l22 a0 a1 k (0 : Int)).bind fun o22 => (match o22 with | .b0 x22_1 => f101_j62 k a0 a1 x22_1 | _ => none)
theorem F101 {P : Program} {N : Nat → Nat} (hmix : P.follows .mixedOrders = true) (hc : HC101 P N) {k : Nat} {a0 : (List TPair)} {a1 : (List UInt8)} {r : (Int × Bool)} (h : f101 k a0 a1 = some r) :
    ACalls P (N 101) [(.d (.sl (List.map TPair.enc a0))), (.d (.str a1))] [] (.tup [(.d (.int .i64 r.1)), (.d (.bool r.2))]) [] := by
  refine acalls_canon (F := C101 N) hc 0 0 rfl ?_
  unfold f101 at h
  dsimp only [C101, startL]
  refine AWc.seq ?_
  refine AWc.rg hmix rfl rfl ?_
  refine RegV.p0 rfl rfl rfl ?_
  refine RegV.p0 rfl rfl rfl ?_
  refine RegV.nil0 ?_
  refine AWc.scope ?_
  refine AWc.seq ?_
  refine AWc.rg hmix rfl rfl ?_
  refine RegV.p0 rfl rfl rfl ?_
  refine RegV.len (xs := a0) (e := TPair.enc) rfl rfl rfl rfl ?_
  refine RegV.p0 rfl rfl rfl ?_
  refine RegV.nil0 ?_
  refine AWc.seq ?_
  refine AWc.label ?_
  refine AWc.seqS (N := 38) 0 (fun (z : Int) => [(0, (.d (.sl (List.map TPair.enc a0)))), (1, (.d (.str a1))), (6, (.d (.int .i64 z)))]) (fun z => []) (fun z => f101_j62 k a0 a1 z = some r) rfl_le ?_ ?_
  · refine AWc.seq ?_
    refine AWc.rg hmix rfl rfl ?_
    refine RegV.p0 rfl rfl rfl ?_
    refine RegV.len (xs := a0) (e := TPair.enc) rfl rfl rfl rfl ?_
    refine RegV.p0 rfl rfl rfl ?_
    refine RegV.nil0 ?_
    obtain ⟨o22, h22, h⟩ := bind_some h
    refine AWc.block ?_
    refine AWc.loopK (N := 38) 0 (fun (x : Int) => [(0, (.d (.sl (List.map TPair.enc a0)))), (1, (.d (.str a1))), (6, (.d (.int .i64 ((a0.length : Nat) : Int)))), (11, (.d (.sl (List.map TPair.enc a0)))), (12, (.d (.int .i64 ((a0.length : Nat) : Int)))), (13, (.d (.int .i64 x)))]) (fun x => []) (fun k x => f101_l22 a0 a1 k x = some o22) k (0 : Int) rfl_le (fun x hx => by cases hx) h22 ⟨rfl, [], [], rfl, rfl, ⟨⟨_, rfl, (.refl _)⟩, rfl, ⟨⟨_, rfl, (.refl _)⟩, rfl, ⟨⟨_, rfl, (.refl _)⟩, rfl, ⟨⟨_, rfl, (.refl _)⟩, rfl, ⟨⟨_, rfl, (.refl _)⟩, rfl, ⟨⟨_, rfl, (.refl _)⟩, rfl, trivial⟩⟩⟩⟩⟩⟩,  trivial⟩ ?_
    clear h22
    intro k
    intro y22_1 h22
    rw [f101_l22] at h22
    refine AWc.seq ?_
    refine AWc.rg hmix rfl rfl ?_
    refine RegV.p0 (v := (.d (.bool (decide (y22_1 < ((a0.length : Nat) : Int)))))) rfl rfl rfl ?_
    refine RegV.nil0 ?_
    refine AWc.seq ?_
    refine AWc.cond rfl (fun c29 => ?_) (fun c29 => ?_)
    · have h22 := cond_pos c29 h22
      refine AWc.skip ?_
      refine AWc.seq ?_
      refine AWc.block ?_
      refine AWc.seq ?_
      refine AWc.rg hmix rfl rfl ?_
      refine RegV.p0 rfl rfl rfl ?_
      obtain ⟨b38, h22⟩ := gd_some h22
      refine RegV.iad (xs := a0) (e := TPair.enc) rfl rfl rfl rfl (fun _ => rfl) b38 rfl ?_
      refine RegV.p1 (v := (.d (TPair.enc (rd a0 y22_1)))) rfl rfl rfl rfl rfl ?_
      refine RegV.evS (own := false) (v := (.ptr 0 0)) (H' := [(0, (.cells [(.d (.str ([] : List UInt8))), .nils, (.d (.bool false))]))]) (c' := 1) rfl rfl trivial rfl rfl rfl rfl rfl rfl ?_
      refine RegV.p0 rfl rfl rfl ?_
      refine RegV.evN (own := false) (H' := [(0, (.cells [(.d (.str (rd a0 y22_1).fKey)), (.d (.sl (List.map byteD (rd a0 y22_1).fValue))), (.d (.bool (rd a0 y22_1).fGone))]))]) (c' := 1) rfl rfl (by exact ⟨rfl, Nat.le_of_ble_eq_true rfl, rfl⟩) rfl rfl rfl rfl ?_
      refine RegV.nil0 ?_
      refine AWc.seq ?_
      refine AWc.rg hmix rfl rfl ?_
      refine RegV.p0 (v := (.ptr 0 0)) rfl rfl rfl ?_
      refine RegV.ld (v := (.d (.str (rd a0 y22_1).fKey))) (H' := [(0, (.cells [(.d (.str (rd a0 y22_1).fKey)), (.d (.sl (List.map byteD (rd a0 y22_1).fValue))), (.d (.bool (rd a0 y22_1).fGone))]))]) rfl rfl trivial rfl rfl rfl rfl rfl ?_
      refine RegV.p0 rfl rfl rfl ?_
      refine RegV.p0 (v := (.d (.bool (!(Op.bytesLess (rd a0 y22_1).fKey a1))))) rfl rfl rfl ?_
      refine RegV.nil0 ?_
      refine AWc.cond rfl (fun c50 => ?_) (fun c50 => ?_)
      · have h22 := cond_pos c50 h22
        refine AWc.seq ?_
        refine AWc.rg hmix rfl rfl ?_
        refine RegV.p0 rfl rfl rfl ?_
        refine RegV.p0 rfl rfl rfl ?_
        refine RegV.nil0 ?_
        cases h22
        dsimp only at h
        refine AWc.exit ?_
        refine inBlk_ne rfl ?_
        refine inBlk_eq ?_
        exact ⟨y22_1, h, ⟨rfl, [], [], rfl, rfl, ⟨⟨_, rfl, (.refl _)⟩, rfl, ⟨⟨_, rfl, (.refl _)⟩, rfl, ⟨⟨_, rfl, (.refl _)⟩, rfl, trivial⟩⟩⟩,  trivial⟩⟩
      · have h22 := cond_neg c50 h22
        refine AWc.skip ?_
        refine AWc.rg hmix rfl rfl ?_
        refine RegV.p0 (v := (.d (.int .i64 (IntKind.i64.wrap (y22_1 + (1 : Int)))))) rfl rfl rfl ?_
        refine RegV.p0 rfl rfl rfl ?_
        refine RegV.nil0 ?_
        exact ⟨(IntKind.i64.wrap (y22_1 + (1 : Int))), h22, ⟨rfl, [], [], rfl, rfl, ⟨⟨_, rfl, (.refl _)⟩, rfl, ⟨⟨_, rfl, (.refl _)⟩, rfl, ⟨⟨_, rfl, (.refl _)⟩, rfl, ⟨⟨_, rfl, (.refl _)⟩, rfl, ⟨⟨_, rfl, (.refl _)⟩, rfl, ⟨⟨_, rfl, (.refl _)⟩, rfl, trivial⟩⟩⟩⟩⟩⟩,  trivial⟩⟩
    · have h22 := cond_neg c29 h22
      cases h22
      dsimp only at h
      refine AWc.exit ?_
      refine inBlk_eq ?_
      exact ⟨((a0.length : Nat) : Int), h, ⟨rfl, [], [], rfl, rfl, ⟨⟨_, rfl, (.refl _)⟩, rfl, ⟨⟨_, rfl, (.refl _)⟩, rfl, ⟨⟨_, rfl, (.refl _)⟩, rfl, trivial⟩⟩⟩,  trivial⟩⟩
  · intro j62_1 h
    unfold f101_j62 at h
    refine AWc.seq ?_
    refine AWc.rg hmix rfl rfl ?_
    refine RegV.p0 rfl rfl rfl ?_
    refine RegV.p0 rfl rfl rfl ?_
    refine RegV.p0 rfl rfl rfl ?_
    refine RegV.len (xs := a0) (e := TPair.enc) rfl rfl rfl rfl ?_
    refine RegV.p0 (v := (.d (.bool (decide (j62_1 < ((a0.length : Nat) : Int)))))) rfl rfl rfl ?_
    refine RegV.p0 rfl rfl rfl ?_
    refine RegV.split (fun c70 => ?_) (fun c70 => ?_)
    · have h := cond_pos c70 h
      refine RegV.p0 rfl rfl rfl ?_
      refine RegV.p0 rfl rfl rfl ?_
      obtain ⟨b73, h⟩ := gd_some h
      refine RegV.iad (xs := a0) (e := TPair.enc) rfl rfl rfl rfl (fun _ => rfl) b73 rfl ?_
      refine RegV.p0 (v := (.cp (TPair.enc (rd a0 j62_1)) 0)) rfl rfl rfl ?_
      refine RegV.p0 (v := (.d (.str (rd a0 j62_1).fKey))) rfl rfl rfl ?_
      refine RegV.p0 rfl rfl rfl ?_
      refine RegV.p0 (v := (.d (.bool (decide ((rd a0 j62_1).fKey = a1))))) rfl rfl rfl ?_
      refine RegV.p0 rfl rfl rfl ?_
      refine RegV.p0 rfl rfl rfl ?_
      refine RegV.p0 rfl rfl rfl ?_
      refine RegV.nil1 (by kernel_rfl) ?_
      have hr := Option.some.inj h
      subst hr
      exact AWc.ret (canQ (N := 38) (k := 0) (l' := [(4, (.d (.int .i64 j62_1))), (5, (.d (.bool (decide ((rd a0 j62_1).fKey = a1)))))]) (H' := []) rfl ⟨rfl, [], [], rfl, rfl, ⟨⟨_, rfl, (.refl _)⟩, rfl, ⟨⟨_, rfl, (.refl _)⟩, rfl, trivial⟩⟩,  trivial⟩ (doneA (.inr rfl) rfl ⟨trivial, ⟨trivial, trivial⟩⟩ (.refl _) hasNil))
    · have h := cond_neg c70 h
      refine RegV.noS rfl rfl ?_
      refine RegV.noS rfl rfl ?_
      refine RegV.noS rfl rfl ?_
      refine RegV.noS rfl rfl ?_
      refine RegV.noS rfl rfl ?_
      refine RegV.noS rfl rfl ?_
      refine RegV.noS rfl rfl ?_
      refine RegV.p0 rfl rfl rfl ?_
      refine RegV.p0 rfl rfl rfl ?_
      refine RegV.p0 rfl rfl rfl ?_
      refine RegV.nil1 (by kernel_rfl) ?_
      have hr := Option.some.inj h
      subst hr
      exact AWc.ret (canQ (N := 38) (k := 0) (l' := [(4, (.d (.int .i64 j62_1))), (5, (.d (.bool false)))]) (H' := []) rfl ⟨rfl, [], [], rfl, rfl, ⟨⟨_, rfl, (.refl _)⟩, rfl, ⟨⟨_, rfl, (.refl _)⟩, rfl, trivial⟩⟩,  trivial⟩ (doneA (.inr rfl) rfl ⟨trivial, ⟨trivial, trivial⟩⟩ (.refl _) hasNil))
def HC102 (P : Program) (N : Nat → Nat) : Prop := DelB P (N 102) 3
def f102 (k : Nat) (a0 : List TPair) (a1 : Nat) (a2 a3 : Int) : Option (List TPair) := gd (0 ≤ a2 ∧ a2 ≤ a3 ∧ a3 ≤ (a1 : Int) ∧ a1 ≤ a0.length ∧ a1 ≤ 140737488355328) (some (a0.take a2.toNat ++ (a0.take a1).drop a3.toNat))
theorem F102 {P : Program} {N : Nat → Nat} (hmix : P.follows .mixedOrders = true) (hc : HC102 P N) {k : Nat} {a0 : List TPair} {a1 : Nat} {a2 a3 : Int} {r : List TPair} (h : f102 k a0 a1 a2 a3 = some r) :
    ACalls P (N 102) [(.row 0 3 a1), (.d (.int .i64 a2)), (.d (.int .i64 a3))] [(0, (rowO TPair.enc a0))] (.row 1 3 r.length) [(1, (rowO TPair.enc r))] := by
  obtain ⟨b, h⟩ := gd_some h
  cases h
  exact delB_calls TPair.ok hc b
def HC103 (P : Program) (N : Nat → Nat) : Prop := InsB P (N 103) 3 48
def f103 (k : Nat) (a0 : List TPair) (a1 : Nat) (a2 : Int) (a3 : List TPair) : Option (List TPair) := gd (0 ≤ a2 ∧ a2 ≤ (a1 : Int) ∧ a1 ≤ a0.length ∧ a3.length = 1 ∧ (a1 + a3.length) * 2 * 48 ≤ 281474976710656) (some ((a0.take a1).take a2.toNat ++ a3 ++ (a0.take a1).drop a2.toNat))
theorem F103 {P : Program} {N : Nat → Nat} (hmix : P.follows .mixedOrders = true) (hc : HC103 P N) {k : Nat} {a0 : List TPair} {a1 : Nat} {a2 : Int} {a3 r : List TPair} (h : f103 k a0 a1 a2 a3 = some r) :
    ACalls P (N 103) [(.row 0 3 a1), (.d (.int .i64 a2)), (.d (.sl (List.map TPair.enc a3)))] [(0, (rowO TPair.enc a0))] (.row 1 3 r.length) [(1, (rowO TPair.enc r))] := by
  obtain ⟨b, h⟩ := gd_some h
  cases h
  exact insB_calls TPair.ok (by decide) hc b
def L72_0a (N : Nat → Nat) : ACode :=
 (.region false [⟨(some 8), .alloc [(.str []), (.sl []), (.bool false)], none, []⟩,
  ⟨none, .store (.t 8) (.t 28) 3, none, [0]⟩])
def L72_0b (N : Nat → Nat) : ACode :=
 (.block 3 (.seq (.region false [⟨(some 30), .load (.t 5) 1 false, none, []⟩,
    ⟨(some 31), .faddr (.t 8) 0, none, []⟩,
    ⟨(some 32), .load (.t 31) 1 false, none, [1]⟩,
    ⟨(some 33), .call (.k (.d (.fn (N 101)))) [(.t 30), (.t 32)], none, [0, 2]⟩,
    ⟨(some 29), .mv (.t 33), none, [3]⟩,
    ⟨(some 34), .ext (.t 29) 0, none, [4]⟩,
    ⟨(some 35), .ext (.t 29) 1, none, [4]⟩,
    ⟨(some 9), .mv (.t 34), none, [5, 3, 0, 1, 2, 4]⟩,
    ⟨(some 10), .mv (.t 35), none, [6, 7, 0, 1, 2, 3, 4, 5]⟩])
   (.seq (.region false [⟨(some 36), .faddr (.t 8) 1, none, []⟩,
     ⟨(some 37), .load (.t 36) 1 false, none, [0]⟩,
     ⟨(some 38), .call (.k (.d (.fn (N 87)))) [(.t 37)], none, [1]⟩,
     ⟨(some 39), .faddr (.t 8) 1, none, [0, 1, 2]⟩,
     ⟨none, .store (.t 39) (.t 38) 1, none, [3, 2, 0, 1]⟩])
    (.block 4 (.seq (.region false [⟨(some 41), .mv (.t 10), none, []⟩,
       ⟨(some 42), .mv (.t 41), none, [0]⟩,
       ⟨(some 43), .faddr (.t 8) 2, (some (42, true)), [1]⟩,
       ⟨(some 44), .load (.t 43) 1 false, (some (42, true)), [2, 1]⟩,
       ⟨(some 45), .pick (.t 42) (.t 44) (.k (.d (.bool false))), none, [1, 3]⟩,
       ⟨(some 40), .mv (.t 45), none, [4, 1]⟩])
      (.cond (.t 40) (.region false [⟨(some 46), .load (.t 5) 1 false, none, []⟩,
        ⟨(some 47), .mv (.t 9), none, []⟩,
        ⟨(some 48), .mv (.t 9), none, []⟩,
        ⟨(some 49), .bin .add (.t 48) (.k (.d (.int .i64 1))), none, [2]⟩,
        ⟨(some 50), .call (.k (.d (.fn (N 102)))) [(.t 46), (.t 47), (.t 49)], none, [0, 1, 3]⟩,
        ⟨none, .store (.t 5) (.t 50) 1, none, [4, 0, 1, 2, 3]⟩])
       (.seq (.region false [⟨(some 52), .mv (.t 10), none, []⟩,
         ⟨(some 51), .mv (.t 52), none, [0]⟩])
        (.cond (.t 51) (.region false [⟨(some 53), .load (.t 5) 1 false, none, []⟩,
          ⟨(some 54), .mv (.t 9), none, []⟩,
          ⟨(some 55), .load (.t 8) 3 true, none, []⟩,
          ⟨(some 56), .iaddr (.t 53) (.t 54) 3, none, [0, 1, 2]⟩,
          ⟨none, .store (.t 56) (.t 55) 3, none, [3, 2, 0, 1]⟩])
         (.seq (.region false [⟨(some 58), .faddr (.t 8) 2, none, []⟩,
           ⟨(some 59), .load (.t 58) 1 false, none, [0]⟩,
           ⟨(some 60), .un .not (.t 59), none, [1]⟩,
           ⟨(some 57), .mv (.t 60), none, [2]⟩])
          (.cond (.t 57) (.region false [⟨(some 61), .load (.t 5) 1 false, none, []⟩,
            ⟨(some 62), .mv (.t 9), none, []⟩,
            ⟨(some 63), .load (.t 8) 3 true, none, []⟩,
            ⟨(some 64), .bslice 1 3 [(.str []), (.sl []), (.bool false)] [(0, (.t 63))], none, [2]⟩,
            ⟨(some 65), .call (.k (.d (.fn (N 103)))) [(.t 61), (.t 62), (.t 64)], none, [0, 1, 3]⟩,
            ⟨none, .store (.t 5) (.t 65) 1, none, [4, 0, 1, 2, 3]⟩])
           (.skip)))))))))))
/-- courant/keyed.Put -/
def C72 (N : Nat → Nat) : AFunc := { n := 67, params := 2, res := [.tmp 4], body :=
 (.seq (.region false [⟨(some 4), .mv (.k .nils), none, []⟩])
  (.seq (.region false [⟨(some 5), .alloc [(.sl [])], none, []⟩])
   (.seq (.seq (.region false [⟨(some 11), .mv (.t 0), none, []⟩,
      ⟨(some 12), .len (.t 11), none, [0]⟩,
      ⟨(some 13), .mv (.k (.d (.int .i64 0))), none, []⟩])
     (.block 0 (.loop (.seq (.region false [⟨(some 14), .bin .lss (.t 13) (.t 12), none, []⟩])
        (.seq (.cond (.t 14) (.skip)
          (.exit 0))
         (.seq (.block 1 (.seq (.region false [⟨(some 15), .iaddr (.t 11) (.t 13) 3, none, []⟩,
             ⟨(some 16), .load (.t 15) 3 true, none, [0]⟩,
             ⟨(some 7), .alloc [(.str []), (.sl []), (.bool false)], none, []⟩,
             ⟨none, .store (.t 7) (.t 16) 3, none, [2, 1, 0]⟩])
            (.seq (.region false [⟨(some 17), .faddr (.t 7) 1, none, []⟩,
              ⟨(some 18), .load (.t 17) 1 false, none, [0]⟩,
              ⟨(some 19), .call (.k (.d (.fn (N 87)))) [(.t 18)], none, [1]⟩,
              ⟨(some 20), .faddr (.t 7) 1, none, [0, 1, 2]⟩,
              ⟨none, .store (.t 20) (.t 19) 1, none, [3, 2, 0, 1]⟩])
             (.region false [⟨(some 21), .load (.t 5) 1 false, none, []⟩,
              ⟨(some 22), .load (.t 7) 3 true, none, []⟩,
              ⟨(some 23), .bslice 1 3 [(.str []), (.sl []), (.bool false)] [(0, (.t 22))], none, [1]⟩,
              ⟨(some 24), .app (.t 21) (.t 23) 3 48 [(.str []), (.sl []), (.bool false)], none, [0, 2]⟩,
              ⟨none, .store (.t 5) (.t 24) 1, none, [3, 0, 1, 2]⟩]))))
          (.region false [⟨(some 25), .bin .add (.t 13) (.k (.d (.int .i64 1))), none, []⟩,
           ⟨(some 13), .mv (.t 25), none, [0]⟩])))))))
    (.seq (.seq (.region false [⟨(some 26), .mv (.t 1), none, []⟩,
       ⟨(some 27), .call (.k (.d (.fn (N 100)))) [(.t 26)], none, [0]⟩])
      (.block 2 (.rangeFunc (.t 27) [28] (L72_0a N) (L72_0b N))))
     (.seq (.region false [⟨(some 66), .load (.t 5) 1 false, none, []⟩,
       ⟨(some 4), .mv (.t 66), none, [0]⟩])
      .ret))))) }
def HCb72_61 (P : Program) (N : Nat → Nat) : Prop := True ∧ HC101 P N ∧ HC87 P N ∧ HC102 P N ∧ HC103 P N
def b72_61_j98 (k : Nat) (a0 : (List TPair)) (a1 : Nat) (r74 : (Int × Bool)) (a2 : TPair) (r85 : (List UInt8)) (j98_1 : Bool) : Option (Nat × (List TPair)) := cond j98_1 ((f102 k a0 a1 r74.1 (IntKind.i64.wrap (r74.1 + (1 : Int)))).bind fun r105 => some (r105.length, r105)) (cond r74.2 (gd (0 ≤ r74.1 ∧ r74.1 < ((a1 : Nat) : Int)) (gd ((r74.1).toNat < a0.length) (some (a1, (List.set a0 (r74.1).toNat (TPair.mk a2.fKey r85 a2.fGone)))))) (cond (!a2.fGone) ((f103 k a0 a1 r74.1 ([(TPair.mk a2.fKey r85 a2.fGone)] : List TPair)).bind fun r134 => some (r134.length, r134)) (some (a1, a0))))
def b72_61 (k : Nat) (a0 : (List TPair)) (a1 : Nat) (a2 : TPair) : Option (Nat × (List TPair)) := gd (a1 ≤ a0.length) ((f101 k (List.take a1 a0) a2.fKey).bind fun r74 => (f87 k a2.fValue).bind fun r85 => cond r74.2 (b72_61_j98 k a0 a1 r74 a2 r85 a2.fGone) (b72_61_j98 k a0 a1 r74 a2 r85 false))
theorem B72_61 {P : Program} {N : Nat → Nat} (hmix : P.follows .mixedOrders = true) (hc : HCb72_61 P N) {asg0 bd0 : Code} (ha0 : compCode P asg0 = L72_0a N) (hb0 : compCode P bd0 = L72_0b N) {k : Nat} {a0 : (List TPair)} {a1 : Nat} {a2 : TPair} {r : (Nat × (List TPair))} (h : b72_61 k a0 a1 a2 = some r) :
    ARound P 0 [(.d (TPair.enc a2))] [(0, (.lp 67 [(5, (.ptr 1 0))] [28] asg0 bd0 .ready none)), (1, (.cells [(.row 2 3 a1)])), (2, (rowO TPair.enc a0))] (.d (.bool true)) [(0, (.lp 67 [(5, (.ptr 1 0))] [28] asg0 bd0 .ready none)), (1, (.cells [(.row 3 3 r.1)])), (3, (rowO TPair.enc r.2))] := by
  refine around_gen 3 4 ha0 hb0 rfl rfl (fun ro => ?_)
  unfold b72_61 at h
  dsimp only [L72_0a, L72_0b, putArgs]
  refine AWc.rg hmix rfl rfl ?_
  refine RegV.evS (own := false) (v := (.ptr 3 0)) (H' := [(3, (.cells [(.d (.str ([] : List UInt8))), .nils, (.d (.bool false))])), (0, (.lp 67 [(5, (.ptr 1 0))] [28] asg0 bd0 .ready none)), (1, (.cells [(.row 2 3 a1)])), (2, (rowO TPair.enc a0))]) (c' := 4) rfl rfl trivial rfl rfl rfl rfl rfl rfl ?_
  refine RegV.evN (own := false) (H' := [(3, (.cells [(.d (.str a2.fKey)), (.d (.sl (List.map byteD a2.fValue))), (.d (.bool a2.fGone))])), (0, (.lp 67 [(5, (.ptr 1 0))] [28] asg0 bd0 .ready none)), (1, (.cells [(.row 2 3 a1)])), (2, (rowO TPair.enc a0))]) (c' := 4) rfl rfl (by exact ⟨rfl, Nat.le_of_ble_eq_true rfl, rfl⟩) rfl rfl rfl rfl ?_
  refine RegV.nil0 ?_
  refine asgDone rfl rfl ?_
  refine AWc.block ?_
  refine AWc.seq ?_
  refine AWc.rg hmix rfl rfl ?_
  refine RegV.ld (v := (.row 2 3 a1)) (H' := [(1, (.cells [(.row 2 3 a1)])), (3, (.cells [(.d (.str a2.fKey)), (.d (.sl (List.map byteD a2.fValue))), (.d (.bool a2.fGone))])), (0, (.lp 67 [(5, (.ptr 1 0))] [28] asg0 bd0 .busy none)), (2, (rowO TPair.enc a0))]) rfl rfl trivial rfl rfl rfl rfl rfl ?_
  refine RegV.p0 (v := (.ptr 3 0)) rfl rfl rfl ?_
  refine RegV.ld (v := (.d (.str a2.fKey))) (H' := [(3, (.cells [(.d (.str a2.fKey)), (.d (.sl (List.map byteD a2.fValue))), (.d (.bool a2.fGone))])), (1, (.cells [(.row 2 3 a1)])), (0, (.lp 67 [(5, (.ptr 1 0))] [28] asg0 bd0 .busy none)), (2, (rowO TPair.enc a0))]) rfl rfl trivial rfl rfl rfl rfl rfl ?_
  obtain ⟨bw0, h⟩ := gd_some h
  obtain ⟨r74, e74, h⟩ := bind_some h
  refine RegV.callS (q := true) (H' := [(2, (rowO TPair.enc a0)), (3, (.cells [(.d (.str a2.fKey)), (.d (.sl (List.map byteD a2.fValue))), (.d (.bool a2.fGone))])), (1, (.cells [(.row 2 3 a1)])), (0, (.lp 67 [(5, (.ptr 1 0))] [28] asg0 bd0 .busy none))]) (c' := 4) (show ACalls P (N 101) [(.row 2 3 a1), (.d (.str a2.fKey))] [(2, (rowO TPair.enc a0))] (.tup [(.d (.int .i64 r74.1)), (.d (.bool r74.2))]) [(2, (rowO TPair.enc a0))] from ACalls.borrow (e := TPair.enc) (xs := a0) (views := [(.d (.sl (List.map TPair.enc (List.take a1 a0)))), (.d (.str a2.fKey))]) (F101 hmix hc.2.1 e74) rfl TPair.ok (.inr rfl) (.cons (.row bw0) (.cons .same .nil)) (.cons (.refl _) (.cons (.refl _) .nil)) (LooseL.tup (.cons .int (.cons .bool .nil)))) rfl rfl rfl rfl (SubL.refl _) (.refl _) (fun _ => rfl) rfl (hasCons rfl hasNil) rfl rfl rfl rfl ?_
  refine RegV.p0 rfl rfl rfl ?_
  refine RegV.p0 rfl rfl rfl ?_
  refine RegV.p0 rfl rfl rfl ?_
  refine RegV.p0 rfl rfl rfl ?_
  refine RegV.p0 rfl rfl rfl ?_
  refine RegV.nil0 ?_
  refine AWc.seq ?_
  refine AWc.rg hmix rfl rfl ?_
  refine RegV.p0 (v := (.ptr 3 1)) rfl rfl rfl ?_
  refine RegV.ld (v := (.d (.sl (List.map byteD a2.fValue)))) (H' := [(3, (.cells [(.d (.str a2.fKey)), (.d (.sl (List.map byteD a2.fValue))), (.d (.bool a2.fGone))])), (2, (rowO TPair.enc a0)), (1, (.cells [(.row 2 3 a1)])), (0, (.lp 67 [(5, (.ptr 1 0))] [28] asg0 bd0 .busy none))]) rfl rfl trivial rfl rfl rfl rfl rfl ?_
  obtain ⟨r85, e85, h⟩ := bind_some h
  refine RegV.callS (q := false) (H' := [(4, (.tok ((List.map byteD r85).length * 1))), (3, (.cells [(.d (.str a2.fKey)), (.d (.sl (List.map byteD a2.fValue))), (.d (.bool a2.fGone))])), (2, (rowO TPair.enc a0)), (1, (.cells [(.row 2 3 a1)])), (0, (.lp 67 [(5, (.ptr 1 0))] [28] asg0 bd0 .busy none))]) (c' := 5) (show ACalls P (N 87) [(.d (.sl (List.map byteD a2.fValue)))] [] (.ap 4 1 (List.map byteD r85)) [(4, (.tok ((List.map byteD r85).length * 1)))] from ACalls.use (F87 hmix hc.2.2.1 e85) [(0, 4)] 1 rfl) rfl rfl rfl rfl (.cons (.refl _) .nil) (.refl _) (fun h => by cases h) rfl hasNil rfl rfl rfl rfl ?_
  refine RegV.p0 (v := (.ptr 3 1)) rfl rfl rfl ?_
  refine RegV.evN (own := false) (H' := [(3, (.cells [(.d (.str a2.fKey)), (.ap 4 1 (List.map byteD r85)), (.d (.bool a2.fGone))])), (4, (.tok ((List.map byteD r85).length * 1))), (2, (rowO TPair.enc a0)), (1, (.cells [(.row 2 3 a1)])), (0, (.lp 67 [(5, (.ptr 1 0))] [28] asg0 bd0 .busy none))]) (c' := 5) rfl rfl (by exact ⟨rfl, Nat.le_of_ble_eq_true rfl, rfl⟩) rfl rfl rfl rfl ?_
  refine RegV.nil0 ?_
  refine AWc.block ?_
  refine AWc.seqS (N := 67) 5 (fun (z : Bool) => [(5, (.ptr 1 0)), (8, (.ptr 3 0)), (9, (.d (.int .i64 r74.1))), (10, (.d (.bool r74.2))), (40, (.d (.bool z)))]) (fun z => [(1, (.cells [(.row 2 3 a1)])), (3, (.cells [(.d (.str a2.fKey)), (.ap 4 1 (List.map byteD r85)), (.d (.bool a2.fGone))])), (0, (.lp 67 [(5, (.ptr 1 0))] [28] asg0 bd0 .busy none)), (2, (rowO TPair.enc a0)), (4, (.tok ((List.map byteD r85).length * 1)))]) (fun z => b72_61_j98 k a0 a1 r74 a2 r85 z = some r) rfl_le ?_ ?_
  · refine AWc.rg hmix rfl rfl ?_
    refine RegV.p0 rfl rfl rfl ?_
    refine RegV.p0 rfl rfl rfl ?_
    refine RegV.split (fun c93 => ?_) (fun c93 => ?_)
    · have h := cond_pos c93 h
      refine RegV.p0 (v := (.ptr 3 2)) rfl rfl rfl ?_
      refine RegV.ld (v := (.d (.bool a2.fGone))) (H' := [(3, (.cells [(.d (.str a2.fKey)), (.ap 4 1 (List.map byteD r85)), (.d (.bool a2.fGone))])), (4, (.tok ((List.map byteD r85).length * 1))), (2, (rowO TPair.enc a0)), (1, (.cells [(.row 2 3 a1)])), (0, (.lp 67 [(5, (.ptr 1 0))] [28] asg0 bd0 .busy none))]) rfl rfl trivial rfl rfl rfl rfl rfl ?_
      refine RegV.p0 rfl rfl rfl ?_
      refine RegV.p0 rfl rfl rfl ?_
      refine RegV.nil0 ?_
      exact ⟨a2.fGone, h, ⟨rfl, [], [], rfl, rfl, ⟨⟨_, rfl, (.refl _)⟩, rfl, ⟨⟨_, rfl, (.refl _)⟩, rfl, ⟨⟨_, rfl, (.refl _)⟩, rfl, ⟨⟨_, rfl, (.refl _)⟩, rfl, ⟨⟨_, rfl, (.refl _)⟩, rfl, trivial⟩⟩⟩⟩⟩, ⟨⟨_, rfl, (.refl _)⟩, rfl, rfl, ⟨⟨_, rfl, (.refl _)⟩, rfl, rfl, ⟨⟨_, rfl, (.refl _)⟩, rfl, rfl, ⟨⟨_, rfl, (.refl _)⟩, rfl, rfl, ⟨⟨_, rfl, (.refl _)⟩, rfl, rfl, trivial⟩⟩⟩⟩⟩⟩⟩
    · have h := cond_neg c93 h
      refine RegV.noS rfl rfl ?_
      refine RegV.noS rfl rfl ?_
      refine RegV.p0 rfl rfl rfl ?_
      refine RegV.p0 rfl rfl rfl ?_
      refine RegV.nil0 ?_
      exact ⟨false, h, ⟨rfl, [], [], rfl, rfl, ⟨⟨_, rfl, (.refl _)⟩, rfl, ⟨⟨_, rfl, (.refl _)⟩, rfl, ⟨⟨_, rfl, (.refl _)⟩, rfl, ⟨⟨_, rfl, (.refl _)⟩, rfl, ⟨⟨_, rfl, (.refl _)⟩, rfl, trivial⟩⟩⟩⟩⟩, ⟨⟨_, rfl, (.refl _)⟩, rfl, rfl, ⟨⟨_, rfl, (.refl _)⟩, rfl, rfl, ⟨⟨_, rfl, (.refl _)⟩, rfl, rfl, ⟨⟨_, rfl, (.refl _)⟩, rfl, rfl, ⟨⟨_, rfl, (.refl _)⟩, rfl, rfl, trivial⟩⟩⟩⟩⟩⟩⟩
  · intro j98_1 h
    unfold b72_61_j98 at h
    refine AWc.cond rfl (fun c98 => ?_) (fun c98 => ?_)
    · have h := cond_pos c98 h
      refine AWc.rg hmix rfl rfl ?_
      refine RegV.ld (v := (.row 2 3 a1)) (H' := [(1, (.cells [(.row 2 3 a1)])), (3, (.cells [(.d (.str a2.fKey)), (.ap 4 1 (List.map byteD r85)), (.d (.bool a2.fGone))])), (0, (.lp 67 [(5, (.ptr 1 0))] [28] asg0 bd0 .busy none)), (2, (rowO TPair.enc a0)), (4, (.tok ((List.map byteD r85).length * 1)))]) rfl rfl trivial rfl rfl rfl rfl rfl ?_
      refine RegV.p0 rfl rfl rfl ?_
      refine RegV.p0 rfl rfl rfl ?_
      refine RegV.p0 (v := (.d (.int .i64 (IntKind.i64.wrap (r74.1 + (1 : Int)))))) rfl rfl rfl ?_
      obtain ⟨r105, e105, h⟩ := bind_some h
      refine RegV.callS (q := false) (H' := [(5, (rowO TPair.enc r105)), (1, (.cells [(.row 2 3 a1)])), (3, (.cells [(.d (.str a2.fKey)), (.ap 4 1 (List.map byteD r85)), (.d (.bool a2.fGone))])), (0, (.lp 67 [(5, (.ptr 1 0))] [28] asg0 bd0 .busy none)), (4, (.tok ((List.map byteD r85).length * 1)))]) (c' := 6) (show ACalls P (N 102) [(.row 2 3 a1), (.d (.int .i64 r74.1)), (.d (.int .i64 (IntKind.i64.wrap (r74.1 + (1 : Int)))))] [(2, (rowO TPair.enc a0))] (.row 5 3 r105.length) [(5, (rowO TPair.enc r105))] from ACalls.use (F102 hmix hc.2.2.2.1 e105) [(0, 2), (1, 5)] 2 rfl) rfl rfl rfl rfl (.cons (.refl _) (.cons (.refl _) (.cons (.refl _) .nil))) (.refl _) (fun h => by cases h) rfl (hasCons rfl hasNil) rfl rfl rfl rfl ?_
      refine RegV.evN (own := false) (H' := [(1, (.cells [(.row 5 3 r105.length)])), (5, (rowO TPair.enc r105)), (3, (.cells [(.d (.str a2.fKey)), (.ap 4 1 (List.map byteD r85)), (.d (.bool a2.fGone))])), (0, (.lp 67 [(5, (.ptr 1 0))] [28] asg0 bd0 .busy none)), (4, (.tok ((List.map byteD r85).length * 1)))]) (c' := 6) rfl rfl (by exact ⟨rfl, Nat.le_of_ble_eq_true rfl, rfl⟩) rfl rfl rfl rfl ?_
      refine RegV.nil0 ?_
      have hr := Option.some.inj h
      subst hr
      exact (canQ (N := 67) (k := 4) (l' := []) (H' := [(0, (.lp 67 [(5, (.ptr 1 0))] [28] asg0 bd0 .busy none)), (1, (.cells [(.row 3 3 r105.length)])), (3, (rowO TPair.enc r105))]) rfl ⟨rfl, [], [(3, 5)], rfl, rfl,  trivial, ⟨⟨_, rfl, (.refl _)⟩, rfl, rfl, ⟨⟨_, rfl, (.refl _)⟩, rfl, rfl, ⟨⟨_, rfl, (.refl _)⟩, rfl, rfl, trivial⟩⟩⟩⟩ (roundD rfl rfl rfl rfl (hasCons rfl (hasCons rfl (hasCons rfl hasNil)))))
    · have h := cond_neg c98 h
      refine AWc.seq ?_
      refine AWc.rg hmix rfl rfl ?_
      refine RegV.p0 rfl rfl rfl ?_
      refine RegV.p0 rfl rfl rfl ?_
      refine RegV.nil0 ?_
      refine AWc.cond rfl (fun c112 => ?_) (fun c112 => ?_)
      · have h := cond_pos c112 h
        refine AWc.rg hmix rfl rfl ?_
        refine RegV.ld (v := (.row 2 3 a1)) (H' := [(1, (.cells [(.row 2 3 a1)])), (3, (.cells [(.d (.str a2.fKey)), (.ap 4 1 (List.map byteD r85)), (.d (.bool a2.fGone))])), (0, (.lp 67 [(5, (.ptr 1 0))] [28] asg0 bd0 .busy none)), (2, (rowO TPair.enc a0)), (4, (.tok ((List.map byteD r85).length * 1)))]) rfl rfl trivial rfl rfl rfl rfl rfl ?_
        refine RegV.p0 rfl rfl rfl ?_
        refine RegV.ld (v := (.d (.agg [(.str a2.fKey), (.sl (List.map byteD r85)), (.bool a2.fGone)]))) (H' := [(3, (.cells [(.d (.str a2.fKey)), (.ap 4 1 (List.map byteD r85)), (.d (.bool a2.fGone))])), (1, (.cells [(.row 2 3 a1)])), (0, (.lp 67 [(5, (.ptr 1 0))] [28] asg0 bd0 .busy none)), (2, (rowO TPair.enc a0)), (4, (.tok ((List.map byteD r85).length * 1)))]) rfl rfl (Nat.le_of_ble_eq_true rfl) rfl rfl rfl rfl rfl ?_
        obtain ⟨b118, h⟩ := gd_some h
        refine RegV.iaR (z := 3) rfl rfl (fun _ => rfl) b118 rfl ?_
        obtain ⟨b119, h⟩ := gd_some h
        refine RegV.stR (e := TPair.enc) (xs := a0) (i := (r74.1).toNat) (v := (TPair.mk a2.fKey r85 a2.fGone)) (H' := [(2, (rowO TPair.enc (List.set a0 (r74.1).toNat (TPair.mk a2.fKey r85 a2.fGone)))), (3, (.cells [(.d (.str a2.fKey)), (.ap 4 1 (List.map byteD r85)), (.d (.bool a2.fGone))])), (1, (.cells [(.row 2 3 a1)])), (0, (.lp 67 [(5, (.ptr 1 0))] [28] asg0 bd0 .busy none)), (4, (.tok ((List.map byteD r85).length * 1)))]) rfl rfl rfl rfl rfl TPair.ok rfl b119 rfl rfl rfl ?_
        refine RegV.nil0 ?_
        have hr := Option.some.inj h
        subst hr
        exact (canQ (N := 67) (k := 4) (l' := []) (H' := [(0, (.lp 67 [(5, (.ptr 1 0))] [28] asg0 bd0 .busy none)), (1, (.cells [(.row 3 3 a1)])), (3, (rowO TPair.enc (List.set a0 (r74.1).toNat (TPair.mk a2.fKey r85 a2.fGone))))]) rfl ⟨rfl, [], [(3, 2)], rfl, rfl,  trivial, ⟨⟨_, rfl, (.refl _)⟩, rfl, rfl, ⟨⟨_, rfl, (.refl _)⟩, rfl, rfl, ⟨⟨_, rfl, (.refl _)⟩, rfl, rfl, trivial⟩⟩⟩⟩ (roundD rfl rfl rfl rfl (hasCons rfl (hasCons rfl (hasCons rfl hasNil)))))
      · have h := cond_neg c112 h
        refine AWc.seq ?_
        refine AWc.rg hmix rfl rfl ?_
        refine RegV.p0 (v := (.ptr 3 2)) rfl rfl rfl ?_
        refine RegV.ld (v := (.d (.bool a2.fGone))) (H' := [(3, (.cells [(.d (.str a2.fKey)), (.ap 4 1 (List.map byteD r85)), (.d (.bool a2.fGone))])), (1, (.cells [(.row 2 3 a1)])), (0, (.lp 67 [(5, (.ptr 1 0))] [28] asg0 bd0 .busy none)), (2, (rowO TPair.enc a0)), (4, (.tok ((List.map byteD r85).length * 1)))]) rfl rfl trivial rfl rfl rfl rfl rfl ?_
        refine RegV.p0 (v := (.d (.bool (!a2.fGone)))) rfl rfl rfl ?_
        refine RegV.p0 rfl rfl rfl ?_
        refine RegV.nil0 ?_
        refine AWc.cond rfl (fun c127 => ?_) (fun c127 => ?_)
        · have h := cond_pos c127 h
          refine AWc.rg hmix rfl rfl ?_
          refine RegV.ld (v := (.row 2 3 a1)) (H' := [(1, (.cells [(.row 2 3 a1)])), (3, (.cells [(.d (.str a2.fKey)), (.ap 4 1 (List.map byteD r85)), (.d (.bool a2.fGone))])), (0, (.lp 67 [(5, (.ptr 1 0))] [28] asg0 bd0 .busy none)), (2, (rowO TPair.enc a0)), (4, (.tok ((List.map byteD r85).length * 1)))]) rfl rfl trivial rfl rfl rfl rfl rfl ?_
          refine RegV.p0 rfl rfl rfl ?_
          refine RegV.ld (v := (.d (.agg [(.str a2.fKey), (.sl (List.map byteD r85)), (.bool a2.fGone)]))) (H' := [(3, (.cells [(.d (.str a2.fKey)), (.ap 4 1 (List.map byteD r85)), (.d (.bool a2.fGone))])), (1, (.cells [(.row 2 3 a1)])), (0, (.lp 67 [(5, (.ptr 1 0))] [28] asg0 bd0 .busy none)), (2, (rowO TPair.enc a0)), (4, (.tok ((List.map byteD r85).length * 1)))]) rfl rfl (Nat.le_of_ble_eq_true rfl) rfl rfl rfl rfl rfl ?_
          refine RegV.p1 (v := (.d (.sl (List.map TPair.enc ([(TPair.mk a2.fKey r85 a2.fGone)] : List TPair))))) rfl rfl (by exact ⟨rfl, Nat.le_of_ble_eq_true rfl, mapLen (e := TPair.enc) (xs := ([(TPair.mk a2.fKey r85 a2.fGone)] : List TPair)) (z := 3) (fun _ => rfl)⟩) rfl rfl ?_
          obtain ⟨r134, e134, h⟩ := bind_some h
          refine RegV.callS (q := false) (H' := [(5, (rowO TPair.enc r134)), (3, (.cells [(.d (.str a2.fKey)), (.ap 4 1 (List.map byteD r85)), (.d (.bool a2.fGone))])), (1, (.cells [(.row 2 3 a1)])), (0, (.lp 67 [(5, (.ptr 1 0))] [28] asg0 bd0 .busy none)), (4, (.tok ((List.map byteD r85).length * 1)))]) (c' := 6) (show ACalls P (N 103) [(.row 2 3 a1), (.d (.int .i64 r74.1)), (.d (.sl (List.map TPair.enc ([(TPair.mk a2.fKey r85 a2.fGone)] : List TPair))))] [(2, (rowO TPair.enc a0))] (.row 5 3 r134.length) [(5, (rowO TPair.enc r134))] from ACalls.use (F103 hmix hc.2.2.2.2 e134) [(0, 2), (1, 5)] 2 rfl) rfl rfl rfl rfl (.cons (.refl _) (.cons (.refl _) (.cons (.refl _) .nil))) (.refl _) (fun h => by cases h) rfl (hasCons rfl hasNil) rfl rfl rfl rfl ?_
          refine RegV.evN (own := false) (H' := [(1, (.cells [(.row 5 3 r134.length)])), (5, (rowO TPair.enc r134)), (3, (.cells [(.d (.str a2.fKey)), (.ap 4 1 (List.map byteD r85)), (.d (.bool a2.fGone))])), (0, (.lp 67 [(5, (.ptr 1 0))] [28] asg0 bd0 .busy none)), (4, (.tok ((List.map byteD r85).length * 1)))]) (c' := 6) rfl rfl (by exact ⟨rfl, Nat.le_of_ble_eq_true rfl, rfl⟩) rfl rfl rfl rfl ?_
          refine RegV.nil0 ?_
          have hr := Option.some.inj h
          subst hr
          exact (canQ (N := 67) (k := 4) (l' := []) (H' := [(0, (.lp 67 [(5, (.ptr 1 0))] [28] asg0 bd0 .busy none)), (1, (.cells [(.row 3 3 r134.length)])), (3, (rowO TPair.enc r134))]) rfl ⟨rfl, [], [(3, 5)], rfl, rfl,  trivial, ⟨⟨_, rfl, (.refl _)⟩, rfl, rfl, ⟨⟨_, rfl, (.refl _)⟩, rfl, rfl, ⟨⟨_, rfl, (.refl _)⟩, rfl, rfl, trivial⟩⟩⟩⟩ (roundD rfl rfl rfl rfl (hasCons rfl (hasCons rfl (hasCons rfl hasNil)))))
        · have h := cond_neg c127 h
          refine AWc.skip ?_
          have hr := Option.some.inj h
          subst hr
          exact (canQ (N := 67) (k := 4) (l' := []) (H' := [(0, (.lp 67 [(5, (.ptr 1 0))] [28] asg0 bd0 .busy none)), (1, (.cells [(.row 3 3 a1)])), (3, (rowO TPair.enc a0))]) rfl ⟨rfl, [], [(3, 2)], rfl, rfl,  trivial, ⟨⟨_, rfl, (.refl _)⟩, rfl, rfl, ⟨⟨_, rfl, (.refl _)⟩, rfl, rfl, ⟨⟨_, rfl, (.refl _)⟩, rfl, rfl, trivial⟩⟩⟩⟩ (roundD rfl rfl rfl rfl (hasCons rfl (hasCons rfl (hasCons rfl hasNil)))))
/-- slices.Values[[]courant/api.Pair,courant/api.Pair]$1 -/
def C113 (N : Nat → Nat) : AFunc := { n := 16, params := 2, res := [], body :=
 (.seq (.region false [⟨(some 5), .load (.t 1) 1 false, none, []⟩,
   ⟨(some 6), .len (.t 5), none, [0]⟩,
   ⟨(some 7), .mv (.k (.d (.int .i64 0))), none, []⟩])
  (.block 0 (.loop (.seq (.region false [⟨(some 8), .bin .lss (.t 7) (.t 6), none, []⟩])
     (.seq (.cond (.t 8) (.skip)
       (.exit 0))
      (.seq (.block 1 (.seq (.region false [⟨(some 9), .iaddr (.t 5) (.t 7) 3, none, []⟩,
          ⟨(some 10), .load (.t 9) 3 true, none, [0]⟩,
          ⟨(some 4), .alloc [(.str []), (.sl []), (.bool false)], none, []⟩,
          ⟨none, .store (.t 4) (.t 10) 3, none, [2, 1, 0]⟩])
         (.seq (.region false [⟨(some 11), .mv (.t 0), none, []⟩,
           ⟨(some 12), .load (.t 4) 3 true, none, []⟩,
           ⟨(some 13), .call (.t 11) [(.t 12)], none, [0, 1]⟩,
           ⟨(some 14), .un .not (.t 13), none, [2]⟩])
          (.cond (.t 14) .ret
           (.skip)))))
       (.region false [⟨(some 15), .bin .add (.t 7) (.k (.d (.int .i64 1))), none, []⟩,
        ⟨(some 7), .mv (.t 15), none, [0]⟩]))))))) }
def HC113 (P : Program) (N : Nat → Nat) : Prop := HasF P (N 113) (C113 N) ∧ HCb72_61 P N
def f113_l7 (a2 : (List TPair)) : Nat → Int → Nat → (List TPair) → Option (LR2 (Nat × (List TPair)) Unit (Nat × (List TPair)))
  | 0, _, _, _ => none
  | k + 1, y7_1, y7_2, y7_3 => cond (decide (y7_1 < ((a2.length : Nat) : Int))) (gd (0 ≤ y7_1 ∧ y7_1 < ((a2.length : Nat) : Int)) ((b72_61 k y7_3 y7_2 (TPair.mk ((rd a2 y7_1).fKey) ((rd a2 y7_1).fValue) ((rd a2 y7_1).fGone))).bind fun r31 => f113_l7 a2 k (IntKind.i64.wrap (y7_1 + (1 : Int))) r31.1 r31.2)) (some (.b0 (y7_2, y7_3)))
def f113 (k : Nat) (a0 : (List TPair)) (a1 : Nat) (a2 : (List TPair)) : Option (Nat × (List TPair)) := (f113_l7 a2 k (0 : Int) a1 a0).bind fun o7 => (match o7 with | .b0 (x7_1, x7_2) => some (x7_1, x7_2) | _ => none)
theorem F113 {P : Program} {N : Nat → Nat} (hmix : P.follows .mixedOrders = true) (hc : HC113 P N) {asg0 bd0 : Code} (ha0 : compCode P asg0 = L72_0a N) (hb0 : compCode P bd0 = L72_0b N) {k : Nat} {a0 : (List TPair)} {a1 : Nat} {a2 : (List TPair)} {r : (Nat × (List TPair))} (h : f113 k a0 a1 a2 = some r) :
    ACalls P (N 113) [(.lf 0), (.ptr 3 0)] [(0, (.lp 67 [(5, (.ptr 1 0))] [28] asg0 bd0 .ready none)), (1, (.cells [(.row 2 3 a1)])), (2, (rowO TPair.enc a0)), (3, (.cells [(.d (.sl (List.map TPair.enc a2)))]))] (.tup []) [(0, (.lp 67 [(5, (.ptr 1 0))] [28] asg0 bd0 .ready none)), (1, (.cells [(.row 4 3 r.1)])), (3, (.cells [(.d (.sl (List.map TPair.enc a2)))])), (4, (rowO TPair.enc r.2))] := by
  refine acalls_canon (F := C113 N) hc.1 4 5 rfl ?_
  unfold f113 at h
  dsimp only [C113, startL]
  refine AWc.seq ?_
  refine AWc.rg hmix rfl rfl ?_
  refine RegV.ld (v := (.d (.sl (List.map TPair.enc a2)))) (H' := [(3, (.cells [(.d (.sl (List.map TPair.enc a2)))])), (0, (.lp 67 [(5, (.ptr 1 0))] [28] asg0 bd0 .ready none)), (1, (.cells [(.row 2 3 a1)])), (2, (rowO TPair.enc a0))]) rfl rfl trivial rfl rfl rfl rfl rfl ?_
  refine RegV.len (xs := a2) (e := TPair.enc) rfl rfl rfl rfl ?_
  refine RegV.p0 rfl rfl rfl ?_
  refine RegV.nil0 ?_
  obtain ⟨o7, h7, h⟩ := bind_some h
  refine AWc.block ?_
  refine AWc.loopK (N := 16) 5 (fun (x : (Int × Nat × (List TPair))) => [(0, (.lf 0)), (5, (.d (.sl (List.map TPair.enc a2)))), (6, (.d (.int .i64 ((a2.length : Nat) : Int)))), (7, (.d (.int .i64 x.1)))]) (fun x => [(0, (.lp 67 [(5, (.ptr 1 0))] [28] asg0 bd0 .ready none)), (1, (.cells [(.row 4 3 x.2.1)])), (3, (.cells [(.d (.sl (List.map TPair.enc a2)))])), (4, (rowO TPair.enc x.2.2))]) (fun k x => f113_l7 a2 k x.1 x.2.1 x.2.2 = some o7) k ((0 : Int), a1, a0) rfl_le (fun x hx => by cases hx) h7 ⟨rfl, [], [(4, 2)], rfl, rfl, ⟨⟨_, rfl, (.refl _)⟩, rfl, ⟨⟨_, rfl, (.refl _)⟩, rfl, ⟨⟨_, rfl, (.refl _)⟩, rfl, ⟨⟨_, rfl, (.refl _)⟩, rfl, trivial⟩⟩⟩⟩, ⟨⟨_, rfl, (.refl _)⟩, rfl, rfl, ⟨⟨_, rfl, (.refl _)⟩, rfl, rfl, ⟨⟨_, rfl, (.refl _)⟩, rfl, rfl, ⟨⟨_, rfl, (.refl _)⟩, rfl, rfl, trivial⟩⟩⟩⟩⟩ ?_
  clear h7
  intro k
  rintro ⟨y7_1, y7_2, y7_3⟩ h7
  dsimp only at h7 ⊢
  rw [f113_l7] at h7
  refine AWc.seq ?_
  refine AWc.rg hmix rfl rfl ?_
  refine RegV.p0 (v := (.d (.bool (decide (y7_1 < ((a2.length : Nat) : Int)))))) rfl rfl rfl ?_
  refine RegV.nil0 ?_
  refine AWc.seq ?_
  refine AWc.cond rfl (fun c14 => ?_) (fun c14 => ?_)
  · have h7 := cond_pos c14 h7
    refine AWc.skip ?_
    refine AWc.seq ?_
    refine AWc.block ?_
    refine AWc.seq ?_
    refine AWc.rg hmix rfl rfl ?_
    obtain ⟨b22, h7⟩ := gd_some h7
    refine RegV.iad (xs := a2) (e := TPair.enc) rfl rfl rfl rfl (fun _ => rfl) b22 rfl ?_
    refine RegV.p1 (v := (.d (TPair.enc (rd a2 y7_1)))) rfl rfl rfl rfl rfl ?_
    refine RegV.evS (own := false) (v := (.ptr 5 0)) (H' := [(5, (.cells [(.d (.str ([] : List UInt8))), .nils, (.d (.bool false))])), (0, (.lp 67 [(5, (.ptr 1 0))] [28] asg0 bd0 .ready none)), (1, (.cells [(.row 4 3 y7_2)])), (3, (.cells [(.d (.sl (List.map TPair.enc a2)))])), (4, (rowO TPair.enc y7_3))]) (c' := 6) rfl rfl trivial rfl rfl rfl rfl rfl rfl ?_
    refine RegV.evN (own := false) (H' := [(5, (.cells [(.d (.str (rd a2 y7_1).fKey)), (.d (.sl (List.map byteD (rd a2 y7_1).fValue))), (.d (.bool (rd a2 y7_1).fGone))])), (0, (.lp 67 [(5, (.ptr 1 0))] [28] asg0 bd0 .ready none)), (1, (.cells [(.row 4 3 y7_2)])), (3, (.cells [(.d (.sl (List.map TPair.enc a2)))])), (4, (rowO TPair.enc y7_3))]) (c' := 6) rfl rfl (by exact ⟨rfl, Nat.le_of_ble_eq_true rfl, rfl⟩) rfl rfl rfl rfl ?_
    refine RegV.nil0 ?_
    refine AWc.seq ?_
    refine AWc.rg hmix rfl rfl ?_
    refine RegV.p0 rfl rfl rfl ?_
    refine RegV.ld (v := (.d (.agg [(.str (rd a2 y7_1).fKey), (.sl (List.map byteD (rd a2 y7_1).fValue)), (.bool (rd a2 y7_1).fGone)]))) (H' := [(5, (.cells [(.d (.str (rd a2 y7_1).fKey)), (.d (.sl (List.map byteD (rd a2 y7_1).fValue))), (.d (.bool (rd a2 y7_1).fGone))])), (0, (.lp 67 [(5, (.ptr 1 0))] [28] asg0 bd0 .ready none)), (1, (.cells [(.row 4 3 y7_2)])), (3, (.cells [(.d (.sl (List.map TPair.enc a2)))])), (4, (rowO TPair.enc y7_3))]) rfl rfl (Nat.le_of_ble_eq_true rfl) rfl rfl rfl rfl rfl ?_
    obtain ⟨r31, e31, h7⟩ := bind_some h7
    refine RegV.yield (H' := [(0, (.lp 67 [(5, (.ptr 1 0))] [28] asg0 bd0 .ready none)), (1, (.cells [(.row 6 3 r31.1)])), (6, (rowO TPair.enc r31.2)), (5, (.cells [(.d (.str (rd a2 y7_1).fKey)), (.d (.sl (List.map byteD (rd a2 y7_1).fValue))), (.d (.bool (rd a2 y7_1).fGone))])), (3, (.cells [(.d (.sl (List.map TPair.enc a2)))]))]) (c' := 7) (show ARound P 0 [(.d (TPair.enc (TPair.mk ((rd a2 y7_1).fKey) ((rd a2 y7_1).fValue) ((rd a2 y7_1).fGone))))] [(0, (.lp 67 [(5, (.ptr 1 0))] [28] asg0 bd0 .ready none)), (1, (.cells [(.row 4 3 y7_2)])), (4, (rowO TPair.enc y7_3))] (.d (.bool true)) [(0, (.lp 67 [(5, (.ptr 1 0))] [28] asg0 bd0 .ready none)), (1, (.cells [(.row 6 3 r31.1)])), (6, (rowO TPair.enc r31.2))] from ARound.use (B72_61 hmix hc.2 ha0 hb0 e31) [(0, 0), (1, 1), (2, 4), (3, 6)] 4 rfl) rfl rfl rfl (.cons (.refl _) .nil) rfl (hasCons rfl (hasCons rfl (hasCons rfl hasNil))) rfl rfl rfl rfl ?_
    refine RegV.p0 (v := (.d (.bool false))) rfl rfl rfl ?_
    refine RegV.nil0 ?_
    refine AWc.cond rfl (fun hc => by cases hc) (fun _ => ?_)
    refine AWc.skip ?_
    refine AWc.rg hmix rfl rfl ?_
    refine RegV.p0 (v := (.d (.int .i64 (IntKind.i64.wrap (y7_1 + (1 : Int)))))) rfl rfl rfl ?_
    refine RegV.p0 rfl rfl rfl ?_
    refine RegV.nil0 ?_
    exact ⟨((IntKind.i64.wrap (y7_1 + (1 : Int))), r31.1, r31.2), h7, ⟨rfl, [], [(4, 6)], rfl, rfl, ⟨⟨_, rfl, (.refl _)⟩, rfl, ⟨⟨_, rfl, (.refl _)⟩, rfl, ⟨⟨_, rfl, (.refl _)⟩, rfl, ⟨⟨_, rfl, (.refl _)⟩, rfl, trivial⟩⟩⟩⟩, ⟨⟨_, rfl, (.refl _)⟩, rfl, rfl, ⟨⟨_, rfl, (.refl _)⟩, rfl, rfl, ⟨⟨_, rfl, (.refl _)⟩, rfl, rfl, ⟨⟨_, rfl, (.refl _)⟩, rfl, rfl, trivial⟩⟩⟩⟩⟩⟩
  · have h7 := cond_neg c14 h7
    cases h7
    dsimp only at h
    refine AWc.exit ?_
    refine inBlk_eq ?_
    have hr := Option.some.inj h
    subst hr
    exact canQ (N := 16) (k := 5) (l' := []) (H' := [(0, (.lp 67 [(5, (.ptr 1 0))] [28] asg0 bd0 .ready none)), (1, (.cells [(.row 4 3 y7_2)])), (3, (.cells [(.d (.sl (List.map TPair.enc a2)))])), (4, (rowO TPair.enc y7_3))]) rfl ⟨rfl, [], [], rfl, rfl,  trivial, ⟨⟨_, rfl, (.refl _)⟩, rfl, rfl, ⟨⟨_, rfl, (.refl _)⟩, rfl, rfl, ⟨⟨_, rfl, (.refl _)⟩, rfl, rfl, ⟨⟨_, rfl, (.refl _)⟩, rfl, rfl, trivial⟩⟩⟩⟩⟩ (doneA (.inl rfl) rfl trivial (.refl _) (hasCons rfl (hasCons rfl (hasCons rfl (hasCons rfl hasNil)))))
def HC72 (P : Program) (N : Nat → Nat) : Prop := HasF P (N 72) (C72 N) ∧ HC87 P N ∧ HC100 P N ∧ HC113 P N
def f72_j54 (k : Nat) (a1 : (List TPair)) (j54_1 : Nat) (j54_2 : (List TPair)) : Option (List TPair) := (f100 k a1).bind fun r59 => (f113 k j54_2 j54_1 a1).bind fun rf61 => gd (rf61.1 ≤ rf61.2.length) (some (List.take rf61.1 rf61.2))
def f72_l16 (a0 : (List TPair)) : Nat → Int → Nat → (List TPair) → Option (LR2 (Nat × (List TPair)) Unit (List TPair))
  | 0, _, _, _ => none
  | k + 1, y16_1, y16_2, y16_3 => cond (decide (y16_1 < ((a0.length : Nat) : Int))) (gd (0 ≤ y16_1 ∧ y16_1 < ((a0.length : Nat) : Int)) ((f87 k ((rd a0 y16_1).fValue)).bind fun r40 => gd (y16_2 ≤ y16_3.length ∧ (y16_2 + ([(TPair.mk ((rd a0 y16_1).fKey) r40 ((rd a0 y16_1).fGone))] : List TPair).length) * 2 * 48 ≤ 281474976710656) (f72_l16 a0 k (IntKind.i64.wrap (y16_1 + (1 : Int))) (y16_2 + ([(TPair.mk ((rd a0 y16_1).fKey) r40 ((rd a0 y16_1).fGone))] : List TPair).length) (List.take y16_2 y16_3 ++ ([(TPair.mk ((rd a0 y16_1).fKey) r40 ((rd a0 y16_1).fGone))] : List TPair))))) (some (.b0 (y16_2, y16_3)))
def f72 (k : Nat) (a0 : (List TPair)) (a1 : (List TPair)) : Option (List TPair) := (f72_l16 a0 k (0 : Int) (0) ([] : List TPair)).bind fun o16 => (match o16 with | .b0 (x16_1, x16_2) => f72_j54 k a1 x16_1 x16_2 | _ => none)
theorem F72 {P : Program} {N : Nat → Nat} (hmix : P.follows .mixedOrders = true) (hc : HC72 P N) {k : Nat} {a0 : (List TPair)} {a1 : (List TPair)} {r : (List TPair)} (h : f72 k a0 a1 = some r) :
    ACalls P (N 72) [(.d (.sl (List.map TPair.enc a0))), (.d (.sl (List.map TPair.enc a1)))] [] (.d (.sl (List.map TPair.enc r))) [] := by
  refine acalls_canon (F := C72 N) hc.1 0 0 rfl ?_
  unfold f72 at h
  dsimp only [C72, startL]
  refine AWc.seq ?_
  refine AWc.rg hmix rfl rfl ?_
  refine RegV.p0 rfl rfl rfl ?_
  refine RegV.nil0 ?_
  refine AWc.seq ?_
  refine AWc.rg hmix rfl rfl ?_
  refine RegV.evS (own := false) (v := (.ptr 0 0)) (H' := [(0, (.cells [.nils]))]) (c' := 1) rfl rfl trivial rfl rfl rfl rfl rfl rfl ?_
  refine RegV.nil0 ?_
  refine AWc.seqS (N := 67) 2 (fun (z : (Nat × (List TPair))) => [(1, (.d (.sl (List.map TPair.enc a1)))), (5, (.ptr 0 0))]) (fun z => [(0, (.cells [(.row 1 3 z.1)])), (1, (rowO TPair.enc z.2))]) (fun z => f72_j54 k a1 z.1 z.2 = some r) rfl_le ?_ ?_
  · refine AWc.seq ?_
    refine AWc.rg hmix rfl rfl ?_
    refine RegV.p0 rfl rfl rfl ?_
    refine RegV.len (xs := a0) (e := TPair.enc) rfl rfl rfl rfl ?_
    refine RegV.p0 rfl rfl rfl ?_
    refine RegV.nil0 ?_
    obtain ⟨o16, h16, h⟩ := bind_some h
    refine AWc.block ?_
    refine AWc.loopK (N := 67) 2 (fun (x : (Int × Nat × (List TPair))) => [(1, (.d (.sl (List.map TPair.enc a1)))), (5, (.ptr 0 0)), (11, (.d (.sl (List.map TPair.enc a0)))), (12, (.d (.int .i64 ((a0.length : Nat) : Int)))), (13, (.d (.int .i64 x.1)))]) (fun x => [(0, (.cells [(.row 1 3 x.2.1)])), (1, (rowO TPair.enc x.2.2))]) (fun k x => f72_l16 a0 k x.1 x.2.1 x.2.2 = some o16) k ((0 : Int), 0, ([] : List TPair)) rfl_le (fun x hx => by cases hx) h16 ⟨rfl, [.rowP []], [(1, 1)], rfl, rfl, ⟨⟨_, rfl, (.refl _)⟩, rfl, ⟨⟨_, rfl, (.refl _)⟩, rfl, ⟨⟨_, rfl, (.refl _)⟩, rfl, ⟨⟨_, rfl, (.refl _)⟩, rfl, ⟨⟨_, rfl, (.refl _)⟩, rfl, trivial⟩⟩⟩⟩⟩, ⟨⟨_, rfl, (.cells (.cons .nilRow .nil))⟩, rfl, rfl, ⟨⟨_, rfl, (.refl _)⟩, rfl, rfl, trivial⟩⟩⟩ ?_
    clear h16
    intro k
    rintro ⟨y16_1, y16_2, y16_3⟩ h16
    dsimp only at h16 ⊢
    rw [f72_l16] at h16
    refine AWc.seq ?_
    refine AWc.rg hmix rfl rfl ?_
    refine RegV.p0 (v := (.d (.bool (decide (y16_1 < ((a0.length : Nat) : Int)))))) rfl rfl rfl ?_
    refine RegV.nil0 ?_
    refine AWc.seq ?_
    refine AWc.cond rfl (fun c23 => ?_) (fun c23 => ?_)
    · have h16 := cond_pos c23 h16
      refine AWc.skip ?_
      refine AWc.seq ?_
      refine AWc.block ?_
      refine AWc.seq ?_
      refine AWc.rg hmix rfl rfl ?_
      obtain ⟨b31, h16⟩ := gd_some h16
      refine RegV.iad (xs := a0) (e := TPair.enc) rfl rfl rfl rfl (fun _ => rfl) b31 rfl ?_
      refine RegV.p1 (v := (.d (TPair.enc (rd a0 y16_1)))) rfl rfl rfl rfl rfl ?_
      refine RegV.evS (own := false) (v := (.ptr 2 0)) (H' := [(2, (.cells [(.d (.str ([] : List UInt8))), .nils, (.d (.bool false))])), (0, (.cells [(.row 1 3 y16_2)])), (1, (rowO TPair.enc y16_3))]) (c' := 3) rfl rfl trivial rfl rfl rfl rfl rfl rfl ?_
      refine RegV.evN (own := false) (H' := [(2, (.cells [(.d (.str (rd a0 y16_1).fKey)), (.d (.sl (List.map byteD (rd a0 y16_1).fValue))), (.d (.bool (rd a0 y16_1).fGone))])), (0, (.cells [(.row 1 3 y16_2)])), (1, (rowO TPair.enc y16_3))]) (c' := 3) rfl rfl (by exact ⟨rfl, Nat.le_of_ble_eq_true rfl, rfl⟩) rfl rfl rfl rfl ?_
      refine RegV.nil0 ?_
      refine AWc.seq ?_
      refine AWc.rg hmix rfl rfl ?_
      refine RegV.p0 (v := (.ptr 2 1)) rfl rfl rfl ?_
      refine RegV.ld (v := (.d (.sl (List.map byteD (rd a0 y16_1).fValue)))) (H' := [(2, (.cells [(.d (.str (rd a0 y16_1).fKey)), (.d (.sl (List.map byteD (rd a0 y16_1).fValue))), (.d (.bool (rd a0 y16_1).fGone))])), (0, (.cells [(.row 1 3 y16_2)])), (1, (rowO TPair.enc y16_3))]) rfl rfl trivial rfl rfl rfl rfl rfl ?_
      obtain ⟨r40, e40, h16⟩ := bind_some h16
      refine RegV.callS (q := false) (H' := [(3, (.tok ((List.map byteD r40).length * 1))), (2, (.cells [(.d (.str (rd a0 y16_1).fKey)), (.d (.sl (List.map byteD (rd a0 y16_1).fValue))), (.d (.bool (rd a0 y16_1).fGone))])), (0, (.cells [(.row 1 3 y16_2)])), (1, (rowO TPair.enc y16_3))]) (c' := 4) (show ACalls P (N 87) [(.d (.sl (List.map byteD ((rd a0 y16_1).fValue))))] [] (.ap 3 1 (List.map byteD r40)) [(3, (.tok ((List.map byteD r40).length * 1)))] from ACalls.use (F87 hmix hc.2.1 e40) [(0, 3)] 1 rfl) rfl rfl rfl rfl (.cons (.refl _) .nil) (.refl _) (fun h => by cases h) rfl hasNil rfl rfl rfl rfl ?_
      refine RegV.p0 (v := (.ptr 2 1)) rfl rfl rfl ?_
      refine RegV.evN (own := false) (H' := [(2, (.cells [(.d (.str (rd a0 y16_1).fKey)), (.ap 3 1 (List.map byteD r40)), (.d (.bool (rd a0 y16_1).fGone))])), (3, (.tok ((List.map byteD r40).length * 1))), (0, (.cells [(.row 1 3 y16_2)])), (1, (rowO TPair.enc y16_3))]) (c' := 4) rfl rfl (by exact ⟨rfl, Nat.le_of_ble_eq_true rfl, rfl⟩) rfl rfl rfl rfl ?_
      refine RegV.nil0 ?_
      refine AWc.rg hmix rfl rfl ?_
      refine RegV.ld (v := (.row 1 3 y16_2)) (H' := [(0, (.cells [(.row 1 3 y16_2)])), (2, (.cells [(.d (.str (rd a0 y16_1).fKey)), (.ap 3 1 (List.map byteD r40)), (.d (.bool (rd a0 y16_1).fGone))])), (3, (.tok ((List.map byteD r40).length * 1))), (1, (rowO TPair.enc y16_3))]) rfl rfl trivial rfl rfl rfl rfl rfl ?_
      refine RegV.ld (v := (.d (.agg [(.str (rd a0 y16_1).fKey), (.sl (List.map byteD r40)), (.bool (rd a0 y16_1).fGone)]))) (H' := [(2, (.cells [(.d (.str (rd a0 y16_1).fKey)), (.ap 3 1 (List.map byteD r40)), (.d (.bool (rd a0 y16_1).fGone))])), (0, (.cells [(.row 1 3 y16_2)])), (3, (.tok ((List.map byteD r40).length * 1))), (1, (rowO TPair.enc y16_3))]) rfl rfl (Nat.le_of_ble_eq_true rfl) rfl rfl rfl rfl rfl ?_
      refine RegV.p1 (v := (.d (.sl (List.map TPair.enc ([(TPair.mk ((rd a0 y16_1).fKey) r40 ((rd a0 y16_1).fGone))] : List TPair))))) rfl rfl (by exact ⟨rfl, Nat.le_of_ble_eq_true rfl, mapLen (e := TPair.enc) (xs := ([(TPair.mk ((rd a0 y16_1).fKey) r40 ((rd a0 y16_1).fGone))] : List TPair)) (z := 3) (fun _ => rfl)⟩) rfl rfl ?_
      obtain ⟨b48, h16⟩ := gd_some h16
      refine RegV.appW (xs := y16_3) (ys := ([(TPair.mk ((rd a0 y16_1).fKey) r40 ((rd a0 y16_1).fGone))] : List TPair)) (zs := (List.take y16_2 y16_3 ++ ([(TPair.mk ((rd a0 y16_1).fKey) r40 ((rd a0 y16_1).fGone))] : List TPair))) (e := TPair.enc) (H' := [(4, (rowO TPair.enc (List.take y16_2 y16_3 ++ ([(TPair.mk ((rd a0 y16_1).fKey) r40 ((rd a0 y16_1).fGone))] : List TPair)))), (2, (.cells [(.d (.str (rd a0 y16_1).fKey)), (.ap 3 1 (List.map byteD r40)), (.d (.bool (rd a0 y16_1).fGone))])), (0, (.cells [(.row 1 3 y16_2)])), (3, (.tok ((List.map byteD r40).length * 1)))]) rfl rfl rfl TPair.ok rfl rfl rfl b48 rfl rfl rfl rfl rfl rfl ?_
      refine RegV.evN (own := false) (H' := [(0, (.cells [(.row 4 3 (y16_2 + ([(TPair.mk ((rd a0 y16_1).fKey) r40 ((rd a0 y16_1).fGone))] : List TPair).length))])), (4, (rowO TPair.enc (List.take y16_2 y16_3 ++ ([(TPair.mk ((rd a0 y16_1).fKey) r40 ((rd a0 y16_1).fGone))] : List TPair)))), (2, (.cells [(.d (.str (rd a0 y16_1).fKey)), (.ap 3 1 (List.map byteD r40)), (.d (.bool (rd a0 y16_1).fGone))])), (3, (.tok ((List.map byteD r40).length * 1)))]) (c' := 5) rfl rfl (by exact ⟨rfl, Nat.le_of_ble_eq_true rfl, rfl⟩) rfl rfl rfl rfl ?_
      refine RegV.nil0 ?_
      refine AWc.rg hmix rfl rfl ?_
      refine RegV.p0 (v := (.d (.int .i64 (IntKind.i64.wrap (y16_1 + (1 : Int)))))) rfl rfl rfl ?_
      refine RegV.p0 rfl rfl rfl ?_
      refine RegV.nil0 ?_
      exact ⟨((IntKind.i64.wrap (y16_1 + (1 : Int))), (y16_2 + ([(TPair.mk ((rd a0 y16_1).fKey) r40 ((rd a0 y16_1).fGone))] : List TPair).length), (List.take y16_2 y16_3 ++ ([(TPair.mk ((rd a0 y16_1).fKey) r40 ((rd a0 y16_1).fGone))] : List TPair))), h16, ⟨rfl, [], [(1, 4)], rfl, rfl, ⟨⟨_, rfl, (.refl _)⟩, rfl, ⟨⟨_, rfl, (.refl _)⟩, rfl, ⟨⟨_, rfl, (.refl _)⟩, rfl, ⟨⟨_, rfl, (.refl _)⟩, rfl, ⟨⟨_, rfl, (.refl _)⟩, rfl, trivial⟩⟩⟩⟩⟩, ⟨⟨_, rfl, (.refl _)⟩, rfl, rfl, ⟨⟨_, rfl, (.refl _)⟩, rfl, rfl, trivial⟩⟩⟩⟩
    · have h16 := cond_neg c23 h16
      cases h16
      dsimp only at h
      refine AWc.exit ?_
      refine inBlk_eq ?_
      exact ⟨(y16_2, y16_3), h, ⟨rfl, [], [], rfl, rfl, ⟨⟨_, rfl, (.refl _)⟩, rfl, ⟨⟨_, rfl, (.refl _)⟩, rfl, trivial⟩⟩, ⟨⟨_, rfl, (.refl _)⟩, rfl, rfl, ⟨⟨_, rfl, (.refl _)⟩, rfl, rfl, trivial⟩⟩⟩⟩
  · rintro ⟨j54_1, j54_2⟩ h
    dsimp only at h ⊢
    unfold f72_j54 at h
    refine AWc.seq ?_
    refine AWc.seq ?_
    refine AWc.rg hmix rfl rfl ?_
    refine RegV.p0 rfl rfl rfl ?_
    obtain ⟨r59, e59, h⟩ := bind_some h
    refine RegV.callS (q := false) (H' := [(2, (.cells [(.d (.sl (List.map TPair.enc a1)))])), (0, (.cells [(.row 1 3 j54_1)])), (1, (rowO TPair.enc j54_2))]) (c' := 3) (show ACalls P (N 100) [(.d (.sl (List.map TPair.enc a1)))] [] (.fn (N 113) [(.ptr 2 0)]) [(2, (.cells [(.d (.sl (List.map TPair.enc a1)))]))] from ACalls.use (F100 hmix hc.2.2.1 e59) [(0, 2)] 1 rfl) rfl rfl rfl rfl (.cons (.refl _) .nil) (.refl _) (fun h => by cases h) rfl hasNil rfl rfl rfl rfl ?_
    refine RegV.nil0 ?_
    refine AWc.block ?_
    refine AWc.rangeFunc [(5, (.ptr 0 0))] rfl rfl rfl rfl ⟨rfl, trivial⟩ (fun asgU61 bdU61 haU61 hbU61 => ?_)
    obtain ⟨rf61, ef61, h⟩ := bind_some h
    refine rfN (H' := [(0, (.cells [(.row 4 3 rf61.1)])), (2, (.cells [(.d (.sl (List.map TPair.enc a1)))])), (4, (rowO TPair.enc rf61.2))]) (c' := 5) (show ACalls P (N 113) [(.lf 3), (.ptr 2 0)] [(3, (.lp 67 [(5, (.ptr 0 0))] [28] asgU61 bdU61 .ready none)), (0, (.cells [(.row 1 3 j54_1)])), (1, (rowO TPair.enc j54_2)), (2, (.cells [(.d (.sl (List.map TPair.enc a1)))]))] (.tup []) [(3, (.lp 67 [(5, (.ptr 0 0))] [28] asgU61 bdU61 .ready none)), (0, (.cells [(.row 4 3 rf61.1)])), (2, (.cells [(.d (.sl (List.map TPair.enc a1)))])), (4, (rowO TPair.enc rf61.2))] from ACalls.use (F113 hmix hc.2.2.2 haU61 hbU61 ef61) [(0, 3), (1, 0), (2, 1), (3, 2), (4, 4)] 5 rfl) (.cons (.refl _) (.cons (.refl _) .nil)) (hasCons rfl (hasCons rfl (hasCons rfl (hasCons rfl hasNil)))) rfl rfl rfl rfl rfl ?_
    refine AWc.seq ?_
    refine AWc.rg hmix rfl rfl ?_
    refine RegV.ld (v := (.row 4 3 rf61.1)) (H' := [(0, (.cells [(.row 4 3 rf61.1)])), (2, (.cells [(.d (.sl (List.map TPair.enc a1)))])), (4, (rowO TPair.enc rf61.2))]) rfl rfl trivial rfl rfl rfl rfl rfl ?_
    refine RegV.p0 rfl rfl rfl ?_
    refine RegV.nil0 ?_
    obtain ⟨bs4, h⟩ := gd_some h
    refine AWc.sealB (l0 := 4) (xs := rf61.2) (l' := [(4, (.d (.sl (List.map TPair.enc (List.take rf61.1 rf61.2)))))]) (H' := [(0, (.cells [(.row 4 3 rf61.1)])), (2, (.cells [(.d (.sl (List.map TPair.enc a1)))])), (4, (.tok (rf61.2.length * 3)))]) TPair.ok rfl (.inr rfl) ⟨⟨_, rfl, (.row bs4)⟩, trivial⟩ rfl ?_
    have hr := Option.some.inj h
    subst hr
    exact AWc.ret (canQ (N := 67) (k := 0) (l' := [(4, (.d (.sl (List.map TPair.enc (List.take rf61.1 rf61.2)))))]) (H' := []) rfl ⟨rfl, [], [], rfl, rfl, ⟨⟨_, rfl, (.refl _)⟩, rfl, trivial⟩,  trivial⟩ (doneA (.inr rfl) rfl ⟨trivial, trivial⟩ (.refl _) hasNil))
/-- courant/courantlaw22.awake -/
def C69 (N : Nat → Nat) : AFunc := { n := 17, params := 0, res := [.tmp 0], body :=
 (.seq (.region false [⟨(some 0), .mv (.k (.d (.bool false))), none, []⟩])
  (.seq (.region false [⟨(some 2), .build [(.str []), (.sl []), (.bool false)] [(0, 1, (.k (.d (.str [98]))))], none, []⟩,
    ⟨(some 3), .bslice 1 1 [(.int .u8 0)] [(0, (.k (.d (.int .u8 1))))], none, []⟩,
    ⟨(some 4), .build [(.str []), (.sl []), (.bool false)] [(0, 1, (.k (.d (.str [97])))), (1, 1, (.t 3))], none, [1]⟩,
    ⟨(some 5), .bslice 2 3 [(.str []), (.sl []), (.bool false)] [(0, (.t 2)), (1, (.t 4))], none, [0, 2]⟩,
    ⟨(some 6), .call (.k (.d (.fn (N 72)))) [(.k .nils), (.t 5)], none, [3]⟩,
    ⟨(some 1), .mv (.t 6), none, [4, 0, 1, 2, 3]⟩])
   (.seq (.region false [⟨(some 7), .mv (.t 1), none, []⟩,
     ⟨(some 8), .len (.t 7), none, [0]⟩,
     ⟨(some 9), .bin .eql (.t 8) (.k (.d (.int .i64 2))), none, [1]⟩,
     ⟨(some 10), .mv (.t 9), none, [2]⟩,
     ⟨(some 11), .mv (.t 1), (some (10, true)), [3]⟩,
     ⟨(some 12), .iaddr (.t 11) (.k (.d (.int .i64 0))) 3, (some (10, true)), [4, 3]⟩,
     ⟨(some 13), .faddr (.t 12) 0, (some (10, true)), [5, 3]⟩,
     ⟨(some 14), .load (.t 13) 1 false, (some (10, true)), [6, 3]⟩,
     ⟨(some 15), .bin .eql (.t 14) (.k (.d (.str [97]))), (some (10, true)), [7, 3]⟩,
     ⟨(some 16), .pick (.t 10) (.t 15) (.k (.d (.bool false))), none, [3, 8]⟩,
     ⟨(some 0), .mv (.t 16), none, [9, 3, 0, 1, 2, 4, 5, 6, 7, 8]⟩])
    .ret))) }
def HC69 (P : Program) (N : Nat → Nat) : Prop := HasF P (N 69) (C69 N) ∧ HC72 P N
def f69 (k : Nat) : Option Bool := (f72 k ([] : List TPair) ([(TPair.mk ([98] : List UInt8) ([] : List UInt8) false), (TPair.mk ([97] : List UInt8) ([(1 : UInt8)] : List UInt8) false)] : List TPair)).bind fun r12 => cond (decide (((r12.length : Nat) : Int) = (2 : Int))) (gd (0 ≤ (0 : Int) ∧ (0 : Int) < ((r12.length : Nat) : Int)) (some (decide ((rd r12 (0 : Int)).fKey = ([97] : List UInt8))))) (some false)
theorem F69 {P : Program} {N : Nat → Nat} (hmix : P.follows .mixedOrders = true) (hc : HC69 P N) {k : Nat} {r : Bool} (h : f69 k = some r) :
    ACalls P (N 69) [] [] (.d (.bool r)) [] := by
  refine acalls_canon (F := C69 N) hc.1 0 0 rfl ?_
  unfold f69 at h
  dsimp only [C69, startL]
  refine AWc.seq ?_
  refine AWc.rg hmix rfl rfl ?_
  refine RegV.p0 rfl rfl rfl ?_
  refine RegV.nil0 ?_
  refine AWc.seq ?_
  refine AWc.rg hmix rfl rfl ?_
  refine RegV.p1 (v := (.d (.agg [(.str ([98] : List UInt8)), (.sl (List.map byteD ([] : List UInt8))), (.bool false)]))) rfl rfl (by exact ⟨⟨rfl, Nat.le_of_ble_eq_true rfl⟩, trivial⟩) rfl rfl ?_
  refine RegV.p1 (v := (.d (.sl (List.map byteD ([(1 : UInt8)] : List UInt8))))) rfl rfl (by exact ⟨rfl, Nat.le_of_ble_eq_true rfl, mapLen (e := byteD) (xs := ([(1 : UInt8)] : List UInt8)) (z := 1) (fun _ => rfl)⟩) rfl rfl ?_
  refine RegV.p1 (v := (.d (.agg [(.str ([97] : List UInt8)), (.sl (List.map byteD ([(1 : UInt8)] : List UInt8))), (.bool false)]))) rfl rfl (by exact ⟨⟨rfl, Nat.le_of_ble_eq_true rfl⟩, ⟨⟨rfl, Nat.le_of_ble_eq_true rfl⟩, trivial⟩⟩) rfl rfl ?_
  refine RegV.p1 (v := (.d (.sl (List.map TPair.enc ([(TPair.mk ([98] : List UInt8) ([] : List UInt8) false), (TPair.mk ([97] : List UInt8) ([(1 : UInt8)] : List UInt8) false)] : List TPair))))) rfl rfl (by exact ⟨rfl, Nat.le_of_ble_eq_true rfl, mapLen (e := TPair.enc) (xs := ([(TPair.mk ([98] : List UInt8) ([] : List UInt8) false), (TPair.mk ([97] : List UInt8) ([(1 : UInt8)] : List UInt8) false)] : List TPair)) (z := 3) (fun _ => rfl)⟩) rfl rfl ?_
  obtain ⟨r12, e12, h⟩ := bind_some h
  refine RegV.call0 (F72 hmix hc.2 e12) rfl rfl rfl rfl (.cons (.sl rfl) (.cons (.refl _) .nil)) rfl ?_
  refine RegV.p0 rfl rfl rfl ?_
  refine RegV.nil0 ?_
  refine AWc.seq ?_
  refine AWc.rg hmix rfl rfl ?_
  refine RegV.p0 rfl rfl rfl ?_
  refine RegV.len (xs := r12) (e := TPair.enc) rfl rfl rfl rfl ?_
  refine RegV.p0 (v := (.d (.bool (decide (((r12.length : Nat) : Int) = (2 : Int)))))) rfl rfl rfl ?_
  refine RegV.p0 rfl rfl rfl ?_
  refine RegV.split (fun c20 => ?_) (fun c20 => ?_)
  · have h := cond_pos c20 h
    refine RegV.p0 rfl rfl rfl ?_
    obtain ⟨b22, h⟩ := gd_some h
    refine RegV.iad (xs := r12) (e := TPair.enc) rfl rfl rfl rfl (fun _ => rfl) b22 rfl ?_
    refine RegV.p0 (v := (.cp (TPair.enc (rd r12 (0 : Int))) 0)) rfl rfl rfl ?_
    refine RegV.p0 (v := (.d (.str (rd r12 (0 : Int)).fKey))) rfl rfl rfl ?_
    refine RegV.p0 (v := (.d (.bool (decide ((rd r12 (0 : Int)).fKey = ([97] : List UInt8)))))) rfl rfl rfl ?_
    refine RegV.p0 rfl rfl rfl ?_
    refine RegV.p0 rfl rfl rfl ?_
    refine RegV.nil0 ?_
    have hr := Option.some.inj h
    subst hr
    exact AWc.ret (canQ (N := 17) (k := 0) (l' := [(0, (.d (.bool (decide ((rd r12 (0 : Int)).fKey = ([97] : List UInt8))))))]) (H' := []) rfl ⟨rfl, [], [], rfl, rfl, ⟨⟨_, rfl, (.refl _)⟩, rfl, trivial⟩,  trivial⟩ (doneA (.inr rfl) rfl ⟨trivial, trivial⟩ (.refl _) hasNil))
  · have h := cond_neg c20 h
    refine RegV.noS rfl rfl ?_
    refine RegV.noS rfl rfl ?_
    refine RegV.noS rfl rfl ?_
    refine RegV.noS rfl rfl ?_
    refine RegV.noS rfl rfl ?_
    refine RegV.p0 rfl rfl rfl ?_
    refine RegV.p0 rfl rfl rfl ?_
    refine RegV.nil0 ?_
    have hr := Option.some.inj h
    subst hr
    exact AWc.ret (canQ (N := 17) (k := 0) (l' := [(0, (.d (.bool false)))]) (H' := []) rfl ⟨rfl, [], [], rfl, rfl, ⟨⟨_, rfl, (.refl _)⟩, rfl, trivial⟩,  trivial⟩ (doneA (.inr rfl) rfl ⟨trivial, trivial⟩ (.refl _) hasNil))
/-- courant/couranthelp.CopyBytes -/
def C97 (N : Nat → Nat) : AFunc := { n := 5, params := 1, res := [.tmp 2], body :=
 (.seq (.region false [⟨(some 2), .mv (.k .nils), none, []⟩])
  (.seq (.region false [⟨(some 3), .mv (.t 0), none, []⟩,
    ⟨(some 4), .app (.k .nils) (.t 3) 1 1 [(.int .u8 0)], none, [0]⟩,
    ⟨(some 2), .mv (.t 4), none, [1, 0]⟩])
   .ret)) }
def HC97 (P : Program) (N : Nat → Nat) : Prop := HasF P (N 97) (C97 N)
def f97 (k : Nat) (a0 : (List UInt8)) : Option Unit := gd (a0.length * 1 ≤ 281474976710656) (some ())
theorem F97 {P : Program} {N : Nat → Nat} (hmix : P.follows .mixedOrders = true) (hc : HC97 P N) {k : Nat} {a0 : (List UInt8)} {r : Unit} (h : f97 k a0 = some r) :
    ACalls P (N 97) [(.d (.sl (List.map byteD a0)))] [] (.ap 0 1 (List.map byteD a0)) [(0, (.tok ((List.map byteD a0).length * 1)))] := by
  refine acalls_canon (F := C97 N) hc 0 1 rfl ?_
  unfold f97 at h
  dsimp only [C97, startL]
  refine AWc.seq ?_
  refine AWc.rg hmix rfl rfl ?_
  refine RegV.p0 rfl rfl rfl ?_
  refine RegV.nil0 ?_
  refine AWc.seq ?_
  refine AWc.rg hmix rfl rfl ?_
  refine RegV.p0 rfl rfl rfl ?_
  obtain ⟨b9, h⟩ := gd_some h
  refine RegV.appN (ys := a0) (e := byteD) rfl rfl rfl (fun _ => rfl) rfl rfl b9 rfl rfl ?_
  refine RegV.p0 rfl rfl rfl ?_
  refine RegV.nil0 ?_
  have hr := Option.some.inj h
  subst hr
  exact AWc.ret (canQ (N := 5) (k := 1) (l' := [(2, (.ap 0 1 (List.map byteD a0)))]) (H' := [(0, (.tok ((List.map byteD a0).length * 1)))]) rfl ⟨rfl, [], [], rfl, rfl, ⟨⟨_, rfl, (.refl _)⟩, rfl, trivial⟩, ⟨⟨_, rfl, (.refl _)⟩, rfl, rfl, trivial⟩⟩ (doneA (.inr rfl) rfl ⟨trivial, trivial⟩ (.refl _) (hasCons rfl hasNil)))
/-- courant/couranthelp.CopyPairs -/
def C71 (N : Nat → Nat) : AFunc := { n := 32, params := 1, res := [.tmp 2], body :=
 (.seq (.region false [⟨(some 2), .mv (.k .nils), none, []⟩])
  (.seq (.region false [⟨(some 3), .mv (.k .nils), none, []⟩])
   (.seq (.seq (.region false [⟨(some 4), .mv (.k (.d (.int .i64 0))), none, []⟩])
     (.block 0 (.loop (.seq (.seq (.region false [⟨(some 5), .mv (.t 4), none, []⟩,
          ⟨(some 6), .mv (.t 0), none, []⟩,
          ⟨(some 7), .len (.t 6), none, [1]⟩,
          ⟨(some 8), .bin .lss (.t 5) (.t 7), none, [0, 2]⟩])
         (.cond (.t 8) (.skip)
          (.exit 0)))
        (.seq (.block 1 (.region true [⟨(some 11), .mv (.t 3), none, []⟩,
           ⟨(some 12), .mv (.t 0), none, []⟩,
           ⟨(some 13), .mv (.t 4), none, []⟩,
           ⟨(some 14), .iaddr (.t 12) (.t 13) 3, none, [1, 2]⟩,
           ⟨(some 15), .faddr (.t 14) 0, none, [3]⟩,
           ⟨(some 16), .load (.t 15) 1 false, none, [4]⟩,
           ⟨(some 17), .mv (.t 0), none, []⟩,
           ⟨(some 18), .mv (.t 4), none, []⟩,
           ⟨(some 19), .iaddr (.t 17) (.t 18) 3, none, [6, 7]⟩,
           ⟨(some 20), .faddr (.t 19) 1, none, [8]⟩,
           ⟨(some 21), .load (.t 20) 1 false, none, [9]⟩,
           ⟨(some 22), .call (.k (.d (.fn (N 97)))) [(.t 21)], none, [10]⟩,
           ⟨(some 23), .mv (.t 0), none, []⟩,
           ⟨(some 24), .mv (.t 4), none, []⟩,
           ⟨(some 25), .iaddr (.t 23) (.t 24) 3, none, [12, 13]⟩,
           ⟨(some 26), .faddr (.t 25) 2, none, [14]⟩,
           ⟨(some 27), .load (.t 26) 1 false, none, [15]⟩,
           ⟨(some 28), .build [(.str []), (.sl []), (.bool false)] [(0, 1, (.t 16)), (1, 1, (.t 22)), (2, 1, (.t 27))], none, [5, 11, 16]⟩,
           ⟨(some 29), .bslice 1 3 [(.str []), (.sl []), (.bool false)] [(0, (.t 28))], none, [17]⟩,
           ⟨(some 30), .app (.t 11) (.t 29) 3 48 [(.str []), (.sl []), (.bool false)], none, [0, 18, 11]⟩,
           ⟨(some 3), .mv (.t 30), none, [19, 0, 1, 2, 3, 4, 5, 6, 7, 8, 9, 10, 11, 12, 13, 14, 15, 16, 17, 18]⟩]))
         (.region false [⟨(some 9), .mv (.t 4), none, []⟩,
          ⟨(some 10), .bin .add (.t 9) (.k (.d (.int .i64 1))), none, [0]⟩,
          ⟨(some 4), .mv (.t 10), none, [1, 0]⟩]))))))
    (.seq (.region false [⟨(some 31), .mv (.t 3), none, []⟩,
      ⟨(some 2), .mv (.t 31), none, [0]⟩])
     .ret)))) }
def HC71 (P : Program) (N : Nat → Nat) : Prop := HasF P (N 71) (C71 N) ∧ HC97 P N
def f71_l14 (a0 : (List TPair)) : Nat → (List TPair) → Int → Option (LR2 (List TPair) Unit (List TPair))
  | 0, _, _ => none
  | k + 1, y14_1, y14_2 => cond (decide (y14_2 < ((a0.length : Nat) : Int))) (gd (0 ≤ y14_2 ∧ y14_2 < ((a0.length : Nat) : Int)) (gd (0 ≤ y14_2 ∧ y14_2 < ((a0.length : Nat) : Int)) ((f97 k ((rd a0 y14_2).fValue)).bind fun r42 => gd (0 ≤ y14_2 ∧ y14_2 < ((a0.length : Nat) : Int)) (gd ((y14_1.length + ([(TPair.mk ((rd a0 y14_2).fKey) ((rd a0 y14_2).fValue) ((rd a0 y14_2).fGone))] : List TPair).length) * 2 * 48 ≤ 281474976710656) (f71_l14 a0 k (y14_1 ++ ([(TPair.mk ((rd a0 y14_2).fKey) ((rd a0 y14_2).fValue) ((rd a0 y14_2).fGone))] : List TPair)) (IntKind.i64.wrap (y14_2 + (1 : Int)))))))) (some (.b0 y14_1))
def f71 (k : Nat) (a0 : (List TPair)) : Option (List TPair) := (f71_l14 a0 k ([] : List TPair) (0 : Int)).bind fun o14 => (match o14 with | .b0 x14_1 => some x14_1 | _ => none)
theorem F71 {P : Program} {N : Nat → Nat} (hmix : P.follows .mixedOrders = true) (hc : HC71 P N) {k : Nat} {a0 : (List TPair)} {r : (List TPair)} (h : f71 k a0 = some r) :
    ACalls P (N 71) [(.d (.sl (List.map TPair.enc a0)))] [] (.ap 0 3 (List.map TPair.enc r)) [(0, (.tok ((List.map TPair.enc r).length * 3)))] := by
  refine acalls_canon (F := C71 N) hc.1 0 1 rfl ?_
  unfold f71 at h
  dsimp only [C71, startL]
  refine AWc.seq ?_
  refine AWc.rg hmix rfl rfl ?_
  refine RegV.p0 rfl rfl rfl ?_
  refine RegV.nil0 ?_
  refine AWc.seq ?_
  refine AWc.rg hmix rfl rfl ?_
  refine RegV.p0 rfl rfl rfl ?_
  refine RegV.nil0 ?_
  refine AWc.seq ?_
  refine AWc.seq ?_
  refine AWc.rg hmix rfl rfl ?_
  refine RegV.p0 rfl rfl rfl ?_
  refine RegV.nil0 ?_
  obtain ⟨o14, h14, h⟩ := bind_some h
  refine AWc.block ?_
  refine AWc.loopK (N := 32) 1 (fun (x : ((List TPair) × Int)) => [(0, (.d (.sl (List.map TPair.enc a0)))), (3, (.ap 0 3 (List.map TPair.enc x.1))), (4, (.d (.int .i64 x.2)))]) (fun x => [(0, (.tok ((List.map TPair.enc x.1).length * 3)))]) (fun k x => f71_l14 a0 k x.1 x.2 = some o14) k (([] : List TPair), (0 : Int)) rfl_le (fun x hx => by cases hx) h14 ⟨rfl, [.tok 0], [(0, 0)], rfl, rfl, ⟨⟨_, rfl, (.refl _)⟩, rfl, ⟨⟨_, rfl, .nil⟩, rfl, ⟨⟨_, rfl, (.refl _)⟩, rfl, trivial⟩⟩⟩, ⟨⟨_, rfl, (.refl _)⟩, rfl, rfl, trivial⟩⟩ ?_
  clear h14
  intro k
  rintro ⟨y14_1, y14_2⟩ h14
  dsimp only at h14 ⊢
  rw [f71_l14] at h14
  refine AWc.seq ?_
  refine AWc.seq ?_
  refine AWc.rg hmix rfl rfl ?_
  refine RegV.p0 rfl rfl rfl ?_
  refine RegV.p0 rfl rfl rfl ?_
  refine RegV.len (xs := a0) (e := TPair.enc) rfl rfl rfl rfl ?_
  refine RegV.p0 (v := (.d (.bool (decide (y14_2 < ((a0.length : Nat) : Int)))))) rfl rfl rfl ?_
  refine RegV.nil0 ?_
  refine AWc.cond rfl (fun c24 => ?_) (fun c24 => ?_)
  · have h14 := cond_pos c24 h14
    refine AWc.skip ?_
    refine AWc.seq ?_
    refine AWc.block ?_
    refine AWc.rg hmix rfl rfl ?_
    refine RegV.p0 rfl rfl rfl ?_
    refine RegV.p0 rfl rfl rfl ?_
    refine RegV.p0 rfl rfl rfl ?_
    obtain ⟨b34, h14⟩ := gd_some h14
    refine RegV.iad (xs := a0) (e := TPair.enc) rfl rfl rfl rfl (fun _ => rfl) b34 rfl ?_
    refine RegV.p0 (v := (.cp (TPair.enc (rd a0 y14_2)) 0)) rfl rfl rfl ?_
    refine RegV.p0 (v := (.d (.str (rd a0 y14_2).fKey))) rfl rfl rfl ?_
    refine RegV.p0 rfl rfl rfl ?_
    refine RegV.p0 rfl rfl rfl ?_
    obtain ⟨b39, h14⟩ := gd_some h14
    refine RegV.iad (xs := a0) (e := TPair.enc) rfl rfl rfl rfl (fun _ => rfl) b39 rfl ?_
    refine RegV.p0 (v := (.cp (TPair.enc (rd a0 y14_2)) 1)) rfl rfl rfl ?_
    refine RegV.p0 (v := (.d (.sl (List.map byteD (rd a0 y14_2).fValue)))) rfl rfl rfl ?_
    obtain ⟨r42, e42, h14⟩ := bind_some h14
    refine RegV.callS (q := false) (H' := [(1, (.tok ((List.map byteD ((rd a0 y14_2).fValue)).length * 1))), (0, (.tok ((List.map TPair.enc y14_1).length * 3)))]) (c' := 2) (show ACalls P (N 97) [(.d (.sl (List.map byteD ((rd a0 y14_2).fValue))))] [] (.ap 1 1 (List.map byteD ((rd a0 y14_2).fValue))) [(1, (.tok ((List.map byteD ((rd a0 y14_2).fValue)).length * 1)))] from ACalls.use (F97 hmix hc.2 e42) [(0, 1)] 1 rfl) rfl rfl rfl rfl (.cons (.refl _) .nil) (.refl _) (fun h => by cases h) rfl hasNil rfl rfl rfl rfl ?_
    refine RegV.p0 rfl rfl rfl ?_
    refine RegV.p0 rfl rfl rfl ?_
    obtain ⟨b45, h14⟩ := gd_some h14
    refine RegV.iad (xs := a0) (e := TPair.enc) rfl rfl rfl rfl (fun _ => rfl) b45 rfl ?_
    refine RegV.p0 (v := (.cp (TPair.enc (rd a0 y14_2)) 2)) rfl rfl rfl ?_
    refine RegV.p0 (v := (.d (.bool (rd a0 y14_2).fGone))) rfl rfl rfl ?_
    refine RegV.p1 (v := (.d (.agg [(.str (rd a0 y14_2).fKey), (.sl (List.map byteD ((rd a0 y14_2).fValue))), (.bool (rd a0 y14_2).fGone)]))) rfl rfl (by exact ⟨⟨rfl, Nat.le_of_ble_eq_true rfl⟩, ⟨⟨rfl, Nat.le_of_ble_eq_true rfl⟩, ⟨⟨rfl, Nat.le_of_ble_eq_true rfl⟩, trivial⟩⟩⟩) rfl rfl ?_
    refine RegV.p1 (v := (.d (.sl (List.map TPair.enc ([(TPair.mk ((rd a0 y14_2).fKey) ((rd a0 y14_2).fValue) ((rd a0 y14_2).fGone))] : List TPair))))) rfl rfl (by exact ⟨rfl, Nat.le_of_ble_eq_true rfl, mapLen (e := TPair.enc) (xs := ([(TPair.mk ((rd a0 y14_2).fKey) ((rd a0 y14_2).fValue) ((rd a0 y14_2).fGone))] : List TPair)) (z := 3) (fun _ => rfl)⟩) rfl rfl ?_
    obtain ⟨b50, h14⟩ := gd_some h14
    refine RegV.appA (xs := y14_1) (ys := ([(TPair.mk ((rd a0 y14_2).fKey) ((rd a0 y14_2).fValue) ((rd a0 y14_2).fGone))] : List TPair)) (e := TPair.enc) (H1 := [(1, (.tok ((List.map byteD ((rd a0 y14_2).fValue)).length * 1)))]) rfl rfl rfl rfl (fun _ => rfl) rfl rfl b50 rfl rfl rfl ?_
    refine RegV.p0 rfl rfl rfl ?_
    refine RegV.nil1 (by kernel_rfl) ?_
    refine AWc.rg hmix rfl rfl ?_
    refine RegV.p0 rfl rfl rfl ?_
    refine RegV.p0 (v := (.d (.int .i64 (IntKind.i64.wrap (y14_2 + (1 : Int)))))) rfl rfl rfl ?_
    refine RegV.p0 rfl rfl rfl ?_
    refine RegV.nil0 ?_
    exact ⟨((y14_1 ++ ([(TPair.mk ((rd a0 y14_2).fKey) ((rd a0 y14_2).fValue) ((rd a0 y14_2).fGone))] : List TPair)), (IntKind.i64.wrap (y14_2 + (1 : Int)))), h14, ⟨rfl, [], [(0, 2)], rfl, rfl, ⟨⟨_, rfl, (.refl _)⟩, rfl, ⟨⟨_, rfl, (.refl _)⟩, rfl, ⟨⟨_, rfl, (.refl _)⟩, rfl, trivial⟩⟩⟩, ⟨⟨_, rfl, (.refl _)⟩, rfl, rfl, trivial⟩⟩⟩
  · have h14 := cond_neg c24 h14
    cases h14
    dsimp only at h
    refine AWc.exit ?_
    refine inBlk_eq ?_
    refine AWc.seq ?_
    refine AWc.rg hmix rfl rfl ?_
    refine RegV.p0 rfl rfl rfl ?_
    refine RegV.p0 rfl rfl rfl ?_
    refine RegV.nil0 ?_
    have hr := Option.some.inj h
    subst hr
    exact AWc.ret (canQ (N := 32) (k := 1) (l' := [(2, (.ap 0 3 (List.map TPair.enc y14_1)))]) (H' := [(0, (.tok ((List.map TPair.enc y14_1).length * 3)))]) rfl ⟨rfl, [], [], rfl, rfl, ⟨⟨_, rfl, (.refl _)⟩, rfl, trivial⟩, ⟨⟨_, rfl, (.refl _)⟩, rfl, rfl, trivial⟩⟩ (doneA (.inr rfl) rfl ⟨trivial, trivial⟩ (.refl _) (hasCons rfl hasNil)))
/-- courant/couranthelp.Own[byte] -/
def C21 (N : Nat → Nat) : AFunc := { n := 33, params := 2, res := [.tmp 4], body :=
 (.seq (.region false [⟨(some 4), .mv (.k .nils), none, []⟩])
  (.seq (.region false [⟨(some 8), .mv (.t 0), none, []⟩,
    ⟨(some 9), .len (.t 8), none, [0]⟩,
    ⟨(some 10), .bin .add (.t 9) (.k (.d (.int .i64 3))), none, [1]⟩,
    ⟨(some 11), .mksl (.k (.d (.int .i64 0))) (.t 10) 1 1 [(.int .u8 0)], none, [2]⟩,
    ⟨(some 5), .mv (.t 11), none, [3, 0, 1, 2]⟩])
   (.seq (.region false [⟨(some 12), .mv (.t 5), none, []⟩,
     ⟨(some 13), .mv (.t 0), none, []⟩,
     ⟨(some 14), .app (.t 12) (.t 13) 1 1 [(.int .u8 0)], none, [0, 1]⟩,
     ⟨(some 5), .mv (.t 14), none, [2, 0, 1]⟩])
    (.seq (.region false [⟨(some 15), .mv (.t 5), none, []⟩,
      ⟨(some 16), .mv (.t 0), none, []⟩,
      ⟨(some 17), .len (.t 16), none, [1]⟩,
      ⟨(some 18), .bin .add (.t 17) (.k (.d (.int .i64 3))), none, [2]⟩,
      ⟨(some 19), .slc (.t 15) none (some (.t 18)) none 1, none, [0, 3]⟩,
      ⟨(some 6), .mv (.t 19), none, [4, 0, 1, 2, 3]⟩])
     (.seq (.seq (.region false [⟨(some 20), .mv (.t 0), none, []⟩,
        ⟨(some 21), .len (.t 20), none, [0]⟩,
        ⟨(some 7), .mv (.t 21), none, [1, 0]⟩])
       (.block 0 (.loop (.seq (.seq (.region false [⟨(some 22), .mv (.t 7), none, []⟩,
            ⟨(some 23), .mv (.t 6), none, []⟩,
            ⟨(some 24), .len (.t 23), none, [1]⟩,
            ⟨(some 25), .bin .lss (.t 22) (.t 24), none, [0, 2]⟩])
           (.cond (.t 25) (.skip)
            (.exit 0)))
          (.seq (.block 1 (.region false [⟨(some 28), .mv (.t 6), none, []⟩,
             ⟨(some 29), .mv (.t 7), none, []⟩,
             ⟨(some 30), .mv (.t 1), none, []⟩,
             ⟨(some 31), .iaddr (.t 28) (.t 29) 1, none, [0, 1, 2]⟩,
             ⟨none, .store (.t 31) (.t 30) 1, none, [3, 2, 0, 1]⟩]))
           (.region false [⟨(some 26), .mv (.t 7), none, []⟩,
            ⟨(some 27), .bin .add (.t 26) (.k (.d (.int .i64 1))), none, [0]⟩,
            ⟨(some 7), .mv (.t 27), none, [1, 0]⟩]))))))
      (.seq (.region false [⟨(some 32), .mv (.t 5), none, []⟩,
        ⟨(some 4), .mv (.t 32), none, [0]⟩])
       .ret)))))) }
def HC21 (P : Program) (N : Nat → Nat) : Prop := HasF P (N 21) (C21 N)
def f21_l36 (a0 : (List UInt8)) (a1 : UInt8) : Nat → Int → (List UInt8) → Option (LR2 (List UInt8) Unit (List UInt8))
  | 0, _, _ => none
  | k + 1, y36_1, y36_2 => cond (decide (y36_1 < ((((IntKind.i64.wrap (((a0.length : Nat) : Int) + (3 : Int)))).toNat : Nat) : Int))) (gd (0 ≤ y36_1 ∧ y36_1 < ((((IntKind.i64.wrap (((a0.length : Nat) : Int) + (3 : Int)))).toNat : Nat) : Int)) (gd ((y36_1).toNat < y36_2.length) (f21_l36 a0 a1 k (IntKind.i64.wrap (y36_1 + (1 : Int))) (List.set y36_2 (y36_1).toNat a1)))) (some (.b0 y36_2))
def f21 (k : Nat) (a0 : (List UInt8)) (a1 : UInt8) : Option (List UInt8) := gd (0 ≤ (0 : Int) ∧ (0 : Int) ≤ (IntKind.i64.wrap (((a0.length : Nat) : Int) + (3 : Int))) ∧ (IntKind.i64.wrap (((a0.length : Nat) : Int) + (3 : Int))) * 1 ≤ 281474976710656) (gd (((0 : Int)).toNat + a0.length ≤ ((IntKind.i64.wrap (((a0.length : Nat) : Int) + (3 : Int)))).toNat ∧ ((IntKind.i64.wrap (((a0.length : Nat) : Int) + (3 : Int)))).toNat ≤ (List.replicate ((IntKind.i64.wrap (((a0.length : Nat) : Int) + (3 : Int)))).toNat (default : UInt8)).length) (gd (0 ≤ (IntKind.i64.wrap (((a0.length : Nat) : Int) + (3 : Int))) ∧ (IntKind.i64.wrap (((a0.length : Nat) : Int) + (3 : Int))) ≤ ((((IntKind.i64.wrap (((a0.length : Nat) : Int) + (3 : Int)))).toNat : Nat) : Int)) ((f21_l36 a0 a1 k ((a0.length : Nat) : Int) (List.take (((0 : Int)).toNat) (List.replicate ((IntKind.i64.wrap (((a0.length : Nat) : Int) + (3 : Int)))).toNat (default : UInt8)) ++ a0 ++ List.drop (((0 : Int)).toNat + a0.length) (List.replicate ((IntKind.i64.wrap (((a0.length : Nat) : Int) + (3 : Int)))).toNat (default : UInt8)))).bind fun o36 => (match o36 with | .b0 x36_1 => gd (((((0 : Int)).toNat + a0.length) ≤ x36_1.length ∧ ((IntKind.i64.wrap (((a0.length : Nat) : Int) + (3 : Int)))).toNat = x36_1.length)) (some x36_1) | _ => none))))
theorem F21 {P : Program} {N : Nat → Nat} (hmix : P.follows .mixedOrders = true) (hc : HC21 P N) {k : Nat} {a0 : (List UInt8)} {a1 : UInt8} {r : (List UInt8)} (h : f21 k a0 a1 = some r) :
    ACalls P (N 21) [(.d (.sl (List.map byteD a0))), (.d (.int .u8 ((a1.toNat : Nat) : Int)))] [] (.win (List.map byteD r) (((0 : Int)).toNat + a0.length)) [] := by
  refine acalls_canon (F := C21 N) hc 0 0 rfl ?_
  unfold f21 at h
  dsimp only [C21, startL]
  refine AWc.seq ?_
  refine AWc.rg hmix rfl rfl ?_
  refine RegV.p0 rfl rfl rfl ?_
  refine RegV.nil0 ?_
  refine AWc.seq ?_
  refine AWc.rg hmix rfl rfl ?_
  refine RegV.p0 rfl rfl rfl ?_
  refine RegV.len (xs := a0) (e := byteD) rfl rfl rfl rfl ?_
  refine RegV.p0 (v := (.d (.int .i64 (IntKind.i64.wrap (((a0.length : Nat) : Int) + (3 : Int)))))) rfl rfl rfl ?_
  obtain ⟨b11, h⟩ := gd_some h
  refine RegV.mkS (e := byteD) (a0 := default) rfl rfl rfl byteD_ok rfl rfl b11 rfl rfl ?_
  refine RegV.p0 rfl rfl rfl ?_
  refine RegV.nil0 ?_
  refine AWc.seq ?_
  refine AWc.rg hmix rfl rfl ?_
  refine RegV.p0 rfl rfl rfl ?_
  refine RegV.p0 rfl rfl rfl ?_
  obtain ⟨b18, h⟩ := gd_some h
  refine RegV.apS (xs := (List.replicate ((IntKind.i64.wrap (((a0.length : Nat) : Int) + (3 : Int)))).toNat (default : UInt8))) (ys := a0) (e := byteD) (H' := [(0, (cellsO byteD (List.take (((0 : Int)).toNat) (List.replicate ((IntKind.i64.wrap (((a0.length : Nat) : Int) + (3 : Int)))).toNat (default : UInt8)) ++ a0 ++ List.drop (((0 : Int)).toNat + a0.length) (List.replicate ((IntKind.i64.wrap (((a0.length : Nat) : Int) + (3 : Int)))).toNat (default : UInt8)))))]) rfl rfl rfl rfl byteD_ok rfl rfl b18 rfl rfl rfl rfl ?_
  refine RegV.p0 rfl rfl rfl ?_
  refine RegV.nil0 ?_
  refine AWc.seq ?_
  refine AWc.rg hmix rfl rfl ?_
  refine RegV.p0 rfl rfl rfl ?_
  refine RegV.p0 rfl rfl rfl ?_
  refine RegV.len (xs := a0) (e := byteD) rfl rfl rfl rfl ?_
  refine RegV.p0 (v := (.d (.int .i64 (IntKind.i64.wrap (((a0.length : Nat) : Int) + (3 : Int)))))) rfl rfl rfl ?_
  obtain ⟨b27, h⟩ := gd_some h
  refine RegV.slH (hi := (IntKind.i64.wrap (((a0.length : Nat) : Int) + (3 : Int)))) rfl rfl rfl b27 rfl ?_
  refine RegV.p0 rfl rfl rfl ?_
  refine RegV.nil0 ?_
  refine AWc.seq ?_
  refine AWc.seq ?_
  refine AWc.rg hmix rfl rfl ?_
  refine RegV.p0 rfl rfl rfl ?_
  refine RegV.len (xs := a0) (e := byteD) rfl rfl rfl rfl ?_
  refine RegV.p0 rfl rfl rfl ?_
  refine RegV.nil0 ?_
  obtain ⟨o36, h36, h⟩ := bind_some h
  refine AWc.block ?_
  refine AWc.loopK (N := 33) 1 (fun (x : (Int × (List UInt8))) => [(1, (.d (.int .u8 ((a1.toNat : Nat) : Int)))), (5, (.sl 0 0 (((0 : Int)).toNat + a0.length) (((IntKind.i64.wrap (((a0.length : Nat) : Int) + (3 : Int)))).toNat) 1)), (6, (.sl 0 0 (((IntKind.i64.wrap (((a0.length : Nat) : Int) + (3 : Int)))).toNat) (((IntKind.i64.wrap (((a0.length : Nat) : Int) + (3 : Int)))).toNat) 1)), (7, (.d (.int .i64 x.1)))]) (fun x => [(0, (cellsO byteD x.2))]) (fun k x => f21_l36 a0 a1 k x.1 x.2 = some o36) k (((a0.length : Nat) : Int), (List.take (((0 : Int)).toNat) (List.replicate ((IntKind.i64.wrap (((a0.length : Nat) : Int) + (3 : Int)))).toNat (default : UInt8)) ++ a0 ++ List.drop (((0 : Int)).toNat + a0.length) (List.replicate ((IntKind.i64.wrap (((a0.length : Nat) : Int) + (3 : Int)))).toNat (default : UInt8)))) rfl_le (fun x hx => by cases hx) h36 ⟨rfl, [], [], rfl, rfl, ⟨⟨_, rfl, (.refl _)⟩, rfl, ⟨⟨_, rfl, (.refl _)⟩, rfl, ⟨⟨_, rfl, (.refl _)⟩, rfl, ⟨⟨_, rfl, (.refl _)⟩, rfl, trivial⟩⟩⟩⟩, ⟨⟨_, rfl, (.refl _)⟩, rfl, rfl, trivial⟩⟩ ?_
  clear h36
  intro k
  rintro ⟨y36_1, y36_2⟩ h36
  dsimp only at h36 ⊢
  rw [f21_l36] at h36
  refine AWc.seq ?_
  refine AWc.seq ?_
  refine AWc.rg hmix rfl rfl ?_
  refine RegV.p0 rfl rfl rfl ?_
  refine RegV.p0 rfl rfl rfl ?_
  refine RegV.p0 (v := (.d (.int .i64 ((((IntKind.i64.wrap (((a0.length : Nat) : Int) + (3 : Int)))).toNat : Nat) : Int)))) rfl rfl rfl ?_
  refine RegV.p0 (v := (.d (.bool (decide (y36_1 < ((((IntKind.i64.wrap (((a0.length : Nat) : Int) + (3 : Int)))).toNat : Nat) : Int)))))) rfl rfl rfl ?_
  refine RegV.nil0 ?_
  refine AWc.cond rfl (fun c46 => ?_) (fun c46 => ?_)
  · have h36 := cond_pos c46 h36
    refine AWc.skip ?_
    refine AWc.seq ?_
    refine AWc.block ?_
    refine AWc.rg hmix rfl rfl ?_
    refine RegV.p0 rfl rfl rfl ?_
    refine RegV.p0 rfl rfl rfl ?_
    refine RegV.p0 rfl rfl rfl ?_
    obtain ⟨b56, h36⟩ := gd_some h36
    refine RegV.iaS0 (z := 1) rfl rfl rfl b56 rfl ?_
    obtain ⟨b57, h36⟩ := gd_some h36
    refine RegV.stS (e := byteD) (xs := y36_2) (i := (y36_1).toNat) (v := a1) (H' := [(0, (cellsO byteD (List.set y36_2 (y36_1).toNat a1)))]) rfl rfl rfl rfl byteD_ok rfl b57 rfl rfl rfl ?_
    refine RegV.nil0 ?_
    refine AWc.rg hmix rfl rfl ?_
    refine RegV.p0 rfl rfl rfl ?_
    refine RegV.p0 (v := (.d (.int .i64 (IntKind.i64.wrap (y36_1 + (1 : Int)))))) rfl rfl rfl ?_
    refine RegV.p0 rfl rfl rfl ?_
    refine RegV.nil0 ?_
    exact ⟨((IntKind.i64.wrap (y36_1 + (1 : Int))), (List.set y36_2 (y36_1).toNat a1)), h36, ⟨rfl, [], [], rfl, rfl, ⟨⟨_, rfl, (.refl _)⟩, rfl, ⟨⟨_, rfl, (.refl _)⟩, rfl, ⟨⟨_, rfl, (.refl _)⟩, rfl, ⟨⟨_, rfl, (.refl _)⟩, rfl, trivial⟩⟩⟩⟩, ⟨⟨_, rfl, (.refl _)⟩, rfl, rfl, trivial⟩⟩⟩
  · have h36 := cond_neg c46 h36
    cases h36
    dsimp only at h
    refine AWc.exit ?_
    refine inBlk_eq ?_
    refine AWc.seq ?_
    refine AWc.rg hmix rfl rfl ?_
    refine RegV.p0 rfl rfl rfl ?_
    refine RegV.p0 rfl rfl rfl ?_
    refine RegV.nil0 ?_
    obtain ⟨bs0, h⟩ := gd_some h
    refine AWc.seal (l0 := 0) (xs := y36_2) (l' := [(4, (.win (List.map byteD y36_2) (((0 : Int)).toNat + a0.length)))]) (H' := [(0, (.tok (y36_2.length * 1)))]) byteD_ok rfl ⟨⟨_, rfl, .win bs0⟩, trivial⟩ rfl ?_
    have hr := Option.some.inj h
    subst hr
    exact AWc.ret (canQ (N := 33) (k := 0) (l' := [(4, (.win (List.map byteD y36_2) (((0 : Int)).toNat + a0.length)))]) (H' := []) rfl ⟨rfl, [], [], rfl, rfl, ⟨⟨_, rfl, (.refl _)⟩, rfl, trivial⟩,  trivial⟩ (doneA (.inr rfl) rfl ⟨trivial, trivial⟩ (.refl _) hasNil))
/-- courant/code.New -/
def C30 (N : Nat → Nat) : AFunc := { n := 7, params := 1, res := [.tmp 2], body :=
 (.seq (.region false [⟨(some 2), .mv (.k (.d .nilp)), none, []⟩])
  (.seq (.region false [⟨(some 3), .mv (.t 0), none, []⟩,
    ⟨(some 4), .app (.k .nils) (.t 3) 1 1 [(.int .u8 0)], none, [0]⟩,
    ⟨(some 5), .build [(.sl []), (.int .i64 0), (.int .i64 0)] [(0, 1, (.t 4))], none, [1]⟩,
    ⟨(some 6), .box (.t 5), none, [2]⟩,
    ⟨(some 2), .mv (.t 6), none, [3, 1, 0, 2]⟩])
   .ret)) }
def HC30 (P : Program) (N : Nat → Nat) : Prop := HasF P (N 30) (C30 N)
def f30 (k : Nat) (a0 : (List UInt8)) : Option Unit := gd (a0.length * 1 ≤ 281474976710656) (some ())
theorem F30 {P : Program} {N : Nat → Nat} (hmix : P.follows .mixedOrders = true) (hc : HC30 P N) {k : Nat} {a0 : (List UInt8)} {r : Unit} (h : f30 k a0 = some r) :
    ACalls P (N 30) [(.d (.sl (List.map byteD a0)))] [] (.ptr 0 0) [(0, (.cells [(.d (.sl (List.map byteD a0))), (.d (.int .i64 (0 : Int))), (.d (.int .i64 (0 : Int)))]))] := by
  refine acalls_canon (F := C30 N) hc 0 1 rfl ?_
  unfold f30 at h
  dsimp only [C30, startL]
  refine AWc.seq ?_
  refine AWc.rg hmix rfl rfl ?_
  refine RegV.p0 rfl rfl rfl ?_
  refine RegV.nil0 ?_
  refine AWc.seq ?_
  refine AWc.rg hmix rfl rfl ?_
  refine RegV.p0 rfl rfl rfl ?_
  obtain ⟨b9, h⟩ := gd_some h
  refine RegV.appN (ys := a0) (e := byteD) rfl rfl rfl (fun _ => rfl) rfl rfl b9 rfl rfl ?_
  refine RegV.p1 (v := (.d (.agg [(.sl (List.map byteD a0)), (.int .i64 (0 : Int)), (.int .i64 (0 : Int))]))) rfl rfl (by exact ⟨⟨rfl, Nat.le_of_ble_eq_true rfl⟩, trivial⟩) rfl rfl ?_
  refine RegV.evS (own := false) (v := (.ptr 1 0)) (H' := [(1, (.cells [(.d (.sl (List.map byteD a0))), (.d (.int .i64 (0 : Int))), (.d (.int .i64 (0 : Int)))])), (0, (.tok ((List.map byteD a0).length * 1)))]) (c' := 2) rfl rfl trivial rfl rfl rfl rfl rfl rfl ?_
  refine RegV.p0 rfl rfl rfl ?_
  refine RegV.nil0 ?_
  have hr := Option.some.inj h
  subst hr
  exact AWc.ret (canQ (N := 7) (k := 1) (l' := [(2, (.ptr 0 0))]) (H' := [(0, (.cells [(.d (.sl (List.map byteD a0))), (.d (.int .i64 (0 : Int))), (.d (.int .i64 (0 : Int)))]))]) rfl ⟨rfl, [], [(0, 1)], rfl, rfl, ⟨⟨_, rfl, (.refl _)⟩, rfl, trivial⟩, ⟨⟨_, rfl, (.refl _)⟩, rfl, rfl, trivial⟩⟩ (doneA (.inr rfl) rfl ⟨trivial, trivial⟩ (.refl _) (hasCons rfl hasNil)))
/-- (*courant/code.Reader).ready -/
def C84 (N : Nat → Nat) : AFunc := { n := 12, params := 1, res := [.tmp 2], body :=
 (.seq (.region false [⟨(some 2), .mv (.k (.d (.bool false))), none, []⟩])
  (.seq (.region false [⟨(some 3), .mv (.t 0), none, []⟩,
    ⟨(some 4), .nileq 1 true (.t 3) (.k (.d .nilp)), none, [0]⟩,
    ⟨(some 5), .mv (.t 4), none, [1]⟩,
    ⟨(some 6), .mv (.t 0), (some (5, true)), [2]⟩,
    ⟨(some 7), .nilchk (.t 6), (some (5, true)), [3, 2]⟩,
    ⟨(some 8), .faddr (.t 7) 2, (some (5, true)), [4, 2]⟩,
    ⟨(some 9), .load (.t 8) 1 false, (some (5, true)), [5, 2]⟩,
    ⟨(some 10), .bin .eql (.t 9) (.k (.d (.int .i64 0))), (some (5, true)), [6, 2]⟩,
    ⟨(some 11), .pick (.t 5) (.t 10) (.k (.d (.bool false))), none, [2, 7]⟩,
    ⟨(some 2), .mv (.t 11), none, [8, 2, 0, 1, 3, 4, 5, 6, 7]⟩])
   .ret)) }
def HC84 (P : Program) (N : Nat → Nat) : Prop := HasF P (N 84) (C84 N)
def f84 (k : Nat) (a0 : (List UInt8)) (a1 : Int) (a2 : Int) : Option Unit := some ()
theorem F84 {P : Program} {N : Nat → Nat} (hmix : P.follows .mixedOrders = true) (hc : HC84 P N) {k : Nat} {a0 : (List UInt8)} {a1 : Int} {a2 : Int} {r : Unit} (h : f84 k a0 a1 a2 = some r) :
    ACalls P (N 84) [(.ptr 0 0)] [(0, (.cells [(.d (.sl (List.map byteD a0))), (.d (.int .i64 a1)), (.d (.int .i64 a2))]))] (.d (.bool (decide (a2 = (0 : Int))))) [(0, (.cells [(.d (.sl (List.map byteD a0))), (.d (.int .i64 a1)), (.d (.int .i64 a2))]))] := by
  refine acalls_canon (F := C84 N) hc 1 1 rfl ?_
  unfold f84 at h
  dsimp only [C84, startL]
  refine AWc.seq ?_
  refine AWc.rg hmix rfl rfl ?_
  refine RegV.p0 rfl rfl rfl ?_
  refine RegV.nil0 ?_
  refine AWc.seq ?_
  refine AWc.rg hmix rfl rfl ?_
  refine RegV.p0 rfl rfl rfl ?_
  refine RegV.p0 (v := (.d (.bool true))) rfl rfl rfl ?_
  refine RegV.p0 rfl rfl rfl ?_
  refine RegV.p0 rfl rfl rfl ?_
  refine RegV.p0 rfl rfl rfl ?_
  refine RegV.p0 (v := (.ptr 0 2)) rfl rfl rfl ?_
  refine RegV.ld (v := (.d (.int .i64 a2))) (H' := [(0, (.cells [(.d (.sl (List.map byteD a0))), (.d (.int .i64 a1)), (.d (.int .i64 a2))]))]) rfl rfl trivial rfl rfl rfl rfl rfl ?_
  refine RegV.p0 (v := (.d (.bool (decide (a2 = (0 : Int)))))) rfl rfl rfl ?_
  refine RegV.p0 rfl rfl rfl ?_
  refine RegV.p0 rfl rfl rfl ?_
  refine RegV.nil0 ?_
  have hr := Option.some.inj h
  subst hr
  exact AWc.ret (canQ (N := 12) (k := 1) (l' := [(2, (.d (.bool (decide (a2 = (0 : Int))))))]) (H' := [(0, (.cells [(.d (.sl (List.map byteD a0))), (.d (.int .i64 a1)), (.d (.int .i64 a2))]))]) rfl ⟨rfl, [], [], rfl, rfl, ⟨⟨_, rfl, (.refl _)⟩, rfl, trivial⟩, ⟨⟨_, rfl, (.refl _)⟩, rfl, rfl, trivial⟩⟩ (doneA (.inr rfl) rfl ⟨trivial, trivial⟩ (.refl _) (hasCons rfl hasNil)))
/-- (*courant/code.Reader).fail -/
def C85 (N : Nat → Nat) : AFunc := { n := 14, params := 3, res := [], body :=
 (.region false [⟨(some 6), .mv (.t 0), none, []⟩,
  ⟨(some 7), .mv (.t 0), none, []⟩,
  ⟨(some 8), .mv (.t 1), none, []⟩,
  ⟨(some 9), .mv (.t 2), none, []⟩,
  ⟨(some 10), .nilchk (.t 6), none, [0, 2]⟩,
  ⟨(some 11), .faddr (.t 10) 1, none, [4, 0, 2]⟩,
  ⟨none, .store (.t 11) (.t 8) 1, none, [5, 2, 0]⟩,
  ⟨(some 12), .nilchk (.t 7), none, [1, 0, 2, 3, 4, 5, 6]⟩,
  ⟨(some 13), .faddr (.t 12) 2, none, [7, 0, 1, 2, 3, 4, 5, 6]⟩,
  ⟨none, .store (.t 13) (.t 9) 1, none, [8, 3, 6, 0, 1, 2, 4, 5]⟩]) }
def HC85 (P : Program) (N : Nat → Nat) : Prop := HasF P (N 85) (C85 N)
def f85 (k : Nat) (a0 : (List UInt8)) (a1 : Int) (a2 : Int) (a3 : Int) (a4 : Int) : Option Unit := some ()
theorem F85 {P : Program} {N : Nat → Nat} (hmix : P.follows .mixedOrders = true) (hc : HC85 P N) {k : Nat} {a0 : (List UInt8)} {a1 : Int} {a2 : Int} {a3 : Int} {a4 : Int} {r : Unit} (h : f85 k a0 a1 a2 a3 a4 = some r) :
    ACalls P (N 85) [(.ptr 0 0), (.d (.int .i64 a3)), (.d (.int .i64 a4))] [(0, (.cells [(.d (.sl (List.map byteD a0))), (.d (.int .i64 a1)), (.d (.int .i64 a2))]))] (.tup []) [(0, (.cells [(.d (.sl (List.map byteD a0))), (.d (.int .i64 a3)), (.d (.int .i64 a4))]))] := by
  refine acalls_canon (F := C85 N) hc 1 1 rfl ?_
  unfold f85 at h
  dsimp only [C85, startL]
  refine AWc.rg hmix rfl rfl ?_
  refine RegV.p0 rfl rfl rfl ?_
  refine RegV.p0 rfl rfl rfl ?_
  refine RegV.p0 rfl rfl rfl ?_
  refine RegV.p0 rfl rfl rfl ?_
  refine RegV.p0 rfl rfl rfl ?_
  refine RegV.p0 (v := (.ptr 0 1)) rfl rfl rfl ?_
  refine RegV.evN (own := false) (H' := [(0, (.cells [(.d (.sl (List.map byteD a0))), (.d (.int .i64 a3)), (.d (.int .i64 a2))]))]) (c' := 1) rfl rfl (by exact ⟨rfl, Nat.le_of_ble_eq_true rfl, rfl⟩) rfl rfl rfl rfl ?_
  refine RegV.p0 rfl rfl rfl ?_
  refine RegV.p0 (v := (.ptr 0 2)) rfl rfl rfl ?_
  refine RegV.evN (own := false) (H' := [(0, (.cells [(.d (.sl (List.map byteD a0))), (.d (.int .i64 a3)), (.d (.int .i64 a4))]))]) (c' := 1) rfl rfl (by exact ⟨rfl, Nat.le_of_ble_eq_true rfl, rfl⟩) rfl rfl rfl rfl ?_
  refine RegV.nil0 ?_
  have hr := Option.some.inj h
  subst hr
  exact canQ (N := 14) (k := 1) (l' := []) (H' := [(0, (.cells [(.d (.sl (List.map byteD a0))), (.d (.int .i64 a3)), (.d (.int .i64 a4))]))]) rfl ⟨rfl, [], [], rfl, rfl,  trivial, ⟨⟨_, rfl, (.refl _)⟩, rfl, rfl, trivial⟩⟩ (doneA (.inl rfl) rfl trivial (.refl _) (hasCons rfl hasNil))
/-- (*courant/code.Reader).Num -/
def C39 (N : Nat → Nat) : AFunc := { n := 73, params := 1, res := [.tmp 2], body :=
 (.seq (.region false [⟨(some 2), .mv (.k (.d (.int .u64 0))), none, []⟩])
  (.scope (.seq (.seq (.region false [⟨(some 8), .mv (.t 0), none, []⟩,
      ⟨(some 9), .call (.k (.d (.fn (N 84)))) [(.t 8)], none, [0]⟩,
      ⟨(some 10), .un .not (.t 9), none, [1]⟩])
     (.cond (.t 10) (.seq (.region false [⟨(some 2), .mv (.k (.d (.int .u64 0))), none, []⟩])
       .ret)
      (.skip)))
    (.seq (.region false [⟨(some 11), .mv (.t 0), none, []⟩,
      ⟨(some 12), .nilchk (.t 11), none, [0]⟩,
      ⟨(some 13), .faddr (.t 12) 1, none, [1]⟩,
      ⟨(some 14), .load (.t 13) 1 false, none, [2]⟩,
      ⟨(some 3), .mv (.t 14), none, [3, 0, 1, 2]⟩,
      ⟨(some 4), .mv (.k (.d (.int .u64 0))), none, [4, 0, 1, 2, 3]⟩,
      ⟨(some 5), .mv (.k (.d (.int .i64 3))), none, [5, 0, 1, 2, 3, 4]⟩])
     (.seq (.label 0)
      (.seq (.seq (.region false [⟨(some 6), .mv (.k (.d (.int .i64 0))), none, []⟩])
        (.block 0 (.loop (.seq (.seq (.region true [⟨(some 15), .mv (.t 0), none, []⟩,
             ⟨(some 16), .nilchk (.t 15), none, [0]⟩,
             ⟨(some 17), .faddr (.t 16) 1, none, [1]⟩,
             ⟨(some 18), .load (.t 17) 1 false, none, [2]⟩,
             ⟨(some 19), .mv (.t 0), none, []⟩,
             ⟨(some 20), .nilchk (.t 19), none, [4]⟩,
             ⟨(some 21), .faddr (.t 20) 0, none, [5]⟩,
             ⟨(some 22), .load (.t 21) 1 false, none, [6]⟩,
             ⟨(some 23), .len (.t 22), none, [7]⟩,
             ⟨(some 24), .bin .lss (.t 18) (.t 23), none, [3, 8]⟩])
            (.cond (.t 24) (.skip)
             (.exit 0)))
           (.seq (.block 1 (.seq (.region true [⟨(some 27), .mv (.t 0), none, []⟩,
               ⟨(some 28), .nilchk (.t 27), none, [0]⟩,
               ⟨(some 29), .faddr (.t 28) 0, none, [1]⟩,
               ⟨(some 30), .load (.t 29) 1 false, none, [2]⟩,
               ⟨(some 31), .mv (.t 0), none, []⟩,
               ⟨(some 32), .nilchk (.t 31), none, [4]⟩,
               ⟨(some 33), .faddr (.t 32) 1, none, [5]⟩,
               ⟨(some 34), .load (.t 33) 1 false, none, [6]⟩,
               ⟨(some 35), .iaddr (.t 30) (.t 34) 1, none, [3, 7]⟩,
               ⟨(some 36), .load (.t 35) 1 false, none, [8]⟩,
               ⟨(some 7), .mv (.t 36), none, [9, 0, 1, 2, 3, 4, 5, 6, 7, 8]⟩])
              (.seq (.region false [⟨(some 37), .mv (.t 0), none, []⟩,
                ⟨(some 38), .nilchk (.t 37), none, [0]⟩,
                ⟨(some 39), .faddr (.t 38) 1, none, [1]⟩,
                ⟨(some 40), .load (.t 39) 1 false, none, [2]⟩,
                ⟨(some 41), .bin .add (.t 40) (.k (.d (.int .i64 1))), none, [3]⟩,
                ⟨(some 42), .nilchk (.t 37), none, [0, 1, 2, 3, 4]⟩,
                ⟨(some 43), .faddr (.t 42) 1, none, [5, 0, 1, 2, 3, 4]⟩,
                ⟨none, .store (.t 43) (.t 41) 1, none, [6, 4, 0, 1, 2, 3]⟩])
               (.seq (.region false [⟨(some 44), .mv (.t 4), none, []⟩,
                 ⟨(some 45), .mv (.t 7), none, []⟩,
                 ⟨(some 46), .bin .and (.t 45) (.k (.d (.int .u8 127))), none, [1]⟩,
                 ⟨(some 47), .cvi .u64 (.t 46), none, [2]⟩,
                 ⟨(some 48), .mv (.t 6), none, []⟩,
                 ⟨(some 49), .bin .mul (.k (.d (.int .i64 7))) (.t 48), none, [4]⟩,
                 ⟨(some 50), .bin .shl (.t 47) (.t 49), none, [3, 5]⟩,
                 ⟨(some 51), .bin .or (.t 44) (.t 50), none, [0, 6]⟩,
                 ⟨(some 4), .mv (.t 51), none, [7, 0, 1, 2, 3, 4, 5, 6]⟩])
                (.block 2 (.seq (.seq (.region false [⟨(some 53), .mv (.t 6), none, []⟩,
                    ⟨(some 54), .bin .eql (.t 53) (.k (.d (.int .i64 9))), none, [0]⟩,
                    ⟨(some 55), .mv (.t 54), none, [1]⟩,
                    ⟨(some 56), .mv (.t 7), (some (55, true)), [2]⟩,
                    ⟨(some 57), .bin .gtr (.t 56) (.k (.d (.int .u8 1))), (some (55, true)), [3, 2]⟩,
                    ⟨(some 58), .pick (.t 55) (.t 57) (.k (.d (.bool false))), none, [2, 4]⟩,
                    ⟨(some 52), .mv (.t 58), none, [5, 2]⟩])
                   (.cond (.t 52) (.skip)
                    (.region false [⟨(some 59), .mv (.t 6), none, []⟩,
                     ⟨(some 60), .bin .gtr (.t 59) (.k (.d (.int .i64 0))), none, [0]⟩,
                     ⟨(some 61), .mv (.t 60), none, [1]⟩,
                     ⟨(some 62), .mv (.t 7), (some (61, true)), [2]⟩,
                     ⟨(some 63), .bin .eql (.t 62) (.k (.d (.int .u8 0))), (some (61, true)), [3, 2]⟩,
                     ⟨(some 64), .pick (.t 61) (.t 63) (.k (.d (.bool false))), none, [2, 4]⟩,
                     ⟨(some 52), .mv (.t 64), none, [5, 2]⟩])))
                  (.cond (.t 52) (.seq (.region false [⟨(some 5), .mv (.k (.d (.int .i64 4))), none, []⟩])
                    (.exit 0))
                   (.seq (.region false [⟨(some 66), .mv (.t 7), none, []⟩,
                     ⟨(some 67), .bin .lss (.t 66) (.k (.d (.int .u8 128))), none, [0]⟩,
                     ⟨(some 65), .mv (.t 67), none, [1]⟩])
                    (.cond (.t 65) (.seq (.region false [⟨(some 68), .mv (.t 4), none, []⟩,
                       ⟨(some 2), .mv (.t 68), none, [0]⟩])
                      .ret)
                     (.skip))))))))))
            (.region false [⟨(some 25), .mv (.t 6), none, []⟩,
             ⟨(some 26), .bin .add (.t 25) (.k (.d (.int .i64 1))), none, [0]⟩,
             ⟨(some 6), .mv (.t 26), none, [1, 0]⟩]))))))
       (.seq (.region false [⟨(some 69), .mv (.t 0), none, []⟩,
         ⟨(some 70), .mv (.t 3), none, []⟩,
         ⟨(some 71), .mv (.t 5), none, []⟩,
         ⟨(some 72), .call (.k (.d (.fn (N 85)))) [(.t 69), (.t 70), (.t 71)], none, [0, 1, 2]⟩])
        (.seq (.region false [⟨(some 2), .mv (.k (.d (.int .u64 0))), none, []⟩])
         .ret)))))))) }
def HC39 (P : Program) (N : Nat → Nat) : Prop := HasF P (N 39) (C39 N) ∧ HC84 P N ∧ HC85 P N
def f39_j143 (k : Nat) (a0 : (List UInt8)) (a2 : Int) (a1 : Int) (j143_1 : Int) (j143_2 : Int) : Option (Int × Int × Int) := (f85 k a0 j143_2 a2 a1 j143_1).bind fun r149 => some ((0 : Int), a1, j143_1)
def f39_j118 (L : Int → Int → Int → Option (LR2 (Int × Int) Unit (Int × Int × Int))) (k : Nat) (y37_3 : Int) (a0 : (List UInt8)) (y37_1 : Int) (y37_2 : Int) (a2 : Int) (j118_1 : Bool) : Option (LR2 (Int × Int) Unit (Int × Int × Int)) := cond j118_1 (some (.b0 ((4 : Int), (IntKind.i64.wrap (y37_3 + (1 : Int)))))) (cond (decide ((((rd a0 y37_3).toNat : Nat) : Int) < (128 : Int))) (some (.r ((bitsA .or .u64 y37_1 (IntKind.u64.wrap ((IntKind.u64.wrap (bitsA .and .u8 (((rd a0 y37_3).toNat : Nat) : Int) (127 : Int))) * 2 ^ (min ((IntKind.i64.wrap ((7 : Int) * y37_2))).toNat IntKind.u64.bits)))), (IntKind.i64.wrap (y37_3 + (1 : Int))), a2))) (L (bitsA .or .u64 y37_1 (IntKind.u64.wrap ((IntKind.u64.wrap (bitsA .and .u8 (((rd a0 y37_3).toNat : Nat) : Int) (127 : Int))) * 2 ^ (min ((IntKind.i64.wrap ((7 : Int) * y37_2))).toNat IntKind.u64.bits)))) (IntKind.i64.wrap (y37_2 + (1 : Int))) (IntKind.i64.wrap (y37_3 + (1 : Int)))))
def f39_j107 (L : Int → Int → Int → Option (LR2 (Int × Int) Unit (Int × Int × Int))) (k : Nat) (y37_3 : Int) (a0 : (List UInt8)) (y37_1 : Int) (y37_2 : Int) (a2 : Int) (j107_1 : Bool) : Option (LR2 (Int × Int) Unit (Int × Int × Int)) := cond j107_1 (f39_j118 (L) k y37_3 a0 y37_1 y37_2 a2 j107_1) (cond (decide (y37_2 > (0 : Int))) (f39_j118 (L) k y37_3 a0 y37_1 y37_2 a2 (decide ((((rd a0 y37_3).toNat : Nat) : Int) = (0 : Int)))) (f39_j118 (L) k y37_3 a0 y37_1 y37_2 a2 false))
def f39_l37 (a0 : (List UInt8)) (a2 : Int) : Nat → Int → Int → Int → Option (LR2 (Int × Int) Unit (Int × Int × Int))
  | 0, _, _, _ => none
  | k + 1, y37_1, y37_2, y37_3 => cond (decide (y37_3 < ((a0.length : Nat) : Int))) (gd (0 ≤ y37_3 ∧ y37_3 < ((a0.length : Nat) : Int)) (gd (0 ≤ (IntKind.i64.wrap ((7 : Int) * y37_2))) (cond (decide (y37_2 = (9 : Int))) (f39_j107 (f39_l37 a0 a2 k) k y37_3 a0 y37_1 y37_2 a2 (decide ((((rd a0 y37_3).toNat : Nat) : Int) > (1 : Int)))) (f39_j107 (f39_l37 a0 a2 k) k y37_3 a0 y37_1 y37_2 a2 false)))) (some (.b0 ((3 : Int), y37_3)))
def f39 (k : Nat) (a0 : (List UInt8)) (a1 : Int) (a2 : Int) : Option (Int × Int × Int) := (f84 k a0 a1 a2).bind fun r11 => cond (!(decide (a2 = (0 : Int)))) (some ((0 : Int), a1, a2)) ((f39_l37 a0 a2 k (0 : Int) (0 : Int) a1).bind fun o37 => (match o37 with | .b0 (x37_1, x37_2) => f39_j143 k a0 a2 a1 x37_1 x37_2 | .r x => some x | _ => none))
theorem F39 {P : Program} {N : Nat → Nat} (hmix : P.follows .mixedOrders = true) (hc : HC39 P N) {k : Nat} {a0 : (List UInt8)} {a1 : Int} {a2 : Int} {r : (Int × Int × Int)} (h : f39 k a0 a1 a2 = some r) :
    ACalls P (N 39) [(.ptr 0 0)] [(0, (.cells [(.d (.sl (List.map byteD a0))), (.d (.int .i64 a1)), (.d (.int .i64 a2))]))] (.d (.int .u64 r.1)) [(0, (.cells [(.d (.sl (List.map byteD a0))), (.d (.int .i64 r.2.1)), (.d (.int .i64 r.2.2))]))] := by
  refine acalls_canon (F := C39 N) hc.1 1 1 rfl ?_
  unfold f39 at h
  dsimp only [C39, startL]
  refine AWc.seq ?_
  refine AWc.rg hmix rfl rfl ?_
  refine RegV.p0 rfl rfl rfl ?_
  refine RegV.nil0 ?_
  refine AWc.scope ?_
  refine AWc.seq ?_
  refine AWc.seq ?_
  refine AWc.rg hmix rfl rfl ?_
  refine RegV.p0 rfl rfl rfl ?_
  obtain ⟨r11, e11, h⟩ := bind_some h
  refine RegV.callS (q := true) (H' := [(0, (.cells [(.d (.sl (List.map byteD a0))), (.d (.int .i64 a1)), (.d (.int .i64 a2))]))]) (c' := 1) (show ACalls P (N 84) [(.ptr 0 0)] [(0, (.cells [(.d (.sl (List.map byteD a0))), (.d (.int .i64 a1)), (.d (.int .i64 a2))]))] (.d (.bool (decide (a2 = (0 : Int))))) [(0, (.cells [(.d (.sl (List.map byteD a0))), (.d (.int .i64 a1)), (.d (.int .i64 a2))]))] from ACalls.use (F84 hmix hc.2.1 e11) [(0, 0)] 1 rfl) rfl rfl rfl rfl (.cons (.refl _) .nil) (.refl _) (fun _ => rfl) rfl (hasCons rfl hasNil) rfl rfl rfl rfl ?_
  refine RegV.p0 (v := (.d (.bool (!(decide (a2 = (0 : Int))))))) rfl rfl rfl ?_
  refine RegV.nil0 ?_
  refine AWc.cond rfl (fun c13 => ?_) (fun c13 => ?_)
  · have h := cond_pos c13 h
    refine AWc.seq ?_
    refine AWc.rg hmix rfl rfl ?_
    refine RegV.p0 rfl rfl rfl ?_
    refine RegV.nil0 ?_
    have hr := Option.some.inj h
    subst hr
    exact AWc.ret (canQ (N := 73) (k := 1) (l' := [(2, (.d (.int .u64 (0 : Int))))]) (H' := [(0, (.cells [(.d (.sl (List.map byteD a0))), (.d (.int .i64 a1)), (.d (.int .i64 a2))]))]) rfl ⟨rfl, [], [], rfl, rfl, ⟨⟨_, rfl, (.refl _)⟩, rfl, trivial⟩, ⟨⟨_, rfl, (.refl _)⟩, rfl, rfl, trivial⟩⟩ (doneA (.inr rfl) rfl ⟨trivial, trivial⟩ (.refl _) (hasCons rfl hasNil)))
  · have h := cond_neg c13 h
    refine AWc.skip ?_
    refine AWc.seq ?_
    refine AWc.rg hmix rfl rfl ?_
    refine RegV.p0 rfl rfl rfl ?_
    refine RegV.p0 rfl rfl rfl ?_
    refine RegV.p0 (v := (.ptr 0 1)) rfl rfl rfl ?_
    refine RegV.ld (v := (.d (.int .i64 a1))) (H' := [(0, (.cells [(.d (.sl (List.map byteD a0))), (.d (.int .i64 a1)), (.d (.int .i64 a2))]))]) rfl rfl trivial rfl rfl rfl rfl rfl ?_
    refine RegV.p0 rfl rfl rfl ?_
    refine RegV.p0 rfl rfl rfl ?_
    refine RegV.p0 rfl rfl rfl ?_
    refine RegV.nil0 ?_
    refine AWc.seq ?_
    refine AWc.label ?_
    refine AWc.seqS (N := 73) 1 (fun (z : (Int × Int)) => [(0, (.ptr 0 0)), (3, (.d (.int .i64 a1))), (5, (.d (.int .i64 z.1)))]) (fun z => [(0, (.cells [(.d (.sl (List.map byteD a0))), (.d (.int .i64 z.2)), (.d (.int .i64 a2))]))]) (fun z => f39_j143 k a0 a2 a1 z.1 z.2 = some r) rfl_le ?_ ?_
    · refine AWc.seq ?_
      refine AWc.rg hmix rfl rfl ?_
      refine RegV.p0 rfl rfl rfl ?_
      refine RegV.nil0 ?_
      obtain ⟨o37, h37, h⟩ := bind_some h
      refine AWc.block ?_
      refine AWc.loopK (N := 73) 1 (fun (x : (Int × Int × Int)) => [(0, (.ptr 0 0)), (3, (.d (.int .i64 a1))), (4, (.d (.int .u64 x.1))), (5, (.d (.int .i64 (3 : Int)))), (6, (.d (.int .i64 x.2.1)))]) (fun x => [(0, (.cells [(.d (.sl (List.map byteD a0))), (.d (.int .i64 x.2.2)), (.d (.int .i64 a2))]))]) (fun k x => f39_l37 a0 a2 k x.1 x.2.1 x.2.2 = some o37) k ((0 : Int), (0 : Int), a1) rfl_le (fun x hx => by cases hx) h37 ⟨rfl, [], [], rfl, rfl, ⟨⟨_, rfl, (.refl _)⟩, rfl, ⟨⟨_, rfl, (.refl _)⟩, rfl, ⟨⟨_, rfl, (.refl _)⟩, rfl, ⟨⟨_, rfl, (.refl _)⟩, rfl, ⟨⟨_, rfl, (.refl _)⟩, rfl, trivial⟩⟩⟩⟩⟩, ⟨⟨_, rfl, (.refl _)⟩, rfl, rfl, trivial⟩⟩ ?_
      clear h37
      intro k
      rintro ⟨y37_1, y37_2, y37_3⟩ h37
      dsimp only at h37 ⊢
      rw [f39_l37] at h37
      refine AWc.seq ?_
      refine AWc.seq ?_
      refine AWc.rg hmix rfl rfl ?_
      refine RegV.p0 rfl rfl rfl ?_
      refine RegV.p0 rfl rfl rfl ?_
      refine RegV.p0 (v := (.ptr 0 1)) rfl rfl rfl ?_
      refine RegV.ld (v := (.d (.int .i64 y37_3))) (H' := [(0, (.cells [(.d (.sl (List.map byteD a0))), (.d (.int .i64 y37_3)), (.d (.int .i64 a2))]))]) rfl rfl trivial rfl rfl rfl rfl rfl ?_
      refine RegV.p0 rfl rfl rfl ?_
      refine RegV.p0 rfl rfl rfl ?_
      refine RegV.p0 (v := (.ptr 0 0)) rfl rfl rfl ?_
      refine RegV.ld (v := (.d (.sl (List.map byteD a0)))) (H' := [(0, (.cells [(.d (.sl (List.map byteD a0))), (.d (.int .i64 y37_3)), (.d (.int .i64 a2))]))]) rfl rfl trivial rfl rfl rfl rfl rfl ?_
      refine RegV.len (xs := a0) (e := byteD) rfl rfl rfl rfl ?_
      refine RegV.p0 (v := (.d (.bool (decide (y37_3 < ((a0.length : Nat) : Int)))))) rfl rfl rfl ?_
      refine RegV.nil1 (by kernel_rfl) ?_
      refine AWc.cond rfl (fun c53 => ?_) (fun c53 => ?_)
      · have h37 := cond_pos c53 h37
        refine AWc.skip ?_
        refine AWc.seq ?_
        refine AWc.block ?_
        refine AWc.seq ?_
        refine AWc.rg hmix rfl rfl ?_
        refine RegV.p0 rfl rfl rfl ?_
        refine RegV.p0 rfl rfl rfl ?_
        refine RegV.p0 (v := (.ptr 0 0)) rfl rfl rfl ?_
        refine RegV.ld (v := (.d (.sl (List.map byteD a0)))) (H' := [(0, (.cells [(.d (.sl (List.map byteD a0))), (.d (.int .i64 y37_3)), (.d (.int .i64 a2))]))]) rfl rfl trivial rfl rfl rfl rfl rfl ?_
        refine RegV.p0 rfl rfl rfl ?_
        refine RegV.p0 rfl rfl rfl ?_
        refine RegV.p0 (v := (.ptr 0 1)) rfl rfl rfl ?_
        refine RegV.ld (v := (.d (.int .i64 y37_3))) (H' := [(0, (.cells [(.d (.sl (List.map byteD a0))), (.d (.int .i64 y37_3)), (.d (.int .i64 a2))]))]) rfl rfl trivial rfl rfl rfl rfl rfl ?_
        obtain ⟨b69, h37⟩ := gd_some h37
        refine RegV.iad (xs := a0) (e := byteD) rfl rfl rfl rfl (fun _ => rfl) b69 rfl ?_
        refine RegV.p0 (v := (.d (.int .u8 (((rd a0 y37_3).toNat : Nat) : Int)))) rfl rfl rfl ?_
        refine RegV.p0 rfl rfl rfl ?_
        refine RegV.nil1 (by kernel_rfl) ?_
        refine AWc.seq ?_
        refine AWc.rg hmix rfl rfl ?_
        refine RegV.p0 rfl rfl rfl ?_
        refine RegV.p0 rfl rfl rfl ?_
        refine RegV.p0 (v := (.ptr 0 1)) rfl rfl rfl ?_
        refine RegV.ld (v := (.d (.int .i64 y37_3))) (H' := [(0, (.cells [(.d (.sl (List.map byteD a0))), (.d (.int .i64 y37_3)), (.d (.int .i64 a2))]))]) rfl rfl trivial rfl rfl rfl rfl rfl ?_
        refine RegV.p0 (v := (.d (.int .i64 (IntKind.i64.wrap (y37_3 + (1 : Int)))))) rfl rfl rfl ?_
        refine RegV.p0 rfl rfl rfl ?_
        refine RegV.p0 (v := (.ptr 0 1)) rfl rfl rfl ?_
        refine RegV.evN (own := false) (H' := [(0, (.cells [(.d (.sl (List.map byteD a0))), (.d (.int .i64 (IntKind.i64.wrap (y37_3 + (1 : Int))))), (.d (.int .i64 a2))]))]) (c' := 1) rfl rfl (by exact ⟨rfl, Nat.le_of_ble_eq_true rfl, rfl⟩) rfl rfl rfl rfl ?_
        refine RegV.nil0 ?_
        refine AWc.seq ?_
        refine AWc.rg hmix rfl rfl ?_
        refine RegV.p0 rfl rfl rfl ?_
        refine RegV.p0 rfl rfl rfl ?_
        refine RegV.p0 (v := (.d (.int .u8 (bitsA .and .u8 (((rd a0 y37_3).toNat : Nat) : Int) (127 : Int))))) rfl rfl rfl ?_
        refine RegV.p0 (v := (.d (.int .u64 (IntKind.u64.wrap (bitsA .and .u8 (((rd a0 y37_3).toNat : Nat) : Int) (127 : Int)))))) rfl rfl rfl ?_
        refine RegV.p0 rfl rfl rfl ?_
        refine RegV.p0 (v := (.d (.int .i64 (IntKind.i64.wrap ((7 : Int) * y37_2))))) rfl rfl rfl ?_
        obtain ⟨b92, h37⟩ := gd_some h37
        refine RegV.p1 (v := (.d (.int .u64 (IntKind.u64.wrap ((IntKind.u64.wrap (bitsA .and .u8 (((rd a0 y37_3).toNat : Nat) : Int) (127 : Int))) * 2 ^ (min ((IntKind.i64.wrap ((7 : Int) * y37_2))).toNat IntKind.u64.bits)))))) rfl rfl b92 rfl rfl ?_
        refine RegV.p0 (v := (.d (.int .u64 (bitsA .or .u64 y37_1 (IntKind.u64.wrap ((IntKind.u64.wrap (bitsA .and .u8 (((rd a0 y37_3).toNat : Nat) : Int) (127 : Int))) * 2 ^ (min ((IntKind.i64.wrap ((7 : Int) * y37_2))).toNat IntKind.u64.bits))))))) rfl rfl rfl ?_
        refine RegV.p0 rfl rfl rfl ?_
        refine RegV.nil0 ?_
        refine AWc.block ?_
        refine AWc.seqS (N := 73) 1 (fun (z : Bool) => [(0, (.ptr 0 0)), (3, (.d (.int .i64 a1))), (4, (.d (.int .u64 (bitsA .or .u64 y37_1 (IntKind.u64.wrap ((IntKind.u64.wrap (bitsA .and .u8 (((rd a0 y37_3).toNat : Nat) : Int) (127 : Int))) * 2 ^ (min ((IntKind.i64.wrap ((7 : Int) * y37_2))).toNat IntKind.u64.bits))))))), (5, (.d (.int .i64 (3 : Int)))), (6, (.d (.int .i64 y37_2))), (7, (.d (.int .u8 (((rd a0 y37_3).toNat : Nat) : Int)))), (52, (.d (.bool z))), (56, .any), (57, .any)]) (fun z => [(0, (.cells [(.d (.sl (List.map byteD a0))), (.d (.int .i64 (IntKind.i64.wrap (y37_3 + (1 : Int))))), (.d (.int .i64 a2))]))]) (fun z => f39_j118 (f39_l37 a0 a2 k) k y37_3 a0 y37_1 y37_2 a2 z = some o37) rfl_le ?_ ?_
        · refine AWc.seqS (N := 73) 1 (fun (z : Bool) => [(0, (.ptr 0 0)), (3, (.d (.int .i64 a1))), (4, (.d (.int .u64 (bitsA .or .u64 y37_1 (IntKind.u64.wrap ((IntKind.u64.wrap (bitsA .and .u8 (((rd a0 y37_3).toNat : Nat) : Int) (127 : Int))) * 2 ^ (min ((IntKind.i64.wrap ((7 : Int) * y37_2))).toNat IntKind.u64.bits))))))), (5, (.d (.int .i64 (3 : Int)))), (6, (.d (.int .i64 y37_2))), (7, (.d (.int .u8 (((rd a0 y37_3).toNat : Nat) : Int)))), (52, (.d (.bool z))), (56, .any), (57, .any)]) (fun z => [(0, (.cells [(.d (.sl (List.map byteD a0))), (.d (.int .i64 (IntKind.i64.wrap (y37_3 + (1 : Int))))), (.d (.int .i64 a2))]))]) (fun z => f39_j107 (f39_l37 a0 a2 k) k y37_3 a0 y37_1 y37_2 a2 z = some o37) rfl_le ?_ ?_
          · refine AWc.rg hmix rfl rfl ?_
            refine RegV.p0 rfl rfl rfl ?_
            refine RegV.p0 (v := (.d (.bool (decide (y37_2 = (9 : Int)))))) rfl rfl rfl ?_
            refine RegV.p0 rfl rfl rfl ?_
            refine RegV.split (fun c102 => ?_) (fun c102 => ?_)
            · have h37 := cond_pos c102 h37
              refine RegV.p0 rfl rfl rfl ?_
              refine RegV.p0 (v := (.d (.bool (decide ((((rd a0 y37_3).toNat : Nat) : Int) > (1 : Int)))))) rfl rfl rfl ?_
              refine RegV.p0 rfl rfl rfl ?_
              refine RegV.p0 rfl rfl rfl ?_
              refine RegV.nil0 ?_
              exact ⟨(decide ((((rd a0 y37_3).toNat : Nat) : Int) > (1 : Int))), h37, ⟨rfl, [], [], rfl, rfl, ⟨⟨_, rfl, (.refl _)⟩, rfl, ⟨⟨_, rfl, (.refl _)⟩, rfl, ⟨⟨_, rfl, (.refl _)⟩, rfl, ⟨⟨_, rfl, (.refl _)⟩, rfl, ⟨⟨_, rfl, (.refl _)⟩, rfl, ⟨⟨_, rfl, (.refl _)⟩, rfl, ⟨⟨_, rfl, (.refl _)⟩, rfl, ⟨⟨_, rfl, (.any _)⟩, rfl, ⟨⟨_, rfl, (.any _)⟩, rfl, trivial⟩⟩⟩⟩⟩⟩⟩⟩⟩, ⟨⟨_, rfl, (.refl _)⟩, rfl, rfl, trivial⟩⟩⟩
            · have h37 := cond_neg c102 h37
              refine RegV.noS rfl rfl ?_
              refine RegV.noS rfl rfl ?_
              refine RegV.p0 rfl rfl rfl ?_
              refine RegV.p0 rfl rfl rfl ?_
              refine RegV.nil0 ?_
              exact ⟨false, h37, ⟨rfl, [], [], rfl, rfl, ⟨⟨_, rfl, (.refl _)⟩, rfl, ⟨⟨_, rfl, (.refl _)⟩, rfl, ⟨⟨_, rfl, (.refl _)⟩, rfl, ⟨⟨_, rfl, (.refl _)⟩, rfl, ⟨⟨_, rfl, (.refl _)⟩, rfl, ⟨⟨_, rfl, (.refl _)⟩, rfl, ⟨⟨_, rfl, (.refl _)⟩, rfl, ⟨⟨_, rfl, (.any _)⟩, rfl, ⟨⟨_, rfl, (.any _)⟩, rfl, trivial⟩⟩⟩⟩⟩⟩⟩⟩⟩, ⟨⟨_, rfl, (.refl _)⟩, rfl, rfl, trivial⟩⟩⟩
          · intro j107_1 h37
            unfold f39_j107 at h37
            refine AWc.cond rfl (fun c107 => ?_) (fun c107 => ?_)
            · have h37 := cond_pos c107 h37
              refine AWc.skip ?_
              exact ⟨j107_1, h37, ⟨rfl, [], [], rfl, rfl, ⟨⟨_, rfl, (.refl _)⟩, rfl, ⟨⟨_, rfl, (.refl _)⟩, rfl, ⟨⟨_, rfl, (.refl _)⟩, rfl, ⟨⟨_, rfl, (.refl _)⟩, rfl, ⟨⟨_, rfl, (.refl _)⟩, rfl, ⟨⟨_, rfl, (.refl _)⟩, rfl, ⟨⟨_, rfl, (.refl _)⟩, rfl, ⟨⟨_, rfl, (.refl _)⟩, rfl, ⟨⟨_, rfl, (.refl _)⟩, rfl, trivial⟩⟩⟩⟩⟩⟩⟩⟩⟩, ⟨⟨_, rfl, (.refl _)⟩, rfl, rfl, trivial⟩⟩⟩
            · have h37 := cond_neg c107 h37
              refine AWc.rg hmix rfl rfl ?_
              refine RegV.p0 rfl rfl rfl ?_
              refine RegV.p0 (v := (.d (.bool (decide (y37_2 > (0 : Int)))))) rfl rfl rfl ?_
              refine RegV.p0 rfl rfl rfl ?_
              refine RegV.split (fun c113 => ?_) (fun c113 => ?_)
              · have h37 := cond_pos c113 h37
                refine RegV.p0 rfl rfl rfl ?_
                refine RegV.p0 (v := (.d (.bool (decide ((((rd a0 y37_3).toNat : Nat) : Int) = (0 : Int)))))) rfl rfl rfl ?_
                refine RegV.p0 rfl rfl rfl ?_
                refine RegV.p0 rfl rfl rfl ?_
                refine RegV.nil0 ?_
                exact ⟨(decide ((((rd a0 y37_3).toNat : Nat) : Int) = (0 : Int))), h37, ⟨rfl, [], [], rfl, rfl, ⟨⟨_, rfl, (.refl _)⟩, rfl, ⟨⟨_, rfl, (.refl _)⟩, rfl, ⟨⟨_, rfl, (.refl _)⟩, rfl, ⟨⟨_, rfl, (.refl _)⟩, rfl, ⟨⟨_, rfl, (.refl _)⟩, rfl, ⟨⟨_, rfl, (.refl _)⟩, rfl, ⟨⟨_, rfl, (.refl _)⟩, rfl, ⟨⟨_, rfl, (.refl _)⟩, rfl, ⟨⟨_, rfl, (.refl _)⟩, rfl, trivial⟩⟩⟩⟩⟩⟩⟩⟩⟩, ⟨⟨_, rfl, (.refl _)⟩, rfl, rfl, trivial⟩⟩⟩
              · have h37 := cond_neg c113 h37
                refine RegV.noS rfl rfl ?_
                refine RegV.noS rfl rfl ?_
                refine RegV.p0 rfl rfl rfl ?_
                refine RegV.p0 rfl rfl rfl ?_
                refine RegV.nil0 ?_
                exact ⟨false, h37, ⟨rfl, [], [], rfl, rfl, ⟨⟨_, rfl, (.refl _)⟩, rfl, ⟨⟨_, rfl, (.refl _)⟩, rfl, ⟨⟨_, rfl, (.refl _)⟩, rfl, ⟨⟨_, rfl, (.refl _)⟩, rfl, ⟨⟨_, rfl, (.refl _)⟩, rfl, ⟨⟨_, rfl, (.refl _)⟩, rfl, ⟨⟨_, rfl, (.refl _)⟩, rfl, ⟨⟨_, rfl, (.refl _)⟩, rfl, ⟨⟨_, rfl, (.refl _)⟩, rfl, trivial⟩⟩⟩⟩⟩⟩⟩⟩⟩, ⟨⟨_, rfl, (.refl _)⟩, rfl, rfl, trivial⟩⟩⟩
        · intro j118_1 h37
          unfold f39_j118 at h37
          refine AWc.cond rfl (fun c118 => ?_) (fun c118 => ?_)
          · have h37 := cond_pos c118 h37
            refine AWc.seq ?_
            refine AWc.rg hmix rfl rfl ?_
            refine RegV.p0 rfl rfl rfl ?_
            refine RegV.nil0 ?_
            cases h37
            dsimp only at h
            refine AWc.exit ?_
            refine inBlk_ne rfl ?_
            refine inBlk_ne rfl ?_
            refine inBlk_eq ?_
            exact ⟨((4 : Int), (IntKind.i64.wrap (y37_3 + (1 : Int)))), h, ⟨rfl, [], [], rfl, rfl, ⟨⟨_, rfl, (.refl _)⟩, rfl, ⟨⟨_, rfl, (.refl _)⟩, rfl, ⟨⟨_, rfl, (.refl _)⟩, rfl, trivial⟩⟩⟩, ⟨⟨_, rfl, (.refl _)⟩, rfl, rfl, trivial⟩⟩⟩
          · have h37 := cond_neg c118 h37
            refine AWc.seq ?_
            refine AWc.rg hmix rfl rfl ?_
            refine RegV.p0 rfl rfl rfl ?_
            refine RegV.p0 (v := (.d (.bool (decide ((((rd a0 y37_3).toNat : Nat) : Int) < (128 : Int)))))) rfl rfl rfl ?_
            refine RegV.p0 rfl rfl rfl ?_
            refine RegV.nil0 ?_
            refine AWc.cond rfl (fun c130 => ?_) (fun c130 => ?_)
            · have h37 := cond_pos c130 h37
              refine AWc.seq ?_
              refine AWc.rg hmix rfl rfl ?_
              refine RegV.p0 rfl rfl rfl ?_
              refine RegV.p0 rfl rfl rfl ?_
              refine RegV.nil0 ?_
              cases h37
              dsimp only at h
              have hr := Option.some.inj h
              subst hr
              exact AWc.ret (canQ (N := 73) (k := 1) (l' := [(2, (.d (.int .u64 (bitsA .or .u64 y37_1 (IntKind.u64.wrap ((IntKind.u64.wrap (bitsA .and .u8 (((rd a0 y37_3).toNat : Nat) : Int) (127 : Int))) * 2 ^ (min ((IntKind.i64.wrap ((7 : Int) * y37_2))).toNat IntKind.u64.bits)))))))]) (H' := [(0, (.cells [(.d (.sl (List.map byteD a0))), (.d (.int .i64 (IntKind.i64.wrap (y37_3 + (1 : Int))))), (.d (.int .i64 a2))]))]) rfl ⟨rfl, [], [], rfl, rfl, ⟨⟨_, rfl, (.refl _)⟩, rfl, trivial⟩, ⟨⟨_, rfl, (.refl _)⟩, rfl, rfl, trivial⟩⟩ (doneA (.inr rfl) rfl ⟨trivial, trivial⟩ (.refl _) (hasCons rfl hasNil)))
            · have h37 := cond_neg c130 h37
              refine AWc.skip ?_
              refine AWc.rg hmix rfl rfl ?_
              refine RegV.p0 rfl rfl rfl ?_
              refine RegV.p0 (v := (.d (.int .i64 (IntKind.i64.wrap (y37_2 + (1 : Int)))))) rfl rfl rfl ?_
              refine RegV.p0 rfl rfl rfl ?_
              refine RegV.nil0 ?_
              exact ⟨((bitsA .or .u64 y37_1 (IntKind.u64.wrap ((IntKind.u64.wrap (bitsA .and .u8 (((rd a0 y37_3).toNat : Nat) : Int) (127 : Int))) * 2 ^ (min ((IntKind.i64.wrap ((7 : Int) * y37_2))).toNat IntKind.u64.bits)))), (IntKind.i64.wrap (y37_2 + (1 : Int))), (IntKind.i64.wrap (y37_3 + (1 : Int)))), h37, ⟨rfl, [], [], rfl, rfl, ⟨⟨_, rfl, (.refl _)⟩, rfl, ⟨⟨_, rfl, (.refl _)⟩, rfl, ⟨⟨_, rfl, (.refl _)⟩, rfl, ⟨⟨_, rfl, (.refl _)⟩, rfl, ⟨⟨_, rfl, (.refl _)⟩, rfl, trivial⟩⟩⟩⟩⟩, ⟨⟨_, rfl, (.refl _)⟩, rfl, rfl, trivial⟩⟩⟩
      · have h37 := cond_neg c53 h37
        cases h37
        dsimp only at h
        refine AWc.exit ?_
        refine inBlk_eq ?_
        exact ⟨((3 : Int), y37_3), h, ⟨rfl, [], [], rfl, rfl, ⟨⟨_, rfl, (.refl _)⟩, rfl, ⟨⟨_, rfl, (.refl _)⟩, rfl, ⟨⟨_, rfl, (.refl _)⟩, rfl, trivial⟩⟩⟩, ⟨⟨_, rfl, (.refl _)⟩, rfl, rfl, trivial⟩⟩⟩
    · rintro ⟨j143_1, j143_2⟩ h
      dsimp only at h ⊢
      unfold f39_j143 at h
      refine AWc.seq ?_
      refine AWc.rg hmix rfl rfl ?_
      refine RegV.p0 rfl rfl rfl ?_
      refine RegV.p0 rfl rfl rfl ?_
      refine RegV.p0 rfl rfl rfl ?_
      obtain ⟨r149, e149, h⟩ := bind_some h
      refine RegV.callS (q := false) (H' := [(0, (.cells [(.d (.sl (List.map byteD a0))), (.d (.int .i64 a1)), (.d (.int .i64 j143_1))]))]) (c' := 1) (show ACalls P (N 85) [(.ptr 0 0), (.d (.int .i64 a1)), (.d (.int .i64 j143_1))] [(0, (.cells [(.d (.sl (List.map byteD a0))), (.d (.int .i64 j143_2)), (.d (.int .i64 a2))]))] (.tup []) [(0, (.cells [(.d (.sl (List.map byteD a0))), (.d (.int .i64 a1)), (.d (.int .i64 j143_1))]))] from ACalls.use (F85 hmix hc.2.2 e149) [(0, 0)] 1 rfl) rfl rfl rfl rfl (.cons (.refl _) (.cons (.refl _) (.cons (.refl _) .nil))) (.refl _) (fun h => by cases h) rfl (hasCons rfl hasNil) rfl rfl rfl rfl ?_
      refine RegV.nil0 ?_
      refine AWc.seq ?_
      refine AWc.rg hmix rfl rfl ?_
      refine RegV.p0 rfl rfl rfl ?_
      refine RegV.nil0 ?_
      have hr := Option.some.inj h
      subst hr
      exact AWc.ret (canQ (N := 73) (k := 1) (l' := [(2, (.d (.int .u64 (0 : Int))))]) (H' := [(0, (.cells [(.d (.sl (List.map byteD a0))), (.d (.int .i64 a1)), (.d (.int .i64 j143_1))]))]) rfl ⟨rfl, [], [], rfl, rfl, ⟨⟨_, rfl, (.refl _)⟩, rfl, trivial⟩, ⟨⟨_, rfl, (.refl _)⟩, rfl, rfl, trivial⟩⟩ (doneA (.inr rfl) rfl ⟨trivial, trivial⟩ (.refl _) (hasCons rfl hasNil)))
/-- courant/code.unfold -/
def C88 (N : Nat → Nat) : AFunc := { n := 11, params := 1, res := [.tmp 2], body :=
 (.seq (.region false [⟨(some 2), .mv (.k (.d (.int .i64 0))), none, []⟩])
  (.seq (.region false [⟨(some 3), .mv (.t 0), none, []⟩,
    ⟨(some 4), .bin .shr (.t 3) (.k (.d (.int .u64 1))), none, [0]⟩,
    ⟨(some 5), .cvi .i64 (.t 4), none, [1]⟩,
    ⟨(some 6), .mv (.t 0), none, []⟩,
    ⟨(some 7), .bin .and (.t 6) (.k (.d (.int .u64 1))), none, [3]⟩,
    ⟨(some 8), .cvi .i64 (.t 7), none, [4]⟩,
    ⟨(some 9), .un .neg (.t 8), none, [5]⟩,
    ⟨(some 10), .bin .xor (.t 5) (.t 9), none, [2, 6]⟩,
    ⟨(some 2), .mv (.t 10), none, [7, 0, 1, 2, 3, 4, 5, 6]⟩])
   .ret)) }
def HC88 (P : Program) (N : Nat → Nat) : Prop := HasF P (N 88) (C88 N)
def f88 (k : Nat) (a0 : Int) : Option Unit := some ()
theorem F88 {P : Program} {N : Nat → Nat} (hmix : P.follows .mixedOrders = true) (hc : HC88 P N) {k : Nat} {a0 : Int} {r : Unit} (h : f88 k a0 = some r) :
    ACalls P (N 88) [(.d (.int .u64 a0))] [] (.d (.int .i64 (bitsA .xor .i64 (IntKind.i64.wrap (Int.fdiv a0 (2 ^ (min ((1 : Int)).toNat IntKind.u64.bits)))) (IntKind.i64.wrap (0 - (IntKind.i64.wrap (bitsA .and .u64 a0 (1 : Int)))))))) [] := by
  refine acalls_canon (F := C88 N) hc 0 0 rfl ?_
  unfold f88 at h
  dsimp only [C88, startL]
  refine AWc.seq ?_
  refine AWc.rg hmix rfl rfl ?_
  refine RegV.p0 rfl rfl rfl ?_
  refine RegV.nil0 ?_
  refine AWc.seq ?_
  refine AWc.rg hmix rfl rfl ?_
  refine RegV.p0 rfl rfl rfl ?_
  refine RegV.p1 (v := (.d (.int .u64 (Int.fdiv a0 (2 ^ (min ((1 : Int)).toNat IntKind.u64.bits)))))) rfl rfl (by decide) rfl rfl ?_
  refine RegV.p0 (v := (.d (.int .i64 (IntKind.i64.wrap (Int.fdiv a0 (2 ^ (min ((1 : Int)).toNat IntKind.u64.bits))))))) rfl rfl rfl ?_
  refine RegV.p0 rfl rfl rfl ?_
  refine RegV.p0 (v := (.d (.int .u64 (bitsA .and .u64 a0 (1 : Int))))) rfl rfl rfl ?_
  refine RegV.p0 (v := (.d (.int .i64 (IntKind.i64.wrap (bitsA .and .u64 a0 (1 : Int)))))) rfl rfl rfl ?_
  refine RegV.p0 (v := (.d (.int .i64 (IntKind.i64.wrap (0 - (IntKind.i64.wrap (bitsA .and .u64 a0 (1 : Int)))))))) rfl rfl rfl ?_
  refine RegV.p0 (v := (.d (.int .i64 (bitsA .xor .i64 (IntKind.i64.wrap (Int.fdiv a0 (2 ^ (min ((1 : Int)).toNat IntKind.u64.bits)))) (IntKind.i64.wrap (0 - (IntKind.i64.wrap (bitsA .and .u64 a0 (1 : Int))))))))) rfl rfl rfl ?_
  refine RegV.p0 rfl rfl rfl ?_
  refine RegV.nil0 ?_
  have hr := Option.some.inj h
  subst hr
  exact AWc.ret (canQ (N := 11) (k := 0) (l' := [(2, (.d (.int .i64 (bitsA .xor .i64 (IntKind.i64.wrap (Int.fdiv a0 (2 ^ (min ((1 : Int)).toNat IntKind.u64.bits)))) (IntKind.i64.wrap (0 - (IntKind.i64.wrap (bitsA .and .u64 a0 (1 : Int)))))))))]) (H' := []) rfl ⟨rfl, [], [], rfl, rfl, ⟨⟨_, rfl, (.refl _)⟩, rfl, trivial⟩,  trivial⟩ (doneA (.inr rfl) rfl ⟨trivial, trivial⟩ (.refl _) hasNil))
/-- (*courant/code.Reader).Zig -/
def C40 (N : Nat → Nat) : AFunc := { n := 6, params := 1, res := [.tmp 2], body :=
 (.seq (.region false [⟨(some 2), .mv (.k (.d (.int .i64 0))), none, []⟩])
  (.seq (.region false [⟨(some 3), .mv (.t 0), none, []⟩,
    ⟨(some 4), .call (.k (.d (.fn (N 39)))) [(.t 3)], none, [0]⟩,
    ⟨(some 5), .call (.k (.d (.fn (N 88)))) [(.t 4)], none, [1]⟩,
    ⟨(some 2), .mv (.t 5), none, [2, 0, 1]⟩])
   .ret)) }
def HC40 (P : Program) (N : Nat → Nat) : Prop := HasF P (N 40) (C40 N) ∧ HC39 P N ∧ HC88 P N
def f40 (k : Nat) (a0 : (List UInt8)) (a1 : Int) (a2 : Int) : Option (Int × Int × Int) := (f39 k a0 a1 a2).bind fun r9 => (f88 k r9.1).bind fun r10 => some ((bitsA .xor .i64 (IntKind.i64.wrap (Int.fdiv r9.1 (2 ^ (min ((1 : Int)).toNat IntKind.u64.bits)))) (IntKind.i64.wrap (0 - (IntKind.i64.wrap (bitsA .and .u64 r9.1 (1 : Int)))))), r9.2.1, r9.2.2)
theorem F40 {P : Program} {N : Nat → Nat} (hmix : P.follows .mixedOrders = true) (hc : HC40 P N) {k : Nat} {a0 : (List UInt8)} {a1 : Int} {a2 : Int} {r : (Int × Int × Int)} (h : f40 k a0 a1 a2 = some r) :
    ACalls P (N 40) [(.ptr 0 0)] [(0, (.cells [(.d (.sl (List.map byteD a0))), (.d (.int .i64 a1)), (.d (.int .i64 a2))]))] (.d (.int .i64 r.1)) [(0, (.cells [(.d (.sl (List.map byteD a0))), (.d (.int .i64 r.2.1)), (.d (.int .i64 r.2.2))]))] := by
  refine acalls_canon (F := C40 N) hc.1 1 1 rfl ?_
  unfold f40 at h
  dsimp only [C40, startL]
  refine AWc.seq ?_
  refine AWc.rg hmix rfl rfl ?_
  refine RegV.p0 rfl rfl rfl ?_
  refine RegV.nil0 ?_
  refine AWc.seq ?_
  refine AWc.rg hmix rfl rfl ?_
  refine RegV.p0 rfl rfl rfl ?_
  obtain ⟨r9, e9, h⟩ := bind_some h
  refine RegV.callS (q := false) (H' := [(0, (.cells [(.d (.sl (List.map byteD a0))), (.d (.int .i64 r9.2.1)), (.d (.int .i64 r9.2.2))]))]) (c' := 1) (show ACalls P (N 39) [(.ptr 0 0)] [(0, (.cells [(.d (.sl (List.map byteD a0))), (.d (.int .i64 a1)), (.d (.int .i64 a2))]))] (.d (.int .u64 r9.1)) [(0, (.cells [(.d (.sl (List.map byteD a0))), (.d (.int .i64 r9.2.1)), (.d (.int .i64 r9.2.2))]))] from ACalls.use (F39 hmix hc.2.1 e9) [(0, 0)] 1 rfl) rfl rfl rfl rfl (.cons (.refl _) .nil) (.refl _) (fun h => by cases h) rfl (hasCons rfl hasNil) rfl rfl rfl rfl ?_
  obtain ⟨r10, e10, h⟩ := bind_some h
  refine RegV.call0 (F88 hmix hc.2.2 e10) rfl rfl rfl rfl (.cons (.refl _) .nil) rfl ?_
  refine RegV.p0 rfl rfl rfl ?_
  refine RegV.nil0 ?_
  have hr := Option.some.inj h
  subst hr
  exact AWc.ret (canQ (N := 6) (k := 1) (l' := [(2, (.d (.int .i64 (bitsA .xor .i64 (IntKind.i64.wrap (Int.fdiv r9.1 (2 ^ (min ((1 : Int)).toNat IntKind.u64.bits)))) (IntKind.i64.wrap (0 - (IntKind.i64.wrap (bitsA .and .u64 r9.1 (1 : Int)))))))))]) (H' := [(0, (.cells [(.d (.sl (List.map byteD a0))), (.d (.int .i64 r9.2.1)), (.d (.int .i64 r9.2.2))]))]) rfl ⟨rfl, [], [], rfl, rfl, ⟨⟨_, rfl, (.refl _)⟩, rfl, trivial⟩, ⟨⟨_, rfl, (.refl _)⟩, rfl, rfl, trivial⟩⟩ (doneA (.inr rfl) rfl ⟨trivial, trivial⟩ (.refl _) (hasCons rfl hasNil)))
/-- (*courant/code.Reader).Err -/
def C42 (N : Nat → Nat) : AFunc := { n := 9, params := 1, res := [.tmp 2], body :=
 (.seq (.region false [⟨(some 2), .mv (.k (.d (.int .i64 0))), none, []⟩])
  (.seq (.seq (.region false [⟨(some 3), .mv (.t 0), none, []⟩,
     ⟨(some 4), .nileq 1 false (.t 3) (.k (.d .nilp)), none, [0]⟩])
    (.cond (.t 4) (.seq (.region false [⟨(some 2), .mv (.k (.d (.int .i64 2))), none, []⟩])
      .ret)
     (.skip)))
   (.seq (.region false [⟨(some 5), .mv (.t 0), none, []⟩,
     ⟨(some 6), .nilchk (.t 5), none, [0]⟩,
     ⟨(some 7), .faddr (.t 6) 2, none, [1]⟩,
     ⟨(some 8), .load (.t 7) 1 false, none, [2]⟩,
     ⟨(some 2), .mv (.t 8), none, [3, 0, 1, 2]⟩])
    .ret))) }
def HC42 (P : Program) (N : Nat → Nat) : Prop := HasF P (N 42) (C42 N)
def f42 (k : Nat) (a0 : (List UInt8)) (a1 : Int) (a2 : Int) : Option Unit := some ()
theorem F42 {P : Program} {N : Nat → Nat} (hmix : P.follows .mixedOrders = true) (hc : HC42 P N) {k : Nat} {a0 : (List UInt8)} {a1 : Int} {a2 : Int} {r : Unit} (h : f42 k a0 a1 a2 = some r) :
    ACalls P (N 42) [(.ptr 0 0)] [(0, (.cells [(.d (.sl (List.map byteD a0))), (.d (.int .i64 a1)), (.d (.int .i64 a2))]))] (.d (.int .i64 a2)) [(0, (.cells [(.d (.sl (List.map byteD a0))), (.d (.int .i64 a1)), (.d (.int .i64 a2))]))] := by
  refine acalls_canon (F := C42 N) hc 1 1 rfl ?_
  unfold f42 at h
  dsimp only [C42, startL]
  refine AWc.seq ?_
  refine AWc.rg hmix rfl rfl ?_
  refine RegV.p0 rfl rfl rfl ?_
  refine RegV.nil0 ?_
  refine AWc.seq ?_
  refine AWc.seq ?_
  refine AWc.rg hmix rfl rfl ?_
  refine RegV.p0 rfl rfl rfl ?_
  refine RegV.p0 (v := (.d (.bool false))) rfl rfl rfl ?_
  refine RegV.nil0 ?_
  refine AWc.cond rfl (fun hc => by cases hc) (fun _ => ?_)
  refine AWc.skip ?_
  refine AWc.seq ?_
  refine AWc.rg hmix rfl rfl ?_
  refine RegV.p0 rfl rfl rfl ?_
  refine RegV.p0 rfl rfl rfl ?_
  refine RegV.p0 (v := (.ptr 0 2)) rfl rfl rfl ?_
  refine RegV.ld (v := (.d (.int .i64 a2))) (H' := [(0, (.cells [(.d (.sl (List.map byteD a0))), (.d (.int .i64 a1)), (.d (.int .i64 a2))]))]) rfl rfl trivial rfl rfl rfl rfl rfl ?_
  refine RegV.p0 rfl rfl rfl ?_
  refine RegV.nil0 ?_
  have hr := Option.some.inj h
  subst hr
  exact AWc.ret (canQ (N := 9) (k := 1) (l' := [(2, (.d (.int .i64 a2)))]) (H' := [(0, (.cells [(.d (.sl (List.map byteD a0))), (.d (.int .i64 a1)), (.d (.int .i64 a2))]))]) rfl ⟨rfl, [], [], rfl, rfl, ⟨⟨_, rfl, (.refl _)⟩, rfl, trivial⟩, ⟨⟨_, rfl, (.refl _)⟩, rfl, rfl, trivial⟩⟩ (doneA (.inr rfl) rfl ⟨trivial, trivial⟩ (.refl _) (hasCons rfl hasNil)))
/-- (*courant/code.Reader).Left -/
def C32 (N : Nat → Nat) : AFunc := { n := 15, params := 1, res := [.tmp 2], body :=
 (.seq (.region false [⟨(some 2), .mv (.k (.d (.int .i64 0))), none, []⟩])
  (.seq (.seq (.region false [⟨(some 3), .mv (.t 0), none, []⟩,
     ⟨(some 4), .nileq 1 false (.t 3) (.k (.d .nilp)), none, [0]⟩])
    (.cond (.t 4) (.seq (.region false [⟨(some 2), .mv (.k (.d (.int .i64 0))), none, []⟩])
      .ret)
     (.skip)))
   (.seq (.region true [⟨(some 5), .mv (.t 0), none, []⟩,
     ⟨(some 6), .nilchk (.t 5), none, [0]⟩,
     ⟨(some 7), .faddr (.t 6) 0, none, [1]⟩,
     ⟨(some 8), .load (.t 7) 1 false, none, [2]⟩,
     ⟨(some 9), .len (.t 8), none, [3]⟩,
     ⟨(some 10), .mv (.t 0), none, []⟩,
     ⟨(some 11), .nilchk (.t 10), none, [5]⟩,
     ⟨(some 12), .faddr (.t 11) 1, none, [6]⟩,
     ⟨(some 13), .load (.t 12) 1 false, none, [7]⟩,
     ⟨(some 14), .bin .sub (.t 9) (.t 13), none, [4, 8]⟩,
     ⟨(some 2), .mv (.t 14), none, [9, 0, 1, 2, 3, 4, 5, 6, 7, 8]⟩])
    .ret))) }
def HC32 (P : Program) (N : Nat → Nat) : Prop := HasF P (N 32) (C32 N)
def f32 (k : Nat) (a0 : (List UInt8)) (a1 : Int) (a2 : Int) : Option Unit := some ()
theorem F32 {P : Program} {N : Nat → Nat} (hmix : P.follows .mixedOrders = true) (hc : HC32 P N) {k : Nat} {a0 : (List UInt8)} {a1 : Int} {a2 : Int} {r : Unit} (h : f32 k a0 a1 a2 = some r) :
    ACalls P (N 32) [(.ptr 0 0)] [(0, (.cells [(.d (.sl (List.map byteD a0))), (.d (.int .i64 a1)), (.d (.int .i64 a2))]))] (.d (.int .i64 (IntKind.i64.wrap (((a0.length : Nat) : Int) - a1)))) [(0, (.cells [(.d (.sl (List.map byteD a0))), (.d (.int .i64 a1)), (.d (.int .i64 a2))]))] := by
  refine acalls_canon (F := C32 N) hc 1 1 rfl ?_
  unfold f32 at h
  dsimp only [C32, startL]
  refine AWc.seq ?_
  refine AWc.rg hmix rfl rfl ?_
  refine RegV.p0 rfl rfl rfl ?_
  refine RegV.nil0 ?_
  refine AWc.seq ?_
  refine AWc.seq ?_
  refine AWc.rg hmix rfl rfl ?_
  refine RegV.p0 rfl rfl rfl ?_
  refine RegV.p0 (v := (.d (.bool false))) rfl rfl rfl ?_
  refine RegV.nil0 ?_
  refine AWc.cond rfl (fun hc => by cases hc) (fun _ => ?_)
  refine AWc.skip ?_
  refine AWc.seq ?_
  refine AWc.rg hmix rfl rfl ?_
  refine RegV.p0 rfl rfl rfl ?_
  refine RegV.p0 rfl rfl rfl ?_
  refine RegV.p0 (v := (.ptr 0 0)) rfl rfl rfl ?_
  refine RegV.ld (v := (.d (.sl (List.map byteD a0)))) (H' := [(0, (.cells [(.d (.sl (List.map byteD a0))), (.d (.int .i64 a1)), (.d (.int .i64 a2))]))]) rfl rfl trivial rfl rfl rfl rfl rfl ?_
  refine RegV.len (xs := a0) (e := byteD) rfl rfl rfl rfl ?_
  refine RegV.p0 rfl rfl rfl ?_
  refine RegV.p0 rfl rfl rfl ?_
  refine RegV.p0 (v := (.ptr 0 1)) rfl rfl rfl ?_
  refine RegV.ld (v := (.d (.int .i64 a1))) (H' := [(0, (.cells [(.d (.sl (List.map byteD a0))), (.d (.int .i64 a1)), (.d (.int .i64 a2))]))]) rfl rfl trivial rfl rfl rfl rfl rfl ?_
  refine RegV.p0 (v := (.d (.int .i64 (IntKind.i64.wrap (((a0.length : Nat) : Int) - a1))))) rfl rfl rfl ?_
  refine RegV.p0 rfl rfl rfl ?_
  refine RegV.nil1 (by kernel_rfl) ?_
  have hr := Option.some.inj h
  subst hr
  exact AWc.ret (canQ (N := 15) (k := 1) (l' := [(2, (.d (.int .i64 (IntKind.i64.wrap (((a0.length : Nat) : Int) - a1)))))]) (H' := [(0, (.cells [(.d (.sl (List.map byteD a0))), (.d (.int .i64 a1)), (.d (.int .i64 a2))]))]) rfl ⟨rfl, [], [], rfl, rfl, ⟨⟨_, rfl, (.refl _)⟩, rfl, trivial⟩, ⟨⟨_, rfl, (.refl _)⟩, rfl, rfl, trivial⟩⟩ (doneA (.inr rfl) rfl ⟨trivial, trivial⟩ (.refl _) (hasCons rfl hasNil)))
/-- (*courant/code.Reader).Raw -/
def C41 (N : Nat → Nat) : AFunc := { n := 46, params := 2, res := [.tmp 4], body :=
 (.seq (.region false [⟨(some 4), .mv (.k .nils), none, []⟩])
  (.seq (.seq (.region false [⟨(some 5), .mv (.t 0), none, []⟩,
     ⟨(some 6), .call (.k (.d (.fn (N 84)))) [(.t 5)], none, [0]⟩,
     ⟨(some 7), .un .not (.t 6), none, [1]⟩,
     ⟨(some 8), .mv (.t 7), none, [2, 1]⟩,
     ⟨(some 9), .mv (.t 1), (some (8, false)), [3]⟩,
     ⟨(some 10), .bin .leq (.t 9) (.k (.d (.int .i64 0))), (some (8, false)), [4, 3]⟩,
     ⟨(some 11), .pick (.t 8) (.k (.d (.bool true))) (.t 10), none, [3, 5]⟩])
    (.cond (.t 11) (.seq (.region false [⟨(some 4), .mv (.k .nils), none, []⟩])
      .ret)
     (.skip)))
   (.seq (.seq (.region false [⟨(some 12), .mv (.t 1), none, []⟩,
      ⟨(some 13), .mv (.t 0), none, []⟩,
      ⟨(some 14), .call (.k (.d (.fn (N 32)))) [(.t 13)], none, [1]⟩,
      ⟨(some 15), .bin .gtr (.t 12) (.t 14), none, [0, 2]⟩])
     (.cond (.t 15) (.seq (.region false [⟨(some 16), .mv (.t 0), none, []⟩,
        ⟨(some 17), .mv (.t 0), none, []⟩,
        ⟨(some 18), .nilchk (.t 17), none, [1]⟩,
        ⟨(some 19), .faddr (.t 18) 1, none, [2]⟩,
        ⟨(some 20), .load (.t 19) 1 false, none, [3]⟩,
        ⟨(some 21), .call (.k (.d (.fn (N 85)))) [(.t 16), (.t 20), (.k (.d (.int .i64 3)))], none, [0, 4]⟩])
       (.seq (.region false [⟨(some 4), .mv (.k .nils), none, []⟩])
        .ret))
      (.skip)))
    (.seq (.region false [⟨(some 22), .mv (.t 0), none, []⟩,
      ⟨(some 23), .nilchk (.t 22), none, [0]⟩,
      ⟨(some 24), .faddr (.t 23) 1, none, [1]⟩,
      ⟨(some 25), .load (.t 24) 1 false, none, [2]⟩,
      ⟨(some 26), .mv (.t 1), none, []⟩,
      ⟨(some 27), .bin .add (.t 25) (.t 26), none, [3, 4]⟩,
      ⟨(some 28), .nilchk (.t 22), none, [0, 1, 2, 3, 4, 5]⟩,
      ⟨(some 29), .faddr (.t 28) 1, none, [6, 0, 1, 2, 3, 4, 5]⟩,
      ⟨none, .store (.t 29) (.t 27) 1, none, [7, 5, 0, 1, 2, 3, 4]⟩])
     (.seq (.region true [⟨(some 30), .mv (.t 0), none, []⟩,
       ⟨(some 31), .nilchk (.t 30), none, [0]⟩,
       ⟨(some 32), .faddr (.t 31) 0, none, [1]⟩,
       ⟨(some 33), .load (.t 32) 1 false, none, [2]⟩,
       ⟨(some 34), .mv (.t 0), none, []⟩,
       ⟨(some 35), .nilchk (.t 34), none, [4]⟩,
       ⟨(some 36), .faddr (.t 35) 1, none, [5]⟩,
       ⟨(some 37), .load (.t 36) 1 false, none, [6]⟩,
       ⟨(some 38), .mv (.t 1), none, []⟩,
       ⟨(some 39), .bin .sub (.t 37) (.t 38), none, [7, 8]⟩,
       ⟨(some 40), .mv (.t 0), none, []⟩,
       ⟨(some 41), .nilchk (.t 40), none, [10]⟩,
       ⟨(some 42), .faddr (.t 41) 1, none, [11]⟩,
       ⟨(some 43), .load (.t 42) 1 false, none, [12]⟩,
       ⟨(some 44), .slc (.t 33) (some (.t 39)) (some (.t 43)) none 1, none, [3, 9, 13]⟩,
       ⟨(some 45), .app (.k .nils) (.t 44) 1 1 [(.int .u8 0)], none, [14]⟩,
       ⟨(some 4), .mv (.t 45), none, [15, 0, 1, 2, 3, 4, 5, 6, 7, 8, 9, 10, 11, 12, 13, 14]⟩])
      .ret))))) }
def HC41 (P : Program) (N : Nat → Nat) : Prop := HasF P (N 41) (C41 N) ∧ HC84 P N ∧ HC32 P N ∧ HC85 P N
def f41 (k : Nat) (a0 : (List UInt8)) (a1 : Int) (a2 : Int) (a3 : Int) : Option ((List UInt8) × Int × Int) := (f84 k a0 a1 a2).bind fun r10 => cond (!(decide (a2 = (0 : Int)))) (some (([] : List UInt8), a1, a2)) (cond (decide (a3 ≤ (0 : Int))) (some (([] : List UInt8), a1, a2)) ((f32 k a0 a1 a2).bind fun r29 => cond (decide (a3 > (IntKind.i64.wrap (((a0.length : Nat) : Int) - a1)))) ((f85 k a0 a1 a2 a1 (3 : Int)).bind fun r40 => some (([] : List UInt8), a1, (3 : Int))) (gd (0 ≤ (IntKind.i64.wrap ((IntKind.i64.wrap (a1 + a3)) - a3)) ∧ (IntKind.i64.wrap ((IntKind.i64.wrap (a1 + a3)) - a3)) ≤ (IntKind.i64.wrap (a1 + a3)) ∧ (IntKind.i64.wrap (a1 + a3)) ≤ ((a0.length : Nat) : Int)) (gd ((sl a0 (IntKind.i64.wrap ((IntKind.i64.wrap (a1 + a3)) - a3)) (IntKind.i64.wrap (a1 + a3))).length * 1 ≤ 281474976710656) (some ((sl a0 (IntKind.i64.wrap ((IntKind.i64.wrap (a1 + a3)) - a3)) (IntKind.i64.wrap (a1 + a3))), (IntKind.i64.wrap (a1 + a3)), a2))))))
theorem F41 {P : Program} {N : Nat → Nat} (hmix : P.follows .mixedOrders = true) (hc : HC41 P N) {k : Nat} {a0 : (List UInt8)} {a1 : Int} {a2 : Int} {a3 : Int} {r : ((List UInt8) × Int × Int)} (h : f41 k a0 a1 a2 a3 = some r) :
    ACalls P (N 41) [(.ptr 0 0), (.d (.int .i64 a3))] [(0, (.cells [(.d (.sl (List.map byteD a0))), (.d (.int .i64 a1)), (.d (.int .i64 a2))]))] (.ap 1 1 (List.map byteD r.1)) [(1, (.tok ((List.map byteD r.1).length * 1))), (0, (.cells [(.d (.sl (List.map byteD a0))), (.d (.int .i64 r.2.1)), (.d (.int .i64 r.2.2))]))] := by
  refine acalls_canon (F := C41 N) hc.1 1 2 rfl ?_
  unfold f41 at h
  dsimp only [C41, startL]
  refine AWc.seq ?_
  refine AWc.rg hmix rfl rfl ?_
  refine RegV.p0 rfl rfl rfl ?_
  refine RegV.nil0 ?_
  refine AWc.seq ?_
  refine AWc.seq ?_
  refine AWc.rg hmix rfl rfl ?_
  refine RegV.p0 rfl rfl rfl ?_
  obtain ⟨r10, e10, h⟩ := bind_some h
  refine RegV.callS (q := true) (H' := [(0, (.cells [(.d (.sl (List.map byteD a0))), (.d (.int .i64 a1)), (.d (.int .i64 a2))]))]) (c' := 1) (show ACalls P (N 84) [(.ptr 0 0)] [(0, (.cells [(.d (.sl (List.map byteD a0))), (.d (.int .i64 a1)), (.d (.int .i64 a2))]))] (.d (.bool (decide (a2 = (0 : Int))))) [(0, (.cells [(.d (.sl (List.map byteD a0))), (.d (.int .i64 a1)), (.d (.int .i64 a2))]))] from ACalls.use (F84 hmix hc.2.1 e10) [(0, 0)] 1 rfl) rfl rfl rfl rfl (.cons (.refl _) .nil) (.refl _) (fun _ => rfl) rfl (hasCons rfl hasNil) rfl rfl rfl rfl ?_
  refine RegV.p0 (v := (.d (.bool (!(decide (a2 = (0 : Int))))))) rfl rfl rfl ?_
  refine RegV.p0 rfl rfl rfl ?_
  refine RegV.split (fun c12 => ?_) (fun c12 => ?_)
  · have h := cond_pos c12 h
    refine RegV.noS rfl rfl ?_
    refine RegV.noS rfl rfl ?_
    refine RegV.p0 rfl rfl rfl ?_
    refine RegV.nil0 ?_
    refine AWc.cond rfl (fun _ => ?_) (fun hc => by cases hc)
    refine AWc.seq ?_
    refine AWc.rg hmix rfl rfl ?_
    refine RegV.p0 rfl rfl rfl ?_
    refine RegV.nil0 ?_
    have hr := Option.some.inj h
    subst hr
    exact AWc.ret (canQ (N := 46) (k := 2) (l' := [(4, (.ap 1 1 (List.map byteD ([] : List UInt8))))]) (H' := [(1, (.tok ((List.map byteD ([] : List UInt8)).length * 1))), (0, (.cells [(.d (.sl (List.map byteD a0))), (.d (.int .i64 a1)), (.d (.int .i64 a2))]))]) rfl ⟨rfl, [.tok 0], [(1, 1)], rfl, rfl, ⟨⟨_, rfl, .nil⟩, rfl, trivial⟩, ⟨⟨_, rfl, (.refl _)⟩, rfl, rfl, ⟨⟨_, rfl, (.refl _)⟩, rfl, rfl, trivial⟩⟩⟩ (doneA (.inr rfl) rfl ⟨trivial, trivial⟩ (.refl _) (hasCons rfl (hasCons rfl hasNil))))
  · have h := cond_neg c12 h
    refine RegV.p0 rfl rfl rfl ?_
    refine RegV.p0 (v := (.d (.bool (decide (a3 ≤ (0 : Int)))))) rfl rfl rfl ?_
    refine RegV.p0 rfl rfl rfl ?_
    refine RegV.nil0 ?_
    refine AWc.cond rfl (fun c16 => ?_) (fun c16 => ?_)
    · have h := cond_pos c16 h
      refine AWc.seq ?_
      refine AWc.rg hmix rfl rfl ?_
      refine RegV.p0 rfl rfl rfl ?_
      refine RegV.nil0 ?_
      have hr := Option.some.inj h
      subst hr
      exact AWc.ret (canQ (N := 46) (k := 2) (l' := [(4, (.ap 1 1 (List.map byteD ([] : List UInt8))))]) (H' := [(1, (.tok ((List.map byteD ([] : List UInt8)).length * 1))), (0, (.cells [(.d (.sl (List.map byteD a0))), (.d (.int .i64 a1)), (.d (.int .i64 a2))]))]) rfl ⟨rfl, [.tok 0], [(1, 1)], rfl, rfl, ⟨⟨_, rfl, .nil⟩, rfl, trivial⟩, ⟨⟨_, rfl, (.refl _)⟩, rfl, rfl, ⟨⟨_, rfl, (.refl _)⟩, rfl, rfl, trivial⟩⟩⟩ (doneA (.inr rfl) rfl ⟨trivial, trivial⟩ (.refl _) (hasCons rfl (hasCons rfl hasNil))))
    · have h := cond_neg c16 h
      refine AWc.skip ?_
      refine AWc.seq ?_
      refine AWc.seq ?_
      refine AWc.rg hmix rfl rfl ?_
      refine RegV.p0 rfl rfl rfl ?_
      refine RegV.p0 rfl rfl rfl ?_
      obtain ⟨r29, e29, h⟩ := bind_some h
      refine RegV.callS (q := true) (H' := [(0, (.cells [(.d (.sl (List.map byteD a0))), (.d (.int .i64 a1)), (.d (.int .i64 a2))]))]) (c' := 1) (show ACalls P (N 32) [(.ptr 0 0)] [(0, (.cells [(.d (.sl (List.map byteD a0))), (.d (.int .i64 a1)), (.d (.int .i64 a2))]))] (.d (.int .i64 (IntKind.i64.wrap (((a0.length : Nat) : Int) - a1)))) [(0, (.cells [(.d (.sl (List.map byteD a0))), (.d (.int .i64 a1)), (.d (.int .i64 a2))]))] from ACalls.use (F32 hmix hc.2.2.1 e29) [(0, 0)] 1 rfl) rfl rfl rfl rfl (.cons (.refl _) .nil) (.refl _) (fun _ => rfl) rfl (hasCons rfl hasNil) rfl rfl rfl rfl ?_
      refine RegV.p0 (v := (.d (.bool (decide (a3 > (IntKind.i64.wrap (((a0.length : Nat) : Int) - a1))))))) rfl rfl rfl ?_
      refine RegV.nil0 ?_
      refine AWc.cond rfl (fun c31 => ?_) (fun c31 => ?_)
      · have h := cond_pos c31 h
        refine AWc.seq ?_
        refine AWc.rg hmix rfl rfl ?_
        refine RegV.p0 rfl rfl rfl ?_
        refine RegV.p0 rfl rfl rfl ?_
        refine RegV.p0 rfl rfl rfl ?_
        refine RegV.p0 (v := (.ptr 0 1)) rfl rfl rfl ?_
        refine RegV.ld (v := (.d (.int .i64 a1))) (H' := [(0, (.cells [(.d (.sl (List.map byteD a0))), (.d (.int .i64 a1)), (.d (.int .i64 a2))]))]) rfl rfl trivial rfl rfl rfl rfl rfl ?_
        obtain ⟨r40, e40, h⟩ := bind_some h
        refine RegV.callS (q := false) (H' := [(0, (.cells [(.d (.sl (List.map byteD a0))), (.d (.int .i64 a1)), (.d (.int .i64 (3 : Int)))]))]) (c' := 1) (show ACalls P (N 85) [(.ptr 0 0), (.d (.int .i64 a1)), (.d (.int .i64 (3 : Int)))] [(0, (.cells [(.d (.sl (List.map byteD a0))), (.d (.int .i64 a1)), (.d (.int .i64 a2))]))] (.tup []) [(0, (.cells [(.d (.sl (List.map byteD a0))), (.d (.int .i64 a1)), (.d (.int .i64 (3 : Int)))]))] from ACalls.use (F85 hmix hc.2.2.2 e40) [(0, 0)] 1 rfl) rfl rfl rfl rfl (.cons (.refl _) (.cons (.refl _) (.cons (.refl _) .nil))) (.refl _) (fun h => by cases h) rfl (hasCons rfl hasNil) rfl rfl rfl rfl ?_
        refine RegV.nil0 ?_
        refine AWc.seq ?_
        refine AWc.rg hmix rfl rfl ?_
        refine RegV.p0 rfl rfl rfl ?_
        refine RegV.nil0 ?_
        have hr := Option.some.inj h
        subst hr
        exact AWc.ret (canQ (N := 46) (k := 2) (l' := [(4, (.ap 1 1 (List.map byteD ([] : List UInt8))))]) (H' := [(1, (.tok ((List.map byteD ([] : List UInt8)).length * 1))), (0, (.cells [(.d (.sl (List.map byteD a0))), (.d (.int .i64 a1)), (.d (.int .i64 (3 : Int)))]))]) rfl ⟨rfl, [.tok 0], [(1, 1)], rfl, rfl, ⟨⟨_, rfl, .nil⟩, rfl, trivial⟩, ⟨⟨_, rfl, (.refl _)⟩, rfl, rfl, ⟨⟨_, rfl, (.refl _)⟩, rfl, rfl, trivial⟩⟩⟩ (doneA (.inr rfl) rfl ⟨trivial, trivial⟩ (.refl _) (hasCons rfl (hasCons rfl hasNil))))
      · have h := cond_neg c31 h
        refine AWc.skip ?_
        refine AWc.seq ?_
        refine AWc.rg hmix rfl rfl ?_
        refine RegV.p0 rfl rfl rfl ?_
        refine RegV.p0 rfl rfl rfl ?_
        refine RegV.p0 (v := (.ptr 0 1)) rfl rfl rfl ?_
        refine RegV.ld (v := (.d (.int .i64 a1))) (H' := [(0, (.cells [(.d (.sl (List.map byteD a0))), (.d (.int .i64 a1)), (.d (.int .i64 a2))]))]) rfl rfl trivial rfl rfl rfl rfl rfl ?_
        refine RegV.p0 rfl rfl rfl ?_
        refine RegV.p0 (v := (.d (.int .i64 (IntKind.i64.wrap (a1 + a3))))) rfl rfl rfl ?_
        refine RegV.p0 rfl rfl rfl ?_
        refine RegV.p0 (v := (.ptr 0 1)) rfl rfl rfl ?_
        refine RegV.evN (own := false) (H' := [(0, (.cells [(.d (.sl (List.map byteD a0))), (.d (.int .i64 (IntKind.i64.wrap (a1 + a3)))), (.d (.int .i64 a2))]))]) (c' := 1) rfl rfl (by exact ⟨rfl, Nat.le_of_ble_eq_true rfl, rfl⟩) rfl rfl rfl rfl ?_
        refine RegV.nil0 ?_
        refine AWc.seq ?_
        refine AWc.rg hmix rfl rfl ?_
        refine RegV.p0 rfl rfl rfl ?_
        refine RegV.p0 rfl rfl rfl ?_
        refine RegV.p0 (v := (.ptr 0 0)) rfl rfl rfl ?_
        refine RegV.ld (v := (.d (.sl (List.map byteD a0)))) (H' := [(0, (.cells [(.d (.sl (List.map byteD a0))), (.d (.int .i64 (IntKind.i64.wrap (a1 + a3)))), (.d (.int .i64 a2))]))]) rfl rfl trivial rfl rfl rfl rfl rfl ?_
        refine RegV.p0 rfl rfl rfl ?_
        refine RegV.p0 rfl rfl rfl ?_
        refine RegV.p0 (v := (.ptr 0 1)) rfl rfl rfl ?_
        refine RegV.ld (v := (.d (.int .i64 (IntKind.i64.wrap (a1 + a3))))) (H' := [(0, (.cells [(.d (.sl (List.map byteD a0))), (.d (.int .i64 (IntKind.i64.wrap (a1 + a3)))), (.d (.int .i64 a2))]))]) rfl rfl trivial rfl rfl rfl rfl rfl ?_
        refine RegV.p0 rfl rfl rfl ?_
        refine RegV.p0 (v := (.d (.int .i64 (IntKind.i64.wrap ((IntKind.i64.wrap (a1 + a3)) - a3))))) rfl rfl rfl ?_
        refine RegV.p0 rfl rfl rfl ?_
        refine RegV.p0 rfl rfl rfl ?_
        refine RegV.p0 (v := (.ptr 0 1)) rfl rfl rfl ?_
        refine RegV.ld (v := (.d (.int .i64 (IntKind.i64.wrap (a1 + a3))))) (H' := [(0, (.cells [(.d (.sl (List.map byteD a0))), (.d (.int .i64 (IntKind.i64.wrap (a1 + a3)))), (.d (.int .i64 a2))]))]) rfl rfl trivial rfl rfl rfl rfl rfl ?_
        obtain ⟨b76, h⟩ := gd_some h
        refine RegV.slc (xs := a0) (e := byteD) (lo := (IntKind.i64.wrap ((IntKind.i64.wrap (a1 + a3)) - a3))) (hi := (IntKind.i64.wrap (a1 + a3))) rfl rfl rfl b76 (fun _ => rfl) rfl ?_
        obtain ⟨b77, h⟩ := gd_some h
        refine RegV.appN (ys := (sl a0 (IntKind.i64.wrap ((IntKind.i64.wrap (a1 + a3)) - a3)) (IntKind.i64.wrap (a1 + a3)))) (e := byteD) rfl rfl rfl (fun _ => rfl) rfl rfl b77 rfl rfl ?_
        refine RegV.p0 rfl rfl rfl ?_
        refine RegV.nil1 (by kernel_rfl) ?_
        have hr := Option.some.inj h
        subst hr
        exact AWc.ret (canQ (N := 46) (k := 2) (l' := [(4, (.ap 1 1 (List.map byteD (sl a0 (IntKind.i64.wrap ((IntKind.i64.wrap (a1 + a3)) - a3)) (IntKind.i64.wrap (a1 + a3))))))]) (H' := [(1, (.tok ((List.map byteD (sl a0 (IntKind.i64.wrap ((IntKind.i64.wrap (a1 + a3)) - a3)) (IntKind.i64.wrap (a1 + a3)))).length * 1))), (0, (.cells [(.d (.sl (List.map byteD a0))), (.d (.int .i64 (IntKind.i64.wrap (a1 + a3)))), (.d (.int .i64 a2))]))]) rfl ⟨rfl, [], [], rfl, rfl, ⟨⟨_, rfl, (.refl _)⟩, rfl, trivial⟩, ⟨⟨_, rfl, (.refl _)⟩, rfl, rfl, ⟨⟨_, rfl, (.refl _)⟩, rfl, rfl, trivial⟩⟩⟩ (doneA (.inr rfl) rfl ⟨trivial, trivial⟩ (.refl _) (hasCons rfl (hasCons rfl hasNil))))
/-- (*courant/code.Reader).Text -/
def C31 (N : Nat → Nat) : AFunc := { n := 53, params := 2, res := [.tmp 4], body :=
 (.seq (.region false [⟨(some 4), .mv (.k .nils), none, []⟩])
  (.seq (.seq (.region false [⟨(some 8), .mv (.t 0), none, []⟩,
     ⟨(some 9), .call (.k (.d (.fn (N 84)))) [(.t 8)], none, [0]⟩,
     ⟨(some 10), .un .not (.t 9), none, [1]⟩])
    (.cond (.t 10) (.seq (.region false [⟨(some 4), .mv (.k .nils), none, []⟩])
      .ret)
     (.skip)))
   (.seq (.region false [⟨(some 11), .mv (.t 0), none, []⟩,
     ⟨(some 12), .nilchk (.t 11), none, [0]⟩,
     ⟨(some 13), .faddr (.t 12) 1, none, [1]⟩,
     ⟨(some 14), .load (.t 13) 1 false, none, [2]⟩,
     ⟨(some 5), .mv (.t 14), none, [3, 0, 1, 2]⟩])
    (.seq (.region false [⟨(some 15), .mv (.t 0), none, []⟩,
      ⟨(some 16), .call (.k (.d (.fn (N 40)))) [(.t 15)], none, [0]⟩,
      ⟨(some 6), .mv (.t 16), none, [1, 0]⟩])
     (.seq (.block 0 (.seq (.region false [⟨(some 18), .mv (.t 0), none, []⟩,
         ⟨(some 19), .nilchk (.t 18), none, [0]⟩,
         ⟨(some 20), .faddr (.t 19) 2, none, [1]⟩,
         ⟨(some 21), .load (.t 20) 1 false, none, [2]⟩,
         ⟨(some 22), .bin .neq (.t 21) (.k (.d (.int .i64 0))), none, [3]⟩,
         ⟨(some 17), .mv (.t 22), none, [4]⟩])
        (.cond (.t 17) (.seq (.region false [⟨(some 4), .mv (.k .nils), none, []⟩])
          .ret)
         (.seq (.region false [⟨(some 24), .mv (.t 6), none, []⟩,
           ⟨(some 25), .bin .lss (.t 24) (.k (.d (.int .i64 0))), none, [0]⟩,
           ⟨(some 23), .mv (.t 25), none, [1]⟩])
          (.cond (.t 23) (.seq (.region false [⟨(some 26), .mv (.t 0), none, []⟩,
             ⟨(some 27), .mv (.t 5), none, []⟩,
             ⟨(some 28), .call (.k (.d (.fn (N 85)))) [(.t 26), (.t 27), (.k (.d (.int .i64 4)))], none, [0, 1]⟩])
            (.seq (.region false [⟨(some 4), .mv (.k .nils), none, []⟩])
             .ret))
           (.seq (.region false [⟨(some 30), .mv (.t 6), none, []⟩,
             ⟨(some 31), .mv (.t 1), none, []⟩,
             ⟨(some 32), .mm true [(.t 31), (.k (.d (.int .i64 0)))], none, [1]⟩,
             ⟨(some 33), .bin .gtr (.t 30) (.t 32), none, [0, 2]⟩,
             ⟨(some 29), .mv (.t 33), none, [3]⟩])
            (.cond (.t 29) (.seq (.region false [⟨(some 34), .mv (.t 0), none, []⟩,
               ⟨(some 35), .mv (.t 5), none, []⟩,
               ⟨(some 36), .call (.k (.d (.fn (N 85)))) [(.t 34), (.t 35), (.k (.d (.int .i64 5)))], none, [0, 1]⟩])
              (.seq (.region false [⟨(some 4), .mv (.k .nils), none, []⟩])
               .ret))
             (.skip))))))))
      (.seq (.region false [⟨(some 37), .mv (.t 0), none, []⟩,
        ⟨(some 38), .mv (.t 6), none, []⟩,
        ⟨(some 39), .call (.k (.d (.fn (N 41)))) [(.t 37), (.t 38)], none, [0, 1]⟩,
        ⟨(some 7), .mv (.t 39), none, [2, 0, 1]⟩])
       (.seq (.seq (.region false [⟨(some 40), .mv (.t 0), none, []⟩,
          ⟨(some 41), .nilchk (.t 40), none, [0]⟩,
          ⟨(some 42), .faddr (.t 41) 2, none, [1]⟩,
          ⟨(some 43), .load (.t 42) 1 false, none, [2]⟩,
          ⟨(some 44), .bin .neq (.t 43) (.k (.d (.int .i64 0))), none, [3]⟩])
         (.cond (.t 44) (.region false [⟨(some 45), .mv (.t 0), none, []⟩,
           ⟨(some 46), .mv (.t 5), none, []⟩,
           ⟨(some 47), .mv (.t 0), none, []⟩,
           ⟨(some 48), .nilchk (.t 47), none, [2]⟩,
           ⟨(some 49), .faddr (.t 48) 2, none, [3]⟩,
           ⟨(some 50), .load (.t 49) 1 false, none, [4]⟩,
           ⟨(some 51), .call (.k (.d (.fn (N 85)))) [(.t 45), (.t 46), (.t 50)], none, [0, 1, 5]⟩])
          (.skip)))
        (.seq (.region false [⟨(some 52), .mv (.t 7), none, []⟩,
          ⟨(some 4), .mv (.t 52), none, [0]⟩])
         .ret)))))))) }
def HC31 (P : Program) (N : Nat → Nat) : Prop := HasF P (N 31) (C31 N) ∧ HC84 P N ∧ HC40 P N ∧ HC85 P N ∧ HC41 P N
def f31 (k : Nat) (a0 : (List UInt8)) (a1 : Int) (a2 : Int) (a3 : Int) : Option ((List UInt8) × Int × Int) := (f84 k a0 a1 a2).bind fun r10 => cond (!(decide (a2 = (0 : Int)))) (some (([] : List UInt8), a1, a2)) ((f40 k a0 a1 a2).bind fun r31 => cond (decide (r31.2.2 ≠ (0 : Int))) (some (([] : List UInt8), r31.2.1, r31.2.2)) (cond (decide (r31.1 < (0 : Int))) ((f85 k a0 r31.2.1 r31.2.2 a1 (4 : Int)).bind fun r62 => some (([] : List UInt8), a1, (4 : Int))) (cond (decide (r31.1 > (max a3 (0 : Int)))) ((f85 k a0 r31.2.1 r31.2.2 a1 (5 : Int)).bind fun r82 => some (([] : List UInt8), a1, (5 : Int))) ((f41 k a0 r31.2.1 r31.2.2 r31.1).bind fun r94 => cond (decide (r94.2.2 ≠ (0 : Int))) ((f85 k a0 r94.2.1 r94.2.2 a1 r94.2.2).bind fun r114 => some (r94.1, a1, r94.2.2)) (some (r94.1, r94.2.1, r94.2.2))))))
theorem F31 {P : Program} {N : Nat → Nat} (hmix : P.follows .mixedOrders = true) (hc : HC31 P N) {k : Nat} {a0 : (List UInt8)} {a1 : Int} {a2 : Int} {a3 : Int} {r : ((List UInt8) × Int × Int)} (h : f31 k a0 a1 a2 a3 = some r) :
    ACalls P (N 31) [(.ptr 0 0), (.d (.int .i64 a3))] [(0, (.cells [(.d (.sl (List.map byteD a0))), (.d (.int .i64 a1)), (.d (.int .i64 a2))]))] (.ap 1 1 (List.map byteD r.1)) [(1, (.tok ((List.map byteD r.1).length * 1))), (0, (.cells [(.d (.sl (List.map byteD a0))), (.d (.int .i64 r.2.1)), (.d (.int .i64 r.2.2))]))] := by
  refine acalls_canon (F := C31 N) hc.1 1 2 rfl ?_
  unfold f31 at h
  dsimp only [C31, startL]
  refine AWc.seq ?_
  refine AWc.rg hmix rfl rfl ?_
  refine RegV.p0 rfl rfl rfl ?_
  refine RegV.nil0 ?_
  refine AWc.seq ?_
  refine AWc.seq ?_
  refine AWc.rg hmix rfl rfl ?_
  refine RegV.p0 rfl rfl rfl ?_
  obtain ⟨r10, e10, h⟩ := bind_some h
  refine RegV.callS (q := true) (H' := [(0, (.cells [(.d (.sl (List.map byteD a0))), (.d (.int .i64 a1)), (.d (.int .i64 a2))]))]) (c' := 1) (show ACalls P (N 84) [(.ptr 0 0)] [(0, (.cells [(.d (.sl (List.map byteD a0))), (.d (.int .i64 a1)), (.d (.int .i64 a2))]))] (.d (.bool (decide (a2 = (0 : Int))))) [(0, (.cells [(.d (.sl (List.map byteD a0))), (.d (.int .i64 a1)), (.d (.int .i64 a2))]))] from ACalls.use (F84 hmix hc.2.1 e10) [(0, 0)] 1 rfl) rfl rfl rfl rfl (.cons (.refl _) .nil) (.refl _) (fun _ => rfl) rfl (hasCons rfl hasNil) rfl rfl rfl rfl ?_
  refine RegV.p0 (v := (.d (.bool (!(decide (a2 = (0 : Int))))))) rfl rfl rfl ?_
  refine RegV.nil0 ?_
  refine AWc.cond rfl (fun c12 => ?_) (fun c12 => ?_)
  · have h := cond_pos c12 h
    refine AWc.seq ?_
    refine AWc.rg hmix rfl rfl ?_
    refine RegV.p0 rfl rfl rfl ?_
    refine RegV.nil0 ?_
    have hr := Option.some.inj h
    subst hr
    exact AWc.ret (canQ (N := 53) (k := 2) (l' := [(4, (.ap 1 1 (List.map byteD ([] : List UInt8))))]) (H' := [(1, (.tok ((List.map byteD ([] : List UInt8)).length * 1))), (0, (.cells [(.d (.sl (List.map byteD a0))), (.d (.int .i64 a1)), (.d (.int .i64 a2))]))]) rfl ⟨rfl, [.tok 0], [(1, 1)], rfl, rfl, ⟨⟨_, rfl, .nil⟩, rfl, trivial⟩, ⟨⟨_, rfl, (.refl _)⟩, rfl, rfl, ⟨⟨_, rfl, (.refl _)⟩, rfl, rfl, trivial⟩⟩⟩ (doneA (.inr rfl) rfl ⟨trivial, trivial⟩ (.refl _) (hasCons rfl (hasCons rfl hasNil))))
  · have h := cond_neg c12 h
    refine AWc.skip ?_
    refine AWc.seq ?_
    refine AWc.rg hmix rfl rfl ?_
    refine RegV.p0 rfl rfl rfl ?_
    refine RegV.p0 rfl rfl rfl ?_
    refine RegV.p0 (v := (.ptr 0 1)) rfl rfl rfl ?_
    refine RegV.ld (v := (.d (.int .i64 a1))) (H' := [(0, (.cells [(.d (.sl (List.map byteD a0))), (.d (.int .i64 a1)), (.d (.int .i64 a2))]))]) rfl rfl trivial rfl rfl rfl rfl rfl ?_
    refine RegV.p0 rfl rfl rfl ?_
    refine RegV.nil0 ?_
    refine AWc.seq ?_
    refine AWc.rg hmix rfl rfl ?_
    refine RegV.p0 rfl rfl rfl ?_
    obtain ⟨r31, e31, h⟩ := bind_some h
    refine RegV.callS (q := false) (H' := [(0, (.cells [(.d (.sl (List.map byteD a0))), (.d (.int .i64 r31.2.1)), (.d (.int .i64 r31.2.2))]))]) (c' := 1) (show ACalls P (N 40) [(.ptr 0 0)] [(0, (.cells [(.d (.sl (List.map byteD a0))), (.d (.int .i64 a1)), (.d (.int .i64 a2))]))] (.d (.int .i64 r31.1)) [(0, (.cells [(.d (.sl (List.map byteD a0))), (.d (.int .i64 r31.2.1)), (.d (.int .i64 r31.2.2))]))] from ACalls.use (F40 hmix hc.2.2.1 e31) [(0, 0)] 1 rfl) rfl rfl rfl rfl (.cons (.refl _) .nil) (.refl _) (fun h => by cases h) rfl (hasCons rfl hasNil) rfl rfl rfl rfl ?_
    refine RegV.p0 rfl rfl rfl ?_
    refine RegV.nil0 ?_
    refine AWc.seq ?_
    refine AWc.block ?_
    refine AWc.seq ?_
    refine AWc.rg hmix rfl rfl ?_
    refine RegV.p0 rfl rfl rfl ?_
    refine RegV.p0 rfl rfl rfl ?_
    refine RegV.p0 (v := (.ptr 0 2)) rfl rfl rfl ?_
    refine RegV.ld (v := (.d (.int .i64 r31.2.2))) (H' := [(0, (.cells [(.d (.sl (List.map byteD a0))), (.d (.int .i64 r31.2.1)), (.d (.int .i64 r31.2.2))]))]) rfl rfl trivial rfl rfl rfl rfl rfl ?_
    refine RegV.p0 (v := (.d (.bool (decide (r31.2.2 ≠ (0 : Int)))))) rfl rfl rfl ?_
    refine RegV.p0 rfl rfl rfl ?_
    refine RegV.nil0 ?_
    refine AWc.cond rfl (fun c44 => ?_) (fun c44 => ?_)
    · have h := cond_pos c44 h
      refine AWc.seq ?_
      refine AWc.rg hmix rfl rfl ?_
      refine RegV.p0 rfl rfl rfl ?_
      refine RegV.nil0 ?_
      have hr := Option.some.inj h
      subst hr
      exact AWc.ret (canQ (N := 53) (k := 2) (l' := [(4, (.ap 1 1 (List.map byteD ([] : List UInt8))))]) (H' := [(1, (.tok ((List.map byteD ([] : List UInt8)).length * 1))), (0, (.cells [(.d (.sl (List.map byteD a0))), (.d (.int .i64 r31.2.1)), (.d (.int .i64 r31.2.2))]))]) rfl ⟨rfl, [.tok 0], [(1, 1)], rfl, rfl, ⟨⟨_, rfl, .nil⟩, rfl, trivial⟩, ⟨⟨_, rfl, (.refl _)⟩, rfl, rfl, ⟨⟨_, rfl, (.refl _)⟩, rfl, rfl, trivial⟩⟩⟩ (doneA (.inr rfl) rfl ⟨trivial, trivial⟩ (.refl _) (hasCons rfl (hasCons rfl hasNil))))
    · have h := cond_neg c44 h
      refine AWc.seq ?_
      refine AWc.rg hmix rfl rfl ?_
      refine RegV.p0 rfl rfl rfl ?_
      refine RegV.p0 (v := (.d (.bool (decide (r31.1 < (0 : Int)))))) rfl rfl rfl ?_
      refine RegV.p0 rfl rfl rfl ?_
      refine RegV.nil0 ?_
      refine AWc.cond rfl (fun c56 => ?_) (fun c56 => ?_)
      · have h := cond_pos c56 h
        refine AWc.seq ?_
        refine AWc.rg hmix rfl rfl ?_
        refine RegV.p0 rfl rfl rfl ?_
        refine RegV.p0 rfl rfl rfl ?_
        obtain ⟨r62, e62, h⟩ := bind_some h
        refine RegV.callS (q := false) (H' := [(0, (.cells [(.d (.sl (List.map byteD a0))), (.d (.int .i64 a1)), (.d (.int .i64 (4 : Int)))]))]) (c' := 1) (show ACalls P (N 85) [(.ptr 0 0), (.d (.int .i64 a1)), (.d (.int .i64 (4 : Int)))] [(0, (.cells [(.d (.sl (List.map byteD a0))), (.d (.int .i64 r31.2.1)), (.d (.int .i64 r31.2.2))]))] (.tup []) [(0, (.cells [(.d (.sl (List.map byteD a0))), (.d (.int .i64 a1)), (.d (.int .i64 (4 : Int)))]))] from ACalls.use (F85 hmix hc.2.2.2.1 e62) [(0, 0)] 1 rfl) rfl rfl rfl rfl (.cons (.refl _) (.cons (.refl _) (.cons (.refl _) .nil))) (.refl _) (fun h => by cases h) rfl (hasCons rfl hasNil) rfl rfl rfl rfl ?_
        refine RegV.nil0 ?_
        refine AWc.seq ?_
        refine AWc.rg hmix rfl rfl ?_
        refine RegV.p0 rfl rfl rfl ?_
        refine RegV.nil0 ?_
        have hr := Option.some.inj h
        subst hr
        exact AWc.ret (canQ (N := 53) (k := 2) (l' := [(4, (.ap 1 1 (List.map byteD ([] : List UInt8))))]) (H' := [(1, (.tok ((List.map byteD ([] : List UInt8)).length * 1))), (0, (.cells [(.d (.sl (List.map byteD a0))), (.d (.int .i64 a1)), (.d (.int .i64 (4 : Int)))]))]) rfl ⟨rfl, [.tok 0], [(1, 1)], rfl, rfl, ⟨⟨_, rfl, .nil⟩, rfl, trivial⟩, ⟨⟨_, rfl, (.refl _)⟩, rfl, rfl, ⟨⟨_, rfl, (.refl _)⟩, rfl, rfl, trivial⟩⟩⟩ (doneA (.inr rfl) rfl ⟨trivial, trivial⟩ (.refl _) (hasCons rfl (hasCons rfl hasNil))))
      · have h := cond_neg c56 h
        refine AWc.seq ?_
        refine AWc.rg hmix rfl rfl ?_
        refine RegV.p0 rfl rfl rfl ?_
        refine RegV.p0 rfl rfl rfl ?_
        refine RegV.p0 (v := (.d (.int .i64 (max a3 (0 : Int))))) rfl rfl rfl ?_
        refine RegV.p0 (v := (.d (.bool (decide (r31.1 > (max a3 (0 : Int))))))) rfl rfl rfl ?_
        refine RegV.p0 rfl rfl rfl ?_
        refine RegV.nil0 ?_
        refine AWc.cond rfl (fun c76 => ?_) (fun c76 => ?_)
        · have h := cond_pos c76 h
          refine AWc.seq ?_
          refine AWc.rg hmix rfl rfl ?_
          refine RegV.p0 rfl rfl rfl ?_
          refine RegV.p0 rfl rfl rfl ?_
          obtain ⟨r82, e82, h⟩ := bind_some h
          refine RegV.callS (q := false) (H' := [(0, (.cells [(.d (.sl (List.map byteD a0))), (.d (.int .i64 a1)), (.d (.int .i64 (5 : Int)))]))]) (c' := 1) (show ACalls P (N 85) [(.ptr 0 0), (.d (.int .i64 a1)), (.d (.int .i64 (5 : Int)))] [(0, (.cells [(.d (.sl (List.map byteD a0))), (.d (.int .i64 r31.2.1)), (.d (.int .i64 r31.2.2))]))] (.tup []) [(0, (.cells [(.d (.sl (List.map byteD a0))), (.d (.int .i64 a1)), (.d (.int .i64 (5 : Int)))]))] from ACalls.use (F85 hmix hc.2.2.2.1 e82) [(0, 0)] 1 rfl) rfl rfl rfl rfl (.cons (.refl _) (.cons (.refl _) (.cons (.refl _) .nil))) (.refl _) (fun h => by cases h) rfl (hasCons rfl hasNil) rfl rfl rfl rfl ?_
          refine RegV.nil0 ?_
          refine AWc.seq ?_
          refine AWc.rg hmix rfl rfl ?_
          refine RegV.p0 rfl rfl rfl ?_
          refine RegV.nil0 ?_
          have hr := Option.some.inj h
          subst hr
          exact AWc.ret (canQ (N := 53) (k := 2) (l' := [(4, (.ap 1 1 (List.map byteD ([] : List UInt8))))]) (H' := [(1, (.tok ((List.map byteD ([] : List UInt8)).length * 1))), (0, (.cells [(.d (.sl (List.map byteD a0))), (.d (.int .i64 a1)), (.d (.int .i64 (5 : Int)))]))]) rfl ⟨rfl, [.tok 0], [(1, 1)], rfl, rfl, ⟨⟨_, rfl, .nil⟩, rfl, trivial⟩, ⟨⟨_, rfl, (.refl _)⟩, rfl, rfl, ⟨⟨_, rfl, (.refl _)⟩, rfl, rfl, trivial⟩⟩⟩ (doneA (.inr rfl) rfl ⟨trivial, trivial⟩ (.refl _) (hasCons rfl (hasCons rfl hasNil))))
        · have h := cond_neg c76 h
          refine AWc.skip ?_
          refine AWc.seq ?_
          refine AWc.rg hmix rfl rfl ?_
          refine RegV.p0 rfl rfl rfl ?_
          refine RegV.p0 rfl rfl rfl ?_
          obtain ⟨r94, e94, h⟩ := bind_some h
          refine RegV.callS (q := false) (H' := [(1, (.tok ((List.map byteD r94.1).length * 1))), (0, (.cells [(.d (.sl (List.map byteD a0))), (.d (.int .i64 r94.2.1)), (.d (.int .i64 r94.2.2))]))]) (c' := 2) (show ACalls P (N 41) [(.ptr 0 0), (.d (.int .i64 r31.1))] [(0, (.cells [(.d (.sl (List.map byteD a0))), (.d (.int .i64 r31.2.1)), (.d (.int .i64 r31.2.2))]))] (.ap 1 1 (List.map byteD r94.1)) [(1, (.tok ((List.map byteD r94.1).length * 1))), (0, (.cells [(.d (.sl (List.map byteD a0))), (.d (.int .i64 r94.2.1)), (.d (.int .i64 r94.2.2))]))] from ACalls.use (F41 hmix hc.2.2.2.2 e94) [(0, 0), (1, 1)] 2 rfl) rfl rfl rfl rfl (.cons (.refl _) (.cons (.refl _) .nil)) (.refl _) (fun h => by cases h) rfl (hasCons rfl hasNil) rfl rfl rfl rfl ?_
          refine RegV.p0 rfl rfl rfl ?_
          refine RegV.nil0 ?_
          refine AWc.seq ?_
          refine AWc.seq ?_
          refine AWc.rg hmix rfl rfl ?_
          refine RegV.p0 rfl rfl rfl ?_
          refine RegV.p0 rfl rfl rfl ?_
          refine RegV.p0 (v := (.ptr 0 2)) rfl rfl rfl ?_
          refine RegV.ld (v := (.d (.int .i64 r94.2.2))) (H' := [(0, (.cells [(.d (.sl (List.map byteD a0))), (.d (.int .i64 r94.2.1)), (.d (.int .i64 r94.2.2))])), (1, (.tok ((List.map byteD r94.1).length * 1)))]) rfl rfl trivial rfl rfl rfl rfl rfl ?_
          refine RegV.p0 (v := (.d (.bool (decide (r94.2.2 ≠ (0 : Int)))))) rfl rfl rfl ?_
          refine RegV.nil0 ?_
          refine AWc.cond rfl (fun c105 => ?_) (fun c105 => ?_)
          · have h := cond_pos c105 h
            refine AWc.rg hmix rfl rfl ?_
            refine RegV.p0 rfl rfl rfl ?_
            refine RegV.p0 rfl rfl rfl ?_
            refine RegV.p0 rfl rfl rfl ?_
            refine RegV.p0 rfl rfl rfl ?_
            refine RegV.p0 (v := (.ptr 0 2)) rfl rfl rfl ?_
            refine RegV.ld (v := (.d (.int .i64 r94.2.2))) (H' := [(0, (.cells [(.d (.sl (List.map byteD a0))), (.d (.int .i64 r94.2.1)), (.d (.int .i64 r94.2.2))])), (1, (.tok ((List.map byteD r94.1).length * 1)))]) rfl rfl trivial rfl rfl rfl rfl rfl ?_
            obtain ⟨r114, e114, h⟩ := bind_some h
            refine RegV.callS (q := false) (H' := [(0, (.cells [(.d (.sl (List.map byteD a0))), (.d (.int .i64 a1)), (.d (.int .i64 r94.2.2))])), (1, (.tok ((List.map byteD r94.1).length * 1)))]) (c' := 2) (show ACalls P (N 85) [(.ptr 0 0), (.d (.int .i64 a1)), (.d (.int .i64 r94.2.2))] [(0, (.cells [(.d (.sl (List.map byteD a0))), (.d (.int .i64 r94.2.1)), (.d (.int .i64 r94.2.2))]))] (.tup []) [(0, (.cells [(.d (.sl (List.map byteD a0))), (.d (.int .i64 a1)), (.d (.int .i64 r94.2.2))]))] from ACalls.use (F85 hmix hc.2.2.2.1 e114) [(0, 0)] 1 rfl) rfl rfl rfl rfl (.cons (.refl _) (.cons (.refl _) (.cons (.refl _) .nil))) (.refl _) (fun h => by cases h) rfl (hasCons rfl hasNil) rfl rfl rfl rfl ?_
            refine RegV.nil0 ?_
            refine AWc.seq ?_
            refine AWc.rg hmix rfl rfl ?_
            refine RegV.p0 rfl rfl rfl ?_
            refine RegV.p0 rfl rfl rfl ?_
            refine RegV.nil0 ?_
            have hr := Option.some.inj h
            subst hr
            exact AWc.ret (canQ (N := 53) (k := 2) (l' := [(4, (.ap 1 1 (List.map byteD r94.1)))]) (H' := [(1, (.tok ((List.map byteD r94.1).length * 1))), (0, (.cells [(.d (.sl (List.map byteD a0))), (.d (.int .i64 a1)), (.d (.int .i64 r94.2.2))]))]) rfl ⟨rfl, [], [], rfl, rfl, ⟨⟨_, rfl, (.refl _)⟩, rfl, trivial⟩, ⟨⟨_, rfl, (.refl _)⟩, rfl, rfl, ⟨⟨_, rfl, (.refl _)⟩, rfl, rfl, trivial⟩⟩⟩ (doneA (.inr rfl) rfl ⟨trivial, trivial⟩ (.refl _) (hasCons rfl (hasCons rfl hasNil))))
          · have h := cond_neg c105 h
            refine AWc.skip ?_
            refine AWc.seq ?_
            refine AWc.rg hmix rfl rfl ?_
            refine RegV.p0 rfl rfl rfl ?_
            refine RegV.p0 rfl rfl rfl ?_
            refine RegV.nil0 ?_
            have hr := Option.some.inj h
            subst hr
            exact AWc.ret (canQ (N := 53) (k := 2) (l' := [(4, (.ap 1 1 (List.map byteD r94.1)))]) (H' := [(1, (.tok ((List.map byteD r94.1).length * 1))), (0, (.cells [(.d (.sl (List.map byteD a0))), (.d (.int .i64 r94.2.1)), (.d (.int .i64 r94.2.2))]))]) rfl ⟨rfl, [], [], rfl, rfl, ⟨⟨_, rfl, (.refl _)⟩, rfl, trivial⟩, ⟨⟨_, rfl, (.refl _)⟩, rfl, rfl, ⟨⟨_, rfl, (.refl _)⟩, rfl, rfl, trivial⟩⟩⟩ (doneA (.inr rfl) rfl ⟨trivial, trivial⟩ (.refl _) (hasCons rfl (hasCons rfl hasNil))))
/-- courant/keyed.pair -/
def C107 (N : Nat → Nat) : AFunc := { n := 47, params := 1, res := [.cell 2 3 true, .tmp 3], body :=
 (.seq (.region false [⟨(some 2), .alloc [(.str []), (.sl []), (.bool false)], none, []⟩,
   ⟨(some 3), .mv (.k (.d (.int .i64 0))), none, []⟩])
  (.seq (.region false [⟨(some 7), .mv (.t 0), none, []⟩,
    ⟨(some 8), .call (.k (.d (.fn (N 31)))) [(.t 7), (.k (.d (.int .i64 32768)))], none, [0]⟩,
    ⟨(some 9), .bs2s (.t 8), none, [1]⟩,
    ⟨(some 10), .build [(.str []), (.sl []), (.bool false)] [(0, 1, (.t 9))], none, [2]⟩,
    ⟨(some 4), .alloc [(.str []), (.sl []), (.bool false)], none, []⟩,
    ⟨none, .store (.t 4) (.t 10) 3, none, [4, 3, 1, 0, 2]⟩])
   (.seq (.region false [⟨(some 11), .mv (.t 0), none, []⟩,
     ⟨(some 12), .call (.k (.d (.fn (N 41)))) [(.t 11), (.k (.d (.int .i64 1)))], none, [0]⟩,
     ⟨(some 5), .mv (.t 12), none, [1, 0]⟩])
    (.seq (.seq (.region false [⟨(some 13), .mv (.t 0), none, []⟩,
       ⟨(some 14), .call (.k (.d (.fn (N 42)))) [(.t 13)], none, [0]⟩,
       ⟨(some 15), .bin .eql (.t 14) (.k (.d (.int .i64 0))), none, [1]⟩,
       ⟨(some 16), .mv (.t 15), none, [2, 1]⟩,
       ⟨(some 17), .mv (.t 5), (some (16, true)), [3]⟩,
       ⟨(some 18), .iaddr (.t 17) (.k (.d (.int .i64 0))) 1, (some (16, true)), [4, 3]⟩,
       ⟨(some 19), .load (.t 18) 1 false, (some (16, true)), [5, 3]⟩,
       ⟨(some 20), .bin .gtr (.t 19) (.k (.d (.int .u8 1))), (some (16, true)), [6, 3]⟩,
       ⟨(some 21), .pick (.t 16) (.t 20) (.k (.d (.bool false))), none, [3, 7]⟩])
      (.cond (.t 21) (.seq (.region false [⟨(some 22), .build [(.str []), (.sl []), (.bool false)] [], none, []⟩,
         ⟨none, .store (.t 2) (.t 22) 3, none, [0]⟩,
         ⟨(some 3), .mv (.k (.d (.int .i64 4))), none, [1, 0]⟩])
        .ret)
       (.skip)))
     (.seq (.region false [⟨(some 23), .mv (.t 0), none, []⟩,
       ⟨(some 24), .call (.k (.d (.fn (N 31)))) [(.t 23), (.k (.d (.int .i64 32768)))], none, [0]⟩,
       ⟨(some 25), .faddr (.t 4) 1, none, [0, 1]⟩,
       ⟨none, .store (.t 25) (.t 24) 1, none, [2, 1, 0]⟩])
      (.seq (.seq (.region false [⟨(some 26), .mv (.t 0), none, []⟩,
         ⟨(some 27), .call (.k (.d (.fn (N 42)))) [(.t 26)], none, [0]⟩,
         ⟨(some 6), .mv (.t 27), none, [1, 0]⟩])
        (.seq (.region false [⟨(some 28), .mv (.t 6), none, []⟩,
          ⟨(some 29), .bin .neq (.t 28) (.k (.d (.int .i64 0))), none, [0]⟩])
         (.cond (.t 29) (.seq (.region false [⟨(some 30), .build [(.str []), (.sl []), (.bool false)] [], none, []⟩,
            ⟨(some 31), .mv (.t 6), none, []⟩,
            ⟨none, .store (.t 2) (.t 30) 3, none, [0]⟩,
            ⟨(some 3), .mv (.t 31), none, [1, 2, 0]⟩])
           .ret)
          (.skip))))
       (.seq (.seq (.region false [⟨(some 32), .mv (.t 5), none, []⟩,
          ⟨(some 33), .iaddr (.t 32) (.k (.d (.int .i64 0))) 1, none, [0]⟩,
          ⟨(some 34), .load (.t 33) 1 false, none, [1]⟩,
          ⟨(some 35), .bin .eql (.t 34) (.k (.d (.int .u8 1))), none, [2]⟩,
          ⟨(some 36), .faddr (.t 4) 2, none, [0, 1, 2, 3]⟩,
          ⟨none, .store (.t 36) (.t 35) 1, none, [4, 3, 0, 1, 2]⟩])
         (.seq (.region false [⟨(some 37), .faddr (.t 4) 2, none, []⟩,
           ⟨(some 38), .load (.t 37) 1 false, none, [0]⟩,
           ⟨(some 39), .mv (.t 38), none, [1]⟩,
           ⟨(some 40), .faddr (.t 4) 1, (some (39, true)), [2]⟩,
           ⟨(some 41), .load (.t 40) 1 false, (some (39, true)), [3, 2]⟩,
           ⟨(some 42), .len (.t 41), (some (39, true)), [4, 2]⟩,
           ⟨(some 43), .bin .gtr (.t 42) (.k (.d (.int .i64 0))), (some (39, true)), [5, 2]⟩,
           ⟨(some 44), .pick (.t 39) (.t 43) (.k (.d (.bool false))), none, [2, 6]⟩])
          (.cond (.t 44) (.seq (.region false [⟨(some 45), .build [(.str []), (.sl []), (.bool false)] [], none, []⟩,
             ⟨none, .store (.t 2) (.t 45) 3, none, [0]⟩,
             ⟨(some 3), .mv (.k (.d (.int .i64 4))), none, [1, 0]⟩])
            .ret)
           (.skip))))
        (.seq (.region false [⟨(some 46), .load (.t 4) 3 true, none, []⟩,
          ⟨none, .store (.t 2) (.t 46) 3, none, [0]⟩,
          ⟨(some 3), .mv (.k (.d (.int .i64 0))), none, [1, 0]⟩])
         .ret)))))))) }
def HC107 (P : Program) (N : Nat → Nat) : Prop := HasF P (N 107) (C107 N) ∧ HC31 P N ∧ HC41 P N ∧ HC42 P N
def f107_j93 (k : Nat) (r47 : ((List UInt8) × Int × Int)) (r10 : ((List UInt8) × Int × Int)) (r19 : ((List UInt8) × Int × Int)) (j93_1 : Bool) : Option (Int × (List UInt8) × (List UInt8) × Bool × Int × Int) := cond j93_1 (some ((4 : Int), ([] : List UInt8), ([] : List UInt8), false, r47.2.1, r47.2.2)) (some ((0 : Int), r10.1, r47.1, (decide ((((rd r19.1 (0 : Int)).toNat : Nat) : Int) = (1 : Int))), r47.2.1, r47.2.2))
def f107_j34 (k : Nat) (r19 : ((List UInt8) × Int × Int)) (a0 : (List UInt8)) (r10 : ((List UInt8) × Int × Int)) (j34_1 : Bool) : Option (Int × (List UInt8) × (List UInt8) × Bool × Int × Int) := cond j34_1 (some ((4 : Int), ([] : List UInt8), ([] : List UInt8), false, r19.2.1, r19.2.2)) ((f31 k a0 r19.2.1 r19.2.2 (32768 : Int)).bind fun r47 => (f42 k a0 r47.2.1 r47.2.2).bind fun r55 => cond (decide (r47.2.2 ≠ (0 : Int))) (some (r47.2.2, ([] : List UInt8), ([] : List UInt8), false, r47.2.1, r47.2.2)) (gd (0 ≤ (0 : Int) ∧ (0 : Int) < ((r19.1.length : Nat) : Int)) (cond (decide ((((rd r19.1 (0 : Int)).toNat : Nat) : Int) = (1 : Int))) (f107_j93 k r47 r10 r19 (decide (((r47.1.length : Nat) : Int) > (0 : Int)))) (f107_j93 k r47 r10 r19 false))))
def f107 (k : Nat) (a0 : (List UInt8)) (a1 : Int) (a2 : Int) : Option (Int × (List UInt8) × (List UInt8) × Bool × Int × Int) := (f31 k a0 a1 a2 (32768 : Int)).bind fun r10 => (f41 k a0 r10.2.1 r10.2.2 (1 : Int)).bind fun r19 => (f42 k a0 r19.2.1 r19.2.2).bind fun r26 => cond (decide (r19.2.2 = (0 : Int))) (gd (0 ≤ (0 : Int) ∧ (0 : Int) < ((r19.1.length : Nat) : Int)) (f107_j34 k r19 a0 r10 (decide ((((rd r19.1 (0 : Int)).toNat : Nat) : Int) > (1 : Int))))) (f107_j34 k r19 a0 r10 false)
theorem F107 {P : Program} {N : Nat → Nat} (hmix : P.follows .mixedOrders = true) (hc : HC107 P N) {k : Nat} {a0 : (List UInt8)} {a1 : Int} {a2 : Int} {r : (Int × (List UInt8) × (List UInt8) × Bool × Int × Int)} (h : f107 k a0 a1 a2 = some r) :
    ACalls P (N 107) [(.ptr 0 0)] [(0, (.cells [(.d (.sl (List.map byteD a0))), (.d (.int .i64 a1)), (.d (.int .i64 a2))]))] (.tup [(.d (.agg [(.str r.2.1), (.sl (List.map byteD r.2.2.1)), (.bool r.2.2.2.1)])), (.d (.int .i64 r.1))]) [(0, (.cells [(.d (.sl (List.map byteD a0))), (.d (.int .i64 r.2.2.2.2.1)), (.d (.int .i64 r.2.2.2.2.2))]))] := by
  refine acalls_canon (F := C107 N) hc.1 1 1 rfl ?_
  unfold f107 at h
  dsimp only [C107, startL]
  refine AWc.seq ?_
  refine AWc.rg hmix rfl rfl ?_
  refine RegV.evS (own := false) (v := (.ptr 1 0)) (H' := [(1, (.cells [(.d (.str ([] : List UInt8))), .nils, (.d (.bool false))])), (0, (.cells [(.d (.sl (List.map byteD a0))), (.d (.int .i64 a1)), (.d (.int .i64 a2))]))]) (c' := 2) rfl rfl trivial rfl rfl rfl rfl rfl rfl ?_
  refine RegV.p0 rfl rfl rfl ?_
  refine RegV.nil0 ?_
  refine AWc.seq ?_
  refine AWc.rg hmix rfl rfl ?_
  refine RegV.p0 rfl rfl rfl ?_
  obtain ⟨r10, e10, h⟩ := bind_some h
  refine RegV.callS (q := false) (H' := [(2, (.tok ((List.map byteD r10.1).length * 1))), (0, (.cells [(.d (.sl (List.map byteD a0))), (.d (.int .i64 r10.2.1)), (.d (.int .i64 r10.2.2))])), (1, (.cells [(.d (.str ([] : List UInt8))), .nils, (.d (.bool false))]))]) (c' := 3) (show ACalls P (N 31) [(.ptr 0 0), (.d (.int .i64 (32768 : Int)))] [(0, (.cells [(.d (.sl (List.map byteD a0))), (.d (.int .i64 a1)), (.d (.int .i64 a2))]))] (.ap 2 1 (List.map byteD r10.1)) [(2, (.tok ((List.map byteD r10.1).length * 1))), (0, (.cells [(.d (.sl (List.map byteD a0))), (.d (.int .i64 r10.2.1)), (.d (.int .i64 r10.2.2))]))] from ACalls.use (F31 hmix hc.2.1 e10) [(0, 0), (1, 2)] 2 rfl) rfl rfl rfl rfl (.cons (.refl _) (.cons (.refl _) .nil)) (.refl _) (fun h => by cases h) rfl (hasCons rfl hasNil) rfl rfl rfl rfl ?_
  refine RegV.bs2s (b := r10.1) rfl rfl rfl ?_
  refine RegV.p1 (v := (.d (.agg [(.str r10.1), (.sl (List.map byteD ([] : List UInt8))), (.bool false)]))) rfl rfl (by exact ⟨⟨rfl, Nat.le_of_ble_eq_true rfl⟩, trivial⟩) rfl rfl ?_
  refine RegV.evS (own := false) (v := (.ptr 3 0)) (H' := [(3, (.cells [(.d (.str ([] : List UInt8))), .nils, (.d (.bool false))])), (2, (.tok ((List.map byteD r10.1).length * 1))), (0, (.cells [(.d (.sl (List.map byteD a0))), (.d (.int .i64 r10.2.1)), (.d (.int .i64 r10.2.2))])), (1, (.cells [(.d (.str ([] : List UInt8))), .nils, (.d (.bool false))]))]) (c' := 4) rfl rfl trivial rfl rfl rfl rfl rfl rfl ?_
  refine RegV.evN (own := false) (H' := [(3, (.cells [(.d (.str r10.1)), (.d (.sl (List.map byteD ([] : List UInt8)))), (.d (.bool false))])), (2, (.tok ((List.map byteD r10.1).length * 1))), (0, (.cells [(.d (.sl (List.map byteD a0))), (.d (.int .i64 r10.2.1)), (.d (.int .i64 r10.2.2))])), (1, (.cells [(.d (.str ([] : List UInt8))), .nils, (.d (.bool false))]))]) (c' := 4) rfl rfl (by exact ⟨rfl, Nat.le_of_ble_eq_true rfl, rfl⟩) rfl rfl rfl rfl ?_
  refine RegV.nil0 ?_
  refine AWc.seq ?_
  refine AWc.rg hmix rfl rfl ?_
  refine RegV.p0 rfl rfl rfl ?_
  obtain ⟨r19, e19, h⟩ := bind_some h
  refine RegV.callS (q := false) (H' := [(4, (.tok ((List.map byteD r19.1).length * 1))), (0, (.cells [(.d (.sl (List.map byteD a0))), (.d (.int .i64 r19.2.1)), (.d (.int .i64 r19.2.2))])), (3, (.cells [(.d (.str r10.1)), (.d (.sl (List.map byteD ([] : List UInt8)))), (.d (.bool false))])), (2, (.tok ((List.map byteD r10.1).length * 1))), (1, (.cells [(.d (.str ([] : List UInt8))), .nils, (.d (.bool false))]))]) (c' := 5) (show ACalls P (N 41) [(.ptr 0 0), (.d (.int .i64 (1 : Int)))] [(0, (.cells [(.d (.sl (List.map byteD a0))), (.d (.int .i64 r10.2.1)), (.d (.int .i64 r10.2.2))]))] (.ap 4 1 (List.map byteD r19.1)) [(4, (.tok ((List.map byteD r19.1).length * 1))), (0, (.cells [(.d (.sl (List.map byteD a0))), (.d (.int .i64 r19.2.1)), (.d (.int .i64 r19.2.2))]))] from ACalls.use (F41 hmix hc.2.2.1 e19) [(0, 0), (1, 4)] 2 rfl) rfl rfl rfl rfl (.cons (.refl _) (.cons (.refl _) .nil)) (.refl _) (fun h => by cases h) rfl (hasCons rfl hasNil) rfl rfl rfl rfl ?_
  refine RegV.p0 rfl rfl rfl ?_
  refine RegV.nil0 ?_
  refine AWc.seq ?_
  refine AWc.seqS (N := 47) 4 (fun (z : Bool) => [(0, (.ptr 0 0)), (2, (.ptr 1 0)), (4, (.ptr 2 0)), (5, (.ap 3 1 (List.map byteD r19.1))), (21, (.d (.bool z)))]) (fun z => [(0, (.cells [(.d (.sl (List.map byteD a0))), (.d (.int .i64 r19.2.1)), (.d (.int .i64 r19.2.2))])), (1, (.cells [(.d (.str ([] : List UInt8))), .nils, (.d (.bool false))])), (2, (.cells [(.d (.str r10.1)), (.d (.sl (List.map byteD ([] : List UInt8)))), (.d (.bool false))])), (3, (.tok ((List.map byteD r19.1).length * 1)))]) (fun z => f107_j34 k r19 a0 r10 z = some r) rfl_le ?_ ?_
  · refine AWc.rg hmix rfl rfl ?_
    refine RegV.p0 rfl rfl rfl ?_
    obtain ⟨r26, e26, h⟩ := bind_some h
    refine RegV.callS (q := true) (H' := [(0, (.cells [(.d (.sl (List.map byteD a0))), (.d (.int .i64 r19.2.1)), (.d (.int .i64 r19.2.2))])), (4, (.tok ((List.map byteD r19.1).length * 1))), (3, (.cells [(.d (.str r10.1)), (.d (.sl (List.map byteD ([] : List UInt8)))), (.d (.bool false))])), (2, (.tok ((List.map byteD r10.1).length * 1))), (1, (.cells [(.d (.str ([] : List UInt8))), .nils, (.d (.bool false))]))]) (c' := 5) (show ACalls P (N 42) [(.ptr 0 0)] [(0, (.cells [(.d (.sl (List.map byteD a0))), (.d (.int .i64 r19.2.1)), (.d (.int .i64 r19.2.2))]))] (.d (.int .i64 r19.2.2)) [(0, (.cells [(.d (.sl (List.map byteD a0))), (.d (.int .i64 r19.2.1)), (.d (.int .i64 r19.2.2))]))] from ACalls.use (F42 hmix hc.2.2.2 e26) [(0, 0)] 1 rfl) rfl rfl rfl rfl (.cons (.refl _) .nil) (.refl _) (fun _ => rfl) rfl (hasCons rfl hasNil) rfl rfl rfl rfl ?_
    refine RegV.p0 (v := (.d (.bool (decide (r19.2.2 = (0 : Int)))))) rfl rfl rfl ?_
    refine RegV.p0 rfl rfl rfl ?_
    refine RegV.split (fun c28 => ?_) (fun c28 => ?_)
    · have h := cond_pos c28 h
      refine RegV.p0 rfl rfl rfl ?_
      obtain ⟨b30, h⟩ := gd_some h
      refine RegV.iad (xs := r19.1) (e := byteD) rfl rfl rfl rfl (fun _ => rfl) b30 rfl ?_
      refine RegV.p0 (v := (.d (.int .u8 (((rd r19.1 (0 : Int)).toNat : Nat) : Int)))) rfl rfl rfl ?_
      refine RegV.p0 (v := (.d (.bool (decide ((((rd r19.1 (0 : Int)).toNat : Nat) : Int) > (1 : Int)))))) rfl rfl rfl ?_
      refine RegV.p0 rfl rfl rfl ?_
      refine RegV.nil0 ?_
      exact ⟨(decide ((((rd r19.1 (0 : Int)).toNat : Nat) : Int) > (1 : Int))), h, ⟨rfl, [], [(2, 3), (3, 4)], rfl, rfl, ⟨⟨_, rfl, (.refl _)⟩, rfl, ⟨⟨_, rfl, (.refl _)⟩, rfl, ⟨⟨_, rfl, (.refl _)⟩, rfl, ⟨⟨_, rfl, (.refl _)⟩, rfl, ⟨⟨_, rfl, (.refl _)⟩, rfl, trivial⟩⟩⟩⟩⟩, ⟨⟨_, rfl, (.refl _)⟩, rfl, rfl, ⟨⟨_, rfl, (.refl _)⟩, rfl, rfl, ⟨⟨_, rfl, (.refl _)⟩, rfl, rfl, ⟨⟨_, rfl, (.refl _)⟩, rfl, rfl, trivial⟩⟩⟩⟩⟩⟩
    · have h := cond_neg c28 h
      refine RegV.noS rfl rfl ?_
      refine RegV.noS rfl rfl ?_
      refine RegV.noS rfl rfl ?_
      refine RegV.noS rfl rfl ?_
      refine RegV.p0 rfl rfl rfl ?_
      refine RegV.nil0 ?_
      exact ⟨false, h, ⟨rfl, [], [(2, 3), (3, 4)], rfl, rfl, ⟨⟨_, rfl, (.refl _)⟩, rfl, ⟨⟨_, rfl, (.refl _)⟩, rfl, ⟨⟨_, rfl, (.refl _)⟩, rfl, ⟨⟨_, rfl, (.refl _)⟩, rfl, ⟨⟨_, rfl, (.refl _)⟩, rfl, trivial⟩⟩⟩⟩⟩, ⟨⟨_, rfl, (.refl _)⟩, rfl, rfl, ⟨⟨_, rfl, (.refl _)⟩, rfl, rfl, ⟨⟨_, rfl, (.refl _)⟩, rfl, rfl, ⟨⟨_, rfl, (.refl _)⟩, rfl, rfl, trivial⟩⟩⟩⟩⟩⟩
  · intro j34_1 h
    unfold f107_j34 at h
    refine AWc.cond rfl (fun c34 => ?_) (fun c34 => ?_)
    · have h := cond_pos c34 h
      refine AWc.seq ?_
      refine AWc.rg hmix rfl rfl ?_
      refine RegV.p1 (v := (.d (.agg [(.str ([] : List UInt8)), (.sl (List.map byteD ([] : List UInt8))), (.bool false)]))) rfl rfl trivial rfl rfl ?_
      refine RegV.evN (own := false) (H' := [(1, (.cells [(.d (.str ([] : List UInt8))), (.d (.sl (List.map byteD ([] : List UInt8)))), (.d (.bool false))])), (0, (.cells [(.d (.sl (List.map byteD a0))), (.d (.int .i64 r19.2.1)), (.d (.int .i64 r19.2.2))])), (2, (.cells [(.d (.str r10.1)), (.d (.sl (List.map byteD ([] : List UInt8)))), (.d (.bool false))])), (3, (.tok ((List.map byteD r19.1).length * 1)))]) (c' := 4) rfl rfl (by exact ⟨rfl, Nat.le_of_ble_eq_true rfl, rfl⟩) rfl rfl rfl rfl ?_
      refine RegV.p0 rfl rfl rfl ?_
      refine RegV.nil0 ?_
      have hr := Option.some.inj h
      subst hr
      exact AWc.ret (canQ (N := 47) (k := 2) (l' := [(2, (.ptr 1 0)), (3, (.d (.int .i64 (4 : Int))))]) (H' := [(1, (.cells [(.d (.str ([] : List UInt8))), (.d (.sl (List.map byteD ([] : List UInt8)))), (.d (.bool false))])), (0, (.cells [(.d (.sl (List.map byteD a0))), (.d (.int .i64 r19.2.1)), (.d (.int .i64 r19.2.2))]))]) rfl ⟨rfl, [], [], rfl, rfl, ⟨⟨_, rfl, (.refl _)⟩, rfl, ⟨⟨_, rfl, (.refl _)⟩, rfl, trivial⟩⟩, ⟨⟨_, rfl, (.refl _)⟩, rfl, rfl, ⟨⟨_, rfl, (.refl _)⟩, rfl, rfl, trivial⟩⟩⟩ (doneA (.inr rfl) rfl ⟨(Nat.le_of_ble_eq_true rfl), ⟨trivial, trivial⟩⟩ (.refl _) (hasCons rfl hasNil)))
    · have h := cond_neg c34 h
      refine AWc.skip ?_
      refine AWc.seq ?_
      refine AWc.rg hmix rfl rfl ?_
      refine RegV.p0 rfl rfl rfl ?_
      obtain ⟨r47, e47, h⟩ := bind_some h
      refine RegV.callS (q := false) (H' := [(4, (.tok ((List.map byteD r47.1).length * 1))), (0, (.cells [(.d (.sl (List.map byteD a0))), (.d (.int .i64 r47.2.1)), (.d (.int .i64 r47.2.2))])), (1, (.cells [(.d (.str ([] : List UInt8))), .nils, (.d (.bool false))])), (2, (.cells [(.d (.str r10.1)), (.d (.sl (List.map byteD ([] : List UInt8)))), (.d (.bool false))])), (3, (.tok ((List.map byteD r19.1).length * 1)))]) (c' := 5) (show ACalls P (N 31) [(.ptr 0 0), (.d (.int .i64 (32768 : Int)))] [(0, (.cells [(.d (.sl (List.map byteD a0))), (.d (.int .i64 r19.2.1)), (.d (.int .i64 r19.2.2))]))] (.ap 4 1 (List.map byteD r47.1)) [(4, (.tok ((List.map byteD r47.1).length * 1))), (0, (.cells [(.d (.sl (List.map byteD a0))), (.d (.int .i64 r47.2.1)), (.d (.int .i64 r47.2.2))]))] from ACalls.use (F31 hmix hc.2.1 e47) [(0, 0), (1, 4)] 2 rfl) rfl rfl rfl rfl (.cons (.refl _) (.cons (.refl _) .nil)) (.refl _) (fun h => by cases h) rfl (hasCons rfl hasNil) rfl rfl rfl rfl ?_
      refine RegV.p0 (v := (.ptr 2 1)) rfl rfl rfl ?_
      refine RegV.evN (own := false) (H' := [(2, (.cells [(.d (.str r10.1)), (.ap 4 1 (List.map byteD r47.1)), (.d (.bool false))])), (4, (.tok ((List.map byteD r47.1).length * 1))), (0, (.cells [(.d (.sl (List.map byteD a0))), (.d (.int .i64 r47.2.1)), (.d (.int .i64 r47.2.2))])), (1, (.cells [(.d (.str ([] : List UInt8))), .nils, (.d (.bool false))])), (3, (.tok ((List.map byteD r19.1).length * 1)))]) (c' := 5) rfl rfl (by exact ⟨rfl, Nat.le_of_ble_eq_true rfl, rfl⟩) rfl rfl rfl rfl ?_
      refine RegV.nil0 ?_
      refine AWc.seq ?_
      refine AWc.seq ?_
      refine AWc.rg hmix rfl rfl ?_
      refine RegV.p0 rfl rfl rfl ?_
      obtain ⟨r55, e55, h⟩ := bind_some h
      refine RegV.callS (q := true) (H' := [(0, (.cells [(.d (.sl (List.map byteD a0))), (.d (.int .i64 r47.2.1)), (.d (.int .i64 r47.2.2))])), (2, (.cells [(.d (.str r10.1)), (.ap 4 1 (List.map byteD r47.1)), (.d (.bool false))])), (4, (.tok ((List.map byteD r47.1).length * 1))), (1, (.cells [(.d (.str ([] : List UInt8))), .nils, (.d (.bool false))])), (3, (.tok ((List.map byteD r19.1).length * 1)))]) (c' := 5) (show ACalls P (N 42) [(.ptr 0 0)] [(0, (.cells [(.d (.sl (List.map byteD a0))), (.d (.int .i64 r47.2.1)), (.d (.int .i64 r47.2.2))]))] (.d (.int .i64 r47.2.2)) [(0, (.cells [(.d (.sl (List.map byteD a0))), (.d (.int .i64 r47.2.1)), (.d (.int .i64 r47.2.2))]))] from ACalls.use (F42 hmix hc.2.2.2 e55) [(0, 0)] 1 rfl) rfl rfl rfl rfl (.cons (.refl _) .nil) (.refl _) (fun _ => rfl) rfl (hasCons rfl hasNil) rfl rfl rfl rfl ?_
      refine RegV.p0 rfl rfl rfl ?_
      refine RegV.nil0 ?_
      refine AWc.seq ?_
      refine AWc.rg hmix rfl rfl ?_
      refine RegV.p0 rfl rfl rfl ?_
      refine RegV.p0 (v := (.d (.bool (decide (r47.2.2 ≠ (0 : Int)))))) rfl rfl rfl ?_
      refine RegV.nil0 ?_
      refine AWc.cond rfl (fun c62 => ?_) (fun c62 => ?_)
      · have h := cond_pos c62 h
        refine AWc.seq ?_
        refine AWc.rg hmix rfl rfl ?_
        refine RegV.p1 (v := (.d (.agg [(.str ([] : List UInt8)), (.sl (List.map byteD ([] : List UInt8))), (.bool false)]))) rfl rfl trivial rfl rfl ?_
        refine RegV.p0 rfl rfl rfl ?_
        refine RegV.evN (own := false) (H' := [(1, (.cells [(.d (.str ([] : List UInt8))), (.d (.sl (List.map byteD ([] : List UInt8)))), (.d (.bool false))])), (0, (.cells [(.d (.sl (List.map byteD a0))), (.d (.int .i64 r47.2.1)), (.d (.int .i64 r47.2.2))])), (2, (.cells [(.d (.str r10.1)), (.ap 4 1 (List.map byteD r47.1)), (.d (.bool false))])), (4, (.tok ((List.map byteD r47.1).length * 1))), (3, (.tok ((List.map byteD r19.1).length * 1)))]) (c' := 5) rfl rfl (by exact ⟨rfl, Nat.le_of_ble_eq_true rfl, rfl⟩) rfl rfl rfl rfl ?_
        refine RegV.p0 rfl rfl rfl ?_
        refine RegV.nil0 ?_
        have hr := Option.some.inj h
        subst hr
        exact AWc.ret (canQ (N := 47) (k := 2) (l' := [(2, (.ptr 1 0)), (3, (.d (.int .i64 r47.2.2)))]) (H' := [(1, (.cells [(.d (.str ([] : List UInt8))), (.d (.sl (List.map byteD ([] : List UInt8)))), (.d (.bool false))])), (0, (.cells [(.d (.sl (List.map byteD a0))), (.d (.int .i64 r47.2.1)), (.d (.int .i64 r47.2.2))]))]) rfl ⟨rfl, [], [], rfl, rfl, ⟨⟨_, rfl, (.refl _)⟩, rfl, ⟨⟨_, rfl, (.refl _)⟩, rfl, trivial⟩⟩, ⟨⟨_, rfl, (.refl _)⟩, rfl, rfl, ⟨⟨_, rfl, (.refl _)⟩, rfl, rfl, trivial⟩⟩⟩ (doneA (.inr rfl) rfl ⟨(Nat.le_of_ble_eq_true rfl), ⟨trivial, trivial⟩⟩ (.refl _) (hasCons rfl hasNil)))
      · have h := cond_neg c62 h
        refine AWc.skip ?_
        refine AWc.seq ?_
        refine AWc.seq ?_
        refine AWc.rg hmix rfl rfl ?_
        refine RegV.p0 rfl rfl rfl ?_
        obtain ⟨b77, h⟩ := gd_some h
        refine RegV.iad (xs := r19.1) (e := byteD) rfl rfl rfl rfl (fun _ => rfl) b77 rfl ?_
        refine RegV.p0 (v := (.d (.int .u8 (((rd r19.1 (0 : Int)).toNat : Nat) : Int)))) rfl rfl rfl ?_
        refine RegV.p0 (v := (.d (.bool (decide ((((rd r19.1 (0 : Int)).toNat : Nat) : Int) = (1 : Int)))))) rfl rfl rfl ?_
        refine RegV.p0 (v := (.ptr 2 2)) rfl rfl rfl ?_
        refine RegV.evN (own := false) (H' := [(2, (.cells [(.d (.str r10.1)), (.ap 4 1 (List.map byteD r47.1)), (.d (.bool (decide ((((rd r19.1 (0 : Int)).toNat : Nat) : Int) = (1 : Int)))))])), (0, (.cells [(.d (.sl (List.map byteD a0))), (.d (.int .i64 r47.2.1)), (.d (.int .i64 r47.2.2))])), (4, (.tok ((List.map byteD r47.1).length * 1))), (1, (.cells [(.d (.str ([] : List UInt8))), .nils, (.d (.bool false))])), (3, (.tok ((List.map byteD r19.1).length * 1)))]) (c' := 5) rfl rfl (by exact ⟨rfl, Nat.le_of_ble_eq_true rfl, rfl⟩) rfl rfl rfl rfl ?_
        refine RegV.nil0 ?_
        refine AWc.seqS (N := 47) 4 (fun (z : Bool) => [(2, (.ptr 1 0)), (4, (.ptr 2 0)), (44, (.d (.bool z)))]) (fun z => [(1, (.cells [(.d (.str ([] : List UInt8))), .nils, (.d (.bool false))])), (2, (.cells [(.d (.str r10.1)), (.ap 3 1 (List.map byteD r47.1)), (.d (.bool (decide ((((rd r19.1 (0 : Int)).toNat : Nat) : Int) = (1 : Int)))))])), (0, (.cells [(.d (.sl (List.map byteD a0))), (.d (.int .i64 r47.2.1)), (.d (.int .i64 r47.2.2))])), (3, (.tok ((List.map byteD r47.1).length * 1)))]) (fun z => f107_j93 k r47 r10 r19 z = some r) rfl_le ?_ ?_
        · refine AWc.rg hmix rfl rfl ?_
          refine RegV.p0 (v := (.ptr 2 2)) rfl rfl rfl ?_
          refine RegV.ld (v := (.d (.bool (decide ((((rd r19.1 (0 : Int)).toNat : Nat) : Int) = (1 : Int)))))) (H' := [(2, (.cells [(.d (.str r10.1)), (.ap 4 1 (List.map byteD r47.1)), (.d (.bool (decide ((((rd r19.1 (0 : Int)).toNat : Nat) : Int) = (1 : Int)))))])), (0, (.cells [(.d (.sl (List.map byteD a0))), (.d (.int .i64 r47.2.1)), (.d (.int .i64 r47.2.2))])), (4, (.tok ((List.map byteD r47.1).length * 1))), (1, (.cells [(.d (.str ([] : List UInt8))), .nils, (.d (.bool false))])), (3, (.tok ((List.map byteD r19.1).length * 1)))]) rfl rfl trivial rfl rfl rfl rfl rfl ?_
          refine RegV.p0 rfl rfl rfl ?_
          refine RegV.split (fun c87 => ?_) (fun c87 => ?_)
          · have h := cond_pos c87 h
            refine RegV.p0 (v := (.ptr 2 1)) rfl rfl rfl ?_
            refine RegV.ld (v := (.ap 4 1 (List.map byteD r47.1))) (H' := [(2, (.cells [(.d (.str r10.1)), (.ap 4 1 (List.map byteD r47.1)), (.d (.bool (decide ((((rd r19.1 (0 : Int)).toNat : Nat) : Int) = (1 : Int)))))])), (0, (.cells [(.d (.sl (List.map byteD a0))), (.d (.int .i64 r47.2.1)), (.d (.int .i64 r47.2.2))])), (4, (.tok ((List.map byteD r47.1).length * 1))), (1, (.cells [(.d (.str ([] : List UInt8))), .nils, (.d (.bool false))])), (3, (.tok ((List.map byteD r19.1).length * 1)))]) rfl rfl trivial rfl rfl rfl rfl rfl ?_
            refine RegV.len (xs := r47.1) (e := byteD) rfl rfl rfl rfl ?_
            refine RegV.p0 (v := (.d (.bool (decide (((r47.1.length : Nat) : Int) > (0 : Int)))))) rfl rfl rfl ?_
            refine RegV.p0 rfl rfl rfl ?_
            refine RegV.nil0 ?_
            exact ⟨(decide (((r47.1.length : Nat) : Int) > (0 : Int))), h, ⟨rfl, [], [(3, 4)], rfl, rfl, ⟨⟨_, rfl, (.refl _)⟩, rfl, ⟨⟨_, rfl, (.refl _)⟩, rfl, ⟨⟨_, rfl, (.refl _)⟩, rfl, trivial⟩⟩⟩, ⟨⟨_, rfl, (.refl _)⟩, rfl, rfl, ⟨⟨_, rfl, (.refl _)⟩, rfl, rfl, ⟨⟨_, rfl, (.refl _)⟩, rfl, rfl, ⟨⟨_, rfl, (.refl _)⟩, rfl, rfl, trivial⟩⟩⟩⟩⟩⟩
          · have h := cond_neg c87 h
            refine RegV.noS rfl rfl ?_
            refine RegV.noS rfl rfl ?_
            refine RegV.noS rfl rfl ?_
            refine RegV.noS rfl rfl ?_
            refine RegV.p0 rfl rfl rfl ?_
            refine RegV.nil0 ?_
            exact ⟨false, h, ⟨rfl, [], [(3, 4)], rfl, rfl, ⟨⟨_, rfl, (.refl _)⟩, rfl, ⟨⟨_, rfl, (.refl _)⟩, rfl, ⟨⟨_, rfl, (.refl _)⟩, rfl, trivial⟩⟩⟩, ⟨⟨_, rfl, (.refl _)⟩, rfl, rfl, ⟨⟨_, rfl, (.refl _)⟩, rfl, rfl, ⟨⟨_, rfl, (.refl _)⟩, rfl, rfl, ⟨⟨_, rfl, (.refl _)⟩, rfl, rfl, trivial⟩⟩⟩⟩⟩⟩
        · intro j93_1 h
          unfold f107_j93 at h
          refine AWc.cond rfl (fun c93 => ?_) (fun c93 => ?_)
          · have h := cond_pos c93 h
            refine AWc.seq ?_
            refine AWc.rg hmix rfl rfl ?_
            refine RegV.p1 (v := (.d (.agg [(.str ([] : List UInt8)), (.sl (List.map byteD ([] : List UInt8))), (.bool false)]))) rfl rfl trivial rfl rfl ?_
            refine RegV.evN (own := false) (H' := [(1, (.cells [(.d (.str ([] : List UInt8))), (.d (.sl (List.map byteD ([] : List UInt8)))), (.d (.bool false))])), (2, (.cells [(.d (.str r10.1)), (.ap 3 1 (List.map byteD r47.1)), (.d (.bool (decide ((((rd r19.1 (0 : Int)).toNat : Nat) : Int) = (1 : Int)))))])), (0, (.cells [(.d (.sl (List.map byteD a0))), (.d (.int .i64 r47.2.1)), (.d (.int .i64 r47.2.2))])), (3, (.tok ((List.map byteD r47.1).length * 1)))]) (c' := 4) rfl rfl (by exact ⟨rfl, Nat.le_of_ble_eq_true rfl, rfl⟩) rfl rfl rfl rfl ?_
            refine RegV.p0 rfl rfl rfl ?_
            refine RegV.nil0 ?_
            have hr := Option.some.inj h
            subst hr
            exact AWc.ret (canQ (N := 47) (k := 2) (l' := [(2, (.ptr 1 0)), (3, (.d (.int .i64 (4 : Int))))]) (H' := [(1, (.cells [(.d (.str ([] : List UInt8))), (.d (.sl (List.map byteD ([] : List UInt8)))), (.d (.bool false))])), (0, (.cells [(.d (.sl (List.map byteD a0))), (.d (.int .i64 r47.2.1)), (.d (.int .i64 r47.2.2))]))]) rfl ⟨rfl, [], [], rfl, rfl, ⟨⟨_, rfl, (.refl _)⟩, rfl, ⟨⟨_, rfl, (.refl _)⟩, rfl, trivial⟩⟩, ⟨⟨_, rfl, (.refl _)⟩, rfl, rfl, ⟨⟨_, rfl, (.refl _)⟩, rfl, rfl, trivial⟩⟩⟩ (doneA (.inr rfl) rfl ⟨(Nat.le_of_ble_eq_true rfl), ⟨trivial, trivial⟩⟩ (.refl _) (hasCons rfl hasNil)))
          · have h := cond_neg c93 h
            refine AWc.skip ?_
            refine AWc.seq ?_
            refine AWc.rg hmix rfl rfl ?_
            refine RegV.ld (v := (.d (.agg [(.str r10.1), (.sl (List.map byteD r47.1)), (.bool (decide ((((rd r19.1 (0 : Int)).toNat : Nat) : Int) = (1 : Int))))]))) (H' := [(2, (.cells [(.d (.str r10.1)), (.ap 3 1 (List.map byteD r47.1)), (.d (.bool (decide ((((rd r19.1 (0 : Int)).toNat : Nat) : Int) = (1 : Int)))))])), (1, (.cells [(.d (.str ([] : List UInt8))), .nils, (.d (.bool false))])), (0, (.cells [(.d (.sl (List.map byteD a0))), (.d (.int .i64 r47.2.1)), (.d (.int .i64 r47.2.2))])), (3, (.tok ((List.map byteD r47.1).length * 1)))]) rfl rfl (Nat.le_of_ble_eq_true rfl) rfl rfl rfl rfl rfl ?_
            refine RegV.evN (own := false) (H' := [(1, (.cells [(.d (.str r10.1)), (.d (.sl (List.map byteD r47.1))), (.d (.bool (decide ((((rd r19.1 (0 : Int)).toNat : Nat) : Int) = (1 : Int)))))])), (2, (.cells [(.d (.str r10.1)), (.ap 3 1 (List.map byteD r47.1)), (.d (.bool (decide ((((rd r19.1 (0 : Int)).toNat : Nat) : Int) = (1 : Int)))))])), (0, (.cells [(.d (.sl (List.map byteD a0))), (.d (.int .i64 r47.2.1)), (.d (.int .i64 r47.2.2))])), (3, (.tok ((List.map byteD r47.1).length * 1)))]) (c' := 4) rfl rfl (by exact ⟨rfl, Nat.le_of_ble_eq_true rfl, rfl⟩) rfl rfl rfl rfl ?_
            refine RegV.p0 rfl rfl rfl ?_
            refine RegV.nil0 ?_
            have hr := Option.some.inj h
            subst hr
            exact AWc.ret (canQ (N := 47) (k := 2) (l' := [(2, (.ptr 1 0)), (3, (.d (.int .i64 (0 : Int))))]) (H' := [(1, (.cells [(.d (.str r10.1)), (.d (.sl (List.map byteD r47.1))), (.d (.bool (decide ((((rd r19.1 (0 : Int)).toNat : Nat) : Int) = (1 : Int)))))])), (0, (.cells [(.d (.sl (List.map byteD a0))), (.d (.int .i64 r47.2.1)), (.d (.int .i64 r47.2.2))]))]) rfl ⟨rfl, [], [], rfl, rfl, ⟨⟨_, rfl, (.refl _)⟩, rfl, ⟨⟨_, rfl, (.refl _)⟩, rfl, trivial⟩⟩, ⟨⟨_, rfl, (.refl _)⟩, rfl, rfl, ⟨⟨_, rfl, (.refl _)⟩, rfl, rfl, trivial⟩⟩⟩ (doneA (.inr rfl) rfl ⟨(Nat.le_of_ble_eq_true rfl), ⟨trivial, trivial⟩⟩ (.refl _) (hasCons rfl hasNil)))
/-- (*courant/code.Reader).End -/
def C43 (N : Nat → Nat) : AFunc := { n := 12, params := 1, res := [.tmp 2], body :=
 (.seq (.region false [⟨(some 2), .mv (.k (.d (.int .i64 0))), none, []⟩])
  (.seq (.seq (.region false [⟨(some 4), .mv (.t 0), none, []⟩,
     ⟨(some 5), .call (.k (.d (.fn (N 42)))) [(.t 4)], none, [0]⟩,
     ⟨(some 3), .mv (.t 5), none, [1, 0]⟩])
    (.seq (.region false [⟨(some 6), .mv (.t 3), none, []⟩,
      ⟨(some 7), .bin .neq (.t 6) (.k (.d (.int .i64 0))), none, [0]⟩])
     (.cond (.t 7) (.seq (.region false [⟨(some 8), .mv (.t 3), none, []⟩,
        ⟨(some 2), .mv (.t 8), none, [0]⟩])
       .ret)
      (.skip))))
   (.seq (.seq (.region false [⟨(some 9), .mv (.t 0), none, []⟩,
      ⟨(some 10), .call (.k (.d (.fn (N 32)))) [(.t 9)], none, [0]⟩,
      ⟨(some 11), .bin .gtr (.t 10) (.k (.d (.int .i64 0))), none, [1]⟩])
     (.cond (.t 11) (.seq (.region false [⟨(some 2), .mv (.k (.d (.int .i64 4))), none, []⟩])
       .ret)
      (.skip)))
    (.seq (.region false [⟨(some 2), .mv (.k (.d (.int .i64 0))), none, []⟩])
     .ret)))) }
def HC43 (P : Program) (N : Nat → Nat) : Prop := HasF P (N 43) (C43 N) ∧ HC42 P N ∧ HC32 P N
def f43 (k : Nat) (a0 : (List UInt8)) (a1 : Int) (a2 : Int) : Option Int := (f42 k a0 a1 a2).bind fun r10 => cond (decide (a2 ≠ (0 : Int))) (some a2) ((f32 k a0 a1 a2).bind fun r30 => cond (decide ((IntKind.i64.wrap (((a0.length : Nat) : Int) - a1)) > (0 : Int))) (some (4 : Int)) (some (0 : Int)))
theorem F43 {P : Program} {N : Nat → Nat} (hmix : P.follows .mixedOrders = true) (hc : HC43 P N) {k : Nat} {a0 : (List UInt8)} {a1 : Int} {a2 : Int} {r : Int} (h : f43 k a0 a1 a2 = some r) :
    ACalls P (N 43) [(.ptr 0 0)] [(0, (.cells [(.d (.sl (List.map byteD a0))), (.d (.int .i64 a1)), (.d (.int .i64 a2))]))] (.d (.int .i64 r)) [(0, (.cells [(.d (.sl (List.map byteD a0))), (.d (.int .i64 a1)), (.d (.int .i64 a2))]))] := by
  refine acalls_canon (F := C43 N) hc.1 1 1 rfl ?_
  unfold f43 at h
  dsimp only [C43, startL]
  refine AWc.seq ?_
  refine AWc.rg hmix rfl rfl ?_
  refine RegV.p0 rfl rfl rfl ?_
  refine RegV.nil0 ?_
  refine AWc.seq ?_
  refine AWc.seq ?_
  refine AWc.rg hmix rfl rfl ?_
  refine RegV.p0 rfl rfl rfl ?_
  obtain ⟨r10, e10, h⟩ := bind_some h
  refine RegV.callS (q := true) (H' := [(0, (.cells [(.d (.sl (List.map byteD a0))), (.d (.int .i64 a1)), (.d (.int .i64 a2))]))]) (c' := 1) (show ACalls P (N 42) [(.ptr 0 0)] [(0, (.cells [(.d (.sl (List.map byteD a0))), (.d (.int .i64 a1)), (.d (.int .i64 a2))]))] (.d (.int .i64 a2)) [(0, (.cells [(.d (.sl (List.map byteD a0))), (.d (.int .i64 a1)), (.d (.int .i64 a2))]))] from ACalls.use (F42 hmix hc.2.1 e10) [(0, 0)] 1 rfl) rfl rfl rfl rfl (.cons (.refl _) .nil) (.refl _) (fun _ => rfl) rfl (hasCons rfl hasNil) rfl rfl rfl rfl ?_
  refine RegV.p0 rfl rfl rfl ?_
  refine RegV.nil0 ?_
  refine AWc.seq ?_
  refine AWc.rg hmix rfl rfl ?_
  refine RegV.p0 rfl rfl rfl ?_
  refine RegV.p0 (v := (.d (.bool (decide (a2 ≠ (0 : Int)))))) rfl rfl rfl ?_
  refine RegV.nil0 ?_
  refine AWc.cond rfl (fun c17 => ?_) (fun c17 => ?_)
  · have h := cond_pos c17 h
    refine AWc.seq ?_
    refine AWc.rg hmix rfl rfl ?_
    refine RegV.p0 rfl rfl rfl ?_
    refine RegV.p0 rfl rfl rfl ?_
    refine RegV.nil0 ?_
    have hr := Option.some.inj h
    subst hr
    exact AWc.ret (canQ (N := 12) (k := 1) (l' := [(2, (.d (.int .i64 a2)))]) (H' := [(0, (.cells [(.d (.sl (List.map byteD a0))), (.d (.int .i64 a1)), (.d (.int .i64 a2))]))]) rfl ⟨rfl, [], [], rfl, rfl, ⟨⟨_, rfl, (.refl _)⟩, rfl, trivial⟩, ⟨⟨_, rfl, (.refl _)⟩, rfl, rfl, trivial⟩⟩ (doneA (.inr rfl) rfl ⟨trivial, trivial⟩ (.refl _) (hasCons rfl hasNil)))
  · have h := cond_neg c17 h
    refine AWc.skip ?_
    refine AWc.seq ?_
    refine AWc.seq ?_
    refine AWc.rg hmix rfl rfl ?_
    refine RegV.p0 rfl rfl rfl ?_
    obtain ⟨r30, e30, h⟩ := bind_some h
    refine RegV.callS (q := true) (H' := [(0, (.cells [(.d (.sl (List.map byteD a0))), (.d (.int .i64 a1)), (.d (.int .i64 a2))]))]) (c' := 1) (show ACalls P (N 32) [(.ptr 0 0)] [(0, (.cells [(.d (.sl (List.map byteD a0))), (.d (.int .i64 a1)), (.d (.int .i64 a2))]))] (.d (.int .i64 (IntKind.i64.wrap (((a0.length : Nat) : Int) - a1)))) [(0, (.cells [(.d (.sl (List.map byteD a0))), (.d (.int .i64 a1)), (.d (.int .i64 a2))]))] from ACalls.use (F32 hmix hc.2.2 e30) [(0, 0)] 1 rfl) rfl rfl rfl rfl (.cons (.refl _) .nil) (.refl _) (fun _ => rfl) rfl (hasCons rfl hasNil) rfl rfl rfl rfl ?_
    refine RegV.p0 (v := (.d (.bool (decide ((IntKind.i64.wrap (((a0.length : Nat) : Int) - a1)) > (0 : Int)))))) rfl rfl rfl ?_
    refine RegV.nil0 ?_
    refine AWc.cond rfl (fun c32 => ?_) (fun c32 => ?_)
    · have h := cond_pos c32 h
      refine AWc.seq ?_
      refine AWc.rg hmix rfl rfl ?_
      refine RegV.p0 rfl rfl rfl ?_
      refine RegV.nil0 ?_
      have hr := Option.some.inj h
      subst hr
      exact AWc.ret (canQ (N := 12) (k := 1) (l' := [(2, (.d (.int .i64 (4 : Int))))]) (H' := [(0, (.cells [(.d (.sl (List.map byteD a0))), (.d (.int .i64 a1)), (.d (.int .i64 a2))]))]) rfl ⟨rfl, [], [], rfl, rfl, ⟨⟨_, rfl, (.refl _)⟩, rfl, trivial⟩, ⟨⟨_, rfl, (.refl _)⟩, rfl, rfl, trivial⟩⟩ (doneA (.inr rfl) rfl ⟨trivial, trivial⟩ (.refl _) (hasCons rfl hasNil)))
    · have h := cond_neg c32 h
      refine AWc.skip ?_
      refine AWc.seq ?_
      refine AWc.rg hmix rfl rfl ?_
      refine RegV.p0 rfl rfl rfl ?_
      refine RegV.nil0 ?_
      have hr := Option.some.inj h
      subst hr
      exact AWc.ret (canQ (N := 12) (k := 1) (l' := [(2, (.d (.int .i64 (0 : Int))))]) (H' := [(0, (.cells [(.d (.sl (List.map byteD a0))), (.d (.int .i64 a1)), (.d (.int .i64 a2))]))]) rfl ⟨rfl, [], [], rfl, rfl, ⟨⟨_, rfl, (.refl _)⟩, rfl, trivial⟩, ⟨⟨_, rfl, (.refl _)⟩, rfl, rfl, trivial⟩⟩ (doneA (.inr rfl) rfl ⟨trivial, trivial⟩ (.refl _) (hasCons rfl hasNil)))
end Go.Proofs.Abs
