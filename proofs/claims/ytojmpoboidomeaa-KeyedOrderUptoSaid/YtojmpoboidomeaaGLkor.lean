/- Written by gen.py: functions of the program as Lean functions, and that the code comes to them. -/
import Derived.Test.YtojmpoboidomeaaAbsxf
set_option linter.unusedVariables false
set_option linter.unusedSimpArgs false
set_option maxRecDepth 100000
set_option maxHeartbeats 4000000
namespace Go.Proofs.Abs
open Go
structure TPair where
  fKey : (List UInt8)
  fValue : (List UInt8)
  fGone : Bool
instance : Inhabited TPair := ⟨⟨default, default, default⟩⟩
instance : DecidableEq TPair := fun a b => decidable_of_iff (a.fKey = b.fKey ∧ a.fValue = b.fValue ∧ a.fGone = b.fGone ∧ True) ⟨fun h => by cases a; cases b; simp_all, fun h => by subst h; simp⟩
def TPair.enc (x : TPair) : D := .agg [.str x.fKey, .sl (List.map byteD x.fValue), .bool x.fGone]
theorem TPair.ok : EncOK TPair.enc 3 true := ⟨fun _ => rfl, fun _ c hc => by simp only [TPair.enc, D.cells, List.mem_cons, List.not_mem_nil, or_false] at hc; rcases hc with rfl | rfl | rfl <;> rfl, fun _ => rfl⟩
def TPair.wf (x : TPair) : Prop := True ∧ (∀ e0 ∈ x.fValue, True) ∧ True ∧ True
def TPair.sz (x : TPair) : Nat := ((x.fKey.length + 1) + (((x.fValue.map (fun _ => 1)).sum + 1) + (1 + 0))) + 1
/-- courant/courantlaw22.few -/
def C70 (N : Nat → Nat) : AFunc := { n := 37, params := 1, res := [.tmp 2], body :=
 (.seq (.region false [⟨(some 2), .mv (.k (.d (.bool false))), none, []⟩])
  (.seq (.region false [⟨(some 3), .mv (.k (.d (.int .i64 0))), none, []⟩])
   (.seq (.seq (.region false [⟨(some 4), .mv (.k (.d (.int .i64 0))), none, []⟩])
     (.block 0 (.loop (.seq (.seq (.region false [⟨(some 5), .mv (.t 4), none, []⟩,
          ⟨(some 6), .mv (.t 0), none, []⟩,
          ⟨(some 7), .len (.t 6), none, [1]⟩,
          ⟨(some 8), .bin .lss (.t 5) (.t 7), none, [0, 2]⟩,
          ⟨(some 9), .mv (.t 8), none, [3]⟩,
          ⟨(some 10), .mv (.t 4), (some (9, true)), [4]⟩,
          ⟨(some 11), .bin .lss (.t 10) (.k (.d (.int .i64 200))), (some (9, true)), [5, 4]⟩,
          ⟨(some 12), .pick (.t 9) (.t 11) (.k (.d (.bool false))), none, [4, 6]⟩])
         (.cond (.t 12) (.skip)
          (.exit 0)))
        (.seq (.block 1 (.region true [⟨(some 15), .mv (.t 3), none, []⟩,
           ⟨(some 16), .mv (.t 0), none, []⟩,
           ⟨(some 17), .mv (.t 4), none, []⟩,
           ⟨(some 18), .iaddr (.t 16) (.t 17) 3, none, [1, 2]⟩,
           ⟨(some 19), .faddr (.t 18) 0, none, [3]⟩,
           ⟨(some 20), .load (.t 19) 1 false, none, [4]⟩,
           ⟨(some 21), .slen (.t 20), none, [5]⟩,
           ⟨(some 22), .bin .add (.t 15) (.t 21), none, [0, 6]⟩,
           ⟨(some 23), .mv (.t 0), none, []⟩,
           ⟨(some 24), .mv (.t 4), none, []⟩,
           ⟨(some 25), .iaddr (.t 23) (.t 24) 3, none, [8, 9]⟩,
           ⟨(some 26), .faddr (.t 25) 1, none, [10]⟩,
           ⟨(some 27), .load (.t 26) 1 false, none, [11]⟩,
           ⟨(some 28), .len (.t 27), none, [12]⟩,
           ⟨(some 29), .bin .add (.t 22) (.t 28), none, [7, 13]⟩,
           ⟨(some 3), .mv (.t 29), none, [14, 0, 1, 2, 3, 4, 5, 6, 7, 8, 9, 10, 11, 12, 13]⟩]))
         (.region false [⟨(some 13), .mv (.t 4), none, []⟩,
          ⟨(some 14), .bin .add (.t 13) (.k (.d (.int .i64 1))), none, [0]⟩,
          ⟨(some 4), .mv (.t 14), none, [1, 0]⟩]))))))
    (.seq (.region false [⟨(some 30), .mv (.t 0), none, []⟩,
      ⟨(some 31), .len (.t 30), none, [0]⟩,
      ⟨(some 32), .bin .lss (.t 31) (.k (.d (.int .i64 200))), none, [1]⟩,
      ⟨(some 33), .mv (.t 32), none, [2]⟩,
      ⟨(some 34), .mv (.t 3), (some (33, true)), [3]⟩,
      ⟨(some 35), .bin .lss (.t 34) (.k (.d (.int .i64 20000))), (some (33, true)), [4, 3]⟩,
      ⟨(some 36), .pick (.t 33) (.t 35) (.k (.d (.bool false))), none, [3, 5]⟩,
      ⟨(some 2), .mv (.t 36), none, [6, 3, 0, 1, 2, 4, 5]⟩])
     .ret)))) }
def HC70 (P : Program) (N : Nat → Nat) : Prop := HasF P (N 70) (C70 N)
def f70_j56 (k : Nat) (a0 : (List TPair)) (j56_1 : Int) : Option Bool := cond (decide (((a0.length : Nat) : Int) < (200 : Int))) (some (decide (j56_1 < (20000 : Int)))) (some false)
def f70_l14 (a0 : (List TPair)) : Nat → Int → Int → Option (LR2 Int Unit Bool)
  | 0, _, _ => none
  | k + 1, y14_1, y14_2 => cond (decide (y14_2 < ((a0.length : Nat) : Int))) (cond (decide (y14_2 < (200 : Int))) (gd (0 ≤ y14_2 ∧ y14_2 < ((a0.length : Nat) : Int)) (gd (0 ≤ y14_2 ∧ y14_2 < ((a0.length : Nat) : Int)) (f70_l14 a0 k (IntKind.i64.wrap ((IntKind.i64.wrap (y14_1 + ((((rd a0 y14_2).fKey).length : Nat) : Int))) + ((((rd a0 y14_2).fValue).length : Nat) : Int))) (IntKind.i64.wrap (y14_2 + (1 : Int)))))) (some (.b0 y14_1))) (some (.b0 y14_1))
def f70 (k : Nat) (a0 : (List TPair)) : Option Bool := (f70_l14 a0 k (0 : Int) (0 : Int)).bind fun o14 => (match o14 with | .b0 x14_1 => f70_j56 k a0 x14_1 | _ => none)
theorem F70 {P : Program} {N : Nat → Nat} (hmix : P.follows .mixedOrders = true) (hc : HC70 P N) {k : Nat} {a0 : (List TPair)} {r : Bool} (h : f70 k a0 = some r) :
    ACalls P (N 70) [(.d (.sl (List.map TPair.enc a0)))] [] (.d (.bool r)) [] := by
  refine acalls_canon (F := C70 N) hc 0 0 rfl ?_
  unfold f70 at h
  dsimp only [C70, startL]
  refine AWc.seq ?_
  refine AWc.rg hmix rfl rfl ?_
  refine RegV.p0 rfl rfl rfl ?_
  refine RegV.nil0 ?_
  refine AWc.seq ?_
  refine AWc.rg hmix rfl rfl ?_
  refine RegV.p0 rfl rfl rfl ?_
  refine RegV.nil0 ?_
  refine AWc.seqS (N := 37) 0 (fun (z : Int) => [(0, (.d (.sl (List.map TPair.enc a0)))), (3, (.d (.int .i64 z)))]) (fun z => []) (fun z => f70_j56 k a0 z = some r) rfl_le ?_ ?_
  · refine AWc.seq ?_
    refine AWc.rg hmix rfl rfl ?_
    refine RegV.p0 rfl rfl rfl ?_
    refine RegV.nil0 ?_
    obtain ⟨o14, h14, h⟩ := bind_some h
    refine AWc.block ?_
    refine AWc.loopK (N := 37) 0 (fun (x : (Int × Int)) => [(0, (.d (.sl (List.map TPair.enc a0)))), (3, (.d (.int .i64 x.1))), (4, (.d (.int .i64 x.2)))]) (fun x => []) (fun k x => f70_l14 a0 k x.1 x.2 = some o14) k ((0 : Int), (0 : Int)) rfl_le (fun x hx => by cases hx) h14 ⟨rfl, [], [], rfl, rfl, ⟨⟨_, rfl, (.refl _)⟩, rfl, ⟨⟨_, rfl, (.refl _)⟩, rfl, ⟨⟨_, rfl, (.refl _)⟩, rfl, trivial⟩⟩⟩,  trivial⟩ ?_
    clear h14
    intro k
    rintro ⟨y14_1, y14_2⟩ h14
    dsimp only at h14 ⊢
    rw [f70_l14] at h14
    refine AWc.seq ?_
    refine AWc.seq ?_
    refine AWc.rg hmix rfl rfl ?_
    refine RegV.p0 rfl rfl rfl ?_
    refine RegV.p0 rfl rfl rfl ?_
    refine RegV.len (xs := a0) (e := TPair.enc) rfl rfl rfl rfl ?_
    refine RegV.p0 (v := (.d (.bool (decide (y14_2 < ((a0.length : Nat) : Int)))))) rfl rfl rfl ?_
    refine RegV.p0 rfl rfl rfl ?_
    refine RegV.split (fun c24 => ?_) (fun c24 => ?_)
    · have h14 := cond_pos c24 h14
      refine RegV.p0 rfl rfl rfl ?_
      refine RegV.p0 (v := (.d (.bool (decide (y14_2 < (200 : Int)))))) rfl rfl rfl ?_
      refine RegV.p0 rfl rfl rfl ?_
      refine RegV.nil0 ?_
      refine AWc.cond rfl (fun c28 => ?_) (fun c28 => ?_)
      · have h14 := cond_pos c28 h14
        refine AWc.skip ?_
        refine AWc.seq ?_
        refine AWc.block ?_
        refine AWc.rg hmix rfl rfl ?_
        refine RegV.p0 rfl rfl rfl ?_
        refine RegV.p0 rfl rfl rfl ?_
        refine RegV.p0 rfl rfl rfl ?_
        obtain ⟨b38, h14⟩ := gd_some h14
        refine RegV.iad (xs := a0) (e := TPair.enc) rfl rfl rfl rfl (fun _ => rfl) b38 rfl ?_
        refine RegV.p0 (v := (.cp (TPair.enc (rd a0 y14_2)) 0)) rfl rfl rfl ?_
        refine RegV.p0 (v := (.d (.str (rd a0 y14_2).fKey))) rfl rfl rfl ?_
        refine RegV.p0 (v := (.d (.int .i64 ((((rd a0 y14_2).fKey).length : Nat) : Int)))) rfl rfl rfl ?_
        refine RegV.p0 (v := (.d (.int .i64 (IntKind.i64.wrap (y14_1 + ((((rd a0 y14_2).fKey).length : Nat) : Int)))))) rfl rfl rfl ?_
        refine RegV.p0 rfl rfl rfl ?_
        refine RegV.p0 rfl rfl rfl ?_
        obtain ⟨b45, h14⟩ := gd_some h14
        refine RegV.iad (xs := a0) (e := TPair.enc) rfl rfl rfl rfl (fun _ => rfl) b45 rfl ?_
        refine RegV.p0 (v := (.cp (TPair.enc (rd a0 y14_2)) 1)) rfl rfl rfl ?_
        refine RegV.p0 (v := (.d (.sl (List.map byteD (rd a0 y14_2).fValue)))) rfl rfl rfl ?_
        refine RegV.len (xs := (rd a0 y14_2).fValue) (e := byteD) rfl rfl rfl rfl ?_
        refine RegV.p0 (v := (.d (.int .i64 (IntKind.i64.wrap ((IntKind.i64.wrap (y14_1 + ((((rd a0 y14_2).fKey).length : Nat) : Int))) + ((((rd a0 y14_2).fValue).length : Nat) : Int)))))) rfl rfl rfl ?_
        refine RegV.p0 rfl rfl rfl ?_
        refine RegV.nil1 (by kernel_rfl) ?_
        refine AWc.rg hmix rfl rfl ?_
        refine RegV.p0 rfl rfl rfl ?_
        refine RegV.p0 (v := (.d (.int .i64 (IntKind.i64.wrap (y14_2 + (1 : Int)))))) rfl rfl rfl ?_
        refine RegV.p0 rfl rfl rfl ?_
        refine RegV.nil0 ?_
        exact ⟨((IntKind.i64.wrap ((IntKind.i64.wrap (y14_1 + ((((rd a0 y14_2).fKey).length : Nat) : Int))) + ((((rd a0 y14_2).fValue).length : Nat) : Int))), (IntKind.i64.wrap (y14_2 + (1 : Int)))), h14, ⟨rfl, [], [], rfl, rfl, ⟨⟨_, rfl, (.refl _)⟩, rfl, ⟨⟨_, rfl, (.refl _)⟩, rfl, ⟨⟨_, rfl, (.refl _)⟩, rfl, trivial⟩⟩⟩,  trivial⟩⟩
      · have h14 := cond_neg c28 h14
        cases h14
        dsimp only at h
        refine AWc.exit ?_
        refine inBlk_eq ?_
        exact ⟨y14_1, h, ⟨rfl, [], [], rfl, rfl, ⟨⟨_, rfl, (.refl _)⟩, rfl, ⟨⟨_, rfl, (.refl _)⟩, rfl, trivial⟩⟩,  trivial⟩⟩
    · have h14 := cond_neg c24 h14
      refine RegV.noS rfl rfl ?_
      refine RegV.noS rfl rfl ?_
      refine RegV.p0 rfl rfl rfl ?_
      refine RegV.nil0 ?_
      refine AWc.cond rfl (fun hc => by cases hc) (fun _ => ?_)
      cases h14
      dsimp only at h
      refine AWc.exit ?_
      refine inBlk_eq ?_
      exact ⟨y14_1, h, ⟨rfl, [], [], rfl, rfl, ⟨⟨_, rfl, (.refl _)⟩, rfl, ⟨⟨_, rfl, (.refl _)⟩, rfl, trivial⟩⟩,  trivial⟩⟩
  · intro j56_1 h
    unfold f70_j56 at h
    refine AWc.seq ?_
    refine AWc.rg hmix rfl rfl ?_
    refine RegV.p0 rfl rfl rfl ?_
    refine RegV.len (xs := a0) (e := TPair.enc) rfl rfl rfl rfl ?_
    refine RegV.p0 (v := (.d (.bool (decide (((a0.length : Nat) : Int) < (200 : Int)))))) rfl rfl rfl ?_
    refine RegV.p0 rfl rfl rfl ?_
    refine RegV.split (fun c62 => ?_) (fun c62 => ?_)
    · have h := cond_pos c62 h
      refine RegV.p0 rfl rfl rfl ?_
      refine RegV.p0 (v := (.d (.bool (decide (j56_1 < (20000 : Int)))))) rfl rfl rfl ?_
      refine RegV.p0 rfl rfl rfl ?_
      refine RegV.p0 rfl rfl rfl ?_
      refine RegV.nil0 ?_
      have hr := Option.some.inj h
      subst hr
      exact AWc.ret (canQ (N := 37) (k := 0) (l' := [(2, (.d (.bool (decide (j56_1 < (20000 : Int))))))]) (H' := []) rfl ⟨rfl, [], [], rfl, rfl, ⟨⟨_, rfl, (.refl _)⟩, rfl, trivial⟩,  trivial⟩ (doneA (.inr rfl) rfl ⟨trivial, trivial⟩ (.refl _) hasNil))
    · have h := cond_neg c62 h
      refine RegV.noS rfl rfl ?_
      refine RegV.noS rfl rfl ?_
      refine RegV.p0 rfl rfl rfl ?_
      refine RegV.p0 rfl rfl rfl ?_
      refine RegV.nil0 ?_
      have hr := Option.some.inj h
      subst hr
      exact AWc.ret (canQ (N := 37) (k := 0) (l' := [(2, (.d (.bool false)))]) (H' := []) rfl ⟨rfl, [], [], rfl, rfl, ⟨⟨_, rfl, (.refl _)⟩, rfl, trivial⟩,  trivial⟩ (doneA (.inr rfl) rfl ⟨trivial, trivial⟩ (.refl _) hasNil))
/-- slices.Clone[[]byte,byte] -/
def C87 (N : Nat → Nat) : AFunc := { n := 8, params := 1, res := [.tmp 2], body :=
 (.seq (.region false [⟨(some 2), .mv (.k .nils), none, []⟩])
  (.seq (.seq (.region false [⟨(some 3), .mv (.t 0), none, []⟩,
     ⟨(some 4), .nileq 0 false (.t 3) (.k .nils), none, [0]⟩])
    (.cond (.t 4) (.seq (.region false [⟨(some 2), .mv (.k .nils), none, []⟩])
      .ret)
     (.skip)))
   (.seq (.region false [⟨(some 5), .bslice 0 1 [(.int .u8 0)] [], none, []⟩,
     ⟨(some 6), .mv (.t 0), none, []⟩,
     ⟨(some 7), .app (.t 5) (.t 6) 1 1 [(.int .u8 0)], none, [0, 1]⟩,
     ⟨(some 2), .mv (.t 7), none, [2, 0, 1]⟩])
    .ret))) }
def HC87 (P : Program) (N : Nat → Nat) : Prop := HasF P (N 87) (C87 N)
def f87 (k : Nat) (a0 : List UInt8) : Option (List UInt8) := gd (a0.length * 2 * 1 ≤ 281474976710656) (some a0)
theorem F87 {P : Program} {N : Nat → Nat} (hmix : P.follows .mixedOrders = true) (hc : HC87 P N) {k : Nat} {a0 r : List UInt8} (h : f87 k a0 = some r) :
    ACalls P (N 87) [(.d (.sl (List.map byteD a0)))] [] (.ap 0 1 (List.map byteD r)) [(0, (.tok ((List.map byteD r).length * 1)))] := by
  unfold f87 at h
  obtain ⟨b, h⟩ := gd_some h
  cases h
  exact clone_gen hmix byteD_ok hc rfl rfl b
/-- slices.Values[[]courant/api.Pair,courant/api.Pair] -/
def C100 (N : Nat → Nat) : AFunc := { n := 4, params := 1, res := [.tmp 2], body :=
 (.seq (.region false [⟨(some 1), .box (.t 0), none, []⟩,
   ⟨(some 2), .mv (.k (.d .nilf)), none, []⟩])
  (.seq (.region false [⟨(some 3), .mkfn (N 113) [(.t 1)], none, []⟩,
    ⟨(some 2), .mv (.t 3), none, [0]⟩])
   .ret)) }
def HC100 (P : Program) (N : Nat → Nat) : Prop := HasF P (N 100) (C100 N)
def f100 (k : Nat) (a0 : (List TPair)) : Option Unit := some ()
theorem F100 {P : Program} {N : Nat → Nat} (hmix : P.follows .mixedOrders = true) (hc : HC100 P N) {k : Nat} {a0 : (List TPair)} {r : Unit} (h : f100 k a0 = some r) :
    ACalls P (N 100) [(.d (.sl (List.map TPair.enc a0)))] [] (.fn (N 113) [(.ptr 0 0)]) [(0, (.cells [(.d (.sl (List.map TPair.enc a0)))]))] := by
  refine acalls_canon (F := C100 N) hc 0 1 rfl ?_
  unfold f100 at h
  dsimp only [C100, startL]
  refine AWc.seq ?_
  refine AWc.rg hmix rfl rfl ?_
  refine RegV.evS (own := false) (v := (.ptr 0 0)) (H' := [(0, (.cells [(.d (.sl (List.map TPair.enc a0)))]))]) (c' := 1) rfl rfl trivial rfl rfl rfl rfl rfl rfl ?_
  refine RegV.p0 rfl rfl rfl ?_
  refine RegV.nil0 ?_
  refine AWc.seq ?_
  refine AWc.rg hmix rfl rfl ?_
  refine RegV.p0 (v := (.fn (N 113) [(.ptr 0 0)])) rfl rfl rfl ?_
  refine RegV.p0 rfl rfl rfl ?_
  refine RegV.nil0 ?_
  have hr := Option.some.inj h
  subst hr
  exact AWc.ret (canQ (N := 4) (k := 1) (l' := [(2, (.fn (N 113) [(.ptr 0 0)]))]) (H' := [(0, (.cells [(.d (.sl (List.map TPair.enc a0)))]))]) rfl ⟨rfl, [], [], rfl, rfl, ⟨⟨_, rfl, (.refl _)⟩, rfl, trivial⟩, ⟨⟨_, rfl, (.refl _)⟩, rfl, rfl, trivial⟩⟩ (doneA (.inr rfl) rfl ⟨trivial, trivial⟩ (.refl _) (hasCons rfl hasNil)))
/-- courant/keyed.place -/
def C101 (N : Nat → Nat) : AFunc := { n := 38, params := 2, res := [.tmp 4, .tmp 5], body :=
 (.seq (.region false [⟨(some 4), .mv (.k (.d (.int .i64 0))), none, []⟩,
   ⟨(some 5), .mv (.k (.d (.bool false))), none, [0]⟩])
  (.scope (.seq (.region false [⟨(some 9), .mv (.t 0), none, []⟩,
     ⟨(some 10), .len (.t 9), none, [0]⟩,
     ⟨(some 6), .mv (.t 10), none, [1, 0]⟩])
    (.seq (.label 0)
     (.seq (.seq (.region false [⟨(some 11), .mv (.t 0), none, []⟩,
        ⟨(some 12), .len (.t 11), none, [0]⟩,
        ⟨(some 13), .mv (.k (.d (.int .i64 0))), none, []⟩])
       (.block 0 (.loop (.seq (.region false [⟨(some 14), .bin .lss (.t 13) (.t 12), none, []⟩])
          (.seq (.cond (.t 14) (.skip)
            (.exit 0))
           (.seq (.block 1 (.seq (.region false [⟨(some 15), .mv (.t 13), none, []⟩,
               ⟨(some 16), .iaddr (.t 11) (.t 13) 3, none, []⟩,
               ⟨(some 17), .load (.t 16) 3 true, none, [1]⟩,
               ⟨(some 8), .alloc [(.str []), (.sl []), (.bool false)], none, []⟩,
               ⟨(some 7), .mv (.t 15), none, [0, 1, 2, 3]⟩,
               ⟨none, .store (.t 8) (.t 17) 3, none, [3, 2, 4, 0, 1]⟩])
              (.seq (.region false [⟨(some 18), .faddr (.t 8) 0, none, []⟩,
                ⟨(some 19), .load (.t 18) 1 false, none, [0]⟩,
                ⟨(some 20), .mv (.t 1), none, []⟩,
                ⟨(some 21), .bin .geq (.t 19) (.t 20), none, [1, 2]⟩])
               (.cond (.t 21) (.seq (.region false [⟨(some 22), .mv (.t 7), none, []⟩,
                  ⟨(some 6), .mv (.t 22), none, [0]⟩])
                 (.exit 0))
                (.skip)))))
            (.region false [⟨(some 23), .bin .add (.t 13) (.k (.d (.int .i64 1))), none, []⟩,
             ⟨(some 13), .mv (.t 23), none, [0]⟩])))))))
      (.seq (.region true [⟨(some 24), .mv (.t 6), none, []⟩,
        ⟨(some 25), .mv (.t 6), none, []⟩,
        ⟨(some 26), .mv (.t 0), none, []⟩,
        ⟨(some 27), .len (.t 26), none, [2]⟩,
        ⟨(some 28), .bin .lss (.t 25) (.t 27), none, [1, 3]⟩,
        ⟨(some 29), .mv (.t 28), none, [4]⟩,
        ⟨(some 30), .mv (.t 0), (some (29, true)), [5]⟩,
        ⟨(some 31), .mv (.t 6), (some (29, true)), [5]⟩,
        ⟨(some 32), .iaddr (.t 30) (.t 31) 3, (some (29, true)), [6, 7, 5]⟩,
        ⟨(some 33), .faddr (.t 32) 0, (some (29, true)), [8, 5]⟩,
        ⟨(some 34), .load (.t 33) 1 false, (some (29, true)), [9, 5]⟩,
        ⟨(some 35), .mv (.t 1), (some (29, true)), [5]⟩,
        ⟨(some 36), .bin .eql (.t 34) (.t 35), (some (29, true)), [10, 11, 5]⟩,
        ⟨(some 37), .pick (.t 29) (.t 36) (.k (.d (.bool false))), none, [5, 12]⟩,
        ⟨(some 4), .mv (.t 24), none, [0, 5]⟩,
        ⟨(some 5), .mv (.t 37), none, [13, 14, 0, 1, 2, 3, 4, 5, 6, 7, 8, 9, 10, 11, 12]⟩])
       .ret)))))) }
def HC101 (P : Program) (N : Nat → Nat) : Prop := HasF P (N 101) (C101 N)
def f101_j62 (k : Nat) (a0 : (List TPair)) (a1 : (List UInt8)) (j62_1 : Int) : Option (Int × Bool) := cond (decide (j62_1 < ((a0.length : Nat) : Int))) (gd (0 ≤ j62_1 ∧ j62_1 < ((a0.length : Nat) : Int)) (some (j62_1, (decide ((rd a0 j62_1).fKey = a1))))) (some (j62_1, false))
def f101_l22 (a0 : (List TPair)) (a1 : (List UInt8)) : Nat → Int → Option (LR2 Int Unit (Int × Bool))
  | 0, _ => none
  | k + 1, y22_1 => cond (decide (y22_1 < ((a0.length : Nat) : Int))) (gd (0 ≤ y22_1 ∧ y22_1 < ((a0.length : Nat) : Int)) (cond (!(Op.bytesLess (rd a0 y22_1).fKey a1)) (some (.b0 y22_1)) (f101_l22 a0 a1 k (IntKind.i64.wrap (y22_1 + (1 : Int)))))) (some (.b0 ((a0.length : Nat) : Int)))
def f101 (k : Nat) (a0 : (List TPair)) (a1 : (List UInt8)) : Option (Int × Bool) := (f101_l22 a0 a1 k (0 : Int)).bind fun o22 => (match o22 with | .b0 x22_1 => f101_j62 k a0 a1 x22_1 | _ => none)
theorem F101 {P : Program} {N : Nat → Nat} (hmix : P.follows .mixedOrders = true) (hc : HC101 P N) {k : Nat} {a0 : (List TPair)} {a1 : (List UInt8)} {r : (Int × Bool)} (h : f101 k a0 a1 = some r) :
    ACalls P (N 101) [(.d (.sl (List.map TPair.enc a0))), (.d (.str a1))] [] (.tup [(.d (.int .i64 r.1)), (.d (.bool r.2))]) [] := by
  refine acalls_canon (F := C101 N) hc 0 0 rfl ?_
  unfold f101 at h
  dsimp only [C101, startL]
  refine AWc.seq ?_
  refine AWc.rg hmix rfl rfl ?_
  refine RegV.p0 rfl rfl rfl ?_
  refine RegV.p0 rfl rfl rfl ?_
  refine RegV.nil0 ?_
  refine AWc.scope ?_
  refine AWc.seq ?_
  refine AWc.rg hmix rfl rfl ?_
  refine RegV.p0 rfl rfl rfl ?_
  refine RegV.len (xs := a0) (e := TPair.enc) rfl rfl rfl rfl ?_
  refine RegV.p0 rfl rfl rfl ?_
  refine RegV.nil0 ?_
  refine AWc.seq ?_
  refine AWc.label ?_
  refine AWc.seqS (N := 38) 0 (fun (z : Int) => [(0, (.d (.sl (List.map TPair.enc a0)))), (1, (.d (.str a1))), (6, (.d (.int .i64 z)))]) (fun z => []) (fun z => f101_j62 k a0 a1 z = some r) rfl_le ?_ ?_
  · refine AWc.seq ?_
    refine AWc.rg hmix rfl rfl ?_
    refine RegV.p0 rfl rfl rfl ?_
    refine RegV.len (xs := a0) (e := TPair.enc) rfl rfl rfl rfl ?_
    refine RegV.p0 rfl rfl rfl ?_
    refine RegV.nil0 ?_
    obtain ⟨o22, h22, h⟩ := bind_some h
    refine AWc.block ?_
    refine AWc.loopK (N := 38) 0 (fun (x : Int) => [(0, (.d (.sl (List.map TPair.enc a0)))), (1, (.d (.str a1))), (6, (.d (.int .i64 ((a0.length : Nat) : Int)))), (11, (.d (.sl (List.map TPair.enc a0)))), (12, (.d (.int .i64 ((a0.length : Nat) : Int)))), (13, (.d (.int .i64 x)))]) (fun x => []) (fun k x => f101_l22 a0 a1 k x = some o22) k (0 : Int) rfl_le (fun x hx => by cases hx) h22 ⟨rfl, [], [], rfl, rfl, ⟨⟨_, rfl, (.refl _)⟩, rfl, ⟨⟨_, rfl, (.refl _)⟩, rfl, ⟨⟨_, rfl, (.refl _)⟩, rfl, ⟨⟨_, rfl, (.refl _)⟩, rfl, ⟨⟨_, rfl, (.refl _)⟩, rfl, ⟨⟨_, rfl, (.refl _)⟩, rfl, trivial⟩⟩⟩⟩⟩⟩,  trivial⟩ ?_
    clear h22
    intro k
    intro y22_1 h22
    rw [f101_l22] at h22
    refine AWc.seq ?_
    refine AWc.rg hmix rfl rfl ?_
    refine RegV.p0 (v := (.d (.bool (decide (y22_1 < ((a0.length : Nat) : Int)))))) rfl rfl rfl ?_
    refine RegV.nil0 ?_
    refine AWc.seq ?_
    refine AWc.cond rfl (fun c29 => ?_) (fun c29 => ?_)
    · have h22 := cond_pos c29 h22
      refine AWc.skip ?_
      refine AWc.seq ?_
      refine AWc.block ?_
      refine AWc.seq ?_
      refine AWc.rg hmix rfl rfl ?_
      refine RegV.p0 rfl rfl rfl ?_
      obtain ⟨b38, h22⟩ := gd_some h22
      refine RegV.iad (xs := a0) (e := TPair.enc) rfl rfl rfl rfl (fun _ => rfl) b38 rfl ?_
      refine RegV.p1 (v := (.d (TPair.enc (rd a0 y22_1)))) rfl rfl rfl rfl rfl ?_
      refine RegV.evS (own := false) (v := (.ptr 0 0)) (H' := [(0, (.cells [(.d (.str ([] : List UInt8))), .nils, (.d (.bool false))]))]) (c' := 1) rfl rfl trivial rfl rfl rfl rfl rfl rfl ?_
      refine RegV.p0 rfl rfl rfl ?_
      refine RegV.evN (own := false) (H' := [(0, (.cells [(.d (.str (rd a0 y22_1).fKey)), (.d (.sl (List.map byteD (rd a0 y22_1).fValue))), (.d (.bool (rd a0 y22_1).fGone))]))]) (c' := 1) rfl rfl (by exact ⟨rfl, Nat.le_of_ble_eq_true rfl, rfl⟩) rfl rfl rfl rfl ?_
      refine RegV.nil0 ?_
      refine AWc.seq ?_
      refine AWc.rg hmix rfl rfl ?_
      refine RegV.p0 (v := (.ptr 0 0)) rfl rfl rfl ?_
      refine RegV.ld (v := (.d (.str (rd a0 y22_1).fKey))) (H' := [(0, (.cells [(.d (.str (rd a0 y22_1).fKey)), (.d (.sl (List.map byteD (rd a0 y22_1).fValue))), (.d (.bool (rd a0 y22_1).fGone))]))]) rfl rfl trivial rfl rfl rfl rfl rfl ?_
      refine RegV.p0 rfl rfl rfl ?_
      refine RegV.p0 (v := (.d (.bool (!(Op.bytesLess (rd a0 y22_1).fKey a1))))) rfl rfl rfl ?_
      refine RegV.nil0 ?_
      refine AWc.cond rfl (fun c50 => ?_) (fun c50 => ?_)
      · have h22 := cond_pos c50 h22
        refine AWc.seq ?_
        refine AWc.rg hmix rfl rfl ?_
        refine RegV.p0 rfl rfl rfl ?_
        refine RegV.p0 rfl rfl rfl ?_
        refine RegV.nil0 ?_
        cases h22
        dsimp only at h
        refine AWc.exit ?_
        refine inBlk_ne rfl ?_
        refine inBlk_eq ?_
        exact ⟨y22_1, h, ⟨rfl, [], [], rfl, rfl, ⟨⟨_, rfl, (.refl _)⟩, rfl, ⟨⟨_, rfl, (.refl _)⟩, rfl, ⟨⟨_, rfl, (.refl _)⟩, rfl, trivial⟩⟩⟩,  trivial⟩⟩
      · have h22 := cond_neg c50 h22
        refine AWc.skip ?_
        refine AWc.rg hmix rfl rfl ?_
        refine RegV.p0 (v := (.d (.int .i64 (IntKind.i64.wrap (y22_1 + (1 : Int)))))) rfl rfl rfl ?_
        refine RegV.p0 rfl rfl rfl ?_
        refine RegV.nil0 ?_
        exact ⟨(IntKind.i64.wrap (y22_1 + (1 : Int))), h22, ⟨rfl, [], [], rfl, rfl, ⟨⟨_, rfl, (.refl _)⟩, rfl, ⟨⟨_, rfl, (.refl _)⟩, rfl, ⟨⟨_, rfl, (.refl _)⟩, rfl, ⟨⟨_, rfl, (.refl _)⟩, rfl, ⟨⟨_, rfl, (.refl _)⟩, rfl, ⟨⟨_, rfl, (.refl _)⟩, rfl, trivial⟩⟩⟩⟩⟩⟩,  trivial⟩⟩
    · have h22 := cond_neg c29 h22
      cases h22
      dsimp only at h
      refine AWc.exit ?_
      refine inBlk_eq ?_
      exact ⟨((a0.length : Nat) : Int), h, ⟨rfl, [], [], rfl, rfl, ⟨⟨_, rfl, (.refl _)⟩, rfl, ⟨⟨_, rfl, (.refl _)⟩, rfl, ⟨⟨_, rfl, (.refl _)⟩, rfl, trivial⟩⟩⟩,  trivial⟩⟩
  · intro j62_1 h
    unfold f101_j62 at h
    refine AWc.seq ?_
    refine AWc.rg hmix rfl rfl ?_
    refine RegV.p0 rfl rfl rfl ?_
    refine RegV.p0 rfl rfl rfl ?_
    refine RegV.p0 rfl rfl rfl ?_
    refine RegV.len (xs := a0) (e := TPair.enc) rfl rfl rfl rfl ?_
    refine RegV.p0 (v := (.d (.bool (decide (j62_1 < ((a0.length : Nat) : Int)))))) rfl rfl rfl ?_
    refine RegV.p0 rfl rfl rfl ?_
    refine RegV.split (fun c70 => ?_) (fun c70 => ?_)
    · have h := cond_pos c70 h
      refine RegV.p0 rfl rfl rfl ?_
      refine RegV.p0 rfl rfl rfl ?_
      obtain ⟨b73, h⟩ := gd_some h
      refine RegV.iad (xs := a0) (e := TPair.enc) rfl rfl rfl rfl (fun _ => rfl) b73 rfl ?_
      refine RegV.p0 (v := (.cp (TPair.enc (rd a0 j62_1)) 0)) rfl rfl rfl ?_
      refine RegV.p0 (v := (.d (.str (rd a0 j62_1).fKey))) rfl rfl rfl ?_
      refine RegV.p0 rfl rfl rfl ?_
      refine RegV.p0 (v := (.d (.bool (decide ((rd a0 j62_1).fKey = a1))))) rfl rfl rfl ?_
      refine RegV.p0 rfl rfl rfl ?_
      refine RegV.p0 rfl rfl rfl ?_
      refine RegV.p0 rfl rfl rfl ?_
      refine RegV.nil1 (by kernel_rfl) ?_
      have hr := Option.some.inj h
      subst hr
      exact AWc.ret (canQ (N := 38) (k := 0) (l' := [(4, (.d (.int .i64 j62_1))), (5, (.d (.bool (decide ((rd a0 j62_1).fKey = a1)))))]) (H' := []) rfl ⟨rfl, [], [], rfl, rfl, ⟨⟨_, rfl, (.refl _)⟩, rfl, ⟨⟨_, rfl, (.refl _)⟩, rfl, trivial⟩⟩,  trivial⟩ (doneA (.inr rfl) rfl ⟨trivial, ⟨trivial, trivial⟩⟩ (.refl _) hasNil))
    · have h := cond_neg c70 h
      refine RegV.noS rfl rfl ?_
      refine RegV.noS rfl rfl ?_
      refine RegV.noS rfl rfl ?_
      refine RegV.noS rfl rfl ?_
      refine RegV.noS rfl rfl ?_
      refine RegV.noS rfl rfl ?_
      refine RegV.noS rfl rfl ?_
      refine RegV.p0 rfl rfl rfl ?_
      refine RegV.p0 rfl rfl rfl ?_
      refine RegV.p0 rfl rfl rfl ?_
      refine RegV.nil1 (by kernel_rfl) ?_
      have hr := Option.some.inj h
      subst hr
      exact AWc.ret (canQ (N := 38) (k := 0) (l' := [(4, (.d (.int .i64 j62_1))), (5, (.d (.bool false)))]) (H' := []) rfl ⟨rfl, [], [], rfl, rfl, ⟨⟨_, rfl, (.refl _)⟩, rfl, ⟨⟨_, rfl, (.refl _)⟩, rfl, trivial⟩⟩,  trivial⟩ (doneA (.inr rfl) rfl ⟨trivial, ⟨trivial, trivial⟩⟩ (.refl _) hasNil))
def HC102 (P : Program) (N : Nat → Nat) : Prop := DelB P (N 102) 3
def f102 (k : Nat) (a0 : List TPair) (a1 : Nat) (a2 a3 : Int) : Option (List TPair) := gd (0 ≤ a2 ∧ a2 ≤ a3 ∧ a3 ≤ (a1 : Int) ∧ a1 ≤ a0.length ∧ a1 ≤ 140737488355328) (some (a0.take a2.toNat ++ (a0.take a1).drop a3.toNat))
theorem F102 {P : Program} {N : Nat → Nat} (hmix : P.follows .mixedOrders = true) (hc : HC102 P N) {k : Nat} {a0 : List TPair} {a1 : Nat} {a2 a3 : Int} {r : List TPair} (h : f102 k a0 a1 a2 a3 = some r) :
    ACalls P (N 102) [(.row 0 3 a1), (.d (.int .i64 a2)), (.d (.int .i64 a3))] [(0, (rowO TPair.enc a0))] (.row 1 3 r.length) [(1, (rowO TPair.enc r))] := by
  obtain ⟨b, h⟩ := gd_some h
  cases h
  exact delB_calls TPair.ok hc b
def HC103 (P : Program) (N : Nat → Nat) : Prop := InsB P (N 103) 3 48
def f103 (k : Nat) (a0 : List TPair) (a1 : Nat) (a2 : Int) (a3 : List TPair) : Option (List TPair) := gd (0 ≤ a2 ∧ a2 ≤ (a1 : Int) ∧ a1 ≤ a0.length ∧ a3.length = 1 ∧ (a1 + a3.length) * 2 * 48 ≤ 281474976710656) (some ((a0.take a1).take a2.toNat ++ a3 ++ (a0.take a1).drop a2.toNat))
theorem F103 {P : Program} {N : Nat → Nat} (hmix : P.follows .mixedOrders = true) (hc : HC103 P N) {k : Nat} {a0 : List TPair} {a1 : Nat} {a2 : Int} {a3 r : List TPair} (h : f103 k a0 a1 a2 a3 = some r) :
    ACalls P (N 103) [(.row 0 3 a1), (.d (.int .i64 a2)), (.d (.sl (List.map TPair.enc a3)))] [(0, (rowO TPair.enc a0))] (.row 1 3 r.length) [(1, (rowO TPair.enc r))] := by
  obtain ⟨b, h⟩ := gd_some h
  cases h
  exact insB_calls TPair.ok (by decide) hc b
def L72_0a (N : Nat → Nat) : ACode :=
 (.region false [⟨(some 8), .alloc [(.str []), (.sl []), (.bool false)], none, []⟩,
  ⟨none, .store (.t 8) (.t 28) 3, none, [0]⟩])
def L72_0b (N : Nat → Nat) : ACode :=
 (.block 3 (.seq (.region false [⟨(some 30), .load (.t 5) 1 false, none, []⟩,
    ⟨(some 31), .faddr (.t 8) 0, none, []⟩,
    ⟨(some 32), .load (.t 31) 1 false, none, [1]⟩,
    ⟨(some 33), .call (.k (.d (.fn (N 101)))) [(.t 30), (.t 32)], none, [0, 2]⟩,
    ⟨(some 29), .mv (.t 33), none, [3]⟩,
    ⟨(some 34), .ext (.t 29) 0, none, [4]⟩,
    ⟨(some 35), .ext (.t 29) 1, none, [4]⟩,
    ⟨(some 9), .mv (.t 34), none, [5, 3, 0, 1, 2, 4]⟩,
    ⟨(some 10), .mv (.t 35), none, [6, 7, 0, 1, 2, 3, 4, 5]⟩])
   (.seq (.region false [⟨(some 36), .faddr (.t 8) 1, none, []⟩,
     ⟨(some 37), .load (.t 36) 1 false, none, [0]⟩,
     ⟨(some 38), .call (.k (.d (.fn (N 87)))) [(.t 37)], none, [1]⟩,
     ⟨(some 39), .faddr (.t 8) 1, none, [0, 1, 2]⟩,
     ⟨none, .store (.t 39) (.t 38) 1, none, [3, 2, 0, 1]⟩])
    (.block 4 (.seq (.region false [⟨(some 41), .mv (.t 10), none, []⟩,
       ⟨(some 42), .mv (.t 41), none, [0]⟩,
       ⟨(some 43), .faddr (.t 8) 2, (some (42, true)), [1]⟩,
       ⟨(some 44), .load (.t 43) 1 false, (some (42, true)), [2, 1]⟩,
       ⟨(some 45), .pick (.t 42) (.t 44) (.k (.d (.bool false))), none, [1, 3]⟩,
       ⟨(some 40), .mv (.t 45), none, [4, 1]⟩])
      (.cond (.t 40) (.region false [⟨(some 46), .load (.t 5) 1 false, none, []⟩,
        ⟨(some 47), .mv (.t 9), none, []⟩,
        ⟨(some 48), .mv (.t 9), none, []⟩,
        ⟨(some 49), .bin .add (.t 48) (.k (.d (.int .i64 1))), none, [2]⟩,
        ⟨(some 50), .call (.k (.d (.fn (N 102)))) [(.t 46), (.t 47), (.t 49)], none, [0, 1, 3]⟩,
        ⟨none, .store (.t 5) (.t 50) 1, none, [4, 0, 1, 2, 3]⟩])
       (.seq (.region false [⟨(some 52), .mv (.t 10), none, []⟩,
         ⟨(some 51), .mv (.t 52), none, [0]⟩])
        (.cond (.t 51) (.region false [⟨(some 53), .load (.t 5) 1 false, none, []⟩,
          ⟨(some 54), .mv (.t 9), none, []⟩,
          ⟨(some 55), .load (.t 8) 3 true, none, []⟩,
          ⟨(some 56), .iaddr (.t 53) (.t 54) 3, none, [0, 1, 2]⟩,
          ⟨none, .store (.t 56) (.t 55) 3, none, [3, 2, 0, 1]⟩])
         (.seq (.region false [⟨(some 58), .faddr (.t 8) 2, none, []⟩,
           ⟨(some 59), .load (.t 58) 1 false, none, [0]⟩,
           ⟨(some 60), .un .not (.t 59), none, [1]⟩,
           ⟨(some 57), .mv (.t 60), none, [2]⟩])
          (.cond (.t 57) (.region false [⟨(some 61), .load (.t 5) 1 false, none, []⟩,
            ⟨(some 62), .mv (.t 9), none, []⟩,
            ⟨(some 63), .load (.t 8) 3 true, none, []⟩,
            ⟨(some 64), .bslice 1 3 [(.str []), (.sl []), (.bool false)] [(0, (.t 63))], none, [2]⟩,
            ⟨(some 65), .call (.k (.d (.fn (N 103)))) [(.t 61), (.t 62), (.t 64)], none, [0, 1, 3]⟩,
            ⟨none, .store (.t 5) (.t 65) 1, none, [4, 0, 1, 2, 3]⟩])
           (.skip)))))))))))
/-- courant/keyed.Put -/
def C72 (N : Nat → Nat) : AFunc := { n := 67, params := 2, res := [.tmp 4], body :=
 (.seq (.region false [⟨(some 4), .mv (.k .nils), none, []⟩])
  (.seq (.region false [⟨(some 5), .alloc [(.sl [])], none, []⟩])
   (.seq (.seq (.region false [⟨(some 11), .mv (.t 0), none, []⟩,
      ⟨(some 12), .len (.t 11), none, [0]⟩,
      ⟨(some 13), .mv (.k (.d (.int .i64 0))), none, []⟩])
     (.block 0 (.loop (.seq (.region false [⟨(some 14), .bin .lss (.t 13) (.t 12), none, []⟩])
        (.seq (.cond (.t 14) (.skip)
          (.exit 0))
         (.seq (.block 1 (.seq (.region false [⟨(some 15), .iaddr (.t 11) (.t 13) 3, none, []⟩,
             ⟨(some 16), .load (.t 15) 3 true, none, [0]⟩,
             ⟨(some 7), .alloc [(.str []), (.sl []), (.bool false)], none, []⟩,
             ⟨none, .store (.t 7) (.t 16) 3, none, [2, 1, 0]⟩])
            (.seq (.region false [⟨(some 17), .faddr (.t 7) 1, none, []⟩,
              ⟨(some 18), .load (.t 17) 1 false, none, [0]⟩,
              ⟨(some 19), .call (.k (.d (.fn (N 87)))) [(.t 18)], none, [1]⟩,
              ⟨(some 20), .faddr (.t 7) 1, none, [0, 1, 2]⟩,
              ⟨none, .store (.t 20) (.t 19) 1, none, [3, 2, 0, 1]⟩])
             (.region false [⟨(some 21), .load (.t 5) 1 false, none, []⟩,
              ⟨(some 22), .load (.t 7) 3 true, none, []⟩,
              ⟨(some 23), .bslice 1 3 [(.str []), (.sl []), (.bool false)] [(0, (.t 22))], none, [1]⟩,
              ⟨(some 24), .app (.t 21) (.t 23) 3 48 [(.str []), (.sl []), (.bool false)], none, [0, 2]⟩,
              ⟨none, .store (.t 5) (.t 24) 1, none, [3, 0, 1, 2]⟩]))))
          (.region false [⟨(some 25), .bin .add (.t 13) (.k (.d (.int .i64 1))), none, []⟩,
           ⟨(some 13), .mv (.t 25), none, [0]⟩])))))))
    (.seq (.seq (.region false [⟨(some 26), .mv (.t 1), none, []⟩,
       ⟨(some 27), .call (.k (.d (.fn (N 100)))) [(.t 26)], none, [0]⟩])
      (.block 2 (.rangeFunc (.t 27) [28] (L72_0a N) (L72_0b N))))
     (.seq (.region false [⟨(some 66), .load (.t 5) 1 false, none, []⟩,
       ⟨(some 4), .mv (.t 66), none, [0]⟩])
      .ret))))) }
def HCb72_61 (P : Program) (N : Nat → Nat) : Prop := True ∧ HC101 P N ∧ HC87 P N ∧ HC102 P N ∧ HC103 P N
def b72_61_j98 (k : Nat) (a0 : (List TPair)) (a1 : Nat) (r74 : (Int × Bool)) (a2 : TPair) (r85 : (List UInt8)) (j98_1 : Bool) : Option (Nat × (List TPair)) := cond j98_1 ((f102 k a0 a1 r74.1 (IntKind.i64.wrap (r74.1 + (1 : Int)))).bind fun r105 => some (r105.length, r105)) (cond r74.2 (gd (0 ≤ r74.1 ∧ r74.1 < ((a1 : Nat) : Int)) (gd ((r74.1).toNat < a0.length) (some (a1, (List.set a0 (r74.1).toNat (TPair.mk a2.fKey r85 a2.fGone)))))) (cond (!a2.fGone) ((f103 k a0 a1 r74.1 ([(TPair.mk a2.fKey r85 a2.fGone)] : List TPair)).bind fun r134 => some (r134.length, r134)) (some (a1, a0))))
def b72_61 (k : Nat) (a0 : (List TPair)) (a1 : Nat) (a2 : TPair) : Option (Nat × (List TPair)) := gd (a1 ≤ a0.length) ((f101 k (List.take a1 a0) a2.fKey).bind fun r74 => (f87 k a2.fValue).bind fun r85 => cond r74.2 (b72_61_j98 k a0 a1 r74 a2 r85 a2.fGone) (b72_61_j98 k a0 a1 r74 a2 r85 false))
theorem B72_61 {P : Program} {N : Nat → Nat} (hmix : P.follows .mixedOrders = true) (hc : HCb72_61 P N) {asg0 bd0 : Code} (ha0 : compCode P asg0 = L72_0a N) (hb0 : compCode P bd0 = L72_0b N) {k : Nat} {a0 : (List TPair)} {a1 : Nat} {a2 : TPair} {r : (Nat × (List TPair))} (h : b72_61 k a0 a1 a2 = some r) :
    ARound P 0 [(.d (TPair.enc a2))] [(0, (.lp 67 [(5, (.ptr 1 0))] [28] asg0 bd0 .ready none)), (1, (.cells [(.row 2 3 a1)])), (2, (rowO TPair.enc a0))] (.d (.bool true)) [(0, (.lp 67 [(5, (.ptr 1 0))] [28] asg0 bd0 .ready none)), (1, (.cells [(.row 3 3 r.1)])), (3, (rowO TPair.enc r.2))] := by
  refine around_gen 3 4 ha0 hb0 rfl rfl (fun ro => ?_)
  unfold b72_61 at h
  dsimp only [L72_0a, L72_0b, putArgs]
  refine AWc.rg hmix rfl rfl ?_
  refine RegV.evS (own := false) (v := (.ptr 3 0)) (H' := [(3, (.cells [(.d (.str ([] : List UInt8))), .nils, (.d (.bool false))])), (0, (.lp 67 [(5, (.ptr 1 0))] [28] asg0 bd0 .ready none)), (1, (.cells [(.row 2 3 a1)])), (2, (rowO TPair.enc a0))]) (c' := 4) rfl rfl trivial rfl rfl rfl rfl rfl rfl ?_
  refine RegV.evN (own := false) (H' := [(3, (.cells [(.d (.str a2.fKey)), (.d (.sl (List.map byteD a2.fValue))), (.d (.bool a2.fGone))])), (0, (.lp 67 [(5, (.ptr 1 0))] [28] asg0 bd0 .ready none)), (1, (.cells [(.row 2 3 a1)])), (2, (rowO TPair.enc a0))]) (c' := 4) rfl rfl (by exact ⟨rfl, Nat.le_of_ble_eq_true rfl, rfl⟩) rfl rfl rfl rfl ?_
  refine RegV.nil0 ?_
  refine asgDone rfl rfl ?_
  refine AWc.block ?_
  refine AWc.seq ?_
  refine AWc.rg hmix rfl rfl ?_
  refine RegV.ld (v := (.row 2 3 a1)) (H' := [(1, (.cells [(.row 2 3 a1)])), (3, (.cells [(.d (.str a2.fKey)), (.d (.sl (List.map byteD a2.fValue))), (.d (.bool a2.fGone))])), (0, (.lp 67 [(5, (.ptr 1 0))] [28] asg0 bd0 .busy none)), (2, (rowO TPair.enc a0))]) rfl rfl trivial rfl rfl rfl rfl rfl ?_
  refine RegV.p0 (v := (.ptr 3 0)) rfl rfl rfl ?_
  refine RegV.ld (v := (.d (.str a2.fKey))) (H' := [(3, (.cells [(.d (.str a2.fKey)), (.d (.sl (List.map byteD a2.fValue))), (.d (.bool a2.fGone))])), (1, (.cells [(.row 2 3 a1)])), (0, (.lp 67 [(5, (.ptr 1 0))] [28] asg0 bd0 .busy none)), (2, (rowO TPair.enc a0))]) rfl rfl trivial rfl rfl rfl rfl rfl ?_
  obtain ⟨bw0, h⟩ := gd_some h
  obtain ⟨r74, e74, h⟩ := bind_some h
  refine RegV.callS (q := true) (H' := [(2, (rowO TPair.enc a0)), (3, (.cells [(.d (.str a2.fKey)), (.d (.sl (List.map byteD a2.fValue))), (.d (.bool a2.fGone))])), (1, (.cells [(.row 2 3 a1)])), (0, (.lp 67 [(5, (.ptr 1 0))] [28] asg0 bd0 .busy none))]) (c' := 4) (show ACalls P (N 101) [(.row 2 3 a1), (.d (.str a2.fKey))] [(2, (rowO TPair.enc a0))] (.tup [(.d (.int .i64 r74.1)), (.d (.bool r74.2))]) [(2, (rowO TPair.enc a0))] from ACalls.borrow (e := TPair.enc) (xs := a0) (views := [(.d (.sl (List.map TPair.enc (List.take a1 a0)))), (.d (.str a2.fKey))]) (F101 hmix hc.2.1 e74) rfl TPair.ok (.inr rfl) (.cons (.row bw0) (.cons .same .nil)) (.cons (.refl _) (.cons (.refl _) .nil)) (LooseL.tup (.cons .int (.cons .bool .nil)))) rfl rfl rfl rfl (SubL.refl _) (.refl _) (fun _ => rfl) rfl (hasCons rfl hasNil) rfl rfl rfl rfl ?_
  refine RegV.p0 rfl rfl rfl ?_
  refine RegV.p0 rfl rfl rfl ?_
  refine RegV.p0 rfl rfl rfl ?_
  refine RegV.p0 rfl rfl rfl ?_
  refine RegV.p0 rfl rfl rfl ?_
  refine RegV.nil0 ?_
  refine AWc.seq ?_
  refine AWc.rg hmix rfl rfl ?_
  refine RegV.p0 (v := (.ptr 3 1)) rfl rfl rfl ?_
  refine RegV.ld (v := (.d (.sl (List.map byteD a2.fValue)))) (H' := [(3, (.cells [(.d (.str a2.fKey)), (.d (.sl (List.map byteD a2.fValue))), (.d (.bool a2.fGone))])), (2, (rowO TPair.enc a0)), (1, (.cells [(.row 2 3 a1)])), (0, (.lp 67 [(5, (.ptr 1 0))] [28] asg0 bd0 .busy none))]) rfl rfl trivial rfl rfl rfl rfl rfl ?_
  obtain ⟨r85, e85, h⟩ := bind_some h
  refine RegV.callS (q := false) (H' := [(4, (.tok ((List.map byteD r85).length * 1))), (3, (.cells [(.d (.str a2.fKey)), (.d (.sl (List.map byteD a2.fValue))), (.d (.bool a2.fGone))])), (2, (rowO TPair.enc a0)), (1, (.cells [(.row 2 3 a1)])), (0, (.lp 67 [(5, (.ptr 1 0))] [28] asg0 bd0 .busy none))]) (c' := 5) (show ACalls P (N 87) [(.d (.sl (List.map byteD a2.fValue)))] [] (.ap 4 1 (List.map byteD r85)) [(4, (.tok ((List.map byteD r85).length * 1)))] from ACalls.use (F87 hmix hc.2.2.1 e85) [(0, 4)] 1 rfl) rfl rfl rfl rfl (.cons (.refl _) .nil) (.refl _) (fun h => by cases h) rfl hasNil rfl rfl rfl rfl ?_
  refine RegV.p0 (v := (.ptr 3 1)) rfl rfl rfl ?_
  refine RegV.evN (own := false) (H' := [(3, (.cells [(.d (.str a2.fKey)), (.ap 4 1 (List.map byteD r85)), (.d (.bool a2.fGone))])), (4, (.tok ((List.map byteD r85).length * 1))), (2, (rowO TPair.enc a0)), (1, (.cells [(.row 2 3 a1)])), (0, (.lp 67 [(5, (.ptr 1 0))] [28] asg0 bd0 .busy none))]) (c' := 5) rfl rfl (by exact ⟨rfl, Nat.le_of_ble_eq_true rfl, rfl⟩) rfl rfl rfl rfl ?_
  refine RegV.nil0 ?_
  refine AWc.block ?_
  refine AWc.seqS (N := 67) 5 (fun (z : Bool) => [(5, (.ptr 1 0)), (8, (.ptr 3 0)), (9, (.d (.int .i64 r74.1))), (10, (.d (.bool r74.2))), (40, (.d (.bool z)))]) (fun z => [(1, (.cells [(.row 2 3 a1)])), (3, (.cells [(.d (.str a2.fKey)), (.ap 4 1 (List.map byteD r85)), (.d (.bool a2.fGone))])), (0, (.lp 67 [(5, (.ptr 1 0))] [28] asg0 bd0 .busy none)), (2, (rowO TPair.enc a0)), (4, (.tok ((List.map byteD r85).length * 1)))]) (fun z => b72_61_j98 k a0 a1 r74 a2 r85 z = some r) rfl_le ?_ ?_
  · refine AWc.rg hmix rfl rfl ?_
    refine RegV.p0 rfl rfl rfl ?_
    refine RegV.p0 rfl rfl rfl ?_
    refine RegV.split (fun c93 => ?_) (fun c93 => ?_)
    · have h := cond_pos c93 h
      refine RegV.p0 (v := (.ptr 3 2)) rfl rfl rfl ?_
      refine RegV.ld (v := (.d (.bool a2.fGone))) (H' := [(3, (.cells [(.d (.str a2.fKey)), (.ap 4 1 (List.map byteD r85)), (.d (.bool a2.fGone))])), (4, (.tok ((List.map byteD r85).length * 1))), (2, (rowO TPair.enc a0)), (1, (.cells [(.row 2 3 a1)])), (0, (.lp 67 [(5, (.ptr 1 0))] [28] asg0 bd0 .busy none))]) rfl rfl trivial rfl rfl rfl rfl rfl ?_
      refine RegV.p0 rfl rfl rfl ?_
      refine RegV.p0 rfl rfl rfl ?_
      refine RegV.nil0 ?_
      exact ⟨a2.fGone, h, ⟨rfl, [], [], rfl, rfl, ⟨⟨_, rfl, (.refl _)⟩, rfl, ⟨⟨_, rfl, (.refl _)⟩, rfl, ⟨⟨_, rfl, (.refl _)⟩, rfl, ⟨⟨_, rfl, (.refl _)⟩, rfl, ⟨⟨_, rfl, (.refl _)⟩, rfl, trivial⟩⟩⟩⟩⟩, ⟨⟨_, rfl, (.refl _)⟩, rfl, rfl, ⟨⟨_, rfl, (.refl _)⟩, rfl, rfl, ⟨⟨_, rfl, (.refl _)⟩, rfl, rfl, ⟨⟨_, rfl, (.refl _)⟩, rfl, rfl, ⟨⟨_, rfl, (.refl _)⟩, rfl, rfl, trivial⟩⟩⟩⟩⟩⟩⟩
    · have h := cond_neg c93 h
      refine RegV.noS rfl rfl ?_
      refine RegV.noS rfl rfl ?_
      refine RegV.p0 rfl rfl rfl ?_
      refine RegV.p0 rfl rfl rfl ?_
      refine RegV.nil0 ?_
      exact ⟨false, h, ⟨rfl, [], [], rfl, rfl, ⟨⟨_, rfl, (.refl _)⟩, rfl, ⟨⟨_, rfl, (.refl _)⟩, rfl, ⟨⟨_, rfl, (.refl _)⟩, rfl, ⟨⟨_, rfl, (.refl _)⟩, rfl, ⟨⟨_, rfl, (.refl _)⟩, rfl, trivial⟩⟩⟩⟩⟩, ⟨⟨_, rfl, (.refl _)⟩, rfl, rfl, ⟨⟨_, rfl, (.refl _)⟩, rfl, rfl, ⟨⟨_, rfl, (.refl _)⟩, rfl, rfl, ⟨⟨_, rfl, (.refl _)⟩, rfl, rfl, ⟨⟨_, rfl, (.refl _)⟩, rfl, rfl, trivial⟩⟩⟩⟩⟩⟩⟩
  · intro j98_1 h
    unfold b72_61_j98 at h
    refine AWc.cond rfl (fun c98 => ?_) (fun c98 => ?_)
    · have h := cond_pos c98 h
      refine AWc.rg hmix rfl rfl ?_
      refine RegV.ld (v := (.row 2 3 a1)) (H' := [(1, (.cells [(.row 2 3 a1)])), (3, (.cells [(.d (.str a2.fKey)), (.ap 4 1 (List.map byteD r85)), (.d (.bool a2.fGone))])), (0, (.lp 67 [(5, (.ptr 1 0))] [28] asg0 bd0 .busy none)), (2, (rowO TPair.enc a0)), (4, (.tok ((List.map byteD r85).length * 1)))]) rfl rfl trivial rfl rfl rfl rfl rfl ?_
      refine RegV.p0 rfl rfl rfl ?_
      refine RegV.p0 rfl rfl rfl ?_
      refine RegV.p0 (v := (.d (.int .i64 (IntKind.i64.wrap (r74.1 + (1 : Int)))))) rfl rfl rfl ?_
      obtain ⟨r105, e105, h⟩ := bind_some h
      refine RegV.callS (q := false) (H' := [(5, (rowO TPair.enc r105)), (1, (.cells [(.row 2 3 a1)])), (3, (.cells [(.d (.str a2.fKey)), (.ap 4 1 (List.map byteD r85)), (.d (.bool a2.fGone))])), (0, (.lp 67 [(5, (.ptr 1 0))] [28] asg0 bd0 .busy none)), (4, (.tok ((List.map byteD r85).length * 1)))]) (c' := 6) (show ACalls P (N 102) [(.row 2 3 a1), (.d (.int .i64 r74.1)), (.d (.int .i64 (IntKind.i64.wrap (r74.1 + (1 : Int)))))] [(2, (rowO TPair.enc a0))] (.row 5 3 r105.length) [(5, (rowO TPair.enc r105))] from ACalls.use (F102 hmix hc.2.2.2.1 e105) [(0, 2), (1, 5)] 2 rfl) rfl rfl rfl rfl (.cons (.refl _) (.cons (.refl _) (.cons (.refl _) .nil))) (.refl _) (fun h => by cases h) rfl (hasCons rfl hasNil) rfl rfl rfl rfl ?_
      refine RegV.evN (own := false) (H' := [(1, (.cells [(.row 5 3 r105.length)])), (5, (rowO TPair.enc r105)), (3, (.cells [(.d (.str a2.fKey)), (.ap 4 1 (List.map byteD r85)), (.d (.bool a2.fGone))])), (0, (.lp 67 [(5, (.ptr 1 0))] [28] asg0 bd0 .busy none)), (4, (.tok ((List.map byteD r85).length * 1)))]) (c' := 6) rfl rfl (by exact ⟨rfl, Nat.le_of_ble_eq_true rfl, rfl⟩) rfl rfl rfl rfl ?_
      refine RegV.nil0 ?_
      have hr := Option.some.inj h
      subst hr
      exact (canQ (N := 67) (k := 4) (l' := []) (H' := [(0, (.lp 67 [(5, (.ptr 1 0))] [28] asg0 bd0 .busy none)), (1, (.cells [(.row 3 3 r105.length)])), (3, (rowO TPair.enc r105))]) rfl ⟨rfl, [], [(3, 5)], rfl, rfl,  trivial, ⟨⟨_, rfl, (.refl _)⟩, rfl, rfl, ⟨⟨_, rfl, (.refl _)⟩, rfl, rfl, ⟨⟨_, rfl, (.refl _)⟩, rfl, rfl, trivial⟩⟩⟩⟩ (roundD rfl rfl rfl rfl (hasCons rfl (hasCons rfl (hasCons rfl hasNil)))))
    · have h := cond_neg c98 h
      refine AWc.seq ?_
      refine AWc.rg hmix rfl rfl ?_
      refine RegV.p0 rfl rfl rfl ?_
      refine RegV.p0 rfl rfl rfl ?_
      refine RegV.nil0 ?_
      refine AWc.cond rfl (fun c112 => ?_) (fun c112 => ?_)
      · have h := cond_pos c112 h
        refine AWc.rg hmix rfl rfl ?_
        refine RegV.ld (v := (.row 2 3 a1)) (H' := [(1, (.cells [(.row 2 3 a1)])), (3, (.cells [(.d (.str a2.fKey)), (.ap 4 1 (List.map byteD r85)), (.d (.bool a2.fGone))])), (0, (.lp 67 [(5, (.ptr 1 0))] [28] asg0 bd0 .busy none)), (2, (rowO TPair.enc a0)), (4, (.tok ((List.map byteD r85).length * 1)))]) rfl rfl trivial rfl rfl rfl rfl rfl ?_
        refine RegV.p0 rfl rfl rfl ?_
        refine RegV.ld (v := (.d (.agg [(.str a2.fKey), (.sl (List.map byteD r85)), (.bool a2.fGone)]))) (H' := [(3, (.cells [(.d (.str a2.fKey)), (.ap 4 1 (List.map byteD r85)), (.d (.bool a2.fGone))])), (1, (.cells [(.row 2 3 a1)])), (0, (.lp 67 [(5, (.ptr 1 0))] [28] asg0 bd0 .busy none)), (2, (rowO TPair.enc a0)), (4, (.tok ((List.map byteD r85).length * 1)))]) rfl rfl (Nat.le_of_ble_eq_true rfl) rfl rfl rfl rfl rfl ?_
        obtain ⟨b118, h⟩ := gd_some h
        refine RegV.iaR (z := 3) rfl rfl (fun _ => rfl) b118 rfl ?_
        obtain ⟨b119, h⟩ := gd_some h
        refine RegV.stR (e := TPair.enc) (xs := a0) (i := (r74.1).toNat) (v := (TPair.mk a2.fKey r85 a2.fGone)) (H' := [(2, (rowO TPair.enc (List.set a0 (r74.1).toNat (TPair.mk a2.fKey r85 a2.fGone)))), (3, (.cells [(.d (.str a2.fKey)), (.ap 4 1 (List.map byteD r85)), (.d (.bool a2.fGone))])), (1, (.cells [(.row 2 3 a1)])), (0, (.lp 67 [(5, (.ptr 1 0))] [28] asg0 bd0 .busy none)), (4, (.tok ((List.map byteD r85).length * 1)))]) rfl rfl rfl rfl rfl TPair.ok rfl b119 rfl rfl rfl ?_
        refine RegV.nil0 ?_
        have hr := Option.some.inj h
        subst hr
        exact (canQ (N := 67) (k := 4) (l' := []) (H' := [(0, (.lp 67 [(5, (.ptr 1 0))] [28] asg0 bd0 .busy none)), (1, (.cells [(.row 3 3 a1)])), (3, (rowO TPair.enc (List.set a0 (r74.1).toNat (TPair.mk a2.fKey r85 a2.fGone))))]) rfl ⟨rfl, [], [(3, 2)], rfl, rfl,  trivial, ⟨⟨_, rfl, (.refl _)⟩, rfl, rfl, ⟨⟨_, rfl, (.refl _)⟩, rfl, rfl, ⟨⟨_, rfl, (.refl _)⟩, rfl, rfl, trivial⟩⟩⟩⟩ (roundD rfl rfl rfl rfl (hasCons rfl (hasCons rfl (hasCons rfl hasNil)))))
      · have h := cond_neg c112 h
        refine AWc.seq ?_
        refine AWc.rg hmix rfl rfl ?_
        refine RegV.p0 (v := (.ptr 3 2)) rfl rfl rfl ?_
        refine RegV.ld (v := (.d (.bool a2.fGone))) (H' := [(3, (.cells [(.d (.str a2.fKey)), (.ap 4 1 (List.map byteD r85)), (.d (.bool a2.fGone))])), (1, (.cells [(.row 2 3 a1)])), (0, (.lp 67 [(5, (.ptr 1 0))] [28] asg0 bd0 .busy none)), (2, (rowO TPair.enc a0)), (4, (.tok ((List.map byteD r85).length * 1)))]) rfl rfl trivial rfl rfl rfl rfl rfl ?_
        refine RegV.p0 (v := (.d (.bool (!a2.fGone)))) rfl rfl rfl ?_
        refine RegV.p0 rfl rfl rfl ?_
        refine RegV.nil0 ?_
        refine AWc.cond rfl (fun c127 => ?_) (fun c127 => ?_)
        · have h := cond_pos c127 h
          refine AWc.rg hmix rfl rfl ?_
          refine RegV.ld (v := (.row 2 3 a1)) (H' := [(1, (.cells [(.row 2 3 a1)])), (3, (.cells [(.d (.str a2.fKey)), (.ap 4 1 (List.map byteD r85)), (.d (.bool a2.fGone))])), (0, (.lp 67 [(5, (.ptr 1 0))] [28] asg0 bd0 .busy none)), (2, (rowO TPair.enc a0)), (4, (.tok ((List.map byteD r85).length * 1)))]) rfl rfl trivial rfl rfl rfl rfl rfl ?_
          refine RegV.p0 rfl rfl rfl ?_
          refine RegV.ld (v := (.d (.agg [(.str a2.fKey), (.sl (List.map byteD r85)), (.bool a2.fGone)]))) (H' := [(3, (.cells [(.d (.str a2.fKey)), (.ap 4 1 (List.map byteD r85)), (.d (.bool a2.fGone))])), (1, (.cells [(.row 2 3 a1)])), (0, (.lp 67 [(5, (.ptr 1 0))] [28] asg0 bd0 .busy none)), (2, (rowO TPair.enc a0)), (4, (.tok ((List.map byteD r85).length * 1)))]) rfl rfl (Nat.le_of_ble_eq_true rfl) rfl rfl rfl rfl rfl ?_
          refine RegV.p1 (v := (.d (.sl (List.map TPair.enc ([(TPair.mk a2.fKey r85 a2.fGone)] : List TPair))))) rfl rfl (by exact ⟨rfl, Nat.le_of_ble_eq_true rfl, mapLen (e := TPair.enc) (xs := ([(TPair.mk a2.fKey r85 a2.fGone)] : List TPair)) (z := 3) (fun _ => rfl)⟩) rfl rfl ?_
          obtain ⟨r134, e134, h⟩ := bind_some h
          refine RegV.callS (q := false) (H' := [(5, (rowO TPair.enc r134)), (3, (.cells [(.d (.str a2.fKey)), (.ap 4 1 (List.map byteD r85)), (.d (.bool a2.fGone))])), (1, (.cells [(.row 2 3 a1)])), (0, (.lp 67 [(5, (.ptr 1 0))] [28] asg0 bd0 .busy none)), (4, (.tok ((List.map byteD r85).length * 1)))]) (c' := 6) (show ACalls P (N 103) [(.row 2 3 a1), (.d (.int .i64 r74.1)), (.d (.sl (List.map TPair.enc ([(TPair.mk a2.fKey r85 a2.fGone)] : List TPair))))] [(2, (rowO TPair.enc a0))] (.row 5 3 r134.length) [(5, (rowO TPair.enc r134))] from ACalls.use (F103 hmix hc.2.2.2.2 e134) [(0, 2), (1, 5)] 2 rfl) rfl rfl rfl rfl (.cons (.refl _) (.cons (.refl _) (.cons (.refl _) .nil))) (.refl _) (fun h => by cases h) rfl (hasCons rfl hasNil) rfl rfl rfl rfl ?_
          refine RegV.evN (own := false) (H' := [(1, (.cells [(.row 5 3 r134.length)])), (5, (rowO TPair.enc r134)), (3, (.cells [(.d (.str a2.fKey)), (.ap 4 1 (List.map byteD r85)), (.d (.bool a2.fGone))])), (0, (.lp 67 [(5, (.ptr 1 0))] [28] asg0 bd0 .busy none)), (4, (.tok ((List.map byteD r85).length * 1)))]) (c' := 6) rfl rfl (by exact ⟨rfl, Nat.le_of_ble_eq_true rfl, rfl⟩) rfl rfl rfl rfl ?_
          refine RegV.nil0 ?_
          have hr := Option.some.inj h
          subst hr
          exact (canQ (N := 67) (k := 4) (l' := []) (H' := [(0, (.lp 67 [(5, (.ptr 1 0))] [28] asg0 bd0 .busy none)), (1, (.cells [(.row 3 3 r134.length)])), (3, (rowO TPair.enc r134))]) rfl ⟨rfl, [], [(3, 5)], rfl, rfl,  trivial, ⟨⟨_, rfl, (.refl _)⟩, rfl, rfl, ⟨⟨_, rfl, (.refl _)⟩, rfl, rfl, ⟨⟨_, rfl, (.refl _)⟩, rfl, rfl, trivial⟩⟩⟩⟩ (roundD rfl rfl rfl rfl (hasCons rfl (hasCons rfl (hasCons rfl hasNil)))))
        · have h := cond_neg c127 h
          refine AWc.skip ?_
          have hr := Option.some.inj h
          subst hr
          exact (canQ (N := 67) (k := 4) (l' := []) (H' := [(0, (.lp 67 [(5, (.ptr 1 0))] [28] asg0 bd0 .busy none)), (1, (.cells [(.row 3 3 a1)])), (3, (rowO TPair.enc a0))]) rfl ⟨rfl, [], [(3, 2)], rfl, rfl,  trivial, ⟨⟨_, rfl, (.refl _)⟩, rfl, rfl, ⟨⟨_, rfl, (.refl _)⟩, rfl, rfl, ⟨⟨_, rfl, (.refl _)⟩, rfl, rfl, trivial⟩⟩⟩⟩ (roundD rfl rfl rfl rfl (hasCons rfl (hasCons rfl (hasCons rfl hasNil)))))
/-- slices.Values[[]courant/api.Pair,courant/api.Pair]$1 -/
def C113 (N : Nat → Nat) : AFunc := { n := 16, params := 2, res := [], body :=
 (.seq (.region false [⟨(some 5), .load (.t 1) 1 false, none, []⟩,
   ⟨(some 6), .len (.t 5), none, [0]⟩,
   ⟨(some 7), .mv (.k (.d (.int .i64 0))), none, []⟩])
  (.block 0 (.loop (.seq (.region false [⟨(some 8), .bin .lss (.t 7) (.t 6), none, []⟩])
     (.seq (.cond (.t 8) (.skip)
       (.exit 0))
      (.seq (.block 1 (.seq (.region false [⟨(some 9), .iaddr (.t 5) (.t 7) 3, none, []⟩,
          ⟨(some 10), .load (.t 9) 3 true, none, [0]⟩,
          ⟨(some 4), .alloc [(.str []), (.sl []), (.bool false)], none, []⟩,
          ⟨none, .store (.t 4) (.t 10) 3, none, [2, 1, 0]⟩])
         (.seq (.region false [⟨(some 11), .mv (.t 0), none, []⟩,
           ⟨(some 12), .load (.t 4) 3 true, none, []⟩,
           ⟨(some 13), .call (.t 11) [(.t 12)], none, [0, 1]⟩,
           ⟨(some 14), .un .not (.t 13), none, [2]⟩])
          (.cond (.t 14) .ret
           (.skip)))))
       (.region false [⟨(some 15), .bin .add (.t 7) (.k (.d (.int .i64 1))), none, []⟩,
        ⟨(some 7), .mv (.t 15), none, [0]⟩]))))))) }
def HC113 (P : Program) (N : Nat → Nat) : Prop := HasF P (N 113) (C113 N) ∧ HCb72_61 P N
def f113_l7 (a2 : (List TPair)) : Nat → Int → Nat → (List TPair) → Option (LR2 (Nat × (List TPair)) Unit (Nat × (List TPair)))
  | 0, _, _, _ => none
  | k + 1, y7_1, y7_2, y7_3 => cond (decide (y7_1 < ((a2.length : Nat) : Int))) (gd (0 ≤ y7_1 ∧ y7_1 < ((a2.length : Nat) : Int)) ((b72_61 k y7_3 y7_2 (TPair.mk ((rd a2 y7_1).fKey) ((rd a2 y7_1).fValue) ((rd a2 y7_1).fGone))).bind fun r31 => f113_l7 a2 k (IntKind.i64.wrap (y7_1 + (1 : Int))) r31.1 r31.2)) (some (.b0 (y7_2, y7_3)))
def f113 (k : Nat) (a0 : (List TPair)) (a1 : Nat) (a2 : (List TPair)) : Option (Nat × (List TPair)) := (f113_l7 a2 k (0 : Int) a1 a0).bind fun o7 => (match o7 with | .b0 (x7_1, x7_2) => some (x7_1, x7_2) | _ => none)
theorem F113 {P : Program} {N : Nat → Nat} (hmix : P.follows .mixedOrders = true) (hc : HC113 P N) {asg0 bd0 : Code} (ha0 : compCode P asg0 = L72_0a N) (hb0 : compCode P bd0 = L72_0b N) {k : Nat} {a0 : (List TPair)} {a1 : Nat} {a2 : (List TPair)} {r : (Nat × (List TPair))} (h : f113 k a0 a1 a2 = some r) :
    ACalls P (N 113) [(.lf 0), (.ptr 3 0)] [(0, (.lp 67 [(5, (.ptr 1 0))] [28] asg0 bd0 .ready none)), (1, (.cells [(.row 2 3 a1)])), (2, (rowO TPair.enc a0)), (3, (.cells [(.d (.sl (List.map TPair.enc a2)))]))] (.tup []) [(0, (.lp 67 [(5, (.ptr 1 0))] [28] asg0 bd0 .ready none)), (1, (.cells [(.row 4 3 r.1)])), (3, (.cells [(.d (.sl (List.map TPair.enc a2)))])), (4, (rowO TPair.enc r.2))] := by
  refine acalls_canon (F := C113 N) hc.1 4 5 rfl ?_
  unfold f113 at h
  dsimp only [C113, startL]
  refine AWc.seq ?_
  refine AWc.rg hmix rfl rfl ?_
  refine RegV.ld (v := (.d (.sl (List.map TPair.enc a2)))) (H' := [(3, (.cells [(.d (.sl (List.map TPair.enc a2)))])), (0, (.lp 67 [(5, (.ptr 1 0))] [28] asg0 bd0 .ready none)), (1, (.cells [(.row 2 3 a1)])), (2, (rowO TPair.enc a0))]) rfl rfl trivial rfl rfl rfl rfl rfl ?_
  refine RegV.len (xs := a2) (e := TPair.enc) rfl rfl rfl rfl ?_
  refine RegV.p0 rfl rfl rfl ?_
  refine RegV.nil0 ?_
  obtain ⟨o7, h7, h⟩ := bind_some h
  refine AWc.block ?_
  refine AWc.loopK (N := 16) 5 (fun (x : (Int × Nat × (List TPair))) => [(0, (.lf 0)), (5, (.d (.sl (List.map TPair.enc a2)))), (6, (.d (.int .i64 ((a2.length : Nat) : Int)))), (7, (.d (.int .i64 x.1)))]) (fun x => [(0, (.lp 67 [(5, (.ptr 1 0))] [28] asg0 bd0 .ready none)), (1, (.cells [(.row 4 3 x.2.1)])), (3, (.cells [(.d (.sl (List.map TPair.enc a2)))])), (4, (rowO TPair.enc x.2.2))]) (fun k x => f113_l7 a2 k x.1 x.2.1 x.2.2 = some o7) k ((0 : Int), a1, a0) rfl_le (fun x hx => by cases hx) h7 ⟨rfl, [], [(4, 2)], rfl, rfl, ⟨⟨_, rfl, (.refl _)⟩, rfl, ⟨⟨_, rfl, (.refl _)⟩, rfl, ⟨⟨_, rfl, (.refl _)⟩, rfl, ⟨⟨_, rfl, (.refl _)⟩, rfl, trivial⟩⟩⟩⟩, ⟨⟨_, rfl, (.refl _)⟩, rfl, rfl, ⟨⟨_, rfl, (.refl _)⟩, rfl, rfl, ⟨⟨_, rfl, (.refl _)⟩, rfl, rfl, ⟨⟨_, rfl, (.refl _)⟩, rfl, rfl, trivial⟩⟩⟩⟩⟩ ?_
  clear h7
  intro k
  rintro ⟨y7_1, y7_2, y7_3⟩ h7
  dsimp only at h7 ⊢
  rw [f113_l7] at h7
  refine AWc.seq ?_
  refine AWc.rg hmix rfl rfl ?_
  refine RegV.p0 (v := (.d (.bool (decide (y7_1 < ((a2.length : Nat) : Int)))))) rfl rfl rfl ?_
  refine RegV.nil0 ?_
  refine AWc.seq ?_
  refine AWc.cond rfl (fun c14 => ?_) (fun c14 => ?_)
  · have h7 := cond_pos c14 h7
    refine AWc.skip ?_
    refine AWc.seq ?_
    refine AWc.block ?_
    refine AWc.seq ?_
    refine AWc.rg hmix rfl rfl ?_
    obtain ⟨b22, h7⟩ := gd_some h7
    refine RegV.iad (xs := a2) (e := TPair.enc) rfl rfl rfl rfl (fun _ => rfl) b22 rfl ?_
    refine RegV.p1 (v := (.d (TPair.enc (rd a2 y7_1)))) rfl rfl rfl rfl rfl ?_
    refine RegV.evS (own := false) (v := (.ptr 5 0)) (H' := [(5, (.cells [(.d (.str ([] : List UInt8))), .nils, (.d (.bool false))])), (0, (.lp 67 [(5, (.ptr 1 0))] [28] asg0 bd0 .ready none)), (1, (.cells [(.row 4 3 y7_2)])), (3, (.cells [(.d (.sl (List.map TPair.enc a2)))])), (4, (rowO TPair.enc y7_3))]) (c' := 6) rfl rfl trivial rfl rfl rfl rfl rfl rfl ?_
    refine RegV.evN (own := false) (H' := [(5, (.cells [(.d (.str (rd a2 y7_1).fKey)), (.d (.sl (List.map byteD (rd a2 y7_1).fValue))), (.d (.bool (rd a2 y7_1).fGone))])), (0, (.lp 67 [(5, (.ptr 1 0))] [28] asg0 bd0 .ready none)), (1, (.cells [(.row 4 3 y7_2)])), (3, (.cells [(.d (.sl (List.map TPair.enc a2)))])), (4, (rowO TPair.enc y7_3))]) (c' := 6) rfl rfl (by exact ⟨rfl, Nat.le_of_ble_eq_true rfl, rfl⟩) rfl rfl rfl rfl ?_
    refine RegV.nil0 ?_
    refine AWc.seq ?_
    refine AWc.rg hmix rfl rfl ?_
    refine RegV.p0 rfl rfl rfl ?_
    refine RegV.ld (v := (.d (.agg [(.str (rd a2 y7_1).fKey), (.sl (List.map byteD (rd a2 y7_1).fValue)), (.bool (rd a2 y7_1).fGone)]))) (H' := [(5, (.cells [(.d (.str (rd a2 y7_1).fKey)), (.d (.sl (List.map byteD (rd a2 y7_1).fValue))), (.d (.bool (rd a2 y7_1).fGone))])), (0, (.lp 67 [(5, (.ptr 1 0))] [28] asg0 bd0 .ready none)), (1, (.cells [(.row 4 3 y7_2)])), (3, (.cells [(.d (.sl (List.map TPair.enc a2)))])), (4, (rowO TPair.enc y7_3))]) rfl rfl (Nat.le_of_ble_eq_true rfl) rfl rfl rfl rfl rfl ?_
    obtain ⟨r31, e31, h7⟩ := bind_some h7
    refine RegV.yield (H' := [(0, (.lp 67 [(5, (.ptr 1 0))] [28] asg0 bd0 .ready none)), (1, (.cells [(.row 6 3 r31.1)])), (6, (rowO TPair.enc r31.2)), (5, (.cells [(.d (.str (rd a2 y7_1).fKey)), (.d (.sl (List.map byteD (rd a2 y7_1).fValue))), (.d (.bool (rd a2 y7_1).fGone))])), (3, (.cells [(.d (.sl (List.map TPair.enc a2)))]))]) (c' := 7) (show ARound P 0 [(.d (TPair.enc (TPair.mk ((rd a2 y7_1).fKey) ((rd a2 y7_1).fValue) ((rd a2 y7_1).fGone))))] [(0, (.lp 67 [(5, (.ptr 1 0))] [28] asg0 bd0 .ready none)), (1, (.cells [(.row 4 3 y7_2)])), (4, (rowO TPair.enc y7_3))] (.d (.bool true)) [(0, (.lp 67 [(5, (.ptr 1 0))] [28] asg0 bd0 .ready none)), (1, (.cells [(.row 6 3 r31.1)])), (6, (rowO TPair.enc r31.2))] from ARound.use (B72_61 hmix hc.2 ha0 hb0 e31) [(0, 0), (1, 1), (2, 4), (3, 6)] 4 rfl) rfl rfl rfl (.cons (.refl _) .nil) rfl (hasCons rfl (hasCons rfl (hasCons rfl hasNil))) rfl rfl rfl rfl ?_
    refine RegV.p0 (v := (.d (.bool false))) rfl rfl rfl ?_
    refine RegV.nil0 ?_
    refine AWc.cond rfl (fun hc => by cases hc) (fun _ => ?_)
    refine AWc.skip ?_
    refine AWc.rg hmix rfl rfl ?_
    refine RegV.p0 (v := (.d (.int .i64 (IntKind.i64.wrap (y7_1 + (1 : Int)))))) rfl rfl rfl ?_
    refine RegV.p0 rfl rfl rfl ?_
    refine RegV.nil0 ?_
    exact ⟨((IntKind.i64.wrap (y7_1 + (1 : Int))), r31.1, r31.2), h7, ⟨rfl, [], [(4, 6)], rfl, rfl, ⟨⟨_, rfl, (.refl _)⟩, rfl, ⟨⟨_, rfl, (.refl _)⟩, rfl, ⟨⟨_, rfl, (.refl _)⟩, rfl, ⟨⟨_, rfl, (.refl _)⟩, rfl, trivial⟩⟩⟩⟩, ⟨⟨_, rfl, (.refl _)⟩, rfl, rfl, ⟨⟨_, rfl, (.refl _)⟩, rfl, rfl, ⟨⟨_, rfl, (.refl _)⟩, rfl, rfl, ⟨⟨_, rfl, (.refl _)⟩, rfl, rfl, trivial⟩⟩⟩⟩⟩⟩
  · have h7 := cond_neg c14 h7
    cases h7
    dsimp only at h
    refine AWc.exit ?_
    refine inBlk_eq ?_
    have hr := Option.some.inj h
    subst hr
    exact canQ (N := 16) (k := 5) (l' := []) (H' := [(0, (.lp 67 [(5, (.ptr 1 0))] [28] asg0 bd0 .ready none)), (1, (.cells [(.row 4 3 y7_2)])), (3, (.cells [(.d (.sl (List.map TPair.enc a2)))])), (4, (rowO TPair.enc y7_3))]) rfl ⟨rfl, [], [], rfl, rfl,  trivial, ⟨⟨_, rfl, (.refl _)⟩, rfl, rfl, ⟨⟨_, rfl, (.refl _)⟩, rfl, rfl, ⟨⟨_, rfl, (.refl _)⟩, rfl, rfl, ⟨⟨_, rfl, (.refl _)⟩, rfl, rfl, trivial⟩⟩⟩⟩⟩ (doneA (.inl rfl) rfl trivial (.refl _) (hasCons rfl (hasCons rfl (hasCons rfl (hasCons rfl hasNil)))))
def HC72 (P : Program) (N : Nat → Nat) : Prop := HasF P (N 72) (C72 N) ∧ HC87 P N ∧ HC100 P N ∧ HC113 P N
def f72_j54 (k : Nat) (a1 : (List TPair)) (j54_1 : Nat) (j54_2 : (List TPair)) : Option (List TPair) := (f100 k a1).bind fun r59 => (f113 k j54_2 j54_1 a1).bind fun rf61 => gd (rf61.1 ≤ rf61.2.length) (some (List.take rf61.1 rf61.2))
def f72_l16 (a0 : (List TPair)) : Nat → Int → Nat → (List TPair) → Option (LR2 (Nat × (List TPair)) Unit (List TPair))
  | 0, _, _, _ => none
  | k + 1, y16_1, y16_2, y16_3 => cond (decide (y16_1 < ((a0.length : Nat) : Int))) (gd (0 ≤ y16_1 ∧ y16_1 < ((a0.length : Nat) : Int)) ((f87 k ((rd a0 y16_1).fValue)).bind fun r40 => gd (y16_2 ≤ y16_3.length ∧ (y16_2 + ([(TPair.mk ((rd a0 y16_1).fKey) r40 ((rd a0 y16_1).fGone))] : List TPair).length) * 2 * 48 ≤ 281474976710656) (f72_l16 a0 k (IntKind.i64.wrap (y16_1 + (1 : Int))) (y16_2 + ([(TPair.mk ((rd a0 y16_1).fKey) r40 ((rd a0 y16_1).fGone))] : List TPair).length) (List.take y16_2 y16_3 ++ ([(TPair.mk ((rd a0 y16_1).fKey) r40 ((rd a0 y16_1).fGone))] : List TPair))))) (some (.b0 (y16_2, y16_3)))
def f72 (k : Nat) (a0 : (List TPair)) (a1 : (List TPair)) : Option (List TPair) := (f72_l16 a0 k (0 : Int) (0) ([] : List TPair)).bind fun o16 => (match o16 with | .b0 (x16_1, x16_2) => f72_j54 k a1 x16_1 x16_2 | _ => none)
theorem F72 {P : Program} {N : Nat → Nat} (hmix : P.follows .mixedOrders = true) (hc : HC72 P N) {k : Nat} {a0 : (List TPair)} {a1 : (List TPair)} {r : (List TPair)} (h : f72 k a0 a1 = some r) :
    ACalls P (N 72) [(.d (.sl (List.map TPair.enc a0))), (.d (.sl (List.map TPair.enc a1)))] [] (.d (.sl (List.map TPair.enc r))) [] := by
  refine acalls_canon (F := C72 N) hc.1 0 0 rfl ?_
  unfold f72 at h
  dsimp only [C72, startL]
  refine AWc.seq ?_
  refine AWc.rg hmix rfl rfl ?_
  refine RegV.p0 rfl rfl rfl ?_
  refine RegV.nil0 ?_
  refine AWc.seq ?_
  refine AWc.rg hmix rfl rfl ?_
  refine RegV.evS (own := false) (v := (.ptr 0 0)) (H' := [(0, (.cells [.nils]))]) (c' := 1) rfl rfl trivial rfl rfl rfl rfl rfl rfl ?_
  refine RegV.nil0 ?_
  refine AWc.seqS (N := 67) 2 (fun (z : (Nat × (List TPair))) => [(1, (.d (.sl (List.map TPair.enc a1)))), (5, (.ptr 0 0))]) (fun z => [(0, (.cells [(.row 1 3 z.1)])), (1, (rowO TPair.enc z.2))]) (fun z => f72_j54 k a1 z.1 z.2 = some r) rfl_le ?_ ?_
  · refine AWc.seq ?_
    refine AWc.rg hmix rfl rfl ?_
    refine RegV.p0 rfl rfl rfl ?_
    refine RegV.len (xs := a0) (e := TPair.enc) rfl rfl rfl rfl ?_
    refine RegV.p0 rfl rfl rfl ?_
    refine RegV.nil0 ?_
    obtain ⟨o16, h16, h⟩ := bind_some h
    refine AWc.block ?_
    refine AWc.loopK (N := 67) 2 (fun (x : (Int × Nat × (List TPair))) => [(1, (.d (.sl (List.map TPair.enc a1)))), (5, (.ptr 0 0)), (11, (.d (.sl (List.map TPair.enc a0)))), (12, (.d (.int .i64 ((a0.length : Nat) : Int)))), (13, (.d (.int .i64 x.1)))]) (fun x => [(0, (.cells [(.row 1 3 x.2.1)])), (1, (rowO TPair.enc x.2.2))]) (fun k x => f72_l16 a0 k x.1 x.2.1 x.2.2 = some o16) k ((0 : Int), 0, ([] : List TPair)) rfl_le (fun x hx => by cases hx) h16 ⟨rfl, [.rowP []], [(1, 1)], rfl, rfl, ⟨⟨_, rfl, (.refl _)⟩, rfl, ⟨⟨_, rfl, (.refl _)⟩, rfl, ⟨⟨_, rfl, (.refl _)⟩, rfl, ⟨⟨_, rfl, (.refl _)⟩, rfl, ⟨⟨_, rfl, (.refl _)⟩, rfl, trivial⟩⟩⟩⟩⟩, ⟨⟨_, rfl, (.cells (.cons .nilRow .nil))⟩, rfl, rfl, ⟨⟨_, rfl, (.refl _)⟩, rfl, rfl, trivial⟩⟩⟩ ?_
    clear h16
    intro k
    rintro ⟨y16_1, y16_2, y16_3⟩ h16
    dsimp only at h16 ⊢
    rw [f72_l16] at h16
    refine AWc.seq ?_
    refine AWc.rg hmix rfl rfl ?_
    refine RegV.p0 (v := (.d (.bool (decide (y16_1 < ((a0.length : Nat) : Int)))))) rfl rfl rfl ?_
    refine RegV.nil0 ?_
    refine AWc.seq ?_
    refine AWc.cond rfl (fun c23 => ?_) (fun c23 => ?_)
    · have h16 := cond_pos c23 h16
      refine AWc.skip ?_
      refine AWc.seq ?_
      refine AWc.block ?_
      refine AWc.seq ?_
      refine AWc.rg hmix rfl rfl ?_
      obtain ⟨b31, h16⟩ := gd_some h16
      refine RegV.iad (xs := a0) (e := TPair.enc) rfl rfl rfl rfl (fun _ => rfl) b31 rfl ?_
      refine RegV.p1 (v := (.d (TPair.enc (rd a0 y16_1)))) rfl rfl rfl rfl rfl ?_
      refine RegV.evS (own := false) (v := (.ptr 2 0)) (H' := [(2, (.cells [(.d (.str ([] : List UInt8))), .nils, (.d (.bool false))])), (0, (.cells [(.row 1 3 y16_2)])), (1, (rowO TPair.enc y16_3))]) (c' := 3) rfl rfl trivial rfl rfl rfl rfl rfl rfl ?_
      refine RegV.evN (own := false) (H' := [(2, (.cells [(.d (.str (rd a0 y16_1).fKey)), (.d (.sl (List.map byteD (rd a0 y16_1).fValue))), (.d (.bool (rd a0 y16_1).fGone))])), (0, (.cells [(.row 1 3 y16_2)])), (1, (rowO TPair.enc y16_3))]) (c' := 3) rfl rfl (by exact ⟨rfl, Nat.le_of_ble_eq_true rfl, rfl⟩) rfl rfl rfl rfl ?_
      refine RegV.nil0 ?_
      refine AWc.seq ?_
      refine AWc.rg hmix rfl rfl ?_
      refine RegV.p0 (v := (.ptr 2 1)) rfl rfl rfl ?_
      refine RegV.ld (v := (.d (.sl (List.map byteD (rd a0 y16_1).fValue)))) (H' := [(2, (.cells [(.d (.str (rd a0 y16_1).fKey)), (.d (.sl (List.map byteD (rd a0 y16_1).fValue))), (.d (.bool (rd a0 y16_1).fGone))])), (0, (.cells [(.row 1 3 y16_2)])), (1, (rowO TPair.enc y16_3))]) rfl rfl trivial rfl rfl rfl rfl rfl ?_
      obtain ⟨r40, e40, h16⟩ := bind_some h16
      refine RegV.callS (q := false) (H' := [(3, (.tok ((List.map byteD r40).length * 1))), (2, (.cells [(.d (.str (rd a0 y16_1).fKey)), (.d (.sl (List.map byteD (rd a0 y16_1).fValue))), (.d (.bool (rd a0 y16_1).fGone))])), (0, (.cells [(.row 1 3 y16_2)])), (1, (rowO TPair.enc y16_3))]) (c' := 4) (show ACalls P (N 87) [(.d (.sl (List.map byteD ((rd a0 y16_1).fValue))))] [] (.ap 3 1 (List.map byteD r40)) [(3, (.tok ((List.map byteD r40).length * 1)))] from ACalls.use (F87 hmix hc.2.1 e40) [(0, 3)] 1 rfl) rfl rfl rfl rfl (.cons (.refl _) .nil) (.refl _) (fun h => by cases h) rfl hasNil rfl rfl rfl rfl ?_
      refine RegV.p0 (v := (.ptr 2 1)) rfl rfl rfl ?_
      refine RegV.evN (own := false) (H' := [(2, (.cells [(.d (.str (rd a0 y16_1).fKey)), (.ap 3 1 (List.map byteD r40)), (.d (.bool (rd a0 y16_1).fGone))])), (3, (.tok ((List.map byteD r40).length * 1))), (0, (.cells [(.row 1 3 y16_2)])), (1, (rowO TPair.enc y16_3))]) (c' := 4) rfl rfl (by exact ⟨rfl, Nat.le_of_ble_eq_true rfl, rfl⟩) rfl rfl rfl rfl ?_
      refine RegV.nil0 ?_
      refine AWc.rg hmix rfl rfl ?_
      refine RegV.ld (v := (.row 1 3 y16_2)) (H' := [(0, (.cells [(.row 1 3 y16_2)])), (2, (.cells [(.d (.str (rd a0 y16_1).fKey)), (.ap 3 1 (List.map byteD r40)), (.d (.bool (rd a0 y16_1).fGone))])), (3, (.tok ((List.map byteD r40).length * 1))), (1, (rowO TPair.enc y16_3))]) rfl rfl trivial rfl rfl rfl rfl rfl ?_
      refine RegV.ld (v := (.d (.agg [(.str (rd a0 y16_1).fKey), (.sl (List.map byteD r40)), (.bool (rd a0 y16_1).fGone)]))) (H' := [(2, (.cells [(.d (.str (rd a0 y16_1).fKey)), (.ap 3 1 (List.map byteD r40)), (.d (.bool (rd a0 y16_1).fGone))])), (0, (.cells [(.row 1 3 y16_2)])), (3, (.tok ((List.map byteD r40).length * 1))), (1, (rowO TPair.enc y16_3))]) rfl rfl (Nat.le_of_ble_eq_true rfl) rfl rfl rfl rfl rfl ?_
      refine RegV.p1 (v := (.d (.sl (List.map TPair.enc ([(TPair.mk ((rd a0 y16_1).fKey) r40 ((rd a0 y16_1).fGone))] : List TPair))))) rfl rfl (by exact ⟨rfl, Nat.le_of_ble_eq_true rfl, mapLen (e := TPair.enc) (xs := ([(TPair.mk ((rd a0 y16_1).fKey) r40 ((rd a0 y16_1).fGone))] : List TPair)) (z := 3) (fun _ => rfl)⟩) rfl rfl ?_
      obtain ⟨b48, h16⟩ := gd_some h16
      refine RegV.appW (xs := y16_3) (ys := ([(TPair.mk ((rd a0 y16_1).fKey) r40 ((rd a0 y16_1).fGone))] : List TPair)) (zs := (List.take y16_2 y16_3 ++ ([(TPair.mk ((rd a0 y16_1).fKey) r40 ((rd a0 y16_1).fGone))] : List TPair))) (e := TPair.enc) (H' := [(4, (rowO TPair.enc (List.take y16_2 y16_3 ++ ([(TPair.mk ((rd a0 y16_1).fKey) r40 ((rd a0 y16_1).fGone))] : List TPair)))), (2, (.cells [(.d (.str (rd a0 y16_1).fKey)), (.ap 3 1 (List.map byteD r40)), (.d (.bool (rd a0 y16_1).fGone))])), (0, (.cells [(.row 1 3 y16_2)])), (3, (.tok ((List.map byteD r40).length * 1)))]) rfl rfl rfl TPair.ok rfl rfl rfl b48 rfl rfl rfl rfl rfl rfl ?_
      refine RegV.evN (own := false) (H' := [(0, (.cells [(.row 4 3 (y16_2 + ([(TPair.mk ((rd a0 y16_1).fKey) r40 ((rd a0 y16_1).fGone))] : List TPair).length))])), (4, (rowO TPair.enc (List.take y16_2 y16_3 ++ ([(TPair.mk ((rd a0 y16_1).fKey) r40 ((rd a0 y16_1).fGone))] : List TPair)))), (2, (.cells [(.d (.str (rd a0 y16_1).fKey)), (.ap 3 1 (List.map byteD r40)), (.d (.bool (rd a0 y16_1).fGone))])), (3, (.tok ((List.map byteD r40).length * 1)))]) (c' := 5) rfl rfl (by exact ⟨rfl, Nat.le_of_ble_eq_true rfl, rfl⟩) rfl rfl rfl rfl ?_
      refine RegV.nil0 ?_
      refine AWc.rg hmix rfl rfl ?_
      refine RegV.p0 (v := (.d (.int .i64 (IntKind.i64.wrap (y16_1 + (1 : Int)))))) rfl rfl rfl ?_
      refine RegV.p0 rfl rfl rfl ?_
      refine RegV.nil0 ?_
      exact ⟨((IntKind.i64.wrap (y16_1 + (1 : Int))), (y16_2 + ([(TPair.mk ((rd a0 y16_1).fKey) r40 ((rd a0 y16_1).fGone))] : List TPair).length), (List.take y16_2 y16_3 ++ ([(TPair.mk ((rd a0 y16_1).fKey) r40 ((rd a0 y16_1).fGone))] : List TPair))), h16, ⟨rfl, [], [(1, 4)], rfl, rfl, ⟨⟨_, rfl, (.refl _)⟩, rfl, ⟨⟨_, rfl, (.refl _)⟩, rfl, ⟨⟨_, rfl, (.refl _)⟩, rfl, ⟨⟨_, rfl, (.refl _)⟩, rfl, ⟨⟨_, rfl, (.refl _)⟩, rfl, trivial⟩⟩⟩⟩⟩, ⟨⟨_, rfl, (.refl _)⟩, rfl, rfl, ⟨⟨_, rfl, (.refl _)⟩, rfl, rfl, trivial⟩⟩⟩⟩
    · have h16 := cond_neg c23 h16
      cases h16
      dsimp only at h
      refine AWc.exit ?_
      refine inBlk_eq ?_
      exact ⟨(y16_2, y16_3), h, ⟨rfl, [], [], rfl, rfl, ⟨⟨_, rfl, (.refl _)⟩, rfl, ⟨⟨_, rfl, (.refl _)⟩, rfl, trivial⟩⟩, ⟨⟨_, rfl, (.refl _)⟩, rfl, rfl, ⟨⟨_, rfl, (.refl _)⟩, rfl, rfl, trivial⟩⟩⟩⟩
  · rintro ⟨j54_1, j54_2⟩ h
    dsimp only at h ⊢
    unfold f72_j54 at h
    refine AWc.seq ?_
    refine AWc.seq ?_
    refine AWc.rg hmix rfl rfl ?_
    refine RegV.p0 rfl rfl rfl ?_
    obtain ⟨r59, e59, h⟩ := bind_some h
    refine RegV.callS (q := false) (H' := [(2, (.cells [(.d (.sl (List.map TPair.enc a1)))])), (0, (.cells [(.row 1 3 j54_1)])), (1, (rowO TPair.enc j54_2))]) (c' := 3) (show ACalls P (N 100) [(.d (.sl (List.map TPair.enc a1)))] [] (.fn (N 113) [(.ptr 2 0)]) [(2, (.cells [(.d (.sl (List.map TPair.enc a1)))]))] from ACalls.use (F100 hmix hc.2.2.1 e59) [(0, 2)] 1 rfl) rfl rfl rfl rfl (.cons (.refl _) .nil) (.refl _) (fun h => by cases h) rfl hasNil rfl rfl rfl rfl ?_
    refine RegV.nil0 ?_
    refine AWc.block ?_
    refine AWc.rangeFunc [(5, (.ptr 0 0))] rfl rfl rfl rfl ⟨rfl, trivial⟩ (fun asgU61 bdU61 haU61 hbU61 => ?_)
    obtain ⟨rf61, ef61, h⟩ := bind_some h
    refine rfN (H' := [(0, (.cells [(.row 4 3 rf61.1)])), (2, (.cells [(.d (.sl (List.map TPair.enc a1)))])), (4, (rowO TPair.enc rf61.2))]) (c' := 5) (show ACalls P (N 113) [(.lf 3), (.ptr 2 0)] [(3, (.lp 67 [(5, (.ptr 0 0))] [28] asgU61 bdU61 .ready none)), (0, (.cells [(.row 1 3 j54_1)])), (1, (rowO TPair.enc j54_2)), (2, (.cells [(.d (.sl (List.map TPair.enc a1)))]))] (.tup []) [(3, (.lp 67 [(5, (.ptr 0 0))] [28] asgU61 bdU61 .ready none)), (0, (.cells [(.row 4 3 rf61.1)])), (2, (.cells [(.d (.sl (List.map TPair.enc a1)))])), (4, (rowO TPair.enc rf61.2))] from ACalls.use (F113 hmix hc.2.2.2 haU61 hbU61 ef61) [(0, 3), (1, 0), (2, 1), (3, 2), (4, 4)] 5 rfl) (.cons (.refl _) (.cons (.refl _) .nil)) (hasCons rfl (hasCons rfl (hasCons rfl (hasCons rfl hasNil)))) rfl rfl rfl rfl rfl ?_
    refine AWc.seq ?_
    refine AWc.rg hmix rfl rfl ?_
    refine RegV.ld (v := (.row 4 3 rf61.1)) (H' := [(0, (.cells [(.row 4 3 rf61.1)])), (2, (.cells [(.d (.sl (List.map TPair.enc a1)))])), (4, (rowO TPair.enc rf61.2))]) rfl rfl trivial rfl rfl rfl rfl rfl ?_
    refine RegV.p0 rfl rfl rfl ?_
    refine RegV.nil0 ?_
    obtain ⟨bs4, h⟩ := gd_some h
    refine AWc.sealB (l0 := 4) (xs := rf61.2) (l' := [(4, (.d (.sl (List.map TPair.enc (List.take rf61.1 rf61.2)))))]) (H' := [(0, (.cells [(.row 4 3 rf61.1)])), (2, (.cells [(.d (.sl (List.map TPair.enc a1)))])), (4, (.tok (rf61.2.length * 3)))]) TPair.ok rfl (.inr rfl) ⟨⟨_, rfl, (.row bs4)⟩, trivial⟩ rfl ?_
    have hr := Option.some.inj h
    subst hr
    exact AWc.ret (canQ (N := 67) (k := 0) (l' := [(4, (.d (.sl (List.map TPair.enc (List.take rf61.1 rf61.2)))))]) (H' := []) rfl ⟨rfl, [], [], rfl, rfl, ⟨⟨_, rfl, (.refl _)⟩, rfl, trivial⟩,  trivial⟩ (doneA (.inr rfl) rfl ⟨trivial, trivial⟩ (.refl _) hasNil))
/-- courant/courantlaw22.awake -/
def C69 (N : Nat → Nat) : AFunc := { n := 17, params := 0, res := [.tmp 0], body :=
 (.seq (.region false [⟨(some 0), .mv (.k (.d (.bool false))), none, []⟩])
  (.seq (.region false [⟨(some 2), .build [(.str []), (.sl []), (.bool false)] [(0, 1, (.k (.d (.str [98]))))], none, []⟩,
    ⟨(some 3), .bslice 1 1 [(.int .u8 0)] [(0, (.k (.d (.int .u8 1))))], none, []⟩,
    ⟨(some 4), .build [(.str []), (.sl []), (.bool false)] [(0, 1, (.k (.d (.str [97])))), (1, 1, (.t 3))], none, [1]⟩,
    ⟨(some 5), .bslice 2 3 [(.str []), (.sl []), (.bool false)] [(0, (.t 2)), (1, (.t 4))], none, [0, 2]⟩,
    ⟨(some 6), .call (.k (.d (.fn (N 72)))) [(.k .nils), (.t 5)], none, [3]⟩,
    ⟨(some 1), .mv (.t 6), none, [4, 0, 1, 2, 3]⟩])
   (.seq (.region false [⟨(some 7), .mv (.t 1), none, []⟩,
     ⟨(some 8), .len (.t 7), none, [0]⟩,
     ⟨(some 9), .bin .eql (.t 8) (.k (.d (.int .i64 2))), none, [1]⟩,
     ⟨(some 10), .mv (.t 9), none, [2]⟩,
     ⟨(some 11), .mv (.t 1), (some (10, true)), [3]⟩,
     ⟨(some 12), .iaddr (.t 11) (.k (.d (.int .i64 0))) 3, (some (10, true)), [4, 3]⟩,
     ⟨(some 13), .faddr (.t 12) 0, (some (10, true)), [5, 3]⟩,
     ⟨(some 14), .load (.t 13) 1 false, (some (10, true)), [6, 3]⟩,
     ⟨(some 15), .bin .eql (.t 14) (.k (.d (.str [97]))), (some (10, true)), [7, 3]⟩,
     ⟨(some 16), .pick (.t 10) (.t 15) (.k (.d (.bool false))), none, [3, 8]⟩,
     ⟨(some 0), .mv (.t 16), none, [9, 3, 0, 1, 2, 4, 5, 6, 7, 8]⟩])
    .ret))) }
def HC69 (P : Program) (N : Nat → Nat) : Prop := HasF P (N 69) (C69 N) ∧ HC72 P N
def f69 (k : Nat) : Option Bool := (f72 k ([] : List TPair) ([(TPair.mk ([98] : List UInt8) ([] : List UInt8) false), (TPair.mk ([97] : List UInt8) ([(1 : UInt8)] : List UInt8) false)] : List TPair)).bind fun r12 => cond (decide (((r12.length : Nat) : Int) = (2 : Int))) (gd (0 ≤ (0 : Int) ∧ (0 : Int) < ((r12.length : Nat) : Int)) (some (decide ((rd r12 (0 : Int)).fKey = ([97] : List UInt8))))) (some false)
theorem F69 {P : Program} {N : Nat → Nat} (hmix : P.follows .mixedOrders = true) (hc : HC69 P N) {k : Nat} {r : Bool} (h : f69 k = some r) :
    ACalls P (N 69) [] [] (.d (.bool r)) [] := by
  refine acalls_canon (F := C69 N) hc.1 0 0 rfl ?_
  unfold f69 at h
  dsimp only [C69, startL]
  refine AWc.seq ?_
  refine AWc.rg hmix rfl rfl ?_
  refine RegV.p0 rfl rfl rfl ?_
  refine RegV.nil0 ?_
  refine AWc.seq ?_
  refine AWc.rg hmix rfl rfl ?_
  refine RegV.p1 (v := (.d (.agg [(.str ([98] : List UInt8)), (.sl (List.map byteD ([] : List UInt8))), (.bool false)]))) rfl rfl (by exact ⟨⟨rfl, Nat.le_of_ble_eq_true rfl⟩, trivial⟩) rfl rfl ?_
  refine RegV.p1 (v := (.d (.sl (List.map byteD ([(1 : UInt8)] : List UInt8))))) rfl rfl (by exact ⟨rfl, Nat.le_of_ble_eq_true rfl, mapLen (e := byteD) (xs := ([(1 : UInt8)] : List UInt8)) (z := 1) (fun _ => rfl)⟩) rfl rfl ?_
  refine RegV.p1 (v := (.d (.agg [(.str ([97] : List UInt8)), (.sl (List.map byteD ([(1 : UInt8)] : List UInt8))), (.bool false)]))) rfl rfl (by exact ⟨⟨rfl, Nat.le_of_ble_eq_true rfl⟩, ⟨⟨rfl, Nat.le_of_ble_eq_true rfl⟩, trivial⟩⟩) rfl rfl ?_
  refine RegV.p1 (v := (.d (.sl (List.map TPair.enc ([(TPair.mk ([98] : List UInt8) ([] : List UInt8) false), (TPair.mk ([97] : List UInt8) ([(1 : UInt8)] : List UInt8) false)] : List TPair))))) rfl rfl (by exact ⟨rfl, Nat.le_of_ble_eq_true rfl, mapLen (e := TPair.enc) (xs := ([(TPair.mk ([98] : List UInt8) ([] : List UInt8) false), (TPair.mk ([97] : List UInt8) ([(1 : UInt8)] : List UInt8) false)] : List TPair)) (z := 3) (fun _ => rfl)⟩) rfl rfl ?_
  obtain ⟨r12, e12, h⟩ := bind_some h
  refine RegV.call0 (F72 hmix hc.2 e12) rfl rfl rfl rfl (.cons (.sl rfl) (.cons (.refl _) .nil)) rfl ?_
  refine RegV.p0 rfl rfl rfl ?_
  refine RegV.nil0 ?_
  refine AWc.seq ?_
  refine AWc.rg hmix rfl rfl ?_
  refine RegV.p0 rfl rfl rfl ?_
  refine RegV.len (xs := r12) (e := TPair.enc) rfl rfl rfl rfl ?_
  refine RegV.p0 (v := (.d (.bool (decide (((r12.length : Nat) : Int) = (2 : Int)))))) rfl rfl rfl ?_
  refine RegV.p0 rfl rfl rfl ?_
  refine RegV.split (fun c20 => ?_) (fun c20 => ?_)
  · have h := cond_pos c20 h
    refine RegV.p0 rfl rfl rfl ?_
    obtain ⟨b22, h⟩ := gd_some h
    refine RegV.iad (xs := r12) (e := TPair.enc) rfl rfl rfl rfl (fun _ => rfl) b22 rfl ?_
    refine RegV.p0 (v := (.cp (TPair.enc (rd r12 (0 : Int))) 0)) rfl rfl rfl ?_
    refine RegV.p0 (v := (.d (.str (rd r12 (0 : Int)).fKey))) rfl rfl rfl ?_
    refine RegV.p0 (v := (.d (.bool (decide ((rd r12 (0 : Int)).fKey = ([97] : List UInt8)))))) rfl rfl rfl ?_
    refine RegV.p0 rfl rfl rfl ?_
    refine RegV.p0 rfl rfl rfl ?_
    refine RegV.nil0 ?_
    have hr := Option.some.inj h
    subst hr
    exact AWc.ret (canQ (N := 17) (k := 0) (l' := [(0, (.d (.bool (decide ((rd r12 (0 : Int)).fKey = ([97] : List UInt8))))))]) (H' := []) rfl ⟨rfl, [], [], rfl, rfl, ⟨⟨_, rfl, (.refl _)⟩, rfl, trivial⟩,  trivial⟩ (doneA (.inr rfl) rfl ⟨trivial, trivial⟩ (.refl _) hasNil))
  · have h := cond_neg c20 h
    refine RegV.noS rfl rfl ?_
    refine RegV.noS rfl rfl ?_
    refine RegV.noS rfl rfl ?_
    refine RegV.noS rfl rfl ?_
    refine RegV.noS rfl rfl ?_
    refine RegV.p0 rfl rfl rfl ?_
    refine RegV.p0 rfl rfl rfl ?_
    refine RegV.nil0 ?_
    have hr := Option.some.inj h
    subst hr
    exact AWc.ret (canQ (N := 17) (k := 0) (l' := [(0, (.d (.bool false)))]) (H' := []) rfl ⟨rfl, [], [], rfl, rfl, ⟨⟨_, rfl, (.refl _)⟩, rfl, trivial⟩,  trivial⟩ (doneA (.inr rfl) rfl ⟨trivial, trivial⟩ (.refl _) hasNil))
/-- courant/couranthelp.In[string] -/
def C77 (N : Nat → Nat) : AFunc := { n := 18, params := 2, res := [.tmp 4], body :=
 (.seq (.region false [⟨(some 4), .mv (.k (.d (.bool false))), none, []⟩])
  (.seq (.seq (.region false [⟨(some 5), .mv (.k (.d (.int .i64 0))), none, []⟩])
    (.block 0 (.loop (.seq (.seq (.region false [⟨(some 6), .mv (.t 5), none, []⟩,
         ⟨(some 7), .mv (.t 0), none, []⟩,
         ⟨(some 8), .len (.t 7), none, [1]⟩,
         ⟨(some 9), .bin .lss (.t 6) (.t 8), none, [0, 2]⟩])
        (.cond (.t 9) (.skip)
         (.exit 0)))
       (.seq (.block 1 (.seq (.region false [⟨(some 12), .mv (.t 0), none, []⟩,
           ⟨(some 13), .mv (.t 5), none, []⟩,
           ⟨(some 14), .iaddr (.t 12) (.t 13) 1, none, [0, 1]⟩,
           ⟨(some 15), .load (.t 14) 1 false, none, [2]⟩,
           ⟨(some 16), .mv (.t 1), none, []⟩,
           ⟨(some 17), .bin .eql (.t 15) (.t 16), none, [3, 4]⟩])
          (.cond (.t 17) (.seq (.region false [⟨(some 4), .mv (.k (.d (.bool true))), none, []⟩])
            .ret)
           (.skip))))
        (.region false [⟨(some 10), .mv (.t 5), none, []⟩,
         ⟨(some 11), .bin .add (.t 10) (.k (.d (.int .i64 1))), none, [0]⟩,
         ⟨(some 5), .mv (.t 11), none, [1, 0]⟩]))))))
   (.seq (.region false [⟨(some 4), .mv (.k (.d (.bool false))), none, []⟩])
    .ret))) }
def HC77 (P : Program) (N : Nat → Nat) : Prop := HasF P (N 77) (C77 N)
def f77_l10 (a0 : (List (List UInt8))) (a1 : (List UInt8)) : Nat → Int → Option (LR2 Unit Unit Bool)
  | 0, _ => none
  | k + 1, y10_1 => cond (decide (y10_1 < ((a0.length : Nat) : Int))) (gd (0 ≤ y10_1 ∧ y10_1 < ((a0.length : Nat) : Int)) (cond (decide ((rd a0 y10_1) = a1)) (some (.r true)) (f77_l10 a0 a1 k (IntKind.i64.wrap (y10_1 + (1 : Int)))))) (some (.b0 ()))
def f77 (k : Nat) (a0 : (List (List UInt8))) (a1 : (List UInt8)) : Option Bool := (f77_l10 a0 a1 k (0 : Int)).bind fun o10 => (match o10 with | .b0 () => some false | .r x => some x | _ => none)
theorem F77 {P : Program} {N : Nat → Nat} (hmix : P.follows .mixedOrders = true) (hc : HC77 P N) {k : Nat} {a0 : (List (List UInt8))} {a1 : (List UInt8)} {r : Bool} (h : f77 k a0 a1 = some r) :
    ACalls P (N 77) [(.d (.sl (List.map D.str a0))), (.d (.str a1))] [] (.d (.bool r)) [] := by
  refine acalls_canon (F := C77 N) hc 0 0 rfl ?_
  unfold f77 at h
  dsimp only [C77, startL]
  refine AWc.seq ?_
  refine AWc.rg hmix rfl rfl ?_
  refine RegV.p0 rfl rfl rfl ?_
  refine RegV.nil0 ?_
  refine AWc.seq ?_
  refine AWc.seq ?_
  refine AWc.rg hmix rfl rfl ?_
  refine RegV.p0 rfl rfl rfl ?_
  refine RegV.nil0 ?_
  obtain ⟨o10, h10, h⟩ := bind_some h
  refine AWc.block ?_
  refine AWc.loopK (N := 18) 0 (fun (x : Int) => [(0, (.d (.sl (List.map D.str a0)))), (1, (.d (.str a1))), (5, (.d (.int .i64 x)))]) (fun x => []) (fun k x => f77_l10 a0 a1 k x = some o10) k (0 : Int) rfl_le (fun x hx => by cases hx) h10 ⟨rfl, [], [], rfl, rfl, ⟨⟨_, rfl, (.refl _)⟩, rfl, ⟨⟨_, rfl, (.refl _)⟩, rfl, ⟨⟨_, rfl, (.refl _)⟩, rfl, trivial⟩⟩⟩,  trivial⟩ ?_
  clear h10
  intro k
  intro y10_1 h10
  rw [f77_l10] at h10
  refine AWc.seq ?_
  refine AWc.seq ?_
  refine AWc.rg hmix rfl rfl ?_
  refine RegV.p0 rfl rfl rfl ?_
  refine RegV.p0 rfl rfl rfl ?_
  refine RegV.len (xs := a0) (e := D.str) rfl rfl rfl rfl ?_
  refine RegV.p0 (v := (.d (.bool (decide (y10_1 < ((a0.length : Nat) : Int)))))) rfl rfl rfl ?_
  refine RegV.nil0 ?_
  refine AWc.cond rfl (fun c20 => ?_) (fun c20 => ?_)
  · have h10 := cond_pos c20 h10
    refine AWc.skip ?_
    refine AWc.seq ?_
    refine AWc.block ?_
    refine AWc.seq ?_
    refine AWc.rg hmix rfl rfl ?_
    refine RegV.p0 rfl rfl rfl ?_
    refine RegV.p0 rfl rfl rfl ?_
    obtain ⟨b30, h10⟩ := gd_some h10
    refine RegV.iad (xs := a0) (e := D.str) rfl rfl rfl rfl (fun _ => rfl) b30 rfl ?_
    refine RegV.p0 (v := (.d (.str (rd a0 y10_1)))) rfl rfl rfl ?_
    refine RegV.p0 rfl rfl rfl ?_
    refine RegV.p0 (v := (.d (.bool (decide ((rd a0 y10_1) = a1))))) rfl rfl rfl ?_
    refine RegV.nil0 ?_
    refine AWc.cond rfl (fun c34 => ?_) (fun c34 => ?_)
    · have h10 := cond_pos c34 h10
      refine AWc.seq ?_
      refine AWc.rg hmix rfl rfl ?_
      refine RegV.p0 rfl rfl rfl ?_
      refine RegV.nil0 ?_
      cases h10
      dsimp only at h
      have hr := Option.some.inj h
      subst hr
      exact AWc.ret (canQ (N := 18) (k := 0) (l' := [(4, (.d (.bool true)))]) (H' := []) rfl ⟨rfl, [], [], rfl, rfl, ⟨⟨_, rfl, (.refl _)⟩, rfl, trivial⟩,  trivial⟩ (doneA (.inr rfl) rfl ⟨trivial, trivial⟩ (.refl _) hasNil))
    · have h10 := cond_neg c34 h10
      refine AWc.skip ?_
      refine AWc.rg hmix rfl rfl ?_
      refine RegV.p0 rfl rfl rfl ?_
      refine RegV.p0 (v := (.d (.int .i64 (IntKind.i64.wrap (y10_1 + (1 : Int)))))) rfl rfl rfl ?_
      refine RegV.p0 rfl rfl rfl ?_
      refine RegV.nil0 ?_
      exact ⟨(IntKind.i64.wrap (y10_1 + (1 : Int))), h10, ⟨rfl, [], [], rfl, rfl, ⟨⟨_, rfl, (.refl _)⟩, rfl, ⟨⟨_, rfl, (.refl _)⟩, rfl, ⟨⟨_, rfl, (.refl _)⟩, rfl, trivial⟩⟩⟩,  trivial⟩⟩
  · have h10 := cond_neg c20 h10
    cases h10
    dsimp only at h
    refine AWc.exit ?_
    refine inBlk_eq ?_
    refine AWc.seq ?_
    refine AWc.rg hmix rfl rfl ?_
    refine RegV.p0 rfl rfl rfl ?_
    refine RegV.nil0 ?_
    have hr := Option.some.inj h
    subst hr
    exact AWc.ret (canQ (N := 18) (k := 0) (l' := [(4, (.d (.bool false)))]) (H' := []) rfl ⟨rfl, [], [], rfl, rfl, ⟨⟨_, rfl, (.refl _)⟩, rfl, trivial⟩,  trivial⟩ (doneA (.inr rfl) rfl ⟨trivial, trivial⟩ (.refl _) hasNil))
/-- courant/couranthelp.Bytes -/
def C22 (N : Nat → Nat) : AFunc := { n := 10, params := 2, res := [.tmp 4], body :=
 (.seq (.region false [⟨(some 4), .mv (.k (.d (.bool false))), none, []⟩])
  (.seq (.region false [⟨(some 5), .mv (.t 0), none, []⟩,
    ⟨(some 6), .bs2s (.t 5), none, [0]⟩,
    ⟨(some 7), .mv (.t 1), none, []⟩,
    ⟨(some 8), .bs2s (.t 7), none, [2]⟩,
    ⟨(some 9), .bin .eql (.t 6) (.t 8), none, [1, 3]⟩,
    ⟨(some 4), .mv (.t 9), none, [4, 0, 1, 2, 3]⟩])
   .ret)) }
def HC22 (P : Program) (N : Nat → Nat) : Prop := HasF P (N 22) (C22 N)
def f22 (k : Nat) (a0 : (List UInt8)) (a1 : (List UInt8)) : Option Unit := some ()
theorem F22 {P : Program} {N : Nat → Nat} (hmix : P.follows .mixedOrders = true) (hc : HC22 P N) {k : Nat} {a0 : (List UInt8)} {a1 : (List UInt8)} {r : Unit} (h : f22 k a0 a1 = some r) :
    ACalls P (N 22) [(.d (.sl (List.map byteD a0))), (.d (.sl (List.map byteD a1)))] [] (.d (.bool (decide (a0 = a1)))) [] := by
  refine acalls_canon (F := C22 N) hc 0 0 rfl ?_
  unfold f22 at h
  dsimp only [C22, startL]
  refine AWc.seq ?_
  refine AWc.rg hmix rfl rfl ?_
  refine RegV.p0 rfl rfl rfl ?_
  refine RegV.nil0 ?_
  refine AWc.seq ?_
  refine AWc.rg hmix rfl rfl ?_
  refine RegV.p0 rfl rfl rfl ?_
  refine RegV.bs2s (b := a0) rfl rfl rfl ?_
  refine RegV.p0 rfl rfl rfl ?_
  refine RegV.bs2s (b := a1) rfl rfl rfl ?_
  refine RegV.p0 (v := (.d (.bool (decide (a0 = a1))))) rfl rfl rfl ?_
  refine RegV.p0 rfl rfl rfl ?_
  refine RegV.nil0 ?_
  have hr := Option.some.inj h
  subst hr
  exact AWc.ret (canQ (N := 10) (k := 0) (l' := [(4, (.d (.bool (decide (a0 = a1)))))]) (H' := []) rfl ⟨rfl, [], [], rfl, rfl, ⟨⟨_, rfl, (.refl _)⟩, rfl, trivial⟩,  trivial⟩ (doneA (.inr rfl) rfl ⟨trivial, trivial⟩ (.refl _) hasNil))
/-- courant/couranthelp.Pair -/
def C106 (N : Nat → Nat) : AFunc := { n := 24, params := 2, res := [.tmp 4], body :=
 (.seq (.region false [⟨(some 2), .box (.t 0), none, []⟩,
   ⟨(some 3), .box (.t 1), none, []⟩,
   ⟨(some 4), .mv (.k (.d (.bool false))), none, []⟩])
  (.seq (.region false [⟨(some 5), .faddr (.t 2) 0, none, []⟩,
    ⟨(some 6), .load (.t 5) 1 false, none, [0]⟩,
    ⟨(some 7), .faddr (.t 3) 0, none, []⟩,
    ⟨(some 8), .load (.t 7) 1 false, none, [2]⟩,
    ⟨(some 9), .bin .eql (.t 6) (.t 8), none, [1, 3]⟩,
    ⟨(some 10), .mv (.t 9), none, [4]⟩,
    ⟨(some 11), .faddr (.t 2) 1, (some (10, true)), [5]⟩,
    ⟨(some 12), .load (.t 11) 1 false, (some (10, true)), [6, 5]⟩,
    ⟨(some 13), .faddr (.t 3) 1, (some (10, true)), [5]⟩,
    ⟨(some 14), .load (.t 13) 1 false, (some (10, true)), [8, 5]⟩,
    ⟨(some 15), .call (.k (.d (.fn (N 22)))) [(.t 12), (.t 14)], (some (10, true)), [7, 9, 5]⟩,
    ⟨(some 16), .pick (.t 10) (.t 15) (.k (.d (.bool false))), none, [5, 10]⟩,
    ⟨(some 17), .mv (.t 16), none, [11, 10]⟩,
    ⟨(some 18), .faddr (.t 2) 2, (some (17, true)), [12]⟩,
    ⟨(some 19), .load (.t 18) 1 false, (some (17, true)), [13, 12]⟩,
    ⟨(some 20), .faddr (.t 3) 2, (some (17, true)), [12]⟩,
    ⟨(some 21), .load (.t 20) 1 false, (some (17, true)), [15, 12]⟩,
    ⟨(some 22), .beq false (.t 19) (.t 21), (some (17, true)), [14, 16, 12]⟩,
    ⟨(some 23), .pick (.t 17) (.t 22) (.k (.d (.bool false))), none, [12, 17]⟩,
    ⟨(some 4), .mv (.t 23), none, [18, 12, 0, 1, 2, 3, 4, 5, 6, 7, 8, 9, 10, 11, 13, 14, 15, 16, 17]⟩])
   .ret)) }
def HC106 (P : Program) (N : Nat → Nat) : Prop := HasF P (N 106) (C106 N) ∧ HC22 P N
def f106 (k : Nat) (a0 : TPair) (a1 : TPair) : Option Bool := cond (decide (a0.fKey = a1.fKey)) ((f22 k a0.fValue a1.fValue).bind fun r20 => cond (decide (a0.fValue = a1.fValue)) (some (a0.fGone == a1.fGone)) (some false)) (some false)
theorem F106 {P : Program} {N : Nat → Nat} (hmix : P.follows .mixedOrders = true) (hc : HC106 P N) {k : Nat} {a0 : TPair} {a1 : TPair} {r : Bool} (h : f106 k a0 a1 = some r) :
    ACalls P (N 106) [(.d (TPair.enc a0)), (.d (TPair.enc a1))] [] (.d (.bool r)) [] := by
  refine acalls_canon (F := C106 N) hc.1 0 0 rfl ?_
  unfold f106 at h
  dsimp only [C106, startL]
  refine AWc.seq ?_
  refine AWc.rg hmix rfl rfl ?_
  refine RegV.evS (own := false) (v := (.ptr 0 0)) (H' := [(0, (.cells [(.d (.str a0.fKey)), (.d (.sl (List.map byteD a0.fValue))), (.d (.bool a0.fGone))]))]) (c' := 1) rfl rfl trivial rfl rfl rfl rfl rfl rfl ?_
  refine RegV.evS (own := false) (v := (.ptr 1 0)) (H' := [(1, (.cells [(.d (.str a1.fKey)), (.d (.sl (List.map byteD a1.fValue))), (.d (.bool a1.fGone))])), (0, (.cells [(.d (.str a0.fKey)), (.d (.sl (List.map byteD a0.fValue))), (.d (.bool a0.fGone))]))]) (c' := 2) rfl rfl trivial rfl rfl rfl rfl rfl rfl ?_
  refine RegV.p0 rfl rfl rfl ?_
  refine RegV.nil0 ?_
  refine AWc.seq ?_
  refine AWc.rg hmix rfl rfl ?_
  refine RegV.p0 (v := (.ptr 0 0)) rfl rfl rfl ?_
  refine RegV.ld (v := (.d (.str a0.fKey))) (H' := [(0, (.cells [(.d (.str a0.fKey)), (.d (.sl (List.map byteD a0.fValue))), (.d (.bool a0.fGone))])), (1, (.cells [(.d (.str a1.fKey)), (.d (.sl (List.map byteD a1.fValue))), (.d (.bool a1.fGone))]))]) rfl rfl trivial rfl rfl rfl rfl rfl ?_
  refine RegV.p0 (v := (.ptr 1 0)) rfl rfl rfl ?_
  refine RegV.ld (v := (.d (.str a1.fKey))) (H' := [(1, (.cells [(.d (.str a1.fKey)), (.d (.sl (List.map byteD a1.fValue))), (.d (.bool a1.fGone))])), (0, (.cells [(.d (.str a0.fKey)), (.d (.sl (List.map byteD a0.fValue))), (.d (.bool a0.fGone))]))]) rfl rfl trivial rfl rfl rfl rfl rfl ?_
  refine RegV.p0 (v := (.d (.bool (decide (a0.fKey = a1.fKey))))) rfl rfl rfl ?_
  refine RegV.p0 rfl rfl rfl ?_
  refine RegV.split (fun c15 => ?_) (fun c15 => ?_)
  · have h := cond_pos c15 h
    refine RegV.p0 (v := (.ptr 0 1)) rfl rfl rfl ?_
    refine RegV.ld (v := (.d (.sl (List.map byteD a0.fValue)))) (H' := [(0, (.cells [(.d (.str a0.fKey)), (.d (.sl (List.map byteD a0.fValue))), (.d (.bool a0.fGone))])), (1, (.cells [(.d (.str a1.fKey)), (.d (.sl (List.map byteD a1.fValue))), (.d (.bool a1.fGone))]))]) rfl rfl trivial rfl rfl rfl rfl rfl ?_
    refine RegV.p0 (v := (.ptr 1 1)) rfl rfl rfl ?_
    refine RegV.ld (v := (.d (.sl (List.map byteD a1.fValue)))) (H' := [(1, (.cells [(.d (.str a1.fKey)), (.d (.sl (List.map byteD a1.fValue))), (.d (.bool a1.fGone))])), (0, (.cells [(.d (.str a0.fKey)), (.d (.sl (List.map byteD a0.fValue))), (.d (.bool a0.fGone))]))]) rfl rfl trivial rfl rfl rfl rfl rfl ?_
    obtain ⟨r20, e20, h⟩ := bind_some h
    refine RegV.call0 (F22 hmix hc.2 e20) rfl rfl rfl rfl (.cons (.refl _) (.cons (.refl _) .nil)) rfl ?_
    refine RegV.p0 rfl rfl rfl ?_
    refine RegV.p0 rfl rfl rfl ?_
    refine RegV.split (fun c22 => ?_) (fun c22 => ?_)
    · have h := cond_pos c22 h
      refine RegV.p0 (v := (.ptr 0 2)) rfl rfl rfl ?_
      refine RegV.ld (v := (.d (.bool a0.fGone))) (H' := [(0, (.cells [(.d (.str a0.fKey)), (.d (.sl (List.map byteD a0.fValue))), (.d (.bool a0.fGone))])), (1, (.cells [(.d (.str a1.fKey)), (.d (.sl (List.map byteD a1.fValue))), (.d (.bool a1.fGone))]))]) rfl rfl trivial rfl rfl rfl rfl rfl ?_
      refine RegV.p0 (v := (.ptr 1 2)) rfl rfl rfl ?_
      refine RegV.ld (v := (.d (.bool a1.fGone))) (H' := [(1, (.cells [(.d (.str a1.fKey)), (.d (.sl (List.map byteD a1.fValue))), (.d (.bool a1.fGone))])), (0, (.cells [(.d (.str a0.fKey)), (.d (.sl (List.map byteD a0.fValue))), (.d (.bool a0.fGone))]))]) rfl rfl trivial rfl rfl rfl rfl rfl ?_
      refine RegV.p0 (v := (.d (.bool (a0.fGone == a1.fGone)))) rfl rfl rfl ?_
      refine RegV.p0 rfl rfl rfl ?_
      refine RegV.p0 rfl rfl rfl ?_
      refine RegV.nil0 ?_
      have hr := Option.some.inj h
      subst hr
      exact AWc.ret (canQ (N := 24) (k := 0) (l' := [(4, (.d (.bool (a0.fGone == a1.fGone))))]) (H' := []) rfl ⟨rfl, [], [], rfl, rfl, ⟨⟨_, rfl, (.refl _)⟩, rfl, trivial⟩,  trivial⟩ (doneA (.inr rfl) rfl ⟨trivial, trivial⟩ (.refl _) hasNil))
    · have h := cond_neg c22 h
      refine RegV.noS rfl rfl ?_
      refine RegV.noS rfl rfl ?_
      refine RegV.noS rfl rfl ?_
      refine RegV.noS rfl rfl ?_
      refine RegV.noS rfl rfl ?_
      refine RegV.p0 rfl rfl rfl ?_
      refine RegV.p0 rfl rfl rfl ?_
      refine RegV.nil0 ?_
      have hr := Option.some.inj h
      subst hr
      exact AWc.ret (canQ (N := 24) (k := 0) (l' := [(4, (.d (.bool false)))]) (H' := []) rfl ⟨rfl, [], [], rfl, rfl, ⟨⟨_, rfl, (.refl _)⟩, rfl, trivial⟩,  trivial⟩ (doneA (.inr rfl) rfl ⟨trivial, trivial⟩ (.refl _) hasNil))
  · have h := cond_neg c15 h
    refine RegV.noS rfl rfl ?_
    refine RegV.noS rfl rfl ?_
    refine RegV.noS rfl rfl ?_
    refine RegV.noS rfl rfl ?_
    refine RegV.noS rfl rfl ?_
    refine RegV.p0 rfl rfl rfl ?_
    refine RegV.p0 rfl rfl rfl ?_
    refine RegV.noS rfl rfl ?_
    refine RegV.noS rfl rfl ?_
    refine RegV.noS rfl rfl ?_
    refine RegV.noS rfl rfl ?_
    refine RegV.noS rfl rfl ?_
    refine RegV.p0 rfl rfl rfl ?_
    refine RegV.p0 rfl rfl rfl ?_
    refine RegV.nil0 ?_
    have hr := Option.some.inj h
    subst hr
    exact AWc.ret (canQ (N := 24) (k := 0) (l' := [(4, (.d (.bool false)))]) (H' := []) rfl ⟨rfl, [], [], rfl, rfl, ⟨⟨_, rfl, (.refl _)⟩, rfl, trivial⟩,  trivial⟩ (doneA (.inr rfl) rfl ⟨trivial, trivial⟩ (.refl _) hasNil))
/-- courant/couranthelp.Same[courant/api.Pair] -/
def C105 (N : Nat → Nat) : AFunc := { n := 30, params := 3, res := [.tmp 6], body :=
 (.seq (.region false [⟨(some 6), .mv (.k (.d (.bool false))), none, []⟩])
  (.seq (.seq (.region false [⟨(some 8), .mv (.t 0), none, []⟩,
     ⟨(some 9), .len (.t 8), none, [0]⟩,
     ⟨(some 10), .mv (.t 1), none, []⟩,
     ⟨(some 11), .len (.t 10), none, [2]⟩,
     ⟨(some 12), .bin .neq (.t 9) (.t 11), none, [1, 3]⟩])
    (.cond (.t 12) (.seq (.region false [⟨(some 6), .mv (.k (.d (.bool false))), none, []⟩])
      .ret)
     (.skip)))
   (.seq (.seq (.region false [⟨(some 7), .mv (.k (.d (.int .i64 0))), none, []⟩])
     (.block 0 (.loop (.seq (.seq (.region false [⟨(some 13), .mv (.t 7), none, []⟩,
          ⟨(some 14), .mv (.t 0), none, []⟩,
          ⟨(some 15), .len (.t 14), none, [1]⟩,
          ⟨(some 16), .bin .lss (.t 13) (.t 15), none, [0, 2]⟩])
         (.cond (.t 16) (.skip)
          (.exit 0)))
        (.seq (.block 1 (.seq (.region true [⟨(some 19), .mv (.t 2), none, []⟩,
            ⟨(some 20), .mv (.t 0), none, []⟩,
            ⟨(some 21), .mv (.t 7), none, []⟩,
            ⟨(some 22), .iaddr (.t 20) (.t 21) 3, none, [1, 2]⟩,
            ⟨(some 23), .load (.t 22) 3 true, none, [3]⟩,
            ⟨(some 24), .mv (.t 1), none, []⟩,
            ⟨(some 25), .mv (.t 7), none, []⟩,
            ⟨(some 26), .iaddr (.t 24) (.t 25) 3, none, [5, 6]⟩,
            ⟨(some 27), .load (.t 26) 3 true, none, [7]⟩,
            ⟨(some 28), .call (.t 19) [(.t 23), (.t 27)], none, [0, 4, 8]⟩,
            ⟨(some 29), .un .not (.t 28), none, [9]⟩])
           (.cond (.t 29) (.seq (.region false [⟨(some 6), .mv (.k (.d (.bool false))), none, []⟩])
             .ret)
            (.skip))))
         (.region false [⟨(some 17), .mv (.t 7), none, []⟩,
          ⟨(some 18), .bin .add (.t 17) (.k (.d (.int .i64 1))), none, [0]⟩,
          ⟨(some 7), .mv (.t 18), none, [1, 0]⟩]))))))
    (.seq (.region false [⟨(some 6), .mv (.k (.d (.bool true))), none, []⟩])
     .ret)))) }
def HC105 (P : Program) (N : Nat → Nat) : Prop := HasF P (N 105) (C105 N) ∧ HC106 P N
def f105_l26 (a0 : (List TPair)) (a1 : (List TPair)) : Nat → Int → Option (LR2 Unit Unit Bool)
  | 0, _ => none
  | k + 1, y26_1 => cond (decide (y26_1 < ((a0.length : Nat) : Int))) (gd (0 ≤ y26_1 ∧ y26_1 < ((a0.length : Nat) : Int)) (gd (0 ≤ y26_1 ∧ y26_1 < ((a1.length : Nat) : Int)) ((f106 k (rd a0 y26_1) (rd a1 y26_1)).bind fun r53 => cond (!r53) (some (.r false)) (f105_l26 a0 a1 k (IntKind.i64.wrap (y26_1 + (1 : Int))))))) (some (.b0 ()))
def f105 (k : Nat) (a0 : (List TPair)) (a1 : (List TPair)) : Option Bool := cond (decide (((a0.length : Nat) : Int) ≠ ((a1.length : Nat) : Int))) (some false) ((f105_l26 a0 a1 k (0 : Int)).bind fun o26 => (match o26 with | .b0 () => some true | .r x => some x | _ => none))
theorem F105 {P : Program} {N : Nat → Nat} (hmix : P.follows .mixedOrders = true) (hc : HC105 P N) {k : Nat} {a0 : (List TPair)} {a1 : (List TPair)} {r : Bool} (h : f105 k a0 a1 = some r) :
    ACalls P (N 105) [(.d (.sl (List.map TPair.enc a0))), (.d (.sl (List.map TPair.enc a1))), (.d (.fn (N 106)))] [] (.d (.bool r)) [] := by
  refine acalls_canon (F := C105 N) hc.1 0 0 rfl ?_
  unfold f105 at h
  dsimp only [C105, startL]
  refine AWc.seq ?_
  refine AWc.rg hmix rfl rfl ?_
  refine RegV.p0 rfl rfl rfl ?_
  refine RegV.nil0 ?_
  refine AWc.seq ?_
  refine AWc.seq ?_
  refine AWc.rg hmix rfl rfl ?_
  refine RegV.p0 rfl rfl rfl ?_
  refine RegV.len (xs := a0) (e := TPair.enc) rfl rfl rfl rfl ?_
  refine RegV.p0 rfl rfl rfl ?_
  refine RegV.len (xs := a1) (e := TPair.enc) rfl rfl rfl rfl ?_
  refine RegV.p0 (v := (.d (.bool (decide (((a0.length : Nat) : Int) ≠ ((a1.length : Nat) : Int)))))) rfl rfl rfl ?_
  refine RegV.nil0 ?_
  refine AWc.cond rfl (fun c14 => ?_) (fun c14 => ?_)
  · have h := cond_pos c14 h
    refine AWc.seq ?_
    refine AWc.rg hmix rfl rfl ?_
    refine RegV.p0 rfl rfl rfl ?_
    refine RegV.nil0 ?_
    have hr := Option.some.inj h
    subst hr
    exact AWc.ret (canQ (N := 30) (k := 0) (l' := [(6, (.d (.bool false)))]) (H' := []) rfl ⟨rfl, [], [], rfl, rfl, ⟨⟨_, rfl, (.refl _)⟩, rfl, trivial⟩,  trivial⟩ (doneA (.inr rfl) rfl ⟨trivial, trivial⟩ (.refl _) hasNil))
  · have h := cond_neg c14 h
    refine AWc.skip ?_
    refine AWc.seq ?_
    refine AWc.seq ?_
    refine AWc.rg hmix rfl rfl ?_
    refine RegV.p0 rfl rfl rfl ?_
    refine RegV.nil0 ?_
    obtain ⟨o26, h26, h⟩ := bind_some h
    refine AWc.block ?_
    refine AWc.loopK (N := 30) 0 (fun (x : Int) => [(0, (.d (.sl (List.map TPair.enc a0)))), (1, (.d (.sl (List.map TPair.enc a1)))), (2, (.d (.fn (N 106)))), (7, (.d (.int .i64 x)))]) (fun x => []) (fun k x => f105_l26 a0 a1 k x = some o26) k (0 : Int) rfl_le (fun x hx => by cases hx) h26 ⟨rfl, [], [], rfl, rfl, ⟨⟨_, rfl, (.refl _)⟩, rfl, ⟨⟨_, rfl, (.refl _)⟩, rfl, ⟨⟨_, rfl, (.refl _)⟩, rfl, ⟨⟨_, rfl, (.refl _)⟩, rfl, trivial⟩⟩⟩⟩,  trivial⟩ ?_
    clear h26
    intro k
    intro y26_1 h26
    rw [f105_l26] at h26
    refine AWc.seq ?_
    refine AWc.seq ?_
    refine AWc.rg hmix rfl rfl ?_
    refine RegV.p0 rfl rfl rfl ?_
    refine RegV.p0 rfl rfl rfl ?_
    refine RegV.len (xs := a0) (e := TPair.enc) rfl rfl rfl rfl ?_
    refine RegV.p0 (v := (.d (.bool (decide (y26_1 < ((a0.length : Nat) : Int)))))) rfl rfl rfl ?_
    refine RegV.nil0 ?_
    refine AWc.cond rfl (fun c36 => ?_) (fun c36 => ?_)
    · have h26 := cond_pos c36 h26
      refine AWc.skip ?_
      refine AWc.seq ?_
      refine AWc.block ?_
      refine AWc.seq ?_
      refine AWc.rg hmix rfl rfl ?_
      refine RegV.p0 rfl rfl rfl ?_
      refine RegV.p0 rfl rfl rfl ?_
      refine RegV.p0 rfl rfl rfl ?_
      obtain ⟨b47, h26⟩ := gd_some h26
      refine RegV.iad (xs := a0) (e := TPair.enc) rfl rfl rfl rfl (fun _ => rfl) b47 rfl ?_
      refine RegV.p1 (v := (.d (TPair.enc (rd a0 y26_1)))) rfl rfl rfl rfl rfl ?_
      refine RegV.p0 rfl rfl rfl ?_
      refine RegV.p0 rfl rfl rfl ?_
      obtain ⟨b51, h26⟩ := gd_some h26
      refine RegV.iad (xs := a1) (e := TPair.enc) rfl rfl rfl rfl (fun _ => rfl) b51 rfl ?_
      refine RegV.p1 (v := (.d (TPair.enc (rd a1 y26_1)))) rfl rfl rfl rfl rfl ?_
      obtain ⟨r53, e53, h26⟩ := bind_some h26
      refine RegV.call0 (F106 hmix hc.2 e53) rfl rfl rfl rfl (.cons (.refl _) (.cons (.refl _) .nil)) rfl ?_
      refine RegV.p0 (v := (.d (.bool (!r53)))) rfl rfl rfl ?_
      refine RegV.nil1 (by kernel_rfl) ?_
      refine AWc.cond rfl (fun c55 => ?_) (fun c55 => ?_)
      · have h26 := cond_pos c55 h26
        refine AWc.seq ?_
        refine AWc.rg hmix rfl rfl ?_
        refine RegV.p0 rfl rfl rfl ?_
        refine RegV.nil0 ?_
        cases h26
        dsimp only at h
        have hr := Option.some.inj h
        subst hr
        exact AWc.ret (canQ (N := 30) (k := 0) (l' := [(6, (.d (.bool false)))]) (H' := []) rfl ⟨rfl, [], [], rfl, rfl, ⟨⟨_, rfl, (.refl _)⟩, rfl, trivial⟩,  trivial⟩ (doneA (.inr rfl) rfl ⟨trivial, trivial⟩ (.refl _) hasNil))
      · have h26 := cond_neg c55 h26
        refine AWc.skip ?_
        refine AWc.rg hmix rfl rfl ?_
        refine RegV.p0 rfl rfl rfl ?_
        refine RegV.p0 (v := (.d (.int .i64 (IntKind.i64.wrap (y26_1 + (1 : Int)))))) rfl rfl rfl ?_
        refine RegV.p0 rfl rfl rfl ?_
        refine RegV.nil0 ?_
        exact ⟨(IntKind.i64.wrap (y26_1 + (1 : Int))), h26, ⟨rfl, [], [], rfl, rfl, ⟨⟨_, rfl, (.refl _)⟩, rfl, ⟨⟨_, rfl, (.refl _)⟩, rfl, ⟨⟨_, rfl, (.refl _)⟩, rfl, ⟨⟨_, rfl, (.refl _)⟩, rfl, trivial⟩⟩⟩⟩,  trivial⟩⟩
    · have h26 := cond_neg c36 h26
      cases h26
      dsimp only at h
      refine AWc.exit ?_
      refine inBlk_eq ?_
      refine AWc.seq ?_
      refine AWc.rg hmix rfl rfl ?_
      refine RegV.p0 rfl rfl rfl ?_
      refine RegV.nil0 ?_
      have hr := Option.some.inj h
      subst hr
      exact AWc.ret (canQ (N := 30) (k := 0) (l' := [(6, (.d (.bool true)))]) (H' := []) rfl ⟨rfl, [], [], rfl, rfl, ⟨⟨_, rfl, (.refl _)⟩, rfl, trivial⟩,  trivial⟩ (doneA (.inr rfl) rfl ⟨trivial, trivial⟩ (.refl _) hasNil))
/-- courant/courantlaw22.pairs -/
def C76 (N : Nat → Nat) : AFunc := { n := 8, params := 2, res := [.tmp 4], body :=
 (.seq (.region false [⟨(some 4), .mv (.k (.d (.bool false))), none, []⟩])
  (.seq (.region false [⟨(some 5), .mv (.t 0), none, []⟩,
    ⟨(some 6), .mv (.t 1), none, []⟩,
    ⟨(some 7), .call (.k (.d (.fn (N 105)))) [(.t 5), (.t 6), (.k (.d (.fn (N 106))))], none, [0, 1]⟩,
    ⟨(some 4), .mv (.t 7), none, [2, 0, 1]⟩])
   .ret)) }
def HC76 (P : Program) (N : Nat → Nat) : Prop := HasF P (N 76) (C76 N) ∧ HC105 P N
def f76 (k : Nat) (a0 : (List TPair)) (a1 : (List TPair)) : Option Bool := (f105 k a0 a1).bind fun r10 => some r10
theorem F76 {P : Program} {N : Nat → Nat} (hmix : P.follows .mixedOrders = true) (hc : HC76 P N) {k : Nat} {a0 : (List TPair)} {a1 : (List TPair)} {r : Bool} (h : f76 k a0 a1 = some r) :
    ACalls P (N 76) [(.d (.sl (List.map TPair.enc a0))), (.d (.sl (List.map TPair.enc a1)))] [] (.d (.bool r)) [] := by
  refine acalls_canon (F := C76 N) hc.1 0 0 rfl ?_
  unfold f76 at h
  dsimp only [C76, startL]
  refine AWc.seq ?_
  refine AWc.rg hmix rfl rfl ?_
  refine RegV.p0 rfl rfl rfl ?_
  refine RegV.nil0 ?_
  refine AWc.seq ?_
  refine AWc.rg hmix rfl rfl ?_
  refine RegV.p0 rfl rfl rfl ?_
  refine RegV.p0 rfl rfl rfl ?_
  obtain ⟨r10, e10, h⟩ := bind_some h
  refine RegV.call0 (F105 hmix hc.2 e10) rfl rfl rfl rfl (.cons (.refl _) (.cons (.refl _) (.cons (.refl _) .nil))) rfl ?_
  refine RegV.p0 rfl rfl rfl ?_
  refine RegV.nil0 ?_
  have hr := Option.some.inj h
  subst hr
  exact AWc.ret (canQ (N := 8) (k := 0) (l' := [(4, (.d (.bool r10)))]) (H' := []) rfl ⟨rfl, [], [], rfl, rfl, ⟨⟨_, rfl, (.refl _)⟩, rfl, trivial⟩,  trivial⟩ (doneA (.inr rfl) rfl ⟨trivial, trivial⟩ (.refl _) hasNil))
/-- courant/keyed.Get -/
def C74 (N : Nat → Nat) : AFunc := { n := 22, params := 2, res := [.tmp 4, .tmp 5], body :=
 (.seq (.region false [⟨(some 4), .mv (.k .nils), none, []⟩,
   ⟨(some 5), .mv (.k (.d (.bool false))), none, [0]⟩])
  (.seq (.region false [⟨(some 9), .mv (.t 0), none, []⟩,
    ⟨(some 10), .mv (.t 1), none, []⟩,
    ⟨(some 11), .call (.k (.d (.fn (N 101)))) [(.t 9), (.t 10)], none, [0, 1]⟩,
    ⟨(some 8), .mv (.t 11), none, [2]⟩,
    ⟨(some 12), .ext (.t 8) 0, none, [3]⟩,
    ⟨(some 13), .ext (.t 8) 1, none, [3]⟩,
    ⟨(some 6), .mv (.t 12), none, [4, 2, 0, 1, 3]⟩,
    ⟨(some 7), .mv (.t 13), none, [5, 6, 0, 1, 2, 3, 4]⟩])
   (.seq (.seq (.region false [⟨(some 14), .mv (.t 7), none, []⟩,
      ⟨(some 15), .un .not (.t 14), none, [0]⟩])
     (.cond (.t 15) (.seq (.region false [⟨(some 4), .mv (.k .nils), none, []⟩,
        ⟨(some 5), .mv (.k (.d (.bool false))), none, [0]⟩])
       .ret)
      (.skip)))
    (.seq (.region false [⟨(some 16), .mv (.t 0), none, []⟩,
      ⟨(some 17), .mv (.t 6), none, []⟩,
      ⟨(some 18), .iaddr (.t 16) (.t 17) 3, none, [0, 1]⟩,
      ⟨(some 19), .faddr (.t 18) 1, none, [2]⟩,
      ⟨(some 20), .load (.t 19) 1 false, none, [3]⟩,
      ⟨(some 21), .call (.k (.d (.fn (N 87)))) [(.t 20)], none, [4]⟩,
      ⟨(some 4), .mv (.t 21), none, [5, 0, 1, 2, 3, 4]⟩,
      ⟨(some 5), .mv (.k (.d (.bool true))), none, [6, 0, 1, 2, 3, 4, 5]⟩])
     .ret)))) }
def HC74 (P : Program) (N : Nat → Nat) : Prop := HasF P (N 74) (C74 N) ∧ HC101 P N ∧ HC87 P N
def f74 (k : Nat) (a0 : (List TPair)) (a1 : (List UInt8)) : Option ((List UInt8) × Bool) := (f101 k a0 a1).bind fun r11 => cond (!r11.2) (some (([] : List UInt8), false)) (gd (0 ≤ r11.1 ∧ r11.1 < ((a0.length : Nat) : Int)) ((f87 k ((rd a0 r11.1).fValue)).bind fun r39 => some (r39, true)))
theorem F74 {P : Program} {N : Nat → Nat} (hmix : P.follows .mixedOrders = true) (hc : HC74 P N) {k : Nat} {a0 : (List TPair)} {a1 : (List UInt8)} {r : ((List UInt8) × Bool)} (h : f74 k a0 a1 = some r) :
    ACalls P (N 74) [(.d (.sl (List.map TPair.enc a0))), (.d (.str a1))] [] (.tup [(.ap 0 1 (List.map byteD r.1)), (.d (.bool r.2))]) [(0, (.tok ((List.map byteD r.1).length * 1)))] := by
  refine acalls_canon (F := C74 N) hc.1 0 1 rfl ?_
  unfold f74 at h
  dsimp only [C74, startL]
  refine AWc.seq ?_
  refine AWc.rg hmix rfl rfl ?_
  refine RegV.p0 rfl rfl rfl ?_
  refine RegV.p0 rfl rfl rfl ?_
  refine RegV.nil0 ?_
  refine AWc.seq ?_
  refine AWc.rg hmix rfl rfl ?_
  refine RegV.p0 rfl rfl rfl ?_
  refine RegV.p0 rfl rfl rfl ?_
  obtain ⟨r11, e11, h⟩ := bind_some h
  refine RegV.call0 (F101 hmix hc.2.1 e11) rfl rfl rfl rfl (.cons (.refl _) (.cons (.refl _) .nil)) rfl ?_
  refine RegV.p0 rfl rfl rfl ?_
  refine RegV.p0 rfl rfl rfl ?_
  refine RegV.p0 rfl rfl rfl ?_
  refine RegV.p0 rfl rfl rfl ?_
  refine RegV.p0 rfl rfl rfl ?_
  refine RegV.nil0 ?_
  refine AWc.seq ?_
  refine AWc.seq ?_
  refine AWc.rg hmix rfl rfl ?_
  refine RegV.p0 rfl rfl rfl ?_
  refine RegV.p0 (v := (.d (.bool (!r11.2)))) rfl rfl rfl ?_
  refine RegV.nil0 ?_
  refine AWc.cond rfl (fun c23 => ?_) (fun c23 => ?_)
  · have h := cond_pos c23 h
    refine AWc.seq ?_
    refine AWc.rg hmix rfl rfl ?_
    refine RegV.p0 rfl rfl rfl ?_
    refine RegV.p0 rfl rfl rfl ?_
    refine RegV.nil0 ?_
    have hr := Option.some.inj h
    subst hr
    exact AWc.ret (canQ (N := 22) (k := 1) (l' := [(4, (.ap 0 1 (List.map byteD ([] : List UInt8)))), (5, (.d (.bool false)))]) (H' := [(0, (.tok ((List.map byteD ([] : List UInt8)).length * 1)))]) rfl ⟨rfl, [.tok 0], [(0, 0)], rfl, rfl, ⟨⟨_, rfl, .nil⟩, rfl, ⟨⟨_, rfl, (.refl _)⟩, rfl, trivial⟩⟩, ⟨⟨_, rfl, (.refl _)⟩, rfl, rfl, trivial⟩⟩ (doneA (.inr rfl) rfl ⟨trivial, ⟨trivial, trivial⟩⟩ (.refl _) (hasCons rfl hasNil)))
  · have h := cond_neg c23 h
    refine AWc.skip ?_
    refine AWc.seq ?_
    refine AWc.rg hmix rfl rfl ?_
    refine RegV.p0 rfl rfl rfl ?_
    refine RegV.p0 rfl rfl rfl ?_
    obtain ⟨b36, h⟩ := gd_some h
    refine RegV.iad (xs := a0) (e := TPair.enc) rfl rfl rfl rfl (fun _ => rfl) b36 rfl ?_
    refine RegV.p0 (v := (.cp (TPair.enc (rd a0 r11.1)) 1)) rfl rfl rfl ?_
    refine RegV.p0 (v := (.d (.sl (List.map byteD (rd a0 r11.1).fValue)))) rfl rfl rfl ?_
    obtain ⟨r39, e39, h⟩ := bind_some h
    refine RegV.callS (q := false) (H' := [(0, (.tok ((List.map byteD r39).length * 1)))]) (c' := 1) (show ACalls P (N 87) [(.d (.sl (List.map byteD ((rd a0 r11.1).fValue))))] [] (.ap 0 1 (List.map byteD r39)) [(0, (.tok ((List.map byteD r39).length * 1)))] from ACalls.use (F87 hmix hc.2.2 e39) [(0, 0)] 1 rfl) rfl rfl rfl rfl (.cons (.refl _) .nil) (.refl _) (fun h => by cases h) rfl hasNil rfl rfl rfl rfl ?_
    refine RegV.p0 rfl rfl rfl ?_
    refine RegV.p0 rfl rfl rfl ?_
    refine RegV.nil0 ?_
    have hr := Option.some.inj h
    subst hr
    exact AWc.ret (canQ (N := 22) (k := 1) (l' := [(4, (.ap 0 1 (List.map byteD r39))), (5, (.d (.bool true)))]) (H' := [(0, (.tok ((List.map byteD r39).length * 1)))]) rfl ⟨rfl, [], [], rfl, rfl, ⟨⟨_, rfl, (.refl _)⟩, rfl, ⟨⟨_, rfl, (.refl _)⟩, rfl, trivial⟩⟩, ⟨⟨_, rfl, (.refl _)⟩, rfl, rfl, trivial⟩⟩ (doneA (.inr rfl) rfl ⟨trivial, ⟨trivial, trivial⟩⟩ (.refl _) (hasCons rfl hasNil)))
/-- courant/courantlaw22.KeyedOrder -/
def C16 (N : Nat → Nat) : AFunc := { n := 153, params := 2, res := [.tmp 4], body :=
 (.seq (.region false [⟨(some 4), .mv (.k (.d (.bool false))), none, []⟩])
  (.seq (.seq (.region false [⟨(some 14), .mv (.t 0), none, []⟩,
     ⟨(some 15), .call (.k (.d (.fn (N 70)))) [(.t 14)], none, [0]⟩,
     ⟨(some 16), .un .not (.t 15), none, [1]⟩,
     ⟨(some 17), .mv (.t 16), none, [2, 1]⟩,
     ⟨(some 18), .mv (.t 0), (some (17, false)), [3]⟩,
     ⟨(some 19), .len (.t 18), (some (17, false)), [4, 3]⟩,
     ⟨(some 20), .bin .gtr (.t 19) (.k (.d (.int .i64 40))), (some (17, false)), [5, 3]⟩,
     ⟨(some 21), .pick (.t 17) (.k (.d (.bool true))) (.t 20), none, [3, 6]⟩])
    (.cond (.t 21) (.seq (.region false [⟨(some 22), .call (.k (.d (.fn (N 69)))) [], none, []⟩,
       ⟨(some 4), .mv (.t 22), none, [0]⟩])
      .ret)
     (.skip)))
   (.seq (.region false [⟨(some 5), .mv (.k .nils), none, []⟩])
    (.seq (.seq (.region false [⟨(some 6), .mv (.k (.d (.int .i64 0))), none, []⟩])
      (.block 0 (.loop (.seq (.seq (.region false [⟨(some 23), .mv (.t 6), none, []⟩,
           ⟨(some 24), .mv (.t 0), none, []⟩,
           ⟨(some 25), .len (.t 24), none, [1]⟩,
           ⟨(some 26), .bin .lss (.t 23) (.t 25), none, [0, 2]⟩])
          (.cond (.t 26) (.skip)
           (.exit 0)))
         (.seq (.block 1 (.seq (.seq (.region false [⟨(some 29), .mv (.t 5), none, []⟩,
              ⟨(some 30), .mv (.t 0), none, []⟩,
              ⟨(some 31), .mv (.t 6), none, []⟩,
              ⟨(some 32), .iaddr (.t 30) (.t 31) 3, none, [1, 2]⟩,
              ⟨(some 33), .faddr (.t 32) 0, none, [3]⟩,
              ⟨(some 34), .load (.t 33) 1 false, none, [4]⟩,
              ⟨(some 35), .call (.k (.d (.fn (N 77)))) [(.t 29), (.t 34)], none, [0, 5]⟩,
              ⟨(some 36), .mv (.t 35), none, [6]⟩,
              ⟨(some 37), .mv (.t 0), (some (36, false)), [7]⟩,
              ⟨(some 38), .mv (.t 6), (some (36, false)), [7]⟩,
              ⟨(some 39), .iaddr (.t 37) (.t 38) 3, (some (36, false)), [8, 9, 7]⟩,
              ⟨(some 40), .faddr (.t 39) 2, (some (36, false)), [10, 7]⟩,
              ⟨(some 41), .load (.t 40) 1 false, (some (36, false)), [11, 7]⟩,
              ⟨(some 42), .pick (.t 36) (.k (.d (.bool true))) (.t 41), none, [7, 12]⟩])
             (.cond (.t 42) (.seq (.region false [⟨(some 43), .call (.k (.d (.fn (N 69)))) [], none, []⟩,
                ⟨(some 4), .mv (.t 43), none, [0]⟩])
               .ret)
              (.skip)))
            (.region false [⟨(some 44), .mv (.t 5), none, []⟩,
             ⟨(some 45), .mv (.t 0), none, []⟩,
             ⟨(some 46), .mv (.t 6), none, []⟩,
             ⟨(some 47), .iaddr (.t 45) (.t 46) 3, none, [1, 2]⟩,
             ⟨(some 48), .faddr (.t 47) 0, none, [3]⟩,
             ⟨(some 49), .load (.t 48) 1 false, none, [4]⟩,
             ⟨(some 50), .bslice 1 1 [(.str [])] [(0, (.t 49))], none, [5]⟩,
             ⟨(some 51), .app (.t 44) (.t 50) 1 16 [(.str [])], none, [0, 6]⟩,
             ⟨(some 5), .mv (.t 51), none, [7, 0, 1, 2, 3, 4, 5, 6]⟩])))
          (.region false [⟨(some 27), .mv (.t 6), none, []⟩,
           ⟨(some 28), .bin .add (.t 27) (.k (.d (.int .i64 1))), none, [0]⟩,
           ⟨(some 6), .mv (.t 28), none, [1, 0]⟩]))))))
     (.seq (.region false [⟨(some 7), .mv (.k .nils), none, []⟩])
      (.seq (.seq (.region false [⟨(some 52), .mv (.t 0), none, []⟩,
         ⟨(some 53), .len (.t 52), none, [0]⟩,
         ⟨(some 54), .bin .sub (.t 53) (.k (.d (.int .i64 1))), none, [1]⟩,
         ⟨(some 8), .mv (.t 54), none, [2, 0, 1]⟩])
        (.block 2 (.loop (.seq (.seq (.region false [⟨(some 55), .mv (.t 8), none, []⟩,
             ⟨(some 56), .bin .geq (.t 55) (.k (.d (.int .i64 0))), none, [0]⟩])
            (.cond (.t 56) (.skip)
             (.exit 2)))
           (.seq (.block 3 (.region false [⟨(some 59), .mv (.t 7), none, []⟩,
              ⟨(some 60), .mv (.t 0), none, []⟩,
              ⟨(some 61), .mv (.t 8), none, []⟩,
              ⟨(some 62), .mv (.t 1), none, []⟩,
              ⟨(some 63), .cvi .u64 (.t 62), none, [3]⟩,
              ⟨(some 64), .mv (.t 0), none, []⟩,
              ⟨(some 65), .len (.t 64), none, [5]⟩,
              ⟨(some 66), .cvi .u64 (.t 65), none, [6]⟩,
              ⟨(some 67), .bin .rem (.t 63) (.t 66), none, [4, 7]⟩,
              ⟨(some 68), .cvi .i64 (.t 67), none, [8]⟩,
              ⟨(some 69), .bin .add (.t 61) (.t 68), none, [2, 9]⟩,
              ⟨(some 70), .mv (.t 0), none, []⟩,
              ⟨(some 71), .len (.t 70), none, [11]⟩,
              ⟨(some 72), .bin .rem (.t 69) (.t 71), none, [10, 12]⟩,
              ⟨(some 73), .iaddr (.t 60) (.t 72) 3, none, [1, 13]⟩,
              ⟨(some 74), .load (.t 73) 3 true, none, [14]⟩,
              ⟨(some 75), .bslice 1 3 [(.str []), (.sl []), (.bool false)] [(0, (.t 74))], none, [15]⟩,
              ⟨(some 76), .app (.t 59) (.t 75) 3 48 [(.str []), (.sl []), (.bool false)], none, [0, 16]⟩,
              ⟨(some 7), .mv (.t 76), none, [17, 0, 1, 2, 3, 4, 5, 6, 7, 8, 9, 10, 11, 12, 13, 14, 15, 16]⟩]))
            (.region false [⟨(some 57), .mv (.t 8), none, []⟩,
             ⟨(some 58), .bin .sub (.t 57) (.k (.d (.int .i64 1))), none, [0]⟩,
             ⟨(some 8), .mv (.t 58), none, [1, 0]⟩]))))))
       (.seq (.region false [⟨(some 77), .mv (.t 0), none, []⟩,
         ⟨(some 78), .call (.k (.d (.fn (N 72)))) [(.k .nils), (.t 77)], none, [0]⟩,
         ⟨(some 9), .mv (.t 78), none, [1, 0]⟩])
        (.seq (.seq (.region false [⟨(some 79), .call (.k (.d (.fn (N 69)))) [], none, []⟩,
           ⟨(some 80), .un .not (.t 79), none, [0]⟩,
           ⟨(some 81), .mv (.t 80), none, [1, 0]⟩,
           ⟨(some 82), .mv (.t 9), (some (81, false)), [2]⟩,
           ⟨(some 83), .mv (.t 7), (some (81, false)), [2]⟩,
           ⟨(some 84), .call (.k (.d (.fn (N 72)))) [(.k .nils), (.t 83)], (some (81, false)), [4, 2]⟩,
           ⟨(some 85), .call (.k (.d (.fn (N 76)))) [(.t 82), (.t 84)], (some (81, false)), [3, 5, 2]⟩,
           ⟨(some 86), .un .not (.t 85), (some (81, false)), [6, 2]⟩,
           ⟨(some 87), .pick (.t 81) (.k (.d (.bool true))) (.t 86), none, [2, 7]⟩,
           ⟨(some 88), .mv (.t 87), none, [8, 6]⟩,
           ⟨(some 89), .mv (.t 9), (some (88, false)), [9]⟩,
           ⟨(some 90), .len (.t 89), (some (88, false)), [10, 9]⟩,
           ⟨(some 91), .mv (.t 0), (some (88, false)), [9]⟩,
           ⟨(some 92), .len (.t 91), (some (88, false)), [12, 9]⟩,
           ⟨(some 93), .bin .neq (.t 90) (.t 92), (some (88, false)), [11, 13, 9]⟩,
           ⟨(some 94), .pick (.t 88) (.k (.d (.bool true))) (.t 93), none, [9, 14]⟩])
          (.cond (.t 94) (.seq (.region false [⟨(some 4), .mv (.k (.d (.bool false))), none, []⟩])
            .ret)
           (.skip)))
         (.seq (.seq (.region false [⟨(some 10), .mv (.k (.d (.int .i64 0))), none, []⟩])
           (.block 4 (.loop (.seq (.seq (.region false [⟨(some 95), .mv (.t 10), none, []⟩,
                ⟨(some 96), .mv (.t 0), none, []⟩,
                ⟨(some 97), .len (.t 96), none, [1]⟩,
                ⟨(some 98), .bin .lss (.t 95) (.t 97), none, [0, 2]⟩])
               (.cond (.t 98) (.skip)
                (.exit 4)))
              (.seq (.block 5 (.seq (.region true [⟨(some 101), .mv (.t 10), none, []⟩,
                  ⟨(some 102), .bin .gtr (.t 101) (.k (.d (.int .i64 0))), none, [0]⟩,
                  ⟨(some 103), .mv (.t 102), none, [1]⟩,
                  ⟨(some 104), .mv (.t 9), (some (103, true)), [2]⟩,
                  ⟨(some 105), .mv (.t 10), (some (103, true)), [2]⟩,
                  ⟨(some 106), .iaddr (.t 104) (.t 105) 3, (some (103, true)), [3, 4, 2]⟩,
                  ⟨(some 107), .faddr (.t 106) 0, (some (103, true)), [5, 2]⟩,
                  ⟨(some 108), .load (.t 107) 1 false, (some (103, true)), [6, 2]⟩,
                  ⟨(some 109), .mv (.t 9), (some (103, true)), [2]⟩,
                  ⟨(some 110), .mv (.t 10), (some (103, true)), [2]⟩,
                  ⟨(some 111), .bin .sub (.t 110) (.k (.d (.int .i64 1))), (some (103, true)), [9, 2]⟩,
                  ⟨(some 112), .iaddr (.t 109) (.t 111) 3, (some (103, true)), [8, 10, 2]⟩,
                  ⟨(some 113), .faddr (.t 112) 0, (some (103, true)), [11, 2]⟩,
                  ⟨(some 114), .load (.t 113) 1 false, (some (103, true)), [12, 2]⟩,
                  ⟨(some 115), .bin .leq (.t 108) (.t 114), (some (103, true)), [7, 13, 2]⟩,
                  ⟨(some 116), .pick (.t 103) (.t 115) (.k (.d (.bool false))), none, [2, 14]⟩])
                 (.cond (.t 116) (.seq (.region false [⟨(some 4), .mv (.k (.d (.bool false))), none, []⟩])
                   .ret)
                  (.skip))))
               (.region false [⟨(some 99), .mv (.t 10), none, []⟩,
                ⟨(some 100), .bin .add (.t 99) (.k (.d (.int .i64 1))), none, [0]⟩,
                ⟨(some 10), .mv (.t 100), none, [1, 0]⟩]))))))
          (.seq (.seq (.region false [⟨(some 11), .mv (.k (.d (.int .i64 0))), none, []⟩])
            (.block 6 (.loop (.seq (.seq (.region false [⟨(some 117), .mv (.t 11), none, []⟩,
                 ⟨(some 118), .mv (.t 0), none, []⟩,
                 ⟨(some 119), .len (.t 118), none, [1]⟩,
                 ⟨(some 120), .bin .lss (.t 117) (.t 119), none, [0, 2]⟩])
                (.cond (.t 120) (.skip)
                 (.exit 6)))
               (.seq (.block 7 (.seq (.region false [⟨(some 123), .mv (.t 9), none, []⟩,
                   ⟨(some 124), .mv (.t 0), none, []⟩,
                   ⟨(some 125), .mv (.t 11), none, []⟩,
                   ⟨(some 126), .iaddr (.t 124) (.t 125) 3, none, [1, 2]⟩,
                   ⟨(some 127), .faddr (.t 126) 0, none, [3]⟩,
                   ⟨(some 128), .load (.t 127) 1 false, none, [4]⟩,
                   ⟨(some 129), .build [(.str []), (.sl []), (.bool false)] [(0, 1, (.t 128)), (2, 1, (.k (.d (.bool true))))], none, [5]⟩,
                   ⟨(some 130), .bslice 1 3 [(.str []), (.sl []), (.bool false)] [(0, (.t 129))], none, [6]⟩,
                   ⟨(some 131), .call (.k (.d (.fn (N 72)))) [(.t 123), (.t 130)], none, [0, 7]⟩,
                   ⟨(some 9), .mv (.t 131), none, [8, 0, 1, 2, 3, 4, 5, 6, 7]⟩])
                  (.seq (.region false [⟨(some 133), .mv (.t 9), none, []⟩,
                    ⟨(some 134), .mv (.t 0), none, []⟩,
                    ⟨(some 135), .mv (.t 11), none, []⟩,
                    ⟨(some 136), .iaddr (.t 134) (.t 135) 3, none, [1, 2]⟩,
                    ⟨(some 137), .faddr (.t 136) 0, none, [3]⟩,
                    ⟨(some 138), .load (.t 137) 1 false, none, [4]⟩,
                    ⟨(some 139), .call (.k (.d (.fn (N 74)))) [(.t 133), (.t 138)], none, [0, 5]⟩,
                    ⟨(some 132), .mv (.t 139), none, [6]⟩,
                    ⟨(some 140), .ext (.t 132) 0, none, [7]⟩,
                    ⟨(some 141), .ext (.t 132) 1, none, [7]⟩,
                    ⟨(some 12), .mv (.t 140), none, [8, 6, 0, 1, 2, 3, 4, 5, 7]⟩,
                    ⟨(some 13), .mv (.t 141), none, [9, 10, 0, 1, 2, 3, 4, 5, 6, 7, 8]⟩])
                   (.seq (.region false [⟨(some 142), .mv (.t 13), none, []⟩,
                     ⟨(some 143), .mv (.t 142), none, [0]⟩,
                     ⟨(some 144), .mv (.t 9), (some (143, false)), [1]⟩,
                     ⟨(some 145), .len (.t 144), (some (143, false)), [2, 1]⟩,
                     ⟨(some 146), .mv (.t 0), (some (143, false)), [1]⟩,
                     ⟨(some 147), .len (.t 146), (some (143, false)), [4, 1]⟩,
                     ⟨(some 148), .bin .sub (.t 147) (.k (.d (.int .i64 1))), (some (143, false)), [5, 1]⟩,
                     ⟨(some 149), .mv (.t 11), (some (143, false)), [1]⟩,
                     ⟨(some 150), .bin .sub (.t 148) (.t 149), (some (143, false)), [6, 7, 1]⟩,
                     ⟨(some 151), .bin .neq (.t 145) (.t 150), (some (143, false)), [3, 8, 1]⟩,
                     ⟨(some 152), .pick (.t 143) (.k (.d (.bool true))) (.t 151), none, [1, 9]⟩])
                    (.cond (.t 152) (.seq (.region false [⟨(some 4), .mv (.k (.d (.bool false))), none, []⟩])
                      .ret)
                     (.skip))))))
                (.region false [⟨(some 121), .mv (.t 11), none, []⟩,
                 ⟨(some 122), .bin .add (.t 121) (.k (.d (.int .i64 1))), none, [0]⟩,
                 ⟨(some 11), .mv (.t 122), none, [1, 0]⟩]))))))
           (.seq (.region false [⟨(some 4), .mv (.k (.d (.bool true))), none, []⟩])
            .ret))))))))))) }
def HC16 (P : Program) (N : Nat → Nat) : Prop := HasF P (N 16) (C16 N) ∧ HC70 P N ∧ HC69 P N ∧ HC77 P N ∧ HC72 P N ∧ HC76 P N ∧ HC74 P N
def f16_l231 (a0 : (List TPair)) : Nat → (List TPair) → Int → Option (LR2 Unit Unit Bool)
  | 0, _, _ => none
  | k + 1, y231_1, y231_2 => cond (decide (y231_2 < ((a0.length : Nat) : Int))) (gd (0 ≤ y231_2 ∧ y231_2 < ((a0.length : Nat) : Int)) ((f72 k y231_1 ([(TPair.mk ((rd a0 y231_2).fKey) ([] : List UInt8) true)] : List TPair)).bind fun r257 => gd (0 ≤ y231_2 ∧ y231_2 < ((a0.length : Nat) : Int)) ((f74 k r257 ((rd a0 y231_2).fKey)).bind fun r268 => cond r268.2 (some (.r false)) (cond (decide (((r257.length : Nat) : Int) ≠ (IntKind.i64.wrap ((IntKind.i64.wrap (((a0.length : Nat) : Int) - (1 : Int))) - y231_2)))) (some (.r false)) (f16_l231 a0 k r257 (IntKind.i64.wrap (y231_2 + (1 : Int)))))))) (some (.b0 ()))
def f16_j226 (k : Nat) (a0 : (List TPair)) (r146 : (List TPair)) : Option Bool := (f16_l231 a0 k r146 (0 : Int)).bind fun o231 => (match o231 with | .b0 () => some true | .r x => some x | _ => none)
def f16_l180 (a0 : (List TPair)) (r146 : (List TPair)) : Nat → Int → Option (LR2 Unit Unit Bool)
  | 0, _ => none
  | k + 1, y180_1 => cond (decide (y180_1 < ((a0.length : Nat) : Int))) (cond (decide (y180_1 > (0 : Int))) (gd (0 ≤ y180_1 ∧ y180_1 < ((r146.length : Nat) : Int)) (gd (0 ≤ (IntKind.i64.wrap (y180_1 - (1 : Int))) ∧ (IntKind.i64.wrap (y180_1 - (1 : Int))) < ((r146.length : Nat) : Int)) (cond (Op.bytesLess ((rd r146 y180_1).fKey) ((rd r146 (IntKind.i64.wrap (y180_1 - (1 : Int)))).fKey) || decide ((rd r146 y180_1).fKey = (rd r146 (IntKind.i64.wrap (y180_1 - (1 : Int)))).fKey)) (some (.r false)) (f16_l180 a0 r146 k (IntKind.i64.wrap (y180_1 + (1 : Int))))))) (f16_l180 a0 r146 k (IntKind.i64.wrap (y180_1 + (1 : Int))))) (some (.b0 ()))
def f16_j142 (k : Nat) (a0 : (List TPair)) (j142_1 : (List TPair)) : Option Bool := (f72 k ([] : List TPair) a0).bind fun r146 => (f69 k).bind fun r152 => cond (!r152) (some false) ((f72 k ([] : List TPair) j142_1).bind fun r157 => (f76 k r146 r157).bind fun r158 => cond (!r158) (some false) (cond (decide (((r146.length : Nat) : Int) ≠ ((a0.length : Nat) : Int))) (some false) ((f16_l180 a0 r146 k (0 : Int)).bind fun o180 => (match o180 with | .b0 () => f16_j226 k a0 r146 | .r x => some x | _ => none))))
def f16_l103 (a0 : (List TPair)) (a1 : Int) : Nat → (List TPair) → Int → Option (LR2 (List TPair) Unit Bool)
  | 0, _, _ => none
  | k + 1, y103_1, y103_2 => cond (decide (y103_2 ≥ (0 : Int))) (gd ((IntKind.u64.wrap ((a0.length : Nat) : Int)) ≠ 0) (gd (((a0.length : Nat) : Int) ≠ 0) (gd (0 ≤ (Int.tmod (IntKind.i64.wrap (y103_2 + (IntKind.i64.wrap (Int.tmod (IntKind.u64.wrap a1) (IntKind.u64.wrap ((a0.length : Nat) : Int)))))) ((a0.length : Nat) : Int)) ∧ (Int.tmod (IntKind.i64.wrap (y103_2 + (IntKind.i64.wrap (Int.tmod (IntKind.u64.wrap a1) (IntKind.u64.wrap ((a0.length : Nat) : Int)))))) ((a0.length : Nat) : Int)) < ((a0.length : Nat) : Int)) (gd ((y103_1.length + ([(rd a0 (Int.tmod (IntKind.i64.wrap (y103_2 + (IntKind.i64.wrap (Int.tmod (IntKind.u64.wrap a1) (IntKind.u64.wrap ((a0.length : Nat) : Int)))))) ((a0.length : Nat) : Int)))] : List TPair).length) * 2 * 48 ≤ 281474976710656) (f16_l103 a0 a1 k (y103_1 ++ ([(rd a0 (Int.tmod (IntKind.i64.wrap (y103_2 + (IntKind.i64.wrap (Int.tmod (IntKind.u64.wrap a1) (IntKind.u64.wrap ((a0.length : Nat) : Int)))))) ((a0.length : Nat) : Int)))] : List TPair)) (IntKind.i64.wrap (y103_2 - (1 : Int)))))))) (some (.b0 y103_1))
def f16_j91 (k : Nat) (a0 : (List TPair)) (a1 : Int) : Option Bool := (f16_l103 a0 a1 k ([] : List TPair) (IntKind.i64.wrap (((a0.length : Nat) : Int) - (1 : Int)))).bind fun o103 => (match o103 with | .b0 x103_1 => f16_j142 k a0 x103_1 | _ => none)
def f16_l34 (a0 : (List TPair)) : Nat → (List (List UInt8)) → Int → Option (LR2 Unit Unit Bool)
  | 0, _, _ => none
  | k + 1, y34_1, y34_2 => cond (decide (y34_2 < ((a0.length : Nat) : Int))) (gd (0 ≤ y34_2 ∧ y34_2 < ((a0.length : Nat) : Int)) ((f77 k y34_1 ((rd a0 y34_2).fKey)).bind fun r59 => cond r59 ((f69 k).bind fun r71 => some (.r r71)) (gd (0 ≤ y34_2 ∧ y34_2 < ((a0.length : Nat) : Int)) (cond ((rd a0 y34_2).fGone) ((f69 k).bind fun r71 => some (.r r71)) (gd (0 ≤ y34_2 ∧ y34_2 < ((a0.length : Nat) : Int)) (gd ((y34_1.length + ([(rd a0 y34_2).fKey] : List (List UInt8)).length) * 2 * 16 ≤ 281474976710656) (f16_l34 a0 k (y34_1 ++ ([(rd a0 y34_2).fKey] : List (List UInt8))) (IntKind.i64.wrap (y34_2 + (1 : Int)))))))))) (some (.b0 ()))
def f16 (k : Nat) (a0 : (List TPair)) (a1 : Int) : Option Bool := (f70 k a0).bind fun r10 => cond (!r10) ((f69 k).bind fun r21 => some r21) (cond (decide (((a0.length : Nat) : Int) > (40 : Int))) ((f69 k).bind fun r21 => some r21) ((f16_l34 a0 k ([] : List (List UInt8)) (0 : Int)).bind fun o34 => (match o34 with | .b0 () => f16_j91 k a0 a1 | .r x => some x | _ => none)))
theorem F16 {P : Program} {N : Nat → Nat} (hmix : P.follows .mixedOrders = true) (hc : HC16 P N) {k : Nat} {a0 : (List TPair)} {a1 : Int} {r : Bool} (h : f16 k a0 a1 = some r) :
    ACalls P (N 16) [(.d (.sl (List.map TPair.enc a0))), (.d (.int .i64 a1))] [] (.d (.bool r)) [] := by
  refine acalls_canon (F := C16 N) hc.1 0 0 rfl ?_
  unfold f16 at h
  dsimp only [C16, startL]
  refine AWc.seq ?_
  refine AWc.rg hmix rfl rfl ?_
  refine RegV.p0 rfl rfl rfl ?_
  refine RegV.nil0 ?_
  refine AWc.seq ?_
  refine AWc.seq ?_
  refine AWc.rg hmix rfl rfl ?_
  refine RegV.p0 rfl rfl rfl ?_
  obtain ⟨r10, e10, h⟩ := bind_some h
  refine RegV.call0 (F70 hmix hc.2.1 e10) rfl rfl rfl rfl (.cons (.refl _) .nil) rfl ?_
  refine RegV.p0 (v := (.d (.bool (!r10)))) rfl rfl rfl ?_
  refine RegV.p0 rfl rfl rfl ?_
  refine RegV.split (fun c12 => ?_) (fun c12 => ?_)
  · have h := cond_pos c12 h
    refine RegV.noS rfl rfl ?_
    refine RegV.noS rfl rfl ?_
    refine RegV.noS rfl rfl ?_
    refine RegV.p0 rfl rfl rfl ?_
    refine RegV.nil0 ?_
    refine AWc.cond rfl (fun _ => ?_) (fun hc => by cases hc)
    refine AWc.seq ?_
    refine AWc.rg hmix rfl rfl ?_
    obtain ⟨r21, e21, h⟩ := bind_some h
    refine RegV.call0 (F69 hmix hc.2.2.1 e21) rfl rfl rfl rfl .nil rfl ?_
    refine RegV.p0 rfl rfl rfl ?_
    refine RegV.nil0 ?_
    have hr := Option.some.inj h
    subst hr
    exact AWc.ret (canQ (N := 153) (k := 0) (l' := [(4, (.d (.bool r21)))]) (H' := []) rfl ⟨rfl, [], [], rfl, rfl, ⟨⟨_, rfl, (.refl _)⟩, rfl, trivial⟩,  trivial⟩ (doneA (.inr rfl) rfl ⟨trivial, trivial⟩ (.refl _) hasNil))
  · have h := cond_neg c12 h
    refine RegV.p0 rfl rfl rfl ?_
    refine RegV.len (xs := a0) (e := TPair.enc) rfl rfl rfl rfl ?_
    refine RegV.p0 (v := (.d (.bool (decide (((a0.length : Nat) : Int) > (40 : Int)))))) rfl rfl rfl ?_
    refine RegV.p0 rfl rfl rfl ?_
    refine RegV.nil0 ?_
    refine AWc.cond rfl (fun c17 => ?_) (fun c17 => ?_)
    · have h := cond_pos c17 h
      refine AWc.seq ?_
      refine AWc.rg hmix rfl rfl ?_
      obtain ⟨r21, e21, h⟩ := bind_some h
      refine RegV.call0 (F69 hmix hc.2.2.1 e21) rfl rfl rfl rfl .nil rfl ?_
      refine RegV.p0 rfl rfl rfl ?_
      refine RegV.nil0 ?_
      have hr := Option.some.inj h
      subst hr
      exact AWc.ret (canQ (N := 153) (k := 0) (l' := [(4, (.d (.bool r21)))]) (H' := []) rfl ⟨rfl, [], [], rfl, rfl, ⟨⟨_, rfl, (.refl _)⟩, rfl, trivial⟩,  trivial⟩ (doneA (.inr rfl) rfl ⟨trivial, trivial⟩ (.refl _) hasNil))
    · have h := cond_neg c17 h
      refine AWc.skip ?_
      refine AWc.seq ?_
      refine AWc.rg hmix rfl rfl ?_
      refine RegV.p0 rfl rfl rfl ?_
      refine RegV.nil0 ?_
      refine AWc.seqS (N := 153) 0 (fun (z : Unit) => [(0, (.d (.sl (List.map TPair.enc a0)))), (1, (.d (.int .i64 a1)))]) (fun z => []) (fun z => f16_j91 k a0 a1 = some r) rfl_le ?_ ?_
      · refine AWc.seq ?_
        refine AWc.rg hmix rfl rfl ?_
        refine RegV.p0 rfl rfl rfl ?_
        refine RegV.nil0 ?_
        obtain ⟨o34, h34, h⟩ := bind_some h
        refine AWc.block ?_
        refine AWc.loopK (N := 153) 1 (fun (x : ((List (List UInt8)) × Int)) => [(0, (.d (.sl (List.map TPair.enc a0)))), (1, (.d (.int .i64 a1))), (5, (.ap 0 1 (List.map D.str x.1))), (6, (.d (.int .i64 x.2)))]) (fun x => [(0, (.tok ((List.map D.str x.1).length * 1)))]) (fun k x => f16_l34 a0 k x.1 x.2 = some o34) k (([] : List (List UInt8)), (0 : Int)) rfl_le (fun x hx => by cases hx) h34 ⟨rfl, [.tok 0], [(0, 0)], rfl, rfl, ⟨⟨_, rfl, (.refl _)⟩, rfl, ⟨⟨_, rfl, (.refl _)⟩, rfl, ⟨⟨_, rfl, .nil⟩, rfl, ⟨⟨_, rfl, (.refl _)⟩, rfl, trivial⟩⟩⟩⟩, ⟨⟨_, rfl, (.refl _)⟩, rfl, rfl, trivial⟩⟩ ?_
        clear h34
        intro k
        rintro ⟨y34_1, y34_2⟩ h34
        dsimp only at h34 ⊢
        rw [f16_l34] at h34
        refine AWc.seq ?_
        refine AWc.seq ?_
        refine AWc.rg hmix rfl rfl ?_
        refine RegV.p0 rfl rfl rfl ?_
        refine RegV.p0 rfl rfl rfl ?_
        refine RegV.len (xs := a0) (e := TPair.enc) rfl rfl rfl rfl ?_
        refine RegV.p0 (v := (.d (.bool (decide (y34_2 < ((a0.length : Nat) : Int)))))) rfl rfl rfl ?_
        refine RegV.nil0 ?_
        refine AWc.cond rfl (fun c44 => ?_) (fun c44 => ?_)
        · have h34 := cond_pos c44 h34
          refine AWc.skip ?_
          refine AWc.seq ?_
          refine AWc.block ?_
          refine AWc.seq ?_
          refine AWc.seq ?_
          refine AWc.rg hmix rfl rfl ?_
          refine RegV.p0 rfl rfl rfl ?_
          refine RegV.p0 rfl rfl rfl ?_
          refine RegV.p0 rfl rfl rfl ?_
          obtain ⟨b56, h34⟩ := gd_some h34
          refine RegV.iad (xs := a0) (e := TPair.enc) rfl rfl rfl rfl (fun _ => rfl) b56 rfl ?_
          refine RegV.p0 (v := (.cp (TPair.enc (rd a0 y34_2)) 0)) rfl rfl rfl ?_
          refine RegV.p0 (v := (.d (.str (rd a0 y34_2).fKey))) rfl rfl rfl ?_
          obtain ⟨r59, e59, h34⟩ := bind_some h34
          refine RegV.call0 (F77 hmix hc.2.2.2.1 e59) rfl rfl rfl rfl (.cons (.sl rfl) (.cons (.refl _) .nil)) rfl ?_
          refine RegV.p0 rfl rfl rfl ?_
          refine RegV.split (fun c60 => ?_) (fun c60 => ?_)
          · have h34 := cond_pos c60 h34
            refine RegV.noS rfl rfl ?_
            refine RegV.noS rfl rfl ?_
            refine RegV.noS rfl rfl ?_
            refine RegV.noS rfl rfl ?_
            refine RegV.noS rfl rfl ?_
            refine RegV.p0 rfl rfl rfl ?_
            refine RegV.nil0 ?_
            refine AWc.cond rfl (fun _ => ?_) (fun hc => by cases hc)
            refine AWc.seq ?_
            refine AWc.rg hmix rfl rfl ?_
            obtain ⟨r71, e71, h34⟩ := bind_some h34
            refine RegV.call0 (F69 hmix hc.2.2.1 e71) rfl rfl rfl rfl .nil rfl ?_
            refine RegV.p0 rfl rfl rfl ?_
            refine RegV.nil0 ?_
            cases h34
            dsimp only at h
            have hr := Option.some.inj h
            subst hr
            exact AWc.ret (canQ (N := 153) (k := 0) (l' := [(4, (.d (.bool r71)))]) (H' := []) rfl ⟨rfl, [], [], rfl, rfl, ⟨⟨_, rfl, (.refl _)⟩, rfl, trivial⟩,  trivial⟩ (doneA (.inr rfl) rfl ⟨trivial, trivial⟩ (.refl _) hasNil))
          · have h34 := cond_neg c60 h34
            refine RegV.p0 rfl rfl rfl ?_
            refine RegV.p0 rfl rfl rfl ?_
            obtain ⟨b63, h34⟩ := gd_some h34
            refine RegV.iad (xs := a0) (e := TPair.enc) rfl rfl rfl rfl (fun _ => rfl) b63 rfl ?_
            refine RegV.p0 (v := (.cp (TPair.enc (rd a0 y34_2)) 2)) rfl rfl rfl ?_
            refine RegV.p0 (v := (.d (.bool (rd a0 y34_2).fGone))) rfl rfl rfl ?_
            refine RegV.p0 rfl rfl rfl ?_
            refine RegV.nil0 ?_
            refine AWc.cond rfl (fun c67 => ?_) (fun c67 => ?_)
            · have h34 := cond_pos c67 h34
              refine AWc.seq ?_
              refine AWc.rg hmix rfl rfl ?_
              obtain ⟨r71, e71, h34⟩ := bind_some h34
              refine RegV.call0 (F69 hmix hc.2.2.1 e71) rfl rfl rfl rfl .nil rfl ?_
              refine RegV.p0 rfl rfl rfl ?_
              refine RegV.nil0 ?_
              cases h34
              dsimp only at h
              have hr := Option.some.inj h
              subst hr
              exact AWc.ret (canQ (N := 153) (k := 0) (l' := [(4, (.d (.bool r71)))]) (H' := []) rfl ⟨rfl, [], [], rfl, rfl, ⟨⟨_, rfl, (.refl _)⟩, rfl, trivial⟩,  trivial⟩ (doneA (.inr rfl) rfl ⟨trivial, trivial⟩ (.refl _) hasNil))
            · have h34 := cond_neg c67 h34
              refine AWc.skip ?_
              refine AWc.rg hmix rfl rfl ?_
              refine RegV.p0 rfl rfl rfl ?_
              refine RegV.p0 rfl rfl rfl ?_
              refine RegV.p0 rfl rfl rfl ?_
              obtain ⟨b80, h34⟩ := gd_some h34
              refine RegV.iad (xs := a0) (e := TPair.enc) rfl rfl rfl rfl (fun _ => rfl) b80 rfl ?_
              refine RegV.p0 (v := (.cp (TPair.enc (rd a0 y34_2)) 0)) rfl rfl rfl ?_
              refine RegV.p0 (v := (.d (.str (rd a0 y34_2).fKey))) rfl rfl rfl ?_
              refine RegV.p1 (v := (.d (.sl (List.map D.str ([(rd a0 y34_2).fKey] : List (List UInt8)))))) rfl rfl (by exact ⟨rfl, Nat.le_of_ble_eq_true rfl, mapLen (e := D.str) (xs := ([(rd a0 y34_2).fKey] : List (List UInt8))) (z := 1) (fun _ => rfl)⟩) rfl rfl ?_
              obtain ⟨b84, h34⟩ := gd_some h34
              refine RegV.appA (xs := y34_1) (ys := ([(rd a0 y34_2).fKey] : List (List UInt8))) (e := D.str) (H1 := []) rfl rfl rfl rfl (fun _ => rfl) rfl rfl b84 rfl rfl rfl ?_
              refine RegV.p0 rfl rfl rfl ?_
              refine RegV.nil0 ?_
              refine AWc.rg hmix rfl rfl ?_
              refine RegV.p0 rfl rfl rfl ?_
              refine RegV.p0 (v := (.d (.int .i64 (IntKind.i64.wrap (y34_2 + (1 : Int)))))) rfl rfl rfl ?_
              refine RegV.p0 rfl rfl rfl ?_
              refine RegV.nil0 ?_
              exact ⟨((y34_1 ++ ([(rd a0 y34_2).fKey] : List (List UInt8))), (IntKind.i64.wrap (y34_2 + (1 : Int)))), h34, ⟨rfl, [], [(0, 1)], rfl, rfl, ⟨⟨_, rfl, (.refl _)⟩, rfl, ⟨⟨_, rfl, (.refl _)⟩, rfl, ⟨⟨_, rfl, (.refl _)⟩, rfl, ⟨⟨_, rfl, (.refl _)⟩, rfl, trivial⟩⟩⟩⟩, ⟨⟨_, rfl, (.refl _)⟩, rfl, rfl, trivial⟩⟩⟩
        · have h34 := cond_neg c44 h34
          cases h34
          dsimp only at h
          refine AWc.exit ?_
          refine inBlk_eq ?_
          exact ⟨(), h, ⟨rfl, [], [], rfl, rfl, ⟨⟨_, rfl, (.refl _)⟩, rfl, ⟨⟨_, rfl, (.refl _)⟩, rfl, trivial⟩⟩,  trivial⟩⟩
      · rintro ⟨⟩ h
        unfold f16_j91 at h
        refine AWc.seq ?_
        refine AWc.rg hmix rfl rfl ?_
        refine RegV.p0 rfl rfl rfl ?_
        refine RegV.nil0 ?_
        refine AWc.seqS (N := 153) 1 (fun (z : (List TPair)) => [(0, (.d (.sl (List.map TPair.enc a0)))), (7, (.ap 0 3 (List.map TPair.enc z)))]) (fun z => [(0, (.tok ((List.map TPair.enc z).length * 3)))]) (fun z => f16_j142 k a0 z = some r) rfl_le ?_ ?_
        · refine AWc.seq ?_
          refine AWc.rg hmix rfl rfl ?_
          refine RegV.p0 rfl rfl rfl ?_
          refine RegV.len (xs := a0) (e := TPair.enc) rfl rfl rfl rfl ?_
          refine RegV.p0 (v := (.d (.int .i64 (IntKind.i64.wrap (((a0.length : Nat) : Int) - (1 : Int)))))) rfl rfl rfl ?_
          refine RegV.p0 rfl rfl rfl ?_
          refine RegV.nil0 ?_
          obtain ⟨o103, h103, h⟩ := bind_some h
          refine AWc.block ?_
          refine AWc.loopK (N := 153) 1 (fun (x : ((List TPair) × Int)) => [(0, (.d (.sl (List.map TPair.enc a0)))), (1, (.d (.int .i64 a1))), (7, (.ap 0 3 (List.map TPair.enc x.1))), (8, (.d (.int .i64 x.2)))]) (fun x => [(0, (.tok ((List.map TPair.enc x.1).length * 3)))]) (fun k x => f16_l103 a0 a1 k x.1 x.2 = some o103) k (([] : List TPair), (IntKind.i64.wrap (((a0.length : Nat) : Int) - (1 : Int)))) rfl_le (fun x hx => by cases hx) h103 ⟨rfl, [.tok 0], [(0, 0)], rfl, rfl, ⟨⟨_, rfl, (.refl _)⟩, rfl, ⟨⟨_, rfl, (.refl _)⟩, rfl, ⟨⟨_, rfl, .nil⟩, rfl, ⟨⟨_, rfl, (.refl _)⟩, rfl, trivial⟩⟩⟩⟩, ⟨⟨_, rfl, (.refl _)⟩, rfl, rfl, trivial⟩⟩ ?_
          clear h103
          intro k
          rintro ⟨y103_1, y103_2⟩ h103
          dsimp only at h103 ⊢
          rw [f16_l103] at h103
          refine AWc.seq ?_
          refine AWc.seq ?_
          refine AWc.rg hmix rfl rfl ?_
          refine RegV.p0 rfl rfl rfl ?_
          refine RegV.p0 (v := (.d (.bool (decide (y103_2 ≥ (0 : Int)))))) rfl rfl rfl ?_
          refine RegV.nil0 ?_
          refine AWc.cond rfl (fun c111 => ?_) (fun c111 => ?_)
          · have h103 := cond_pos c111 h103
            refine AWc.skip ?_
            refine AWc.seq ?_
            refine AWc.block ?_
            refine AWc.rg hmix rfl rfl ?_
            refine RegV.p0 rfl rfl rfl ?_
            refine RegV.p0 rfl rfl rfl ?_
            refine RegV.p0 rfl rfl rfl ?_
            refine RegV.p0 rfl rfl rfl ?_
            refine RegV.p0 (v := (.d (.int .u64 (IntKind.u64.wrap a1)))) rfl rfl rfl ?_
            refine RegV.p0 rfl rfl rfl ?_
            refine RegV.len (xs := a0) (e := TPair.enc) rfl rfl rfl rfl ?_
            refine RegV.p0 (v := (.d (.int .u64 (IntKind.u64.wrap ((a0.length : Nat) : Int))))) rfl rfl rfl ?_
            obtain ⟨b126, h103⟩ := gd_some h103
            refine RegV.p1 (v := (.d (.int .u64 (Int.tmod (IntKind.u64.wrap a1) (IntKind.u64.wrap ((a0.length : Nat) : Int)))))) rfl rfl b126 rfl rfl ?_
            refine RegV.p0 (v := (.d (.int .i64 (IntKind.i64.wrap (Int.tmod (IntKind.u64.wrap a1) (IntKind.u64.wrap ((a0.length : Nat) : Int))))))) rfl rfl rfl ?_
            refine RegV.p0 (v := (.d (.int .i64 (IntKind.i64.wrap (y103_2 + (IntKind.i64.wrap (Int.tmod (IntKind.u64.wrap a1) (IntKind.u64.wrap ((a0.length : Nat) : Int))))))))) rfl rfl rfl ?_
            refine RegV.p0 rfl rfl rfl ?_
            refine RegV.len (xs := a0) (e := TPair.enc) rfl rfl rfl rfl ?_
            obtain ⟨b131, h103⟩ := gd_some h103
            refine RegV.p1 (v := (.d (.int .i64 (Int.tmod (IntKind.i64.wrap (y103_2 + (IntKind.i64.wrap (Int.tmod (IntKind.u64.wrap a1) (IntKind.u64.wrap ((a0.length : Nat) : Int)))))) ((a0.length : Nat) : Int))))) rfl rfl b131 rfl rfl ?_
            obtain ⟨b132, h103⟩ := gd_some h103
            refine RegV.iad (xs := a0) (e := TPair.enc) rfl rfl rfl rfl (fun _ => rfl) b132 rfl ?_
            refine RegV.p1 (v := (.d (TPair.enc (rd a0 (Int.tmod (IntKind.i64.wrap (y103_2 + (IntKind.i64.wrap (Int.tmod (IntKind.u64.wrap a1) (IntKind.u64.wrap ((a0.length : Nat) : Int)))))) ((a0.length : Nat) : Int)))))) rfl rfl rfl rfl rfl ?_
            refine RegV.p1 (v := (.d (.sl (List.map TPair.enc ([(rd a0 (Int.tmod (IntKind.i64.wrap (y103_2 + (IntKind.i64.wrap (Int.tmod (IntKind.u64.wrap a1) (IntKind.u64.wrap ((a0.length : Nat) : Int)))))) ((a0.length : Nat) : Int)))] : List TPair))))) rfl rfl (by exact ⟨rfl, Nat.le_of_ble_eq_true rfl, mapLen (e := TPair.enc) (xs := ([(rd a0 (Int.tmod (IntKind.i64.wrap (y103_2 + (IntKind.i64.wrap (Int.tmod (IntKind.u64.wrap a1) (IntKind.u64.wrap ((a0.length : Nat) : Int)))))) ((a0.length : Nat) : Int)))] : List TPair)) (z := 3) (fun _ => rfl)⟩) rfl rfl ?_
            obtain ⟨b135, h103⟩ := gd_some h103
            refine RegV.appA (xs := y103_1) (ys := ([(rd a0 (Int.tmod (IntKind.i64.wrap (y103_2 + (IntKind.i64.wrap (Int.tmod (IntKind.u64.wrap a1) (IntKind.u64.wrap ((a0.length : Nat) : Int)))))) ((a0.length : Nat) : Int)))] : List TPair)) (e := TPair.enc) (H1 := []) rfl rfl rfl rfl (fun _ => rfl) rfl rfl b135 rfl rfl rfl ?_
            refine RegV.p0 rfl rfl rfl ?_
            refine RegV.nil0 ?_
            refine AWc.rg hmix rfl rfl ?_
            refine RegV.p0 rfl rfl rfl ?_
            refine RegV.p0 (v := (.d (.int .i64 (IntKind.i64.wrap (y103_2 - (1 : Int)))))) rfl rfl rfl ?_
            refine RegV.p0 rfl rfl rfl ?_
            refine RegV.nil0 ?_
            exact ⟨((y103_1 ++ ([(rd a0 (Int.tmod (IntKind.i64.wrap (y103_2 + (IntKind.i64.wrap (Int.tmod (IntKind.u64.wrap a1) (IntKind.u64.wrap ((a0.length : Nat) : Int)))))) ((a0.length : Nat) : Int)))] : List TPair)), (IntKind.i64.wrap (y103_2 - (1 : Int)))), h103, ⟨rfl, [], [(0, 1)], rfl, rfl, ⟨⟨_, rfl, (.refl _)⟩, rfl, ⟨⟨_, rfl, (.refl _)⟩, rfl, ⟨⟨_, rfl, (.refl _)⟩, rfl, ⟨⟨_, rfl, (.refl _)⟩, rfl, trivial⟩⟩⟩⟩, ⟨⟨_, rfl, (.refl _)⟩, rfl, rfl, trivial⟩⟩⟩
          · have h103 := cond_neg c111 h103
            cases h103
            dsimp only at h
            refine AWc.exit ?_
            refine inBlk_eq ?_
            exact ⟨y103_1, h, ⟨rfl, [], [], rfl, rfl, ⟨⟨_, rfl, (.refl _)⟩, rfl, ⟨⟨_, rfl, (.refl _)⟩, rfl, trivial⟩⟩, ⟨⟨_, rfl, (.refl _)⟩, rfl, rfl, trivial⟩⟩⟩
        · intro j142_1 h
          unfold f16_j142 at h
          refine AWc.seq ?_
          refine AWc.rg hmix rfl rfl ?_
          refine RegV.p0 rfl rfl rfl ?_
          obtain ⟨r146, e146, h⟩ := bind_some h
          refine RegV.call0 (F72 hmix hc.2.2.2.2.1 e146) rfl rfl rfl rfl (.cons (.sl rfl) (.cons (.refl _) .nil)) rfl ?_
          refine RegV.p0 rfl rfl rfl ?_
          refine RegV.nil0 ?_
          refine AWc.seq ?_
          refine AWc.seq ?_
          refine AWc.rg hmix rfl rfl ?_
          obtain ⟨r152, e152, h⟩ := bind_some h
          refine RegV.call0 (F69 hmix hc.2.2.1 e152) rfl rfl rfl rfl .nil rfl ?_
          refine RegV.p0 (v := (.d (.bool (!r152)))) rfl rfl rfl ?_
          refine RegV.p0 rfl rfl rfl ?_
          refine RegV.split (fun c154 => ?_) (fun c154 => ?_)
          · have h := cond_pos c154 h
            refine RegV.noS rfl rfl ?_
            refine RegV.noS rfl rfl ?_
            refine RegV.noS rfl rfl ?_
            refine RegV.noS rfl rfl ?_
            refine RegV.noS rfl rfl ?_
            refine RegV.p0 rfl rfl rfl ?_
            refine RegV.p0 rfl rfl rfl ?_
            refine RegV.noS rfl rfl ?_
            refine RegV.noS rfl rfl ?_
            refine RegV.noS rfl rfl ?_
            refine RegV.noS rfl rfl ?_
            refine RegV.noS rfl rfl ?_
            refine RegV.p0 rfl rfl rfl ?_
            refine RegV.nil0 ?_
            refine AWc.cond rfl (fun _ => ?_) (fun hc => by cases hc)
            refine AWc.seq ?_
            refine AWc.rg hmix rfl rfl ?_
            refine RegV.p0 rfl rfl rfl ?_
            refine RegV.nil0 ?_
            have hr := Option.some.inj h
            subst hr
            exact AWc.ret (canQ (N := 153) (k := 0) (l' := [(4, (.d (.bool false)))]) (H' := []) rfl ⟨rfl, [], [], rfl, rfl, ⟨⟨_, rfl, (.refl _)⟩, rfl, trivial⟩,  trivial⟩ (doneA (.inr rfl) rfl ⟨trivial, trivial⟩ (.refl _) hasNil))
          · have h := cond_neg c154 h
            refine RegV.p0 rfl rfl rfl ?_
            refine RegV.p0 rfl rfl rfl ?_
            obtain ⟨r157, e157, h⟩ := bind_some h
            refine RegV.call0 (F72 hmix hc.2.2.2.2.1 e157) rfl rfl rfl rfl (.cons (.sl rfl) (.cons (.sl rfl) .nil)) rfl ?_
            obtain ⟨r158, e158, h⟩ := bind_some h
            refine RegV.call0 (F76 hmix hc.2.2.2.2.2.1 e158) rfl rfl rfl rfl (.cons (.refl _) (.cons (.refl _) .nil)) rfl ?_
            refine RegV.p0 (v := (.d (.bool (!r158)))) rfl rfl rfl ?_
            refine RegV.p0 rfl rfl rfl ?_
            refine RegV.p0 rfl rfl rfl ?_
            refine RegV.split (fun c161 => ?_) (fun c161 => ?_)
            · have h := cond_pos c161 h
              refine RegV.noS rfl rfl ?_
              refine RegV.noS rfl rfl ?_
              refine RegV.noS rfl rfl ?_
              refine RegV.noS rfl rfl ?_
              refine RegV.noS rfl rfl ?_
              refine RegV.p0 rfl rfl rfl ?_
              refine RegV.nil0 ?_
              refine AWc.cond rfl (fun _ => ?_) (fun hc => by cases hc)
              refine AWc.seq ?_
              refine AWc.rg hmix rfl rfl ?_
              refine RegV.p0 rfl rfl rfl ?_
              refine RegV.nil0 ?_
              have hr := Option.some.inj h
              subst hr
              exact AWc.ret (canQ (N := 153) (k := 0) (l' := [(4, (.d (.bool false)))]) (H' := []) rfl ⟨rfl, [], [], rfl, rfl, ⟨⟨_, rfl, (.refl _)⟩, rfl, trivial⟩,  trivial⟩ (doneA (.inr rfl) rfl ⟨trivial, trivial⟩ (.refl _) hasNil))
            · have h := cond_neg c161 h
              refine RegV.p0 rfl rfl rfl ?_
              refine RegV.len (xs := r146) (e := TPair.enc) rfl rfl rfl rfl ?_
              refine RegV.p0 rfl rfl rfl ?_
              refine RegV.len (xs := a0) (e := TPair.enc) rfl rfl rfl rfl ?_
              refine RegV.p0 (v := (.d (.bool (decide (((r146.length : Nat) : Int) ≠ ((a0.length : Nat) : Int)))))) rfl rfl rfl ?_
              refine RegV.p0 rfl rfl rfl ?_
              refine RegV.nil0 ?_
              refine AWc.cond rfl (fun c168 => ?_) (fun c168 => ?_)
              · have h := cond_pos c168 h
                refine AWc.seq ?_
                refine AWc.rg hmix rfl rfl ?_
                refine RegV.p0 rfl rfl rfl ?_
                refine RegV.nil0 ?_
                have hr := Option.some.inj h
                subst hr
                exact AWc.ret (canQ (N := 153) (k := 0) (l' := [(4, (.d (.bool false)))]) (H' := []) rfl ⟨rfl, [], [], rfl, rfl, ⟨⟨_, rfl, (.refl _)⟩, rfl, trivial⟩,  trivial⟩ (doneA (.inr rfl) rfl ⟨trivial, trivial⟩ (.refl _) hasNil))
              · have h := cond_neg c168 h
                refine AWc.skip ?_
                refine AWc.seqS (N := 153) 0 (fun (z : Unit) => [(0, (.d (.sl (List.map TPair.enc a0)))), (9, (.d (.sl (List.map TPair.enc r146))))]) (fun z => []) (fun z => f16_j226 k a0 r146 = some r) rfl_le ?_ ?_
                · refine AWc.seq ?_
                  refine AWc.rg hmix rfl rfl ?_
                  refine RegV.p0 rfl rfl rfl ?_
                  refine RegV.nil0 ?_
                  obtain ⟨o180, h180, h⟩ := bind_some h
                  refine AWc.block ?_
                  refine AWc.loopK (N := 153) 0 (fun (x : Int) => [(0, (.d (.sl (List.map TPair.enc a0)))), (9, (.d (.sl (List.map TPair.enc r146)))), (10, (.d (.int .i64 x)))]) (fun x => []) (fun k x => f16_l180 a0 r146 k x = some o180) k (0 : Int) rfl_le (fun x hx => by cases hx) h180 ⟨rfl, [], [], rfl, rfl, ⟨⟨_, rfl, (.refl _)⟩, rfl, ⟨⟨_, rfl, (.refl _)⟩, rfl, ⟨⟨_, rfl, (.refl _)⟩, rfl, trivial⟩⟩⟩,  trivial⟩ ?_
                  clear h180
                  intro k
                  intro y180_1 h180
                  rw [f16_l180] at h180
                  refine AWc.seq ?_
                  refine AWc.seq ?_
                  refine AWc.rg hmix rfl rfl ?_
                  refine RegV.p0 rfl rfl rfl ?_
                  refine RegV.p0 rfl rfl rfl ?_
                  refine RegV.len (xs := a0) (e := TPair.enc) rfl rfl rfl rfl ?_
                  refine RegV.p0 (v := (.d (.bool (decide (y180_1 < ((a0.length : Nat) : Int)))))) rfl rfl rfl ?_
                  refine RegV.nil0 ?_
                  refine AWc.cond rfl (fun c190 => ?_) (fun c190 => ?_)
                  · have h180 := cond_pos c190 h180
                    refine AWc.skip ?_
                    refine AWc.seq ?_
                    refine AWc.block ?_
                    refine AWc.seq ?_
                    refine AWc.rg hmix rfl rfl ?_
                    refine RegV.p0 rfl rfl rfl ?_
                    refine RegV.p0 (v := (.d (.bool (decide (y180_1 > (0 : Int)))))) rfl rfl rfl ?_
                    refine RegV.p0 rfl rfl rfl ?_
                    refine RegV.split (fun c200 => ?_) (fun c200 => ?_)
                    · have h180 := cond_pos c200 h180
                      refine RegV.p0 rfl rfl rfl ?_
                      refine RegV.p0 rfl rfl rfl ?_
                      obtain ⟨b203, h180⟩ := gd_some h180
                      refine RegV.iad (xs := r146) (e := TPair.enc) rfl rfl rfl rfl (fun _ => rfl) b203 rfl ?_
                      refine RegV.p0 (v := (.cp (TPair.enc (rd r146 y180_1)) 0)) rfl rfl rfl ?_
                      refine RegV.p0 (v := (.d (.str (rd r146 y180_1).fKey))) rfl rfl rfl ?_
                      refine RegV.p0 rfl rfl rfl ?_
                      refine RegV.p0 rfl rfl rfl ?_
                      refine RegV.p0 (v := (.d (.int .i64 (IntKind.i64.wrap (y180_1 - (1 : Int)))))) rfl rfl rfl ?_
                      obtain ⟨b209, h180⟩ := gd_some h180
                      refine RegV.iad (xs := r146) (e := TPair.enc) rfl rfl rfl rfl (fun _ => rfl) b209 rfl ?_
                      refine RegV.p0 (v := (.cp (TPair.enc (rd r146 (IntKind.i64.wrap (y180_1 - (1 : Int))))) 0)) rfl rfl rfl ?_
                      refine RegV.p0 (v := (.d (.str (rd r146 (IntKind.i64.wrap (y180_1 - (1 : Int)))).fKey))) rfl rfl rfl ?_
                      refine RegV.p0 (v := (.d (.bool (Op.bytesLess ((rd r146 y180_1).fKey) ((rd r146 (IntKind.i64.wrap (y180_1 - (1 : Int)))).fKey) || decide ((rd r146 y180_1).fKey = (rd r146 (IntKind.i64.wrap (y180_1 - (1 : Int)))).fKey))))) rfl rfl rfl ?_
                      refine RegV.p0 rfl rfl rfl ?_
                      refine RegV.nil1 (by kernel_rfl) ?_
                      refine AWc.cond rfl (fun c214 => ?_) (fun c214 => ?_)
                      · have h180 := cond_pos c214 h180
                        refine AWc.seq ?_
                        refine AWc.rg hmix rfl rfl ?_
                        refine RegV.p0 rfl rfl rfl ?_
                        refine RegV.nil0 ?_
                        cases h180
                        dsimp only at h
                        have hr := Option.some.inj h
                        subst hr
                        exact AWc.ret (canQ (N := 153) (k := 0) (l' := [(4, (.d (.bool false)))]) (H' := []) rfl ⟨rfl, [], [], rfl, rfl, ⟨⟨_, rfl, (.refl _)⟩, rfl, trivial⟩,  trivial⟩ (doneA (.inr rfl) rfl ⟨trivial, trivial⟩ (.refl _) hasNil))
                      · have h180 := cond_neg c214 h180
                        refine AWc.skip ?_
                        refine AWc.rg hmix rfl rfl ?_
                        refine RegV.p0 rfl rfl rfl ?_
                        refine RegV.p0 (v := (.d (.int .i64 (IntKind.i64.wrap (y180_1 + (1 : Int)))))) rfl rfl rfl ?_
                        refine RegV.p0 rfl rfl rfl ?_
                        refine RegV.nil0 ?_
                        exact ⟨(IntKind.i64.wrap (y180_1 + (1 : Int))), h180, ⟨rfl, [], [], rfl, rfl, ⟨⟨_, rfl, (.refl _)⟩, rfl, ⟨⟨_, rfl, (.refl _)⟩, rfl, ⟨⟨_, rfl, (.refl _)⟩, rfl, trivial⟩⟩⟩,  trivial⟩⟩
                    · have h180 := cond_neg c200 h180
                      refine RegV.noS rfl rfl ?_
                      refine RegV.noS rfl rfl ?_
                      refine RegV.noS rfl rfl ?_
                      refine RegV.noS rfl rfl ?_
                      refine RegV.noS rfl rfl ?_
                      refine RegV.noS rfl rfl ?_
                      refine RegV.noS rfl rfl ?_
                      refine RegV.noS rfl rfl ?_
                      refine RegV.noS rfl rfl ?_
                      refine RegV.noS rfl rfl ?_
                      refine RegV.noS rfl rfl ?_
                      refine RegV.noS rfl rfl ?_
                      refine RegV.p0 rfl rfl rfl ?_
                      refine RegV.nil1 (by kernel_rfl) ?_
                      refine AWc.cond rfl (fun hc => by cases hc) (fun _ => ?_)
                      refine AWc.skip ?_
                      refine AWc.rg hmix rfl rfl ?_
                      refine RegV.p0 rfl rfl rfl ?_
                      refine RegV.p0 (v := (.d (.int .i64 (IntKind.i64.wrap (y180_1 + (1 : Int)))))) rfl rfl rfl ?_
                      refine RegV.p0 rfl rfl rfl ?_
                      refine RegV.nil0 ?_
                      exact ⟨(IntKind.i64.wrap (y180_1 + (1 : Int))), h180, ⟨rfl, [], [], rfl, rfl, ⟨⟨_, rfl, (.refl _)⟩, rfl, ⟨⟨_, rfl, (.refl _)⟩, rfl, ⟨⟨_, rfl, (.refl _)⟩, rfl, trivial⟩⟩⟩,  trivial⟩⟩
                  · have h180 := cond_neg c190 h180
                    cases h180
                    dsimp only at h
                    refine AWc.exit ?_
                    refine inBlk_eq ?_
                    exact ⟨(), h, ⟨rfl, [], [], rfl, rfl, ⟨⟨_, rfl, (.refl _)⟩, rfl, ⟨⟨_, rfl, (.refl _)⟩, rfl, trivial⟩⟩,  trivial⟩⟩
                · rintro ⟨⟩ h
                  unfold f16_j226 at h
                  refine AWc.seq ?_
                  refine AWc.seq ?_
                  refine AWc.rg hmix rfl rfl ?_
                  refine RegV.p0 rfl rfl rfl ?_
                  refine RegV.nil0 ?_
                  obtain ⟨o231, h231, h⟩ := bind_some h
                  refine AWc.block ?_
                  refine AWc.loopK (N := 153) 0 (fun (x : ((List TPair) × Int)) => [(0, (.d (.sl (List.map TPair.enc a0)))), (9, (.d (.sl (List.map TPair.enc x.1)))), (11, (.d (.int .i64 x.2)))]) (fun x => []) (fun k x => f16_l231 a0 k x.1 x.2 = some o231) k (r146, (0 : Int)) rfl_le (fun x hx => by cases hx) h231 ⟨rfl, [], [], rfl, rfl, ⟨⟨_, rfl, (.refl _)⟩, rfl, ⟨⟨_, rfl, (.refl _)⟩, rfl, ⟨⟨_, rfl, (.refl _)⟩, rfl, trivial⟩⟩⟩,  trivial⟩ ?_
                  clear h231
                  intro k
                  rintro ⟨y231_1, y231_2⟩ h231
                  dsimp only at h231 ⊢
                  rw [f16_l231] at h231
                  refine AWc.seq ?_
                  refine AWc.seq ?_
                  refine AWc.rg hmix rfl rfl ?_
                  refine RegV.p0 rfl rfl rfl ?_
                  refine RegV.p0 rfl rfl rfl ?_
                  refine RegV.len (xs := a0) (e := TPair.enc) rfl rfl rfl rfl ?_
                  refine RegV.p0 (v := (.d (.bool (decide (y231_2 < ((a0.length : Nat) : Int)))))) rfl rfl rfl ?_
                  refine RegV.nil0 ?_
                  refine AWc.cond rfl (fun c241 => ?_) (fun c241 => ?_)
                  · have h231 := cond_pos c241 h231
                    refine AWc.skip ?_
                    refine AWc.seq ?_
                    refine AWc.block ?_
                    refine AWc.seq ?_
                    refine AWc.rg hmix rfl rfl ?_
                    refine RegV.p0 rfl rfl rfl ?_
                    refine RegV.p0 rfl rfl rfl ?_
                    refine RegV.p0 rfl rfl rfl ?_
                    obtain ⟨b252, h231⟩ := gd_some h231
                    refine RegV.iad (xs := a0) (e := TPair.enc) rfl rfl rfl rfl (fun _ => rfl) b252 rfl ?_
                    refine RegV.p0 (v := (.cp (TPair.enc (rd a0 y231_2)) 0)) rfl rfl rfl ?_
                    refine RegV.p0 (v := (.d (.str (rd a0 y231_2).fKey))) rfl rfl rfl ?_
                    refine RegV.p1 (v := (.d (.agg [(.str (rd a0 y231_2).fKey), (.sl (List.map byteD ([] : List UInt8))), (.bool true)]))) rfl rfl (by exact ⟨⟨rfl, Nat.le_of_ble_eq_true rfl⟩, ⟨⟨rfl, Nat.le_of_ble_eq_true rfl⟩, trivial⟩⟩) rfl rfl ?_
                    refine RegV.p1 (v := (.d (.sl (List.map TPair.enc ([(TPair.mk ((rd a0 y231_2).fKey) ([] : List UInt8) true)] : List TPair))))) rfl rfl (by exact ⟨rfl, Nat.le_of_ble_eq_true rfl, mapLen (e := TPair.enc) (xs := ([(TPair.mk ((rd a0 y231_2).fKey) ([] : List UInt8) true)] : List TPair)) (z := 3) (fun _ => rfl)⟩) rfl rfl ?_
                    obtain ⟨r257, e257, h231⟩ := bind_some h231
                    refine RegV.call0 (F72 hmix hc.2.2.2.2.1 e257) rfl rfl rfl rfl (.cons (.refl _) (.cons (.refl _) .nil)) rfl ?_
                    refine RegV.p0 rfl rfl rfl ?_
                    refine RegV.nil0 ?_
                    refine AWc.seq ?_
                    refine AWc.rg hmix rfl rfl ?_
                    refine RegV.p0 rfl rfl rfl ?_
                    refine RegV.p0 rfl rfl rfl ?_
                    refine RegV.p0 rfl rfl rfl ?_
                    obtain ⟨b265, h231⟩ := gd_some h231
                    refine RegV.iad (xs := a0) (e := TPair.enc) rfl rfl rfl rfl (fun _ => rfl) b265 rfl ?_
                    refine RegV.p0 (v := (.cp (TPair.enc (rd a0 y231_2)) 0)) rfl rfl rfl ?_
                    refine RegV.p0 (v := (.d (.str (rd a0 y231_2).fKey))) rfl rfl rfl ?_
                    obtain ⟨r268, e268, h231⟩ := bind_some h231
                    refine RegV.callS (q := false) (H' := [(0, (.tok ((List.map byteD r268.1).length * 1)))]) (c' := 1) (show ACalls P (N 74) [(.d (.sl (List.map TPair.enc r257))), (.d (.str ((rd a0 y231_2).fKey)))] [] (.tup [(.ap 0 1 (List.map byteD r268.1)), (.d (.bool r268.2))]) [(0, (.tok ((List.map byteD r268.1).length * 1)))] from ACalls.use (F74 hmix hc.2.2.2.2.2.2 e268) [(0, 0)] 1 rfl) rfl rfl rfl rfl (.cons (.refl _) (.cons (.refl _) .nil)) (.refl _) (fun h => by cases h) rfl hasNil rfl rfl rfl rfl ?_
                    refine RegV.p0 rfl rfl rfl ?_
                    refine RegV.p0 rfl rfl rfl ?_
                    refine RegV.p0 rfl rfl rfl ?_
                    refine RegV.p0 rfl rfl rfl ?_
                    refine RegV.p0 rfl rfl rfl ?_
                    refine RegV.nil0 ?_
                    refine AWc.seq ?_
                    refine AWc.rg hmix rfl rfl ?_
                    refine RegV.p0 rfl rfl rfl ?_
                    refine RegV.p0 rfl rfl rfl ?_
                    refine RegV.split (fun c278 => ?_) (fun c278 => ?_)
                    · have h231 := cond_pos c278 h231
                      refine RegV.noS rfl rfl ?_
                      refine RegV.noS rfl rfl ?_
                      refine RegV.noS rfl rfl ?_
                      refine RegV.noS rfl rfl ?_
                      refine RegV.noS rfl rfl ?_
                      refine RegV.noS rfl rfl ?_
                      refine RegV.noS rfl rfl ?_
                      refine RegV.noS rfl rfl ?_
                      refine RegV.p0 rfl rfl rfl ?_
                      refine RegV.nil0 ?_
                      refine AWc.cond rfl (fun _ => ?_) (fun hc => by cases hc)
                      refine AWc.seq ?_
                      refine AWc.rg hmix rfl rfl ?_
                      refine RegV.p0 rfl rfl rfl ?_
                      refine RegV.nil0 ?_
                      cases h231
                      dsimp only at h
                      have hr := Option.some.inj h
                      subst hr
                      exact AWc.ret (canQ (N := 153) (k := 0) (l' := [(4, (.d (.bool false)))]) (H' := []) rfl ⟨rfl, [], [], rfl, rfl, ⟨⟨_, rfl, (.refl _)⟩, rfl, trivial⟩,  trivial⟩ (doneA (.inr rfl) rfl ⟨trivial, trivial⟩ (.refl _) hasNil))
                    · have h231 := cond_neg c278 h231
                      refine RegV.p0 rfl rfl rfl ?_
                      refine RegV.len (xs := r257) (e := TPair.enc) rfl rfl rfl rfl ?_
                      refine RegV.p0 rfl rfl rfl ?_
                      refine RegV.len (xs := a0) (e := TPair.enc) rfl rfl rfl rfl ?_
                      refine RegV.p0 (v := (.d (.int .i64 (IntKind.i64.wrap (((a0.length : Nat) : Int) - (1 : Int)))))) rfl rfl rfl ?_
                      refine RegV.p0 rfl rfl rfl ?_
                      refine RegV.p0 (v := (.d (.int .i64 (IntKind.i64.wrap ((IntKind.i64.wrap (((a0.length : Nat) : Int) - (1 : Int))) - y231_2))))) rfl rfl rfl ?_
                      refine RegV.p0 (v := (.d (.bool (decide (((r257.length : Nat) : Int) ≠ (IntKind.i64.wrap ((IntKind.i64.wrap (((a0.length : Nat) : Int) - (1 : Int))) - y231_2))))))) rfl rfl rfl ?_
                      refine RegV.p0 rfl rfl rfl ?_
                      refine RegV.nil0 ?_
                      refine AWc.cond rfl (fun c288 => ?_) (fun c288 => ?_)
                      · have h231 := cond_pos c288 h231
                        refine AWc.seq ?_
                        refine AWc.rg hmix rfl rfl ?_
                        refine RegV.p0 rfl rfl rfl ?_
                        refine RegV.nil0 ?_
                        cases h231
                        dsimp only at h
                        have hr := Option.some.inj h
                        subst hr
                        exact AWc.ret (canQ (N := 153) (k := 0) (l' := [(4, (.d (.bool false)))]) (H' := []) rfl ⟨rfl, [], [], rfl, rfl, ⟨⟨_, rfl, (.refl _)⟩, rfl, trivial⟩,  trivial⟩ (doneA (.inr rfl) rfl ⟨trivial, trivial⟩ (.refl _) hasNil))
                      · have h231 := cond_neg c288 h231
                        refine AWc.skip ?_
                        refine AWc.rg hmix rfl rfl ?_
                        refine RegV.p0 rfl rfl rfl ?_
                        refine RegV.p0 (v := (.d (.int .i64 (IntKind.i64.wrap (y231_2 + (1 : Int)))))) rfl rfl rfl ?_
                        refine RegV.p0 rfl rfl rfl ?_
                        refine RegV.nil0 ?_
                        exact ⟨(r257, (IntKind.i64.wrap (y231_2 + (1 : Int)))), h231, ⟨rfl, [], [], rfl, rfl, ⟨⟨_, rfl, (.refl _)⟩, rfl, ⟨⟨_, rfl, (.refl _)⟩, rfl, ⟨⟨_, rfl, (.refl _)⟩, rfl, trivial⟩⟩⟩,  trivial⟩⟩
                  · have h231 := cond_neg c241 h231
                    cases h231
                    dsimp only at h
                    refine AWc.exit ?_
                    refine inBlk_eq ?_
                    refine AWc.seq ?_
                    refine AWc.rg hmix rfl rfl ?_
                    refine RegV.p0 rfl rfl rfl ?_
                    refine RegV.nil0 ?_
                    have hr := Option.some.inj h
                    subst hr
                    exact AWc.ret (canQ (N := 153) (k := 0) (l' := [(4, (.d (.bool true)))]) (H' := []) rfl ⟨rfl, [], [], rfl, rfl, ⟨⟨_, rfl, (.refl _)⟩, rfl, trivial⟩,  trivial⟩ (doneA (.inr rfl) rfl ⟨trivial, trivial⟩ (.refl _) hasNil))
end Go.Proofs.Abs
