/- Written by gen.py: functions of the program as Lean functions, and that the code comes to them. -/
import Derived.Test.YtnhjiioiejpbgaaDoorGJbb
set_option linter.unusedVariables false
set_option linter.unusedSimpArgs false
set_option maxRecDepth 100000
set_option maxHeartbeats 4000000
namespace Go.Proofs.Abs
open Go
/-- courant/courantref02.print -/
def C355 (N : Nat → Nat) : AFunc := { n := 63, params := 1, res := [.tmp 2], body :=
 (.seq (.region false [⟨some 1, .box (.t 0), none, []⟩,
 ⟨some 2, .mv (.k (.d (.str []))), none, []⟩])
 (.seq (.seq (.region false [⟨some 5, .faddr (.t 1) 0, none, []⟩,
 ⟨some 6, .load (.t 5) 1 false, none, [0]⟩])
    (.block 0 (.seq (.region false [⟨some 8, .bin .eql (.t 6) (.k (.d (.int .i64 1))), none, []⟩,
 ⟨some 7, .mv (.t 8), none, [0]⟩])
      (.cond (.t 7) (.seq (.region false [⟨some 2, .mv (.k (.d (.str [110, 117, 108, 108]))), none, []⟩])
        .ret)
 (.seq (.region false [⟨some 10, .bin .eql (.t 6) (.k (.d (.int .i64 2))), none, []⟩,
 ⟨some 9, .mv (.t 10), none, [0]⟩])
        (.cond (.t 9) (.seq (.region false [⟨some 2, .mv (.k (.d (.str [102, 97, 108, 115, 101]))), none, []⟩])
          .ret)
 (.seq (.region false [⟨some 12, .bin .eql (.t 6) (.k (.d (.int .i64 3))), none, []⟩,
 ⟨some 11, .mv (.t 12), none, [0]⟩])
          (.cond (.t 11) (.seq (.region false [⟨some 2, .mv (.k (.d (.str [116, 114, 117, 101]))), none, []⟩])
            .ret)
 (.seq (.region false [⟨some 14, .bin .eql (.t 6) (.k (.d (.int .i64 4))), none, []⟩,
 ⟨some 13, .mv (.t 14), none, [0]⟩])
            (.cond (.t 13) (.seq (.region false [⟨some 15, .faddr (.t 1) 1, none, []⟩,
 ⟨some 16, .load (.t 15) 1 false, none, [0]⟩,
 ⟨some 2, .mv (.t 16), none, [1, 0]⟩])
              .ret)
 (.seq (.region false [⟨some 18, .bin .eql (.t 6) (.k (.d (.int .i64 5))), none, []⟩,
 ⟨some 17, .mv (.t 18), none, [0]⟩])
              (.cond (.t 17) (.seq (.region false [⟨some 19, .faddr (.t 1) 1, none, []⟩,
 ⟨some 20, .load (.t 19) 1 false, none, [0]⟩,
 ⟨some 21, .call (.k (.d (.fn (N 356)))) [(.t 20)], none, [1]⟩,
 ⟨some 2, .mv (.t 21), none, [2, 0, 1]⟩])
                .ret)
               (.skip)))))))))))))
 (.seq (.region false [⟨some 3, .mv (.k (.d (.str [91]))), none, []⟩])
 (.seq (.seq (.region false [⟨some 22, .faddr (.t 1) 0, none, []⟩,
 ⟨some 23, .load (.t 22) 1 false, none, [0]⟩,
 ⟨some 24, .bin .eql (.t 23) (.k (.d (.int .i64 7))), none, [1]⟩])
      (.cond (.t 24) (.region false [⟨some 3, .mv (.k (.d (.str [123]))), none, []⟩])
       (.skip)))
 (.seq (.seq (.region false [⟨some 4, .mv (.k (.d (.int .i64 0))), none, []⟩])
       (.block 1 (.loop (.seq (.seq (.region false [⟨some 25, .mv (.t 4), none, []⟩,
 ⟨some 26, .faddr (.t 1) 2, none, []⟩,
 ⟨some 27, .load (.t 26) 1 false, none, [1]⟩,
 ⟨some 28, .len (.t 27), none, [2]⟩,
 ⟨some 29, .bin .lss (.t 25) (.t 28), none, [0, 3]⟩])
           (.cond (.t 29) (.skip)
            (.exit 1)))
 (.seq (.block 2 (.seq (.seq (.region false [⟨some 32, .mv (.t 4), none, []⟩,
 ⟨some 33, .bin .gtr (.t 32) (.k (.d (.int .i64 0))), none, [0]⟩])
              (.cond (.t 33) (.region false [⟨some 34, .mv (.t 3), none, []⟩,
 ⟨some 35, .bin .add (.t 34) (.k (.d (.str [44]))), none, [0]⟩,
 ⟨some 3, .mv (.t 35), none, [1, 0]⟩])
               (.skip)))
 (.seq (.seq (.region false [⟨some 36, .faddr (.t 1) 0, none, []⟩,
 ⟨some 37, .load (.t 36) 1 false, none, [0]⟩,
 ⟨some 38, .bin .eql (.t 37) (.k (.d (.int .i64 7))), none, [1]⟩])
               (.cond (.t 38) (.region false [⟨some 39, .mv (.t 3), none, []⟩,
 ⟨some 40, .faddr (.t 1) 3, none, []⟩,
 ⟨some 41, .load (.t 40) 1 false, none, [1]⟩,
 ⟨some 42, .mv (.t 4), none, []⟩,
 ⟨some 43, .iaddr (.t 41) (.t 42) 1, none, [2, 3]⟩,
 ⟨some 44, .load (.t 43) 1 false, none, [4]⟩,
 ⟨some 45, .call (.k (.d (.fn (N 356)))) [(.t 44)], none, [5]⟩,
 ⟨some 46, .bin .add (.t 39) (.t 45), none, [0, 6]⟩,
 ⟨some 47, .bin .add (.t 46) (.k (.d (.str [58]))), none, [7]⟩,
 ⟨some 3, .mv (.t 47), none, [8, 6, 0, 1, 2, 3, 4, 5, 7]⟩])
                (.skip)))
              (.region false [⟨some 48, .mv (.t 3), none, []⟩,
 ⟨some 49, .faddr (.t 1) 2, none, []⟩,
 ⟨some 50, .load (.t 49) 1 false, none, [1]⟩,
 ⟨some 51, .mv (.t 4), none, []⟩,
 ⟨some 52, .iaddr (.t 50) (.t 51) 4, none, [2, 3]⟩,
 ⟨some 53, .load (.t 52) 4 true, none, [4]⟩,
 ⟨some 54, .call (.k (.d (.fn (N 355)))) [(.t 53)], none, [5]⟩,
 ⟨some 55, .bin .add (.t 48) (.t 54), none, [0, 6]⟩,
 ⟨some 3, .mv (.t 55), none, [7, 6, 0, 1, 2, 3, 4, 5]⟩]))))
           (.region false [⟨some 30, .mv (.t 4), none, []⟩,
 ⟨some 31, .bin .add (.t 30) (.k (.d (.int .i64 1))), none, [0]⟩,
 ⟨some 4, .mv (.t 31), none, [1, 0]⟩]))))))
 (.seq (.seq (.region false [⟨some 56, .faddr (.t 1) 0, none, []⟩,
 ⟨some 57, .load (.t 56) 1 false, none, [0]⟩,
 ⟨some 58, .bin .eql (.t 57) (.k (.d (.int .i64 7))), none, [1]⟩])
        (.cond (.t 58) (.seq (.region false [⟨some 59, .mv (.t 3), none, []⟩,
 ⟨some 60, .bin .add (.t 59) (.k (.d (.str [125]))), none, [0]⟩,
 ⟨some 2, .mv (.t 60), none, [1, 0]⟩])
          .ret)
         (.skip)))
 (.seq (.region false [⟨some 61, .mv (.t 3), none, []⟩,
 ⟨some 62, .bin .add (.t 61) (.k (.d (.str [93]))), none, [0]⟩,
 ⟨some 2, .mv (.t 62), none, [1, 0]⟩])
        .ret))))))) }
def HC355 (P : Program) (N : Nat → Nat) : Prop := HasF P (N 355) (C355 N) ∧ HC356 P N
def f355_j161 (k : Nat) (a0 : TJson) (j161_1 : (List UInt8)) : Option (List UInt8) := cond (decide (a0.fKind = (7 : Int))) (gd (j161_1.length + ([125] : List UInt8).length ≤ 9223372036854775807) (some (j161_1 ++ ([125] : List UInt8)))) (gd (j161_1.length + ([93] : List UInt8).length ≤ 9223372036854775807) (some (j161_1 ++ ([93] : List UInt8))))
def f355_j145 (L : (List UInt8) → Int → Option (LR2 (List UInt8) Unit (List UInt8))) (k : Nat) (y95_2 : Int) (a0 : TJson) (rc355 : TJson → Option (List UInt8)) (j145_1 : (List UInt8)) : Option (LR2 (List UInt8) Unit (List UInt8)) := gd (0 ≤ y95_2 ∧ y95_2 < ((a0.fL.length : Nat) : Int)) ((TJson.dec (rtE (rd a0.fL y95_2))).bind fun rx151 => (rc355 rx151).bind fun r153 => gd (j145_1.length + r153.length ≤ 9223372036854775807) (L (j145_1 ++ r153) (IntKind.i64.wrap (y95_2 + (1 : Int)))))
def f355_j124 (L : (List UInt8) → Int → Option (LR2 (List UInt8) Unit (List UInt8))) (k : Nat) (a0 : TJson) (y95_2 : Int) (rc355 : TJson → Option (List UInt8)) (j124_1 : (List UInt8)) : Option (LR2 (List UInt8) Unit (List UInt8)) := cond (decide (a0.fKind = (7 : Int))) (gd (0 ≤ y95_2 ∧ y95_2 < ((a0.fKeys.length : Nat) : Int)) ((f356 k (rd a0.fKeys y95_2)).bind fun r140 => gd (j124_1.length + r140.length ≤ 9223372036854775807) (gd ((j124_1 ++ r140).length + ([58] : List UInt8).length ≤ 9223372036854775807) (f355_j145 (L) k y95_2 a0 rc355 ((j124_1 ++ r140) ++ ([58] : List UInt8)))))) (f355_j145 (L) k y95_2 a0 rc355 j124_1)
def f355_l95 (a0 : TJson) (rc355 : TJson → Option (List UInt8)) : Nat → (List UInt8) → Int → Option (LR2 (List UInt8) Unit (List UInt8))
  | 0, _, _ => none
  | k + 1, y95_1, y95_2 => cond (decide (y95_2 < ((a0.fL.length : Nat) : Int))) (cond (decide (y95_2 > (0 : Int))) (gd (y95_1.length + ([44] : List UInt8).length ≤ 9223372036854775807) (f355_j124 (f355_l95 a0 rc355 k) k a0 y95_2 rc355 (y95_1 ++ ([44] : List UInt8)))) (f355_j124 (f355_l95 a0 rc355 k) k a0 y95_2 rc355 y95_1)) (some (.b0 y95_1))
def f355_j90 (k : Nat) (a0 : TJson) (rc355 : TJson → Option (List UInt8)) (j90_1 : (List UInt8)) : Option (List UInt8) := (f355_l95 a0 rc355 k j90_1 (0 : Int)).bind fun o95 => (match o95 with | .b0 x95_1 => f355_j161 k a0 x95_1 | _ => none)
def f355_s (rc355 : TJson → Option (List UInt8)) (k : Nat) (a0 : TJson) : Option (List UInt8) := cond (decide (a0.fKind = (1 : Int))) (some ([110, 117, 108, 108] : List UInt8)) (cond (decide (a0.fKind = (2 : Int))) (some ([102, 97, 108, 115, 101] : List UInt8)) (cond (decide (a0.fKind = (3 : Int))) (some ([116, 114, 117, 101] : List UInt8)) (cond (decide (a0.fKind = (4 : Int))) (some a0.fText) (cond (decide (a0.fKind = (5 : Int))) ((f356 k a0.fText).bind fun r70 => some r70) (cond (decide (a0.fKind = (7 : Int))) (f355_j90 k a0 rc355 ([123] : List UInt8)) (f355_j90 k a0 rc355 ([91] : List UInt8)))))))
theorem F355_s {P : Program} {N : Nat → Nat} (hmix : P.follows .mixedOrders = true) (hc : HC355 P N) {rc355 : TJson → Option (List UInt8)} (hrc355 : RH355 P N rc355) {k : Nat} {a0 : TJson} {r : (List UInt8)} (h : f355_s rc355 k a0 = some r) :
    ACalls P (N 355) [(.d (TJson.enc a0))] [] (.d (.str r)) [] := by
  refine acalls_canon (F := C355 N) hc.1 0 0 rfl ?_
  unfold f355_s at h
  dsimp only [C355, startL]
  refine AWc.seq (AWc.rE hmix [] ?_)
  refine AWc.seq (AWc.seq (AWc.rE hmix [] ?_))
  refine AWc.block (AWc.seq (AWc.rE hmix [] ?_))
  rcases cc h with ⟨c18, h⟩ | ⟨c18, h⟩
  · refine AWc.cT c18 ?_
    refine AWc.seq (AWc.rE hmix [] ?_)
    have hr := Option.some.inj h
    subst hr
    exact AWc.ret (canQ (N := 63) (k := 0) (l' := [(2, (.d (.str ([110, 117, 108, 108] : List UInt8))))]) (H' := []) rfl (inT [] []) (doneA (.inr rfl) rfl ⟨trivial, trivial⟩ (.refl _) hasNil))
  · refine AWc.cF c18 ?_
    refine AWc.seq (AWc.rE hmix [] ?_)
    rcases cc h with ⟨c29, h⟩ | ⟨c29, h⟩
    · refine AWc.cT c29 ?_
      refine AWc.seq (AWc.rE hmix [] ?_)
      have hr := Option.some.inj h
      subst hr
      exact AWc.ret (canQ (N := 63) (k := 0) (l' := [(2, (.d (.str ([102, 97, 108, 115, 101] : List UInt8))))]) (H' := []) rfl (inT [] []) (doneA (.inr rfl) rfl ⟨trivial, trivial⟩ (.refl _) hasNil))
    · refine AWc.cF c29 ?_
      refine AWc.seq (AWc.rE hmix [] ?_)
      rcases cc h with ⟨c40, h⟩ | ⟨c40, h⟩
      · refine AWc.cT c40 ?_
        refine AWc.seq (AWc.rE hmix [] ?_)
        have hr := Option.some.inj h
        subst hr
        exact AWc.ret (canQ (N := 63) (k := 0) (l' := [(2, (.d (.str ([116, 114, 117, 101] : List UInt8))))]) (H' := []) rfl (inT [] []) (doneA (.inr rfl) rfl ⟨trivial, trivial⟩ (.refl _) hasNil))
      · refine AWc.cF c40 ?_
        refine AWc.seq (AWc.rE hmix [] ?_)
        rcases cc h with ⟨c51, h⟩ | ⟨c51, h⟩
        · refine AWc.cT c51 ?_
          refine AWc.seq (AWc.rE hmix [] ?_)
          have hr := Option.some.inj h
          subst hr
          exact AWc.ret (canQ (N := 63) (k := 0) (l' := [(2, (.d (.str a0.fText)))]) (H' := []) rfl (inT [] []) (doneA (.inr rfl) rfl ⟨trivial, trivial⟩ (.refl _) hasNil))
        · refine AWc.cF c51 ?_
          refine AWc.seq (AWc.rE hmix [] ?_)
          rcases cc h with ⟨c64, h⟩ | ⟨c64, h⟩
          · refine AWc.cT c64 ?_
            refine AWc.seq ?_
            obtain ⟨r70, e70, h⟩ := bind_some h
            refine AWc.rE hmix [.call (F356 hmix hc.2 e70) [] 0] ?_
            have hr := Option.some.inj h
            subst hr
            exact AWc.ret (canQ (N := 63) (k := 0) (l' := [(2, (.d (.str r70)))]) (H' := []) rfl (inT [] []) (doneA (.inr rfl) rfl ⟨trivial, trivial⟩ (.refl _) hasNil))
          · refine AWc.cF c64 ?_
            refine AWc.skip (AWc.seq (AWc.rE hmix [] ?_))
            refine AWc.seqS (N := 63) 1 (fun (z : (List UInt8)) => [(1, (.ptr 0 0)), (3, (.d (.str z)))]) (fun z => [(0, (.cells [(.d (.int .i64 a0.fKind)), (.d (.str a0.fText)), (.d (.sl (List.map (rtE (z := 4)) a0.fL))), (.d (.sl (List.map D.str a0.fKeys)))]))]) (fun z => f355_j90 k a0 rc355 z = some r) rfl_le ?_ ?_
            · refine AWc.seq (AWc.rE hmix [] ?_)
              rcases cc h with ⟨c85, h⟩ | ⟨c85, h⟩
              · refine AWc.cT c85 ?_
                refine AWc.rE hmix [] ?_
                exact ⟨([123] : List UInt8), h, (inT [] [])⟩
              · refine AWc.cF c85 ?_
                refine AWc.skip ?_
                exact ⟨([91] : List UInt8), h, (inT [] [])⟩
            · intro j90_1 h
              unfold f355_j90 at h
              refine AWc.seqS (N := 63) 1 (fun (z : (List UInt8)) => [(1, (.ptr 0 0)), (3, (.d (.str z)))]) (fun z => [(0, (.cells [(.d (.int .i64 a0.fKind)), (.d (.str a0.fText)), (.d (.sl (List.map (rtE (z := 4)) a0.fL))), (.d (.sl (List.map D.str a0.fKeys)))]))]) (fun z => f355_j161 k a0 z = some r) rfl_le ?_ ?_
              · refine AWc.seq (AWc.rE hmix [] ?_)
                obtain ⟨o95, h95, h⟩ := bind_some h
                refine AWc.block ?_
                refine AWc.loopK (N := 63) 1 (fun (x : ((List UInt8) × Int)) => [(1, (.ptr 0 0)), (3, (.d (.str x.1))), (4, (.d (.int .i64 x.2)))]) (fun x => [(0, (.cells [(.d (.int .i64 a0.fKind)), (.d (.str a0.fText)), (.d (.sl (List.map (rtE (z := 4)) a0.fL))), (.d (.sl (List.map D.str a0.fKeys)))]))]) (fun k x => f355_l95 a0 rc355 k x.1 x.2 = some o95) k (j90_1, (0 : Int)) rfl_le (fun x hx => by cases hx) h95 (inT [] []) ?_
                clear h95
                intro k
                rintro ⟨y95_1, y95_2⟩ h95
                dsimp only at h95 ⊢
                rw [f355_l95] at h95
                refine AWc.seq (AWc.seq (AWc.rE hmix [.ln (rtE (z := 4)) a0.fL] ?_))
                rcases cc h95 with ⟨c106, h95⟩ | ⟨c106, h95⟩
                · refine AWc.cT c106 ?_
                  refine AWc.skip (AWc.seq (AWc.block ?_))
                  refine AWc.seqS (N := 63) 1 (fun (z : (List UInt8)) => [(1, (.ptr 0 0)), (3, (.d (.str z))), (4, (.d (.int .i64 y95_2)))]) (fun z => [(0, (.cells [(.d (.int .i64 a0.fKind)), (.d (.str a0.fText)), (.d (.sl (List.map (rtE (z := 4)) a0.fL))), (.d (.sl (List.map D.str a0.fKeys)))]))]) (fun z => f355_j124 (f355_l95 a0 rc355 k) k a0 y95_2 rc355 z = some o95) rfl_le ?_ ?_
                  · refine AWc.seq (AWc.rE hmix [] ?_)
                    rcases cc h95 with ⟨c117, h95⟩ | ⟨c117, h95⟩
                    · refine AWc.cT c117 ?_
                      obtain ⟨b121, h95⟩ := gd_some h95
                      refine AWc.rE hmix [.sd b121] ?_
                      exact ⟨(y95_1 ++ ([44] : List UInt8)), h95, (inT [] [])⟩
                    · refine AWc.cF c117 ?_
                      refine AWc.skip ?_
                      exact ⟨y95_1, h95, (inT [] [])⟩
                  · intro j124_1 h95
                    unfold f355_j124 at h95
                    refine AWc.seqS (N := 63) 1 (fun (z : (List UInt8)) => [(1, (.ptr 0 0)), (3, (.d (.str z))), (4, (.d (.int .i64 y95_2)))]) (fun z => [(0, (.cells [(.d (.int .i64 a0.fKind)), (.d (.str a0.fText)), (.d (.sl (List.map (rtE (z := 4)) a0.fL))), (.d (.sl (List.map D.str a0.fKeys)))]))]) (fun z => f355_j145 (f355_l95 a0 rc355 k) k y95_2 a0 rc355 z = some o95) rfl_le ?_ ?_
                    · refine AWc.seq (AWc.rE hmix [] ?_)
                      rcases cc h95 with ⟨c131, h95⟩ | ⟨c131, h95⟩
                      · refine AWc.cT c131 ?_
                        obtain ⟨b138, h95⟩ := gd_some h95
                        obtain ⟨r140, e140, h95⟩ := bind_some h95
                        obtain ⟨b141, h95⟩ := gd_some h95
                        obtain ⟨b142, h95⟩ := gd_some h95
                        refine AWc.rE hmix [.iad D.str a0.fKeys 1 (fun _ => rfl) b138, .call (F356 hmix hc.2 e140) [] 0, .sd b141, .sd b142] ?_
                        exact ⟨((j124_1 ++ r140) ++ ([58] : List UInt8)), h95, (inT [] [])⟩
                      · refine AWc.cF c131 ?_
                        refine AWc.skip ?_
                        exact ⟨j124_1, h95, (inT [] [])⟩
                    · intro j145_1 h95
                      unfold f355_j145 at h95
                      obtain ⟨b151, h95⟩ := gd_some h95
                      obtain ⟨rx151, ex151, h95⟩ := bind_some h95
                      obtain ⟨r153, e153, h95⟩ := bind_some h95
                      obtain ⟨b154, h95⟩ := gd_some h95
                      refine AWc.rE hmix [.iadE (rtE (z := 4)) a0.fL 4 rtE_ok.len b151 (TJson.dec_eq ex151), .call (hrc355 _ _ e153) [] 0, .sd b154] ?_
                      refine AWc.rE hmix [] ?_
                      exact ⟨((j145_1 ++ r153), (IntKind.i64.wrap (y95_2 + (1 : Int)))), h95, (inT [] [])⟩
                · refine AWc.cF c106 ?_
                  cases h95
                  dsimp only at h
                  refine AWc.exit ?_
                  refine inBlk_eq ?_
                  exact ⟨y95_1, h, (inT [] [])⟩
              · intro j161_1 h
                unfold f355_j161 at h
                refine AWc.seq (AWc.seq (AWc.rE hmix [] ?_))
                rcases cc h with ⟨c168, h⟩ | ⟨c168, h⟩
                · refine AWc.cT c168 ?_
                  refine AWc.seq ?_
                  obtain ⟨b173, h⟩ := gd_some h
                  refine AWc.rE hmix [.sd b173] ?_
                  have hr := Option.some.inj h
                  subst hr
                  exact AWc.ret (canQ (N := 63) (k := 0) (l' := [(2, (.d (.str (j161_1 ++ ([125] : List UInt8)))))]) (H' := []) rfl (inT [] []) (doneA (.inr rfl) rfl ⟨trivial, trivial⟩ (.refl _) hasNil))
                · refine AWc.cF c168 ?_
                  refine AWc.skip (AWc.seq ?_)
                  obtain ⟨b181, h⟩ := gd_some h
                  refine AWc.rE hmix [.sd b181] ?_
                  have hr := Option.some.inj h
                  subst hr
                  exact AWc.ret (canQ (N := 63) (k := 0) (l' := [(2, (.d (.str (j161_1 ++ ([93] : List UInt8)))))]) (H' := []) rfl (inT [] []) (doneA (.inr rfl) rfl ⟨trivial, trivial⟩ (.refl _) hasNil))
def f355 : Nat → TJson → Option (List UInt8)
  | 0, _ => none
  | k + 1, a0 => f355_s (f355 k) k a0
theorem F355 {P : Program} {N : Nat → Nat} (hmix : P.follows .mixedOrders = true) (hc : HC355 P N) {k : Nat} {a0 : TJson} {r : (List UInt8)} (h : f355 k a0 = some r) :
    ACalls P (N 355) [(.d (TJson.enc a0))] [] (.d (.str r)) [] := by
  induction k generalizing a0 r with
  | zero => exact absurd (show (none : Option _) = some r from h) (fun h2 => by cases h2)
  | succ k ih => exact F355_s hmix hc (fun _ _ h => ih h) h
/-- courant/courantref02.Print -/
def C354 (N : Nat → Nat) : AFunc := { n := 8, params := 1, res := [.tmp 2], body :=
 (.seq (.region false [⟨some 1, .box (.t 0), none, []⟩,
 ⟨some 2, .mv (.k (.d (.str []))), none, []⟩])
 (.seq (.seq (.region false [⟨some 3, .load (.t 1) 4 true, none, []⟩,
 ⟨some 4, .call (.k (.d (.fn (N 347)))) [(.t 3)], none, [0]⟩,
 ⟨some 5, .un .not (.t 4), none, [1]⟩])
    (.cond (.t 5) (.seq (.region false [⟨some 2, .mv (.k (.d (.str []))), none, []⟩])
      .ret)
     (.skip)))
 (.seq (.region false [⟨some 6, .load (.t 1) 4 true, none, []⟩,
 ⟨some 7, .call (.k (.d (.fn (N 355)))) [(.t 6)], none, [0]⟩,
 ⟨some 2, .mv (.t 7), none, [1, 0]⟩])
    .ret))) }
def HC354 (P : Program) (N : Nat → Nat) : Prop := HasF P (N 354) (C354 N) ∧ HC347 P N ∧ HC355 P N
def f354 (k : Nat) (a0 : TJson) : Option (List UInt8) := (f347 k (TJson.mk a0.fKind a0.fText a0.fL a0.fKeys)).bind fun r11 => cond (!r11) (some ([] : List UInt8)) ((f355 k (TJson.mk a0.fKind a0.fText a0.fL a0.fKeys)).bind fun r24 => some r24)
theorem F354 {P : Program} {N : Nat → Nat} (hmix : P.follows .mixedOrders = true) (hc : HC354 P N) {k : Nat} {a0 : TJson} {r : (List UInt8)} (h : f354 k a0 = some r) :
    ACalls P (N 354) [(.d (TJson.enc a0))] [] (.d (.str r)) [] := by
  refine acalls_canon (F := C354 N) hc.1 0 0 rfl ?_
  unfold f354 at h
  dsimp only [C354, startL]
  refine AWc.seq (AWc.rE hmix [] ?_)
  refine AWc.seq (AWc.seq ?_)
  obtain ⟨r11, e11, h⟩ := bind_some h
  refine AWc.rE hmix [.call (F347 hmix hc.2.1 e11) [] 0] ?_
  rcases cc h with ⟨c13, h⟩ | ⟨c13, h⟩
  · refine AWc.cT c13 ?_
    refine AWc.seq (AWc.rE hmix [] ?_)
    have hr := Option.some.inj h
    subst hr
    exact AWc.ret (canQ (N := 8) (k := 0) (l' := [(2, (.d (.str ([] : List UInt8))))]) (H' := []) rfl (inT [] []) (doneA (.inr rfl) rfl ⟨trivial, trivial⟩ (.refl _) hasNil))
  · refine AWc.cF c13 ?_
    refine AWc.skip (AWc.seq ?_)
    obtain ⟨r24, e24, h⟩ := bind_some h
    refine AWc.rE hmix [.call (F355 hmix hc.2.2 e24) [] 0] ?_
    have hr := Option.some.inj h
    subst hr
    exact AWc.ret (canQ (N := 8) (k := 0) (l' := [(2, (.d (.str r24)))]) (H' := []) rfl (inT [] []) (doneA (.inr rfl) rfl ⟨trivial, trivial⟩ (.refl _) hasNil))
/-- courant/courantlaw02.JsonBack -/
def C407 (N : Nat → Nat) : AFunc := { n := 82, params := 2, res := [.tmp 4], body :=
 (.seq (.region false [⟨some 2, .box (.t 0), none, []⟩,
 ⟨some 4, .mv (.k (.d (.bool false))), none, []⟩])
 (.seq (.seq (.region false [⟨some 12, .load (.t 2) 4 true, none, []⟩,
 ⟨some 13, .call (.k (.d (.fn (N 408)))) [(.t 12), (.k (.d (.int .i64 2000)))], none, [0]⟩,
 ⟨some 14, .un .not (.t 13), none, [1]⟩,
 ⟨some 15, .mv (.t 14), none, [2, 1]⟩,
 ⟨some 16, .mv (.t 1), some (15, false), [3]⟩,
 ⟨some 17, .slen (.t 16), some (15, false), [4, 3]⟩,
 ⟨some 18, .bin .gtr (.t 17) (.k (.d (.int .i64 30000))), some (15, false), [5, 3]⟩,
 ⟨some 19, .pick (.t 15) (.k (.d (.bool true))) (.t 18), none, [3, 6]⟩])
    (.cond (.t 19) (.seq (.region false [⟨some 20, .call (.k (.d (.fn (N 395)))) [], none, []⟩,
 ⟨some 4, .mv (.t 20), none, [0]⟩])
      .ret)
     (.skip)))
 (.seq (.region false [⟨some 21, .load (.t 2) 4 true, none, []⟩,
 ⟨some 22, .call (.k (.d (.fn (N 421)))) [(.t 21)], none, [0]⟩,
 ⟨some 5, .mv (.t 22), none, [1, 0]⟩])
 (.seq (.seq (.region false [⟨some 23, .call (.k (.d (.fn (N 395)))) [], none, []⟩,
 ⟨some 24, .un .not (.t 23), none, [0]⟩,
 ⟨some 25, .mv (.t 24), none, [1, 0]⟩,
 ⟨some 26, .mv (.t 5), some (25, false), [2]⟩,
 ⟨some 27, .bin .eql (.t 26) (.k (.d (.str []))), some (25, false), [3, 2]⟩,
 ⟨some 28, .load (.t 2) 4 true, some (25, false), [2]⟩,
 ⟨some 29, .call (.k (.d (.fn (N 347)))) [(.t 28)], some (25, false), [5, 2]⟩,
 ⟨some 30, .beq false (.t 27) (.t 29), some (25, false), [4, 6, 2]⟩,
 ⟨some 31, .pick (.t 25) (.k (.d (.bool true))) (.t 30), none, [2, 7]⟩])
      (.cond (.t 31) (.seq (.region false [⟨some 4, .mv (.k (.d (.bool false))), none, []⟩])
        .ret)
       (.skip)))
 (.seq (.seq (.region false [⟨some 32, .mv (.t 5), none, []⟩,
 ⟨some 33, .bin .neq (.t 32) (.k (.d (.str []))), none, [0]⟩,
 ⟨some 34, .mv (.t 33), none, [1]⟩,
 ⟨some 35, .mv (.t 5), some (34, true), [2]⟩,
 ⟨some 36, .slen (.t 35), some (34, true), [3, 2]⟩,
 ⟨some 37, .bin .leq (.t 36) (.k (.d (.int .i64 20000))), some (34, true), [4, 2]⟩,
 ⟨some 38, .pick (.t 34) (.t 37) (.k (.d (.bool false))), none, [2, 5]⟩])
       (.cond (.t 38) (.seq (.region false [⟨some 40, .mv (.t 5), none, []⟩,
 ⟨some 41, .call (.k (.d (.fn (N 396)))) [(.t 40)], none, [0]⟩,
 ⟨some 39, .mv (.t 41), none, [1]⟩,
 ⟨some 42, .ext (.t 39) 0, none, [2]⟩,
 ⟨some 43, .ext (.t 39) 1, none, [2]⟩,
 ⟨some 6, .alloc [(.int .i64 0), (.str []), (.sl []), (.sl [])], none, []⟩,
 ⟨none, .store (.t 6) (.t 42) 4, none, [5, 3, 1, 0, 2]⟩,
 ⟨some 7, .mv (.t 43), none, [4, 6, 0, 1, 2, 3, 5]⟩])
 (.seq (.region false [⟨some 44, .mv (.t 7), none, []⟩,
 ⟨some 45, .bin .neq (.t 44) (.k (.d (.int .i64 0))), none, [0]⟩,
 ⟨some 46, .mv (.t 45), none, [1]⟩,
 ⟨some 47, .load (.t 2) 4 true, some (46, false), [2]⟩,
 ⟨some 48, .load (.t 6) 4 true, some (46, false), [2]⟩,
 ⟨some 49, .call (.k (.d (.fn (N 437)))) [(.t 47), (.t 48)], some (46, false), [3, 4, 2]⟩,
 ⟨some 50, .un .not (.t 49), some (46, false), [5, 2]⟩,
 ⟨some 51, .pick (.t 46) (.k (.d (.bool true))) (.t 50), none, [2, 6]⟩])
          (.cond (.t 51) (.seq (.region false [⟨some 4, .mv (.k (.d (.bool false))), none, []⟩])
            .ret)
           (.skip))))
        (.skip)))
 (.seq (.region false [⟨some 53, .mv (.t 1), none, []⟩,
 ⟨some 54, .call (.k (.d (.fn (N 396)))) [(.t 53)], none, [0]⟩,
 ⟨some 52, .mv (.t 54), none, [1]⟩,
 ⟨some 55, .ext (.t 52) 0, none, [2]⟩,
 ⟨some 56, .ext (.t 52) 1, none, [2]⟩,
 ⟨some 8, .alloc [(.int .i64 0), (.str []), (.sl []), (.sl [])], none, []⟩,
 ⟨none, .store (.t 8) (.t 55) 4, none, [5, 3, 1, 0, 2]⟩,
 ⟨some 9, .mv (.t 56), none, [4, 6, 0, 1, 2, 3, 5]⟩])
 (.seq (.seq (.region false [⟨some 57, .mv (.t 9), none, []⟩,
 ⟨some 58, .bin .neq (.t 57) (.k (.d (.int .i64 0))), none, [0]⟩])
         (.cond (.t 58) (.seq (.region false [⟨some 4, .mv (.k (.d (.bool true))), none, []⟩])
           .ret)
          (.skip)))
 (.seq (.region false [⟨some 60, .load (.t 8) 4 true, none, []⟩,
 ⟨some 61, .call (.k (.d (.fn (N 421)))) [(.t 60)], none, [0]⟩,
 ⟨some 62, .call (.k (.d (.fn (N 396)))) [(.t 61)], none, [1]⟩,
 ⟨some 59, .mv (.t 62), none, [2]⟩,
 ⟨some 63, .ext (.t 59) 0, none, [3]⟩,
 ⟨some 64, .ext (.t 59) 1, none, [3]⟩,
 ⟨some 10, .alloc [(.int .i64 0), (.str []), (.sl []), (.sl [])], none, []⟩,
 ⟨none, .store (.t 10) (.t 63) 4, none, [6, 4, 2, 0, 1, 3]⟩,
 ⟨some 11, .mv (.t 64), none, [5, 7, 0, 1, 2, 3, 4, 6]⟩])
 (.seq (.region false [⟨some 65, .load (.t 8) 4 true, none, []⟩,
 ⟨some 66, .call (.k (.d (.fn (N 422)))) [(.t 65)], none, [0]⟩,
 ⟨some 67, .mv (.t 66), none, [1]⟩,
 ⟨some 68, .mv (.t 11), some (67, true), [2]⟩,
 ⟨some 69, .bin .eql (.t 68) (.k (.d (.int .i64 0))), some (67, true), [3, 2]⟩,
 ⟨some 70, .mv (.t 69), some (67, true), [4, 2]⟩,
 ⟨some 71, .load (.t 8) 4 true, some (70, true), [5]⟩,
 ⟨some 72, .load (.t 10) 4 true, some (70, true), [5]⟩,
 ⟨some 73, .call (.k (.d (.fn (N 437)))) [(.t 71), (.t 72)], some (70, true), [6, 7, 5]⟩,
 ⟨some 74, .pick (.t 70) (.t 73) (.k (.d (.bool false))), some (67, true), [5, 8, 2]⟩,
 ⟨some 75, .mv (.t 74), some (67, true), [9, 8, 2]⟩,
 ⟨some 76, .load (.t 8) 4 true, some (75, false), [10]⟩,
 ⟨some 77, .call (.k (.d (.fn (N 354)))) [(.t 76)], some (75, false), [11, 10]⟩,
 ⟨some 78, .slen (.t 77), some (75, false), [12, 10]⟩,
 ⟨some 79, .bin .gtr (.t 78) (.k (.d (.int .i64 20000))), some (75, false), [13, 10]⟩,
 ⟨some 80, .pick (.t 75) (.k (.d (.bool true))) (.t 79), some (67, true), [10, 14, 2]⟩,
 ⟨some 81, .pick (.t 67) (.t 80) (.k (.d (.bool false))), none, [2, 15]⟩,
 ⟨some 4, .mv (.t 81), none, [16, 12, 0, 1, 2, 3, 4, 5, 6, 7, 8, 9, 10, 11, 13, 14, 15]⟩])
          .ret))))))))) }
def HC407 (P : Program) (N : Nat → Nat) : Prop := HasF P (N 407) (C407 N) ∧ HC408 P N ∧ HC395 P N ∧ HC421 P N ∧ HC347 P N ∧ HC396 P N ∧ HC437 P N ∧ HC422 P N ∧ HC354 P N
def f407_j94 (k : Nat) (a1 : (List UInt8)) : Option Bool := (f396 k a1).bind fun r98 => cond (decide (r98.1 ≠ (0 : Int))) (some true) ((f421 k (TJson.mk r98.2.1 r98.2.2.1 r98.2.2.2.1 r98.2.2.2.2)).bind fun r122 => (f396 k r122).bind fun r123 => (f422 k (TJson.mk r98.2.1 r98.2.2.1 r98.2.2.2.1 r98.2.2.2.2)).bind fun r134 => cond r134 (cond (decide (r123.1 = (0 : Int))) ((f437 k (TJson.mk r98.2.1 r98.2.2.1 r98.2.2.2.1 r98.2.2.2.2) (TJson.mk r123.2.1 r123.2.2.1 r123.2.2.2.1 r123.2.2.2.2)).bind fun r141 => cond r141 (some true) ((f354 k (TJson.mk r98.2.1 r98.2.2.1 r98.2.2.2.1 r98.2.2.2.2)).bind fun r145 => some (decide (((r145.length : Nat) : Int) > (20000 : Int))))) ((f354 k (TJson.mk r98.2.1 r98.2.2.1 r98.2.2.2.1 r98.2.2.2.2)).bind fun r145 => some (decide (((r145.length : Nat) : Int) > (20000 : Int))))) (some false))
def f407_j63 (k : Nat) (r30 : (List UInt8)) (a0 : TJson) (a1 : (List UInt8)) (j63_1 : Bool) : Option Bool := cond j63_1 ((f396 k r30).bind fun r68 => cond (decide (r68.1 ≠ (0 : Int))) (some false) ((f437 k (TJson.mk a0.fKind a0.fText a0.fL a0.fKeys) (TJson.mk r68.2.1 r68.2.2.1 r68.2.2.2.1 r68.2.2.2.2)).bind fun r83 => cond (!r83) (some false) (f407_j94 k a1))) (f407_j94 k a1)
def f407 (k : Nat) (a0 : TJson) (a1 : (List UInt8)) : Option Bool := (f408 k (TJson.mk a0.fKind a0.fText a0.fL a0.fKeys) (2000 : Int)).bind fun r11 => cond (!r11) ((f395 k).bind fun r22 => some r22) (cond (decide (((a1.length : Nat) : Int) > (30000 : Int))) ((f395 k).bind fun r22 => some r22) ((f421 k (TJson.mk a0.fKind a0.fText a0.fL a0.fKeys)).bind fun r30 => (f395 k).bind fun r36 => cond (!r36) (some false) ((f347 k (TJson.mk a0.fKind a0.fText a0.fL a0.fKeys)).bind fun r42 => cond ((decide (r30 = ([] : List UInt8))) == r42) (some false) (cond (decide (r30 ≠ ([] : List UInt8))) (f407_j63 k r30 a0 a1 (decide (((r30.length : Nat) : Int) ≤ (20000 : Int)))) (f407_j63 k r30 a0 a1 false)))))
theorem F407 {P : Program} {N : Nat → Nat} (hmix : P.follows .mixedOrders = true) (hc : HC407 P N) {k : Nat} {a0 : TJson} {a1 : (List UInt8)} {r : Bool} (h : f407 k a0 a1 = some r) :
    ACalls P (N 407) [(.d (TJson.enc a0)), (.d (.str a1))] [] (.d (.bool r)) [] := by
  refine acalls_canon (F := C407 N) hc.1 0 0 rfl ?_
  unfold f407 at h
  dsimp only [C407, startL]
  refine AWc.seq (AWc.rE hmix [] ?_)
  refine AWc.seq (AWc.seq ?_)
  obtain ⟨r11, e11, h⟩ := bind_some h
  rcases cc h with ⟨c13, h⟩ | ⟨c13, h⟩
  · refine AWc.rE hmix [.call (F408 hmix hc.2.1 e11) [] 0, .br c13] ?_
    refine AWc.cT rfl ?_
    refine AWc.seq ?_
    obtain ⟨r22, e22, h⟩ := bind_some h
    refine AWc.rE hmix [.call (F395 hmix hc.2.2.1 e22) [] 0] ?_
    have hr := Option.some.inj h
    subst hr
    exact AWc.ret (canQ (N := 82) (k := 0) (l' := [(4, (.d (.bool r22)))]) (H' := []) rfl (inT [] []) (doneA (.inr rfl) rfl ⟨trivial, trivial⟩ (.refl _) hasNil))
  · refine AWc.rE hmix [.call (F408 hmix hc.2.1 e11) [] 0, .br c13] ?_
    rcases cc h with ⟨c18, h⟩ | ⟨c18, h⟩
    · refine AWc.cT c18 ?_
      refine AWc.seq ?_
      obtain ⟨r22, e22, h⟩ := bind_some h
      refine AWc.rE hmix [.call (F395 hmix hc.2.2.1 e22) [] 0] ?_
      have hr := Option.some.inj h
      subst hr
      exact AWc.ret (canQ (N := 82) (k := 0) (l' := [(4, (.d (.bool r22)))]) (H' := []) rfl (inT [] []) (doneA (.inr rfl) rfl ⟨trivial, trivial⟩ (.refl _) hasNil))
    · refine AWc.cF c18 ?_
      refine AWc.skip (AWc.seq ?_)
      obtain ⟨r30, e30, h⟩ := bind_some h
      refine AWc.rE hmix [.call (F421 hmix hc.2.2.2.1 e30) [] 0] ?_
      refine AWc.seq (AWc.seq ?_)
      obtain ⟨r36, e36, h⟩ := bind_some h
      rcases cc h with ⟨c38, h⟩ | ⟨c38, h⟩
      · refine AWc.rE hmix [.call (F395 hmix hc.2.2.1 e36) [] 0, .br c38] ?_
        refine AWc.cT rfl ?_
        refine AWc.seq (AWc.rE hmix [] ?_)
        have hr := Option.some.inj h
        subst hr
        exact AWc.ret (canQ (N := 82) (k := 0) (l' := [(4, (.d (.bool false)))]) (H' := []) rfl (inT [] []) (doneA (.inr rfl) rfl ⟨trivial, trivial⟩ (.refl _) hasNil))
      · obtain ⟨r42, e42, h⟩ := bind_some h
        refine AWc.rE hmix [.call (F395 hmix hc.2.2.1 e36) [] 0, .br c38, .call (F347 hmix hc.2.2.2.2.1 e42) [] 0] ?_
        rcases cc h with ⟨c45, h⟩ | ⟨c45, h⟩
        · refine AWc.cT c45 ?_
          refine AWc.seq (AWc.rE hmix [] ?_)
          have hr := Option.some.inj h
          subst hr
          exact AWc.ret (canQ (N := 82) (k := 0) (l' := [(4, (.d (.bool false)))]) (H' := []) rfl (inT [] []) (doneA (.inr rfl) rfl ⟨trivial, trivial⟩ (.refl _) hasNil))
        · refine AWc.cF c45 ?_
          refine AWc.skip ?_
          refine AWc.seqS (N := 82) 0 (fun (z : Unit) => [(1, (.d (.str a1)))]) (fun z => []) (fun z => f407_j94 k a1 = some r) rfl_le ?_ ?_
          · refine AWc.seqS (N := 82) 1 (fun (z : Bool) => [(1, (.d (.str a1))), (2, (.ptr 0 0)), (5, (.d (.str r30))), (38, (.d (.bool z)))]) (fun z => [(0, (.cells [(.d (.int .i64 a0.fKind)), (.d (.str a0.fText)), (.d (.sl (List.map (rtE (z := 4)) a0.fL))), (.d (.sl (List.map D.str a0.fKeys)))]))]) (fun z => f407_j63 k r30 a0 a1 z = some r) rfl_le ?_ ?_
            · rcases cc h with ⟨c58, h⟩ | ⟨c58, h⟩
              · refine AWc.rE hmix [.br c58] ?_
                exact ⟨(decide (((r30.length : Nat) : Int) ≤ (20000 : Int))), h, (inT [] [])⟩
              · refine AWc.rE hmix [.br c58] ?_
                exact ⟨false, h, (inT [] [])⟩
            · intro j63_1 h
              unfold f407_j63 at h
              rcases cc h with ⟨c63, h⟩ | ⟨c63, h⟩
              · refine AWc.cT c63 ?_
                refine AWc.seq ?_
                obtain ⟨r68, e68, h⟩ := bind_some h
                refine AWc.rE hmix [.call (F396 hmix hc.2.2.2.2.2.1 e68) [] 0] ?_
                refine AWc.seq ?_
                rcases cc h with ⟨c80, h⟩ | ⟨c80, h⟩
                · refine AWc.rE hmix [.br c80] ?_
                  refine AWc.cT rfl ?_
                  refine AWc.seq (AWc.rE hmix [] ?_)
                  have hr := Option.some.inj h
                  subst hr
                  exact AWc.ret (canQ (N := 82) (k := 0) (l' := [(4, (.d (.bool false)))]) (H' := []) rfl (inT [] []) (doneA (.inr rfl) rfl ⟨trivial, trivial⟩ (.refl _) hasNil))
                · obtain ⟨r83, e83, h⟩ := bind_some h
                  refine AWc.rE hmix [.br c80, .call (F437 hmix hc.2.2.2.2.2.2.1 e83) [] 0] ?_
                  rcases cc h with ⟨c86, h⟩ | ⟨c86, h⟩
                  · refine AWc.cT c86 ?_
                    refine AWc.seq (AWc.rE hmix [] ?_)
                    have hr := Option.some.inj h
                    subst hr
                    exact AWc.ret (canQ (N := 82) (k := 0) (l' := [(4, (.d (.bool false)))]) (H' := []) rfl (inT [] []) (doneA (.inr rfl) rfl ⟨trivial, trivial⟩ (.refl _) hasNil))
                  · refine AWc.cF c86 ?_
                    refine AWc.skip ?_
                    exact ⟨(), h, (inT [] [])⟩
              · refine AWc.cF c63 ?_
                refine AWc.skip ?_
                exact ⟨(), h, (inT [] [])⟩
          · rintro ⟨⟩ h
            unfold f407_j94 at h
            refine AWc.seq ?_
            obtain ⟨r98, e98, h⟩ := bind_some h
            refine AWc.rE hmix [.call (F396 hmix hc.2.2.2.2.2.1 e98) [] 0] ?_
            refine AWc.seq (AWc.seq (AWc.rE hmix [] ?_))
            rcases cc h with ⟨c111, h⟩ | ⟨c111, h⟩
            · refine AWc.cT c111 ?_
              refine AWc.seq (AWc.rE hmix [] ?_)
              have hr := Option.some.inj h
              subst hr
              exact AWc.ret (canQ (N := 82) (k := 0) (l' := [(4, (.d (.bool true)))]) (H' := []) rfl (inT [] []) (doneA (.inr rfl) rfl ⟨trivial, trivial⟩ (.refl _) hasNil))
            · refine AWc.cF c111 ?_
              refine AWc.skip (AWc.seq ?_)
              obtain ⟨r122, e122, h⟩ := bind_some h
              obtain ⟨r123, e123, h⟩ := bind_some h
              refine AWc.rE hmix [.call (F421 hmix hc.2.2.2.1 e122) [] 0, .call (F396 hmix hc.2.2.2.2.2.1 e123) [] 0] ?_
              refine AWc.seq ?_
              obtain ⟨r134, e134, h⟩ := bind_some h
              rcases cc h with ⟨c135, h⟩ | ⟨c135, h⟩
              · rcases cc h with ⟨c138, h⟩ | ⟨c138, h⟩
                · obtain ⟨r141, e141, h⟩ := bind_some h
                  rcases cc h with ⟨c143, h⟩ | ⟨c143, h⟩
                  · refine AWc.rE hmix [.call (F422 hmix hc.2.2.2.2.2.2.2.1 e134) [] 0, .br c135, .br c138, .call (F437 hmix hc.2.2.2.2.2.2.1 e141) [] 0, .br c143] ?_
                    have hr := Option.some.inj h
                    subst hr
                    exact AWc.ret (canQ (N := 82) (k := 0) (l' := [(4, (.d (.bool true)))]) (H' := []) rfl (inT [] []) (doneA (.inr rfl) rfl ⟨trivial, trivial⟩ (.refl _) hasNil))
                  · obtain ⟨r145, e145, h⟩ := bind_some h
                    refine AWc.rE hmix [.call (F422 hmix hc.2.2.2.2.2.2.2.1 e134) [] 0, .br c135, .br c138, .call (F437 hmix hc.2.2.2.2.2.2.1 e141) [] 0, .br c143, .call (F354 hmix hc.2.2.2.2.2.2.2.2 e145) [] 0] ?_
                    have hr := Option.some.inj h
                    subst hr
                    exact AWc.ret (canQ (N := 82) (k := 0) (l' := [(4, (.d (.bool (decide (((r145.length : Nat) : Int) > (20000 : Int))))))]) (H' := []) rfl (inT [] []) (doneA (.inr rfl) rfl ⟨trivial, trivial⟩ (.refl _) hasNil))
                · obtain ⟨r145, e145, h⟩ := bind_some h
                  refine AWc.rE hmix [.call (F422 hmix hc.2.2.2.2.2.2.2.1 e134) [] 0, .br c135, .br c138, .br (rfl : false = false), .call (F354 hmix hc.2.2.2.2.2.2.2.2 e145) [] 0] ?_
                  have hr := Option.some.inj h
                  subst hr
                  exact AWc.ret (canQ (N := 82) (k := 0) (l' := [(4, (.d (.bool (decide (((r145.length : Nat) : Int) > (20000 : Int))))))]) (H' := []) rfl (inT [] []) (doneA (.inr rfl) rfl ⟨trivial, trivial⟩ (.refl _) hasNil))
              · refine AWc.rE hmix [.call (F422 hmix hc.2.2.2.2.2.2.2.1 e134) [] 0, .br c135] ?_
                have hr := Option.some.inj h
                subst hr
                exact AWc.ret (canQ (N := 82) (k := 0) (l' := [(4, (.d (.bool false)))]) (H' := []) rfl (inT [] []) (doneA (.inr rfl) rfl ⟨trivial, trivial⟩ (.refl _) hasNil))
end Go.Proofs.Abs
