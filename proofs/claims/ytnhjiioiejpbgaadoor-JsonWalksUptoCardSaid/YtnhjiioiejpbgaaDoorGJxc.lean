/- Written by gen.py: functions of the program as Lean functions, and that the code comes to them. -/
import Derived.Test.YtnhjiioiejpbgaaDoorGJxb
set_option linter.unusedVariables false
set_option linter.unusedSimpArgs false
set_option maxRecDepth 100000
set_option maxHeartbeats 4000000
namespace Go.Proofs.Abs
open Go
/-- courant/json.walk -/
def C477 (N : Nat → Nat) : AFunc := { n := 29, params := 3, res := [.tmp 6], body :=
 (.seq (.region false [⟨(some 3), .box (.t 0), none, []⟩,
   ⟨(some 6), .mv (.k (.d (.bool false))), none, []⟩])
  (.seq (.seq (.region false [⟨(some 9), .mv (.t 2), none, []⟩,
     ⟨(some 10), .mv (.t 1), none, []⟩,
     ⟨(some 11), .load (.t 3) 4 true, none, []⟩,
     ⟨(some 12), .call (.k (.d (.fn (N 441)))) [(.t 11)], none, [2]⟩,
     ⟨(some 13), .call (.t 9) [(.t 10), (.t 12)], none, [0, 1, 3]⟩,
     ⟨(some 14), .un .not (.t 13), none, [4]⟩])
    (.cond (.t 14) (.seq (.region false [⟨(some 6), .mv (.k (.d (.bool false))), none, []⟩])
      .ret)
     (.skip)))
   (.seq (.seq (.region false [⟨(some 15), .faddr (.t 3) 2, none, []⟩,
      ⟨(some 16), .load (.t 15) 1 false, none, [0]⟩,
      ⟨(some 17), .len (.t 16), none, [1]⟩,
      ⟨(some 18), .mv (.k (.d (.int .i64 0))), none, []⟩])
     (.block 0 (.loop (.seq (.region false [⟨(some 19), .bin .lss (.t 18) (.t 17), none, []⟩])
        (.seq (.cond (.t 19) (.skip)
          (.exit 0))
         (.seq (.block 1 (.seq (.region false [⟨(some 20), .iaddr (.t 16) (.t 18) 4, none, []⟩,
             ⟨(some 21), .load (.t 20) 4 true, none, [0]⟩,
             ⟨(some 8), .alloc [(.int .i64 0), (.str []), (.sl []), (.sl [])], none, []⟩,
             ⟨none, .store (.t 8) (.t 21) 4, none, [2, 1, 0]⟩])
            (.seq (.region false [⟨(some 22), .load (.t 8) 4 true, none, []⟩,
              ⟨(some 23), .mv (.t 1), none, []⟩,
              ⟨(some 24), .bin .add (.t 23) (.k (.d (.int .i64 1))), none, [1]⟩,
              ⟨(some 25), .mv (.t 2), none, []⟩,
              ⟨(some 26), .call (.k (.d (.fn (N 477)))) [(.t 22), (.t 24), (.t 25)], none, [0, 2, 3]⟩,
              ⟨(some 27), .un .not (.t 26), none, [4]⟩])
             (.cond (.t 27) (.seq (.region false [⟨(some 6), .mv (.k (.d (.bool false))), none, []⟩])
               .ret)
              (.skip)))))
          (.region false [⟨(some 28), .bin .add (.t 18) (.k (.d (.int .i64 1))), none, []⟩,
           ⟨(some 18), .mv (.t 28), none, [0]⟩])))))))
    (.seq (.region false [⟨(some 6), .mv (.k (.d (.bool true))), none, []⟩])
     .ret)))) }
def HC477v2 (P : Program) (N : Nat → Nat) : Prop := HasF P (N 477) (C477 N) ∧ HC441 P N ∧ HCb476_37v2 P N
def f477v2_l31 (a0 : TJson) (rc477v2 : TJson → Int → Int → Bool → (List Int) → (List (RT 4)) → Option (((List Int) × (List (RT 4))) ⊕ ((List Int) × (List (RT 4))))) (a1 : Int) (a2 : Int) (a3 : Bool) : Nat → Int → (List Int) → (List (RT 4)) → Option (LR2 ((List Int) × (List (RT 4))) Unit (((List Int) × (List (RT 4))) ⊕ ((List Int) × (List (RT 4)))))
  | 0, _, _, _ => none
  | k + 1, y31_1, y31_2, y31_3 => cond (decide (y31_1 < ((a0.fL.length : Nat) : Int))) (gd (0 ≤ y31_1 ∧ y31_1 < ((a0.fL.length : Nat) : Int)) ((TJson.dec (rtE (rd a0.fL y31_1))).bind fun rx46 => (rc477v2 (TJson.mk rx46.fKind rx46.fText rx46.fL rx46.fKeys) (IntKind.i64.wrap (a1 + (1 : Int))) a2 a3 y31_2 y31_3).bind fun or57 => (match or57 with | .inl r57 => some (.r (.inl (r57.1, r57.2))) | .inr r57 => f477v2_l31 a0 rc477v2 a1 a2 a3 k (IntKind.i64.wrap (y31_1 + (1 : Int))) r57.1 r57.2))) (some (.b0 (y31_2, y31_3)))
def f477v2_s (rc477v2 : TJson → Int → Int → Bool → (List Int) → (List (RT 4)) → Option (((List Int) × (List (RT 4))) ⊕ ((List Int) × (List (RT 4))))) (k : Nat) (a0 : TJson) (a1 : Int) (a2 : Int) (a3 : Bool) (a4 : (List Int)) (a5 : (List (RT 4))) : Option (((List Int) × (List (RT 4))) ⊕ ((List Int) × (List (RT 4)))) := (f441 k (TJson.mk a0.fKind a0.fText a0.fL a0.fKeys)).bind fun r13 => (b476_37v2 k a2 a3 a4 a5 a1 (TJson.mk ((TJson.mk a0.fKind a0.fText a0.fL a0.fKeys).fKind) ((TJson.mk a0.fKind a0.fText a0.fL a0.fKeys).fText) r13.1 r13.2)).bind fun or14 => (match or14 with | .inl r14 => some (.inl ((a4 ++ ([a1] : List Int)), (a5 ++ ([(RT.of TJson.ok (TJson.mk (TJson.mk ((TJson.mk a0.fKind a0.fText a0.fL a0.fKeys).fKind) ((TJson.mk a0.fKind a0.fText a0.fL a0.fKeys).fText) r13.1 r13.2).fKind (TJson.mk ((TJson.mk a0.fKind a0.fText a0.fL a0.fKeys).fKind) ((TJson.mk a0.fKind a0.fText a0.fL a0.fKeys).fText) r13.1 r13.2).fText (TJson.mk ((TJson.mk a0.fKind a0.fText a0.fL a0.fKeys).fKind) ((TJson.mk a0.fKind a0.fText a0.fL a0.fKeys).fText) r13.1 r13.2).fL (TJson.mk ((TJson.mk a0.fKind a0.fText a0.fL a0.fKeys).fKind) ((TJson.mk a0.fKind a0.fText a0.fL a0.fKeys).fText) r13.1 r13.2).fKeys))] : List (RT 4))))) | .inr r14 => (f477v2_l31 a0 rc477v2 a1 a2 a3 k (0 : Int) (a4 ++ ([a1] : List Int)) (a5 ++ ([(RT.of TJson.ok (TJson.mk (TJson.mk ((TJson.mk a0.fKind a0.fText a0.fL a0.fKeys).fKind) ((TJson.mk a0.fKind a0.fText a0.fL a0.fKeys).fText) r13.1 r13.2).fKind (TJson.mk ((TJson.mk a0.fKind a0.fText a0.fL a0.fKeys).fKind) ((TJson.mk a0.fKind a0.fText a0.fL a0.fKeys).fText) r13.1 r13.2).fText (TJson.mk ((TJson.mk a0.fKind a0.fText a0.fL a0.fKeys).fKind) ((TJson.mk a0.fKind a0.fText a0.fL a0.fKeys).fText) r13.1 r13.2).fL (TJson.mk ((TJson.mk a0.fKind a0.fText a0.fL a0.fKeys).fKind) ((TJson.mk a0.fKind a0.fText a0.fL a0.fKeys).fText) r13.1 r13.2).fKeys))] : List (RT 4)))).bind fun o31 => (match o31 with | .b0 (x31_1, x31_2) => some (.inr ((x31_1, x31_2))) | .r x => some x | _ => none))
theorem F477v2_0_s {P : Program} {N : Nat → Nat} (hmix : P.follows .mixedOrders = true) (hc : HC477v2 P N) {rc477v2 : TJson → Int → Int → Bool → (List Int) → (List (RT 4)) → Option (((List Int) × (List (RT 4))) ⊕ ((List Int) × (List (RT 4))))} (hrc477v2 : RH477v2 P N rc477v2) {asg0 bd0 : Code} (ha0 : compCode P asg0 = L476_0a N) (hb0 : compCode P bd0 = L476_0b N) {k : Nat} {a0 : TJson} {a1 : Int} {a2 : Int} {a3 : Bool} {a4 : (List Int)} {a5 : (List (RT 4))} {r : ((List Int) × (List (RT 4)))} (h : f477v2_s rc477v2 k a0 a1 a2 a3 a4 a5 = some (.inl r)) :
    ACalls P (N 477) [(.d (TJson.enc a0)), (.d (.int .i64 a1)), (.lf 0)] [(0, (.lp 30 [(3, (.ptr 1 0)), (4, (.ptr 2 0)), (5, (.ptr 3 0)), (6, (.ptr 4 0)), (7, (.ptr 5 0)), (8, (.ptr 7 0))] [14, 15] asg0 bd0 .ready none)), (1, (.cells [(.d (.int .i64 a2))])), (2, (.cells [.nils])), (3, (.cells [.nils])), (4, (.cells [(.d (.bool a3))])), (5, (.cells [(.ap 6 1 (List.map (D.int .i64) a4))])), (6, (.tok ((List.map (D.int .i64) a4).length * 1))), (7, (.cells [(.ap 8 4 (List.map (rtE (z := 4)) a5))])), (8, (.tok ((List.map (rtE (z := 4)) a5).length * 4)))] (.d (.bool false)) [(0, (.lp 30 [(3, (.ptr 1 0)), (4, (.ptr 2 0)), (5, (.ptr 3 0)), (6, (.ptr 4 0)), (7, (.ptr 5 0)), (8, (.ptr 7 0))] [14, 15] asg0 bd0 .done (some .ret))), (1, (.cells [(.d (.int .i64 a2))])), (2, (.cells [.nils])), (3, (.cells [.nils])), (4, (.cells [(.d (.bool false))])), (5, (.cells [(.ap 9 1 (List.map (D.int .i64) r.1))])), (7, (.cells [(.ap 10 4 (List.map (rtE (z := 4)) r.2))])), (9, (.tok ((List.map (D.int .i64) r.1).length * 1))), (10, (.tok ((List.map (rtE (z := 4)) r.2).length * 4)))] := by
  refine acalls_canon (F := C477 N) hc.1 9 11 rfl ?_
  unfold f477v2_s at h
  dsimp only [C477, startL]
  refine AWc.seq ?_
  refine AWc.rg hmix rfl rfl ?_
  refine RegV.evS (own := false) (v := (.ptr 9 0)) (H' := [(9, (.cells [(.d (.int .i64 a0.fKind)), (.d (.str a0.fText)), (.d (.sl (List.map (rtE (z := 4)) a0.fL))), (.d (.sl (List.map D.str a0.fKeys)))])), (0, (.lp 30 [(3, (.ptr 1 0)), (4, (.ptr 2 0)), (5, (.ptr 3 0)), (6, (.ptr 4 0)), (7, (.ptr 5 0)), (8, (.ptr 7 0))] [14, 15] asg0 bd0 .ready none)), (1, (.cells [(.d (.int .i64 a2))])), (2, (.cells [.nils])), (3, (.cells [.nils])), (4, (.cells [(.d (.bool a3))])), (5, (.cells [(.ap 6 1 (List.map (D.int .i64) a4))])), (6, (.tok ((List.map (D.int .i64) a4).length * 1))), (7, (.cells [(.ap 8 4 (List.map (rtE (z := 4)) a5))])), (8, (.tok ((List.map (rtE (z := 4)) a5).length * 4)))]) (c' := 10) rfl rfl trivial rfl rfl rfl rfl rfl rfl ?_
  refine RegV.p0 rfl rfl rfl ?_
  refine RegV.nil0 ?_
  refine AWc.seq ?_
  refine AWc.seq ?_
  refine AWc.rg hmix rfl rfl ?_
  refine RegV.p0 rfl rfl rfl ?_
  refine RegV.p0 rfl rfl rfl ?_
  refine RegV.ld (v := (.d (.agg [(.int .i64 a0.fKind), (.str a0.fText), (.sl (List.map (rtE (z := 4)) a0.fL)), (.sl (List.map D.str a0.fKeys))]))) (H' := [(9, (.cells [(.d (.int .i64 a0.fKind)), (.d (.str a0.fText)), (.d (.sl (List.map (rtE (z := 4)) a0.fL))), (.d (.sl (List.map D.str a0.fKeys)))])), (0, (.lp 30 [(3, (.ptr 1 0)), (4, (.ptr 2 0)), (5, (.ptr 3 0)), (6, (.ptr 4 0)), (7, (.ptr 5 0)), (8, (.ptr 7 0))] [14, 15] asg0 bd0 .ready none)), (1, (.cells [(.d (.int .i64 a2))])), (2, (.cells [.nils])), (3, (.cells [.nils])), (4, (.cells [(.d (.bool a3))])), (5, (.cells [(.ap 6 1 (List.map (D.int .i64) a4))])), (6, (.tok ((List.map (D.int .i64) a4).length * 1))), (7, (.cells [(.ap 8 4 (List.map (rtE (z := 4)) a5))])), (8, (.tok ((List.map (rtE (z := 4)) a5).length * 4)))]) rfl rfl (Nat.le_of_ble_eq_true rfl) rfl rfl rfl rfl rfl ?_
  obtain ⟨r13, e13, h⟩ := bind_some h
  refine RegV.call0 (F441 hmix hc.2.1 e13) rfl rfl rfl rfl (.cons (.refl _) .nil) rfl ?_
  obtain ⟨or14, e14, h⟩ := bind_some h
  rcases or14 with r14 | r14
  · dsimp only at h
    refine RegV.yield (H' := [(0, (.lp 30 [(3, (.ptr 1 0)), (4, (.ptr 2 0)), (5, (.ptr 3 0)), (6, (.ptr 4 0)), (7, (.ptr 5 0)), (8, (.ptr 7 0))] [14, 15] asg0 bd0 .done (some .ret))), (1, (.cells [(.d (.int .i64 a2))])), (2, (.cells [.nils])), (3, (.cells [.nils])), (4, (.cells [(.d (.bool false))])), (5, (.cells [(.ap 10 1 (List.map (D.int .i64) (a4 ++ ([a1] : List Int))))])), (7, (.cells [(.ap 11 4 (List.map (rtE (z := 4)) (a5 ++ ([(RT.of TJson.ok (TJson.mk (TJson.mk ((TJson.mk a0.fKind a0.fText a0.fL a0.fKeys).fKind) ((TJson.mk a0.fKind a0.fText a0.fL a0.fKeys).fText) r13.1 r13.2).fKind (TJson.mk ((TJson.mk a0.fKind a0.fText a0.fL a0.fKeys).fKind) ((TJson.mk a0.fKind a0.fText a0.fL a0.fKeys).fText) r13.1 r13.2).fText (TJson.mk ((TJson.mk a0.fKind a0.fText a0.fL a0.fKeys).fKind) ((TJson.mk a0.fKind a0.fText a0.fL a0.fKeys).fText) r13.1 r13.2).fL (TJson.mk ((TJson.mk a0.fKind a0.fText a0.fL a0.fKeys).fKind) ((TJson.mk a0.fKind a0.fText a0.fL a0.fKeys).fText) r13.1 r13.2).fKeys))] : List (RT 4)))))])), (10, (.tok ((List.map (D.int .i64) (a4 ++ ([a1] : List Int))).length * 1))), (11, (.tok ((List.map (rtE (z := 4)) (a5 ++ ([(RT.of TJson.ok (TJson.mk (TJson.mk ((TJson.mk a0.fKind a0.fText a0.fL a0.fKeys).fKind) ((TJson.mk a0.fKind a0.fText a0.fL a0.fKeys).fText) r13.1 r13.2).fKind (TJson.mk ((TJson.mk a0.fKind a0.fText a0.fL a0.fKeys).fKind) ((TJson.mk a0.fKind a0.fText a0.fL a0.fKeys).fText) r13.1 r13.2).fText (TJson.mk ((TJson.mk a0.fKind a0.fText a0.fL a0.fKeys).fKind) ((TJson.mk a0.fKind a0.fText a0.fL a0.fKeys).fText) r13.1 r13.2).fL (TJson.mk ((TJson.mk a0.fKind a0.fText a0.fL a0.fKeys).fKind) ((TJson.mk a0.fKind a0.fText a0.fL a0.fKeys).fText) r13.1 r13.2).fKeys))] : List (RT 4)))).length * 4))), (9, (.cells [(.d (.int .i64 a0.fKind)), (.d (.str a0.fText)), (.d (.sl (List.map (rtE (z := 4)) a0.fL))), (.d (.sl (List.map D.str a0.fKeys)))]))]) (c' := 12) (show ARound P 0 [(.d (.int .i64 a1)), (.d (TJson.enc (TJson.mk ((TJson.mk a0.fKind a0.fText a0.fL a0.fKeys).fKind) ((TJson.mk a0.fKind a0.fText a0.fL a0.fKeys).fText) r13.1 r13.2)))] [(0, (.lp 30 [(3, (.ptr 1 0)), (4, (.ptr 2 0)), (5, (.ptr 3 0)), (6, (.ptr 4 0)), (7, (.ptr 5 0)), (8, (.ptr 7 0))] [14, 15] asg0 bd0 .ready none)), (1, (.cells [(.d (.int .i64 a2))])), (2, (.cells [.nils])), (3, (.cells [.nils])), (4, (.cells [(.d (.bool a3))])), (5, (.cells [(.ap 6 1 (List.map (D.int .i64) a4))])), (6, (.tok ((List.map (D.int .i64) a4).length * 1))), (7, (.cells [(.ap 8 4 (List.map (rtE (z := 4)) a5))])), (8, (.tok ((List.map (rtE (z := 4)) a5).length * 4)))] (.d (.bool false)) [(0, (.lp 30 [(3, (.ptr 1 0)), (4, (.ptr 2 0)), (5, (.ptr 3 0)), (6, (.ptr 4 0)), (7, (.ptr 5 0)), (8, (.ptr 7 0))] [14, 15] asg0 bd0 .done (some .ret))), (1, (.cells [(.d (.int .i64 a2))])), (2, (.cells [.nils])), (3, (.cells [.nils])), (4, (.cells [(.d (.bool false))])), (5, (.cells [(.ap 10 1 (List.map (D.int .i64) (a4 ++ ([a1] : List Int))))])), (7, (.cells [(.ap 11 4 (List.map (rtE (z := 4)) (a5 ++ ([(RT.of TJson.ok (TJson.mk (TJson.mk ((TJson.mk a0.fKind a0.fText a0.fL a0.fKeys).fKind) ((TJson.mk a0.fKind a0.fText a0.fL a0.fKeys).fText) r13.1 r13.2).fKind (TJson.mk ((TJson.mk a0.fKind a0.fText a0.fL a0.fKeys).fKind) ((TJson.mk a0.fKind a0.fText a0.fL a0.fKeys).fText) r13.1 r13.2).fText (TJson.mk ((TJson.mk a0.fKind a0.fText a0.fL a0.fKeys).fKind) ((TJson.mk a0.fKind a0.fText a0.fL a0.fKeys).fText) r13.1 r13.2).fL (TJson.mk ((TJson.mk a0.fKind a0.fText a0.fL a0.fKeys).fKind) ((TJson.mk a0.fKind a0.fText a0.fL a0.fKeys).fText) r13.1 r13.2).fKeys))] : List (RT 4)))))])), (10, (.tok ((List.map (D.int .i64) (a4 ++ ([a1] : List Int))).length * 1))), (11, (.tok ((List.map (rtE (z := 4)) (a5 ++ ([(RT.of TJson.ok (TJson.mk (TJson.mk ((TJson.mk a0.fKind a0.fText a0.fL a0.fKeys).fKind) ((TJson.mk a0.fKind a0.fText a0.fL a0.fKeys).fText) r13.1 r13.2).fKind (TJson.mk ((TJson.mk a0.fKind a0.fText a0.fL a0.fKeys).fKind) ((TJson.mk a0.fKind a0.fText a0.fL a0.fKeys).fText) r13.1 r13.2).fText (TJson.mk ((TJson.mk a0.fKind a0.fText a0.fL a0.fKeys).fKind) ((TJson.mk a0.fKind a0.fText a0.fL a0.fKeys).fText) r13.1 r13.2).fL (TJson.mk ((TJson.mk a0.fKind a0.fText a0.fL a0.fKeys).fKind) ((TJson.mk a0.fKind a0.fText a0.fL a0.fKeys).fText) r13.1 r13.2).fKeys))] : List (RT 4)))).length * 4)))] from ARound.use (B476_37v2_0 hmix hc.2.2 ha0 hb0 e14) [(0, 0), (1, 1), (2, 2), (3, 3), (4, 4), (5, 5), (6, 6), (7, 7), (8, 8), (9, 10), (10, 11)] 11 rfl) rfl rfl rfl (.cons (.refl _) (.cons (.refl _) .nil)) rfl (hasCons rfl (hasCons rfl (hasCons rfl (hasCons rfl (hasCons rfl (hasCons rfl (hasCons rfl (hasCons rfl (hasCons rfl hasNil))))))))) rfl rfl rfl rfl ?_
    refine RegV.p0 (v := (.d (.bool true))) rfl rfl rfl ?_
    refine RegV.nil0 ?_
    refine AWc.cond rfl (fun _ => ?_) (fun hc => by cases hc)
    refine AWc.seq ?_
    refine AWc.rg hmix rfl rfl ?_
    refine RegV.p0 rfl rfl rfl ?_
    refine RegV.nil0 ?_
    have hr := Option.some.inj h
    have hr := Sum.inl.inj hr
    subst hr
    exact AWc.ret (canQ (N := 29) (k := 11) (l' := [(6, (.d (.bool false)))]) (H' := [(0, (.lp 30 [(3, (.ptr 1 0)), (4, (.ptr 2 0)), (5, (.ptr 3 0)), (6, (.ptr 4 0)), (7, (.ptr 5 0)), (8, (.ptr 7 0))] [14, 15] asg0 bd0 .done (some .ret))), (1, (.cells [(.d (.int .i64 a2))])), (2, (.cells [.nils])), (3, (.cells [.nils])), (4, (.cells [(.d (.bool false))])), (5, (.cells [(.ap 9 1 (List.map (D.int .i64) (a4 ++ ([a1] : List Int))))])), (7, (.cells [(.ap 10 4 (List.map (rtE (z := 4)) (a5 ++ ([(RT.of TJson.ok (TJson.mk (TJson.mk ((TJson.mk a0.fKind a0.fText a0.fL a0.fKeys).fKind) ((TJson.mk a0.fKind a0.fText a0.fL a0.fKeys).fText) r13.1 r13.2).fKind (TJson.mk ((TJson.mk a0.fKind a0.fText a0.fL a0.fKeys).fKind) ((TJson.mk a0.fKind a0.fText a0.fL a0.fKeys).fText) r13.1 r13.2).fText (TJson.mk ((TJson.mk a0.fKind a0.fText a0.fL a0.fKeys).fKind) ((TJson.mk a0.fKind a0.fText a0.fL a0.fKeys).fText) r13.1 r13.2).fL (TJson.mk ((TJson.mk a0.fKind a0.fText a0.fL a0.fKeys).fKind) ((TJson.mk a0.fKind a0.fText a0.fL a0.fKeys).fText) r13.1 r13.2).fKeys))] : List (RT 4)))))])), (9, (.tok ((List.map (D.int .i64) (a4 ++ ([a1] : List Int))).length * 1))), (10, (.tok ((List.map (rtE (z := 4)) (a5 ++ ([(RT.of TJson.ok (TJson.mk (TJson.mk ((TJson.mk a0.fKind a0.fText a0.fL a0.fKeys).fKind) ((TJson.mk a0.fKind a0.fText a0.fL a0.fKeys).fText) r13.1 r13.2).fKind (TJson.mk ((TJson.mk a0.fKind a0.fText a0.fL a0.fKeys).fKind) ((TJson.mk a0.fKind a0.fText a0.fL a0.fKeys).fText) r13.1 r13.2).fText (TJson.mk ((TJson.mk a0.fKind a0.fText a0.fL a0.fKeys).fKind) ((TJson.mk a0.fKind a0.fText a0.fL a0.fKeys).fText) r13.1 r13.2).fL (TJson.mk ((TJson.mk a0.fKind a0.fText a0.fL a0.fKeys).fKind) ((TJson.mk a0.fKind a0.fText a0.fL a0.fKeys).fText) r13.1 r13.2).fKeys))] : List (RT 4)))).length * 4)))]) rfl ⟨rfl, [], [(9, 10), (10, 11)], rfl, rfl, ⟨⟨_, rfl, (.refl _)⟩, rfl, trivial⟩, ⟨⟨_, rfl, (.refl _)⟩, rfl, rfl, ⟨⟨_, rfl, (.refl _)⟩, rfl, rfl, ⟨⟨_, rfl, (.refl _)⟩, rfl, rfl, ⟨⟨_, rfl, (.refl _)⟩, rfl, rfl, ⟨⟨_, rfl, (.refl _)⟩, rfl, rfl, ⟨⟨_, rfl, (.refl _)⟩, rfl, rfl, ⟨⟨_, rfl, (.refl _)⟩, rfl, rfl, ⟨⟨_, rfl, (.refl _)⟩, rfl, rfl, ⟨⟨_, rfl, (.refl _)⟩, rfl, rfl, trivial⟩⟩⟩⟩⟩⟩⟩⟩⟩⟩ (doneA (.inr rfl) rfl ⟨trivial, trivial⟩ (.refl _) (hasCons rfl (hasCons rfl (hasCons rfl (hasCons rfl (hasCons rfl (hasCons rfl (hasCons rfl (hasCons rfl (hasCons rfl hasNil)))))))))))
  · dsimp only at h
    refine RegV.yield (H' := [(0, (.lp 30 [(3, (.ptr 1 0)), (4, (.ptr 2 0)), (5, (.ptr 3 0)), (6, (.ptr 4 0)), (7, (.ptr 5 0)), (8, (.ptr 7 0))] [14, 15] asg0 bd0 .ready none)), (1, (.cells [(.d (.int .i64 a2))])), (2, (.cells [.nils])), (3, (.cells [.nils])), (4, (.cells [(.d (.bool a3))])), (5, (.cells [(.ap 10 1 (List.map (D.int .i64) (a4 ++ ([a1] : List Int))))])), (7, (.cells [(.ap 11 4 (List.map (rtE (z := 4)) (a5 ++ ([(RT.of TJson.ok (TJson.mk (TJson.mk ((TJson.mk a0.fKind a0.fText a0.fL a0.fKeys).fKind) ((TJson.mk a0.fKind a0.fText a0.fL a0.fKeys).fText) r13.1 r13.2).fKind (TJson.mk ((TJson.mk a0.fKind a0.fText a0.fL a0.fKeys).fKind) ((TJson.mk a0.fKind a0.fText a0.fL a0.fKeys).fText) r13.1 r13.2).fText (TJson.mk ((TJson.mk a0.fKind a0.fText a0.fL a0.fKeys).fKind) ((TJson.mk a0.fKind a0.fText a0.fL a0.fKeys).fText) r13.1 r13.2).fL (TJson.mk ((TJson.mk a0.fKind a0.fText a0.fL a0.fKeys).fKind) ((TJson.mk a0.fKind a0.fText a0.fL a0.fKeys).fText) r13.1 r13.2).fKeys))] : List (RT 4)))))])), (10, (.tok ((List.map (D.int .i64) (a4 ++ ([a1] : List Int))).length * 1))), (11, (.tok ((List.map (rtE (z := 4)) (a5 ++ ([(RT.of TJson.ok (TJson.mk (TJson.mk ((TJson.mk a0.fKind a0.fText a0.fL a0.fKeys).fKind) ((TJson.mk a0.fKind a0.fText a0.fL a0.fKeys).fText) r13.1 r13.2).fKind (TJson.mk ((TJson.mk a0.fKind a0.fText a0.fL a0.fKeys).fKind) ((TJson.mk a0.fKind a0.fText a0.fL a0.fKeys).fText) r13.1 r13.2).fText (TJson.mk ((TJson.mk a0.fKind a0.fText a0.fL a0.fKeys).fKind) ((TJson.mk a0.fKind a0.fText a0.fL a0.fKeys).fText) r13.1 r13.2).fL (TJson.mk ((TJson.mk a0.fKind a0.fText a0.fL a0.fKeys).fKind) ((TJson.mk a0.fKind a0.fText a0.fL a0.fKeys).fText) r13.1 r13.2).fKeys))] : List (RT 4)))).length * 4))), (9, (.cells [(.d (.int .i64 a0.fKind)), (.d (.str a0.fText)), (.d (.sl (List.map (rtE (z := 4)) a0.fL))), (.d (.sl (List.map D.str a0.fKeys)))]))]) (c' := 12) (show ARound P 0 [(.d (.int .i64 a1)), (.d (TJson.enc (TJson.mk ((TJson.mk a0.fKind a0.fText a0.fL a0.fKeys).fKind) ((TJson.mk a0.fKind a0.fText a0.fL a0.fKeys).fText) r13.1 r13.2)))] [(0, (.lp 30 [(3, (.ptr 1 0)), (4, (.ptr 2 0)), (5, (.ptr 3 0)), (6, (.ptr 4 0)), (7, (.ptr 5 0)), (8, (.ptr 7 0))] [14, 15] asg0 bd0 .ready none)), (1, (.cells [(.d (.int .i64 a2))])), (2, (.cells [.nils])), (3, (.cells [.nils])), (4, (.cells [(.d (.bool a3))])), (5, (.cells [(.ap 6 1 (List.map (D.int .i64) a4))])), (6, (.tok ((List.map (D.int .i64) a4).length * 1))), (7, (.cells [(.ap 8 4 (List.map (rtE (z := 4)) a5))])), (8, (.tok ((List.map (rtE (z := 4)) a5).length * 4)))] (.d (.bool true)) [(0, (.lp 30 [(3, (.ptr 1 0)), (4, (.ptr 2 0)), (5, (.ptr 3 0)), (6, (.ptr 4 0)), (7, (.ptr 5 0)), (8, (.ptr 7 0))] [14, 15] asg0 bd0 .ready none)), (1, (.cells [(.d (.int .i64 a2))])), (2, (.cells [.nils])), (3, (.cells [.nils])), (4, (.cells [(.d (.bool a3))])), (5, (.cells [(.ap 10 1 (List.map (D.int .i64) (a4 ++ ([a1] : List Int))))])), (7, (.cells [(.ap 11 4 (List.map (rtE (z := 4)) (a5 ++ ([(RT.of TJson.ok (TJson.mk (TJson.mk ((TJson.mk a0.fKind a0.fText a0.fL a0.fKeys).fKind) ((TJson.mk a0.fKind a0.fText a0.fL a0.fKeys).fText) r13.1 r13.2).fKind (TJson.mk ((TJson.mk a0.fKind a0.fText a0.fL a0.fKeys).fKind) ((TJson.mk a0.fKind a0.fText a0.fL a0.fKeys).fText) r13.1 r13.2).fText (TJson.mk ((TJson.mk a0.fKind a0.fText a0.fL a0.fKeys).fKind) ((TJson.mk a0.fKind a0.fText a0.fL a0.fKeys).fText) r13.1 r13.2).fL (TJson.mk ((TJson.mk a0.fKind a0.fText a0.fL a0.fKeys).fKind) ((TJson.mk a0.fKind a0.fText a0.fL a0.fKeys).fText) r13.1 r13.2).fKeys))] : List (RT 4)))))])), (10, (.tok ((List.map (D.int .i64) (a4 ++ ([a1] : List Int))).length * 1))), (11, (.tok ((List.map (rtE (z := 4)) (a5 ++ ([(RT.of TJson.ok (TJson.mk (TJson.mk ((TJson.mk a0.fKind a0.fText a0.fL a0.fKeys).fKind) ((TJson.mk a0.fKind a0.fText a0.fL a0.fKeys).fText) r13.1 r13.2).fKind (TJson.mk ((TJson.mk a0.fKind a0.fText a0.fL a0.fKeys).fKind) ((TJson.mk a0.fKind a0.fText a0.fL a0.fKeys).fText) r13.1 r13.2).fText (TJson.mk ((TJson.mk a0.fKind a0.fText a0.fL a0.fKeys).fKind) ((TJson.mk a0.fKind a0.fText a0.fL a0.fKeys).fText) r13.1 r13.2).fL (TJson.mk ((TJson.mk a0.fKind a0.fText a0.fL a0.fKeys).fKind) ((TJson.mk a0.fKind a0.fText a0.fL a0.fKeys).fText) r13.1 r13.2).fKeys))] : List (RT 4)))).length * 4)))] from ARound.use (B476_37v2_1 hmix hc.2.2 ha0 hb0 e14) [(0, 0), (1, 1), (2, 2), (3, 3), (4, 4), (5, 5), (6, 6), (7, 7), (8, 8), (9, 10), (10, 11)] 11 rfl) rfl rfl rfl (.cons (.refl _) (.cons (.refl _) .nil)) rfl (hasCons rfl (hasCons rfl (hasCons rfl (hasCons rfl (hasCons rfl (hasCons rfl (hasCons rfl (hasCons rfl (hasCons rfl hasNil))))))))) rfl rfl rfl rfl ?_
    refine RegV.p0 (v := (.d (.bool false))) rfl rfl rfl ?_
    refine RegV.nil0 ?_
    refine AWc.cond rfl (fun hc => by cases hc) (fun _ => ?_)
    refine AWc.skip ?_
    refine AWc.seq ?_
    refine AWc.seq ?_
    refine AWc.rg hmix rfl rfl ?_
    refine RegV.p0 (v := (.ptr 9 2)) rfl rfl rfl ?_
    refine RegV.ld (v := (.d (.sl (List.map (rtE (z := 4)) a0.fL)))) (H' := [(9, (.cells [(.d (.int .i64 a0.fKind)), (.d (.str a0.fText)), (.d (.sl (List.map (rtE (z := 4)) a0.fL))), (.d (.sl (List.map D.str a0.fKeys)))])), (0, (.lp 30 [(3, (.ptr 1 0)), (4, (.ptr 2 0)), (5, (.ptr 3 0)), (6, (.ptr 4 0)), (7, (.ptr 5 0)), (8, (.ptr 7 0))] [14, 15] asg0 bd0 .ready none)), (1, (.cells [(.d (.int .i64 a2))])), (2, (.cells [.nils])), (3, (.cells [.nils])), (4, (.cells [(.d (.bool a3))])), (5, (.cells [(.ap 10 1 (List.map (D.int .i64) (a4 ++ ([a1] : List Int))))])), (7, (.cells [(.ap 11 4 (List.map (rtE (z := 4)) (a5 ++ ([(RT.of TJson.ok (TJson.mk (TJson.mk ((TJson.mk a0.fKind a0.fText a0.fL a0.fKeys).fKind) ((TJson.mk a0.fKind a0.fText a0.fL a0.fKeys).fText) r13.1 r13.2).fKind (TJson.mk ((TJson.mk a0.fKind a0.fText a0.fL a0.fKeys).fKind) ((TJson.mk a0.fKind a0.fText a0.fL a0.fKeys).fText) r13.1 r13.2).fText (TJson.mk ((TJson.mk a0.fKind a0.fText a0.fL a0.fKeys).fKind) ((TJson.mk a0.fKind a0.fText a0.fL a0.fKeys).fText) r13.1 r13.2).fL (TJson.mk ((TJson.mk a0.fKind a0.fText a0.fL a0.fKeys).fKind) ((TJson.mk a0.fKind a0.fText a0.fL a0.fKeys).fText) r13.1 r13.2).fKeys))] : List (RT 4)))))])), (10, (.tok ((List.map (D.int .i64) (a4 ++ ([a1] : List Int))).length * 1))), (11, (.tok ((List.map (rtE (z := 4)) (a5 ++ ([(RT.of TJson.ok (TJson.mk (TJson.mk ((TJson.mk a0.fKind a0.fText a0.fL a0.fKeys).fKind) ((TJson.mk a0.fKind a0.fText a0.fL a0.fKeys).fText) r13.1 r13.2).fKind (TJson.mk ((TJson.mk a0.fKind a0.fText a0.fL a0.fKeys).fKind) ((TJson.mk a0.fKind a0.fText a0.fL a0.fKeys).fText) r13.1 r13.2).fText (TJson.mk ((TJson.mk a0.fKind a0.fText a0.fL a0.fKeys).fKind) ((TJson.mk a0.fKind a0.fText a0.fL a0.fKeys).fText) r13.1 r13.2).fL (TJson.mk ((TJson.mk a0.fKind a0.fText a0.fL a0.fKeys).fKind) ((TJson.mk a0.fKind a0.fText a0.fL a0.fKeys).fText) r13.1 r13.2).fKeys))] : List (RT 4)))).length * 4)))]) rfl rfl trivial rfl rfl rfl rfl rfl ?_
    refine RegV.len (xs := a0.fL) (e := (rtE (z := 4))) rfl rfl rfl rfl ?_
    refine RegV.p0 rfl rfl rfl ?_
    refine RegV.nil0 ?_
    obtain ⟨o31, h31, h⟩ := bind_some h
    refine AWc.block ?_
    refine AWc.loopK (N := 29) 11 (fun (x : (Int × (List Int) × (List (RT 4)))) => [(1, (.d (.int .i64 a1))), (2, (.lf 0)), (16, (.d (.sl (List.map (rtE (z := 4)) a0.fL)))), (17, (.d (.int .i64 ((a0.fL.length : Nat) : Int)))), (18, (.d (.int .i64 x.1)))]) (fun x => [(0, (.lp 30 [(3, (.ptr 1 0)), (4, (.ptr 2 0)), (5, (.ptr 3 0)), (6, (.ptr 4 0)), (7, (.ptr 5 0)), (8, (.ptr 7 0))] [14, 15] asg0 bd0 .ready none)), (1, (.cells [(.d (.int .i64 a2))])), (2, (.cells [.nils])), (3, (.cells [.nils])), (4, (.cells [(.d (.bool a3))])), (5, (.cells [(.ap 9 1 (List.map (D.int .i64) x.2.1))])), (7, (.cells [(.ap 10 4 (List.map (rtE (z := 4)) x.2.2))])), (9, (.tok ((List.map (D.int .i64) x.2.1).length * 1))), (10, (.tok ((List.map (rtE (z := 4)) x.2.2).length * 4)))]) (fun k x => f477v2_l31 a0 rc477v2 a1 a2 a3 k x.1 x.2.1 x.2.2 = some o31) k ((0 : Int), (a4 ++ ([a1] : List Int)), (a5 ++ ([(RT.of TJson.ok (TJson.mk (TJson.mk ((TJson.mk a0.fKind a0.fText a0.fL a0.fKeys).fKind) ((TJson.mk a0.fKind a0.fText a0.fL a0.fKeys).fText) r13.1 r13.2).fKind (TJson.mk ((TJson.mk a0.fKind a0.fText a0.fL a0.fKeys).fKind) ((TJson.mk a0.fKind a0.fText a0.fL a0.fKeys).fText) r13.1 r13.2).fText (TJson.mk ((TJson.mk a0.fKind a0.fText a0.fL a0.fKeys).fKind) ((TJson.mk a0.fKind a0.fText a0.fL a0.fKeys).fText) r13.1 r13.2).fL (TJson.mk ((TJson.mk a0.fKind a0.fText a0.fL a0.fKeys).fKind) ((TJson.mk a0.fKind a0.fText a0.fL a0.fKeys).fText) r13.1 r13.2).fKeys))] : List (RT 4)))) rfl_le (fun x hx => by cases hx) h31 ⟨rfl, [], [(9, 10), (10, 11)], rfl, rfl, ⟨⟨_, rfl, (.refl _)⟩, rfl, ⟨⟨_, rfl, (.refl _)⟩, rfl, ⟨⟨_, rfl, (.refl _)⟩, rfl, ⟨⟨_, rfl, (.refl _)⟩, rfl, ⟨⟨_, rfl, (.refl _)⟩, rfl, trivial⟩⟩⟩⟩⟩, ⟨⟨_, rfl, (.refl _)⟩, rfl, rfl, ⟨⟨_, rfl, (.refl _)⟩, rfl, rfl, ⟨⟨_, rfl, (.refl _)⟩, rfl, rfl, ⟨⟨_, rfl, (.refl _)⟩, rfl, rfl, ⟨⟨_, rfl, (.refl _)⟩, rfl, rfl, ⟨⟨_, rfl, (.refl _)⟩, rfl, rfl, ⟨⟨_, rfl, (.refl _)⟩, rfl, rfl, ⟨⟨_, rfl, (.refl _)⟩, rfl, rfl, ⟨⟨_, rfl, (.refl _)⟩, rfl, rfl, trivial⟩⟩⟩⟩⟩⟩⟩⟩⟩⟩ ?_
    clear h31
    intro k
    rintro ⟨y31_1, y31_2, y31_3⟩ h31
    dsimp only at h31 ⊢
    rw [f477v2_l31] at h31
    refine AWc.seq ?_
    refine AWc.rg hmix rfl rfl ?_
    refine RegV.p0 (v := (.d (.bool (decide (y31_1 < ((a0.fL.length : Nat) : Int)))))) rfl rfl rfl ?_
    refine RegV.nil0 ?_
    refine AWc.seq ?_
    refine AWc.cond rfl (fun c38 => ?_) (fun c38 => ?_)
    · have h31 := cond_pos c38 h31
      refine AWc.skip ?_
      refine AWc.seq ?_
      refine AWc.block ?_
      refine AWc.seq ?_
      refine AWc.rg hmix rfl rfl ?_
      obtain ⟨b46, h31⟩ := gd_some h31
      obtain ⟨rx46, ex46, h31⟩ := bind_some h31
      refine RegV.iadE (xs := a0.fL) (e := (rtE (z := 4))) (w := TJson.enc rx46) rfl rfl rfl rfl rtE_ok.len b46 (TJson.dec_eq ex46) rfl ?_
      refine RegV.p1 (v := (.d (TJson.enc rx46))) rfl rfl rfl rfl rfl ?_
      refine RegV.evS (own := false) (v := (.ptr 11 0)) (H' := [(11, (.cells [(.d (.int .i64 (0 : Int))), (.d (.str ([] : List UInt8))), .nils, .nils])), (0, (.lp 30 [(3, (.ptr 1 0)), (4, (.ptr 2 0)), (5, (.ptr 3 0)), (6, (.ptr 4 0)), (7, (.ptr 5 0)), (8, (.ptr 7 0))] [14, 15] asg0 bd0 .ready none)), (1, (.cells [(.d (.int .i64 a2))])), (2, (.cells [.nils])), (3, (.cells [.nils])), (4, (.cells [(.d (.bool a3))])), (5, (.cells [(.ap 9 1 (List.map (D.int .i64) y31_2))])), (7, (.cells [(.ap 10 4 (List.map (rtE (z := 4)) y31_3))])), (9, (.tok ((List.map (D.int .i64) y31_2).length * 1))), (10, (.tok ((List.map (rtE (z := 4)) y31_3).length * 4)))]) (c' := 12) rfl rfl trivial rfl rfl rfl rfl rfl rfl ?_
      refine RegV.evN (own := false) (H' := [(11, (.cells [(.d (.int .i64 rx46.fKind)), (.d (.str rx46.fText)), (.d (.sl (List.map (rtE (z := 4)) rx46.fL))), (.d (.sl (List.map D.str rx46.fKeys)))])), (0, (.lp 30 [(3, (.ptr 1 0)), (4, (.ptr 2 0)), (5, (.ptr 3 0)), (6, (.ptr 4 0)), (7, (.ptr 5 0)), (8, (.ptr 7 0))] [14, 15] asg0 bd0 .ready none)), (1, (.cells [(.d (.int .i64 a2))])), (2, (.cells [.nils])), (3, (.cells [.nils])), (4, (.cells [(.d (.bool a3))])), (5, (.cells [(.ap 9 1 (List.map (D.int .i64) y31_2))])), (7, (.cells [(.ap 10 4 (List.map (rtE (z := 4)) y31_3))])), (9, (.tok ((List.map (D.int .i64) y31_2).length * 1))), (10, (.tok ((List.map (rtE (z := 4)) y31_3).length * 4)))]) (c' := 12) rfl rfl (by exact ⟨rfl, Nat.le_of_ble_eq_true rfl, rfl⟩) rfl rfl rfl rfl ?_
      refine RegV.nil0 ?_
      refine AWc.seq ?_
      refine AWc.rg hmix rfl rfl ?_
      refine RegV.ld (v := (.d (.agg [(.int .i64 rx46.fKind), (.str rx46.fText), (.sl (List.map (rtE (z := 4)) rx46.fL)), (.sl (List.map D.str rx46.fKeys))]))) (H' := [(11, (.cells [(.d (.int .i64 rx46.fKind)), (.d (.str rx46.fText)), (.d (.sl (List.map (rtE (z := 4)) rx46.fL))), (.d (.sl (List.map D.str rx46.fKeys)))])), (0, (.lp 30 [(3, (.ptr 1 0)), (4, (.ptr 2 0)), (5, (.ptr 3 0)), (6, (.ptr 4 0)), (7, (.ptr 5 0)), (8, (.ptr 7 0))] [14, 15] asg0 bd0 .ready none)), (1, (.cells [(.d (.int .i64 a2))])), (2, (.cells [.nils])), (3, (.cells [.nils])), (4, (.cells [(.d (.bool a3))])), (5, (.cells [(.ap 9 1 (List.map (D.int .i64) y31_2))])), (7, (.cells [(.ap 10 4 (List.map (rtE (z := 4)) y31_3))])), (9, (.tok ((List.map (D.int .i64) y31_2).length * 1))), (10, (.tok ((List.map (rtE (z := 4)) y31_3).length * 4)))]) rfl rfl (Nat.le_of_ble_eq_true rfl) rfl rfl rfl rfl rfl ?_
      refine RegV.p0 rfl rfl rfl ?_
      refine RegV.p0 (v := (.d (.int .i64 (IntKind.i64.wrap (a1 + (1 : Int)))))) rfl rfl rfl ?_
      refine RegV.p0 rfl rfl rfl ?_
      obtain ⟨or57, e57, h31⟩ := bind_some h31
      rcases or57 with r57 | r57
      · dsimp only at h31
        refine RegV.callS (q := false) (H' := [(0, (.lp 30 [(3, (.ptr 1 0)), (4, (.ptr 2 0)), (5, (.ptr 3 0)), (6, (.ptr 4 0)), (7, (.ptr 5 0)), (8, (.ptr 7 0))] [14, 15] asg0 bd0 .done (some .ret))), (1, (.cells [(.d (.int .i64 a2))])), (2, (.cells [.nils])), (3, (.cells [.nils])), (4, (.cells [(.d (.bool false))])), (5, (.cells [(.ap 12 1 (List.map (D.int .i64) r57.1))])), (7, (.cells [(.ap 13 4 (List.map (rtE (z := 4)) r57.2))])), (12, (.tok ((List.map (D.int .i64) r57.1).length * 1))), (13, (.tok ((List.map (rtE (z := 4)) r57.2).length * 4))), (11, (.cells [(.d (.int .i64 rx46.fKind)), (.d (.str rx46.fText)), (.d (.sl (List.map (rtE (z := 4)) rx46.fL))), (.d (.sl (List.map D.str rx46.fKeys)))]))]) (c' := 14) (show ACalls P (N 477) [(.d (TJson.enc (TJson.mk rx46.fKind rx46.fText rx46.fL rx46.fKeys))), (.d (.int .i64 (IntKind.i64.wrap (a1 + (1 : Int))))), (.lf 0)] [(0, (.lp 30 [(3, (.ptr 1 0)), (4, (.ptr 2 0)), (5, (.ptr 3 0)), (6, (.ptr 4 0)), (7, (.ptr 5 0)), (8, (.ptr 7 0))] [14, 15] asg0 bd0 .ready none)), (1, (.cells [(.d (.int .i64 a2))])), (2, (.cells [.nils])), (3, (.cells [.nils])), (4, (.cells [(.d (.bool a3))])), (5, (.cells [(.ap 9 1 (List.map (D.int .i64) y31_2))])), (9, (.tok ((List.map (D.int .i64) y31_2).length * 1))), (7, (.cells [(.ap 10 4 (List.map (rtE (z := 4)) y31_3))])), (10, (.tok ((List.map (rtE (z := 4)) y31_3).length * 4)))] (.d (.bool false)) [(0, (.lp 30 [(3, (.ptr 1 0)), (4, (.ptr 2 0)), (5, (.ptr 3 0)), (6, (.ptr 4 0)), (7, (.ptr 5 0)), (8, (.ptr 7 0))] [14, 15] asg0 bd0 .done (some .ret))), (1, (.cells [(.d (.int .i64 a2))])), (2, (.cells [.nils])), (3, (.cells [.nils])), (4, (.cells [(.d (.bool false))])), (5, (.cells [(.ap 12 1 (List.map (D.int .i64) r57.1))])), (7, (.cells [(.ap 13 4 (List.map (rtE (z := 4)) r57.2))])), (12, (.tok ((List.map (D.int .i64) r57.1).length * 1))), (13, (.tok ((List.map (rtE (z := 4)) r57.2).length * 4)))] from ACalls.use (hrc477v2.1 _ _ ha0 hb0 _ _ _ _ _ _ _ e57) [(0, 0), (1, 1), (2, 2), (3, 3), (4, 4), (5, 5), (6, 9), (7, 7), (8, 10), (9, 12), (10, 13)] 11 rfl) rfl rfl rfl rfl (.cons (.refl _) (.cons (.refl _) (.cons (.refl _) .nil))) (.refl _) (fun h => by cases h) rfl (hasCons rfl (hasCons rfl (hasCons rfl (hasCons rfl (hasCons rfl (hasCons rfl (hasCons rfl (hasCons rfl (hasCons rfl hasNil))))))))) rfl rfl rfl rfl ?_
        refine RegV.p0 (v := (.d (.bool true))) rfl rfl rfl ?_
        refine RegV.nil0 ?_
        refine AWc.cond rfl (fun _ => ?_) (fun hc => by cases hc)
        refine AWc.seq ?_
        refine AWc.rg hmix rfl rfl ?_
        refine RegV.p0 rfl rfl rfl ?_
        refine RegV.nil0 ?_
        cases h31
        dsimp only at h
        have hr := Option.some.inj h
        have hr := Sum.inl.inj hr
        subst hr
        exact AWc.ret (canQ (N := 29) (k := 11) (l' := [(6, (.d (.bool false)))]) (H' := [(0, (.lp 30 [(3, (.ptr 1 0)), (4, (.ptr 2 0)), (5, (.ptr 3 0)), (6, (.ptr 4 0)), (7, (.ptr 5 0)), (8, (.ptr 7 0))] [14, 15] asg0 bd0 .done (some .ret))), (1, (.cells [(.d (.int .i64 a2))])), (2, (.cells [.nils])), (3, (.cells [.nils])), (4, (.cells [(.d (.bool false))])), (5, (.cells [(.ap 9 1 (List.map (D.int .i64) r57.1))])), (7, (.cells [(.ap 10 4 (List.map (rtE (z := 4)) r57.2))])), (9, (.tok ((List.map (D.int .i64) r57.1).length * 1))), (10, (.tok ((List.map (rtE (z := 4)) r57.2).length * 4)))]) rfl ⟨rfl, [], [(9, 12), (10, 13)], rfl, rfl, ⟨⟨_, rfl, (.refl _)⟩, rfl, trivial⟩, ⟨⟨_, rfl, (.refl _)⟩, rfl, rfl, ⟨⟨_, rfl, (.refl _)⟩, rfl, rfl, ⟨⟨_, rfl, (.refl _)⟩, rfl, rfl, ⟨⟨_, rfl, (.refl _)⟩, rfl, rfl, ⟨⟨_, rfl, (.refl _)⟩, rfl, rfl, ⟨⟨_, rfl, (.refl _)⟩, rfl, rfl, ⟨⟨_, rfl, (.refl _)⟩, rfl, rfl, ⟨⟨_, rfl, (.refl _)⟩, rfl, rfl, ⟨⟨_, rfl, (.refl _)⟩, rfl, rfl, trivial⟩⟩⟩⟩⟩⟩⟩⟩⟩⟩ (doneA (.inr rfl) rfl ⟨trivial, trivial⟩ (.refl _) (hasCons rfl (hasCons rfl (hasCons rfl (hasCons rfl (hasCons rfl (hasCons rfl (hasCons rfl (hasCons rfl (hasCons rfl hasNil)))))))))))
      · dsimp only at h31
        refine RegV.callS (q := false) (H' := [(0, (.lp 30 [(3, (.ptr 1 0)), (4, (.ptr 2 0)), (5, (.ptr 3 0)), (6, (.ptr 4 0)), (7, (.ptr 5 0)), (8, (.ptr 7 0))] [14, 15] asg0 bd0 .ready none)), (1, (.cells [(.d (.int .i64 a2))])), (2, (.cells [.nils])), (3, (.cells [.nils])), (4, (.cells [(.d (.bool a3))])), (5, (.cells [(.ap 12 1 (List.map (D.int .i64) r57.1))])), (7, (.cells [(.ap 13 4 (List.map (rtE (z := 4)) r57.2))])), (12, (.tok ((List.map (D.int .i64) r57.1).length * 1))), (13, (.tok ((List.map (rtE (z := 4)) r57.2).length * 4))), (11, (.cells [(.d (.int .i64 rx46.fKind)), (.d (.str rx46.fText)), (.d (.sl (List.map (rtE (z := 4)) rx46.fL))), (.d (.sl (List.map D.str rx46.fKeys)))]))]) (c' := 14) (show ACalls P (N 477) [(.d (TJson.enc (TJson.mk rx46.fKind rx46.fText rx46.fL rx46.fKeys))), (.d (.int .i64 (IntKind.i64.wrap (a1 + (1 : Int))))), (.lf 0)] [(0, (.lp 30 [(3, (.ptr 1 0)), (4, (.ptr 2 0)), (5, (.ptr 3 0)), (6, (.ptr 4 0)), (7, (.ptr 5 0)), (8, (.ptr 7 0))] [14, 15] asg0 bd0 .ready none)), (1, (.cells [(.d (.int .i64 a2))])), (2, (.cells [.nils])), (3, (.cells [.nils])), (4, (.cells [(.d (.bool a3))])), (5, (.cells [(.ap 9 1 (List.map (D.int .i64) y31_2))])), (9, (.tok ((List.map (D.int .i64) y31_2).length * 1))), (7, (.cells [(.ap 10 4 (List.map (rtE (z := 4)) y31_3))])), (10, (.tok ((List.map (rtE (z := 4)) y31_3).length * 4)))] (.d (.bool true)) [(0, (.lp 30 [(3, (.ptr 1 0)), (4, (.ptr 2 0)), (5, (.ptr 3 0)), (6, (.ptr 4 0)), (7, (.ptr 5 0)), (8, (.ptr 7 0))] [14, 15] asg0 bd0 .ready none)), (1, (.cells [(.d (.int .i64 a2))])), (2, (.cells [.nils])), (3, (.cells [.nils])), (4, (.cells [(.d (.bool a3))])), (5, (.cells [(.ap 12 1 (List.map (D.int .i64) r57.1))])), (7, (.cells [(.ap 13 4 (List.map (rtE (z := 4)) r57.2))])), (12, (.tok ((List.map (D.int .i64) r57.1).length * 1))), (13, (.tok ((List.map (rtE (z := 4)) r57.2).length * 4)))] from ACalls.use (hrc477v2.2 _ _ ha0 hb0 _ _ _ _ _ _ _ e57) [(0, 0), (1, 1), (2, 2), (3, 3), (4, 4), (5, 5), (6, 9), (7, 7), (8, 10), (9, 12), (10, 13)] 11 rfl) rfl rfl rfl rfl (.cons (.refl _) (.cons (.refl _) (.cons (.refl _) .nil))) (.refl _) (fun h => by cases h) rfl (hasCons rfl (hasCons rfl (hasCons rfl (hasCons rfl (hasCons rfl (hasCons rfl (hasCons rfl (hasCons rfl (hasCons rfl hasNil))))))))) rfl rfl rfl rfl ?_
        refine RegV.p0 (v := (.d (.bool false))) rfl rfl rfl ?_
        refine RegV.nil0 ?_
        refine AWc.cond rfl (fun hc => by cases hc) (fun _ => ?_)
        refine AWc.skip ?_
        refine AWc.rg hmix rfl rfl ?_
        refine RegV.p0 (v := (.d (.int .i64 (IntKind.i64.wrap (y31_1 + (1 : Int)))))) rfl rfl rfl ?_
        refine RegV.p0 rfl rfl rfl ?_
        refine RegV.nil0 ?_
        exact ⟨((IntKind.i64.wrap (y31_1 + (1 : Int))), r57.1, r57.2), h31, ⟨rfl, [], [(9, 12), (10, 13)], rfl, rfl, ⟨⟨_, rfl, (.refl _)⟩, rfl, ⟨⟨_, rfl, (.refl _)⟩, rfl, ⟨⟨_, rfl, (.refl _)⟩, rfl, ⟨⟨_, rfl, (.refl _)⟩, rfl, ⟨⟨_, rfl, (.refl _)⟩, rfl, trivial⟩⟩⟩⟩⟩, ⟨⟨_, rfl, (.refl _)⟩, rfl, rfl, ⟨⟨_, rfl, (.refl _)⟩, rfl, rfl, ⟨⟨_, rfl, (.refl _)⟩, rfl, rfl, ⟨⟨_, rfl, (.refl _)⟩, rfl, rfl, ⟨⟨_, rfl, (.refl _)⟩, rfl, rfl, ⟨⟨_, rfl, (.refl _)⟩, rfl, rfl, ⟨⟨_, rfl, (.refl _)⟩, rfl, rfl, ⟨⟨_, rfl, (.refl _)⟩, rfl, rfl, ⟨⟨_, rfl, (.refl _)⟩, rfl, rfl, trivial⟩⟩⟩⟩⟩⟩⟩⟩⟩⟩⟩
    · have h31 := cond_neg c38 h31
      cases h31
      dsimp only at h
      refine AWc.exit ?_
      refine inBlk_eq ?_
      refine AWc.seq ?_
      refine AWc.rg hmix rfl rfl ?_
      refine RegV.p0 rfl rfl rfl ?_
      refine RegV.nil0 ?_
      cases h
theorem F477v2_1_s {P : Program} {N : Nat → Nat} (hmix : P.follows .mixedOrders = true) (hc : HC477v2 P N) {rc477v2 : TJson → Int → Int → Bool → (List Int) → (List (RT 4)) → Option (((List Int) × (List (RT 4))) ⊕ ((List Int) × (List (RT 4))))} (hrc477v2 : RH477v2 P N rc477v2) {asg0 bd0 : Code} (ha0 : compCode P asg0 = L476_0a N) (hb0 : compCode P bd0 = L476_0b N) {k : Nat} {a0 : TJson} {a1 : Int} {a2 : Int} {a3 : Bool} {a4 : (List Int)} {a5 : (List (RT 4))} {r : ((List Int) × (List (RT 4)))} (h : f477v2_s rc477v2 k a0 a1 a2 a3 a4 a5 = some (.inr r)) :
    ACalls P (N 477) [(.d (TJson.enc a0)), (.d (.int .i64 a1)), (.lf 0)] [(0, (.lp 30 [(3, (.ptr 1 0)), (4, (.ptr 2 0)), (5, (.ptr 3 0)), (6, (.ptr 4 0)), (7, (.ptr 5 0)), (8, (.ptr 7 0))] [14, 15] asg0 bd0 .ready none)), (1, (.cells [(.d (.int .i64 a2))])), (2, (.cells [.nils])), (3, (.cells [.nils])), (4, (.cells [(.d (.bool a3))])), (5, (.cells [(.ap 6 1 (List.map (D.int .i64) a4))])), (6, (.tok ((List.map (D.int .i64) a4).length * 1))), (7, (.cells [(.ap 8 4 (List.map (rtE (z := 4)) a5))])), (8, (.tok ((List.map (rtE (z := 4)) a5).length * 4)))] (.d (.bool true)) [(0, (.lp 30 [(3, (.ptr 1 0)), (4, (.ptr 2 0)), (5, (.ptr 3 0)), (6, (.ptr 4 0)), (7, (.ptr 5 0)), (8, (.ptr 7 0))] [14, 15] asg0 bd0 .ready none)), (1, (.cells [(.d (.int .i64 a2))])), (2, (.cells [.nils])), (3, (.cells [.nils])), (4, (.cells [(.d (.bool a3))])), (5, (.cells [(.ap 9 1 (List.map (D.int .i64) r.1))])), (7, (.cells [(.ap 10 4 (List.map (rtE (z := 4)) r.2))])), (9, (.tok ((List.map (D.int .i64) r.1).length * 1))), (10, (.tok ((List.map (rtE (z := 4)) r.2).length * 4)))] := by
  refine acalls_canon (F := C477 N) hc.1 9 11 rfl ?_
  unfold f477v2_s at h
  dsimp only [C477, startL]
  refine AWc.seq ?_
  refine AWc.rg hmix rfl rfl ?_
  refine RegV.evS (own := false) (v := (.ptr 9 0)) (H' := [(9, (.cells [(.d (.int .i64 a0.fKind)), (.d (.str a0.fText)), (.d (.sl (List.map (rtE (z := 4)) a0.fL))), (.d (.sl (List.map D.str a0.fKeys)))])), (0, (.lp 30 [(3, (.ptr 1 0)), (4, (.ptr 2 0)), (5, (.ptr 3 0)), (6, (.ptr 4 0)), (7, (.ptr 5 0)), (8, (.ptr 7 0))] [14, 15] asg0 bd0 .ready none)), (1, (.cells [(.d (.int .i64 a2))])), (2, (.cells [.nils])), (3, (.cells [.nils])), (4, (.cells [(.d (.bool a3))])), (5, (.cells [(.ap 6 1 (List.map (D.int .i64) a4))])), (6, (.tok ((List.map (D.int .i64) a4).length * 1))), (7, (.cells [(.ap 8 4 (List.map (rtE (z := 4)) a5))])), (8, (.tok ((List.map (rtE (z := 4)) a5).length * 4)))]) (c' := 10) rfl rfl trivial rfl rfl rfl rfl rfl rfl ?_
  refine RegV.p0 rfl rfl rfl ?_
  refine RegV.nil0 ?_
  refine AWc.seq ?_
  refine AWc.seq ?_
  refine AWc.rg hmix rfl rfl ?_
  refine RegV.p0 rfl rfl rfl ?_
  refine RegV.p0 rfl rfl rfl ?_
  refine RegV.ld (v := (.d (.agg [(.int .i64 a0.fKind), (.str a0.fText), (.sl (List.map (rtE (z := 4)) a0.fL)), (.sl (List.map D.str a0.fKeys))]))) (H' := [(9, (.cells [(.d (.int .i64 a0.fKind)), (.d (.str a0.fText)), (.d (.sl (List.map (rtE (z := 4)) a0.fL))), (.d (.sl (List.map D.str a0.fKeys)))])), (0, (.lp 30 [(3, (.ptr 1 0)), (4, (.ptr 2 0)), (5, (.ptr 3 0)), (6, (.ptr 4 0)), (7, (.ptr 5 0)), (8, (.ptr 7 0))] [14, 15] asg0 bd0 .ready none)), (1, (.cells [(.d (.int .i64 a2))])), (2, (.cells [.nils])), (3, (.cells [.nils])), (4, (.cells [(.d (.bool a3))])), (5, (.cells [(.ap 6 1 (List.map (D.int .i64) a4))])), (6, (.tok ((List.map (D.int .i64) a4).length * 1))), (7, (.cells [(.ap 8 4 (List.map (rtE (z := 4)) a5))])), (8, (.tok ((List.map (rtE (z := 4)) a5).length * 4)))]) rfl rfl (Nat.le_of_ble_eq_true rfl) rfl rfl rfl rfl rfl ?_
  obtain ⟨r13, e13, h⟩ := bind_some h
  refine RegV.call0 (F441 hmix hc.2.1 e13) rfl rfl rfl rfl (.cons (.refl _) .nil) rfl ?_
  obtain ⟨or14, e14, h⟩ := bind_some h
  rcases or14 with r14 | r14
  · dsimp only at h
    refine RegV.yield (H' := [(0, (.lp 30 [(3, (.ptr 1 0)), (4, (.ptr 2 0)), (5, (.ptr 3 0)), (6, (.ptr 4 0)), (7, (.ptr 5 0)), (8, (.ptr 7 0))] [14, 15] asg0 bd0 .done (some .ret))), (1, (.cells [(.d (.int .i64 a2))])), (2, (.cells [.nils])), (3, (.cells [.nils])), (4, (.cells [(.d (.bool false))])), (5, (.cells [(.ap 10 1 (List.map (D.int .i64) (a4 ++ ([a1] : List Int))))])), (7, (.cells [(.ap 11 4 (List.map (rtE (z := 4)) (a5 ++ ([(RT.of TJson.ok (TJson.mk (TJson.mk ((TJson.mk a0.fKind a0.fText a0.fL a0.fKeys).fKind) ((TJson.mk a0.fKind a0.fText a0.fL a0.fKeys).fText) r13.1 r13.2).fKind (TJson.mk ((TJson.mk a0.fKind a0.fText a0.fL a0.fKeys).fKind) ((TJson.mk a0.fKind a0.fText a0.fL a0.fKeys).fText) r13.1 r13.2).fText (TJson.mk ((TJson.mk a0.fKind a0.fText a0.fL a0.fKeys).fKind) ((TJson.mk a0.fKind a0.fText a0.fL a0.fKeys).fText) r13.1 r13.2).fL (TJson.mk ((TJson.mk a0.fKind a0.fText a0.fL a0.fKeys).fKind) ((TJson.mk a0.fKind a0.fText a0.fL a0.fKeys).fText) r13.1 r13.2).fKeys))] : List (RT 4)))))])), (10, (.tok ((List.map (D.int .i64) (a4 ++ ([a1] : List Int))).length * 1))), (11, (.tok ((List.map (rtE (z := 4)) (a5 ++ ([(RT.of TJson.ok (TJson.mk (TJson.mk ((TJson.mk a0.fKind a0.fText a0.fL a0.fKeys).fKind) ((TJson.mk a0.fKind a0.fText a0.fL a0.fKeys).fText) r13.1 r13.2).fKind (TJson.mk ((TJson.mk a0.fKind a0.fText a0.fL a0.fKeys).fKind) ((TJson.mk a0.fKind a0.fText a0.fL a0.fKeys).fText) r13.1 r13.2).fText (TJson.mk ((TJson.mk a0.fKind a0.fText a0.fL a0.fKeys).fKind) ((TJson.mk a0.fKind a0.fText a0.fL a0.fKeys).fText) r13.1 r13.2).fL (TJson.mk ((TJson.mk a0.fKind a0.fText a0.fL a0.fKeys).fKind) ((TJson.mk a0.fKind a0.fText a0.fL a0.fKeys).fText) r13.1 r13.2).fKeys))] : List (RT 4)))).length * 4))), (9, (.cells [(.d (.int .i64 a0.fKind)), (.d (.str a0.fText)), (.d (.sl (List.map (rtE (z := 4)) a0.fL))), (.d (.sl (List.map D.str a0.fKeys)))]))]) (c' := 12) (show ARound P 0 [(.d (.int .i64 a1)), (.d (TJson.enc (TJson.mk ((TJson.mk a0.fKind a0.fText a0.fL a0.fKeys).fKind) ((TJson.mk a0.fKind a0.fText a0.fL a0.fKeys).fText) r13.1 r13.2)))] [(0, (.lp 30 [(3, (.ptr 1 0)), (4, (.ptr 2 0)), (5, (.ptr 3 0)), (6, (.ptr 4 0)), (7, (.ptr 5 0)), (8, (.ptr 7 0))] [14, 15] asg0 bd0 .ready none)), (1, (.cells [(.d (.int .i64 a2))])), (2, (.cells [.nils])), (3, (.cells [.nils])), (4, (.cells [(.d (.bool a3))])), (5, (.cells [(.ap 6 1 (List.map (D.int .i64) a4))])), (6, (.tok ((List.map (D.int .i64) a4).length * 1))), (7, (.cells [(.ap 8 4 (List.map (rtE (z := 4)) a5))])), (8, (.tok ((List.map (rtE (z := 4)) a5).length * 4)))] (.d (.bool false)) [(0, (.lp 30 [(3, (.ptr 1 0)), (4, (.ptr 2 0)), (5, (.ptr 3 0)), (6, (.ptr 4 0)), (7, (.ptr 5 0)), (8, (.ptr 7 0))] [14, 15] asg0 bd0 .done (some .ret))), (1, (.cells [(.d (.int .i64 a2))])), (2, (.cells [.nils])), (3, (.cells [.nils])), (4, (.cells [(.d (.bool false))])), (5, (.cells [(.ap 10 1 (List.map (D.int .i64) (a4 ++ ([a1] : List Int))))])), (7, (.cells [(.ap 11 4 (List.map (rtE (z := 4)) (a5 ++ ([(RT.of TJson.ok (TJson.mk (TJson.mk ((TJson.mk a0.fKind a0.fText a0.fL a0.fKeys).fKind) ((TJson.mk a0.fKind a0.fText a0.fL a0.fKeys).fText) r13.1 r13.2).fKind (TJson.mk ((TJson.mk a0.fKind a0.fText a0.fL a0.fKeys).fKind) ((TJson.mk a0.fKind a0.fText a0.fL a0.fKeys).fText) r13.1 r13.2).fText (TJson.mk ((TJson.mk a0.fKind a0.fText a0.fL a0.fKeys).fKind) ((TJson.mk a0.fKind a0.fText a0.fL a0.fKeys).fText) r13.1 r13.2).fL (TJson.mk ((TJson.mk a0.fKind a0.fText a0.fL a0.fKeys).fKind) ((TJson.mk a0.fKind a0.fText a0.fL a0.fKeys).fText) r13.1 r13.2).fKeys))] : List (RT 4)))))])), (10, (.tok ((List.map (D.int .i64) (a4 ++ ([a1] : List Int))).length * 1))), (11, (.tok ((List.map (rtE (z := 4)) (a5 ++ ([(RT.of TJson.ok (TJson.mk (TJson.mk ((TJson.mk a0.fKind a0.fText a0.fL a0.fKeys).fKind) ((TJson.mk a0.fKind a0.fText a0.fL a0.fKeys).fText) r13.1 r13.2).fKind (TJson.mk ((TJson.mk a0.fKind a0.fText a0.fL a0.fKeys).fKind) ((TJson.mk a0.fKind a0.fText a0.fL a0.fKeys).fText) r13.1 r13.2).fText (TJson.mk ((TJson.mk a0.fKind a0.fText a0.fL a0.fKeys).fKind) ((TJson.mk a0.fKind a0.fText a0.fL a0.fKeys).fText) r13.1 r13.2).fL (TJson.mk ((TJson.mk a0.fKind a0.fText a0.fL a0.fKeys).fKind) ((TJson.mk a0.fKind a0.fText a0.fL a0.fKeys).fText) r13.1 r13.2).fKeys))] : List (RT 4)))).length * 4)))] from ARound.use (B476_37v2_0 hmix hc.2.2 ha0 hb0 e14) [(0, 0), (1, 1), (2, 2), (3, 3), (4, 4), (5, 5), (6, 6), (7, 7), (8, 8), (9, 10), (10, 11)] 11 rfl) rfl rfl rfl (.cons (.refl _) (.cons (.refl _) .nil)) rfl (hasCons rfl (hasCons rfl (hasCons rfl (hasCons rfl (hasCons rfl (hasCons rfl (hasCons rfl (hasCons rfl (hasCons rfl hasNil))))))))) rfl rfl rfl rfl ?_
    refine RegV.p0 (v := (.d (.bool true))) rfl rfl rfl ?_
    refine RegV.nil0 ?_
    refine AWc.cond rfl (fun _ => ?_) (fun hc => by cases hc)
    refine AWc.seq ?_
    refine AWc.rg hmix rfl rfl ?_
    refine RegV.p0 rfl rfl rfl ?_
    refine RegV.nil0 ?_
    cases h
  · dsimp only at h
    refine RegV.yield (H' := [(0, (.lp 30 [(3, (.ptr 1 0)), (4, (.ptr 2 0)), (5, (.ptr 3 0)), (6, (.ptr 4 0)), (7, (.ptr 5 0)), (8, (.ptr 7 0))] [14, 15] asg0 bd0 .ready none)), (1, (.cells [(.d (.int .i64 a2))])), (2, (.cells [.nils])), (3, (.cells [.nils])), (4, (.cells [(.d (.bool a3))])), (5, (.cells [(.ap 10 1 (List.map (D.int .i64) (a4 ++ ([a1] : List Int))))])), (7, (.cells [(.ap 11 4 (List.map (rtE (z := 4)) (a5 ++ ([(RT.of TJson.ok (TJson.mk (TJson.mk ((TJson.mk a0.fKind a0.fText a0.fL a0.fKeys).fKind) ((TJson.mk a0.fKind a0.fText a0.fL a0.fKeys).fText) r13.1 r13.2).fKind (TJson.mk ((TJson.mk a0.fKind a0.fText a0.fL a0.fKeys).fKind) ((TJson.mk a0.fKind a0.fText a0.fL a0.fKeys).fText) r13.1 r13.2).fText (TJson.mk ((TJson.mk a0.fKind a0.fText a0.fL a0.fKeys).fKind) ((TJson.mk a0.fKind a0.fText a0.fL a0.fKeys).fText) r13.1 r13.2).fL (TJson.mk ((TJson.mk a0.fKind a0.fText a0.fL a0.fKeys).fKind) ((TJson.mk a0.fKind a0.fText a0.fL a0.fKeys).fText) r13.1 r13.2).fKeys))] : List (RT 4)))))])), (10, (.tok ((List.map (D.int .i64) (a4 ++ ([a1] : List Int))).length * 1))), (11, (.tok ((List.map (rtE (z := 4)) (a5 ++ ([(RT.of TJson.ok (TJson.mk (TJson.mk ((TJson.mk a0.fKind a0.fText a0.fL a0.fKeys).fKind) ((TJson.mk a0.fKind a0.fText a0.fL a0.fKeys).fText) r13.1 r13.2).fKind (TJson.mk ((TJson.mk a0.fKind a0.fText a0.fL a0.fKeys).fKind) ((TJson.mk a0.fKind a0.fText a0.fL a0.fKeys).fText) r13.1 r13.2).fText (TJson.mk ((TJson.mk a0.fKind a0.fText a0.fL a0.fKeys).fKind) ((TJson.mk a0.fKind a0.fText a0.fL a0.fKeys).fText) r13.1 r13.2).fL (TJson.mk ((TJson.mk a0.fKind a0.fText a0.fL a0.fKeys).fKind) ((TJson.mk a0.fKind a0.fText a0.fL a0.fKeys).fText) r13.1 r13.2).fKeys))] : List (RT 4)))).length * 4))), (9, (.cells [(.d (.int .i64 a0.fKind)), (.d (.str a0.fText)), (.d (.sl (List.map (rtE (z := 4)) a0.fL))), (.d (.sl (List.map D.str a0.fKeys)))]))]) (c' := 12) (show ARound P 0 [(.d (.int .i64 a1)), (.d (TJson.enc (TJson.mk ((TJson.mk a0.fKind a0.fText a0.fL a0.fKeys).fKind) ((TJson.mk a0.fKind a0.fText a0.fL a0.fKeys).fText) r13.1 r13.2)))] [(0, (.lp 30 [(3, (.ptr 1 0)), (4, (.ptr 2 0)), (5, (.ptr 3 0)), (6, (.ptr 4 0)), (7, (.ptr 5 0)), (8, (.ptr 7 0))] [14, 15] asg0 bd0 .ready none)), (1, (.cells [(.d (.int .i64 a2))])), (2, (.cells [.nils])), (3, (.cells [.nils])), (4, (.cells [(.d (.bool a3))])), (5, (.cells [(.ap 6 1 (List.map (D.int .i64) a4))])), (6, (.tok ((List.map (D.int .i64) a4).length * 1))), (7, (.cells [(.ap 8 4 (List.map (rtE (z := 4)) a5))])), (8, (.tok ((List.map (rtE (z := 4)) a5).length * 4)))] (.d (.bool true)) [(0, (.lp 30 [(3, (.ptr 1 0)), (4, (.ptr 2 0)), (5, (.ptr 3 0)), (6, (.ptr 4 0)), (7, (.ptr 5 0)), (8, (.ptr 7 0))] [14, 15] asg0 bd0 .ready none)), (1, (.cells [(.d (.int .i64 a2))])), (2, (.cells [.nils])), (3, (.cells [.nils])), (4, (.cells [(.d (.bool a3))])), (5, (.cells [(.ap 10 1 (List.map (D.int .i64) (a4 ++ ([a1] : List Int))))])), (7, (.cells [(.ap 11 4 (List.map (rtE (z := 4)) (a5 ++ ([(RT.of TJson.ok (TJson.mk (TJson.mk ((TJson.mk a0.fKind a0.fText a0.fL a0.fKeys).fKind) ((TJson.mk a0.fKind a0.fText a0.fL a0.fKeys).fText) r13.1 r13.2).fKind (TJson.mk ((TJson.mk a0.fKind a0.fText a0.fL a0.fKeys).fKind) ((TJson.mk a0.fKind a0.fText a0.fL a0.fKeys).fText) r13.1 r13.2).fText (TJson.mk ((TJson.mk a0.fKind a0.fText a0.fL a0.fKeys).fKind) ((TJson.mk a0.fKind a0.fText a0.fL a0.fKeys).fText) r13.1 r13.2).fL (TJson.mk ((TJson.mk a0.fKind a0.fText a0.fL a0.fKeys).fKind) ((TJson.mk a0.fKind a0.fText a0.fL a0.fKeys).fText) r13.1 r13.2).fKeys))] : List (RT 4)))))])), (10, (.tok ((List.map (D.int .i64) (a4 ++ ([a1] : List Int))).length * 1))), (11, (.tok ((List.map (rtE (z := 4)) (a5 ++ ([(RT.of TJson.ok (TJson.mk (TJson.mk ((TJson.mk a0.fKind a0.fText a0.fL a0.fKeys).fKind) ((TJson.mk a0.fKind a0.fText a0.fL a0.fKeys).fText) r13.1 r13.2).fKind (TJson.mk ((TJson.mk a0.fKind a0.fText a0.fL a0.fKeys).fKind) ((TJson.mk a0.fKind a0.fText a0.fL a0.fKeys).fText) r13.1 r13.2).fText (TJson.mk ((TJson.mk a0.fKind a0.fText a0.fL a0.fKeys).fKind) ((TJson.mk a0.fKind a0.fText a0.fL a0.fKeys).fText) r13.1 r13.2).fL (TJson.mk ((TJson.mk a0.fKind a0.fText a0.fL a0.fKeys).fKind) ((TJson.mk a0.fKind a0.fText a0.fL a0.fKeys).fText) r13.1 r13.2).fKeys))] : List (RT 4)))).length * 4)))] from ARound.use (B476_37v2_1 hmix hc.2.2 ha0 hb0 e14) [(0, 0), (1, 1), (2, 2), (3, 3), (4, 4), (5, 5), (6, 6), (7, 7), (8, 8), (9, 10), (10, 11)] 11 rfl) rfl rfl rfl (.cons (.refl _) (.cons (.refl _) .nil)) rfl (hasCons rfl (hasCons rfl (hasCons rfl (hasCons rfl (hasCons rfl (hasCons rfl (hasCons rfl (hasCons rfl (hasCons rfl hasNil))))))))) rfl rfl rfl rfl ?_
    refine RegV.p0 (v := (.d (.bool false))) rfl rfl rfl ?_
    refine RegV.nil0 ?_
    refine AWc.cond rfl (fun hc => by cases hc) (fun _ => ?_)
    refine AWc.skip ?_
    refine AWc.seq ?_
    refine AWc.seq ?_
    refine AWc.rg hmix rfl rfl ?_
    refine RegV.p0 (v := (.ptr 9 2)) rfl rfl rfl ?_
    refine RegV.ld (v := (.d (.sl (List.map (rtE (z := 4)) a0.fL)))) (H' := [(9, (.cells [(.d (.int .i64 a0.fKind)), (.d (.str a0.fText)), (.d (.sl (List.map (rtE (z := 4)) a0.fL))), (.d (.sl (List.map D.str a0.fKeys)))])), (0, (.lp 30 [(3, (.ptr 1 0)), (4, (.ptr 2 0)), (5, (.ptr 3 0)), (6, (.ptr 4 0)), (7, (.ptr 5 0)), (8, (.ptr 7 0))] [14, 15] asg0 bd0 .ready none)), (1, (.cells [(.d (.int .i64 a2))])), (2, (.cells [.nils])), (3, (.cells [.nils])), (4, (.cells [(.d (.bool a3))])), (5, (.cells [(.ap 10 1 (List.map (D.int .i64) (a4 ++ ([a1] : List Int))))])), (7, (.cells [(.ap 11 4 (List.map (rtE (z := 4)) (a5 ++ ([(RT.of TJson.ok (TJson.mk (TJson.mk ((TJson.mk a0.fKind a0.fText a0.fL a0.fKeys).fKind) ((TJson.mk a0.fKind a0.fText a0.fL a0.fKeys).fText) r13.1 r13.2).fKind (TJson.mk ((TJson.mk a0.fKind a0.fText a0.fL a0.fKeys).fKind) ((TJson.mk a0.fKind a0.fText a0.fL a0.fKeys).fText) r13.1 r13.2).fText (TJson.mk ((TJson.mk a0.fKind a0.fText a0.fL a0.fKeys).fKind) ((TJson.mk a0.fKind a0.fText a0.fL a0.fKeys).fText) r13.1 r13.2).fL (TJson.mk ((TJson.mk a0.fKind a0.fText a0.fL a0.fKeys).fKind) ((TJson.mk a0.fKind a0.fText a0.fL a0.fKeys).fText) r13.1 r13.2).fKeys))] : List (RT 4)))))])), (10, (.tok ((List.map (D.int .i64) (a4 ++ ([a1] : List Int))).length * 1))), (11, (.tok ((List.map (rtE (z := 4)) (a5 ++ ([(RT.of TJson.ok (TJson.mk (TJson.mk ((TJson.mk a0.fKind a0.fText a0.fL a0.fKeys).fKind) ((TJson.mk a0.fKind a0.fText a0.fL a0.fKeys).fText) r13.1 r13.2).fKind (TJson.mk ((TJson.mk a0.fKind a0.fText a0.fL a0.fKeys).fKind) ((TJson.mk a0.fKind a0.fText a0.fL a0.fKeys).fText) r13.1 r13.2).fText (TJson.mk ((TJson.mk a0.fKind a0.fText a0.fL a0.fKeys).fKind) ((TJson.mk a0.fKind a0.fText a0.fL a0.fKeys).fText) r13.1 r13.2).fL (TJson.mk ((TJson.mk a0.fKind a0.fText a0.fL a0.fKeys).fKind) ((TJson.mk a0.fKind a0.fText a0.fL a0.fKeys).fText) r13.1 r13.2).fKeys))] : List (RT 4)))).length * 4)))]) rfl rfl trivial rfl rfl rfl rfl rfl ?_
    refine RegV.len (xs := a0.fL) (e := (rtE (z := 4))) rfl rfl rfl rfl ?_
    refine RegV.p0 rfl rfl rfl ?_
    refine RegV.nil0 ?_
    obtain ⟨o31, h31, h⟩ := bind_some h
    refine AWc.block ?_
    refine AWc.loopK (N := 29) 11 (fun (x : (Int × (List Int) × (List (RT 4)))) => [(1, (.d (.int .i64 a1))), (2, (.lf 0)), (16, (.d (.sl (List.map (rtE (z := 4)) a0.fL)))), (17, (.d (.int .i64 ((a0.fL.length : Nat) : Int)))), (18, (.d (.int .i64 x.1)))]) (fun x => [(0, (.lp 30 [(3, (.ptr 1 0)), (4, (.ptr 2 0)), (5, (.ptr 3 0)), (6, (.ptr 4 0)), (7, (.ptr 5 0)), (8, (.ptr 7 0))] [14, 15] asg0 bd0 .ready none)), (1, (.cells [(.d (.int .i64 a2))])), (2, (.cells [.nils])), (3, (.cells [.nils])), (4, (.cells [(.d (.bool a3))])), (5, (.cells [(.ap 9 1 (List.map (D.int .i64) x.2.1))])), (7, (.cells [(.ap 10 4 (List.map (rtE (z := 4)) x.2.2))])), (9, (.tok ((List.map (D.int .i64) x.2.1).length * 1))), (10, (.tok ((List.map (rtE (z := 4)) x.2.2).length * 4)))]) (fun k x => f477v2_l31 a0 rc477v2 a1 a2 a3 k x.1 x.2.1 x.2.2 = some o31) k ((0 : Int), (a4 ++ ([a1] : List Int)), (a5 ++ ([(RT.of TJson.ok (TJson.mk (TJson.mk ((TJson.mk a0.fKind a0.fText a0.fL a0.fKeys).fKind) ((TJson.mk a0.fKind a0.fText a0.fL a0.fKeys).fText) r13.1 r13.2).fKind (TJson.mk ((TJson.mk a0.fKind a0.fText a0.fL a0.fKeys).fKind) ((TJson.mk a0.fKind a0.fText a0.fL a0.fKeys).fText) r13.1 r13.2).fText (TJson.mk ((TJson.mk a0.fKind a0.fText a0.fL a0.fKeys).fKind) ((TJson.mk a0.fKind a0.fText a0.fL a0.fKeys).fText) r13.1 r13.2).fL (TJson.mk ((TJson.mk a0.fKind a0.fText a0.fL a0.fKeys).fKind) ((TJson.mk a0.fKind a0.fText a0.fL a0.fKeys).fText) r13.1 r13.2).fKeys))] : List (RT 4)))) rfl_le (fun x hx => by cases hx) h31 ⟨rfl, [], [(9, 10), (10, 11)], rfl, rfl, ⟨⟨_, rfl, (.refl _)⟩, rfl, ⟨⟨_, rfl, (.refl _)⟩, rfl, ⟨⟨_, rfl, (.refl _)⟩, rfl, ⟨⟨_, rfl, (.refl _)⟩, rfl, ⟨⟨_, rfl, (.refl _)⟩, rfl, trivial⟩⟩⟩⟩⟩, ⟨⟨_, rfl, (.refl _)⟩, rfl, rfl, ⟨⟨_, rfl, (.refl _)⟩, rfl, rfl, ⟨⟨_, rfl, (.refl _)⟩, rfl, rfl, ⟨⟨_, rfl, (.refl _)⟩, rfl, rfl, ⟨⟨_, rfl, (.refl _)⟩, rfl, rfl, ⟨⟨_, rfl, (.refl _)⟩, rfl, rfl, ⟨⟨_, rfl, (.refl _)⟩, rfl, rfl, ⟨⟨_, rfl, (.refl _)⟩, rfl, rfl, ⟨⟨_, rfl, (.refl _)⟩, rfl, rfl, trivial⟩⟩⟩⟩⟩⟩⟩⟩⟩⟩ ?_
    clear h31
    intro k
    rintro ⟨y31_1, y31_2, y31_3⟩ h31
    dsimp only at h31 ⊢
    rw [f477v2_l31] at h31
    refine AWc.seq ?_
    refine AWc.rg hmix rfl rfl ?_
    refine RegV.p0 (v := (.d (.bool (decide (y31_1 < ((a0.fL.length : Nat) : Int)))))) rfl rfl rfl ?_
    refine RegV.nil0 ?_
    refine AWc.seq ?_
    refine AWc.cond rfl (fun c38 => ?_) (fun c38 => ?_)
    · have h31 := cond_pos c38 h31
      refine AWc.skip ?_
      refine AWc.seq ?_
      refine AWc.block ?_
      refine AWc.seq ?_
      refine AWc.rg hmix rfl rfl ?_
      obtain ⟨b46, h31⟩ := gd_some h31
      obtain ⟨rx46, ex46, h31⟩ := bind_some h31
      refine RegV.iadE (xs := a0.fL) (e := (rtE (z := 4))) (w := TJson.enc rx46) rfl rfl rfl rfl rtE_ok.len b46 (TJson.dec_eq ex46) rfl ?_
      refine RegV.p1 (v := (.d (TJson.enc rx46))) rfl rfl rfl rfl rfl ?_
      refine RegV.evS (own := false) (v := (.ptr 11 0)) (H' := [(11, (.cells [(.d (.int .i64 (0 : Int))), (.d (.str ([] : List UInt8))), .nils, .nils])), (0, (.lp 30 [(3, (.ptr 1 0)), (4, (.ptr 2 0)), (5, (.ptr 3 0)), (6, (.ptr 4 0)), (7, (.ptr 5 0)), (8, (.ptr 7 0))] [14, 15] asg0 bd0 .ready none)), (1, (.cells [(.d (.int .i64 a2))])), (2, (.cells [.nils])), (3, (.cells [.nils])), (4, (.cells [(.d (.bool a3))])), (5, (.cells [(.ap 9 1 (List.map (D.int .i64) y31_2))])), (7, (.cells [(.ap 10 4 (List.map (rtE (z := 4)) y31_3))])), (9, (.tok ((List.map (D.int .i64) y31_2).length * 1))), (10, (.tok ((List.map (rtE (z := 4)) y31_3).length * 4)))]) (c' := 12) rfl rfl trivial rfl rfl rfl rfl rfl rfl ?_
      refine RegV.evN (own := false) (H' := [(11, (.cells [(.d (.int .i64 rx46.fKind)), (.d (.str rx46.fText)), (.d (.sl (List.map (rtE (z := 4)) rx46.fL))), (.d (.sl (List.map D.str rx46.fKeys)))])), (0, (.lp 30 [(3, (.ptr 1 0)), (4, (.ptr 2 0)), (5, (.ptr 3 0)), (6, (.ptr 4 0)), (7, (.ptr 5 0)), (8, (.ptr 7 0))] [14, 15] asg0 bd0 .ready none)), (1, (.cells [(.d (.int .i64 a2))])), (2, (.cells [.nils])), (3, (.cells [.nils])), (4, (.cells [(.d (.bool a3))])), (5, (.cells [(.ap 9 1 (List.map (D.int .i64) y31_2))])), (7, (.cells [(.ap 10 4 (List.map (rtE (z := 4)) y31_3))])), (9, (.tok ((List.map (D.int .i64) y31_2).length * 1))), (10, (.tok ((List.map (rtE (z := 4)) y31_3).length * 4)))]) (c' := 12) rfl rfl (by exact ⟨rfl, Nat.le_of_ble_eq_true rfl, rfl⟩) rfl rfl rfl rfl ?_
      refine RegV.nil0 ?_
      refine AWc.seq ?_
      refine AWc.rg hmix rfl rfl ?_
      refine RegV.ld (v := (.d (.agg [(.int .i64 rx46.fKind), (.str rx46.fText), (.sl (List.map (rtE (z := 4)) rx46.fL)), (.sl (List.map D.str rx46.fKeys))]))) (H' := [(11, (.cells [(.d (.int .i64 rx46.fKind)), (.d (.str rx46.fText)), (.d (.sl (List.map (rtE (z := 4)) rx46.fL))), (.d (.sl (List.map D.str rx46.fKeys)))])), (0, (.lp 30 [(3, (.ptr 1 0)), (4, (.ptr 2 0)), (5, (.ptr 3 0)), (6, (.ptr 4 0)), (7, (.ptr 5 0)), (8, (.ptr 7 0))] [14, 15] asg0 bd0 .ready none)), (1, (.cells [(.d (.int .i64 a2))])), (2, (.cells [.nils])), (3, (.cells [.nils])), (4, (.cells [(.d (.bool a3))])), (5, (.cells [(.ap 9 1 (List.map (D.int .i64) y31_2))])), (7, (.cells [(.ap 10 4 (List.map (rtE (z := 4)) y31_3))])), (9, (.tok ((List.map (D.int .i64) y31_2).length * 1))), (10, (.tok ((List.map (rtE (z := 4)) y31_3).length * 4)))]) rfl rfl (Nat.le_of_ble_eq_true rfl) rfl rfl rfl rfl rfl ?_
      refine RegV.p0 rfl rfl rfl ?_
      refine RegV.p0 (v := (.d (.int .i64 (IntKind.i64.wrap (a1 + (1 : Int)))))) rfl rfl rfl ?_
      refine RegV.p0 rfl rfl rfl ?_
      obtain ⟨or57, e57, h31⟩ := bind_some h31
      rcases or57 with r57 | r57
      · dsimp only at h31
        refine RegV.callS (q := false) (H' := [(0, (.lp 30 [(3, (.ptr 1 0)), (4, (.ptr 2 0)), (5, (.ptr 3 0)), (6, (.ptr 4 0)), (7, (.ptr 5 0)), (8, (.ptr 7 0))] [14, 15] asg0 bd0 .done (some .ret))), (1, (.cells [(.d (.int .i64 a2))])), (2, (.cells [.nils])), (3, (.cells [.nils])), (4, (.cells [(.d (.bool false))])), (5, (.cells [(.ap 12 1 (List.map (D.int .i64) r57.1))])), (7, (.cells [(.ap 13 4 (List.map (rtE (z := 4)) r57.2))])), (12, (.tok ((List.map (D.int .i64) r57.1).length * 1))), (13, (.tok ((List.map (rtE (z := 4)) r57.2).length * 4))), (11, (.cells [(.d (.int .i64 rx46.fKind)), (.d (.str rx46.fText)), (.d (.sl (List.map (rtE (z := 4)) rx46.fL))), (.d (.sl (List.map D.str rx46.fKeys)))]))]) (c' := 14) (show ACalls P (N 477) [(.d (TJson.enc (TJson.mk rx46.fKind rx46.fText rx46.fL rx46.fKeys))), (.d (.int .i64 (IntKind.i64.wrap (a1 + (1 : Int))))), (.lf 0)] [(0, (.lp 30 [(3, (.ptr 1 0)), (4, (.ptr 2 0)), (5, (.ptr 3 0)), (6, (.ptr 4 0)), (7, (.ptr 5 0)), (8, (.ptr 7 0))] [14, 15] asg0 bd0 .ready none)), (1, (.cells [(.d (.int .i64 a2))])), (2, (.cells [.nils])), (3, (.cells [.nils])), (4, (.cells [(.d (.bool a3))])), (5, (.cells [(.ap 9 1 (List.map (D.int .i64) y31_2))])), (9, (.tok ((List.map (D.int .i64) y31_2).length * 1))), (7, (.cells [(.ap 10 4 (List.map (rtE (z := 4)) y31_3))])), (10, (.tok ((List.map (rtE (z := 4)) y31_3).length * 4)))] (.d (.bool false)) [(0, (.lp 30 [(3, (.ptr 1 0)), (4, (.ptr 2 0)), (5, (.ptr 3 0)), (6, (.ptr 4 0)), (7, (.ptr 5 0)), (8, (.ptr 7 0))] [14, 15] asg0 bd0 .done (some .ret))), (1, (.cells [(.d (.int .i64 a2))])), (2, (.cells [.nils])), (3, (.cells [.nils])), (4, (.cells [(.d (.bool false))])), (5, (.cells [(.ap 12 1 (List.map (D.int .i64) r57.1))])), (7, (.cells [(.ap 13 4 (List.map (rtE (z := 4)) r57.2))])), (12, (.tok ((List.map (D.int .i64) r57.1).length * 1))), (13, (.tok ((List.map (rtE (z := 4)) r57.2).length * 4)))] from ACalls.use (hrc477v2.1 _ _ ha0 hb0 _ _ _ _ _ _ _ e57) [(0, 0), (1, 1), (2, 2), (3, 3), (4, 4), (5, 5), (6, 9), (7, 7), (8, 10), (9, 12), (10, 13)] 11 rfl) rfl rfl rfl rfl (.cons (.refl _) (.cons (.refl _) (.cons (.refl _) .nil))) (.refl _) (fun h => by cases h) rfl (hasCons rfl (hasCons rfl (hasCons rfl (hasCons rfl (hasCons rfl (hasCons rfl (hasCons rfl (hasCons rfl (hasCons rfl hasNil))))))))) rfl rfl rfl rfl ?_
        refine RegV.p0 (v := (.d (.bool true))) rfl rfl rfl ?_
        refine RegV.nil0 ?_
        refine AWc.cond rfl (fun _ => ?_) (fun hc => by cases hc)
        refine AWc.seq ?_
        refine AWc.rg hmix rfl rfl ?_
        refine RegV.p0 rfl rfl rfl ?_
        refine RegV.nil0 ?_
        cases h31
        dsimp only at h
        cases h
      · dsimp only at h31
        refine RegV.callS (q := false) (H' := [(0, (.lp 30 [(3, (.ptr 1 0)), (4, (.ptr 2 0)), (5, (.ptr 3 0)), (6, (.ptr 4 0)), (7, (.ptr 5 0)), (8, (.ptr 7 0))] [14, 15] asg0 bd0 .ready none)), (1, (.cells [(.d (.int .i64 a2))])), (2, (.cells [.nils])), (3, (.cells [.nils])), (4, (.cells [(.d (.bool a3))])), (5, (.cells [(.ap 12 1 (List.map (D.int .i64) r57.1))])), (7, (.cells [(.ap 13 4 (List.map (rtE (z := 4)) r57.2))])), (12, (.tok ((List.map (D.int .i64) r57.1).length * 1))), (13, (.tok ((List.map (rtE (z := 4)) r57.2).length * 4))), (11, (.cells [(.d (.int .i64 rx46.fKind)), (.d (.str rx46.fText)), (.d (.sl (List.map (rtE (z := 4)) rx46.fL))), (.d (.sl (List.map D.str rx46.fKeys)))]))]) (c' := 14) (show ACalls P (N 477) [(.d (TJson.enc (TJson.mk rx46.fKind rx46.fText rx46.fL rx46.fKeys))), (.d (.int .i64 (IntKind.i64.wrap (a1 + (1 : Int))))), (.lf 0)] [(0, (.lp 30 [(3, (.ptr 1 0)), (4, (.ptr 2 0)), (5, (.ptr 3 0)), (6, (.ptr 4 0)), (7, (.ptr 5 0)), (8, (.ptr 7 0))] [14, 15] asg0 bd0 .ready none)), (1, (.cells [(.d (.int .i64 a2))])), (2, (.cells [.nils])), (3, (.cells [.nils])), (4, (.cells [(.d (.bool a3))])), (5, (.cells [(.ap 9 1 (List.map (D.int .i64) y31_2))])), (9, (.tok ((List.map (D.int .i64) y31_2).length * 1))), (7, (.cells [(.ap 10 4 (List.map (rtE (z := 4)) y31_3))])), (10, (.tok ((List.map (rtE (z := 4)) y31_3).length * 4)))] (.d (.bool true)) [(0, (.lp 30 [(3, (.ptr 1 0)), (4, (.ptr 2 0)), (5, (.ptr 3 0)), (6, (.ptr 4 0)), (7, (.ptr 5 0)), (8, (.ptr 7 0))] [14, 15] asg0 bd0 .ready none)), (1, (.cells [(.d (.int .i64 a2))])), (2, (.cells [.nils])), (3, (.cells [.nils])), (4, (.cells [(.d (.bool a3))])), (5, (.cells [(.ap 12 1 (List.map (D.int .i64) r57.1))])), (7, (.cells [(.ap 13 4 (List.map (rtE (z := 4)) r57.2))])), (12, (.tok ((List.map (D.int .i64) r57.1).length * 1))), (13, (.tok ((List.map (rtE (z := 4)) r57.2).length * 4)))] from ACalls.use (hrc477v2.2 _ _ ha0 hb0 _ _ _ _ _ _ _ e57) [(0, 0), (1, 1), (2, 2), (3, 3), (4, 4), (5, 5), (6, 9), (7, 7), (8, 10), (9, 12), (10, 13)] 11 rfl) rfl rfl rfl rfl (.cons (.refl _) (.cons (.refl _) (.cons (.refl _) .nil))) (.refl _) (fun h => by cases h) rfl (hasCons rfl (hasCons rfl (hasCons rfl (hasCons rfl (hasCons rfl (hasCons rfl (hasCons rfl (hasCons rfl (hasCons rfl hasNil))))))))) rfl rfl rfl rfl ?_
        refine RegV.p0 (v := (.d (.bool false))) rfl rfl rfl ?_
        refine RegV.nil0 ?_
        refine AWc.cond rfl (fun hc => by cases hc) (fun _ => ?_)
        refine AWc.skip ?_
        refine AWc.rg hmix rfl rfl ?_
        refine RegV.p0 (v := (.d (.int .i64 (IntKind.i64.wrap (y31_1 + (1 : Int)))))) rfl rfl rfl ?_
        refine RegV.p0 rfl rfl rfl ?_
        refine RegV.nil0 ?_
        exact ⟨((IntKind.i64.wrap (y31_1 + (1 : Int))), r57.1, r57.2), h31, ⟨rfl, [], [(9, 12), (10, 13)], rfl, rfl, ⟨⟨_, rfl, (.refl _)⟩, rfl, ⟨⟨_, rfl, (.refl _)⟩, rfl, ⟨⟨_, rfl, (.refl _)⟩, rfl, ⟨⟨_, rfl, (.refl _)⟩, rfl, ⟨⟨_, rfl, (.refl _)⟩, rfl, trivial⟩⟩⟩⟩⟩, ⟨⟨_, rfl, (.refl _)⟩, rfl, rfl, ⟨⟨_, rfl, (.refl _)⟩, rfl, rfl, ⟨⟨_, rfl, (.refl _)⟩, rfl, rfl, ⟨⟨_, rfl, (.refl _)⟩, rfl, rfl, ⟨⟨_, rfl, (.refl _)⟩, rfl, rfl, ⟨⟨_, rfl, (.refl _)⟩, rfl, rfl, ⟨⟨_, rfl, (.refl _)⟩, rfl, rfl, ⟨⟨_, rfl, (.refl _)⟩, rfl, rfl, ⟨⟨_, rfl, (.refl _)⟩, rfl, rfl, trivial⟩⟩⟩⟩⟩⟩⟩⟩⟩⟩⟩
    · have h31 := cond_neg c38 h31
      cases h31
      dsimp only at h
      refine AWc.exit ?_
      refine inBlk_eq ?_
      refine AWc.seq ?_
      refine AWc.rg hmix rfl rfl ?_
      refine RegV.p0 rfl rfl rfl ?_
      refine RegV.nil0 ?_
      have hr := Option.some.inj h
      have hr := Sum.inr.inj hr
      subst hr
      exact AWc.ret (canQ (N := 29) (k := 11) (l' := [(6, (.d (.bool true)))]) (H' := [(0, (.lp 30 [(3, (.ptr 1 0)), (4, (.ptr 2 0)), (5, (.ptr 3 0)), (6, (.ptr 4 0)), (7, (.ptr 5 0)), (8, (.ptr 7 0))] [14, 15] asg0 bd0 .ready none)), (1, (.cells [(.d (.int .i64 a2))])), (2, (.cells [.nils])), (3, (.cells [.nils])), (4, (.cells [(.d (.bool a3))])), (5, (.cells [(.ap 9 1 (List.map (D.int .i64) y31_2))])), (7, (.cells [(.ap 10 4 (List.map (rtE (z := 4)) y31_3))])), (9, (.tok ((List.map (D.int .i64) y31_2).length * 1))), (10, (.tok ((List.map (rtE (z := 4)) y31_3).length * 4)))]) rfl ⟨rfl, [], [], rfl, rfl, ⟨⟨_, rfl, (.refl _)⟩, rfl, trivial⟩, ⟨⟨_, rfl, (.refl _)⟩, rfl, rfl, ⟨⟨_, rfl, (.refl _)⟩, rfl, rfl, ⟨⟨_, rfl, (.refl _)⟩, rfl, rfl, ⟨⟨_, rfl, (.refl _)⟩, rfl, rfl, ⟨⟨_, rfl, (.refl _)⟩, rfl, rfl, ⟨⟨_, rfl, (.refl _)⟩, rfl, rfl, ⟨⟨_, rfl, (.refl _)⟩, rfl, rfl, ⟨⟨_, rfl, (.refl _)⟩, rfl, rfl, ⟨⟨_, rfl, (.refl _)⟩, rfl, rfl, trivial⟩⟩⟩⟩⟩⟩⟩⟩⟩⟩ (doneA (.inr rfl) rfl ⟨trivial, trivial⟩ (.refl _) (hasCons rfl (hasCons rfl (hasCons rfl (hasCons rfl (hasCons rfl (hasCons rfl (hasCons rfl (hasCons rfl (hasCons rfl hasNil)))))))))))
def f477v2 : Nat → TJson → Int → Int → Bool → (List Int) → (List (RT 4)) → Option (((List Int) × (List (RT 4))) ⊕ ((List Int) × (List (RT 4))))
  | 0, _, _, _, _, _, _ => none
  | k + 1, a0, a1, a2, a3, a4, a5 => f477v2_s (f477v2 k) k a0 a1 a2 a3 a4 a5
theorem F477v2all {P : Program} {N : Nat → Nat} (hmix : P.follows .mixedOrders = true) (hc : HC477v2 P N) (k : Nat) : RH477v2 P N (f477v2 k) := by
  induction k with
  | zero => refine ⟨?_, ?_⟩ <;> (intros; rename_i h; exact absurd (show (none : Option _) = some _ from h) (fun h2 => by cases h2))
  | succ k ih => exact ⟨fun asg0 bd0 ha0 hb0 a0 a1 a2 a3 a4 a5 r h => F477v2_0_s hmix hc ih ha0 hb0 h, fun asg0 bd0 ha0 hb0 a0 a1 a2 a3 a4 a5 r h => F477v2_1_s hmix hc ih ha0 hb0 h⟩
theorem F477v2_0 {P : Program} {N : Nat → Nat} (hmix : P.follows .mixedOrders = true) (hc : HC477v2 P N) {asg0 bd0 : Code} (ha0 : compCode P asg0 = L476_0a N) (hb0 : compCode P bd0 = L476_0b N) {k : Nat} {a0 : TJson} {a1 : Int} {a2 : Int} {a3 : Bool} {a4 : (List Int)} {a5 : (List (RT 4))} {r : ((List Int) × (List (RT 4)))} (h : f477v2 k a0 a1 a2 a3 a4 a5 = some (.inl r)) :
    ACalls P (N 477) [(.d (TJson.enc a0)), (.d (.int .i64 a1)), (.lf 0)] [(0, (.lp 30 [(3, (.ptr 1 0)), (4, (.ptr 2 0)), (5, (.ptr 3 0)), (6, (.ptr 4 0)), (7, (.ptr 5 0)), (8, (.ptr 7 0))] [14, 15] asg0 bd0 .ready none)), (1, (.cells [(.d (.int .i64 a2))])), (2, (.cells [.nils])), (3, (.cells [.nils])), (4, (.cells [(.d (.bool a3))])), (5, (.cells [(.ap 6 1 (List.map (D.int .i64) a4))])), (6, (.tok ((List.map (D.int .i64) a4).length * 1))), (7, (.cells [(.ap 8 4 (List.map (rtE (z := 4)) a5))])), (8, (.tok ((List.map (rtE (z := 4)) a5).length * 4)))] (.d (.bool false)) [(0, (.lp 30 [(3, (.ptr 1 0)), (4, (.ptr 2 0)), (5, (.ptr 3 0)), (6, (.ptr 4 0)), (7, (.ptr 5 0)), (8, (.ptr 7 0))] [14, 15] asg0 bd0 .done (some .ret))), (1, (.cells [(.d (.int .i64 a2))])), (2, (.cells [.nils])), (3, (.cells [.nils])), (4, (.cells [(.d (.bool false))])), (5, (.cells [(.ap 9 1 (List.map (D.int .i64) r.1))])), (7, (.cells [(.ap 10 4 (List.map (rtE (z := 4)) r.2))])), (9, (.tok ((List.map (D.int .i64) r.1).length * 1))), (10, (.tok ((List.map (rtE (z := 4)) r.2).length * 4)))] := (F477v2all hmix hc k).1 _ _ ha0 hb0 _ _ _ _ _ _ _ h
theorem F477v2_1 {P : Program} {N : Nat → Nat} (hmix : P.follows .mixedOrders = true) (hc : HC477v2 P N) {asg0 bd0 : Code} (ha0 : compCode P asg0 = L476_0a N) (hb0 : compCode P bd0 = L476_0b N) {k : Nat} {a0 : TJson} {a1 : Int} {a2 : Int} {a3 : Bool} {a4 : (List Int)} {a5 : (List (RT 4))} {r : ((List Int) × (List (RT 4)))} (h : f477v2 k a0 a1 a2 a3 a4 a5 = some (.inr r)) :
    ACalls P (N 477) [(.d (TJson.enc a0)), (.d (.int .i64 a1)), (.lf 0)] [(0, (.lp 30 [(3, (.ptr 1 0)), (4, (.ptr 2 0)), (5, (.ptr 3 0)), (6, (.ptr 4 0)), (7, (.ptr 5 0)), (8, (.ptr 7 0))] [14, 15] asg0 bd0 .ready none)), (1, (.cells [(.d (.int .i64 a2))])), (2, (.cells [.nils])), (3, (.cells [.nils])), (4, (.cells [(.d (.bool a3))])), (5, (.cells [(.ap 6 1 (List.map (D.int .i64) a4))])), (6, (.tok ((List.map (D.int .i64) a4).length * 1))), (7, (.cells [(.ap 8 4 (List.map (rtE (z := 4)) a5))])), (8, (.tok ((List.map (rtE (z := 4)) a5).length * 4)))] (.d (.bool true)) [(0, (.lp 30 [(3, (.ptr 1 0)), (4, (.ptr 2 0)), (5, (.ptr 3 0)), (6, (.ptr 4 0)), (7, (.ptr 5 0)), (8, (.ptr 7 0))] [14, 15] asg0 bd0 .ready none)), (1, (.cells [(.d (.int .i64 a2))])), (2, (.cells [.nils])), (3, (.cells [.nils])), (4, (.cells [(.d (.bool a3))])), (5, (.cells [(.ap 9 1 (List.map (D.int .i64) r.1))])), (7, (.cells [(.ap 10 4 (List.map (rtE (z := 4)) r.2))])), (9, (.tok ((List.map (D.int .i64) r.1).length * 1))), (10, (.tok ((List.map (rtE (z := 4)) r.2).length * 4)))] := (F477v2all hmix hc k).2 _ _ ha0 hb0 _ _ _ _ _ _ _ h
def HC477 (P : Program) (N : Nat → Nat) : Prop := HasF P (N 477) (C477 N) ∧ HC441 P N ∧ HCb476_37 P N ∧ HC477v2 P N
def f477_l31 (a0 : TJson) (a1 : Int) (a2 : Int) (a3 : Bool) : Nat → Int → (List Int) → (List (RT 4)) → Option (LR2 ((List Int) × (List (RT 4))) Unit (((List Int) × (List (RT 4))) ⊕ ((List Int) × (List (RT 4)))))
  | 0, _, _, _ => none
  | k + 1, y31_1, y31_2, y31_3 => cond (decide (y31_1 < ((a0.fL.length : Nat) : Int))) (gd (0 ≤ y31_1 ∧ y31_1 < ((a0.fL.length : Nat) : Int)) ((TJson.dec (rtE (rd a0.fL y31_1))).bind fun rx46 => (f477v2 k (TJson.mk rx46.fKind rx46.fText rx46.fL rx46.fKeys) (IntKind.i64.wrap (a1 + (1 : Int))) a2 a3 y31_2 y31_3).bind fun or57 => (match or57 with | .inl r57 => some (.r (.inl (r57.1, r57.2))) | .inr r57 => f477_l31 a0 a1 a2 a3 k (IntKind.i64.wrap (y31_1 + (1 : Int))) r57.1 r57.2))) (some (.b0 (y31_2, y31_3)))
def f477 (k : Nat) (a0 : TJson) (a1 : Int) (a2 : Int) (a3 : Bool) : Option (((List Int) × (List (RT 4))) ⊕ ((List Int) × (List (RT 4)))) := (f441 k (TJson.mk a0.fKind a0.fText a0.fL a0.fKeys)).bind fun r13 => (b476_37 k a2 a3 a1 (TJson.mk ((TJson.mk a0.fKind a0.fText a0.fL a0.fKeys).fKind) ((TJson.mk a0.fKind a0.fText a0.fL a0.fKeys).fText) r13.1 r13.2)).bind fun or14 => (match or14 with | .inl r14 => some (.inl (([a1] : List Int), ([(RT.of TJson.ok (TJson.mk (TJson.mk ((TJson.mk a0.fKind a0.fText a0.fL a0.fKeys).fKind) ((TJson.mk a0.fKind a0.fText a0.fL a0.fKeys).fText) r13.1 r13.2).fKind (TJson.mk ((TJson.mk a0.fKind a0.fText a0.fL a0.fKeys).fKind) ((TJson.mk a0.fKind a0.fText a0.fL a0.fKeys).fText) r13.1 r13.2).fText (TJson.mk ((TJson.mk a0.fKind a0.fText a0.fL a0.fKeys).fKind) ((TJson.mk a0.fKind a0.fText a0.fL a0.fKeys).fText) r13.1 r13.2).fL (TJson.mk ((TJson.mk a0.fKind a0.fText a0.fL a0.fKeys).fKind) ((TJson.mk a0.fKind a0.fText a0.fL a0.fKeys).fText) r13.1 r13.2).fKeys))] : List (RT 4)))) | .inr r14 => (f477_l31 a0 a1 a2 a3 k (0 : Int) ([a1] : List Int) ([(RT.of TJson.ok (TJson.mk (TJson.mk ((TJson.mk a0.fKind a0.fText a0.fL a0.fKeys).fKind) ((TJson.mk a0.fKind a0.fText a0.fL a0.fKeys).fText) r13.1 r13.2).fKind (TJson.mk ((TJson.mk a0.fKind a0.fText a0.fL a0.fKeys).fKind) ((TJson.mk a0.fKind a0.fText a0.fL a0.fKeys).fText) r13.1 r13.2).fText (TJson.mk ((TJson.mk a0.fKind a0.fText a0.fL a0.fKeys).fKind) ((TJson.mk a0.fKind a0.fText a0.fL a0.fKeys).fText) r13.1 r13.2).fL (TJson.mk ((TJson.mk a0.fKind a0.fText a0.fL a0.fKeys).fKind) ((TJson.mk a0.fKind a0.fText a0.fL a0.fKeys).fText) r13.1 r13.2).fKeys))] : List (RT 4))).bind fun o31 => (match o31 with | .b0 (x31_1, x31_2) => some (.inr ((x31_1, x31_2))) | .r x => some x | _ => none))
theorem F477_0 {P : Program} {N : Nat → Nat} (hmix : P.follows .mixedOrders = true) (hc : HC477 P N) {asg0 bd0 : Code} (ha0 : compCode P asg0 = L476_0a N) (hb0 : compCode P bd0 = L476_0b N) {k : Nat} {a0 : TJson} {a1 : Int} {a2 : Int} {a3 : Bool} {r : ((List Int) × (List (RT 4)))} (h : f477 k a0 a1 a2 a3 = some (.inl r)) :
    ACalls P (N 477) [(.d (TJson.enc a0)), (.d (.int .i64 a1)), (.lf 0)] [(0, (.lp 30 [(3, (.ptr 1 0)), (4, (.ptr 2 0)), (5, (.ptr 3 0)), (6, (.ptr 4 0)), (7, (.ptr 5 0)), (8, (.ptr 6 0))] [14, 15] asg0 bd0 .ready none)), (1, (.cells [(.d (.int .i64 a2))])), (2, (.cells [.nils])), (3, (.cells [.nils])), (4, (.cells [(.d (.bool a3))])), (5, (.cells [.nils])), (6, (.cells [.nils]))] (.d (.bool false)) [(0, (.lp 30 [(3, (.ptr 1 0)), (4, (.ptr 2 0)), (5, (.ptr 3 0)), (6, (.ptr 4 0)), (7, (.ptr 5 0)), (8, (.ptr 6 0))] [14, 15] asg0 bd0 .done (some .ret))), (1, (.cells [(.d (.int .i64 a2))])), (2, (.cells [.nils])), (3, (.cells [.nils])), (4, (.cells [(.d (.bool false))])), (5, (.cells [(.ap 7 1 (List.map (D.int .i64) r.1))])), (6, (.cells [(.ap 8 4 (List.map (rtE (z := 4)) r.2))])), (7, (.tok ((List.map (D.int .i64) r.1).length * 1))), (8, (.tok ((List.map (rtE (z := 4)) r.2).length * 4)))] := by
  refine acalls_canon (F := C477 N) hc.1 7 9 rfl ?_
  unfold f477 at h
  dsimp only [C477, startL]
  refine AWc.seq ?_
  refine AWc.rg hmix rfl rfl ?_
  refine RegV.evS (own := false) (v := (.ptr 7 0)) (H' := [(7, (.cells [(.d (.int .i64 a0.fKind)), (.d (.str a0.fText)), (.d (.sl (List.map (rtE (z := 4)) a0.fL))), (.d (.sl (List.map D.str a0.fKeys)))])), (0, (.lp 30 [(3, (.ptr 1 0)), (4, (.ptr 2 0)), (5, (.ptr 3 0)), (6, (.ptr 4 0)), (7, (.ptr 5 0)), (8, (.ptr 6 0))] [14, 15] asg0 bd0 .ready none)), (1, (.cells [(.d (.int .i64 a2))])), (2, (.cells [.nils])), (3, (.cells [.nils])), (4, (.cells [(.d (.bool a3))])), (5, (.cells [.nils])), (6, (.cells [.nils]))]) (c' := 8) rfl rfl trivial rfl rfl rfl rfl rfl rfl ?_
  refine RegV.p0 rfl rfl rfl ?_
  refine RegV.nil0 ?_
  refine AWc.seq ?_
  refine AWc.seq ?_
  refine AWc.rg hmix rfl rfl ?_
  refine RegV.p0 rfl rfl rfl ?_
  refine RegV.p0 rfl rfl rfl ?_
  refine RegV.ld (v := (.d (.agg [(.int .i64 a0.fKind), (.str a0.fText), (.sl (List.map (rtE (z := 4)) a0.fL)), (.sl (List.map D.str a0.fKeys))]))) (H' := [(7, (.cells [(.d (.int .i64 a0.fKind)), (.d (.str a0.fText)), (.d (.sl (List.map (rtE (z := 4)) a0.fL))), (.d (.sl (List.map D.str a0.fKeys)))])), (0, (.lp 30 [(3, (.ptr 1 0)), (4, (.ptr 2 0)), (5, (.ptr 3 0)), (6, (.ptr 4 0)), (7, (.ptr 5 0)), (8, (.ptr 6 0))] [14, 15] asg0 bd0 .ready none)), (1, (.cells [(.d (.int .i64 a2))])), (2, (.cells [.nils])), (3, (.cells [.nils])), (4, (.cells [(.d (.bool a3))])), (5, (.cells [.nils])), (6, (.cells [.nils]))]) rfl rfl (Nat.le_of_ble_eq_true rfl) rfl rfl rfl rfl rfl ?_
  obtain ⟨r13, e13, h⟩ := bind_some h
  refine RegV.call0 (F441 hmix hc.2.1 e13) rfl rfl rfl rfl (.cons (.refl _) .nil) rfl ?_
  obtain ⟨or14, e14, h⟩ := bind_some h
  rcases or14 with r14 | r14
  · dsimp only at h
    refine RegV.yield (H' := [(0, (.lp 30 [(3, (.ptr 1 0)), (4, (.ptr 2 0)), (5, (.ptr 3 0)), (6, (.ptr 4 0)), (7, (.ptr 5 0)), (8, (.ptr 6 0))] [14, 15] asg0 bd0 .done (some .ret))), (1, (.cells [(.d (.int .i64 a2))])), (2, (.cells [.nils])), (3, (.cells [.nils])), (4, (.cells [(.d (.bool false))])), (5, (.cells [(.ap 8 1 (List.map (D.int .i64) ([a1] : List Int)))])), (6, (.cells [(.ap 9 4 (List.map (rtE (z := 4)) ([(RT.of TJson.ok (TJson.mk (TJson.mk ((TJson.mk a0.fKind a0.fText a0.fL a0.fKeys).fKind) ((TJson.mk a0.fKind a0.fText a0.fL a0.fKeys).fText) r13.1 r13.2).fKind (TJson.mk ((TJson.mk a0.fKind a0.fText a0.fL a0.fKeys).fKind) ((TJson.mk a0.fKind a0.fText a0.fL a0.fKeys).fText) r13.1 r13.2).fText (TJson.mk ((TJson.mk a0.fKind a0.fText a0.fL a0.fKeys).fKind) ((TJson.mk a0.fKind a0.fText a0.fL a0.fKeys).fText) r13.1 r13.2).fL (TJson.mk ((TJson.mk a0.fKind a0.fText a0.fL a0.fKeys).fKind) ((TJson.mk a0.fKind a0.fText a0.fL a0.fKeys).fText) r13.1 r13.2).fKeys))] : List (RT 4))))])), (8, (.tok ((List.map (D.int .i64) ([a1] : List Int)).length * 1))), (9, (.tok ((List.map (rtE (z := 4)) ([(RT.of TJson.ok (TJson.mk (TJson.mk ((TJson.mk a0.fKind a0.fText a0.fL a0.fKeys).fKind) ((TJson.mk a0.fKind a0.fText a0.fL a0.fKeys).fText) r13.1 r13.2).fKind (TJson.mk ((TJson.mk a0.fKind a0.fText a0.fL a0.fKeys).fKind) ((TJson.mk a0.fKind a0.fText a0.fL a0.fKeys).fText) r13.1 r13.2).fText (TJson.mk ((TJson.mk a0.fKind a0.fText a0.fL a0.fKeys).fKind) ((TJson.mk a0.fKind a0.fText a0.fL a0.fKeys).fText) r13.1 r13.2).fL (TJson.mk ((TJson.mk a0.fKind a0.fText a0.fL a0.fKeys).fKind) ((TJson.mk a0.fKind a0.fText a0.fL a0.fKeys).fText) r13.1 r13.2).fKeys))] : List (RT 4))).length * 4))), (7, (.cells [(.d (.int .i64 a0.fKind)), (.d (.str a0.fText)), (.d (.sl (List.map (rtE (z := 4)) a0.fL))), (.d (.sl (List.map D.str a0.fKeys)))]))]) (c' := 10) (show ARound P 0 [(.d (.int .i64 a1)), (.d (TJson.enc (TJson.mk ((TJson.mk a0.fKind a0.fText a0.fL a0.fKeys).fKind) ((TJson.mk a0.fKind a0.fText a0.fL a0.fKeys).fText) r13.1 r13.2)))] [(0, (.lp 30 [(3, (.ptr 1 0)), (4, (.ptr 2 0)), (5, (.ptr 3 0)), (6, (.ptr 4 0)), (7, (.ptr 5 0)), (8, (.ptr 6 0))] [14, 15] asg0 bd0 .ready none)), (1, (.cells [(.d (.int .i64 a2))])), (2, (.cells [.nils])), (3, (.cells [.nils])), (4, (.cells [(.d (.bool a3))])), (5, (.cells [.nils])), (6, (.cells [.nils]))] (.d (.bool false)) [(0, (.lp 30 [(3, (.ptr 1 0)), (4, (.ptr 2 0)), (5, (.ptr 3 0)), (6, (.ptr 4 0)), (7, (.ptr 5 0)), (8, (.ptr 6 0))] [14, 15] asg0 bd0 .done (some .ret))), (1, (.cells [(.d (.int .i64 a2))])), (2, (.cells [.nils])), (3, (.cells [.nils])), (4, (.cells [(.d (.bool false))])), (5, (.cells [(.ap 8 1 (List.map (D.int .i64) ([a1] : List Int)))])), (6, (.cells [(.ap 9 4 (List.map (rtE (z := 4)) ([(RT.of TJson.ok (TJson.mk (TJson.mk ((TJson.mk a0.fKind a0.fText a0.fL a0.fKeys).fKind) ((TJson.mk a0.fKind a0.fText a0.fL a0.fKeys).fText) r13.1 r13.2).fKind (TJson.mk ((TJson.mk a0.fKind a0.fText a0.fL a0.fKeys).fKind) ((TJson.mk a0.fKind a0.fText a0.fL a0.fKeys).fText) r13.1 r13.2).fText (TJson.mk ((TJson.mk a0.fKind a0.fText a0.fL a0.fKeys).fKind) ((TJson.mk a0.fKind a0.fText a0.fL a0.fKeys).fText) r13.1 r13.2).fL (TJson.mk ((TJson.mk a0.fKind a0.fText a0.fL a0.fKeys).fKind) ((TJson.mk a0.fKind a0.fText a0.fL a0.fKeys).fText) r13.1 r13.2).fKeys))] : List (RT 4))))])), (8, (.tok ((List.map (D.int .i64) ([a1] : List Int)).length * 1))), (9, (.tok ((List.map (rtE (z := 4)) ([(RT.of TJson.ok (TJson.mk (TJson.mk ((TJson.mk a0.fKind a0.fText a0.fL a0.fKeys).fKind) ((TJson.mk a0.fKind a0.fText a0.fL a0.fKeys).fText) r13.1 r13.2).fKind (TJson.mk ((TJson.mk a0.fKind a0.fText a0.fL a0.fKeys).fKind) ((TJson.mk a0.fKind a0.fText a0.fL a0.fKeys).fText) r13.1 r13.2).fText (TJson.mk ((TJson.mk a0.fKind a0.fText a0.fL a0.fKeys).fKind) ((TJson.mk a0.fKind a0.fText a0.fL a0.fKeys).fText) r13.1 r13.2).fL (TJson.mk ((TJson.mk a0.fKind a0.fText a0.fL a0.fKeys).fKind) ((TJson.mk a0.fKind a0.fText a0.fL a0.fKeys).fText) r13.1 r13.2).fKeys))] : List (RT 4))).length * 4)))] from ARound.use (B476_37_0 hmix hc.2.2.1 ha0 hb0 e14) [(0, 0), (1, 1), (2, 2), (3, 3), (4, 4), (5, 5), (6, 6), (7, 8), (8, 9)] 9 rfl) rfl rfl rfl (.cons (.refl _) (.cons (.refl _) .nil)) rfl (hasCons rfl (hasCons rfl (hasCons rfl (hasCons rfl (hasCons rfl (hasCons rfl (hasCons rfl hasNil))))))) rfl rfl rfl rfl ?_
    refine RegV.p0 (v := (.d (.bool true))) rfl rfl rfl ?_
    refine RegV.nil0 ?_
    refine AWc.cond rfl (fun _ => ?_) (fun hc => by cases hc)
    refine AWc.seq ?_
    refine AWc.rg hmix rfl rfl ?_
    refine RegV.p0 rfl rfl rfl ?_
    refine RegV.nil0 ?_
    have hr := Option.some.inj h
    have hr := Sum.inl.inj hr
    subst hr
    exact AWc.ret (canQ (N := 29) (k := 9) (l' := [(6, (.d (.bool false)))]) (H' := [(0, (.lp 30 [(3, (.ptr 1 0)), (4, (.ptr 2 0)), (5, (.ptr 3 0)), (6, (.ptr 4 0)), (7, (.ptr 5 0)), (8, (.ptr 6 0))] [14, 15] asg0 bd0 .done (some .ret))), (1, (.cells [(.d (.int .i64 a2))])), (2, (.cells [.nils])), (3, (.cells [.nils])), (4, (.cells [(.d (.bool false))])), (5, (.cells [(.ap 7 1 (List.map (D.int .i64) ([a1] : List Int)))])), (6, (.cells [(.ap 8 4 (List.map (rtE (z := 4)) ([(RT.of TJson.ok (TJson.mk (TJson.mk ((TJson.mk a0.fKind a0.fText a0.fL a0.fKeys).fKind) ((TJson.mk a0.fKind a0.fText a0.fL a0.fKeys).fText) r13.1 r13.2).fKind (TJson.mk ((TJson.mk a0.fKind a0.fText a0.fL a0.fKeys).fKind) ((TJson.mk a0.fKind a0.fText a0.fL a0.fKeys).fText) r13.1 r13.2).fText (TJson.mk ((TJson.mk a0.fKind a0.fText a0.fL a0.fKeys).fKind) ((TJson.mk a0.fKind a0.fText a0.fL a0.fKeys).fText) r13.1 r13.2).fL (TJson.mk ((TJson.mk a0.fKind a0.fText a0.fL a0.fKeys).fKind) ((TJson.mk a0.fKind a0.fText a0.fL a0.fKeys).fText) r13.1 r13.2).fKeys))] : List (RT 4))))])), (7, (.tok ((List.map (D.int .i64) ([a1] : List Int)).length * 1))), (8, (.tok ((List.map (rtE (z := 4)) ([(RT.of TJson.ok (TJson.mk (TJson.mk ((TJson.mk a0.fKind a0.fText a0.fL a0.fKeys).fKind) ((TJson.mk a0.fKind a0.fText a0.fL a0.fKeys).fText) r13.1 r13.2).fKind (TJson.mk ((TJson.mk a0.fKind a0.fText a0.fL a0.fKeys).fKind) ((TJson.mk a0.fKind a0.fText a0.fL a0.fKeys).fText) r13.1 r13.2).fText (TJson.mk ((TJson.mk a0.fKind a0.fText a0.fL a0.fKeys).fKind) ((TJson.mk a0.fKind a0.fText a0.fL a0.fKeys).fText) r13.1 r13.2).fL (TJson.mk ((TJson.mk a0.fKind a0.fText a0.fL a0.fKeys).fKind) ((TJson.mk a0.fKind a0.fText a0.fL a0.fKeys).fText) r13.1 r13.2).fKeys))] : List (RT 4))).length * 4)))]) rfl ⟨rfl, [], [(7, 8), (8, 9)], rfl, rfl, ⟨⟨_, rfl, (.refl _)⟩, rfl, trivial⟩, ⟨⟨_, rfl, (.refl _)⟩, rfl, rfl, ⟨⟨_, rfl, (.refl _)⟩, rfl, rfl, ⟨⟨_, rfl, (.refl _)⟩, rfl, rfl, ⟨⟨_, rfl, (.refl _)⟩, rfl, rfl, ⟨⟨_, rfl, (.refl _)⟩, rfl, rfl, ⟨⟨_, rfl, (.refl _)⟩, rfl, rfl, ⟨⟨_, rfl, (.refl _)⟩, rfl, rfl, ⟨⟨_, rfl, (.refl _)⟩, rfl, rfl, ⟨⟨_, rfl, (.refl _)⟩, rfl, rfl, trivial⟩⟩⟩⟩⟩⟩⟩⟩⟩⟩ (doneA (.inr rfl) rfl ⟨trivial, trivial⟩ (.refl _) (hasCons rfl (hasCons rfl (hasCons rfl (hasCons rfl (hasCons rfl (hasCons rfl (hasCons rfl (hasCons rfl (hasCons rfl hasNil)))))))))))
  · dsimp only at h
    refine RegV.yield (H' := [(0, (.lp 30 [(3, (.ptr 1 0)), (4, (.ptr 2 0)), (5, (.ptr 3 0)), (6, (.ptr 4 0)), (7, (.ptr 5 0)), (8, (.ptr 6 0))] [14, 15] asg0 bd0 .ready none)), (1, (.cells [(.d (.int .i64 a2))])), (2, (.cells [.nils])), (3, (.cells [.nils])), (4, (.cells [(.d (.bool a3))])), (5, (.cells [(.ap 8 1 (List.map (D.int .i64) ([a1] : List Int)))])), (6, (.cells [(.ap 9 4 (List.map (rtE (z := 4)) ([(RT.of TJson.ok (TJson.mk (TJson.mk ((TJson.mk a0.fKind a0.fText a0.fL a0.fKeys).fKind) ((TJson.mk a0.fKind a0.fText a0.fL a0.fKeys).fText) r13.1 r13.2).fKind (TJson.mk ((TJson.mk a0.fKind a0.fText a0.fL a0.fKeys).fKind) ((TJson.mk a0.fKind a0.fText a0.fL a0.fKeys).fText) r13.1 r13.2).fText (TJson.mk ((TJson.mk a0.fKind a0.fText a0.fL a0.fKeys).fKind) ((TJson.mk a0.fKind a0.fText a0.fL a0.fKeys).fText) r13.1 r13.2).fL (TJson.mk ((TJson.mk a0.fKind a0.fText a0.fL a0.fKeys).fKind) ((TJson.mk a0.fKind a0.fText a0.fL a0.fKeys).fText) r13.1 r13.2).fKeys))] : List (RT 4))))])), (8, (.tok ((List.map (D.int .i64) ([a1] : List Int)).length * 1))), (9, (.tok ((List.map (rtE (z := 4)) ([(RT.of TJson.ok (TJson.mk (TJson.mk ((TJson.mk a0.fKind a0.fText a0.fL a0.fKeys).fKind) ((TJson.mk a0.fKind a0.fText a0.fL a0.fKeys).fText) r13.1 r13.2).fKind (TJson.mk ((TJson.mk a0.fKind a0.fText a0.fL a0.fKeys).fKind) ((TJson.mk a0.fKind a0.fText a0.fL a0.fKeys).fText) r13.1 r13.2).fText (TJson.mk ((TJson.mk a0.fKind a0.fText a0.fL a0.fKeys).fKind) ((TJson.mk a0.fKind a0.fText a0.fL a0.fKeys).fText) r13.1 r13.2).fL (TJson.mk ((TJson.mk a0.fKind a0.fText a0.fL a0.fKeys).fKind) ((TJson.mk a0.fKind a0.fText a0.fL a0.fKeys).fText) r13.1 r13.2).fKeys))] : List (RT 4))).length * 4))), (7, (.cells [(.d (.int .i64 a0.fKind)), (.d (.str a0.fText)), (.d (.sl (List.map (rtE (z := 4)) a0.fL))), (.d (.sl (List.map D.str a0.fKeys)))]))]) (c' := 10) (show ARound P 0 [(.d (.int .i64 a1)), (.d (TJson.enc (TJson.mk ((TJson.mk a0.fKind a0.fText a0.fL a0.fKeys).fKind) ((TJson.mk a0.fKind a0.fText a0.fL a0.fKeys).fText) r13.1 r13.2)))] [(0, (.lp 30 [(3, (.ptr 1 0)), (4, (.ptr 2 0)), (5, (.ptr 3 0)), (6, (.ptr 4 0)), (7, (.ptr 5 0)), (8, (.ptr 6 0))] [14, 15] asg0 bd0 .ready none)), (1, (.cells [(.d (.int .i64 a2))])), (2, (.cells [.nils])), (3, (.cells [.nils])), (4, (.cells [(.d (.bool a3))])), (5, (.cells [.nils])), (6, (.cells [.nils]))] (.d (.bool true)) [(0, (.lp 30 [(3, (.ptr 1 0)), (4, (.ptr 2 0)), (5, (.ptr 3 0)), (6, (.ptr 4 0)), (7, (.ptr 5 0)), (8, (.ptr 6 0))] [14, 15] asg0 bd0 .ready none)), (1, (.cells [(.d (.int .i64 a2))])), (2, (.cells [.nils])), (3, (.cells [.nils])), (4, (.cells [(.d (.bool a3))])), (5, (.cells [(.ap 8 1 (List.map (D.int .i64) ([a1] : List Int)))])), (6, (.cells [(.ap 9 4 (List.map (rtE (z := 4)) ([(RT.of TJson.ok (TJson.mk (TJson.mk ((TJson.mk a0.fKind a0.fText a0.fL a0.fKeys).fKind) ((TJson.mk a0.fKind a0.fText a0.fL a0.fKeys).fText) r13.1 r13.2).fKind (TJson.mk ((TJson.mk a0.fKind a0.fText a0.fL a0.fKeys).fKind) ((TJson.mk a0.fKind a0.fText a0.fL a0.fKeys).fText) r13.1 r13.2).fText (TJson.mk ((TJson.mk a0.fKind a0.fText a0.fL a0.fKeys).fKind) ((TJson.mk a0.fKind a0.fText a0.fL a0.fKeys).fText) r13.1 r13.2).fL (TJson.mk ((TJson.mk a0.fKind a0.fText a0.fL a0.fKeys).fKind) ((TJson.mk a0.fKind a0.fText a0.fL a0.fKeys).fText) r13.1 r13.2).fKeys))] : List (RT 4))))])), (8, (.tok ((List.map (D.int .i64) ([a1] : List Int)).length * 1))), (9, (.tok ((List.map (rtE (z := 4)) ([(RT.of TJson.ok (TJson.mk (TJson.mk ((TJson.mk a0.fKind a0.fText a0.fL a0.fKeys).fKind) ((TJson.mk a0.fKind a0.fText a0.fL a0.fKeys).fText) r13.1 r13.2).fKind (TJson.mk ((TJson.mk a0.fKind a0.fText a0.fL a0.fKeys).fKind) ((TJson.mk a0.fKind a0.fText a0.fL a0.fKeys).fText) r13.1 r13.2).fText (TJson.mk ((TJson.mk a0.fKind a0.fText a0.fL a0.fKeys).fKind) ((TJson.mk a0.fKind a0.fText a0.fL a0.fKeys).fText) r13.1 r13.2).fL (TJson.mk ((TJson.mk a0.fKind a0.fText a0.fL a0.fKeys).fKind) ((TJson.mk a0.fKind a0.fText a0.fL a0.fKeys).fText) r13.1 r13.2).fKeys))] : List (RT 4))).length * 4)))] from ARound.use (B476_37_1 hmix hc.2.2.1 ha0 hb0 e14) [(0, 0), (1, 1), (2, 2), (3, 3), (4, 4), (5, 5), (6, 6), (7, 8), (8, 9)] 9 rfl) rfl rfl rfl (.cons (.refl _) (.cons (.refl _) .nil)) rfl (hasCons rfl (hasCons rfl (hasCons rfl (hasCons rfl (hasCons rfl (hasCons rfl (hasCons rfl hasNil))))))) rfl rfl rfl rfl ?_
    refine RegV.p0 (v := (.d (.bool false))) rfl rfl rfl ?_
    refine RegV.nil0 ?_
    refine AWc.cond rfl (fun hc => by cases hc) (fun _ => ?_)
    refine AWc.skip ?_
    refine AWc.seq ?_
    refine AWc.seq ?_
    refine AWc.rg hmix rfl rfl ?_
    refine RegV.p0 (v := (.ptr 7 2)) rfl rfl rfl ?_
    refine RegV.ld (v := (.d (.sl (List.map (rtE (z := 4)) a0.fL)))) (H' := [(7, (.cells [(.d (.int .i64 a0.fKind)), (.d (.str a0.fText)), (.d (.sl (List.map (rtE (z := 4)) a0.fL))), (.d (.sl (List.map D.str a0.fKeys)))])), (0, (.lp 30 [(3, (.ptr 1 0)), (4, (.ptr 2 0)), (5, (.ptr 3 0)), (6, (.ptr 4 0)), (7, (.ptr 5 0)), (8, (.ptr 6 0))] [14, 15] asg0 bd0 .ready none)), (1, (.cells [(.d (.int .i64 a2))])), (2, (.cells [.nils])), (3, (.cells [.nils])), (4, (.cells [(.d (.bool a3))])), (5, (.cells [(.ap 8 1 (List.map (D.int .i64) ([a1] : List Int)))])), (6, (.cells [(.ap 9 4 (List.map (rtE (z := 4)) ([(RT.of TJson.ok (TJson.mk (TJson.mk ((TJson.mk a0.fKind a0.fText a0.fL a0.fKeys).fKind) ((TJson.mk a0.fKind a0.fText a0.fL a0.fKeys).fText) r13.1 r13.2).fKind (TJson.mk ((TJson.mk a0.fKind a0.fText a0.fL a0.fKeys).fKind) ((TJson.mk a0.fKind a0.fText a0.fL a0.fKeys).fText) r13.1 r13.2).fText (TJson.mk ((TJson.mk a0.fKind a0.fText a0.fL a0.fKeys).fKind) ((TJson.mk a0.fKind a0.fText a0.fL a0.fKeys).fText) r13.1 r13.2).fL (TJson.mk ((TJson.mk a0.fKind a0.fText a0.fL a0.fKeys).fKind) ((TJson.mk a0.fKind a0.fText a0.fL a0.fKeys).fText) r13.1 r13.2).fKeys))] : List (RT 4))))])), (8, (.tok ((List.map (D.int .i64) ([a1] : List Int)).length * 1))), (9, (.tok ((List.map (rtE (z := 4)) ([(RT.of TJson.ok (TJson.mk (TJson.mk ((TJson.mk a0.fKind a0.fText a0.fL a0.fKeys).fKind) ((TJson.mk a0.fKind a0.fText a0.fL a0.fKeys).fText) r13.1 r13.2).fKind (TJson.mk ((TJson.mk a0.fKind a0.fText a0.fL a0.fKeys).fKind) ((TJson.mk a0.fKind a0.fText a0.fL a0.fKeys).fText) r13.1 r13.2).fText (TJson.mk ((TJson.mk a0.fKind a0.fText a0.fL a0.fKeys).fKind) ((TJson.mk a0.fKind a0.fText a0.fL a0.fKeys).fText) r13.1 r13.2).fL (TJson.mk ((TJson.mk a0.fKind a0.fText a0.fL a0.fKeys).fKind) ((TJson.mk a0.fKind a0.fText a0.fL a0.fKeys).fText) r13.1 r13.2).fKeys))] : List (RT 4))).length * 4)))]) rfl rfl trivial rfl rfl rfl rfl rfl ?_
    refine RegV.len (xs := a0.fL) (e := (rtE (z := 4))) rfl rfl rfl rfl ?_
    refine RegV.p0 rfl rfl rfl ?_
    refine RegV.nil0 ?_
    obtain ⟨o31, h31, h⟩ := bind_some h
    refine AWc.block ?_
    refine AWc.loopK (N := 29) 9 (fun (x : (Int × (List Int) × (List (RT 4)))) => [(1, (.d (.int .i64 a1))), (2, (.lf 0)), (16, (.d (.sl (List.map (rtE (z := 4)) a0.fL)))), (17, (.d (.int .i64 ((a0.fL.length : Nat) : Int)))), (18, (.d (.int .i64 x.1)))]) (fun x => [(0, (.lp 30 [(3, (.ptr 1 0)), (4, (.ptr 2 0)), (5, (.ptr 3 0)), (6, (.ptr 4 0)), (7, (.ptr 5 0)), (8, (.ptr 6 0))] [14, 15] asg0 bd0 .ready none)), (1, (.cells [(.d (.int .i64 a2))])), (2, (.cells [.nils])), (3, (.cells [.nils])), (4, (.cells [(.d (.bool a3))])), (5, (.cells [(.ap 7 1 (List.map (D.int .i64) x.2.1))])), (6, (.cells [(.ap 8 4 (List.map (rtE (z := 4)) x.2.2))])), (7, (.tok ((List.map (D.int .i64) x.2.1).length * 1))), (8, (.tok ((List.map (rtE (z := 4)) x.2.2).length * 4)))]) (fun k x => f477_l31 a0 a1 a2 a3 k x.1 x.2.1 x.2.2 = some o31) k ((0 : Int), ([a1] : List Int), ([(RT.of TJson.ok (TJson.mk (TJson.mk ((TJson.mk a0.fKind a0.fText a0.fL a0.fKeys).fKind) ((TJson.mk a0.fKind a0.fText a0.fL a0.fKeys).fText) r13.1 r13.2).fKind (TJson.mk ((TJson.mk a0.fKind a0.fText a0.fL a0.fKeys).fKind) ((TJson.mk a0.fKind a0.fText a0.fL a0.fKeys).fText) r13.1 r13.2).fText (TJson.mk ((TJson.mk a0.fKind a0.fText a0.fL a0.fKeys).fKind) ((TJson.mk a0.fKind a0.fText a0.fL a0.fKeys).fText) r13.1 r13.2).fL (TJson.mk ((TJson.mk a0.fKind a0.fText a0.fL a0.fKeys).fKind) ((TJson.mk a0.fKind a0.fText a0.fL a0.fKeys).fText) r13.1 r13.2).fKeys))] : List (RT 4))) rfl_le (fun x hx => by cases hx) h31 ⟨rfl, [], [(7, 8), (8, 9)], rfl, rfl, ⟨⟨_, rfl, (.refl _)⟩, rfl, ⟨⟨_, rfl, (.refl _)⟩, rfl, ⟨⟨_, rfl, (.refl _)⟩, rfl, ⟨⟨_, rfl, (.refl _)⟩, rfl, ⟨⟨_, rfl, (.refl _)⟩, rfl, trivial⟩⟩⟩⟩⟩, ⟨⟨_, rfl, (.refl _)⟩, rfl, rfl, ⟨⟨_, rfl, (.refl _)⟩, rfl, rfl, ⟨⟨_, rfl, (.refl _)⟩, rfl, rfl, ⟨⟨_, rfl, (.refl _)⟩, rfl, rfl, ⟨⟨_, rfl, (.refl _)⟩, rfl, rfl, ⟨⟨_, rfl, (.refl _)⟩, rfl, rfl, ⟨⟨_, rfl, (.refl _)⟩, rfl, rfl, ⟨⟨_, rfl, (.refl _)⟩, rfl, rfl, ⟨⟨_, rfl, (.refl _)⟩, rfl, rfl, trivial⟩⟩⟩⟩⟩⟩⟩⟩⟩⟩ ?_
    clear h31
    intro k
    rintro ⟨y31_1, y31_2, y31_3⟩ h31
    dsimp only at h31 ⊢
    rw [f477_l31] at h31
    refine AWc.seq ?_
    refine AWc.rg hmix rfl rfl ?_
    refine RegV.p0 (v := (.d (.bool (decide (y31_1 < ((a0.fL.length : Nat) : Int)))))) rfl rfl rfl ?_
    refine RegV.nil0 ?_
    refine AWc.seq ?_
    refine AWc.cond rfl (fun c38 => ?_) (fun c38 => ?_)
    · have h31 := cond_pos c38 h31
      refine AWc.skip ?_
      refine AWc.seq ?_
      refine AWc.block ?_
      refine AWc.seq ?_
      refine AWc.rg hmix rfl rfl ?_
      obtain ⟨b46, h31⟩ := gd_some h31
      obtain ⟨rx46, ex46, h31⟩ := bind_some h31
      refine RegV.iadE (xs := a0.fL) (e := (rtE (z := 4))) (w := TJson.enc rx46) rfl rfl rfl rfl rtE_ok.len b46 (TJson.dec_eq ex46) rfl ?_
      refine RegV.p1 (v := (.d (TJson.enc rx46))) rfl rfl rfl rfl rfl ?_
      refine RegV.evS (own := false) (v := (.ptr 9 0)) (H' := [(9, (.cells [(.d (.int .i64 (0 : Int))), (.d (.str ([] : List UInt8))), .nils, .nils])), (0, (.lp 30 [(3, (.ptr 1 0)), (4, (.ptr 2 0)), (5, (.ptr 3 0)), (6, (.ptr 4 0)), (7, (.ptr 5 0)), (8, (.ptr 6 0))] [14, 15] asg0 bd0 .ready none)), (1, (.cells [(.d (.int .i64 a2))])), (2, (.cells [.nils])), (3, (.cells [.nils])), (4, (.cells [(.d (.bool a3))])), (5, (.cells [(.ap 7 1 (List.map (D.int .i64) y31_2))])), (6, (.cells [(.ap 8 4 (List.map (rtE (z := 4)) y31_3))])), (7, (.tok ((List.map (D.int .i64) y31_2).length * 1))), (8, (.tok ((List.map (rtE (z := 4)) y31_3).length * 4)))]) (c' := 10) rfl rfl trivial rfl rfl rfl rfl rfl rfl ?_
      refine RegV.evN (own := false) (H' := [(9, (.cells [(.d (.int .i64 rx46.fKind)), (.d (.str rx46.fText)), (.d (.sl (List.map (rtE (z := 4)) rx46.fL))), (.d (.sl (List.map D.str rx46.fKeys)))])), (0, (.lp 30 [(3, (.ptr 1 0)), (4, (.ptr 2 0)), (5, (.ptr 3 0)), (6, (.ptr 4 0)), (7, (.ptr 5 0)), (8, (.ptr 6 0))] [14, 15] asg0 bd0 .ready none)), (1, (.cells [(.d (.int .i64 a2))])), (2, (.cells [.nils])), (3, (.cells [.nils])), (4, (.cells [(.d (.bool a3))])), (5, (.cells [(.ap 7 1 (List.map (D.int .i64) y31_2))])), (6, (.cells [(.ap 8 4 (List.map (rtE (z := 4)) y31_3))])), (7, (.tok ((List.map (D.int .i64) y31_2).length * 1))), (8, (.tok ((List.map (rtE (z := 4)) y31_3).length * 4)))]) (c' := 10) rfl rfl (by exact ⟨rfl, Nat.le_of_ble_eq_true rfl, rfl⟩) rfl rfl rfl rfl ?_
      refine RegV.nil0 ?_
      refine AWc.seq ?_
      refine AWc.rg hmix rfl rfl ?_
      refine RegV.ld (v := (.d (.agg [(.int .i64 rx46.fKind), (.str rx46.fText), (.sl (List.map (rtE (z := 4)) rx46.fL)), (.sl (List.map D.str rx46.fKeys))]))) (H' := [(9, (.cells [(.d (.int .i64 rx46.fKind)), (.d (.str rx46.fText)), (.d (.sl (List.map (rtE (z := 4)) rx46.fL))), (.d (.sl (List.map D.str rx46.fKeys)))])), (0, (.lp 30 [(3, (.ptr 1 0)), (4, (.ptr 2 0)), (5, (.ptr 3 0)), (6, (.ptr 4 0)), (7, (.ptr 5 0)), (8, (.ptr 6 0))] [14, 15] asg0 bd0 .ready none)), (1, (.cells [(.d (.int .i64 a2))])), (2, (.cells [.nils])), (3, (.cells [.nils])), (4, (.cells [(.d (.bool a3))])), (5, (.cells [(.ap 7 1 (List.map (D.int .i64) y31_2))])), (6, (.cells [(.ap 8 4 (List.map (rtE (z := 4)) y31_3))])), (7, (.tok ((List.map (D.int .i64) y31_2).length * 1))), (8, (.tok ((List.map (rtE (z := 4)) y31_3).length * 4)))]) rfl rfl (Nat.le_of_ble_eq_true rfl) rfl rfl rfl rfl rfl ?_
      refine RegV.p0 rfl rfl rfl ?_
      refine RegV.p0 (v := (.d (.int .i64 (IntKind.i64.wrap (a1 + (1 : Int)))))) rfl rfl rfl ?_
      refine RegV.p0 rfl rfl rfl ?_
      obtain ⟨or57, e57, h31⟩ := bind_some h31
      rcases or57 with r57 | r57
      · dsimp only at h31
        refine RegV.callS (q := false) (H' := [(0, (.lp 30 [(3, (.ptr 1 0)), (4, (.ptr 2 0)), (5, (.ptr 3 0)), (6, (.ptr 4 0)), (7, (.ptr 5 0)), (8, (.ptr 6 0))] [14, 15] asg0 bd0 .done (some .ret))), (1, (.cells [(.d (.int .i64 a2))])), (2, (.cells [.nils])), (3, (.cells [.nils])), (4, (.cells [(.d (.bool false))])), (5, (.cells [(.ap 10 1 (List.map (D.int .i64) r57.1))])), (6, (.cells [(.ap 11 4 (List.map (rtE (z := 4)) r57.2))])), (10, (.tok ((List.map (D.int .i64) r57.1).length * 1))), (11, (.tok ((List.map (rtE (z := 4)) r57.2).length * 4))), (9, (.cells [(.d (.int .i64 rx46.fKind)), (.d (.str rx46.fText)), (.d (.sl (List.map (rtE (z := 4)) rx46.fL))), (.d (.sl (List.map D.str rx46.fKeys)))]))]) (c' := 12) (show ACalls P (N 477) [(.d (TJson.enc (TJson.mk rx46.fKind rx46.fText rx46.fL rx46.fKeys))), (.d (.int .i64 (IntKind.i64.wrap (a1 + (1 : Int))))), (.lf 0)] [(0, (.lp 30 [(3, (.ptr 1 0)), (4, (.ptr 2 0)), (5, (.ptr 3 0)), (6, (.ptr 4 0)), (7, (.ptr 5 0)), (8, (.ptr 6 0))] [14, 15] asg0 bd0 .ready none)), (1, (.cells [(.d (.int .i64 a2))])), (2, (.cells [.nils])), (3, (.cells [.nils])), (4, (.cells [(.d (.bool a3))])), (5, (.cells [(.ap 7 1 (List.map (D.int .i64) y31_2))])), (7, (.tok ((List.map (D.int .i64) y31_2).length * 1))), (6, (.cells [(.ap 8 4 (List.map (rtE (z := 4)) y31_3))])), (8, (.tok ((List.map (rtE (z := 4)) y31_3).length * 4)))] (.d (.bool false)) [(0, (.lp 30 [(3, (.ptr 1 0)), (4, (.ptr 2 0)), (5, (.ptr 3 0)), (6, (.ptr 4 0)), (7, (.ptr 5 0)), (8, (.ptr 6 0))] [14, 15] asg0 bd0 .done (some .ret))), (1, (.cells [(.d (.int .i64 a2))])), (2, (.cells [.nils])), (3, (.cells [.nils])), (4, (.cells [(.d (.bool false))])), (5, (.cells [(.ap 10 1 (List.map (D.int .i64) r57.1))])), (6, (.cells [(.ap 11 4 (List.map (rtE (z := 4)) r57.2))])), (10, (.tok ((List.map (D.int .i64) r57.1).length * 1))), (11, (.tok ((List.map (rtE (z := 4)) r57.2).length * 4)))] from ACalls.use (F477v2_0 hmix hc.2.2.2 ha0 hb0 e57) [(0, 0), (1, 1), (2, 2), (3, 3), (4, 4), (5, 5), (6, 7), (7, 6), (8, 8), (9, 10), (10, 11)] 11 rfl) rfl rfl rfl rfl (.cons (.refl _) (.cons (.refl _) (.cons (.refl _) .nil))) (.refl _) (fun h => by cases h) rfl (hasCons rfl (hasCons rfl (hasCons rfl (hasCons rfl (hasCons rfl (hasCons rfl (hasCons rfl (hasCons rfl (hasCons rfl hasNil))))))))) rfl rfl rfl rfl ?_
        refine RegV.p0 (v := (.d (.bool true))) rfl rfl rfl ?_
        refine RegV.nil0 ?_
        refine AWc.cond rfl (fun _ => ?_) (fun hc => by cases hc)
        refine AWc.seq ?_
        refine AWc.rg hmix rfl rfl ?_
        refine RegV.p0 rfl rfl rfl ?_
        refine RegV.nil0 ?_
        cases h31
        dsimp only at h
        have hr := Option.some.inj h
        have hr := Sum.inl.inj hr
        subst hr
        exact AWc.ret (canQ (N := 29) (k := 9) (l' := [(6, (.d (.bool false)))]) (H' := [(0, (.lp 30 [(3, (.ptr 1 0)), (4, (.ptr 2 0)), (5, (.ptr 3 0)), (6, (.ptr 4 0)), (7, (.ptr 5 0)), (8, (.ptr 6 0))] [14, 15] asg0 bd0 .done (some .ret))), (1, (.cells [(.d (.int .i64 a2))])), (2, (.cells [.nils])), (3, (.cells [.nils])), (4, (.cells [(.d (.bool false))])), (5, (.cells [(.ap 7 1 (List.map (D.int .i64) r57.1))])), (6, (.cells [(.ap 8 4 (List.map (rtE (z := 4)) r57.2))])), (7, (.tok ((List.map (D.int .i64) r57.1).length * 1))), (8, (.tok ((List.map (rtE (z := 4)) r57.2).length * 4)))]) rfl ⟨rfl, [], [(7, 10), (8, 11)], rfl, rfl, ⟨⟨_, rfl, (.refl _)⟩, rfl, trivial⟩, ⟨⟨_, rfl, (.refl _)⟩, rfl, rfl, ⟨⟨_, rfl, (.refl _)⟩, rfl, rfl, ⟨⟨_, rfl, (.refl _)⟩, rfl, rfl, ⟨⟨_, rfl, (.refl _)⟩, rfl, rfl, ⟨⟨_, rfl, (.refl _)⟩, rfl, rfl, ⟨⟨_, rfl, (.refl _)⟩, rfl, rfl, ⟨⟨_, rfl, (.refl _)⟩, rfl, rfl, ⟨⟨_, rfl, (.refl _)⟩, rfl, rfl, ⟨⟨_, rfl, (.refl _)⟩, rfl, rfl, trivial⟩⟩⟩⟩⟩⟩⟩⟩⟩⟩ (doneA (.inr rfl) rfl ⟨trivial, trivial⟩ (.refl _) (hasCons rfl (hasCons rfl (hasCons rfl (hasCons rfl (hasCons rfl (hasCons rfl (hasCons rfl (hasCons rfl (hasCons rfl hasNil)))))))))))
      · dsimp only at h31
        refine RegV.callS (q := false) (H' := [(0, (.lp 30 [(3, (.ptr 1 0)), (4, (.ptr 2 0)), (5, (.ptr 3 0)), (6, (.ptr 4 0)), (7, (.ptr 5 0)), (8, (.ptr 6 0))] [14, 15] asg0 bd0 .ready none)), (1, (.cells [(.d (.int .i64 a2))])), (2, (.cells [.nils])), (3, (.cells [.nils])), (4, (.cells [(.d (.bool a3))])), (5, (.cells [(.ap 10 1 (List.map (D.int .i64) r57.1))])), (6, (.cells [(.ap 11 4 (List.map (rtE (z := 4)) r57.2))])), (10, (.tok ((List.map (D.int .i64) r57.1).length * 1))), (11, (.tok ((List.map (rtE (z := 4)) r57.2).length * 4))), (9, (.cells [(.d (.int .i64 rx46.fKind)), (.d (.str rx46.fText)), (.d (.sl (List.map (rtE (z := 4)) rx46.fL))), (.d (.sl (List.map D.str rx46.fKeys)))]))]) (c' := 12) (show ACalls P (N 477) [(.d (TJson.enc (TJson.mk rx46.fKind rx46.fText rx46.fL rx46.fKeys))), (.d (.int .i64 (IntKind.i64.wrap (a1 + (1 : Int))))), (.lf 0)] [(0, (.lp 30 [(3, (.ptr 1 0)), (4, (.ptr 2 0)), (5, (.ptr 3 0)), (6, (.ptr 4 0)), (7, (.ptr 5 0)), (8, (.ptr 6 0))] [14, 15] asg0 bd0 .ready none)), (1, (.cells [(.d (.int .i64 a2))])), (2, (.cells [.nils])), (3, (.cells [.nils])), (4, (.cells [(.d (.bool a3))])), (5, (.cells [(.ap 7 1 (List.map (D.int .i64) y31_2))])), (7, (.tok ((List.map (D.int .i64) y31_2).length * 1))), (6, (.cells [(.ap 8 4 (List.map (rtE (z := 4)) y31_3))])), (8, (.tok ((List.map (rtE (z := 4)) y31_3).length * 4)))] (.d (.bool true)) [(0, (.lp 30 [(3, (.ptr 1 0)), (4, (.ptr 2 0)), (5, (.ptr 3 0)), (6, (.ptr 4 0)), (7, (.ptr 5 0)), (8, (.ptr 6 0))] [14, 15] asg0 bd0 .ready none)), (1, (.cells [(.d (.int .i64 a2))])), (2, (.cells [.nils])), (3, (.cells [.nils])), (4, (.cells [(.d (.bool a3))])), (5, (.cells [(.ap 10 1 (List.map (D.int .i64) r57.1))])), (6, (.cells [(.ap 11 4 (List.map (rtE (z := 4)) r57.2))])), (10, (.tok ((List.map (D.int .i64) r57.1).length * 1))), (11, (.tok ((List.map (rtE (z := 4)) r57.2).length * 4)))] from ACalls.use (F477v2_1 hmix hc.2.2.2 ha0 hb0 e57) [(0, 0), (1, 1), (2, 2), (3, 3), (4, 4), (5, 5), (6, 7), (7, 6), (8, 8), (9, 10), (10, 11)] 11 rfl) rfl rfl rfl rfl (.cons (.refl _) (.cons (.refl _) (.cons (.refl _) .nil))) (.refl _) (fun h => by cases h) rfl (hasCons rfl (hasCons rfl (hasCons rfl (hasCons rfl (hasCons rfl (hasCons rfl (hasCons rfl (hasCons rfl (hasCons rfl hasNil))))))))) rfl rfl rfl rfl ?_
        refine RegV.p0 (v := (.d (.bool false))) rfl rfl rfl ?_
        refine RegV.nil0 ?_
        refine AWc.cond rfl (fun hc => by cases hc) (fun _ => ?_)
        refine AWc.skip ?_
        refine AWc.rg hmix rfl rfl ?_
        refine RegV.p0 (v := (.d (.int .i64 (IntKind.i64.wrap (y31_1 + (1 : Int)))))) rfl rfl rfl ?_
        refine RegV.p0 rfl rfl rfl ?_
        refine RegV.nil0 ?_
        exact ⟨((IntKind.i64.wrap (y31_1 + (1 : Int))), r57.1, r57.2), h31, ⟨rfl, [], [(7, 10), (8, 11)], rfl, rfl, ⟨⟨_, rfl, (.refl _)⟩, rfl, ⟨⟨_, rfl, (.refl _)⟩, rfl, ⟨⟨_, rfl, (.refl _)⟩, rfl, ⟨⟨_, rfl, (.refl _)⟩, rfl, ⟨⟨_, rfl, (.refl _)⟩, rfl, trivial⟩⟩⟩⟩⟩, ⟨⟨_, rfl, (.refl _)⟩, rfl, rfl, ⟨⟨_, rfl, (.refl _)⟩, rfl, rfl, ⟨⟨_, rfl, (.refl _)⟩, rfl, rfl, ⟨⟨_, rfl, (.refl _)⟩, rfl, rfl, ⟨⟨_, rfl, (.refl _)⟩, rfl, rfl, ⟨⟨_, rfl, (.refl _)⟩, rfl, rfl, ⟨⟨_, rfl, (.refl _)⟩, rfl, rfl, ⟨⟨_, rfl, (.refl _)⟩, rfl, rfl, ⟨⟨_, rfl, (.refl _)⟩, rfl, rfl, trivial⟩⟩⟩⟩⟩⟩⟩⟩⟩⟩⟩
    · have h31 := cond_neg c38 h31
      cases h31
      dsimp only at h
      refine AWc.exit ?_
      refine inBlk_eq ?_
      refine AWc.seq ?_
      refine AWc.rg hmix rfl rfl ?_
      refine RegV.p0 rfl rfl rfl ?_
      refine RegV.nil0 ?_
      cases h
theorem F477_1 {P : Program} {N : Nat → Nat} (hmix : P.follows .mixedOrders = true) (hc : HC477 P N) {asg0 bd0 : Code} (ha0 : compCode P asg0 = L476_0a N) (hb0 : compCode P bd0 = L476_0b N) {k : Nat} {a0 : TJson} {a1 : Int} {a2 : Int} {a3 : Bool} {r : ((List Int) × (List (RT 4)))} (h : f477 k a0 a1 a2 a3 = some (.inr r)) :
    ACalls P (N 477) [(.d (TJson.enc a0)), (.d (.int .i64 a1)), (.lf 0)] [(0, (.lp 30 [(3, (.ptr 1 0)), (4, (.ptr 2 0)), (5, (.ptr 3 0)), (6, (.ptr 4 0)), (7, (.ptr 5 0)), (8, (.ptr 6 0))] [14, 15] asg0 bd0 .ready none)), (1, (.cells [(.d (.int .i64 a2))])), (2, (.cells [.nils])), (3, (.cells [.nils])), (4, (.cells [(.d (.bool a3))])), (5, (.cells [.nils])), (6, (.cells [.nils]))] (.d (.bool true)) [(0, (.lp 30 [(3, (.ptr 1 0)), (4, (.ptr 2 0)), (5, (.ptr 3 0)), (6, (.ptr 4 0)), (7, (.ptr 5 0)), (8, (.ptr 6 0))] [14, 15] asg0 bd0 .ready none)), (1, (.cells [(.d (.int .i64 a2))])), (2, (.cells [.nils])), (3, (.cells [.nils])), (4, (.cells [(.d (.bool a3))])), (5, (.cells [(.ap 7 1 (List.map (D.int .i64) r.1))])), (6, (.cells [(.ap 8 4 (List.map (rtE (z := 4)) r.2))])), (7, (.tok ((List.map (D.int .i64) r.1).length * 1))), (8, (.tok ((List.map (rtE (z := 4)) r.2).length * 4)))] := by
  refine acalls_canon (F := C477 N) hc.1 7 9 rfl ?_
  unfold f477 at h
  dsimp only [C477, startL]
  refine AWc.seq ?_
  refine AWc.rg hmix rfl rfl ?_
  refine RegV.evS (own := false) (v := (.ptr 7 0)) (H' := [(7, (.cells [(.d (.int .i64 a0.fKind)), (.d (.str a0.fText)), (.d (.sl (List.map (rtE (z := 4)) a0.fL))), (.d (.sl (List.map D.str a0.fKeys)))])), (0, (.lp 30 [(3, (.ptr 1 0)), (4, (.ptr 2 0)), (5, (.ptr 3 0)), (6, (.ptr 4 0)), (7, (.ptr 5 0)), (8, (.ptr 6 0))] [14, 15] asg0 bd0 .ready none)), (1, (.cells [(.d (.int .i64 a2))])), (2, (.cells [.nils])), (3, (.cells [.nils])), (4, (.cells [(.d (.bool a3))])), (5, (.cells [.nils])), (6, (.cells [.nils]))]) (c' := 8) rfl rfl trivial rfl rfl rfl rfl rfl rfl ?_
  refine RegV.p0 rfl rfl rfl ?_
  refine RegV.nil0 ?_
  refine AWc.seq ?_
  refine AWc.seq ?_
  refine AWc.rg hmix rfl rfl ?_
  refine RegV.p0 rfl rfl rfl ?_
  refine RegV.p0 rfl rfl rfl ?_
  refine RegV.ld (v := (.d (.agg [(.int .i64 a0.fKind), (.str a0.fText), (.sl (List.map (rtE (z := 4)) a0.fL)), (.sl (List.map D.str a0.fKeys))]))) (H' := [(7, (.cells [(.d (.int .i64 a0.fKind)), (.d (.str a0.fText)), (.d (.sl (List.map (rtE (z := 4)) a0.fL))), (.d (.sl (List.map D.str a0.fKeys)))])), (0, (.lp 30 [(3, (.ptr 1 0)), (4, (.ptr 2 0)), (5, (.ptr 3 0)), (6, (.ptr 4 0)), (7, (.ptr 5 0)), (8, (.ptr 6 0))] [14, 15] asg0 bd0 .ready none)), (1, (.cells [(.d (.int .i64 a2))])), (2, (.cells [.nils])), (3, (.cells [.nils])), (4, (.cells [(.d (.bool a3))])), (5, (.cells [.nils])), (6, (.cells [.nils]))]) rfl rfl (Nat.le_of_ble_eq_true rfl) rfl rfl rfl rfl rfl ?_
  obtain ⟨r13, e13, h⟩ := bind_some h
  refine RegV.call0 (F441 hmix hc.2.1 e13) rfl rfl rfl rfl (.cons (.refl _) .nil) rfl ?_
  obtain ⟨or14, e14, h⟩ := bind_some h
  rcases or14 with r14 | r14
  · dsimp only at h
    refine RegV.yield (H' := [(0, (.lp 30 [(3, (.ptr 1 0)), (4, (.ptr 2 0)), (5, (.ptr 3 0)), (6, (.ptr 4 0)), (7, (.ptr 5 0)), (8, (.ptr 6 0))] [14, 15] asg0 bd0 .done (some .ret))), (1, (.cells [(.d (.int .i64 a2))])), (2, (.cells [.nils])), (3, (.cells [.nils])), (4, (.cells [(.d (.bool false))])), (5, (.cells [(.ap 8 1 (List.map (D.int .i64) ([a1] : List Int)))])), (6, (.cells [(.ap 9 4 (List.map (rtE (z := 4)) ([(RT.of TJson.ok (TJson.mk (TJson.mk ((TJson.mk a0.fKind a0.fText a0.fL a0.fKeys).fKind) ((TJson.mk a0.fKind a0.fText a0.fL a0.fKeys).fText) r13.1 r13.2).fKind (TJson.mk ((TJson.mk a0.fKind a0.fText a0.fL a0.fKeys).fKind) ((TJson.mk a0.fKind a0.fText a0.fL a0.fKeys).fText) r13.1 r13.2).fText (TJson.mk ((TJson.mk a0.fKind a0.fText a0.fL a0.fKeys).fKind) ((TJson.mk a0.fKind a0.fText a0.fL a0.fKeys).fText) r13.1 r13.2).fL (TJson.mk ((TJson.mk a0.fKind a0.fText a0.fL a0.fKeys).fKind) ((TJson.mk a0.fKind a0.fText a0.fL a0.fKeys).fText) r13.1 r13.2).fKeys))] : List (RT 4))))])), (8, (.tok ((List.map (D.int .i64) ([a1] : List Int)).length * 1))), (9, (.tok ((List.map (rtE (z := 4)) ([(RT.of TJson.ok (TJson.mk (TJson.mk ((TJson.mk a0.fKind a0.fText a0.fL a0.fKeys).fKind) ((TJson.mk a0.fKind a0.fText a0.fL a0.fKeys).fText) r13.1 r13.2).fKind (TJson.mk ((TJson.mk a0.fKind a0.fText a0.fL a0.fKeys).fKind) ((TJson.mk a0.fKind a0.fText a0.fL a0.fKeys).fText) r13.1 r13.2).fText (TJson.mk ((TJson.mk a0.fKind a0.fText a0.fL a0.fKeys).fKind) ((TJson.mk a0.fKind a0.fText a0.fL a0.fKeys).fText) r13.1 r13.2).fL (TJson.mk ((TJson.mk a0.fKind a0.fText a0.fL a0.fKeys).fKind) ((TJson.mk a0.fKind a0.fText a0.fL a0.fKeys).fText) r13.1 r13.2).fKeys))] : List (RT 4))).length * 4))), (7, (.cells [(.d (.int .i64 a0.fKind)), (.d (.str a0.fText)), (.d (.sl (List.map (rtE (z := 4)) a0.fL))), (.d (.sl (List.map D.str a0.fKeys)))]))]) (c' := 10) (show ARound P 0 [(.d (.int .i64 a1)), (.d (TJson.enc (TJson.mk ((TJson.mk a0.fKind a0.fText a0.fL a0.fKeys).fKind) ((TJson.mk a0.fKind a0.fText a0.fL a0.fKeys).fText) r13.1 r13.2)))] [(0, (.lp 30 [(3, (.ptr 1 0)), (4, (.ptr 2 0)), (5, (.ptr 3 0)), (6, (.ptr 4 0)), (7, (.ptr 5 0)), (8, (.ptr 6 0))] [14, 15] asg0 bd0 .ready none)), (1, (.cells [(.d (.int .i64 a2))])), (2, (.cells [.nils])), (3, (.cells [.nils])), (4, (.cells [(.d (.bool a3))])), (5, (.cells [.nils])), (6, (.cells [.nils]))] (.d (.bool false)) [(0, (.lp 30 [(3, (.ptr 1 0)), (4, (.ptr 2 0)), (5, (.ptr 3 0)), (6, (.ptr 4 0)), (7, (.ptr 5 0)), (8, (.ptr 6 0))] [14, 15] asg0 bd0 .done (some .ret))), (1, (.cells [(.d (.int .i64 a2))])), (2, (.cells [.nils])), (3, (.cells [.nils])), (4, (.cells [(.d (.bool false))])), (5, (.cells [(.ap 8 1 (List.map (D.int .i64) ([a1] : List Int)))])), (6, (.cells [(.ap 9 4 (List.map (rtE (z := 4)) ([(RT.of TJson.ok (TJson.mk (TJson.mk ((TJson.mk a0.fKind a0.fText a0.fL a0.fKeys).fKind) ((TJson.mk a0.fKind a0.fText a0.fL a0.fKeys).fText) r13.1 r13.2).fKind (TJson.mk ((TJson.mk a0.fKind a0.fText a0.fL a0.fKeys).fKind) ((TJson.mk a0.fKind a0.fText a0.fL a0.fKeys).fText) r13.1 r13.2).fText (TJson.mk ((TJson.mk a0.fKind a0.fText a0.fL a0.fKeys).fKind) ((TJson.mk a0.fKind a0.fText a0.fL a0.fKeys).fText) r13.1 r13.2).fL (TJson.mk ((TJson.mk a0.fKind a0.fText a0.fL a0.fKeys).fKind) ((TJson.mk a0.fKind a0.fText a0.fL a0.fKeys).fText) r13.1 r13.2).fKeys))] : List (RT 4))))])), (8, (.tok ((List.map (D.int .i64) ([a1] : List Int)).length * 1))), (9, (.tok ((List.map (rtE (z := 4)) ([(RT.of TJson.ok (TJson.mk (TJson.mk ((TJson.mk a0.fKind a0.fText a0.fL a0.fKeys).fKind) ((TJson.mk a0.fKind a0.fText a0.fL a0.fKeys).fText) r13.1 r13.2).fKind (TJson.mk ((TJson.mk a0.fKind a0.fText a0.fL a0.fKeys).fKind) ((TJson.mk a0.fKind a0.fText a0.fL a0.fKeys).fText) r13.1 r13.2).fText (TJson.mk ((TJson.mk a0.fKind a0.fText a0.fL a0.fKeys).fKind) ((TJson.mk a0.fKind a0.fText a0.fL a0.fKeys).fText) r13.1 r13.2).fL (TJson.mk ((TJson.mk a0.fKind a0.fText a0.fL a0.fKeys).fKind) ((TJson.mk a0.fKind a0.fText a0.fL a0.fKeys).fText) r13.1 r13.2).fKeys))] : List (RT 4))).length * 4)))] from ARound.use (B476_37_0 hmix hc.2.2.1 ha0 hb0 e14) [(0, 0), (1, 1), (2, 2), (3, 3), (4, 4), (5, 5), (6, 6), (7, 8), (8, 9)] 9 rfl) rfl rfl rfl (.cons (.refl _) (.cons (.refl _) .nil)) rfl (hasCons rfl (hasCons rfl (hasCons rfl (hasCons rfl (hasCons rfl (hasCons rfl (hasCons rfl hasNil))))))) rfl rfl rfl rfl ?_
    refine RegV.p0 (v := (.d (.bool true))) rfl rfl rfl ?_
    refine RegV.nil0 ?_
    refine AWc.cond rfl (fun _ => ?_) (fun hc => by cases hc)
    refine AWc.seq ?_
    refine AWc.rg hmix rfl rfl ?_
    refine RegV.p0 rfl rfl rfl ?_
    refine RegV.nil0 ?_
    cases h
  · dsimp only at h
    refine RegV.yield (H' := [(0, (.lp 30 [(3, (.ptr 1 0)), (4, (.ptr 2 0)), (5, (.ptr 3 0)), (6, (.ptr 4 0)), (7, (.ptr 5 0)), (8, (.ptr 6 0))] [14, 15] asg0 bd0 .ready none)), (1, (.cells [(.d (.int .i64 a2))])), (2, (.cells [.nils])), (3, (.cells [.nils])), (4, (.cells [(.d (.bool a3))])), (5, (.cells [(.ap 8 1 (List.map (D.int .i64) ([a1] : List Int)))])), (6, (.cells [(.ap 9 4 (List.map (rtE (z := 4)) ([(RT.of TJson.ok (TJson.mk (TJson.mk ((TJson.mk a0.fKind a0.fText a0.fL a0.fKeys).fKind) ((TJson.mk a0.fKind a0.fText a0.fL a0.fKeys).fText) r13.1 r13.2).fKind (TJson.mk ((TJson.mk a0.fKind a0.fText a0.fL a0.fKeys).fKind) ((TJson.mk a0.fKind a0.fText a0.fL a0.fKeys).fText) r13.1 r13.2).fText (TJson.mk ((TJson.mk a0.fKind a0.fText a0.fL a0.fKeys).fKind) ((TJson.mk a0.fKind a0.fText a0.fL a0.fKeys).fText) r13.1 r13.2).fL (TJson.mk ((TJson.mk a0.fKind a0.fText a0.fL a0.fKeys).fKind) ((TJson.mk a0.fKind a0.fText a0.fL a0.fKeys).fText) r13.1 r13.2).fKeys))] : List (RT 4))))])), (8, (.tok ((List.map (D.int .i64) ([a1] : List Int)).length * 1))), (9, (.tok ((List.map (rtE (z := 4)) ([(RT.of TJson.ok (TJson.mk (TJson.mk ((TJson.mk a0.fKind a0.fText a0.fL a0.fKeys).fKind) ((TJson.mk a0.fKind a0.fText a0.fL a0.fKeys).fText) r13.1 r13.2).fKind (TJson.mk ((TJson.mk a0.fKind a0.fText a0.fL a0.fKeys).fKind) ((TJson.mk a0.fKind a0.fText a0.fL a0.fKeys).fText) r13.1 r13.2).fText (TJson.mk ((TJson.mk a0.fKind a0.fText a0.fL a0.fKeys).fKind) ((TJson.mk a0.fKind a0.fText a0.fL a0.fKeys).fText) r13.1 r13.2).fL (TJson.mk ((TJson.mk a0.fKind a0.fText a0.fL a0.fKeys).fKind) ((TJson.mk a0.fKind a0.fText a0.fL a0.fKeys).fText) r13.1 r13.2).fKeys))] : List (RT 4))).length * 4))), (7, (.cells [(.d (.int .i64 a0.fKind)), (.d (.str a0.fText)), (.d (.sl (List.map (rtE (z := 4)) a0.fL))), (.d (.sl (List.map D.str a0.fKeys)))]))]) (c' := 10) (show ARound P 0 [(.d (.int .i64 a1)), (.d (TJson.enc (TJson.mk ((TJson.mk a0.fKind a0.fText a0.fL a0.fKeys).fKind) ((TJson.mk a0.fKind a0.fText a0.fL a0.fKeys).fText) r13.1 r13.2)))] [(0, (.lp 30 [(3, (.ptr 1 0)), (4, (.ptr 2 0)), (5, (.ptr 3 0)), (6, (.ptr 4 0)), (7, (.ptr 5 0)), (8, (.ptr 6 0))] [14, 15] asg0 bd0 .ready none)), (1, (.cells [(.d (.int .i64 a2))])), (2, (.cells [.nils])), (3, (.cells [.nils])), (4, (.cells [(.d (.bool a3))])), (5, (.cells [.nils])), (6, (.cells [.nils]))] (.d (.bool true)) [(0, (.lp 30 [(3, (.ptr 1 0)), (4, (.ptr 2 0)), (5, (.ptr 3 0)), (6, (.ptr 4 0)), (7, (.ptr 5 0)), (8, (.ptr 6 0))] [14, 15] asg0 bd0 .ready none)), (1, (.cells [(.d (.int .i64 a2))])), (2, (.cells [.nils])), (3, (.cells [.nils])), (4, (.cells [(.d (.bool a3))])), (5, (.cells [(.ap 8 1 (List.map (D.int .i64) ([a1] : List Int)))])), (6, (.cells [(.ap 9 4 (List.map (rtE (z := 4)) ([(RT.of TJson.ok (TJson.mk (TJson.mk ((TJson.mk a0.fKind a0.fText a0.fL a0.fKeys).fKind) ((TJson.mk a0.fKind a0.fText a0.fL a0.fKeys).fText) r13.1 r13.2).fKind (TJson.mk ((TJson.mk a0.fKind a0.fText a0.fL a0.fKeys).fKind) ((TJson.mk a0.fKind a0.fText a0.fL a0.fKeys).fText) r13.1 r13.2).fText (TJson.mk ((TJson.mk a0.fKind a0.fText a0.fL a0.fKeys).fKind) ((TJson.mk a0.fKind a0.fText a0.fL a0.fKeys).fText) r13.1 r13.2).fL (TJson.mk ((TJson.mk a0.fKind a0.fText a0.fL a0.fKeys).fKind) ((TJson.mk a0.fKind a0.fText a0.fL a0.fKeys).fText) r13.1 r13.2).fKeys))] : List (RT 4))))])), (8, (.tok ((List.map (D.int .i64) ([a1] : List Int)).length * 1))), (9, (.tok ((List.map (rtE (z := 4)) ([(RT.of TJson.ok (TJson.mk (TJson.mk ((TJson.mk a0.fKind a0.fText a0.fL a0.fKeys).fKind) ((TJson.mk a0.fKind a0.fText a0.fL a0.fKeys).fText) r13.1 r13.2).fKind (TJson.mk ((TJson.mk a0.fKind a0.fText a0.fL a0.fKeys).fKind) ((TJson.mk a0.fKind a0.fText a0.fL a0.fKeys).fText) r13.1 r13.2).fText (TJson.mk ((TJson.mk a0.fKind a0.fText a0.fL a0.fKeys).fKind) ((TJson.mk a0.fKind a0.fText a0.fL a0.fKeys).fText) r13.1 r13.2).fL (TJson.mk ((TJson.mk a0.fKind a0.fText a0.fL a0.fKeys).fKind) ((TJson.mk a0.fKind a0.fText a0.fL a0.fKeys).fText) r13.1 r13.2).fKeys))] : List (RT 4))).length * 4)))] from ARound.use (B476_37_1 hmix hc.2.2.1 ha0 hb0 e14) [(0, 0), (1, 1), (2, 2), (3, 3), (4, 4), (5, 5), (6, 6), (7, 8), (8, 9)] 9 rfl) rfl rfl rfl (.cons (.refl _) (.cons (.refl _) .nil)) rfl (hasCons rfl (hasCons rfl (hasCons rfl (hasCons rfl (hasCons rfl (hasCons rfl (hasCons rfl hasNil))))))) rfl rfl rfl rfl ?_
    refine RegV.p0 (v := (.d (.bool false))) rfl rfl rfl ?_
    refine RegV.nil0 ?_
    refine AWc.cond rfl (fun hc => by cases hc) (fun _ => ?_)
    refine AWc.skip ?_
    refine AWc.seq ?_
    refine AWc.seq ?_
    refine AWc.rg hmix rfl rfl ?_
    refine RegV.p0 (v := (.ptr 7 2)) rfl rfl rfl ?_
    refine RegV.ld (v := (.d (.sl (List.map (rtE (z := 4)) a0.fL)))) (H' := [(7, (.cells [(.d (.int .i64 a0.fKind)), (.d (.str a0.fText)), (.d (.sl (List.map (rtE (z := 4)) a0.fL))), (.d (.sl (List.map D.str a0.fKeys)))])), (0, (.lp 30 [(3, (.ptr 1 0)), (4, (.ptr 2 0)), (5, (.ptr 3 0)), (6, (.ptr 4 0)), (7, (.ptr 5 0)), (8, (.ptr 6 0))] [14, 15] asg0 bd0 .ready none)), (1, (.cells [(.d (.int .i64 a2))])), (2, (.cells [.nils])), (3, (.cells [.nils])), (4, (.cells [(.d (.bool a3))])), (5, (.cells [(.ap 8 1 (List.map (D.int .i64) ([a1] : List Int)))])), (6, (.cells [(.ap 9 4 (List.map (rtE (z := 4)) ([(RT.of TJson.ok (TJson.mk (TJson.mk ((TJson.mk a0.fKind a0.fText a0.fL a0.fKeys).fKind) ((TJson.mk a0.fKind a0.fText a0.fL a0.fKeys).fText) r13.1 r13.2).fKind (TJson.mk ((TJson.mk a0.fKind a0.fText a0.fL a0.fKeys).fKind) ((TJson.mk a0.fKind a0.fText a0.fL a0.fKeys).fText) r13.1 r13.2).fText (TJson.mk ((TJson.mk a0.fKind a0.fText a0.fL a0.fKeys).fKind) ((TJson.mk a0.fKind a0.fText a0.fL a0.fKeys).fText) r13.1 r13.2).fL (TJson.mk ((TJson.mk a0.fKind a0.fText a0.fL a0.fKeys).fKind) ((TJson.mk a0.fKind a0.fText a0.fL a0.fKeys).fText) r13.1 r13.2).fKeys))] : List (RT 4))))])), (8, (.tok ((List.map (D.int .i64) ([a1] : List Int)).length * 1))), (9, (.tok ((List.map (rtE (z := 4)) ([(RT.of TJson.ok (TJson.mk (TJson.mk ((TJson.mk a0.fKind a0.fText a0.fL a0.fKeys).fKind) ((TJson.mk a0.fKind a0.fText a0.fL a0.fKeys).fText) r13.1 r13.2).fKind (TJson.mk ((TJson.mk a0.fKind a0.fText a0.fL a0.fKeys).fKind) ((TJson.mk a0.fKind a0.fText a0.fL a0.fKeys).fText) r13.1 r13.2).fText (TJson.mk ((TJson.mk a0.fKind a0.fText a0.fL a0.fKeys).fKind) ((TJson.mk a0.fKind a0.fText a0.fL a0.fKeys).fText) r13.1 r13.2).fL (TJson.mk ((TJson.mk a0.fKind a0.fText a0.fL a0.fKeys).fKind) ((TJson.mk a0.fKind a0.fText a0.fL a0.fKeys).fText) r13.1 r13.2).fKeys))] : List (RT 4))).length * 4)))]) rfl rfl trivial rfl rfl rfl rfl rfl ?_
    refine RegV.len (xs := a0.fL) (e := (rtE (z := 4))) rfl rfl rfl rfl ?_
    refine RegV.p0 rfl rfl rfl ?_
    refine RegV.nil0 ?_
    obtain ⟨o31, h31, h⟩ := bind_some h
    refine AWc.block ?_
    refine AWc.loopK (N := 29) 9 (fun (x : (Int × (List Int) × (List (RT 4)))) => [(1, (.d (.int .i64 a1))), (2, (.lf 0)), (16, (.d (.sl (List.map (rtE (z := 4)) a0.fL)))), (17, (.d (.int .i64 ((a0.fL.length : Nat) : Int)))), (18, (.d (.int .i64 x.1)))]) (fun x => [(0, (.lp 30 [(3, (.ptr 1 0)), (4, (.ptr 2 0)), (5, (.ptr 3 0)), (6, (.ptr 4 0)), (7, (.ptr 5 0)), (8, (.ptr 6 0))] [14, 15] asg0 bd0 .ready none)), (1, (.cells [(.d (.int .i64 a2))])), (2, (.cells [.nils])), (3, (.cells [.nils])), (4, (.cells [(.d (.bool a3))])), (5, (.cells [(.ap 7 1 (List.map (D.int .i64) x.2.1))])), (6, (.cells [(.ap 8 4 (List.map (rtE (z := 4)) x.2.2))])), (7, (.tok ((List.map (D.int .i64) x.2.1).length * 1))), (8, (.tok ((List.map (rtE (z := 4)) x.2.2).length * 4)))]) (fun k x => f477_l31 a0 a1 a2 a3 k x.1 x.2.1 x.2.2 = some o31) k ((0 : Int), ([a1] : List Int), ([(RT.of TJson.ok (TJson.mk (TJson.mk ((TJson.mk a0.fKind a0.fText a0.fL a0.fKeys).fKind) ((TJson.mk a0.fKind a0.fText a0.fL a0.fKeys).fText) r13.1 r13.2).fKind (TJson.mk ((TJson.mk a0.fKind a0.fText a0.fL a0.fKeys).fKind) ((TJson.mk a0.fKind a0.fText a0.fL a0.fKeys).fText) r13.1 r13.2).fText (TJson.mk ((TJson.mk a0.fKind a0.fText a0.fL a0.fKeys).fKind) ((TJson.mk a0.fKind a0.fText a0.fL a0.fKeys).fText) r13.1 r13.2).fL (TJson.mk ((TJson.mk a0.fKind a0.fText a0.fL a0.fKeys).fKind) ((TJson.mk a0.fKind a0.fText a0.fL a0.fKeys).fText) r13.1 r13.2).fKeys))] : List (RT 4))) rfl_le (fun x hx => by cases hx) h31 ⟨rfl, [], [(7, 8), (8, 9)], rfl, rfl, ⟨⟨_, rfl, (.refl _)⟩, rfl, ⟨⟨_, rfl, (.refl _)⟩, rfl, ⟨⟨_, rfl, (.refl _)⟩, rfl, ⟨⟨_, rfl, (.refl _)⟩, rfl, ⟨⟨_, rfl, (.refl _)⟩, rfl, trivial⟩⟩⟩⟩⟩, ⟨⟨_, rfl, (.refl _)⟩, rfl, rfl, ⟨⟨_, rfl, (.refl _)⟩, rfl, rfl, ⟨⟨_, rfl, (.refl _)⟩, rfl, rfl, ⟨⟨_, rfl, (.refl _)⟩, rfl, rfl, ⟨⟨_, rfl, (.refl _)⟩, rfl, rfl, ⟨⟨_, rfl, (.refl _)⟩, rfl, rfl, ⟨⟨_, rfl, (.refl _)⟩, rfl, rfl, ⟨⟨_, rfl, (.refl _)⟩, rfl, rfl, ⟨⟨_, rfl, (.refl _)⟩, rfl, rfl, trivial⟩⟩⟩⟩⟩⟩⟩⟩⟩⟩ ?_
    clear h31
    intro k
    rintro ⟨y31_1, y31_2, y31_3⟩ h31
    dsimp only at h31 ⊢
    rw [f477_l31] at h31
    refine AWc.seq ?_
    refine AWc.rg hmix rfl rfl ?_
    refine RegV.p0 (v := (.d (.bool (decide (y31_1 < ((a0.fL.length : Nat) : Int)))))) rfl rfl rfl ?_
    refine RegV.nil0 ?_
    refine AWc.seq ?_
    refine AWc.cond rfl (fun c38 => ?_) (fun c38 => ?_)
    · have h31 := cond_pos c38 h31
      refine AWc.skip ?_
      refine AWc.seq ?_
      refine AWc.block ?_
      refine AWc.seq ?_
      refine AWc.rg hmix rfl rfl ?_
      obtain ⟨b46, h31⟩ := gd_some h31
      obtain ⟨rx46, ex46, h31⟩ := bind_some h31
      refine RegV.iadE (xs := a0.fL) (e := (rtE (z := 4))) (w := TJson.enc rx46) rfl rfl rfl rfl rtE_ok.len b46 (TJson.dec_eq ex46) rfl ?_
      refine RegV.p1 (v := (.d (TJson.enc rx46))) rfl rfl rfl rfl rfl ?_
      refine RegV.evS (own := false) (v := (.ptr 9 0)) (H' := [(9, (.cells [(.d (.int .i64 (0 : Int))), (.d (.str ([] : List UInt8))), .nils, .nils])), (0, (.lp 30 [(3, (.ptr 1 0)), (4, (.ptr 2 0)), (5, (.ptr 3 0)), (6, (.ptr 4 0)), (7, (.ptr 5 0)), (8, (.ptr 6 0))] [14, 15] asg0 bd0 .ready none)), (1, (.cells [(.d (.int .i64 a2))])), (2, (.cells [.nils])), (3, (.cells [.nils])), (4, (.cells [(.d (.bool a3))])), (5, (.cells [(.ap 7 1 (List.map (D.int .i64) y31_2))])), (6, (.cells [(.ap 8 4 (List.map (rtE (z := 4)) y31_3))])), (7, (.tok ((List.map (D.int .i64) y31_2).length * 1))), (8, (.tok ((List.map (rtE (z := 4)) y31_3).length * 4)))]) (c' := 10) rfl rfl trivial rfl rfl rfl rfl rfl rfl ?_
      refine RegV.evN (own := false) (H' := [(9, (.cells [(.d (.int .i64 rx46.fKind)), (.d (.str rx46.fText)), (.d (.sl (List.map (rtE (z := 4)) rx46.fL))), (.d (.sl (List.map D.str rx46.fKeys)))])), (0, (.lp 30 [(3, (.ptr 1 0)), (4, (.ptr 2 0)), (5, (.ptr 3 0)), (6, (.ptr 4 0)), (7, (.ptr 5 0)), (8, (.ptr 6 0))] [14, 15] asg0 bd0 .ready none)), (1, (.cells [(.d (.int .i64 a2))])), (2, (.cells [.nils])), (3, (.cells [.nils])), (4, (.cells [(.d (.bool a3))])), (5, (.cells [(.ap 7 1 (List.map (D.int .i64) y31_2))])), (6, (.cells [(.ap 8 4 (List.map (rtE (z := 4)) y31_3))])), (7, (.tok ((List.map (D.int .i64) y31_2).length * 1))), (8, (.tok ((List.map (rtE (z := 4)) y31_3).length * 4)))]) (c' := 10) rfl rfl (by exact ⟨rfl, Nat.le_of_ble_eq_true rfl, rfl⟩) rfl rfl rfl rfl ?_
      refine RegV.nil0 ?_
      refine AWc.seq ?_
      refine AWc.rg hmix rfl rfl ?_
      refine RegV.ld (v := (.d (.agg [(.int .i64 rx46.fKind), (.str rx46.fText), (.sl (List.map (rtE (z := 4)) rx46.fL)), (.sl (List.map D.str rx46.fKeys))]))) (H' := [(9, (.cells [(.d (.int .i64 rx46.fKind)), (.d (.str rx46.fText)), (.d (.sl (List.map (rtE (z := 4)) rx46.fL))), (.d (.sl (List.map D.str rx46.fKeys)))])), (0, (.lp 30 [(3, (.ptr 1 0)), (4, (.ptr 2 0)), (5, (.ptr 3 0)), (6, (.ptr 4 0)), (7, (.ptr 5 0)), (8, (.ptr 6 0))] [14, 15] asg0 bd0 .ready none)), (1, (.cells [(.d (.int .i64 a2))])), (2, (.cells [.nils])), (3, (.cells [.nils])), (4, (.cells [(.d (.bool a3))])), (5, (.cells [(.ap 7 1 (List.map (D.int .i64) y31_2))])), (6, (.cells [(.ap 8 4 (List.map (rtE (z := 4)) y31_3))])), (7, (.tok ((List.map (D.int .i64) y31_2).length * 1))), (8, (.tok ((List.map (rtE (z := 4)) y31_3).length * 4)))]) rfl rfl (Nat.le_of_ble_eq_true rfl) rfl rfl rfl rfl rfl ?_
      refine RegV.p0 rfl rfl rfl ?_
      refine RegV.p0 (v := (.d (.int .i64 (IntKind.i64.wrap (a1 + (1 : Int)))))) rfl rfl rfl ?_
      refine RegV.p0 rfl rfl rfl ?_
      obtain ⟨or57, e57, h31⟩ := bind_some h31
      rcases or57 with r57 | r57
      · dsimp only at h31
        refine RegV.callS (q := false) (H' := [(0, (.lp 30 [(3, (.ptr 1 0)), (4, (.ptr 2 0)), (5, (.ptr 3 0)), (6, (.ptr 4 0)), (7, (.ptr 5 0)), (8, (.ptr 6 0))] [14, 15] asg0 bd0 .done (some .ret))), (1, (.cells [(.d (.int .i64 a2))])), (2, (.cells [.nils])), (3, (.cells [.nils])), (4, (.cells [(.d (.bool false))])), (5, (.cells [(.ap 10 1 (List.map (D.int .i64) r57.1))])), (6, (.cells [(.ap 11 4 (List.map (rtE (z := 4)) r57.2))])), (10, (.tok ((List.map (D.int .i64) r57.1).length * 1))), (11, (.tok ((List.map (rtE (z := 4)) r57.2).length * 4))), (9, (.cells [(.d (.int .i64 rx46.fKind)), (.d (.str rx46.fText)), (.d (.sl (List.map (rtE (z := 4)) rx46.fL))), (.d (.sl (List.map D.str rx46.fKeys)))]))]) (c' := 12) (show ACalls P (N 477) [(.d (TJson.enc (TJson.mk rx46.fKind rx46.fText rx46.fL rx46.fKeys))), (.d (.int .i64 (IntKind.i64.wrap (a1 + (1 : Int))))), (.lf 0)] [(0, (.lp 30 [(3, (.ptr 1 0)), (4, (.ptr 2 0)), (5, (.ptr 3 0)), (6, (.ptr 4 0)), (7, (.ptr 5 0)), (8, (.ptr 6 0))] [14, 15] asg0 bd0 .ready none)), (1, (.cells [(.d (.int .i64 a2))])), (2, (.cells [.nils])), (3, (.cells [.nils])), (4, (.cells [(.d (.bool a3))])), (5, (.cells [(.ap 7 1 (List.map (D.int .i64) y31_2))])), (7, (.tok ((List.map (D.int .i64) y31_2).length * 1))), (6, (.cells [(.ap 8 4 (List.map (rtE (z := 4)) y31_3))])), (8, (.tok ((List.map (rtE (z := 4)) y31_3).length * 4)))] (.d (.bool false)) [(0, (.lp 30 [(3, (.ptr 1 0)), (4, (.ptr 2 0)), (5, (.ptr 3 0)), (6, (.ptr 4 0)), (7, (.ptr 5 0)), (8, (.ptr 6 0))] [14, 15] asg0 bd0 .done (some .ret))), (1, (.cells [(.d (.int .i64 a2))])), (2, (.cells [.nils])), (3, (.cells [.nils])), (4, (.cells [(.d (.bool false))])), (5, (.cells [(.ap 10 1 (List.map (D.int .i64) r57.1))])), (6, (.cells [(.ap 11 4 (List.map (rtE (z := 4)) r57.2))])), (10, (.tok ((List.map (D.int .i64) r57.1).length * 1))), (11, (.tok ((List.map (rtE (z := 4)) r57.2).length * 4)))] from ACalls.use (F477v2_0 hmix hc.2.2.2 ha0 hb0 e57) [(0, 0), (1, 1), (2, 2), (3, 3), (4, 4), (5, 5), (6, 7), (7, 6), (8, 8), (9, 10), (10, 11)] 11 rfl) rfl rfl rfl rfl (.cons (.refl _) (.cons (.refl _) (.cons (.refl _) .nil))) (.refl _) (fun h => by cases h) rfl (hasCons rfl (hasCons rfl (hasCons rfl (hasCons rfl (hasCons rfl (hasCons rfl (hasCons rfl (hasCons rfl (hasCons rfl hasNil))))))))) rfl rfl rfl rfl ?_
        refine RegV.p0 (v := (.d (.bool true))) rfl rfl rfl ?_
        refine RegV.nil0 ?_
        refine AWc.cond rfl (fun _ => ?_) (fun hc => by cases hc)
        refine AWc.seq ?_
        refine AWc.rg hmix rfl rfl ?_
        refine RegV.p0 rfl rfl rfl ?_
        refine RegV.nil0 ?_
        cases h31
        dsimp only at h
        cases h
      · dsimp only at h31
        refine RegV.callS (q := false) (H' := [(0, (.lp 30 [(3, (.ptr 1 0)), (4, (.ptr 2 0)), (5, (.ptr 3 0)), (6, (.ptr 4 0)), (7, (.ptr 5 0)), (8, (.ptr 6 0))] [14, 15] asg0 bd0 .ready none)), (1, (.cells [(.d (.int .i64 a2))])), (2, (.cells [.nils])), (3, (.cells [.nils])), (4, (.cells [(.d (.bool a3))])), (5, (.cells [(.ap 10 1 (List.map (D.int .i64) r57.1))])), (6, (.cells [(.ap 11 4 (List.map (rtE (z := 4)) r57.2))])), (10, (.tok ((List.map (D.int .i64) r57.1).length * 1))), (11, (.tok ((List.map (rtE (z := 4)) r57.2).length * 4))), (9, (.cells [(.d (.int .i64 rx46.fKind)), (.d (.str rx46.fText)), (.d (.sl (List.map (rtE (z := 4)) rx46.fL))), (.d (.sl (List.map D.str rx46.fKeys)))]))]) (c' := 12) (show ACalls P (N 477) [(.d (TJson.enc (TJson.mk rx46.fKind rx46.fText rx46.fL rx46.fKeys))), (.d (.int .i64 (IntKind.i64.wrap (a1 + (1 : Int))))), (.lf 0)] [(0, (.lp 30 [(3, (.ptr 1 0)), (4, (.ptr 2 0)), (5, (.ptr 3 0)), (6, (.ptr 4 0)), (7, (.ptr 5 0)), (8, (.ptr 6 0))] [14, 15] asg0 bd0 .ready none)), (1, (.cells [(.d (.int .i64 a2))])), (2, (.cells [.nils])), (3, (.cells [.nils])), (4, (.cells [(.d (.bool a3))])), (5, (.cells [(.ap 7 1 (List.map (D.int .i64) y31_2))])), (7, (.tok ((List.map (D.int .i64) y31_2).length * 1))), (6, (.cells [(.ap 8 4 (List.map (rtE (z := 4)) y31_3))])), (8, (.tok ((List.map (rtE (z := 4)) y31_3).length * 4)))] (.d (.bool true)) [(0, (.lp 30 [(3, (.ptr 1 0)), (4, (.ptr 2 0)), (5, (.ptr 3 0)), (6, (.ptr 4 0)), (7, (.ptr 5 0)), (8, (.ptr 6 0))] [14, 15] asg0 bd0 .ready none)), (1, (.cells [(.d (.int .i64 a2))])), (2, (.cells [.nils])), (3, (.cells [.nils])), (4, (.cells [(.d (.bool a3))])), (5, (.cells [(.ap 10 1 (List.map (D.int .i64) r57.1))])), (6, (.cells [(.ap 11 4 (List.map (rtE (z := 4)) r57.2))])), (10, (.tok ((List.map (D.int .i64) r57.1).length * 1))), (11, (.tok ((List.map (rtE (z := 4)) r57.2).length * 4)))] from ACalls.use (F477v2_1 hmix hc.2.2.2 ha0 hb0 e57) [(0, 0), (1, 1), (2, 2), (3, 3), (4, 4), (5, 5), (6, 7), (7, 6), (8, 8), (9, 10), (10, 11)] 11 rfl) rfl rfl rfl rfl (.cons (.refl _) (.cons (.refl _) (.cons (.refl _) .nil))) (.refl _) (fun h => by cases h) rfl (hasCons rfl (hasCons rfl (hasCons rfl (hasCons rfl (hasCons rfl (hasCons rfl (hasCons rfl (hasCons rfl (hasCons rfl hasNil))))))))) rfl rfl rfl rfl ?_
        refine RegV.p0 (v := (.d (.bool false))) rfl rfl rfl ?_
        refine RegV.nil0 ?_
        refine AWc.cond rfl (fun hc => by cases hc) (fun _ => ?_)
        refine AWc.skip ?_
        refine AWc.rg hmix rfl rfl ?_
        refine RegV.p0 (v := (.d (.int .i64 (IntKind.i64.wrap (y31_1 + (1 : Int)))))) rfl rfl rfl ?_
        refine RegV.p0 rfl rfl rfl ?_
        refine RegV.nil0 ?_
        exact ⟨((IntKind.i64.wrap (y31_1 + (1 : Int))), r57.1, r57.2), h31, ⟨rfl, [], [(7, 10), (8, 11)], rfl, rfl, ⟨⟨_, rfl, (.refl _)⟩, rfl, ⟨⟨_, rfl, (.refl _)⟩, rfl, ⟨⟨_, rfl, (.refl _)⟩, rfl, ⟨⟨_, rfl, (.refl _)⟩, rfl, ⟨⟨_, rfl, (.refl _)⟩, rfl, trivial⟩⟩⟩⟩⟩, ⟨⟨_, rfl, (.refl _)⟩, rfl, rfl, ⟨⟨_, rfl, (.refl _)⟩, rfl, rfl, ⟨⟨_, rfl, (.refl _)⟩, rfl, rfl, ⟨⟨_, rfl, (.refl _)⟩, rfl, rfl, ⟨⟨_, rfl, (.refl _)⟩, rfl, rfl, ⟨⟨_, rfl, (.refl _)⟩, rfl, rfl, ⟨⟨_, rfl, (.refl _)⟩, rfl, rfl, ⟨⟨_, rfl, (.refl _)⟩, rfl, rfl, ⟨⟨_, rfl, (.refl _)⟩, rfl, rfl, trivial⟩⟩⟩⟩⟩⟩⟩⟩⟩⟩⟩
    · have h31 := cond_neg c38 h31
      cases h31
      dsimp only at h
      refine AWc.exit ?_
      refine inBlk_eq ?_
      refine AWc.seq ?_
      refine AWc.rg hmix rfl rfl ?_
      refine RegV.p0 rfl rfl rfl ?_
      refine RegV.nil0 ?_
      have hr := Option.some.inj h
      have hr := Sum.inr.inj hr
      subst hr
      exact AWc.ret (canQ (N := 29) (k := 9) (l' := [(6, (.d (.bool true)))]) (H' := [(0, (.lp 30 [(3, (.ptr 1 0)), (4, (.ptr 2 0)), (5, (.ptr 3 0)), (6, (.ptr 4 0)), (7, (.ptr 5 0)), (8, (.ptr 6 0))] [14, 15] asg0 bd0 .ready none)), (1, (.cells [(.d (.int .i64 a2))])), (2, (.cells [.nils])), (3, (.cells [.nils])), (4, (.cells [(.d (.bool a3))])), (5, (.cells [(.ap 7 1 (List.map (D.int .i64) y31_2))])), (6, (.cells [(.ap 8 4 (List.map (rtE (z := 4)) y31_3))])), (7, (.tok ((List.map (D.int .i64) y31_2).length * 1))), (8, (.tok ((List.map (rtE (z := 4)) y31_3).length * 4)))]) rfl ⟨rfl, [], [], rfl, rfl, ⟨⟨_, rfl, (.refl _)⟩, rfl, trivial⟩, ⟨⟨_, rfl, (.refl _)⟩, rfl, rfl, ⟨⟨_, rfl, (.refl _)⟩, rfl, rfl, ⟨⟨_, rfl, (.refl _)⟩, rfl, rfl, ⟨⟨_, rfl, (.refl _)⟩, rfl, rfl, ⟨⟨_, rfl, (.refl _)⟩, rfl, rfl, ⟨⟨_, rfl, (.refl _)⟩, rfl, rfl, ⟨⟨_, rfl, (.refl _)⟩, rfl, rfl, ⟨⟨_, rfl, (.refl _)⟩, rfl, rfl, ⟨⟨_, rfl, (.refl _)⟩, rfl, rfl, trivial⟩⟩⟩⟩⟩⟩⟩⟩⟩⟩ (doneA (.inr rfl) rfl ⟨trivial, trivial⟩ (.refl _) (hasCons rfl (hasCons rfl (hasCons rfl (hasCons rfl (hasCons rfl (hasCons rfl (hasCons rfl (hasCons rfl (hasCons rfl hasNil)))))))))))
/-- courant/json.Walk$1 -/
def C444 (N : Nat → Nat) : AFunc := { n := 6, params := 2, res := [], body :=
 (.region false [⟨(some 3), .load (.t 1) 4 true, none, []⟩,
  ⟨(some 4), .mv (.t 0), none, []⟩,
  ⟨(some 5), .call (.k (.d (.fn (N 477)))) [(.t 3), (.k (.d (.int .i64 0))), (.t 4)], none, [0, 1]⟩]) }
def HC444 (P : Program) (N : Nat → Nat) : Prop := HasF P (N 444) (C444 N) ∧ HC477 P N
def f444 (k : Nat) (a0 : Int) (a1 : Bool) (a2 : Int) (a3 : (List UInt8)) (a4 : (List (RT 4))) (a5 : (List (List UInt8))) : Option (((List Int) × (List (RT 4))) ⊕ ((List Int) × (List (RT 4)))) := (f477 k (TJson.mk a2 a3 a4 a5) (0 : Int) a0 a1).bind fun or5 => (match or5 with | .inl r5 => some (.inl (r5.1, r5.2)) | .inr r5 => some (.inr ((r5.1, r5.2))))
theorem F444_0 {P : Program} {N : Nat → Nat} (hmix : P.follows .mixedOrders = true) (hc : HC444 P N) {asg0 bd0 : Code} (ha0 : compCode P asg0 = L476_0a N) (hb0 : compCode P bd0 = L476_0b N) {k : Nat} {a0 : Int} {a1 : Bool} {a2 : Int} {a3 : (List UInt8)} {a4 : (List (RT 4))} {a5 : (List (List UInt8))} {r : ((List Int) × (List (RT 4)))} (h : f444 k a0 a1 a2 a3 a4 a5 = some (.inl r)) :
    ACalls P (N 444) [(.lf 0), (.ptr 7 0)] [(0, (.lp 30 [(3, (.ptr 1 0)), (4, (.ptr 2 0)), (5, (.ptr 3 0)), (6, (.ptr 4 0)), (7, (.ptr 5 0)), (8, (.ptr 6 0))] [14, 15] asg0 bd0 .ready none)), (1, (.cells [(.d (.int .i64 a0))])), (2, (.cells [.nils])), (3, (.cells [.nils])), (4, (.cells [(.d (.bool a1))])), (5, (.cells [.nils])), (6, (.cells [.nils])), (7, (.cells [(.d (.int .i64 a2)), (.d (.str a3)), (.d (.sl (List.map (rtE (z := 4)) a4))), (.d (.sl (List.map D.str a5)))]))] (.tup []) [(0, (.lp 30 [(3, (.ptr 1 0)), (4, (.ptr 2 0)), (5, (.ptr 3 0)), (6, (.ptr 4 0)), (7, (.ptr 5 0)), (8, (.ptr 6 0))] [14, 15] asg0 bd0 .done (some .ret))), (1, (.cells [(.d (.int .i64 a0))])), (2, (.cells [.nils])), (3, (.cells [.nils])), (4, (.cells [(.d (.bool false))])), (5, (.cells [(.ap 8 1 (List.map (D.int .i64) r.1))])), (6, (.cells [(.ap 9 4 (List.map (rtE (z := 4)) r.2))])), (7, (.cells [(.d (.int .i64 a2)), (.d (.str a3)), (.d (.sl (List.map (rtE (z := 4)) a4))), (.d (.sl (List.map D.str a5)))])), (8, (.tok ((List.map (D.int .i64) r.1).length * 1))), (9, (.tok ((List.map (rtE (z := 4)) r.2).length * 4)))] := by
  refine acalls_canon (F := C444 N) hc.1 8 10 rfl ?_
  unfold f444 at h
  dsimp only [C444, startL]
  obtain ⟨or5, e5, h⟩ := bind_some h
  rcases or5 with r5 | r5
  · dsimp only at h
    refine AWc.rE hmix [.call (F477_0 hmix hc.2 ha0 hb0 e5) [(7, 8), (8, 9)] 9] ?_
    have hr := Option.some.inj h
    have hr := Sum.inl.inj hr
    subst hr
    exact canQ (N := 6) (k := 10) (l' := []) (H' := [(0, (.lp 30 [(3, (.ptr 1 0)), (4, (.ptr 2 0)), (5, (.ptr 3 0)), (6, (.ptr 4 0)), (7, (.ptr 5 0)), (8, (.ptr 6 0))] [14, 15] asg0 bd0 .done (some .ret))), (1, (.cells [(.d (.int .i64 a0))])), (2, (.cells [.nils])), (3, (.cells [.nils])), (4, (.cells [(.d (.bool false))])), (5, (.cells [(.ap 8 1 (List.map (D.int .i64) r5.1))])), (6, (.cells [(.ap 9 4 (List.map (rtE (z := 4)) r5.2))])), (7, (.cells [(.d (.int .i64 a2)), (.d (.str a3)), (.d (.sl (List.map (rtE (z := 4)) a4))), (.d (.sl (List.map D.str a5)))])), (8, (.tok ((List.map (D.int .i64) r5.1).length * 1))), (9, (.tok ((List.map (rtE (z := 4)) r5.2).length * 4)))]) rfl (inT [] []) (doneA (.inl rfl) rfl trivial (.refl _) (hasCons rfl (hasCons rfl (hasCons rfl (hasCons rfl (hasCons rfl (hasCons rfl (hasCons rfl (hasCons rfl (hasCons rfl (hasCons rfl hasNil)))))))))))
  · dsimp only at h
    refine AWc.rE hmix [.call (F477_1 hmix hc.2 ha0 hb0 e5) [(7, 8), (8, 9)] 9] ?_
    cases h
theorem F444_1 {P : Program} {N : Nat → Nat} (hmix : P.follows .mixedOrders = true) (hc : HC444 P N) {asg0 bd0 : Code} (ha0 : compCode P asg0 = L476_0a N) (hb0 : compCode P bd0 = L476_0b N) {k : Nat} {a0 : Int} {a1 : Bool} {a2 : Int} {a3 : (List UInt8)} {a4 : (List (RT 4))} {a5 : (List (List UInt8))} {r : ((List Int) × (List (RT 4)))} (h : f444 k a0 a1 a2 a3 a4 a5 = some (.inr r)) :
    ACalls P (N 444) [(.lf 0), (.ptr 7 0)] [(0, (.lp 30 [(3, (.ptr 1 0)), (4, (.ptr 2 0)), (5, (.ptr 3 0)), (6, (.ptr 4 0)), (7, (.ptr 5 0)), (8, (.ptr 6 0))] [14, 15] asg0 bd0 .ready none)), (1, (.cells [(.d (.int .i64 a0))])), (2, (.cells [.nils])), (3, (.cells [.nils])), (4, (.cells [(.d (.bool a1))])), (5, (.cells [.nils])), (6, (.cells [.nils])), (7, (.cells [(.d (.int .i64 a2)), (.d (.str a3)), (.d (.sl (List.map (rtE (z := 4)) a4))), (.d (.sl (List.map D.str a5)))]))] (.tup []) [(0, (.lp 30 [(3, (.ptr 1 0)), (4, (.ptr 2 0)), (5, (.ptr 3 0)), (6, (.ptr 4 0)), (7, (.ptr 5 0)), (8, (.ptr 6 0))] [14, 15] asg0 bd0 .ready none)), (1, (.cells [(.d (.int .i64 a0))])), (2, (.cells [.nils])), (3, (.cells [.nils])), (4, (.cells [(.d (.bool a1))])), (5, (.cells [(.ap 8 1 (List.map (D.int .i64) r.1))])), (6, (.cells [(.ap 9 4 (List.map (rtE (z := 4)) r.2))])), (7, (.cells [(.d (.int .i64 a2)), (.d (.str a3)), (.d (.sl (List.map (rtE (z := 4)) a4))), (.d (.sl (List.map D.str a5)))])), (8, (.tok ((List.map (D.int .i64) r.1).length * 1))), (9, (.tok ((List.map (rtE (z := 4)) r.2).length * 4)))] := by
  refine acalls_canon (F := C444 N) hc.1 8 10 rfl ?_
  unfold f444 at h
  dsimp only [C444, startL]
  obtain ⟨or5, e5, h⟩ := bind_some h
  rcases or5 with r5 | r5
  · dsimp only at h
    refine AWc.rE hmix [.call (F477_0 hmix hc.2 ha0 hb0 e5) [(7, 8), (8, 9)] 9] ?_
    cases h
  · dsimp only at h
    refine AWc.rE hmix [.call (F477_1 hmix hc.2 ha0 hb0 e5) [(7, 8), (8, 9)] 9] ?_
    have hr := Option.some.inj h
    have hr := Sum.inr.inj hr
    subst hr
    exact canQ (N := 6) (k := 10) (l' := []) (H' := [(0, (.lp 30 [(3, (.ptr 1 0)), (4, (.ptr 2 0)), (5, (.ptr 3 0)), (6, (.ptr 4 0)), (7, (.ptr 5 0)), (8, (.ptr 6 0))] [14, 15] asg0 bd0 .ready none)), (1, (.cells [(.d (.int .i64 a0))])), (2, (.cells [.nils])), (3, (.cells [.nils])), (4, (.cells [(.d (.bool a1))])), (5, (.cells [(.ap 8 1 (List.map (D.int .i64) r5.1))])), (6, (.cells [(.ap 9 4 (List.map (rtE (z := 4)) r5.2))])), (7, (.cells [(.d (.int .i64 a2)), (.d (.str a3)), (.d (.sl (List.map (rtE (z := 4)) a4))), (.d (.sl (List.map D.str a5)))])), (8, (.tok ((List.map (D.int .i64) r5.1).length * 1))), (9, (.tok ((List.map (rtE (z := 4)) r5.2).length * 4)))]) rfl (inT [] []) (doneA (.inl rfl) rfl trivial (.refl _) (hasCons rfl (hasCons rfl (hasCons rfl (hasCons rfl (hasCons rfl (hasCons rfl (hasCons rfl (hasCons rfl (hasCons rfl (hasCons rfl hasNil)))))))))))
def HC476 (P : Program) (N : Nat → Nat) : Prop := HasF P (N 476) (C476 N) ∧ HC444 P N
def f476 (k : Nat) (a0 : Int) (a1 : (List UInt8)) (a2 : (List (RT 4))) (a3 : (List (List UInt8))) (a4 : Int) : Option ((List Int) × (List (RT 4)) × Bool) := (f444 k a4 false a0 a1 a2 a3).bind fun orf37 => (match orf37 with | .inl rf37 => some (([] : List Int), ([] : List (RT 4)), false) | .inr rf37 => some (rf37.1, rf37.2, true))
theorem F476 {P : Program} {N : Nat → Nat} (hmix : P.follows .mixedOrders = true) (hc : HC476 P N) {k : Nat} {a0 : Int} {a1 : (List UInt8)} {a2 : (List (RT 4))} {a3 : (List (List UInt8))} {a4 : Int} {r : ((List Int) × (List (RT 4)) × Bool)} (h : f476 k a0 a1 a2 a3 a4 = some r) :
    ACalls P (N 476) [(.fn (N 444) [(.ptr 0 0)]), (.d (.int .i64 a4))] [(0, (.cells [(.d (.int .i64 a0)), (.d (.str a1)), (.d (.sl (List.map (rtE (z := 4)) a2))), (.d (.sl (List.map D.str a3)))]))] (.tup [(.ap 1 1 (List.map (D.int .i64) r.1)), (.ap 2 4 (List.map (rtE (z := 4)) r.2.1)), (.d (.bool r.2.2))]) [(0, (.cells [(.d (.int .i64 a0)), (.d (.str a1)), (.d (.sl (List.map (rtE (z := 4)) a2))), (.d (.sl (List.map D.str a3)))])), (1, (.tok ((List.map (D.int .i64) r.1).length * 1))), (2, (.tok ((List.map (rtE (z := 4)) r.2.1).length * 4)))] := by
  refine acalls_canon (F := C476 N) hc.1 1 3 rfl ?_
  unfold f476 at h
  dsimp only [C476, startL]
  refine AWc.seq ?_
  refine AWc.rg hmix rfl rfl ?_
  refine RegV.evS (own := false) (v := (.ptr 1 0)) (H' := [(1, (.cells [(.d (.int .i64 a4))])), (0, (.cells [(.d (.int .i64 a0)), (.d (.str a1)), (.d (.sl (List.map (rtE (z := 4)) a2))), (.d (.sl (List.map D.str a3)))]))]) (c' := 2) rfl rfl trivial rfl rfl rfl rfl rfl rfl ?_
  refine RegV.evS (own := false) (v := (.ptr 2 0)) (H' := [(2, (.cells [.nils])), (1, (.cells [(.d (.int .i64 a4))])), (0, (.cells [(.d (.int .i64 a0)), (.d (.str a1)), (.d (.sl (List.map (rtE (z := 4)) a2))), (.d (.sl (List.map D.str a3)))]))]) (c' := 3) rfl rfl trivial rfl rfl rfl rfl rfl rfl ?_
  refine RegV.evS (own := false) (v := (.ptr 3 0)) (H' := [(3, (.cells [.nils])), (2, (.cells [.nils])), (1, (.cells [(.d (.int .i64 a4))])), (0, (.cells [(.d (.int .i64 a0)), (.d (.str a1)), (.d (.sl (List.map (rtE (z := 4)) a2))), (.d (.sl (List.map D.str a3)))]))]) (c' := 4) rfl rfl trivial rfl rfl rfl rfl rfl rfl ?_
  refine RegV.evS (own := false) (v := (.ptr 4 0)) (H' := [(4, (.cells [(.d (.bool false))])), (3, (.cells [.nils])), (2, (.cells [.nils])), (1, (.cells [(.d (.int .i64 a4))])), (0, (.cells [(.d (.int .i64 a0)), (.d (.str a1)), (.d (.sl (List.map (rtE (z := 4)) a2))), (.d (.sl (List.map D.str a3)))]))]) (c' := 5) rfl rfl trivial rfl rfl rfl rfl rfl rfl ?_
  refine RegV.nil0 ?_
  refine AWc.seq ?_
  refine AWc.seq ?_
  refine AWc.rg hmix rfl rfl ?_
  refine RegV.p0 rfl rfl rfl ?_
  refine RegV.p0 (v := (.d (.bool false))) rfl rfl rfl ?_
  refine RegV.nil0 ?_
  refine AWc.cond rfl (fun hc => by cases hc) (fun _ => ?_)
  refine AWc.skip ?_
  refine AWc.seq ?_
  refine AWc.rg hmix rfl rfl ?_
  refine RegV.evS (own := false) (v := (.ptr 5 0)) (H' := [(5, (.cells [.nils])), (4, (.cells [(.d (.bool false))])), (3, (.cells [.nils])), (2, (.cells [.nils])), (1, (.cells [(.d (.int .i64 a4))])), (0, (.cells [(.d (.int .i64 a0)), (.d (.str a1)), (.d (.sl (List.map (rtE (z := 4)) a2))), (.d (.sl (List.map D.str a3)))]))]) (c' := 6) rfl rfl trivial rfl rfl rfl rfl rfl rfl ?_
  refine RegV.nil0 ?_
  refine AWc.seq ?_
  refine AWc.rg hmix rfl rfl ?_
  refine RegV.evS (own := false) (v := (.ptr 6 0)) (H' := [(6, (.cells [.nils])), (5, (.cells [.nils])), (4, (.cells [(.d (.bool false))])), (3, (.cells [.nils])), (2, (.cells [.nils])), (1, (.cells [(.d (.int .i64 a4))])), (0, (.cells [(.d (.int .i64 a0)), (.d (.str a1)), (.d (.sl (List.map (rtE (z := 4)) a2))), (.d (.sl (List.map D.str a3)))]))]) (c' := 7) rfl rfl trivial rfl rfl rfl rfl rfl rfl ?_
  refine RegV.nil0 ?_
  refine AWc.seq ?_
  refine AWc.seq ?_
  refine AWc.rg hmix rfl rfl ?_
  refine RegV.p0 rfl rfl rfl ?_
  refine RegV.nil0 ?_
  refine AWc.block ?_
  refine AWc.rangeFunc [(3, (.ptr 1 0)), (4, (.ptr 2 0)), (5, (.ptr 3 0)), (6, (.ptr 4 0)), (7, (.ptr 5 0)), (8, (.ptr 6 0))] rfl rfl rfl rfl ⟨rfl, rfl, rfl, rfl, rfl, rfl, trivial⟩ (fun asgU37 bdU37 haU37 hbU37 => ?_)
  obtain ⟨orf37, ef37, h⟩ := bind_some h
  rcases orf37 with rf37 | rf37
  · dsimp only at h
    refine rfR (H' := [(1, (.cells [(.d (.int .i64 a4))])), (2, (.cells [.nils])), (3, (.cells [.nils])), (4, (.cells [(.d (.bool false))])), (5, (.cells [(.ap 8 1 (List.map (D.int .i64) rf37.1))])), (6, (.cells [(.ap 9 4 (List.map (rtE (z := 4)) rf37.2))])), (0, (.cells [(.d (.int .i64 a0)), (.d (.str a1)), (.d (.sl (List.map (rtE (z := 4)) a2))), (.d (.sl (List.map D.str a3)))])), (8, (.tok ((List.map (D.int .i64) rf37.1).length * 1))), (9, (.tok ((List.map (rtE (z := 4)) rf37.2).length * 4)))]) (c' := 10) (show ACalls P (N 444) [(.lf 7), (.ptr 0 0)] [(7, (.lp 30 [(3, (.ptr 1 0)), (4, (.ptr 2 0)), (5, (.ptr 3 0)), (6, (.ptr 4 0)), (7, (.ptr 5 0)), (8, (.ptr 6 0))] [14, 15] asgU37 bdU37 .ready none)), (1, (.cells [(.d (.int .i64 a4))])), (2, (.cells [.nils])), (3, (.cells [.nils])), (4, (.cells [(.d (.bool false))])), (5, (.cells [.nils])), (6, (.cells [.nils])), (0, (.cells [(.d (.int .i64 a0)), (.d (.str a1)), (.d (.sl (List.map (rtE (z := 4)) a2))), (.d (.sl (List.map D.str a3)))]))] (.tup []) [(7, (.lp 30 [(3, (.ptr 1 0)), (4, (.ptr 2 0)), (5, (.ptr 3 0)), (6, (.ptr 4 0)), (7, (.ptr 5 0)), (8, (.ptr 6 0))] [14, 15] asgU37 bdU37 .done (some .ret))), (1, (.cells [(.d (.int .i64 a4))])), (2, (.cells [.nils])), (3, (.cells [.nils])), (4, (.cells [(.d (.bool false))])), (5, (.cells [(.ap 8 1 (List.map (D.int .i64) rf37.1))])), (6, (.cells [(.ap 9 4 (List.map (rtE (z := 4)) rf37.2))])), (0, (.cells [(.d (.int .i64 a0)), (.d (.str a1)), (.d (.sl (List.map (rtE (z := 4)) a2))), (.d (.sl (List.map D.str a3)))])), (8, (.tok ((List.map (D.int .i64) rf37.1).length * 1))), (9, (.tok ((List.map (rtE (z := 4)) rf37.2).length * 4)))] from ACalls.use (F444_0 hmix hc.2 haU37 hbU37 ef37) [(0, 7), (1, 1), (2, 2), (3, 3), (4, 4), (5, 5), (6, 6), (7, 0), (8, 8), (9, 9)] 10 rfl) (.cons (.refl _) (.cons (.refl _) .nil)) (hasCons rfl (hasCons rfl (hasCons rfl (hasCons rfl (hasCons rfl (hasCons rfl (hasCons rfl (hasCons rfl hasNil)))))))) rfl rfl rfl rfl rfl ?_
    have hr := Option.some.inj h
    subst hr
    exact canQ (N := 30) (k := 6) (l' := [(4, (.ptr 3 0)), (5, (.ptr 4 0)), (6, (.ptr 5 0))]) (H' := [(3, (.cells [(.ap 1 1 (List.map (D.int .i64) ([] : List Int)))])), (4, (.cells [(.ap 2 4 (List.map (rtE (z := 4)) ([] : List (RT 4))))])), (5, (.cells [(.d (.bool false))])), (0, (.cells [(.d (.int .i64 a0)), (.d (.str a1)), (.d (.sl (List.map (rtE (z := 4)) a2))), (.d (.sl (List.map D.str a3)))])), (1, (.tok ((List.map (D.int .i64) ([] : List Int)).length * 1))), (2, (.tok ((List.map (rtE (z := 4)) ([] : List (RT 4))).length * 4)))]) rfl ⟨rfl, [.tok 0, .tok 0], [(3, 2), (4, 3), (5, 4), (1, 10), (2, 11)], rfl, rfl, ⟨⟨_, rfl, (.refl _)⟩, rfl, ⟨⟨_, rfl, (.refl _)⟩, rfl, ⟨⟨_, rfl, (.refl _)⟩, rfl, trivial⟩⟩⟩, ⟨⟨_, rfl, (.cells (.cons .nil .nil))⟩, rfl, rfl, ⟨⟨_, rfl, (.cells (.cons .nil .nil))⟩, rfl, rfl, ⟨⟨_, rfl, (.refl _)⟩, rfl, rfl, ⟨⟨_, rfl, (.refl _)⟩, rfl, rfl, ⟨⟨_, rfl, (.refl _)⟩, rfl, rfl, ⟨⟨_, rfl, (.refl _)⟩, rfl, rfl, trivial⟩⟩⟩⟩⟩⟩⟩ (doneA (.inr rfl) rfl ⟨trivial, ⟨trivial, ⟨trivial, trivial⟩⟩⟩ (.refl _) (hasCons rfl (hasCons rfl (hasCons rfl hasNil))))
  · dsimp only at h
    refine rfN (H' := [(1, (.cells [(.d (.int .i64 a4))])), (2, (.cells [.nils])), (3, (.cells [.nils])), (4, (.cells [(.d (.bool false))])), (5, (.cells [(.ap 8 1 (List.map (D.int .i64) rf37.1))])), (6, (.cells [(.ap 9 4 (List.map (rtE (z := 4)) rf37.2))])), (0, (.cells [(.d (.int .i64 a0)), (.d (.str a1)), (.d (.sl (List.map (rtE (z := 4)) a2))), (.d (.sl (List.map D.str a3)))])), (8, (.tok ((List.map (D.int .i64) rf37.1).length * 1))), (9, (.tok ((List.map (rtE (z := 4)) rf37.2).length * 4)))]) (c' := 10) (show ACalls P (N 444) [(.lf 7), (.ptr 0 0)] [(7, (.lp 30 [(3, (.ptr 1 0)), (4, (.ptr 2 0)), (5, (.ptr 3 0)), (6, (.ptr 4 0)), (7, (.ptr 5 0)), (8, (.ptr 6 0))] [14, 15] asgU37 bdU37 .ready none)), (1, (.cells [(.d (.int .i64 a4))])), (2, (.cells [.nils])), (3, (.cells [.nils])), (4, (.cells [(.d (.bool false))])), (5, (.cells [.nils])), (6, (.cells [.nils])), (0, (.cells [(.d (.int .i64 a0)), (.d (.str a1)), (.d (.sl (List.map (rtE (z := 4)) a2))), (.d (.sl (List.map D.str a3)))]))] (.tup []) [(7, (.lp 30 [(3, (.ptr 1 0)), (4, (.ptr 2 0)), (5, (.ptr 3 0)), (6, (.ptr 4 0)), (7, (.ptr 5 0)), (8, (.ptr 6 0))] [14, 15] asgU37 bdU37 .ready none)), (1, (.cells [(.d (.int .i64 a4))])), (2, (.cells [.nils])), (3, (.cells [.nils])), (4, (.cells [(.d (.bool false))])), (5, (.cells [(.ap 8 1 (List.map (D.int .i64) rf37.1))])), (6, (.cells [(.ap 9 4 (List.map (rtE (z := 4)) rf37.2))])), (0, (.cells [(.d (.int .i64 a0)), (.d (.str a1)), (.d (.sl (List.map (rtE (z := 4)) a2))), (.d (.sl (List.map D.str a3)))])), (8, (.tok ((List.map (D.int .i64) rf37.1).length * 1))), (9, (.tok ((List.map (rtE (z := 4)) rf37.2).length * 4)))] from ACalls.use (F444_1 hmix hc.2 haU37 hbU37 ef37) [(0, 7), (1, 1), (2, 2), (3, 3), (4, 4), (5, 5), (6, 6), (7, 0), (8, 8), (9, 9)] 10 rfl) (.cons (.refl _) (.cons (.refl _) .nil)) (hasCons rfl (hasCons rfl (hasCons rfl (hasCons rfl (hasCons rfl (hasCons rfl (hasCons rfl (hasCons rfl hasNil)))))))) rfl rfl rfl rfl rfl ?_
    refine AWc.seq ?_
    refine AWc.rg hmix rfl rfl ?_
    refine RegV.ld (v := (.ap 8 1 (List.map (D.int .i64) rf37.1))) (H' := [(5, (.cells [(.ap 8 1 (List.map (D.int .i64) rf37.1))])), (1, (.cells [(.d (.int .i64 a4))])), (2, (.cells [.nils])), (3, (.cells [.nils])), (4, (.cells [(.d (.bool false))])), (6, (.cells [(.ap 9 4 (List.map (rtE (z := 4)) rf37.2))])), (0, (.cells [(.d (.int .i64 a0)), (.d (.str a1)), (.d (.sl (List.map (rtE (z := 4)) a2))), (.d (.sl (List.map D.str a3)))])), (8, (.tok ((List.map (D.int .i64) rf37.1).length * 1))), (9, (.tok ((List.map (rtE (z := 4)) rf37.2).length * 4)))]) rfl rfl trivial rfl rfl rfl rfl rfl ?_
    refine RegV.ld (v := (.ap 9 4 (List.map (rtE (z := 4)) rf37.2))) (H' := [(6, (.cells [(.ap 9 4 (List.map (rtE (z := 4)) rf37.2))])), (5, (.cells [(.ap 8 1 (List.map (D.int .i64) rf37.1))])), (1, (.cells [(.d (.int .i64 a4))])), (2, (.cells [.nils])), (3, (.cells [.nils])), (4, (.cells [(.d (.bool false))])), (0, (.cells [(.d (.int .i64 a0)), (.d (.str a1)), (.d (.sl (List.map (rtE (z := 4)) a2))), (.d (.sl (List.map D.str a3)))])), (8, (.tok ((List.map (D.int .i64) rf37.1).length * 1))), (9, (.tok ((List.map (rtE (z := 4)) rf37.2).length * 4)))]) rfl rfl trivial rfl rfl rfl rfl rfl ?_
    refine RegV.evN (own := false) (H' := [(2, (.cells [(.ap 8 1 (List.map (D.int .i64) rf37.1))])), (6, (.cells [(.ap 9 4 (List.map (rtE (z := 4)) rf37.2))])), (5, (.cells [(.ap 8 1 (List.map (D.int .i64) rf37.1))])), (1, (.cells [(.d (.int .i64 a4))])), (3, (.cells [.nils])), (4, (.cells [(.d (.bool false))])), (0, (.cells [(.d (.int .i64 a0)), (.d (.str a1)), (.d (.sl (List.map (rtE (z := 4)) a2))), (.d (.sl (List.map D.str a3)))])), (8, (.tok ((List.map (D.int .i64) rf37.1).length * 1))), (9, (.tok ((List.map (rtE (z := 4)) rf37.2).length * 4)))]) (c' := 10) rfl rfl (by exact ⟨rfl, Nat.le_of_ble_eq_true rfl, rfl⟩) rfl rfl rfl rfl ?_
    refine RegV.evN (own := false) (H' := [(3, (.cells [(.ap 9 4 (List.map (rtE (z := 4)) rf37.2))])), (2, (.cells [(.ap 8 1 (List.map (D.int .i64) rf37.1))])), (6, (.cells [(.ap 9 4 (List.map (rtE (z := 4)) rf37.2))])), (5, (.cells [(.ap 8 1 (List.map (D.int .i64) rf37.1))])), (1, (.cells [(.d (.int .i64 a4))])), (4, (.cells [(.d (.bool false))])), (0, (.cells [(.d (.int .i64 a0)), (.d (.str a1)), (.d (.sl (List.map (rtE (z := 4)) a2))), (.d (.sl (List.map D.str a3)))])), (8, (.tok ((List.map (D.int .i64) rf37.1).length * 1))), (9, (.tok ((List.map (rtE (z := 4)) rf37.2).length * 4)))]) (c' := 10) rfl rfl (by exact ⟨rfl, Nat.le_of_ble_eq_true rfl, rfl⟩) rfl rfl rfl rfl ?_
    refine RegV.evN (own := false) (H' := [(4, (.cells [(.d (.bool true))])), (3, (.cells [(.ap 9 4 (List.map (rtE (z := 4)) rf37.2))])), (2, (.cells [(.ap 8 1 (List.map (D.int .i64) rf37.1))])), (6, (.cells [(.ap 9 4 (List.map (rtE (z := 4)) rf37.2))])), (5, (.cells [(.ap 8 1 (List.map (D.int .i64) rf37.1))])), (1, (.cells [(.d (.int .i64 a4))])), (0, (.cells [(.d (.int .i64 a0)), (.d (.str a1)), (.d (.sl (List.map (rtE (z := 4)) a2))), (.d (.sl (List.map D.str a3)))])), (8, (.tok ((List.map (D.int .i64) rf37.1).length * 1))), (9, (.tok ((List.map (rtE (z := 4)) rf37.2).length * 4)))]) (c' := 10) rfl rfl (by exact ⟨rfl, Nat.le_of_ble_eq_true rfl, rfl⟩) rfl rfl rfl rfl ?_
    refine RegV.nil1 (by kernel_rfl) ?_
    have hr := Option.some.inj h
    subst hr
    exact AWc.ret (canQ (N := 30) (k := 6) (l' := [(4, (.ptr 3 0)), (5, (.ptr 4 0)), (6, (.ptr 5 0))]) (H' := [(3, (.cells [(.ap 1 1 (List.map (D.int .i64) rf37.1))])), (4, (.cells [(.ap 2 4 (List.map (rtE (z := 4)) rf37.2))])), (5, (.cells [(.d (.bool true))])), (0, (.cells [(.d (.int .i64 a0)), (.d (.str a1)), (.d (.sl (List.map (rtE (z := 4)) a2))), (.d (.sl (List.map D.str a3)))])), (1, (.tok ((List.map (D.int .i64) rf37.1).length * 1))), (2, (.tok ((List.map (rtE (z := 4)) rf37.2).length * 4)))]) rfl ⟨rfl, [], [(3, 2), (4, 3), (5, 4), (1, 8), (2, 9)], rfl, rfl, ⟨⟨_, rfl, (.refl _)⟩, rfl, ⟨⟨_, rfl, (.refl _)⟩, rfl, ⟨⟨_, rfl, (.refl _)⟩, rfl, trivial⟩⟩⟩, ⟨⟨_, rfl, (.refl _)⟩, rfl, rfl, ⟨⟨_, rfl, (.refl _)⟩, rfl, rfl, ⟨⟨_, rfl, (.refl _)⟩, rfl, rfl, ⟨⟨_, rfl, (.refl _)⟩, rfl, rfl, ⟨⟨_, rfl, (.refl _)⟩, rfl, rfl, ⟨⟨_, rfl, (.refl _)⟩, rfl, rfl, trivial⟩⟩⟩⟩⟩⟩⟩ (doneA (.inr rfl) rfl ⟨trivial, ⟨trivial, ⟨trivial, trivial⟩⟩⟩ (.refl _) (hasCons rfl (hasCons rfl (hasCons rfl hasNil)))))
/-- courant/couranthelp.Plain[int]$1 -/
def C480 (N : Nat → Nat) : AFunc := { n := 8, params := 2, res := [.tmp 4], body :=
 (.seq (.region false [⟨(some 4), .mv (.k (.d (.bool false))), none, []⟩])
  (.seq (.region false [⟨(some 5), .mv (.t 0), none, []⟩,
    ⟨(some 6), .mv (.t 1), none, []⟩,
    ⟨(some 7), .bin .eql (.t 5) (.t 6), none, [0, 1]⟩,
    ⟨(some 4), .mv (.t 7), none, [2, 0, 1]⟩])
   .ret)) }
def HC480 (P : Program) (N : Nat → Nat) : Prop := HasF P (N 480) (C480 N)
def f480 (k : Nat) (a0 : Int) (a1 : Int) : Option Unit := some ()
theorem F480 {P : Program} {N : Nat → Nat} (hmix : P.follows .mixedOrders = true) (hc : HC480 P N) {k : Nat} {a0 : Int} {a1 : Int} {r : Unit} (h : f480 k a0 a1 = some r) :
    ACalls P (N 480) [(.d (.int .i64 a0)), (.d (.int .i64 a1))] [] (.d (.bool (decide (a0 = a1)))) [] := by
  refine acalls_canon (F := C480 N) hc 0 0 rfl ?_
  unfold f480 at h
  dsimp only [C480, startL]
  refine AWc.seq ?_
  refine AWc.rE hmix [] ?_
  refine AWc.seq ?_
  refine AWc.rE hmix [] ?_
  have hr := Option.some.inj h
  subst hr
  exact AWc.ret (canQ (N := 8) (k := 0) (l' := [(4, (.d (.bool (decide (a0 = a1)))))]) (H' := []) rfl (inT [] []) (doneA (.inr rfl) rfl ⟨trivial, trivial⟩ (.refl _) hasNil))
/-- courant/couranthelp.Same[int] -/
def C479 (N : Nat → Nat) : AFunc := { n := 30, params := 3, res := [.tmp 6], body :=
 (.seq (.region false [⟨(some 6), .mv (.k (.d (.bool false))), none, []⟩])
  (.seq (.seq (.region false [⟨(some 8), .mv (.t 0), none, []⟩,
     ⟨(some 9), .len (.t 8), none, [0]⟩,
     ⟨(some 10), .mv (.t 1), none, []⟩,
     ⟨(some 11), .len (.t 10), none, [2]⟩,
     ⟨(some 12), .bin .neq (.t 9) (.t 11), none, [1, 3]⟩])
    (.cond (.t 12) (.seq (.region false [⟨(some 6), .mv (.k (.d (.bool false))), none, []⟩])
      .ret)
     (.skip)))
   (.seq (.seq (.region false [⟨(some 7), .mv (.k (.d (.int .i64 0))), none, []⟩])
     (.block 0 (.loop (.seq (.seq (.region false [⟨(some 13), .mv (.t 7), none, []⟩,
          ⟨(some 14), .mv (.t 0), none, []⟩,
          ⟨(some 15), .len (.t 14), none, [1]⟩,
          ⟨(some 16), .bin .lss (.t 13) (.t 15), none, [0, 2]⟩])
         (.cond (.t 16) (.skip)
          (.exit 0)))
        (.seq (.block 1 (.seq (.region true [⟨(some 19), .mv (.t 2), none, []⟩,
            ⟨(some 20), .mv (.t 0), none, []⟩,
            ⟨(some 21), .mv (.t 7), none, []⟩,
            ⟨(some 22), .iaddr (.t 20) (.t 21) 1, none, [1, 2]⟩,
            ⟨(some 23), .load (.t 22) 1 false, none, [3]⟩,
            ⟨(some 24), .mv (.t 1), none, []⟩,
            ⟨(some 25), .mv (.t 7), none, []⟩,
            ⟨(some 26), .iaddr (.t 24) (.t 25) 1, none, [5, 6]⟩,
            ⟨(some 27), .load (.t 26) 1 false, none, [7]⟩,
            ⟨(some 28), .call (.t 19) [(.t 23), (.t 27)], none, [0, 4, 8]⟩,
            ⟨(some 29), .un .not (.t 28), none, [9]⟩])
           (.cond (.t 29) (.seq (.region false [⟨(some 6), .mv (.k (.d (.bool false))), none, []⟩])
             .ret)
            (.skip))))
         (.region false [⟨(some 17), .mv (.t 7), none, []⟩,
          ⟨(some 18), .bin .add (.t 17) (.k (.d (.int .i64 1))), none, [0]⟩,
          ⟨(some 7), .mv (.t 18), none, [1, 0]⟩]))))))
    (.seq (.region false [⟨(some 6), .mv (.k (.d (.bool true))), none, []⟩])
     .ret)))) }
def HC479 (P : Program) (N : Nat → Nat) : Prop := HasF P (N 479) (C479 N) ∧ HC480 P N
def f479_l26 (a0 : (List Int)) (a1 : (List Int)) : Nat → Int → Option (LR2 Unit Unit Bool)
  | 0, _ => none
  | k + 1, y26_1 => cond (decide (y26_1 < ((a0.length : Nat) : Int))) (gd (0 ≤ y26_1 ∧ y26_1 < ((a0.length : Nat) : Int)) (gd (0 ≤ y26_1 ∧ y26_1 < ((a1.length : Nat) : Int)) ((f480 k (rd a0 y26_1) (rd a1 y26_1)).bind fun r53 => cond (!(decide ((rd a0 y26_1) = (rd a1 y26_1)))) (some (.r false)) (f479_l26 a0 a1 k (IntKind.i64.wrap (y26_1 + (1 : Int))))))) (some (.b0 ()))
def f479 (k : Nat) (a0 : (List Int)) (a1 : (List Int)) : Option Bool := cond (decide (((a0.length : Nat) : Int) ≠ ((a1.length : Nat) : Int))) (some false) ((f479_l26 a0 a1 k (0 : Int)).bind fun o26 => (match o26 with | .b0 () => some true | .r x => some x | _ => none))
theorem F479 {P : Program} {N : Nat → Nat} (hmix : P.follows .mixedOrders = true) (hc : HC479 P N) {k : Nat} {a0 : (List Int)} {a1 : (List Int)} {r : Bool} (h : f479 k a0 a1 = some r) :
    ACalls P (N 479) [(.d (.sl (List.map (D.int .i64) a0))), (.d (.sl (List.map (D.int .i64) a1))), (.d (.fn (N 480)))] [] (.d (.bool r)) [] := by
  refine acalls_canon (F := C479 N) hc.1 0 0 rfl ?_
  unfold f479 at h
  dsimp only [C479, startL]
  refine AWc.seq ?_
  refine AWc.rE hmix [] ?_
  refine AWc.seq ?_
  refine AWc.seq ?_
  refine AWc.rE hmix [.ln (D.int .i64) a0, .ln (D.int .i64) a1] ?_
  rcases cc h with ⟨c14, h⟩ | ⟨c14, h⟩
  · refine AWc.cT c14 ?_
    refine AWc.seq ?_
    refine AWc.rE hmix [] ?_
    have hr := Option.some.inj h
    subst hr
    exact AWc.ret (canQ (N := 30) (k := 0) (l' := [(6, (.d (.bool false)))]) (H' := []) rfl (inT [] []) (doneA (.inr rfl) rfl ⟨trivial, trivial⟩ (.refl _) hasNil))
  · refine AWc.cF c14 ?_
    refine AWc.skip ?_
    refine AWc.seq ?_
    refine AWc.seq ?_
    refine AWc.rE hmix [] ?_
    obtain ⟨o26, h26, h⟩ := bind_some h
    refine AWc.block ?_
    refine AWc.loopK (N := 30) 0 (fun (x : Int) => [(0, (.d (.sl (List.map (D.int .i64) a0)))), (1, (.d (.sl (List.map (D.int .i64) a1)))), (2, (.d (.fn (N 480)))), (7, (.d (.int .i64 x)))]) (fun x => []) (fun k x => f479_l26 a0 a1 k x = some o26) k (0 : Int) rfl_le (fun x hx => by cases hx) h26 (inT [] []) ?_
    clear h26
    intro k
    intro y26_1 h26
    rw [f479_l26] at h26
    refine AWc.seq ?_
    refine AWc.seq ?_
    refine AWc.rE hmix [.ln (D.int .i64) a0] ?_
    rcases cc h26 with ⟨c36, h26⟩ | ⟨c36, h26⟩
    · refine AWc.cT c36 ?_
      refine AWc.skip ?_
      refine AWc.seq ?_
      refine AWc.block ?_
      refine AWc.seq ?_
      obtain ⟨b47, h26⟩ := gd_some h26
      obtain ⟨b51, h26⟩ := gd_some h26
      obtain ⟨r53, e53, h26⟩ := bind_some h26
      refine AWc.rE hmix [.iad (D.int .i64) a0 1 (fun _ => rfl) b47, .iad (D.int .i64) a1 1 (fun _ => rfl) b51, .call (F480 hmix hc.2 e53) [] 0] ?_
      rcases cc h26 with ⟨c55, h26⟩ | ⟨c55, h26⟩
      · refine AWc.cT c55 ?_
        refine AWc.seq ?_
        refine AWc.rE hmix [] ?_
        cases h26
        dsimp only at h
        have hr := Option.some.inj h
        subst hr
        exact AWc.ret (canQ (N := 30) (k := 0) (l' := [(6, (.d (.bool false)))]) (H' := []) rfl (inT [] []) (doneA (.inr rfl) rfl ⟨trivial, trivial⟩ (.refl _) hasNil))
      · refine AWc.cF c55 ?_
        refine AWc.skip ?_
        refine AWc.rE hmix [] ?_
        exact ⟨(IntKind.i64.wrap (y26_1 + (1 : Int))), h26, (inT [] [])⟩
    · refine AWc.cF c36 ?_
      cases h26
      dsimp only at h
      refine AWc.exit ?_
      refine inBlk_eq ?_
      refine AWc.seq ?_
      refine AWc.rE hmix [] ?_
      have hr := Option.some.inj h
      subst hr
      exact AWc.ret (canQ (N := 30) (k := 0) (l' := [(6, (.d (.bool true)))]) (H' := []) rfl (inT [] []) (doneA (.inr rfl) rfl ⟨trivial, trivial⟩ (.refl _) hasNil))
/-- courant/couranthelp.Plain[int] -/
def C478 (N : Nat → Nat) : AFunc := { n := 8, params := 2, res := [.tmp 4], body :=
 (.seq (.region false [⟨(some 4), .mv (.k (.d (.bool false))), none, []⟩])
  (.seq (.region false [⟨(some 5), .mv (.t 0), none, []⟩,
    ⟨(some 6), .mv (.t 1), none, []⟩,
    ⟨(some 7), .call (.k (.d (.fn (N 479)))) [(.t 5), (.t 6), (.k (.d (.fn (N 480))))], none, [0, 1]⟩,
    ⟨(some 4), .mv (.t 7), none, [2, 0, 1]⟩])
   .ret)) }
def HC478 (P : Program) (N : Nat → Nat) : Prop := HasF P (N 478) (C478 N) ∧ HC479 P N
def f478 (k : Nat) (a0 : (List Int)) (a1 : (List Int)) : Option Bool := (f479 k a0 a1).bind fun r10 => some r10
theorem F478 {P : Program} {N : Nat → Nat} (hmix : P.follows .mixedOrders = true) (hc : HC478 P N) {k : Nat} {a0 : (List Int)} {a1 : (List Int)} {r : Bool} (h : f478 k a0 a1 = some r) :
    ACalls P (N 478) [(.d (.sl (List.map (D.int .i64) a0))), (.d (.sl (List.map (D.int .i64) a1)))] [] (.d (.bool r)) [] := by
  refine acalls_canon (F := C478 N) hc.1 0 0 rfl ?_
  unfold f478 at h
  dsimp only [C478, startL]
  refine AWc.seq ?_
  refine AWc.rE hmix [] ?_
  refine AWc.seq ?_
  obtain ⟨r10, e10, h⟩ := bind_some h
  refine AWc.rE hmix [.call (F479 hmix hc.2 e10) [] 0] ?_
  have hr := Option.some.inj h
  subst hr
  exact AWc.ret (canQ (N := 8) (k := 0) (l' := [(4, (.d (.bool r10)))]) (H' := []) rfl (inT [] []) (doneA (.inr rfl) rfl ⟨trivial, trivial⟩ (.refl _) hasNil))
def RH438 (P : Program) (N : Nat → Nat) (rc438 : (List (RT 4)) → (List (RT 4)) → Option Bool) : Prop := ∀ (a0 : (List (RT 4))) (a1 : (List (RT 4))) (r : Bool), rc438 a0 a1 = some r → ACalls P (N 438) [(.d (.sl (List.map (rtE (z := 4)) a0))), (.d (.sl (List.map (rtE (z := 4)) a1))), (.d (.fn (N 437)))] [] (.d (.bool r)) []
/-- courant/couranthelp.Plain[string]$1 -/
def C436 (N : Nat → Nat) : AFunc := { n := 8, params := 2, res := [.tmp 4], body :=
 (.seq (.region false [⟨(some 4), .mv (.k (.d (.bool false))), none, []⟩])
  (.seq (.region false [⟨(some 5), .mv (.t 0), none, []⟩,
    ⟨(some 6), .mv (.t 1), none, []⟩,
    ⟨(some 7), .bin .eql (.t 5) (.t 6), none, [0, 1]⟩,
    ⟨(some 4), .mv (.t 7), none, [2, 0, 1]⟩])
   .ret)) }
def HC436 (P : Program) (N : Nat → Nat) : Prop := HasF P (N 436) (C436 N)
def f436 (k : Nat) (a0 : (List UInt8)) (a1 : (List UInt8)) : Option Unit := some ()
theorem F436 {P : Program} {N : Nat → Nat} (hmix : P.follows .mixedOrders = true) (hc : HC436 P N) {k : Nat} {a0 : (List UInt8)} {a1 : (List UInt8)} {r : Unit} (h : f436 k a0 a1 = some r) :
    ACalls P (N 436) [(.d (.str a0)), (.d (.str a1))] [] (.d (.bool (decide (a0 = a1)))) [] := by
  refine acalls_canon (F := C436 N) hc 0 0 rfl ?_
  unfold f436 at h
  dsimp only [C436, startL]
  refine AWc.seq ?_
  refine AWc.rE hmix [] ?_
  refine AWc.seq ?_
  refine AWc.rE hmix [] ?_
  have hr := Option.some.inj h
  subst hr
  exact AWc.ret (canQ (N := 8) (k := 0) (l' := [(4, (.d (.bool (decide (a0 = a1)))))]) (H' := []) rfl (inT [] []) (doneA (.inr rfl) rfl ⟨trivial, trivial⟩ (.refl _) hasNil))
/-- courant/couranthelp.Same[string] -/
def C435 (N : Nat → Nat) : AFunc := { n := 30, params := 3, res := [.tmp 6], body :=
 (.seq (.region false [⟨(some 6), .mv (.k (.d (.bool false))), none, []⟩])
  (.seq (.seq (.region false [⟨(some 8), .mv (.t 0), none, []⟩,
     ⟨(some 9), .len (.t 8), none, [0]⟩,
     ⟨(some 10), .mv (.t 1), none, []⟩,
     ⟨(some 11), .len (.t 10), none, [2]⟩,
     ⟨(some 12), .bin .neq (.t 9) (.t 11), none, [1, 3]⟩])
    (.cond (.t 12) (.seq (.region false [⟨(some 6), .mv (.k (.d (.bool false))), none, []⟩])
      .ret)
     (.skip)))
   (.seq (.seq (.region false [⟨(some 7), .mv (.k (.d (.int .i64 0))), none, []⟩])
     (.block 0 (.loop (.seq (.seq (.region false [⟨(some 13), .mv (.t 7), none, []⟩,
          ⟨(some 14), .mv (.t 0), none, []⟩,
          ⟨(some 15), .len (.t 14), none, [1]⟩,
          ⟨(some 16), .bin .lss (.t 13) (.t 15), none, [0, 2]⟩])
         (.cond (.t 16) (.skip)
          (.exit 0)))
        (.seq (.block 1 (.seq (.region true [⟨(some 19), .mv (.t 2), none, []⟩,
            ⟨(some 20), .mv (.t 0), none, []⟩,
            ⟨(some 21), .mv (.t 7), none, []⟩,
            ⟨(some 22), .iaddr (.t 20) (.t 21) 1, none, [1, 2]⟩,
            ⟨(some 23), .load (.t 22) 1 false, none, [3]⟩,
            ⟨(some 24), .mv (.t 1), none, []⟩,
            ⟨(some 25), .mv (.t 7), none, []⟩,
            ⟨(some 26), .iaddr (.t 24) (.t 25) 1, none, [5, 6]⟩,
            ⟨(some 27), .load (.t 26) 1 false, none, [7]⟩,
            ⟨(some 28), .call (.t 19) [(.t 23), (.t 27)], none, [0, 4, 8]⟩,
            ⟨(some 29), .un .not (.t 28), none, [9]⟩])
           (.cond (.t 29) (.seq (.region false [⟨(some 6), .mv (.k (.d (.bool false))), none, []⟩])
             .ret)
            (.skip))))
         (.region false [⟨(some 17), .mv (.t 7), none, []⟩,
          ⟨(some 18), .bin .add (.t 17) (.k (.d (.int .i64 1))), none, [0]⟩,
          ⟨(some 7), .mv (.t 18), none, [1, 0]⟩]))))))
    (.seq (.region false [⟨(some 6), .mv (.k (.d (.bool true))), none, []⟩])
     .ret)))) }
def HC435 (P : Program) (N : Nat → Nat) : Prop := HasF P (N 435) (C435 N) ∧ HC436 P N
def f435_l26 (a0 : (List (List UInt8))) (a1 : (List (List UInt8))) : Nat → Int → Option (LR2 Unit Unit Bool)
  | 0, _ => none
  | k + 1, y26_1 => cond (decide (y26_1 < ((a0.length : Nat) : Int))) (gd (0 ≤ y26_1 ∧ y26_1 < ((a0.length : Nat) : Int)) (gd (0 ≤ y26_1 ∧ y26_1 < ((a1.length : Nat) : Int)) ((f436 k (rd a0 y26_1) (rd a1 y26_1)).bind fun r53 => cond (!(decide ((rd a0 y26_1) = (rd a1 y26_1)))) (some (.r false)) (f435_l26 a0 a1 k (IntKind.i64.wrap (y26_1 + (1 : Int))))))) (some (.b0 ()))
def f435 (k : Nat) (a0 : (List (List UInt8))) (a1 : (List (List UInt8))) : Option Bool := cond (decide (((a0.length : Nat) : Int) ≠ ((a1.length : Nat) : Int))) (some false) ((f435_l26 a0 a1 k (0 : Int)).bind fun o26 => (match o26 with | .b0 () => some true | .r x => some x | _ => none))
theorem F435 {P : Program} {N : Nat → Nat} (hmix : P.follows .mixedOrders = true) (hc : HC435 P N) {k : Nat} {a0 : (List (List UInt8))} {a1 : (List (List UInt8))} {r : Bool} (h : f435 k a0 a1 = some r) :
    ACalls P (N 435) [(.d (.sl (List.map D.str a0))), (.d (.sl (List.map D.str a1))), (.d (.fn (N 436)))] [] (.d (.bool r)) [] := by
  refine acalls_canon (F := C435 N) hc.1 0 0 rfl ?_
  unfold f435 at h
  dsimp only [C435, startL]
  refine AWc.seq ?_
  refine AWc.rE hmix [] ?_
  refine AWc.seq ?_
  refine AWc.seq ?_
  refine AWc.rE hmix [.ln D.str a0, .ln D.str a1] ?_
  rcases cc h with ⟨c14, h⟩ | ⟨c14, h⟩
  · refine AWc.cT c14 ?_
    refine AWc.seq ?_
    refine AWc.rE hmix [] ?_
    have hr := Option.some.inj h
    subst hr
    exact AWc.ret (canQ (N := 30) (k := 0) (l' := [(6, (.d (.bool false)))]) (H' := []) rfl (inT [] []) (doneA (.inr rfl) rfl ⟨trivial, trivial⟩ (.refl _) hasNil))
  · refine AWc.cF c14 ?_
    refine AWc.skip ?_
    refine AWc.seq ?_
    refine AWc.seq ?_
    refine AWc.rE hmix [] ?_
    obtain ⟨o26, h26, h⟩ := bind_some h
    refine AWc.block ?_
    refine AWc.loopK (N := 30) 0 (fun (x : Int) => [(0, (.d (.sl (List.map D.str a0)))), (1, (.d (.sl (List.map D.str a1)))), (2, (.d (.fn (N 436)))), (7, (.d (.int .i64 x)))]) (fun x => []) (fun k x => f435_l26 a0 a1 k x = some o26) k (0 : Int) rfl_le (fun x hx => by cases hx) h26 (inT [] []) ?_
    clear h26
    intro k
    intro y26_1 h26
    rw [f435_l26] at h26
    refine AWc.seq ?_
    refine AWc.seq ?_
    refine AWc.rE hmix [.ln D.str a0] ?_
    rcases cc h26 with ⟨c36, h26⟩ | ⟨c36, h26⟩
    · refine AWc.cT c36 ?_
      refine AWc.skip ?_
      refine AWc.seq ?_
      refine AWc.block ?_
      refine AWc.seq ?_
      obtain ⟨b47, h26⟩ := gd_some h26
      obtain ⟨b51, h26⟩ := gd_some h26
      obtain ⟨r53, e53, h26⟩ := bind_some h26
      refine AWc.rE hmix [.iad D.str a0 1 (fun _ => rfl) b47, .iad D.str a1 1 (fun _ => rfl) b51, .call (F436 hmix hc.2 e53) [] 0] ?_
      rcases cc h26 with ⟨c55, h26⟩ | ⟨c55, h26⟩
      · refine AWc.cT c55 ?_
        refine AWc.seq ?_
        refine AWc.rE hmix [] ?_
        cases h26
        dsimp only at h
        have hr := Option.some.inj h
        subst hr
        exact AWc.ret (canQ (N := 30) (k := 0) (l' := [(6, (.d (.bool false)))]) (H' := []) rfl (inT [] []) (doneA (.inr rfl) rfl ⟨trivial, trivial⟩ (.refl _) hasNil))
      · refine AWc.cF c55 ?_
        refine AWc.skip ?_
        refine AWc.rE hmix [] ?_
        exact ⟨(IntKind.i64.wrap (y26_1 + (1 : Int))), h26, (inT [] [])⟩
    · refine AWc.cF c36 ?_
      cases h26
      dsimp only at h
      refine AWc.exit ?_
      refine inBlk_eq ?_
      refine AWc.seq ?_
      refine AWc.rE hmix [] ?_
      have hr := Option.some.inj h
      subst hr
      exact AWc.ret (canQ (N := 30) (k := 0) (l' := [(6, (.d (.bool true)))]) (H' := []) rfl (inT [] []) (doneA (.inr rfl) rfl ⟨trivial, trivial⟩ (.refl _) hasNil))
/-- courant/couranthelp.Plain[string] -/
def C434 (N : Nat → Nat) : AFunc := { n := 8, params := 2, res := [.tmp 4], body :=
 (.seq (.region false [⟨(some 4), .mv (.k (.d (.bool false))), none, []⟩])
  (.seq (.region false [⟨(some 5), .mv (.t 0), none, []⟩,
    ⟨(some 6), .mv (.t 1), none, []⟩,
    ⟨(some 7), .call (.k (.d (.fn (N 435)))) [(.t 5), (.t 6), (.k (.d (.fn (N 436))))], none, [0, 1]⟩,
    ⟨(some 4), .mv (.t 7), none, [2, 0, 1]⟩])
   .ret)) }
def HC434 (P : Program) (N : Nat → Nat) : Prop := HasF P (N 434) (C434 N) ∧ HC435 P N
def f434 (k : Nat) (a0 : (List (List UInt8))) (a1 : (List (List UInt8))) : Option Bool := (f435 k a0 a1).bind fun r10 => some r10
theorem F434 {P : Program} {N : Nat → Nat} (hmix : P.follows .mixedOrders = true) (hc : HC434 P N) {k : Nat} {a0 : (List (List UInt8))} {a1 : (List (List UInt8))} {r : Bool} (h : f434 k a0 a1 = some r) :
    ACalls P (N 434) [(.d (.sl (List.map D.str a0))), (.d (.sl (List.map D.str a1)))] [] (.d (.bool r)) [] := by
  refine acalls_canon (F := C434 N) hc.1 0 0 rfl ?_
  unfold f434 at h
  dsimp only [C434, startL]
  refine AWc.seq ?_
  refine AWc.rE hmix [] ?_
  refine AWc.seq ?_
  obtain ⟨r10, e10, h⟩ := bind_some h
  refine AWc.rE hmix [.call (F435 hmix hc.2 e10) [] 0] ?_
  have hr := Option.some.inj h
  subst hr
  exact AWc.ret (canQ (N := 8) (k := 0) (l' := [(4, (.d (.bool r10)))]) (H' := []) rfl (inT [] []) (doneA (.inr rfl) rfl ⟨trivial, trivial⟩ (.refl _) hasNil))
/-- courant/couranthelp.Json -/
def C437 (N : Nat → Nat) : AFunc := { n := 31, params := 2, res := [.tmp 4], body :=
 (.seq (.region false [⟨(some 2), .box (.t 0), none, []⟩,
   ⟨(some 3), .box (.t 1), none, []⟩,
   ⟨(some 4), .mv (.k (.d (.bool false))), none, []⟩])
  (.seq (.region false [⟨(some 5), .faddr (.t 2) 0, none, []⟩,
    ⟨(some 6), .load (.t 5) 1 false, none, [0]⟩,
    ⟨(some 7), .faddr (.t 3) 0, none, []⟩,
    ⟨(some 8), .load (.t 7) 1 false, none, [2]⟩,
    ⟨(some 9), .bin .eql (.t 6) (.t 8), none, [1, 3]⟩,
    ⟨(some 10), .mv (.t 9), none, [4]⟩,
    ⟨(some 11), .faddr (.t 2) 1, (some (10, true)), [5]⟩,
    ⟨(some 12), .load (.t 11) 1 false, (some (10, true)), [6, 5]⟩,
    ⟨(some 13), .faddr (.t 3) 1, (some (10, true)), [5]⟩,
    ⟨(some 14), .load (.t 13) 1 false, (some (10, true)), [8, 5]⟩,
    ⟨(some 15), .bin .eql (.t 12) (.t 14), (some (10, true)), [7, 9, 5]⟩,
    ⟨(some 16), .pick (.t 10) (.t 15) (.k (.d (.bool false))), none, [5, 10]⟩,
    ⟨(some 17), .mv (.t 16), none, [11, 5]⟩,
    ⟨(some 18), .faddr (.t 2) 2, (some (17, true)), [12]⟩,
    ⟨(some 19), .load (.t 18) 1 false, (some (17, true)), [13, 12]⟩,
    ⟨(some 20), .faddr (.t 3) 2, (some (17, true)), [12]⟩,
    ⟨(some 21), .load (.t 20) 1 false, (some (17, true)), [15, 12]⟩,
    ⟨(some 22), .call (.k (.d (.fn (N 438)))) [(.t 19), (.t 21), (.k (.d (.fn (N 437))))], (some (17, true)), [14, 16, 12]⟩,
    ⟨(some 23), .pick (.t 17) (.t 22) (.k (.d (.bool false))), none, [12, 17]⟩,
    ⟨(some 24), .mv (.t 23), none, [18, 17]⟩,
    ⟨(some 25), .faddr (.t 2) 3, (some (24, true)), [19]⟩,
    ⟨(some 26), .load (.t 25) 1 false, (some (24, true)), [20, 19]⟩,
    ⟨(some 27), .faddr (.t 3) 3, (some (24, true)), [19]⟩,
    ⟨(some 28), .load (.t 27) 1 false, (some (24, true)), [22, 19]⟩,
    ⟨(some 29), .call (.k (.d (.fn (N 434)))) [(.t 26), (.t 28)], (some (24, true)), [21, 23, 19]⟩,
    ⟨(some 30), .pick (.t 24) (.t 29) (.k (.d (.bool false))), none, [19, 24]⟩,
    ⟨(some 4), .mv (.t 30), none, [25, 24, 0, 1, 2, 3, 4, 5, 6, 7, 8, 9, 10, 11, 12, 13, 14, 15, 16, 17, 18, 19, 20, 21, 22, 23]⟩])
   .ret)) }
def HC437 (P : Program) (N : Nat → Nat) : Prop := HasF P (N 437) (C437 N) ∧ HC434 P N
def f437 (rc438 : (List (RT 4)) → (List (RT 4)) → Option Bool) (k : Nat) (a0 : TJson) (a1 : TJson) : Option Bool := cond (decide (a0.fKind = a1.fKind)) (cond (decide (a0.fText = a1.fText)) ((rc438 a0.fL a1.fL).bind fun r27 => cond r27 ((f434 k a0.fKeys a1.fKeys).bind fun r34 => some r34) (some false)) (some false)) (some false)
theorem F437 {P : Program} {N : Nat → Nat} (hmix : P.follows .mixedOrders = true) (hc : HC437 P N) {rc438 : (List (RT 4)) → (List (RT 4)) → Option Bool} (hrc438 : RH438 P N rc438) {k : Nat} {a0 : TJson} {a1 : TJson} {r : Bool} (h : f437 rc438 k a0 a1 = some r) :
    ACalls P (N 437) [(.d (TJson.enc a0)), (.d (TJson.enc a1))] [] (.d (.bool r)) [] := by
  refine acalls_canon (F := C437 N) hc.1 0 0 rfl ?_
  unfold f437 at h
  dsimp only [C437, startL]
  refine AWc.seq ?_
  refine AWc.rE hmix [] ?_
  refine AWc.seq ?_
  rcases cc h with ⟨c15, h⟩ | ⟨c15, h⟩
  · rcases cc h with ⟨c22, h⟩ | ⟨c22, h⟩
    · obtain ⟨r27, e27, h⟩ := bind_some h
      rcases cc h with ⟨c29, h⟩ | ⟨c29, h⟩
      · obtain ⟨r34, e34, h⟩ := bind_some h
        refine AWc.rE hmix [.br c15, .br c22, .call (hrc438 _ _ _ e27) [] 0, .br c29, .call (F434 hmix hc.2 e34) [] 0] ?_
        have hr := Option.some.inj h
        subst hr
        exact AWc.ret (canQ (N := 31) (k := 0) (l' := [(4, (.d (.bool r34)))]) (H' := []) rfl (inT [] []) (doneA (.inr rfl) rfl ⟨trivial, trivial⟩ (.refl _) hasNil))
      · refine AWc.rE hmix [.br c15, .br c22, .call (hrc438 _ _ _ e27) [] 0, .br c29] ?_
        have hr := Option.some.inj h
        subst hr
        exact AWc.ret (canQ (N := 31) (k := 0) (l' := [(4, (.d (.bool false)))]) (H' := []) rfl (inT [] []) (doneA (.inr rfl) rfl ⟨trivial, trivial⟩ (.refl _) hasNil))
    · refine AWc.rE hmix [.br c15, .br c22, .br (rfl : false = false)] ?_
      have hr := Option.some.inj h
      subst hr
      exact AWc.ret (canQ (N := 31) (k := 0) (l' := [(4, (.d (.bool false)))]) (H' := []) rfl (inT [] []) (doneA (.inr rfl) rfl ⟨trivial, trivial⟩ (.refl _) hasNil))
  · refine AWc.rE hmix [.br c15, .br (rfl : false = false), .br (rfl : false = false)] ?_
    have hr := Option.some.inj h
    subst hr
    exact AWc.ret (canQ (N := 31) (k := 0) (l' := [(4, (.d (.bool false)))]) (H' := []) rfl (inT [] []) (doneA (.inr rfl) rfl ⟨trivial, trivial⟩ (.refl _) hasNil))
/-- courant/couranthelp.Same[courant/api.Json] -/
def C438 (N : Nat → Nat) : AFunc := { n := 30, params := 3, res := [.tmp 6], body :=
 (.seq (.region false [⟨(some 6), .mv (.k (.d (.bool false))), none, []⟩])
  (.seq (.seq (.region false [⟨(some 8), .mv (.t 0), none, []⟩,
     ⟨(some 9), .len (.t 8), none, [0]⟩,
     ⟨(some 10), .mv (.t 1), none, []⟩,
     ⟨(some 11), .len (.t 10), none, [2]⟩,
     ⟨(some 12), .bin .neq (.t 9) (.t 11), none, [1, 3]⟩])
    (.cond (.t 12) (.seq (.region false [⟨(some 6), .mv (.k (.d (.bool false))), none, []⟩])
      .ret)
     (.skip)))
   (.seq (.seq (.region false [⟨(some 7), .mv (.k (.d (.int .i64 0))), none, []⟩])
     (.block 0 (.loop (.seq (.seq (.region false [⟨(some 13), .mv (.t 7), none, []⟩,
          ⟨(some 14), .mv (.t 0), none, []⟩,
          ⟨(some 15), .len (.t 14), none, [1]⟩,
          ⟨(some 16), .bin .lss (.t 13) (.t 15), none, [0, 2]⟩])
         (.cond (.t 16) (.skip)
          (.exit 0)))
        (.seq (.block 1 (.seq (.region true [⟨(some 19), .mv (.t 2), none, []⟩,
            ⟨(some 20), .mv (.t 0), none, []⟩,
            ⟨(some 21), .mv (.t 7), none, []⟩,
            ⟨(some 22), .iaddr (.t 20) (.t 21) 4, none, [1, 2]⟩,
            ⟨(some 23), .load (.t 22) 4 true, none, [3]⟩,
            ⟨(some 24), .mv (.t 1), none, []⟩,
            ⟨(some 25), .mv (.t 7), none, []⟩,
            ⟨(some 26), .iaddr (.t 24) (.t 25) 4, none, [5, 6]⟩,
            ⟨(some 27), .load (.t 26) 4 true, none, [7]⟩,
            ⟨(some 28), .call (.t 19) [(.t 23), (.t 27)], none, [0, 4, 8]⟩,
            ⟨(some 29), .un .not (.t 28), none, [9]⟩])
           (.cond (.t 29) (.seq (.region false [⟨(some 6), .mv (.k (.d (.bool false))), none, []⟩])
             .ret)
            (.skip))))
         (.region false [⟨(some 17), .mv (.t 7), none, []⟩,
          ⟨(some 18), .bin .add (.t 17) (.k (.d (.int .i64 1))), none, [0]⟩,
          ⟨(some 7), .mv (.t 18), none, [1, 0]⟩]))))))
    (.seq (.region false [⟨(some 6), .mv (.k (.d (.bool true))), none, []⟩])
     .ret)))) }
def HC438 (P : Program) (N : Nat → Nat) : Prop := HasF P (N 438) (C438 N) ∧ HC437 P N
def f438_l26 (a0 : (List (RT 4))) (a1 : (List (RT 4))) (rc438 : (List (RT 4)) → (List (RT 4)) → Option Bool) : Nat → Int → Option (LR2 Unit Unit Bool)
  | 0, _ => none
  | k + 1, y26_1 => cond (decide (y26_1 < ((a0.length : Nat) : Int))) (gd (0 ≤ y26_1 ∧ y26_1 < ((a0.length : Nat) : Int)) ((TJson.dec (rtE (rd a0 y26_1))).bind fun rx47 => gd (0 ≤ y26_1 ∧ y26_1 < ((a1.length : Nat) : Int)) ((TJson.dec (rtE (rd a1 y26_1))).bind fun rx51 => (f437 rc438 k rx47 rx51).bind fun r53 => cond (!r53) (some (.r false)) (f438_l26 a0 a1 rc438 k (IntKind.i64.wrap (y26_1 + (1 : Int))))))) (some (.b0 ()))
def f438_s (rc438 : (List (RT 4)) → (List (RT 4)) → Option Bool) (k : Nat) (a0 : (List (RT 4))) (a1 : (List (RT 4))) : Option Bool := cond (decide (((a0.length : Nat) : Int) ≠ ((a1.length : Nat) : Int))) (some false) ((f438_l26 a0 a1 rc438 k (0 : Int)).bind fun o26 => (match o26 with | .b0 () => some true | .r x => some x | _ => none))
theorem F438_s {P : Program} {N : Nat → Nat} (hmix : P.follows .mixedOrders = true) (hc : HC438 P N) {rc438 : (List (RT 4)) → (List (RT 4)) → Option Bool} (hrc438 : RH438 P N rc438) {k : Nat} {a0 : (List (RT 4))} {a1 : (List (RT 4))} {r : Bool} (h : f438_s rc438 k a0 a1 = some r) :
    ACalls P (N 438) [(.d (.sl (List.map (rtE (z := 4)) a0))), (.d (.sl (List.map (rtE (z := 4)) a1))), (.d (.fn (N 437)))] [] (.d (.bool r)) [] := by
  refine acalls_canon (F := C438 N) hc.1 0 0 rfl ?_
  unfold f438_s at h
  dsimp only [C438, startL]
  refine AWc.seq ?_
  refine AWc.rE hmix [] ?_
  refine AWc.seq ?_
  refine AWc.seq ?_
  refine AWc.rE hmix [.ln (rtE (z := 4)) a0, .ln (rtE (z := 4)) a1] ?_
  rcases cc h with ⟨c14, h⟩ | ⟨c14, h⟩
  · refine AWc.cT c14 ?_
    refine AWc.seq ?_
    refine AWc.rE hmix [] ?_
    have hr := Option.some.inj h
    subst hr
    exact AWc.ret (canQ (N := 30) (k := 0) (l' := [(6, (.d (.bool false)))]) (H' := []) rfl (inT [] []) (doneA (.inr rfl) rfl ⟨trivial, trivial⟩ (.refl _) hasNil))
  · refine AWc.cF c14 ?_
    refine AWc.skip ?_
    refine AWc.seq ?_
    refine AWc.seq ?_
    refine AWc.rE hmix [] ?_
    obtain ⟨o26, h26, h⟩ := bind_some h
    refine AWc.block ?_
    refine AWc.loopK (N := 30) 0 (fun (x : Int) => [(0, (.d (.sl (List.map (rtE (z := 4)) a0)))), (1, (.d (.sl (List.map (rtE (z := 4)) a1)))), (2, (.d (.fn (N 437)))), (7, (.d (.int .i64 x)))]) (fun x => []) (fun k x => f438_l26 a0 a1 rc438 k x = some o26) k (0 : Int) rfl_le (fun x hx => by cases hx) h26 (inT [] []) ?_
    clear h26
    intro k
    intro y26_1 h26
    rw [f438_l26] at h26
    refine AWc.seq ?_
    refine AWc.seq ?_
    refine AWc.rE hmix [.ln (rtE (z := 4)) a0] ?_
    rcases cc h26 with ⟨c36, h26⟩ | ⟨c36, h26⟩
    · refine AWc.cT c36 ?_
      refine AWc.skip ?_
      refine AWc.seq ?_
      refine AWc.block ?_
      refine AWc.seq ?_
      obtain ⟨b47, h26⟩ := gd_some h26
      obtain ⟨rx47, ex47, h26⟩ := bind_some h26
      obtain ⟨b51, h26⟩ := gd_some h26
      obtain ⟨rx51, ex51, h26⟩ := bind_some h26
      obtain ⟨r53, e53, h26⟩ := bind_some h26
      refine AWc.rE hmix [.iadE (rtE (z := 4)) a0 4 rtE_ok.len b47 (TJson.dec_eq ex47), .iadE (rtE (z := 4)) a1 4 rtE_ok.len b51 (TJson.dec_eq ex51), .call (F437 hmix hc.2 hrc438 e53) [] 0] ?_
      rcases cc h26 with ⟨c55, h26⟩ | ⟨c55, h26⟩
      · refine AWc.cT c55 ?_
        refine AWc.seq ?_
        refine AWc.rE hmix [] ?_
        cases h26
        dsimp only at h
        have hr := Option.some.inj h
        subst hr
        exact AWc.ret (canQ (N := 30) (k := 0) (l' := [(6, (.d (.bool false)))]) (H' := []) rfl (inT [] []) (doneA (.inr rfl) rfl ⟨trivial, trivial⟩ (.refl _) hasNil))
      · refine AWc.cF c55 ?_
        refine AWc.skip ?_
        refine AWc.rE hmix [] ?_
        exact ⟨(IntKind.i64.wrap (y26_1 + (1 : Int))), h26, (inT [] [])⟩
    · refine AWc.cF c36 ?_
      cases h26
      dsimp only at h
      refine AWc.exit ?_
      refine inBlk_eq ?_
      refine AWc.seq ?_
      refine AWc.rE hmix [] ?_
      have hr := Option.some.inj h
      subst hr
      exact AWc.ret (canQ (N := 30) (k := 0) (l' := [(6, (.d (.bool true)))]) (H' := []) rfl (inT [] []) (doneA (.inr rfl) rfl ⟨trivial, trivial⟩ (.refl _) hasNil))
def f438 : Nat → (List (RT 4)) → (List (RT 4)) → Option Bool
  | 0, _, _ => none
  | k + 1, a0, a1 => f438_s (f438 k) k a0 a1
theorem F438 {P : Program} {N : Nat → Nat} (hmix : P.follows .mixedOrders = true) (hc : HC438 P N) {k : Nat} {a0 : (List (RT 4))} {a1 : (List (RT 4))} {r : Bool} (h : f438 k a0 a1 = some r) :
    ACalls P (N 438) [(.d (.sl (List.map (rtE (z := 4)) a0))), (.d (.sl (List.map (rtE (z := 4)) a1))), (.d (.fn (N 437)))] [] (.d (.bool r)) [] := by
  induction k generalizing a0 a1 r with
  | zero => exact absurd (show (none : Option _) = some r from h) (fun h2 => by cases h2)
  | succ k ih => exact F438_s hmix hc (fun _ _ _ h => ih h) h
def RH477v3 (P : Program) (N : Nat → Nat) (rc477v3 : TJson → Int → Int → Int → Option (Bool × Int)) : Prop := ∀ (a0 : TJson) (a1 : Int) (a2 : Int) (a3 : Int) (r : (Bool × Int)), rc477v3 a0 a1 a2 a3 = some r → ACalls P (N 477) [(.d (TJson.enc a0)), (.d (.int .i64 a1)), (.fn (N 482) [(.ptr 0 0), (.ptr 1 0)])] [(0, (.cells [(.d (.int .i64 a2))])), (1, (.cells [(.d (.int .i64 a3))]))] (.d (.bool r.1)) [(0, (.cells [(.d (.int .i64 r.2))])), (1, (.cells [(.d (.int .i64 a3))]))]
/-- courant/couranthelp.Stops[int,courant/api.Json]$1 -/
def C482 (N : Nat → Nat) : AFunc := { n := 12, params := 4, res := [.tmp 6], body :=
 (.seq (.region false [⟨(some 5), .box (.t 1), none, []⟩,
   ⟨(some 6), .mv (.k (.d (.bool false))), none, []⟩])
  (.seq (.region false [⟨(some 7), .load (.t 2) 1 false, none, []⟩,
    ⟨(some 8), .bin .add (.t 7) (.k (.d (.int .i64 1))), none, [0]⟩,
    ⟨none, .store (.t 2) (.t 8) 1, none, [1, 0]⟩])
   (.seq (.region false [⟨(some 9), .load (.t 2) 1 false, none, []⟩,
     ⟨(some 10), .load (.t 3) 1 false, none, []⟩,
     ⟨(some 11), .bin .lss (.t 9) (.t 10), none, [0, 1]⟩,
     ⟨(some 6), .mv (.t 11), none, [2, 0, 1]⟩])
    .ret))) }
def HC482 (P : Program) (N : Nat → Nat) : Prop := HasF P (N 482) (C482 N)
def f482 (k : Nat) (a0 : Int) (a1 : TJson) (a2 : Int) (a3 : Int) : Option Unit := some ()
theorem F482 {P : Program} {N : Nat → Nat} (hmix : P.follows .mixedOrders = true) (hc : HC482 P N) {k : Nat} {a0 : Int} {a1 : TJson} {a2 : Int} {a3 : Int} {r : Unit} (h : f482 k a0 a1 a2 a3 = some r) :
    ACalls P (N 482) [(.d (.int .i64 a0)), (.d (TJson.enc a1)), (.ptr 0 0), (.ptr 1 0)] [(0, (.cells [(.d (.int .i64 a2))])), (1, (.cells [(.d (.int .i64 a3))]))] (.d (.bool (decide ((IntKind.i64.wrap (a2 + (1 : Int))) < a3)))) [(0, (.cells [(.d (.int .i64 (IntKind.i64.wrap (a2 + (1 : Int)))))])), (1, (.cells [(.d (.int .i64 a3))]))] := by
  refine acalls_canon (F := C482 N) hc 2 2 rfl ?_
  unfold f482 at h
  dsimp only [C482, startL]
  refine AWc.seq ?_
  refine AWc.rE hmix [] ?_
  refine AWc.seq ?_
  refine AWc.rE hmix [] ?_
  refine AWc.seq ?_
  refine AWc.rE hmix [] ?_
  have hr := Option.some.inj h
  subst hr
  exact AWc.ret (canQ (N := 12) (k := 2) (l' := [(6, (.d (.bool (decide ((IntKind.i64.wrap (a2 + (1 : Int))) < a3)))))]) (H' := [(0, (.cells [(.d (.int .i64 (IntKind.i64.wrap (a2 + (1 : Int)))))])), (1, (.cells [(.d (.int .i64 a3))]))]) rfl (inT [] []) (doneA (.inr rfl) rfl ⟨trivial, trivial⟩ (.refl _) (hasCons rfl (hasCons rfl hasNil))))
def HC477v3 (P : Program) (N : Nat → Nat) : Prop := HasF P (N 477) (C477 N) ∧ HC441 P N ∧ HC482 P N
def f477v3_l31 (a0 : TJson) (rc477v3 : TJson → Int → Int → Int → Option (Bool × Int)) (a1 : Int) (a3 : Int) : Nat → Int → Int → Option (LR2 Int Unit (Bool × Int))
  | 0, _, _ => none
  | k + 1, y31_1, y31_2 => cond (decide (y31_1 < ((a0.fL.length : Nat) : Int))) (gd (0 ≤ y31_1 ∧ y31_1 < ((a0.fL.length : Nat) : Int)) ((TJson.dec (rtE (rd a0.fL y31_1))).bind fun rx46 => (rc477v3 (TJson.mk rx46.fKind rx46.fText rx46.fL rx46.fKeys) (IntKind.i64.wrap (a1 + (1 : Int))) y31_2 a3).bind fun r57 => cond (!r57.1) (some (.r (false, r57.2))) (f477v3_l31 a0 rc477v3 a1 a3 k (IntKind.i64.wrap (y31_1 + (1 : Int))) r57.2))) (some (.b0 y31_2))
def f477v3_s (rc477v3 : TJson → Int → Int → Int → Option (Bool × Int)) (k : Nat) (a0 : TJson) (a1 : Int) (a2 : Int) (a3 : Int) : Option (Bool × Int) := (f441 k (TJson.mk a0.fKind a0.fText a0.fL a0.fKeys)).bind fun r13 => (f482 k a1 (TJson.mk ((TJson.mk a0.fKind a0.fText a0.fL a0.fKeys).fKind) ((TJson.mk a0.fKind a0.fText a0.fL a0.fKeys).fText) r13.1 r13.2) a2 a3).bind fun r14 => cond (!(decide ((IntKind.i64.wrap (a2 + (1 : Int))) < a3))) (some (false, (IntKind.i64.wrap (a2 + (1 : Int))))) ((f477v3_l31 a0 rc477v3 a1 a3 k (0 : Int) (IntKind.i64.wrap (a2 + (1 : Int)))).bind fun o31 => (match o31 with | .b0 x31_1 => some (true, x31_1) | .r x => some x | _ => none))
theorem F477v3_s {P : Program} {N : Nat → Nat} (hmix : P.follows .mixedOrders = true) (hc : HC477v3 P N) {rc477v3 : TJson → Int → Int → Int → Option (Bool × Int)} (hrc477v3 : RH477v3 P N rc477v3) {k : Nat} {a0 : TJson} {a1 : Int} {a2 : Int} {a3 : Int} {r : (Bool × Int)} (h : f477v3_s rc477v3 k a0 a1 a2 a3 = some r) :
    ACalls P (N 477) [(.d (TJson.enc a0)), (.d (.int .i64 a1)), (.fn (N 482) [(.ptr 0 0), (.ptr 1 0)])] [(0, (.cells [(.d (.int .i64 a2))])), (1, (.cells [(.d (.int .i64 a3))]))] (.d (.bool r.1)) [(0, (.cells [(.d (.int .i64 r.2))])), (1, (.cells [(.d (.int .i64 a3))]))] := by
  refine acalls_canon (F := C477 N) hc.1 2 2 rfl ?_
  unfold f477v3_s at h
  dsimp only [C477, startL]
  refine AWc.seq ?_
  refine AWc.rg hmix rfl rfl ?_
  refine RegV.evS (own := false) (v := (.ptr 2 0)) (H' := [(2, (.cells [(.d (.int .i64 a0.fKind)), (.d (.str a0.fText)), (.d (.sl (List.map (rtE (z := 4)) a0.fL))), (.d (.sl (List.map D.str a0.fKeys)))])), (0, (.cells [(.d (.int .i64 a2))])), (1, (.cells [(.d (.int .i64 a3))]))]) (c' := 3) rfl rfl trivial rfl rfl rfl rfl rfl rfl ?_
  refine RegV.p0 rfl rfl rfl ?_
  refine RegV.nil0 ?_
  refine AWc.seq ?_
  refine AWc.seq ?_
  refine AWc.rg hmix rfl rfl ?_
  refine RegV.p0 rfl rfl rfl ?_
  refine RegV.p0 rfl rfl rfl ?_
  refine RegV.ld (v := (.d (.agg [(.int .i64 a0.fKind), (.str a0.fText), (.sl (List.map (rtE (z := 4)) a0.fL)), (.sl (List.map D.str a0.fKeys))]))) (H' := [(2, (.cells [(.d (.int .i64 a0.fKind)), (.d (.str a0.fText)), (.d (.sl (List.map (rtE (z := 4)) a0.fL))), (.d (.sl (List.map D.str a0.fKeys)))])), (0, (.cells [(.d (.int .i64 a2))])), (1, (.cells [(.d (.int .i64 a3))]))]) rfl rfl (Nat.le_of_ble_eq_true rfl) rfl rfl rfl rfl rfl ?_
  obtain ⟨r13, e13, h⟩ := bind_some h
  refine RegV.call0 (F441 hmix hc.2.1 e13) rfl rfl rfl rfl (.cons (.refl _) .nil) rfl ?_
  obtain ⟨r14, e14, h⟩ := bind_some h
  refine RegV.callS (q := false) (H' := [(0, (.cells [(.d (.int .i64 (IntKind.i64.wrap (a2 + (1 : Int)))))])), (1, (.cells [(.d (.int .i64 a3))])), (2, (.cells [(.d (.int .i64 a0.fKind)), (.d (.str a0.fText)), (.d (.sl (List.map (rtE (z := 4)) a0.fL))), (.d (.sl (List.map D.str a0.fKeys)))]))]) (c' := 3) (show ACalls P (N 482) [(.d (.int .i64 a1)), (.d (TJson.enc (TJson.mk ((TJson.mk a0.fKind a0.fText a0.fL a0.fKeys).fKind) ((TJson.mk a0.fKind a0.fText a0.fL a0.fKeys).fText) r13.1 r13.2))), (.ptr 0 0), (.ptr 1 0)] [(0, (.cells [(.d (.int .i64 a2))])), (1, (.cells [(.d (.int .i64 a3))]))] (.d (.bool (decide ((IntKind.i64.wrap (a2 + (1 : Int))) < a3)))) [(0, (.cells [(.d (.int .i64 (IntKind.i64.wrap (a2 + (1 : Int)))))])), (1, (.cells [(.d (.int .i64 a3))]))] from ACalls.use (F482 hmix hc.2.2 e14) [(0, 0), (1, 1)] 2 rfl) rfl rfl rfl rfl (.cons (.refl _) (.cons (.refl _) (.cons (.refl _) (.cons (.refl _) .nil)))) (.refl _) (fun h => by cases h) rfl (hasCons rfl (hasCons rfl hasNil)) rfl rfl rfl rfl ?_
  refine RegV.p0 (v := (.d (.bool (!(decide ((IntKind.i64.wrap (a2 + (1 : Int))) < a3)))))) rfl rfl rfl ?_
  refine RegV.nil0 ?_
  refine AWc.cond rfl (fun c16 => ?_) (fun c16 => ?_)
  · have h := cond_pos c16 h
    refine AWc.seq ?_
    refine AWc.rg hmix rfl rfl ?_
    refine RegV.p0 rfl rfl rfl ?_
    refine RegV.nil0 ?_
    have hr := Option.some.inj h
    subst hr
    exact AWc.ret (canQ (N := 29) (k := 2) (l' := [(6, (.d (.bool false)))]) (H' := [(0, (.cells [(.d (.int .i64 (IntKind.i64.wrap (a2 + (1 : Int)))))])), (1, (.cells [(.d (.int .i64 a3))]))]) rfl ⟨rfl, [], [], rfl, rfl, ⟨⟨_, rfl, (.refl _)⟩, rfl, trivial⟩, ⟨⟨_, rfl, (.refl _)⟩, rfl, rfl, ⟨⟨_, rfl, (.refl _)⟩, rfl, rfl, trivial⟩⟩⟩ (doneA (.inr rfl) rfl ⟨trivial, trivial⟩ (.refl _) (hasCons rfl (hasCons rfl hasNil))))
  · have h := cond_neg c16 h
    refine AWc.skip ?_
    refine AWc.seq ?_
    refine AWc.seq ?_
    refine AWc.rg hmix rfl rfl ?_
    refine RegV.p0 (v := (.ptr 2 2)) rfl rfl rfl ?_
    refine RegV.ld (v := (.d (.sl (List.map (rtE (z := 4)) a0.fL)))) (H' := [(2, (.cells [(.d (.int .i64 a0.fKind)), (.d (.str a0.fText)), (.d (.sl (List.map (rtE (z := 4)) a0.fL))), (.d (.sl (List.map D.str a0.fKeys)))])), (0, (.cells [(.d (.int .i64 (IntKind.i64.wrap (a2 + (1 : Int)))))])), (1, (.cells [(.d (.int .i64 a3))]))]) rfl rfl trivial rfl rfl rfl rfl rfl ?_
    refine RegV.len (xs := a0.fL) (e := (rtE (z := 4))) rfl rfl rfl rfl ?_
    refine RegV.p0 rfl rfl rfl ?_
    refine RegV.nil0 ?_
    obtain ⟨o31, h31, h⟩ := bind_some h
    refine AWc.block ?_
    refine AWc.loopK (N := 29) 2 (fun (x : (Int × Int)) => [(1, (.d (.int .i64 a1))), (2, (.fn (N 482) [(.ptr 0 0), (.ptr 1 0)])), (16, (.d (.sl (List.map (rtE (z := 4)) a0.fL)))), (17, (.d (.int .i64 ((a0.fL.length : Nat) : Int)))), (18, (.d (.int .i64 x.1)))]) (fun x => [(0, (.cells [(.d (.int .i64 x.2))])), (1, (.cells [(.d (.int .i64 a3))]))]) (fun k x => f477v3_l31 a0 rc477v3 a1 a3 k x.1 x.2 = some o31) k ((0 : Int), (IntKind.i64.wrap (a2 + (1 : Int)))) rfl_le (fun x hx => by cases hx) h31 ⟨rfl, [], [], rfl, rfl, ⟨⟨_, rfl, (.refl _)⟩, rfl, ⟨⟨_, rfl, (.refl _)⟩, rfl, ⟨⟨_, rfl, (.refl _)⟩, rfl, ⟨⟨_, rfl, (.refl _)⟩, rfl, ⟨⟨_, rfl, (.refl _)⟩, rfl, trivial⟩⟩⟩⟩⟩, ⟨⟨_, rfl, (.refl _)⟩, rfl, rfl, ⟨⟨_, rfl, (.refl _)⟩, rfl, rfl, trivial⟩⟩⟩ ?_
    clear h31
    intro k
    rintro ⟨y31_1, y31_2⟩ h31
    dsimp only at h31 ⊢
    rw [f477v3_l31] at h31
    refine AWc.seq ?_
    refine AWc.rg hmix rfl rfl ?_
    refine RegV.p0 (v := (.d (.bool (decide (y31_1 < ((a0.fL.length : Nat) : Int)))))) rfl rfl rfl ?_
    refine RegV.nil0 ?_
    refine AWc.seq ?_
    refine AWc.cond rfl (fun c38 => ?_) (fun c38 => ?_)
    · have h31 := cond_pos c38 h31
      refine AWc.skip ?_
      refine AWc.seq ?_
      refine AWc.block ?_
      refine AWc.seq ?_
      refine AWc.rg hmix rfl rfl ?_
      obtain ⟨b46, h31⟩ := gd_some h31
      obtain ⟨rx46, ex46, h31⟩ := bind_some h31
      refine RegV.iadE (xs := a0.fL) (e := (rtE (z := 4))) (w := TJson.enc rx46) rfl rfl rfl rfl rtE_ok.len b46 (TJson.dec_eq ex46) rfl ?_
      refine RegV.p1 (v := (.d (TJson.enc rx46))) rfl rfl rfl rfl rfl ?_
      refine RegV.evS (own := false) (v := (.ptr 2 0)) (H' := [(2, (.cells [(.d (.int .i64 (0 : Int))), (.d (.str ([] : List UInt8))), .nils, .nils])), (0, (.cells [(.d (.int .i64 y31_2))])), (1, (.cells [(.d (.int .i64 a3))]))]) (c' := 3) rfl rfl trivial rfl rfl rfl rfl rfl rfl ?_
      refine RegV.evN (own := false) (H' := [(2, (.cells [(.d (.int .i64 rx46.fKind)), (.d (.str rx46.fText)), (.d (.sl (List.map (rtE (z := 4)) rx46.fL))), (.d (.sl (List.map D.str rx46.fKeys)))])), (0, (.cells [(.d (.int .i64 y31_2))])), (1, (.cells [(.d (.int .i64 a3))]))]) (c' := 3) rfl rfl (by exact ⟨rfl, Nat.le_of_ble_eq_true rfl, rfl⟩) rfl rfl rfl rfl ?_
      refine RegV.nil0 ?_
      refine AWc.seq ?_
      refine AWc.rg hmix rfl rfl ?_
      refine RegV.ld (v := (.d (.agg [(.int .i64 rx46.fKind), (.str rx46.fText), (.sl (List.map (rtE (z := 4)) rx46.fL)), (.sl (List.map D.str rx46.fKeys))]))) (H' := [(2, (.cells [(.d (.int .i64 rx46.fKind)), (.d (.str rx46.fText)), (.d (.sl (List.map (rtE (z := 4)) rx46.fL))), (.d (.sl (List.map D.str rx46.fKeys)))])), (0, (.cells [(.d (.int .i64 y31_2))])), (1, (.cells [(.d (.int .i64 a3))]))]) rfl rfl (Nat.le_of_ble_eq_true rfl) rfl rfl rfl rfl rfl ?_
      refine RegV.p0 rfl rfl rfl ?_
      refine RegV.p0 (v := (.d (.int .i64 (IntKind.i64.wrap (a1 + (1 : Int)))))) rfl rfl rfl ?_
      refine RegV.p0 rfl rfl rfl ?_
      obtain ⟨r57, e57, h31⟩ := bind_some h31
      refine RegV.callS (q := false) (H' := [(0, (.cells [(.d (.int .i64 r57.2))])), (1, (.cells [(.d (.int .i64 a3))])), (2, (.cells [(.d (.int .i64 rx46.fKind)), (.d (.str rx46.fText)), (.d (.sl (List.map (rtE (z := 4)) rx46.fL))), (.d (.sl (List.map D.str rx46.fKeys)))]))]) (c' := 3) (show ACalls P (N 477) [(.d (TJson.enc (TJson.mk rx46.fKind rx46.fText rx46.fL rx46.fKeys))), (.d (.int .i64 (IntKind.i64.wrap (a1 + (1 : Int))))), (.fn (N 482) [(.ptr 0 0), (.ptr 1 0)])] [(0, (.cells [(.d (.int .i64 y31_2))])), (1, (.cells [(.d (.int .i64 a3))]))] (.d (.bool r57.1)) [(0, (.cells [(.d (.int .i64 r57.2))])), (1, (.cells [(.d (.int .i64 a3))]))] from ACalls.use (hrc477v3 _ _ _ _ _ e57) [(0, 0), (1, 1)] 2 rfl) rfl rfl rfl rfl (.cons (.refl _) (.cons (.refl _) (.cons (.refl _) .nil))) (.refl _) (fun h => by cases h) rfl (hasCons rfl (hasCons rfl hasNil)) rfl rfl rfl rfl ?_
      refine RegV.p0 (v := (.d (.bool (!r57.1)))) rfl rfl rfl ?_
      refine RegV.nil0 ?_
      refine AWc.cond rfl (fun c59 => ?_) (fun c59 => ?_)
      · have h31 := cond_pos c59 h31
        refine AWc.seq ?_
        refine AWc.rg hmix rfl rfl ?_
        refine RegV.p0 rfl rfl rfl ?_
        refine RegV.nil0 ?_
        cases h31
        dsimp only at h
        have hr := Option.some.inj h
        subst hr
        exact AWc.ret (canQ (N := 29) (k := 2) (l' := [(6, (.d (.bool false)))]) (H' := [(0, (.cells [(.d (.int .i64 r57.2))])), (1, (.cells [(.d (.int .i64 a3))]))]) rfl ⟨rfl, [], [], rfl, rfl, ⟨⟨_, rfl, (.refl _)⟩, rfl, trivial⟩, ⟨⟨_, rfl, (.refl _)⟩, rfl, rfl, ⟨⟨_, rfl, (.refl _)⟩, rfl, rfl, trivial⟩⟩⟩ (doneA (.inr rfl) rfl ⟨trivial, trivial⟩ (.refl _) (hasCons rfl (hasCons rfl hasNil))))
      · have h31 := cond_neg c59 h31
        refine AWc.skip ?_
        refine AWc.rg hmix rfl rfl ?_
        refine RegV.p0 (v := (.d (.int .i64 (IntKind.i64.wrap (y31_1 + (1 : Int)))))) rfl rfl rfl ?_
        refine RegV.p0 rfl rfl rfl ?_
        refine RegV.nil0 ?_
        exact ⟨((IntKind.i64.wrap (y31_1 + (1 : Int))), r57.2), h31, ⟨rfl, [], [], rfl, rfl, ⟨⟨_, rfl, (.refl _)⟩, rfl, ⟨⟨_, rfl, (.refl _)⟩, rfl, ⟨⟨_, rfl, (.refl _)⟩, rfl, ⟨⟨_, rfl, (.refl _)⟩, rfl, ⟨⟨_, rfl, (.refl _)⟩, rfl, trivial⟩⟩⟩⟩⟩, ⟨⟨_, rfl, (.refl _)⟩, rfl, rfl, ⟨⟨_, rfl, (.refl _)⟩, rfl, rfl, trivial⟩⟩⟩⟩
    · have h31 := cond_neg c38 h31
      cases h31
      dsimp only at h
      refine AWc.exit ?_
      refine inBlk_eq ?_
      refine AWc.seq ?_
      refine AWc.rg hmix rfl rfl ?_
      refine RegV.p0 rfl rfl rfl ?_
      refine RegV.nil0 ?_
      have hr := Option.some.inj h
      subst hr
      exact AWc.ret (canQ (N := 29) (k := 2) (l' := [(6, (.d (.bool true)))]) (H' := [(0, (.cells [(.d (.int .i64 y31_2))])), (1, (.cells [(.d (.int .i64 a3))]))]) rfl ⟨rfl, [], [], rfl, rfl, ⟨⟨_, rfl, (.refl _)⟩, rfl, trivial⟩, ⟨⟨_, rfl, (.refl _)⟩, rfl, rfl, ⟨⟨_, rfl, (.refl _)⟩, rfl, rfl, trivial⟩⟩⟩ (doneA (.inr rfl) rfl ⟨trivial, trivial⟩ (.refl _) (hasCons rfl (hasCons rfl hasNil))))
def f477v3 : Nat → TJson → Int → Int → Int → Option (Bool × Int)
  | 0, _, _, _, _ => none
  | k + 1, a0, a1, a2, a3 => f477v3_s (f477v3 k) k a0 a1 a2 a3
theorem F477v3 {P : Program} {N : Nat → Nat} (hmix : P.follows .mixedOrders = true) (hc : HC477v3 P N) {k : Nat} {a0 : TJson} {a1 : Int} {a2 : Int} {a3 : Int} {r : (Bool × Int)} (h : f477v3 k a0 a1 a2 a3 = some r) :
    ACalls P (N 477) [(.d (TJson.enc a0)), (.d (.int .i64 a1)), (.fn (N 482) [(.ptr 0 0), (.ptr 1 0)])] [(0, (.cells [(.d (.int .i64 a2))])), (1, (.cells [(.d (.int .i64 a3))]))] (.d (.bool r.1)) [(0, (.cells [(.d (.int .i64 r.2))])), (1, (.cells [(.d (.int .i64 a3))]))] := by
  induction k generalizing a0 a1 a2 a3 r with
  | zero => exact absurd (show (none : Option _) = some r from h) (fun h2 => by cases h2)
  | succ k ih => exact F477v3_s hmix hc (fun _ _ _ _ _ h => ih h) h
def HC444v2 (P : Program) (N : Nat → Nat) : Prop := HasF P (N 444) (C444 N) ∧ HC477v3 P N
def f444v2 (k : Nat) (a0 : Int) (a1 : Int) (a2 : Int) (a3 : (List UInt8)) (a4 : (List (RT 4))) (a5 : (List (List UInt8))) : Option Int := (f477v3 k (TJson.mk a2 a3 a4 a5) (0 : Int) a0 a1).bind fun r5 => some r5.2
theorem F444v2 {P : Program} {N : Nat → Nat} (hmix : P.follows .mixedOrders = true) (hc : HC444v2 P N) {k : Nat} {a0 : Int} {a1 : Int} {a2 : Int} {a3 : (List UInt8)} {a4 : (List (RT 4))} {a5 : (List (List UInt8))} {r : Int} (h : f444v2 k a0 a1 a2 a3 a4 a5 = some r) :
    ACalls P (N 444) [(.fn (N 482) [(.ptr 0 0), (.ptr 1 0)]), (.ptr 2 0)] [(0, (.cells [(.d (.int .i64 a0))])), (1, (.cells [(.d (.int .i64 a1))])), (2, (.cells [(.d (.int .i64 a2)), (.d (.str a3)), (.d (.sl (List.map (rtE (z := 4)) a4))), (.d (.sl (List.map D.str a5)))]))] (.tup []) [(0, (.cells [(.d (.int .i64 r))])), (1, (.cells [(.d (.int .i64 a1))])), (2, (.cells [(.d (.int .i64 a2)), (.d (.str a3)), (.d (.sl (List.map (rtE (z := 4)) a4))), (.d (.sl (List.map D.str a5)))]))] := by
  refine acalls_canon (F := C444 N) hc.1 3 3 rfl ?_
  unfold f444v2 at h
  dsimp only [C444, startL]
  obtain ⟨r5, e5, h⟩ := bind_some h
  refine AWc.rE hmix [.call (F477v3 hmix hc.2 e5) [] 2] ?_
  have hr := Option.some.inj h
  subst hr
  exact canQ (N := 6) (k := 3) (l' := []) (H' := [(0, (.cells [(.d (.int .i64 r5.2))])), (1, (.cells [(.d (.int .i64 a1))])), (2, (.cells [(.d (.int .i64 a2)), (.d (.str a3)), (.d (.sl (List.map (rtE (z := 4)) a4))), (.d (.sl (List.map D.str a5)))]))]) rfl (inT [] []) (doneA (.inl rfl) rfl trivial (.refl _) (hasCons rfl (hasCons rfl (hasCons rfl hasNil))))
/-- courant/couranthelp.Stops[int,courant/api.Json] -/
def C481 (N : Nat → Nat) : AFunc := { n := 16, params := 2, res := [.tmp 4], body :=
 (.seq (.region false [⟨(some 3), .box (.t 1), none, []⟩,
   ⟨(some 4), .mv (.k (.d (.int .i64 0))), none, []⟩])
  (.seq (.region false [⟨(some 5), .alloc [(.int .i64 0)], none, []⟩,
    ⟨none, .store (.t 5) (.k (.d (.int .i64 0))) 1, none, [0]⟩])
   (.seq (.seq (.region false [⟨(some 6), .mv (.t 0), none, []⟩,
      ⟨(some 7), .nileq 2 false (.t 6) (.k (.d .nilf)), none, [0]⟩,
      ⟨(some 8), .mv (.t 7), none, [1]⟩,
      ⟨(some 9), .load (.t 3) 1 false, (some (8, false)), [2]⟩,
      ⟨(some 10), .bin .lss (.t 9) (.k (.d (.int .i64 1))), (some (8, false)), [3, 2]⟩,
      ⟨(some 11), .pick (.t 8) (.k (.d (.bool true))) (.t 10), none, [2, 4]⟩])
     (.cond (.t 11) (.seq (.region false [⟨(some 4), .mv (.k (.d (.int .i64 0))), none, []⟩])
       .ret)
      (.skip)))
    (.seq (.region false [⟨(some 12), .mv (.t 0), none, []⟩,
      ⟨(some 13), .mkfn (N 482) [(.t 5), (.t 3)], none, []⟩,
      ⟨(some 14), .call (.t 12) [(.t 13)], none, [0, 1]⟩])
     (.seq (.region false [⟨(some 15), .load (.t 5) 1 false, none, []⟩,
       ⟨(some 4), .mv (.t 15), none, [0]⟩])
      .ret))))) }
def HC481 (P : Program) (N : Nat → Nat) : Prop := HasF P (N 481) (C481 N) ∧ HC444v2 P N
def f481 (k : Nat) (a0 : Int) (a1 : (List UInt8)) (a2 : (List (RT 4))) (a3 : (List (List UInt8))) (a4 : Int) : Option Int := cond (decide (a4 < (1 : Int))) (some (0 : Int)) ((f444v2 k (0 : Int) a4 a0 a1 a2 a3).bind fun r33 => some r33)
theorem F481 {P : Program} {N : Nat → Nat} (hmix : P.follows .mixedOrders = true) (hc : HC481 P N) {k : Nat} {a0 : Int} {a1 : (List UInt8)} {a2 : (List (RT 4))} {a3 : (List (List UInt8))} {a4 : Int} {r : Int} (h : f481 k a0 a1 a2 a3 a4 = some r) :
    ACalls P (N 481) [(.fn (N 444) [(.ptr 0 0)]), (.d (.int .i64 a4))] [(0, (.cells [(.d (.int .i64 a0)), (.d (.str a1)), (.d (.sl (List.map (rtE (z := 4)) a2))), (.d (.sl (List.map D.str a3)))]))] (.d (.int .i64 r)) [(0, (.cells [(.d (.int .i64 a0)), (.d (.str a1)), (.d (.sl (List.map (rtE (z := 4)) a2))), (.d (.sl (List.map D.str a3)))]))] := by
  refine acalls_canon (F := C481 N) hc.1 1 1 rfl ?_
  unfold f481 at h
  dsimp only [C481, startL]
  refine AWc.seq ?_
  refine AWc.rE hmix [] ?_
  refine AWc.seq ?_
  refine AWc.rE hmix [] ?_
  refine AWc.seq ?_
  refine AWc.seq ?_
  refine AWc.rE hmix [.br (rfl : false = false)] ?_
  rcases cc h with ⟨c21, h⟩ | ⟨c21, h⟩
  · refine AWc.cT c21 ?_
    refine AWc.seq ?_
    refine AWc.rE hmix [] ?_
    have hr := Option.some.inj h
    subst hr
    exact AWc.ret (canQ (N := 16) (k := 1) (l' := [(4, (.d (.int .i64 (0 : Int))))]) (H' := [(0, (.cells [(.d (.int .i64 a0)), (.d (.str a1)), (.d (.sl (List.map (rtE (z := 4)) a2))), (.d (.sl (List.map D.str a3)))]))]) rfl (inT [] []) (doneA (.inr rfl) rfl ⟨trivial, trivial⟩ (.refl _) (hasCons rfl hasNil)))
  · refine AWc.cF c21 ?_
    refine AWc.skip ?_
    refine AWc.seq ?_
    obtain ⟨r33, e33, h⟩ := bind_some h
    refine AWc.rE hmix [.call (F444v2 hmix hc.2 e33) [(0, 2), (2, 0)] 3] ?_
    refine AWc.seq ?_
    refine AWc.rE hmix [] ?_
    have hr := Option.some.inj h
    subst hr
    exact AWc.ret (canQ (N := 16) (k := 1) (l' := [(4, (.d (.int .i64 r33)))]) (H' := [(0, (.cells [(.d (.int .i64 a0)), (.d (.str a1)), (.d (.sl (List.map (rtE (z := 4)) a2))), (.d (.sl (List.map D.str a3)))]))]) rfl (inT [] []) (doneA (.inr rfl) rfl ⟨trivial, trivial⟩ (.refl _) (hasCons rfl hasNil)))
/-- courant/courantlaw02.JsonWalks -/
def C415 (N : Nat → Nat) : AFunc := { n := 79, params := 2, res := [.tmp 4], body :=
 (.seq (.region false [⟨(some 2), .box (.t 0), none, []⟩,
   ⟨(some 4), .mv (.k (.d (.bool false))), none, []⟩])
  (.seq (.seq (.region false [⟨(some 14), .load (.t 2) 4 true, none, []⟩,
     ⟨(some 15), .call (.k (.d (.fn (N 408)))) [(.t 14), (.k (.d (.int .i64 2000)))], none, [0]⟩,
     ⟨(some 16), .un .not (.t 15), none, [1]⟩])
    (.cond (.t 16) (.seq (.region false [⟨(some 17), .call (.k (.d (.fn (N 395)))) [], none, []⟩,
       ⟨(some 4), .mv (.t 17), none, [0]⟩])
      .ret)
     (.skip)))
   (.seq (.region false [⟨(some 18), .load (.t 2) 4 true, none, []⟩,
     ⟨(some 19), .call (.k (.d (.fn (N 443)))) [(.t 18)], none, [0]⟩,
     ⟨(some 5), .mv (.t 19), none, [1, 0]⟩])
    (.seq (.region false [⟨(some 21), .load (.t 2) 4 true, none, []⟩,
      ⟨(some 22), .call (.k (.d (.fn (N 445)))) [(.t 21), (.k (.d (.int .i64 0)))], none, [0]⟩,
      ⟨(some 20), .mv (.t 22), none, [1]⟩,
      ⟨(some 23), .ext (.t 20) 0, none, [2]⟩,
      ⟨(some 24), .ext (.t 20) 1, none, [2]⟩,
      ⟨(some 6), .mv (.t 23), none, [3, 1, 0, 2]⟩,
      ⟨(some 7), .mv (.t 24), none, [4, 5, 0, 1, 2, 3]⟩])
     (.seq (.region false [⟨(some 25), .mv (.t 1), none, []⟩,
       ⟨(some 26), .cvi .u64 (.t 25), none, [0]⟩,
       ⟨(some 27), .mv (.t 6), none, []⟩,
       ⟨(some 28), .len (.t 27), none, [2]⟩,
       ⟨(some 29), .bin .add (.t 28) (.k (.d (.int .i64 1))), none, [3]⟩,
       ⟨(some 30), .cvi .u64 (.t 29), none, [4]⟩,
       ⟨(some 31), .bin .rem (.t 26) (.t 30), none, [1, 5]⟩,
       ⟨(some 32), .cvi .i64 (.t 31), none, [6]⟩,
       ⟨(some 33), .bin .add (.k (.d (.int .i64 1))) (.t 32), none, [7]⟩,
       ⟨(some 1), .mv (.t 33), none, [8, 0, 1, 2, 3, 4, 5, 6, 7]⟩])
      (.seq (.region false [⟨(some 35), .mv (.t 5), none, []⟩,
        ⟨(some 36), .mv (.t 6), none, []⟩,
        ⟨(some 37), .len (.t 36), none, [1]⟩,
        ⟨(some 38), .call (.k (.d (.fn (N 476)))) [(.t 35), (.t 37)], none, [0, 2]⟩,
        ⟨(some 34), .mv (.t 38), none, [3]⟩,
        ⟨(some 39), .ext (.t 34) 0, none, [4]⟩,
        ⟨(some 40), .ext (.t 34) 1, none, [4]⟩,
        ⟨(some 41), .ext (.t 34) 2, none, [4]⟩,
        ⟨(some 8), .mv (.t 39), none, [5, 3, 0, 1, 2, 4]⟩,
        ⟨(some 9), .mv (.t 40), none, [6, 8, 0, 1, 2, 3, 4, 5]⟩,
        ⟨(some 10), .mv (.t 41), none, [7, 9, 0, 1, 2, 3, 4, 5, 6, 8]⟩])
       (.seq (.seq (.region false [⟨(some 42), .call (.k (.d (.fn (N 395)))) [], none, []⟩,
          ⟨(some 43), .un .not (.t 42), none, [0]⟩,
          ⟨(some 44), .mv (.t 43), none, [1, 0]⟩,
          ⟨(some 45), .mv (.t 10), (some (44, false)), [2]⟩,
          ⟨(some 46), .un .not (.t 45), (some (44, false)), [3, 2]⟩,
          ⟨(some 47), .pick (.t 44) (.k (.d (.bool true))) (.t 46), none, [2, 4]⟩,
          ⟨(some 48), .mv (.t 47), none, [5, 2]⟩,
          ⟨(some 49), .mv (.t 6), (some (48, false)), [6]⟩,
          ⟨(some 50), .mv (.t 8), (some (48, false)), [6]⟩,
          ⟨(some 51), .call (.k (.d (.fn (N 478)))) [(.t 49), (.t 50)], (some (48, false)), [7, 8, 6]⟩,
          ⟨(some 52), .un .not (.t 51), (some (48, false)), [9, 6]⟩,
          ⟨(some 53), .pick (.t 48) (.k (.d (.bool true))) (.t 52), none, [6, 10]⟩,
          ⟨(some 54), .mv (.t 53), none, [11, 9]⟩,
          ⟨(some 55), .mv (.t 7), (some (54, false)), [12]⟩,
          ⟨(some 56), .mv (.t 9), (some (54, false)), [12]⟩,
          ⟨(some 57), .call (.k (.d (.fn (N 438)))) [(.t 55), (.t 56), (.k (.d (.fn (N 437))))], (some (54, false)), [13, 14, 12]⟩,
          ⟨(some 58), .un .not (.t 57), (some (54, false)), [15, 12]⟩,
          ⟨(some 59), .pick (.t 54) (.k (.d (.bool true))) (.t 58), none, [12, 16]⟩])
         (.cond (.t 59) (.seq (.region false [⟨(some 4), .mv (.k (.d (.bool false))), none, []⟩])
           .ret)
          (.skip)))
        (.seq (.region false [⟨(some 61), .mv (.t 5), none, []⟩,
          ⟨(some 62), .mv (.t 6), none, []⟩,
          ⟨(some 63), .len (.t 62), none, [1]⟩,
          ⟨(some 64), .call (.k (.d (.fn (N 476)))) [(.t 61), (.t 63)], none, [0, 2]⟩,
          ⟨(some 60), .mv (.t 64), none, [3]⟩,
          ⟨(some 65), .ext (.t 60) 0, none, [4]⟩,
          ⟨(some 66), .ext (.t 60) 1, none, [4]⟩,
          ⟨(some 67), .ext (.t 60) 2, none, [4]⟩,
          ⟨(some 11), .mv (.t 65), none, [5, 3, 0, 1, 2, 4]⟩,
          ⟨(some 12), .mv (.t 66), none, [6, 8, 0, 1, 2, 3, 4, 5]⟩,
          ⟨(some 13), .mv (.t 67), none, [7, 9, 0, 1, 2, 3, 4, 5, 6, 8]⟩])
         (.seq (.region false [⟨(some 68), .mv (.t 13), none, []⟩,
           ⟨(some 69), .mv (.t 68), none, [0]⟩,
           ⟨(some 70), .mv (.t 5), (some (69, true)), [1]⟩,
           ⟨(some 71), .mv (.t 1), (some (69, true)), [1]⟩,
           ⟨(some 72), .call (.k (.d (.fn (N 481)))) [(.t 70), (.t 71)], (some (69, true)), [2, 3, 1]⟩,
           ⟨(some 73), .mv (.t 1), (some (69, true)), [1]⟩,
           ⟨(some 74), .mv (.t 6), (some (69, true)), [1]⟩,
           ⟨(some 75), .len (.t 74), (some (69, true)), [6, 1]⟩,
           ⟨(some 76), .mm false [(.t 73), (.t 75)], (some (69, true)), [5, 7, 1]⟩,
           ⟨(some 77), .bin .eql (.t 72) (.t 76), (some (69, true)), [4, 8, 1]⟩,
           ⟨(some 78), .pick (.t 69) (.t 77) (.k (.d (.bool false))), none, [1, 9]⟩,
           ⟨(some 4), .mv (.t 78), none, [10, 4, 0, 1, 2, 3, 5, 6, 7, 8, 9]⟩])
          .ret))))))))) }
def HC415 (P : Program) (N : Nat → Nat) : Prop := HasF P (N 415) (C415 N) ∧ HC408 P N ∧ HC395 P N ∧ HC443 P N ∧ HC445 P N ∧ HC476 P N ∧ HC478 P N ∧ HC438 P N ∧ HC481 P N
def f415 (k : Nat) (a0 : TJson) (a1 : Int) : Option Bool := (f408 k (TJson.mk a0.fKind a0.fText a0.fL a0.fKeys) (2000 : Int)).bind fun r11 => cond (!r11) ((f395 k).bind fun r17 => some r17) ((f443 k (TJson.mk a0.fKind a0.fText a0.fL a0.fKeys)).bind fun r25 => (f445 k (TJson.mk a0.fKind a0.fText a0.fL a0.fKeys) (0 : Int)).bind fun r31 => gd ((IntKind.u64.wrap (IntKind.i64.wrap (((r31.1.length : Nat) : Int) + (1 : Int)))) ≠ 0) ((f476 k ((TJson.mk a0.fKind a0.fText a0.fL a0.fKeys).fKind) ((TJson.mk a0.fKind a0.fText a0.fL a0.fKeys).fText) ((TJson.mk a0.fKind a0.fText a0.fL a0.fKeys).fL) ((TJson.mk a0.fKind a0.fText a0.fL a0.fKeys).fKeys) ((r31.1.length : Nat) : Int)).bind fun r56 => (f395 k).bind fun r68 => cond (!r68) (some false) (cond (!r56.2.2) (some false) ((f478 k r31.1 r56.1).bind fun r77 => cond (!r77) (some false) ((f438 k r31.2 r56.2.1).bind fun r83 => cond (!r83) (some false) ((f476 k ((TJson.mk a0.fKind a0.fText a0.fL a0.fKeys).fKind) ((TJson.mk a0.fKind a0.fText a0.fL a0.fKeys).fText) ((TJson.mk a0.fKind a0.fText a0.fL a0.fKeys).fL) ((TJson.mk a0.fKind a0.fText a0.fL a0.fKeys).fKeys) ((r31.1.length : Nat) : Int)).bind fun r99 => cond r99.2.2 ((f481 k ((TJson.mk a0.fKind a0.fText a0.fL a0.fKeys).fKind) ((TJson.mk a0.fKind a0.fText a0.fL a0.fKeys).fText) ((TJson.mk a0.fKind a0.fText a0.fL a0.fKeys).fL) ((TJson.mk a0.fKind a0.fText a0.fL a0.fKeys).fKeys) (IntKind.i64.wrap ((1 : Int) + (IntKind.i64.wrap (Int.tmod (IntKind.u64.wrap a1) (IntKind.u64.wrap (IntKind.i64.wrap (((r31.1.length : Nat) : Int) + (1 : Int))))))))).bind fun r114 => some (decide (r114 = (min (IntKind.i64.wrap ((1 : Int) + (IntKind.i64.wrap (Int.tmod (IntKind.u64.wrap a1) (IntKind.u64.wrap (IntKind.i64.wrap (((r31.1.length : Nat) : Int) + (1 : Int)))))))) ((r31.1.length : Nat) : Int))))) (some false)))))))
theorem F415 {P : Program} {N : Nat → Nat} (hmix : P.follows .mixedOrders = true) (hc : HC415 P N) {k : Nat} {a0 : TJson} {a1 : Int} {r : Bool} (h : f415 k a0 a1 = some r) :
    ACalls P (N 415) [(.d (TJson.enc a0)), (.d (.int .i64 a1))] [] (.d (.bool r)) [] := by
  refine acalls_canon (F := C415 N) hc.1 0 0 rfl ?_
  unfold f415 at h
  dsimp only [C415, startL]
  refine AWc.seq ?_
  refine AWc.rE hmix [] ?_
  refine AWc.seq ?_
  refine AWc.seq ?_
  obtain ⟨r11, e11, h⟩ := bind_some h
  refine AWc.rE hmix [.call (F408 hmix hc.2.1 e11) [] 0] ?_
  rcases cc h with ⟨c13, h⟩ | ⟨c13, h⟩
  · refine AWc.cT c13 ?_
    refine AWc.seq ?_
    obtain ⟨r17, e17, h⟩ := bind_some h
    refine AWc.rE hmix [.call (F395 hmix hc.2.2.1 e17) [] 0] ?_
    have hr := Option.some.inj h
    subst hr
    exact AWc.ret (canQ (N := 79) (k := 0) (l' := [(4, (.d (.bool r17)))]) (H' := []) rfl (inT [] []) (doneA (.inr rfl) rfl ⟨trivial, trivial⟩ (.refl _) hasNil))
  · refine AWc.cF c13 ?_
    refine AWc.skip ?_
    refine AWc.seq ?_
    obtain ⟨r25, e25, h⟩ := bind_some h
    refine AWc.rE hmix [.call (F443 hmix hc.2.2.2.1 e25) [(0, 1)] 1] ?_
    refine AWc.seq ?_
    obtain ⟨r31, e31, h⟩ := bind_some h
    refine AWc.rE hmix [.call (F445 hmix hc.2.2.2.2.1 e31) [(0, 2), (1, 3)] 2] ?_
    refine AWc.seq ?_
    obtain ⟨b46, h⟩ := gd_some h
    refine AWc.rE hmix [.ln (D.int .i64) r31.1, .sd b46] ?_
    refine AWc.seq ?_
    obtain ⟨r56, e56, h⟩ := bind_some h
    refine AWc.rE hmix [.ln (D.int .i64) r31.1, .call (F476 hmix hc.2.2.2.2.2.1 e56) [(0, 1), (1, 4), (2, 5)] 3] ?_
    refine AWc.seq ?_
    refine AWc.seq ?_
    obtain ⟨r68, e68, h⟩ := bind_some h
    rcases cc h with ⟨c70, h⟩ | ⟨c70, h⟩
    · refine AWc.rE hmix [.call (F395 hmix hc.2.2.1 e68) [] 0, .br c70, .br (rfl : true = true), .br (rfl : true = true)] ?_
      refine AWc.cT rfl ?_
      refine AWc.seq ?_
      refine AWc.rE hmix [] ?_
      have hr := Option.some.inj h
      subst hr
      exact AWc.ret (canQ (N := 79) (k := 0) (l' := [(4, (.d (.bool false)))]) (H' := []) rfl (inT [] []) (doneA (.inr rfl) rfl ⟨trivial, trivial⟩ (.refl _) hasNil))
    · rcases cc h with ⟨c74, h⟩ | ⟨c74, h⟩
      · refine AWc.rE hmix [.call (F395 hmix hc.2.2.1 e68) [] 0, .br c70, .br c74, .br (rfl : true = true)] ?_
        refine AWc.cT rfl ?_
        refine AWc.seq ?_
        refine AWc.rE hmix [] ?_
        have hr := Option.some.inj h
        subst hr
        exact AWc.ret (canQ (N := 79) (k := 0) (l' := [(4, (.d (.bool false)))]) (H' := []) rfl (inT [] []) (doneA (.inr rfl) rfl ⟨trivial, trivial⟩ (.refl _) hasNil))
      · obtain ⟨r77, e77, h⟩ := bind_some h
        rcases cc h with ⟨c80, h⟩ | ⟨c80, h⟩
        · refine AWc.rE hmix [.call (F395 hmix hc.2.2.1 e68) [] 0, .br c70, .br c74, .call (F478 hmix hc.2.2.2.2.2.2.1 e77) [] 0, .br c80] ?_
          refine AWc.cT rfl ?_
          refine AWc.seq ?_
          refine AWc.rE hmix [] ?_
          have hr := Option.some.inj h
          subst hr
          exact AWc.ret (canQ (N := 79) (k := 0) (l' := [(4, (.d (.bool false)))]) (H' := []) rfl (inT [] []) (doneA (.inr rfl) rfl ⟨trivial, trivial⟩ (.refl _) hasNil))
        · obtain ⟨r83, e83, h⟩ := bind_some h
          refine AWc.rE hmix [.call (F395 hmix hc.2.2.1 e68) [] 0, .br c70, .br c74, .call (F478 hmix hc.2.2.2.2.2.2.1 e77) [] 0, .br c80, .call (F438 hmix hc.2.2.2.2.2.2.2.1 e83) [] 0] ?_
          rcases cc h with ⟨c86, h⟩ | ⟨c86, h⟩
          · refine AWc.cT c86 ?_
            refine AWc.seq ?_
            refine AWc.rE hmix [] ?_
            have hr := Option.some.inj h
            subst hr
            exact AWc.ret (canQ (N := 79) (k := 0) (l' := [(4, (.d (.bool false)))]) (H' := []) rfl (inT [] []) (doneA (.inr rfl) rfl ⟨trivial, trivial⟩ (.refl _) hasNil))
          · refine AWc.cF c86 ?_
            refine AWc.skip ?_
            refine AWc.seq ?_
            obtain ⟨r99, e99, h⟩ := bind_some h
            refine AWc.rE hmix [.ln (D.int .i64) r31.1, .call (F476 hmix hc.2.2.2.2.2.1 e99) [(0, 1), (1, 6), (2, 7)] 3] ?_
            refine AWc.seq ?_
            rcases cc h with ⟨c111, h⟩ | ⟨c111, h⟩
            · obtain ⟨r114, e114, h⟩ := bind_some h
              refine AWc.rE hmix [.br c111, .cq (F481 hmix hc.2.2.2.2.2.2.2.2 e114) [(0, 1)] 1, .ln (D.int .i64) r31.1] ?_
              have hr := Option.some.inj h
              subst hr
              exact AWc.ret (canQ (N := 79) (k := 0) (l' := [(4, (.d (.bool (decide (r114 = (min (IntKind.i64.wrap ((1 : Int) + (IntKind.i64.wrap (Int.tmod (IntKind.u64.wrap a1) (IntKind.u64.wrap (IntKind.i64.wrap (((r31.1.length : Nat) : Int) + (1 : Int)))))))) ((r31.1.length : Nat) : Int)))))))]) (H' := []) rfl (inT [] []) (doneA (.inr rfl) rfl ⟨trivial, trivial⟩ (.refl _) hasNil))
            · refine AWc.rE hmix [.br c111] ?_
              have hr := Option.some.inj h
              subst hr
              exact AWc.ret (canQ (N := 79) (k := 0) (l' := [(4, (.d (.bool false)))]) (H' := []) rfl (inT [] []) (doneA (.inr rfl) rfl ⟨trivial, trivial⟩ (.refl _) hasNil))
end Go.Proofs.Abs
