/- Written by gen.py: functions of the program as Lean functions, and that the code comes to them. -/
import Derived.Test.YtojmpoboidomeaaGBatb
set_option linter.unusedVariables false
set_option linter.unusedSimpArgs false
set_option maxRecDepth 100000
set_option maxHeartbeats 4000000
namespace Go.Proofs.Abs
open Go
/-- courant/courantref01.Num -/
def C24 (N : Nat → Nat) : AFunc := { n := 20, params := 1, res := [.tmp 2], body :=
 (.seq (.region false [⟨(some 2), .mv (.k .nils), none, []⟩])
  (.seq (.region false [⟨(some 3), .mv (.k .nils), none, []⟩])
   (.seq (.block 0 (.loop (.seq (.seq (.region false [⟨(some 4), .mv (.t 0), none, []⟩,
         ⟨(some 5), .bin .geq (.t 4) (.k (.d (.int .u64 128))), none, [0]⟩])
        (.cond (.t 5) (.skip)
         (.exit 0)))
       (.block 1 (.seq (.region false [⟨(some 6), .mv (.t 3), none, []⟩,
          ⟨(some 7), .mv (.t 0), none, []⟩,
          ⟨(some 8), .bin .rem (.t 7) (.k (.d (.int .u64 128))), none, [1]⟩,
          ⟨(some 9), .cvi .u8 (.t 8), none, [2]⟩,
          ⟨(some 10), .bin .add (.t 9) (.k (.d (.int .u8 128))), none, [3]⟩,
          ⟨(some 11), .bslice 1 1 [(.int .u8 0)] [(0, (.t 10))], none, [4]⟩,
          ⟨(some 12), .app (.t 6) (.t 11) 1 1 [(.int .u8 0)], none, [0, 5]⟩,
          ⟨(some 3), .mv (.t 12), none, [6, 0, 1, 2, 3, 4, 5]⟩])
         (.region false [⟨(some 13), .mv (.t 0), none, []⟩,
          ⟨(some 14), .bin .quo (.t 13) (.k (.d (.int .u64 128))), none, [0]⟩,
          ⟨(some 0), .mv (.t 14), none, [1, 0]⟩]))))))
    (.seq (.region false [⟨(some 15), .mv (.t 3), none, []⟩,
      ⟨(some 16), .mv (.t 0), none, []⟩,
      ⟨(some 17), .cvi .u8 (.t 16), none, [1]⟩,
      ⟨(some 18), .bslice 1 1 [(.int .u8 0)] [(0, (.t 17))], none, [2]⟩,
      ⟨(some 19), .app (.t 15) (.t 18) 1 1 [(.int .u8 0)], none, [0, 3]⟩,
      ⟨(some 2), .mv (.t 19), none, [4, 0, 1, 2, 3]⟩])
     .ret)))) }
def HC24 (P : Program) (N : Nat → Nat) : Prop := HasF P (N 24) (C24 N)
def f24_l10 : Nat → Int → (List UInt8) → Option (LR2 (Int × (List UInt8)) Unit (List UInt8))
  | 0, _, _ => none
  | k + 1, y10_1, y10_2 => cond (decide (y10_1 ≥ (128 : Int))) (gd ((y10_2.length + ([(u8 (IntKind.u8.wrap ((IntKind.u8.wrap (Int.tmod y10_1 (128 : Int))) + (128 : Int))))] : List UInt8).length) * 2 * 1 ≤ 281474976710656) (f24_l10 k (IntKind.u64.wrap (Int.tdiv y10_1 (128 : Int))) (y10_2 ++ ([(u8 (IntKind.u8.wrap ((IntKind.u8.wrap (Int.tmod y10_1 (128 : Int))) + (128 : Int))))] : List UInt8)))) (some (.b0 (y10_1, y10_2)))
def f24 (k : Nat) (a0 : Int) : Option (List UInt8) := (f24_l10 k a0 ([] : List UInt8)).bind fun o10 => match o10 with | .b0 (x10_1, x10_2) => gd ((x10_2.length + ([(u8 (IntKind.u8.wrap x10_1))] : List UInt8).length) * 2 * 1 ≤ 281474976710656) (some (x10_2 ++ ([(u8 (IntKind.u8.wrap x10_1))] : List UInt8))) | _ => none
theorem F24 {P : Program} {N : Nat → Nat} (hmix : P.follows .mixedOrders = true) (hc : HC24 P N) {k : Nat} {a0 : Int} {r : (List UInt8)} (h : f24 k a0 = some r) :
    ACalls P (N 24) [(.d (.int .u64 a0))] [] (.ap 0 1 (List.map byteD r)) [(0, (.tok ((List.map byteD r).length * 1)))] := by
  refine acalls_canon (F := C24 N) hc 0 1 rfl ?_
  unfold f24 at h
  dsimp only [C24, startL]
  refine AWc.seq ?_
  refine AWc.rg hmix rfl rfl ?_
  refine RegV.p0 rfl rfl rfl ?_
  refine RegV.nil0 ?_
  refine AWc.seq ?_
  refine AWc.rg hmix rfl rfl ?_
  refine RegV.p0 rfl rfl rfl ?_
  refine RegV.nil0 ?_
  obtain ⟨o10, h10, h⟩ := bind_some h
  refine AWc.seqS (N := 20) 1 (fun (z : (Int × (List UInt8))) => [(0, (.d (.int .u64 z.1))), (3, (.ap 0 1 (List.map byteD z.2)))]) (fun z => [(0, (.tok ((List.map byteD z.2).length * 1)))]) (fun z => o10 = .b0 z) rfl_le ?_ ?_
  · refine AWc.block ?_
    refine AWc.loopK (N := 20) 1 (fun (x : (Int × (List UInt8))) => [(0, (.d (.int .u64 x.1))), (3, (.ap 0 1 (List.map byteD x.2)))]) (fun x => [(0, (.tok ((List.map byteD x.2).length * 1)))]) (fun k x => f24_l10 k x.1 x.2 = some o10) k (a0, ([] : List UInt8)) rfl_le (fun x hx => by cases hx) h10 ⟨rfl, [.tok 0], [(0, 0)], rfl, rfl, ⟨⟨_, rfl, (.refl _)⟩, rfl, ⟨⟨_, rfl, .nil⟩, rfl, trivial⟩⟩, ⟨⟨_, rfl, (.refl _)⟩, rfl, rfl, trivial⟩⟩ ?_
    clear h10
    intro k
    rintro ⟨y10_1, y10_2⟩ h10
    dsimp only at h10 ⊢
    rw [f24_l10] at h10
    refine AWc.seq ?_
    refine AWc.seq ?_
    refine AWc.rg hmix rfl rfl ?_
    refine RegV.p0 rfl rfl rfl ?_
    refine RegV.p0 (v := (.d (.bool (decide (y10_1 ≥ (128 : Int)))))) rfl rfl rfl ?_
    refine RegV.nil0 ?_
    refine AWc.cond rfl (fun c18 => ?_) (fun c18 => ?_)
    · have h10 := cond_pos c18 h10
      refine AWc.skip ?_
      refine AWc.block ?_
      refine AWc.seq ?_
      refine AWc.rg hmix rfl rfl ?_
      refine RegV.p0 rfl rfl rfl ?_
      refine RegV.p0 rfl rfl rfl ?_
      refine RegV.p1 (v := (.d (.int .u64 (Int.tmod y10_1 (128 : Int))))) rfl rfl (by decide) rfl rfl ?_
      refine RegV.p0 (v := (.d (.int .u8 (IntKind.u8.wrap (Int.tmod y10_1 (128 : Int)))))) rfl rfl rfl ?_
      refine RegV.p0 (v := (.d (.int .u8 (IntKind.u8.wrap ((IntKind.u8.wrap (Int.tmod y10_1 (128 : Int))) + (128 : Int)))))) rfl rfl rfl ?_
      refine RegV.p1 (v := .d (.sl [(.int .u8 (IntKind.u8.wrap ((IntKind.u8.wrap (Int.tmod y10_1 (128 : Int))) + (128 : Int))))])) (v' := (.d (.sl (List.map byteD ([(u8 (IntKind.u8.wrap ((IntKind.u8.wrap (Int.tmod y10_1 (128 : Int))) + (128 : Int))))] : List UInt8))))) (s := ([(.int .u8 0)] : List D).length = 1 ∧ 1 * 1 ≤ 16777216 ∧ ∀ d ∈ ([(.int .u8 (IntKind.u8.wrap ((IntKind.u8.wrap (Int.tmod y10_1 (128 : Int))) + (128 : Int))))] : List D), d.cells.length = 1) rfl rfl ⟨rfl, Nat.le_of_ble_eq_true rfl, by simp [D.cells]⟩ rfl (by simp only [List.map_cons, List.map_nil, byteD, ← u8_eq (u8_wrap _), ← u8_eq (u8_bits _ _ _)]) ?_
      obtain ⟨b31, h10⟩ := gd_some h10
      refine RegV.appA (xs := y10_2) (ys := ([(u8 (IntKind.u8.wrap ((IntKind.u8.wrap (Int.tmod y10_1 (128 : Int))) + (128 : Int))))] : List UInt8)) (e := byteD) (H1 := []) rfl rfl rfl rfl (fun _ => rfl) rfl rfl b31 rfl rfl rfl ?_
      refine RegV.p0 rfl rfl rfl ?_
      refine RegV.nil0 ?_
      refine AWc.rg hmix rfl rfl ?_
      refine RegV.p0 rfl rfl rfl ?_
      refine RegV.p1 (v := (.d (.int .u64 (IntKind.u64.wrap (Int.tdiv y10_1 (128 : Int)))))) rfl rfl (by decide) rfl rfl ?_
      refine RegV.p0 rfl rfl rfl ?_
      refine RegV.nil0 ?_
      exact ⟨((IntKind.u64.wrap (Int.tdiv y10_1 (128 : Int))), (y10_2 ++ ([(u8 (IntKind.u8.wrap ((IntKind.u8.wrap (Int.tmod y10_1 (128 : Int))) + (128 : Int))))] : List UInt8))), h10, ⟨rfl, [], [(0, 1)], rfl, rfl, ⟨⟨_, rfl, (.refl _)⟩, rfl, ⟨⟨_, rfl, (.refl _)⟩, rfl, trivial⟩⟩, ⟨⟨_, rfl, (.refl _)⟩, rfl, rfl, trivial⟩⟩⟩
    · have h10 := cond_neg c18 h10
      cases h10
      dsimp only at h
      refine AWc.exit ?_
      refine inBlk_eq ?_
      exact ⟨(y10_1, y10_2), rfl, ⟨rfl, [], [], rfl, rfl, ⟨⟨_, rfl, (.refl _)⟩, rfl, ⟨⟨_, rfl, (.refl _)⟩, rfl, trivial⟩⟩, ⟨⟨_, rfl, (.refl _)⟩, rfl, rfl, trivial⟩⟩⟩
  · rintro ⟨x10_1, x10_2⟩ ho
    subst ho
    dsimp only at h ⊢
    refine AWc.seq ?_
    refine AWc.rg hmix rfl rfl ?_
    refine RegV.p0 rfl rfl rfl ?_
    refine RegV.p0 rfl rfl rfl ?_
    refine RegV.p0 (v := (.d (.int .u8 (IntKind.u8.wrap x10_1)))) rfl rfl rfl ?_
    refine RegV.p1 (v := .d (.sl [(.int .u8 (IntKind.u8.wrap x10_1))])) (v' := (.d (.sl (List.map byteD ([(u8 (IntKind.u8.wrap x10_1))] : List UInt8))))) (s := ([(.int .u8 0)] : List D).length = 1 ∧ 1 * 1 ≤ 16777216 ∧ ∀ d ∈ ([(.int .u8 (IntKind.u8.wrap x10_1))] : List D), d.cells.length = 1) rfl rfl ⟨rfl, Nat.le_of_ble_eq_true rfl, by simp [D.cells]⟩ rfl (by simp only [List.map_cons, List.map_nil, byteD, ← u8_eq (u8_wrap _), ← u8_eq (u8_bits _ _ _)]) ?_
    obtain ⟨b45, h⟩ := gd_some h
    refine RegV.appA (xs := x10_2) (ys := ([(u8 (IntKind.u8.wrap x10_1))] : List UInt8)) (e := byteD) (H1 := []) rfl rfl rfl rfl (fun _ => rfl) rfl rfl b45 rfl rfl rfl ?_
    refine RegV.p0 rfl rfl rfl ?_
    refine RegV.nil0 ?_
    have hr := Option.some.inj h
    subst hr
    exact AWc.ret (canQ (N := 20) (k := 1) (l' := [(2, (.ap 0 1 (List.map byteD (x10_2 ++ ([(u8 (IntKind.u8.wrap x10_1))] : List UInt8)))))]) (H' := [(0, (.tok ((List.map byteD (x10_2 ++ ([(u8 (IntKind.u8.wrap x10_1))] : List UInt8))).length * 1)))]) rfl ⟨rfl, [], [(0, 1)], rfl, rfl, ⟨⟨_, rfl, (.refl _)⟩, rfl, trivial⟩, ⟨⟨_, rfl, (.refl _)⟩, rfl, rfl, trivial⟩⟩ (doneA (.inr rfl) rfl ⟨trivial, trivial⟩ (.refl _) (hasCons rfl hasNil)))
/-- courant/courantref01.Zig -/
def C26 (N : Nat → Nat) : AFunc := { n := 16, params := 1, res := [.tmp 2], body :=
 (.seq (.region false [⟨(some 2), .mv (.k .nils), none, []⟩])
  (.seq (.seq (.region false [⟨(some 3), .mv (.t 0), none, []⟩,
     ⟨(some 4), .bin .geq (.t 3) (.k (.d (.int .i64 0))), none, [0]⟩])
    (.cond (.t 4) (.seq (.region false [⟨(some 5), .mv (.t 0), none, []⟩,
       ⟨(some 6), .cvi .u64 (.t 5), none, [0]⟩,
       ⟨(some 7), .bin .mul (.t 6) (.k (.d (.int .u64 2))), none, [1]⟩,
       ⟨(some 8), .call (.k (.d (.fn (N 24)))) [(.t 7)], none, [2]⟩,
       ⟨(some 2), .mv (.t 8), none, [3, 0, 1, 2]⟩])
      .ret)
     (.skip)))
   (.seq (.region false [⟨(some 9), .mv (.t 0), none, []⟩,
     ⟨(some 10), .bin .add (.t 9) (.k (.d (.int .i64 1))), none, [0]⟩,
     ⟨(some 11), .un .neg (.t 10), none, [1]⟩,
     ⟨(some 12), .cvi .u64 (.t 11), none, [2]⟩,
     ⟨(some 13), .bin .mul (.t 12) (.k (.d (.int .u64 2))), none, [3]⟩,
     ⟨(some 14), .bin .add (.t 13) (.k (.d (.int .u64 1))), none, [4]⟩,
     ⟨(some 15), .call (.k (.d (.fn (N 24)))) [(.t 14)], none, [5]⟩,
     ⟨(some 2), .mv (.t 15), none, [6, 0, 1, 2, 3, 4, 5]⟩])
    .ret))) }
def HC26 (P : Program) (N : Nat → Nat) : Prop := HasF P (N 26) (C26 N) ∧ HC24 P N
def f26 (k : Nat) (a0 : Int) : Option (List UInt8) := cond (decide (a0 ≥ (0 : Int))) ((f24 k (IntKind.u64.wrap ((IntKind.u64.wrap a0) * (2 : Int)))).bind fun r18 => some r18) ((f24 k (IntKind.u64.wrap ((IntKind.u64.wrap ((IntKind.u64.wrap (IntKind.i64.wrap (0 - (IntKind.i64.wrap (a0 + (1 : Int)))))) * (2 : Int))) + (1 : Int)))).bind fun r31 => some r31)
theorem F26 {P : Program} {N : Nat → Nat} (hmix : P.follows .mixedOrders = true) (hc : HC26 P N) {k : Nat} {a0 : Int} {r : (List UInt8)} (h : f26 k a0 = some r) :
    ACalls P (N 26) [(.d (.int .i64 a0))] [] (.ap 0 1 (List.map byteD r)) [(0, (.tok ((List.map byteD r).length * 1)))] := by
  refine acalls_canon (F := C26 N) hc.1 0 1 rfl ?_
  unfold f26 at h
  dsimp only [C26, startL]
  refine AWc.seq ?_
  refine AWc.rg hmix rfl rfl ?_
  refine RegV.p0 rfl rfl rfl ?_
  refine RegV.nil0 ?_
  refine AWc.seq ?_
  refine AWc.seq ?_
  refine AWc.rg hmix rfl rfl ?_
  refine RegV.p0 rfl rfl rfl ?_
  refine RegV.p0 (v := (.d (.bool (decide (a0 ≥ (0 : Int)))))) rfl rfl rfl ?_
  refine RegV.nil0 ?_
  refine AWc.cond rfl (fun c11 => ?_) (fun c11 => ?_)
  · have h := cond_pos c11 h
    refine AWc.seq ?_
    refine AWc.rg hmix rfl rfl ?_
    refine RegV.p0 rfl rfl rfl ?_
    refine RegV.p0 (v := (.d (.int .u64 (IntKind.u64.wrap a0)))) rfl rfl rfl ?_
    refine RegV.p0 (v := (.d (.int .u64 (IntKind.u64.wrap ((IntKind.u64.wrap a0) * (2 : Int)))))) rfl rfl rfl ?_
    obtain ⟨r18, e18, h⟩ := bind_some h
    refine RegV.callS (q := false) (H' := [(0, (.tok ((List.map byteD r18).length * 1)))]) (c' := 1) (show ACalls P (N 24) [(.d (.int .u64 (IntKind.u64.wrap ((IntKind.u64.wrap a0) * (2 : Int)))))] [] (.ap 0 1 (List.map byteD r18)) [(0, (.tok ((List.map byteD r18).length * 1)))] from ACalls.use (F24 hmix hc.2 e18) [(0, 0)] 1 rfl) rfl rfl rfl rfl (.cons (.refl _) .nil) (.refl _) (fun h => by cases h) rfl hasNil rfl rfl rfl rfl ?_
    refine RegV.p0 rfl rfl rfl ?_
    refine RegV.nil0 ?_
    have hr := Option.some.inj h
    subst hr
    exact AWc.ret (canQ (N := 16) (k := 1) (l' := [(2, (.ap 0 1 (List.map byteD r18)))]) (H' := [(0, (.tok ((List.map byteD r18).length * 1)))]) rfl ⟨rfl, [], [], rfl, rfl, ⟨⟨_, rfl, (.refl _)⟩, rfl, trivial⟩, ⟨⟨_, rfl, (.refl _)⟩, rfl, rfl, trivial⟩⟩ (doneA (.inr rfl) rfl ⟨trivial, trivial⟩ (.refl _) (hasCons rfl hasNil)))
  · have h := cond_neg c11 h
    refine AWc.skip ?_
    refine AWc.seq ?_
    refine AWc.rg hmix rfl rfl ?_
    refine RegV.p0 rfl rfl rfl ?_
    refine RegV.p0 (v := (.d (.int .i64 (IntKind.i64.wrap (a0 + (1 : Int)))))) rfl rfl rfl ?_
    refine RegV.p0 (v := (.d (.int .i64 (IntKind.i64.wrap (0 - (IntKind.i64.wrap (a0 + (1 : Int)))))))) rfl rfl rfl ?_
    refine RegV.p0 (v := (.d (.int .u64 (IntKind.u64.wrap (IntKind.i64.wrap (0 - (IntKind.i64.wrap (a0 + (1 : Int))))))))) rfl rfl rfl ?_
    refine RegV.p0 (v := (.d (.int .u64 (IntKind.u64.wrap ((IntKind.u64.wrap (IntKind.i64.wrap (0 - (IntKind.i64.wrap (a0 + (1 : Int)))))) * (2 : Int)))))) rfl rfl rfl ?_
    refine RegV.p0 (v := (.d (.int .u64 (IntKind.u64.wrap ((IntKind.u64.wrap ((IntKind.u64.wrap (IntKind.i64.wrap (0 - (IntKind.i64.wrap (a0 + (1 : Int)))))) * (2 : Int))) + (1 : Int)))))) rfl rfl rfl ?_
    obtain ⟨r31, e31, h⟩ := bind_some h
    refine RegV.callS (q := false) (H' := [(0, (.tok ((List.map byteD r31).length * 1)))]) (c' := 1) (show ACalls P (N 24) [(.d (.int .u64 (IntKind.u64.wrap ((IntKind.u64.wrap ((IntKind.u64.wrap (IntKind.i64.wrap (0 - (IntKind.i64.wrap (a0 + (1 : Int)))))) * (2 : Int))) + (1 : Int)))))] [] (.ap 0 1 (List.map byteD r31)) [(0, (.tok ((List.map byteD r31).length * 1)))] from ACalls.use (F24 hmix hc.2 e31) [(0, 0)] 1 rfl) rfl rfl rfl rfl (.cons (.refl _) .nil) (.refl _) (fun h => by cases h) rfl hasNil rfl rfl rfl rfl ?_
    refine RegV.p0 rfl rfl rfl ?_
    refine RegV.nil0 ?_
    have hr := Option.some.inj h
    subst hr
    exact AWc.ret (canQ (N := 16) (k := 1) (l' := [(2, (.ap 0 1 (List.map byteD r31)))]) (H' := [(0, (.tok ((List.map byteD r31).length * 1)))]) rfl ⟨rfl, [], [], rfl, rfl, ⟨⟨_, rfl, (.refl _)⟩, rfl, trivial⟩, ⟨⟨_, rfl, (.refl _)⟩, rfl, rfl, trivial⟩⟩ (doneA (.inr rfl) rfl ⟨trivial, trivial⟩ (.refl _) (hasCons rfl hasNil)))
/-- courant/courantref01.Text -/
def C28 (N : Nat → Nat) : AFunc := { n := 8, params := 1, res := [.tmp 2], body :=
 (.seq (.region false [⟨(some 2), .mv (.k .nils), none, []⟩])
  (.seq (.region false [⟨(some 3), .mv (.t 0), none, []⟩,
    ⟨(some 4), .len (.t 3), none, [0]⟩,
    ⟨(some 5), .call (.k (.d (.fn (N 26)))) [(.t 4)], none, [1]⟩,
    ⟨(some 6), .mv (.t 0), none, []⟩,
    ⟨(some 7), .app (.t 5) (.t 6) 1 1 [(.int .u8 0)], none, [2, 3]⟩,
    ⟨(some 2), .mv (.t 7), none, [4, 0, 1, 2, 3]⟩])
   .ret)) }
def HC28 (P : Program) (N : Nat → Nat) : Prop := HasF P (N 28) (C28 N) ∧ HC26 P N
def f28 (k : Nat) (a0 : (List UInt8)) : Option (List UInt8) := (f26 k ((a0.length : Nat) : Int)).bind fun r10 => gd ((r10.length + a0.length) * 2 * 1 ≤ 281474976710656) (some (r10 ++ a0))
theorem F28 {P : Program} {N : Nat → Nat} (hmix : P.follows .mixedOrders = true) (hc : HC28 P N) {k : Nat} {a0 : (List UInt8)} {r : (List UInt8)} (h : f28 k a0 = some r) :
    ACalls P (N 28) [(.d (.sl (List.map byteD a0)))] [] (.ap 0 1 (List.map byteD r)) [(0, (.tok ((List.map byteD r).length * 1)))] := by
  refine acalls_canon (F := C28 N) hc.1 0 1 rfl ?_
  unfold f28 at h
  dsimp only [C28, startL]
  refine AWc.seq ?_
  refine AWc.rg hmix rfl rfl ?_
  refine RegV.p0 rfl rfl rfl ?_
  refine RegV.nil0 ?_
  refine AWc.seq ?_
  refine AWc.rg hmix rfl rfl ?_
  refine RegV.p0 rfl rfl rfl ?_
  refine RegV.len (xs := a0) (e := byteD) rfl rfl rfl rfl ?_
  obtain ⟨r10, e10, h⟩ := bind_some h
  refine RegV.callS (q := false) (H' := [(0, (.tok ((List.map byteD r10).length * 1)))]) (c' := 1) (show ACalls P (N 26) [(.d (.int .i64 ((a0.length : Nat) : Int)))] [] (.ap 0 1 (List.map byteD r10)) [(0, (.tok ((List.map byteD r10).length * 1)))] from ACalls.use (F26 hmix hc.2 e10) [(0, 0)] 1 rfl) rfl rfl rfl rfl (.cons (.refl _) .nil) (.refl _) (fun h => by cases h) rfl hasNil rfl rfl rfl rfl ?_
  refine RegV.p0 rfl rfl rfl ?_
  obtain ⟨b12, h⟩ := gd_some h
  refine RegV.appA (xs := r10) (ys := a0) (e := byteD) (H1 := []) rfl rfl rfl rfl (fun _ => rfl) rfl rfl b12 rfl rfl rfl ?_
  refine RegV.p0 rfl rfl rfl ?_
  refine RegV.nil0 ?_
  have hr := Option.some.inj h
  subst hr
  exact AWc.ret (canQ (N := 8) (k := 1) (l' := [(2, (.ap 0 1 (List.map byteD (r10 ++ a0))))]) (H' := [(0, (.tok ((List.map byteD (r10 ++ a0)).length * 1)))]) rfl ⟨rfl, [], [(0, 1)], rfl, rfl, ⟨⟨_, rfl, (.refl _)⟩, rfl, trivial⟩, ⟨⟨_, rfl, (.refl _)⟩, rfl, rfl, trivial⟩⟩ (doneA (.inr rfl) rfl ⟨trivial, trivial⟩ (.refl _) (hasCons rfl hasNil)))
/-- courant/courantref24.Bytes -/
def C55 (N : Nat → Nat) : AFunc := { n := 21, params := 1, res := [.tmp 2], body :=
 (.seq (.region false [⟨(some 1), .box (.t 0), none, []⟩,
   ⟨(some 2), .mv (.k .nils), none, []⟩])
  (.seq (.region true [⟨(some 4), .faddr (.t 1) 1, none, []⟩,
    ⟨(some 5), .load (.t 4) 1 false, none, [0]⟩,
    ⟨(some 6), .call (.k (.d (.fn (N 24)))) [(.t 5)], none, [1]⟩,
    ⟨(some 7), .faddr (.t 1) 2, none, []⟩,
    ⟨(some 8), .load (.t 7) 1 false, none, [3]⟩,
    ⟨(some 9), .call (.k (.d (.fn (N 24)))) [(.t 8)], none, [4, 2]⟩,
    ⟨(some 10), .app (.t 6) (.t 9) 1 1 [(.int .u8 0)], none, [2, 5]⟩,
    ⟨(some 3), .mv (.t 10), none, [6, 0, 1, 2, 3, 4, 5]⟩])
   (.seq (.region false [⟨(some 11), .mv (.t 3), none, []⟩,
     ⟨(some 12), .faddr (.t 1) 3, none, []⟩,
     ⟨(some 13), .load (.t 12) 1 false, none, [1]⟩,
     ⟨(some 14), .call (.k (.d (.fn (N 26)))) [(.t 13)], none, [2]⟩,
     ⟨(some 15), .app (.t 11) (.t 14) 1 1 [(.int .u8 0)], none, [0, 3]⟩,
     ⟨(some 3), .mv (.t 15), none, [4, 0, 1, 2, 3]⟩])
    (.seq (.region false [⟨(some 16), .mv (.t 3), none, []⟩,
      ⟨(some 17), .faddr (.t 1) 4, none, []⟩,
      ⟨(some 18), .load (.t 17) 1 false, none, [1]⟩,
      ⟨(some 19), .call (.k (.d (.fn (N 28)))) [(.t 18)], none, [2]⟩,
      ⟨(some 20), .app (.t 16) (.t 19) 1 1 [(.int .u8 0)], none, [0, 3]⟩,
      ⟨(some 2), .mv (.t 20), none, [4, 0, 1, 2, 3]⟩])
     .ret)))) }
def HC55 (P : Program) (N : Nat → Nat) : Prop := HasF P (N 55) (C55 N) ∧ HC24 P N ∧ HC26 P N ∧ HC28 P N
def f55 (k : Nat) (a0 : TMessage) : Option (List UInt8) := (f24 k a0.fProducer).bind fun r11 => (f24 k a0.fSeq).bind fun r14 => gd ((r11.length + r14.length) * 2 * 1 ≤ 281474976710656) ((f26 k a0.fVersion).bind fun r23 => gd (((r11 ++ r14).length + r23.length) * 2 * 1 ≤ 281474976710656) ((f28 k a0.fData).bind fun r32 => gd ((((r11 ++ r14) ++ r23).length + r32.length) * 2 * 1 ≤ 281474976710656) (some (((r11 ++ r14) ++ r23) ++ r32))))
theorem F55 {P : Program} {N : Nat → Nat} (hmix : P.follows .mixedOrders = true) (hc : HC55 P N) {k : Nat} {a0 : TMessage} {r : (List UInt8)} (h : f55 k a0 = some r) :
    ACalls P (N 55) [(.d (TMessage.enc a0))] [] (.ap 0 1 (List.map byteD r)) [(0, (.tok ((List.map byteD r).length * 1)))] := by
  refine acalls_canon (F := C55 N) hc.1 0 1 rfl ?_
  unfold f55 at h
  dsimp only [C55, startL]
  refine AWc.seq ?_
  refine AWc.rg hmix rfl rfl ?_
  refine RegV.evS (own := false) (v := (.ptr 0 0)) (H' := [(0, (.cells [(.d (.int .u64 a0.fOffset)), (.d (.int .u64 a0.fProducer)), (.d (.int .u64 a0.fSeq)), (.d (.int .i64 a0.fVersion)), (.d (.sl (List.map byteD a0.fData)))]))]) (c' := 1) rfl rfl trivial rfl rfl rfl rfl rfl rfl ?_
  refine RegV.p0 rfl rfl rfl ?_
  refine RegV.nil0 ?_
  refine AWc.seq ?_
  refine AWc.rg hmix rfl rfl ?_
  refine RegV.p0 (v := (.ptr 0 1)) rfl rfl rfl ?_
  refine RegV.ld (v := (.d (.int .u64 a0.fProducer))) (H' := [(0, (.cells [(.d (.int .u64 a0.fOffset)), (.d (.int .u64 a0.fProducer)), (.d (.int .u64 a0.fSeq)), (.d (.int .i64 a0.fVersion)), (.d (.sl (List.map byteD a0.fData)))]))]) rfl rfl trivial rfl rfl rfl rfl rfl ?_
  obtain ⟨r11, e11, h⟩ := bind_some h
  refine RegV.callS (q := false) (H' := [(1, (.tok ((List.map byteD r11).length * 1))), (0, (.cells [(.d (.int .u64 a0.fOffset)), (.d (.int .u64 a0.fProducer)), (.d (.int .u64 a0.fSeq)), (.d (.int .i64 a0.fVersion)), (.d (.sl (List.map byteD a0.fData)))]))]) (c' := 2) (show ACalls P (N 24) [(.d (.int .u64 a0.fProducer))] [] (.ap 1 1 (List.map byteD r11)) [(1, (.tok ((List.map byteD r11).length * 1)))] from ACalls.use (F24 hmix hc.2.1 e11) [(0, 1)] 1 rfl) rfl rfl rfl rfl (.cons (.refl _) .nil) (.refl _) (fun h => by cases h) rfl hasNil rfl rfl rfl rfl ?_
  refine RegV.p0 (v := (.ptr 0 2)) rfl rfl rfl ?_
  refine RegV.ld (v := (.d (.int .u64 a0.fSeq))) (H' := [(0, (.cells [(.d (.int .u64 a0.fOffset)), (.d (.int .u64 a0.fProducer)), (.d (.int .u64 a0.fSeq)), (.d (.int .i64 a0.fVersion)), (.d (.sl (List.map byteD a0.fData)))])), (1, (.tok ((List.map byteD r11).length * 1)))]) rfl rfl trivial rfl rfl rfl rfl rfl ?_
  obtain ⟨r14, e14, h⟩ := bind_some h
  refine RegV.callS (q := false) (H' := [(2, (.tok ((List.map byteD r14).length * 1))), (0, (.cells [(.d (.int .u64 a0.fOffset)), (.d (.int .u64 a0.fProducer)), (.d (.int .u64 a0.fSeq)), (.d (.int .i64 a0.fVersion)), (.d (.sl (List.map byteD a0.fData)))])), (1, (.tok ((List.map byteD r11).length * 1)))]) (c' := 3) (show ACalls P (N 24) [(.d (.int .u64 a0.fSeq))] [] (.ap 2 1 (List.map byteD r14)) [(2, (.tok ((List.map byteD r14).length * 1)))] from ACalls.use (F24 hmix hc.2.1 e14) [(0, 2)] 1 rfl) rfl rfl rfl rfl (.cons (.refl _) .nil) (.refl _) (fun h => by cases h) rfl hasNil rfl rfl rfl rfl ?_
  obtain ⟨b15, h⟩ := gd_some h
  refine RegV.appA (xs := r11) (ys := r14) (e := byteD) (H1 := [(2, (.tok ((List.map byteD r14).length * 1))), (0, (.cells [(.d (.int .u64 a0.fOffset)), (.d (.int .u64 a0.fProducer)), (.d (.int .u64 a0.fSeq)), (.d (.int .i64 a0.fVersion)), (.d (.sl (List.map byteD a0.fData)))]))]) rfl rfl rfl rfl (fun _ => rfl) rfl rfl b15 rfl rfl rfl ?_
  refine RegV.p0 rfl rfl rfl ?_
  refine RegV.nil1 (by kernel_rfl) ?_
  refine AWc.seq ?_
  refine AWc.rg hmix rfl rfl ?_
  refine RegV.p0 rfl rfl rfl ?_
  refine RegV.p0 (v := (.ptr 0 3)) rfl rfl rfl ?_
  refine RegV.ld (v := (.d (.int .i64 a0.fVersion))) (H' := [(0, (.cells [(.d (.int .u64 a0.fOffset)), (.d (.int .u64 a0.fProducer)), (.d (.int .u64 a0.fSeq)), (.d (.int .i64 a0.fVersion)), (.d (.sl (List.map byteD a0.fData)))])), (3, (.tok ((List.map byteD (r11 ++ r14)).length * 1))), (2, (.tok ((List.map byteD r14).length * 1)))]) rfl rfl trivial rfl rfl rfl rfl rfl ?_
  obtain ⟨r23, e23, h⟩ := bind_some h
  refine RegV.callS (q := false) (H' := [(4, (.tok ((List.map byteD r23).length * 1))), (0, (.cells [(.d (.int .u64 a0.fOffset)), (.d (.int .u64 a0.fProducer)), (.d (.int .u64 a0.fSeq)), (.d (.int .i64 a0.fVersion)), (.d (.sl (List.map byteD a0.fData)))])), (3, (.tok ((List.map byteD (r11 ++ r14)).length * 1))), (2, (.tok ((List.map byteD r14).length * 1)))]) (c' := 5) (show ACalls P (N 26) [(.d (.int .i64 a0.fVersion))] [] (.ap 4 1 (List.map byteD r23)) [(4, (.tok ((List.map byteD r23).length * 1)))] from ACalls.use (F26 hmix hc.2.2.1 e23) [(0, 4)] 1 rfl) rfl rfl rfl rfl (.cons (.refl _) .nil) (.refl _) (fun h => by cases h) rfl hasNil rfl rfl rfl rfl ?_
  obtain ⟨b24, h⟩ := gd_some h
  refine RegV.appA (xs := (r11 ++ r14)) (ys := r23) (e := byteD) (H1 := [(4, (.tok ((List.map byteD r23).length * 1))), (0, (.cells [(.d (.int .u64 a0.fOffset)), (.d (.int .u64 a0.fProducer)), (.d (.int .u64 a0.fSeq)), (.d (.int .i64 a0.fVersion)), (.d (.sl (List.map byteD a0.fData)))])), (2, (.tok ((List.map byteD r14).length * 1)))]) rfl rfl rfl rfl (fun _ => rfl) rfl rfl b24 rfl rfl rfl ?_
  refine RegV.p0 rfl rfl rfl ?_
  refine RegV.nil0 ?_
  refine AWc.seq ?_
  refine AWc.rg hmix rfl rfl ?_
  refine RegV.p0 rfl rfl rfl ?_
  refine RegV.p0 (v := (.ptr 0 4)) rfl rfl rfl ?_
  refine RegV.ld (v := (.d (.sl (List.map byteD a0.fData)))) (H' := [(0, (.cells [(.d (.int .u64 a0.fOffset)), (.d (.int .u64 a0.fProducer)), (.d (.int .u64 a0.fSeq)), (.d (.int .i64 a0.fVersion)), (.d (.sl (List.map byteD a0.fData)))])), (5, (.tok ((List.map byteD ((r11 ++ r14) ++ r23)).length * 1))), (4, (.tok ((List.map byteD r23).length * 1))), (2, (.tok ((List.map byteD r14).length * 1)))]) rfl rfl trivial rfl rfl rfl rfl rfl ?_
  obtain ⟨r32, e32, h⟩ := bind_some h
  refine RegV.callS (q := false) (H' := [(6, (.tok ((List.map byteD r32).length * 1))), (0, (.cells [(.d (.int .u64 a0.fOffset)), (.d (.int .u64 a0.fProducer)), (.d (.int .u64 a0.fSeq)), (.d (.int .i64 a0.fVersion)), (.d (.sl (List.map byteD a0.fData)))])), (5, (.tok ((List.map byteD ((r11 ++ r14) ++ r23)).length * 1))), (4, (.tok ((List.map byteD r23).length * 1))), (2, (.tok ((List.map byteD r14).length * 1)))]) (c' := 7) (show ACalls P (N 28) [(.d (.sl (List.map byteD a0.fData)))] [] (.ap 6 1 (List.map byteD r32)) [(6, (.tok ((List.map byteD r32).length * 1)))] from ACalls.use (F28 hmix hc.2.2.2 e32) [(0, 6)] 1 rfl) rfl rfl rfl rfl (.cons (.refl _) .nil) (.refl _) (fun h => by cases h) rfl hasNil rfl rfl rfl rfl ?_
  obtain ⟨b33, h⟩ := gd_some h
  refine RegV.appA (xs := ((r11 ++ r14) ++ r23)) (ys := r32) (e := byteD) (H1 := [(6, (.tok ((List.map byteD r32).length * 1))), (0, (.cells [(.d (.int .u64 a0.fOffset)), (.d (.int .u64 a0.fProducer)), (.d (.int .u64 a0.fSeq)), (.d (.int .i64 a0.fVersion)), (.d (.sl (List.map byteD a0.fData)))])), (4, (.tok ((List.map byteD r23).length * 1))), (2, (.tok ((List.map byteD r14).length * 1)))]) rfl rfl rfl rfl (fun _ => rfl) rfl rfl b33 rfl rfl rfl ?_
  refine RegV.p0 rfl rfl rfl ?_
  refine RegV.nil0 ?_
  have hr := Option.some.inj h
  subst hr
  exact AWc.ret (canQ (N := 21) (k := 1) (l' := [(2, (.ap 0 1 (List.map byteD (((r11 ++ r14) ++ r23) ++ r32))))]) (H' := [(0, (.tok ((List.map byteD (((r11 ++ r14) ++ r23) ++ r32)).length * 1)))]) rfl ⟨rfl, [], [(0, 7)], rfl, rfl, ⟨⟨_, rfl, (.refl _)⟩, rfl, trivial⟩, ⟨⟨_, rfl, (.refl _)⟩, rfl, rfl, trivial⟩⟩ (doneA (.inr rfl) rfl ⟨trivial, trivial⟩ (.refl _) (hasCons rfl hasNil)))
/-- courant/couranthelp.Plain[byte]$1 -/
def C109 (N : Nat → Nat) : AFunc := { n := 8, params := 2, res := [.tmp 4], body :=
 (.seq (.region false [⟨(some 4), .mv (.k (.d (.bool false))), none, []⟩])
  (.seq (.region false [⟨(some 5), .mv (.t 0), none, []⟩,
    ⟨(some 6), .mv (.t 1), none, []⟩,
    ⟨(some 7), .bin .eql (.t 5) (.t 6), none, [0, 1]⟩,
    ⟨(some 4), .mv (.t 7), none, [2, 0, 1]⟩])
   .ret)) }
def HC109 (P : Program) (N : Nat → Nat) : Prop := HasF P (N 109) (C109 N)
def f109 (k : Nat) (a0 : UInt8) (a1 : UInt8) : Option Unit := some ()
theorem F109 {P : Program} {N : Nat → Nat} (hmix : P.follows .mixedOrders = true) (hc : HC109 P N) {k : Nat} {a0 : UInt8} {a1 : UInt8} {r : Unit} (h : f109 k a0 a1 = some r) :
    ACalls P (N 109) [(.d (.int .u8 ((a0.toNat : Nat) : Int))), (.d (.int .u8 ((a1.toNat : Nat) : Int)))] [] (.d (.bool (decide (((a0.toNat : Nat) : Int) = ((a1.toNat : Nat) : Int))))) [] := by
  refine acalls_canon (F := C109 N) hc 0 0 rfl ?_
  unfold f109 at h
  dsimp only [C109, startL]
  refine AWc.seq ?_
  refine AWc.rg hmix rfl rfl ?_
  refine RegV.p0 rfl rfl rfl ?_
  refine RegV.nil0 ?_
  refine AWc.seq ?_
  refine AWc.rg hmix rfl rfl ?_
  refine RegV.p0 rfl rfl rfl ?_
  refine RegV.p0 rfl rfl rfl ?_
  refine RegV.p0 (v := (.d (.bool (decide (((a0.toNat : Nat) : Int) = ((a1.toNat : Nat) : Int)))))) rfl rfl rfl ?_
  refine RegV.p0 rfl rfl rfl ?_
  refine RegV.nil0 ?_
  have hr := Option.some.inj h
  subst hr
  exact AWc.ret (canQ (N := 8) (k := 0) (l' := [(4, (.d (.bool (decide (((a0.toNat : Nat) : Int) = ((a1.toNat : Nat) : Int))))))]) (H' := []) rfl ⟨rfl, [], [], rfl, rfl, ⟨⟨_, rfl, (.refl _)⟩, rfl, trivial⟩,  trivial⟩ (doneA (.inr rfl) rfl ⟨trivial, trivial⟩ (.refl _) hasNil))
/-- courant/couranthelp.Same[byte] -/
def C108 (N : Nat → Nat) : AFunc := { n := 30, params := 3, res := [.tmp 6], body :=
 (.seq (.region false [⟨(some 6), .mv (.k (.d (.bool false))), none, []⟩])
  (.seq (.seq (.region false [⟨(some 8), .mv (.t 0), none, []⟩,
     ⟨(some 9), .len (.t 8), none, [0]⟩,
     ⟨(some 10), .mv (.t 1), none, []⟩,
     ⟨(some 11), .len (.t 10), none, [2]⟩,
     ⟨(some 12), .bin .neq (.t 9) (.t 11), none, [1, 3]⟩])
    (.cond (.t 12) (.seq (.region false [⟨(some 6), .mv (.k (.d (.bool false))), none, []⟩])
      .ret)
     (.skip)))
   (.seq (.seq (.region false [⟨(some 7), .mv (.k (.d (.int .i64 0))), none, []⟩])
     (.block 0 (.loop (.seq (.seq (.region false [⟨(some 13), .mv (.t 7), none, []⟩,
          ⟨(some 14), .mv (.t 0), none, []⟩,
          ⟨(some 15), .len (.t 14), none, [1]⟩,
          ⟨(some 16), .bin .lss (.t 13) (.t 15), none, [0, 2]⟩])
         (.cond (.t 16) (.skip)
          (.exit 0)))
        (.seq (.block 1 (.seq (.region true [⟨(some 19), .mv (.t 2), none, []⟩,
            ⟨(some 20), .mv (.t 0), none, []⟩,
            ⟨(some 21), .mv (.t 7), none, []⟩,
            ⟨(some 22), .iaddr (.t 20) (.t 21) 1, none, [1, 2]⟩,
            ⟨(some 23), .load (.t 22) 1 false, none, [3]⟩,
            ⟨(some 24), .mv (.t 1), none, []⟩,
            ⟨(some 25), .mv (.t 7), none, []⟩,
            ⟨(some 26), .iaddr (.t 24) (.t 25) 1, none, [5, 6]⟩,
            ⟨(some 27), .load (.t 26) 1 false, none, [7]⟩,
            ⟨(some 28), .call (.t 19) [(.t 23), (.t 27)], none, [0, 4, 8]⟩,
            ⟨(some 29), .un .not (.t 28), none, [9]⟩])
           (.cond (.t 29) (.seq (.region false [⟨(some 6), .mv (.k (.d (.bool false))), none, []⟩])
             .ret)
            (.skip))))
         (.region false [⟨(some 17), .mv (.t 7), none, []⟩,
          ⟨(some 18), .bin .add (.t 17) (.k (.d (.int .i64 1))), none, [0]⟩,
          ⟨(some 7), .mv (.t 18), none, [1, 0]⟩]))))))
    (.seq (.region false [⟨(some 6), .mv (.k (.d (.bool true))), none, []⟩])
     .ret)))) }
def HC108 (P : Program) (N : Nat → Nat) : Prop := HasF P (N 108) (C108 N) ∧ HC109 P N
def f108_l26 (a0 : (List UInt8)) (a1 : (List UInt8)) : Nat → Int → Option (LR2 Unit Unit Bool)
  | 0, _ => none
  | k + 1, y26_1 => cond (decide (y26_1 < ((a0.length : Nat) : Int))) (gd (0 ≤ y26_1 ∧ y26_1 < ((a0.length : Nat) : Int)) (gd (0 ≤ y26_1 ∧ y26_1 < ((a1.length : Nat) : Int)) ((f109 k (rd a0 y26_1) (rd a1 y26_1)).bind fun r53 => cond (!(decide ((((rd a0 y26_1).toNat : Nat) : Int) = (((rd a1 y26_1).toNat : Nat) : Int)))) (some (.r false)) (f108_l26 a0 a1 k (IntKind.i64.wrap (y26_1 + (1 : Int))))))) (some (.b0 ()))
def f108 (k : Nat) (a0 : (List UInt8)) (a1 : (List UInt8)) : Option Bool := cond (decide (((a0.length : Nat) : Int) ≠ ((a1.length : Nat) : Int))) (some false) ((f108_l26 a0 a1 k (0 : Int)).bind fun o26 => match o26 with | .b0 () => some true | .r x => some x | _ => none)
theorem F108 {P : Program} {N : Nat → Nat} (hmix : P.follows .mixedOrders = true) (hc : HC108 P N) {k : Nat} {a0 : (List UInt8)} {a1 : (List UInt8)} {r : Bool} (h : f108 k a0 a1 = some r) :
    ACalls P (N 108) [(.d (.sl (List.map byteD a0))), (.d (.sl (List.map byteD a1))), (.d (.fn (N 109)))] [] (.d (.bool r)) [] := by
  refine acalls_canon (F := C108 N) hc.1 0 0 rfl ?_
  unfold f108 at h
  dsimp only [C108, startL]
  refine AWc.seq ?_
  refine AWc.rg hmix rfl rfl ?_
  refine RegV.p0 rfl rfl rfl ?_
  refine RegV.nil0 ?_
  refine AWc.seq ?_
  refine AWc.seq ?_
  refine AWc.rg hmix rfl rfl ?_
  refine RegV.p0 rfl rfl rfl ?_
  refine RegV.len (xs := a0) (e := byteD) rfl rfl rfl rfl ?_
  refine RegV.p0 rfl rfl rfl ?_
  refine RegV.len (xs := a1) (e := byteD) rfl rfl rfl rfl ?_
  refine RegV.p0 (v := (.d (.bool (decide (((a0.length : Nat) : Int) ≠ ((a1.length : Nat) : Int)))))) rfl rfl rfl ?_
  refine RegV.nil0 ?_
  refine AWc.cond rfl (fun c14 => ?_) (fun c14 => ?_)
  · have h := cond_pos c14 h
    refine AWc.seq ?_
    refine AWc.rg hmix rfl rfl ?_
    refine RegV.p0 rfl rfl rfl ?_
    refine RegV.nil0 ?_
    have hr := Option.some.inj h
    subst hr
    exact AWc.ret (canQ (N := 30) (k := 0) (l' := [(6, (.d (.bool false)))]) (H' := []) rfl ⟨rfl, [], [], rfl, rfl, ⟨⟨_, rfl, (.refl _)⟩, rfl, trivial⟩,  trivial⟩ (doneA (.inr rfl) rfl ⟨trivial, trivial⟩ (.refl _) hasNil))
  · have h := cond_neg c14 h
    refine AWc.skip ?_
    refine AWc.seq ?_
    refine AWc.seq ?_
    refine AWc.rg hmix rfl rfl ?_
    refine RegV.p0 rfl rfl rfl ?_
    refine RegV.nil0 ?_
    obtain ⟨o26, h26, h⟩ := bind_some h
    refine AWc.block ?_
    refine AWc.loopK (N := 30) 0 (fun (x : Int) => [(0, (.d (.sl (List.map byteD a0)))), (1, (.d (.sl (List.map byteD a1)))), (2, (.d (.fn (N 109)))), (7, (.d (.int .i64 x)))]) (fun x => []) (fun k x => f108_l26 a0 a1 k x = some o26) k (0 : Int) rfl_le (fun x hx => by cases hx) h26 ⟨rfl, [], [], rfl, rfl, ⟨⟨_, rfl, (.refl _)⟩, rfl, ⟨⟨_, rfl, (.refl _)⟩, rfl, ⟨⟨_, rfl, (.refl _)⟩, rfl, ⟨⟨_, rfl, (.refl _)⟩, rfl, trivial⟩⟩⟩⟩,  trivial⟩ ?_
    clear h26
    intro k
    intro y26_1 h26
    rw [f108_l26] at h26
    refine AWc.seq ?_
    refine AWc.seq ?_
    refine AWc.rg hmix rfl rfl ?_
    refine RegV.p0 rfl rfl rfl ?_
    refine RegV.p0 rfl rfl rfl ?_
    refine RegV.len (xs := a0) (e := byteD) rfl rfl rfl rfl ?_
    refine RegV.p0 (v := (.d (.bool (decide (y26_1 < ((a0.length : Nat) : Int)))))) rfl rfl rfl ?_
    refine RegV.nil0 ?_
    refine AWc.cond rfl (fun c36 => ?_) (fun c36 => ?_)
    · have h26 := cond_pos c36 h26
      refine AWc.skip ?_
      refine AWc.seq ?_
      refine AWc.block ?_
      refine AWc.seq ?_
      refine AWc.rg hmix rfl rfl ?_
      refine RegV.p0 rfl rfl rfl ?_
      refine RegV.p0 rfl rfl rfl ?_
      refine RegV.p0 rfl rfl rfl ?_
      obtain ⟨b47, h26⟩ := gd_some h26
      refine RegV.iad (xs := a0) (e := byteD) rfl rfl rfl rfl (fun _ => rfl) b47 rfl ?_
      refine RegV.p0 (v := (.d (.int .u8 (((rd a0 y26_1).toNat : Nat) : Int)))) rfl rfl rfl ?_
      refine RegV.p0 rfl rfl rfl ?_
      refine RegV.p0 rfl rfl rfl ?_
      obtain ⟨b51, h26⟩ := gd_some h26
      refine RegV.iad (xs := a1) (e := byteD) rfl rfl rfl rfl (fun _ => rfl) b51 rfl ?_
      refine RegV.p0 (v := (.d (.int .u8 (((rd a1 y26_1).toNat : Nat) : Int)))) rfl rfl rfl ?_
      obtain ⟨r53, e53, h26⟩ := bind_some h26
      refine RegV.call0 (F109 hmix hc.2 e53) rfl rfl rfl rfl (.cons (.refl _) (.cons (.refl _) .nil)) rfl ?_
      refine RegV.p0 (v := (.d (.bool (!(decide ((((rd a0 y26_1).toNat : Nat) : Int) = (((rd a1 y26_1).toNat : Nat) : Int))))))) rfl rfl rfl ?_
      refine RegV.nil1 (by kernel_rfl) ?_
      refine AWc.cond rfl (fun c55 => ?_) (fun c55 => ?_)
      · have h26 := cond_pos c55 h26
        refine AWc.seq ?_
        refine AWc.rg hmix rfl rfl ?_
        refine RegV.p0 rfl rfl rfl ?_
        refine RegV.nil0 ?_
        cases h26
        dsimp only at h
        have hr := Option.some.inj h
        subst hr
        exact AWc.ret (canQ (N := 30) (k := 0) (l' := [(6, (.d (.bool false)))]) (H' := []) rfl ⟨rfl, [], [], rfl, rfl, ⟨⟨_, rfl, (.refl _)⟩, rfl, trivial⟩,  trivial⟩ (doneA (.inr rfl) rfl ⟨trivial, trivial⟩ (.refl _) hasNil))
      · have h26 := cond_neg c55 h26
        refine AWc.skip ?_
        refine AWc.rg hmix rfl rfl ?_
        refine RegV.p0 rfl rfl rfl ?_
        refine RegV.p0 (v := (.d (.int .i64 (IntKind.i64.wrap (y26_1 + (1 : Int)))))) rfl rfl rfl ?_
        refine RegV.p0 rfl rfl rfl ?_
        refine RegV.nil0 ?_
        exact ⟨(IntKind.i64.wrap (y26_1 + (1 : Int))), h26, ⟨rfl, [], [], rfl, rfl, ⟨⟨_, rfl, (.refl _)⟩, rfl, ⟨⟨_, rfl, (.refl _)⟩, rfl, ⟨⟨_, rfl, (.refl _)⟩, rfl, ⟨⟨_, rfl, (.refl _)⟩, rfl, trivial⟩⟩⟩⟩,  trivial⟩⟩
    · have h26 := cond_neg c36 h26
      cases h26
      dsimp only at h
      refine AWc.exit ?_
      refine inBlk_eq ?_
      refine AWc.seq ?_
      refine AWc.rg hmix rfl rfl ?_
      refine RegV.p0 rfl rfl rfl ?_
      refine RegV.nil0 ?_
      have hr := Option.some.inj h
      subst hr
      exact AWc.ret (canQ (N := 30) (k := 0) (l' := [(6, (.d (.bool true)))]) (H' := []) rfl ⟨rfl, [], [], rfl, rfl, ⟨⟨_, rfl, (.refl _)⟩, rfl, trivial⟩,  trivial⟩ (doneA (.inr rfl) rfl ⟨trivial, trivial⟩ (.refl _) hasNil))
/-- courant/couranthelp.Plain[byte] -/
def C83 (N : Nat → Nat) : AFunc := { n := 8, params := 2, res := [.tmp 4], body :=
 (.seq (.region false [⟨(some 4), .mv (.k (.d (.bool false))), none, []⟩])
  (.seq (.region false [⟨(some 5), .mv (.t 0), none, []⟩,
    ⟨(some 6), .mv (.t 1), none, []⟩,
    ⟨(some 7), .call (.k (.d (.fn (N 108)))) [(.t 5), (.t 6), (.k (.d (.fn (N 109))))], none, [0, 1]⟩,
    ⟨(some 4), .mv (.t 7), none, [2, 0, 1]⟩])
   .ret)) }
def HC83 (P : Program) (N : Nat → Nat) : Prop := HasF P (N 83) (C83 N) ∧ HC108 P N
def f83 (k : Nat) (a0 : (List UInt8)) (a1 : (List UInt8)) : Option Bool := (f108 k a0 a1).bind fun r10 => some r10
theorem F83 {P : Program} {N : Nat → Nat} (hmix : P.follows .mixedOrders = true) (hc : HC83 P N) {k : Nat} {a0 : (List UInt8)} {a1 : (List UInt8)} {r : Bool} (h : f83 k a0 a1 = some r) :
    ACalls P (N 83) [(.d (.sl (List.map byteD a0))), (.d (.sl (List.map byteD a1)))] [] (.d (.bool r)) [] := by
  refine acalls_canon (F := C83 N) hc.1 0 0 rfl ?_
  unfold f83 at h
  dsimp only [C83, startL]
  refine AWc.seq ?_
  refine AWc.rg hmix rfl rfl ?_
  refine RegV.p0 rfl rfl rfl ?_
  refine RegV.nil0 ?_
  refine AWc.seq ?_
  refine AWc.rg hmix rfl rfl ?_
  refine RegV.p0 rfl rfl rfl ?_
  refine RegV.p0 rfl rfl rfl ?_
  obtain ⟨r10, e10, h⟩ := bind_some h
  refine RegV.call0 (F108 hmix hc.2 e10) rfl rfl rfl rfl (.cons (.refl _) (.cons (.refl _) (.cons (.refl _) .nil))) rfl ?_
  refine RegV.p0 rfl rfl rfl ?_
  refine RegV.nil0 ?_
  have hr := Option.some.inj h
  subst hr
  exact AWc.ret (canQ (N := 8) (k := 0) (l' := [(4, (.d (.bool r10)))]) (H' := []) rfl ⟨rfl, [], [], rfl, rfl, ⟨⟨_, rfl, (.refl _)⟩, rfl, trivial⟩,  trivial⟩ (doneA (.inr rfl) rfl ⟨trivial, trivial⟩ (.refl _) hasNil))
/-- courant/couranthelp.Kept[byte] -/
def C29 (N : Nat → Nat) : AFunc := { n := 40, params := 3, res := [.tmp 6], body :=
 (.seq (.region false [⟨(some 6), .mv (.k (.d (.bool false))), none, []⟩])
  (.seq (.seq (.region false [⟨(some 9), .mv (.t 0), none, []⟩,
     ⟨(some 10), .mv (.t 1), none, []⟩,
     ⟨(some 11), .call (.k (.d (.fn (N 83)))) [(.t 9), (.t 10)], none, [0, 1]⟩,
     ⟨(some 12), .un .not (.t 11), none, [2]⟩,
     ⟨(some 13), .mv (.t 12), none, [3, 2]⟩,
     ⟨(some 14), .mv (.t 0), (some (13, false)), [4]⟩,
     ⟨(some 15), .cap (.t 14), (some (13, false)), [5, 4]⟩,
     ⟨(some 16), .mv (.t 1), (some (13, false)), [4]⟩,
     ⟨(some 17), .len (.t 16), (some (13, false)), [7, 4]⟩,
     ⟨(some 18), .bin .add (.t 17) (.k (.d (.int .i64 3))), (some (13, false)), [8, 4]⟩,
     ⟨(some 19), .bin .lss (.t 15) (.t 18), (some (13, false)), [6, 9, 4]⟩,
     ⟨(some 20), .pick (.t 13) (.k (.d (.bool true))) (.t 19), none, [4, 10]⟩])
    (.cond (.t 20) (.seq (.region false [⟨(some 6), .mv (.k (.d (.bool false))), none, []⟩])
      .ret)
     (.skip)))
   (.seq (.region false [⟨(some 21), .mv (.t 0), none, []⟩,
     ⟨(some 22), .mv (.t 1), none, []⟩,
     ⟨(some 23), .len (.t 22), none, [1]⟩,
     ⟨(some 24), .bin .add (.t 23) (.k (.d (.int .i64 3))), none, [2]⟩,
     ⟨(some 25), .slc (.t 21) none (some (.t 24)) none 1, none, [0, 3]⟩,
     ⟨(some 7), .mv (.t 25), none, [4, 0, 1, 2, 3]⟩])
    (.seq (.seq (.region false [⟨(some 26), .mv (.t 1), none, []⟩,
       ⟨(some 27), .len (.t 26), none, [0]⟩,
       ⟨(some 8), .mv (.t 27), none, [1, 0]⟩])
      (.block 0 (.loop (.seq (.seq (.region false [⟨(some 28), .mv (.t 8), none, []⟩,
           ⟨(some 29), .mv (.t 7), none, []⟩,
           ⟨(some 30), .len (.t 29), none, [1]⟩,
           ⟨(some 31), .bin .lss (.t 28) (.t 30), none, [0, 2]⟩])
          (.cond (.t 31) (.skip)
           (.exit 0)))
         (.seq (.block 1 (.seq (.region false [⟨(some 34), .mv (.t 7), none, []⟩,
             ⟨(some 35), .mv (.t 8), none, []⟩,
             ⟨(some 36), .iaddr (.t 34) (.t 35) 1, none, [0, 1]⟩,
             ⟨(some 37), .load (.t 36) 1 false, none, [2]⟩,
             ⟨(some 38), .mv (.t 2), none, []⟩,
             ⟨(some 39), .bin .neq (.t 37) (.t 38), none, [3, 4]⟩])
            (.cond (.t 39) (.seq (.region false [⟨(some 6), .mv (.k (.d (.bool false))), none, []⟩])
              .ret)
             (.skip))))
          (.region false [⟨(some 32), .mv (.t 8), none, []⟩,
           ⟨(some 33), .bin .add (.t 32) (.k (.d (.int .i64 1))), none, [0]⟩,
           ⟨(some 8), .mv (.t 33), none, [1, 0]⟩]))))))
     (.seq (.region false [⟨(some 6), .mv (.k (.d (.bool true))), none, []⟩])
      .ret))))) }
def HC29 (P : Program) (N : Nat → Nat) : Prop := HasF P (N 29) (C29 N) ∧ HC83 P N
def f29_l44 (a2 : (List UInt8)) (a0 : (List UInt8)) (a3 : UInt8) : Nat → Int → Option (LR2 Unit Unit Bool)
  | 0, _ => none
  | k + 1, y44_1 => cond (decide (y44_1 < (((List.take (((IntKind.i64.wrap (((a2.length : Nat) : Int) + (3 : Int)))).toNat) a0).length : Nat) : Int))) (gd (0 ≤ y44_1 ∧ y44_1 < (((List.take (((IntKind.i64.wrap (((a2.length : Nat) : Int) + (3 : Int)))).toNat) a0).length : Nat) : Int)) (cond (decide ((((rd (List.take (((IntKind.i64.wrap (((a2.length : Nat) : Int) + (3 : Int)))).toNat) a0) y44_1).toNat : Nat) : Int) ≠ ((a3.toNat : Nat) : Int))) (some (.r false)) (f29_l44 a2 a0 a3 k (IntKind.i64.wrap (y44_1 + (1 : Int)))))) (some (.b0 ()))
def f29 (k : Nat) (a0 : (List UInt8)) (a1 : Nat) (a2 : (List UInt8)) (a3 : UInt8) : Option Bool := (f83 k (List.take a1 a0) a2).bind fun r11 => cond (!r11) (some false) (cond (decide (((a0.length : Nat) : Int) < (IntKind.i64.wrap (((a2.length : Nat) : Int) + (3 : Int))))) (some false) (gd (0 ≤ (IntKind.i64.wrap (((a2.length : Nat) : Int) + (3 : Int))) ∧ (IntKind.i64.wrap (((a2.length : Nat) : Int) + (3 : Int))) ≤ ((a0.length : Nat) : Int)) ((f29_l44 a2 a0 a3 k ((a2.length : Nat) : Int)).bind fun o44 => match o44 with | .b0 () => some true | .r x => some x | _ => none)))
theorem F29 {P : Program} {N : Nat → Nat} (hmix : P.follows .mixedOrders = true) (hc : HC29 P N) {k : Nat} {a0 : (List UInt8)} {a1 : Nat} {a2 : (List UInt8)} {a3 : UInt8} {r : Bool} (h : f29 k a0 a1 a2 a3 = some r) :
    ACalls P (N 29) [(.win (List.map byteD a0) a1), (.d (.sl (List.map byteD a2))), (.d (.int .u8 ((a3.toNat : Nat) : Int)))] [] (.d (.bool r)) [] := by
  refine acalls_canon (F := C29 N) hc.1 0 0 rfl ?_
  unfold f29 at h
  dsimp only [C29, startL]
  refine AWc.seq ?_
  refine AWc.rg hmix rfl rfl ?_
  refine RegV.p0 rfl rfl rfl ?_
  refine RegV.nil0 ?_
  refine AWc.seq ?_
  refine AWc.seq ?_
  refine AWc.rg hmix rfl rfl ?_
  refine RegV.p0 rfl rfl rfl ?_
  refine RegV.p0 rfl rfl rfl ?_
  obtain ⟨r11, e11, h⟩ := bind_some h
  refine RegV.call0 (F83 hmix hc.2 e11) rfl rfl rfl rfl (.cons .win (.cons (.refl _) .nil)) rfl ?_
  refine RegV.p0 (v := (.d (.bool (!r11)))) rfl rfl rfl ?_
  refine RegV.p0 rfl rfl rfl ?_
  refine RegV.split (fun c13 => ?_) (fun c13 => ?_)
  · have h := cond_pos c13 h
    refine RegV.noS rfl rfl ?_
    refine RegV.noS rfl rfl ?_
    refine RegV.noS rfl rfl ?_
    refine RegV.noS rfl rfl ?_
    refine RegV.noS rfl rfl ?_
    refine RegV.noS rfl rfl ?_
    refine RegV.p0 rfl rfl rfl ?_
    refine RegV.nil0 ?_
    refine AWc.cond rfl (fun _ => ?_) (fun hc => by cases hc)
    refine AWc.seq ?_
    refine AWc.rg hmix rfl rfl ?_
    refine RegV.p0 rfl rfl rfl ?_
    refine RegV.nil0 ?_
    have hr := Option.some.inj h
    subst hr
    exact AWc.ret (canQ (N := 40) (k := 0) (l' := [(6, (.d (.bool false)))]) (H' := []) rfl ⟨rfl, [], [], rfl, rfl, ⟨⟨_, rfl, (.refl _)⟩, rfl, trivial⟩,  trivial⟩ (doneA (.inr rfl) rfl ⟨trivial, trivial⟩ (.refl _) hasNil))
  · have h := cond_neg c13 h
    refine RegV.p0 rfl rfl rfl ?_
    refine RegV.capW (ys := a0) (e := byteD) rfl rfl rfl ?_
    refine RegV.p0 rfl rfl rfl ?_
    refine RegV.len (xs := a2) (e := byteD) rfl rfl rfl rfl ?_
    refine RegV.p0 (v := (.d (.int .i64 (IntKind.i64.wrap (((a2.length : Nat) : Int) + (3 : Int)))))) rfl rfl rfl ?_
    refine RegV.p0 (v := (.d (.bool (decide (((a0.length : Nat) : Int) < (IntKind.i64.wrap (((a2.length : Nat) : Int) + (3 : Int)))))))) rfl rfl rfl ?_
    refine RegV.p0 rfl rfl rfl ?_
    refine RegV.nil0 ?_
    refine AWc.cond rfl (fun c21 => ?_) (fun c21 => ?_)
    · have h := cond_pos c21 h
      refine AWc.seq ?_
      refine AWc.rg hmix rfl rfl ?_
      refine RegV.p0 rfl rfl rfl ?_
      refine RegV.nil0 ?_
      have hr := Option.some.inj h
      subst hr
      exact AWc.ret (canQ (N := 40) (k := 0) (l' := [(6, (.d (.bool false)))]) (H' := []) rfl ⟨rfl, [], [], rfl, rfl, ⟨⟨_, rfl, (.refl _)⟩, rfl, trivial⟩,  trivial⟩ (doneA (.inr rfl) rfl ⟨trivial, trivial⟩ (.refl _) hasNil))
    · have h := cond_neg c21 h
      refine AWc.skip ?_
      refine AWc.seq ?_
      refine AWc.rg hmix rfl rfl ?_
      refine RegV.p0 rfl rfl rfl ?_
      refine RegV.p0 rfl rfl rfl ?_
      refine RegV.len (xs := a2) (e := byteD) rfl rfl rfl rfl ?_
      refine RegV.p0 (v := (.d (.int .i64 (IntKind.i64.wrap (((a2.length : Nat) : Int) + (3 : Int)))))) rfl rfl rfl ?_
      obtain ⟨b35, h⟩ := gd_some h
      refine RegV.slW (ys := a0) (e := byteD) (hi := (IntKind.i64.wrap (((a2.length : Nat) : Int) + (3 : Int)))) rfl rfl rfl b35 rfl ?_
      refine RegV.p0 rfl rfl rfl ?_
      refine RegV.nil0 ?_
      refine AWc.seq ?_
      refine AWc.seq ?_
      refine AWc.rg hmix rfl rfl ?_
      refine RegV.p0 rfl rfl rfl ?_
      refine RegV.len (xs := a2) (e := byteD) rfl rfl rfl rfl ?_
      refine RegV.p0 rfl rfl rfl ?_
      refine RegV.nil0 ?_
      obtain ⟨o44, h44, h⟩ := bind_some h
      refine AWc.block ?_
      refine AWc.loopK (N := 40) 0 (fun (x : Int) => [(2, (.d (.int .u8 ((a3.toNat : Nat) : Int)))), (7, (.win (List.map byteD a0) (((IntKind.i64.wrap (((a2.length : Nat) : Int) + (3 : Int)))).toNat))), (8, (.d (.int .i64 x)))]) (fun x => []) (fun k x => f29_l44 a2 a0 a3 k x = some o44) k ((a2.length : Nat) : Int) rfl_le (fun x hx => by cases hx) h44 ⟨rfl, [], [], rfl, rfl, ⟨⟨_, rfl, (.refl _)⟩, rfl, ⟨⟨_, rfl, (.refl _)⟩, rfl, ⟨⟨_, rfl, (.refl _)⟩, rfl, trivial⟩⟩⟩,  trivial⟩ ?_
      clear h44
      intro k
      intro y44_1 h44
      rw [f29_l44] at h44
      refine AWc.seq ?_
      refine AWc.seq ?_
      refine AWc.rg hmix rfl rfl ?_
      refine RegV.p0 rfl rfl rfl ?_
      refine RegV.p0 rfl rfl rfl ?_
      refine RegV.len (xs := (List.take (((IntKind.i64.wrap (((a2.length : Nat) : Int) + (3 : Int)))).toNat) a0)) (e := byteD) rfl rfl (toSlW _ _) rfl ?_
      refine RegV.p0 (v := (.d (.bool (decide (y44_1 < (((List.take (((IntKind.i64.wrap (((a2.length : Nat) : Int) + (3 : Int)))).toNat) a0).length : Nat) : Int)))))) rfl rfl rfl ?_
      refine RegV.nil0 ?_
      refine AWc.cond rfl (fun c54 => ?_) (fun c54 => ?_)
      · have h44 := cond_pos c54 h44
        refine AWc.skip ?_
        refine AWc.seq ?_
        refine AWc.block ?_
        refine AWc.seq ?_
        refine AWc.rg hmix rfl rfl ?_
        refine RegV.p0 rfl rfl rfl ?_
        refine RegV.p0 rfl rfl rfl ?_
        obtain ⟨b64, h44⟩ := gd_some h44
        refine RegV.iad (xs := (List.take (((IntKind.i64.wrap (((a2.length : Nat) : Int) + (3 : Int)))).toNat) a0)) (e := byteD) rfl rfl (toSlW _ _) rfl (fun _ => rfl) b64 rfl ?_
        refine RegV.p0 (v := (.d (.int .u8 (((rd (List.take (((IntKind.i64.wrap (((a2.length : Nat) : Int) + (3 : Int)))).toNat) a0) y44_1).toNat : Nat) : Int)))) rfl rfl rfl ?_
        refine RegV.p0 rfl rfl rfl ?_
        refine RegV.p0 (v := (.d (.bool (decide ((((rd (List.take (((IntKind.i64.wrap (((a2.length : Nat) : Int) + (3 : Int)))).toNat) a0) y44_1).toNat : Nat) : Int) ≠ ((a3.toNat : Nat) : Int)))))) rfl rfl rfl ?_
        refine RegV.nil0 ?_
        refine AWc.cond rfl (fun c68 => ?_) (fun c68 => ?_)
        · have h44 := cond_pos c68 h44
          refine AWc.seq ?_
          refine AWc.rg hmix rfl rfl ?_
          refine RegV.p0 rfl rfl rfl ?_
          refine RegV.nil0 ?_
          cases h44
          dsimp only at h
          have hr := Option.some.inj h
          subst hr
          exact AWc.ret (canQ (N := 40) (k := 0) (l' := [(6, (.d (.bool false)))]) (H' := []) rfl ⟨rfl, [], [], rfl, rfl, ⟨⟨_, rfl, (.refl _)⟩, rfl, trivial⟩,  trivial⟩ (doneA (.inr rfl) rfl ⟨trivial, trivial⟩ (.refl _) hasNil))
        · have h44 := cond_neg c68 h44
          refine AWc.skip ?_
          refine AWc.rg hmix rfl rfl ?_
          refine RegV.p0 rfl rfl rfl ?_
          refine RegV.p0 (v := (.d (.int .i64 (IntKind.i64.wrap (y44_1 + (1 : Int)))))) rfl rfl rfl ?_
          refine RegV.p0 rfl rfl rfl ?_
          refine RegV.nil0 ?_
          exact ⟨(IntKind.i64.wrap (y44_1 + (1 : Int))), h44, ⟨rfl, [], [], rfl, rfl, ⟨⟨_, rfl, (.refl _)⟩, rfl, ⟨⟨_, rfl, (.refl _)⟩, rfl, ⟨⟨_, rfl, (.refl _)⟩, rfl, trivial⟩⟩⟩,  trivial⟩⟩
      · have h44 := cond_neg c54 h44
        cases h44
        dsimp only at h
        refine AWc.exit ?_
        refine inBlk_eq ?_
        refine AWc.seq ?_
        refine AWc.rg hmix rfl rfl ?_
        refine RegV.p0 rfl rfl rfl ?_
        refine RegV.nil0 ?_
        have hr := Option.some.inj h
        subst hr
        exact AWc.ret (canQ (N := 40) (k := 0) (l' := [(6, (.d (.bool true)))]) (H' := []) rfl ⟨rfl, [], [], rfl, rfl, ⟨⟨_, rfl, (.refl _)⟩, rfl, trivial⟩,  trivial⟩ (doneA (.inr rfl) rfl ⟨trivial, trivial⟩ (.refl _) hasNil))
/-- courant/courantlaw24.BatchBytes -/
def C11 (N : Nat → Nat) : AFunc := { n := 73, params := 3, res := [.tmp 6], body :=
 (.seq (.region false [⟨(some 3), .box (.t 0), none, []⟩,
   ⟨(some 6), .mv (.k (.d (.bool false))), none, []⟩])
  (.seq (.seq (.region false [⟨(some 14), .faddr (.t 3) 4, none, []⟩,
     ⟨(some 15), .load (.t 14) 1 false, none, [0]⟩,
     ⟨(some 16), .len (.t 15), none, [1]⟩,
     ⟨(some 17), .bin .gtr (.t 16) (.k (.d (.int .i64 5000))), none, [2]⟩,
     ⟨(some 18), .mv (.t 17), none, [3]⟩,
     ⟨(some 19), .mv (.t 2), (some (18, false)), [4]⟩,
     ⟨(some 20), .len (.t 19), (some (18, false)), [5, 4]⟩,
     ⟨(some 21), .bin .gtr (.t 20) (.k (.d (.int .i64 5000))), (some (18, false)), [6, 4]⟩,
     ⟨(some 22), .pick (.t 18) (.k (.d (.bool true))) (.t 21), none, [4, 7]⟩])
    (.cond (.t 22) (.seq (.region false [⟨(some 23), .call (.k (.d (.fn (N 33)))) [], none, []⟩,
       ⟨(some 6), .mv (.t 23), none, [0]⟩])
      .ret)
     (.skip)))
   (.seq (.region false [⟨(some 24), .faddr (.t 3) 4, none, []⟩,
     ⟨(some 25), .load (.t 24) 1 false, none, [0]⟩,
     ⟨(some 26), .call (.k (.d (.fn (N 21)))) [(.t 25), (.k (.d (.int .u8 71)))], none, [1]⟩,
     ⟨(some 27), .mv (.t 2), none, []⟩,
     ⟨(some 28), .call (.k (.d (.fn (N 21)))) [(.t 27), (.k (.d (.int .u8 71)))], none, [3, 2]⟩,
     ⟨(some 7), .mv (.t 26), none, [2, 4, 0, 1]⟩,
     ⟨(some 8), .mv (.t 28), none, [4, 5, 0, 1, 2, 3]⟩])
    (.seq (.region false [⟨(some 29), .load (.t 3) 5 true, none, []⟩,
      ⟨(some 9), .alloc [(.int .u64 0), (.int .u64 0), (.int .u64 0), (.int .i64 0), (.sl [])], none, []⟩,
      ⟨none, .store (.t 9) (.t 29) 5, none, [1, 0]⟩])
     (.seq (.region false [⟨(some 30), .mv (.t 7), none, []⟩,
       ⟨(some 31), .faddr (.t 9) 4, none, [0]⟩,
       ⟨none, .store (.t 31) (.t 30) 1, none, [1, 0]⟩])
      (.seq (.region false [⟨(some 33), .mv (.t 1), none, []⟩,
        ⟨(some 34), .mv (.t 8), none, []⟩,
        ⟨(some 35), .call (.k (.d (.fn (N 52)))) [(.t 33), (.t 34)], none, [0, 1]⟩,
        ⟨(some 32), .mv (.t 35), none, [2]⟩,
        ⟨(some 36), .ext (.t 32) 0, none, [3]⟩,
        ⟨(some 37), .ext (.t 32) 1, none, [3]⟩,
        ⟨(some 10), .alloc [(.int .u64 0), (.int .u64 0), (.int .u64 0), (.int .i64 0), (.sl [])], none, []⟩,
        ⟨none, .store (.t 10) (.t 36) 5, none, [6, 4, 2, 0, 1, 3]⟩,
        ⟨(some 11), .mv (.t 37), none, [5, 7, 0, 1, 2, 3, 4, 6]⟩])
       (.seq (.region false [⟨(some 39), .mv (.t 1), none, []⟩,
         ⟨(some 40), .mv (.t 2), none, []⟩,
         ⟨(some 41), .call (.k (.d (.fn (N 53)))) [(.t 39), (.t 40)], none, [0, 1]⟩,
         ⟨(some 38), .mv (.t 41), none, [2]⟩,
         ⟨(some 42), .ext (.t 38) 0, none, [3]⟩,
         ⟨(some 43), .ext (.t 38) 1, none, [3]⟩,
         ⟨(some 12), .alloc [(.int .u64 0), (.int .u64 0), (.int .u64 0), (.int .i64 0), (.sl [])], none, []⟩,
         ⟨none, .store (.t 12) (.t 42) 5, none, [6, 4, 2, 0, 1, 3]⟩,
         ⟨(some 13), .mv (.t 43), none, [5, 7, 0, 1, 2, 3, 4, 6]⟩])
        (.seq (.region true [⟨(some 44), .call (.k (.d (.fn (N 33)))) [], none, []⟩,
          ⟨(some 45), .mv (.t 44), none, [0]⟩,
          ⟨(some 46), .load (.t 9) 5 true, (some (45, true)), [1]⟩,
          ⟨(some 47), .call (.k (.d (.fn (N 54)))) [(.t 46)], (some (45, true)), [2, 1]⟩,
          ⟨(some 48), .load (.t 3) 5 true, (some (45, true)), [1]⟩,
          ⟨(some 49), .call (.k (.d (.fn (N 55)))) [(.t 48)], (some (45, true)), [4, 3, 1]⟩,
          ⟨(some 50), .call (.k (.d (.fn (N 22)))) [(.t 47), (.t 49)], (some (45, true)), [3, 5, 1]⟩,
          ⟨(some 51), .pick (.t 45) (.t 50) (.k (.d (.bool false))), none, [1, 6]⟩,
          ⟨(some 52), .mv (.t 51), none, [7, 6]⟩,
          ⟨(some 53), .load (.t 10) 5 true, (some (52, true)), [8]⟩,
          ⟨(some 54), .load (.t 12) 5 true, (some (52, true)), [8]⟩,
          ⟨(some 55), .call (.k (.d (.fn (N 38)))) [(.t 53), (.t 54)], (some (52, true)), [9, 10, 8]⟩,
          ⟨(some 56), .pick (.t 52) (.t 55) (.k (.d (.bool false))), none, [8, 11]⟩,
          ⟨(some 57), .mv (.t 56), none, [12, 11]⟩,
          ⟨(some 58), .mv (.t 11), (some (57, true)), [13]⟩,
          ⟨(some 59), .mv (.t 13), (some (57, true)), [13]⟩,
          ⟨(some 60), .bin .eql (.t 58) (.t 59), (some (57, true)), [14, 15, 13]⟩,
          ⟨(some 61), .pick (.t 57) (.t 60) (.k (.d (.bool false))), none, [13, 16]⟩,
          ⟨(some 62), .mv (.t 61), none, [17, 13]⟩,
          ⟨(some 63), .mv (.t 7), (some (62, true)), [18]⟩,
          ⟨(some 64), .faddr (.t 3) 4, (some (62, true)), [18]⟩,
          ⟨(some 65), .load (.t 64) 1 false, (some (62, true)), [20, 18]⟩,
          ⟨(some 66), .call (.k (.d (.fn (N 29)))) [(.t 63), (.t 65), (.k (.d (.int .u8 71)))], (some (62, true)), [19, 21, 18]⟩,
          ⟨(some 67), .pick (.t 62) (.t 66) (.k (.d (.bool false))), none, [18, 22]⟩,
          ⟨(some 68), .mv (.t 67), none, [23, 22]⟩,
          ⟨(some 69), .mv (.t 8), (some (68, true)), [24]⟩,
          ⟨(some 70), .mv (.t 2), (some (68, true)), [24]⟩,
          ⟨(some 71), .call (.k (.d (.fn (N 29)))) [(.t 69), (.t 70), (.k (.d (.int .u8 71)))], (some (68, true)), [25, 26, 24]⟩,
          ⟨(some 72), .pick (.t 68) (.t 71) (.k (.d (.bool false))), none, [24, 27]⟩,
          ⟨(some 6), .mv (.t 72), none, [28, 27, 0, 1, 2, 3, 4, 5, 6, 7, 8, 9, 10, 11, 12, 13, 14, 15, 16, 17, 18, 19, 20, 21, 22, 23, 24, 25, 26]⟩])
         .ret)))))))) }
def HC11 (P : Program) (N : Nat → Nat) : Prop := HasF P (N 11) (C11 N) ∧ HC33 P N ∧ HC21 P N ∧ HC52 P N ∧ HC53 P N ∧ HC54 P N ∧ HC55 P N ∧ HC22 P N ∧ HC38 P N ∧ HC29 P N
def f11 (k : Nat) (a0 : TMessage) (a1 : Int) (a2 : (List UInt8)) : Option Bool := cond (decide (((a0.fData.length : Nat) : Int) > (5000 : Int))) ((f33 k).bind fun r23 => some r23) (cond (decide (((a2.length : Nat) : Int) > (5000 : Int))) ((f33 k).bind fun r23 => some r23) ((f21 k a0.fData (71 : UInt8)).bind fun r32 => (f21 k a2 (71 : UInt8)).bind fun r34 => (f52 k a1 (List.take (((0 : Int)).toNat + a2.length) r34)).bind fun r54 => (f53 k a1 a2).bind fun r66 => (f33 k).bind fun r76 => cond r76 ((f54 k (TMessage.mk a0.fOffset a0.fProducer a0.fSeq a0.fVersion (List.take (((0 : Int)).toNat + a0.fData.length) r32))).bind fun r79 => (f55 k (TMessage.mk a0.fOffset a0.fProducer a0.fSeq a0.fVersion a0.fData)).bind fun r81 => (f22 k r79 r81).bind fun r82 => cond (decide (r79 = r81)) ((f38 k (TMessage.mk r54.2.1 r54.2.2.1 r54.2.2.2.1 r54.2.2.2.2.1 r54.2.2.2.2.2) (TMessage.mk r66.2.1 r66.2.2.1 r66.2.2.2.1 r66.2.2.2.2.1 r66.2.2.2.2.2)).bind fun r87 => cond r87 (cond (decide (r54.1 = r66.1)) ((f29 k r32 (((0 : Int)).toNat + a0.fData.length) a0.fData (71 : UInt8)).bind fun r98 => cond r98 ((f29 k r34 (((0 : Int)).toNat + a2.length) a2 (71 : UInt8)).bind fun r103 => some r103) (some false)) (some false)) (some false)) (some false)) (some false)))
theorem F11 {P : Program} {N : Nat → Nat} (hmix : P.follows .mixedOrders = true) (hc : HC11 P N) {k : Nat} {a0 : TMessage} {a1 : Int} {a2 : (List UInt8)} {r : Bool} (h : f11 k a0 a1 a2 = some r) :
    ACalls P (N 11) [(.d (TMessage.enc a0)), (.d (.int .u64 a1)), (.d (.sl (List.map byteD a2)))] [] (.d (.bool r)) [] := by
  refine acalls_canon (F := C11 N) hc.1 0 0 rfl ?_
  unfold f11 at h
  dsimp only [C11, startL]
  refine AWc.seq ?_
  refine AWc.rg hmix rfl rfl ?_
  refine RegV.evS (own := false) (v := (.ptr 0 0)) (H' := [(0, (.cells [(.d (.int .u64 a0.fOffset)), (.d (.int .u64 a0.fProducer)), (.d (.int .u64 a0.fSeq)), (.d (.int .i64 a0.fVersion)), (.d (.sl (List.map byteD a0.fData)))]))]) (c' := 1) rfl rfl trivial rfl rfl rfl rfl rfl rfl ?_
  refine RegV.p0 rfl rfl rfl ?_
  refine RegV.nil0 ?_
  refine AWc.seq ?_
  refine AWc.seq ?_
  refine AWc.rg hmix rfl rfl ?_
  refine RegV.p0 (v := (.ptr 0 4)) rfl rfl rfl ?_
  refine RegV.ld (v := (.d (.sl (List.map byteD a0.fData)))) (H' := [(0, (.cells [(.d (.int .u64 a0.fOffset)), (.d (.int .u64 a0.fProducer)), (.d (.int .u64 a0.fSeq)), (.d (.int .i64 a0.fVersion)), (.d (.sl (List.map byteD a0.fData)))]))]) rfl rfl trivial rfl rfl rfl rfl rfl ?_
  refine RegV.len (xs := a0.fData) (e := byteD) rfl rfl rfl rfl ?_
  refine RegV.p0 (v := (.d (.bool (decide (((a0.fData.length : Nat) : Int) > (5000 : Int)))))) rfl rfl rfl ?_
  refine RegV.p0 rfl rfl rfl ?_
  refine RegV.split (fun c14 => ?_) (fun c14 => ?_)
  · have h := cond_pos c14 h
    refine RegV.noS rfl rfl ?_
    refine RegV.noS rfl rfl ?_
    refine RegV.noS rfl rfl ?_
    refine RegV.p0 rfl rfl rfl ?_
    refine RegV.nil0 ?_
    refine AWc.cond rfl (fun _ => ?_) (fun hc => by cases hc)
    refine AWc.seq ?_
    refine AWc.rg hmix rfl rfl ?_
    obtain ⟨r23, e23, h⟩ := bind_some h
    refine RegV.call0 (F33 hmix hc.2.1 e23) rfl rfl rfl rfl .nil rfl ?_
    refine RegV.p0 rfl rfl rfl ?_
    refine RegV.nil0 ?_
    have hr := Option.some.inj h
    subst hr
    exact AWc.ret (canQ (N := 73) (k := 0) (l' := [(6, (.d (.bool r23)))]) (H' := []) rfl ⟨rfl, [], [], rfl, rfl, ⟨⟨_, rfl, (.refl _)⟩, rfl, trivial⟩,  trivial⟩ (doneA (.inr rfl) rfl ⟨trivial, trivial⟩ (.refl _) hasNil))
  · have h := cond_neg c14 h
    refine RegV.p0 rfl rfl rfl ?_
    refine RegV.len (xs := a2) (e := byteD) rfl rfl rfl rfl ?_
    refine RegV.p0 (v := (.d (.bool (decide (((a2.length : Nat) : Int) > (5000 : Int)))))) rfl rfl rfl ?_
    refine RegV.p0 rfl rfl rfl ?_
    refine RegV.nil0 ?_
    refine AWc.cond rfl (fun c19 => ?_) (fun c19 => ?_)
    · have h := cond_pos c19 h
      refine AWc.seq ?_
      refine AWc.rg hmix rfl rfl ?_
      obtain ⟨r23, e23, h⟩ := bind_some h
      refine RegV.call0 (F33 hmix hc.2.1 e23) rfl rfl rfl rfl .nil rfl ?_
      refine RegV.p0 rfl rfl rfl ?_
      refine RegV.nil0 ?_
      have hr := Option.some.inj h
      subst hr
      exact AWc.ret (canQ (N := 73) (k := 0) (l' := [(6, (.d (.bool r23)))]) (H' := []) rfl ⟨rfl, [], [], rfl, rfl, ⟨⟨_, rfl, (.refl _)⟩, rfl, trivial⟩,  trivial⟩ (doneA (.inr rfl) rfl ⟨trivial, trivial⟩ (.refl _) hasNil))
    · have h := cond_neg c19 h
      refine AWc.skip ?_
      refine AWc.seq ?_
      refine AWc.rg hmix rfl rfl ?_
      refine RegV.p0 (v := (.ptr 0 4)) rfl rfl rfl ?_
      refine RegV.ld (v := (.d (.sl (List.map byteD a0.fData)))) (H' := [(0, (.cells [(.d (.int .u64 a0.fOffset)), (.d (.int .u64 a0.fProducer)), (.d (.int .u64 a0.fSeq)), (.d (.int .i64 a0.fVersion)), (.d (.sl (List.map byteD a0.fData)))]))]) rfl rfl trivial rfl rfl rfl rfl rfl ?_
      obtain ⟨r32, e32, h⟩ := bind_some h
      refine RegV.call0 (F21 hmix hc.2.2.1 e32) rfl rfl rfl rfl (.cons (.refl _) (.cons (.refl _) .nil)) rfl ?_
      refine RegV.p0 rfl rfl rfl ?_
      obtain ⟨r34, e34, h⟩ := bind_some h
      refine RegV.call0 (F21 hmix hc.2.2.1 e34) rfl rfl rfl rfl (.cons (.refl _) (.cons (.refl _) .nil)) rfl ?_
      refine RegV.p0 rfl rfl rfl ?_
      refine RegV.p0 rfl rfl rfl ?_
      refine RegV.nil0 ?_
      refine AWc.seq ?_
      refine AWc.rg hmix rfl rfl ?_
      refine RegV.ld (v := (.d (.agg [(.int .u64 a0.fOffset), (.int .u64 a0.fProducer), (.int .u64 a0.fSeq), (.int .i64 a0.fVersion), (.sl (List.map byteD a0.fData))]))) (H' := [(0, (.cells [(.d (.int .u64 a0.fOffset)), (.d (.int .u64 a0.fProducer)), (.d (.int .u64 a0.fSeq)), (.d (.int .i64 a0.fVersion)), (.d (.sl (List.map byteD a0.fData)))]))]) rfl rfl (Nat.le_of_ble_eq_true rfl) rfl rfl rfl rfl rfl ?_
      refine RegV.evS (own := false) (v := (.ptr 1 0)) (H' := [(1, (.cells [(.d (.int .u64 (0 : Int))), (.d (.int .u64 (0 : Int))), (.d (.int .u64 (0 : Int))), (.d (.int .i64 (0 : Int))), .nils])), (0, (.cells [(.d (.int .u64 a0.fOffset)), (.d (.int .u64 a0.fProducer)), (.d (.int .u64 a0.fSeq)), (.d (.int .i64 a0.fVersion)), (.d (.sl (List.map byteD a0.fData)))]))]) (c' := 2) rfl rfl trivial rfl rfl rfl rfl rfl rfl ?_
      refine RegV.evN (own := false) (H' := [(1, (.cells [(.d (.int .u64 a0.fOffset)), (.d (.int .u64 a0.fProducer)), (.d (.int .u64 a0.fSeq)), (.d (.int .i64 a0.fVersion)), (.d (.sl (List.map byteD a0.fData)))])), (0, (.cells [(.d (.int .u64 a0.fOffset)), (.d (.int .u64 a0.fProducer)), (.d (.int .u64 a0.fSeq)), (.d (.int .i64 a0.fVersion)), (.d (.sl (List.map byteD a0.fData)))]))]) (c' := 2) rfl rfl (by exact ⟨rfl, Nat.le_of_ble_eq_true rfl, rfl⟩) rfl rfl rfl rfl ?_
      refine RegV.nil0 ?_
      refine AWc.seq ?_
      refine AWc.rg hmix rfl rfl ?_
      refine RegV.p0 rfl rfl rfl ?_
      refine RegV.p0 (v := (.ptr 1 4)) rfl rfl rfl ?_
      refine RegV.evN (own := false) (H' := [(1, (.cells [(.d (.int .u64 a0.fOffset)), (.d (.int .u64 a0.fProducer)), (.d (.int .u64 a0.fSeq)), (.d (.int .i64 a0.fVersion)), (.win (List.map byteD r32) (((0 : Int)).toNat + a0.fData.length))])), (0, (.cells [(.d (.int .u64 a0.fOffset)), (.d (.int .u64 a0.fProducer)), (.d (.int .u64 a0.fSeq)), (.d (.int .i64 a0.fVersion)), (.d (.sl (List.map byteD a0.fData)))]))]) (c' := 2) rfl rfl (by exact ⟨rfl, Nat.le_of_ble_eq_true rfl, rfl⟩) rfl rfl rfl rfl ?_
      refine RegV.nil0 ?_
      refine AWc.seq ?_
      refine AWc.rg hmix rfl rfl ?_
      refine RegV.p0 rfl rfl rfl ?_
      refine RegV.p0 rfl rfl rfl ?_
      obtain ⟨r54, e54, h⟩ := bind_some h
      refine RegV.call0 (F52 hmix hc.2.2.2.1 e54) rfl rfl rfl rfl (.cons (.refl _) (.cons .win .nil)) rfl ?_
      refine RegV.p0 rfl rfl rfl ?_
      refine RegV.p0 rfl rfl rfl ?_
      refine RegV.p0 rfl rfl rfl ?_
      refine RegV.evS (own := false) (v := (.ptr 2 0)) (H' := [(2, (.cells [(.d (.int .u64 (0 : Int))), (.d (.int .u64 (0 : Int))), (.d (.int .u64 (0 : Int))), (.d (.int .i64 (0 : Int))), .nils])), (1, (.cells [(.d (.int .u64 a0.fOffset)), (.d (.int .u64 a0.fProducer)), (.d (.int .u64 a0.fSeq)), (.d (.int .i64 a0.fVersion)), (.win (List.map byteD r32) (((0 : Int)).toNat + a0.fData.length))])), (0, (.cells [(.d (.int .u64 a0.fOffset)), (.d (.int .u64 a0.fProducer)), (.d (.int .u64 a0.fSeq)), (.d (.int .i64 a0.fVersion)), (.d (.sl (List.map byteD a0.fData)))]))]) (c' := 3) rfl rfl trivial rfl rfl rfl rfl rfl rfl ?_
      refine RegV.evN (own := false) (H' := [(2, (.cells [(.d (.int .u64 r54.2.1)), (.d (.int .u64 r54.2.2.1)), (.d (.int .u64 r54.2.2.2.1)), (.d (.int .i64 r54.2.2.2.2.1)), (.d (.sl (List.map byteD r54.2.2.2.2.2)))])), (1, (.cells [(.d (.int .u64 a0.fOffset)), (.d (.int .u64 a0.fProducer)), (.d (.int .u64 a0.fSeq)), (.d (.int .i64 a0.fVersion)), (.win (List.map byteD r32) (((0 : Int)).toNat + a0.fData.length))])), (0, (.cells [(.d (.int .u64 a0.fOffset)), (.d (.int .u64 a0.fProducer)), (.d (.int .u64 a0.fSeq)), (.d (.int .i64 a0.fVersion)), (.d (.sl (List.map byteD a0.fData)))]))]) (c' := 3) rfl rfl (by exact ⟨rfl, Nat.le_of_ble_eq_true rfl, rfl⟩) rfl rfl rfl rfl ?_
      refine RegV.p0 rfl rfl rfl ?_
      refine RegV.nil0 ?_
      refine AWc.seq ?_
      refine AWc.rg hmix rfl rfl ?_
      refine RegV.p0 rfl rfl rfl ?_
      refine RegV.p0 rfl rfl rfl ?_
      obtain ⟨r66, e66, h⟩ := bind_some h
      refine RegV.call0 (F53 hmix hc.2.2.2.2.1 e66) rfl rfl rfl rfl (.cons (.refl _) (.cons (.refl _) .nil)) rfl ?_
      refine RegV.p0 rfl rfl rfl ?_
      refine RegV.p0 rfl rfl rfl ?_
      refine RegV.p0 rfl rfl rfl ?_
      refine RegV.evS (own := false) (v := (.ptr 3 0)) (H' := [(3, (.cells [(.d (.int .u64 (0 : Int))), (.d (.int .u64 (0 : Int))), (.d (.int .u64 (0 : Int))), (.d (.int .i64 (0 : Int))), .nils])), (2, (.cells [(.d (.int .u64 r54.2.1)), (.d (.int .u64 r54.2.2.1)), (.d (.int .u64 r54.2.2.2.1)), (.d (.int .i64 r54.2.2.2.2.1)), (.d (.sl (List.map byteD r54.2.2.2.2.2)))])), (1, (.cells [(.d (.int .u64 a0.fOffset)), (.d (.int .u64 a0.fProducer)), (.d (.int .u64 a0.fSeq)), (.d (.int .i64 a0.fVersion)), (.win (List.map byteD r32) (((0 : Int)).toNat + a0.fData.length))])), (0, (.cells [(.d (.int .u64 a0.fOffset)), (.d (.int .u64 a0.fProducer)), (.d (.int .u64 a0.fSeq)), (.d (.int .i64 a0.fVersion)), (.d (.sl (List.map byteD a0.fData)))]))]) (c' := 4) rfl rfl trivial rfl rfl rfl rfl rfl rfl ?_
      refine RegV.evN (own := false) (H' := [(3, (.cells [(.d (.int .u64 r66.2.1)), (.d (.int .u64 r66.2.2.1)), (.d (.int .u64 r66.2.2.2.1)), (.d (.int .i64 r66.2.2.2.2.1)), (.d (.sl (List.map byteD r66.2.2.2.2.2)))])), (2, (.cells [(.d (.int .u64 r54.2.1)), (.d (.int .u64 r54.2.2.1)), (.d (.int .u64 r54.2.2.2.1)), (.d (.int .i64 r54.2.2.2.2.1)), (.d (.sl (List.map byteD r54.2.2.2.2.2)))])), (1, (.cells [(.d (.int .u64 a0.fOffset)), (.d (.int .u64 a0.fProducer)), (.d (.int .u64 a0.fSeq)), (.d (.int .i64 a0.fVersion)), (.win (List.map byteD r32) (((0 : Int)).toNat + a0.fData.length))])), (0, (.cells [(.d (.int .u64 a0.fOffset)), (.d (.int .u64 a0.fProducer)), (.d (.int .u64 a0.fSeq)), (.d (.int .i64 a0.fVersion)), (.d (.sl (List.map byteD a0.fData)))]))]) (c' := 4) rfl rfl (by exact ⟨rfl, Nat.le_of_ble_eq_true rfl, rfl⟩) rfl rfl rfl rfl ?_
      refine RegV.p0 rfl rfl rfl ?_
      refine RegV.nil0 ?_
      refine AWc.seq ?_
      refine AWc.rg hmix rfl rfl ?_
      obtain ⟨r76, e76, h⟩ := bind_some h
      refine RegV.call0 (F33 hmix hc.2.1 e76) rfl rfl rfl rfl .nil rfl ?_
      refine RegV.p0 rfl rfl rfl ?_
      refine RegV.split (fun c77 => ?_) (fun c77 => ?_)
      · have h := cond_pos c77 h
        refine RegV.ld (v := (.d (.agg [(.int .u64 a0.fOffset), (.int .u64 a0.fProducer), (.int .u64 a0.fSeq), (.int .i64 a0.fVersion), (.sl (List.take (((0 : Int)).toNat + a0.fData.length) (List.map byteD r32)))]))) (v' := (.d (.agg [(.int .u64 a0.fOffset), (.int .u64 a0.fProducer), (.int .u64 a0.fSeq), (.int .i64 a0.fVersion), (.sl (List.map byteD (List.take (((0 : Int)).toNat + a0.fData.length) r32)))]))) (H' := [(1, (.cells [(.d (.int .u64 a0.fOffset)), (.d (.int .u64 a0.fProducer)), (.d (.int .u64 a0.fSeq)), (.d (.int .i64 a0.fVersion)), (.win (List.map byteD r32) (((0 : Int)).toNat + a0.fData.length))])), (3, (.cells [(.d (.int .u64 r66.2.1)), (.d (.int .u64 r66.2.2.1)), (.d (.int .u64 r66.2.2.2.1)), (.d (.int .i64 r66.2.2.2.2.1)), (.d (.sl (List.map byteD r66.2.2.2.2.2)))])), (2, (.cells [(.d (.int .u64 r54.2.1)), (.d (.int .u64 r54.2.2.1)), (.d (.int .u64 r54.2.2.2.1)), (.d (.int .i64 r54.2.2.2.2.1)), (.d (.sl (List.map byteD r54.2.2.2.2.2)))])), (0, (.cells [(.d (.int .u64 a0.fOffset)), (.d (.int .u64 a0.fProducer)), (.d (.int .u64 a0.fSeq)), (.d (.int .i64 a0.fVersion)), (.d (.sl (List.map byteD a0.fData)))]))]) rfl rfl (Nat.le_of_ble_eq_true rfl) rfl (by simp only [List.map_take]) rfl rfl rfl ?_
        obtain ⟨r79, e79, h⟩ := bind_some h
        refine RegV.callS (q := false) (H' := [(4, (.tok ((List.map byteD r79).length * 1))), (1, (.cells [(.d (.int .u64 a0.fOffset)), (.d (.int .u64 a0.fProducer)), (.d (.int .u64 a0.fSeq)), (.d (.int .i64 a0.fVersion)), (.win (List.map byteD r32) (((0 : Int)).toNat + a0.fData.length))])), (3, (.cells [(.d (.int .u64 r66.2.1)), (.d (.int .u64 r66.2.2.1)), (.d (.int .u64 r66.2.2.2.1)), (.d (.int .i64 r66.2.2.2.2.1)), (.d (.sl (List.map byteD r66.2.2.2.2.2)))])), (2, (.cells [(.d (.int .u64 r54.2.1)), (.d (.int .u64 r54.2.2.1)), (.d (.int .u64 r54.2.2.2.1)), (.d (.int .i64 r54.2.2.2.2.1)), (.d (.sl (List.map byteD r54.2.2.2.2.2)))])), (0, (.cells [(.d (.int .u64 a0.fOffset)), (.d (.int .u64 a0.fProducer)), (.d (.int .u64 a0.fSeq)), (.d (.int .i64 a0.fVersion)), (.d (.sl (List.map byteD a0.fData)))]))]) (c' := 5) (show ACalls P (N 54) [(.d (TMessage.enc (TMessage.mk a0.fOffset a0.fProducer a0.fSeq a0.fVersion (List.take (((0 : Int)).toNat + a0.fData.length) r32))))] [] (.ap 4 1 (List.map byteD r79)) [(4, (.tok ((List.map byteD r79).length * 1)))] from ACalls.use (F54 hmix hc.2.2.2.2.2.1 e79) [(0, 4)] 1 rfl) rfl rfl rfl rfl (.cons (.refl _) .nil) (.refl _) (fun h => by cases h) rfl hasNil rfl rfl rfl rfl ?_
        refine RegV.ld (v := (.d (.agg [(.int .u64 a0.fOffset), (.int .u64 a0.fProducer), (.int .u64 a0.fSeq), (.int .i64 a0.fVersion), (.sl (List.map byteD a0.fData))]))) (H' := [(0, (.cells [(.d (.int .u64 a0.fOffset)), (.d (.int .u64 a0.fProducer)), (.d (.int .u64 a0.fSeq)), (.d (.int .i64 a0.fVersion)), (.d (.sl (List.map byteD a0.fData)))])), (4, (.tok ((List.map byteD r79).length * 1))), (1, (.cells [(.d (.int .u64 a0.fOffset)), (.d (.int .u64 a0.fProducer)), (.d (.int .u64 a0.fSeq)), (.d (.int .i64 a0.fVersion)), (.win (List.map byteD r32) (((0 : Int)).toNat + a0.fData.length))])), (3, (.cells [(.d (.int .u64 r66.2.1)), (.d (.int .u64 r66.2.2.1)), (.d (.int .u64 r66.2.2.2.1)), (.d (.int .i64 r66.2.2.2.2.1)), (.d (.sl (List.map byteD r66.2.2.2.2.2)))])), (2, (.cells [(.d (.int .u64 r54.2.1)), (.d (.int .u64 r54.2.2.1)), (.d (.int .u64 r54.2.2.2.1)), (.d (.int .i64 r54.2.2.2.2.1)), (.d (.sl (List.map byteD r54.2.2.2.2.2)))]))]) rfl rfl (Nat.le_of_ble_eq_true rfl) rfl rfl rfl rfl rfl ?_
        obtain ⟨r81, e81, h⟩ := bind_some h
        refine RegV.callS (q := false) (H' := [(5, (.tok ((List.map byteD r81).length * 1))), (0, (.cells [(.d (.int .u64 a0.fOffset)), (.d (.int .u64 a0.fProducer)), (.d (.int .u64 a0.fSeq)), (.d (.int .i64 a0.fVersion)), (.d (.sl (List.map byteD a0.fData)))])), (4, (.tok ((List.map byteD r79).length * 1))), (1, (.cells [(.d (.int .u64 a0.fOffset)), (.d (.int .u64 a0.fProducer)), (.d (.int .u64 a0.fSeq)), (.d (.int .i64 a0.fVersion)), (.win (List.map byteD r32) (((0 : Int)).toNat + a0.fData.length))])), (3, (.cells [(.d (.int .u64 r66.2.1)), (.d (.int .u64 r66.2.2.1)), (.d (.int .u64 r66.2.2.2.1)), (.d (.int .i64 r66.2.2.2.2.1)), (.d (.sl (List.map byteD r66.2.2.2.2.2)))])), (2, (.cells [(.d (.int .u64 r54.2.1)), (.d (.int .u64 r54.2.2.1)), (.d (.int .u64 r54.2.2.2.1)), (.d (.int .i64 r54.2.2.2.2.1)), (.d (.sl (List.map byteD r54.2.2.2.2.2)))]))]) (c' := 6) (show ACalls P (N 55) [(.d (TMessage.enc (TMessage.mk a0.fOffset a0.fProducer a0.fSeq a0.fVersion a0.fData)))] [] (.ap 5 1 (List.map byteD r81)) [(5, (.tok ((List.map byteD r81).length * 1)))] from ACalls.use (F55 hmix hc.2.2.2.2.2.2.1 e81) [(0, 5)] 1 rfl) rfl rfl rfl rfl (.cons (.refl _) .nil) (.refl _) (fun h => by cases h) rfl hasNil rfl rfl rfl rfl ?_
        obtain ⟨r82, e82, h⟩ := bind_some h
        refine RegV.call0 (F22 hmix hc.2.2.2.2.2.2.2.1 e82) rfl rfl rfl rfl (.cons (.sl rfl) (.cons (.sl rfl) .nil)) rfl ?_
        refine RegV.p0 rfl rfl rfl ?_
        refine RegV.p0 rfl rfl rfl ?_
        refine RegV.split (fun c84 => ?_) (fun c84 => ?_)
        · have h := cond_pos c84 h
          refine RegV.ld (v := (.d (.agg [(.int .u64 r54.2.1), (.int .u64 r54.2.2.1), (.int .u64 r54.2.2.2.1), (.int .i64 r54.2.2.2.2.1), (.sl (List.map byteD r54.2.2.2.2.2))]))) (H' := [(2, (.cells [(.d (.int .u64 r54.2.1)), (.d (.int .u64 r54.2.2.1)), (.d (.int .u64 r54.2.2.2.1)), (.d (.int .i64 r54.2.2.2.2.1)), (.d (.sl (List.map byteD r54.2.2.2.2.2)))])), (5, (.tok ((List.map byteD r81).length * 1))), (0, (.cells [(.d (.int .u64 a0.fOffset)), (.d (.int .u64 a0.fProducer)), (.d (.int .u64 a0.fSeq)), (.d (.int .i64 a0.fVersion)), (.d (.sl (List.map byteD a0.fData)))])), (4, (.tok ((List.map byteD r79).length * 1))), (1, (.cells [(.d (.int .u64 a0.fOffset)), (.d (.int .u64 a0.fProducer)), (.d (.int .u64 a0.fSeq)), (.d (.int .i64 a0.fVersion)), (.win (List.map byteD r32) (((0 : Int)).toNat + a0.fData.length))])), (3, (.cells [(.d (.int .u64 r66.2.1)), (.d (.int .u64 r66.2.2.1)), (.d (.int .u64 r66.2.2.2.1)), (.d (.int .i64 r66.2.2.2.2.1)), (.d (.sl (List.map byteD r66.2.2.2.2.2)))]))]) rfl rfl (Nat.le_of_ble_eq_true rfl) rfl rfl rfl rfl rfl ?_
          refine RegV.ld (v := (.d (.agg [(.int .u64 r66.2.1), (.int .u64 r66.2.2.1), (.int .u64 r66.2.2.2.1), (.int .i64 r66.2.2.2.2.1), (.sl (List.map byteD r66.2.2.2.2.2))]))) (H' := [(3, (.cells [(.d (.int .u64 r66.2.1)), (.d (.int .u64 r66.2.2.1)), (.d (.int .u64 r66.2.2.2.1)), (.d (.int .i64 r66.2.2.2.2.1)), (.d (.sl (List.map byteD r66.2.2.2.2.2)))])), (2, (.cells [(.d (.int .u64 r54.2.1)), (.d (.int .u64 r54.2.2.1)), (.d (.int .u64 r54.2.2.2.1)), (.d (.int .i64 r54.2.2.2.2.1)), (.d (.sl (List.map byteD r54.2.2.2.2.2)))])), (5, (.tok ((List.map byteD r81).length * 1))), (0, (.cells [(.d (.int .u64 a0.fOffset)), (.d (.int .u64 a0.fProducer)), (.d (.int .u64 a0.fSeq)), (.d (.int .i64 a0.fVersion)), (.d (.sl (List.map byteD a0.fData)))])), (4, (.tok ((List.map byteD r79).length * 1))), (1, (.cells [(.d (.int .u64 a0.fOffset)), (.d (.int .u64 a0.fProducer)), (.d (.int .u64 a0.fSeq)), (.d (.int .i64 a0.fVersion)), (.win (List.map byteD r32) (((0 : Int)).toNat + a0.fData.length))]))]) rfl rfl (Nat.le_of_ble_eq_true rfl) rfl rfl rfl rfl rfl ?_
          obtain ⟨r87, e87, h⟩ := bind_some h
          refine RegV.call0 (F38 hmix hc.2.2.2.2.2.2.2.2.1 e87) rfl rfl rfl rfl (.cons (.refl _) (.cons (.refl _) .nil)) rfl ?_
          refine RegV.p0 rfl rfl rfl ?_
          refine RegV.p0 rfl rfl rfl ?_
          refine RegV.split (fun c89 => ?_) (fun c89 => ?_)
          · have h := cond_pos c89 h
            refine RegV.p0 rfl rfl rfl ?_
            refine RegV.p0 rfl rfl rfl ?_
            refine RegV.p0 (v := (.d (.bool (decide (r54.1 = r66.1))))) rfl rfl rfl ?_
            refine RegV.p0 rfl rfl rfl ?_
            refine RegV.p0 rfl rfl rfl ?_
            refine RegV.split (fun c94 => ?_) (fun c94 => ?_)
            · have h := cond_pos c94 h
              refine RegV.p0 rfl rfl rfl ?_
              refine RegV.p0 (v := (.ptr 0 4)) rfl rfl rfl ?_
              refine RegV.ld (v := (.d (.sl (List.map byteD a0.fData)))) (H' := [(0, (.cells [(.d (.int .u64 a0.fOffset)), (.d (.int .u64 a0.fProducer)), (.d (.int .u64 a0.fSeq)), (.d (.int .i64 a0.fVersion)), (.d (.sl (List.map byteD a0.fData)))])), (3, (.cells [(.d (.int .u64 r66.2.1)), (.d (.int .u64 r66.2.2.1)), (.d (.int .u64 r66.2.2.2.1)), (.d (.int .i64 r66.2.2.2.2.1)), (.d (.sl (List.map byteD r66.2.2.2.2.2)))])), (2, (.cells [(.d (.int .u64 r54.2.1)), (.d (.int .u64 r54.2.2.1)), (.d (.int .u64 r54.2.2.2.1)), (.d (.int .i64 r54.2.2.2.2.1)), (.d (.sl (List.map byteD r54.2.2.2.2.2)))])), (5, (.tok ((List.map byteD r81).length * 1))), (4, (.tok ((List.map byteD r79).length * 1))), (1, (.cells [(.d (.int .u64 a0.fOffset)), (.d (.int .u64 a0.fProducer)), (.d (.int .u64 a0.fSeq)), (.d (.int .i64 a0.fVersion)), (.win (List.map byteD r32) (((0 : Int)).toNat + a0.fData.length))]))]) rfl rfl trivial rfl rfl rfl rfl rfl ?_
              obtain ⟨r98, e98, h⟩ := bind_some h
              refine RegV.call0 (F29 hmix hc.2.2.2.2.2.2.2.2.2 e98) rfl rfl rfl rfl (.cons (.refl _) (.cons (.refl _) (.cons (.refl _) .nil))) rfl ?_
              refine RegV.p0 rfl rfl rfl ?_
              refine RegV.p0 rfl rfl rfl ?_
              refine RegV.split (fun c100 => ?_) (fun c100 => ?_)
              · have h := cond_pos c100 h
                refine RegV.p0 rfl rfl rfl ?_
                refine RegV.p0 rfl rfl rfl ?_
                obtain ⟨r103, e103, h⟩ := bind_some h
                refine RegV.call0 (F29 hmix hc.2.2.2.2.2.2.2.2.2 e103) rfl rfl rfl rfl (.cons (.refl _) (.cons (.refl _) (.cons (.refl _) .nil))) rfl ?_
                refine RegV.p0 rfl rfl rfl ?_
                refine RegV.p0 rfl rfl rfl ?_
                refine RegV.nil1 (by kernel_rfl) ?_
                have hr := Option.some.inj h
                subst hr
                exact AWc.ret (canQ (N := 73) (k := 0) (l' := [(6, (.d (.bool r103)))]) (H' := []) rfl ⟨rfl, [], [], rfl, rfl, ⟨⟨_, rfl, (.refl _)⟩, rfl, trivial⟩,  trivial⟩ (doneA (.inr rfl) rfl ⟨trivial, trivial⟩ (.refl _) hasNil))
              · have h := cond_neg c100 h
                refine RegV.noS rfl rfl ?_
                refine RegV.noS rfl rfl ?_
                refine RegV.noS rfl rfl ?_
                refine RegV.p0 rfl rfl rfl ?_
                refine RegV.p0 rfl rfl rfl ?_
                refine RegV.nil1 (by kernel_rfl) ?_
                have hr := Option.some.inj h
                subst hr
                exact AWc.ret (canQ (N := 73) (k := 0) (l' := [(6, (.d (.bool false)))]) (H' := []) rfl ⟨rfl, [], [], rfl, rfl, ⟨⟨_, rfl, (.refl _)⟩, rfl, trivial⟩,  trivial⟩ (doneA (.inr rfl) rfl ⟨trivial, trivial⟩ (.refl _) hasNil))
            · have h := cond_neg c94 h
              refine RegV.noS rfl rfl ?_
              refine RegV.noS rfl rfl ?_
              refine RegV.noS rfl rfl ?_
              refine RegV.noS rfl rfl ?_
              refine RegV.p0 rfl rfl rfl ?_
              refine RegV.p0 rfl rfl rfl ?_
              refine RegV.noS rfl rfl ?_
              refine RegV.noS rfl rfl ?_
              refine RegV.noS rfl rfl ?_
              refine RegV.p0 rfl rfl rfl ?_
              refine RegV.p0 rfl rfl rfl ?_
              refine RegV.nil1 (by kernel_rfl) ?_
              have hr := Option.some.inj h
              subst hr
              exact AWc.ret (canQ (N := 73) (k := 0) (l' := [(6, (.d (.bool false)))]) (H' := []) rfl ⟨rfl, [], [], rfl, rfl, ⟨⟨_, rfl, (.refl _)⟩, rfl, trivial⟩,  trivial⟩ (doneA (.inr rfl) rfl ⟨trivial, trivial⟩ (.refl _) hasNil))
          · have h := cond_neg c89 h
            refine RegV.noS rfl rfl ?_
            refine RegV.noS rfl rfl ?_
            refine RegV.noS rfl rfl ?_
            refine RegV.p0 rfl rfl rfl ?_
            refine RegV.p0 rfl rfl rfl ?_
            refine RegV.noS rfl rfl ?_
            refine RegV.noS rfl rfl ?_
            refine RegV.noS rfl rfl ?_
            refine RegV.noS rfl rfl ?_
            refine RegV.p0 rfl rfl rfl ?_
            refine RegV.p0 rfl rfl rfl ?_
            refine RegV.noS rfl rfl ?_
            refine RegV.noS rfl rfl ?_
            refine RegV.noS rfl rfl ?_
            refine RegV.p0 rfl rfl rfl ?_
            refine RegV.p0 rfl rfl rfl ?_
            refine RegV.nil1 (by kernel_rfl) ?_
            have hr := Option.some.inj h
            subst hr
            exact AWc.ret (canQ (N := 73) (k := 0) (l' := [(6, (.d (.bool false)))]) (H' := []) rfl ⟨rfl, [], [], rfl, rfl, ⟨⟨_, rfl, (.refl _)⟩, rfl, trivial⟩,  trivial⟩ (doneA (.inr rfl) rfl ⟨trivial, trivial⟩ (.refl _) hasNil))
        · have h := cond_neg c84 h
          refine RegV.noS rfl rfl ?_
          refine RegV.noS rfl rfl ?_
          refine RegV.noS rfl rfl ?_
          refine RegV.p0 rfl rfl rfl ?_
          refine RegV.p0 rfl rfl rfl ?_
          refine RegV.noS rfl rfl ?_
          refine RegV.noS rfl rfl ?_
          refine RegV.noS rfl rfl ?_
          refine RegV.p0 rfl rfl rfl ?_
          refine RegV.p0 rfl rfl rfl ?_
          refine RegV.noS rfl rfl ?_
          refine RegV.noS rfl rfl ?_
          refine RegV.noS rfl rfl ?_
          refine RegV.noS rfl rfl ?_
          refine RegV.p0 rfl rfl rfl ?_
          refine RegV.p0 rfl rfl rfl ?_
          refine RegV.noS rfl rfl ?_
          refine RegV.noS rfl rfl ?_
          refine RegV.noS rfl rfl ?_
          refine RegV.p0 rfl rfl rfl ?_
          refine RegV.p0 rfl rfl rfl ?_
          refine RegV.nil1 (by kernel_rfl) ?_
          have hr := Option.some.inj h
          subst hr
          exact AWc.ret (canQ (N := 73) (k := 0) (l' := [(6, (.d (.bool false)))]) (H' := []) rfl ⟨rfl, [], [], rfl, rfl, ⟨⟨_, rfl, (.refl _)⟩, rfl, trivial⟩,  trivial⟩ (doneA (.inr rfl) rfl ⟨trivial, trivial⟩ (.refl _) hasNil))
      · have h := cond_neg c77 h
        refine RegV.noS rfl rfl ?_
        refine RegV.noS rfl rfl ?_
        refine RegV.noS rfl rfl ?_
        refine RegV.noS rfl rfl ?_
        refine RegV.noS rfl rfl ?_
        refine RegV.p0 rfl rfl rfl ?_
        refine RegV.p0 rfl rfl rfl ?_
        refine RegV.noS rfl rfl ?_
        refine RegV.noS rfl rfl ?_
        refine RegV.noS rfl rfl ?_
        refine RegV.p0 rfl rfl rfl ?_
        refine RegV.p0 rfl rfl rfl ?_
        refine RegV.noS rfl rfl ?_
        refine RegV.noS rfl rfl ?_
        refine RegV.noS rfl rfl ?_
        refine RegV.p0 rfl rfl rfl ?_
        refine RegV.p0 rfl rfl rfl ?_
        refine RegV.noS rfl rfl ?_
        refine RegV.noS rfl rfl ?_
        refine RegV.noS rfl rfl ?_
        refine RegV.noS rfl rfl ?_
        refine RegV.p0 rfl rfl rfl ?_
        refine RegV.p0 rfl rfl rfl ?_
        refine RegV.noS rfl rfl ?_
        refine RegV.noS rfl rfl ?_
        refine RegV.noS rfl rfl ?_
        refine RegV.p0 rfl rfl rfl ?_
        refine RegV.p0 rfl rfl rfl ?_
        refine RegV.nil1 (by kernel_rfl) ?_
        have hr := Option.some.inj h
        subst hr
        exact AWc.ret (canQ (N := 73) (k := 0) (l' := [(6, (.d (.bool false)))]) (H' := []) rfl ⟨rfl, [], [], rfl, rfl, ⟨⟨_, rfl, (.refl _)⟩, rfl, trivial⟩,  trivial⟩ (doneA (.inr rfl) rfl ⟨trivial, trivial⟩ (.refl _) hasNil))
/-- courant/courantlaw24.BatchBack -/
def C12 (N : Nat → Nat) : AFunc := { n := 28, params := 1, res := [.tmp 2], body :=
 (.seq (.region false [⟨(some 1), .box (.t 0), none, []⟩,
   ⟨(some 2), .mv (.k (.d (.bool false))), none, []⟩])
  (.seq (.seq (.region false [⟨(some 5), .faddr (.t 1) 4, none, []⟩,
     ⟨(some 6), .load (.t 5) 1 false, none, [0]⟩,
     ⟨(some 7), .len (.t 6), none, [1]⟩,
     ⟨(some 8), .bin .gtr (.t 7) (.k (.d (.int .i64 4096))), none, [2]⟩])
    (.cond (.t 8) (.seq (.region false [⟨(some 9), .call (.k (.d (.fn (N 33)))) [], none, []⟩,
       ⟨(some 2), .mv (.t 9), none, [0]⟩])
      .ret)
     (.skip)))
   (.seq (.region true [⟨(some 11), .faddr (.t 1) 0, none, []⟩,
     ⟨(some 12), .load (.t 11) 1 false, none, [0]⟩,
     ⟨(some 13), .load (.t 1) 5 true, none, []⟩,
     ⟨(some 14), .call (.k (.d (.fn (N 54)))) [(.t 13)], none, [2]⟩,
     ⟨(some 15), .call (.k (.d (.fn (N 52)))) [(.t 12), (.t 14)], none, [1, 3]⟩,
     ⟨(some 10), .mv (.t 15), none, [4]⟩,
     ⟨(some 16), .ext (.t 10) 0, none, [5]⟩,
     ⟨(some 17), .ext (.t 10) 1, none, [5]⟩,
     ⟨(some 3), .alloc [(.int .u64 0), (.int .u64 0), (.int .u64 0), (.int .i64 0), (.sl [])], none, []⟩,
     ⟨none, .store (.t 3) (.t 16) 5, none, [8, 6, 4, 0, 1, 2, 3, 5]⟩,
     ⟨(some 4), .mv (.t 17), none, [7, 9, 0, 1, 2, 3, 4, 5, 6, 8]⟩])
    (.seq (.region false [⟨(some 18), .call (.k (.d (.fn (N 33)))) [], none, []⟩,
      ⟨(some 19), .mv (.t 18), none, [0]⟩,
      ⟨(some 20), .mv (.t 4), (some (19, true)), [1]⟩,
      ⟨(some 21), .bin .eql (.t 20) (.k (.d (.int .i64 0))), (some (19, true)), [2, 1]⟩,
      ⟨(some 22), .pick (.t 19) (.t 21) (.k (.d (.bool false))), none, [1, 3]⟩,
      ⟨(some 23), .mv (.t 22), none, [4, 1]⟩,
      ⟨(some 24), .load (.t 3) 5 true, (some (23, true)), [5]⟩,
      ⟨(some 25), .load (.t 1) 5 true, (some (23, true)), [5]⟩,
      ⟨(some 26), .call (.k (.d (.fn (N 38)))) [(.t 24), (.t 25)], (some (23, true)), [6, 7, 5]⟩,
      ⟨(some 27), .pick (.t 23) (.t 26) (.k (.d (.bool false))), none, [5, 8]⟩,
      ⟨(some 2), .mv (.t 27), none, [9, 8, 0, 1, 2, 3, 4, 5, 6, 7]⟩])
     .ret)))) }
def HC12 (P : Program) (N : Nat → Nat) : Prop := HasF P (N 12) (C12 N) ∧ HC33 P N ∧ HC54 P N ∧ HC52 P N ∧ HC38 P N
def f12 (k : Nat) (a0 : TMessage) : Option Bool := cond (decide (((a0.fData.length : Nat) : Int) > (4096 : Int))) ((f33 k).bind fun r18 => some r18) ((f54 k (TMessage.mk a0.fOffset a0.fProducer a0.fSeq a0.fVersion a0.fData)).bind fun r28 => (f52 k a0.fOffset r28).bind fun r29 => (f33 k).bind fun r39 => cond r39 (cond (decide (r29.1 = (0 : Int))) ((f38 k (TMessage.mk r29.2.1 r29.2.2.1 r29.2.2.2.1 r29.2.2.2.2.1 r29.2.2.2.2.2) (TMessage.mk a0.fOffset a0.fProducer a0.fSeq a0.fVersion a0.fData)).bind fun r47 => some r47) (some false)) (some false))
theorem F12 {P : Program} {N : Nat → Nat} (hmix : P.follows .mixedOrders = true) (hc : HC12 P N) {k : Nat} {a0 : TMessage} {r : Bool} (h : f12 k a0 = some r) :
    ACalls P (N 12) [(.d (TMessage.enc a0))] [] (.d (.bool r)) [] := by
  refine acalls_canon (F := C12 N) hc.1 0 0 rfl ?_
  unfold f12 at h
  dsimp only [C12, startL]
  refine AWc.seq ?_
  refine AWc.rg hmix rfl rfl ?_
  refine RegV.evS (own := false) (v := (.ptr 0 0)) (H' := [(0, (.cells [(.d (.int .u64 a0.fOffset)), (.d (.int .u64 a0.fProducer)), (.d (.int .u64 a0.fSeq)), (.d (.int .i64 a0.fVersion)), (.d (.sl (List.map byteD a0.fData)))]))]) (c' := 1) rfl rfl trivial rfl rfl rfl rfl rfl rfl ?_
  refine RegV.p0 rfl rfl rfl ?_
  refine RegV.nil0 ?_
  refine AWc.seq ?_
  refine AWc.seq ?_
  refine AWc.rg hmix rfl rfl ?_
  refine RegV.p0 (v := (.ptr 0 4)) rfl rfl rfl ?_
  refine RegV.ld (v := (.d (.sl (List.map byteD a0.fData)))) (H' := [(0, (.cells [(.d (.int .u64 a0.fOffset)), (.d (.int .u64 a0.fProducer)), (.d (.int .u64 a0.fSeq)), (.d (.int .i64 a0.fVersion)), (.d (.sl (List.map byteD a0.fData)))]))]) rfl rfl trivial rfl rfl rfl rfl rfl ?_
  refine RegV.len (xs := a0.fData) (e := byteD) rfl rfl rfl rfl ?_
  refine RegV.p0 (v := (.d (.bool (decide (((a0.fData.length : Nat) : Int) > (4096 : Int)))))) rfl rfl rfl ?_
  refine RegV.nil0 ?_
  refine AWc.cond rfl (fun c14 => ?_) (fun c14 => ?_)
  · have h := cond_pos c14 h
    refine AWc.seq ?_
    refine AWc.rg hmix rfl rfl ?_
    obtain ⟨r18, e18, h⟩ := bind_some h
    refine RegV.call0 (F33 hmix hc.2.1 e18) rfl rfl rfl rfl .nil rfl ?_
    refine RegV.p0 rfl rfl rfl ?_
    refine RegV.nil0 ?_
    have hr := Option.some.inj h
    subst hr
    exact AWc.ret (canQ (N := 28) (k := 0) (l' := [(2, (.d (.bool r18)))]) (H' := []) rfl ⟨rfl, [], [], rfl, rfl, ⟨⟨_, rfl, (.refl _)⟩, rfl, trivial⟩,  trivial⟩ (doneA (.inr rfl) rfl ⟨trivial, trivial⟩ (.refl _) hasNil))
  · have h := cond_neg c14 h
    refine AWc.skip ?_
    refine AWc.seq ?_
    refine AWc.rg hmix rfl rfl ?_
    refine RegV.p0 (v := (.ptr 0 0)) rfl rfl rfl ?_
    refine RegV.ld (v := (.d (.int .u64 a0.fOffset))) (H' := [(0, (.cells [(.d (.int .u64 a0.fOffset)), (.d (.int .u64 a0.fProducer)), (.d (.int .u64 a0.fSeq)), (.d (.int .i64 a0.fVersion)), (.d (.sl (List.map byteD a0.fData)))]))]) rfl rfl trivial rfl rfl rfl rfl rfl ?_
    refine RegV.ld (v := (.d (.agg [(.int .u64 a0.fOffset), (.int .u64 a0.fProducer), (.int .u64 a0.fSeq), (.int .i64 a0.fVersion), (.sl (List.map byteD a0.fData))]))) (H' := [(0, (.cells [(.d (.int .u64 a0.fOffset)), (.d (.int .u64 a0.fProducer)), (.d (.int .u64 a0.fSeq)), (.d (.int .i64 a0.fVersion)), (.d (.sl (List.map byteD a0.fData)))]))]) rfl rfl (Nat.le_of_ble_eq_true rfl) rfl rfl rfl rfl rfl ?_
    obtain ⟨r28, e28, h⟩ := bind_some h
    refine RegV.callS (q := false) (H' := [(1, (.tok ((List.map byteD r28).length * 1))), (0, (.cells [(.d (.int .u64 a0.fOffset)), (.d (.int .u64 a0.fProducer)), (.d (.int .u64 a0.fSeq)), (.d (.int .i64 a0.fVersion)), (.d (.sl (List.map byteD a0.fData)))]))]) (c' := 2) (show ACalls P (N 54) [(.d (TMessage.enc (TMessage.mk a0.fOffset a0.fProducer a0.fSeq a0.fVersion a0.fData)))] [] (.ap 1 1 (List.map byteD r28)) [(1, (.tok ((List.map byteD r28).length * 1)))] from ACalls.use (F54 hmix hc.2.2.1 e28) [(0, 1)] 1 rfl) rfl rfl rfl rfl (.cons (.refl _) .nil) (.refl _) (fun h => by cases h) rfl hasNil rfl rfl rfl rfl ?_
    obtain ⟨r29, e29, h⟩ := bind_some h
    refine RegV.call0 (F52 hmix hc.2.2.2.1 e29) rfl rfl rfl rfl (.cons (.refl _) (.cons (.sl rfl) .nil)) rfl ?_
    refine RegV.p0 rfl rfl rfl ?_
    refine RegV.p0 rfl rfl rfl ?_
    refine RegV.p0 rfl rfl rfl ?_
    refine RegV.evS (own := false) (v := (.ptr 2 0)) (H' := [(2, (.cells [(.d (.int .u64 (0 : Int))), (.d (.int .u64 (0 : Int))), (.d (.int .u64 (0 : Int))), (.d (.int .i64 (0 : Int))), .nils])), (1, (.tok ((List.map byteD r28).length * 1))), (0, (.cells [(.d (.int .u64 a0.fOffset)), (.d (.int .u64 a0.fProducer)), (.d (.int .u64 a0.fSeq)), (.d (.int .i64 a0.fVersion)), (.d (.sl (List.map byteD a0.fData)))]))]) (c' := 3) rfl rfl trivial rfl rfl rfl rfl rfl rfl ?_
    refine RegV.evN (own := false) (H' := [(2, (.cells [(.d (.int .u64 r29.2.1)), (.d (.int .u64 r29.2.2.1)), (.d (.int .u64 r29.2.2.2.1)), (.d (.int .i64 r29.2.2.2.2.1)), (.d (.sl (List.map byteD r29.2.2.2.2.2)))])), (1, (.tok ((List.map byteD r28).length * 1))), (0, (.cells [(.d (.int .u64 a0.fOffset)), (.d (.int .u64 a0.fProducer)), (.d (.int .u64 a0.fSeq)), (.d (.int .i64 a0.fVersion)), (.d (.sl (List.map byteD a0.fData)))]))]) (c' := 3) rfl rfl (by exact ⟨rfl, Nat.le_of_ble_eq_true rfl, rfl⟩) rfl rfl rfl rfl ?_
    refine RegV.p0 rfl rfl rfl ?_
    refine RegV.nil1 (by kernel_rfl) ?_
    refine AWc.seq ?_
    refine AWc.rg hmix rfl rfl ?_
    obtain ⟨r39, e39, h⟩ := bind_some h
    refine RegV.call0 (F33 hmix hc.2.1 e39) rfl rfl rfl rfl .nil rfl ?_
    refine RegV.p0 rfl rfl rfl ?_
    refine RegV.split (fun c40 => ?_) (fun c40 => ?_)
    · have h := cond_pos c40 h
      refine RegV.p0 rfl rfl rfl ?_
      refine RegV.p0 (v := (.d (.bool (decide (r29.1 = (0 : Int)))))) rfl rfl rfl ?_
      refine RegV.p0 rfl rfl rfl ?_
      refine RegV.p0 rfl rfl rfl ?_
      refine RegV.split (fun c44 => ?_) (fun c44 => ?_)
      · have h := cond_pos c44 h
        refine RegV.ld (v := (.d (.agg [(.int .u64 r29.2.1), (.int .u64 r29.2.2.1), (.int .u64 r29.2.2.2.1), (.int .i64 r29.2.2.2.2.1), (.sl (List.map byteD r29.2.2.2.2.2))]))) (H' := [(2, (.cells [(.d (.int .u64 r29.2.1)), (.d (.int .u64 r29.2.2.1)), (.d (.int .u64 r29.2.2.2.1)), (.d (.int .i64 r29.2.2.2.2.1)), (.d (.sl (List.map byteD r29.2.2.2.2.2)))])), (1, (.tok ((List.map byteD r28).length * 1))), (0, (.cells [(.d (.int .u64 a0.fOffset)), (.d (.int .u64 a0.fProducer)), (.d (.int .u64 a0.fSeq)), (.d (.int .i64 a0.fVersion)), (.d (.sl (List.map byteD a0.fData)))]))]) rfl rfl (Nat.le_of_ble_eq_true rfl) rfl rfl rfl rfl rfl ?_
        refine RegV.ld (v := (.d (.agg [(.int .u64 a0.fOffset), (.int .u64 a0.fProducer), (.int .u64 a0.fSeq), (.int .i64 a0.fVersion), (.sl (List.map byteD a0.fData))]))) (H' := [(0, (.cells [(.d (.int .u64 a0.fOffset)), (.d (.int .u64 a0.fProducer)), (.d (.int .u64 a0.fSeq)), (.d (.int .i64 a0.fVersion)), (.d (.sl (List.map byteD a0.fData)))])), (2, (.cells [(.d (.int .u64 r29.2.1)), (.d (.int .u64 r29.2.2.1)), (.d (.int .u64 r29.2.2.2.1)), (.d (.int .i64 r29.2.2.2.2.1)), (.d (.sl (List.map byteD r29.2.2.2.2.2)))])), (1, (.tok ((List.map byteD r28).length * 1)))]) rfl rfl (Nat.le_of_ble_eq_true rfl) rfl rfl rfl rfl rfl ?_
        obtain ⟨r47, e47, h⟩ := bind_some h
        refine RegV.call0 (F38 hmix hc.2.2.2.2 e47) rfl rfl rfl rfl (.cons (.refl _) (.cons (.refl _) .nil)) rfl ?_
        refine RegV.p0 rfl rfl rfl ?_
        refine RegV.p0 rfl rfl rfl ?_
        refine RegV.nil0 ?_
        have hr := Option.some.inj h
        subst hr
        exact AWc.ret (canQ (N := 28) (k := 0) (l' := [(2, (.d (.bool r47)))]) (H' := []) rfl ⟨rfl, [], [], rfl, rfl, ⟨⟨_, rfl, (.refl _)⟩, rfl, trivial⟩,  trivial⟩ (doneA (.inr rfl) rfl ⟨trivial, trivial⟩ (.refl _) hasNil))
      · have h := cond_neg c44 h
        refine RegV.noS rfl rfl ?_
        refine RegV.noS rfl rfl ?_
        refine RegV.noS rfl rfl ?_
        refine RegV.p0 rfl rfl rfl ?_
        refine RegV.p0 rfl rfl rfl ?_
        refine RegV.nil0 ?_
        have hr := Option.some.inj h
        subst hr
        exact AWc.ret (canQ (N := 28) (k := 0) (l' := [(2, (.d (.bool false)))]) (H' := []) rfl ⟨rfl, [], [], rfl, rfl, ⟨⟨_, rfl, (.refl _)⟩, rfl, trivial⟩,  trivial⟩ (doneA (.inr rfl) rfl ⟨trivial, trivial⟩ (.refl _) hasNil))
    · have h := cond_neg c40 h
      refine RegV.noS rfl rfl ?_
      refine RegV.noS rfl rfl ?_
      refine RegV.p0 rfl rfl rfl ?_
      refine RegV.p0 rfl rfl rfl ?_
      refine RegV.noS rfl rfl ?_
      refine RegV.noS rfl rfl ?_
      refine RegV.noS rfl rfl ?_
      refine RegV.p0 rfl rfl rfl ?_
      refine RegV.p0 rfl rfl rfl ?_
      refine RegV.nil0 ?_
      have hr := Option.some.inj h
      subst hr
      exact AWc.ret (canQ (N := 28) (k := 0) (l' := [(2, (.d (.bool false)))]) (H' := []) rfl ⟨rfl, [], [], rfl, rfl, ⟨⟨_, rfl, (.refl _)⟩, rfl, trivial⟩,  trivial⟩ (doneA (.inr rfl) rfl ⟨trivial, trivial⟩ (.refl _) hasNil))
end Go.Proofs.Abs
