/- Written by gen.py: functions of the program as Lean functions, and that the code comes to them. -/
import Derived.Test.YtojmpoboidomeaaGLrplb
set_option linter.unusedVariables false
set_option linter.unusedSimpArgs false
set_option maxRecDepth 100000
set_option maxHeartbeats 4000000
namespace Go.Proofs.Abs
open Go
/-- courant/courantref27.Reply -/
def C66 (N : Nat → Nat) : AFunc := { n := 73, params := 1, res := [.tmp 2], body :=
 (.seq (.region false [⟨(some 1), .box (.t 0), none, []⟩,
   ⟨(some 2), .mv (.k .nils), none, []⟩])
  (.seq (.region true [⟨(some 6), .faddr (.t 1) 0, none, []⟩,
    ⟨(some 7), .load (.t 6) 1 false, none, [0]⟩,
    ⟨(some 8), .call (.k (.d (.fn (N 26)))) [(.t 7)], none, [1]⟩,
    ⟨(some 9), .faddr (.t 1) 1, none, []⟩,
    ⟨(some 10), .load (.t 9) 1 false, none, [3]⟩,
    ⟨(some 11), .call (.k (.d (.fn (N 26)))) [(.t 10)], none, [4, 2]⟩,
    ⟨(some 12), .app (.t 8) (.t 11) 1 1 [(.int .u8 0)], none, [2, 5]⟩,
    ⟨(some 3), .mv (.t 12), none, [6, 0, 1, 2, 3, 4, 5]⟩])
   (.seq (.region false [⟨(some 13), .mv (.t 3), none, []⟩,
     ⟨(some 14), .faddr (.t 1) 2, none, []⟩,
     ⟨(some 15), .load (.t 14) 1 false, none, [1]⟩,
     ⟨(some 16), .call (.k (.d (.fn (N 26)))) [(.t 15)], none, [2]⟩,
     ⟨(some 17), .app (.t 13) (.t 16) 1 1 [(.int .u8 0)], none, [0, 3]⟩,
     ⟨(some 3), .mv (.t 17), none, [4, 0, 1, 2, 3]⟩])
    (.seq (.region false [⟨(some 18), .mv (.t 3), none, []⟩,
      ⟨(some 19), .faddr (.t 1) 3, none, []⟩,
      ⟨(some 20), .load (.t 19) 1 false, none, [1]⟩,
      ⟨(some 21), .call (.k (.d (.fn (N 24)))) [(.t 20)], none, [2]⟩,
      ⟨(some 22), .app (.t 18) (.t 21) 1 1 [(.int .u8 0)], none, [0, 3]⟩,
      ⟨(some 3), .mv (.t 22), none, [4, 0, 1, 2, 3]⟩])
     (.seq (.region false [⟨(some 23), .mv (.t 3), none, []⟩,
       ⟨(some 24), .faddr (.t 1) 4, none, []⟩,
       ⟨(some 25), .load (.t 24) 1 false, none, [1]⟩,
       ⟨(some 26), .s2bs (.t 25), none, [2]⟩,
       ⟨(some 27), .call (.k (.d (.fn (N 28)))) [(.t 26)], none, [3]⟩,
       ⟨(some 28), .app (.t 23) (.t 27) 1 1 [(.int .u8 0)], none, [0, 4]⟩,
       ⟨(some 3), .mv (.t 28), none, [5, 0, 1, 2, 3, 4]⟩])
      (.seq (.region false [⟨(some 29), .mv (.t 3), none, []⟩,
        ⟨(some 30), .faddr (.t 1) 5, none, []⟩,
        ⟨(some 31), .load (.t 30) 1 false, none, [1]⟩,
        ⟨(some 32), .len (.t 31), none, [2]⟩,
        ⟨(some 33), .call (.k (.d (.fn (N 26)))) [(.t 32)], none, [3]⟩,
        ⟨(some 34), .app (.t 29) (.t 33) 1 1 [(.int .u8 0)], none, [0, 4]⟩,
        ⟨(some 3), .mv (.t 34), none, [5, 0, 1, 2, 3, 4]⟩])
       (.seq (.seq (.region false [⟨(some 4), .mv (.k (.d (.int .i64 0))), none, []⟩])
         (.block 0 (.loop (.seq (.seq (.region false [⟨(some 35), .mv (.t 4), none, []⟩,
              ⟨(some 36), .faddr (.t 1) 5, none, []⟩,
              ⟨(some 37), .load (.t 36) 1 false, none, [1]⟩,
              ⟨(some 38), .len (.t 37), none, [2]⟩,
              ⟨(some 39), .bin .lss (.t 35) (.t 38), none, [0, 3]⟩])
             (.cond (.t 39) (.skip)
              (.exit 0)))
            (.seq (.block 1 (.seq (.region false [⟨(some 42), .faddr (.t 1) 5, none, []⟩,
                ⟨(some 43), .load (.t 42) 1 false, none, [0]⟩,
                ⟨(some 44), .mv (.t 4), none, []⟩,
                ⟨(some 45), .iaddr (.t 43) (.t 44) 5, none, [1, 2]⟩,
                ⟨(some 46), .load (.t 45) 5 true, none, [3]⟩,
                ⟨(some 5), .alloc [(.int .u64 0), (.int .u64 0), (.int .u64 0), (.int .i64 0), (.sl [])], none, []⟩,
                ⟨none, .store (.t 5) (.t 46) 5, none, [5, 4, 0, 1, 2, 3]⟩])
               (.seq (.region false [⟨(some 47), .mv (.t 3), none, []⟩,
                 ⟨(some 48), .faddr (.t 5) 0, none, []⟩,
                 ⟨(some 49), .load (.t 48) 1 false, none, [1]⟩,
                 ⟨(some 50), .call (.k (.d (.fn (N 24)))) [(.t 49)], none, [2]⟩,
                 ⟨(some 51), .app (.t 47) (.t 50) 1 1 [(.int .u8 0)], none, [0, 3]⟩,
                 ⟨(some 3), .mv (.t 51), none, [4, 0, 1, 2, 3]⟩])
                (.seq (.region false [⟨(some 52), .mv (.t 3), none, []⟩,
                  ⟨(some 53), .faddr (.t 5) 1, none, []⟩,
                  ⟨(some 54), .load (.t 53) 1 false, none, [1]⟩,
                  ⟨(some 55), .call (.k (.d (.fn (N 24)))) [(.t 54)], none, [2]⟩,
                  ⟨(some 56), .app (.t 52) (.t 55) 1 1 [(.int .u8 0)], none, [0, 3]⟩,
                  ⟨(some 3), .mv (.t 56), none, [4, 0, 1, 2, 3]⟩])
                 (.seq (.region false [⟨(some 57), .mv (.t 3), none, []⟩,
                   ⟨(some 58), .faddr (.t 5) 2, none, []⟩,
                   ⟨(some 59), .load (.t 58) 1 false, none, [1]⟩,
                   ⟨(some 60), .call (.k (.d (.fn (N 24)))) [(.t 59)], none, [2]⟩,
                   ⟨(some 61), .app (.t 57) (.t 60) 1 1 [(.int .u8 0)], none, [0, 3]⟩,
                   ⟨(some 3), .mv (.t 61), none, [4, 0, 1, 2, 3]⟩])
                  (.seq (.region false [⟨(some 62), .mv (.t 3), none, []⟩,
                    ⟨(some 63), .faddr (.t 5) 3, none, []⟩,
                    ⟨(some 64), .load (.t 63) 1 false, none, [1]⟩,
                    ⟨(some 65), .call (.k (.d (.fn (N 26)))) [(.t 64)], none, [2]⟩,
                    ⟨(some 66), .app (.t 62) (.t 65) 1 1 [(.int .u8 0)], none, [0, 3]⟩,
                    ⟨(some 3), .mv (.t 66), none, [4, 0, 1, 2, 3]⟩])
                   (.region false [⟨(some 67), .mv (.t 3), none, []⟩,
                    ⟨(some 68), .faddr (.t 5) 4, none, []⟩,
                    ⟨(some 69), .load (.t 68) 1 false, none, [1]⟩,
                    ⟨(some 70), .call (.k (.d (.fn (N 28)))) [(.t 69)], none, [2]⟩,
                    ⟨(some 71), .app (.t 67) (.t 70) 1 1 [(.int .u8 0)], none, [0, 3]⟩,
                    ⟨(some 3), .mv (.t 71), none, [4, 0, 1, 2, 3]⟩])))))))
             (.region false [⟨(some 40), .mv (.t 4), none, []⟩,
              ⟨(some 41), .bin .add (.t 40) (.k (.d (.int .i64 1))), none, [0]⟩,
              ⟨(some 4), .mv (.t 41), none, [1, 0]⟩]))))))
        (.seq (.region false [⟨(some 72), .mv (.t 3), none, []⟩,
          ⟨(some 2), .mv (.t 72), none, [0]⟩])
         .ret)))))))) }
def HC66 (P : Program) (N : Nat → Nat) : Prop := HasF P (N 66) (C66 N) ∧ HC26 P N ∧ HC24 P N ∧ HC28 P N
def f66_l60 (a0 : TReply) : Nat → (List UInt8) → Int → Option (LR2 (List UInt8) Unit (List UInt8))
  | 0, _, _ => none
  | k + 1, y60_1, y60_2 => cond (decide (y60_2 < ((a0.fMessages.length : Nat) : Int))) (gd (0 ≤ y60_2 ∧ y60_2 < ((a0.fMessages.length : Nat) : Int)) ((f24 k ((rd a0.fMessages y60_2).fOffset)).bind fun r92 => gd ((y60_1.length + r92.length) * 2 * 1 ≤ 281474976710656) ((f24 k ((rd a0.fMessages y60_2).fProducer)).bind fun r101 => gd (((y60_1 ++ r92).length + r101.length) * 2 * 1 ≤ 281474976710656) ((f24 k ((rd a0.fMessages y60_2).fSeq)).bind fun r110 => gd ((((y60_1 ++ r92) ++ r101).length + r110.length) * 2 * 1 ≤ 281474976710656) ((f26 k ((rd a0.fMessages y60_2).fVersion)).bind fun r119 => gd (((((y60_1 ++ r92) ++ r101) ++ r110).length + r119.length) * 2 * 1 ≤ 281474976710656) ((f28 k ((rd a0.fMessages y60_2).fData)).bind fun r127 => gd ((((((y60_1 ++ r92) ++ r101) ++ r110) ++ r119).length + r127.length) * 2 * 1 ≤ 281474976710656) (f66_l60 a0 k (((((y60_1 ++ r92) ++ r101) ++ r110) ++ r119) ++ r127) (IntKind.i64.wrap (y60_2 + (1 : Int)))))))))) (some (.b0 y60_1))
def f66 (k : Nat) (a0 : TReply) : Option (List UInt8) := (f26 k a0.fErr).bind fun r11 => (f26 k a0.fN).bind fun r14 => gd ((r11.length + r14.length) * 2 * 1 ≤ 281474976710656) ((f26 k a0.fID).bind fun r23 => gd (((r11 ++ r14).length + r23.length) * 2 * 1 ≤ 281474976710656) ((f24 k a0.fOffset).bind fun r32 => gd ((((r11 ++ r14) ++ r23).length + r32.length) * 2 * 1 ≤ 281474976710656) ((f28 k a0.fText).bind fun r42 => gd (((((r11 ++ r14) ++ r23) ++ r32).length + r42.length) * 2 * 1 ≤ 281474976710656) ((f26 k ((a0.fMessages.length : Nat) : Int)).bind fun r52 => gd ((((((r11 ++ r14) ++ r23) ++ r32) ++ r42).length + r52.length) * 2 * 1 ≤ 281474976710656) ((f66_l60 a0 k (((((r11 ++ r14) ++ r23) ++ r32) ++ r42) ++ r52) (0 : Int)).bind fun o60 => match o60 with | .b0 x60_1 => some x60_1 | _ => none)))))
theorem F66 {P : Program} {N : Nat → Nat} (hmix : P.follows .mixedOrders = true) (hc : HC66 P N) {k : Nat} {a0 : TReply} {r : (List UInt8)} (h : f66 k a0 = some r) :
    ACalls P (N 66) [(.d (TReply.enc a0))] [] (.ap 0 1 (List.map byteD r)) [(0, (.tok ((List.map byteD r).length * 1)))] := by
  refine acalls_canon (F := C66 N) hc.1 0 1 rfl ?_
  unfold f66 at h
  dsimp only [C66, startL]
  refine AWc.seq ?_
  refine AWc.rg hmix rfl rfl ?_
  refine RegV.evS (own := false) (v := (.ptr 0 0)) (H' := [(0, (.cells [(.d (.int .i64 a0.fErr)), (.d (.int .i64 a0.fN)), (.d (.int .i64 a0.fID)), (.d (.int .u64 a0.fOffset)), (.d (.str a0.fText)), (.d (.sl (List.map TMessage.enc a0.fMessages)))]))]) (c' := 1) rfl rfl trivial rfl rfl rfl rfl rfl rfl ?_
  refine RegV.p0 rfl rfl rfl ?_
  refine RegV.nil0 ?_
  refine AWc.seq ?_
  refine AWc.rg hmix rfl rfl ?_
  refine RegV.p0 (v := (.ptr 0 0)) rfl rfl rfl ?_
  refine RegV.ld (v := (.d (.int .i64 a0.fErr))) (H' := [(0, (.cells [(.d (.int .i64 a0.fErr)), (.d (.int .i64 a0.fN)), (.d (.int .i64 a0.fID)), (.d (.int .u64 a0.fOffset)), (.d (.str a0.fText)), (.d (.sl (List.map TMessage.enc a0.fMessages)))]))]) rfl rfl trivial rfl rfl rfl rfl rfl ?_
  obtain ⟨r11, e11, h⟩ := bind_some h
  refine RegV.callS (q := false) (H' := [(1, (.tok ((List.map byteD r11).length * 1))), (0, (.cells [(.d (.int .i64 a0.fErr)), (.d (.int .i64 a0.fN)), (.d (.int .i64 a0.fID)), (.d (.int .u64 a0.fOffset)), (.d (.str a0.fText)), (.d (.sl (List.map TMessage.enc a0.fMessages)))]))]) (c' := 2) (show ACalls P (N 26) [(.d (.int .i64 a0.fErr))] [] (.ap 1 1 (List.map byteD r11)) [(1, (.tok ((List.map byteD r11).length * 1)))] from ACalls.use (F26 hmix hc.2.1 e11) [(0, 1)] 1 rfl) rfl rfl rfl rfl (.cons (.refl _) .nil) (.refl _) (fun h => by cases h) rfl hasNil rfl rfl rfl rfl ?_
  refine RegV.p0 (v := (.ptr 0 1)) rfl rfl rfl ?_
  refine RegV.ld (v := (.d (.int .i64 a0.fN))) (H' := [(0, (.cells [(.d (.int .i64 a0.fErr)), (.d (.int .i64 a0.fN)), (.d (.int .i64 a0.fID)), (.d (.int .u64 a0.fOffset)), (.d (.str a0.fText)), (.d (.sl (List.map TMessage.enc a0.fMessages)))])), (1, (.tok ((List.map byteD r11).length * 1)))]) rfl rfl trivial rfl rfl rfl rfl rfl ?_
  obtain ⟨r14, e14, h⟩ := bind_some h
  refine RegV.callS (q := false) (H' := [(2, (.tok ((List.map byteD r14).length * 1))), (0, (.cells [(.d (.int .i64 a0.fErr)), (.d (.int .i64 a0.fN)), (.d (.int .i64 a0.fID)), (.d (.int .u64 a0.fOffset)), (.d (.str a0.fText)), (.d (.sl (List.map TMessage.enc a0.fMessages)))])), (1, (.tok ((List.map byteD r11).length * 1)))]) (c' := 3) (show ACalls P (N 26) [(.d (.int .i64 a0.fN))] [] (.ap 2 1 (List.map byteD r14)) [(2, (.tok ((List.map byteD r14).length * 1)))] from ACalls.use (F26 hmix hc.2.1 e14) [(0, 2)] 1 rfl) rfl rfl rfl rfl (.cons (.refl _) .nil) (.refl _) (fun h => by cases h) rfl hasNil rfl rfl rfl rfl ?_
  obtain ⟨b15, h⟩ := gd_some h
  refine RegV.appA (xs := r11) (ys := r14) (e := byteD) (H1 := [(2, (.tok ((List.map byteD r14).length * 1))), (0, (.cells [(.d (.int .i64 a0.fErr)), (.d (.int .i64 a0.fN)), (.d (.int .i64 a0.fID)), (.d (.int .u64 a0.fOffset)), (.d (.str a0.fText)), (.d (.sl (List.map TMessage.enc a0.fMessages)))]))]) rfl rfl rfl rfl (fun _ => rfl) rfl rfl b15 rfl rfl rfl ?_
  refine RegV.p0 rfl rfl rfl ?_
  refine RegV.nil1 (by kernel_rfl) ?_
  refine AWc.seq ?_
  refine AWc.rg hmix rfl rfl ?_
  refine RegV.p0 rfl rfl rfl ?_
  refine RegV.p0 (v := (.ptr 0 2)) rfl rfl rfl ?_
  refine RegV.ld (v := (.d (.int .i64 a0.fID))) (H' := [(0, (.cells [(.d (.int .i64 a0.fErr)), (.d (.int .i64 a0.fN)), (.d (.int .i64 a0.fID)), (.d (.int .u64 a0.fOffset)), (.d (.str a0.fText)), (.d (.sl (List.map TMessage.enc a0.fMessages)))])), (3, (.tok ((List.map byteD (r11 ++ r14)).length * 1))), (2, (.tok ((List.map byteD r14).length * 1)))]) rfl rfl trivial rfl rfl rfl rfl rfl ?_
  obtain ⟨r23, e23, h⟩ := bind_some h
  refine RegV.callS (q := false) (H' := [(4, (.tok ((List.map byteD r23).length * 1))), (0, (.cells [(.d (.int .i64 a0.fErr)), (.d (.int .i64 a0.fN)), (.d (.int .i64 a0.fID)), (.d (.int .u64 a0.fOffset)), (.d (.str a0.fText)), (.d (.sl (List.map TMessage.enc a0.fMessages)))])), (3, (.tok ((List.map byteD (r11 ++ r14)).length * 1))), (2, (.tok ((List.map byteD r14).length * 1)))]) (c' := 5) (show ACalls P (N 26) [(.d (.int .i64 a0.fID))] [] (.ap 4 1 (List.map byteD r23)) [(4, (.tok ((List.map byteD r23).length * 1)))] from ACalls.use (F26 hmix hc.2.1 e23) [(0, 4)] 1 rfl) rfl rfl rfl rfl (.cons (.refl _) .nil) (.refl _) (fun h => by cases h) rfl hasNil rfl rfl rfl rfl ?_
  obtain ⟨b24, h⟩ := gd_some h
  refine RegV.appA (xs := (r11 ++ r14)) (ys := r23) (e := byteD) (H1 := [(4, (.tok ((List.map byteD r23).length * 1))), (0, (.cells [(.d (.int .i64 a0.fErr)), (.d (.int .i64 a0.fN)), (.d (.int .i64 a0.fID)), (.d (.int .u64 a0.fOffset)), (.d (.str a0.fText)), (.d (.sl (List.map TMessage.enc a0.fMessages)))])), (2, (.tok ((List.map byteD r14).length * 1)))]) rfl rfl rfl rfl (fun _ => rfl) rfl rfl b24 rfl rfl rfl ?_
  refine RegV.p0 rfl rfl rfl ?_
  refine RegV.nil0 ?_
  refine AWc.seq ?_
  refine AWc.rg hmix rfl rfl ?_
  refine RegV.p0 rfl rfl rfl ?_
  refine RegV.p0 (v := (.ptr 0 3)) rfl rfl rfl ?_
  refine RegV.ld (v := (.d (.int .u64 a0.fOffset))) (H' := [(0, (.cells [(.d (.int .i64 a0.fErr)), (.d (.int .i64 a0.fN)), (.d (.int .i64 a0.fID)), (.d (.int .u64 a0.fOffset)), (.d (.str a0.fText)), (.d (.sl (List.map TMessage.enc a0.fMessages)))])), (5, (.tok ((List.map byteD ((r11 ++ r14) ++ r23)).length * 1))), (4, (.tok ((List.map byteD r23).length * 1))), (2, (.tok ((List.map byteD r14).length * 1)))]) rfl rfl trivial rfl rfl rfl rfl rfl ?_
  obtain ⟨r32, e32, h⟩ := bind_some h
  refine RegV.callS (q := false) (H' := [(6, (.tok ((List.map byteD r32).length * 1))), (0, (.cells [(.d (.int .i64 a0.fErr)), (.d (.int .i64 a0.fN)), (.d (.int .i64 a0.fID)), (.d (.int .u64 a0.fOffset)), (.d (.str a0.fText)), (.d (.sl (List.map TMessage.enc a0.fMessages)))])), (5, (.tok ((List.map byteD ((r11 ++ r14) ++ r23)).length * 1))), (4, (.tok ((List.map byteD r23).length * 1))), (2, (.tok ((List.map byteD r14).length * 1)))]) (c' := 7) (show ACalls P (N 24) [(.d (.int .u64 a0.fOffset))] [] (.ap 6 1 (List.map byteD r32)) [(6, (.tok ((List.map byteD r32).length * 1)))] from ACalls.use (F24 hmix hc.2.2.1 e32) [(0, 6)] 1 rfl) rfl rfl rfl rfl (.cons (.refl _) .nil) (.refl _) (fun h => by cases h) rfl hasNil rfl rfl rfl rfl ?_
  obtain ⟨b33, h⟩ := gd_some h
  refine RegV.appA (xs := ((r11 ++ r14) ++ r23)) (ys := r32) (e := byteD) (H1 := [(6, (.tok ((List.map byteD r32).length * 1))), (0, (.cells [(.d (.int .i64 a0.fErr)), (.d (.int .i64 a0.fN)), (.d (.int .i64 a0.fID)), (.d (.int .u64 a0.fOffset)), (.d (.str a0.fText)), (.d (.sl (List.map TMessage.enc a0.fMessages)))])), (4, (.tok ((List.map byteD r23).length * 1))), (2, (.tok ((List.map byteD r14).length * 1)))]) rfl rfl rfl rfl (fun _ => rfl) rfl rfl b33 rfl rfl rfl ?_
  refine RegV.p0 rfl rfl rfl ?_
  refine RegV.nil0 ?_
  refine AWc.seq ?_
  refine AWc.rg hmix rfl rfl ?_
  refine RegV.p0 rfl rfl rfl ?_
  refine RegV.p0 (v := (.ptr 0 4)) rfl rfl rfl ?_
  refine RegV.ld (v := (.d (.str a0.fText))) (H' := [(0, (.cells [(.d (.int .i64 a0.fErr)), (.d (.int .i64 a0.fN)), (.d (.int .i64 a0.fID)), (.d (.int .u64 a0.fOffset)), (.d (.str a0.fText)), (.d (.sl (List.map TMessage.enc a0.fMessages)))])), (7, (.tok ((List.map byteD (((r11 ++ r14) ++ r23) ++ r32)).length * 1))), (6, (.tok ((List.map byteD r32).length * 1))), (4, (.tok ((List.map byteD r23).length * 1))), (2, (.tok ((List.map byteD r14).length * 1)))]) rfl rfl trivial rfl rfl rfl rfl rfl ?_
  refine RegV.p0 (v := (.d (.sl (List.map byteD a0.fText)))) rfl rfl rfl ?_
  obtain ⟨r42, e42, h⟩ := bind_some h
  refine RegV.callS (q := false) (H' := [(8, (.tok ((List.map byteD r42).length * 1))), (0, (.cells [(.d (.int .i64 a0.fErr)), (.d (.int .i64 a0.fN)), (.d (.int .i64 a0.fID)), (.d (.int .u64 a0.fOffset)), (.d (.str a0.fText)), (.d (.sl (List.map TMessage.enc a0.fMessages)))])), (7, (.tok ((List.map byteD (((r11 ++ r14) ++ r23) ++ r32)).length * 1))), (6, (.tok ((List.map byteD r32).length * 1))), (4, (.tok ((List.map byteD r23).length * 1))), (2, (.tok ((List.map byteD r14).length * 1)))]) (c' := 9) (show ACalls P (N 28) [(.d (.sl (List.map byteD a0.fText)))] [] (.ap 8 1 (List.map byteD r42)) [(8, (.tok ((List.map byteD r42).length * 1)))] from ACalls.use (F28 hmix hc.2.2.2 e42) [(0, 8)] 1 rfl) rfl rfl rfl rfl (.cons (.refl _) .nil) (.refl _) (fun h => by cases h) rfl hasNil rfl rfl rfl rfl ?_
  obtain ⟨b43, h⟩ := gd_some h
  refine RegV.appA (xs := (((r11 ++ r14) ++ r23) ++ r32)) (ys := r42) (e := byteD) (H1 := [(8, (.tok ((List.map byteD r42).length * 1))), (0, (.cells [(.d (.int .i64 a0.fErr)), (.d (.int .i64 a0.fN)), (.d (.int .i64 a0.fID)), (.d (.int .u64 a0.fOffset)), (.d (.str a0.fText)), (.d (.sl (List.map TMessage.enc a0.fMessages)))])), (6, (.tok ((List.map byteD r32).length * 1))), (4, (.tok ((List.map byteD r23).length * 1))), (2, (.tok ((List.map byteD r14).length * 1)))]) rfl rfl rfl rfl (fun _ => rfl) rfl rfl b43 rfl rfl rfl ?_
  refine RegV.p0 rfl rfl rfl ?_
  refine RegV.nil0 ?_
  refine AWc.seq ?_
  refine AWc.rg hmix rfl rfl ?_
  refine RegV.p0 rfl rfl rfl ?_
  refine RegV.p0 (v := (.ptr 0 5)) rfl rfl rfl ?_
  refine RegV.ld (v := (.d (.sl (List.map TMessage.enc a0.fMessages)))) (H' := [(0, (.cells [(.d (.int .i64 a0.fErr)), (.d (.int .i64 a0.fN)), (.d (.int .i64 a0.fID)), (.d (.int .u64 a0.fOffset)), (.d (.str a0.fText)), (.d (.sl (List.map TMessage.enc a0.fMessages)))])), (9, (.tok ((List.map byteD ((((r11 ++ r14) ++ r23) ++ r32) ++ r42)).length * 1))), (8, (.tok ((List.map byteD r42).length * 1))), (6, (.tok ((List.map byteD r32).length * 1))), (4, (.tok ((List.map byteD r23).length * 1))), (2, (.tok ((List.map byteD r14).length * 1)))]) rfl rfl trivial rfl rfl rfl rfl rfl ?_
  refine RegV.len (xs := a0.fMessages) (e := TMessage.enc) rfl rfl rfl rfl ?_
  obtain ⟨r52, e52, h⟩ := bind_some h
  refine RegV.callS (q := false) (H' := [(10, (.tok ((List.map byteD r52).length * 1))), (0, (.cells [(.d (.int .i64 a0.fErr)), (.d (.int .i64 a0.fN)), (.d (.int .i64 a0.fID)), (.d (.int .u64 a0.fOffset)), (.d (.str a0.fText)), (.d (.sl (List.map TMessage.enc a0.fMessages)))])), (9, (.tok ((List.map byteD ((((r11 ++ r14) ++ r23) ++ r32) ++ r42)).length * 1))), (8, (.tok ((List.map byteD r42).length * 1))), (6, (.tok ((List.map byteD r32).length * 1))), (4, (.tok ((List.map byteD r23).length * 1))), (2, (.tok ((List.map byteD r14).length * 1)))]) (c' := 11) (show ACalls P (N 26) [(.d (.int .i64 ((a0.fMessages.length : Nat) : Int)))] [] (.ap 10 1 (List.map byteD r52)) [(10, (.tok ((List.map byteD r52).length * 1)))] from ACalls.use (F26 hmix hc.2.1 e52) [(0, 10)] 1 rfl) rfl rfl rfl rfl (.cons (.refl _) .nil) (.refl _) (fun h => by cases h) rfl hasNil rfl rfl rfl rfl ?_
  obtain ⟨b53, h⟩ := gd_some h
  refine RegV.appA (xs := ((((r11 ++ r14) ++ r23) ++ r32) ++ r42)) (ys := r52) (e := byteD) (H1 := [(10, (.tok ((List.map byteD r52).length * 1))), (0, (.cells [(.d (.int .i64 a0.fErr)), (.d (.int .i64 a0.fN)), (.d (.int .i64 a0.fID)), (.d (.int .u64 a0.fOffset)), (.d (.str a0.fText)), (.d (.sl (List.map TMessage.enc a0.fMessages)))])), (8, (.tok ((List.map byteD r42).length * 1))), (6, (.tok ((List.map byteD r32).length * 1))), (4, (.tok ((List.map byteD r23).length * 1))), (2, (.tok ((List.map byteD r14).length * 1)))]) rfl rfl rfl rfl (fun _ => rfl) rfl rfl b53 rfl rfl rfl ?_
  refine RegV.p0 rfl rfl rfl ?_
  refine RegV.nil0 ?_
  refine AWc.seq ?_
  refine AWc.seq ?_
  refine AWc.rg hmix rfl rfl ?_
  refine RegV.p0 rfl rfl rfl ?_
  refine RegV.nil0 ?_
  obtain ⟨o60, h60, h⟩ := bind_some h
  refine AWc.block ?_
  refine AWc.loopK (N := 73) 2 (fun (x : ((List UInt8) × Int)) => [(1, (.ptr 0 0)), (3, (.ap 1 1 (List.map byteD x.1))), (4, (.d (.int .i64 x.2)))]) (fun x => [(0, (.cells [(.d (.int .i64 a0.fErr)), (.d (.int .i64 a0.fN)), (.d (.int .i64 a0.fID)), (.d (.int .u64 a0.fOffset)), (.d (.str a0.fText)), (.d (.sl (List.map TMessage.enc a0.fMessages)))])), (1, (.tok ((List.map byteD x.1).length * 1)))]) (fun k x => f66_l60 a0 k x.1 x.2 = some o60) k ((((((r11 ++ r14) ++ r23) ++ r32) ++ r42) ++ r52), (0 : Int)) rfl_le (fun x hx => by cases hx) h60 ⟨rfl, [], [(1, 11)], rfl, rfl, ⟨⟨_, rfl, (.refl _)⟩, rfl, ⟨⟨_, rfl, (.refl _)⟩, rfl, ⟨⟨_, rfl, (.refl _)⟩, rfl, trivial⟩⟩⟩, ⟨⟨_, rfl, (.refl _)⟩, rfl, rfl, ⟨⟨_, rfl, (.refl _)⟩, rfl, rfl, trivial⟩⟩⟩ ?_
  clear h60
  intro k
  rintro ⟨y60_1, y60_2⟩ h60
  dsimp only at h60 ⊢
  rw [f66_l60] at h60
  refine AWc.seq ?_
  refine AWc.seq ?_
  refine AWc.rg hmix rfl rfl ?_
  refine RegV.p0 rfl rfl rfl ?_
  refine RegV.p0 (v := (.ptr 0 5)) rfl rfl rfl ?_
  refine RegV.ld (v := (.d (.sl (List.map TMessage.enc a0.fMessages)))) (H' := [(0, (.cells [(.d (.int .i64 a0.fErr)), (.d (.int .i64 a0.fN)), (.d (.int .i64 a0.fID)), (.d (.int .u64 a0.fOffset)), (.d (.str a0.fText)), (.d (.sl (List.map TMessage.enc a0.fMessages)))])), (1, (.tok ((List.map byteD y60_1).length * 1)))]) rfl rfl trivial rfl rfl rfl rfl rfl ?_
  refine RegV.len (xs := a0.fMessages) (e := TMessage.enc) rfl rfl rfl rfl ?_
  refine RegV.p0 (v := (.d (.bool (decide (y60_2 < ((a0.fMessages.length : Nat) : Int)))))) rfl rfl rfl ?_
  refine RegV.nil0 ?_
  refine AWc.cond rfl (fun c71 => ?_) (fun c71 => ?_)
  · have h60 := cond_pos c71 h60
    refine AWc.skip ?_
    refine AWc.seq ?_
    refine AWc.block ?_
    refine AWc.seq ?_
    refine AWc.rg hmix rfl rfl ?_
    refine RegV.p0 (v := (.ptr 0 5)) rfl rfl rfl ?_
    refine RegV.ld (v := (.d (.sl (List.map TMessage.enc a0.fMessages)))) (H' := [(0, (.cells [(.d (.int .i64 a0.fErr)), (.d (.int .i64 a0.fN)), (.d (.int .i64 a0.fID)), (.d (.int .u64 a0.fOffset)), (.d (.str a0.fText)), (.d (.sl (List.map TMessage.enc a0.fMessages)))])), (1, (.tok ((List.map byteD y60_1).length * 1)))]) rfl rfl trivial rfl rfl rfl rfl rfl ?_
    refine RegV.p0 rfl rfl rfl ?_
    obtain ⟨b82, h60⟩ := gd_some h60
    refine RegV.iad (xs := a0.fMessages) (e := TMessage.enc) rfl rfl rfl rfl (fun _ => rfl) b82 rfl ?_
    refine RegV.p1 (v := (.d (TMessage.enc (rd a0.fMessages y60_2)))) rfl rfl rfl rfl rfl ?_
    refine RegV.evS (own := false) (v := (.ptr 2 0)) (H' := [(2, (.cells [(.d (.int .u64 (0 : Int))), (.d (.int .u64 (0 : Int))), (.d (.int .u64 (0 : Int))), (.d (.int .i64 (0 : Int))), .nils])), (0, (.cells [(.d (.int .i64 a0.fErr)), (.d (.int .i64 a0.fN)), (.d (.int .i64 a0.fID)), (.d (.int .u64 a0.fOffset)), (.d (.str a0.fText)), (.d (.sl (List.map TMessage.enc a0.fMessages)))])), (1, (.tok ((List.map byteD y60_1).length * 1)))]) (c' := 3) rfl rfl trivial rfl rfl rfl rfl rfl rfl ?_
    refine RegV.evN (own := false) (H' := [(2, (.cells [(.d (.int .u64 (rd a0.fMessages y60_2).fOffset)), (.d (.int .u64 (rd a0.fMessages y60_2).fProducer)), (.d (.int .u64 (rd a0.fMessages y60_2).fSeq)), (.d (.int .i64 (rd a0.fMessages y60_2).fVersion)), (.d (.sl (List.map byteD (rd a0.fMessages y60_2).fData)))])), (0, (.cells [(.d (.int .i64 a0.fErr)), (.d (.int .i64 a0.fN)), (.d (.int .i64 a0.fID)), (.d (.int .u64 a0.fOffset)), (.d (.str a0.fText)), (.d (.sl (List.map TMessage.enc a0.fMessages)))])), (1, (.tok ((List.map byteD y60_1).length * 1)))]) (c' := 3) rfl rfl (by exact ⟨rfl, Nat.le_of_ble_eq_true rfl, rfl⟩) rfl rfl rfl rfl ?_
    refine RegV.nil0 ?_
    refine AWc.seq ?_
    refine AWc.rg hmix rfl rfl ?_
    refine RegV.p0 rfl rfl rfl ?_
    refine RegV.p0 (v := (.ptr 2 0)) rfl rfl rfl ?_
    refine RegV.ld (v := (.d (.int .u64 (rd a0.fMessages y60_2).fOffset))) (H' := [(2, (.cells [(.d (.int .u64 (rd a0.fMessages y60_2).fOffset)), (.d (.int .u64 (rd a0.fMessages y60_2).fProducer)), (.d (.int .u64 (rd a0.fMessages y60_2).fSeq)), (.d (.int .i64 (rd a0.fMessages y60_2).fVersion)), (.d (.sl (List.map byteD (rd a0.fMessages y60_2).fData)))])), (0, (.cells [(.d (.int .i64 a0.fErr)), (.d (.int .i64 a0.fN)), (.d (.int .i64 a0.fID)), (.d (.int .u64 a0.fOffset)), (.d (.str a0.fText)), (.d (.sl (List.map TMessage.enc a0.fMessages)))])), (1, (.tok ((List.map byteD y60_1).length * 1)))]) rfl rfl trivial rfl rfl rfl rfl rfl ?_
    obtain ⟨r92, e92, h60⟩ := bind_some h60
    refine RegV.callS (q := false) (H' := [(3, (.tok ((List.map byteD r92).length * 1))), (2, (.cells [(.d (.int .u64 (rd a0.fMessages y60_2).fOffset)), (.d (.int .u64 (rd a0.fMessages y60_2).fProducer)), (.d (.int .u64 (rd a0.fMessages y60_2).fSeq)), (.d (.int .i64 (rd a0.fMessages y60_2).fVersion)), (.d (.sl (List.map byteD (rd a0.fMessages y60_2).fData)))])), (0, (.cells [(.d (.int .i64 a0.fErr)), (.d (.int .i64 a0.fN)), (.d (.int .i64 a0.fID)), (.d (.int .u64 a0.fOffset)), (.d (.str a0.fText)), (.d (.sl (List.map TMessage.enc a0.fMessages)))])), (1, (.tok ((List.map byteD y60_1).length * 1)))]) (c' := 4) (show ACalls P (N 24) [(.d (.int .u64 ((rd a0.fMessages y60_2).fOffset)))] [] (.ap 3 1 (List.map byteD r92)) [(3, (.tok ((List.map byteD r92).length * 1)))] from ACalls.use (F24 hmix hc.2.2.1 e92) [(0, 3)] 1 rfl) rfl rfl rfl rfl (.cons (.refl _) .nil) (.refl _) (fun h => by cases h) rfl hasNil rfl rfl rfl rfl ?_
    obtain ⟨b93, h60⟩ := gd_some h60
    refine RegV.appA (xs := y60_1) (ys := r92) (e := byteD) (H1 := [(3, (.tok ((List.map byteD r92).length * 1))), (2, (.cells [(.d (.int .u64 (rd a0.fMessages y60_2).fOffset)), (.d (.int .u64 (rd a0.fMessages y60_2).fProducer)), (.d (.int .u64 (rd a0.fMessages y60_2).fSeq)), (.d (.int .i64 (rd a0.fMessages y60_2).fVersion)), (.d (.sl (List.map byteD (rd a0.fMessages y60_2).fData)))])), (0, (.cells [(.d (.int .i64 a0.fErr)), (.d (.int .i64 a0.fN)), (.d (.int .i64 a0.fID)), (.d (.int .u64 a0.fOffset)), (.d (.str a0.fText)), (.d (.sl (List.map TMessage.enc a0.fMessages)))]))]) rfl rfl rfl rfl (fun _ => rfl) rfl rfl b93 rfl rfl rfl ?_
    refine RegV.p0 rfl rfl rfl ?_
    refine RegV.nil0 ?_
    refine AWc.seq ?_
    refine AWc.rg hmix rfl rfl ?_
    refine RegV.p0 rfl rfl rfl ?_
    refine RegV.p0 (v := (.ptr 2 1)) rfl rfl rfl ?_
    refine RegV.ld (v := (.d (.int .u64 (rd a0.fMessages y60_2).fProducer))) (H' := [(2, (.cells [(.d (.int .u64 (rd a0.fMessages y60_2).fOffset)), (.d (.int .u64 (rd a0.fMessages y60_2).fProducer)), (.d (.int .u64 (rd a0.fMessages y60_2).fSeq)), (.d (.int .i64 (rd a0.fMessages y60_2).fVersion)), (.d (.sl (List.map byteD (rd a0.fMessages y60_2).fData)))])), (4, (.tok ((List.map byteD (y60_1 ++ r92)).length * 1))), (3, (.tok ((List.map byteD r92).length * 1))), (0, (.cells [(.d (.int .i64 a0.fErr)), (.d (.int .i64 a0.fN)), (.d (.int .i64 a0.fID)), (.d (.int .u64 a0.fOffset)), (.d (.str a0.fText)), (.d (.sl (List.map TMessage.enc a0.fMessages)))]))]) rfl rfl trivial rfl rfl rfl rfl rfl ?_
    obtain ⟨r101, e101, h60⟩ := bind_some h60
    refine RegV.callS (q := false) (H' := [(5, (.tok ((List.map byteD r101).length * 1))), (2, (.cells [(.d (.int .u64 (rd a0.fMessages y60_2).fOffset)), (.d (.int .u64 (rd a0.fMessages y60_2).fProducer)), (.d (.int .u64 (rd a0.fMessages y60_2).fSeq)), (.d (.int .i64 (rd a0.fMessages y60_2).fVersion)), (.d (.sl (List.map byteD (rd a0.fMessages y60_2).fData)))])), (4, (.tok ((List.map byteD (y60_1 ++ r92)).length * 1))), (3, (.tok ((List.map byteD r92).length * 1))), (0, (.cells [(.d (.int .i64 a0.fErr)), (.d (.int .i64 a0.fN)), (.d (.int .i64 a0.fID)), (.d (.int .u64 a0.fOffset)), (.d (.str a0.fText)), (.d (.sl (List.map TMessage.enc a0.fMessages)))]))]) (c' := 6) (show ACalls P (N 24) [(.d (.int .u64 ((rd a0.fMessages y60_2).fProducer)))] [] (.ap 5 1 (List.map byteD r101)) [(5, (.tok ((List.map byteD r101).length * 1)))] from ACalls.use (F24 hmix hc.2.2.1 e101) [(0, 5)] 1 rfl) rfl rfl rfl rfl (.cons (.refl _) .nil) (.refl _) (fun h => by cases h) rfl hasNil rfl rfl rfl rfl ?_
    obtain ⟨b102, h60⟩ := gd_some h60
    refine RegV.appA (xs := (y60_1 ++ r92)) (ys := r101) (e := byteD) (H1 := [(5, (.tok ((List.map byteD r101).length * 1))), (2, (.cells [(.d (.int .u64 (rd a0.fMessages y60_2).fOffset)), (.d (.int .u64 (rd a0.fMessages y60_2).fProducer)), (.d (.int .u64 (rd a0.fMessages y60_2).fSeq)), (.d (.int .i64 (rd a0.fMessages y60_2).fVersion)), (.d (.sl (List.map byteD (rd a0.fMessages y60_2).fData)))])), (3, (.tok ((List.map byteD r92).length * 1))), (0, (.cells [(.d (.int .i64 a0.fErr)), (.d (.int .i64 a0.fN)), (.d (.int .i64 a0.fID)), (.d (.int .u64 a0.fOffset)), (.d (.str a0.fText)), (.d (.sl (List.map TMessage.enc a0.fMessages)))]))]) rfl rfl rfl rfl (fun _ => rfl) rfl rfl b102 rfl rfl rfl ?_
    refine RegV.p0 rfl rfl rfl ?_
    refine RegV.nil0 ?_
    refine AWc.seq ?_
    refine AWc.rg hmix rfl rfl ?_
    refine RegV.p0 rfl rfl rfl ?_
    refine RegV.p0 (v := (.ptr 2 2)) rfl rfl rfl ?_
    refine RegV.ld (v := (.d (.int .u64 (rd a0.fMessages y60_2).fSeq))) (H' := [(2, (.cells [(.d (.int .u64 (rd a0.fMessages y60_2).fOffset)), (.d (.int .u64 (rd a0.fMessages y60_2).fProducer)), (.d (.int .u64 (rd a0.fMessages y60_2).fSeq)), (.d (.int .i64 (rd a0.fMessages y60_2).fVersion)), (.d (.sl (List.map byteD (rd a0.fMessages y60_2).fData)))])), (6, (.tok ((List.map byteD ((y60_1 ++ r92) ++ r101)).length * 1))), (5, (.tok ((List.map byteD r101).length * 1))), (3, (.tok ((List.map byteD r92).length * 1))), (0, (.cells [(.d (.int .i64 a0.fErr)), (.d (.int .i64 a0.fN)), (.d (.int .i64 a0.fID)), (.d (.int .u64 a0.fOffset)), (.d (.str a0.fText)), (.d (.sl (List.map TMessage.enc a0.fMessages)))]))]) rfl rfl trivial rfl rfl rfl rfl rfl ?_
    obtain ⟨r110, e110, h60⟩ := bind_some h60
    refine RegV.callS (q := false) (H' := [(7, (.tok ((List.map byteD r110).length * 1))), (2, (.cells [(.d (.int .u64 (rd a0.fMessages y60_2).fOffset)), (.d (.int .u64 (rd a0.fMessages y60_2).fProducer)), (.d (.int .u64 (rd a0.fMessages y60_2).fSeq)), (.d (.int .i64 (rd a0.fMessages y60_2).fVersion)), (.d (.sl (List.map byteD (rd a0.fMessages y60_2).fData)))])), (6, (.tok ((List.map byteD ((y60_1 ++ r92) ++ r101)).length * 1))), (5, (.tok ((List.map byteD r101).length * 1))), (3, (.tok ((List.map byteD r92).length * 1))), (0, (.cells [(.d (.int .i64 a0.fErr)), (.d (.int .i64 a0.fN)), (.d (.int .i64 a0.fID)), (.d (.int .u64 a0.fOffset)), (.d (.str a0.fText)), (.d (.sl (List.map TMessage.enc a0.fMessages)))]))]) (c' := 8) (show ACalls P (N 24) [(.d (.int .u64 ((rd a0.fMessages y60_2).fSeq)))] [] (.ap 7 1 (List.map byteD r110)) [(7, (.tok ((List.map byteD r110).length * 1)))] from ACalls.use (F24 hmix hc.2.2.1 e110) [(0, 7)] 1 rfl) rfl rfl rfl rfl (.cons (.refl _) .nil) (.refl _) (fun h => by cases h) rfl hasNil rfl rfl rfl rfl ?_
    obtain ⟨b111, h60⟩ := gd_some h60
    refine RegV.appA (xs := ((y60_1 ++ r92) ++ r101)) (ys := r110) (e := byteD) (H1 := [(7, (.tok ((List.map byteD r110).length * 1))), (2, (.cells [(.d (.int .u64 (rd a0.fMessages y60_2).fOffset)), (.d (.int .u64 (rd a0.fMessages y60_2).fProducer)), (.d (.int .u64 (rd a0.fMessages y60_2).fSeq)), (.d (.int .i64 (rd a0.fMessages y60_2).fVersion)), (.d (.sl (List.map byteD (rd a0.fMessages y60_2).fData)))])), (5, (.tok ((List.map byteD r101).length * 1))), (3, (.tok ((List.map byteD r92).length * 1))), (0, (.cells [(.d (.int .i64 a0.fErr)), (.d (.int .i64 a0.fN)), (.d (.int .i64 a0.fID)), (.d (.int .u64 a0.fOffset)), (.d (.str a0.fText)), (.d (.sl (List.map TMessage.enc a0.fMessages)))]))]) rfl rfl rfl rfl (fun _ => rfl) rfl rfl b111 rfl rfl rfl ?_
    refine RegV.p0 rfl rfl rfl ?_
    refine RegV.nil0 ?_
    refine AWc.seq ?_
    refine AWc.rg hmix rfl rfl ?_
    refine RegV.p0 rfl rfl rfl ?_
    refine RegV.p0 (v := (.ptr 2 3)) rfl rfl rfl ?_
    refine RegV.ld (v := (.d (.int .i64 (rd a0.fMessages y60_2).fVersion))) (H' := [(2, (.cells [(.d (.int .u64 (rd a0.fMessages y60_2).fOffset)), (.d (.int .u64 (rd a0.fMessages y60_2).fProducer)), (.d (.int .u64 (rd a0.fMessages y60_2).fSeq)), (.d (.int .i64 (rd a0.fMessages y60_2).fVersion)), (.d (.sl (List.map byteD (rd a0.fMessages y60_2).fData)))])), (8, (.tok ((List.map byteD (((y60_1 ++ r92) ++ r101) ++ r110)).length * 1))), (7, (.tok ((List.map byteD r110).length * 1))), (5, (.tok ((List.map byteD r101).length * 1))), (3, (.tok ((List.map byteD r92).length * 1))), (0, (.cells [(.d (.int .i64 a0.fErr)), (.d (.int .i64 a0.fN)), (.d (.int .i64 a0.fID)), (.d (.int .u64 a0.fOffset)), (.d (.str a0.fText)), (.d (.sl (List.map TMessage.enc a0.fMessages)))]))]) rfl rfl trivial rfl rfl rfl rfl rfl ?_
    obtain ⟨r119, e119, h60⟩ := bind_some h60
    refine RegV.callS (q := false) (H' := [(9, (.tok ((List.map byteD r119).length * 1))), (2, (.cells [(.d (.int .u64 (rd a0.fMessages y60_2).fOffset)), (.d (.int .u64 (rd a0.fMessages y60_2).fProducer)), (.d (.int .u64 (rd a0.fMessages y60_2).fSeq)), (.d (.int .i64 (rd a0.fMessages y60_2).fVersion)), (.d (.sl (List.map byteD (rd a0.fMessages y60_2).fData)))])), (8, (.tok ((List.map byteD (((y60_1 ++ r92) ++ r101) ++ r110)).length * 1))), (7, (.tok ((List.map byteD r110).length * 1))), (5, (.tok ((List.map byteD r101).length * 1))), (3, (.tok ((List.map byteD r92).length * 1))), (0, (.cells [(.d (.int .i64 a0.fErr)), (.d (.int .i64 a0.fN)), (.d (.int .i64 a0.fID)), (.d (.int .u64 a0.fOffset)), (.d (.str a0.fText)), (.d (.sl (List.map TMessage.enc a0.fMessages)))]))]) (c' := 10) (show ACalls P (N 26) [(.d (.int .i64 ((rd a0.fMessages y60_2).fVersion)))] [] (.ap 9 1 (List.map byteD r119)) [(9, (.tok ((List.map byteD r119).length * 1)))] from ACalls.use (F26 hmix hc.2.1 e119) [(0, 9)] 1 rfl) rfl rfl rfl rfl (.cons (.refl _) .nil) (.refl _) (fun h => by cases h) rfl hasNil rfl rfl rfl rfl ?_
    obtain ⟨b120, h60⟩ := gd_some h60
    refine RegV.appA (xs := (((y60_1 ++ r92) ++ r101) ++ r110)) (ys := r119) (e := byteD) (H1 := [(9, (.tok ((List.map byteD r119).length * 1))), (2, (.cells [(.d (.int .u64 (rd a0.fMessages y60_2).fOffset)), (.d (.int .u64 (rd a0.fMessages y60_2).fProducer)), (.d (.int .u64 (rd a0.fMessages y60_2).fSeq)), (.d (.int .i64 (rd a0.fMessages y60_2).fVersion)), (.d (.sl (List.map byteD (rd a0.fMessages y60_2).fData)))])), (7, (.tok ((List.map byteD r110).length * 1))), (5, (.tok ((List.map byteD r101).length * 1))), (3, (.tok ((List.map byteD r92).length * 1))), (0, (.cells [(.d (.int .i64 a0.fErr)), (.d (.int .i64 a0.fN)), (.d (.int .i64 a0.fID)), (.d (.int .u64 a0.fOffset)), (.d (.str a0.fText)), (.d (.sl (List.map TMessage.enc a0.fMessages)))]))]) rfl rfl rfl rfl (fun _ => rfl) rfl rfl b120 rfl rfl rfl ?_
    refine RegV.p0 rfl rfl rfl ?_
    refine RegV.nil0 ?_
    refine AWc.rg hmix rfl rfl ?_
    refine RegV.p0 rfl rfl rfl ?_
    refine RegV.p0 (v := (.ptr 2 4)) rfl rfl rfl ?_
    refine RegV.ld (v := (.d (.sl (List.map byteD (rd a0.fMessages y60_2).fData)))) (H' := [(2, (.cells [(.d (.int .u64 (rd a0.fMessages y60_2).fOffset)), (.d (.int .u64 (rd a0.fMessages y60_2).fProducer)), (.d (.int .u64 (rd a0.fMessages y60_2).fSeq)), (.d (.int .i64 (rd a0.fMessages y60_2).fVersion)), (.d (.sl (List.map byteD (rd a0.fMessages y60_2).fData)))])), (10, (.tok ((List.map byteD ((((y60_1 ++ r92) ++ r101) ++ r110) ++ r119)).length * 1))), (9, (.tok ((List.map byteD r119).length * 1))), (7, (.tok ((List.map byteD r110).length * 1))), (5, (.tok ((List.map byteD r101).length * 1))), (3, (.tok ((List.map byteD r92).length * 1))), (0, (.cells [(.d (.int .i64 a0.fErr)), (.d (.int .i64 a0.fN)), (.d (.int .i64 a0.fID)), (.d (.int .u64 a0.fOffset)), (.d (.str a0.fText)), (.d (.sl (List.map TMessage.enc a0.fMessages)))]))]) rfl rfl trivial rfl rfl rfl rfl rfl ?_
    obtain ⟨r127, e127, h60⟩ := bind_some h60
    refine RegV.callS (q := false) (H' := [(11, (.tok ((List.map byteD r127).length * 1))), (2, (.cells [(.d (.int .u64 (rd a0.fMessages y60_2).fOffset)), (.d (.int .u64 (rd a0.fMessages y60_2).fProducer)), (.d (.int .u64 (rd a0.fMessages y60_2).fSeq)), (.d (.int .i64 (rd a0.fMessages y60_2).fVersion)), (.d (.sl (List.map byteD (rd a0.fMessages y60_2).fData)))])), (10, (.tok ((List.map byteD ((((y60_1 ++ r92) ++ r101) ++ r110) ++ r119)).length * 1))), (9, (.tok ((List.map byteD r119).length * 1))), (7, (.tok ((List.map byteD r110).length * 1))), (5, (.tok ((List.map byteD r101).length * 1))), (3, (.tok ((List.map byteD r92).length * 1))), (0, (.cells [(.d (.int .i64 a0.fErr)), (.d (.int .i64 a0.fN)), (.d (.int .i64 a0.fID)), (.d (.int .u64 a0.fOffset)), (.d (.str a0.fText)), (.d (.sl (List.map TMessage.enc a0.fMessages)))]))]) (c' := 12) (show ACalls P (N 28) [(.d (.sl (List.map byteD ((rd a0.fMessages y60_2).fData))))] [] (.ap 11 1 (List.map byteD r127)) [(11, (.tok ((List.map byteD r127).length * 1)))] from ACalls.use (F28 hmix hc.2.2.2 e127) [(0, 11)] 1 rfl) rfl rfl rfl rfl (.cons (.refl _) .nil) (.refl _) (fun h => by cases h) rfl hasNil rfl rfl rfl rfl ?_
    obtain ⟨b128, h60⟩ := gd_some h60
    refine RegV.appA (xs := ((((y60_1 ++ r92) ++ r101) ++ r110) ++ r119)) (ys := r127) (e := byteD) (H1 := [(11, (.tok ((List.map byteD r127).length * 1))), (2, (.cells [(.d (.int .u64 (rd a0.fMessages y60_2).fOffset)), (.d (.int .u64 (rd a0.fMessages y60_2).fProducer)), (.d (.int .u64 (rd a0.fMessages y60_2).fSeq)), (.d (.int .i64 (rd a0.fMessages y60_2).fVersion)), (.d (.sl (List.map byteD (rd a0.fMessages y60_2).fData)))])), (9, (.tok ((List.map byteD r119).length * 1))), (7, (.tok ((List.map byteD r110).length * 1))), (5, (.tok ((List.map byteD r101).length * 1))), (3, (.tok ((List.map byteD r92).length * 1))), (0, (.cells [(.d (.int .i64 a0.fErr)), (.d (.int .i64 a0.fN)), (.d (.int .i64 a0.fID)), (.d (.int .u64 a0.fOffset)), (.d (.str a0.fText)), (.d (.sl (List.map TMessage.enc a0.fMessages)))]))]) rfl rfl rfl rfl (fun _ => rfl) rfl rfl b128 rfl rfl rfl ?_
    refine RegV.p0 rfl rfl rfl ?_
    refine RegV.nil0 ?_
    refine AWc.rg hmix rfl rfl ?_
    refine RegV.p0 rfl rfl rfl ?_
    refine RegV.p0 (v := (.d (.int .i64 (IntKind.i64.wrap (y60_2 + (1 : Int)))))) rfl rfl rfl ?_
    refine RegV.p0 rfl rfl rfl ?_
    refine RegV.nil0 ?_
    exact ⟨((((((y60_1 ++ r92) ++ r101) ++ r110) ++ r119) ++ r127), (IntKind.i64.wrap (y60_2 + (1 : Int)))), h60, ⟨rfl, [], [(1, 12)], rfl, rfl, ⟨⟨_, rfl, (.refl _)⟩, rfl, ⟨⟨_, rfl, (.refl _)⟩, rfl, ⟨⟨_, rfl, (.refl _)⟩, rfl, trivial⟩⟩⟩, ⟨⟨_, rfl, (.refl _)⟩, rfl, rfl, ⟨⟨_, rfl, (.refl _)⟩, rfl, rfl, trivial⟩⟩⟩⟩
  · have h60 := cond_neg c71 h60
    cases h60
    dsimp only at h
    refine AWc.exit ?_
    refine inBlk_eq ?_
    refine AWc.seq ?_
    refine AWc.rg hmix rfl rfl ?_
    refine RegV.p0 rfl rfl rfl ?_
    refine RegV.p0 rfl rfl rfl ?_
    refine RegV.nil0 ?_
    have hr := Option.some.inj h
    subst hr
    exact AWc.ret (canQ (N := 73) (k := 1) (l' := [(2, (.ap 0 1 (List.map byteD y60_1)))]) (H' := [(0, (.tok ((List.map byteD y60_1).length * 1)))]) rfl ⟨rfl, [], [(0, 1)], rfl, rfl, ⟨⟨_, rfl, (.refl _)⟩, rfl, trivial⟩, ⟨⟨_, rfl, (.refl _)⟩, rfl, rfl, trivial⟩⟩ (doneA (.inr rfl) rfl ⟨trivial, trivial⟩ (.refl _) (hasCons rfl hasNil)))
/-- courant/couranthelp.Bytes -/
def C22 (N : Nat → Nat) : AFunc := { n := 10, params := 2, res := [.tmp 4], body :=
 (.seq (.region false [⟨(some 4), .mv (.k (.d (.bool false))), none, []⟩])
  (.seq (.region false [⟨(some 5), .mv (.t 0), none, []⟩,
    ⟨(some 6), .bs2s (.t 5), none, [0]⟩,
    ⟨(some 7), .mv (.t 1), none, []⟩,
    ⟨(some 8), .bs2s (.t 7), none, [2]⟩,
    ⟨(some 9), .bin .eql (.t 6) (.t 8), none, [1, 3]⟩,
    ⟨(some 4), .mv (.t 9), none, [4, 0, 1, 2, 3]⟩])
   .ret)) }
def HC22 (P : Program) (N : Nat → Nat) : Prop := HasF P (N 22) (C22 N)
def f22 (k : Nat) (a0 : (List UInt8)) (a1 : (List UInt8)) : Option Unit := some ()
theorem F22 {P : Program} {N : Nat → Nat} (hmix : P.follows .mixedOrders = true) (hc : HC22 P N) {k : Nat} {a0 : (List UInt8)} {a1 : (List UInt8)} {r : Unit} (h : f22 k a0 a1 = some r) :
    ACalls P (N 22) [(.d (.sl (List.map byteD a0))), (.d (.sl (List.map byteD a1)))] [] (.d (.bool (decide (a0 = a1)))) [] := by
  refine acalls_canon (F := C22 N) hc 0 0 rfl ?_
  unfold f22 at h
  dsimp only [C22, startL]
  refine AWc.seq ?_
  refine AWc.rg hmix rfl rfl ?_
  refine RegV.p0 rfl rfl rfl ?_
  refine RegV.nil0 ?_
  refine AWc.seq ?_
  refine AWc.rg hmix rfl rfl ?_
  refine RegV.p0 rfl rfl rfl ?_
  refine RegV.bs2s (b := a0) rfl rfl rfl ?_
  refine RegV.p0 rfl rfl rfl ?_
  refine RegV.bs2s (b := a1) rfl rfl rfl ?_
  refine RegV.p0 (v := (.d (.bool (decide (a0 = a1))))) rfl rfl rfl ?_
  refine RegV.p0 rfl rfl rfl ?_
  refine RegV.nil0 ?_
  have hr := Option.some.inj h
  subst hr
  exact AWc.ret (canQ (N := 10) (k := 0) (l' := [(4, (.d (.bool (decide (a0 = a1)))))]) (H' := []) rfl ⟨rfl, [], [], rfl, rfl, ⟨⟨_, rfl, (.refl _)⟩, rfl, trivial⟩,  trivial⟩ (doneA (.inr rfl) rfl ⟨trivial, trivial⟩ (.refl _) hasNil))
/-- courant/couranthelp.Message -/
def C38 (N : Nat → Nat) : AFunc := { n := 38, params := 2, res := [.tmp 4], body :=
 (.seq (.region false [⟨(some 2), .box (.t 0), none, []⟩,
   ⟨(some 3), .box (.t 1), none, []⟩,
   ⟨(some 4), .mv (.k (.d (.bool false))), none, []⟩])
  (.seq (.region false [⟨(some 5), .faddr (.t 2) 0, none, []⟩,
    ⟨(some 6), .load (.t 5) 1 false, none, [0]⟩,
    ⟨(some 7), .faddr (.t 3) 0, none, []⟩,
    ⟨(some 8), .load (.t 7) 1 false, none, [2]⟩,
    ⟨(some 9), .bin .eql (.t 6) (.t 8), none, [1, 3]⟩,
    ⟨(some 10), .mv (.t 9), none, [4]⟩,
    ⟨(some 11), .faddr (.t 2) 1, (some (10, true)), [5]⟩,
    ⟨(some 12), .load (.t 11) 1 false, (some (10, true)), [6, 5]⟩,
    ⟨(some 13), .faddr (.t 3) 1, (some (10, true)), [5]⟩,
    ⟨(some 14), .load (.t 13) 1 false, (some (10, true)), [8, 5]⟩,
    ⟨(some 15), .bin .eql (.t 12) (.t 14), (some (10, true)), [7, 9, 5]⟩,
    ⟨(some 16), .pick (.t 10) (.t 15) (.k (.d (.bool false))), none, [5, 10]⟩,
    ⟨(some 17), .mv (.t 16), none, [11, 5]⟩,
    ⟨(some 18), .faddr (.t 2) 2, (some (17, true)), [12]⟩,
    ⟨(some 19), .load (.t 18) 1 false, (some (17, true)), [13, 12]⟩,
    ⟨(some 20), .faddr (.t 3) 2, (some (17, true)), [12]⟩,
    ⟨(some 21), .load (.t 20) 1 false, (some (17, true)), [15, 12]⟩,
    ⟨(some 22), .bin .eql (.t 19) (.t 21), (some (17, true)), [14, 16, 12]⟩,
    ⟨(some 23), .pick (.t 17) (.t 22) (.k (.d (.bool false))), none, [12, 17]⟩,
    ⟨(some 24), .mv (.t 23), none, [18, 12]⟩,
    ⟨(some 25), .faddr (.t 2) 3, (some (24, true)), [19]⟩,
    ⟨(some 26), .load (.t 25) 1 false, (some (24, true)), [20, 19]⟩,
    ⟨(some 27), .faddr (.t 3) 3, (some (24, true)), [19]⟩,
    ⟨(some 28), .load (.t 27) 1 false, (some (24, true)), [22, 19]⟩,
    ⟨(some 29), .bin .eql (.t 26) (.t 28), (some (24, true)), [21, 23, 19]⟩,
    ⟨(some 30), .pick (.t 24) (.t 29) (.k (.d (.bool false))), none, [19, 24]⟩,
    ⟨(some 31), .mv (.t 30), none, [25, 19]⟩,
    ⟨(some 32), .faddr (.t 2) 4, (some (31, true)), [26]⟩,
    ⟨(some 33), .load (.t 32) 1 false, (some (31, true)), [27, 26]⟩,
    ⟨(some 34), .faddr (.t 3) 4, (some (31, true)), [26]⟩,
    ⟨(some 35), .load (.t 34) 1 false, (some (31, true)), [29, 26]⟩,
    ⟨(some 36), .call (.k (.d (.fn (N 22)))) [(.t 33), (.t 35)], (some (31, true)), [28, 30, 26]⟩,
    ⟨(some 37), .pick (.t 31) (.t 36) (.k (.d (.bool false))), none, [26, 31]⟩,
    ⟨(some 4), .mv (.t 37), none, [32, 31, 0, 1, 2, 3, 4, 5, 6, 7, 8, 9, 10, 11, 12, 13, 14, 15, 16, 17, 18, 19, 20, 21, 22, 23, 24, 25, 26, 27, 28, 29, 30]⟩])
   .ret)) }
def HC38 (P : Program) (N : Nat → Nat) : Prop := HasF P (N 38) (C38 N) ∧ HC22 P N
def f38 (k : Nat) (a0 : TMessage) (a1 : TMessage) : Option Bool := cond (decide (a0.fOffset = a1.fOffset)) (cond (decide (a0.fProducer = a1.fProducer)) (cond (decide (a0.fSeq = a1.fSeq)) (cond (decide (a0.fVersion = a1.fVersion)) ((f22 k a0.fData a1.fData).bind fun r41 => some (decide (a0.fData = a1.fData))) (some false)) (some false)) (some false)) (some false)
theorem F38 {P : Program} {N : Nat → Nat} (hmix : P.follows .mixedOrders = true) (hc : HC38 P N) {k : Nat} {a0 : TMessage} {a1 : TMessage} {r : Bool} (h : f38 k a0 a1 = some r) :
    ACalls P (N 38) [(.d (TMessage.enc a0)), (.d (TMessage.enc a1))] [] (.d (.bool r)) [] := by
  refine acalls_canon (F := C38 N) hc.1 0 0 rfl ?_
  unfold f38 at h
  dsimp only [C38, startL]
  refine AWc.seq ?_
  refine AWc.rg hmix rfl rfl ?_
  refine RegV.evS (own := false) (v := (.ptr 0 0)) (H' := [(0, (.cells [(.d (.int .u64 a0.fOffset)), (.d (.int .u64 a0.fProducer)), (.d (.int .u64 a0.fSeq)), (.d (.int .i64 a0.fVersion)), (.d (.sl (List.map byteD a0.fData)))]))]) (c' := 1) rfl rfl trivial rfl rfl rfl rfl rfl rfl ?_
  refine RegV.evS (own := false) (v := (.ptr 1 0)) (H' := [(1, (.cells [(.d (.int .u64 a1.fOffset)), (.d (.int .u64 a1.fProducer)), (.d (.int .u64 a1.fSeq)), (.d (.int .i64 a1.fVersion)), (.d (.sl (List.map byteD a1.fData)))])), (0, (.cells [(.d (.int .u64 a0.fOffset)), (.d (.int .u64 a0.fProducer)), (.d (.int .u64 a0.fSeq)), (.d (.int .i64 a0.fVersion)), (.d (.sl (List.map byteD a0.fData)))]))]) (c' := 2) rfl rfl trivial rfl rfl rfl rfl rfl rfl ?_
  refine RegV.p0 rfl rfl rfl ?_
  refine RegV.nil0 ?_
  refine AWc.seq ?_
  refine AWc.rg hmix rfl rfl ?_
  refine RegV.p0 (v := (.ptr 0 0)) rfl rfl rfl ?_
  refine RegV.ld (v := (.d (.int .u64 a0.fOffset))) (H' := [(0, (.cells [(.d (.int .u64 a0.fOffset)), (.d (.int .u64 a0.fProducer)), (.d (.int .u64 a0.fSeq)), (.d (.int .i64 a0.fVersion)), (.d (.sl (List.map byteD a0.fData)))])), (1, (.cells [(.d (.int .u64 a1.fOffset)), (.d (.int .u64 a1.fProducer)), (.d (.int .u64 a1.fSeq)), (.d (.int .i64 a1.fVersion)), (.d (.sl (List.map byteD a1.fData)))]))]) rfl rfl trivial rfl rfl rfl rfl rfl ?_
  refine RegV.p0 (v := (.ptr 1 0)) rfl rfl rfl ?_
  refine RegV.ld (v := (.d (.int .u64 a1.fOffset))) (H' := [(1, (.cells [(.d (.int .u64 a1.fOffset)), (.d (.int .u64 a1.fProducer)), (.d (.int .u64 a1.fSeq)), (.d (.int .i64 a1.fVersion)), (.d (.sl (List.map byteD a1.fData)))])), (0, (.cells [(.d (.int .u64 a0.fOffset)), (.d (.int .u64 a0.fProducer)), (.d (.int .u64 a0.fSeq)), (.d (.int .i64 a0.fVersion)), (.d (.sl (List.map byteD a0.fData)))]))]) rfl rfl trivial rfl rfl rfl rfl rfl ?_
  refine RegV.p0 (v := (.d (.bool (decide (a0.fOffset = a1.fOffset))))) rfl rfl rfl ?_
  refine RegV.p0 rfl rfl rfl ?_
  refine RegV.split (fun c15 => ?_) (fun c15 => ?_)
  · have h := cond_pos c15 h
    refine RegV.p0 (v := (.ptr 0 1)) rfl rfl rfl ?_
    refine RegV.ld (v := (.d (.int .u64 a0.fProducer))) (H' := [(0, (.cells [(.d (.int .u64 a0.fOffset)), (.d (.int .u64 a0.fProducer)), (.d (.int .u64 a0.fSeq)), (.d (.int .i64 a0.fVersion)), (.d (.sl (List.map byteD a0.fData)))])), (1, (.cells [(.d (.int .u64 a1.fOffset)), (.d (.int .u64 a1.fProducer)), (.d (.int .u64 a1.fSeq)), (.d (.int .i64 a1.fVersion)), (.d (.sl (List.map byteD a1.fData)))]))]) rfl rfl trivial rfl rfl rfl rfl rfl ?_
    refine RegV.p0 (v := (.ptr 1 1)) rfl rfl rfl ?_
    refine RegV.ld (v := (.d (.int .u64 a1.fProducer))) (H' := [(1, (.cells [(.d (.int .u64 a1.fOffset)), (.d (.int .u64 a1.fProducer)), (.d (.int .u64 a1.fSeq)), (.d (.int .i64 a1.fVersion)), (.d (.sl (List.map byteD a1.fData)))])), (0, (.cells [(.d (.int .u64 a0.fOffset)), (.d (.int .u64 a0.fProducer)), (.d (.int .u64 a0.fSeq)), (.d (.int .i64 a0.fVersion)), (.d (.sl (List.map byteD a0.fData)))]))]) rfl rfl trivial rfl rfl rfl rfl rfl ?_
    refine RegV.p0 (v := (.d (.bool (decide (a0.fProducer = a1.fProducer))))) rfl rfl rfl ?_
    refine RegV.p0 rfl rfl rfl ?_
    refine RegV.p0 rfl rfl rfl ?_
    refine RegV.split (fun c22 => ?_) (fun c22 => ?_)
    · have h := cond_pos c22 h
      refine RegV.p0 (v := (.ptr 0 2)) rfl rfl rfl ?_
      refine RegV.ld (v := (.d (.int .u64 a0.fSeq))) (H' := [(0, (.cells [(.d (.int .u64 a0.fOffset)), (.d (.int .u64 a0.fProducer)), (.d (.int .u64 a0.fSeq)), (.d (.int .i64 a0.fVersion)), (.d (.sl (List.map byteD a0.fData)))])), (1, (.cells [(.d (.int .u64 a1.fOffset)), (.d (.int .u64 a1.fProducer)), (.d (.int .u64 a1.fSeq)), (.d (.int .i64 a1.fVersion)), (.d (.sl (List.map byteD a1.fData)))]))]) rfl rfl trivial rfl rfl rfl rfl rfl ?_
      refine RegV.p0 (v := (.ptr 1 2)) rfl rfl rfl ?_
      refine RegV.ld (v := (.d (.int .u64 a1.fSeq))) (H' := [(1, (.cells [(.d (.int .u64 a1.fOffset)), (.d (.int .u64 a1.fProducer)), (.d (.int .u64 a1.fSeq)), (.d (.int .i64 a1.fVersion)), (.d (.sl (List.map byteD a1.fData)))])), (0, (.cells [(.d (.int .u64 a0.fOffset)), (.d (.int .u64 a0.fProducer)), (.d (.int .u64 a0.fSeq)), (.d (.int .i64 a0.fVersion)), (.d (.sl (List.map byteD a0.fData)))]))]) rfl rfl trivial rfl rfl rfl rfl rfl ?_
      refine RegV.p0 (v := (.d (.bool (decide (a0.fSeq = a1.fSeq))))) rfl rfl rfl ?_
      refine RegV.p0 rfl rfl rfl ?_
      refine RegV.p0 rfl rfl rfl ?_
      refine RegV.split (fun c29 => ?_) (fun c29 => ?_)
      · have h := cond_pos c29 h
        refine RegV.p0 (v := (.ptr 0 3)) rfl rfl rfl ?_
        refine RegV.ld (v := (.d (.int .i64 a0.fVersion))) (H' := [(0, (.cells [(.d (.int .u64 a0.fOffset)), (.d (.int .u64 a0.fProducer)), (.d (.int .u64 a0.fSeq)), (.d (.int .i64 a0.fVersion)), (.d (.sl (List.map byteD a0.fData)))])), (1, (.cells [(.d (.int .u64 a1.fOffset)), (.d (.int .u64 a1.fProducer)), (.d (.int .u64 a1.fSeq)), (.d (.int .i64 a1.fVersion)), (.d (.sl (List.map byteD a1.fData)))]))]) rfl rfl trivial rfl rfl rfl rfl rfl ?_
        refine RegV.p0 (v := (.ptr 1 3)) rfl rfl rfl ?_
        refine RegV.ld (v := (.d (.int .i64 a1.fVersion))) (H' := [(1, (.cells [(.d (.int .u64 a1.fOffset)), (.d (.int .u64 a1.fProducer)), (.d (.int .u64 a1.fSeq)), (.d (.int .i64 a1.fVersion)), (.d (.sl (List.map byteD a1.fData)))])), (0, (.cells [(.d (.int .u64 a0.fOffset)), (.d (.int .u64 a0.fProducer)), (.d (.int .u64 a0.fSeq)), (.d (.int .i64 a0.fVersion)), (.d (.sl (List.map byteD a0.fData)))]))]) rfl rfl trivial rfl rfl rfl rfl rfl ?_
        refine RegV.p0 (v := (.d (.bool (decide (a0.fVersion = a1.fVersion))))) rfl rfl rfl ?_
        refine RegV.p0 rfl rfl rfl ?_
        refine RegV.p0 rfl rfl rfl ?_
        refine RegV.split (fun c36 => ?_) (fun c36 => ?_)
        · have h := cond_pos c36 h
          refine RegV.p0 (v := (.ptr 0 4)) rfl rfl rfl ?_
          refine RegV.ld (v := (.d (.sl (List.map byteD a0.fData)))) (H' := [(0, (.cells [(.d (.int .u64 a0.fOffset)), (.d (.int .u64 a0.fProducer)), (.d (.int .u64 a0.fSeq)), (.d (.int .i64 a0.fVersion)), (.d (.sl (List.map byteD a0.fData)))])), (1, (.cells [(.d (.int .u64 a1.fOffset)), (.d (.int .u64 a1.fProducer)), (.d (.int .u64 a1.fSeq)), (.d (.int .i64 a1.fVersion)), (.d (.sl (List.map byteD a1.fData)))]))]) rfl rfl trivial rfl rfl rfl rfl rfl ?_
          refine RegV.p0 (v := (.ptr 1 4)) rfl rfl rfl ?_
          refine RegV.ld (v := (.d (.sl (List.map byteD a1.fData)))) (H' := [(1, (.cells [(.d (.int .u64 a1.fOffset)), (.d (.int .u64 a1.fProducer)), (.d (.int .u64 a1.fSeq)), (.d (.int .i64 a1.fVersion)), (.d (.sl (List.map byteD a1.fData)))])), (0, (.cells [(.d (.int .u64 a0.fOffset)), (.d (.int .u64 a0.fProducer)), (.d (.int .u64 a0.fSeq)), (.d (.int .i64 a0.fVersion)), (.d (.sl (List.map byteD a0.fData)))]))]) rfl rfl trivial rfl rfl rfl rfl rfl ?_
          obtain ⟨r41, e41, h⟩ := bind_some h
          refine RegV.call0 (F22 hmix hc.2 e41) rfl rfl rfl rfl (.cons (.refl _) (.cons (.refl _) .nil)) rfl ?_
          refine RegV.p0 rfl rfl rfl ?_
          refine RegV.p0 rfl rfl rfl ?_
          refine RegV.nil0 ?_
          have hr := Option.some.inj h
          subst hr
          exact AWc.ret (canQ (N := 38) (k := 0) (l' := [(4, (.d (.bool (decide (a0.fData = a1.fData)))))]) (H' := []) rfl ⟨rfl, [], [], rfl, rfl, ⟨⟨_, rfl, (.refl _)⟩, rfl, trivial⟩,  trivial⟩ (doneA (.inr rfl) rfl ⟨trivial, trivial⟩ (.refl _) hasNil))
        · have h := cond_neg c36 h
          refine RegV.noS rfl rfl ?_
          refine RegV.noS rfl rfl ?_
          refine RegV.noS rfl rfl ?_
          refine RegV.noS rfl rfl ?_
          refine RegV.noS rfl rfl ?_
          refine RegV.p0 rfl rfl rfl ?_
          refine RegV.p0 rfl rfl rfl ?_
          refine RegV.nil0 ?_
          have hr := Option.some.inj h
          subst hr
          exact AWc.ret (canQ (N := 38) (k := 0) (l' := [(4, (.d (.bool false)))]) (H' := []) rfl ⟨rfl, [], [], rfl, rfl, ⟨⟨_, rfl, (.refl _)⟩, rfl, trivial⟩,  trivial⟩ (doneA (.inr rfl) rfl ⟨trivial, trivial⟩ (.refl _) hasNil))
      · have h := cond_neg c29 h
        refine RegV.noS rfl rfl ?_
        refine RegV.noS rfl rfl ?_
        refine RegV.noS rfl rfl ?_
        refine RegV.noS rfl rfl ?_
        refine RegV.noS rfl rfl ?_
        refine RegV.p0 rfl rfl rfl ?_
        refine RegV.p0 rfl rfl rfl ?_
        refine RegV.noS rfl rfl ?_
        refine RegV.noS rfl rfl ?_
        refine RegV.noS rfl rfl ?_
        refine RegV.noS rfl rfl ?_
        refine RegV.noS rfl rfl ?_
        refine RegV.p0 rfl rfl rfl ?_
        refine RegV.p0 rfl rfl rfl ?_
        refine RegV.nil0 ?_
        have hr := Option.some.inj h
        subst hr
        exact AWc.ret (canQ (N := 38) (k := 0) (l' := [(4, (.d (.bool false)))]) (H' := []) rfl ⟨rfl, [], [], rfl, rfl, ⟨⟨_, rfl, (.refl _)⟩, rfl, trivial⟩,  trivial⟩ (doneA (.inr rfl) rfl ⟨trivial, trivial⟩ (.refl _) hasNil))
    · have h := cond_neg c22 h
      refine RegV.noS rfl rfl ?_
      refine RegV.noS rfl rfl ?_
      refine RegV.noS rfl rfl ?_
      refine RegV.noS rfl rfl ?_
      refine RegV.noS rfl rfl ?_
      refine RegV.p0 rfl rfl rfl ?_
      refine RegV.p0 rfl rfl rfl ?_
      refine RegV.noS rfl rfl ?_
      refine RegV.noS rfl rfl ?_
      refine RegV.noS rfl rfl ?_
      refine RegV.noS rfl rfl ?_
      refine RegV.noS rfl rfl ?_
      refine RegV.p0 rfl rfl rfl ?_
      refine RegV.p0 rfl rfl rfl ?_
      refine RegV.noS rfl rfl ?_
      refine RegV.noS rfl rfl ?_
      refine RegV.noS rfl rfl ?_
      refine RegV.noS rfl rfl ?_
      refine RegV.noS rfl rfl ?_
      refine RegV.p0 rfl rfl rfl ?_
      refine RegV.p0 rfl rfl rfl ?_
      refine RegV.nil0 ?_
      have hr := Option.some.inj h
      subst hr
      exact AWc.ret (canQ (N := 38) (k := 0) (l' := [(4, (.d (.bool false)))]) (H' := []) rfl ⟨rfl, [], [], rfl, rfl, ⟨⟨_, rfl, (.refl _)⟩, rfl, trivial⟩,  trivial⟩ (doneA (.inr rfl) rfl ⟨trivial, trivial⟩ (.refl _) hasNil))
  · have h := cond_neg c15 h
    refine RegV.noS rfl rfl ?_
    refine RegV.noS rfl rfl ?_
    refine RegV.noS rfl rfl ?_
    refine RegV.noS rfl rfl ?_
    refine RegV.noS rfl rfl ?_
    refine RegV.p0 rfl rfl rfl ?_
    refine RegV.p0 rfl rfl rfl ?_
    refine RegV.noS rfl rfl ?_
    refine RegV.noS rfl rfl ?_
    refine RegV.noS rfl rfl ?_
    refine RegV.noS rfl rfl ?_
    refine RegV.noS rfl rfl ?_
    refine RegV.p0 rfl rfl rfl ?_
    refine RegV.p0 rfl rfl rfl ?_
    refine RegV.noS rfl rfl ?_
    refine RegV.noS rfl rfl ?_
    refine RegV.noS rfl rfl ?_
    refine RegV.noS rfl rfl ?_
    refine RegV.noS rfl rfl ?_
    refine RegV.p0 rfl rfl rfl ?_
    refine RegV.p0 rfl rfl rfl ?_
    refine RegV.noS rfl rfl ?_
    refine RegV.noS rfl rfl ?_
    refine RegV.noS rfl rfl ?_
    refine RegV.noS rfl rfl ?_
    refine RegV.noS rfl rfl ?_
    refine RegV.p0 rfl rfl rfl ?_
    refine RegV.p0 rfl rfl rfl ?_
    refine RegV.nil0 ?_
    have hr := Option.some.inj h
    subst hr
    exact AWc.ret (canQ (N := 38) (k := 0) (l' := [(4, (.d (.bool false)))]) (H' := []) rfl ⟨rfl, [], [], rfl, rfl, ⟨⟨_, rfl, (.refl _)⟩, rfl, trivial⟩,  trivial⟩ (doneA (.inr rfl) rfl ⟨trivial, trivial⟩ (.refl _) hasNil))
/-- courant/couranthelp.Same[courant/api.Message] -/
def C68 (N : Nat → Nat) : AFunc := { n := 30, params := 3, res := [.tmp 6], body :=
 (.seq (.region false [⟨(some 6), .mv (.k (.d (.bool false))), none, []⟩])
  (.seq (.seq (.region false [⟨(some 8), .mv (.t 0), none, []⟩,
     ⟨(some 9), .len (.t 8), none, [0]⟩,
     ⟨(some 10), .mv (.t 1), none, []⟩,
     ⟨(some 11), .len (.t 10), none, [2]⟩,
     ⟨(some 12), .bin .neq (.t 9) (.t 11), none, [1, 3]⟩])
    (.cond (.t 12) (.seq (.region false [⟨(some 6), .mv (.k (.d (.bool false))), none, []⟩])
      .ret)
     (.skip)))
   (.seq (.seq (.region false [⟨(some 7), .mv (.k (.d (.int .i64 0))), none, []⟩])
     (.block 0 (.loop (.seq (.seq (.region false [⟨(some 13), .mv (.t 7), none, []⟩,
          ⟨(some 14), .mv (.t 0), none, []⟩,
          ⟨(some 15), .len (.t 14), none, [1]⟩,
          ⟨(some 16), .bin .lss (.t 13) (.t 15), none, [0, 2]⟩])
         (.cond (.t 16) (.skip)
          (.exit 0)))
        (.seq (.block 1 (.seq (.region true [⟨(some 19), .mv (.t 2), none, []⟩,
            ⟨(some 20), .mv (.t 0), none, []⟩,
            ⟨(some 21), .mv (.t 7), none, []⟩,
            ⟨(some 22), .iaddr (.t 20) (.t 21) 5, none, [1, 2]⟩,
            ⟨(some 23), .load (.t 22) 5 true, none, [3]⟩,
            ⟨(some 24), .mv (.t 1), none, []⟩,
            ⟨(some 25), .mv (.t 7), none, []⟩,
            ⟨(some 26), .iaddr (.t 24) (.t 25) 5, none, [5, 6]⟩,
            ⟨(some 27), .load (.t 26) 5 true, none, [7]⟩,
            ⟨(some 28), .call (.t 19) [(.t 23), (.t 27)], none, [0, 4, 8]⟩,
            ⟨(some 29), .un .not (.t 28), none, [9]⟩])
           (.cond (.t 29) (.seq (.region false [⟨(some 6), .mv (.k (.d (.bool false))), none, []⟩])
             .ret)
            (.skip))))
         (.region false [⟨(some 17), .mv (.t 7), none, []⟩,
          ⟨(some 18), .bin .add (.t 17) (.k (.d (.int .i64 1))), none, [0]⟩,
          ⟨(some 7), .mv (.t 18), none, [1, 0]⟩]))))))
    (.seq (.region false [⟨(some 6), .mv (.k (.d (.bool true))), none, []⟩])
     .ret)))) }
def HC68 (P : Program) (N : Nat → Nat) : Prop := HasF P (N 68) (C68 N) ∧ HC38 P N
def f68_l26 (a0 : (List TMessage)) (a1 : (List TMessage)) : Nat → Int → Option (LR2 Unit Unit Bool)
  | 0, _ => none
  | k + 1, y26_1 => cond (decide (y26_1 < ((a0.length : Nat) : Int))) (gd (0 ≤ y26_1 ∧ y26_1 < ((a0.length : Nat) : Int)) (gd (0 ≤ y26_1 ∧ y26_1 < ((a1.length : Nat) : Int)) ((f38 k (rd a0 y26_1) (rd a1 y26_1)).bind fun r53 => cond (!r53) (some (.r false)) (f68_l26 a0 a1 k (IntKind.i64.wrap (y26_1 + (1 : Int))))))) (some (.b0 ()))
def f68 (k : Nat) (a0 : (List TMessage)) (a1 : (List TMessage)) : Option Bool := cond (decide (((a0.length : Nat) : Int) ≠ ((a1.length : Nat) : Int))) (some false) ((f68_l26 a0 a1 k (0 : Int)).bind fun o26 => match o26 with | .b0 () => some true | .r x => some x | _ => none)
theorem F68 {P : Program} {N : Nat → Nat} (hmix : P.follows .mixedOrders = true) (hc : HC68 P N) {k : Nat} {a0 : (List TMessage)} {a1 : (List TMessage)} {r : Bool} (h : f68 k a0 a1 = some r) :
    ACalls P (N 68) [(.d (.sl (List.map TMessage.enc a0))), (.d (.sl (List.map TMessage.enc a1))), (.d (.fn (N 38)))] [] (.d (.bool r)) [] := by
  refine acalls_canon (F := C68 N) hc.1 0 0 rfl ?_
  unfold f68 at h
  dsimp only [C68, startL]
  refine AWc.seq ?_
  refine AWc.rg hmix rfl rfl ?_
  refine RegV.p0 rfl rfl rfl ?_
  refine RegV.nil0 ?_
  refine AWc.seq ?_
  refine AWc.seq ?_
  refine AWc.rg hmix rfl rfl ?_
  refine RegV.p0 rfl rfl rfl ?_
  refine RegV.len (xs := a0) (e := TMessage.enc) rfl rfl rfl rfl ?_
  refine RegV.p0 rfl rfl rfl ?_
  refine RegV.len (xs := a1) (e := TMessage.enc) rfl rfl rfl rfl ?_
  refine RegV.p0 (v := (.d (.bool (decide (((a0.length : Nat) : Int) ≠ ((a1.length : Nat) : Int)))))) rfl rfl rfl ?_
  refine RegV.nil0 ?_
  refine AWc.cond rfl (fun c14 => ?_) (fun c14 => ?_)
  · have h := cond_pos c14 h
    refine AWc.seq ?_
    refine AWc.rg hmix rfl rfl ?_
    refine RegV.p0 rfl rfl rfl ?_
    refine RegV.nil0 ?_
    have hr := Option.some.inj h
    subst hr
    exact AWc.ret (canQ (N := 30) (k := 0) (l' := [(6, (.d (.bool false)))]) (H' := []) rfl ⟨rfl, [], [], rfl, rfl, ⟨⟨_, rfl, (.refl _)⟩, rfl, trivial⟩,  trivial⟩ (doneA (.inr rfl) rfl ⟨trivial, trivial⟩ (.refl _) hasNil))
  · have h := cond_neg c14 h
    refine AWc.skip ?_
    refine AWc.seq ?_
    refine AWc.seq ?_
    refine AWc.rg hmix rfl rfl ?_
    refine RegV.p0 rfl rfl rfl ?_
    refine RegV.nil0 ?_
    obtain ⟨o26, h26, h⟩ := bind_some h
    refine AWc.block ?_
    refine AWc.loopK (N := 30) 0 (fun (x : Int) => [(0, (.d (.sl (List.map TMessage.enc a0)))), (1, (.d (.sl (List.map TMessage.enc a1)))), (2, (.d (.fn (N 38)))), (7, (.d (.int .i64 x)))]) (fun x => []) (fun k x => f68_l26 a0 a1 k x = some o26) k (0 : Int) rfl_le (fun x hx => by cases hx) h26 ⟨rfl, [], [], rfl, rfl, ⟨⟨_, rfl, (.refl _)⟩, rfl, ⟨⟨_, rfl, (.refl _)⟩, rfl, ⟨⟨_, rfl, (.refl _)⟩, rfl, ⟨⟨_, rfl, (.refl _)⟩, rfl, trivial⟩⟩⟩⟩,  trivial⟩ ?_
    clear h26
    intro k
    intro y26_1 h26
    rw [f68_l26] at h26
    refine AWc.seq ?_
    refine AWc.seq ?_
    refine AWc.rg hmix rfl rfl ?_
    refine RegV.p0 rfl rfl rfl ?_
    refine RegV.p0 rfl rfl rfl ?_
    refine RegV.len (xs := a0) (e := TMessage.enc) rfl rfl rfl rfl ?_
    refine RegV.p0 (v := (.d (.bool (decide (y26_1 < ((a0.length : Nat) : Int)))))) rfl rfl rfl ?_
    refine RegV.nil0 ?_
    refine AWc.cond rfl (fun c36 => ?_) (fun c36 => ?_)
    · have h26 := cond_pos c36 h26
      refine AWc.skip ?_
      refine AWc.seq ?_
      refine AWc.block ?_
      refine AWc.seq ?_
      refine AWc.rg hmix rfl rfl ?_
      refine RegV.p0 rfl rfl rfl ?_
      refine RegV.p0 rfl rfl rfl ?_
      refine RegV.p0 rfl rfl rfl ?_
      obtain ⟨b47, h26⟩ := gd_some h26
      refine RegV.iad (xs := a0) (e := TMessage.enc) rfl rfl rfl rfl (fun _ => rfl) b47 rfl ?_
      refine RegV.p1 (v := (.d (TMessage.enc (rd a0 y26_1)))) rfl rfl rfl rfl rfl ?_
      refine RegV.p0 rfl rfl rfl ?_
      refine RegV.p0 rfl rfl rfl ?_
      obtain ⟨b51, h26⟩ := gd_some h26
      refine RegV.iad (xs := a1) (e := TMessage.enc) rfl rfl rfl rfl (fun _ => rfl) b51 rfl ?_
      refine RegV.p1 (v := (.d (TMessage.enc (rd a1 y26_1)))) rfl rfl rfl rfl rfl ?_
      obtain ⟨r53, e53, h26⟩ := bind_some h26
      refine RegV.call0 (F38 hmix hc.2 e53) rfl rfl rfl rfl (.cons (.refl _) (.cons (.refl _) .nil)) rfl ?_
      refine RegV.p0 (v := (.d (.bool (!r53)))) rfl rfl rfl ?_
      refine RegV.nil1 (by kernel_rfl) ?_
      refine AWc.cond rfl (fun c55 => ?_) (fun c55 => ?_)
      · have h26 := cond_pos c55 h26
        refine AWc.seq ?_
        refine AWc.rg hmix rfl rfl ?_
        refine RegV.p0 rfl rfl rfl ?_
        refine RegV.nil0 ?_
        cases h26
        dsimp only at h
        have hr := Option.some.inj h
        subst hr
        exact AWc.ret (canQ (N := 30) (k := 0) (l' := [(6, (.d (.bool false)))]) (H' := []) rfl ⟨rfl, [], [], rfl, rfl, ⟨⟨_, rfl, (.refl _)⟩, rfl, trivial⟩,  trivial⟩ (doneA (.inr rfl) rfl ⟨trivial, trivial⟩ (.refl _) hasNil))
      · have h26 := cond_neg c55 h26
        refine AWc.skip ?_
        refine AWc.rg hmix rfl rfl ?_
        refine RegV.p0 rfl rfl rfl ?_
        refine RegV.p0 (v := (.d (.int .i64 (IntKind.i64.wrap (y26_1 + (1 : Int)))))) rfl rfl rfl ?_
        refine RegV.p0 rfl rfl rfl ?_
        refine RegV.nil0 ?_
        exact ⟨(IntKind.i64.wrap (y26_1 + (1 : Int))), h26, ⟨rfl, [], [], rfl, rfl, ⟨⟨_, rfl, (.refl _)⟩, rfl, ⟨⟨_, rfl, (.refl _)⟩, rfl, ⟨⟨_, rfl, (.refl _)⟩, rfl, ⟨⟨_, rfl, (.refl _)⟩, rfl, trivial⟩⟩⟩⟩,  trivial⟩⟩
    · have h26 := cond_neg c36 h26
      cases h26
      dsimp only at h
      refine AWc.exit ?_
      refine inBlk_eq ?_
      refine AWc.seq ?_
      refine AWc.rg hmix rfl rfl ?_
      refine RegV.p0 rfl rfl rfl ?_
      refine RegV.nil0 ?_
      have hr := Option.some.inj h
      subst hr
      exact AWc.ret (canQ (N := 30) (k := 0) (l' := [(6, (.d (.bool true)))]) (H' := []) rfl ⟨rfl, [], [], rfl, rfl, ⟨⟨_, rfl, (.refl _)⟩, rfl, trivial⟩,  trivial⟩ (doneA (.inr rfl) rfl ⟨trivial, trivial⟩ (.refl _) hasNil))
/-- courant/couranthelp.Reply -/
def C67 (N : Nat → Nat) : AFunc := { n := 45, params := 2, res := [.tmp 4], body :=
 (.seq (.region false [⟨(some 2), .box (.t 0), none, []⟩,
   ⟨(some 3), .box (.t 1), none, []⟩,
   ⟨(some 4), .mv (.k (.d (.bool false))), none, []⟩])
  (.seq (.region false [⟨(some 5), .faddr (.t 2) 0, none, []⟩,
    ⟨(some 6), .load (.t 5) 1 false, none, [0]⟩,
    ⟨(some 7), .faddr (.t 3) 0, none, []⟩,
    ⟨(some 8), .load (.t 7) 1 false, none, [2]⟩,
    ⟨(some 9), .bin .eql (.t 6) (.t 8), none, [1, 3]⟩,
    ⟨(some 10), .mv (.t 9), none, [4]⟩,
    ⟨(some 11), .faddr (.t 2) 1, (some (10, true)), [5]⟩,
    ⟨(some 12), .load (.t 11) 1 false, (some (10, true)), [6, 5]⟩,
    ⟨(some 13), .faddr (.t 3) 1, (some (10, true)), [5]⟩,
    ⟨(some 14), .load (.t 13) 1 false, (some (10, true)), [8, 5]⟩,
    ⟨(some 15), .bin .eql (.t 12) (.t 14), (some (10, true)), [7, 9, 5]⟩,
    ⟨(some 16), .pick (.t 10) (.t 15) (.k (.d (.bool false))), none, [5, 10]⟩,
    ⟨(some 17), .mv (.t 16), none, [11, 5]⟩,
    ⟨(some 18), .faddr (.t 2) 2, (some (17, true)), [12]⟩,
    ⟨(some 19), .load (.t 18) 1 false, (some (17, true)), [13, 12]⟩,
    ⟨(some 20), .faddr (.t 3) 2, (some (17, true)), [12]⟩,
    ⟨(some 21), .load (.t 20) 1 false, (some (17, true)), [15, 12]⟩,
    ⟨(some 22), .bin .eql (.t 19) (.t 21), (some (17, true)), [14, 16, 12]⟩,
    ⟨(some 23), .pick (.t 17) (.t 22) (.k (.d (.bool false))), none, [12, 17]⟩,
    ⟨(some 24), .mv (.t 23), none, [18, 12]⟩,
    ⟨(some 25), .faddr (.t 2) 3, (some (24, true)), [19]⟩,
    ⟨(some 26), .load (.t 25) 1 false, (some (24, true)), [20, 19]⟩,
    ⟨(some 27), .faddr (.t 3) 3, (some (24, true)), [19]⟩,
    ⟨(some 28), .load (.t 27) 1 false, (some (24, true)), [22, 19]⟩,
    ⟨(some 29), .bin .eql (.t 26) (.t 28), (some (24, true)), [21, 23, 19]⟩,
    ⟨(some 30), .pick (.t 24) (.t 29) (.k (.d (.bool false))), none, [19, 24]⟩,
    ⟨(some 31), .mv (.t 30), none, [25, 19]⟩,
    ⟨(some 32), .faddr (.t 2) 4, (some (31, true)), [26]⟩,
    ⟨(some 33), .load (.t 32) 1 false, (some (31, true)), [27, 26]⟩,
    ⟨(some 34), .faddr (.t 3) 4, (some (31, true)), [26]⟩,
    ⟨(some 35), .load (.t 34) 1 false, (some (31, true)), [29, 26]⟩,
    ⟨(some 36), .bin .eql (.t 33) (.t 35), (some (31, true)), [28, 30, 26]⟩,
    ⟨(some 37), .pick (.t 31) (.t 36) (.k (.d (.bool false))), none, [26, 31]⟩,
    ⟨(some 38), .mv (.t 37), none, [32, 26]⟩,
    ⟨(some 39), .faddr (.t 2) 5, (some (38, true)), [33]⟩,
    ⟨(some 40), .load (.t 39) 1 false, (some (38, true)), [34, 33]⟩,
    ⟨(some 41), .faddr (.t 3) 5, (some (38, true)), [33]⟩,
    ⟨(some 42), .load (.t 41) 1 false, (some (38, true)), [36, 33]⟩,
    ⟨(some 43), .call (.k (.d (.fn (N 68)))) [(.t 40), (.t 42), (.k (.d (.fn (N 38))))], (some (38, true)), [35, 37, 33]⟩,
    ⟨(some 44), .pick (.t 38) (.t 43) (.k (.d (.bool false))), none, [33, 38]⟩,
    ⟨(some 4), .mv (.t 44), none, [39, 38, 0, 1, 2, 3, 4, 5, 6, 7, 8, 9, 10, 11, 12, 13, 14, 15, 16, 17, 18, 19, 20, 21, 22, 23, 24, 25, 26, 27, 28, 29, 30, 31, 32, 33, 34, 35, 36, 37]⟩])
   .ret)) }
def HC67 (P : Program) (N : Nat → Nat) : Prop := HasF P (N 67) (C67 N) ∧ HC68 P N
def f67 (k : Nat) (a0 : TReply) (a1 : TReply) : Option Bool := cond (decide (a0.fErr = a1.fErr)) (cond (decide (a0.fN = a1.fN)) (cond (decide (a0.fID = a1.fID)) (cond (decide (a0.fOffset = a1.fOffset)) (cond (decide (a0.fText = a1.fText)) ((f68 k a0.fMessages a1.fMessages).bind fun r48 => some r48) (some false)) (some false)) (some false)) (some false)) (some false)
theorem F67 {P : Program} {N : Nat → Nat} (hmix : P.follows .mixedOrders = true) (hc : HC67 P N) {k : Nat} {a0 : TReply} {a1 : TReply} {r : Bool} (h : f67 k a0 a1 = some r) :
    ACalls P (N 67) [(.d (TReply.enc a0)), (.d (TReply.enc a1))] [] (.d (.bool r)) [] := by
  refine acalls_canon (F := C67 N) hc.1 0 0 rfl ?_
  unfold f67 at h
  dsimp only [C67, startL]
  refine AWc.seq ?_
  refine AWc.rg hmix rfl rfl ?_
  refine RegV.evS (own := false) (v := (.ptr 0 0)) (H' := [(0, (.cells [(.d (.int .i64 a0.fErr)), (.d (.int .i64 a0.fN)), (.d (.int .i64 a0.fID)), (.d (.int .u64 a0.fOffset)), (.d (.str a0.fText)), (.d (.sl (List.map TMessage.enc a0.fMessages)))]))]) (c' := 1) rfl rfl trivial rfl rfl rfl rfl rfl rfl ?_
  refine RegV.evS (own := false) (v := (.ptr 1 0)) (H' := [(1, (.cells [(.d (.int .i64 a1.fErr)), (.d (.int .i64 a1.fN)), (.d (.int .i64 a1.fID)), (.d (.int .u64 a1.fOffset)), (.d (.str a1.fText)), (.d (.sl (List.map TMessage.enc a1.fMessages)))])), (0, (.cells [(.d (.int .i64 a0.fErr)), (.d (.int .i64 a0.fN)), (.d (.int .i64 a0.fID)), (.d (.int .u64 a0.fOffset)), (.d (.str a0.fText)), (.d (.sl (List.map TMessage.enc a0.fMessages)))]))]) (c' := 2) rfl rfl trivial rfl rfl rfl rfl rfl rfl ?_
  refine RegV.p0 rfl rfl rfl ?_
  refine RegV.nil0 ?_
  refine AWc.seq ?_
  refine AWc.rg hmix rfl rfl ?_
  refine RegV.p0 (v := (.ptr 0 0)) rfl rfl rfl ?_
  refine RegV.ld (v := (.d (.int .i64 a0.fErr))) (H' := [(0, (.cells [(.d (.int .i64 a0.fErr)), (.d (.int .i64 a0.fN)), (.d (.int .i64 a0.fID)), (.d (.int .u64 a0.fOffset)), (.d (.str a0.fText)), (.d (.sl (List.map TMessage.enc a0.fMessages)))])), (1, (.cells [(.d (.int .i64 a1.fErr)), (.d (.int .i64 a1.fN)), (.d (.int .i64 a1.fID)), (.d (.int .u64 a1.fOffset)), (.d (.str a1.fText)), (.d (.sl (List.map TMessage.enc a1.fMessages)))]))]) rfl rfl trivial rfl rfl rfl rfl rfl ?_
  refine RegV.p0 (v := (.ptr 1 0)) rfl rfl rfl ?_
  refine RegV.ld (v := (.d (.int .i64 a1.fErr))) (H' := [(1, (.cells [(.d (.int .i64 a1.fErr)), (.d (.int .i64 a1.fN)), (.d (.int .i64 a1.fID)), (.d (.int .u64 a1.fOffset)), (.d (.str a1.fText)), (.d (.sl (List.map TMessage.enc a1.fMessages)))])), (0, (.cells [(.d (.int .i64 a0.fErr)), (.d (.int .i64 a0.fN)), (.d (.int .i64 a0.fID)), (.d (.int .u64 a0.fOffset)), (.d (.str a0.fText)), (.d (.sl (List.map TMessage.enc a0.fMessages)))]))]) rfl rfl trivial rfl rfl rfl rfl rfl ?_
  refine RegV.p0 (v := (.d (.bool (decide (a0.fErr = a1.fErr))))) rfl rfl rfl ?_
  refine RegV.p0 rfl rfl rfl ?_
  refine RegV.split (fun c15 => ?_) (fun c15 => ?_)
  · have h := cond_pos c15 h
    refine RegV.p0 (v := (.ptr 0 1)) rfl rfl rfl ?_
    refine RegV.ld (v := (.d (.int .i64 a0.fN))) (H' := [(0, (.cells [(.d (.int .i64 a0.fErr)), (.d (.int .i64 a0.fN)), (.d (.int .i64 a0.fID)), (.d (.int .u64 a0.fOffset)), (.d (.str a0.fText)), (.d (.sl (List.map TMessage.enc a0.fMessages)))])), (1, (.cells [(.d (.int .i64 a1.fErr)), (.d (.int .i64 a1.fN)), (.d (.int .i64 a1.fID)), (.d (.int .u64 a1.fOffset)), (.d (.str a1.fText)), (.d (.sl (List.map TMessage.enc a1.fMessages)))]))]) rfl rfl trivial rfl rfl rfl rfl rfl ?_
    refine RegV.p0 (v := (.ptr 1 1)) rfl rfl rfl ?_
    refine RegV.ld (v := (.d (.int .i64 a1.fN))) (H' := [(1, (.cells [(.d (.int .i64 a1.fErr)), (.d (.int .i64 a1.fN)), (.d (.int .i64 a1.fID)), (.d (.int .u64 a1.fOffset)), (.d (.str a1.fText)), (.d (.sl (List.map TMessage.enc a1.fMessages)))])), (0, (.cells [(.d (.int .i64 a0.fErr)), (.d (.int .i64 a0.fN)), (.d (.int .i64 a0.fID)), (.d (.int .u64 a0.fOffset)), (.d (.str a0.fText)), (.d (.sl (List.map TMessage.enc a0.fMessages)))]))]) rfl rfl trivial rfl rfl rfl rfl rfl ?_
    refine RegV.p0 (v := (.d (.bool (decide (a0.fN = a1.fN))))) rfl rfl rfl ?_
    refine RegV.p0 rfl rfl rfl ?_
    refine RegV.p0 rfl rfl rfl ?_
    refine RegV.split (fun c22 => ?_) (fun c22 => ?_)
    · have h := cond_pos c22 h
      refine RegV.p0 (v := (.ptr 0 2)) rfl rfl rfl ?_
      refine RegV.ld (v := (.d (.int .i64 a0.fID))) (H' := [(0, (.cells [(.d (.int .i64 a0.fErr)), (.d (.int .i64 a0.fN)), (.d (.int .i64 a0.fID)), (.d (.int .u64 a0.fOffset)), (.d (.str a0.fText)), (.d (.sl (List.map TMessage.enc a0.fMessages)))])), (1, (.cells [(.d (.int .i64 a1.fErr)), (.d (.int .i64 a1.fN)), (.d (.int .i64 a1.fID)), (.d (.int .u64 a1.fOffset)), (.d (.str a1.fText)), (.d (.sl (List.map TMessage.enc a1.fMessages)))]))]) rfl rfl trivial rfl rfl rfl rfl rfl ?_
      refine RegV.p0 (v := (.ptr 1 2)) rfl rfl rfl ?_
      refine RegV.ld (v := (.d (.int .i64 a1.fID))) (H' := [(1, (.cells [(.d (.int .i64 a1.fErr)), (.d (.int .i64 a1.fN)), (.d (.int .i64 a1.fID)), (.d (.int .u64 a1.fOffset)), (.d (.str a1.fText)), (.d (.sl (List.map TMessage.enc a1.fMessages)))])), (0, (.cells [(.d (.int .i64 a0.fErr)), (.d (.int .i64 a0.fN)), (.d (.int .i64 a0.fID)), (.d (.int .u64 a0.fOffset)), (.d (.str a0.fText)), (.d (.sl (List.map TMessage.enc a0.fMessages)))]))]) rfl rfl trivial rfl rfl rfl rfl rfl ?_
      refine RegV.p0 (v := (.d (.bool (decide (a0.fID = a1.fID))))) rfl rfl rfl ?_
      refine RegV.p0 rfl rfl rfl ?_
      refine RegV.p0 rfl rfl rfl ?_
      refine RegV.split (fun c29 => ?_) (fun c29 => ?_)
      · have h := cond_pos c29 h
        refine RegV.p0 (v := (.ptr 0 3)) rfl rfl rfl ?_
        refine RegV.ld (v := (.d (.int .u64 a0.fOffset))) (H' := [(0, (.cells [(.d (.int .i64 a0.fErr)), (.d (.int .i64 a0.fN)), (.d (.int .i64 a0.fID)), (.d (.int .u64 a0.fOffset)), (.d (.str a0.fText)), (.d (.sl (List.map TMessage.enc a0.fMessages)))])), (1, (.cells [(.d (.int .i64 a1.fErr)), (.d (.int .i64 a1.fN)), (.d (.int .i64 a1.fID)), (.d (.int .u64 a1.fOffset)), (.d (.str a1.fText)), (.d (.sl (List.map TMessage.enc a1.fMessages)))]))]) rfl rfl trivial rfl rfl rfl rfl rfl ?_
        refine RegV.p0 (v := (.ptr 1 3)) rfl rfl rfl ?_
        refine RegV.ld (v := (.d (.int .u64 a1.fOffset))) (H' := [(1, (.cells [(.d (.int .i64 a1.fErr)), (.d (.int .i64 a1.fN)), (.d (.int .i64 a1.fID)), (.d (.int .u64 a1.fOffset)), (.d (.str a1.fText)), (.d (.sl (List.map TMessage.enc a1.fMessages)))])), (0, (.cells [(.d (.int .i64 a0.fErr)), (.d (.int .i64 a0.fN)), (.d (.int .i64 a0.fID)), (.d (.int .u64 a0.fOffset)), (.d (.str a0.fText)), (.d (.sl (List.map TMessage.enc a0.fMessages)))]))]) rfl rfl trivial rfl rfl rfl rfl rfl ?_
        refine RegV.p0 (v := (.d (.bool (decide (a0.fOffset = a1.fOffset))))) rfl rfl rfl ?_
        refine RegV.p0 rfl rfl rfl ?_
        refine RegV.p0 rfl rfl rfl ?_
        refine RegV.split (fun c36 => ?_) (fun c36 => ?_)
        · have h := cond_pos c36 h
          refine RegV.p0 (v := (.ptr 0 4)) rfl rfl rfl ?_
          refine RegV.ld (v := (.d (.str a0.fText))) (H' := [(0, (.cells [(.d (.int .i64 a0.fErr)), (.d (.int .i64 a0.fN)), (.d (.int .i64 a0.fID)), (.d (.int .u64 a0.fOffset)), (.d (.str a0.fText)), (.d (.sl (List.map TMessage.enc a0.fMessages)))])), (1, (.cells [(.d (.int .i64 a1.fErr)), (.d (.int .i64 a1.fN)), (.d (.int .i64 a1.fID)), (.d (.int .u64 a1.fOffset)), (.d (.str a1.fText)), (.d (.sl (List.map TMessage.enc a1.fMessages)))]))]) rfl rfl trivial rfl rfl rfl rfl rfl ?_
          refine RegV.p0 (v := (.ptr 1 4)) rfl rfl rfl ?_
          refine RegV.ld (v := (.d (.str a1.fText))) (H' := [(1, (.cells [(.d (.int .i64 a1.fErr)), (.d (.int .i64 a1.fN)), (.d (.int .i64 a1.fID)), (.d (.int .u64 a1.fOffset)), (.d (.str a1.fText)), (.d (.sl (List.map TMessage.enc a1.fMessages)))])), (0, (.cells [(.d (.int .i64 a0.fErr)), (.d (.int .i64 a0.fN)), (.d (.int .i64 a0.fID)), (.d (.int .u64 a0.fOffset)), (.d (.str a0.fText)), (.d (.sl (List.map TMessage.enc a0.fMessages)))]))]) rfl rfl trivial rfl rfl rfl rfl rfl ?_
          refine RegV.p0 (v := (.d (.bool (decide (a0.fText = a1.fText))))) rfl rfl rfl ?_
          refine RegV.p0 rfl rfl rfl ?_
          refine RegV.p0 rfl rfl rfl ?_
          refine RegV.split (fun c43 => ?_) (fun c43 => ?_)
          · have h := cond_pos c43 h
            refine RegV.p0 (v := (.ptr 0 5)) rfl rfl rfl ?_
            refine RegV.ld (v := (.d (.sl (List.map TMessage.enc a0.fMessages)))) (H' := [(0, (.cells [(.d (.int .i64 a0.fErr)), (.d (.int .i64 a0.fN)), (.d (.int .i64 a0.fID)), (.d (.int .u64 a0.fOffset)), (.d (.str a0.fText)), (.d (.sl (List.map TMessage.enc a0.fMessages)))])), (1, (.cells [(.d (.int .i64 a1.fErr)), (.d (.int .i64 a1.fN)), (.d (.int .i64 a1.fID)), (.d (.int .u64 a1.fOffset)), (.d (.str a1.fText)), (.d (.sl (List.map TMessage.enc a1.fMessages)))]))]) rfl rfl trivial rfl rfl rfl rfl rfl ?_
            refine RegV.p0 (v := (.ptr 1 5)) rfl rfl rfl ?_
            refine RegV.ld (v := (.d (.sl (List.map TMessage.enc a1.fMessages)))) (H' := [(1, (.cells [(.d (.int .i64 a1.fErr)), (.d (.int .i64 a1.fN)), (.d (.int .i64 a1.fID)), (.d (.int .u64 a1.fOffset)), (.d (.str a1.fText)), (.d (.sl (List.map TMessage.enc a1.fMessages)))])), (0, (.cells [(.d (.int .i64 a0.fErr)), (.d (.int .i64 a0.fN)), (.d (.int .i64 a0.fID)), (.d (.int .u64 a0.fOffset)), (.d (.str a0.fText)), (.d (.sl (List.map TMessage.enc a0.fMessages)))]))]) rfl rfl trivial rfl rfl rfl rfl rfl ?_
            obtain ⟨r48, e48, h⟩ := bind_some h
            refine RegV.call0 (F68 hmix hc.2 e48) rfl rfl rfl rfl (.cons (.refl _) (.cons (.refl _) (.cons (.refl _) .nil))) rfl ?_
            refine RegV.p0 rfl rfl rfl ?_
            refine RegV.p0 rfl rfl rfl ?_
            refine RegV.nil0 ?_
            have hr := Option.some.inj h
            subst hr
            exact AWc.ret (canQ (N := 45) (k := 0) (l' := [(4, (.d (.bool r48)))]) (H' := []) rfl ⟨rfl, [], [], rfl, rfl, ⟨⟨_, rfl, (.refl _)⟩, rfl, trivial⟩,  trivial⟩ (doneA (.inr rfl) rfl ⟨trivial, trivial⟩ (.refl _) hasNil))
          · have h := cond_neg c43 h
            refine RegV.noS rfl rfl ?_
            refine RegV.noS rfl rfl ?_
            refine RegV.noS rfl rfl ?_
            refine RegV.noS rfl rfl ?_
            refine RegV.noS rfl rfl ?_
            refine RegV.p0 rfl rfl rfl ?_
            refine RegV.p0 rfl rfl rfl ?_
            refine RegV.nil0 ?_
            have hr := Option.some.inj h
            subst hr
            exact AWc.ret (canQ (N := 45) (k := 0) (l' := [(4, (.d (.bool false)))]) (H' := []) rfl ⟨rfl, [], [], rfl, rfl, ⟨⟨_, rfl, (.refl _)⟩, rfl, trivial⟩,  trivial⟩ (doneA (.inr rfl) rfl ⟨trivial, trivial⟩ (.refl _) hasNil))
        · have h := cond_neg c36 h
          refine RegV.noS rfl rfl ?_
          refine RegV.noS rfl rfl ?_
          refine RegV.noS rfl rfl ?_
          refine RegV.noS rfl rfl ?_
          refine RegV.noS rfl rfl ?_
          refine RegV.p0 rfl rfl rfl ?_
          refine RegV.p0 rfl rfl rfl ?_
          refine RegV.noS rfl rfl ?_
          refine RegV.noS rfl rfl ?_
          refine RegV.noS rfl rfl ?_
          refine RegV.noS rfl rfl ?_
          refine RegV.noS rfl rfl ?_
          refine RegV.p0 rfl rfl rfl ?_
          refine RegV.p0 rfl rfl rfl ?_
          refine RegV.nil0 ?_
          have hr := Option.some.inj h
          subst hr
          exact AWc.ret (canQ (N := 45) (k := 0) (l' := [(4, (.d (.bool false)))]) (H' := []) rfl ⟨rfl, [], [], rfl, rfl, ⟨⟨_, rfl, (.refl _)⟩, rfl, trivial⟩,  trivial⟩ (doneA (.inr rfl) rfl ⟨trivial, trivial⟩ (.refl _) hasNil))
      · have h := cond_neg c29 h
        refine RegV.noS rfl rfl ?_
        refine RegV.noS rfl rfl ?_
        refine RegV.noS rfl rfl ?_
        refine RegV.noS rfl rfl ?_
        refine RegV.noS rfl rfl ?_
        refine RegV.p0 rfl rfl rfl ?_
        refine RegV.p0 rfl rfl rfl ?_
        refine RegV.noS rfl rfl ?_
        refine RegV.noS rfl rfl ?_
        refine RegV.noS rfl rfl ?_
        refine RegV.noS rfl rfl ?_
        refine RegV.noS rfl rfl ?_
        refine RegV.p0 rfl rfl rfl ?_
        refine RegV.p0 rfl rfl rfl ?_
        refine RegV.noS rfl rfl ?_
        refine RegV.noS rfl rfl ?_
        refine RegV.noS rfl rfl ?_
        refine RegV.noS rfl rfl ?_
        refine RegV.noS rfl rfl ?_
        refine RegV.p0 rfl rfl rfl ?_
        refine RegV.p0 rfl rfl rfl ?_
        refine RegV.nil0 ?_
        have hr := Option.some.inj h
        subst hr
        exact AWc.ret (canQ (N := 45) (k := 0) (l' := [(4, (.d (.bool false)))]) (H' := []) rfl ⟨rfl, [], [], rfl, rfl, ⟨⟨_, rfl, (.refl _)⟩, rfl, trivial⟩,  trivial⟩ (doneA (.inr rfl) rfl ⟨trivial, trivial⟩ (.refl _) hasNil))
    · have h := cond_neg c22 h
      refine RegV.noS rfl rfl ?_
      refine RegV.noS rfl rfl ?_
      refine RegV.noS rfl rfl ?_
      refine RegV.noS rfl rfl ?_
      refine RegV.noS rfl rfl ?_
      refine RegV.p0 rfl rfl rfl ?_
      refine RegV.p0 rfl rfl rfl ?_
      refine RegV.noS rfl rfl ?_
      refine RegV.noS rfl rfl ?_
      refine RegV.noS rfl rfl ?_
      refine RegV.noS rfl rfl ?_
      refine RegV.noS rfl rfl ?_
      refine RegV.p0 rfl rfl rfl ?_
      refine RegV.p0 rfl rfl rfl ?_
      refine RegV.noS rfl rfl ?_
      refine RegV.noS rfl rfl ?_
      refine RegV.noS rfl rfl ?_
      refine RegV.noS rfl rfl ?_
      refine RegV.noS rfl rfl ?_
      refine RegV.p0 rfl rfl rfl ?_
      refine RegV.p0 rfl rfl rfl ?_
      refine RegV.noS rfl rfl ?_
      refine RegV.noS rfl rfl ?_
      refine RegV.noS rfl rfl ?_
      refine RegV.noS rfl rfl ?_
      refine RegV.noS rfl rfl ?_
      refine RegV.p0 rfl rfl rfl ?_
      refine RegV.p0 rfl rfl rfl ?_
      refine RegV.nil0 ?_
      have hr := Option.some.inj h
      subst hr
      exact AWc.ret (canQ (N := 45) (k := 0) (l' := [(4, (.d (.bool false)))]) (H' := []) rfl ⟨rfl, [], [], rfl, rfl, ⟨⟨_, rfl, (.refl _)⟩, rfl, trivial⟩,  trivial⟩ (doneA (.inr rfl) rfl ⟨trivial, trivial⟩ (.refl _) hasNil))
  · have h := cond_neg c15 h
    refine RegV.noS rfl rfl ?_
    refine RegV.noS rfl rfl ?_
    refine RegV.noS rfl rfl ?_
    refine RegV.noS rfl rfl ?_
    refine RegV.noS rfl rfl ?_
    refine RegV.p0 rfl rfl rfl ?_
    refine RegV.p0 rfl rfl rfl ?_
    refine RegV.noS rfl rfl ?_
    refine RegV.noS rfl rfl ?_
    refine RegV.noS rfl rfl ?_
    refine RegV.noS rfl rfl ?_
    refine RegV.noS rfl rfl ?_
    refine RegV.p0 rfl rfl rfl ?_
    refine RegV.p0 rfl rfl rfl ?_
    refine RegV.noS rfl rfl ?_
    refine RegV.noS rfl rfl ?_
    refine RegV.noS rfl rfl ?_
    refine RegV.noS rfl rfl ?_
    refine RegV.noS rfl rfl ?_
    refine RegV.p0 rfl rfl rfl ?_
    refine RegV.p0 rfl rfl rfl ?_
    refine RegV.noS rfl rfl ?_
    refine RegV.noS rfl rfl ?_
    refine RegV.noS rfl rfl ?_
    refine RegV.noS rfl rfl ?_
    refine RegV.noS rfl rfl ?_
    refine RegV.p0 rfl rfl rfl ?_
    refine RegV.p0 rfl rfl rfl ?_
    refine RegV.noS rfl rfl ?_
    refine RegV.noS rfl rfl ?_
    refine RegV.noS rfl rfl ?_
    refine RegV.noS rfl rfl ?_
    refine RegV.noS rfl rfl ?_
    refine RegV.p0 rfl rfl rfl ?_
    refine RegV.p0 rfl rfl rfl ?_
    refine RegV.nil0 ?_
    have hr := Option.some.inj h
    subst hr
    exact AWc.ret (canQ (N := 45) (k := 0) (l' := [(4, (.d (.bool false)))]) (H' := []) rfl ⟨rfl, [], [], rfl, rfl, ⟨⟨_, rfl, (.refl _)⟩, rfl, trivial⟩,  trivial⟩ (doneA (.inr rfl) rfl ⟨trivial, trivial⟩ (.refl _) hasNil))
/-- courant/couranthelp.Plain[byte]$1 -/
def C109 (N : Nat → Nat) : AFunc := { n := 8, params := 2, res := [.tmp 4], body :=
 (.seq (.region false [⟨(some 4), .mv (.k (.d (.bool false))), none, []⟩])
  (.seq (.region false [⟨(some 5), .mv (.t 0), none, []⟩,
    ⟨(some 6), .mv (.t 1), none, []⟩,
    ⟨(some 7), .bin .eql (.t 5) (.t 6), none, [0, 1]⟩,
    ⟨(some 4), .mv (.t 7), none, [2, 0, 1]⟩])
   .ret)) }
def HC109 (P : Program) (N : Nat → Nat) : Prop := HasF P (N 109) (C109 N)
def f109 (k : Nat) (a0 : UInt8) (a1 : UInt8) : Option Unit := some ()
theorem F109 {P : Program} {N : Nat → Nat} (hmix : P.follows .mixedOrders = true) (hc : HC109 P N) {k : Nat} {a0 : UInt8} {a1 : UInt8} {r : Unit} (h : f109 k a0 a1 = some r) :
    ACalls P (N 109) [(.d (.int .u8 ((a0.toNat : Nat) : Int))), (.d (.int .u8 ((a1.toNat : Nat) : Int)))] [] (.d (.bool (decide (((a0.toNat : Nat) : Int) = ((a1.toNat : Nat) : Int))))) [] := by
  refine acalls_canon (F := C109 N) hc 0 0 rfl ?_
  unfold f109 at h
  dsimp only [C109, startL]
  refine AWc.seq ?_
  refine AWc.rg hmix rfl rfl ?_
  refine RegV.p0 rfl rfl rfl ?_
  refine RegV.nil0 ?_
  refine AWc.seq ?_
  refine AWc.rg hmix rfl rfl ?_
  refine RegV.p0 rfl rfl rfl ?_
  refine RegV.p0 rfl rfl rfl ?_
  refine RegV.p0 (v := (.d (.bool (decide (((a0.toNat : Nat) : Int) = ((a1.toNat : Nat) : Int)))))) rfl rfl rfl ?_
  refine RegV.p0 rfl rfl rfl ?_
  refine RegV.nil0 ?_
  have hr := Option.some.inj h
  subst hr
  exact AWc.ret (canQ (N := 8) (k := 0) (l' := [(4, (.d (.bool (decide (((a0.toNat : Nat) : Int) = ((a1.toNat : Nat) : Int))))))]) (H' := []) rfl ⟨rfl, [], [], rfl, rfl, ⟨⟨_, rfl, (.refl _)⟩, rfl, trivial⟩,  trivial⟩ (doneA (.inr rfl) rfl ⟨trivial, trivial⟩ (.refl _) hasNil))
/-- courant/couranthelp.Same[byte] -/
def C108 (N : Nat → Nat) : AFunc := { n := 30, params := 3, res := [.tmp 6], body :=
 (.seq (.region false [⟨(some 6), .mv (.k (.d (.bool false))), none, []⟩])
  (.seq (.seq (.region false [⟨(some 8), .mv (.t 0), none, []⟩,
     ⟨(some 9), .len (.t 8), none, [0]⟩,
     ⟨(some 10), .mv (.t 1), none, []⟩,
     ⟨(some 11), .len (.t 10), none, [2]⟩,
     ⟨(some 12), .bin .neq (.t 9) (.t 11), none, [1, 3]⟩])
    (.cond (.t 12) (.seq (.region false [⟨(some 6), .mv (.k (.d (.bool false))), none, []⟩])
      .ret)
     (.skip)))
   (.seq (.seq (.region false [⟨(some 7), .mv (.k (.d (.int .i64 0))), none, []⟩])
     (.block 0 (.loop (.seq (.seq (.region false [⟨(some 13), .mv (.t 7), none, []⟩,
          ⟨(some 14), .mv (.t 0), none, []⟩,
          ⟨(some 15), .len (.t 14), none, [1]⟩,
          ⟨(some 16), .bin .lss (.t 13) (.t 15), none, [0, 2]⟩])
         (.cond (.t 16) (.skip)
          (.exit 0)))
        (.seq (.block 1 (.seq (.region true [⟨(some 19), .mv (.t 2), none, []⟩,
            ⟨(some 20), .mv (.t 0), none, []⟩,
            ⟨(some 21), .mv (.t 7), none, []⟩,
            ⟨(some 22), .iaddr (.t 20) (.t 21) 1, none, [1, 2]⟩,
            ⟨(some 23), .load (.t 22) 1 false, none, [3]⟩,
            ⟨(some 24), .mv (.t 1), none, []⟩,
            ⟨(some 25), .mv (.t 7), none, []⟩,
            ⟨(some 26), .iaddr (.t 24) (.t 25) 1, none, [5, 6]⟩,
            ⟨(some 27), .load (.t 26) 1 false, none, [7]⟩,
            ⟨(some 28), .call (.t 19) [(.t 23), (.t 27)], none, [0, 4, 8]⟩,
            ⟨(some 29), .un .not (.t 28), none, [9]⟩])
           (.cond (.t 29) (.seq (.region false [⟨(some 6), .mv (.k (.d (.bool false))), none, []⟩])
             .ret)
            (.skip))))
         (.region false [⟨(some 17), .mv (.t 7), none, []⟩,
          ⟨(some 18), .bin .add (.t 17) (.k (.d (.int .i64 1))), none, [0]⟩,
          ⟨(some 7), .mv (.t 18), none, [1, 0]⟩]))))))
    (.seq (.region false [⟨(some 6), .mv (.k (.d (.bool true))), none, []⟩])
     .ret)))) }
def HC108 (P : Program) (N : Nat → Nat) : Prop := HasF P (N 108) (C108 N) ∧ HC109 P N
def f108_l26 (a0 : (List UInt8)) (a1 : (List UInt8)) : Nat → Int → Option (LR2 Unit Unit Bool)
  | 0, _ => none
  | k + 1, y26_1 => cond (decide (y26_1 < ((a0.length : Nat) : Int))) (gd (0 ≤ y26_1 ∧ y26_1 < ((a0.length : Nat) : Int)) (gd (0 ≤ y26_1 ∧ y26_1 < ((a1.length : Nat) : Int)) ((f109 k (rd a0 y26_1) (rd a1 y26_1)).bind fun r53 => cond (!(decide ((((rd a0 y26_1).toNat : Nat) : Int) = (((rd a1 y26_1).toNat : Nat) : Int)))) (some (.r false)) (f108_l26 a0 a1 k (IntKind.i64.wrap (y26_1 + (1 : Int))))))) (some (.b0 ()))
def f108 (k : Nat) (a0 : (List UInt8)) (a1 : (List UInt8)) : Option Bool := cond (decide (((a0.length : Nat) : Int) ≠ ((a1.length : Nat) : Int))) (some false) ((f108_l26 a0 a1 k (0 : Int)).bind fun o26 => match o26 with | .b0 () => some true | .r x => some x | _ => none)
theorem F108 {P : Program} {N : Nat → Nat} (hmix : P.follows .mixedOrders = true) (hc : HC108 P N) {k : Nat} {a0 : (List UInt8)} {a1 : (List UInt8)} {r : Bool} (h : f108 k a0 a1 = some r) :
    ACalls P (N 108) [(.d (.sl (List.map byteD a0))), (.d (.sl (List.map byteD a1))), (.d (.fn (N 109)))] [] (.d (.bool r)) [] := by
  refine acalls_canon (F := C108 N) hc.1 0 0 rfl ?_
  unfold f108 at h
  dsimp only [C108, startL]
  refine AWc.seq ?_
  refine AWc.rg hmix rfl rfl ?_
  refine RegV.p0 rfl rfl rfl ?_
  refine RegV.nil0 ?_
  refine AWc.seq ?_
  refine AWc.seq ?_
  refine AWc.rg hmix rfl rfl ?_
  refine RegV.p0 rfl rfl rfl ?_
  refine RegV.len (xs := a0) (e := byteD) rfl rfl rfl rfl ?_
  refine RegV.p0 rfl rfl rfl ?_
  refine RegV.len (xs := a1) (e := byteD) rfl rfl rfl rfl ?_
  refine RegV.p0 (v := (.d (.bool (decide (((a0.length : Nat) : Int) ≠ ((a1.length : Nat) : Int)))))) rfl rfl rfl ?_
  refine RegV.nil0 ?_
  refine AWc.cond rfl (fun c14 => ?_) (fun c14 => ?_)
  · have h := cond_pos c14 h
    refine AWc.seq ?_
    refine AWc.rg hmix rfl rfl ?_
    refine RegV.p0 rfl rfl rfl ?_
    refine RegV.nil0 ?_
    have hr := Option.some.inj h
    subst hr
    exact AWc.ret (canQ (N := 30) (k := 0) (l' := [(6, (.d (.bool false)))]) (H' := []) rfl ⟨rfl, [], [], rfl, rfl, ⟨⟨_, rfl, (.refl _)⟩, rfl, trivial⟩,  trivial⟩ (doneA (.inr rfl) rfl ⟨trivial, trivial⟩ (.refl _) hasNil))
  · have h := cond_neg c14 h
    refine AWc.skip ?_
    refine AWc.seq ?_
    refine AWc.seq ?_
    refine AWc.rg hmix rfl rfl ?_
    refine RegV.p0 rfl rfl rfl ?_
    refine RegV.nil0 ?_
    obtain ⟨o26, h26, h⟩ := bind_some h
    refine AWc.block ?_
    refine AWc.loopK (N := 30) 0 (fun (x : Int) => [(0, (.d (.sl (List.map byteD a0)))), (1, (.d (.sl (List.map byteD a1)))), (2, (.d (.fn (N 109)))), (7, (.d (.int .i64 x)))]) (fun x => []) (fun k x => f108_l26 a0 a1 k x = some o26) k (0 : Int) rfl_le (fun x hx => by cases hx) h26 ⟨rfl, [], [], rfl, rfl, ⟨⟨_, rfl, (.refl _)⟩, rfl, ⟨⟨_, rfl, (.refl _)⟩, rfl, ⟨⟨_, rfl, (.refl _)⟩, rfl, ⟨⟨_, rfl, (.refl _)⟩, rfl, trivial⟩⟩⟩⟩,  trivial⟩ ?_
    clear h26
    intro k
    intro y26_1 h26
    rw [f108_l26] at h26
    refine AWc.seq ?_
    refine AWc.seq ?_
    refine AWc.rg hmix rfl rfl ?_
    refine RegV.p0 rfl rfl rfl ?_
    refine RegV.p0 rfl rfl rfl ?_
    refine RegV.len (xs := a0) (e := byteD) rfl rfl rfl rfl ?_
    refine RegV.p0 (v := (.d (.bool (decide (y26_1 < ((a0.length : Nat) : Int)))))) rfl rfl rfl ?_
    refine RegV.nil0 ?_
    refine AWc.cond rfl (fun c36 => ?_) (fun c36 => ?_)
    · have h26 := cond_pos c36 h26
      refine AWc.skip ?_
      refine AWc.seq ?_
      refine AWc.block ?_
      refine AWc.seq ?_
      refine AWc.rg hmix rfl rfl ?_
      refine RegV.p0 rfl rfl rfl ?_
      refine RegV.p0 rfl rfl rfl ?_
      refine RegV.p0 rfl rfl rfl ?_
      obtain ⟨b47, h26⟩ := gd_some h26
      refine RegV.iad (xs := a0) (e := byteD) rfl rfl rfl rfl (fun _ => rfl) b47 rfl ?_
      refine RegV.p0 (v := (.d (.int .u8 (((rd a0 y26_1).toNat : Nat) : Int)))) rfl rfl rfl ?_
      refine RegV.p0 rfl rfl rfl ?_
      refine RegV.p0 rfl rfl rfl ?_
      obtain ⟨b51, h26⟩ := gd_some h26
      refine RegV.iad (xs := a1) (e := byteD) rfl rfl rfl rfl (fun _ => rfl) b51 rfl ?_
      refine RegV.p0 (v := (.d (.int .u8 (((rd a1 y26_1).toNat : Nat) : Int)))) rfl rfl rfl ?_
      obtain ⟨r53, e53, h26⟩ := bind_some h26
      refine RegV.call0 (F109 hmix hc.2 e53) rfl rfl rfl rfl (.cons (.refl _) (.cons (.refl _) .nil)) rfl ?_
      refine RegV.p0 (v := (.d (.bool (!(decide ((((rd a0 y26_1).toNat : Nat) : Int) = (((rd a1 y26_1).toNat : Nat) : Int))))))) rfl rfl rfl ?_
      refine RegV.nil1 (by kernel_rfl) ?_
      refine AWc.cond rfl (fun c55 => ?_) (fun c55 => ?_)
      · have h26 := cond_pos c55 h26
        refine AWc.seq ?_
        refine AWc.rg hmix rfl rfl ?_
        refine RegV.p0 rfl rfl rfl ?_
        refine RegV.nil0 ?_
        cases h26
        dsimp only at h
        have hr := Option.some.inj h
        subst hr
        exact AWc.ret (canQ (N := 30) (k := 0) (l' := [(6, (.d (.bool false)))]) (H' := []) rfl ⟨rfl, [], [], rfl, rfl, ⟨⟨_, rfl, (.refl _)⟩, rfl, trivial⟩,  trivial⟩ (doneA (.inr rfl) rfl ⟨trivial, trivial⟩ (.refl _) hasNil))
      · have h26 := cond_neg c55 h26
        refine AWc.skip ?_
        refine AWc.rg hmix rfl rfl ?_
        refine RegV.p0 rfl rfl rfl ?_
        refine RegV.p0 (v := (.d (.int .i64 (IntKind.i64.wrap (y26_1 + (1 : Int)))))) rfl rfl rfl ?_
        refine RegV.p0 rfl rfl rfl ?_
        refine RegV.nil0 ?_
        exact ⟨(IntKind.i64.wrap (y26_1 + (1 : Int))), h26, ⟨rfl, [], [], rfl, rfl, ⟨⟨_, rfl, (.refl _)⟩, rfl, ⟨⟨_, rfl, (.refl _)⟩, rfl, ⟨⟨_, rfl, (.refl _)⟩, rfl, ⟨⟨_, rfl, (.refl _)⟩, rfl, trivial⟩⟩⟩⟩,  trivial⟩⟩
    · have h26 := cond_neg c36 h26
      cases h26
      dsimp only at h
      refine AWc.exit ?_
      refine inBlk_eq ?_
      refine AWc.seq ?_
      refine AWc.rg hmix rfl rfl ?_
      refine RegV.p0 rfl rfl rfl ?_
      refine RegV.nil0 ?_
      have hr := Option.some.inj h
      subst hr
      exact AWc.ret (canQ (N := 30) (k := 0) (l' := [(6, (.d (.bool true)))]) (H' := []) rfl ⟨rfl, [], [], rfl, rfl, ⟨⟨_, rfl, (.refl _)⟩, rfl, trivial⟩,  trivial⟩ (doneA (.inr rfl) rfl ⟨trivial, trivial⟩ (.refl _) hasNil))
/-- courant/couranthelp.Plain[byte] -/
def C83 (N : Nat → Nat) : AFunc := { n := 8, params := 2, res := [.tmp 4], body :=
 (.seq (.region false [⟨(some 4), .mv (.k (.d (.bool false))), none, []⟩])
  (.seq (.region false [⟨(some 5), .mv (.t 0), none, []⟩,
    ⟨(some 6), .mv (.t 1), none, []⟩,
    ⟨(some 7), .call (.k (.d (.fn (N 108)))) [(.t 5), (.t 6), (.k (.d (.fn (N 109))))], none, [0, 1]⟩,
    ⟨(some 4), .mv (.t 7), none, [2, 0, 1]⟩])
   .ret)) }
def HC83 (P : Program) (N : Nat → Nat) : Prop := HasF P (N 83) (C83 N) ∧ HC108 P N
def f83 (k : Nat) (a0 : (List UInt8)) (a1 : (List UInt8)) : Option Bool := (f108 k a0 a1).bind fun r10 => some r10
theorem F83 {P : Program} {N : Nat → Nat} (hmix : P.follows .mixedOrders = true) (hc : HC83 P N) {k : Nat} {a0 : (List UInt8)} {a1 : (List UInt8)} {r : Bool} (h : f83 k a0 a1 = some r) :
    ACalls P (N 83) [(.d (.sl (List.map byteD a0))), (.d (.sl (List.map byteD a1)))] [] (.d (.bool r)) [] := by
  refine acalls_canon (F := C83 N) hc.1 0 0 rfl ?_
  unfold f83 at h
  dsimp only [C83, startL]
  refine AWc.seq ?_
  refine AWc.rg hmix rfl rfl ?_
  refine RegV.p0 rfl rfl rfl ?_
  refine RegV.nil0 ?_
  refine AWc.seq ?_
  refine AWc.rg hmix rfl rfl ?_
  refine RegV.p0 rfl rfl rfl ?_
  refine RegV.p0 rfl rfl rfl ?_
  obtain ⟨r10, e10, h⟩ := bind_some h
  refine RegV.call0 (F108 hmix hc.2 e10) rfl rfl rfl rfl (.cons (.refl _) (.cons (.refl _) (.cons (.refl _) .nil))) rfl ?_
  refine RegV.p0 rfl rfl rfl ?_
  refine RegV.nil0 ?_
  have hr := Option.some.inj h
  subst hr
  exact AWc.ret (canQ (N := 8) (k := 0) (l' := [(4, (.d (.bool r10)))]) (H' := []) rfl ⟨rfl, [], [], rfl, rfl, ⟨⟨_, rfl, (.refl _)⟩, rfl, trivial⟩,  trivial⟩ (doneA (.inr rfl) rfl ⟨trivial, trivial⟩ (.refl _) hasNil))
/-- courant/couranthelp.Kept[byte] -/
def C29 (N : Nat → Nat) : AFunc := { n := 40, params := 3, res := [.tmp 6], body :=
 (.seq (.region false [⟨(some 6), .mv (.k (.d (.bool false))), none, []⟩])
  (.seq (.seq (.region false [⟨(some 9), .mv (.t 0), none, []⟩,
     ⟨(some 10), .mv (.t 1), none, []⟩,
     ⟨(some 11), .call (.k (.d (.fn (N 83)))) [(.t 9), (.t 10)], none, [0, 1]⟩,
     ⟨(some 12), .un .not (.t 11), none, [2]⟩,
     ⟨(some 13), .mv (.t 12), none, [3, 2]⟩,
     ⟨(some 14), .mv (.t 0), (some (13, false)), [4]⟩,
     ⟨(some 15), .cap (.t 14), (some (13, false)), [5, 4]⟩,
     ⟨(some 16), .mv (.t 1), (some (13, false)), [4]⟩,
     ⟨(some 17), .len (.t 16), (some (13, false)), [7, 4]⟩,
     ⟨(some 18), .bin .add (.t 17) (.k (.d (.int .i64 3))), (some (13, false)), [8, 4]⟩,
     ⟨(some 19), .bin .lss (.t 15) (.t 18), (some (13, false)), [6, 9, 4]⟩,
     ⟨(some 20), .pick (.t 13) (.k (.d (.bool true))) (.t 19), none, [4, 10]⟩])
    (.cond (.t 20) (.seq (.region false [⟨(some 6), .mv (.k (.d (.bool false))), none, []⟩])
      .ret)
     (.skip)))
   (.seq (.region false [⟨(some 21), .mv (.t 0), none, []⟩,
     ⟨(some 22), .mv (.t 1), none, []⟩,
     ⟨(some 23), .len (.t 22), none, [1]⟩,
     ⟨(some 24), .bin .add (.t 23) (.k (.d (.int .i64 3))), none, [2]⟩,
     ⟨(some 25), .slc (.t 21) none (some (.t 24)) none 1, none, [0, 3]⟩,
     ⟨(some 7), .mv (.t 25), none, [4, 0, 1, 2, 3]⟩])
    (.seq (.seq (.region false [⟨(some 26), .mv (.t 1), none, []⟩,
       ⟨(some 27), .len (.t 26), none, [0]⟩,
       ⟨(some 8), .mv (.t 27), none, [1, 0]⟩])
      (.block 0 (.loop (.seq (.seq (.region false [⟨(some 28), .mv (.t 8), none, []⟩,
           ⟨(some 29), .mv (.t 7), none, []⟩,
           ⟨(some 30), .len (.t 29), none, [1]⟩,
           ⟨(some 31), .bin .lss (.t 28) (.t 30), none, [0, 2]⟩])
          (.cond (.t 31) (.skip)
           (.exit 0)))
         (.seq (.block 1 (.seq (.region false [⟨(some 34), .mv (.t 7), none, []⟩,
             ⟨(some 35), .mv (.t 8), none, []⟩,
             ⟨(some 36), .iaddr (.t 34) (.t 35) 1, none, [0, 1]⟩,
             ⟨(some 37), .load (.t 36) 1 false, none, [2]⟩,
             ⟨(some 38), .mv (.t 2), none, []⟩,
             ⟨(some 39), .bin .neq (.t 37) (.t 38), none, [3, 4]⟩])
            (.cond (.t 39) (.seq (.region false [⟨(some 6), .mv (.k (.d (.bool false))), none, []⟩])
              .ret)
             (.skip))))
          (.region false [⟨(some 32), .mv (.t 8), none, []⟩,
           ⟨(some 33), .bin .add (.t 32) (.k (.d (.int .i64 1))), none, [0]⟩,
           ⟨(some 8), .mv (.t 33), none, [1, 0]⟩]))))))
     (.seq (.region false [⟨(some 6), .mv (.k (.d (.bool true))), none, []⟩])
      .ret))))) }
def HC29 (P : Program) (N : Nat → Nat) : Prop := HasF P (N 29) (C29 N) ∧ HC83 P N
def f29_l44 (a2 : (List UInt8)) (a0 : (List UInt8)) (a3 : UInt8) : Nat → Int → Option (LR2 Unit Unit Bool)
  | 0, _ => none
  | k + 1, y44_1 => cond (decide (y44_1 < (((List.take (((IntKind.i64.wrap (((a2.length : Nat) : Int) + (3 : Int)))).toNat) a0).length : Nat) : Int))) (gd (0 ≤ y44_1 ∧ y44_1 < (((List.take (((IntKind.i64.wrap (((a2.length : Nat) : Int) + (3 : Int)))).toNat) a0).length : Nat) : Int)) (cond (decide ((((rd (List.take (((IntKind.i64.wrap (((a2.length : Nat) : Int) + (3 : Int)))).toNat) a0) y44_1).toNat : Nat) : Int) ≠ ((a3.toNat : Nat) : Int))) (some (.r false)) (f29_l44 a2 a0 a3 k (IntKind.i64.wrap (y44_1 + (1 : Int)))))) (some (.b0 ()))
def f29 (k : Nat) (a0 : (List UInt8)) (a1 : Nat) (a2 : (List UInt8)) (a3 : UInt8) : Option Bool := (f83 k (List.take a1 a0) a2).bind fun r11 => cond (!r11) (some false) (cond (decide (((a0.length : Nat) : Int) < (IntKind.i64.wrap (((a2.length : Nat) : Int) + (3 : Int))))) (some false) (gd (0 ≤ (IntKind.i64.wrap (((a2.length : Nat) : Int) + (3 : Int))) ∧ (IntKind.i64.wrap (((a2.length : Nat) : Int) + (3 : Int))) ≤ ((a0.length : Nat) : Int)) ((f29_l44 a2 a0 a3 k ((a2.length : Nat) : Int)).bind fun o44 => match o44 with | .b0 () => some true | .r x => some x | _ => none)))
theorem F29 {P : Program} {N : Nat → Nat} (hmix : P.follows .mixedOrders = true) (hc : HC29 P N) {k : Nat} {a0 : (List UInt8)} {a1 : Nat} {a2 : (List UInt8)} {a3 : UInt8} {r : Bool} (h : f29 k a0 a1 a2 a3 = some r) :
    ACalls P (N 29) [(.win (List.map byteD a0) a1), (.d (.sl (List.map byteD a2))), (.d (.int .u8 ((a3.toNat : Nat) : Int)))] [] (.d (.bool r)) [] := by
  refine acalls_canon (F := C29 N) hc.1 0 0 rfl ?_
  unfold f29 at h
  dsimp only [C29, startL]
  refine AWc.seq ?_
  refine AWc.rg hmix rfl rfl ?_
  refine RegV.p0 rfl rfl rfl ?_
  refine RegV.nil0 ?_
  refine AWc.seq ?_
  refine AWc.seq ?_
  refine AWc.rg hmix rfl rfl ?_
  refine RegV.p0 rfl rfl rfl ?_
  refine RegV.p0 rfl rfl rfl ?_
  obtain ⟨r11, e11, h⟩ := bind_some h
  refine RegV.call0 (F83 hmix hc.2 e11) rfl rfl rfl rfl (.cons .win (.cons (.refl _) .nil)) rfl ?_
  refine RegV.p0 (v := (.d (.bool (!r11)))) rfl rfl rfl ?_
  refine RegV.p0 rfl rfl rfl ?_
  refine RegV.split (fun c13 => ?_) (fun c13 => ?_)
  · have h := cond_pos c13 h
    refine RegV.noS rfl rfl ?_
    refine RegV.noS rfl rfl ?_
    refine RegV.noS rfl rfl ?_
    refine RegV.noS rfl rfl ?_
    refine RegV.noS rfl rfl ?_
    refine RegV.noS rfl rfl ?_
    refine RegV.p0 rfl rfl rfl ?_
    refine RegV.nil0 ?_
    refine AWc.cond rfl (fun _ => ?_) (fun hc => by cases hc)
    refine AWc.seq ?_
    refine AWc.rg hmix rfl rfl ?_
    refine RegV.p0 rfl rfl rfl ?_
    refine RegV.nil0 ?_
    have hr := Option.some.inj h
    subst hr
    exact AWc.ret (canQ (N := 40) (k := 0) (l' := [(6, (.d (.bool false)))]) (H' := []) rfl ⟨rfl, [], [], rfl, rfl, ⟨⟨_, rfl, (.refl _)⟩, rfl, trivial⟩,  trivial⟩ (doneA (.inr rfl) rfl ⟨trivial, trivial⟩ (.refl _) hasNil))
  · have h := cond_neg c13 h
    refine RegV.p0 rfl rfl rfl ?_
    refine RegV.capW (ys := a0) (e := byteD) rfl rfl rfl ?_
    refine RegV.p0 rfl rfl rfl ?_
    refine RegV.len (xs := a2) (e := byteD) rfl rfl rfl rfl ?_
    refine RegV.p0 (v := (.d (.int .i64 (IntKind.i64.wrap (((a2.length : Nat) : Int) + (3 : Int)))))) rfl rfl rfl ?_
    refine RegV.p0 (v := (.d (.bool (decide (((a0.length : Nat) : Int) < (IntKind.i64.wrap (((a2.length : Nat) : Int) + (3 : Int)))))))) rfl rfl rfl ?_
    refine RegV.p0 rfl rfl rfl ?_
    refine RegV.nil0 ?_
    refine AWc.cond rfl (fun c21 => ?_) (fun c21 => ?_)
    · have h := cond_pos c21 h
      refine AWc.seq ?_
      refine AWc.rg hmix rfl rfl ?_
      refine RegV.p0 rfl rfl rfl ?_
      refine RegV.nil0 ?_
      have hr := Option.some.inj h
      subst hr
      exact AWc.ret (canQ (N := 40) (k := 0) (l' := [(6, (.d (.bool false)))]) (H' := []) rfl ⟨rfl, [], [], rfl, rfl, ⟨⟨_, rfl, (.refl _)⟩, rfl, trivial⟩,  trivial⟩ (doneA (.inr rfl) rfl ⟨trivial, trivial⟩ (.refl _) hasNil))
    · have h := cond_neg c21 h
      refine AWc.skip ?_
      refine AWc.seq ?_
      refine AWc.rg hmix rfl rfl ?_
      refine RegV.p0 rfl rfl rfl ?_
      refine RegV.p0 rfl rfl rfl ?_
      refine RegV.len (xs := a2) (e := byteD) rfl rfl rfl rfl ?_
      refine RegV.p0 (v := (.d (.int .i64 (IntKind.i64.wrap (((a2.length : Nat) : Int) + (3 : Int)))))) rfl rfl rfl ?_
      obtain ⟨b35, h⟩ := gd_some h
      refine RegV.slW (ys := a0) (e := byteD) (hi := (IntKind.i64.wrap (((a2.length : Nat) : Int) + (3 : Int)))) rfl rfl rfl b35 rfl ?_
      refine RegV.p0 rfl rfl rfl ?_
      refine RegV.nil0 ?_
      refine AWc.seq ?_
      refine AWc.seq ?_
      refine AWc.rg hmix rfl rfl ?_
      refine RegV.p0 rfl rfl rfl ?_
      refine RegV.len (xs := a2) (e := byteD) rfl rfl rfl rfl ?_
      refine RegV.p0 rfl rfl rfl ?_
      refine RegV.nil0 ?_
      obtain ⟨o44, h44, h⟩ := bind_some h
      refine AWc.block ?_
      refine AWc.loopK (N := 40) 0 (fun (x : Int) => [(2, (.d (.int .u8 ((a3.toNat : Nat) : Int)))), (7, (.win (List.map byteD a0) (((IntKind.i64.wrap (((a2.length : Nat) : Int) + (3 : Int)))).toNat))), (8, (.d (.int .i64 x)))]) (fun x => []) (fun k x => f29_l44 a2 a0 a3 k x = some o44) k ((a2.length : Nat) : Int) rfl_le (fun x hx => by cases hx) h44 ⟨rfl, [], [], rfl, rfl, ⟨⟨_, rfl, (.refl _)⟩, rfl, ⟨⟨_, rfl, (.refl _)⟩, rfl, ⟨⟨_, rfl, (.refl _)⟩, rfl, trivial⟩⟩⟩,  trivial⟩ ?_
      clear h44
      intro k
      intro y44_1 h44
      rw [f29_l44] at h44
      refine AWc.seq ?_
      refine AWc.seq ?_
      refine AWc.rg hmix rfl rfl ?_
      refine RegV.p0 rfl rfl rfl ?_
      refine RegV.p0 rfl rfl rfl ?_
      refine RegV.len (xs := (List.take (((IntKind.i64.wrap (((a2.length : Nat) : Int) + (3 : Int)))).toNat) a0)) (e := byteD) rfl rfl (toSlW _ _) rfl ?_
      refine RegV.p0 (v := (.d (.bool (decide (y44_1 < (((List.take (((IntKind.i64.wrap (((a2.length : Nat) : Int) + (3 : Int)))).toNat) a0).length : Nat) : Int)))))) rfl rfl rfl ?_
      refine RegV.nil0 ?_
      refine AWc.cond rfl (fun c54 => ?_) (fun c54 => ?_)
      · have h44 := cond_pos c54 h44
        refine AWc.skip ?_
        refine AWc.seq ?_
        refine AWc.block ?_
        refine AWc.seq ?_
        refine AWc.rg hmix rfl rfl ?_
        refine RegV.p0 rfl rfl rfl ?_
        refine RegV.p0 rfl rfl rfl ?_
        obtain ⟨b64, h44⟩ := gd_some h44
        refine RegV.iad (xs := (List.take (((IntKind.i64.wrap (((a2.length : Nat) : Int) + (3 : Int)))).toNat) a0)) (e := byteD) rfl rfl (toSlW _ _) rfl (fun _ => rfl) b64 rfl ?_
        refine RegV.p0 (v := (.d (.int .u8 (((rd (List.take (((IntKind.i64.wrap (((a2.length : Nat) : Int) + (3 : Int)))).toNat) a0) y44_1).toNat : Nat) : Int)))) rfl rfl rfl ?_
        refine RegV.p0 rfl rfl rfl ?_
        refine RegV.p0 (v := (.d (.bool (decide ((((rd (List.take (((IntKind.i64.wrap (((a2.length : Nat) : Int) + (3 : Int)))).toNat) a0) y44_1).toNat : Nat) : Int) ≠ ((a3.toNat : Nat) : Int)))))) rfl rfl rfl ?_
        refine RegV.nil0 ?_
        refine AWc.cond rfl (fun c68 => ?_) (fun c68 => ?_)
        · have h44 := cond_pos c68 h44
          refine AWc.seq ?_
          refine AWc.rg hmix rfl rfl ?_
          refine RegV.p0 rfl rfl rfl ?_
          refine RegV.nil0 ?_
          cases h44
          dsimp only at h
          have hr := Option.some.inj h
          subst hr
          exact AWc.ret (canQ (N := 40) (k := 0) (l' := [(6, (.d (.bool false)))]) (H' := []) rfl ⟨rfl, [], [], rfl, rfl, ⟨⟨_, rfl, (.refl _)⟩, rfl, trivial⟩,  trivial⟩ (doneA (.inr rfl) rfl ⟨trivial, trivial⟩ (.refl _) hasNil))
        · have h44 := cond_neg c68 h44
          refine AWc.skip ?_
          refine AWc.rg hmix rfl rfl ?_
          refine RegV.p0 rfl rfl rfl ?_
          refine RegV.p0 (v := (.d (.int .i64 (IntKind.i64.wrap (y44_1 + (1 : Int)))))) rfl rfl rfl ?_
          refine RegV.p0 rfl rfl rfl ?_
          refine RegV.nil0 ?_
          exact ⟨(IntKind.i64.wrap (y44_1 + (1 : Int))), h44, ⟨rfl, [], [], rfl, rfl, ⟨⟨_, rfl, (.refl _)⟩, rfl, ⟨⟨_, rfl, (.refl _)⟩, rfl, ⟨⟨_, rfl, (.refl _)⟩, rfl, trivial⟩⟩⟩,  trivial⟩⟩
      · have h44 := cond_neg c54 h44
        cases h44
        dsimp only at h
        refine AWc.exit ?_
        refine inBlk_eq ?_
        refine AWc.seq ?_
        refine AWc.rg hmix rfl rfl ?_
        refine RegV.p0 rfl rfl rfl ?_
        refine RegV.nil0 ?_
        have hr := Option.some.inj h
        subst hr
        exact AWc.ret (canQ (N := 40) (k := 0) (l' := [(6, (.d (.bool true)))]) (H' := []) rfl ⟨rfl, [], [], rfl, rfl, ⟨⟨_, rfl, (.refl _)⟩, rfl, trivial⟩,  trivial⟩ (doneA (.inr rfl) rfl ⟨trivial, trivial⟩ (.refl _) hasNil))
/-- courant/courantlaw27.RequestReplies -/
def C14 (N : Nat → Nat) : AFunc := { n := 97, params := 2, res := [.tmp 4], body :=
 (.seq (.region false [⟨(some 2), .box (.t 0), none, []⟩,
   ⟨(some 4), .mv (.k (.d (.bool false))), none, []⟩])
  (.seq (.region false [⟨(some 13), .faddr (.t 2) 4, none, []⟩,
    ⟨(some 14), .load (.t 13) 1 false, none, [0]⟩,
    ⟨(some 15), .slen (.t 14), none, [1]⟩,
    ⟨(some 5), .mv (.t 15), none, [2, 0, 1]⟩])
   (.seq (.seq (.region false [⟨(some 6), .mv (.k (.d (.int .i64 0))), none, []⟩])
     (.block 0 (.loop (.seq (.seq (.region false [⟨(some 16), .mv (.t 6), none, []⟩,
          ⟨(some 17), .faddr (.t 2) 5, none, []⟩,
          ⟨(some 18), .load (.t 17) 1 false, none, [1]⟩,
          ⟨(some 19), .len (.t 18), none, [2]⟩,
          ⟨(some 20), .bin .lss (.t 16) (.t 19), none, [0, 3]⟩,
          ⟨(some 21), .mv (.t 20), none, [4]⟩,
          ⟨(some 22), .mv (.t 6), (some (21, true)), [5]⟩,
          ⟨(some 23), .bin .lss (.t 22) (.k (.d (.int .i64 100))), (some (21, true)), [6, 5]⟩,
          ⟨(some 24), .pick (.t 21) (.t 23) (.k (.d (.bool false))), none, [5, 7]⟩])
         (.cond (.t 24) (.skip)
          (.exit 0)))
        (.seq (.block 1 (.region false [⟨(some 27), .mv (.t 5), none, []⟩,
           ⟨(some 28), .faddr (.t 2) 5, none, []⟩,
           ⟨(some 29), .load (.t 28) 1 false, none, [1]⟩,
           ⟨(some 30), .mv (.t 6), none, []⟩,
           ⟨(some 31), .iaddr (.t 29) (.t 30) 5, none, [2, 3]⟩,
           ⟨(some 32), .faddr (.t 31) 4, none, [4]⟩,
           ⟨(some 33), .load (.t 32) 1 false, none, [5]⟩,
           ⟨(some 34), .len (.t 33), none, [6]⟩,
           ⟨(some 35), .bin .add (.t 27) (.t 34), none, [0, 7]⟩,
           ⟨(some 5), .mv (.t 35), none, [8, 0, 1, 2, 3, 4, 5, 6, 7]⟩]))
         (.region false [⟨(some 25), .mv (.t 6), none, []⟩,
          ⟨(some 26), .bin .add (.t 25) (.k (.d (.int .i64 1))), none, [0]⟩,
          ⟨(some 6), .mv (.t 26), none, [1, 0]⟩]))))))
    (.seq (.seq (.region false [⟨(some 36), .mv (.t 5), none, []⟩,
       ⟨(some 37), .bin .gtr (.t 36) (.k (.d (.int .i64 20000))), none, [0]⟩,
       ⟨(some 38), .mv (.t 37), none, [1]⟩,
       ⟨(some 39), .faddr (.t 2) 5, (some (38, false)), [2]⟩,
       ⟨(some 40), .load (.t 39) 1 false, (some (38, false)), [3, 2]⟩,
       ⟨(some 41), .len (.t 40), (some (38, false)), [4, 2]⟩,
       ⟨(some 42), .bin .gtr (.t 41) (.k (.d (.int .i64 99))), (some (38, false)), [5, 2]⟩,
       ⟨(some 43), .pick (.t 38) (.k (.d (.bool true))) (.t 42), none, [2, 6]⟩,
       ⟨(some 44), .mv (.t 43), none, [7, 2]⟩,
       ⟨(some 45), .mv (.t 1), (some (44, false)), [8]⟩,
       ⟨(some 46), .len (.t 45), (some (44, false)), [9, 8]⟩,
       ⟨(some 47), .bin .gtr (.t 46) (.k (.d (.int .i64 20000))), (some (44, false)), [10, 8]⟩,
       ⟨(some 48), .pick (.t 44) (.k (.d (.bool true))) (.t 47), none, [8, 11]⟩])
      (.cond (.t 48) (.seq (.region false [⟨(some 49), .call (.k (.d (.fn (N 56)))) [], none, []⟩,
         ⟨(some 4), .mv (.t 49), none, [0]⟩])
        .ret)
       (.skip)))
     (.seq (.region false [⟨(some 50), .mv (.t 1), none, []⟩,
       ⟨(some 51), .call (.k (.d (.fn (N 21)))) [(.t 50), (.k (.d (.int .u8 71)))], none, [0]⟩,
       ⟨(some 7), .mv (.t 51), none, [1, 0]⟩])
      (.seq (.region false [⟨(some 52), .load (.t 2) 6 true, none, []⟩,
        ⟨(some 8), .alloc [(.int .i64 0), (.int .i64 0), (.int .i64 0), (.int .u64 0), (.str []), (.sl [])], none, []⟩,
        ⟨none, .store (.t 8) (.t 52) 6, none, [1, 0]⟩])
       (.seq (.region false [⟨(some 53), .faddr (.t 2) 5, none, []⟩,
         ⟨(some 54), .load (.t 53) 1 false, none, [0]⟩,
         ⟨(some 55), .call (.k (.d (.fn (N 62)))) [(.t 54)], none, [1]⟩,
         ⟨(some 56), .faddr (.t 8) 5, none, [0, 1, 2]⟩,
         ⟨none, .store (.t 56) (.t 55) 1, none, [3, 2, 0, 1]⟩])
        (.seq (.region false [⟨(some 58), .mv (.t 7), none, []⟩,
          ⟨(some 59), .call (.k (.d (.fn (N 63)))) [(.t 58)], none, [0]⟩,
          ⟨(some 57), .mv (.t 59), none, [1]⟩,
          ⟨(some 60), .ext (.t 57) 0, none, [2]⟩,
          ⟨(some 61), .ext (.t 57) 1, none, [2]⟩,
          ⟨(some 9), .alloc [(.int .i64 0), (.int .i64 0), (.int .i64 0), (.int .u64 0), (.str []), (.sl [])], none, []⟩,
          ⟨none, .store (.t 9) (.t 60) 6, none, [5, 3, 1, 0, 2]⟩,
          ⟨(some 10), .mv (.t 61), none, [4, 6, 0, 1, 2, 3, 5]⟩])
         (.seq (.region false [⟨(some 63), .mv (.t 1), none, []⟩,
           ⟨(some 64), .call (.k (.d (.fn (N 64)))) [(.t 63)], none, [0]⟩,
           ⟨(some 62), .mv (.t 64), none, [1]⟩,
           ⟨(some 65), .ext (.t 62) 0, none, [2]⟩,
           ⟨(some 66), .ext (.t 62) 1, none, [2]⟩,
           ⟨(some 11), .alloc [(.int .i64 0), (.int .i64 0), (.int .i64 0), (.int .u64 0), (.str []), (.sl [])], none, []⟩,
           ⟨none, .store (.t 11) (.t 65) 6, none, [5, 3, 1, 0, 2]⟩,
           ⟨(some 12), .mv (.t 66), none, [4, 6, 0, 1, 2, 3, 5]⟩])
          (.seq (.region true [⟨(some 67), .call (.k (.d (.fn (N 56)))) [], none, []⟩,
            ⟨(some 68), .mv (.t 67), none, [0]⟩,
            ⟨(some 69), .load (.t 8) 6 true, (some (68, true)), [1]⟩,
            ⟨(some 70), .call (.k (.d (.fn (N 65)))) [(.t 69)], (some (68, true)), [2, 1]⟩,
            ⟨(some 71), .load (.t 2) 6 true, (some (68, true)), [1]⟩,
            ⟨(some 72), .call (.k (.d (.fn (N 66)))) [(.t 71)], (some (68, true)), [4, 3, 1]⟩,
            ⟨(some 73), .call (.k (.d (.fn (N 22)))) [(.t 70), (.t 72)], (some (68, true)), [3, 5, 1]⟩,
            ⟨(some 74), .pick (.t 68) (.t 73) (.k (.d (.bool false))), none, [1, 6]⟩,
            ⟨(some 75), .mv (.t 74), none, [7, 6]⟩,
            ⟨(some 76), .load (.t 9) 6 true, (some (75, true)), [8]⟩,
            ⟨(some 77), .load (.t 11) 6 true, (some (75, true)), [8]⟩,
            ⟨(some 78), .call (.k (.d (.fn (N 67)))) [(.t 76), (.t 77)], (some (75, true)), [9, 10, 8]⟩,
            ⟨(some 79), .pick (.t 75) (.t 78) (.k (.d (.bool false))), none, [8, 11]⟩,
            ⟨(some 80), .mv (.t 79), none, [12, 11]⟩,
            ⟨(some 81), .mv (.t 10), (some (80, true)), [13]⟩,
            ⟨(some 82), .mv (.t 12), (some (80, true)), [13]⟩,
            ⟨(some 83), .bin .eql (.t 81) (.t 82), (some (80, true)), [14, 15, 13]⟩,
            ⟨(some 84), .pick (.t 80) (.t 83) (.k (.d (.bool false))), none, [13, 16]⟩,
            ⟨(some 85), .mv (.t 84), none, [17, 13]⟩,
            ⟨(some 86), .faddr (.t 8) 5, (some (85, true)), [18]⟩,
            ⟨(some 87), .load (.t 86) 1 false, (some (85, true)), [19, 18]⟩,
            ⟨(some 88), .faddr (.t 2) 5, (some (85, true)), [18]⟩,
            ⟨(some 89), .load (.t 88) 1 false, (some (85, true)), [21, 18]⟩,
            ⟨(some 90), .call (.k (.d (.fn (N 68)))) [(.t 87), (.t 89), (.k (.d (.fn (N 38))))], (some (85, true)), [20, 22, 18]⟩,
            ⟨(some 91), .pick (.t 85) (.t 90) (.k (.d (.bool false))), none, [18, 23]⟩,
            ⟨(some 92), .mv (.t 91), none, [24, 23]⟩,
            ⟨(some 93), .mv (.t 7), (some (92, true)), [25]⟩,
            ⟨(some 94), .mv (.t 1), (some (92, true)), [25]⟩,
            ⟨(some 95), .call (.k (.d (.fn (N 29)))) [(.t 93), (.t 94), (.k (.d (.int .u8 71)))], (some (92, true)), [26, 27, 25]⟩,
            ⟨(some 96), .pick (.t 92) (.t 95) (.k (.d (.bool false))), none, [25, 28]⟩,
            ⟨(some 4), .mv (.t 96), none, [29, 28, 0, 1, 2, 3, 4, 5, 6, 7, 8, 9, 10, 11, 12, 13, 14, 15, 16, 17, 18, 19, 20, 21, 22, 23, 24, 25, 26, 27]⟩])
           .ret)))))))))) }
def HC14 (P : Program) (N : Nat → Nat) : Prop := HasF P (N 14) (C14 N) ∧ HC56 P N ∧ HC21 P N ∧ HC62 P N ∧ HC63 P N ∧ HC64 P N ∧ HC65 P N ∧ HC66 P N ∧ HC22 P N ∧ HC67 P N ∧ HC68 P N ∧ HC29 P N
def f14_j55 (k : Nat) (a0 : TReply) (a1 : (List UInt8)) (j55_1 : Int) : Option Bool := cond (decide (j55_1 > (20000 : Int))) ((f56 k).bind fun r76 => some r76) (cond (decide (((a0.fMessages.length : Nat) : Int) > (99 : Int))) ((f56 k).bind fun r76 => some r76) (cond (decide (((a1.length : Nat) : Int) > (20000 : Int))) ((f56 k).bind fun r76 => some r76) ((f21 k a1 (71 : UInt8)).bind fun r84 => (f62 k a0.fMessages).bind fun r97 => (f63 k (List.take (((0 : Int)).toNat + a1.length) r84)).bind fun r104 => (f64 k a1).bind fun r115 => (f56 k).bind fun r125 => cond r125 ((f65 k (TReply.mk a0.fErr a0.fN a0.fID a0.fOffset a0.fText r97)).bind fun r128 => (f66 k (TReply.mk a0.fErr a0.fN a0.fID a0.fOffset a0.fText a0.fMessages)).bind fun r130 => (f22 k r128 r130).bind fun r131 => cond (decide (r128 = r130)) ((f67 k (TReply.mk r104.2.1 r104.2.2.1 r104.2.2.2.1 r104.2.2.2.2.1 r104.2.2.2.2.2.1 r104.2.2.2.2.2.2) (TReply.mk r115.2.1 r115.2.2.1 r115.2.2.2.1 r115.2.2.2.2.1 r115.2.2.2.2.2.1 r115.2.2.2.2.2.2)).bind fun r136 => cond r136 (cond (decide (r104.1 = r115.1)) ((f68 k r97 a0.fMessages).bind fun r148 => cond r148 ((f29 k r84 (((0 : Int)).toNat + a1.length) a1 (71 : UInt8)).bind fun r153 => some r153) (some false)) (some false)) (some false)) (some false)) (some false))))
def f14_l18 (a0 : TReply) : Nat → Int → Int → Option (LR2 Int Unit Bool)
  | 0, _, _ => none
  | k + 1, y18_1, y18_2 => cond (decide (y18_2 < ((a0.fMessages.length : Nat) : Int))) (cond (decide (y18_2 < (100 : Int))) (gd (0 ≤ y18_2 ∧ y18_2 < ((a0.fMessages.length : Nat) : Int)) (f14_l18 a0 k (IntKind.i64.wrap (y18_1 + ((((rd a0.fMessages y18_2).fData).length : Nat) : Int))) (IntKind.i64.wrap (y18_2 + (1 : Int))))) (some (.b0 y18_1))) (some (.b0 y18_1))
def f14 (k : Nat) (a0 : TReply) (a1 : (List UInt8)) : Option Bool := (f14_l18 a0 k ((a0.fText.length : Nat) : Int) (0 : Int)).bind fun o18 => match o18 with | .b0 x18_1 => f14_j55 k a0 a1 x18_1 | _ => none
theorem F14 {P : Program} {N : Nat → Nat} (hmix : P.follows .mixedOrders = true) (hc : HC14 P N) {k : Nat} {a0 : TReply} {a1 : (List UInt8)} {r : Bool} (h : f14 k a0 a1 = some r) :
    ACalls P (N 14) [(.d (TReply.enc a0)), (.d (.sl (List.map byteD a1)))] [] (.d (.bool r)) [] := by
  refine acalls_canon (F := C14 N) hc.1 0 0 rfl ?_
  unfold f14 at h
  dsimp only [C14, startL]
  refine AWc.seq ?_
  refine AWc.rg hmix rfl rfl ?_
  refine RegV.evS (own := false) (v := (.ptr 0 0)) (H' := [(0, (.cells [(.d (.int .i64 a0.fErr)), (.d (.int .i64 a0.fN)), (.d (.int .i64 a0.fID)), (.d (.int .u64 a0.fOffset)), (.d (.str a0.fText)), (.d (.sl (List.map TMessage.enc a0.fMessages)))]))]) (c' := 1) rfl rfl trivial rfl rfl rfl rfl rfl rfl ?_
  refine RegV.p0 rfl rfl rfl ?_
  refine RegV.nil0 ?_
  refine AWc.seq ?_
  refine AWc.rg hmix rfl rfl ?_
  refine RegV.p0 (v := (.ptr 0 4)) rfl rfl rfl ?_
  refine RegV.ld (v := (.d (.str a0.fText))) (H' := [(0, (.cells [(.d (.int .i64 a0.fErr)), (.d (.int .i64 a0.fN)), (.d (.int .i64 a0.fID)), (.d (.int .u64 a0.fOffset)), (.d (.str a0.fText)), (.d (.sl (List.map TMessage.enc a0.fMessages)))]))]) rfl rfl trivial rfl rfl rfl rfl rfl ?_
  refine RegV.p0 (v := (.d (.int .i64 ((a0.fText.length : Nat) : Int)))) rfl rfl rfl ?_
  refine RegV.p0 rfl rfl rfl ?_
  refine RegV.nil0 ?_
  refine AWc.seqS (N := 97) 1 (fun (z : Int) => [(1, (.d (.sl (List.map byteD a1)))), (2, (.ptr 0 0)), (5, (.d (.int .i64 z)))]) (fun z => [(0, (.cells [(.d (.int .i64 a0.fErr)), (.d (.int .i64 a0.fN)), (.d (.int .i64 a0.fID)), (.d (.int .u64 a0.fOffset)), (.d (.str a0.fText)), (.d (.sl (List.map TMessage.enc a0.fMessages)))]))]) (fun z => f14_j55 k a0 a1 z = some r) rfl_le ?_ ?_
  · refine AWc.seq ?_
    refine AWc.rg hmix rfl rfl ?_
    refine RegV.p0 rfl rfl rfl ?_
    refine RegV.nil0 ?_
    obtain ⟨o18, h18, h⟩ := bind_some h
    refine AWc.block ?_
    refine AWc.loopK (N := 97) 1 (fun (x : (Int × Int)) => [(1, (.d (.sl (List.map byteD a1)))), (2, (.ptr 0 0)), (5, (.d (.int .i64 x.1))), (6, (.d (.int .i64 x.2)))]) (fun x => [(0, (.cells [(.d (.int .i64 a0.fErr)), (.d (.int .i64 a0.fN)), (.d (.int .i64 a0.fID)), (.d (.int .u64 a0.fOffset)), (.d (.str a0.fText)), (.d (.sl (List.map TMessage.enc a0.fMessages)))]))]) (fun k x => f14_l18 a0 k x.1 x.2 = some o18) k (((a0.fText.length : Nat) : Int), (0 : Int)) rfl_le (fun x hx => by cases hx) h18 ⟨rfl, [], [], rfl, rfl, ⟨⟨_, rfl, (.refl _)⟩, rfl, ⟨⟨_, rfl, (.refl _)⟩, rfl, ⟨⟨_, rfl, (.refl _)⟩, rfl, ⟨⟨_, rfl, (.refl _)⟩, rfl, trivial⟩⟩⟩⟩, ⟨⟨_, rfl, (.refl _)⟩, rfl, rfl, trivial⟩⟩ ?_
    clear h18
    intro k
    rintro ⟨y18_1, y18_2⟩ h18
    dsimp only at h18 ⊢
    rw [f14_l18] at h18
    refine AWc.seq ?_
    refine AWc.seq ?_
    refine AWc.rg hmix rfl rfl ?_
    refine RegV.p0 rfl rfl rfl ?_
    refine RegV.p0 (v := (.ptr 0 5)) rfl rfl rfl ?_
    refine RegV.ld (v := (.d (.sl (List.map TMessage.enc a0.fMessages)))) (H' := [(0, (.cells [(.d (.int .i64 a0.fErr)), (.d (.int .i64 a0.fN)), (.d (.int .i64 a0.fID)), (.d (.int .u64 a0.fOffset)), (.d (.str a0.fText)), (.d (.sl (List.map TMessage.enc a0.fMessages)))]))]) rfl rfl trivial rfl rfl rfl rfl rfl ?_
    refine RegV.len (xs := a0.fMessages) (e := TMessage.enc) rfl rfl rfl rfl ?_
    refine RegV.p0 (v := (.d (.bool (decide (y18_2 < ((a0.fMessages.length : Nat) : Int)))))) rfl rfl rfl ?_
    refine RegV.p0 rfl rfl rfl ?_
    refine RegV.split (fun c29 => ?_) (fun c29 => ?_)
    · have h18 := cond_pos c29 h18
      refine RegV.p0 rfl rfl rfl ?_
      refine RegV.p0 (v := (.d (.bool (decide (y18_2 < (100 : Int)))))) rfl rfl rfl ?_
      refine RegV.p0 rfl rfl rfl ?_
      refine RegV.nil0 ?_
      refine AWc.cond rfl (fun c33 => ?_) (fun c33 => ?_)
      · have h18 := cond_pos c33 h18
        refine AWc.skip ?_
        refine AWc.seq ?_
        refine AWc.block ?_
        refine AWc.rg hmix rfl rfl ?_
        refine RegV.p0 rfl rfl rfl ?_
        refine RegV.p0 (v := (.ptr 0 5)) rfl rfl rfl ?_
        refine RegV.ld (v := (.d (.sl (List.map TMessage.enc a0.fMessages)))) (H' := [(0, (.cells [(.d (.int .i64 a0.fErr)), (.d (.int .i64 a0.fN)), (.d (.int .i64 a0.fID)), (.d (.int .u64 a0.fOffset)), (.d (.str a0.fText)), (.d (.sl (List.map TMessage.enc a0.fMessages)))]))]) rfl rfl trivial rfl rfl rfl rfl rfl ?_
        refine RegV.p0 rfl rfl rfl ?_
        obtain ⟨b44, h18⟩ := gd_some h18
        refine RegV.iad (xs := a0.fMessages) (e := TMessage.enc) rfl rfl rfl rfl (fun _ => rfl) b44 rfl ?_
        refine RegV.p0 (v := (.cp (TMessage.enc (rd a0.fMessages y18_2)) 4)) rfl rfl rfl ?_
        refine RegV.p0 (v := (.d (.sl (List.map byteD (rd a0.fMessages y18_2).fData)))) rfl rfl rfl ?_
        refine RegV.len (xs := (rd a0.fMessages y18_2).fData) (e := byteD) rfl rfl rfl rfl ?_
        refine RegV.p0 (v := (.d (.int .i64 (IntKind.i64.wrap (y18_1 + ((((rd a0.fMessages y18_2).fData).length : Nat) : Int)))))) rfl rfl rfl ?_
        refine RegV.p0 rfl rfl rfl ?_
        refine RegV.nil0 ?_
        refine AWc.rg hmix rfl rfl ?_
        refine RegV.p0 rfl rfl rfl ?_
        refine RegV.p0 (v := (.d (.int .i64 (IntKind.i64.wrap (y18_2 + (1 : Int)))))) rfl rfl rfl ?_
        refine RegV.p0 rfl rfl rfl ?_
        refine RegV.nil0 ?_
        exact ⟨((IntKind.i64.wrap (y18_1 + ((((rd a0.fMessages y18_2).fData).length : Nat) : Int))), (IntKind.i64.wrap (y18_2 + (1 : Int)))), h18, ⟨rfl, [], [], rfl, rfl, ⟨⟨_, rfl, (.refl _)⟩, rfl, ⟨⟨_, rfl, (.refl _)⟩, rfl, ⟨⟨_, rfl, (.refl _)⟩, rfl, ⟨⟨_, rfl, (.refl _)⟩, rfl, trivial⟩⟩⟩⟩, ⟨⟨_, rfl, (.refl _)⟩, rfl, rfl, trivial⟩⟩⟩
      · have h18 := cond_neg c33 h18
        cases h18
        dsimp only at h
        refine AWc.exit ?_
        refine inBlk_eq ?_
        exact ⟨y18_1, h, ⟨rfl, [], [], rfl, rfl, ⟨⟨_, rfl, (.refl _)⟩, rfl, ⟨⟨_, rfl, (.refl _)⟩, rfl, ⟨⟨_, rfl, (.refl _)⟩, rfl, trivial⟩⟩⟩, ⟨⟨_, rfl, (.refl _)⟩, rfl, rfl, trivial⟩⟩⟩
    · have h18 := cond_neg c29 h18
      refine RegV.noS rfl rfl ?_
      refine RegV.noS rfl rfl ?_
      refine RegV.p0 rfl rfl rfl ?_
      refine RegV.nil0 ?_
      refine AWc.cond rfl (fun hc => by cases hc) (fun _ => ?_)
      cases h18
      dsimp only at h
      refine AWc.exit ?_
      refine inBlk_eq ?_
      exact ⟨y18_1, h, ⟨rfl, [], [], rfl, rfl, ⟨⟨_, rfl, (.refl _)⟩, rfl, ⟨⟨_, rfl, (.refl _)⟩, rfl, ⟨⟨_, rfl, (.refl _)⟩, rfl, trivial⟩⟩⟩, ⟨⟨_, rfl, (.refl _)⟩, rfl, rfl, trivial⟩⟩⟩
  · intro j55_1 h
    unfold f14_j55 at h
    refine AWc.seq ?_
    refine AWc.seq ?_
    refine AWc.rg hmix rfl rfl ?_
    refine RegV.p0 rfl rfl rfl ?_
    refine RegV.p0 (v := (.d (.bool (decide (j55_1 > (20000 : Int)))))) rfl rfl rfl ?_
    refine RegV.p0 rfl rfl rfl ?_
    refine RegV.split (fun c61 => ?_) (fun c61 => ?_)
    · have h := cond_pos c61 h
      refine RegV.noS rfl rfl ?_
      refine RegV.noS rfl rfl ?_
      refine RegV.noS rfl rfl ?_
      refine RegV.noS rfl rfl ?_
      refine RegV.p0 rfl rfl rfl ?_
      refine RegV.p0 rfl rfl rfl ?_
      refine RegV.noS rfl rfl ?_
      refine RegV.noS rfl rfl ?_
      refine RegV.noS rfl rfl ?_
      refine RegV.p0 rfl rfl rfl ?_
      refine RegV.nil0 ?_
      refine AWc.cond rfl (fun _ => ?_) (fun hc => by cases hc)
      refine AWc.seq ?_
      refine AWc.rg hmix rfl rfl ?_
      obtain ⟨r76, e76, h⟩ := bind_some h
      refine RegV.call0 (F56 hmix hc.2.1 e76) rfl rfl rfl rfl .nil rfl ?_
      refine RegV.p0 rfl rfl rfl ?_
      refine RegV.nil0 ?_
      have hr := Option.some.inj h
      subst hr
      exact AWc.ret (canQ (N := 97) (k := 0) (l' := [(4, (.d (.bool r76)))]) (H' := []) rfl ⟨rfl, [], [], rfl, rfl, ⟨⟨_, rfl, (.refl _)⟩, rfl, trivial⟩,  trivial⟩ (doneA (.inr rfl) rfl ⟨trivial, trivial⟩ (.refl _) hasNil))
    · have h := cond_neg c61 h
      refine RegV.p0 (v := (.ptr 0 5)) rfl rfl rfl ?_
      refine RegV.ld (v := (.d (.sl (List.map TMessage.enc a0.fMessages)))) (H' := [(0, (.cells [(.d (.int .i64 a0.fErr)), (.d (.int .i64 a0.fN)), (.d (.int .i64 a0.fID)), (.d (.int .u64 a0.fOffset)), (.d (.str a0.fText)), (.d (.sl (List.map TMessage.enc a0.fMessages)))]))]) rfl rfl trivial rfl rfl rfl rfl rfl ?_
      refine RegV.len (xs := a0.fMessages) (e := TMessage.enc) rfl rfl rfl rfl ?_
      refine RegV.p0 (v := (.d (.bool (decide (((a0.fMessages.length : Nat) : Int) > (99 : Int)))))) rfl rfl rfl ?_
      refine RegV.p0 rfl rfl rfl ?_
      refine RegV.p0 rfl rfl rfl ?_
      refine RegV.split (fun c67 => ?_) (fun c67 => ?_)
      · have h := cond_pos c67 h
        refine RegV.noS rfl rfl ?_
        refine RegV.noS rfl rfl ?_
        refine RegV.noS rfl rfl ?_
        refine RegV.p0 rfl rfl rfl ?_
        refine RegV.nil0 ?_
        refine AWc.cond rfl (fun _ => ?_) (fun hc => by cases hc)
        refine AWc.seq ?_
        refine AWc.rg hmix rfl rfl ?_
        obtain ⟨r76, e76, h⟩ := bind_some h
        refine RegV.call0 (F56 hmix hc.2.1 e76) rfl rfl rfl rfl .nil rfl ?_
        refine RegV.p0 rfl rfl rfl ?_
        refine RegV.nil0 ?_
        have hr := Option.some.inj h
        subst hr
        exact AWc.ret (canQ (N := 97) (k := 0) (l' := [(4, (.d (.bool r76)))]) (H' := []) rfl ⟨rfl, [], [], rfl, rfl, ⟨⟨_, rfl, (.refl _)⟩, rfl, trivial⟩,  trivial⟩ (doneA (.inr rfl) rfl ⟨trivial, trivial⟩ (.refl _) hasNil))
      · have h := cond_neg c67 h
        refine RegV.p0 rfl rfl rfl ?_
        refine RegV.len (xs := a1) (e := byteD) rfl rfl rfl rfl ?_
        refine RegV.p0 (v := (.d (.bool (decide (((a1.length : Nat) : Int) > (20000 : Int)))))) rfl rfl rfl ?_
        refine RegV.p0 rfl rfl rfl ?_
        refine RegV.nil0 ?_
        refine AWc.cond rfl (fun c72 => ?_) (fun c72 => ?_)
        · have h := cond_pos c72 h
          refine AWc.seq ?_
          refine AWc.rg hmix rfl rfl ?_
          obtain ⟨r76, e76, h⟩ := bind_some h
          refine RegV.call0 (F56 hmix hc.2.1 e76) rfl rfl rfl rfl .nil rfl ?_
          refine RegV.p0 rfl rfl rfl ?_
          refine RegV.nil0 ?_
          have hr := Option.some.inj h
          subst hr
          exact AWc.ret (canQ (N := 97) (k := 0) (l' := [(4, (.d (.bool r76)))]) (H' := []) rfl ⟨rfl, [], [], rfl, rfl, ⟨⟨_, rfl, (.refl _)⟩, rfl, trivial⟩,  trivial⟩ (doneA (.inr rfl) rfl ⟨trivial, trivial⟩ (.refl _) hasNil))
        · have h := cond_neg c72 h
          refine AWc.skip ?_
          refine AWc.seq ?_
          refine AWc.rg hmix rfl rfl ?_
          refine RegV.p0 rfl rfl rfl ?_
          obtain ⟨r84, e84, h⟩ := bind_some h
          refine RegV.call0 (F21 hmix hc.2.2.1 e84) rfl rfl rfl rfl (.cons (.refl _) (.cons (.refl _) .nil)) rfl ?_
          refine RegV.p0 rfl rfl rfl ?_
          refine RegV.nil0 ?_
          refine AWc.seq ?_
          refine AWc.rg hmix rfl rfl ?_
          refine RegV.ld (v := (.d (.agg [(.int .i64 a0.fErr), (.int .i64 a0.fN), (.int .i64 a0.fID), (.int .u64 a0.fOffset), (.str a0.fText), (.sl (List.map TMessage.enc a0.fMessages))]))) (H' := [(0, (.cells [(.d (.int .i64 a0.fErr)), (.d (.int .i64 a0.fN)), (.d (.int .i64 a0.fID)), (.d (.int .u64 a0.fOffset)), (.d (.str a0.fText)), (.d (.sl (List.map TMessage.enc a0.fMessages)))]))]) rfl rfl (Nat.le_of_ble_eq_true rfl) rfl rfl rfl rfl rfl ?_
          refine RegV.evS (own := false) (v := (.ptr 1 0)) (H' := [(1, (.cells [(.d (.int .i64 (0 : Int))), (.d (.int .i64 (0 : Int))), (.d (.int .i64 (0 : Int))), (.d (.int .u64 (0 : Int))), (.d (.str ([] : List UInt8))), .nils])), (0, (.cells [(.d (.int .i64 a0.fErr)), (.d (.int .i64 a0.fN)), (.d (.int .i64 a0.fID)), (.d (.int .u64 a0.fOffset)), (.d (.str a0.fText)), (.d (.sl (List.map TMessage.enc a0.fMessages)))]))]) (c' := 2) rfl rfl trivial rfl rfl rfl rfl rfl rfl ?_
          refine RegV.evN (own := false) (H' := [(1, (.cells [(.d (.int .i64 a0.fErr)), (.d (.int .i64 a0.fN)), (.d (.int .i64 a0.fID)), (.d (.int .u64 a0.fOffset)), (.d (.str a0.fText)), (.d (.sl (List.map TMessage.enc a0.fMessages)))])), (0, (.cells [(.d (.int .i64 a0.fErr)), (.d (.int .i64 a0.fN)), (.d (.int .i64 a0.fID)), (.d (.int .u64 a0.fOffset)), (.d (.str a0.fText)), (.d (.sl (List.map TMessage.enc a0.fMessages)))]))]) (c' := 2) rfl rfl (by exact ⟨rfl, Nat.le_of_ble_eq_true rfl, rfl⟩) rfl rfl rfl rfl ?_
          refine RegV.nil0 ?_
          refine AWc.seq ?_
          refine AWc.rg hmix rfl rfl ?_
          refine RegV.p0 (v := (.ptr 0 5)) rfl rfl rfl ?_
          refine RegV.ld (v := (.d (.sl (List.map TMessage.enc a0.fMessages)))) (H' := [(0, (.cells [(.d (.int .i64 a0.fErr)), (.d (.int .i64 a0.fN)), (.d (.int .i64 a0.fID)), (.d (.int .u64 a0.fOffset)), (.d (.str a0.fText)), (.d (.sl (List.map TMessage.enc a0.fMessages)))])), (1, (.cells [(.d (.int .i64 a0.fErr)), (.d (.int .i64 a0.fN)), (.d (.int .i64 a0.fID)), (.d (.int .u64 a0.fOffset)), (.d (.str a0.fText)), (.d (.sl (List.map TMessage.enc a0.fMessages)))]))]) rfl rfl trivial rfl rfl rfl rfl rfl ?_
          obtain ⟨r97, e97, h⟩ := bind_some h
          refine RegV.callS (q := false) (H' := [(2, (.tok ((List.map TMessage.enc r97).length * 5))), (0, (.cells [(.d (.int .i64 a0.fErr)), (.d (.int .i64 a0.fN)), (.d (.int .i64 a0.fID)), (.d (.int .u64 a0.fOffset)), (.d (.str a0.fText)), (.d (.sl (List.map TMessage.enc a0.fMessages)))])), (1, (.cells [(.d (.int .i64 a0.fErr)), (.d (.int .i64 a0.fN)), (.d (.int .i64 a0.fID)), (.d (.int .u64 a0.fOffset)), (.d (.str a0.fText)), (.d (.sl (List.map TMessage.enc a0.fMessages)))]))]) (c' := 3) (show ACalls P (N 62) [(.d (.sl (List.map TMessage.enc a0.fMessages)))] [] (.ap 2 5 (List.map TMessage.enc r97)) [(2, (.tok ((List.map TMessage.enc r97).length * 5)))] from ACalls.use (F62 hmix hc.2.2.2.1 e97) [(0, 2)] 1 rfl) rfl rfl rfl rfl (.cons (.refl _) .nil) (.refl _) (fun h => by cases h) rfl hasNil rfl rfl rfl rfl ?_
          refine RegV.p0 (v := (.ptr 1 5)) rfl rfl rfl ?_
          refine RegV.evN (own := false) (H' := [(1, (.cells [(.d (.int .i64 a0.fErr)), (.d (.int .i64 a0.fN)), (.d (.int .i64 a0.fID)), (.d (.int .u64 a0.fOffset)), (.d (.str a0.fText)), (.ap 2 5 (List.map TMessage.enc r97))])), (2, (.tok ((List.map TMessage.enc r97).length * 5))), (0, (.cells [(.d (.int .i64 a0.fErr)), (.d (.int .i64 a0.fN)), (.d (.int .i64 a0.fID)), (.d (.int .u64 a0.fOffset)), (.d (.str a0.fText)), (.d (.sl (List.map TMessage.enc a0.fMessages)))]))]) (c' := 3) rfl rfl (by exact ⟨rfl, Nat.le_of_ble_eq_true rfl, rfl⟩) rfl rfl rfl rfl ?_
          refine RegV.nil0 ?_
          refine AWc.seq ?_
          refine AWc.rg hmix rfl rfl ?_
          refine RegV.p0 rfl rfl rfl ?_
          obtain ⟨r104, e104, h⟩ := bind_some h
          refine RegV.call0 (F63 hmix hc.2.2.2.2.1 e104) rfl rfl rfl rfl (.cons .win .nil) rfl ?_
          refine RegV.p0 rfl rfl rfl ?_
          refine RegV.p0 rfl rfl rfl ?_
          refine RegV.p0 rfl rfl rfl ?_
          refine RegV.evS (own := false) (v := (.ptr 3 0)) (H' := [(3, (.cells [(.d (.int .i64 (0 : Int))), (.d (.int .i64 (0 : Int))), (.d (.int .i64 (0 : Int))), (.d (.int .u64 (0 : Int))), (.d (.str ([] : List UInt8))), .nils])), (1, (.cells [(.d (.int .i64 a0.fErr)), (.d (.int .i64 a0.fN)), (.d (.int .i64 a0.fID)), (.d (.int .u64 a0.fOffset)), (.d (.str a0.fText)), (.ap 2 5 (List.map TMessage.enc r97))])), (2, (.tok ((List.map TMessage.enc r97).length * 5))), (0, (.cells [(.d (.int .i64 a0.fErr)), (.d (.int .i64 a0.fN)), (.d (.int .i64 a0.fID)), (.d (.int .u64 a0.fOffset)), (.d (.str a0.fText)), (.d (.sl (List.map TMessage.enc a0.fMessages)))]))]) (c' := 4) rfl rfl trivial rfl rfl rfl rfl rfl rfl ?_
          refine RegV.evN (own := false) (H' := [(3, (.cells [(.d (.int .i64 r104.2.1)), (.d (.int .i64 r104.2.2.1)), (.d (.int .i64 r104.2.2.2.1)), (.d (.int .u64 r104.2.2.2.2.1)), (.d (.str r104.2.2.2.2.2.1)), (.d (.sl (List.map TMessage.enc r104.2.2.2.2.2.2)))])), (1, (.cells [(.d (.int .i64 a0.fErr)), (.d (.int .i64 a0.fN)), (.d (.int .i64 a0.fID)), (.d (.int .u64 a0.fOffset)), (.d (.str a0.fText)), (.ap 2 5 (List.map TMessage.enc r97))])), (2, (.tok ((List.map TMessage.enc r97).length * 5))), (0, (.cells [(.d (.int .i64 a0.fErr)), (.d (.int .i64 a0.fN)), (.d (.int .i64 a0.fID)), (.d (.int .u64 a0.fOffset)), (.d (.str a0.fText)), (.d (.sl (List.map TMessage.enc a0.fMessages)))]))]) (c' := 4) rfl rfl (by exact ⟨rfl, Nat.le_of_ble_eq_true rfl, rfl⟩) rfl rfl rfl rfl ?_
          refine RegV.p0 rfl rfl rfl ?_
          refine RegV.nil0 ?_
          refine AWc.seq ?_
          refine AWc.rg hmix rfl rfl ?_
          refine RegV.p0 rfl rfl rfl ?_
          obtain ⟨r115, e115, h⟩ := bind_some h
          refine RegV.call0 (F64 hmix hc.2.2.2.2.2.1 e115) rfl rfl rfl rfl (.cons (.refl _) .nil) rfl ?_
          refine RegV.p0 rfl rfl rfl ?_
          refine RegV.p0 rfl rfl rfl ?_
          refine RegV.p0 rfl rfl rfl ?_
          refine RegV.evS (own := false) (v := (.ptr 4 0)) (H' := [(4, (.cells [(.d (.int .i64 (0 : Int))), (.d (.int .i64 (0 : Int))), (.d (.int .i64 (0 : Int))), (.d (.int .u64 (0 : Int))), (.d (.str ([] : List UInt8))), .nils])), (3, (.cells [(.d (.int .i64 r104.2.1)), (.d (.int .i64 r104.2.2.1)), (.d (.int .i64 r104.2.2.2.1)), (.d (.int .u64 r104.2.2.2.2.1)), (.d (.str r104.2.2.2.2.2.1)), (.d (.sl (List.map TMessage.enc r104.2.2.2.2.2.2)))])), (1, (.cells [(.d (.int .i64 a0.fErr)), (.d (.int .i64 a0.fN)), (.d (.int .i64 a0.fID)), (.d (.int .u64 a0.fOffset)), (.d (.str a0.fText)), (.ap 2 5 (List.map TMessage.enc r97))])), (2, (.tok ((List.map TMessage.enc r97).length * 5))), (0, (.cells [(.d (.int .i64 a0.fErr)), (.d (.int .i64 a0.fN)), (.d (.int .i64 a0.fID)), (.d (.int .u64 a0.fOffset)), (.d (.str a0.fText)), (.d (.sl (List.map TMessage.enc a0.fMessages)))]))]) (c' := 5) rfl rfl trivial rfl rfl rfl rfl rfl rfl ?_
          refine RegV.evN (own := false) (H' := [(4, (.cells [(.d (.int .i64 r115.2.1)), (.d (.int .i64 r115.2.2.1)), (.d (.int .i64 r115.2.2.2.1)), (.d (.int .u64 r115.2.2.2.2.1)), (.d (.str r115.2.2.2.2.2.1)), (.d (.sl (List.map TMessage.enc r115.2.2.2.2.2.2)))])), (3, (.cells [(.d (.int .i64 r104.2.1)), (.d (.int .i64 r104.2.2.1)), (.d (.int .i64 r104.2.2.2.1)), (.d (.int .u64 r104.2.2.2.2.1)), (.d (.str r104.2.2.2.2.2.1)), (.d (.sl (List.map TMessage.enc r104.2.2.2.2.2.2)))])), (1, (.cells [(.d (.int .i64 a0.fErr)), (.d (.int .i64 a0.fN)), (.d (.int .i64 a0.fID)), (.d (.int .u64 a0.fOffset)), (.d (.str a0.fText)), (.ap 2 5 (List.map TMessage.enc r97))])), (2, (.tok ((List.map TMessage.enc r97).length * 5))), (0, (.cells [(.d (.int .i64 a0.fErr)), (.d (.int .i64 a0.fN)), (.d (.int .i64 a0.fID)), (.d (.int .u64 a0.fOffset)), (.d (.str a0.fText)), (.d (.sl (List.map TMessage.enc a0.fMessages)))]))]) (c' := 5) rfl rfl (by exact ⟨rfl, Nat.le_of_ble_eq_true rfl, rfl⟩) rfl rfl rfl rfl ?_
          refine RegV.p0 rfl rfl rfl ?_
          refine RegV.nil0 ?_
          refine AWc.seq ?_
          refine AWc.rg hmix rfl rfl ?_
          obtain ⟨r125, e125, h⟩ := bind_some h
          refine RegV.call0 (F56 hmix hc.2.1 e125) rfl rfl rfl rfl .nil rfl ?_
          refine RegV.p0 rfl rfl rfl ?_
          refine RegV.split (fun c126 => ?_) (fun c126 => ?_)
          · have h := cond_pos c126 h
            refine RegV.ld (v := (.d (.agg [(.int .i64 a0.fErr), (.int .i64 a0.fN), (.int .i64 a0.fID), (.int .u64 a0.fOffset), (.str a0.fText), (.sl (List.map TMessage.enc r97))]))) (H' := [(1, (.cells [(.d (.int .i64 a0.fErr)), (.d (.int .i64 a0.fN)), (.d (.int .i64 a0.fID)), (.d (.int .u64 a0.fOffset)), (.d (.str a0.fText)), (.ap 2 5 (List.map TMessage.enc r97))])), (4, (.cells [(.d (.int .i64 r115.2.1)), (.d (.int .i64 r115.2.2.1)), (.d (.int .i64 r115.2.2.2.1)), (.d (.int .u64 r115.2.2.2.2.1)), (.d (.str r115.2.2.2.2.2.1)), (.d (.sl (List.map TMessage.enc r115.2.2.2.2.2.2)))])), (3, (.cells [(.d (.int .i64 r104.2.1)), (.d (.int .i64 r104.2.2.1)), (.d (.int .i64 r104.2.2.2.1)), (.d (.int .u64 r104.2.2.2.2.1)), (.d (.str r104.2.2.2.2.2.1)), (.d (.sl (List.map TMessage.enc r104.2.2.2.2.2.2)))])), (2, (.tok ((List.map TMessage.enc r97).length * 5))), (0, (.cells [(.d (.int .i64 a0.fErr)), (.d (.int .i64 a0.fN)), (.d (.int .i64 a0.fID)), (.d (.int .u64 a0.fOffset)), (.d (.str a0.fText)), (.d (.sl (List.map TMessage.enc a0.fMessages)))]))]) rfl rfl (Nat.le_of_ble_eq_true rfl) rfl rfl rfl rfl rfl ?_
            obtain ⟨r128, e128, h⟩ := bind_some h
            refine RegV.callS (q := false) (H' := [(5, (.tok ((List.map byteD r128).length * 1))), (1, (.cells [(.d (.int .i64 a0.fErr)), (.d (.int .i64 a0.fN)), (.d (.int .i64 a0.fID)), (.d (.int .u64 a0.fOffset)), (.d (.str a0.fText)), (.ap 2 5 (List.map TMessage.enc r97))])), (4, (.cells [(.d (.int .i64 r115.2.1)), (.d (.int .i64 r115.2.2.1)), (.d (.int .i64 r115.2.2.2.1)), (.d (.int .u64 r115.2.2.2.2.1)), (.d (.str r115.2.2.2.2.2.1)), (.d (.sl (List.map TMessage.enc r115.2.2.2.2.2.2)))])), (3, (.cells [(.d (.int .i64 r104.2.1)), (.d (.int .i64 r104.2.2.1)), (.d (.int .i64 r104.2.2.2.1)), (.d (.int .u64 r104.2.2.2.2.1)), (.d (.str r104.2.2.2.2.2.1)), (.d (.sl (List.map TMessage.enc r104.2.2.2.2.2.2)))])), (2, (.tok ((List.map TMessage.enc r97).length * 5))), (0, (.cells [(.d (.int .i64 a0.fErr)), (.d (.int .i64 a0.fN)), (.d (.int .i64 a0.fID)), (.d (.int .u64 a0.fOffset)), (.d (.str a0.fText)), (.d (.sl (List.map TMessage.enc a0.fMessages)))]))]) (c' := 6) (show ACalls P (N 65) [(.d (TReply.enc (TReply.mk a0.fErr a0.fN a0.fID a0.fOffset a0.fText r97)))] [] (.ap 5 1 (List.map byteD r128)) [(5, (.tok ((List.map byteD r128).length * 1)))] from ACalls.use (F65 hmix hc.2.2.2.2.2.2.1 e128) [(0, 5)] 1 rfl) rfl rfl rfl rfl (.cons (.refl _) .nil) (.refl _) (fun h => by cases h) rfl hasNil rfl rfl rfl rfl ?_
            refine RegV.ld (v := (.d (.agg [(.int .i64 a0.fErr), (.int .i64 a0.fN), (.int .i64 a0.fID), (.int .u64 a0.fOffset), (.str a0.fText), (.sl (List.map TMessage.enc a0.fMessages))]))) (H' := [(0, (.cells [(.d (.int .i64 a0.fErr)), (.d (.int .i64 a0.fN)), (.d (.int .i64 a0.fID)), (.d (.int .u64 a0.fOffset)), (.d (.str a0.fText)), (.d (.sl (List.map TMessage.enc a0.fMessages)))])), (5, (.tok ((List.map byteD r128).length * 1))), (1, (.cells [(.d (.int .i64 a0.fErr)), (.d (.int .i64 a0.fN)), (.d (.int .i64 a0.fID)), (.d (.int .u64 a0.fOffset)), (.d (.str a0.fText)), (.ap 2 5 (List.map TMessage.enc r97))])), (4, (.cells [(.d (.int .i64 r115.2.1)), (.d (.int .i64 r115.2.2.1)), (.d (.int .i64 r115.2.2.2.1)), (.d (.int .u64 r115.2.2.2.2.1)), (.d (.str r115.2.2.2.2.2.1)), (.d (.sl (List.map TMessage.enc r115.2.2.2.2.2.2)))])), (3, (.cells [(.d (.int .i64 r104.2.1)), (.d (.int .i64 r104.2.2.1)), (.d (.int .i64 r104.2.2.2.1)), (.d (.int .u64 r104.2.2.2.2.1)), (.d (.str r104.2.2.2.2.2.1)), (.d (.sl (List.map TMessage.enc r104.2.2.2.2.2.2)))])), (2, (.tok ((List.map TMessage.enc r97).length * 5)))]) rfl rfl (Nat.le_of_ble_eq_true rfl) rfl rfl rfl rfl rfl ?_
            obtain ⟨r130, e130, h⟩ := bind_some h
            refine RegV.callS (q := false) (H' := [(6, (.tok ((List.map byteD r130).length * 1))), (0, (.cells [(.d (.int .i64 a0.fErr)), (.d (.int .i64 a0.fN)), (.d (.int .i64 a0.fID)), (.d (.int .u64 a0.fOffset)), (.d (.str a0.fText)), (.d (.sl (List.map TMessage.enc a0.fMessages)))])), (5, (.tok ((List.map byteD r128).length * 1))), (1, (.cells [(.d (.int .i64 a0.fErr)), (.d (.int .i64 a0.fN)), (.d (.int .i64 a0.fID)), (.d (.int .u64 a0.fOffset)), (.d (.str a0.fText)), (.ap 2 5 (List.map TMessage.enc r97))])), (4, (.cells [(.d (.int .i64 r115.2.1)), (.d (.int .i64 r115.2.2.1)), (.d (.int .i64 r115.2.2.2.1)), (.d (.int .u64 r115.2.2.2.2.1)), (.d (.str r115.2.2.2.2.2.1)), (.d (.sl (List.map TMessage.enc r115.2.2.2.2.2.2)))])), (3, (.cells [(.d (.int .i64 r104.2.1)), (.d (.int .i64 r104.2.2.1)), (.d (.int .i64 r104.2.2.2.1)), (.d (.int .u64 r104.2.2.2.2.1)), (.d (.str r104.2.2.2.2.2.1)), (.d (.sl (List.map TMessage.enc r104.2.2.2.2.2.2)))])), (2, (.tok ((List.map TMessage.enc r97).length * 5)))]) (c' := 7) (show ACalls P (N 66) [(.d (TReply.enc (TReply.mk a0.fErr a0.fN a0.fID a0.fOffset a0.fText a0.fMessages)))] [] (.ap 6 1 (List.map byteD r130)) [(6, (.tok ((List.map byteD r130).length * 1)))] from ACalls.use (F66 hmix hc.2.2.2.2.2.2.2.1 e130) [(0, 6)] 1 rfl) rfl rfl rfl rfl (.cons (.refl _) .nil) (.refl _) (fun h => by cases h) rfl hasNil rfl rfl rfl rfl ?_
            obtain ⟨r131, e131, h⟩ := bind_some h
            refine RegV.call0 (F22 hmix hc.2.2.2.2.2.2.2.2.1 e131) rfl rfl rfl rfl (.cons (.sl rfl) (.cons (.sl rfl) .nil)) rfl ?_
            refine RegV.p0 rfl rfl rfl ?_
            refine RegV.p0 rfl rfl rfl ?_
            refine RegV.split (fun c133 => ?_) (fun c133 => ?_)
            · have h := cond_pos c133 h
              refine RegV.ld (v := (.d (.agg [(.int .i64 r104.2.1), (.int .i64 r104.2.2.1), (.int .i64 r104.2.2.2.1), (.int .u64 r104.2.2.2.2.1), (.str r104.2.2.2.2.2.1), (.sl (List.map TMessage.enc r104.2.2.2.2.2.2))]))) (H' := [(3, (.cells [(.d (.int .i64 r104.2.1)), (.d (.int .i64 r104.2.2.1)), (.d (.int .i64 r104.2.2.2.1)), (.d (.int .u64 r104.2.2.2.2.1)), (.d (.str r104.2.2.2.2.2.1)), (.d (.sl (List.map TMessage.enc r104.2.2.2.2.2.2)))])), (6, (.tok ((List.map byteD r130).length * 1))), (0, (.cells [(.d (.int .i64 a0.fErr)), (.d (.int .i64 a0.fN)), (.d (.int .i64 a0.fID)), (.d (.int .u64 a0.fOffset)), (.d (.str a0.fText)), (.d (.sl (List.map TMessage.enc a0.fMessages)))])), (5, (.tok ((List.map byteD r128).length * 1))), (1, (.cells [(.d (.int .i64 a0.fErr)), (.d (.int .i64 a0.fN)), (.d (.int .i64 a0.fID)), (.d (.int .u64 a0.fOffset)), (.d (.str a0.fText)), (.ap 2 5 (List.map TMessage.enc r97))])), (4, (.cells [(.d (.int .i64 r115.2.1)), (.d (.int .i64 r115.2.2.1)), (.d (.int .i64 r115.2.2.2.1)), (.d (.int .u64 r115.2.2.2.2.1)), (.d (.str r115.2.2.2.2.2.1)), (.d (.sl (List.map TMessage.enc r115.2.2.2.2.2.2)))])), (2, (.tok ((List.map TMessage.enc r97).length * 5)))]) rfl rfl (Nat.le_of_ble_eq_true rfl) rfl rfl rfl rfl rfl ?_
              refine RegV.ld (v := (.d (.agg [(.int .i64 r115.2.1), (.int .i64 r115.2.2.1), (.int .i64 r115.2.2.2.1), (.int .u64 r115.2.2.2.2.1), (.str r115.2.2.2.2.2.1), (.sl (List.map TMessage.enc r115.2.2.2.2.2.2))]))) (H' := [(4, (.cells [(.d (.int .i64 r115.2.1)), (.d (.int .i64 r115.2.2.1)), (.d (.int .i64 r115.2.2.2.1)), (.d (.int .u64 r115.2.2.2.2.1)), (.d (.str r115.2.2.2.2.2.1)), (.d (.sl (List.map TMessage.enc r115.2.2.2.2.2.2)))])), (3, (.cells [(.d (.int .i64 r104.2.1)), (.d (.int .i64 r104.2.2.1)), (.d (.int .i64 r104.2.2.2.1)), (.d (.int .u64 r104.2.2.2.2.1)), (.d (.str r104.2.2.2.2.2.1)), (.d (.sl (List.map TMessage.enc r104.2.2.2.2.2.2)))])), (6, (.tok ((List.map byteD r130).length * 1))), (0, (.cells [(.d (.int .i64 a0.fErr)), (.d (.int .i64 a0.fN)), (.d (.int .i64 a0.fID)), (.d (.int .u64 a0.fOffset)), (.d (.str a0.fText)), (.d (.sl (List.map TMessage.enc a0.fMessages)))])), (5, (.tok ((List.map byteD r128).length * 1))), (1, (.cells [(.d (.int .i64 a0.fErr)), (.d (.int .i64 a0.fN)), (.d (.int .i64 a0.fID)), (.d (.int .u64 a0.fOffset)), (.d (.str a0.fText)), (.ap 2 5 (List.map TMessage.enc r97))])), (2, (.tok ((List.map TMessage.enc r97).length * 5)))]) rfl rfl (Nat.le_of_ble_eq_true rfl) rfl rfl rfl rfl rfl ?_
              obtain ⟨r136, e136, h⟩ := bind_some h
              refine RegV.call0 (F67 hmix hc.2.2.2.2.2.2.2.2.2.1 e136) rfl rfl rfl rfl (.cons (.refl _) (.cons (.refl _) .nil)) rfl ?_
              refine RegV.p0 rfl rfl rfl ?_
              refine RegV.p0 rfl rfl rfl ?_
              refine RegV.split (fun c138 => ?_) (fun c138 => ?_)
              · have h := cond_pos c138 h
                refine RegV.p0 rfl rfl rfl ?_
                refine RegV.p0 rfl rfl rfl ?_
                refine RegV.p0 (v := (.d (.bool (decide (r104.1 = r115.1))))) rfl rfl rfl ?_
                refine RegV.p0 rfl rfl rfl ?_
                refine RegV.p0 rfl rfl rfl ?_
                refine RegV.split (fun c143 => ?_) (fun c143 => ?_)
                · have h := cond_pos c143 h
                  refine RegV.p0 (v := (.ptr 1 5)) rfl rfl rfl ?_
                  refine RegV.ld (v := (.ap 2 5 (List.map TMessage.enc r97))) (H' := [(1, (.cells [(.d (.int .i64 a0.fErr)), (.d (.int .i64 a0.fN)), (.d (.int .i64 a0.fID)), (.d (.int .u64 a0.fOffset)), (.d (.str a0.fText)), (.ap 2 5 (List.map TMessage.enc r97))])), (4, (.cells [(.d (.int .i64 r115.2.1)), (.d (.int .i64 r115.2.2.1)), (.d (.int .i64 r115.2.2.2.1)), (.d (.int .u64 r115.2.2.2.2.1)), (.d (.str r115.2.2.2.2.2.1)), (.d (.sl (List.map TMessage.enc r115.2.2.2.2.2.2)))])), (3, (.cells [(.d (.int .i64 r104.2.1)), (.d (.int .i64 r104.2.2.1)), (.d (.int .i64 r104.2.2.2.1)), (.d (.int .u64 r104.2.2.2.2.1)), (.d (.str r104.2.2.2.2.2.1)), (.d (.sl (List.map TMessage.enc r104.2.2.2.2.2.2)))])), (6, (.tok ((List.map byteD r130).length * 1))), (0, (.cells [(.d (.int .i64 a0.fErr)), (.d (.int .i64 a0.fN)), (.d (.int .i64 a0.fID)), (.d (.int .u64 a0.fOffset)), (.d (.str a0.fText)), (.d (.sl (List.map TMessage.enc a0.fMessages)))])), (5, (.tok ((List.map byteD r128).length * 1))), (2, (.tok ((List.map TMessage.enc r97).length * 5)))]) rfl rfl trivial rfl rfl rfl rfl rfl ?_
                  refine RegV.p0 (v := (.ptr 0 5)) rfl rfl rfl ?_
                  refine RegV.ld (v := (.d (.sl (List.map TMessage.enc a0.fMessages)))) (H' := [(0, (.cells [(.d (.int .i64 a0.fErr)), (.d (.int .i64 a0.fN)), (.d (.int .i64 a0.fID)), (.d (.int .u64 a0.fOffset)), (.d (.str a0.fText)), (.d (.sl (List.map TMessage.enc a0.fMessages)))])), (1, (.cells [(.d (.int .i64 a0.fErr)), (.d (.int .i64 a0.fN)), (.d (.int .i64 a0.fID)), (.d (.int .u64 a0.fOffset)), (.d (.str a0.fText)), (.ap 2 5 (List.map TMessage.enc r97))])), (4, (.cells [(.d (.int .i64 r115.2.1)), (.d (.int .i64 r115.2.2.1)), (.d (.int .i64 r115.2.2.2.1)), (.d (.int .u64 r115.2.2.2.2.1)), (.d (.str r115.2.2.2.2.2.1)), (.d (.sl (List.map TMessage.enc r115.2.2.2.2.2.2)))])), (3, (.cells [(.d (.int .i64 r104.2.1)), (.d (.int .i64 r104.2.2.1)), (.d (.int .i64 r104.2.2.2.1)), (.d (.int .u64 r104.2.2.2.2.1)), (.d (.str r104.2.2.2.2.2.1)), (.d (.sl (List.map TMessage.enc r104.2.2.2.2.2.2)))])), (6, (.tok ((List.map byteD r130).length * 1))), (5, (.tok ((List.map byteD r128).length * 1))), (2, (.tok ((List.map TMessage.enc r97).length * 5)))]) rfl rfl trivial rfl rfl rfl rfl rfl ?_
                  obtain ⟨r148, e148, h⟩ := bind_some h
                  refine RegV.call0 (F68 hmix hc.2.2.2.2.2.2.2.2.2.2.1 e148) rfl rfl rfl rfl (.cons (.sl rfl) (.cons (.refl _) (.cons (.refl _) .nil))) rfl ?_
                  refine RegV.p0 rfl rfl rfl ?_
                  refine RegV.p0 rfl rfl rfl ?_
                  refine RegV.split (fun c150 => ?_) (fun c150 => ?_)
                  · have h := cond_pos c150 h
                    refine RegV.p0 rfl rfl rfl ?_
                    refine RegV.p0 rfl rfl rfl ?_
                    obtain ⟨r153, e153, h⟩ := bind_some h
                    refine RegV.call0 (F29 hmix hc.2.2.2.2.2.2.2.2.2.2.2 e153) rfl rfl rfl rfl (.cons (.refl _) (.cons (.refl _) (.cons (.refl _) .nil))) rfl ?_
                    refine RegV.p0 rfl rfl rfl ?_
                    refine RegV.p0 rfl rfl rfl ?_
                    refine RegV.nil1 (by kernel_rfl) ?_
                    have hr := Option.some.inj h
                    subst hr
                    exact AWc.ret (canQ (N := 97) (k := 0) (l' := [(4, (.d (.bool r153)))]) (H' := []) rfl ⟨rfl, [], [], rfl, rfl, ⟨⟨_, rfl, (.refl _)⟩, rfl, trivial⟩,  trivial⟩ (doneA (.inr rfl) rfl ⟨trivial, trivial⟩ (.refl _) hasNil))
                  · have h := cond_neg c150 h
                    refine RegV.noS rfl rfl ?_
                    refine RegV.noS rfl rfl ?_
                    refine RegV.noS rfl rfl ?_
                    refine RegV.p0 rfl rfl rfl ?_
                    refine RegV.p0 rfl rfl rfl ?_
                    refine RegV.nil1 (by kernel_rfl) ?_
                    have hr := Option.some.inj h
                    subst hr
                    exact AWc.ret (canQ (N := 97) (k := 0) (l' := [(4, (.d (.bool false)))]) (H' := []) rfl ⟨rfl, [], [], rfl, rfl, ⟨⟨_, rfl, (.refl _)⟩, rfl, trivial⟩,  trivial⟩ (doneA (.inr rfl) rfl ⟨trivial, trivial⟩ (.refl _) hasNil))
                · have h := cond_neg c143 h
                  refine RegV.noS rfl rfl ?_
                  refine RegV.noS rfl rfl ?_
                  refine RegV.noS rfl rfl ?_
                  refine RegV.noS rfl rfl ?_
                  refine RegV.noS rfl rfl ?_
                  refine RegV.p0 rfl rfl rfl ?_
                  refine RegV.p0 rfl rfl rfl ?_
                  refine RegV.noS rfl rfl ?_
                  refine RegV.noS rfl rfl ?_
                  refine RegV.noS rfl rfl ?_
                  refine RegV.p0 rfl rfl rfl ?_
                  refine RegV.p0 rfl rfl rfl ?_
                  refine RegV.nil1 (by kernel_rfl) ?_
                  have hr := Option.some.inj h
                  subst hr
                  exact AWc.ret (canQ (N := 97) (k := 0) (l' := [(4, (.d (.bool false)))]) (H' := []) rfl ⟨rfl, [], [], rfl, rfl, ⟨⟨_, rfl, (.refl _)⟩, rfl, trivial⟩,  trivial⟩ (doneA (.inr rfl) rfl ⟨trivial, trivial⟩ (.refl _) hasNil))
              · have h := cond_neg c138 h
                refine RegV.noS rfl rfl ?_
                refine RegV.noS rfl rfl ?_
                refine RegV.noS rfl rfl ?_
                refine RegV.p0 rfl rfl rfl ?_
                refine RegV.p0 rfl rfl rfl ?_
                refine RegV.noS rfl rfl ?_
                refine RegV.noS rfl rfl ?_
                refine RegV.noS rfl rfl ?_
                refine RegV.noS rfl rfl ?_
                refine RegV.noS rfl rfl ?_
                refine RegV.p0 rfl rfl rfl ?_
                refine RegV.p0 rfl rfl rfl ?_
                refine RegV.noS rfl rfl ?_
                refine RegV.noS rfl rfl ?_
                refine RegV.noS rfl rfl ?_
                refine RegV.p0 rfl rfl rfl ?_
                refine RegV.p0 rfl rfl rfl ?_
                refine RegV.nil1 (by kernel_rfl) ?_
                have hr := Option.some.inj h
                subst hr
                exact AWc.ret (canQ (N := 97) (k := 0) (l' := [(4, (.d (.bool false)))]) (H' := []) rfl ⟨rfl, [], [], rfl, rfl, ⟨⟨_, rfl, (.refl _)⟩, rfl, trivial⟩,  trivial⟩ (doneA (.inr rfl) rfl ⟨trivial, trivial⟩ (.refl _) hasNil))
            · have h := cond_neg c133 h
              refine RegV.noS rfl rfl ?_
              refine RegV.noS rfl rfl ?_
              refine RegV.noS rfl rfl ?_
              refine RegV.p0 rfl rfl rfl ?_
              refine RegV.p0 rfl rfl rfl ?_
              refine RegV.noS rfl rfl ?_
              refine RegV.noS rfl rfl ?_
              refine RegV.noS rfl rfl ?_
              refine RegV.p0 rfl rfl rfl ?_
              refine RegV.p0 rfl rfl rfl ?_
              refine RegV.noS rfl rfl ?_
              refine RegV.noS rfl rfl ?_
              refine RegV.noS rfl rfl ?_
              refine RegV.noS rfl rfl ?_
              refine RegV.noS rfl rfl ?_
              refine RegV.p0 rfl rfl rfl ?_
              refine RegV.p0 rfl rfl rfl ?_
              refine RegV.noS rfl rfl ?_
              refine RegV.noS rfl rfl ?_
              refine RegV.noS rfl rfl ?_
              refine RegV.p0 rfl rfl rfl ?_
              refine RegV.p0 rfl rfl rfl ?_
              refine RegV.nil1 (by kernel_rfl) ?_
              have hr := Option.some.inj h
              subst hr
              exact AWc.ret (canQ (N := 97) (k := 0) (l' := [(4, (.d (.bool false)))]) (H' := []) rfl ⟨rfl, [], [], rfl, rfl, ⟨⟨_, rfl, (.refl _)⟩, rfl, trivial⟩,  trivial⟩ (doneA (.inr rfl) rfl ⟨trivial, trivial⟩ (.refl _) hasNil))
          · have h := cond_neg c126 h
            refine RegV.noS rfl rfl ?_
            refine RegV.noS rfl rfl ?_
            refine RegV.noS rfl rfl ?_
            refine RegV.noS rfl rfl ?_
            refine RegV.noS rfl rfl ?_
            refine RegV.p0 rfl rfl rfl ?_
            refine RegV.p0 rfl rfl rfl ?_
            refine RegV.noS rfl rfl ?_
            refine RegV.noS rfl rfl ?_
            refine RegV.noS rfl rfl ?_
            refine RegV.p0 rfl rfl rfl ?_
            refine RegV.p0 rfl rfl rfl ?_
            refine RegV.noS rfl rfl ?_
            refine RegV.noS rfl rfl ?_
            refine RegV.noS rfl rfl ?_
            refine RegV.p0 rfl rfl rfl ?_
            refine RegV.p0 rfl rfl rfl ?_
            refine RegV.noS rfl rfl ?_
            refine RegV.noS rfl rfl ?_
            refine RegV.noS rfl rfl ?_
            refine RegV.noS rfl rfl ?_
            refine RegV.noS rfl rfl ?_
            refine RegV.p0 rfl rfl rfl ?_
            refine RegV.p0 rfl rfl rfl ?_
            refine RegV.noS rfl rfl ?_
            refine RegV.noS rfl rfl ?_
            refine RegV.noS rfl rfl ?_
            refine RegV.p0 rfl rfl rfl ?_
            refine RegV.p0 rfl rfl rfl ?_
            refine RegV.nil1 (by kernel_rfl) ?_
            have hr := Option.some.inj h
            subst hr
            exact AWc.ret (canQ (N := 97) (k := 0) (l' := [(4, (.d (.bool false)))]) (H' := []) rfl ⟨rfl, [], [], rfl, rfl, ⟨⟨_, rfl, (.refl _)⟩, rfl, trivial⟩,  trivial⟩ (doneA (.inr rfl) rfl ⟨trivial, trivial⟩ (.refl _) hasNil))
end Go.Proofs.Abs
