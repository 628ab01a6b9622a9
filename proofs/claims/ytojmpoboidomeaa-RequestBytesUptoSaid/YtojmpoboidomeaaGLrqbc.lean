/- Written by gen.py: functions of the program as Lean functions, and that the code comes to them. -/
import Derived.Test.YtojmpoboidomeaaGLrqbb
set_option linter.unusedVariables false
set_option linter.unusedSimpArgs false
set_option maxRecDepth 100000
set_option maxHeartbeats 4000000
namespace Go.Proofs.Abs
open Go
/-- courant/couranthelp.Request -/
def C61 (N : Nat → Nat) : AFunc := { n := 80, params := 2, res := [.tmp 4], body :=
 (.seq (.region false [⟨(some 2), .box (.t 0), none, []⟩,
   ⟨(some 3), .box (.t 1), none, []⟩,
   ⟨(some 4), .mv (.k (.d (.bool false))), none, []⟩])
  (.seq (.region false [⟨(some 5), .faddr (.t 2) 0, none, []⟩,
    ⟨(some 6), .load (.t 5) 1 false, none, [0]⟩,
    ⟨(some 7), .faddr (.t 3) 0, none, []⟩,
    ⟨(some 8), .load (.t 7) 1 false, none, [2]⟩,
    ⟨(some 9), .bin .eql (.t 6) (.t 8), none, [1, 3]⟩,
    ⟨(some 10), .mv (.t 9), none, [4]⟩,
    ⟨(some 11), .faddr (.t 2) 1, (some (10, true)), [5]⟩,
    ⟨(some 12), .load (.t 11) 1 false, (some (10, true)), [6, 5]⟩,
    ⟨(some 13), .faddr (.t 3) 1, (some (10, true)), [5]⟩,
    ⟨(some 14), .load (.t 13) 1 false, (some (10, true)), [8, 5]⟩,
    ⟨(some 15), .bin .eql (.t 12) (.t 14), (some (10, true)), [7, 9, 5]⟩,
    ⟨(some 16), .pick (.t 10) (.t 15) (.k (.d (.bool false))), none, [5, 10]⟩,
    ⟨(some 17), .mv (.t 16), none, [11, 5]⟩,
    ⟨(some 18), .faddr (.t 2) 2, (some (17, true)), [12]⟩,
    ⟨(some 19), .load (.t 18) 1 false, (some (17, true)), [13, 12]⟩,
    ⟨(some 20), .faddr (.t 3) 2, (some (17, true)), [12]⟩,
    ⟨(some 21), .load (.t 20) 1 false, (some (17, true)), [15, 12]⟩,
    ⟨(some 22), .bin .eql (.t 19) (.t 21), (some (17, true)), [14, 16, 12]⟩,
    ⟨(some 23), .pick (.t 17) (.t 22) (.k (.d (.bool false))), none, [12, 17]⟩,
    ⟨(some 24), .mv (.t 23), none, [18, 12]⟩,
    ⟨(some 25), .faddr (.t 2) 3, (some (24, true)), [19]⟩,
    ⟨(some 26), .load (.t 25) 1 false, (some (24, true)), [20, 19]⟩,
    ⟨(some 27), .faddr (.t 3) 3, (some (24, true)), [19]⟩,
    ⟨(some 28), .load (.t 27) 1 false, (some (24, true)), [22, 19]⟩,
    ⟨(some 29), .bin .eql (.t 26) (.t 28), (some (24, true)), [21, 23, 19]⟩,
    ⟨(some 30), .pick (.t 24) (.t 29) (.k (.d (.bool false))), none, [19, 24]⟩,
    ⟨(some 31), .mv (.t 30), none, [25, 19]⟩,
    ⟨(some 32), .faddr (.t 2) 4, (some (31, true)), [26]⟩,
    ⟨(some 33), .load (.t 32) 1 false, (some (31, true)), [27, 26]⟩,
    ⟨(some 34), .faddr (.t 3) 4, (some (31, true)), [26]⟩,
    ⟨(some 35), .load (.t 34) 1 false, (some (31, true)), [29, 26]⟩,
    ⟨(some 36), .bin .eql (.t 33) (.t 35), (some (31, true)), [28, 30, 26]⟩,
    ⟨(some 37), .pick (.t 31) (.t 36) (.k (.d (.bool false))), none, [26, 31]⟩,
    ⟨(some 38), .mv (.t 37), none, [32, 26]⟩,
    ⟨(some 39), .faddr (.t 2) 5, (some (38, true)), [33]⟩,
    ⟨(some 40), .load (.t 39) 1 false, (some (38, true)), [34, 33]⟩,
    ⟨(some 41), .faddr (.t 3) 5, (some (38, true)), [33]⟩,
    ⟨(some 42), .load (.t 41) 1 false, (some (38, true)), [36, 33]⟩,
    ⟨(some 43), .bin .eql (.t 40) (.t 42), (some (38, true)), [35, 37, 33]⟩,
    ⟨(some 44), .pick (.t 38) (.t 43) (.k (.d (.bool false))), none, [33, 38]⟩,
    ⟨(some 45), .mv (.t 44), none, [39, 33]⟩,
    ⟨(some 46), .faddr (.t 2) 6, (some (45, true)), [40]⟩,
    ⟨(some 47), .load (.t 46) 1 false, (some (45, true)), [41, 40]⟩,
    ⟨(some 48), .faddr (.t 3) 6, (some (45, true)), [40]⟩,
    ⟨(some 49), .load (.t 48) 1 false, (some (45, true)), [43, 40]⟩,
    ⟨(some 50), .bin .eql (.t 47) (.t 49), (some (45, true)), [42, 44, 40]⟩,
    ⟨(some 51), .pick (.t 45) (.t 50) (.k (.d (.bool false))), none, [40, 45]⟩,
    ⟨(some 52), .mv (.t 51), none, [46, 40]⟩,
    ⟨(some 53), .faddr (.t 2) 7, (some (52, true)), [47]⟩,
    ⟨(some 54), .load (.t 53) 1 false, (some (52, true)), [48, 47]⟩,
    ⟨(some 55), .faddr (.t 3) 7, (some (52, true)), [47]⟩,
    ⟨(some 56), .load (.t 55) 1 false, (some (52, true)), [50, 47]⟩,
    ⟨(some 57), .bin .eql (.t 54) (.t 56), (some (52, true)), [49, 51, 47]⟩,
    ⟨(some 58), .pick (.t 52) (.t 57) (.k (.d (.bool false))), none, [47, 52]⟩,
    ⟨(some 59), .mv (.t 58), none, [53, 47]⟩,
    ⟨(some 60), .faddr (.t 2) 8, (some (59, true)), [54]⟩,
    ⟨(some 61), .load (.t 60) 1 false, (some (59, true)), [55, 54]⟩,
    ⟨(some 62), .faddr (.t 3) 8, (some (59, true)), [54]⟩,
    ⟨(some 63), .load (.t 62) 1 false, (some (59, true)), [57, 54]⟩,
    ⟨(some 64), .bin .eql (.t 61) (.t 63), (some (59, true)), [56, 58, 54]⟩,
    ⟨(some 65), .pick (.t 59) (.t 64) (.k (.d (.bool false))), none, [54, 59]⟩,
    ⟨(some 66), .mv (.t 65), none, [60, 54]⟩,
    ⟨(some 67), .faddr (.t 2) 9, (some (66, true)), [61]⟩,
    ⟨(some 68), .load (.t 67) 1 false, (some (66, true)), [62, 61]⟩,
    ⟨(some 69), .faddr (.t 3) 9, (some (66, true)), [61]⟩,
    ⟨(some 70), .load (.t 69) 1 false, (some (66, true)), [64, 61]⟩,
    ⟨(some 71), .bin .eql (.t 68) (.t 70), (some (66, true)), [63, 65, 61]⟩,
    ⟨(some 72), .pick (.t 66) (.t 71) (.k (.d (.bool false))), none, [61, 66]⟩,
    ⟨(some 73), .mv (.t 72), none, [67, 61]⟩,
    ⟨(some 74), .faddr (.t 2) 10, (some (73, true)), [68]⟩,
    ⟨(some 75), .load (.t 74) 1 false, (some (73, true)), [69, 68]⟩,
    ⟨(some 76), .faddr (.t 3) 10, (some (73, true)), [68]⟩,
    ⟨(some 77), .load (.t 76) 1 false, (some (73, true)), [71, 68]⟩,
    ⟨(some 78), .call (.k (.d (.fn (N 22)))) [(.t 75), (.t 77)], (some (73, true)), [70, 72, 68]⟩,
    ⟨(some 79), .pick (.t 73) (.t 78) (.k (.d (.bool false))), none, [68, 73]⟩,
    ⟨(some 4), .mv (.t 79), none, [74, 73, 0, 1, 2, 3, 4, 5, 6, 7, 8, 9, 10, 11, 12, 13, 14, 15, 16, 17, 18, 19, 20, 21, 22, 23, 24, 25, 26, 27, 28, 29, 30, 31, 32, 33, 34, 35, 36, 37, 38, 39, 40, 41, 42, 43, 44, 45, 46, 47, 48, 49, 50, 51, 52, 53, 54, 55, 56, 57, 58, 59, 60, 61, 62, 63, 64, 65, 66, 67, 68, 69, 70, 71, 72]⟩])
   .ret)) }
def HC61 (P : Program) (N : Nat → Nat) : Prop := HasF P (N 61) (C61 N) ∧ HC22 P N
def f61 (k : Nat) (a0 : TRequest) (a1 : TRequest) : Option Bool := cond (decide (a0.fKind = a1.fKind)) (cond (decide (a0.fName = a1.fName)) (cond (decide (a0.fText = a1.fText)) (cond (decide (a0.fGroup = a1.fGroup)) (cond (decide (a0.fN = a1.fN)) (cond (decide (a0.fVersion = a1.fVersion)) (cond (decide (a0.fProducer = a1.fProducer)) (cond (decide (a0.fSeq = a1.fSeq)) (cond (decide (a0.fOffset = a1.fOffset)) (cond (decide (a0.fMost = a1.fMost)) ((f22 k a0.fData a1.fData).bind fun r83 => some (decide (a0.fData = a1.fData))) (some false)) (some false)) (some false)) (some false)) (some false)) (some false)) (some false)) (some false)) (some false)) (some false)
theorem F61 {P : Program} {N : Nat → Nat} (hmix : P.follows .mixedOrders = true) (hc : HC61 P N) {k : Nat} {a0 : TRequest} {a1 : TRequest} {r : Bool} (h : f61 k a0 a1 = some r) :
    ACalls P (N 61) [(.d (TRequest.enc a0)), (.d (TRequest.enc a1))] [] (.d (.bool r)) [] := by
  refine acalls_canon (F := C61 N) hc.1 0 0 rfl ?_
  unfold f61 at h
  dsimp only [C61, startL]
  refine AWc.seq ?_
  refine AWc.rg hmix rfl rfl ?_
  refine RegV.evS (own := false) (v := (.ptr 0 0)) (H' := [(0, (.cells [(.d (.int .i64 a0.fKind)), (.d (.str a0.fName)), (.d (.str a0.fText)), (.d (.str a0.fGroup)), (.d (.int .i64 a0.fN)), (.d (.int .i64 a0.fVersion)), (.d (.int .u64 a0.fProducer)), (.d (.int .u64 a0.fSeq)), (.d (.int .u64 a0.fOffset)), (.d (.int .i64 a0.fMost)), (.d (.sl (List.map byteD a0.fData)))]))]) (c' := 1) rfl rfl trivial rfl rfl rfl rfl rfl rfl ?_
  refine RegV.evS (own := false) (v := (.ptr 1 0)) (H' := [(1, (.cells [(.d (.int .i64 a1.fKind)), (.d (.str a1.fName)), (.d (.str a1.fText)), (.d (.str a1.fGroup)), (.d (.int .i64 a1.fN)), (.d (.int .i64 a1.fVersion)), (.d (.int .u64 a1.fProducer)), (.d (.int .u64 a1.fSeq)), (.d (.int .u64 a1.fOffset)), (.d (.int .i64 a1.fMost)), (.d (.sl (List.map byteD a1.fData)))])), (0, (.cells [(.d (.int .i64 a0.fKind)), (.d (.str a0.fName)), (.d (.str a0.fText)), (.d (.str a0.fGroup)), (.d (.int .i64 a0.fN)), (.d (.int .i64 a0.fVersion)), (.d (.int .u64 a0.fProducer)), (.d (.int .u64 a0.fSeq)), (.d (.int .u64 a0.fOffset)), (.d (.int .i64 a0.fMost)), (.d (.sl (List.map byteD a0.fData)))]))]) (c' := 2) rfl rfl trivial rfl rfl rfl rfl rfl rfl ?_
  refine RegV.p0 rfl rfl rfl ?_
  refine RegV.nil0 ?_
  refine AWc.seq ?_
  refine AWc.rg hmix rfl rfl ?_
  refine RegV.p0 (v := (.ptr 0 0)) rfl rfl rfl ?_
  refine RegV.ld (v := (.d (.int .i64 a0.fKind))) (H' := [(0, (.cells [(.d (.int .i64 a0.fKind)), (.d (.str a0.fName)), (.d (.str a0.fText)), (.d (.str a0.fGroup)), (.d (.int .i64 a0.fN)), (.d (.int .i64 a0.fVersion)), (.d (.int .u64 a0.fProducer)), (.d (.int .u64 a0.fSeq)), (.d (.int .u64 a0.fOffset)), (.d (.int .i64 a0.fMost)), (.d (.sl (List.map byteD a0.fData)))])), (1, (.cells [(.d (.int .i64 a1.fKind)), (.d (.str a1.fName)), (.d (.str a1.fText)), (.d (.str a1.fGroup)), (.d (.int .i64 a1.fN)), (.d (.int .i64 a1.fVersion)), (.d (.int .u64 a1.fProducer)), (.d (.int .u64 a1.fSeq)), (.d (.int .u64 a1.fOffset)), (.d (.int .i64 a1.fMost)), (.d (.sl (List.map byteD a1.fData)))]))]) rfl rfl trivial rfl rfl rfl rfl rfl ?_
  refine RegV.p0 (v := (.ptr 1 0)) rfl rfl rfl ?_
  refine RegV.ld (v := (.d (.int .i64 a1.fKind))) (H' := [(1, (.cells [(.d (.int .i64 a1.fKind)), (.d (.str a1.fName)), (.d (.str a1.fText)), (.d (.str a1.fGroup)), (.d (.int .i64 a1.fN)), (.d (.int .i64 a1.fVersion)), (.d (.int .u64 a1.fProducer)), (.d (.int .u64 a1.fSeq)), (.d (.int .u64 a1.fOffset)), (.d (.int .i64 a1.fMost)), (.d (.sl (List.map byteD a1.fData)))])), (0, (.cells [(.d (.int .i64 a0.fKind)), (.d (.str a0.fName)), (.d (.str a0.fText)), (.d (.str a0.fGroup)), (.d (.int .i64 a0.fN)), (.d (.int .i64 a0.fVersion)), (.d (.int .u64 a0.fProducer)), (.d (.int .u64 a0.fSeq)), (.d (.int .u64 a0.fOffset)), (.d (.int .i64 a0.fMost)), (.d (.sl (List.map byteD a0.fData)))]))]) rfl rfl trivial rfl rfl rfl rfl rfl ?_
  refine RegV.p0 (v := (.d (.bool (decide (a0.fKind = a1.fKind))))) rfl rfl rfl ?_
  refine RegV.p0 rfl rfl rfl ?_
  refine RegV.split (fun c15 => ?_) (fun c15 => ?_)
  · have h := cond_pos c15 h
    refine RegV.p0 (v := (.ptr 0 1)) rfl rfl rfl ?_
    refine RegV.ld (v := (.d (.str a0.fName))) (H' := [(0, (.cells [(.d (.int .i64 a0.fKind)), (.d (.str a0.fName)), (.d (.str a0.fText)), (.d (.str a0.fGroup)), (.d (.int .i64 a0.fN)), (.d (.int .i64 a0.fVersion)), (.d (.int .u64 a0.fProducer)), (.d (.int .u64 a0.fSeq)), (.d (.int .u64 a0.fOffset)), (.d (.int .i64 a0.fMost)), (.d (.sl (List.map byteD a0.fData)))])), (1, (.cells [(.d (.int .i64 a1.fKind)), (.d (.str a1.fName)), (.d (.str a1.fText)), (.d (.str a1.fGroup)), (.d (.int .i64 a1.fN)), (.d (.int .i64 a1.fVersion)), (.d (.int .u64 a1.fProducer)), (.d (.int .u64 a1.fSeq)), (.d (.int .u64 a1.fOffset)), (.d (.int .i64 a1.fMost)), (.d (.sl (List.map byteD a1.fData)))]))]) rfl rfl trivial rfl rfl rfl rfl rfl ?_
    refine RegV.p0 (v := (.ptr 1 1)) rfl rfl rfl ?_
    refine RegV.ld (v := (.d (.str a1.fName))) (H' := [(1, (.cells [(.d (.int .i64 a1.fKind)), (.d (.str a1.fName)), (.d (.str a1.fText)), (.d (.str a1.fGroup)), (.d (.int .i64 a1.fN)), (.d (.int .i64 a1.fVersion)), (.d (.int .u64 a1.fProducer)), (.d (.int .u64 a1.fSeq)), (.d (.int .u64 a1.fOffset)), (.d (.int .i64 a1.fMost)), (.d (.sl (List.map byteD a1.fData)))])), (0, (.cells [(.d (.int .i64 a0.fKind)), (.d (.str a0.fName)), (.d (.str a0.fText)), (.d (.str a0.fGroup)), (.d (.int .i64 a0.fN)), (.d (.int .i64 a0.fVersion)), (.d (.int .u64 a0.fProducer)), (.d (.int .u64 a0.fSeq)), (.d (.int .u64 a0.fOffset)), (.d (.int .i64 a0.fMost)), (.d (.sl (List.map byteD a0.fData)))]))]) rfl rfl trivial rfl rfl rfl rfl rfl ?_
    refine RegV.p0 (v := (.d (.bool (decide (a0.fName = a1.fName))))) rfl rfl rfl ?_
    refine RegV.p0 rfl rfl rfl ?_
    refine RegV.p0 rfl rfl rfl ?_
    refine RegV.split (fun c22 => ?_) (fun c22 => ?_)
    · have h := cond_pos c22 h
      refine RegV.p0 (v := (.ptr 0 2)) rfl rfl rfl ?_
      refine RegV.ld (v := (.d (.str a0.fText))) (H' := [(0, (.cells [(.d (.int .i64 a0.fKind)), (.d (.str a0.fName)), (.d (.str a0.fText)), (.d (.str a0.fGroup)), (.d (.int .i64 a0.fN)), (.d (.int .i64 a0.fVersion)), (.d (.int .u64 a0.fProducer)), (.d (.int .u64 a0.fSeq)), (.d (.int .u64 a0.fOffset)), (.d (.int .i64 a0.fMost)), (.d (.sl (List.map byteD a0.fData)))])), (1, (.cells [(.d (.int .i64 a1.fKind)), (.d (.str a1.fName)), (.d (.str a1.fText)), (.d (.str a1.fGroup)), (.d (.int .i64 a1.fN)), (.d (.int .i64 a1.fVersion)), (.d (.int .u64 a1.fProducer)), (.d (.int .u64 a1.fSeq)), (.d (.int .u64 a1.fOffset)), (.d (.int .i64 a1.fMost)), (.d (.sl (List.map byteD a1.fData)))]))]) rfl rfl trivial rfl rfl rfl rfl rfl ?_
      refine RegV.p0 (v := (.ptr 1 2)) rfl rfl rfl ?_
      refine RegV.ld (v := (.d (.str a1.fText))) (H' := [(1, (.cells [(.d (.int .i64 a1.fKind)), (.d (.str a1.fName)), (.d (.str a1.fText)), (.d (.str a1.fGroup)), (.d (.int .i64 a1.fN)), (.d (.int .i64 a1.fVersion)), (.d (.int .u64 a1.fProducer)), (.d (.int .u64 a1.fSeq)), (.d (.int .u64 a1.fOffset)), (.d (.int .i64 a1.fMost)), (.d (.sl (List.map byteD a1.fData)))])), (0, (.cells [(.d (.int .i64 a0.fKind)), (.d (.str a0.fName)), (.d (.str a0.fText)), (.d (.str a0.fGroup)), (.d (.int .i64 a0.fN)), (.d (.int .i64 a0.fVersion)), (.d (.int .u64 a0.fProducer)), (.d (.int .u64 a0.fSeq)), (.d (.int .u64 a0.fOffset)), (.d (.int .i64 a0.fMost)), (.d (.sl (List.map byteD a0.fData)))]))]) rfl rfl trivial rfl rfl rfl rfl rfl ?_
      refine RegV.p0 (v := (.d (.bool (decide (a0.fText = a1.fText))))) rfl rfl rfl ?_
      refine RegV.p0 rfl rfl rfl ?_
      refine RegV.p0 rfl rfl rfl ?_
      refine RegV.split (fun c29 => ?_) (fun c29 => ?_)
      · have h := cond_pos c29 h
        refine RegV.p0 (v := (.ptr 0 3)) rfl rfl rfl ?_
        refine RegV.ld (v := (.d (.str a0.fGroup))) (H' := [(0, (.cells [(.d (.int .i64 a0.fKind)), (.d (.str a0.fName)), (.d (.str a0.fText)), (.d (.str a0.fGroup)), (.d (.int .i64 a0.fN)), (.d (.int .i64 a0.fVersion)), (.d (.int .u64 a0.fProducer)), (.d (.int .u64 a0.fSeq)), (.d (.int .u64 a0.fOffset)), (.d (.int .i64 a0.fMost)), (.d (.sl (List.map byteD a0.fData)))])), (1, (.cells [(.d (.int .i64 a1.fKind)), (.d (.str a1.fName)), (.d (.str a1.fText)), (.d (.str a1.fGroup)), (.d (.int .i64 a1.fN)), (.d (.int .i64 a1.fVersion)), (.d (.int .u64 a1.fProducer)), (.d (.int .u64 a1.fSeq)), (.d (.int .u64 a1.fOffset)), (.d (.int .i64 a1.fMost)), (.d (.sl (List.map byteD a1.fData)))]))]) rfl rfl trivial rfl rfl rfl rfl rfl ?_
        refine RegV.p0 (v := (.ptr 1 3)) rfl rfl rfl ?_
        refine RegV.ld (v := (.d (.str a1.fGroup))) (H' := [(1, (.cells [(.d (.int .i64 a1.fKind)), (.d (.str a1.fName)), (.d (.str a1.fText)), (.d (.str a1.fGroup)), (.d (.int .i64 a1.fN)), (.d (.int .i64 a1.fVersion)), (.d (.int .u64 a1.fProducer)), (.d (.int .u64 a1.fSeq)), (.d (.int .u64 a1.fOffset)), (.d (.int .i64 a1.fMost)), (.d (.sl (List.map byteD a1.fData)))])), (0, (.cells [(.d (.int .i64 a0.fKind)), (.d (.str a0.fName)), (.d (.str a0.fText)), (.d (.str a0.fGroup)), (.d (.int .i64 a0.fN)), (.d (.int .i64 a0.fVersion)), (.d (.int .u64 a0.fProducer)), (.d (.int .u64 a0.fSeq)), (.d (.int .u64 a0.fOffset)), (.d (.int .i64 a0.fMost)), (.d (.sl (List.map byteD a0.fData)))]))]) rfl rfl trivial rfl rfl rfl rfl rfl ?_
        refine RegV.p0 (v := (.d (.bool (decide (a0.fGroup = a1.fGroup))))) rfl rfl rfl ?_
        refine RegV.p0 rfl rfl rfl ?_
        refine RegV.p0 rfl rfl rfl ?_
        refine RegV.split (fun c36 => ?_) (fun c36 => ?_)
        · have h := cond_pos c36 h
          refine RegV.p0 (v := (.ptr 0 4)) rfl rfl rfl ?_
          refine RegV.ld (v := (.d (.int .i64 a0.fN))) (H' := [(0, (.cells [(.d (.int .i64 a0.fKind)), (.d (.str a0.fName)), (.d (.str a0.fText)), (.d (.str a0.fGroup)), (.d (.int .i64 a0.fN)), (.d (.int .i64 a0.fVersion)), (.d (.int .u64 a0.fProducer)), (.d (.int .u64 a0.fSeq)), (.d (.int .u64 a0.fOffset)), (.d (.int .i64 a0.fMost)), (.d (.sl (List.map byteD a0.fData)))])), (1, (.cells [(.d (.int .i64 a1.fKind)), (.d (.str a1.fName)), (.d (.str a1.fText)), (.d (.str a1.fGroup)), (.d (.int .i64 a1.fN)), (.d (.int .i64 a1.fVersion)), (.d (.int .u64 a1.fProducer)), (.d (.int .u64 a1.fSeq)), (.d (.int .u64 a1.fOffset)), (.d (.int .i64 a1.fMost)), (.d (.sl (List.map byteD a1.fData)))]))]) rfl rfl trivial rfl rfl rfl rfl rfl ?_
          refine RegV.p0 (v := (.ptr 1 4)) rfl rfl rfl ?_
          refine RegV.ld (v := (.d (.int .i64 a1.fN))) (H' := [(1, (.cells [(.d (.int .i64 a1.fKind)), (.d (.str a1.fName)), (.d (.str a1.fText)), (.d (.str a1.fGroup)), (.d (.int .i64 a1.fN)), (.d (.int .i64 a1.fVersion)), (.d (.int .u64 a1.fProducer)), (.d (.int .u64 a1.fSeq)), (.d (.int .u64 a1.fOffset)), (.d (.int .i64 a1.fMost)), (.d (.sl (List.map byteD a1.fData)))])), (0, (.cells [(.d (.int .i64 a0.fKind)), (.d (.str a0.fName)), (.d (.str a0.fText)), (.d (.str a0.fGroup)), (.d (.int .i64 a0.fN)), (.d (.int .i64 a0.fVersion)), (.d (.int .u64 a0.fProducer)), (.d (.int .u64 a0.fSeq)), (.d (.int .u64 a0.fOffset)), (.d (.int .i64 a0.fMost)), (.d (.sl (List.map byteD a0.fData)))]))]) rfl rfl trivial rfl rfl rfl rfl rfl ?_
          refine RegV.p0 (v := (.d (.bool (decide (a0.fN = a1.fN))))) rfl rfl rfl ?_
          refine RegV.p0 rfl rfl rfl ?_
          refine RegV.p0 rfl rfl rfl ?_
          refine RegV.split (fun c43 => ?_) (fun c43 => ?_)
          · have h := cond_pos c43 h
            refine RegV.p0 (v := (.ptr 0 5)) rfl rfl rfl ?_
            refine RegV.ld (v := (.d (.int .i64 a0.fVersion))) (H' := [(0, (.cells [(.d (.int .i64 a0.fKind)), (.d (.str a0.fName)), (.d (.str a0.fText)), (.d (.str a0.fGroup)), (.d (.int .i64 a0.fN)), (.d (.int .i64 a0.fVersion)), (.d (.int .u64 a0.fProducer)), (.d (.int .u64 a0.fSeq)), (.d (.int .u64 a0.fOffset)), (.d (.int .i64 a0.fMost)), (.d (.sl (List.map byteD a0.fData)))])), (1, (.cells [(.d (.int .i64 a1.fKind)), (.d (.str a1.fName)), (.d (.str a1.fText)), (.d (.str a1.fGroup)), (.d (.int .i64 a1.fN)), (.d (.int .i64 a1.fVersion)), (.d (.int .u64 a1.fProducer)), (.d (.int .u64 a1.fSeq)), (.d (.int .u64 a1.fOffset)), (.d (.int .i64 a1.fMost)), (.d (.sl (List.map byteD a1.fData)))]))]) rfl rfl trivial rfl rfl rfl rfl rfl ?_
            refine RegV.p0 (v := (.ptr 1 5)) rfl rfl rfl ?_
            refine RegV.ld (v := (.d (.int .i64 a1.fVersion))) (H' := [(1, (.cells [(.d (.int .i64 a1.fKind)), (.d (.str a1.fName)), (.d (.str a1.fText)), (.d (.str a1.fGroup)), (.d (.int .i64 a1.fN)), (.d (.int .i64 a1.fVersion)), (.d (.int .u64 a1.fProducer)), (.d (.int .u64 a1.fSeq)), (.d (.int .u64 a1.fOffset)), (.d (.int .i64 a1.fMost)), (.d (.sl (List.map byteD a1.fData)))])), (0, (.cells [(.d (.int .i64 a0.fKind)), (.d (.str a0.fName)), (.d (.str a0.fText)), (.d (.str a0.fGroup)), (.d (.int .i64 a0.fN)), (.d (.int .i64 a0.fVersion)), (.d (.int .u64 a0.fProducer)), (.d (.int .u64 a0.fSeq)), (.d (.int .u64 a0.fOffset)), (.d (.int .i64 a0.fMost)), (.d (.sl (List.map byteD a0.fData)))]))]) rfl rfl trivial rfl rfl rfl rfl rfl ?_
            refine RegV.p0 (v := (.d (.bool (decide (a0.fVersion = a1.fVersion))))) rfl rfl rfl ?_
            refine RegV.p0 rfl rfl rfl ?_
            refine RegV.p0 rfl rfl rfl ?_
            refine RegV.split (fun c50 => ?_) (fun c50 => ?_)
            · have h := cond_pos c50 h
              refine RegV.p0 (v := (.ptr 0 6)) rfl rfl rfl ?_
              refine RegV.ld (v := (.d (.int .u64 a0.fProducer))) (H' := [(0, (.cells [(.d (.int .i64 a0.fKind)), (.d (.str a0.fName)), (.d (.str a0.fText)), (.d (.str a0.fGroup)), (.d (.int .i64 a0.fN)), (.d (.int .i64 a0.fVersion)), (.d (.int .u64 a0.fProducer)), (.d (.int .u64 a0.fSeq)), (.d (.int .u64 a0.fOffset)), (.d (.int .i64 a0.fMost)), (.d (.sl (List.map byteD a0.fData)))])), (1, (.cells [(.d (.int .i64 a1.fKind)), (.d (.str a1.fName)), (.d (.str a1.fText)), (.d (.str a1.fGroup)), (.d (.int .i64 a1.fN)), (.d (.int .i64 a1.fVersion)), (.d (.int .u64 a1.fProducer)), (.d (.int .u64 a1.fSeq)), (.d (.int .u64 a1.fOffset)), (.d (.int .i64 a1.fMost)), (.d (.sl (List.map byteD a1.fData)))]))]) rfl rfl trivial rfl rfl rfl rfl rfl ?_
              refine RegV.p0 (v := (.ptr 1 6)) rfl rfl rfl ?_
              refine RegV.ld (v := (.d (.int .u64 a1.fProducer))) (H' := [(1, (.cells [(.d (.int .i64 a1.fKind)), (.d (.str a1.fName)), (.d (.str a1.fText)), (.d (.str a1.fGroup)), (.d (.int .i64 a1.fN)), (.d (.int .i64 a1.fVersion)), (.d (.int .u64 a1.fProducer)), (.d (.int .u64 a1.fSeq)), (.d (.int .u64 a1.fOffset)), (.d (.int .i64 a1.fMost)), (.d (.sl (List.map byteD a1.fData)))])), (0, (.cells [(.d (.int .i64 a0.fKind)), (.d (.str a0.fName)), (.d (.str a0.fText)), (.d (.str a0.fGroup)), (.d (.int .i64 a0.fN)), (.d (.int .i64 a0.fVersion)), (.d (.int .u64 a0.fProducer)), (.d (.int .u64 a0.fSeq)), (.d (.int .u64 a0.fOffset)), (.d (.int .i64 a0.fMost)), (.d (.sl (List.map byteD a0.fData)))]))]) rfl rfl trivial rfl rfl rfl rfl rfl ?_
              refine RegV.p0 (v := (.d (.bool (decide (a0.fProducer = a1.fProducer))))) rfl rfl rfl ?_
              refine RegV.p0 rfl rfl rfl ?_
              refine RegV.p0 rfl rfl rfl ?_
              refine RegV.split (fun c57 => ?_) (fun c57 => ?_)
              · have h := cond_pos c57 h
                refine RegV.p0 (v := (.ptr 0 7)) rfl rfl rfl ?_
                refine RegV.ld (v := (.d (.int .u64 a0.fSeq))) (H' := [(0, (.cells [(.d (.int .i64 a0.fKind)), (.d (.str a0.fName)), (.d (.str a0.fText)), (.d (.str a0.fGroup)), (.d (.int .i64 a0.fN)), (.d (.int .i64 a0.fVersion)), (.d (.int .u64 a0.fProducer)), (.d (.int .u64 a0.fSeq)), (.d (.int .u64 a0.fOffset)), (.d (.int .i64 a0.fMost)), (.d (.sl (List.map byteD a0.fData)))])), (1, (.cells [(.d (.int .i64 a1.fKind)), (.d (.str a1.fName)), (.d (.str a1.fText)), (.d (.str a1.fGroup)), (.d (.int .i64 a1.fN)), (.d (.int .i64 a1.fVersion)), (.d (.int .u64 a1.fProducer)), (.d (.int .u64 a1.fSeq)), (.d (.int .u64 a1.fOffset)), (.d (.int .i64 a1.fMost)), (.d (.sl (List.map byteD a1.fData)))]))]) rfl rfl trivial rfl rfl rfl rfl rfl ?_
                refine RegV.p0 (v := (.ptr 1 7)) rfl rfl rfl ?_
                refine RegV.ld (v := (.d (.int .u64 a1.fSeq))) (H' := [(1, (.cells [(.d (.int .i64 a1.fKind)), (.d (.str a1.fName)), (.d (.str a1.fText)), (.d (.str a1.fGroup)), (.d (.int .i64 a1.fN)), (.d (.int .i64 a1.fVersion)), (.d (.int .u64 a1.fProducer)), (.d (.int .u64 a1.fSeq)), (.d (.int .u64 a1.fOffset)), (.d (.int .i64 a1.fMost)), (.d (.sl (List.map byteD a1.fData)))])), (0, (.cells [(.d (.int .i64 a0.fKind)), (.d (.str a0.fName)), (.d (.str a0.fText)), (.d (.str a0.fGroup)), (.d (.int .i64 a0.fN)), (.d (.int .i64 a0.fVersion)), (.d (.int .u64 a0.fProducer)), (.d (.int .u64 a0.fSeq)), (.d (.int .u64 a0.fOffset)), (.d (.int .i64 a0.fMost)), (.d (.sl (List.map byteD a0.fData)))]))]) rfl rfl trivial rfl rfl rfl rfl rfl ?_
                refine RegV.p0 (v := (.d (.bool (decide (a0.fSeq = a1.fSeq))))) rfl rfl rfl ?_
                refine RegV.p0 rfl rfl rfl ?_
                refine RegV.p0 rfl rfl rfl ?_
                refine RegV.split (fun c64 => ?_) (fun c64 => ?_)
                · have h := cond_pos c64 h
                  refine RegV.p0 (v := (.ptr 0 8)) rfl rfl rfl ?_
                  refine RegV.ld (v := (.d (.int .u64 a0.fOffset))) (H' := [(0, (.cells [(.d (.int .i64 a0.fKind)), (.d (.str a0.fName)), (.d (.str a0.fText)), (.d (.str a0.fGroup)), (.d (.int .i64 a0.fN)), (.d (.int .i64 a0.fVersion)), (.d (.int .u64 a0.fProducer)), (.d (.int .u64 a0.fSeq)), (.d (.int .u64 a0.fOffset)), (.d (.int .i64 a0.fMost)), (.d (.sl (List.map byteD a0.fData)))])), (1, (.cells [(.d (.int .i64 a1.fKind)), (.d (.str a1.fName)), (.d (.str a1.fText)), (.d (.str a1.fGroup)), (.d (.int .i64 a1.fN)), (.d (.int .i64 a1.fVersion)), (.d (.int .u64 a1.fProducer)), (.d (.int .u64 a1.fSeq)), (.d (.int .u64 a1.fOffset)), (.d (.int .i64 a1.fMost)), (.d (.sl (List.map byteD a1.fData)))]))]) rfl rfl trivial rfl rfl rfl rfl rfl ?_
                  refine RegV.p0 (v := (.ptr 1 8)) rfl rfl rfl ?_
                  refine RegV.ld (v := (.d (.int .u64 a1.fOffset))) (H' := [(1, (.cells [(.d (.int .i64 a1.fKind)), (.d (.str a1.fName)), (.d (.str a1.fText)), (.d (.str a1.fGroup)), (.d (.int .i64 a1.fN)), (.d (.int .i64 a1.fVersion)), (.d (.int .u64 a1.fProducer)), (.d (.int .u64 a1.fSeq)), (.d (.int .u64 a1.fOffset)), (.d (.int .i64 a1.fMost)), (.d (.sl (List.map byteD a1.fData)))])), (0, (.cells [(.d (.int .i64 a0.fKind)), (.d (.str a0.fName)), (.d (.str a0.fText)), (.d (.str a0.fGroup)), (.d (.int .i64 a0.fN)), (.d (.int .i64 a0.fVersion)), (.d (.int .u64 a0.fProducer)), (.d (.int .u64 a0.fSeq)), (.d (.int .u64 a0.fOffset)), (.d (.int .i64 a0.fMost)), (.d (.sl (List.map byteD a0.fData)))]))]) rfl rfl trivial rfl rfl rfl rfl rfl ?_
                  refine RegV.p0 (v := (.d (.bool (decide (a0.fOffset = a1.fOffset))))) rfl rfl rfl ?_
                  refine RegV.p0 rfl rfl rfl ?_
                  refine RegV.p0 rfl rfl rfl ?_
                  refine RegV.split (fun c71 => ?_) (fun c71 => ?_)
                  · have h := cond_pos c71 h
                    refine RegV.p0 (v := (.ptr 0 9)) rfl rfl rfl ?_
                    refine RegV.ld (v := (.d (.int .i64 a0.fMost))) (H' := [(0, (.cells [(.d (.int .i64 a0.fKind)), (.d (.str a0.fName)), (.d (.str a0.fText)), (.d (.str a0.fGroup)), (.d (.int .i64 a0.fN)), (.d (.int .i64 a0.fVersion)), (.d (.int .u64 a0.fProducer)), (.d (.int .u64 a0.fSeq)), (.d (.int .u64 a0.fOffset)), (.d (.int .i64 a0.fMost)), (.d (.sl (List.map byteD a0.fData)))])), (1, (.cells [(.d (.int .i64 a1.fKind)), (.d (.str a1.fName)), (.d (.str a1.fText)), (.d (.str a1.fGroup)), (.d (.int .i64 a1.fN)), (.d (.int .i64 a1.fVersion)), (.d (.int .u64 a1.fProducer)), (.d (.int .u64 a1.fSeq)), (.d (.int .u64 a1.fOffset)), (.d (.int .i64 a1.fMost)), (.d (.sl (List.map byteD a1.fData)))]))]) rfl rfl trivial rfl rfl rfl rfl rfl ?_
                    refine RegV.p0 (v := (.ptr 1 9)) rfl rfl rfl ?_
                    refine RegV.ld (v := (.d (.int .i64 a1.fMost))) (H' := [(1, (.cells [(.d (.int .i64 a1.fKind)), (.d (.str a1.fName)), (.d (.str a1.fText)), (.d (.str a1.fGroup)), (.d (.int .i64 a1.fN)), (.d (.int .i64 a1.fVersion)), (.d (.int .u64 a1.fProducer)), (.d (.int .u64 a1.fSeq)), (.d (.int .u64 a1.fOffset)), (.d (.int .i64 a1.fMost)), (.d (.sl (List.map byteD a1.fData)))])), (0, (.cells [(.d (.int .i64 a0.fKind)), (.d (.str a0.fName)), (.d (.str a0.fText)), (.d (.str a0.fGroup)), (.d (.int .i64 a0.fN)), (.d (.int .i64 a0.fVersion)), (.d (.int .u64 a0.fProducer)), (.d (.int .u64 a0.fSeq)), (.d (.int .u64 a0.fOffset)), (.d (.int .i64 a0.fMost)), (.d (.sl (List.map byteD a0.fData)))]))]) rfl rfl trivial rfl rfl rfl rfl rfl ?_
                    refine RegV.p0 (v := (.d (.bool (decide (a0.fMost = a1.fMost))))) rfl rfl rfl ?_
                    refine RegV.p0 rfl rfl rfl ?_
                    refine RegV.p0 rfl rfl rfl ?_
                    refine RegV.split (fun c78 => ?_) (fun c78 => ?_)
                    · have h := cond_pos c78 h
                      refine RegV.p0 (v := (.ptr 0 10)) rfl rfl rfl ?_
                      refine RegV.ld (v := (.d (.sl (List.map byteD a0.fData)))) (H' := [(0, (.cells [(.d (.int .i64 a0.fKind)), (.d (.str a0.fName)), (.d (.str a0.fText)), (.d (.str a0.fGroup)), (.d (.int .i64 a0.fN)), (.d (.int .i64 a0.fVersion)), (.d (.int .u64 a0.fProducer)), (.d (.int .u64 a0.fSeq)), (.d (.int .u64 a0.fOffset)), (.d (.int .i64 a0.fMost)), (.d (.sl (List.map byteD a0.fData)))])), (1, (.cells [(.d (.int .i64 a1.fKind)), (.d (.str a1.fName)), (.d (.str a1.fText)), (.d (.str a1.fGroup)), (.d (.int .i64 a1.fN)), (.d (.int .i64 a1.fVersion)), (.d (.int .u64 a1.fProducer)), (.d (.int .u64 a1.fSeq)), (.d (.int .u64 a1.fOffset)), (.d (.int .i64 a1.fMost)), (.d (.sl (List.map byteD a1.fData)))]))]) rfl rfl trivial rfl rfl rfl rfl rfl ?_
                      refine RegV.p0 (v := (.ptr 1 10)) rfl rfl rfl ?_
                      refine RegV.ld (v := (.d (.sl (List.map byteD a1.fData)))) (H' := [(1, (.cells [(.d (.int .i64 a1.fKind)), (.d (.str a1.fName)), (.d (.str a1.fText)), (.d (.str a1.fGroup)), (.d (.int .i64 a1.fN)), (.d (.int .i64 a1.fVersion)), (.d (.int .u64 a1.fProducer)), (.d (.int .u64 a1.fSeq)), (.d (.int .u64 a1.fOffset)), (.d (.int .i64 a1.fMost)), (.d (.sl (List.map byteD a1.fData)))])), (0, (.cells [(.d (.int .i64 a0.fKind)), (.d (.str a0.fName)), (.d (.str a0.fText)), (.d (.str a0.fGroup)), (.d (.int .i64 a0.fN)), (.d (.int .i64 a0.fVersion)), (.d (.int .u64 a0.fProducer)), (.d (.int .u64 a0.fSeq)), (.d (.int .u64 a0.fOffset)), (.d (.int .i64 a0.fMost)), (.d (.sl (List.map byteD a0.fData)))]))]) rfl rfl trivial rfl rfl rfl rfl rfl ?_
                      obtain ⟨r83, e83, h⟩ := bind_some h
                      refine RegV.call0 (F22 hmix hc.2 e83) rfl rfl rfl rfl (.cons (.refl _) (.cons (.refl _) .nil)) rfl ?_
                      refine RegV.p0 rfl rfl rfl ?_
                      refine RegV.p0 rfl rfl rfl ?_
                      refine RegV.nil0 ?_
                      have hr := Option.some.inj h
                      subst hr
                      exact AWc.ret (canQ (N := 80) (k := 0) (l' := [(4, (.d (.bool (decide (a0.fData = a1.fData)))))]) (H' := []) rfl ⟨rfl, [], [], rfl, rfl, ⟨⟨_, rfl, (.refl _)⟩, rfl, trivial⟩,  trivial⟩ (doneA (.inr rfl) rfl ⟨trivial, trivial⟩ (.refl _) hasNil))
                    · have h := cond_neg c78 h
                      refine RegV.noS rfl rfl ?_
                      refine RegV.noS rfl rfl ?_
                      refine RegV.noS rfl rfl ?_
                      refine RegV.noS rfl rfl ?_
                      refine RegV.noS rfl rfl ?_
                      refine RegV.p0 rfl rfl rfl ?_
                      refine RegV.p0 rfl rfl rfl ?_
                      refine RegV.nil0 ?_
                      have hr := Option.some.inj h
                      subst hr
                      exact AWc.ret (canQ (N := 80) (k := 0) (l' := [(4, (.d (.bool false)))]) (H' := []) rfl ⟨rfl, [], [], rfl, rfl, ⟨⟨_, rfl, (.refl _)⟩, rfl, trivial⟩,  trivial⟩ (doneA (.inr rfl) rfl ⟨trivial, trivial⟩ (.refl _) hasNil))
                  · have h := cond_neg c71 h
                    refine RegV.noS rfl rfl ?_
                    refine RegV.noS rfl rfl ?_
                    refine RegV.noS rfl rfl ?_
                    refine RegV.noS rfl rfl ?_
                    refine RegV.noS rfl rfl ?_
                    refine RegV.p0 rfl rfl rfl ?_
                    refine RegV.p0 rfl rfl rfl ?_
                    refine RegV.noS rfl rfl ?_
                    refine RegV.noS rfl rfl ?_
                    refine RegV.noS rfl rfl ?_
                    refine RegV.noS rfl rfl ?_
                    refine RegV.noS rfl rfl ?_
                    refine RegV.p0 rfl rfl rfl ?_
                    refine RegV.p0 rfl rfl rfl ?_
                    refine RegV.nil0 ?_
                    have hr := Option.some.inj h
                    subst hr
                    exact AWc.ret (canQ (N := 80) (k := 0) (l' := [(4, (.d (.bool false)))]) (H' := []) rfl ⟨rfl, [], [], rfl, rfl, ⟨⟨_, rfl, (.refl _)⟩, rfl, trivial⟩,  trivial⟩ (doneA (.inr rfl) rfl ⟨trivial, trivial⟩ (.refl _) hasNil))
                · have h := cond_neg c64 h
                  refine RegV.noS rfl rfl ?_
                  refine RegV.noS rfl rfl ?_
                  refine RegV.noS rfl rfl ?_
                  refine RegV.noS rfl rfl ?_
                  refine RegV.noS rfl rfl ?_
                  refine RegV.p0 rfl rfl rfl ?_
                  refine RegV.p0 rfl rfl rfl ?_
                  refine RegV.noS rfl rfl ?_
                  refine RegV.noS rfl rfl ?_
                  refine RegV.noS rfl rfl ?_
                  refine RegV.noS rfl rfl ?_
                  refine RegV.noS rfl rfl ?_
                  refine RegV.p0 rfl rfl rfl ?_
                  refine RegV.p0 rfl rfl rfl ?_
                  refine RegV.noS rfl rfl ?_
                  refine RegV.noS rfl rfl ?_
                  refine RegV.noS rfl rfl ?_
                  refine RegV.noS rfl rfl ?_
                  refine RegV.noS rfl rfl ?_
                  refine RegV.p0 rfl rfl rfl ?_
                  refine RegV.p0 rfl rfl rfl ?_
                  refine RegV.nil0 ?_
                  have hr := Option.some.inj h
                  subst hr
                  exact AWc.ret (canQ (N := 80) (k := 0) (l' := [(4, (.d (.bool false)))]) (H' := []) rfl ⟨rfl, [], [], rfl, rfl, ⟨⟨_, rfl, (.refl _)⟩, rfl, trivial⟩,  trivial⟩ (doneA (.inr rfl) rfl ⟨trivial, trivial⟩ (.refl _) hasNil))
              · have h := cond_neg c57 h
                refine RegV.noS rfl rfl ?_
                refine RegV.noS rfl rfl ?_
                refine RegV.noS rfl rfl ?_
                refine RegV.noS rfl rfl ?_
                refine RegV.noS rfl rfl ?_
                refine RegV.p0 rfl rfl rfl ?_
                refine RegV.p0 rfl rfl rfl ?_
                refine RegV.noS rfl rfl ?_
                refine RegV.noS rfl rfl ?_
                refine RegV.noS rfl rfl ?_
                refine RegV.noS rfl rfl ?_
                refine RegV.noS rfl rfl ?_
                refine RegV.p0 rfl rfl rfl ?_
                refine RegV.p0 rfl rfl rfl ?_
                refine RegV.noS rfl rfl ?_
                refine RegV.noS rfl rfl ?_
                refine RegV.noS rfl rfl ?_
                refine RegV.noS rfl rfl ?_
                refine RegV.noS rfl rfl ?_
                refine RegV.p0 rfl rfl rfl ?_
                refine RegV.p0 rfl rfl rfl ?_
                refine RegV.noS rfl rfl ?_
                refine RegV.noS rfl rfl ?_
                refine RegV.noS rfl rfl ?_
                refine RegV.noS rfl rfl ?_
                refine RegV.noS rfl rfl ?_
                refine RegV.p0 rfl rfl rfl ?_
                refine RegV.p0 rfl rfl rfl ?_
                refine RegV.nil0 ?_
                have hr := Option.some.inj h
                subst hr
                exact AWc.ret (canQ (N := 80) (k := 0) (l' := [(4, (.d (.bool false)))]) (H' := []) rfl ⟨rfl, [], [], rfl, rfl, ⟨⟨_, rfl, (.refl _)⟩, rfl, trivial⟩,  trivial⟩ (doneA (.inr rfl) rfl ⟨trivial, trivial⟩ (.refl _) hasNil))
            · have h := cond_neg c50 h
              refine RegV.noS rfl rfl ?_
              refine RegV.noS rfl rfl ?_
              refine RegV.noS rfl rfl ?_
              refine RegV.noS rfl rfl ?_
              refine RegV.noS rfl rfl ?_
              refine RegV.p0 rfl rfl rfl ?_
              refine RegV.p0 rfl rfl rfl ?_
              refine RegV.noS rfl rfl ?_
              refine RegV.noS rfl rfl ?_
              refine RegV.noS rfl rfl ?_
              refine RegV.noS rfl rfl ?_
              refine RegV.noS rfl rfl ?_
              refine RegV.p0 rfl rfl rfl ?_
              refine RegV.p0 rfl rfl rfl ?_
              refine RegV.noS rfl rfl ?_
              refine RegV.noS rfl rfl ?_
              refine RegV.noS rfl rfl ?_
              refine RegV.noS rfl rfl ?_
              refine RegV.noS rfl rfl ?_
              refine RegV.p0 rfl rfl rfl ?_
              refine RegV.p0 rfl rfl rfl ?_
              refine RegV.noS rfl rfl ?_
              refine RegV.noS rfl rfl ?_
              refine RegV.noS rfl rfl ?_
              refine RegV.noS rfl rfl ?_
              refine RegV.noS rfl rfl ?_
              refine RegV.p0 rfl rfl rfl ?_
              refine RegV.p0 rfl rfl rfl ?_
              refine RegV.noS rfl rfl ?_
              refine RegV.noS rfl rfl ?_
              refine RegV.noS rfl rfl ?_
              refine RegV.noS rfl rfl ?_
              refine RegV.noS rfl rfl ?_
              refine RegV.p0 rfl rfl rfl ?_
              refine RegV.p0 rfl rfl rfl ?_
              refine RegV.nil0 ?_
              have hr := Option.some.inj h
              subst hr
              exact AWc.ret (canQ (N := 80) (k := 0) (l' := [(4, (.d (.bool false)))]) (H' := []) rfl ⟨rfl, [], [], rfl, rfl, ⟨⟨_, rfl, (.refl _)⟩, rfl, trivial⟩,  trivial⟩ (doneA (.inr rfl) rfl ⟨trivial, trivial⟩ (.refl _) hasNil))
          · have h := cond_neg c43 h
            refine RegV.noS rfl rfl ?_
            refine RegV.noS rfl rfl ?_
            refine RegV.noS rfl rfl ?_
            refine RegV.noS rfl rfl ?_
            refine RegV.noS rfl rfl ?_
            refine RegV.p0 rfl rfl rfl ?_
            refine RegV.p0 rfl rfl rfl ?_
            refine RegV.noS rfl rfl ?_
            refine RegV.noS rfl rfl ?_
            refine RegV.noS rfl rfl ?_
            refine RegV.noS rfl rfl ?_
            refine RegV.noS rfl rfl ?_
            refine RegV.p0 rfl rfl rfl ?_
            refine RegV.p0 rfl rfl rfl ?_
            refine RegV.noS rfl rfl ?_
            refine RegV.noS rfl rfl ?_
            refine RegV.noS rfl rfl ?_
            refine RegV.noS rfl rfl ?_
            refine RegV.noS rfl rfl ?_
            refine RegV.p0 rfl rfl rfl ?_
            refine RegV.p0 rfl rfl rfl ?_
            refine RegV.noS rfl rfl ?_
            refine RegV.noS rfl rfl ?_
            refine RegV.noS rfl rfl ?_
            refine RegV.noS rfl rfl ?_
            refine RegV.noS rfl rfl ?_
            refine RegV.p0 rfl rfl rfl ?_
            refine RegV.p0 rfl rfl rfl ?_
            refine RegV.noS rfl rfl ?_
            refine RegV.noS rfl rfl ?_
            refine RegV.noS rfl rfl ?_
            refine RegV.noS rfl rfl ?_
            refine RegV.noS rfl rfl ?_
            refine RegV.p0 rfl rfl rfl ?_
            refine RegV.p0 rfl rfl rfl ?_
            refine RegV.noS rfl rfl ?_
            refine RegV.noS rfl rfl ?_
            refine RegV.noS rfl rfl ?_
            refine RegV.noS rfl rfl ?_
            refine RegV.noS rfl rfl ?_
            refine RegV.p0 rfl rfl rfl ?_
            refine RegV.p0 rfl rfl rfl ?_
            refine RegV.nil0 ?_
            have hr := Option.some.inj h
            subst hr
            exact AWc.ret (canQ (N := 80) (k := 0) (l' := [(4, (.d (.bool false)))]) (H' := []) rfl ⟨rfl, [], [], rfl, rfl, ⟨⟨_, rfl, (.refl _)⟩, rfl, trivial⟩,  trivial⟩ (doneA (.inr rfl) rfl ⟨trivial, trivial⟩ (.refl _) hasNil))
        · have h := cond_neg c36 h
          refine RegV.noS rfl rfl ?_
          refine RegV.noS rfl rfl ?_
          refine RegV.noS rfl rfl ?_
          refine RegV.noS rfl rfl ?_
          refine RegV.noS rfl rfl ?_
          refine RegV.p0 rfl rfl rfl ?_
          refine RegV.p0 rfl rfl rfl ?_
          refine RegV.noS rfl rfl ?_
          refine RegV.noS rfl rfl ?_
          refine RegV.noS rfl rfl ?_
          refine RegV.noS rfl rfl ?_
          refine RegV.noS rfl rfl ?_
          refine RegV.p0 rfl rfl rfl ?_
          refine RegV.p0 rfl rfl rfl ?_
          refine RegV.noS rfl rfl ?_
          refine RegV.noS rfl rfl ?_
          refine RegV.noS rfl rfl ?_
          refine RegV.noS rfl rfl ?_
          refine RegV.noS rfl rfl ?_
          refine RegV.p0 rfl rfl rfl ?_
          refine RegV.p0 rfl rfl rfl ?_
          refine RegV.noS rfl rfl ?_
          refine RegV.noS rfl rfl ?_
          refine RegV.noS rfl rfl ?_
          refine RegV.noS rfl rfl ?_
          refine RegV.noS rfl rfl ?_
          refine RegV.p0 rfl rfl rfl ?_
          refine RegV.p0 rfl rfl rfl ?_
          refine RegV.noS rfl rfl ?_
          refine RegV.noS rfl rfl ?_
          refine RegV.noS rfl rfl ?_
          refine RegV.noS rfl rfl ?_
          refine RegV.noS rfl rfl ?_
          refine RegV.p0 rfl rfl rfl ?_
          refine RegV.p0 rfl rfl rfl ?_
          refine RegV.noS rfl rfl ?_
          refine RegV.noS rfl rfl ?_
          refine RegV.noS rfl rfl ?_
          refine RegV.noS rfl rfl ?_
          refine RegV.noS rfl rfl ?_
          refine RegV.p0 rfl rfl rfl ?_
          refine RegV.p0 rfl rfl rfl ?_
          refine RegV.noS rfl rfl ?_
          refine RegV.noS rfl rfl ?_
          refine RegV.noS rfl rfl ?_
          refine RegV.noS rfl rfl ?_
          refine RegV.noS rfl rfl ?_
          refine RegV.p0 rfl rfl rfl ?_
          refine RegV.p0 rfl rfl rfl ?_
          refine RegV.nil0 ?_
          have hr := Option.some.inj h
          subst hr
          exact AWc.ret (canQ (N := 80) (k := 0) (l' := [(4, (.d (.bool false)))]) (H' := []) rfl ⟨rfl, [], [], rfl, rfl, ⟨⟨_, rfl, (.refl _)⟩, rfl, trivial⟩,  trivial⟩ (doneA (.inr rfl) rfl ⟨trivial, trivial⟩ (.refl _) hasNil))
      · have h := cond_neg c29 h
        refine RegV.noS rfl rfl ?_
        refine RegV.noS rfl rfl ?_
        refine RegV.noS rfl rfl ?_
        refine RegV.noS rfl rfl ?_
        refine RegV.noS rfl rfl ?_
        refine RegV.p0 rfl rfl rfl ?_
        refine RegV.p0 rfl rfl rfl ?_
        refine RegV.noS rfl rfl ?_
        refine RegV.noS rfl rfl ?_
        refine RegV.noS rfl rfl ?_
        refine RegV.noS rfl rfl ?_
        refine RegV.noS rfl rfl ?_
        refine RegV.p0 rfl rfl rfl ?_
        refine RegV.p0 rfl rfl rfl ?_
        refine RegV.noS rfl rfl ?_
        refine RegV.noS rfl rfl ?_
        refine RegV.noS rfl rfl ?_
        refine RegV.noS rfl rfl ?_
        refine RegV.noS rfl rfl ?_
        refine RegV.p0 rfl rfl rfl ?_
        refine RegV.p0 rfl rfl rfl ?_
        refine RegV.noS rfl rfl ?_
        refine RegV.noS rfl rfl ?_
        refine RegV.noS rfl rfl ?_
        refine RegV.noS rfl rfl ?_
        refine RegV.noS rfl rfl ?_
        refine RegV.p0 rfl rfl rfl ?_
        refine RegV.p0 rfl rfl rfl ?_
        refine RegV.noS rfl rfl ?_
        refine RegV.noS rfl rfl ?_
        refine RegV.noS rfl rfl ?_
        refine RegV.noS rfl rfl ?_
        refine RegV.noS rfl rfl ?_
        refine RegV.p0 rfl rfl rfl ?_
        refine RegV.p0 rfl rfl rfl ?_
        refine RegV.noS rfl rfl ?_
        refine RegV.noS rfl rfl ?_
        refine RegV.noS rfl rfl ?_
        refine RegV.noS rfl rfl ?_
        refine RegV.noS rfl rfl ?_
        refine RegV.p0 rfl rfl rfl ?_
        refine RegV.p0 rfl rfl rfl ?_
        refine RegV.noS rfl rfl ?_
        refine RegV.noS rfl rfl ?_
        refine RegV.noS rfl rfl ?_
        refine RegV.noS rfl rfl ?_
        refine RegV.noS rfl rfl ?_
        refine RegV.p0 rfl rfl rfl ?_
        refine RegV.p0 rfl rfl rfl ?_
        refine RegV.noS rfl rfl ?_
        refine RegV.noS rfl rfl ?_
        refine RegV.noS rfl rfl ?_
        refine RegV.noS rfl rfl ?_
        refine RegV.noS rfl rfl ?_
        refine RegV.p0 rfl rfl rfl ?_
        refine RegV.p0 rfl rfl rfl ?_
        refine RegV.nil0 ?_
        have hr := Option.some.inj h
        subst hr
        exact AWc.ret (canQ (N := 80) (k := 0) (l' := [(4, (.d (.bool false)))]) (H' := []) rfl ⟨rfl, [], [], rfl, rfl, ⟨⟨_, rfl, (.refl _)⟩, rfl, trivial⟩,  trivial⟩ (doneA (.inr rfl) rfl ⟨trivial, trivial⟩ (.refl _) hasNil))
    · have h := cond_neg c22 h
      refine RegV.noS rfl rfl ?_
      refine RegV.noS rfl rfl ?_
      refine RegV.noS rfl rfl ?_
      refine RegV.noS rfl rfl ?_
      refine RegV.noS rfl rfl ?_
      refine RegV.p0 rfl rfl rfl ?_
      refine RegV.p0 rfl rfl rfl ?_
      refine RegV.noS rfl rfl ?_
      refine RegV.noS rfl rfl ?_
      refine RegV.noS rfl rfl ?_
      refine RegV.noS rfl rfl ?_
      refine RegV.noS rfl rfl ?_
      refine RegV.p0 rfl rfl rfl ?_
      refine RegV.p0 rfl rfl rfl ?_
      refine RegV.noS rfl rfl ?_
      refine RegV.noS rfl rfl ?_
      refine RegV.noS rfl rfl ?_
      refine RegV.noS rfl rfl ?_
      refine RegV.noS rfl rfl ?_
      refine RegV.p0 rfl rfl rfl ?_
      refine RegV.p0 rfl rfl rfl ?_
      refine RegV.noS rfl rfl ?_
      refine RegV.noS rfl rfl ?_
      refine RegV.noS rfl rfl ?_
      refine RegV.noS rfl rfl ?_
      refine RegV.noS rfl rfl ?_
      refine RegV.p0 rfl rfl rfl ?_
      refine RegV.p0 rfl rfl rfl ?_
      refine RegV.noS rfl rfl ?_
      refine RegV.noS rfl rfl ?_
      refine RegV.noS rfl rfl ?_
      refine RegV.noS rfl rfl ?_
      refine RegV.noS rfl rfl ?_
      refine RegV.p0 rfl rfl rfl ?_
      refine RegV.p0 rfl rfl rfl ?_
      refine RegV.noS rfl rfl ?_
      refine RegV.noS rfl rfl ?_
      refine RegV.noS rfl rfl ?_
      refine RegV.noS rfl rfl ?_
      refine RegV.noS rfl rfl ?_
      refine RegV.p0 rfl rfl rfl ?_
      refine RegV.p0 rfl rfl rfl ?_
      refine RegV.noS rfl rfl ?_
      refine RegV.noS rfl rfl ?_
      refine RegV.noS rfl rfl ?_
      refine RegV.noS rfl rfl ?_
      refine RegV.noS rfl rfl ?_
      refine RegV.p0 rfl rfl rfl ?_
      refine RegV.p0 rfl rfl rfl ?_
      refine RegV.noS rfl rfl ?_
      refine RegV.noS rfl rfl ?_
      refine RegV.noS rfl rfl ?_
      refine RegV.noS rfl rfl ?_
      refine RegV.noS rfl rfl ?_
      refine RegV.p0 rfl rfl rfl ?_
      refine RegV.p0 rfl rfl rfl ?_
      refine RegV.noS rfl rfl ?_
      refine RegV.noS rfl rfl ?_
      refine RegV.noS rfl rfl ?_
      refine RegV.noS rfl rfl ?_
      refine RegV.noS rfl rfl ?_
      refine RegV.p0 rfl rfl rfl ?_
      refine RegV.p0 rfl rfl rfl ?_
      refine RegV.nil0 ?_
      have hr := Option.some.inj h
      subst hr
      exact AWc.ret (canQ (N := 80) (k := 0) (l' := [(4, (.d (.bool false)))]) (H' := []) rfl ⟨rfl, [], [], rfl, rfl, ⟨⟨_, rfl, (.refl _)⟩, rfl, trivial⟩,  trivial⟩ (doneA (.inr rfl) rfl ⟨trivial, trivial⟩ (.refl _) hasNil))
  · have h := cond_neg c15 h
    refine RegV.noS rfl rfl ?_
    refine RegV.noS rfl rfl ?_
    refine RegV.noS rfl rfl ?_
    refine RegV.noS rfl rfl ?_
    refine RegV.noS rfl rfl ?_
    refine RegV.p0 rfl rfl rfl ?_
    refine RegV.p0 rfl rfl rfl ?_
    refine RegV.noS rfl rfl ?_
    refine RegV.noS rfl rfl ?_
    refine RegV.noS rfl rfl ?_
    refine RegV.noS rfl rfl ?_
    refine RegV.noS rfl rfl ?_
    refine RegV.p0 rfl rfl rfl ?_
    refine RegV.p0 rfl rfl rfl ?_
    refine RegV.noS rfl rfl ?_
    refine RegV.noS rfl rfl ?_
    refine RegV.noS rfl rfl ?_
    refine RegV.noS rfl rfl ?_
    refine RegV.noS rfl rfl ?_
    refine RegV.p0 rfl rfl rfl ?_
    refine RegV.p0 rfl rfl rfl ?_
    refine RegV.noS rfl rfl ?_
    refine RegV.noS rfl rfl ?_
    refine RegV.noS rfl rfl ?_
    refine RegV.noS rfl rfl ?_
    refine RegV.noS rfl rfl ?_
    refine RegV.p0 rfl rfl rfl ?_
    refine RegV.p0 rfl rfl rfl ?_
    refine RegV.noS rfl rfl ?_
    refine RegV.noS rfl rfl ?_
    refine RegV.noS rfl rfl ?_
    refine RegV.noS rfl rfl ?_
    refine RegV.noS rfl rfl ?_
    refine RegV.p0 rfl rfl rfl ?_
    refine RegV.p0 rfl rfl rfl ?_
    refine RegV.noS rfl rfl ?_
    refine RegV.noS rfl rfl ?_
    refine RegV.noS rfl rfl ?_
    refine RegV.noS rfl rfl ?_
    refine RegV.noS rfl rfl ?_
    refine RegV.p0 rfl rfl rfl ?_
    refine RegV.p0 rfl rfl rfl ?_
    refine RegV.noS rfl rfl ?_
    refine RegV.noS rfl rfl ?_
    refine RegV.noS rfl rfl ?_
    refine RegV.noS rfl rfl ?_
    refine RegV.noS rfl rfl ?_
    refine RegV.p0 rfl rfl rfl ?_
    refine RegV.p0 rfl rfl rfl ?_
    refine RegV.noS rfl rfl ?_
    refine RegV.noS rfl rfl ?_
    refine RegV.noS rfl rfl ?_
    refine RegV.noS rfl rfl ?_
    refine RegV.noS rfl rfl ?_
    refine RegV.p0 rfl rfl rfl ?_
    refine RegV.p0 rfl rfl rfl ?_
    refine RegV.noS rfl rfl ?_
    refine RegV.noS rfl rfl ?_
    refine RegV.noS rfl rfl ?_
    refine RegV.noS rfl rfl ?_
    refine RegV.noS rfl rfl ?_
    refine RegV.p0 rfl rfl rfl ?_
    refine RegV.p0 rfl rfl rfl ?_
    refine RegV.noS rfl rfl ?_
    refine RegV.noS rfl rfl ?_
    refine RegV.noS rfl rfl ?_
    refine RegV.noS rfl rfl ?_
    refine RegV.noS rfl rfl ?_
    refine RegV.p0 rfl rfl rfl ?_
    refine RegV.p0 rfl rfl rfl ?_
    refine RegV.nil0 ?_
    have hr := Option.some.inj h
    subst hr
    exact AWc.ret (canQ (N := 80) (k := 0) (l' := [(4, (.d (.bool false)))]) (H' := []) rfl ⟨rfl, [], [], rfl, rfl, ⟨⟨_, rfl, (.refl _)⟩, rfl, trivial⟩,  trivial⟩ (doneA (.inr rfl) rfl ⟨trivial, trivial⟩ (.refl _) hasNil))
/-- courant/couranthelp.Plain[byte]$1 -/
def C109 (N : Nat → Nat) : AFunc := { n := 8, params := 2, res := [.tmp 4], body :=
 (.seq (.region false [⟨(some 4), .mv (.k (.d (.bool false))), none, []⟩])
  (.seq (.region false [⟨(some 5), .mv (.t 0), none, []⟩,
    ⟨(some 6), .mv (.t 1), none, []⟩,
    ⟨(some 7), .bin .eql (.t 5) (.t 6), none, [0, 1]⟩,
    ⟨(some 4), .mv (.t 7), none, [2, 0, 1]⟩])
   .ret)) }
def HC109 (P : Program) (N : Nat → Nat) : Prop := HasF P (N 109) (C109 N)
def f109 (k : Nat) (a0 : UInt8) (a1 : UInt8) : Option Unit := some ()
theorem F109 {P : Program} {N : Nat → Nat} (hmix : P.follows .mixedOrders = true) (hc : HC109 P N) {k : Nat} {a0 : UInt8} {a1 : UInt8} {r : Unit} (h : f109 k a0 a1 = some r) :
    ACalls P (N 109) [(.d (.int .u8 ((a0.toNat : Nat) : Int))), (.d (.int .u8 ((a1.toNat : Nat) : Int)))] [] (.d (.bool (decide (((a0.toNat : Nat) : Int) = ((a1.toNat : Nat) : Int))))) [] := by
  refine acalls_canon (F := C109 N) hc 0 0 rfl ?_
  unfold f109 at h
  dsimp only [C109, startL]
  refine AWc.seq ?_
  refine AWc.rg hmix rfl rfl ?_
  refine RegV.p0 rfl rfl rfl ?_
  refine RegV.nil0 ?_
  refine AWc.seq ?_
  refine AWc.rg hmix rfl rfl ?_
  refine RegV.p0 rfl rfl rfl ?_
  refine RegV.p0 rfl rfl rfl ?_
  refine RegV.p0 (v := (.d (.bool (decide (((a0.toNat : Nat) : Int) = ((a1.toNat : Nat) : Int)))))) rfl rfl rfl ?_
  refine RegV.p0 rfl rfl rfl ?_
  refine RegV.nil0 ?_
  have hr := Option.some.inj h
  subst hr
  exact AWc.ret (canQ (N := 8) (k := 0) (l' := [(4, (.d (.bool (decide (((a0.toNat : Nat) : Int) = ((a1.toNat : Nat) : Int))))))]) (H' := []) rfl ⟨rfl, [], [], rfl, rfl, ⟨⟨_, rfl, (.refl _)⟩, rfl, trivial⟩,  trivial⟩ (doneA (.inr rfl) rfl ⟨trivial, trivial⟩ (.refl _) hasNil))
/-- courant/couranthelp.Same[byte] -/
def C108 (N : Nat → Nat) : AFunc := { n := 30, params := 3, res := [.tmp 6], body :=
 (.seq (.region false [⟨(some 6), .mv (.k (.d (.bool false))), none, []⟩])
  (.seq (.seq (.region false [⟨(some 8), .mv (.t 0), none, []⟩,
     ⟨(some 9), .len (.t 8), none, [0]⟩,
     ⟨(some 10), .mv (.t 1), none, []⟩,
     ⟨(some 11), .len (.t 10), none, [2]⟩,
     ⟨(some 12), .bin .neq (.t 9) (.t 11), none, [1, 3]⟩])
    (.cond (.t 12) (.seq (.region false [⟨(some 6), .mv (.k (.d (.bool false))), none, []⟩])
      .ret)
     (.skip)))
   (.seq (.seq (.region false [⟨(some 7), .mv (.k (.d (.int .i64 0))), none, []⟩])
     (.block 0 (.loop (.seq (.seq (.region false [⟨(some 13), .mv (.t 7), none, []⟩,
          ⟨(some 14), .mv (.t 0), none, []⟩,
          ⟨(some 15), .len (.t 14), none, [1]⟩,
          ⟨(some 16), .bin .lss (.t 13) (.t 15), none, [0, 2]⟩])
         (.cond (.t 16) (.skip)
          (.exit 0)))
        (.seq (.block 1 (.seq (.region true [⟨(some 19), .mv (.t 2), none, []⟩,
            ⟨(some 20), .mv (.t 0), none, []⟩,
            ⟨(some 21), .mv (.t 7), none, []⟩,
            ⟨(some 22), .iaddr (.t 20) (.t 21) 1, none, [1, 2]⟩,
            ⟨(some 23), .load (.t 22) 1 false, none, [3]⟩,
            ⟨(some 24), .mv (.t 1), none, []⟩,
            ⟨(some 25), .mv (.t 7), none, []⟩,
            ⟨(some 26), .iaddr (.t 24) (.t 25) 1, none, [5, 6]⟩,
            ⟨(some 27), .load (.t 26) 1 false, none, [7]⟩,
            ⟨(some 28), .call (.t 19) [(.t 23), (.t 27)], none, [0, 4, 8]⟩,
            ⟨(some 29), .un .not (.t 28), none, [9]⟩])
           (.cond (.t 29) (.seq (.region false [⟨(some 6), .mv (.k (.d (.bool false))), none, []⟩])
             .ret)
            (.skip))))
         (.region false [⟨(some 17), .mv (.t 7), none, []⟩,
          ⟨(some 18), .bin .add (.t 17) (.k (.d (.int .i64 1))), none, [0]⟩,
          ⟨(some 7), .mv (.t 18), none, [1, 0]⟩]))))))
    (.seq (.region false [⟨(some 6), .mv (.k (.d (.bool true))), none, []⟩])
     .ret)))) }
def HC108 (P : Program) (N : Nat → Nat) : Prop := HasF P (N 108) (C108 N) ∧ HC109 P N
def f108_l26 (a0 : (List UInt8)) (a1 : (List UInt8)) : Nat → Int → Option (LR2 Unit Unit Bool)
  | 0, _ => none
  | k + 1, y26_1 => cond (decide (y26_1 < ((a0.length : Nat) : Int))) (gd (0 ≤ y26_1 ∧ y26_1 < ((a0.length : Nat) : Int)) (gd (0 ≤ y26_1 ∧ y26_1 < ((a1.length : Nat) : Int)) ((f109 k (rd a0 y26_1) (rd a1 y26_1)).bind fun r53 => cond (!(decide ((((rd a0 y26_1).toNat : Nat) : Int) = (((rd a1 y26_1).toNat : Nat) : Int)))) (some (.r false)) (f108_l26 a0 a1 k (IntKind.i64.wrap (y26_1 + (1 : Int))))))) (some (.b0 ()))
def f108 (k : Nat) (a0 : (List UInt8)) (a1 : (List UInt8)) : Option Bool := cond (decide (((a0.length : Nat) : Int) ≠ ((a1.length : Nat) : Int))) (some false) ((f108_l26 a0 a1 k (0 : Int)).bind fun o26 => match o26 with | .b0 () => some true | .r x => some x | _ => none)
theorem F108 {P : Program} {N : Nat → Nat} (hmix : P.follows .mixedOrders = true) (hc : HC108 P N) {k : Nat} {a0 : (List UInt8)} {a1 : (List UInt8)} {r : Bool} (h : f108 k a0 a1 = some r) :
    ACalls P (N 108) [(.d (.sl (List.map byteD a0))), (.d (.sl (List.map byteD a1))), (.d (.fn (N 109)))] [] (.d (.bool r)) [] := by
  refine acalls_canon (F := C108 N) hc.1 0 0 rfl ?_
  unfold f108 at h
  dsimp only [C108, startL]
  refine AWc.seq ?_
  refine AWc.rg hmix rfl rfl ?_
  refine RegV.p0 rfl rfl rfl ?_
  refine RegV.nil0 ?_
  refine AWc.seq ?_
  refine AWc.seq ?_
  refine AWc.rg hmix rfl rfl ?_
  refine RegV.p0 rfl rfl rfl ?_
  refine RegV.len (xs := a0) (e := byteD) rfl rfl rfl rfl ?_
  refine RegV.p0 rfl rfl rfl ?_
  refine RegV.len (xs := a1) (e := byteD) rfl rfl rfl rfl ?_
  refine RegV.p0 (v := (.d (.bool (decide (((a0.length : Nat) : Int) ≠ ((a1.length : Nat) : Int)))))) rfl rfl rfl ?_
  refine RegV.nil0 ?_
  refine AWc.cond rfl (fun c14 => ?_) (fun c14 => ?_)
  · have h := cond_pos c14 h
    refine AWc.seq ?_
    refine AWc.rg hmix rfl rfl ?_
    refine RegV.p0 rfl rfl rfl ?_
    refine RegV.nil0 ?_
    have hr := Option.some.inj h
    subst hr
    exact AWc.ret (canQ (N := 30) (k := 0) (l' := [(6, (.d (.bool false)))]) (H' := []) rfl ⟨rfl, [], [], rfl, rfl, ⟨⟨_, rfl, (.refl _)⟩, rfl, trivial⟩,  trivial⟩ (doneA (.inr rfl) rfl ⟨trivial, trivial⟩ (.refl _) hasNil))
  · have h := cond_neg c14 h
    refine AWc.skip ?_
    refine AWc.seq ?_
    refine AWc.seq ?_
    refine AWc.rg hmix rfl rfl ?_
    refine RegV.p0 rfl rfl rfl ?_
    refine RegV.nil0 ?_
    obtain ⟨o26, h26, h⟩ := bind_some h
    refine AWc.block ?_
    refine AWc.loopK (N := 30) 0 (fun (x : Int) => [(0, (.d (.sl (List.map byteD a0)))), (1, (.d (.sl (List.map byteD a1)))), (2, (.d (.fn (N 109)))), (7, (.d (.int .i64 x)))]) (fun x => []) (fun k x => f108_l26 a0 a1 k x = some o26) k (0 : Int) rfl_le (fun x hx => by cases hx) h26 ⟨rfl, [], [], rfl, rfl, ⟨⟨_, rfl, (.refl _)⟩, rfl, ⟨⟨_, rfl, (.refl _)⟩, rfl, ⟨⟨_, rfl, (.refl _)⟩, rfl, ⟨⟨_, rfl, (.refl _)⟩, rfl, trivial⟩⟩⟩⟩,  trivial⟩ ?_
    clear h26
    intro k
    intro y26_1 h26
    rw [f108_l26] at h26
    refine AWc.seq ?_
    refine AWc.seq ?_
    refine AWc.rg hmix rfl rfl ?_
    refine RegV.p0 rfl rfl rfl ?_
    refine RegV.p0 rfl rfl rfl ?_
    refine RegV.len (xs := a0) (e := byteD) rfl rfl rfl rfl ?_
    refine RegV.p0 (v := (.d (.bool (decide (y26_1 < ((a0.length : Nat) : Int)))))) rfl rfl rfl ?_
    refine RegV.nil0 ?_
    refine AWc.cond rfl (fun c36 => ?_) (fun c36 => ?_)
    · have h26 := cond_pos c36 h26
      refine AWc.skip ?_
      refine AWc.seq ?_
      refine AWc.block ?_
      refine AWc.seq ?_
      refine AWc.rg hmix rfl rfl ?_
      refine RegV.p0 rfl rfl rfl ?_
      refine RegV.p0 rfl rfl rfl ?_
      refine RegV.p0 rfl rfl rfl ?_
      obtain ⟨b47, h26⟩ := gd_some h26
      refine RegV.iad (xs := a0) (e := byteD) rfl rfl rfl rfl (fun _ => rfl) b47 rfl ?_
      refine RegV.p0 (v := (.d (.int .u8 (((rd a0 y26_1).toNat : Nat) : Int)))) rfl rfl rfl ?_
      refine RegV.p0 rfl rfl rfl ?_
      refine RegV.p0 rfl rfl rfl ?_
      obtain ⟨b51, h26⟩ := gd_some h26
      refine RegV.iad (xs := a1) (e := byteD) rfl rfl rfl rfl (fun _ => rfl) b51 rfl ?_
      refine RegV.p0 (v := (.d (.int .u8 (((rd a1 y26_1).toNat : Nat) : Int)))) rfl rfl rfl ?_
      obtain ⟨r53, e53, h26⟩ := bind_some h26
      refine RegV.call0 (F109 hmix hc.2 e53) rfl rfl rfl rfl (.cons (.refl _) (.cons (.refl _) .nil)) rfl ?_
      refine RegV.p0 (v := (.d (.bool (!(decide ((((rd a0 y26_1).toNat : Nat) : Int) = (((rd a1 y26_1).toNat : Nat) : Int))))))) rfl rfl rfl ?_
      refine RegV.nil1 (by kernel_rfl) ?_
      refine AWc.cond rfl (fun c55 => ?_) (fun c55 => ?_)
      · have h26 := cond_pos c55 h26
        refine AWc.seq ?_
        refine AWc.rg hmix rfl rfl ?_
        refine RegV.p0 rfl rfl rfl ?_
        refine RegV.nil0 ?_
        cases h26
        dsimp only at h
        have hr := Option.some.inj h
        subst hr
        exact AWc.ret (canQ (N := 30) (k := 0) (l' := [(6, (.d (.bool false)))]) (H' := []) rfl ⟨rfl, [], [], rfl, rfl, ⟨⟨_, rfl, (.refl _)⟩, rfl, trivial⟩,  trivial⟩ (doneA (.inr rfl) rfl ⟨trivial, trivial⟩ (.refl _) hasNil))
      · have h26 := cond_neg c55 h26
        refine AWc.skip ?_
        refine AWc.rg hmix rfl rfl ?_
        refine RegV.p0 rfl rfl rfl ?_
        refine RegV.p0 (v := (.d (.int .i64 (IntKind.i64.wrap (y26_1 + (1 : Int)))))) rfl rfl rfl ?_
        refine RegV.p0 rfl rfl rfl ?_
        refine RegV.nil0 ?_
        exact ⟨(IntKind.i64.wrap (y26_1 + (1 : Int))), h26, ⟨rfl, [], [], rfl, rfl, ⟨⟨_, rfl, (.refl _)⟩, rfl, ⟨⟨_, rfl, (.refl _)⟩, rfl, ⟨⟨_, rfl, (.refl _)⟩, rfl, ⟨⟨_, rfl, (.refl _)⟩, rfl, trivial⟩⟩⟩⟩,  trivial⟩⟩
    · have h26 := cond_neg c36 h26
      cases h26
      dsimp only at h
      refine AWc.exit ?_
      refine inBlk_eq ?_
      refine AWc.seq ?_
      refine AWc.rg hmix rfl rfl ?_
      refine RegV.p0 rfl rfl rfl ?_
      refine RegV.nil0 ?_
      have hr := Option.some.inj h
      subst hr
      exact AWc.ret (canQ (N := 30) (k := 0) (l' := [(6, (.d (.bool true)))]) (H' := []) rfl ⟨rfl, [], [], rfl, rfl, ⟨⟨_, rfl, (.refl _)⟩, rfl, trivial⟩,  trivial⟩ (doneA (.inr rfl) rfl ⟨trivial, trivial⟩ (.refl _) hasNil))
/-- courant/couranthelp.Plain[byte] -/
def C83 (N : Nat → Nat) : AFunc := { n := 8, params := 2, res := [.tmp 4], body :=
 (.seq (.region false [⟨(some 4), .mv (.k (.d (.bool false))), none, []⟩])
  (.seq (.region false [⟨(some 5), .mv (.t 0), none, []⟩,
    ⟨(some 6), .mv (.t 1), none, []⟩,
    ⟨(some 7), .call (.k (.d (.fn (N 108)))) [(.t 5), (.t 6), (.k (.d (.fn (N 109))))], none, [0, 1]⟩,
    ⟨(some 4), .mv (.t 7), none, [2, 0, 1]⟩])
   .ret)) }
def HC83 (P : Program) (N : Nat → Nat) : Prop := HasF P (N 83) (C83 N) ∧ HC108 P N
def f83 (k : Nat) (a0 : (List UInt8)) (a1 : (List UInt8)) : Option Bool := (f108 k a0 a1).bind fun r10 => some r10
theorem F83 {P : Program} {N : Nat → Nat} (hmix : P.follows .mixedOrders = true) (hc : HC83 P N) {k : Nat} {a0 : (List UInt8)} {a1 : (List UInt8)} {r : Bool} (h : f83 k a0 a1 = some r) :
    ACalls P (N 83) [(.d (.sl (List.map byteD a0))), (.d (.sl (List.map byteD a1)))] [] (.d (.bool r)) [] := by
  refine acalls_canon (F := C83 N) hc.1 0 0 rfl ?_
  unfold f83 at h
  dsimp only [C83, startL]
  refine AWc.seq ?_
  refine AWc.rg hmix rfl rfl ?_
  refine RegV.p0 rfl rfl rfl ?_
  refine RegV.nil0 ?_
  refine AWc.seq ?_
  refine AWc.rg hmix rfl rfl ?_
  refine RegV.p0 rfl rfl rfl ?_
  refine RegV.p0 rfl rfl rfl ?_
  obtain ⟨r10, e10, h⟩ := bind_some h
  refine RegV.call0 (F108 hmix hc.2 e10) rfl rfl rfl rfl (.cons (.refl _) (.cons (.refl _) (.cons (.refl _) .nil))) rfl ?_
  refine RegV.p0 rfl rfl rfl ?_
  refine RegV.nil0 ?_
  have hr := Option.some.inj h
  subst hr
  exact AWc.ret (canQ (N := 8) (k := 0) (l' := [(4, (.d (.bool r10)))]) (H' := []) rfl ⟨rfl, [], [], rfl, rfl, ⟨⟨_, rfl, (.refl _)⟩, rfl, trivial⟩,  trivial⟩ (doneA (.inr rfl) rfl ⟨trivial, trivial⟩ (.refl _) hasNil))
/-- courant/couranthelp.Kept[byte] -/
def C29 (N : Nat → Nat) : AFunc := { n := 40, params := 3, res := [.tmp 6], body :=
 (.seq (.region false [⟨(some 6), .mv (.k (.d (.bool false))), none, []⟩])
  (.seq (.seq (.region false [⟨(some 9), .mv (.t 0), none, []⟩,
     ⟨(some 10), .mv (.t 1), none, []⟩,
     ⟨(some 11), .call (.k (.d (.fn (N 83)))) [(.t 9), (.t 10)], none, [0, 1]⟩,
     ⟨(some 12), .un .not (.t 11), none, [2]⟩,
     ⟨(some 13), .mv (.t 12), none, [3, 2]⟩,
     ⟨(some 14), .mv (.t 0), (some (13, false)), [4]⟩,
     ⟨(some 15), .cap (.t 14), (some (13, false)), [5, 4]⟩,
     ⟨(some 16), .mv (.t 1), (some (13, false)), [4]⟩,
     ⟨(some 17), .len (.t 16), (some (13, false)), [7, 4]⟩,
     ⟨(some 18), .bin .add (.t 17) (.k (.d (.int .i64 3))), (some (13, false)), [8, 4]⟩,
     ⟨(some 19), .bin .lss (.t 15) (.t 18), (some (13, false)), [6, 9, 4]⟩,
     ⟨(some 20), .pick (.t 13) (.k (.d (.bool true))) (.t 19), none, [4, 10]⟩])
    (.cond (.t 20) (.seq (.region false [⟨(some 6), .mv (.k (.d (.bool false))), none, []⟩])
      .ret)
     (.skip)))
   (.seq (.region false [⟨(some 21), .mv (.t 0), none, []⟩,
     ⟨(some 22), .mv (.t 1), none, []⟩,
     ⟨(some 23), .len (.t 22), none, [1]⟩,
     ⟨(some 24), .bin .add (.t 23) (.k (.d (.int .i64 3))), none, [2]⟩,
     ⟨(some 25), .slc (.t 21) none (some (.t 24)) none 1, none, [0, 3]⟩,
     ⟨(some 7), .mv (.t 25), none, [4, 0, 1, 2, 3]⟩])
    (.seq (.seq (.region false [⟨(some 26), .mv (.t 1), none, []⟩,
       ⟨(some 27), .len (.t 26), none, [0]⟩,
       ⟨(some 8), .mv (.t 27), none, [1, 0]⟩])
      (.block 0 (.loop (.seq (.seq (.region false [⟨(some 28), .mv (.t 8), none, []⟩,
           ⟨(some 29), .mv (.t 7), none, []⟩,
           ⟨(some 30), .len (.t 29), none, [1]⟩,
           ⟨(some 31), .bin .lss (.t 28) (.t 30), none, [0, 2]⟩])
          (.cond (.t 31) (.skip)
           (.exit 0)))
         (.seq (.block 1 (.seq (.region false [⟨(some 34), .mv (.t 7), none, []⟩,
             ⟨(some 35), .mv (.t 8), none, []⟩,
             ⟨(some 36), .iaddr (.t 34) (.t 35) 1, none, [0, 1]⟩,
             ⟨(some 37), .load (.t 36) 1 false, none, [2]⟩,
             ⟨(some 38), .mv (.t 2), none, []⟩,
             ⟨(some 39), .bin .neq (.t 37) (.t 38), none, [3, 4]⟩])
            (.cond (.t 39) (.seq (.region false [⟨(some 6), .mv (.k (.d (.bool false))), none, []⟩])
              .ret)
             (.skip))))
          (.region false [⟨(some 32), .mv (.t 8), none, []⟩,
           ⟨(some 33), .bin .add (.t 32) (.k (.d (.int .i64 1))), none, [0]⟩,
           ⟨(some 8), .mv (.t 33), none, [1, 0]⟩]))))))
     (.seq (.region false [⟨(some 6), .mv (.k (.d (.bool true))), none, []⟩])
      .ret))))) }
def HC29 (P : Program) (N : Nat → Nat) : Prop := HasF P (N 29) (C29 N) ∧ HC83 P N
def f29_l44 (a2 : (List UInt8)) (a0 : (List UInt8)) (a3 : UInt8) : Nat → Int → Option (LR2 Unit Unit Bool)
  | 0, _ => none
  | k + 1, y44_1 => cond (decide (y44_1 < (((List.take (((IntKind.i64.wrap (((a2.length : Nat) : Int) + (3 : Int)))).toNat) a0).length : Nat) : Int))) (gd (0 ≤ y44_1 ∧ y44_1 < (((List.take (((IntKind.i64.wrap (((a2.length : Nat) : Int) + (3 : Int)))).toNat) a0).length : Nat) : Int)) (cond (decide ((((rd (List.take (((IntKind.i64.wrap (((a2.length : Nat) : Int) + (3 : Int)))).toNat) a0) y44_1).toNat : Nat) : Int) ≠ ((a3.toNat : Nat) : Int))) (some (.r false)) (f29_l44 a2 a0 a3 k (IntKind.i64.wrap (y44_1 + (1 : Int)))))) (some (.b0 ()))
def f29 (k : Nat) (a0 : (List UInt8)) (a1 : Nat) (a2 : (List UInt8)) (a3 : UInt8) : Option Bool := (f83 k (List.take a1 a0) a2).bind fun r11 => cond (!r11) (some false) (cond (decide (((a0.length : Nat) : Int) < (IntKind.i64.wrap (((a2.length : Nat) : Int) + (3 : Int))))) (some false) (gd (0 ≤ (IntKind.i64.wrap (((a2.length : Nat) : Int) + (3 : Int))) ∧ (IntKind.i64.wrap (((a2.length : Nat) : Int) + (3 : Int))) ≤ ((a0.length : Nat) : Int)) ((f29_l44 a2 a0 a3 k ((a2.length : Nat) : Int)).bind fun o44 => match o44 with | .b0 () => some true | .r x => some x | _ => none)))
theorem F29 {P : Program} {N : Nat → Nat} (hmix : P.follows .mixedOrders = true) (hc : HC29 P N) {k : Nat} {a0 : (List UInt8)} {a1 : Nat} {a2 : (List UInt8)} {a3 : UInt8} {r : Bool} (h : f29 k a0 a1 a2 a3 = some r) :
    ACalls P (N 29) [(.win (List.map byteD a0) a1), (.d (.sl (List.map byteD a2))), (.d (.int .u8 ((a3.toNat : Nat) : Int)))] [] (.d (.bool r)) [] := by
  refine acalls_canon (F := C29 N) hc.1 0 0 rfl ?_
  unfold f29 at h
  dsimp only [C29, startL]
  refine AWc.seq ?_
  refine AWc.rg hmix rfl rfl ?_
  refine RegV.p0 rfl rfl rfl ?_
  refine RegV.nil0 ?_
  refine AWc.seq ?_
  refine AWc.seq ?_
  refine AWc.rg hmix rfl rfl ?_
  refine RegV.p0 rfl rfl rfl ?_
  refine RegV.p0 rfl rfl rfl ?_
  obtain ⟨r11, e11, h⟩ := bind_some h
  refine RegV.call0 (F83 hmix hc.2 e11) rfl rfl rfl rfl (.cons .win (.cons (.refl _) .nil)) rfl ?_
  refine RegV.p0 (v := (.d (.bool (!r11)))) rfl rfl rfl ?_
  refine RegV.p0 rfl rfl rfl ?_
  refine RegV.split (fun c13 => ?_) (fun c13 => ?_)
  · have h := cond_pos c13 h
    refine RegV.noS rfl rfl ?_
    refine RegV.noS rfl rfl ?_
    refine RegV.noS rfl rfl ?_
    refine RegV.noS rfl rfl ?_
    refine RegV.noS rfl rfl ?_
    refine RegV.noS rfl rfl ?_
    refine RegV.p0 rfl rfl rfl ?_
    refine RegV.nil0 ?_
    refine AWc.cond rfl (fun _ => ?_) (fun hc => by cases hc)
    refine AWc.seq ?_
    refine AWc.rg hmix rfl rfl ?_
    refine RegV.p0 rfl rfl rfl ?_
    refine RegV.nil0 ?_
    have hr := Option.some.inj h
    subst hr
    exact AWc.ret (canQ (N := 40) (k := 0) (l' := [(6, (.d (.bool false)))]) (H' := []) rfl ⟨rfl, [], [], rfl, rfl, ⟨⟨_, rfl, (.refl _)⟩, rfl, trivial⟩,  trivial⟩ (doneA (.inr rfl) rfl ⟨trivial, trivial⟩ (.refl _) hasNil))
  · have h := cond_neg c13 h
    refine RegV.p0 rfl rfl rfl ?_
    refine RegV.capW (ys := a0) (e := byteD) rfl rfl rfl ?_
    refine RegV.p0 rfl rfl rfl ?_
    refine RegV.len (xs := a2) (e := byteD) rfl rfl rfl rfl ?_
    refine RegV.p0 (v := (.d (.int .i64 (IntKind.i64.wrap (((a2.length : Nat) : Int) + (3 : Int)))))) rfl rfl rfl ?_
    refine RegV.p0 (v := (.d (.bool (decide (((a0.length : Nat) : Int) < (IntKind.i64.wrap (((a2.length : Nat) : Int) + (3 : Int)))))))) rfl rfl rfl ?_
    refine RegV.p0 rfl rfl rfl ?_
    refine RegV.nil0 ?_
    refine AWc.cond rfl (fun c21 => ?_) (fun c21 => ?_)
    · have h := cond_pos c21 h
      refine AWc.seq ?_
      refine AWc.rg hmix rfl rfl ?_
      refine RegV.p0 rfl rfl rfl ?_
      refine RegV.nil0 ?_
      have hr := Option.some.inj h
      subst hr
      exact AWc.ret (canQ (N := 40) (k := 0) (l' := [(6, (.d (.bool false)))]) (H' := []) rfl ⟨rfl, [], [], rfl, rfl, ⟨⟨_, rfl, (.refl _)⟩, rfl, trivial⟩,  trivial⟩ (doneA (.inr rfl) rfl ⟨trivial, trivial⟩ (.refl _) hasNil))
    · have h := cond_neg c21 h
      refine AWc.skip ?_
      refine AWc.seq ?_
      refine AWc.rg hmix rfl rfl ?_
      refine RegV.p0 rfl rfl rfl ?_
      refine RegV.p0 rfl rfl rfl ?_
      refine RegV.len (xs := a2) (e := byteD) rfl rfl rfl rfl ?_
      refine RegV.p0 (v := (.d (.int .i64 (IntKind.i64.wrap (((a2.length : Nat) : Int) + (3 : Int)))))) rfl rfl rfl ?_
      obtain ⟨b35, h⟩ := gd_some h
      refine RegV.slW (ys := a0) (e := byteD) (hi := (IntKind.i64.wrap (((a2.length : Nat) : Int) + (3 : Int)))) rfl rfl rfl b35 rfl ?_
      refine RegV.p0 rfl rfl rfl ?_
      refine RegV.nil0 ?_
      refine AWc.seq ?_
      refine AWc.seq ?_
      refine AWc.rg hmix rfl rfl ?_
      refine RegV.p0 rfl rfl rfl ?_
      refine RegV.len (xs := a2) (e := byteD) rfl rfl rfl rfl ?_
      refine RegV.p0 rfl rfl rfl ?_
      refine RegV.nil0 ?_
      obtain ⟨o44, h44, h⟩ := bind_some h
      refine AWc.block ?_
      refine AWc.loopK (N := 40) 0 (fun (x : Int) => [(2, (.d (.int .u8 ((a3.toNat : Nat) : Int)))), (7, (.win (List.map byteD a0) (((IntKind.i64.wrap (((a2.length : Nat) : Int) + (3 : Int)))).toNat))), (8, (.d (.int .i64 x)))]) (fun x => []) (fun k x => f29_l44 a2 a0 a3 k x = some o44) k ((a2.length : Nat) : Int) rfl_le (fun x hx => by cases hx) h44 ⟨rfl, [], [], rfl, rfl, ⟨⟨_, rfl, (.refl _)⟩, rfl, ⟨⟨_, rfl, (.refl _)⟩, rfl, ⟨⟨_, rfl, (.refl _)⟩, rfl, trivial⟩⟩⟩,  trivial⟩ ?_
      clear h44
      intro k
      intro y44_1 h44
      rw [f29_l44] at h44
      refine AWc.seq ?_
      refine AWc.seq ?_
      refine AWc.rg hmix rfl rfl ?_
      refine RegV.p0 rfl rfl rfl ?_
      refine RegV.p0 rfl rfl rfl ?_
      refine RegV.len (xs := (List.take (((IntKind.i64.wrap (((a2.length : Nat) : Int) + (3 : Int)))).toNat) a0)) (e := byteD) rfl rfl (toSlW _ _) rfl ?_
      refine RegV.p0 (v := (.d (.bool (decide (y44_1 < (((List.take (((IntKind.i64.wrap (((a2.length : Nat) : Int) + (3 : Int)))).toNat) a0).length : Nat) : Int)))))) rfl rfl rfl ?_
      refine RegV.nil0 ?_
      refine AWc.cond rfl (fun c54 => ?_) (fun c54 => ?_)
      · have h44 := cond_pos c54 h44
        refine AWc.skip ?_
        refine AWc.seq ?_
        refine AWc.block ?_
        refine AWc.seq ?_
        refine AWc.rg hmix rfl rfl ?_
        refine RegV.p0 rfl rfl rfl ?_
        refine RegV.p0 rfl rfl rfl ?_
        obtain ⟨b64, h44⟩ := gd_some h44
        refine RegV.iad (xs := (List.take (((IntKind.i64.wrap (((a2.length : Nat) : Int) + (3 : Int)))).toNat) a0)) (e := byteD) rfl rfl (toSlW _ _) rfl (fun _ => rfl) b64 rfl ?_
        refine RegV.p0 (v := (.d (.int .u8 (((rd (List.take (((IntKind.i64.wrap (((a2.length : Nat) : Int) + (3 : Int)))).toNat) a0) y44_1).toNat : Nat) : Int)))) rfl rfl rfl ?_
        refine RegV.p0 rfl rfl rfl ?_
        refine RegV.p0 (v := (.d (.bool (decide ((((rd (List.take (((IntKind.i64.wrap (((a2.length : Nat) : Int) + (3 : Int)))).toNat) a0) y44_1).toNat : Nat) : Int) ≠ ((a3.toNat : Nat) : Int)))))) rfl rfl rfl ?_
        refine RegV.nil0 ?_
        refine AWc.cond rfl (fun c68 => ?_) (fun c68 => ?_)
        · have h44 := cond_pos c68 h44
          refine AWc.seq ?_
          refine AWc.rg hmix rfl rfl ?_
          refine RegV.p0 rfl rfl rfl ?_
          refine RegV.nil0 ?_
          cases h44
          dsimp only at h
          have hr := Option.some.inj h
          subst hr
          exact AWc.ret (canQ (N := 40) (k := 0) (l' := [(6, (.d (.bool false)))]) (H' := []) rfl ⟨rfl, [], [], rfl, rfl, ⟨⟨_, rfl, (.refl _)⟩, rfl, trivial⟩,  trivial⟩ (doneA (.inr rfl) rfl ⟨trivial, trivial⟩ (.refl _) hasNil))
        · have h44 := cond_neg c68 h44
          refine AWc.skip ?_
          refine AWc.rg hmix rfl rfl ?_
          refine RegV.p0 rfl rfl rfl ?_
          refine RegV.p0 (v := (.d (.int .i64 (IntKind.i64.wrap (y44_1 + (1 : Int)))))) rfl rfl rfl ?_
          refine RegV.p0 rfl rfl rfl ?_
          refine RegV.nil0 ?_
          exact ⟨(IntKind.i64.wrap (y44_1 + (1 : Int))), h44, ⟨rfl, [], [], rfl, rfl, ⟨⟨_, rfl, (.refl _)⟩, rfl, ⟨⟨_, rfl, (.refl _)⟩, rfl, ⟨⟨_, rfl, (.refl _)⟩, rfl, trivial⟩⟩⟩,  trivial⟩⟩
      · have h44 := cond_neg c54 h44
        cases h44
        dsimp only at h
        refine AWc.exit ?_
        refine inBlk_eq ?_
        refine AWc.seq ?_
        refine AWc.rg hmix rfl rfl ?_
        refine RegV.p0 rfl rfl rfl ?_
        refine RegV.nil0 ?_
        have hr := Option.some.inj h
        subst hr
        exact AWc.ret (canQ (N := 40) (k := 0) (l' := [(6, (.d (.bool true)))]) (H' := []) rfl ⟨rfl, [], [], rfl, rfl, ⟨⟨_, rfl, (.refl _)⟩, rfl, trivial⟩,  trivial⟩ (doneA (.inr rfl) rfl ⟨trivial, trivial⟩ (.refl _) hasNil))
/-- courant/courantlaw27.RequestBytes -/
def C13 (N : Nat → Nat) : AFunc := { n := 80, params := 2, res := [.tmp 4], body :=
 (.seq (.region false [⟨(some 2), .box (.t 0), none, []⟩,
   ⟨(some 4), .mv (.k (.d (.bool false))), none, []⟩])
  (.seq (.seq (.region false [⟨(some 11), .faddr (.t 2) 10, none, []⟩,
     ⟨(some 12), .load (.t 11) 1 false, none, [0]⟩,
     ⟨(some 13), .len (.t 12), none, [1]⟩,
     ⟨(some 14), .faddr (.t 2) 1, none, []⟩,
     ⟨(some 15), .load (.t 14) 1 false, none, [3]⟩,
     ⟨(some 16), .slen (.t 15), none, [4]⟩,
     ⟨(some 17), .bin .add (.t 13) (.t 16), none, [2, 5]⟩,
     ⟨(some 18), .faddr (.t 2) 2, none, []⟩,
     ⟨(some 19), .load (.t 18) 1 false, none, [7]⟩,
     ⟨(some 20), .slen (.t 19), none, [8]⟩,
     ⟨(some 21), .bin .add (.t 17) (.t 20), none, [6, 9]⟩,
     ⟨(some 22), .faddr (.t 2) 3, none, []⟩,
     ⟨(some 23), .load (.t 22) 1 false, none, [11]⟩,
     ⟨(some 24), .slen (.t 23), none, [12]⟩,
     ⟨(some 25), .bin .add (.t 21) (.t 24), none, [10, 13]⟩,
     ⟨(some 26), .bin .gtr (.t 25) (.k (.d (.int .i64 30000))), none, [14]⟩,
     ⟨(some 27), .mv (.t 26), none, [15]⟩,
     ⟨(some 28), .mv (.t 1), (some (27, false)), [16]⟩,
     ⟨(some 29), .len (.t 28), (some (27, false)), [17, 16]⟩,
     ⟨(some 30), .bin .gtr (.t 29) (.k (.d (.int .i64 30000))), (some (27, false)), [18, 16]⟩,
     ⟨(some 31), .pick (.t 27) (.k (.d (.bool true))) (.t 30), none, [16, 19]⟩])
    (.cond (.t 31) (.seq (.region false [⟨(some 32), .call (.k (.d (.fn (N 56)))) [], none, []⟩,
       ⟨(some 4), .mv (.t 32), none, [0]⟩])
      .ret)
     (.skip)))
   (.seq (.region true [⟨(some 33), .load (.t 2) 11 true, none, []⟩,
     ⟨(some 34), .mv (.t 1), none, []⟩,
     ⟨(some 35), .call (.k (.d (.fn (N 21)))) [(.t 34), (.k (.d (.int .u8 71)))], none, [1]⟩,
     ⟨(some 5), .alloc [(.int .i64 0), (.str []), (.str []), (.str []), (.int .i64 0), (.int .i64 0), (.int .u64 0), (.int .u64 0), (.int .u64 0), (.int .i64 0), (.sl [])], none, []⟩,
     ⟨none, .store (.t 5) (.t 33) 11, none, [3, 0, 2]⟩,
     ⟨(some 6), .mv (.t 35), none, [2, 4, 0, 1, 3]⟩])
    (.seq (.region false [⟨(some 36), .faddr (.t 2) 10, none, []⟩,
      ⟨(some 37), .load (.t 36) 1 false, none, [0]⟩,
      ⟨(some 38), .call (.k (.d (.fn (N 21)))) [(.t 37), (.k (.d (.int .u8 71)))], none, [1]⟩,
      ⟨(some 39), .faddr (.t 5) 10, none, [0, 1, 2]⟩,
      ⟨none, .store (.t 39) (.t 38) 1, none, [3, 2, 0, 1]⟩])
     (.seq (.region false [⟨(some 41), .mv (.t 6), none, []⟩,
       ⟨(some 42), .call (.k (.d (.fn (N 57)))) [(.t 41)], none, [0]⟩,
       ⟨(some 40), .mv (.t 42), none, [1]⟩,
       ⟨(some 43), .ext (.t 40) 0, none, [2]⟩,
       ⟨(some 44), .ext (.t 40) 1, none, [2]⟩,
       ⟨(some 7), .alloc [(.int .i64 0), (.str []), (.str []), (.str []), (.int .i64 0), (.int .i64 0), (.int .u64 0), (.int .u64 0), (.int .u64 0), (.int .i64 0), (.sl [])], none, []⟩,
       ⟨none, .store (.t 7) (.t 43) 11, none, [5, 3, 1, 0, 2]⟩,
       ⟨(some 8), .mv (.t 44), none, [4, 6, 0, 1, 2, 3, 5]⟩])
      (.seq (.region false [⟨(some 46), .mv (.t 1), none, []⟩,
        ⟨(some 47), .call (.k (.d (.fn (N 58)))) [(.t 46)], none, [0]⟩,
        ⟨(some 45), .mv (.t 47), none, [1]⟩,
        ⟨(some 48), .ext (.t 45) 0, none, [2]⟩,
        ⟨(some 49), .ext (.t 45) 1, none, [2]⟩,
        ⟨(some 9), .alloc [(.int .i64 0), (.str []), (.str []), (.str []), (.int .i64 0), (.int .i64 0), (.int .u64 0), (.int .u64 0), (.int .u64 0), (.int .i64 0), (.sl [])], none, []⟩,
        ⟨none, .store (.t 9) (.t 48) 11, none, [5, 3, 1, 0, 2]⟩,
        ⟨(some 10), .mv (.t 49), none, [4, 6, 0, 1, 2, 3, 5]⟩])
       (.seq (.region true [⟨(some 50), .call (.k (.d (.fn (N 56)))) [], none, []⟩,
         ⟨(some 51), .mv (.t 50), none, [0]⟩,
         ⟨(some 52), .load (.t 5) 11 true, (some (51, true)), [1]⟩,
         ⟨(some 53), .call (.k (.d (.fn (N 59)))) [(.t 52)], (some (51, true)), [2, 1]⟩,
         ⟨(some 54), .load (.t 2) 11 true, (some (51, true)), [1]⟩,
         ⟨(some 55), .call (.k (.d (.fn (N 60)))) [(.t 54)], (some (51, true)), [4, 3, 1]⟩,
         ⟨(some 56), .call (.k (.d (.fn (N 22)))) [(.t 53), (.t 55)], (some (51, true)), [3, 5, 1]⟩,
         ⟨(some 57), .pick (.t 51) (.t 56) (.k (.d (.bool false))), none, [1, 6]⟩,
         ⟨(some 58), .mv (.t 57), none, [7, 6]⟩,
         ⟨(some 59), .load (.t 7) 11 true, (some (58, true)), [8]⟩,
         ⟨(some 60), .load (.t 9) 11 true, (some (58, true)), [8]⟩,
         ⟨(some 61), .call (.k (.d (.fn (N 61)))) [(.t 59), (.t 60)], (some (58, true)), [9, 10, 8]⟩,
         ⟨(some 62), .pick (.t 58) (.t 61) (.k (.d (.bool false))), none, [8, 11]⟩,
         ⟨(some 63), .mv (.t 62), none, [12, 11]⟩,
         ⟨(some 64), .mv (.t 8), (some (63, true)), [13]⟩,
         ⟨(some 65), .mv (.t 10), (some (63, true)), [13]⟩,
         ⟨(some 66), .bin .eql (.t 64) (.t 65), (some (63, true)), [14, 15, 13]⟩,
         ⟨(some 67), .pick (.t 63) (.t 66) (.k (.d (.bool false))), none, [13, 16]⟩,
         ⟨(some 68), .mv (.t 67), none, [17, 13]⟩,
         ⟨(some 69), .faddr (.t 5) 10, (some (68, true)), [18]⟩,
         ⟨(some 70), .load (.t 69) 1 false, (some (68, true)), [19, 18]⟩,
         ⟨(some 71), .faddr (.t 2) 10, (some (68, true)), [18]⟩,
         ⟨(some 72), .load (.t 71) 1 false, (some (68, true)), [21, 18]⟩,
         ⟨(some 73), .call (.k (.d (.fn (N 29)))) [(.t 70), (.t 72), (.k (.d (.int .u8 71)))], (some (68, true)), [20, 22, 18]⟩,
         ⟨(some 74), .pick (.t 68) (.t 73) (.k (.d (.bool false))), none, [18, 23]⟩,
         ⟨(some 75), .mv (.t 74), none, [24, 23]⟩,
         ⟨(some 76), .mv (.t 6), (some (75, true)), [25]⟩,
         ⟨(some 77), .mv (.t 1), (some (75, true)), [25]⟩,
         ⟨(some 78), .call (.k (.d (.fn (N 29)))) [(.t 76), (.t 77), (.k (.d (.int .u8 71)))], (some (75, true)), [26, 27, 25]⟩,
         ⟨(some 79), .pick (.t 75) (.t 78) (.k (.d (.bool false))), none, [25, 28]⟩,
         ⟨(some 4), .mv (.t 79), none, [29, 28, 0, 1, 2, 3, 4, 5, 6, 7, 8, 9, 10, 11, 12, 13, 14, 15, 16, 17, 18, 19, 20, 21, 22, 23, 24, 25, 26, 27]⟩])
        .ret))))))) }
def HC13 (P : Program) (N : Nat → Nat) : Prop := HasF P (N 13) (C13 N) ∧ HC56 P N ∧ HC21 P N ∧ HC57 P N ∧ HC58 P N ∧ HC59 P N ∧ HC60 P N ∧ HC22 P N ∧ HC61 P N ∧ HC29 P N
def f13 (k : Nat) (a0 : TRequest) (a1 : (List UInt8)) : Option Bool := cond (decide ((IntKind.i64.wrap ((IntKind.i64.wrap ((IntKind.i64.wrap (((a0.fData.length : Nat) : Int) + ((a0.fName.length : Nat) : Int))) + ((a0.fText.length : Nat) : Int))) + ((a0.fGroup.length : Nat) : Int))) > (30000 : Int))) ((f56 k).bind fun r35 => some r35) (cond (decide (((a1.length : Nat) : Int) > (30000 : Int))) ((f56 k).bind fun r35 => some r35) ((f21 k a1 (71 : UInt8)).bind fun r44 => (f21 k a0.fData (71 : UInt8)).bind fun r53 => (f57 k (List.take (((0 : Int)).toNat + a1.length) r44)).bind fun r60 => (f58 k a1).bind fun r71 => (f56 k).bind fun r81 => cond r81 ((f59 k (TRequest.mk a0.fKind a0.fName a0.fText a0.fGroup a0.fN a0.fVersion a0.fProducer a0.fSeq a0.fOffset a0.fMost (List.take (((0 : Int)).toNat + a0.fData.length) r53))).bind fun r84 => (f60 k (TRequest.mk a0.fKind a0.fName a0.fText a0.fGroup a0.fN a0.fVersion a0.fProducer a0.fSeq a0.fOffset a0.fMost a0.fData)).bind fun r86 => (f22 k r84 r86).bind fun r87 => cond (decide (r84 = r86)) ((f61 k (TRequest.mk r60.2.1 r60.2.2.1 r60.2.2.2.1 r60.2.2.2.2.1 r60.2.2.2.2.2.1 r60.2.2.2.2.2.2.1 r60.2.2.2.2.2.2.2.1 r60.2.2.2.2.2.2.2.2.1 r60.2.2.2.2.2.2.2.2.2.1 r60.2.2.2.2.2.2.2.2.2.2.1 r60.2.2.2.2.2.2.2.2.2.2.2) (TRequest.mk r71.2.1 r71.2.2.1 r71.2.2.2.1 r71.2.2.2.2.1 r71.2.2.2.2.2.1 r71.2.2.2.2.2.2.1 r71.2.2.2.2.2.2.2.1 r71.2.2.2.2.2.2.2.2.1 r71.2.2.2.2.2.2.2.2.2.1 r71.2.2.2.2.2.2.2.2.2.2.1 r71.2.2.2.2.2.2.2.2.2.2.2)).bind fun r92 => cond r92 (cond (decide (r60.1 = r71.1)) ((f29 k r53 (((0 : Int)).toNat + a0.fData.length) a0.fData (71 : UInt8)).bind fun r104 => cond r104 ((f29 k r44 (((0 : Int)).toNat + a1.length) a1 (71 : UInt8)).bind fun r109 => some r109) (some false)) (some false)) (some false)) (some false)) (some false)))
theorem F13 {P : Program} {N : Nat → Nat} (hmix : P.follows .mixedOrders = true) (hc : HC13 P N) {k : Nat} {a0 : TRequest} {a1 : (List UInt8)} {r : Bool} (h : f13 k a0 a1 = some r) :
    ACalls P (N 13) [(.d (TRequest.enc a0)), (.d (.sl (List.map byteD a1)))] [] (.d (.bool r)) [] := by
  refine acalls_canon (F := C13 N) hc.1 0 0 rfl ?_
  unfold f13 at h
  dsimp only [C13, startL]
  refine AWc.seq ?_
  refine AWc.rg hmix rfl rfl ?_
  refine RegV.evS (own := false) (v := (.ptr 0 0)) (H' := [(0, (.cells [(.d (.int .i64 a0.fKind)), (.d (.str a0.fName)), (.d (.str a0.fText)), (.d (.str a0.fGroup)), (.d (.int .i64 a0.fN)), (.d (.int .i64 a0.fVersion)), (.d (.int .u64 a0.fProducer)), (.d (.int .u64 a0.fSeq)), (.d (.int .u64 a0.fOffset)), (.d (.int .i64 a0.fMost)), (.d (.sl (List.map byteD a0.fData)))]))]) (c' := 1) rfl rfl trivial rfl rfl rfl rfl rfl rfl ?_
  refine RegV.p0 rfl rfl rfl ?_
  refine RegV.nil0 ?_
  refine AWc.seq ?_
  refine AWc.seq ?_
  refine AWc.rg hmix rfl rfl ?_
  refine RegV.p0 (v := (.ptr 0 10)) rfl rfl rfl ?_
  refine RegV.ld (v := (.d (.sl (List.map byteD a0.fData)))) (H' := [(0, (.cells [(.d (.int .i64 a0.fKind)), (.d (.str a0.fName)), (.d (.str a0.fText)), (.d (.str a0.fGroup)), (.d (.int .i64 a0.fN)), (.d (.int .i64 a0.fVersion)), (.d (.int .u64 a0.fProducer)), (.d (.int .u64 a0.fSeq)), (.d (.int .u64 a0.fOffset)), (.d (.int .i64 a0.fMost)), (.d (.sl (List.map byteD a0.fData)))]))]) rfl rfl trivial rfl rfl rfl rfl rfl ?_
  refine RegV.len (xs := a0.fData) (e := byteD) rfl rfl rfl rfl ?_
  refine RegV.p0 (v := (.ptr 0 1)) rfl rfl rfl ?_
  refine RegV.ld (v := (.d (.str a0.fName))) (H' := [(0, (.cells [(.d (.int .i64 a0.fKind)), (.d (.str a0.fName)), (.d (.str a0.fText)), (.d (.str a0.fGroup)), (.d (.int .i64 a0.fN)), (.d (.int .i64 a0.fVersion)), (.d (.int .u64 a0.fProducer)), (.d (.int .u64 a0.fSeq)), (.d (.int .u64 a0.fOffset)), (.d (.int .i64 a0.fMost)), (.d (.sl (List.map byteD a0.fData)))]))]) rfl rfl trivial rfl rfl rfl rfl rfl ?_
  refine RegV.p0 (v := (.d (.int .i64 ((a0.fName.length : Nat) : Int)))) rfl rfl rfl ?_
  refine RegV.p0 (v := (.d (.int .i64 (IntKind.i64.wrap (((a0.fData.length : Nat) : Int) + ((a0.fName.length : Nat) : Int)))))) rfl rfl rfl ?_
  refine RegV.p0 (v := (.ptr 0 2)) rfl rfl rfl ?_
  refine RegV.ld (v := (.d (.str a0.fText))) (H' := [(0, (.cells [(.d (.int .i64 a0.fKind)), (.d (.str a0.fName)), (.d (.str a0.fText)), (.d (.str a0.fGroup)), (.d (.int .i64 a0.fN)), (.d (.int .i64 a0.fVersion)), (.d (.int .u64 a0.fProducer)), (.d (.int .u64 a0.fSeq)), (.d (.int .u64 a0.fOffset)), (.d (.int .i64 a0.fMost)), (.d (.sl (List.map byteD a0.fData)))]))]) rfl rfl trivial rfl rfl rfl rfl rfl ?_
  refine RegV.p0 (v := (.d (.int .i64 ((a0.fText.length : Nat) : Int)))) rfl rfl rfl ?_
  refine RegV.p0 (v := (.d (.int .i64 (IntKind.i64.wrap ((IntKind.i64.wrap (((a0.fData.length : Nat) : Int) + ((a0.fName.length : Nat) : Int))) + ((a0.fText.length : Nat) : Int)))))) rfl rfl rfl ?_
  refine RegV.p0 (v := (.ptr 0 3)) rfl rfl rfl ?_
  refine RegV.ld (v := (.d (.str a0.fGroup))) (H' := [(0, (.cells [(.d (.int .i64 a0.fKind)), (.d (.str a0.fName)), (.d (.str a0.fText)), (.d (.str a0.fGroup)), (.d (.int .i64 a0.fN)), (.d (.int .i64 a0.fVersion)), (.d (.int .u64 a0.fProducer)), (.d (.int .u64 a0.fSeq)), (.d (.int .u64 a0.fOffset)), (.d (.int .i64 a0.fMost)), (.d (.sl (List.map byteD a0.fData)))]))]) rfl rfl trivial rfl rfl rfl rfl rfl ?_
  refine RegV.p0 (v := (.d (.int .i64 ((a0.fGroup.length : Nat) : Int)))) rfl rfl rfl ?_
  refine RegV.p0 (v := (.d (.int .i64 (IntKind.i64.wrap ((IntKind.i64.wrap ((IntKind.i64.wrap (((a0.fData.length : Nat) : Int) + ((a0.fName.length : Nat) : Int))) + ((a0.fText.length : Nat) : Int))) + ((a0.fGroup.length : Nat) : Int)))))) rfl rfl rfl ?_
  refine RegV.p0 (v := (.d (.bool (decide ((IntKind.i64.wrap ((IntKind.i64.wrap ((IntKind.i64.wrap (((a0.fData.length : Nat) : Int) + ((a0.fName.length : Nat) : Int))) + ((a0.fText.length : Nat) : Int))) + ((a0.fGroup.length : Nat) : Int))) > (30000 : Int)))))) rfl rfl rfl ?_
  refine RegV.p0 rfl rfl rfl ?_
  refine RegV.split (fun c26 => ?_) (fun c26 => ?_)
  · have h := cond_pos c26 h
    refine RegV.noS rfl rfl ?_
    refine RegV.noS rfl rfl ?_
    refine RegV.noS rfl rfl ?_
    refine RegV.p0 rfl rfl rfl ?_
    refine RegV.nil0 ?_
    refine AWc.cond rfl (fun _ => ?_) (fun hc => by cases hc)
    refine AWc.seq ?_
    refine AWc.rg hmix rfl rfl ?_
    obtain ⟨r35, e35, h⟩ := bind_some h
    refine RegV.call0 (F56 hmix hc.2.1 e35) rfl rfl rfl rfl .nil rfl ?_
    refine RegV.p0 rfl rfl rfl ?_
    refine RegV.nil0 ?_
    have hr := Option.some.inj h
    subst hr
    exact AWc.ret (canQ (N := 80) (k := 0) (l' := [(4, (.d (.bool r35)))]) (H' := []) rfl ⟨rfl, [], [], rfl, rfl, ⟨⟨_, rfl, (.refl _)⟩, rfl, trivial⟩,  trivial⟩ (doneA (.inr rfl) rfl ⟨trivial, trivial⟩ (.refl _) hasNil))
  · have h := cond_neg c26 h
    refine RegV.p0 rfl rfl rfl ?_
    refine RegV.len (xs := a1) (e := byteD) rfl rfl rfl rfl ?_
    refine RegV.p0 (v := (.d (.bool (decide (((a1.length : Nat) : Int) > (30000 : Int)))))) rfl rfl rfl ?_
    refine RegV.p0 rfl rfl rfl ?_
    refine RegV.nil0 ?_
    refine AWc.cond rfl (fun c31 => ?_) (fun c31 => ?_)
    · have h := cond_pos c31 h
      refine AWc.seq ?_
      refine AWc.rg hmix rfl rfl ?_
      obtain ⟨r35, e35, h⟩ := bind_some h
      refine RegV.call0 (F56 hmix hc.2.1 e35) rfl rfl rfl rfl .nil rfl ?_
      refine RegV.p0 rfl rfl rfl ?_
      refine RegV.nil0 ?_
      have hr := Option.some.inj h
      subst hr
      exact AWc.ret (canQ (N := 80) (k := 0) (l' := [(4, (.d (.bool r35)))]) (H' := []) rfl ⟨rfl, [], [], rfl, rfl, ⟨⟨_, rfl, (.refl _)⟩, rfl, trivial⟩,  trivial⟩ (doneA (.inr rfl) rfl ⟨trivial, trivial⟩ (.refl _) hasNil))
    · have h := cond_neg c31 h
      refine AWc.skip ?_
      refine AWc.seq ?_
      refine AWc.rg hmix rfl rfl ?_
      refine RegV.ld (v := (.d (.agg [(.int .i64 a0.fKind), (.str a0.fName), (.str a0.fText), (.str a0.fGroup), (.int .i64 a0.fN), (.int .i64 a0.fVersion), (.int .u64 a0.fProducer), (.int .u64 a0.fSeq), (.int .u64 a0.fOffset), (.int .i64 a0.fMost), (.sl (List.map byteD a0.fData))]))) (H' := [(0, (.cells [(.d (.int .i64 a0.fKind)), (.d (.str a0.fName)), (.d (.str a0.fText)), (.d (.str a0.fGroup)), (.d (.int .i64 a0.fN)), (.d (.int .i64 a0.fVersion)), (.d (.int .u64 a0.fProducer)), (.d (.int .u64 a0.fSeq)), (.d (.int .u64 a0.fOffset)), (.d (.int .i64 a0.fMost)), (.d (.sl (List.map byteD a0.fData)))]))]) rfl rfl (Nat.le_of_ble_eq_true rfl) rfl rfl rfl rfl rfl ?_
      refine RegV.p0 rfl rfl rfl ?_
      obtain ⟨r44, e44, h⟩ := bind_some h
      refine RegV.call0 (F21 hmix hc.2.2.1 e44) rfl rfl rfl rfl (.cons (.refl _) (.cons (.refl _) .nil)) rfl ?_
      refine RegV.evS (own := false) (v := (.ptr 1 0)) (H' := [(1, (.cells [(.d (.int .i64 (0 : Int))), (.d (.str ([] : List UInt8))), (.d (.str ([] : List UInt8))), (.d (.str ([] : List UInt8))), (.d (.int .i64 (0 : Int))), (.d (.int .i64 (0 : Int))), (.d (.int .u64 (0 : Int))), (.d (.int .u64 (0 : Int))), (.d (.int .u64 (0 : Int))), (.d (.int .i64 (0 : Int))), .nils])), (0, (.cells [(.d (.int .i64 a0.fKind)), (.d (.str a0.fName)), (.d (.str a0.fText)), (.d (.str a0.fGroup)), (.d (.int .i64 a0.fN)), (.d (.int .i64 a0.fVersion)), (.d (.int .u64 a0.fProducer)), (.d (.int .u64 a0.fSeq)), (.d (.int .u64 a0.fOffset)), (.d (.int .i64 a0.fMost)), (.d (.sl (List.map byteD a0.fData)))]))]) (c' := 2) rfl rfl trivial rfl rfl rfl rfl rfl rfl ?_
      refine RegV.evN (own := false) (H' := [(1, (.cells [(.d (.int .i64 a0.fKind)), (.d (.str a0.fName)), (.d (.str a0.fText)), (.d (.str a0.fGroup)), (.d (.int .i64 a0.fN)), (.d (.int .i64 a0.fVersion)), (.d (.int .u64 a0.fProducer)), (.d (.int .u64 a0.fSeq)), (.d (.int .u64 a0.fOffset)), (.d (.int .i64 a0.fMost)), (.d (.sl (List.map byteD a0.fData)))])), (0, (.cells [(.d (.int .i64 a0.fKind)), (.d (.str a0.fName)), (.d (.str a0.fText)), (.d (.str a0.fGroup)), (.d (.int .i64 a0.fN)), (.d (.int .i64 a0.fVersion)), (.d (.int .u64 a0.fProducer)), (.d (.int .u64 a0.fSeq)), (.d (.int .u64 a0.fOffset)), (.d (.int .i64 a0.fMost)), (.d (.sl (List.map byteD a0.fData)))]))]) (c' := 2) rfl rfl (by exact ⟨rfl, Nat.le_of_ble_eq_true rfl, rfl⟩) rfl rfl rfl rfl ?_
      refine RegV.p0 rfl rfl rfl ?_
      refine RegV.nil1 (by kernel_rfl) ?_
      refine AWc.seq ?_
      refine AWc.rg hmix rfl rfl ?_
      refine RegV.p0 (v := (.ptr 0 10)) rfl rfl rfl ?_
      refine RegV.ld (v := (.d (.sl (List.map byteD a0.fData)))) (H' := [(0, (.cells [(.d (.int .i64 a0.fKind)), (.d (.str a0.fName)), (.d (.str a0.fText)), (.d (.str a0.fGroup)), (.d (.int .i64 a0.fN)), (.d (.int .i64 a0.fVersion)), (.d (.int .u64 a0.fProducer)), (.d (.int .u64 a0.fSeq)), (.d (.int .u64 a0.fOffset)), (.d (.int .i64 a0.fMost)), (.d (.sl (List.map byteD a0.fData)))])), (1, (.cells [(.d (.int .i64 a0.fKind)), (.d (.str a0.fName)), (.d (.str a0.fText)), (.d (.str a0.fGroup)), (.d (.int .i64 a0.fN)), (.d (.int .i64 a0.fVersion)), (.d (.int .u64 a0.fProducer)), (.d (.int .u64 a0.fSeq)), (.d (.int .u64 a0.fOffset)), (.d (.int .i64 a0.fMost)), (.d (.sl (List.map byteD a0.fData)))]))]) rfl rfl trivial rfl rfl rfl rfl rfl ?_
      obtain ⟨r53, e53, h⟩ := bind_some h
      refine RegV.call0 (F21 hmix hc.2.2.1 e53) rfl rfl rfl rfl (.cons (.refl _) (.cons (.refl _) .nil)) rfl ?_
      refine RegV.p0 (v := (.ptr 1 10)) rfl rfl rfl ?_
      refine RegV.evN (own := false) (H' := [(1, (.cells [(.d (.int .i64 a0.fKind)), (.d (.str a0.fName)), (.d (.str a0.fText)), (.d (.str a0.fGroup)), (.d (.int .i64 a0.fN)), (.d (.int .i64 a0.fVersion)), (.d (.int .u64 a0.fProducer)), (.d (.int .u64 a0.fSeq)), (.d (.int .u64 a0.fOffset)), (.d (.int .i64 a0.fMost)), (.win (List.map byteD r53) (((0 : Int)).toNat + a0.fData.length))])), (0, (.cells [(.d (.int .i64 a0.fKind)), (.d (.str a0.fName)), (.d (.str a0.fText)), (.d (.str a0.fGroup)), (.d (.int .i64 a0.fN)), (.d (.int .i64 a0.fVersion)), (.d (.int .u64 a0.fProducer)), (.d (.int .u64 a0.fSeq)), (.d (.int .u64 a0.fOffset)), (.d (.int .i64 a0.fMost)), (.d (.sl (List.map byteD a0.fData)))]))]) (c' := 2) rfl rfl (by exact ⟨rfl, Nat.le_of_ble_eq_true rfl, rfl⟩) rfl rfl rfl rfl ?_
      refine RegV.nil0 ?_
      refine AWc.seq ?_
      refine AWc.rg hmix rfl rfl ?_
      refine RegV.p0 rfl rfl rfl ?_
      obtain ⟨r60, e60, h⟩ := bind_some h
      refine RegV.call0 (F57 hmix hc.2.2.2.1 e60) rfl rfl rfl rfl (.cons .win .nil) rfl ?_
      refine RegV.p0 rfl rfl rfl ?_
      refine RegV.p0 rfl rfl rfl ?_
      refine RegV.p0 rfl rfl rfl ?_
      refine RegV.evS (own := false) (v := (.ptr 2 0)) (H' := [(2, (.cells [(.d (.int .i64 (0 : Int))), (.d (.str ([] : List UInt8))), (.d (.str ([] : List UInt8))), (.d (.str ([] : List UInt8))), (.d (.int .i64 (0 : Int))), (.d (.int .i64 (0 : Int))), (.d (.int .u64 (0 : Int))), (.d (.int .u64 (0 : Int))), (.d (.int .u64 (0 : Int))), (.d (.int .i64 (0 : Int))), .nils])), (1, (.cells [(.d (.int .i64 a0.fKind)), (.d (.str a0.fName)), (.d (.str a0.fText)), (.d (.str a0.fGroup)), (.d (.int .i64 a0.fN)), (.d (.int .i64 a0.fVersion)), (.d (.int .u64 a0.fProducer)), (.d (.int .u64 a0.fSeq)), (.d (.int .u64 a0.fOffset)), (.d (.int .i64 a0.fMost)), (.win (List.map byteD r53) (((0 : Int)).toNat + a0.fData.length))])), (0, (.cells [(.d (.int .i64 a0.fKind)), (.d (.str a0.fName)), (.d (.str a0.fText)), (.d (.str a0.fGroup)), (.d (.int .i64 a0.fN)), (.d (.int .i64 a0.fVersion)), (.d (.int .u64 a0.fProducer)), (.d (.int .u64 a0.fSeq)), (.d (.int .u64 a0.fOffset)), (.d (.int .i64 a0.fMost)), (.d (.sl (List.map byteD a0.fData)))]))]) (c' := 3) rfl rfl trivial rfl rfl rfl rfl rfl rfl ?_
      refine RegV.evN (own := false) (H' := [(2, (.cells [(.d (.int .i64 r60.2.1)), (.d (.str r60.2.2.1)), (.d (.str r60.2.2.2.1)), (.d (.str r60.2.2.2.2.1)), (.d (.int .i64 r60.2.2.2.2.2.1)), (.d (.int .i64 r60.2.2.2.2.2.2.1)), (.d (.int .u64 r60.2.2.2.2.2.2.2.1)), (.d (.int .u64 r60.2.2.2.2.2.2.2.2.1)), (.d (.int .u64 r60.2.2.2.2.2.2.2.2.2.1)), (.d (.int .i64 r60.2.2.2.2.2.2.2.2.2.2.1)), (.d (.sl (List.map byteD r60.2.2.2.2.2.2.2.2.2.2.2)))])), (1, (.cells [(.d (.int .i64 a0.fKind)), (.d (.str a0.fName)), (.d (.str a0.fText)), (.d (.str a0.fGroup)), (.d (.int .i64 a0.fN)), (.d (.int .i64 a0.fVersion)), (.d (.int .u64 a0.fProducer)), (.d (.int .u64 a0.fSeq)), (.d (.int .u64 a0.fOffset)), (.d (.int .i64 a0.fMost)), (.win (List.map byteD r53) (((0 : Int)).toNat + a0.fData.length))])), (0, (.cells [(.d (.int .i64 a0.fKind)), (.d (.str a0.fName)), (.d (.str a0.fText)), (.d (.str a0.fGroup)), (.d (.int .i64 a0.fN)), (.d (.int .i64 a0.fVersion)), (.d (.int .u64 a0.fProducer)), (.d (.int .u64 a0.fSeq)), (.d (.int .u64 a0.fOffset)), (.d (.int .i64 a0.fMost)), (.d (.sl (List.map byteD a0.fData)))]))]) (c' := 3) rfl rfl (by exact ⟨rfl, Nat.le_of_ble_eq_true rfl, rfl⟩) rfl rfl rfl rfl ?_
      refine RegV.p0 rfl rfl rfl ?_
      refine RegV.nil0 ?_
      refine AWc.seq ?_
      refine AWc.rg hmix rfl rfl ?_
      refine RegV.p0 rfl rfl rfl ?_
      obtain ⟨r71, e71, h⟩ := bind_some h
      refine RegV.call0 (F58 hmix hc.2.2.2.2.1 e71) rfl rfl rfl rfl (.cons (.refl _) .nil) rfl ?_
      refine RegV.p0 rfl rfl rfl ?_
      refine RegV.p0 rfl rfl rfl ?_
      refine RegV.p0 rfl rfl rfl ?_
      refine RegV.evS (own := false) (v := (.ptr 3 0)) (H' := [(3, (.cells [(.d (.int .i64 (0 : Int))), (.d (.str ([] : List UInt8))), (.d (.str ([] : List UInt8))), (.d (.str ([] : List UInt8))), (.d (.int .i64 (0 : Int))), (.d (.int .i64 (0 : Int))), (.d (.int .u64 (0 : Int))), (.d (.int .u64 (0 : Int))), (.d (.int .u64 (0 : Int))), (.d (.int .i64 (0 : Int))), .nils])), (2, (.cells [(.d (.int .i64 r60.2.1)), (.d (.str r60.2.2.1)), (.d (.str r60.2.2.2.1)), (.d (.str r60.2.2.2.2.1)), (.d (.int .i64 r60.2.2.2.2.2.1)), (.d (.int .i64 r60.2.2.2.2.2.2.1)), (.d (.int .u64 r60.2.2.2.2.2.2.2.1)), (.d (.int .u64 r60.2.2.2.2.2.2.2.2.1)), (.d (.int .u64 r60.2.2.2.2.2.2.2.2.2.1)), (.d (.int .i64 r60.2.2.2.2.2.2.2.2.2.2.1)), (.d (.sl (List.map byteD r60.2.2.2.2.2.2.2.2.2.2.2)))])), (1, (.cells [(.d (.int .i64 a0.fKind)), (.d (.str a0.fName)), (.d (.str a0.fText)), (.d (.str a0.fGroup)), (.d (.int .i64 a0.fN)), (.d (.int .i64 a0.fVersion)), (.d (.int .u64 a0.fProducer)), (.d (.int .u64 a0.fSeq)), (.d (.int .u64 a0.fOffset)), (.d (.int .i64 a0.fMost)), (.win (List.map byteD r53) (((0 : Int)).toNat + a0.fData.length))])), (0, (.cells [(.d (.int .i64 a0.fKind)), (.d (.str a0.fName)), (.d (.str a0.fText)), (.d (.str a0.fGroup)), (.d (.int .i64 a0.fN)), (.d (.int .i64 a0.fVersion)), (.d (.int .u64 a0.fProducer)), (.d (.int .u64 a0.fSeq)), (.d (.int .u64 a0.fOffset)), (.d (.int .i64 a0.fMost)), (.d (.sl (List.map byteD a0.fData)))]))]) (c' := 4) rfl rfl trivial rfl rfl rfl rfl rfl rfl ?_
      refine RegV.evN (own := false) (H' := [(3, (.cells [(.d (.int .i64 r71.2.1)), (.d (.str r71.2.2.1)), (.d (.str r71.2.2.2.1)), (.d (.str r71.2.2.2.2.1)), (.d (.int .i64 r71.2.2.2.2.2.1)), (.d (.int .i64 r71.2.2.2.2.2.2.1)), (.d (.int .u64 r71.2.2.2.2.2.2.2.1)), (.d (.int .u64 r71.2.2.2.2.2.2.2.2.1)), (.d (.int .u64 r71.2.2.2.2.2.2.2.2.2.1)), (.d (.int .i64 r71.2.2.2.2.2.2.2.2.2.2.1)), (.d (.sl (List.map byteD r71.2.2.2.2.2.2.2.2.2.2.2)))])), (2, (.cells [(.d (.int .i64 r60.2.1)), (.d (.str r60.2.2.1)), (.d (.str r60.2.2.2.1)), (.d (.str r60.2.2.2.2.1)), (.d (.int .i64 r60.2.2.2.2.2.1)), (.d (.int .i64 r60.2.2.2.2.2.2.1)), (.d (.int .u64 r60.2.2.2.2.2.2.2.1)), (.d (.int .u64 r60.2.2.2.2.2.2.2.2.1)), (.d (.int .u64 r60.2.2.2.2.2.2.2.2.2.1)), (.d (.int .i64 r60.2.2.2.2.2.2.2.2.2.2.1)), (.d (.sl (List.map byteD r60.2.2.2.2.2.2.2.2.2.2.2)))])), (1, (.cells [(.d (.int .i64 a0.fKind)), (.d (.str a0.fName)), (.d (.str a0.fText)), (.d (.str a0.fGroup)), (.d (.int .i64 a0.fN)), (.d (.int .i64 a0.fVersion)), (.d (.int .u64 a0.fProducer)), (.d (.int .u64 a0.fSeq)), (.d (.int .u64 a0.fOffset)), (.d (.int .i64 a0.fMost)), (.win (List.map byteD r53) (((0 : Int)).toNat + a0.fData.length))])), (0, (.cells [(.d (.int .i64 a0.fKind)), (.d (.str a0.fName)), (.d (.str a0.fText)), (.d (.str a0.fGroup)), (.d (.int .i64 a0.fN)), (.d (.int .i64 a0.fVersion)), (.d (.int .u64 a0.fProducer)), (.d (.int .u64 a0.fSeq)), (.d (.int .u64 a0.fOffset)), (.d (.int .i64 a0.fMost)), (.d (.sl (List.map byteD a0.fData)))]))]) (c' := 4) rfl rfl (by exact ⟨rfl, Nat.le_of_ble_eq_true rfl, rfl⟩) rfl rfl rfl rfl ?_
      refine RegV.p0 rfl rfl rfl ?_
      refine RegV.nil0 ?_
      refine AWc.seq ?_
      refine AWc.rg hmix rfl rfl ?_
      obtain ⟨r81, e81, h⟩ := bind_some h
      refine RegV.call0 (F56 hmix hc.2.1 e81) rfl rfl rfl rfl .nil rfl ?_
      refine RegV.p0 rfl rfl rfl ?_
      refine RegV.split (fun c82 => ?_) (fun c82 => ?_)
      · have h := cond_pos c82 h
        refine RegV.ld (v := (.d (.agg [(.int .i64 a0.fKind), (.str a0.fName), (.str a0.fText), (.str a0.fGroup), (.int .i64 a0.fN), (.int .i64 a0.fVersion), (.int .u64 a0.fProducer), (.int .u64 a0.fSeq), (.int .u64 a0.fOffset), (.int .i64 a0.fMost), (.sl (List.take (((0 : Int)).toNat + a0.fData.length) (List.map byteD r53)))]))) (v' := (.d (.agg [(.int .i64 a0.fKind), (.str a0.fName), (.str a0.fText), (.str a0.fGroup), (.int .i64 a0.fN), (.int .i64 a0.fVersion), (.int .u64 a0.fProducer), (.int .u64 a0.fSeq), (.int .u64 a0.fOffset), (.int .i64 a0.fMost), (.sl (List.map byteD (List.take (((0 : Int)).toNat + a0.fData.length) r53)))]))) (H' := [(1, (.cells [(.d (.int .i64 a0.fKind)), (.d (.str a0.fName)), (.d (.str a0.fText)), (.d (.str a0.fGroup)), (.d (.int .i64 a0.fN)), (.d (.int .i64 a0.fVersion)), (.d (.int .u64 a0.fProducer)), (.d (.int .u64 a0.fSeq)), (.d (.int .u64 a0.fOffset)), (.d (.int .i64 a0.fMost)), (.win (List.map byteD r53) (((0 : Int)).toNat + a0.fData.length))])), (3, (.cells [(.d (.int .i64 r71.2.1)), (.d (.str r71.2.2.1)), (.d (.str r71.2.2.2.1)), (.d (.str r71.2.2.2.2.1)), (.d (.int .i64 r71.2.2.2.2.2.1)), (.d (.int .i64 r71.2.2.2.2.2.2.1)), (.d (.int .u64 r71.2.2.2.2.2.2.2.1)), (.d (.int .u64 r71.2.2.2.2.2.2.2.2.1)), (.d (.int .u64 r71.2.2.2.2.2.2.2.2.2.1)), (.d (.int .i64 r71.2.2.2.2.2.2.2.2.2.2.1)), (.d (.sl (List.map byteD r71.2.2.2.2.2.2.2.2.2.2.2)))])), (2, (.cells [(.d (.int .i64 r60.2.1)), (.d (.str r60.2.2.1)), (.d (.str r60.2.2.2.1)), (.d (.str r60.2.2.2.2.1)), (.d (.int .i64 r60.2.2.2.2.2.1)), (.d (.int .i64 r60.2.2.2.2.2.2.1)), (.d (.int .u64 r60.2.2.2.2.2.2.2.1)), (.d (.int .u64 r60.2.2.2.2.2.2.2.2.1)), (.d (.int .u64 r60.2.2.2.2.2.2.2.2.2.1)), (.d (.int .i64 r60.2.2.2.2.2.2.2.2.2.2.1)), (.d (.sl (List.map byteD r60.2.2.2.2.2.2.2.2.2.2.2)))])), (0, (.cells [(.d (.int .i64 a0.fKind)), (.d (.str a0.fName)), (.d (.str a0.fText)), (.d (.str a0.fGroup)), (.d (.int .i64 a0.fN)), (.d (.int .i64 a0.fVersion)), (.d (.int .u64 a0.fProducer)), (.d (.int .u64 a0.fSeq)), (.d (.int .u64 a0.fOffset)), (.d (.int .i64 a0.fMost)), (.d (.sl (List.map byteD a0.fData)))]))]) rfl rfl (Nat.le_of_ble_eq_true rfl) rfl (by simp only [List.map_take]) rfl rfl rfl ?_
        obtain ⟨r84, e84, h⟩ := bind_some h
        refine RegV.callS (q := false) (H' := [(4, (.tok ((List.map byteD r84).length * 1))), (1, (.cells [(.d (.int .i64 a0.fKind)), (.d (.str a0.fName)), (.d (.str a0.fText)), (.d (.str a0.fGroup)), (.d (.int .i64 a0.fN)), (.d (.int .i64 a0.fVersion)), (.d (.int .u64 a0.fProducer)), (.d (.int .u64 a0.fSeq)), (.d (.int .u64 a0.fOffset)), (.d (.int .i64 a0.fMost)), (.win (List.map byteD r53) (((0 : Int)).toNat + a0.fData.length))])), (3, (.cells [(.d (.int .i64 r71.2.1)), (.d (.str r71.2.2.1)), (.d (.str r71.2.2.2.1)), (.d (.str r71.2.2.2.2.1)), (.d (.int .i64 r71.2.2.2.2.2.1)), (.d (.int .i64 r71.2.2.2.2.2.2.1)), (.d (.int .u64 r71.2.2.2.2.2.2.2.1)), (.d (.int .u64 r71.2.2.2.2.2.2.2.2.1)), (.d (.int .u64 r71.2.2.2.2.2.2.2.2.2.1)), (.d (.int .i64 r71.2.2.2.2.2.2.2.2.2.2.1)), (.d (.sl (List.map byteD r71.2.2.2.2.2.2.2.2.2.2.2)))])), (2, (.cells [(.d (.int .i64 r60.2.1)), (.d (.str r60.2.2.1)), (.d (.str r60.2.2.2.1)), (.d (.str r60.2.2.2.2.1)), (.d (.int .i64 r60.2.2.2.2.2.1)), (.d (.int .i64 r60.2.2.2.2.2.2.1)), (.d (.int .u64 r60.2.2.2.2.2.2.2.1)), (.d (.int .u64 r60.2.2.2.2.2.2.2.2.1)), (.d (.int .u64 r60.2.2.2.2.2.2.2.2.2.1)), (.d (.int .i64 r60.2.2.2.2.2.2.2.2.2.2.1)), (.d (.sl (List.map byteD r60.2.2.2.2.2.2.2.2.2.2.2)))])), (0, (.cells [(.d (.int .i64 a0.fKind)), (.d (.str a0.fName)), (.d (.str a0.fText)), (.d (.str a0.fGroup)), (.d (.int .i64 a0.fN)), (.d (.int .i64 a0.fVersion)), (.d (.int .u64 a0.fProducer)), (.d (.int .u64 a0.fSeq)), (.d (.int .u64 a0.fOffset)), (.d (.int .i64 a0.fMost)), (.d (.sl (List.map byteD a0.fData)))]))]) (c' := 5) (show ACalls P (N 59) [(.d (TRequest.enc (TRequest.mk a0.fKind a0.fName a0.fText a0.fGroup a0.fN a0.fVersion a0.fProducer a0.fSeq a0.fOffset a0.fMost (List.take (((0 : Int)).toNat + a0.fData.length) r53))))] [] (.ap 4 1 (List.map byteD r84)) [(4, (.tok ((List.map byteD r84).length * 1)))] from ACalls.use (F59 hmix hc.2.2.2.2.2.1 e84) [(0, 4)] 1 rfl) rfl rfl rfl rfl (.cons (.refl _) .nil) (.refl _) (fun h => by cases h) rfl hasNil rfl rfl rfl rfl ?_
        refine RegV.ld (v := (.d (.agg [(.int .i64 a0.fKind), (.str a0.fName), (.str a0.fText), (.str a0.fGroup), (.int .i64 a0.fN), (.int .i64 a0.fVersion), (.int .u64 a0.fProducer), (.int .u64 a0.fSeq), (.int .u64 a0.fOffset), (.int .i64 a0.fMost), (.sl (List.map byteD a0.fData))]))) (H' := [(0, (.cells [(.d (.int .i64 a0.fKind)), (.d (.str a0.fName)), (.d (.str a0.fText)), (.d (.str a0.fGroup)), (.d (.int .i64 a0.fN)), (.d (.int .i64 a0.fVersion)), (.d (.int .u64 a0.fProducer)), (.d (.int .u64 a0.fSeq)), (.d (.int .u64 a0.fOffset)), (.d (.int .i64 a0.fMost)), (.d (.sl (List.map byteD a0.fData)))])), (4, (.tok ((List.map byteD r84).length * 1))), (1, (.cells [(.d (.int .i64 a0.fKind)), (.d (.str a0.fName)), (.d (.str a0.fText)), (.d (.str a0.fGroup)), (.d (.int .i64 a0.fN)), (.d (.int .i64 a0.fVersion)), (.d (.int .u64 a0.fProducer)), (.d (.int .u64 a0.fSeq)), (.d (.int .u64 a0.fOffset)), (.d (.int .i64 a0.fMost)), (.win (List.map byteD r53) (((0 : Int)).toNat + a0.fData.length))])), (3, (.cells [(.d (.int .i64 r71.2.1)), (.d (.str r71.2.2.1)), (.d (.str r71.2.2.2.1)), (.d (.str r71.2.2.2.2.1)), (.d (.int .i64 r71.2.2.2.2.2.1)), (.d (.int .i64 r71.2.2.2.2.2.2.1)), (.d (.int .u64 r71.2.2.2.2.2.2.2.1)), (.d (.int .u64 r71.2.2.2.2.2.2.2.2.1)), (.d (.int .u64 r71.2.2.2.2.2.2.2.2.2.1)), (.d (.int .i64 r71.2.2.2.2.2.2.2.2.2.2.1)), (.d (.sl (List.map byteD r71.2.2.2.2.2.2.2.2.2.2.2)))])), (2, (.cells [(.d (.int .i64 r60.2.1)), (.d (.str r60.2.2.1)), (.d (.str r60.2.2.2.1)), (.d (.str r60.2.2.2.2.1)), (.d (.int .i64 r60.2.2.2.2.2.1)), (.d (.int .i64 r60.2.2.2.2.2.2.1)), (.d (.int .u64 r60.2.2.2.2.2.2.2.1)), (.d (.int .u64 r60.2.2.2.2.2.2.2.2.1)), (.d (.int .u64 r60.2.2.2.2.2.2.2.2.2.1)), (.d (.int .i64 r60.2.2.2.2.2.2.2.2.2.2.1)), (.d (.sl (List.map byteD r60.2.2.2.2.2.2.2.2.2.2.2)))]))]) rfl rfl (Nat.le_of_ble_eq_true rfl) rfl rfl rfl rfl rfl ?_
        obtain ⟨r86, e86, h⟩ := bind_some h
        refine RegV.callS (q := false) (H' := [(5, (.tok ((List.map byteD r86).length * 1))), (0, (.cells [(.d (.int .i64 a0.fKind)), (.d (.str a0.fName)), (.d (.str a0.fText)), (.d (.str a0.fGroup)), (.d (.int .i64 a0.fN)), (.d (.int .i64 a0.fVersion)), (.d (.int .u64 a0.fProducer)), (.d (.int .u64 a0.fSeq)), (.d (.int .u64 a0.fOffset)), (.d (.int .i64 a0.fMost)), (.d (.sl (List.map byteD a0.fData)))])), (4, (.tok ((List.map byteD r84).length * 1))), (1, (.cells [(.d (.int .i64 a0.fKind)), (.d (.str a0.fName)), (.d (.str a0.fText)), (.d (.str a0.fGroup)), (.d (.int .i64 a0.fN)), (.d (.int .i64 a0.fVersion)), (.d (.int .u64 a0.fProducer)), (.d (.int .u64 a0.fSeq)), (.d (.int .u64 a0.fOffset)), (.d (.int .i64 a0.fMost)), (.win (List.map byteD r53) (((0 : Int)).toNat + a0.fData.length))])), (3, (.cells [(.d (.int .i64 r71.2.1)), (.d (.str r71.2.2.1)), (.d (.str r71.2.2.2.1)), (.d (.str r71.2.2.2.2.1)), (.d (.int .i64 r71.2.2.2.2.2.1)), (.d (.int .i64 r71.2.2.2.2.2.2.1)), (.d (.int .u64 r71.2.2.2.2.2.2.2.1)), (.d (.int .u64 r71.2.2.2.2.2.2.2.2.1)), (.d (.int .u64 r71.2.2.2.2.2.2.2.2.2.1)), (.d (.int .i64 r71.2.2.2.2.2.2.2.2.2.2.1)), (.d (.sl (List.map byteD r71.2.2.2.2.2.2.2.2.2.2.2)))])), (2, (.cells [(.d (.int .i64 r60.2.1)), (.d (.str r60.2.2.1)), (.d (.str r60.2.2.2.1)), (.d (.str r60.2.2.2.2.1)), (.d (.int .i64 r60.2.2.2.2.2.1)), (.d (.int .i64 r60.2.2.2.2.2.2.1)), (.d (.int .u64 r60.2.2.2.2.2.2.2.1)), (.d (.int .u64 r60.2.2.2.2.2.2.2.2.1)), (.d (.int .u64 r60.2.2.2.2.2.2.2.2.2.1)), (.d (.int .i64 r60.2.2.2.2.2.2.2.2.2.2.1)), (.d (.sl (List.map byteD r60.2.2.2.2.2.2.2.2.2.2.2)))]))]) (c' := 6) (show ACalls P (N 60) [(.d (TRequest.enc (TRequest.mk a0.fKind a0.fName a0.fText a0.fGroup a0.fN a0.fVersion a0.fProducer a0.fSeq a0.fOffset a0.fMost a0.fData)))] [] (.ap 5 1 (List.map byteD r86)) [(5, (.tok ((List.map byteD r86).length * 1)))] from ACalls.use (F60 hmix hc.2.2.2.2.2.2.1 e86) [(0, 5)] 1 rfl) rfl rfl rfl rfl (.cons (.refl _) .nil) (.refl _) (fun h => by cases h) rfl hasNil rfl rfl rfl rfl ?_
        obtain ⟨r87, e87, h⟩ := bind_some h
        refine RegV.call0 (F22 hmix hc.2.2.2.2.2.2.2.1 e87) rfl rfl rfl rfl (.cons (.sl rfl) (.cons (.sl rfl) .nil)) rfl ?_
        refine RegV.p0 rfl rfl rfl ?_
        refine RegV.p0 rfl rfl rfl ?_
        refine RegV.split (fun c89 => ?_) (fun c89 => ?_)
        · have h := cond_pos c89 h
          refine RegV.ld (v := (.d (.agg [(.int .i64 r60.2.1), (.str r60.2.2.1), (.str r60.2.2.2.1), (.str r60.2.2.2.2.1), (.int .i64 r60.2.2.2.2.2.1), (.int .i64 r60.2.2.2.2.2.2.1), (.int .u64 r60.2.2.2.2.2.2.2.1), (.int .u64 r60.2.2.2.2.2.2.2.2.1), (.int .u64 r60.2.2.2.2.2.2.2.2.2.1), (.int .i64 r60.2.2.2.2.2.2.2.2.2.2.1), (.sl (List.map byteD r60.2.2.2.2.2.2.2.2.2.2.2))]))) (H' := [(2, (.cells [(.d (.int .i64 r60.2.1)), (.d (.str r60.2.2.1)), (.d (.str r60.2.2.2.1)), (.d (.str r60.2.2.2.2.1)), (.d (.int .i64 r60.2.2.2.2.2.1)), (.d (.int .i64 r60.2.2.2.2.2.2.1)), (.d (.int .u64 r60.2.2.2.2.2.2.2.1)), (.d (.int .u64 r60.2.2.2.2.2.2.2.2.1)), (.d (.int .u64 r60.2.2.2.2.2.2.2.2.2.1)), (.d (.int .i64 r60.2.2.2.2.2.2.2.2.2.2.1)), (.d (.sl (List.map byteD r60.2.2.2.2.2.2.2.2.2.2.2)))])), (5, (.tok ((List.map byteD r86).length * 1))), (0, (.cells [(.d (.int .i64 a0.fKind)), (.d (.str a0.fName)), (.d (.str a0.fText)), (.d (.str a0.fGroup)), (.d (.int .i64 a0.fN)), (.d (.int .i64 a0.fVersion)), (.d (.int .u64 a0.fProducer)), (.d (.int .u64 a0.fSeq)), (.d (.int .u64 a0.fOffset)), (.d (.int .i64 a0.fMost)), (.d (.sl (List.map byteD a0.fData)))])), (4, (.tok ((List.map byteD r84).length * 1))), (1, (.cells [(.d (.int .i64 a0.fKind)), (.d (.str a0.fName)), (.d (.str a0.fText)), (.d (.str a0.fGroup)), (.d (.int .i64 a0.fN)), (.d (.int .i64 a0.fVersion)), (.d (.int .u64 a0.fProducer)), (.d (.int .u64 a0.fSeq)), (.d (.int .u64 a0.fOffset)), (.d (.int .i64 a0.fMost)), (.win (List.map byteD r53) (((0 : Int)).toNat + a0.fData.length))])), (3, (.cells [(.d (.int .i64 r71.2.1)), (.d (.str r71.2.2.1)), (.d (.str r71.2.2.2.1)), (.d (.str r71.2.2.2.2.1)), (.d (.int .i64 r71.2.2.2.2.2.1)), (.d (.int .i64 r71.2.2.2.2.2.2.1)), (.d (.int .u64 r71.2.2.2.2.2.2.2.1)), (.d (.int .u64 r71.2.2.2.2.2.2.2.2.1)), (.d (.int .u64 r71.2.2.2.2.2.2.2.2.2.1)), (.d (.int .i64 r71.2.2.2.2.2.2.2.2.2.2.1)), (.d (.sl (List.map byteD r71.2.2.2.2.2.2.2.2.2.2.2)))]))]) rfl rfl (Nat.le_of_ble_eq_true rfl) rfl rfl rfl rfl rfl ?_
          refine RegV.ld (v := (.d (.agg [(.int .i64 r71.2.1), (.str r71.2.2.1), (.str r71.2.2.2.1), (.str r71.2.2.2.2.1), (.int .i64 r71.2.2.2.2.2.1), (.int .i64 r71.2.2.2.2.2.2.1), (.int .u64 r71.2.2.2.2.2.2.2.1), (.int .u64 r71.2.2.2.2.2.2.2.2.1), (.int .u64 r71.2.2.2.2.2.2.2.2.2.1), (.int .i64 r71.2.2.2.2.2.2.2.2.2.2.1), (.sl (List.map byteD r71.2.2.2.2.2.2.2.2.2.2.2))]))) (H' := [(3, (.cells [(.d (.int .i64 r71.2.1)), (.d (.str r71.2.2.1)), (.d (.str r71.2.2.2.1)), (.d (.str r71.2.2.2.2.1)), (.d (.int .i64 r71.2.2.2.2.2.1)), (.d (.int .i64 r71.2.2.2.2.2.2.1)), (.d (.int .u64 r71.2.2.2.2.2.2.2.1)), (.d (.int .u64 r71.2.2.2.2.2.2.2.2.1)), (.d (.int .u64 r71.2.2.2.2.2.2.2.2.2.1)), (.d (.int .i64 r71.2.2.2.2.2.2.2.2.2.2.1)), (.d (.sl (List.map byteD r71.2.2.2.2.2.2.2.2.2.2.2)))])), (2, (.cells [(.d (.int .i64 r60.2.1)), (.d (.str r60.2.2.1)), (.d (.str r60.2.2.2.1)), (.d (.str r60.2.2.2.2.1)), (.d (.int .i64 r60.2.2.2.2.2.1)), (.d (.int .i64 r60.2.2.2.2.2.2.1)), (.d (.int .u64 r60.2.2.2.2.2.2.2.1)), (.d (.int .u64 r60.2.2.2.2.2.2.2.2.1)), (.d (.int .u64 r60.2.2.2.2.2.2.2.2.2.1)), (.d (.int .i64 r60.2.2.2.2.2.2.2.2.2.2.1)), (.d (.sl (List.map byteD r60.2.2.2.2.2.2.2.2.2.2.2)))])), (5, (.tok ((List.map byteD r86).length * 1))), (0, (.cells [(.d (.int .i64 a0.fKind)), (.d (.str a0.fName)), (.d (.str a0.fText)), (.d (.str a0.fGroup)), (.d (.int .i64 a0.fN)), (.d (.int .i64 a0.fVersion)), (.d (.int .u64 a0.fProducer)), (.d (.int .u64 a0.fSeq)), (.d (.int .u64 a0.fOffset)), (.d (.int .i64 a0.fMost)), (.d (.sl (List.map byteD a0.fData)))])), (4, (.tok ((List.map byteD r84).length * 1))), (1, (.cells [(.d (.int .i64 a0.fKind)), (.d (.str a0.fName)), (.d (.str a0.fText)), (.d (.str a0.fGroup)), (.d (.int .i64 a0.fN)), (.d (.int .i64 a0.fVersion)), (.d (.int .u64 a0.fProducer)), (.d (.int .u64 a0.fSeq)), (.d (.int .u64 a0.fOffset)), (.d (.int .i64 a0.fMost)), (.win (List.map byteD r53) (((0 : Int)).toNat + a0.fData.length))]))]) rfl rfl (Nat.le_of_ble_eq_true rfl) rfl rfl rfl rfl rfl ?_
          obtain ⟨r92, e92, h⟩ := bind_some h
          refine RegV.call0 (F61 hmix hc.2.2.2.2.2.2.2.2.1 e92) rfl rfl rfl rfl (.cons (.refl _) (.cons (.refl _) .nil)) rfl ?_
          refine RegV.p0 rfl rfl rfl ?_
          refine RegV.p0 rfl rfl rfl ?_
          refine RegV.split (fun c94 => ?_) (fun c94 => ?_)
          · have h := cond_pos c94 h
            refine RegV.p0 rfl rfl rfl ?_
            refine RegV.p0 rfl rfl rfl ?_
            refine RegV.p0 (v := (.d (.bool (decide (r60.1 = r71.1))))) rfl rfl rfl ?_
            refine RegV.p0 rfl rfl rfl ?_
            refine RegV.p0 rfl rfl rfl ?_
            refine RegV.split (fun c99 => ?_) (fun c99 => ?_)
            · have h := cond_pos c99 h
              refine RegV.p0 (v := (.ptr 1 10)) rfl rfl rfl ?_
              refine RegV.ld (v := (.win (List.map byteD r53) (((0 : Int)).toNat + a0.fData.length))) (H' := [(1, (.cells [(.d (.int .i64 a0.fKind)), (.d (.str a0.fName)), (.d (.str a0.fText)), (.d (.str a0.fGroup)), (.d (.int .i64 a0.fN)), (.d (.int .i64 a0.fVersion)), (.d (.int .u64 a0.fProducer)), (.d (.int .u64 a0.fSeq)), (.d (.int .u64 a0.fOffset)), (.d (.int .i64 a0.fMost)), (.win (List.map byteD r53) (((0 : Int)).toNat + a0.fData.length))])), (3, (.cells [(.d (.int .i64 r71.2.1)), (.d (.str r71.2.2.1)), (.d (.str r71.2.2.2.1)), (.d (.str r71.2.2.2.2.1)), (.d (.int .i64 r71.2.2.2.2.2.1)), (.d (.int .i64 r71.2.2.2.2.2.2.1)), (.d (.int .u64 r71.2.2.2.2.2.2.2.1)), (.d (.int .u64 r71.2.2.2.2.2.2.2.2.1)), (.d (.int .u64 r71.2.2.2.2.2.2.2.2.2.1)), (.d (.int .i64 r71.2.2.2.2.2.2.2.2.2.2.1)), (.d (.sl (List.map byteD r71.2.2.2.2.2.2.2.2.2.2.2)))])), (2, (.cells [(.d (.int .i64 r60.2.1)), (.d (.str r60.2.2.1)), (.d (.str r60.2.2.2.1)), (.d (.str r60.2.2.2.2.1)), (.d (.int .i64 r60.2.2.2.2.2.1)), (.d (.int .i64 r60.2.2.2.2.2.2.1)), (.d (.int .u64 r60.2.2.2.2.2.2.2.1)), (.d (.int .u64 r60.2.2.2.2.2.2.2.2.1)), (.d (.int .u64 r60.2.2.2.2.2.2.2.2.2.1)), (.d (.int .i64 r60.2.2.2.2.2.2.2.2.2.2.1)), (.d (.sl (List.map byteD r60.2.2.2.2.2.2.2.2.2.2.2)))])), (5, (.tok ((List.map byteD r86).length * 1))), (0, (.cells [(.d (.int .i64 a0.fKind)), (.d (.str a0.fName)), (.d (.str a0.fText)), (.d (.str a0.fGroup)), (.d (.int .i64 a0.fN)), (.d (.int .i64 a0.fVersion)), (.d (.int .u64 a0.fProducer)), (.d (.int .u64 a0.fSeq)), (.d (.int .u64 a0.fOffset)), (.d (.int .i64 a0.fMost)), (.d (.sl (List.map byteD a0.fData)))])), (4, (.tok ((List.map byteD r84).length * 1)))]) rfl rfl trivial rfl rfl rfl rfl rfl ?_
              refine RegV.p0 (v := (.ptr 0 10)) rfl rfl rfl ?_
              refine RegV.ld (v := (.d (.sl (List.map byteD a0.fData)))) (H' := [(0, (.cells [(.d (.int .i64 a0.fKind)), (.d (.str a0.fName)), (.d (.str a0.fText)), (.d (.str a0.fGroup)), (.d (.int .i64 a0.fN)), (.d (.int .i64 a0.fVersion)), (.d (.int .u64 a0.fProducer)), (.d (.int .u64 a0.fSeq)), (.d (.int .u64 a0.fOffset)), (.d (.int .i64 a0.fMost)), (.d (.sl (List.map byteD a0.fData)))])), (1, (.cells [(.d (.int .i64 a0.fKind)), (.d (.str a0.fName)), (.d (.str a0.fText)), (.d (.str a0.fGroup)), (.d (.int .i64 a0.fN)), (.d (.int .i64 a0.fVersion)), (.d (.int .u64 a0.fProducer)), (.d (.int .u64 a0.fSeq)), (.d (.int .u64 a0.fOffset)), (.d (.int .i64 a0.fMost)), (.win (List.map byteD r53) (((0 : Int)).toNat + a0.fData.length))])), (3, (.cells [(.d (.int .i64 r71.2.1)), (.d (.str r71.2.2.1)), (.d (.str r71.2.2.2.1)), (.d (.str r71.2.2.2.2.1)), (.d (.int .i64 r71.2.2.2.2.2.1)), (.d (.int .i64 r71.2.2.2.2.2.2.1)), (.d (.int .u64 r71.2.2.2.2.2.2.2.1)), (.d (.int .u64 r71.2.2.2.2.2.2.2.2.1)), (.d (.int .u64 r71.2.2.2.2.2.2.2.2.2.1)), (.d (.int .i64 r71.2.2.2.2.2.2.2.2.2.2.1)), (.d (.sl (List.map byteD r71.2.2.2.2.2.2.2.2.2.2.2)))])), (2, (.cells [(.d (.int .i64 r60.2.1)), (.d (.str r60.2.2.1)), (.d (.str r60.2.2.2.1)), (.d (.str r60.2.2.2.2.1)), (.d (.int .i64 r60.2.2.2.2.2.1)), (.d (.int .i64 r60.2.2.2.2.2.2.1)), (.d (.int .u64 r60.2.2.2.2.2.2.2.1)), (.d (.int .u64 r60.2.2.2.2.2.2.2.2.1)), (.d (.int .u64 r60.2.2.2.2.2.2.2.2.2.1)), (.d (.int .i64 r60.2.2.2.2.2.2.2.2.2.2.1)), (.d (.sl (List.map byteD r60.2.2.2.2.2.2.2.2.2.2.2)))])), (5, (.tok ((List.map byteD r86).length * 1))), (4, (.tok ((List.map byteD r84).length * 1)))]) rfl rfl trivial rfl rfl rfl rfl rfl ?_
              obtain ⟨r104, e104, h⟩ := bind_some h
              refine RegV.call0 (F29 hmix hc.2.2.2.2.2.2.2.2.2 e104) rfl rfl rfl rfl (.cons (.refl _) (.cons (.refl _) (.cons (.refl _) .nil))) rfl ?_
              refine RegV.p0 rfl rfl rfl ?_
              refine RegV.p0 rfl rfl rfl ?_
              refine RegV.split (fun c106 => ?_) (fun c106 => ?_)
              · have h := cond_pos c106 h
                refine RegV.p0 rfl rfl rfl ?_
                refine RegV.p0 rfl rfl rfl ?_
                obtain ⟨r109, e109, h⟩ := bind_some h
                refine RegV.call0 (F29 hmix hc.2.2.2.2.2.2.2.2.2 e109) rfl rfl rfl rfl (.cons (.refl _) (.cons (.refl _) (.cons (.refl _) .nil))) rfl ?_
                refine RegV.p0 rfl rfl rfl ?_
                refine RegV.p0 rfl rfl rfl ?_
                refine RegV.nil1 (by kernel_rfl) ?_
                have hr := Option.some.inj h
                subst hr
                exact AWc.ret (canQ (N := 80) (k := 0) (l' := [(4, (.d (.bool r109)))]) (H' := []) rfl ⟨rfl, [], [], rfl, rfl, ⟨⟨_, rfl, (.refl _)⟩, rfl, trivial⟩,  trivial⟩ (doneA (.inr rfl) rfl ⟨trivial, trivial⟩ (.refl _) hasNil))
              · have h := cond_neg c106 h
                refine RegV.noS rfl rfl ?_
                refine RegV.noS rfl rfl ?_
                refine RegV.noS rfl rfl ?_
                refine RegV.p0 rfl rfl rfl ?_
                refine RegV.p0 rfl rfl rfl ?_
                refine RegV.nil1 (by kernel_rfl) ?_
                have hr := Option.some.inj h
                subst hr
                exact AWc.ret (canQ (N := 80) (k := 0) (l' := [(4, (.d (.bool false)))]) (H' := []) rfl ⟨rfl, [], [], rfl, rfl, ⟨⟨_, rfl, (.refl _)⟩, rfl, trivial⟩,  trivial⟩ (doneA (.inr rfl) rfl ⟨trivial, trivial⟩ (.refl _) hasNil))
            · have h := cond_neg c99 h
              refine RegV.noS rfl rfl ?_
              refine RegV.noS rfl rfl ?_
              refine RegV.noS rfl rfl ?_
              refine RegV.noS rfl rfl ?_
              refine RegV.noS rfl rfl ?_
              refine RegV.p0 rfl rfl rfl ?_
              refine RegV.p0 rfl rfl rfl ?_
              refine RegV.noS rfl rfl ?_
              refine RegV.noS rfl rfl ?_
              refine RegV.noS rfl rfl ?_
              refine RegV.p0 rfl rfl rfl ?_
              refine RegV.p0 rfl rfl rfl ?_
              refine RegV.nil1 (by kernel_rfl) ?_
              have hr := Option.some.inj h
              subst hr
              exact AWc.ret (canQ (N := 80) (k := 0) (l' := [(4, (.d (.bool false)))]) (H' := []) rfl ⟨rfl, [], [], rfl, rfl, ⟨⟨_, rfl, (.refl _)⟩, rfl, trivial⟩,  trivial⟩ (doneA (.inr rfl) rfl ⟨trivial, trivial⟩ (.refl _) hasNil))
          · have h := cond_neg c94 h
            refine RegV.noS rfl rfl ?_
            refine RegV.noS rfl rfl ?_
            refine RegV.noS rfl rfl ?_
            refine RegV.p0 rfl rfl rfl ?_
            refine RegV.p0 rfl rfl rfl ?_
            refine RegV.noS rfl rfl ?_
            refine RegV.noS rfl rfl ?_
            refine RegV.noS rfl rfl ?_
            refine RegV.noS rfl rfl ?_
            refine RegV.noS rfl rfl ?_
            refine RegV.p0 rfl rfl rfl ?_
            refine RegV.p0 rfl rfl rfl ?_
            refine RegV.noS rfl rfl ?_
            refine RegV.noS rfl rfl ?_
            refine RegV.noS rfl rfl ?_
            refine RegV.p0 rfl rfl rfl ?_
            refine RegV.p0 rfl rfl rfl ?_
            refine RegV.nil1 (by kernel_rfl) ?_
            have hr := Option.some.inj h
            subst hr
            exact AWc.ret (canQ (N := 80) (k := 0) (l' := [(4, (.d (.bool false)))]) (H' := []) rfl ⟨rfl, [], [], rfl, rfl, ⟨⟨_, rfl, (.refl _)⟩, rfl, trivial⟩,  trivial⟩ (doneA (.inr rfl) rfl ⟨trivial, trivial⟩ (.refl _) hasNil))
        · have h := cond_neg c89 h
          refine RegV.noS rfl rfl ?_
          refine RegV.noS rfl rfl ?_
          refine RegV.noS rfl rfl ?_
          refine RegV.p0 rfl rfl rfl ?_
          refine RegV.p0 rfl rfl rfl ?_
          refine RegV.noS rfl rfl ?_
          refine RegV.noS rfl rfl ?_
          refine RegV.noS rfl rfl ?_
          refine RegV.p0 rfl rfl rfl ?_
          refine RegV.p0 rfl rfl rfl ?_
          refine RegV.noS rfl rfl ?_
          refine RegV.noS rfl rfl ?_
          refine RegV.noS rfl rfl ?_
          refine RegV.noS rfl rfl ?_
          refine RegV.noS rfl rfl ?_
          refine RegV.p0 rfl rfl rfl ?_
          refine RegV.p0 rfl rfl rfl ?_
          refine RegV.noS rfl rfl ?_
          refine RegV.noS rfl rfl ?_
          refine RegV.noS rfl rfl ?_
          refine RegV.p0 rfl rfl rfl ?_
          refine RegV.p0 rfl rfl rfl ?_
          refine RegV.nil1 (by kernel_rfl) ?_
          have hr := Option.some.inj h
          subst hr
          exact AWc.ret (canQ (N := 80) (k := 0) (l' := [(4, (.d (.bool false)))]) (H' := []) rfl ⟨rfl, [], [], rfl, rfl, ⟨⟨_, rfl, (.refl _)⟩, rfl, trivial⟩,  trivial⟩ (doneA (.inr rfl) rfl ⟨trivial, trivial⟩ (.refl _) hasNil))
      · have h := cond_neg c82 h
        refine RegV.noS rfl rfl ?_
        refine RegV.noS rfl rfl ?_
        refine RegV.noS rfl rfl ?_
        refine RegV.noS rfl rfl ?_
        refine RegV.noS rfl rfl ?_
        refine RegV.p0 rfl rfl rfl ?_
        refine RegV.p0 rfl rfl rfl ?_
        refine RegV.noS rfl rfl ?_
        refine RegV.noS rfl rfl ?_
        refine RegV.noS rfl rfl ?_
        refine RegV.p0 rfl rfl rfl ?_
        refine RegV.p0 rfl rfl rfl ?_
        refine RegV.noS rfl rfl ?_
        refine RegV.noS rfl rfl ?_
        refine RegV.noS rfl rfl ?_
        refine RegV.p0 rfl rfl rfl ?_
        refine RegV.p0 rfl rfl rfl ?_
        refine RegV.noS rfl rfl ?_
        refine RegV.noS rfl rfl ?_
        refine RegV.noS rfl rfl ?_
        refine RegV.noS rfl rfl ?_
        refine RegV.noS rfl rfl ?_
        refine RegV.p0 rfl rfl rfl ?_
        refine RegV.p0 rfl rfl rfl ?_
        refine RegV.noS rfl rfl ?_
        refine RegV.noS rfl rfl ?_
        refine RegV.noS rfl rfl ?_
        refine RegV.p0 rfl rfl rfl ?_
        refine RegV.p0 rfl rfl rfl ?_
        refine RegV.nil1 (by kernel_rfl) ?_
        have hr := Option.some.inj h
        subst hr
        exact AWc.ret (canQ (N := 80) (k := 0) (l' := [(4, (.d (.bool false)))]) (H' := []) rfl ⟨rfl, [], [], rfl, rfl, ⟨⟨_, rfl, (.refl _)⟩, rfl, trivial⟩,  trivial⟩ (doneA (.inr rfl) rfl ⟨trivial, trivial⟩ (.refl _) hasNil))
end Go.Proofs.Abs
