/-
  No cell of these rows narrows 'for every input' (looked for: loops, veiled, ifaces, maps, wideKeys, modest, calm, conditions, laid).
  DERIVED. THE GIVEN ROWS OF THIS SEAT. 17 by the template 'for every input the law returns true; each argument reads behind the call as it read before'; 0 by the template 'total and deterministic' (their statements: YtojmpoboidomeaaTotals.lean).
  GIVEN WITH THE SEED: the statements are not yours to turn. If you find one false, say at which input.
  Laid BY PROGRAM, IN A SANDBOX (cutbox-rows.mjs): the forced cells as the released guide's own fill.sh prints them over the translation 2fbd64cf38769d10… (all of the seat's roots in one cut). By AI agents, Wed Nov 11 2026. No macro, syntax, notation, axiom, sorry.
-/
import Derived.Test.YtojmpoboidomeaaChecked
import GoSem.Claim
import GoSem.ClaimJoined
import GoSem.ClaimMapViews
import Derived.JoinedTies
import Derived.KernelRfl
namespace Go.Proofs.Ytojmpoboidomeaa
/- THE CELL 'sum', in the pinned program and in every row, IS THE sha256 OF THE DUMP (.gsa) THAT YtojmpoboidomeaaProg.lean LOADS. Nothing in Lean hashes anything: it is a label: what it is worth is what the hold of that sum in a sandbox is worth. -/
noncomputable def Try.pinned : Pinned := { name := "ytojmpoboidomeaa", sum := "2fbd64cf38769d10d4c1a7ab8ed6b61f64680219afaa22300e3e43f4bbe449b0", checked := Try.checked }
namespace Rows
def none {H : Type} : Left H := { results := [], args := [] }

/-- 'courantlaw01.CodeWrites': WHATEVER THE INPUT: true; the input reads as it did. -/
def codeWritesSpec : ChangeSpec := { name := "codeWrites", fn := fun _ => fun
  | [d1, d2, d3] => { results := [.lit (.bool true)], args := [d1, d2, d3] }
  | _ => none }
def codeWritesRow : OpenClaim := { program := "ytojmpoboidomeaa", sum := "2fbd64cf38769d10d4c1a7ab8ed6b61f64680219afaa22300e3e43f4bbe449b0", func := "courant/courantlaw01.CodeWrites", spec := "codeWrites", unfollowed := true, recurses := true, apart := false }
def CodeWritesSaid : Prop := codeWritesRow.holds Try.pinned (OpenSpec.ofChange codeWritesSpec)

/-- ITS FALSE NEIGHBOUR: 'it returns false'. Refute it at one input. -/
def codeWritesWrong : ChangeSpec := { name := "codeWrites", fn := fun _ => fun
  | [d1, d2, d3] => { results := [.lit (.bool false)], args := [d1, d2, d3] }
  | _ => none }
def CodeWritesWrongFalsely : Prop := codeWritesRow.holds Try.pinned (OpenSpec.ofChange codeWritesWrong)

/-- 'courantlaw01.CodeSizes': WHATEVER THE INPUT: true; the input reads as it did. -/
def codeSizesSpec : ChangeSpec := { name := "codeSizes", fn := fun _ => fun
  | [d1, d2, d3] => { results := [.lit (.bool true)], args := [d1, d2, d3] }
  | _ => none }
def codeSizesRow : OpenClaim := { program := "ytojmpoboidomeaa", sum := "2fbd64cf38769d10d4c1a7ab8ed6b61f64680219afaa22300e3e43f4bbe449b0", func := "courant/courantlaw01.CodeSizes", spec := "codeSizes", apart := false }
def CodeSizesSaid : Prop := codeSizesRow.holds Try.pinned (OpenSpec.ofChange codeSizesSpec)

/-- ITS FALSE NEIGHBOUR: 'it returns false'. Refute it at one input. -/
def codeSizesWrong : ChangeSpec := { name := "codeSizes", fn := fun _ => fun
  | [d1, d2, d3] => { results := [.lit (.bool false)], args := [d1, d2, d3] }
  | _ => none }
def CodeSizesWrongFalsely : Prop := codeSizesRow.holds Try.pinned (OpenSpec.ofChange codeSizesWrong)

/-- 'courantlaw24.BatchLooks': WHATEVER THE INPUT: true; the input reads as it did. -/
def batchLooksSpec : ChangeSpec := { name := "batchLooks", fn := fun _ => fun
  | [d1, d2, d3] => { results := [.lit (.bool true)], args := [d1, d2, d3] }
  | _ => none }
def batchLooksRow : OpenClaim := { program := "ytojmpoboidomeaa", sum := "2fbd64cf38769d10d4c1a7ab8ed6b61f64680219afaa22300e3e43f4bbe449b0", func := "courant/courantlaw24.BatchLooks", spec := "batchLooks", unfollowed := true, recurses := true, apart := false }
def BatchLooksSaid : Prop := batchLooksRow.holds Try.pinned (OpenSpec.ofChange batchLooksSpec)

/-- ITS FALSE NEIGHBOUR: 'it returns false'. Refute it at one input. -/
def batchLooksWrong : ChangeSpec := { name := "batchLooks", fn := fun _ => fun
  | [d1, d2, d3] => { results := [.lit (.bool false)], args := [d1, d2, d3] }
  | _ => none }
def BatchLooksWrongFalsely : Prop := batchLooksRow.holds Try.pinned (OpenSpec.ofChange batchLooksWrong)

/-- 'courantlaw24.BatchOnce': WHATEVER THE INPUT: true; the input reads as it did. -/
def batchOnceSpec : ChangeSpec := { name := "batchOnce", fn := fun _ => fun
  | [d1, d2, d3] => { results := [.lit (.bool true)], args := [d1, d2, d3] }
  | _ => none }
def batchOnceRow : OpenClaim := { program := "ytojmpoboidomeaa", sum := "2fbd64cf38769d10d4c1a7ab8ed6b61f64680219afaa22300e3e43f4bbe449b0", func := "courant/courantlaw24.BatchOnce", spec := "batchOnce", unfollowed := true, recurses := true, apart := false }
def BatchOnceSaid : Prop := batchOnceRow.holds Try.pinned (OpenSpec.ofChange batchOnceSpec)

/-- ITS FALSE NEIGHBOUR: 'it returns false'. Refute it at one input. -/
def batchOnceWrong : ChangeSpec := { name := "batchOnce", fn := fun _ => fun
  | [d1, d2, d3] => { results := [.lit (.bool false)], args := [d1, d2, d3] }
  | _ => none }
def BatchOnceWrongFalsely : Prop := batchOnceRow.holds Try.pinned (OpenSpec.ofChange batchOnceWrong)

/-- 'courantlaw24.BatchApart': WHATEVER THE INPUT: true; the input reads as it did. -/
def batchApartSpec : ChangeSpec := { name := "batchApart", fn := fun _ => fun
  | [d1, d2, d3] => { results := [.lit (.bool true)], args := [d1, d2, d3] }
  | _ => none }
def batchApartRow : OpenClaim := { program := "ytojmpoboidomeaa", sum := "2fbd64cf38769d10d4c1a7ab8ed6b61f64680219afaa22300e3e43f4bbe449b0", func := "courant/courantlaw24.BatchApart", spec := "batchApart", unfollowed := true, recurses := true, apart := false }
def BatchApartSaid : Prop := batchApartRow.holds Try.pinned (OpenSpec.ofChange batchApartSpec)

/-- ITS FALSE NEIGHBOUR: 'it returns false'. Refute it at one input. -/
def batchApartWrong : ChangeSpec := { name := "batchApart", fn := fun _ => fun
  | [d1, d2, d3] => { results := [.lit (.bool false)], args := [d1, d2, d3] }
  | _ => none }
def BatchApartWrongFalsely : Prop := batchApartRow.holds Try.pinned (OpenSpec.ofChange batchApartWrong)

/-- 'courantlaw01.CodeNil': WHATEVER THE INPUT: true; the input reads as it did. -/
def codeNilSpec : ChangeSpec := { name := "codeNil", fn := fun _ => fun
  | [d] => { results := [.lit (.bool true)], args := [d] }
  | _ => none }
def codeNilRow : OpenClaim := { program := "ytojmpoboidomeaa", sum := "2fbd64cf38769d10d4c1a7ab8ed6b61f64680219afaa22300e3e43f4bbe449b0", func := "courant/courantlaw01.CodeNil", spec := "codeNil", apart := false }
def CodeNilSaid : Prop := codeNilRow.holds Try.pinned (OpenSpec.ofChange codeNilSpec)

/-- ITS FALSE NEIGHBOUR: 'it returns false'. Refute it at one input. -/
def codeNilWrong : ChangeSpec := { name := "codeNil", fn := fun _ => fun
  | [d] => { results := [.lit (.bool false)], args := [d] }
  | _ => none }
def CodeNilWrongFalsely : Prop := codeNilRow.holds Try.pinned (OpenSpec.ofChange codeNilWrong)

/-- 'courantlaw01.CodeReads': WHATEVER THE INPUT: true; the input reads as it did. -/
def codeReadsSpec : ChangeSpec := { name := "codeReads", fn := fun _ => fun
  | [d1, d2] => { results := [.lit (.bool true)], args := [d1, d2] }
  | _ => none }
def codeReadsRow : OpenClaim := { program := "ytojmpoboidomeaa", sum := "2fbd64cf38769d10d4c1a7ab8ed6b61f64680219afaa22300e3e43f4bbe449b0", func := "courant/courantlaw01.CodeReads", spec := "codeReads", unfollowed := true, recurses := true, apart := false }
def CodeReadsSaid : Prop := codeReadsRow.holds Try.pinned (OpenSpec.ofChange codeReadsSpec)

/-- ITS FALSE NEIGHBOUR: 'it returns false'. Refute it at one input. -/
def codeReadsWrong : ChangeSpec := { name := "codeReads", fn := fun _ => fun
  | [d1, d2] => { results := [.lit (.bool false)], args := [d1, d2] }
  | _ => none }
def CodeReadsWrongFalsely : Prop := codeReadsRow.holds Try.pinned (OpenSpec.ofChange codeReadsWrong)

/-- 'courantlaw01.CodeBack': WHATEVER THE INPUT: true; the input reads as it did. -/
def codeBackSpec : ChangeSpec := { name := "codeBack", fn := fun _ => fun
  | [d1, d2, d3, d4] => { results := [.lit (.bool true)], args := [d1, d2, d3, d4] }
  | _ => none }
def codeBackRow : OpenClaim := { program := "ytojmpoboidomeaa", sum := "2fbd64cf38769d10d4c1a7ab8ed6b61f64680219afaa22300e3e43f4bbe449b0", func := "courant/courantlaw01.CodeBack", spec := "codeBack", apart := false }
def CodeBackSaid : Prop := codeBackRow.holds Try.pinned (OpenSpec.ofChange codeBackSpec)

/-- ITS FALSE NEIGHBOUR: 'it returns false'. Refute it at one input. -/
def codeBackWrong : ChangeSpec := { name := "codeBack", fn := fun _ => fun
  | [d1, d2, d3, d4] => { results := [.lit (.bool false)], args := [d1, d2, d3, d4] }
  | _ => none }
def CodeBackWrongFalsely : Prop := codeBackRow.holds Try.pinned (OpenSpec.ofChange codeBackWrong)

/-- 'courantlaw24.BatchBytes': WHATEVER THE INPUT: true; the input reads as it did. -/
def batchBytesSpec : ChangeSpec := { name := "batchBytes", fn := fun _ => fun
  | [d1, d2, d3] => { results := [.lit (.bool true)], args := [d1, d2, d3] }
  | _ => none }
def batchBytesRow : OpenClaim := { program := "ytojmpoboidomeaa", sum := "2fbd64cf38769d10d4c1a7ab8ed6b61f64680219afaa22300e3e43f4bbe449b0", func := "courant/courantlaw24.BatchBytes", spec := "batchBytes", unfollowed := true, recurses := true, apart := false }
def BatchBytesSaid : Prop := batchBytesRow.holds Try.pinned (OpenSpec.ofChange batchBytesSpec)

/-- ITS FALSE NEIGHBOUR: 'it returns false'. Refute it at one input. -/
def batchBytesWrong : ChangeSpec := { name := "batchBytes", fn := fun _ => fun
  | [d1, d2, d3] => { results := [.lit (.bool false)], args := [d1, d2, d3] }
  | _ => none }
def BatchBytesWrongFalsely : Prop := batchBytesRow.holds Try.pinned (OpenSpec.ofChange batchBytesWrong)

/-- 'courantlaw24.BatchBack': WHATEVER THE INPUT: true; the input reads as it did. -/
def batchBackSpec : ChangeSpec := { name := "batchBack", fn := fun _ => fun
  | [d] => { results := [.lit (.bool true)], args := [d] }
  | _ => none }
def batchBackRow : OpenClaim := { program := "ytojmpoboidomeaa", sum := "2fbd64cf38769d10d4c1a7ab8ed6b61f64680219afaa22300e3e43f4bbe449b0", func := "courant/courantlaw24.BatchBack", spec := "batchBack", apart := false }
def BatchBackSaid : Prop := batchBackRow.holds Try.pinned (OpenSpec.ofChange batchBackSpec)

/-- ITS FALSE NEIGHBOUR: 'it returns false'. Refute it at one input. -/
def batchBackWrong : ChangeSpec := { name := "batchBack", fn := fun _ => fun
  | [d] => { results := [.lit (.bool false)], args := [d] }
  | _ => none }
def BatchBackWrongFalsely : Prop := batchBackRow.holds Try.pinned (OpenSpec.ofChange batchBackWrong)

/-- 'courantlaw27.RequestBytes': WHATEVER THE INPUT: true; the input reads as it did. -/
def requestBytesSpec : ChangeSpec := { name := "requestBytes", fn := fun _ => fun
  | [d1, d2] => { results := [.lit (.bool true)], args := [d1, d2] }
  | _ => none }
def requestBytesRow : OpenClaim := { program := "ytojmpoboidomeaa", sum := "2fbd64cf38769d10d4c1a7ab8ed6b61f64680219afaa22300e3e43f4bbe449b0", func := "courant/courantlaw27.RequestBytes", spec := "requestBytes", unfollowed := true, recurses := true, apart := false }
def RequestBytesSaid : Prop := requestBytesRow.holds Try.pinned (OpenSpec.ofChange requestBytesSpec)

/-- ITS FALSE NEIGHBOUR: 'it returns false'. Refute it at one input. -/
def requestBytesWrong : ChangeSpec := { name := "requestBytes", fn := fun _ => fun
  | [d1, d2] => { results := [.lit (.bool false)], args := [d1, d2] }
  | _ => none }
def RequestBytesWrongFalsely : Prop := requestBytesRow.holds Try.pinned (OpenSpec.ofChange requestBytesWrong)

/-- 'courantlaw27.RequestReplies': WHATEVER THE INPUT: true; the input reads as it did. -/
def requestRepliesSpec : ChangeSpec := { name := "requestReplies", fn := fun _ => fun
  | [d1, d2] => { results := [.lit (.bool true)], args := [d1, d2] }
  | _ => none }
def requestRepliesRow : OpenClaim := { program := "ytojmpoboidomeaa", sum := "2fbd64cf38769d10d4c1a7ab8ed6b61f64680219afaa22300e3e43f4bbe449b0", func := "courant/courantlaw27.RequestReplies", spec := "requestReplies", unfollowed := true, recurses := true, apart := false }
def RequestRepliesSaid : Prop := requestRepliesRow.holds Try.pinned (OpenSpec.ofChange requestRepliesSpec)

/-- ITS FALSE NEIGHBOUR: 'it returns false'. Refute it at one input. -/
def requestRepliesWrong : ChangeSpec := { name := "requestReplies", fn := fun _ => fun
  | [d1, d2] => { results := [.lit (.bool false)], args := [d1, d2] }
  | _ => none }
def RequestRepliesWrongFalsely : Prop := requestRepliesRow.holds Try.pinned (OpenSpec.ofChange requestRepliesWrong)

/-- 'courantlaw22.KeyedPuts': WHATEVER THE INPUT: true; the input reads as it did. -/
def keyedPutsSpec : ChangeSpec := { name := "keyedPuts", fn := fun _ => fun
  | [d1, d2] => { results := [.lit (.bool true)], args := [d1, d2] }
  | _ => none }
def keyedPutsRow : OpenClaim := { program := "ytojmpoboidomeaa", sum := "2fbd64cf38769d10d4c1a7ab8ed6b61f64680219afaa22300e3e43f4bbe449b0", func := "courant/courantlaw22.KeyedPuts", spec := "keyedPuts", inPlace := ["slices.overlaps[courant/api.Pair]"], unfollowed := true, recurses := true, apart := false }
def KeyedPutsSaid : Prop := keyedPutsRow.holds Try.pinned (OpenSpec.ofChange keyedPutsSpec)

/-- ITS FALSE NEIGHBOUR: 'it returns false'. Refute it at one input. -/
def keyedPutsWrong : ChangeSpec := { name := "keyedPuts", fn := fun _ => fun
  | [d1, d2] => { results := [.lit (.bool false)], args := [d1, d2] }
  | _ => none }
def KeyedPutsWrongFalsely : Prop := keyedPutsRow.holds Try.pinned (OpenSpec.ofChange keyedPutsWrong)

/-- 'courantlaw22.KeyedOrder': WHATEVER THE INPUT: true; the input reads as it did. -/
def keyedOrderSpec : ChangeSpec := { name := "keyedOrder", fn := fun _ => fun
  | [d1, d2] => { results := [.lit (.bool true)], args := [d1, d2] }
  | _ => none }
def keyedOrderRow : OpenClaim := { program := "ytojmpoboidomeaa", sum := "2fbd64cf38769d10d4c1a7ab8ed6b61f64680219afaa22300e3e43f4bbe449b0", func := "courant/courantlaw22.KeyedOrder", spec := "keyedOrder", inPlace := ["slices.overlaps[courant/api.Pair]"], unfollowed := true, recurses := true, apart := false }
def KeyedOrderSaid : Prop := keyedOrderRow.holds Try.pinned (OpenSpec.ofChange keyedOrderSpec)

/-- ITS FALSE NEIGHBOUR: 'it returns false'. Refute it at one input. -/
def keyedOrderWrong : ChangeSpec := { name := "keyedOrder", fn := fun _ => fun
  | [d1, d2] => { results := [.lit (.bool false)], args := [d1, d2] }
  | _ => none }
def KeyedOrderWrongFalsely : Prop := keyedOrderRow.holds Try.pinned (OpenSpec.ofChange keyedOrderWrong)

/-- 'courantlaw27.RequestBack': WHATEVER THE INPUT: true; the input reads as it did. -/
def requestBackSpec : ChangeSpec := { name := "requestBack", fn := fun _ => fun
  | [d1, d2, d3, d4] => { results := [.lit (.bool true)], args := [d1, d2, d3, d4] }
  | _ => none }
def requestBackRow : OpenClaim := { program := "ytojmpoboidomeaa", sum := "2fbd64cf38769d10d4c1a7ab8ed6b61f64680219afaa22300e3e43f4bbe449b0", func := "courant/courantlaw27.RequestBack", spec := "requestBack", unfollowed := true, recurses := true, apart := false }
def RequestBackSaid : Prop := requestBackRow.holds Try.pinned (OpenSpec.ofChange requestBackSpec)

/-- ITS FALSE NEIGHBOUR: 'it returns false'. Refute it at one input. -/
def requestBackWrong : ChangeSpec := { name := "requestBack", fn := fun _ => fun
  | [d1, d2, d3, d4] => { results := [.lit (.bool false)], args := [d1, d2, d3, d4] }
  | _ => none }
def RequestBackWrongFalsely : Prop := requestBackRow.holds Try.pinned (OpenSpec.ofChange requestBackWrong)

/-- 'courantlaw22.KeyedBytes': WHATEVER THE INPUT: true; the input reads as it did. -/
def keyedBytesSpec : ChangeSpec := { name := "keyedBytes", fn := fun _ => fun
  | [d1, d2] => { results := [.lit (.bool true)], args := [d1, d2] }
  | _ => none }
def keyedBytesRow : OpenClaim := { program := "ytojmpoboidomeaa", sum := "2fbd64cf38769d10d4c1a7ab8ed6b61f64680219afaa22300e3e43f4bbe449b0", func := "courant/courantlaw22.KeyedBytes", spec := "keyedBytes", inPlace := ["slices.overlaps[courant/api.Pair]"], unfollowed := true, recurses := true, apart := false }
def KeyedBytesSaid : Prop := keyedBytesRow.holds Try.pinned (OpenSpec.ofChange keyedBytesSpec)

/-- ITS FALSE NEIGHBOUR: 'it returns false'. Refute it at one input. -/
def keyedBytesWrong : ChangeSpec := { name := "keyedBytes", fn := fun _ => fun
  | [d1, d2] => { results := [.lit (.bool false)], args := [d1, d2] }
  | _ => none }
def KeyedBytesWrongFalsely : Prop := keyedBytesRow.holds Try.pinned (OpenSpec.ofChange keyedBytesWrong)

/-- 'courantlaw22.KeyedBack': WHATEVER THE INPUT: true; the input reads as it did. -/
def keyedBackSpec : ChangeSpec := { name := "keyedBack", fn := fun _ => fun
  | [d1, d2] => { results := [.lit (.bool true)], args := [d1, d2] }
  | _ => none }
def keyedBackRow : OpenClaim := { program := "ytojmpoboidomeaa", sum := "2fbd64cf38769d10d4c1a7ab8ed6b61f64680219afaa22300e3e43f4bbe449b0", func := "courant/courantlaw22.KeyedBack", spec := "keyedBack", inPlace := ["slices.overlaps[courant/api.Pair]"], unfollowed := true, recurses := true, apart := false }
def KeyedBackSaid : Prop := keyedBackRow.holds Try.pinned (OpenSpec.ofChange keyedBackSpec)

/-- ITS FALSE NEIGHBOUR: 'it returns false'. Refute it at one input. -/
def keyedBackWrong : ChangeSpec := { name := "keyedBack", fn := fun _ => fun
  | [d1, d2] => { results := [.lit (.bool false)], args := [d1, d2] }
  | _ => none }
def KeyedBackWrongFalsely : Prop := keyedBackRow.holds Try.pinned (OpenSpec.ofChange keyedBackWrong)

/- THE SECOND FORM. 'bulk': how many values and letters a reading holds, each counted each time it is reached (what is shared counts as often as it is met; a slice's spare places count too). A statement '..UptoSaid' is the law's where the arguments, and the package variables that the reading takes, are together of bulk at most 1048576: NARROWER than '..Said'. Prove '..Said' where nothing that the law and all that it calls make is longer than what came in: it says more and counts as full. Else prove '..UptoSaid'. A law counts once. -/
mutual
def uptoBulk {H : Type} : DataW H → Nat
  | .lit (.string bytes) => bytes.length + 1
  | .lit _ => 1
  | .nil => 1
  | .ptr d => uptoBulk d + 1
  | .slice elems spare => uptoBulkAll elems + uptoBulkAll spare + 1
  | .agg parts => uptoBulkAll parts + 1
  | .iface _ d => uptoBulk d + 1
  | .map entries => uptoBulkEntries entries + 1
  | .held _ => 1
def uptoBulkAll {H : Type} : List (DataW H) → Nat
  | [] => 0
  | d :: r => uptoBulk d + uptoBulkAll r
def uptoBulkEntries {H : Type} : List (Lit × DataW H) → Nat
  | [] => 0
  | x :: r => uptoBulkEntry x + uptoBulkEntries r
def uptoBulkEntry {H : Type} : Lit × DataW H → Nat
  | (.string bytes, d) => bytes.length + uptoBulk d + 1
  | (_, d) => uptoBulk d + 1
 end
def uptoSmall : (H : Type) → List (DataW H) → Bool := fun _ ds => decide (uptoBulkAll ds ≤ 1048576)
def OpenSpec.upto (s : _root_.Go.ChangeSpec) : _root_.Go.OpenSpec := { _root_.Go.OpenSpec.ofChange s with cond := some uptoSmall }

/-- 'courantlaw01.CodeWrites', WHERE WHAT IT READS IS OF BULK AT MOST 1048576: true; the input reads as it did. -/
def codeWritesUptoRow : OpenClaim := { program := "ytojmpoboidomeaa", sum := "2fbd64cf38769d10d4c1a7ab8ed6b61f64680219afaa22300e3e43f4bbe449b0", func := "courant/courantlaw01.CodeWrites", spec := "codeWrites", unfollowed := true, recurses := true, apart := false, narrowed := true }
def CodeWritesUptoSaid : Prop := codeWritesUptoRow.holds Try.pinned (OpenSpec.upto codeWritesSpec)

/-- 'courantlaw01.CodeSizes', WHERE WHAT IT READS IS OF BULK AT MOST 1048576: true; the input reads as it did. -/
def codeSizesUptoRow : OpenClaim := { program := "ytojmpoboidomeaa", sum := "2fbd64cf38769d10d4c1a7ab8ed6b61f64680219afaa22300e3e43f4bbe449b0", func := "courant/courantlaw01.CodeSizes", spec := "codeSizes", apart := false, narrowed := true }
def CodeSizesUptoSaid : Prop := codeSizesUptoRow.holds Try.pinned (OpenSpec.upto codeSizesSpec)

/-- 'courantlaw24.BatchLooks', WHERE WHAT IT READS IS OF BULK AT MOST 1048576: true; the input reads as it did. -/
def batchLooksUptoRow : OpenClaim := { program := "ytojmpoboidomeaa", sum := "2fbd64cf38769d10d4c1a7ab8ed6b61f64680219afaa22300e3e43f4bbe449b0", func := "courant/courantlaw24.BatchLooks", spec := "batchLooks", unfollowed := true, recurses := true, apart := false, narrowed := true }
def BatchLooksUptoSaid : Prop := batchLooksUptoRow.holds Try.pinned (OpenSpec.upto batchLooksSpec)

/-- 'courantlaw24.BatchOnce', WHERE WHAT IT READS IS OF BULK AT MOST 1048576: true; the input reads as it did. -/
def batchOnceUptoRow : OpenClaim := { program := "ytojmpoboidomeaa", sum := "2fbd64cf38769d10d4c1a7ab8ed6b61f64680219afaa22300e3e43f4bbe449b0", func := "courant/courantlaw24.BatchOnce", spec := "batchOnce", unfollowed := true, recurses := true, apart := false, narrowed := true }
def BatchOnceUptoSaid : Prop := batchOnceUptoRow.holds Try.pinned (OpenSpec.upto batchOnceSpec)

/-- 'courantlaw24.BatchApart', WHERE WHAT IT READS IS OF BULK AT MOST 1048576: true; the input reads as it did. -/
def batchApartUptoRow : OpenClaim := { program := "ytojmpoboidomeaa", sum := "2fbd64cf38769d10d4c1a7ab8ed6b61f64680219afaa22300e3e43f4bbe449b0", func := "courant/courantlaw24.BatchApart", spec := "batchApart", unfollowed := true, recurses := true, apart := false, narrowed := true }
def BatchApartUptoSaid : Prop := batchApartUptoRow.holds Try.pinned (OpenSpec.upto batchApartSpec)

/-- 'courantlaw01.CodeNil', WHERE WHAT IT READS IS OF BULK AT MOST 1048576: true; the input reads as it did. -/
def codeNilUptoRow : OpenClaim := { program := "ytojmpoboidomeaa", sum := "2fbd64cf38769d10d4c1a7ab8ed6b61f64680219afaa22300e3e43f4bbe449b0", func := "courant/courantlaw01.CodeNil", spec := "codeNil", apart := false, narrowed := true }
def CodeNilUptoSaid : Prop := codeNilUptoRow.holds Try.pinned (OpenSpec.upto codeNilSpec)

/-- 'courantlaw01.CodeReads', WHERE WHAT IT READS IS OF BULK AT MOST 1048576: true; the input reads as it did. -/
def codeReadsUptoRow : OpenClaim := { program := "ytojmpoboidomeaa", sum := "2fbd64cf38769d10d4c1a7ab8ed6b61f64680219afaa22300e3e43f4bbe449b0", func := "courant/courantlaw01.CodeReads", spec := "codeReads", unfollowed := true, recurses := true, apart := false, narrowed := true }
def CodeReadsUptoSaid : Prop := codeReadsUptoRow.holds Try.pinned (OpenSpec.upto codeReadsSpec)

/-- 'courantlaw01.CodeBack', WHERE WHAT IT READS IS OF BULK AT MOST 1048576: true; the input reads as it did. -/
def codeBackUptoRow : OpenClaim := { program := "ytojmpoboidomeaa", sum := "2fbd64cf38769d10d4c1a7ab8ed6b61f64680219afaa22300e3e43f4bbe449b0", func := "courant/courantlaw01.CodeBack", spec := "codeBack", apart := false, narrowed := true }
def CodeBackUptoSaid : Prop := codeBackUptoRow.holds Try.pinned (OpenSpec.upto codeBackSpec)

/-- 'courantlaw24.BatchBytes', WHERE WHAT IT READS IS OF BULK AT MOST 1048576: true; the input reads as it did. -/
def batchBytesUptoRow : OpenClaim := { program := "ytojmpoboidomeaa", sum := "2fbd64cf38769d10d4c1a7ab8ed6b61f64680219afaa22300e3e43f4bbe449b0", func := "courant/courantlaw24.BatchBytes", spec := "batchBytes", unfollowed := true, recurses := true, apart := false, narrowed := true }
def BatchBytesUptoSaid : Prop := batchBytesUptoRow.holds Try.pinned (OpenSpec.upto batchBytesSpec)

/-- 'courantlaw24.BatchBack', WHERE WHAT IT READS IS OF BULK AT MOST 1048576: true; the input reads as it did. -/
def batchBackUptoRow : OpenClaim := { program := "ytojmpoboidomeaa", sum := "2fbd64cf38769d10d4c1a7ab8ed6b61f64680219afaa22300e3e43f4bbe449b0", func := "courant/courantlaw24.BatchBack", spec := "batchBack", apart := false, narrowed := true }
def BatchBackUptoSaid : Prop := batchBackUptoRow.holds Try.pinned (OpenSpec.upto batchBackSpec)

/-- 'courantlaw27.RequestBytes', WHERE WHAT IT READS IS OF BULK AT MOST 1048576: true; the input reads as it did. -/
def requestBytesUptoRow : OpenClaim := { program := "ytojmpoboidomeaa", sum := "2fbd64cf38769d10d4c1a7ab8ed6b61f64680219afaa22300e3e43f4bbe449b0", func := "courant/courantlaw27.RequestBytes", spec := "requestBytes", unfollowed := true, recurses := true, apart := false, narrowed := true }
def RequestBytesUptoSaid : Prop := requestBytesUptoRow.holds Try.pinned (OpenSpec.upto requestBytesSpec)

/-- 'courantlaw27.RequestReplies', WHERE WHAT IT READS IS OF BULK AT MOST 1048576: true; the input reads as it did. -/
def requestRepliesUptoRow : OpenClaim := { program := "ytojmpoboidomeaa", sum := "2fbd64cf38769d10d4c1a7ab8ed6b61f64680219afaa22300e3e43f4bbe449b0", func := "courant/courantlaw27.RequestReplies", spec := "requestReplies", unfollowed := true, recurses := true, apart := false, narrowed := true }
def RequestRepliesUptoSaid : Prop := requestRepliesUptoRow.holds Try.pinned (OpenSpec.upto requestRepliesSpec)

/-- 'courantlaw22.KeyedPuts', WHERE WHAT IT READS IS OF BULK AT MOST 1048576: true; the input reads as it did. -/
def keyedPutsUptoRow : OpenClaim := { program := "ytojmpoboidomeaa", sum := "2fbd64cf38769d10d4c1a7ab8ed6b61f64680219afaa22300e3e43f4bbe449b0", func := "courant/courantlaw22.KeyedPuts", spec := "keyedPuts", inPlace := ["slices.overlaps[courant/api.Pair]"], unfollowed := true, recurses := true, apart := false, narrowed := true }
def KeyedPutsUptoSaid : Prop := keyedPutsUptoRow.holds Try.pinned (OpenSpec.upto keyedPutsSpec)

/-- 'courantlaw22.KeyedOrder', WHERE WHAT IT READS IS OF BULK AT MOST 1048576: true; the input reads as it did. -/
def keyedOrderUptoRow : OpenClaim := { program := "ytojmpoboidomeaa", sum := "2fbd64cf38769d10d4c1a7ab8ed6b61f64680219afaa22300e3e43f4bbe449b0", func := "courant/courantlaw22.KeyedOrder", spec := "keyedOrder", inPlace := ["slices.overlaps[courant/api.Pair]"], unfollowed := true, recurses := true, apart := false, narrowed := true }
def KeyedOrderUptoSaid : Prop := keyedOrderUptoRow.holds Try.pinned (OpenSpec.upto keyedOrderSpec)

/-- 'courantlaw27.RequestBack', WHERE WHAT IT READS IS OF BULK AT MOST 1048576: true; the input reads as it did. -/
def requestBackUptoRow : OpenClaim := { program := "ytojmpoboidomeaa", sum := "2fbd64cf38769d10d4c1a7ab8ed6b61f64680219afaa22300e3e43f4bbe449b0", func := "courant/courantlaw27.RequestBack", spec := "requestBack", unfollowed := true, recurses := true, apart := false, narrowed := true }
def RequestBackUptoSaid : Prop := requestBackUptoRow.holds Try.pinned (OpenSpec.upto requestBackSpec)

/-- 'courantlaw22.KeyedBytes', WHERE WHAT IT READS IS OF BULK AT MOST 1048576: true; the input reads as it did. -/
def keyedBytesUptoRow : OpenClaim := { program := "ytojmpoboidomeaa", sum := "2fbd64cf38769d10d4c1a7ab8ed6b61f64680219afaa22300e3e43f4bbe449b0", func := "courant/courantlaw22.KeyedBytes", spec := "keyedBytes", inPlace := ["slices.overlaps[courant/api.Pair]"], unfollowed := true, recurses := true, apart := false, narrowed := true }
def KeyedBytesUptoSaid : Prop := keyedBytesUptoRow.holds Try.pinned (OpenSpec.upto keyedBytesSpec)

/-- 'courantlaw22.KeyedBack', WHERE WHAT IT READS IS OF BULK AT MOST 1048576: true; the input reads as it did. -/
def keyedBackUptoRow : OpenClaim := { program := "ytojmpoboidomeaa", sum := "2fbd64cf38769d10d4c1a7ab8ed6b61f64680219afaa22300e3e43f4bbe449b0", func := "courant/courantlaw22.KeyedBack", spec := "keyedBack", inPlace := ["slices.overlaps[courant/api.Pair]"], unfollowed := true, recurses := true, apart := false, narrowed := true }
def KeyedBackUptoSaid : Prop := keyedBackUptoRow.holds Try.pinned (OpenSpec.upto keyedBackSpec)

end Rows
end Go.Proofs.Ytojmpoboidomeaa
