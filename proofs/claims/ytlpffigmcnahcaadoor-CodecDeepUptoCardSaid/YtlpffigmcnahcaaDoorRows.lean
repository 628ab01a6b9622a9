/-
  NARROWER THAN 'FOR EVERY INPUT', by the rows' own cells (each row's printed sentence says how): CodecBlocks: laid · CodecDeep: laid · CodecNulls: laid.
  DERIVED. THE GIVEN ROWS OF THIS SEAT. 3 by the template 'for every input the law returns true; each argument reads behind the call as it read before'; 0 by the template 'total and deterministic' (their statements: YtlpffigmcnahcaaDoorTotals.lean).
  GIVEN WITH THE SEED: the statements are not yours to turn. If you find one false, say at which input.
  Laid BY PROGRAM, IN A SANDBOX (cutbox-rows.mjs): the forced cells as the released guide's own fill.sh prints them over the translation afa9c148496fb29e… (all of the seat's roots in one cut). By AI agents, Wed Nov 11 2026. No macro, syntax, notation, axiom, sorry.
-/
import Derived.Test.YtlpffigmcnahcaaDoorChecked
import GoSem.PinnedTables
import GoSem.Claim
import GoSem.ClaimJoined
import GoSem.ClaimMapViews
import Derived.JoinedTies
import Derived.KernelRfl
namespace Go.Proofs.YtlpffigmcnahcaaDoor
/- THE CELL 'sum', in the pinned program and in every row, IS THE sha256 OF THE DUMP (.gsa) THAT YtlpffigmcnahcaaDoorProg.lean LOADS. Nothing in Lean hashes anything: it is a label: what it is worth is what the hold of that sum in a sandbox is worth. -/
noncomputable def Tryd.pinned : Pinned := { name := "ytlpffigmcnahcaadoor", sum := "afa9c148496fb29ee2279e141a09445e8ec18d3bcdf8bbaa5a576fbbe2622497", checked := Tryd.checked }
namespace Rows
def none {H : Type} : Left H := { results := [], args := [] }

/- WHAT THE LISTED PACKAGE-LEVEL VARIABLES READ AS WHEN THE CALL BEGINS. Each datum BY PROGRAM (the guide's laid-datum.mjs) off the statement by which the dump's own 'gosem.cut.vars' lays the variable. In a bare row this is a premise. The card (YtlpffigmcnahcaaDoorCards.lean) ties it to the program's text. -/
def laid_unicode_utf8_acceptRanges {H : Type} : DataW H := .agg [.agg [.lit (.int .u8 128), .lit (.int .u8 191)], .agg [.lit (.int .u8 160), .lit (.int .u8 191)], .agg [.lit (.int .u8 128), .lit (.int .u8 159)], .agg [.lit (.int .u8 144), .lit (.int .u8 191)], .agg [.lit (.int .u8 128), .lit (.int .u8 143)], .agg [.lit (.int .u8 0), .lit (.int .u8 0)], .agg [.lit (.int .u8 0), .lit (.int .u8 0)], .agg [.lit (.int .u8 0), .lit (.int .u8 0)], .agg [.lit (.int .u8 0), .lit (.int .u8 0)], .agg [.lit (.int .u8 0), .lit (.int .u8 0)], .agg [.lit (.int .u8 0), .lit (.int .u8 0)], .agg [.lit (.int .u8 0), .lit (.int .u8 0)], .agg [.lit (.int .u8 0), .lit (.int .u8 0)], .agg [.lit (.int .u8 0), .lit (.int .u8 0)], .agg [.lit (.int .u8 0), .lit (.int .u8 0)], .agg [.lit (.int .u8 0), .lit (.int .u8 0)]]
/-- One of Go's own tables, pinned by name: the form's constant. -/
def laid_unicode_utf8_first : DataW Unit := Go.Pinned.utf8First

/-- 'courantlaw08.CodecBlocks': WHATEVER THE INPUT: true; the input reads as it did. -/
def codecBlocksSpec : ChangeSpec := { name := "codecBlocks", fn := fun _ => fun
  | [d1, d2, d3, d4] => { results := [.lit (.bool true)], args := [d1, d2, d3, d4] }
  | _ => none }
def codecBlocksRow : OpenClaim := { program := "ytlpffigmcnahcaadoor", sum := "afa9c148496fb29ee2279e141a09445e8ec18d3bcdf8bbaa5a576fbbe2622497", func := "courant/courantlaw08.CodecBlocks", spec := "codecBlocks", unfollowed := true, recurses := true, named := ["unicode/utf8.first", "unicode/utf8.acceptRanges"], apart := false, laid := [("unicode/utf8.acceptRanges", laid_unicode_utf8_acceptRanges), ("unicode/utf8.first", laid_unicode_utf8_first)] }
def CodecBlocksSaid : Prop := codecBlocksRow.holds Tryd.pinned (OpenSpec.ofChange codecBlocksSpec)

/-- ITS FALSE NEIGHBOUR: 'it returns false'. Refute it at one input. -/
def codecBlocksWrong : ChangeSpec := { name := "codecBlocks", fn := fun _ => fun
  | [d1, d2, d3, d4] => { results := [.lit (.bool false)], args := [d1, d2, d3, d4] }
  | _ => none }
def CodecBlocksWrongFalsely : Prop := codecBlocksRow.holds Tryd.pinned (OpenSpec.ofChange codecBlocksWrong)

/-- 'courantlaw08.CodecDeep': WHATEVER THE INPUT: true; the input reads as it did. -/
def codecDeepSpec : ChangeSpec := { name := "codecDeep", fn := fun _ => fun
  | [d] => { results := [.lit (.bool true)], args := [d] }
  | _ => none }
def codecDeepRow : OpenClaim := { program := "ytlpffigmcnahcaadoor", sum := "afa9c148496fb29ee2279e141a09445e8ec18d3bcdf8bbaa5a576fbbe2622497", func := "courant/courantlaw08.CodecDeep", spec := "codecDeep", unfollowed := true, recurses := true, named := ["unicode/utf8.first", "unicode/utf8.acceptRanges"], apart := false, laid := [("unicode/utf8.acceptRanges", laid_unicode_utf8_acceptRanges), ("unicode/utf8.first", laid_unicode_utf8_first)] }
def CodecDeepSaid : Prop := codecDeepRow.holds Tryd.pinned (OpenSpec.ofChange codecDeepSpec)

/-- ITS FALSE NEIGHBOUR: 'it returns false'. Refute it at one input. -/
def codecDeepWrong : ChangeSpec := { name := "codecDeep", fn := fun _ => fun
  | [d] => { results := [.lit (.bool false)], args := [d] }
  | _ => none }
def CodecDeepWrongFalsely : Prop := codecDeepRow.holds Tryd.pinned (OpenSpec.ofChange codecDeepWrong)

/-- 'courantlaw08.CodecNulls': WHATEVER THE INPUT: true; the input reads as it did. -/
def codecNullsSpec : ChangeSpec := { name := "codecNulls", fn := fun _ => fun
  | [d1, d2] => { results := [.lit (.bool true)], args := [d1, d2] }
  | _ => none }
def codecNullsRow : OpenClaim := { program := "ytlpffigmcnahcaadoor", sum := "afa9c148496fb29ee2279e141a09445e8ec18d3bcdf8bbaa5a576fbbe2622497", func := "courant/courantlaw08.CodecNulls", spec := "codecNulls", unfollowed := true, recurses := true, named := ["unicode/utf8.first", "unicode/utf8.acceptRanges"], apart := false, laid := [("unicode/utf8.acceptRanges", laid_unicode_utf8_acceptRanges), ("unicode/utf8.first", laid_unicode_utf8_first)] }
def CodecNullsSaid : Prop := codecNullsRow.holds Tryd.pinned (OpenSpec.ofChange codecNullsSpec)

/-- ITS FALSE NEIGHBOUR: 'it returns false'. Refute it at one input. -/
def codecNullsWrong : ChangeSpec := { name := "codecNulls", fn := fun _ => fun
  | [d1, d2] => { results := [.lit (.bool false)], args := [d1, d2] }
  | _ => none }
def CodecNullsWrongFalsely : Prop := codecNullsRow.holds Tryd.pinned (OpenSpec.ofChange codecNullsWrong)

/- THE SECOND FORM. 'bulk': how many values and letters a reading holds, each counted each time it is reached (what is shared counts as often as it is met; a slice's spare places count too). A statement '..UptoSaid' is the law's where the arguments, and the package variables that the reading takes, are together of bulk at most 1048576: NARROWER than '..Said'. Prove '..Said' where nothing that the law and all that it calls make is longer than what came in: it says more and counts as full. Else prove '..UptoSaid'. A law counts once. -/
mutual
def uptoBulk {H : Type} : DataW H → Nat
  | .lit (.string bytes) => bytes.length + 1
  | .lit _ => 1
  | .nil => 1
  | .ptr d => uptoBulk d + 1
  | .slice elems spare => uptoBulkAll elems + uptoBulkAll spare + 1
  | .agg parts => uptoBulkAll parts + 1
  | .iface _ d => uptoBulk d + 1
  | .map entries => uptoBulkEntries entries + 1
  | .held _ => 1
def uptoBulkAll {H : Type} : List (DataW H) → Nat
  | [] => 0
  | d :: r => uptoBulk d + uptoBulkAll r
def uptoBulkEntries {H : Type} : List (Lit × DataW H) → Nat
  | [] => 0
  | x :: r => uptoBulkEntry x + uptoBulkEntries r
def uptoBulkEntry {H : Type} : Lit × DataW H → Nat
  | (.string bytes, d) => bytes.length + uptoBulk d + 1
  | (_, d) => uptoBulk d + 1
 end
def uptoSmall : (H : Type) → List (DataW H) → Bool := fun _ ds => decide (uptoBulkAll ds ≤ 1048576)
def OpenSpec.upto (s : _root_.Go.ChangeSpec) : _root_.Go.OpenSpec := { _root_.Go.OpenSpec.ofChange s with cond := some uptoSmall }

/-- 'courantlaw08.CodecBlocks', WHERE WHAT IT READS IS OF BULK AT MOST 1048576: true; the input reads as it did. -/
def codecBlocksUptoRow : OpenClaim := { program := "ytlpffigmcnahcaadoor", sum := "afa9c148496fb29ee2279e141a09445e8ec18d3bcdf8bbaa5a576fbbe2622497", func := "courant/courantlaw08.CodecBlocks", spec := "codecBlocks", unfollowed := true, recurses := true, named := ["unicode/utf8.first", "unicode/utf8.acceptRanges"], apart := false, laid := [("unicode/utf8.acceptRanges", laid_unicode_utf8_acceptRanges), ("unicode/utf8.first", laid_unicode_utf8_first)], narrowed := true }
def CodecBlocksUptoSaid : Prop := codecBlocksUptoRow.holds Tryd.pinned (OpenSpec.upto codecBlocksSpec)

/-- 'courantlaw08.CodecDeep', WHERE WHAT IT READS IS OF BULK AT MOST 1048576: true; the input reads as it did. -/
def codecDeepUptoRow : OpenClaim := { program := "ytlpffigmcnahcaadoor", sum := "afa9c148496fb29ee2279e141a09445e8ec18d3bcdf8bbaa5a576fbbe2622497", func := "courant/courantlaw08.CodecDeep", spec := "codecDeep", unfollowed := true, recurses := true, named := ["unicode/utf8.first", "unicode/utf8.acceptRanges"], apart := false, laid := [("unicode/utf8.acceptRanges", laid_unicode_utf8_acceptRanges), ("unicode/utf8.first", laid_unicode_utf8_first)], narrowed := true }
def CodecDeepUptoSaid : Prop := codecDeepUptoRow.holds Tryd.pinned (OpenSpec.upto codecDeepSpec)

/-- 'courantlaw08.CodecNulls', WHERE WHAT IT READS IS OF BULK AT MOST 1048576: true; the input reads as it did. -/
def codecNullsUptoRow : OpenClaim := { program := "ytlpffigmcnahcaadoor", sum := "afa9c148496fb29ee2279e141a09445e8ec18d3bcdf8bbaa5a576fbbe2622497", func := "courant/courantlaw08.CodecNulls", spec := "codecNulls", unfollowed := true, recurses := true, named := ["unicode/utf8.first", "unicode/utf8.acceptRanges"], apart := false, laid := [("unicode/utf8.acceptRanges", laid_unicode_utf8_acceptRanges), ("unicode/utf8.first", laid_unicode_utf8_first)], narrowed := true }
def CodecNullsUptoSaid : Prop := codecNullsUptoRow.holds Tryd.pinned (OpenSpec.upto codecNullsSpec)

end Rows
end Go.Proofs.YtlpffigmcnahcaaDoor
