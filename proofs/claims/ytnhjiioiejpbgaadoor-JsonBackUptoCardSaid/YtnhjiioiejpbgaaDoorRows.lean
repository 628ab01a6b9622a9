/-
  NARROWER THAN 'FOR EVERY INPUT', by the rows' own cells (each row's printed sentence says how): JsonParses: laid · JsonBack: loops, laid · JsonWhite: loops, laid · JsonStrings: laid · JsonDepths: laid · JsonPrints: loops, laid · JsonKeys: laid · JsonWalks: loops, laid.
  DERIVED. THE GIVEN ROWS OF THIS SEAT. 8 by the template 'for every input the law returns true; each argument reads behind the call as it read before'; 0 by the template 'total and deterministic' (their statements: YtnhjiioiejpbgaaDoorTotals.lean).
  GIVEN WITH THE SEED: the statements are not yours to turn. If you find one false, say at which input.
  Laid BY PROGRAM, IN A SANDBOX (cutbox-rows.mjs): the forced cells as the released guide's own fill.sh prints them over the translation 612dd5112246592f… (all of the seat's roots in one cut). By AI agents, Wed Nov 11 2026. No macro, syntax, notation, axiom, sorry.
-/
import Derived.Test.YtnhjiioiejpbgaaDoorChecked
import GoSem.PinnedTables
import GoSem.Claim
import GoSem.ClaimJoined
import GoSem.ClaimMapViews
import Derived.JoinedTies
import Derived.KernelRfl
namespace Go.Proofs.YtnhjiioiejpbgaaDoor
/- THE CELL 'sum', in the pinned program and in every row, IS THE sha256 OF THE DUMP (.gsa) THAT YtnhjiioiejpbgaaDoorProg.lean LOADS. Nothing in Lean hashes anything: it is a label: what it is worth is what the hold of that sum in a sandbox is worth. -/
noncomputable def Tryd.pinned : Pinned := { name := "ytnhjiioiejpbgaadoor", sum := "612dd5112246592f5c27e7224e44346772e5eb287b3715333b842ebc0ce8ddfc", checked := Tryd.checked }
namespace Rows
def none {H : Type} : Left H := { results := [], args := [] }

/- WHAT THE LISTED PACKAGE-LEVEL VARIABLES READ AS WHEN THE CALL BEGINS. Each datum BY PROGRAM (the guide's laid-datum.mjs) off the statement by which the dump's own 'gosem.cut.vars' lays the variable. In a bare row this is a premise. The card (YtnhjiioiejpbgaaDoorCards.lean) ties it to the program's text. -/
def laid_unicode_utf8_acceptRanges {H : Type} : DataW H := .agg [.agg [.lit (.int .u8 128), .lit (.int .u8 191)], .agg [.lit (.int .u8 160), .lit (.int .u8 191)], .agg [.lit (.int .u8 128), .lit (.int .u8 159)], .agg [.lit (.int .u8 144), .lit (.int .u8 191)], .agg [.lit (.int .u8 128), .lit (.int .u8 143)], .agg [.lit (.int .u8 0), .lit (.int .u8 0)], .agg [.lit (.int .u8 0), .lit (.int .u8 0)], .agg [.lit (.int .u8 0), .lit (.int .u8 0)], .agg [.lit (.int .u8 0), .lit (.int .u8 0)], .agg [.lit (.int .u8 0), .lit (.int .u8 0)], .agg [.lit (.int .u8 0), .lit (.int .u8 0)], .agg [.lit (.int .u8 0), .lit (.int .u8 0)], .agg [.lit (.int .u8 0), .lit (.int .u8 0)], .agg [.lit (.int .u8 0), .lit (.int .u8 0)], .agg [.lit (.int .u8 0), .lit (.int .u8 0)], .agg [.lit (.int .u8 0), .lit (.int .u8 0)]]
/-- One of Go's own tables, pinned by name: the form's constant. -/
def laid_unicode_utf8_first : DataW Unit := Go.Pinned.utf8First

/-- 'courantlaw02.JsonParses': WHATEVER THE INPUT: true; the input reads as it did. -/
def jsonParsesSpec : ChangeSpec := { name := "jsonParses", fn := fun _ => fun
  | [d] => { results := [.lit (.bool true)], args := [d] }
  | _ => none }
def jsonParsesRow : OpenClaim := { program := "ytnhjiioiejpbgaadoor", sum := "612dd5112246592f5c27e7224e44346772e5eb287b3715333b842ebc0ce8ddfc", func := "courant/courantlaw02.JsonParses", spec := "jsonParses", unfollowed := true, recurses := true, named := ["unicode/utf8.first", "unicode/utf8.acceptRanges"], apart := false, laid := [("unicode/utf8.acceptRanges", laid_unicode_utf8_acceptRanges), ("unicode/utf8.first", laid_unicode_utf8_first)] }
def JsonParsesSaid : Prop := jsonParsesRow.holds Tryd.pinned (OpenSpec.ofChange jsonParsesSpec)

/-- ITS FALSE NEIGHBOUR: 'it returns false'. Refute it at one input. -/
def jsonParsesWrong : ChangeSpec := { name := "jsonParses", fn := fun _ => fun
  | [d] => { results := [.lit (.bool false)], args := [d] }
  | _ => none }
def JsonParsesWrongFalsely : Prop := jsonParsesRow.holds Tryd.pinned (OpenSpec.ofChange jsonParsesWrong)

/-- 'courantlaw02.JsonBack': WHATEVER THE INPUT: true; the input reads as it did. -/
def jsonBackSpec : ChangeSpec := { name := "jsonBack", fn := fun _ => fun
  | [d1, d2] => { results := [.lit (.bool true)], args := [d1, d2] }
  | _ => none }
def jsonBackRow : OpenClaim := { program := "ytnhjiioiejpbgaadoor", sum := "612dd5112246592f5c27e7224e44346772e5eb287b3715333b842ebc0ce8ddfc", func := "courant/courantlaw02.JsonBack", spec := "jsonBack", unfollowed := true, recurses := true, named := ["unicode/utf8.first", "unicode/utf8.acceptRanges"], loops := true, apart := false, laid := [("unicode/utf8.acceptRanges", laid_unicode_utf8_acceptRanges), ("unicode/utf8.first", laid_unicode_utf8_first)] }
def JsonBackSaid : Prop := jsonBackRow.holds Tryd.pinned (OpenSpec.ofChange jsonBackSpec)

/-- ITS FALSE NEIGHBOUR: 'it returns false'. Refute it at one input. -/
def jsonBackWrong : ChangeSpec := { name := "jsonBack", fn := fun _ => fun
  | [d1, d2] => { results := [.lit (.bool false)], args := [d1, d2] }
  | _ => none }
def JsonBackWrongFalsely : Prop := jsonBackRow.holds Tryd.pinned (OpenSpec.ofChange jsonBackWrong)

/-- 'courantlaw02.JsonWhite': WHATEVER THE INPUT: true; the input reads as it did. -/
def jsonWhiteSpec : ChangeSpec := { name := "jsonWhite", fn := fun _ => fun
  | [d1, d2] => { results := [.lit (.bool true)], args := [d1, d2] }
  | _ => none }
def jsonWhiteRow : OpenClaim := { program := "ytnhjiioiejpbgaadoor", sum := "612dd5112246592f5c27e7224e44346772e5eb287b3715333b842ebc0ce8ddfc", func := "courant/courantlaw02.JsonWhite", spec := "jsonWhite", unfollowed := true, recurses := true, named := ["unicode/utf8.first", "unicode/utf8.acceptRanges"], loops := true, apart := false, laid := [("unicode/utf8.acceptRanges", laid_unicode_utf8_acceptRanges), ("unicode/utf8.first", laid_unicode_utf8_first)] }
def JsonWhiteSaid : Prop := jsonWhiteRow.holds Tryd.pinned (OpenSpec.ofChange jsonWhiteSpec)

/-- ITS FALSE NEIGHBOUR: 'it returns false'. Refute it at one input. -/
def jsonWhiteWrong : ChangeSpec := { name := "jsonWhite", fn := fun _ => fun
  | [d1, d2] => { results := [.lit (.bool false)], args := [d1, d2] }
  | _ => none }
def JsonWhiteWrongFalsely : Prop := jsonWhiteRow.holds Tryd.pinned (OpenSpec.ofChange jsonWhiteWrong)

/-- 'courantlaw02.JsonStrings': WHATEVER THE INPUT: true; the input reads as it did. -/
def jsonStringsSpec : ChangeSpec := { name := "jsonStrings", fn := fun _ => fun
  | [d] => { results := [.lit (.bool true)], args := [d] }
  | _ => none }
def jsonStringsRow : OpenClaim := { program := "ytnhjiioiejpbgaadoor", sum := "612dd5112246592f5c27e7224e44346772e5eb287b3715333b842ebc0ce8ddfc", func := "courant/courantlaw02.JsonStrings", spec := "jsonStrings", unfollowed := true, recurses := true, named := ["unicode/utf8.first", "unicode/utf8.acceptRanges"], apart := false, laid := [("unicode/utf8.acceptRanges", laid_unicode_utf8_acceptRanges), ("unicode/utf8.first", laid_unicode_utf8_first)] }
def JsonStringsSaid : Prop := jsonStringsRow.holds Tryd.pinned (OpenSpec.ofChange jsonStringsSpec)

/-- ITS FALSE NEIGHBOUR: 'it returns false'. Refute it at one input. -/
def jsonStringsWrong : ChangeSpec := { name := "jsonStrings", fn := fun _ => fun
  | [d] => { results := [.lit (.bool false)], args := [d] }
  | _ => none }
def JsonStringsWrongFalsely : Prop := jsonStringsRow.holds Tryd.pinned (OpenSpec.ofChange jsonStringsWrong)

/-- 'courantlaw02.JsonDepths': WHATEVER THE INPUT: true; the input reads as it did. -/
def jsonDepthsSpec : ChangeSpec := { name := "jsonDepths", fn := fun _ => fun
  | [d1, d2] => { results := [.lit (.bool true)], args := [d1, d2] }
  | _ => none }
def jsonDepthsRow : OpenClaim := { program := "ytnhjiioiejpbgaadoor", sum := "612dd5112246592f5c27e7224e44346772e5eb287b3715333b842ebc0ce8ddfc", func := "courant/courantlaw02.JsonDepths", spec := "jsonDepths", unfollowed := true, recurses := true, named := ["unicode/utf8.first", "unicode/utf8.acceptRanges"], apart := false, laid := [("unicode/utf8.acceptRanges", laid_unicode_utf8_acceptRanges), ("unicode/utf8.first", laid_unicode_utf8_first)] }
def JsonDepthsSaid : Prop := jsonDepthsRow.holds Tryd.pinned (OpenSpec.ofChange jsonDepthsSpec)

/-- ITS FALSE NEIGHBOUR: 'it returns false'. Refute it at one input. -/
def jsonDepthsWrong : ChangeSpec := { name := "jsonDepths", fn := fun _ => fun
  | [d1, d2] => { results := [.lit (.bool false)], args := [d1, d2] }
  | _ => none }
def JsonDepthsWrongFalsely : Prop := jsonDepthsRow.holds Tryd.pinned (OpenSpec.ofChange jsonDepthsWrong)

/-- 'courantlaw02.JsonPrints': WHATEVER THE INPUT: true; the input reads as it did. -/
def jsonPrintsSpec : ChangeSpec := { name := "jsonPrints", fn := fun _ => fun
  | [d1, d2] => { results := [.lit (.bool true)], args := [d1, d2] }
  | _ => none }
def jsonPrintsRow : OpenClaim := { program := "ytnhjiioiejpbgaadoor", sum := "612dd5112246592f5c27e7224e44346772e5eb287b3715333b842ebc0ce8ddfc", func := "courant/courantlaw02.JsonPrints", spec := "jsonPrints", unfollowed := true, recurses := true, named := ["unicode/utf8.first", "unicode/utf8.acceptRanges"], loops := true, apart := false, laid := [("unicode/utf8.acceptRanges", laid_unicode_utf8_acceptRanges), ("unicode/utf8.first", laid_unicode_utf8_first)] }
def JsonPrintsSaid : Prop := jsonPrintsRow.holds Tryd.pinned (OpenSpec.ofChange jsonPrintsSpec)

/-- ITS FALSE NEIGHBOUR: 'it returns false'. Refute it at one input. -/
def jsonPrintsWrong : ChangeSpec := { name := "jsonPrints", fn := fun _ => fun
  | [d1, d2] => { results := [.lit (.bool false)], args := [d1, d2] }
  | _ => none }
def JsonPrintsWrongFalsely : Prop := jsonPrintsRow.holds Tryd.pinned (OpenSpec.ofChange jsonPrintsWrong)

/-- 'courantlaw02.JsonKeys': WHATEVER THE INPUT: true; the input reads as it did. -/
def jsonKeysSpec : ChangeSpec := { name := "jsonKeys", fn := fun _ => fun
  | [d1, d2] => { results := [.lit (.bool true)], args := [d1, d2] }
  | _ => none }
def jsonKeysRow : OpenClaim := { program := "ytnhjiioiejpbgaadoor", sum := "612dd5112246592f5c27e7224e44346772e5eb287b3715333b842ebc0ce8ddfc", func := "courant/courantlaw02.JsonKeys", spec := "jsonKeys", unfollowed := true, recurses := true, named := ["unicode/utf8.first", "unicode/utf8.acceptRanges"], apart := false, laid := [("unicode/utf8.acceptRanges", laid_unicode_utf8_acceptRanges), ("unicode/utf8.first", laid_unicode_utf8_first)] }
def JsonKeysSaid : Prop := jsonKeysRow.holds Tryd.pinned (OpenSpec.ofChange jsonKeysSpec)

/-- ITS FALSE NEIGHBOUR: 'it returns false'. Refute it at one input. -/
def jsonKeysWrong : ChangeSpec := { name := "jsonKeys", fn := fun _ => fun
  | [d1, d2] => { results := [.lit (.bool false)], args := [d1, d2] }
  | _ => none }
def JsonKeysWrongFalsely : Prop := jsonKeysRow.holds Tryd.pinned (OpenSpec.ofChange jsonKeysWrong)

/-- 'courantlaw02.JsonWalks': WHATEVER THE INPUT: true; the input reads as it did. -/
def jsonWalksSpec : ChangeSpec := { name := "jsonWalks", fn := fun _ => fun
  | [d1, d2] => { results := [.lit (.bool true)], args := [d1, d2] }
  | _ => none }
def jsonWalksRow : OpenClaim := { program := "ytnhjiioiejpbgaadoor", sum := "612dd5112246592f5c27e7224e44346772e5eb287b3715333b842ebc0ce8ddfc", func := "courant/courantlaw02.JsonWalks", spec := "jsonWalks", unfollowed := true, recurses := true, named := ["unicode/utf8.first", "unicode/utf8.acceptRanges"], loops := true, apart := false, laid := [("unicode/utf8.acceptRanges", laid_unicode_utf8_acceptRanges), ("unicode/utf8.first", laid_unicode_utf8_first)] }
def JsonWalksSaid : Prop := jsonWalksRow.holds Tryd.pinned (OpenSpec.ofChange jsonWalksSpec)

/-- ITS FALSE NEIGHBOUR: 'it returns false'. Refute it at one input. -/
def jsonWalksWrong : ChangeSpec := { name := "jsonWalks", fn := fun _ => fun
  | [d1, d2] => { results := [.lit (.bool false)], args := [d1, d2] }
  | _ => none }
def JsonWalksWrongFalsely : Prop := jsonWalksRow.holds Tryd.pinned (OpenSpec.ofChange jsonWalksWrong)

/- THE SECOND FORM. 'bulk': how many values and letters a reading holds, each counted each time it is reached (what is shared counts as often as it is met; a slice's spare places count too). A statement '..UptoSaid' is the law's where the arguments, and the package variables that the reading takes, are together of bulk at most 1048576: NARROWER than '..Said'. Prove '..Said' where nothing that the law and all that it calls make is longer than what came in: it says more and counts as full. Else prove '..UptoSaid'. A law counts once. -/
mutual
def uptoBulk {H : Type} : DataW H → Nat
  | .lit (.string bytes) => bytes.length + 1
  | .lit _ => 1
  | .nil => 1
  | .ptr d => uptoBulk d + 1
  | .slice elems spare => uptoBulkAll elems + uptoBulkAll spare + 1
  | .agg parts => uptoBulkAll parts + 1
  | .iface _ d => uptoBulk d + 1
  | .map entries => uptoBulkEntries entries + 1
  | .held _ => 1
def uptoBulkAll {H : Type} : List (DataW H) → Nat
  | [] => 0
  | d :: r => uptoBulk d + uptoBulkAll r
def uptoBulkEntries {H : Type} : List (Lit × DataW H) → Nat
  | [] => 0
  | x :: r => uptoBulkEntry x + uptoBulkEntries r
def uptoBulkEntry {H : Type} : Lit × DataW H → Nat
  | (.string bytes, d) => bytes.length + uptoBulk d + 1
  | (_, d) => uptoBulk d + 1
 end
def uptoSmall : (H : Type) → List (DataW H) → Bool := fun _ ds => decide (uptoBulkAll ds ≤ 1048576)
def OpenSpec.upto (s : _root_.Go.ChangeSpec) : _root_.Go.OpenSpec := { _root_.Go.OpenSpec.ofChange s with cond := some uptoSmall }

/-- 'courantlaw02.JsonParses', WHERE WHAT IT READS IS OF BULK AT MOST 1048576: true; the input reads as it did. -/
def jsonParsesUptoRow : OpenClaim := { program := "ytnhjiioiejpbgaadoor", sum := "612dd5112246592f5c27e7224e44346772e5eb287b3715333b842ebc0ce8ddfc", func := "courant/courantlaw02.JsonParses", spec := "jsonParses", unfollowed := true, recurses := true, named := ["unicode/utf8.first", "unicode/utf8.acceptRanges"], apart := false, laid := [("unicode/utf8.acceptRanges", laid_unicode_utf8_acceptRanges), ("unicode/utf8.first", laid_unicode_utf8_first)], narrowed := true }
def JsonParsesUptoSaid : Prop := jsonParsesUptoRow.holds Tryd.pinned (OpenSpec.upto jsonParsesSpec)

/-- 'courantlaw02.JsonBack', WHERE WHAT IT READS IS OF BULK AT MOST 1048576: true; the input reads as it did. -/
def jsonBackUptoRow : OpenClaim := { program := "ytnhjiioiejpbgaadoor", sum := "612dd5112246592f5c27e7224e44346772e5eb287b3715333b842ebc0ce8ddfc", func := "courant/courantlaw02.JsonBack", spec := "jsonBack", unfollowed := true, recurses := true, named := ["unicode/utf8.first", "unicode/utf8.acceptRanges"], loops := true, apart := false, laid := [("unicode/utf8.acceptRanges", laid_unicode_utf8_acceptRanges), ("unicode/utf8.first", laid_unicode_utf8_first)], narrowed := true }
def JsonBackUptoSaid : Prop := jsonBackUptoRow.holds Tryd.pinned (OpenSpec.upto jsonBackSpec)

/-- 'courantlaw02.JsonWhite', WHERE WHAT IT READS IS OF BULK AT MOST 1048576: true; the input reads as it did. -/
def jsonWhiteUptoRow : OpenClaim := { program := "ytnhjiioiejpbgaadoor", sum := "612dd5112246592f5c27e7224e44346772e5eb287b3715333b842ebc0ce8ddfc", func := "courant/courantlaw02.JsonWhite", spec := "jsonWhite", unfollowed := true, recurses := true, named := ["unicode/utf8.first", "unicode/utf8.acceptRanges"], loops := true, apart := false, laid := [("unicode/utf8.acceptRanges", laid_unicode_utf8_acceptRanges), ("unicode/utf8.first", laid_unicode_utf8_first)], narrowed := true }
def JsonWhiteUptoSaid : Prop := jsonWhiteUptoRow.holds Tryd.pinned (OpenSpec.upto jsonWhiteSpec)

/-- 'courantlaw02.JsonStrings', WHERE WHAT IT READS IS OF BULK AT MOST 1048576: true; the input reads as it did. -/
def jsonStringsUptoRow : OpenClaim := { program := "ytnhjiioiejpbgaadoor", sum := "612dd5112246592f5c27e7224e44346772e5eb287b3715333b842ebc0ce8ddfc", func := "courant/courantlaw02.JsonStrings", spec := "jsonStrings", unfollowed := true, recurses := true, named := ["unicode/utf8.first", "unicode/utf8.acceptRanges"], apart := false, laid := [("unicode/utf8.acceptRanges", laid_unicode_utf8_acceptRanges), ("unicode/utf8.first", laid_unicode_utf8_first)], narrowed := true }
def JsonStringsUptoSaid : Prop := jsonStringsUptoRow.holds Tryd.pinned (OpenSpec.upto jsonStringsSpec)

/-- 'courantlaw02.JsonDepths', WHERE WHAT IT READS IS OF BULK AT MOST 1048576: true; the input reads as it did. -/
def jsonDepthsUptoRow : OpenClaim := { program := "ytnhjiioiejpbgaadoor", sum := "612dd5112246592f5c27e7224e44346772e5eb287b3715333b842ebc0ce8ddfc", func := "courant/courantlaw02.JsonDepths", spec := "jsonDepths", unfollowed := true, recurses := true, named := ["unicode/utf8.first", "unicode/utf8.acceptRanges"], apart := false, laid := [("unicode/utf8.acceptRanges", laid_unicode_utf8_acceptRanges), ("unicode/utf8.first", laid_unicode_utf8_first)], narrowed := true }
def JsonDepthsUptoSaid : Prop := jsonDepthsUptoRow.holds Tryd.pinned (OpenSpec.upto jsonDepthsSpec)

/-- 'courantlaw02.JsonPrints', WHERE WHAT IT READS IS OF BULK AT MOST 1048576: true; the input reads as it did. -/
def jsonPrintsUptoRow : OpenClaim := { program := "ytnhjiioiejpbgaadoor", sum := "612dd5112246592f5c27e7224e44346772e5eb287b3715333b842ebc0ce8ddfc", func := "courant/courantlaw02.JsonPrints", spec := "jsonPrints", unfollowed := true, recurses := true, named := ["unicode/utf8.first", "unicode/utf8.acceptRanges"], loops := true, apart := false, laid := [("unicode/utf8.acceptRanges", laid_unicode_utf8_acceptRanges), ("unicode/utf8.first", laid_unicode_utf8_first)], narrowed := true }
def JsonPrintsUptoSaid : Prop := jsonPrintsUptoRow.holds Tryd.pinned (OpenSpec.upto jsonPrintsSpec)

/-- 'courantlaw02.JsonKeys', WHERE WHAT IT READS IS OF BULK AT MOST 1048576: true; the input reads as it did. -/
def jsonKeysUptoRow : OpenClaim := { program := "ytnhjiioiejpbgaadoor", sum := "612dd5112246592f5c27e7224e44346772e5eb287b3715333b842ebc0ce8ddfc", func := "courant/courantlaw02.JsonKeys", spec := "jsonKeys", unfollowed := true, recurses := true, named := ["unicode/utf8.first", "unicode/utf8.acceptRanges"], apart := false, laid := [("unicode/utf8.acceptRanges", laid_unicode_utf8_acceptRanges), ("unicode/utf8.first", laid_unicode_utf8_first)], narrowed := true }
def JsonKeysUptoSaid : Prop := jsonKeysUptoRow.holds Tryd.pinned (OpenSpec.upto jsonKeysSpec)

/-- 'courantlaw02.JsonWalks', WHERE WHAT IT READS IS OF BULK AT MOST 1048576: true; the input reads as it did. -/
def jsonWalksUptoRow : OpenClaim := { program := "ytnhjiioiejpbgaadoor", sum := "612dd5112246592f5c27e7224e44346772e5eb287b3715333b842ebc0ce8ddfc", func := "courant/courantlaw02.JsonWalks", spec := "jsonWalks", unfollowed := true, recurses := true, named := ["unicode/utf8.first", "unicode/utf8.acceptRanges"], loops := true, apart := false, laid := [("unicode/utf8.acceptRanges", laid_unicode_utf8_acceptRanges), ("unicode/utf8.first", laid_unicode_utf8_first)], narrowed := true }
def JsonWalksUptoSaid : Prop := jsonWalksUptoRow.holds Tryd.pinned (OpenSpec.upto jsonWalksSpec)

end Rows
end Go.Proofs.YtnhjiioiejpbgaaDoor
