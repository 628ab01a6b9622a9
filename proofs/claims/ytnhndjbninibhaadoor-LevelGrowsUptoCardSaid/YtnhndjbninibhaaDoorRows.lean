/-
  NARROWER THAN 'FOR EVERY INPUT', by the rows' own cells (each row's printed sentence says how): CheckSelf: laid · CheckEnds: laid · CheckFields: laid · CheckUnions: laid · LevelMore: laid · LevelAll: laid · LevelGrows: laid.
  DERIVED. THE GIVEN ROWS OF THIS SEAT. 7 by the template 'for every input the law returns true; each argument reads behind the call as it read before'; 0 by the template 'total and deterministic' (their statements: YtnhndjbninibhaaDoorTotals.lean).
  GIVEN WITH THE SEED: the statements are not yours to turn. If you find one false, say at which input.
  Laid BY PROGRAM, IN A SANDBOX (cutbox-rows.mjs): the forced cells as the released guide's own fill.sh prints them over the translation 0e909449a1decab4… (all of the seat's roots in one cut). By AI agents, Wed Nov 11 2026. No macro, syntax, notation, axiom, sorry.
-/
import Derived.Test.YtnhndjbninibhaaDoorChecked
import GoSem.PinnedTables
import GoSem.Claim
import GoSem.ClaimJoined
import GoSem.ClaimMapViews
import Derived.JoinedTies
import Derived.KernelRfl
namespace Go.Proofs.YtnhndjbninibhaaDoor
/- THE CELL 'sum', in the pinned program and in every row, IS THE sha256 OF THE DUMP (.gsa) THAT YtnhndjbninibhaaDoorProg.lean LOADS. Nothing in Lean hashes anything: it is a label: what it is worth is what the hold of that sum in a sandbox is worth. -/
noncomputable def Tryd.pinned : Pinned := { name := "ytnhndjbninibhaadoor", sum := "0e909449a1decab48d9f0f902e6d4994b6e98bc24e99bec1cf5613f32f854700", checked := Tryd.checked }
namespace Rows
def none {H : Type} : Left H := { results := [], args := [] }

/- WHAT THE LISTED PACKAGE-LEVEL VARIABLES READ AS WHEN THE CALL BEGINS. Each datum BY PROGRAM (the guide's laid-datum.mjs) off the statement by which the dump's own 'gosem.cut.vars' lays the variable. In a bare row this is a premise. The card (YtnhndjbninibhaaDoorCards.lean) ties it to the program's text. -/
def laid_unicode_utf8_acceptRanges {H : Type} : DataW H := .agg [.agg [.lit (.int .u8 128), .lit (.int .u8 191)], .agg [.lit (.int .u8 160), .lit (.int .u8 191)], .agg [.lit (.int .u8 128), .lit (.int .u8 159)], .agg [.lit (.int .u8 144), .lit (.int .u8 191)], .agg [.lit (.int .u8 128), .lit (.int .u8 143)], .agg [.lit (.int .u8 0), .lit (.int .u8 0)], .agg [.lit (.int .u8 0), .lit (.int .u8 0)], .agg [.lit (.int .u8 0), .lit (.int .u8 0)], .agg [.lit (.int .u8 0), .lit (.int .u8 0)], .agg [.lit (.int .u8 0), .lit (.int .u8 0)], .agg [.lit (.int .u8 0), .lit (.int .u8 0)], .agg [.lit (.int .u8 0), .lit (.int .u8 0)], .agg [.lit (.int .u8 0), .lit (.int .u8 0)], .agg [.lit (.int .u8 0), .lit (.int .u8 0)], .agg [.lit (.int .u8 0), .lit (.int .u8 0)], .agg [.lit (.int .u8 0), .lit (.int .u8 0)]]
/-- One of Go's own tables, pinned by name: the form's constant. -/
def laid_unicode_utf8_first : DataW Unit := Go.Pinned.utf8First

/-- 'courantlaw12.CheckSelf': WHATEVER THE INPUT: true; the input reads as it did. -/
def checkSelfSpec : ChangeSpec := { name := "checkSelf", fn := fun _ => fun
  | [d] => { results := [.lit (.bool true)], args := [d] }
  | _ => none }
def checkSelfRow : OpenClaim := { program := "ytnhndjbninibhaadoor", sum := "0e909449a1decab48d9f0f902e6d4994b6e98bc24e99bec1cf5613f32f854700", func := "courant/courantlaw12.CheckSelf", spec := "checkSelf", unfollowed := true, recurses := true, named := ["unicode/utf8.first", "unicode/utf8.acceptRanges"], plainKeys := false, apart := false, laid := [("unicode/utf8.acceptRanges", laid_unicode_utf8_acceptRanges), ("unicode/utf8.first", laid_unicode_utf8_first)] }
def CheckSelfSaid : Prop := checkSelfRow.holds Tryd.pinned (OpenSpec.ofChange checkSelfSpec)

/-- ITS FALSE NEIGHBOUR: 'it returns false'. Refute it at one input. -/
def checkSelfWrong : ChangeSpec := { name := "checkSelf", fn := fun _ => fun
  | [d] => { results := [.lit (.bool false)], args := [d] }
  | _ => none }
def CheckSelfWrongFalsely : Prop := checkSelfRow.holds Tryd.pinned (OpenSpec.ofChange checkSelfWrong)

/-- 'courantlaw12.CheckEnds': WHATEVER THE INPUT: true; the input reads as it did. -/
def checkEndsSpec : ChangeSpec := { name := "checkEnds", fn := fun _ => fun
  | [d1, d2, d3] => { results := [.lit (.bool true)], args := [d1, d2, d3] }
  | _ => none }
def checkEndsRow : OpenClaim := { program := "ytnhndjbninibhaadoor", sum := "0e909449a1decab48d9f0f902e6d4994b6e98bc24e99bec1cf5613f32f854700", func := "courant/courantlaw12.CheckEnds", spec := "checkEnds", unfollowed := true, recurses := true, named := ["unicode/utf8.first", "unicode/utf8.acceptRanges"], plainKeys := false, apart := false, laid := [("unicode/utf8.acceptRanges", laid_unicode_utf8_acceptRanges), ("unicode/utf8.first", laid_unicode_utf8_first)] }
def CheckEndsSaid : Prop := checkEndsRow.holds Tryd.pinned (OpenSpec.ofChange checkEndsSpec)

/-- ITS FALSE NEIGHBOUR: 'it returns false'. Refute it at one input. -/
def checkEndsWrong : ChangeSpec := { name := "checkEnds", fn := fun _ => fun
  | [d1, d2, d3] => { results := [.lit (.bool false)], args := [d1, d2, d3] }
  | _ => none }
def CheckEndsWrongFalsely : Prop := checkEndsRow.holds Tryd.pinned (OpenSpec.ofChange checkEndsWrong)

/-- 'courantlaw12.CheckFields': WHATEVER THE INPUT: true; the input reads as it did. -/
def checkFieldsSpec : ChangeSpec := { name := "checkFields", fn := fun _ => fun
  | [d1, d2, d3, d4, d5] => { results := [.lit (.bool true)], args := [d1, d2, d3, d4, d5] }
  | _ => none }
def checkFieldsRow : OpenClaim := { program := "ytnhndjbninibhaadoor", sum := "0e909449a1decab48d9f0f902e6d4994b6e98bc24e99bec1cf5613f32f854700", func := "courant/courantlaw12.CheckFields", spec := "checkFields", unfollowed := true, recurses := true, named := ["unicode/utf8.first", "unicode/utf8.acceptRanges"], plainKeys := false, apart := false, laid := [("unicode/utf8.acceptRanges", laid_unicode_utf8_acceptRanges), ("unicode/utf8.first", laid_unicode_utf8_first)] }
def CheckFieldsSaid : Prop := checkFieldsRow.holds Tryd.pinned (OpenSpec.ofChange checkFieldsSpec)

/-- ITS FALSE NEIGHBOUR: 'it returns false'. Refute it at one input. -/
def checkFieldsWrong : ChangeSpec := { name := "checkFields", fn := fun _ => fun
  | [d1, d2, d3, d4, d5] => { results := [.lit (.bool false)], args := [d1, d2, d3, d4, d5] }
  | _ => none }
def CheckFieldsWrongFalsely : Prop := checkFieldsRow.holds Tryd.pinned (OpenSpec.ofChange checkFieldsWrong)

/-- 'courantlaw12.CheckUnions': WHATEVER THE INPUT: true; the input reads as it did. -/
def checkUnionsSpec : ChangeSpec := { name := "checkUnions", fn := fun _ => fun
  | [d1, d2] => { results := [.lit (.bool true)], args := [d1, d2] }
  | _ => none }
def checkUnionsRow : OpenClaim := { program := "ytnhndjbninibhaadoor", sum := "0e909449a1decab48d9f0f902e6d4994b6e98bc24e99bec1cf5613f32f854700", func := "courant/courantlaw12.CheckUnions", spec := "checkUnions", unfollowed := true, recurses := true, named := ["unicode/utf8.first", "unicode/utf8.acceptRanges"], plainKeys := false, apart := false, laid := [("unicode/utf8.acceptRanges", laid_unicode_utf8_acceptRanges), ("unicode/utf8.first", laid_unicode_utf8_first)] }
def CheckUnionsSaid : Prop := checkUnionsRow.holds Tryd.pinned (OpenSpec.ofChange checkUnionsSpec)

/-- ITS FALSE NEIGHBOUR: 'it returns false'. Refute it at one input. -/
def checkUnionsWrong : ChangeSpec := { name := "checkUnions", fn := fun _ => fun
  | [d1, d2] => { results := [.lit (.bool false)], args := [d1, d2] }
  | _ => none }
def CheckUnionsWrongFalsely : Prop := checkUnionsRow.holds Tryd.pinned (OpenSpec.ofChange checkUnionsWrong)

/-- 'courantlaw13.LevelMore': WHATEVER THE INPUT: true; the input reads as it did. -/
def levelMoreSpec : ChangeSpec := { name := "levelMore", fn := fun _ => fun
  | [d1, d2] => { results := [.lit (.bool true)], args := [d1, d2] }
  | _ => none }
def levelMoreRow : OpenClaim := { program := "ytnhndjbninibhaadoor", sum := "0e909449a1decab48d9f0f902e6d4994b6e98bc24e99bec1cf5613f32f854700", func := "courant/courantlaw13.LevelMore", spec := "levelMore", unfollowed := true, recurses := true, named := ["unicode/utf8.first", "unicode/utf8.acceptRanges"], plainKeys := false, apart := false, laid := [("unicode/utf8.acceptRanges", laid_unicode_utf8_acceptRanges), ("unicode/utf8.first", laid_unicode_utf8_first)] }
def LevelMoreSaid : Prop := levelMoreRow.holds Tryd.pinned (OpenSpec.ofChange levelMoreSpec)

/-- ITS FALSE NEIGHBOUR: 'it returns false'. Refute it at one input. -/
def levelMoreWrong : ChangeSpec := { name := "levelMore", fn := fun _ => fun
  | [d1, d2] => { results := [.lit (.bool false)], args := [d1, d2] }
  | _ => none }
def LevelMoreWrongFalsely : Prop := levelMoreRow.holds Tryd.pinned (OpenSpec.ofChange levelMoreWrong)

/-- 'courantlaw13.LevelAll': WHATEVER THE INPUT: true; the input reads as it did. -/
def levelAllSpec : ChangeSpec := { name := "levelAll", fn := fun _ => fun
  | [d1, d2] => { results := [.lit (.bool true)], args := [d1, d2] }
  | _ => none }
def levelAllRow : OpenClaim := { program := "ytnhndjbninibhaadoor", sum := "0e909449a1decab48d9f0f902e6d4994b6e98bc24e99bec1cf5613f32f854700", func := "courant/courantlaw13.LevelAll", spec := "levelAll", unfollowed := true, recurses := true, named := ["unicode/utf8.first", "unicode/utf8.acceptRanges"], plainKeys := false, apart := false, laid := [("unicode/utf8.acceptRanges", laid_unicode_utf8_acceptRanges), ("unicode/utf8.first", laid_unicode_utf8_first)] }
def LevelAllSaid : Prop := levelAllRow.holds Tryd.pinned (OpenSpec.ofChange levelAllSpec)

/-- ITS FALSE NEIGHBOUR: 'it returns false'. Refute it at one input. -/
def levelAllWrong : ChangeSpec := { name := "levelAll", fn := fun _ => fun
  | [d1, d2] => { results := [.lit (.bool false)], args := [d1, d2] }
  | _ => none }
def LevelAllWrongFalsely : Prop := levelAllRow.holds Tryd.pinned (OpenSpec.ofChange levelAllWrong)

/-- 'courantlaw13.LevelGrows': WHATEVER THE INPUT: true; the input reads as it did. -/
def levelGrowsSpec : ChangeSpec := { name := "levelGrows", fn := fun _ => fun
  | [d1, d2, d3, d4] => { results := [.lit (.bool true)], args := [d1, d2, d3, d4] }
  | _ => none }
def levelGrowsRow : OpenClaim := { program := "ytnhndjbninibhaadoor", sum := "0e909449a1decab48d9f0f902e6d4994b6e98bc24e99bec1cf5613f32f854700", func := "courant/courantlaw13.LevelGrows", spec := "levelGrows", unfollowed := true, recurses := true, named := ["unicode/utf8.first", "unicode/utf8.acceptRanges"], plainKeys := false, apart := false, laid := [("unicode/utf8.acceptRanges", laid_unicode_utf8_acceptRanges), ("unicode/utf8.first", laid_unicode_utf8_first)] }
def LevelGrowsSaid : Prop := levelGrowsRow.holds Tryd.pinned (OpenSpec.ofChange levelGrowsSpec)

/-- ITS FALSE NEIGHBOUR: 'it returns false'. Refute it at one input. -/
def levelGrowsWrong : ChangeSpec := { name := "levelGrows", fn := fun _ => fun
  | [d1, d2, d3, d4] => { results := [.lit (.bool false)], args := [d1, d2, d3, d4] }
  | _ => none }
def LevelGrowsWrongFalsely : Prop := levelGrowsRow.holds Tryd.pinned (OpenSpec.ofChange levelGrowsWrong)

/- THE SECOND FORM. 'bulk': how many values and letters a reading holds, each counted each time it is reached (what is shared counts as often as it is met; a slice's spare places count too). A statement '..UptoSaid' is the law's where the arguments, and the package variables that the reading takes, are together of bulk at most 1048576: NARROWER than '..Said'. Prove '..Said' where nothing that the law and all that it calls make is longer than what came in: it says more and counts as full. Else prove '..UptoSaid'. A law counts once. -/
mutual
def uptoBulk {H : Type} : DataW H → Nat
  | .lit (.string bytes) => bytes.length + 1
  | .lit _ => 1
  | .nil => 1
  | .ptr d => uptoBulk d + 1
  | .slice elems spare => uptoBulkAll elems + uptoBulkAll spare + 1
  | .agg parts => uptoBulkAll parts + 1
  | .iface _ d => uptoBulk d + 1
  | .map entries => uptoBulkEntries entries + 1
  | .held _ => 1
def uptoBulkAll {H : Type} : List (DataW H) → Nat
  | [] => 0
  | d :: r => uptoBulk d + uptoBulkAll r
def uptoBulkEntries {H : Type} : List (Lit × DataW H) → Nat
  | [] => 0
  | x :: r => uptoBulkEntry x + uptoBulkEntries r
def uptoBulkEntry {H : Type} : Lit × DataW H → Nat
  | (.string bytes, d) => bytes.length + uptoBulk d + 1
  | (_, d) => uptoBulk d + 1
 end
def uptoSmall : (H : Type) → List (DataW H) → Bool := fun _ ds => decide (uptoBulkAll ds ≤ 1048576)
def OpenSpec.upto (s : _root_.Go.ChangeSpec) : _root_.Go.OpenSpec := { _root_.Go.OpenSpec.ofChange s with cond := some uptoSmall }

/-- 'courantlaw12.CheckSelf', WHERE WHAT IT READS IS OF BULK AT MOST 1048576: true; the input reads as it did. -/
def checkSelfUptoRow : OpenClaim := { program := "ytnhndjbninibhaadoor", sum := "0e909449a1decab48d9f0f902e6d4994b6e98bc24e99bec1cf5613f32f854700", func := "courant/courantlaw12.CheckSelf", spec := "checkSelf", unfollowed := true, recurses := true, named := ["unicode/utf8.first", "unicode/utf8.acceptRanges"], plainKeys := false, apart := false, laid := [("unicode/utf8.acceptRanges", laid_unicode_utf8_acceptRanges), ("unicode/utf8.first", laid_unicode_utf8_first)], narrowed := true }
def CheckSelfUptoSaid : Prop := checkSelfUptoRow.holds Tryd.pinned (OpenSpec.upto checkSelfSpec)

/-- 'courantlaw12.CheckEnds', WHERE WHAT IT READS IS OF BULK AT MOST 1048576: true; the input reads as it did. -/
def checkEndsUptoRow : OpenClaim := { program := "ytnhndjbninibhaadoor", sum := "0e909449a1decab48d9f0f902e6d4994b6e98bc24e99bec1cf5613f32f854700", func := "courant/courantlaw12.CheckEnds", spec := "checkEnds", unfollowed := true, recurses := true, named := ["unicode/utf8.first", "unicode/utf8.acceptRanges"], plainKeys := false, apart := false, laid := [("unicode/utf8.acceptRanges", laid_unicode_utf8_acceptRanges), ("unicode/utf8.first", laid_unicode_utf8_first)], narrowed := true }
def CheckEndsUptoSaid : Prop := checkEndsUptoRow.holds Tryd.pinned (OpenSpec.upto checkEndsSpec)

/-- 'courantlaw12.CheckFields', WHERE WHAT IT READS IS OF BULK AT MOST 1048576: true; the input reads as it did. -/
def checkFieldsUptoRow : OpenClaim := { program := "ytnhndjbninibhaadoor", sum := "0e909449a1decab48d9f0f902e6d4994b6e98bc24e99bec1cf5613f32f854700", func := "courant/courantlaw12.CheckFields", spec := "checkFields", unfollowed := true, recurses := true, named := ["unicode/utf8.first", "unicode/utf8.acceptRanges"], plainKeys := false, apart := false, laid := [("unicode/utf8.acceptRanges", laid_unicode_utf8_acceptRanges), ("unicode/utf8.first", laid_unicode_utf8_first)], narrowed := true }
def CheckFieldsUptoSaid : Prop := checkFieldsUptoRow.holds Tryd.pinned (OpenSpec.upto checkFieldsSpec)

/-- 'courantlaw12.CheckUnions', WHERE WHAT IT READS IS OF BULK AT MOST 1048576: true; the input reads as it did. -/
def checkUnionsUptoRow : OpenClaim := { program := "ytnhndjbninibhaadoor", sum := "0e909449a1decab48d9f0f902e6d4994b6e98bc24e99bec1cf5613f32f854700", func := "courant/courantlaw12.CheckUnions", spec := "checkUnions", unfollowed := true, recurses := true, named := ["unicode/utf8.first", "unicode/utf8.acceptRanges"], plainKeys := false, apart := false, laid := [("unicode/utf8.acceptRanges", laid_unicode_utf8_acceptRanges), ("unicode/utf8.first", laid_unicode_utf8_first)], narrowed := true }
def CheckUnionsUptoSaid : Prop := checkUnionsUptoRow.holds Tryd.pinned (OpenSpec.upto checkUnionsSpec)

/-- 'courantlaw13.LevelMore', WHERE WHAT IT READS IS OF BULK AT MOST 1048576: true; the input reads as it did. -/
def levelMoreUptoRow : OpenClaim := { program := "ytnhndjbninibhaadoor", sum := "0e909449a1decab48d9f0f902e6d4994b6e98bc24e99bec1cf5613f32f854700", func := "courant/courantlaw13.LevelMore", spec := "levelMore", unfollowed := true, recurses := true, named := ["unicode/utf8.first", "unicode/utf8.acceptRanges"], plainKeys := false, apart := false, laid := [("unicode/utf8.acceptRanges", laid_unicode_utf8_acceptRanges), ("unicode/utf8.first", laid_unicode_utf8_first)], narrowed := true }
def LevelMoreUptoSaid : Prop := levelMoreUptoRow.holds Tryd.pinned (OpenSpec.upto levelMoreSpec)

/-- 'courantlaw13.LevelAll', WHERE WHAT IT READS IS OF BULK AT MOST 1048576: true; the input reads as it did. -/
def levelAllUptoRow : OpenClaim := { program := "ytnhndjbninibhaadoor", sum := "0e909449a1decab48d9f0f902e6d4994b6e98bc24e99bec1cf5613f32f854700", func := "courant/courantlaw13.LevelAll", spec := "levelAll", unfollowed := true, recurses := true, named := ["unicode/utf8.first", "unicode/utf8.acceptRanges"], plainKeys := false, apart := false, laid := [("unicode/utf8.acceptRanges", laid_unicode_utf8_acceptRanges), ("unicode/utf8.first", laid_unicode_utf8_first)], narrowed := true }
def LevelAllUptoSaid : Prop := levelAllUptoRow.holds Tryd.pinned (OpenSpec.upto levelAllSpec)

/-- 'courantlaw13.LevelGrows', WHERE WHAT IT READS IS OF BULK AT MOST 1048576: true; the input reads as it did. -/
def levelGrowsUptoRow : OpenClaim := { program := "ytnhndjbninibhaadoor", sum := "0e909449a1decab48d9f0f902e6d4994b6e98bc24e99bec1cf5613f32f854700", func := "courant/courantlaw13.LevelGrows", spec := "levelGrows", unfollowed := true, recurses := true, named := ["unicode/utf8.first", "unicode/utf8.acceptRanges"], plainKeys := false, apart := false, laid := [("unicode/utf8.acceptRanges", laid_unicode_utf8_acceptRanges), ("unicode/utf8.first", laid_unicode_utf8_first)], narrowed := true }
def LevelGrowsUptoSaid : Prop := levelGrowsUptoRow.holds Tryd.pinned (OpenSpec.upto levelGrowsSpec)

end Rows
end Go.Proofs.YtnhndjbninibhaaDoor
