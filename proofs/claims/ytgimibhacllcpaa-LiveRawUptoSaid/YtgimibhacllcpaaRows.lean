/-
  No cell of these rows narrows 'for every input' (looked for: loops, veiled, ifaces, maps, wideKeys, modest, calm, conditions, laid).
  DERIVED. THE GIVEN ROWS OF THIS SEAT. 18 by the template 'for every input the law returns true; each argument reads behind the call as it read before'; 0 by the template 'total and deterministic' (their statements: YtgimibhacllcpaaTotals.lean).
  GIVEN WITH THE SEED: the statements are not yours to turn. If you find one false, say at which input.
  Laid BY PROGRAM, IN A SANDBOX (cutbox-rows.mjs): the forced cells as the released guide's own fill.sh prints them over the translation 717cf7a1fbdc41ff… (all of the seat's roots in one cut). By AI agents, Wed Nov 11 2026. No macro, syntax, notation, axiom, sorry.
-/
import Derived.Test.YtgimibhacllcpaaChecked
import GoSem.Claim
import GoSem.ClaimJoined
import GoSem.ClaimMapViews
import Derived.JoinedTies
import Derived.KernelRfl
namespace Go.Proofs.Ytgimibhacllcpaa
/- THE CELL 'sum', in the pinned program and in every row, IS THE sha256 OF THE DUMP (.gsa) THAT YtgimibhacllcpaaProg.lean LOADS. Nothing in Lean hashes anything: it is a label: what it is worth is what the hold of that sum in a sandbox is worth. -/
noncomputable def Try.pinned : Pinned := { name := "ytgimibhacllcpaa", sum := "717cf7a1fbdc41ff739694bddf374e130d4f33afaad11c7dec01226115bc938c", checked := Try.checked }
namespace Rows
def none {H : Type} : Left H := { results := [], args := [] }

/-- 'courantlaw19.IndexAdds': WHATEVER THE INPUT: true; the input reads as it did. -/
def indexAddsSpec : ChangeSpec := { name := "indexAdds", fn := fun _ => fun
  | [d] => { results := [.lit (.bool true)], args := [d] }
  | _ => none }
def indexAddsRow : OpenClaim := { program := "ytgimibhacllcpaa", sum := "717cf7a1fbdc41ff739694bddf374e130d4f33afaad11c7dec01226115bc938c", func := "courant/courantlaw19.IndexAdds", spec := "indexAdds", unfollowed := true, recurses := true, apart := false }
def IndexAddsSaid : Prop := indexAddsRow.holds Try.pinned (OpenSpec.ofChange indexAddsSpec)

/-- ITS FALSE NEIGHBOUR: 'it returns false'. Refute it at one input. -/
def indexAddsWrong : ChangeSpec := { name := "indexAdds", fn := fun _ => fun
  | [d] => { results := [.lit (.bool false)], args := [d] }
  | _ => none }
def IndexAddsWrongFalsely : Prop := indexAddsRow.holds Try.pinned (OpenSpec.ofChange indexAddsWrong)

/-- 'courantlaw17.CrcSums': WHATEVER THE INPUT: true; the input reads as it did. -/
def crcSumsSpec : ChangeSpec := { name := "crcSums", fn := fun _ => fun
  | [d1, d2] => { results := [.lit (.bool true)], args := [d1, d2] }
  | _ => none }
def crcSumsRow : OpenClaim := { program := "ytgimibhacllcpaa", sum := "717cf7a1fbdc41ff739694bddf374e130d4f33afaad11c7dec01226115bc938c", func := "courant/courantlaw17.CrcSums", spec := "crcSums", unfollowed := true, recurses := true, apart := false }
def CrcSumsSaid : Prop := crcSumsRow.holds Try.pinned (OpenSpec.ofChange crcSumsSpec)

/-- ITS FALSE NEIGHBOUR: 'it returns false'. Refute it at one input. -/
def crcSumsWrong : ChangeSpec := { name := "crcSums", fn := fun _ => fun
  | [d1, d2] => { results := [.lit (.bool false)], args := [d1, d2] }
  | _ => none }
def CrcSumsWrongFalsely : Prop := crcSumsRow.holds Try.pinned (OpenSpec.ofChange crcSumsWrong)

/-- 'courantlaw17.CrcParts': WHATEVER THE INPUT: true; the input reads as it did. -/
def crcPartsSpec : ChangeSpec := { name := "crcParts", fn := fun _ => fun
  | [d1, d2] => { results := [.lit (.bool true)], args := [d1, d2] }
  | _ => none }
def crcPartsRow : OpenClaim := { program := "ytgimibhacllcpaa", sum := "717cf7a1fbdc41ff739694bddf374e130d4f33afaad11c7dec01226115bc938c", func := "courant/courantlaw17.CrcParts", spec := "crcParts", unfollowed := true, recurses := true, apart := false }
def CrcPartsSaid : Prop := crcPartsRow.holds Try.pinned (OpenSpec.ofChange crcPartsSpec)

/-- ITS FALSE NEIGHBOUR: 'it returns false'. Refute it at one input. -/
def crcPartsWrong : ChangeSpec := { name := "crcParts", fn := fun _ => fun
  | [d1, d2] => { results := [.lit (.bool false)], args := [d1, d2] }
  | _ => none }
def CrcPartsWrongFalsely : Prop := crcPartsRow.holds Try.pinned (OpenSpec.ofChange crcPartsWrong)

/-- 'courantlaw17.CrcBurst': WHATEVER THE INPUT: true; the input reads as it did. -/
def crcBurstSpec : ChangeSpec := { name := "crcBurst", fn := fun _ => fun
  | [d1, d2, d3] => { results := [.lit (.bool true)], args := [d1, d2, d3] }
  | _ => none }
def crcBurstRow : OpenClaim := { program := "ytgimibhacllcpaa", sum := "717cf7a1fbdc41ff739694bddf374e130d4f33afaad11c7dec01226115bc938c", func := "courant/courantlaw17.CrcBurst", spec := "crcBurst", unfollowed := true, recurses := true, apart := false }
def CrcBurstSaid : Prop := crcBurstRow.holds Try.pinned (OpenSpec.ofChange crcBurstSpec)

/-- ITS FALSE NEIGHBOUR: 'it returns false'. Refute it at one input. -/
def crcBurstWrong : ChangeSpec := { name := "crcBurst", fn := fun _ => fun
  | [d1, d2, d3] => { results := [.lit (.bool false)], args := [d1, d2, d3] }
  | _ => none }
def CrcBurstWrongFalsely : Prop := crcBurstRow.holds Try.pinned (OpenSpec.ofChange crcBurstWrong)

/-- 'courantlaw17.CrcLinear': WHATEVER THE INPUT: true; the input reads as it did. -/
def crcLinearSpec : ChangeSpec := { name := "crcLinear", fn := fun _ => fun
  | [d1, d2, d3] => { results := [.lit (.bool true)], args := [d1, d2, d3] }
  | _ => none }
def crcLinearRow : OpenClaim := { program := "ytgimibhacllcpaa", sum := "717cf7a1fbdc41ff739694bddf374e130d4f33afaad11c7dec01226115bc938c", func := "courant/courantlaw17.CrcLinear", spec := "crcLinear", unfollowed := true, recurses := true, apart := false }
def CrcLinearSaid : Prop := crcLinearRow.holds Try.pinned (OpenSpec.ofChange crcLinearSpec)

/-- ITS FALSE NEIGHBOUR: 'it returns false'. Refute it at one input. -/
def crcLinearWrong : ChangeSpec := { name := "crcLinear", fn := fun _ => fun
  | [d1, d2, d3] => { results := [.lit (.bool false)], args := [d1, d2, d3] }
  | _ => none }
def CrcLinearWrongFalsely : Prop := crcLinearRow.holds Try.pinned (OpenSpec.ofChange crcLinearWrong)

/-- 'courantlaw19.IndexTells': WHATEVER THE INPUT: true; the input reads as it did. -/
def indexTellsSpec : ChangeSpec := { name := "indexTells", fn := fun _ => fun
  | [d1, d2] => { results := [.lit (.bool true)], args := [d1, d2] }
  | _ => none }
def indexTellsRow : OpenClaim := { program := "ytgimibhacllcpaa", sum := "717cf7a1fbdc41ff739694bddf374e130d4f33afaad11c7dec01226115bc938c", func := "courant/courantlaw19.IndexTells", spec := "indexTells", unfollowed := true, recurses := true, apart := false }
def IndexTellsSaid : Prop := indexTellsRow.holds Try.pinned (OpenSpec.ofChange indexTellsSpec)

/-- ITS FALSE NEIGHBOUR: 'it returns false'. Refute it at one input. -/
def indexTellsWrong : ChangeSpec := { name := "indexTells", fn := fun _ => fun
  | [d1, d2] => { results := [.lit (.bool false)], args := [d1, d2] }
  | _ => none }
def IndexTellsWrongFalsely : Prop := indexTellsRow.holds Try.pinned (OpenSpec.ofChange indexTellsWrong)

/-- 'courantlaw19.IndexFinds': WHATEVER THE INPUT: true; the input reads as it did. -/
def indexFindsSpec : ChangeSpec := { name := "indexFinds", fn := fun _ => fun
  | [d1, d2, d3] => { results := [.lit (.bool true)], args := [d1, d2, d3] }
  | _ => none }
def indexFindsRow : OpenClaim := { program := "ytgimibhacllcpaa", sum := "717cf7a1fbdc41ff739694bddf374e130d4f33afaad11c7dec01226115bc938c", func := "courant/courantlaw19.IndexFinds", spec := "indexFinds", apart := false }
def IndexFindsSaid : Prop := indexFindsRow.holds Try.pinned (OpenSpec.ofChange indexFindsSpec)

/-- ITS FALSE NEIGHBOUR: 'it returns false'. Refute it at one input. -/
def indexFindsWrong : ChangeSpec := { name := "indexFinds", fn := fun _ => fun
  | [d1, d2, d3] => { results := [.lit (.bool false)], args := [d1, d2, d3] }
  | _ => none }
def IndexFindsWrongFalsely : Prop := indexFindsRow.holds Try.pinned (OpenSpec.ofChange indexFindsWrong)

/-- 'courantlaw18.FrameMakes': WHATEVER THE INPUT: true; the input reads as it did. -/
def frameMakesSpec : ChangeSpec := { name := "frameMakes", fn := fun _ => fun
  | [d1, d2] => { results := [.lit (.bool true)], args := [d1, d2] }
  | _ => none }
def frameMakesRow : OpenClaim := { program := "ytgimibhacllcpaa", sum := "717cf7a1fbdc41ff739694bddf374e130d4f33afaad11c7dec01226115bc938c", func := "courant/courantlaw18.FrameMakes", spec := "frameMakes", unfollowed := true, recurses := true, apart := false }
def FrameMakesSaid : Prop := frameMakesRow.holds Try.pinned (OpenSpec.ofChange frameMakesSpec)

/-- ITS FALSE NEIGHBOUR: 'it returns false'. Refute it at one input. -/
def frameMakesWrong : ChangeSpec := { name := "frameMakes", fn := fun _ => fun
  | [d1, d2] => { results := [.lit (.bool false)], args := [d1, d2] }
  | _ => none }
def FrameMakesWrongFalsely : Prop := frameMakesRow.holds Try.pinned (OpenSpec.ofChange frameMakesWrong)

/-- 'courantlaw18.FrameLimit': WHATEVER THE INPUT: true; the input reads as it did. -/
def frameLimitSpec : ChangeSpec := { name := "frameLimit", fn := fun _ => fun
  | [d] => { results := [.lit (.bool true)], args := [d] }
  | _ => none }
def frameLimitRow : OpenClaim := { program := "ytgimibhacllcpaa", sum := "717cf7a1fbdc41ff739694bddf374e130d4f33afaad11c7dec01226115bc938c", func := "courant/courantlaw18.FrameLimit", spec := "frameLimit", unfollowed := true, recurses := true, apart := false }
def FrameLimitSaid : Prop := frameLimitRow.holds Try.pinned (OpenSpec.ofChange frameLimitSpec)

/-- ITS FALSE NEIGHBOUR: 'it returns false'. Refute it at one input. -/
def frameLimitWrong : ChangeSpec := { name := "frameLimit", fn := fun _ => fun
  | [d] => { results := [.lit (.bool false)], args := [d] }
  | _ => none }
def FrameLimitWrongFalsely : Prop := frameLimitRow.holds Try.pinned (OpenSpec.ofChange frameLimitWrong)

/-- 'courantlaw09.MatchFirst': WHATEVER THE INPUT: true; the input reads as it did. -/
def matchFirstSpec : ChangeSpec := { name := "matchFirst", fn := fun _ => fun
  | [d1, d2, d3, d4] => { results := [.lit (.bool true)], args := [d1, d2, d3, d4] }
  | _ => none }
def matchFirstRow : OpenClaim := { program := "ytgimibhacllcpaa", sum := "717cf7a1fbdc41ff739694bddf374e130d4f33afaad11c7dec01226115bc938c", func := "courant/courantlaw09.MatchFirst", spec := "matchFirst", apart := false }
def MatchFirstSaid : Prop := matchFirstRow.holds Try.pinned (OpenSpec.ofChange matchFirstSpec)

/-- ITS FALSE NEIGHBOUR: 'it returns false'. Refute it at one input. -/
def matchFirstWrong : ChangeSpec := { name := "matchFirst", fn := fun _ => fun
  | [d1, d2, d3, d4] => { results := [.lit (.bool false)], args := [d1, d2, d3, d4] }
  | _ => none }
def MatchFirstWrongFalsely : Prop := matchFirstRow.holds Try.pinned (OpenSpec.ofChange matchFirstWrong)

/-- 'courantlaw09.MatchNodes': WHATEVER THE INPUT: true; the input reads as it did. -/
def matchNodesSpec : ChangeSpec := { name := "matchNodes", fn := fun _ => fun
  | [d1, d2] => { results := [.lit (.bool true)], args := [d1, d2] }
  | _ => none }
def matchNodesRow : OpenClaim := { program := "ytgimibhacllcpaa", sum := "717cf7a1fbdc41ff739694bddf374e130d4f33afaad11c7dec01226115bc938c", func := "courant/courantlaw09.MatchNodes", spec := "matchNodes", unfollowed := true, recurses := true, apart := false }
def MatchNodesSaid : Prop := matchNodesRow.holds Try.pinned (OpenSpec.ofChange matchNodesSpec)

/-- ITS FALSE NEIGHBOUR: 'it returns false'. Refute it at one input. -/
def matchNodesWrong : ChangeSpec := { name := "matchNodes", fn := fun _ => fun
  | [d1, d2] => { results := [.lit (.bool false)], args := [d1, d2] }
  | _ => none }
def MatchNodesWrongFalsely : Prop := matchNodesRow.holds Try.pinned (OpenSpec.ofChange matchNodesWrong)

/-- 'courantlaw20.SegmentMade': WHATEVER THE INPUT: true; the input reads as it did. -/
def segmentMadeSpec : ChangeSpec := { name := "segmentMade", fn := fun _ => fun
  | [d1, d2, d3, d4] => { results := [.lit (.bool true)], args := [d1, d2, d3, d4] }
  | _ => none }
def segmentMadeRow : OpenClaim := { program := "ytgimibhacllcpaa", sum := "717cf7a1fbdc41ff739694bddf374e130d4f33afaad11c7dec01226115bc938c", func := "courant/courantlaw20.SegmentMade", spec := "segmentMade", unfollowed := true, recurses := true, apart := false }
def SegmentMadeSaid : Prop := segmentMadeRow.holds Try.pinned (OpenSpec.ofChange segmentMadeSpec)

/-- ITS FALSE NEIGHBOUR: 'it returns false'. Refute it at one input. -/
def segmentMadeWrong : ChangeSpec := { name := "segmentMade", fn := fun _ => fun
  | [d1, d2, d3, d4] => { results := [.lit (.bool false)], args := [d1, d2, d3, d4] }
  | _ => none }
def SegmentMadeWrongFalsely : Prop := segmentMadeRow.holds Try.pinned (OpenSpec.ofChange segmentMadeWrong)

/-- 'courantlaw20.SegmentRecords': WHATEVER THE INPUT: true; the input reads as it did. -/
def segmentRecordsSpec : ChangeSpec := { name := "segmentRecords", fn := fun _ => fun
  | [d1, d2, d3, d4] => { results := [.lit (.bool true)], args := [d1, d2, d3, d4] }
  | _ => none }
def segmentRecordsRow : OpenClaim := { program := "ytgimibhacllcpaa", sum := "717cf7a1fbdc41ff739694bddf374e130d4f33afaad11c7dec01226115bc938c", func := "courant/courantlaw20.SegmentRecords", spec := "segmentRecords", unfollowed := true, recurses := true, apart := false }
def SegmentRecordsSaid : Prop := segmentRecordsRow.holds Try.pinned (OpenSpec.ofChange segmentRecordsSpec)

/-- ITS FALSE NEIGHBOUR: 'it returns false'. Refute it at one input. -/
def segmentRecordsWrong : ChangeSpec := { name := "segmentRecords", fn := fun _ => fun
  | [d1, d2, d3, d4] => { results := [.lit (.bool false)], args := [d1, d2, d3, d4] }
  | _ => none }
def SegmentRecordsWrongFalsely : Prop := segmentRecordsRow.holds Try.pinned (OpenSpec.ofChange segmentRecordsWrong)

/-- 'courantlaw11.LiveRaw': WHATEVER THE INPUT: true; the input reads as it did. -/
def liveRawSpec : ChangeSpec := { name := "liveRaw", fn := fun _ => fun
  | [d] => { results := [.lit (.bool true)], args := [d] }
  | _ => none }
def liveRawRow : OpenClaim := { program := "ytgimibhacllcpaa", sum := "717cf7a1fbdc41ff739694bddf374e130d4f33afaad11c7dec01226115bc938c", func := "courant/courantlaw11.LiveRaw", spec := "liveRaw", unfollowed := true, recurses := true, apart := false }
def LiveRawSaid : Prop := liveRawRow.holds Try.pinned (OpenSpec.ofChange liveRawSpec)

/-- ITS FALSE NEIGHBOUR: 'it returns false'. Refute it at one input. -/
def liveRawWrong : ChangeSpec := { name := "liveRaw", fn := fun _ => fun
  | [d] => { results := [.lit (.bool false)], args := [d] }
  | _ => none }
def LiveRawWrongFalsely : Prop := liveRawRow.holds Try.pinned (OpenSpec.ofChange liveRawWrong)

/-- 'courantlaw20.SegmentScans': WHATEVER THE INPUT: true; the input reads as it did. -/
def segmentScansSpec : ChangeSpec := { name := "segmentScans", fn := fun _ => fun
  | [d1, d2] => { results := [.lit (.bool true)], args := [d1, d2] }
  | _ => none }
def segmentScansRow : OpenClaim := { program := "ytgimibhacllcpaa", sum := "717cf7a1fbdc41ff739694bddf374e130d4f33afaad11c7dec01226115bc938c", func := "courant/courantlaw20.SegmentScans", spec := "segmentScans", unfollowed := true, recurses := true, apart := false }
def SegmentScansSaid : Prop := segmentScansRow.holds Try.pinned (OpenSpec.ofChange segmentScansSpec)

/-- ITS FALSE NEIGHBOUR: 'it returns false'. Refute it at one input. -/
def segmentScansWrong : ChangeSpec := { name := "segmentScans", fn := fun _ => fun
  | [d1, d2] => { results := [.lit (.bool false)], args := [d1, d2] }
  | _ => none }
def SegmentScansWrongFalsely : Prop := segmentScansRow.holds Try.pinned (OpenSpec.ofChange segmentScansWrong)

/-- 'courantlaw18.FrameTakes': WHATEVER THE INPUT: true; the input reads as it did. -/
def frameTakesSpec : ChangeSpec := { name := "frameTakes", fn := fun _ => fun
  | [d] => { results := [.lit (.bool true)], args := [d] }
  | _ => none }
def frameTakesRow : OpenClaim := { program := "ytgimibhacllcpaa", sum := "717cf7a1fbdc41ff739694bddf374e130d4f33afaad11c7dec01226115bc938c", func := "courant/courantlaw18.FrameTakes", spec := "frameTakes", unfollowed := true, recurses := true, apart := false }
def FrameTakesSaid : Prop := frameTakesRow.holds Try.pinned (OpenSpec.ofChange frameTakesSpec)

/-- ITS FALSE NEIGHBOUR: 'it returns false'. Refute it at one input. -/
def frameTakesWrong : ChangeSpec := { name := "frameTakes", fn := fun _ => fun
  | [d] => { results := [.lit (.bool false)], args := [d] }
  | _ => none }
def FrameTakesWrongFalsely : Prop := frameTakesRow.holds Try.pinned (OpenSpec.ofChange frameTakesWrong)

/-- 'courantlaw18.FrameBack': WHATEVER THE INPUT: true; the input reads as it did. -/
def frameBackSpec : ChangeSpec := { name := "frameBack", fn := fun _ => fun
  | [d1, d2, d3, d4, d5] => { results := [.lit (.bool true)], args := [d1, d2, d3, d4, d5] }
  | _ => none }
def frameBackRow : OpenClaim := { program := "ytgimibhacllcpaa", sum := "717cf7a1fbdc41ff739694bddf374e130d4f33afaad11c7dec01226115bc938c", func := "courant/courantlaw18.FrameBack", spec := "frameBack", unfollowed := true, recurses := true, apart := false }
def FrameBackSaid : Prop := frameBackRow.holds Try.pinned (OpenSpec.ofChange frameBackSpec)

/-- ITS FALSE NEIGHBOUR: 'it returns false'. Refute it at one input. -/
def frameBackWrong : ChangeSpec := { name := "frameBack", fn := fun _ => fun
  | [d1, d2, d3, d4, d5] => { results := [.lit (.bool false)], args := [d1, d2, d3, d4, d5] }
  | _ => none }
def FrameBackWrongFalsely : Prop := frameBackRow.holds Try.pinned (OpenSpec.ofChange frameBackWrong)

/-- 'courantlaw09.MatchNames': WHATEVER THE INPUT: true; the input reads as it did. -/
def matchNamesSpec : ChangeSpec := { name := "matchNames", fn := fun _ => fun
  | [d1, d2, d3] => { results := [.lit (.bool true)], args := [d1, d2, d3] }
  | _ => none }
def matchNamesRow : OpenClaim := { program := "ytgimibhacllcpaa", sum := "717cf7a1fbdc41ff739694bddf374e130d4f33afaad11c7dec01226115bc938c", func := "courant/courantlaw09.MatchNames", spec := "matchNames", unfollowed := true, recurses := true, apart := false }
def MatchNamesSaid : Prop := matchNamesRow.holds Try.pinned (OpenSpec.ofChange matchNamesSpec)

/-- ITS FALSE NEIGHBOUR: 'it returns false'. Refute it at one input. -/
def matchNamesWrong : ChangeSpec := { name := "matchNames", fn := fun _ => fun
  | [d1, d2, d3] => { results := [.lit (.bool false)], args := [d1, d2, d3] }
  | _ => none }
def MatchNamesWrongFalsely : Prop := matchNamesRow.holds Try.pinned (OpenSpec.ofChange matchNamesWrong)

/- THE SECOND FORM. 'bulk': how many values and letters a reading holds, each counted each time it is reached (what is shared counts as often as it is met; a slice's spare places count too). A statement '..UptoSaid' is the law's where the arguments, and the package variables that the reading takes, are together of bulk at most 1048576: NARROWER than '..Said'. Prove '..Said' where nothing that the law and all that it calls make is longer than what came in: it says more and counts as full. Else prove '..UptoSaid'. A law counts once. -/
mutual
def uptoBulk {H : Type} : DataW H → Nat
  | .lit (.string bytes) => bytes.length + 1
  | .lit _ => 1
  | .nil => 1
  | .ptr d => uptoBulk d + 1
  | .slice elems spare => uptoBulkAll elems + uptoBulkAll spare + 1
  | .agg parts => uptoBulkAll parts + 1
  | .iface _ d => uptoBulk d + 1
  | .map entries => uptoBulkEntries entries + 1
  | .held _ => 1
def uptoBulkAll {H : Type} : List (DataW H) → Nat
  | [] => 0
  | d :: r => uptoBulk d + uptoBulkAll r
def uptoBulkEntries {H : Type} : List (Lit × DataW H) → Nat
  | [] => 0
  | x :: r => uptoBulkEntry x + uptoBulkEntries r
def uptoBulkEntry {H : Type} : Lit × DataW H → Nat
  | (.string bytes, d) => bytes.length + uptoBulk d + 1
  | (_, d) => uptoBulk d + 1
 end
def uptoSmall : (H : Type) → List (DataW H) → Bool := fun _ ds => decide (uptoBulkAll ds ≤ 1048576)
def OpenSpec.upto (s : _root_.Go.ChangeSpec) : _root_.Go.OpenSpec := { _root_.Go.OpenSpec.ofChange s with cond := some uptoSmall }

/-- 'courantlaw19.IndexAdds', WHERE WHAT IT READS IS OF BULK AT MOST 1048576: true; the input reads as it did. -/
def indexAddsUptoRow : OpenClaim := { program := "ytgimibhacllcpaa", sum := "717cf7a1fbdc41ff739694bddf374e130d4f33afaad11c7dec01226115bc938c", func := "courant/courantlaw19.IndexAdds", spec := "indexAdds", unfollowed := true, recurses := true, apart := false, narrowed := true }
def IndexAddsUptoSaid : Prop := indexAddsUptoRow.holds Try.pinned (OpenSpec.upto indexAddsSpec)

/-- 'courantlaw17.CrcSums', WHERE WHAT IT READS IS OF BULK AT MOST 1048576: true; the input reads as it did. -/
def crcSumsUptoRow : OpenClaim := { program := "ytgimibhacllcpaa", sum := "717cf7a1fbdc41ff739694bddf374e130d4f33afaad11c7dec01226115bc938c", func := "courant/courantlaw17.CrcSums", spec := "crcSums", unfollowed := true, recurses := true, apart := false, narrowed := true }
def CrcSumsUptoSaid : Prop := crcSumsUptoRow.holds Try.pinned (OpenSpec.upto crcSumsSpec)

/-- 'courantlaw17.CrcParts', WHERE WHAT IT READS IS OF BULK AT MOST 1048576: true; the input reads as it did. -/
def crcPartsUptoRow : OpenClaim := { program := "ytgimibhacllcpaa", sum := "717cf7a1fbdc41ff739694bddf374e130d4f33afaad11c7dec01226115bc938c", func := "courant/courantlaw17.CrcParts", spec := "crcParts", unfollowed := true, recurses := true, apart := false, narrowed := true }
def CrcPartsUptoSaid : Prop := crcPartsUptoRow.holds Try.pinned (OpenSpec.upto crcPartsSpec)

/-- 'courantlaw17.CrcBurst', WHERE WHAT IT READS IS OF BULK AT MOST 1048576: true; the input reads as it did. -/
def crcBurstUptoRow : OpenClaim := { program := "ytgimibhacllcpaa", sum := "717cf7a1fbdc41ff739694bddf374e130d4f33afaad11c7dec01226115bc938c", func := "courant/courantlaw17.CrcBurst", spec := "crcBurst", unfollowed := true, recurses := true, apart := false, narrowed := true }
def CrcBurstUptoSaid : Prop := crcBurstUptoRow.holds Try.pinned (OpenSpec.upto crcBurstSpec)

/-- 'courantlaw17.CrcLinear', WHERE WHAT IT READS IS OF BULK AT MOST 1048576: true; the input reads as it did. -/
def crcLinearUptoRow : OpenClaim := { program := "ytgimibhacllcpaa", sum := "717cf7a1fbdc41ff739694bddf374e130d4f33afaad11c7dec01226115bc938c", func := "courant/courantlaw17.CrcLinear", spec := "crcLinear", unfollowed := true, recurses := true, apart := false, narrowed := true }
def CrcLinearUptoSaid : Prop := crcLinearUptoRow.holds Try.pinned (OpenSpec.upto crcLinearSpec)

/-- 'courantlaw19.IndexTells', WHERE WHAT IT READS IS OF BULK AT MOST 1048576: true; the input reads as it did. -/
def indexTellsUptoRow : OpenClaim := { program := "ytgimibhacllcpaa", sum := "717cf7a1fbdc41ff739694bddf374e130d4f33afaad11c7dec01226115bc938c", func := "courant/courantlaw19.IndexTells", spec := "indexTells", unfollowed := true, recurses := true, apart := false, narrowed := true }
def IndexTellsUptoSaid : Prop := indexTellsUptoRow.holds Try.pinned (OpenSpec.upto indexTellsSpec)

/-- 'courantlaw19.IndexFinds', WHERE WHAT IT READS IS OF BULK AT MOST 1048576: true; the input reads as it did. -/
def indexFindsUptoRow : OpenClaim := { program := "ytgimibhacllcpaa", sum := "717cf7a1fbdc41ff739694bddf374e130d4f33afaad11c7dec01226115bc938c", func := "courant/courantlaw19.IndexFinds", spec := "indexFinds", apart := false, narrowed := true }
def IndexFindsUptoSaid : Prop := indexFindsUptoRow.holds Try.pinned (OpenSpec.upto indexFindsSpec)

/-- 'courantlaw18.FrameMakes', WHERE WHAT IT READS IS OF BULK AT MOST 1048576: true; the input reads as it did. -/
def frameMakesUptoRow : OpenClaim := { program := "ytgimibhacllcpaa", sum := "717cf7a1fbdc41ff739694bddf374e130d4f33afaad11c7dec01226115bc938c", func := "courant/courantlaw18.FrameMakes", spec := "frameMakes", unfollowed := true, recurses := true, apart := false, narrowed := true }
def FrameMakesUptoSaid : Prop := frameMakesUptoRow.holds Try.pinned (OpenSpec.upto frameMakesSpec)

/-- 'courantlaw18.FrameLimit', WHERE WHAT IT READS IS OF BULK AT MOST 1048576: true; the input reads as it did. -/
def frameLimitUptoRow : OpenClaim := { program := "ytgimibhacllcpaa", sum := "717cf7a1fbdc41ff739694bddf374e130d4f33afaad11c7dec01226115bc938c", func := "courant/courantlaw18.FrameLimit", spec := "frameLimit", unfollowed := true, recurses := true, apart := false, narrowed := true }
def FrameLimitUptoSaid : Prop := frameLimitUptoRow.holds Try.pinned (OpenSpec.upto frameLimitSpec)

/-- 'courantlaw09.MatchFirst', WHERE WHAT IT READS IS OF BULK AT MOST 1048576: true; the input reads as it did. -/
def matchFirstUptoRow : OpenClaim := { program := "ytgimibhacllcpaa", sum := "717cf7a1fbdc41ff739694bddf374e130d4f33afaad11c7dec01226115bc938c", func := "courant/courantlaw09.MatchFirst", spec := "matchFirst", apart := false, narrowed := true }
def MatchFirstUptoSaid : Prop := matchFirstUptoRow.holds Try.pinned (OpenSpec.upto matchFirstSpec)

/-- 'courantlaw09.MatchNodes', WHERE WHAT IT READS IS OF BULK AT MOST 1048576: true; the input reads as it did. -/
def matchNodesUptoRow : OpenClaim := { program := "ytgimibhacllcpaa", sum := "717cf7a1fbdc41ff739694bddf374e130d4f33afaad11c7dec01226115bc938c", func := "courant/courantlaw09.MatchNodes", spec := "matchNodes", unfollowed := true, recurses := true, apart := false, narrowed := true }
def MatchNodesUptoSaid : Prop := matchNodesUptoRow.holds Try.pinned (OpenSpec.upto matchNodesSpec)

/-- 'courantlaw20.SegmentMade', WHERE WHAT IT READS IS OF BULK AT MOST 1048576: true; the input reads as it did. -/
def segmentMadeUptoRow : OpenClaim := { program := "ytgimibhacllcpaa", sum := "717cf7a1fbdc41ff739694bddf374e130d4f33afaad11c7dec01226115bc938c", func := "courant/courantlaw20.SegmentMade", spec := "segmentMade", unfollowed := true, recurses := true, apart := false, narrowed := true }
def SegmentMadeUptoSaid : Prop := segmentMadeUptoRow.holds Try.pinned (OpenSpec.upto segmentMadeSpec)

/-- 'courantlaw20.SegmentRecords', WHERE WHAT IT READS IS OF BULK AT MOST 1048576: true; the input reads as it did. -/
def segmentRecordsUptoRow : OpenClaim := { program := "ytgimibhacllcpaa", sum := "717cf7a1fbdc41ff739694bddf374e130d4f33afaad11c7dec01226115bc938c", func := "courant/courantlaw20.SegmentRecords", spec := "segmentRecords", unfollowed := true, recurses := true, apart := false, narrowed := true }
def SegmentRecordsUptoSaid : Prop := segmentRecordsUptoRow.holds Try.pinned (OpenSpec.upto segmentRecordsSpec)

/-- 'courantlaw11.LiveRaw', WHERE WHAT IT READS IS OF BULK AT MOST 1048576: true; the input reads as it did. -/
def liveRawUptoRow : OpenClaim := { program := "ytgimibhacllcpaa", sum := "717cf7a1fbdc41ff739694bddf374e130d4f33afaad11c7dec01226115bc938c", func := "courant/courantlaw11.LiveRaw", spec := "liveRaw", unfollowed := true, recurses := true, apart := false, narrowed := true }
def LiveRawUptoSaid : Prop := liveRawUptoRow.holds Try.pinned (OpenSpec.upto liveRawSpec)

/-- 'courantlaw20.SegmentScans', WHERE WHAT IT READS IS OF BULK AT MOST 1048576: true; the input reads as it did. -/
def segmentScansUptoRow : OpenClaim := { program := "ytgimibhacllcpaa", sum := "717cf7a1fbdc41ff739694bddf374e130d4f33afaad11c7dec01226115bc938c", func := "courant/courantlaw20.SegmentScans", spec := "segmentScans", unfollowed := true, recurses := true, apart := false, narrowed := true }
def SegmentScansUptoSaid : Prop := segmentScansUptoRow.holds Try.pinned (OpenSpec.upto segmentScansSpec)

/-- 'courantlaw18.FrameTakes', WHERE WHAT IT READS IS OF BULK AT MOST 1048576: true; the input reads as it did. -/
def frameTakesUptoRow : OpenClaim := { program := "ytgimibhacllcpaa", sum := "717cf7a1fbdc41ff739694bddf374e130d4f33afaad11c7dec01226115bc938c", func := "courant/courantlaw18.FrameTakes", spec := "frameTakes", unfollowed := true, recurses := true, apart := false, narrowed := true }
def FrameTakesUptoSaid : Prop := frameTakesUptoRow.holds Try.pinned (OpenSpec.upto frameTakesSpec)

/-- 'courantlaw18.FrameBack', WHERE WHAT IT READS IS OF BULK AT MOST 1048576: true; the input reads as it did. -/
def frameBackUptoRow : OpenClaim := { program := "ytgimibhacllcpaa", sum := "717cf7a1fbdc41ff739694bddf374e130d4f33afaad11c7dec01226115bc938c", func := "courant/courantlaw18.FrameBack", spec := "frameBack", unfollowed := true, recurses := true, apart := false, narrowed := true }
def FrameBackUptoSaid : Prop := frameBackUptoRow.holds Try.pinned (OpenSpec.upto frameBackSpec)

/-- 'courantlaw09.MatchNames', WHERE WHAT IT READS IS OF BULK AT MOST 1048576: true; the input reads as it did. -/
def matchNamesUptoRow : OpenClaim := { program := "ytgimibhacllcpaa", sum := "717cf7a1fbdc41ff739694bddf374e130d4f33afaad11c7dec01226115bc938c", func := "courant/courantlaw09.MatchNames", spec := "matchNames", unfollowed := true, recurses := true, apart := false, narrowed := true }
def MatchNamesUptoSaid : Prop := matchNamesUptoRow.holds Try.pinned (OpenSpec.upto matchNamesSpec)

end Rows
end Go.Proofs.Ytgimibhacllcpaa
