/-
  DERIVED. GIVEN WITH THE SEED: THE CARDS: each row of YtlpffigmcnahcaaDoorRows.lean that lists a variable, with what it lists TIED to the program's text (the seventh form; the later family's looks); each row that meets fmt, with fmt's text TOLD by the authors' own Lean function (tested against real Go, not proved from fmt's source: count such statements apart). THE CARD IS WHAT COUNTS. Prove the row's statement (the work); the ties are given (YtlpffigmcnahcaaDoorTie.lean); close each card by the builder's one call (the guide's Derived/Test/ToyasCard.lean, 'card_holds'). Laid BY PROGRAM, IN A SANDBOX (cutbox-door.mjs). By AI agents, Wed Nov 11 2026. No macro, syntax, notation, axiom, sorry.
-/
import Derived.Test.YtlpffigmcnahcaaDoorRows
import GoSem.ClaimSeven
namespace Go.Proofs.YtlpffigmcnahcaaDoor
namespace Rows

/-- THE TIED CARD OF 'courantlaw08.CodecBlocks'. -/
def codecBlocksCard : Claim7 := { stood := { row := codecBlocksRow, standIns := [], harness := (true, "065ef547057546682a3a8956220744eb7312c53745d0f64d280cd4533ae6ae47"), looks := false }, kinds := [], alts := [], laidByText := true, laidKinds := [.data, .pinned], laidTests := true, laidLooks := .later }
def CodecBlocksCardSaid : Prop := Claim7.holds Tryd.pinned (.plain (OpenSpec.ofChange codecBlocksSpec)) codecBlocksCard

/-- THE TIED CARD OF 'courantlaw08.CodecDeep'. -/
def codecDeepCard : Claim7 := { stood := { row := codecDeepRow, standIns := [], harness := (true, "065ef547057546682a3a8956220744eb7312c53745d0f64d280cd4533ae6ae47"), looks := false }, kinds := [], alts := [], laidByText := true, laidKinds := [.data, .pinned], laidTests := true, laidLooks := .later }
def CodecDeepCardSaid : Prop := Claim7.holds Tryd.pinned (.plain (OpenSpec.ofChange codecDeepSpec)) codecDeepCard

/-- THE TIED CARD OF 'courantlaw08.CodecNulls'. -/
def codecNullsCard : Claim7 := { stood := { row := codecNullsRow, standIns := [], harness := (true, "065ef547057546682a3a8956220744eb7312c53745d0f64d280cd4533ae6ae47"), looks := false }, kinds := [], alts := [], laidByText := true, laidKinds := [.data, .pinned], laidTests := true, laidLooks := .later }
def CodecNullsCardSaid : Prop := Claim7.holds Tryd.pinned (.plain (OpenSpec.ofChange codecNullsSpec)) codecNullsCard

/-- THE SECOND FORM's CARD OF 'courantlaw08.CodecBlocks'. -/
def codecBlocksUptoCard : Claim7 := { stood := { row := codecBlocksUptoRow, standIns := [], harness := (true, "065ef547057546682a3a8956220744eb7312c53745d0f64d280cd4533ae6ae47"), looks := false }, kinds := [], alts := [], laidByText := true, laidKinds := [.data, .pinned], laidTests := true, laidLooks := .later }
def CodecBlocksUptoCardSaid : Prop := Claim7.holds Tryd.pinned (.plain (OpenSpec.upto codecBlocksSpec)) codecBlocksUptoCard

/-- THE SECOND FORM's CARD OF 'courantlaw08.CodecDeep'. -/
def codecDeepUptoCard : Claim7 := { stood := { row := codecDeepUptoRow, standIns := [], harness := (true, "065ef547057546682a3a8956220744eb7312c53745d0f64d280cd4533ae6ae47"), looks := false }, kinds := [], alts := [], laidByText := true, laidKinds := [.data, .pinned], laidTests := true, laidLooks := .later }
def CodecDeepUptoCardSaid : Prop := Claim7.holds Tryd.pinned (.plain (OpenSpec.upto codecDeepSpec)) codecDeepUptoCard

/-- THE SECOND FORM's CARD OF 'courantlaw08.CodecNulls'. -/
def codecNullsUptoCard : Claim7 := { stood := { row := codecNullsUptoRow, standIns := [], harness := (true, "065ef547057546682a3a8956220744eb7312c53745d0f64d280cd4533ae6ae47"), looks := false }, kinds := [], alts := [], laidByText := true, laidKinds := [.data, .pinned], laidTests := true, laidLooks := .later }
def CodecNullsUptoCardSaid : Prop := Claim7.holds Tryd.pinned (.plain (OpenSpec.upto codecNullsSpec)) codecNullsUptoCard
end Rows
end Go.Proofs.YtlpffigmcnahcaaDoor
