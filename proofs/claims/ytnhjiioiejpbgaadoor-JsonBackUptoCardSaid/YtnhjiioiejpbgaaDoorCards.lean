/-
  DERIVED. GIVEN WITH THE SEED: THE CARDS: each row of YtnhjiioiejpbgaaDoorRows.lean that lists a variable, with what it lists TIED to the program's text (the seventh form; the later family's looks); each row that meets fmt, with fmt's text TOLD by the authors' own Lean function (tested against real Go, not proved from fmt's source: count such statements apart). THE CARD IS WHAT COUNTS. Prove the row's statement (the work); the ties are given (YtnhjiioiejpbgaaDoorTie.lean); close each card by the builder's one call (the guide's Derived/Test/ToyasCard.lean, 'card_holds'). Laid BY PROGRAM, IN A SANDBOX (cutbox-door.mjs). By AI agents, Wed Nov 11 2026. No macro, syntax, notation, axiom, sorry.
-/
import Derived.Test.YtnhjiioiejpbgaaDoorRows
import GoSem.ClaimSeven
namespace Go.Proofs.YtnhjiioiejpbgaaDoor
namespace Rows

/-- THE TIED CARD OF 'courantlaw02.JsonParses'. -/
def jsonParsesCard : Claim7 := { stood := { row := jsonParsesRow, standIns := [], harness := (true, "d89e31d7f37d8232d1342cdfe5f6357119d2149d6e8d0971df2bb91bfb1cd140"), looks := false }, kinds := [], alts := [], laidByText := true, laidKinds := [.data, .pinned], laidTests := true, laidLooks := .later }
def JsonParsesCardSaid : Prop := Claim7.holds Tryd.pinned (.plain (OpenSpec.ofChange jsonParsesSpec)) jsonParsesCard

/-- THE TIED CARD OF 'courantlaw02.JsonBack'. -/
def jsonBackCard : Claim7 := { stood := { row := jsonBackRow, standIns := [], harness := (true, "d89e31d7f37d8232d1342cdfe5f6357119d2149d6e8d0971df2bb91bfb1cd140"), looks := false }, kinds := [], alts := [], laidByText := true, laidKinds := [.data, .pinned], laidTests := true, laidLooks := .later }
def JsonBackCardSaid : Prop := Claim7.holds Tryd.pinned (.plain (OpenSpec.ofChange jsonBackSpec)) jsonBackCard

/-- THE TIED CARD OF 'courantlaw02.JsonWhite'. -/
def jsonWhiteCard : Claim7 := { stood := { row := jsonWhiteRow, standIns := [], harness := (true, "d89e31d7f37d8232d1342cdfe5f6357119d2149d6e8d0971df2bb91bfb1cd140"), looks := false }, kinds := [], alts := [], laidByText := true, laidKinds := [.data, .pinned], laidTests := true, laidLooks := .later }
def JsonWhiteCardSaid : Prop := Claim7.holds Tryd.pinned (.plain (OpenSpec.ofChange jsonWhiteSpec)) jsonWhiteCard

/-- THE TIED CARD OF 'courantlaw02.JsonStrings'. -/
def jsonStringsCard : Claim7 := { stood := { row := jsonStringsRow, standIns := [], harness := (true, "d89e31d7f37d8232d1342cdfe5f6357119d2149d6e8d0971df2bb91bfb1cd140"), looks := false }, kinds := [], alts := [], laidByText := true, laidKinds := [.data, .pinned], laidTests := true, laidLooks := .later }
def JsonStringsCardSaid : Prop := Claim7.holds Tryd.pinned (.plain (OpenSpec.ofChange jsonStringsSpec)) jsonStringsCard

/-- THE TIED CARD OF 'courantlaw02.JsonDepths'. -/
def jsonDepthsCard : Claim7 := { stood := { row := jsonDepthsRow, standIns := [], harness := (true, "d89e31d7f37d8232d1342cdfe5f6357119d2149d6e8d0971df2bb91bfb1cd140"), looks := false }, kinds := [], alts := [], laidByText := true, laidKinds := [.data, .pinned], laidTests := true, laidLooks := .later }
def JsonDepthsCardSaid : Prop := Claim7.holds Tryd.pinned (.plain (OpenSpec.ofChange jsonDepthsSpec)) jsonDepthsCard

/-- THE TIED CARD OF 'courantlaw02.JsonPrints'. -/
def jsonPrintsCard : Claim7 := { stood := { row := jsonPrintsRow, standIns := [], harness := (true, "d89e31d7f37d8232d1342cdfe5f6357119d2149d6e8d0971df2bb91bfb1cd140"), looks := false }, kinds := [], alts := [], laidByText := true, laidKinds := [.data, .pinned], laidTests := true, laidLooks := .later }
def JsonPrintsCardSaid : Prop := Claim7.holds Tryd.pinned (.plain (OpenSpec.ofChange jsonPrintsSpec)) jsonPrintsCard

/-- THE TIED CARD OF 'courantlaw02.JsonKeys'. -/
def jsonKeysCard : Claim7 := { stood := { row := jsonKeysRow, standIns := [], harness := (true, "d89e31d7f37d8232d1342cdfe5f6357119d2149d6e8d0971df2bb91bfb1cd140"), looks := false }, kinds := [], alts := [], laidByText := true, laidKinds := [.data, .pinned], laidTests := true, laidLooks := .later }
def JsonKeysCardSaid : Prop := Claim7.holds Tryd.pinned (.plain (OpenSpec.ofChange jsonKeysSpec)) jsonKeysCard

/-- THE TIED CARD OF 'courantlaw02.JsonWalks'. -/
def jsonWalksCard : Claim7 := { stood := { row := jsonWalksRow, standIns := [], harness := (true, "d89e31d7f37d8232d1342cdfe5f6357119d2149d6e8d0971df2bb91bfb1cd140"), looks := false }, kinds := [], alts := [], laidByText := true, laidKinds := [.data, .pinned], laidTests := true, laidLooks := .later }
def JsonWalksCardSaid : Prop := Claim7.holds Tryd.pinned (.plain (OpenSpec.ofChange jsonWalksSpec)) jsonWalksCard

/-- THE SECOND FORM's CARD OF 'courantlaw02.JsonParses'. -/
def jsonParsesUptoCard : Claim7 := { stood := { row := jsonParsesUptoRow, standIns := [], harness := (true, "d89e31d7f37d8232d1342cdfe5f6357119d2149d6e8d0971df2bb91bfb1cd140"), looks := false }, kinds := [], alts := [], laidByText := true, laidKinds := [.data, .pinned], laidTests := true, laidLooks := .later }
def JsonParsesUptoCardSaid : Prop := Claim7.holds Tryd.pinned (.plain (OpenSpec.upto jsonParsesSpec)) jsonParsesUptoCard

/-- THE SECOND FORM's CARD OF 'courantlaw02.JsonBack'. -/
def jsonBackUptoCard : Claim7 := { stood := { row := jsonBackUptoRow, standIns := [], harness := (true, "d89e31d7f37d8232d1342cdfe5f6357119d2149d6e8d0971df2bb91bfb1cd140"), looks := false }, kinds := [], alts := [], laidByText := true, laidKinds := [.data, .pinned], laidTests := true, laidLooks := .later }
def JsonBackUptoCardSaid : Prop := Claim7.holds Tryd.pinned (.plain (OpenSpec.upto jsonBackSpec)) jsonBackUptoCard

/-- THE SECOND FORM's CARD OF 'courantlaw02.JsonWhite'. -/
def jsonWhiteUptoCard : Claim7 := { stood := { row := jsonWhiteUptoRow, standIns := [], harness := (true, "d89e31d7f37d8232d1342cdfe5f6357119d2149d6e8d0971df2bb91bfb1cd140"), looks := false }, kinds := [], alts := [], laidByText := true, laidKinds := [.data, .pinned], laidTests := true, laidLooks := .later }
def JsonWhiteUptoCardSaid : Prop := Claim7.holds Tryd.pinned (.plain (OpenSpec.upto jsonWhiteSpec)) jsonWhiteUptoCard

/-- THE SECOND FORM's CARD OF 'courantlaw02.JsonStrings'. -/
def jsonStringsUptoCard : Claim7 := { stood := { row := jsonStringsUptoRow, standIns := [], harness := (true, "d89e31d7f37d8232d1342cdfe5f6357119d2149d6e8d0971df2bb91bfb1cd140"), looks := false }, kinds := [], alts := [], laidByText := true, laidKinds := [.data, .pinned], laidTests := true, laidLooks := .later }
def JsonStringsUptoCardSaid : Prop := Claim7.holds Tryd.pinned (.plain (OpenSpec.upto jsonStringsSpec)) jsonStringsUptoCard

/-- THE SECOND FORM's CARD OF 'courantlaw02.JsonDepths'. -/
def jsonDepthsUptoCard : Claim7 := { stood := { row := jsonDepthsUptoRow, standIns := [], harness := (true, "d89e31d7f37d8232d1342cdfe5f6357119d2149d6e8d0971df2bb91bfb1cd140"), looks := false }, kinds := [], alts := [], laidByText := true, laidKinds := [.data, .pinned], laidTests := true, laidLooks := .later }
def JsonDepthsUptoCardSaid : Prop := Claim7.holds Tryd.pinned (.plain (OpenSpec.upto jsonDepthsSpec)) jsonDepthsUptoCard

/-- THE SECOND FORM's CARD OF 'courantlaw02.JsonPrints'. -/
def jsonPrintsUptoCard : Claim7 := { stood := { row := jsonPrintsUptoRow, standIns := [], harness := (true, "d89e31d7f37d8232d1342cdfe5f6357119d2149d6e8d0971df2bb91bfb1cd140"), looks := false }, kinds := [], alts := [], laidByText := true, laidKinds := [.data, .pinned], laidTests := true, laidLooks := .later }
def JsonPrintsUptoCardSaid : Prop := Claim7.holds Tryd.pinned (.plain (OpenSpec.upto jsonPrintsSpec)) jsonPrintsUptoCard

/-- THE SECOND FORM's CARD OF 'courantlaw02.JsonKeys'. -/
def jsonKeysUptoCard : Claim7 := { stood := { row := jsonKeysUptoRow, standIns := [], harness := (true, "d89e31d7f37d8232d1342cdfe5f6357119d2149d6e8d0971df2bb91bfb1cd140"), looks := false }, kinds := [], alts := [], laidByText := true, laidKinds := [.data, .pinned], laidTests := true, laidLooks := .later }
def JsonKeysUptoCardSaid : Prop := Claim7.holds Tryd.pinned (.plain (OpenSpec.upto jsonKeysSpec)) jsonKeysUptoCard

/-- THE SECOND FORM's CARD OF 'courantlaw02.JsonWalks'. -/
def jsonWalksUptoCard : Claim7 := { stood := { row := jsonWalksUptoRow, standIns := [], harness := (true, "d89e31d7f37d8232d1342cdfe5f6357119d2149d6e8d0971df2bb91bfb1cd140"), looks := false }, kinds := [], alts := [], laidByText := true, laidKinds := [.data, .pinned], laidTests := true, laidLooks := .later }
def JsonWalksUptoCardSaid : Prop := Claim7.holds Tryd.pinned (.plain (OpenSpec.upto jsonWalksSpec)) jsonWalksUptoCard
end Rows
end Go.Proofs.YtnhjiioiejpbgaaDoor
