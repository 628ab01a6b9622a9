/-
  DERIVED. GIVEN WITH THE SEED: THE CARDS: each row of YtnhndjbninibhaaDoorRows.lean that lists a variable, with what it lists TIED to the program's text (the seventh form; the later family's looks); each row that meets fmt, with fmt's text TOLD by the authors' own Lean function (tested against real Go, not proved from fmt's source: count such statements apart). THE CARD IS WHAT COUNTS. Prove the row's statement (the work); the ties are given (YtnhndjbninibhaaDoorTie.lean); close each card by the builder's one call (the guide's Derived/Test/ToyasCard.lean, 'card_holds'). Laid BY PROGRAM, IN A SANDBOX (cutbox-door.mjs). By AI agents, Wed Nov 11 2026. No macro, syntax, notation, axiom, sorry.
-/
import Derived.Test.YtnhndjbninibhaaDoorRows
import GoSem.ClaimSeven
namespace Go.Proofs.YtnhndjbninibhaaDoor
namespace Rows

/-- THE TIED CARD OF 'courantlaw12.CheckSelf'. -/
def checkSelfCard : Claim7 := { stood := { row := checkSelfRow, standIns := [], harness := (true, "59ff96817d9293550cb437ed4e510db847a2eaece8f596a0ddbe147e101bffce"), looks := false }, kinds := [], alts := [], laidByText := true, laidKinds := [.data, .pinned], laidTests := true, laidLooks := .later }
def CheckSelfCardSaid : Prop := Claim7.holds Tryd.pinned (.plain (OpenSpec.ofChange checkSelfSpec)) checkSelfCard

/-- THE TIED CARD OF 'courantlaw12.CheckEnds'. -/
def checkEndsCard : Claim7 := { stood := { row := checkEndsRow, standIns := [], harness := (true, "59ff96817d9293550cb437ed4e510db847a2eaece8f596a0ddbe147e101bffce"), looks := false }, kinds := [], alts := [], laidByText := true, laidKinds := [.data, .pinned], laidTests := true, laidLooks := .later }
def CheckEndsCardSaid : Prop := Claim7.holds Tryd.pinned (.plain (OpenSpec.ofChange checkEndsSpec)) checkEndsCard

/-- THE TIED CARD OF 'courantlaw12.CheckFields'. -/
def checkFieldsCard : Claim7 := { stood := { row := checkFieldsRow, standIns := [], harness := (true, "59ff96817d9293550cb437ed4e510db847a2eaece8f596a0ddbe147e101bffce"), looks := false }, kinds := [], alts := [], laidByText := true, laidKinds := [.data, .pinned], laidTests := true, laidLooks := .later }
def CheckFieldsCardSaid : Prop := Claim7.holds Tryd.pinned (.plain (OpenSpec.ofChange checkFieldsSpec)) checkFieldsCard

/-- THE TIED CARD OF 'courantlaw12.CheckUnions'. -/
def checkUnionsCard : Claim7 := { stood := { row := checkUnionsRow, standIns := [], harness := (true, "59ff96817d9293550cb437ed4e510db847a2eaece8f596a0ddbe147e101bffce"), looks := false }, kinds := [], alts := [], laidByText := true, laidKinds := [.data, .pinned], laidTests := true, laidLooks := .later }
def CheckUnionsCardSaid : Prop := Claim7.holds Tryd.pinned (.plain (OpenSpec.ofChange checkUnionsSpec)) checkUnionsCard

/-- THE TIED CARD OF 'courantlaw13.LevelMore'. -/
def levelMoreCard : Claim7 := { stood := { row := levelMoreRow, standIns := [], harness := (true, "59ff96817d9293550cb437ed4e510db847a2eaece8f596a0ddbe147e101bffce"), looks := false }, kinds := [], alts := [], laidByText := true, laidKinds := [.data, .pinned], laidTests := true, laidLooks := .later }
def LevelMoreCardSaid : Prop := Claim7.holds Tryd.pinned (.plain (OpenSpec.ofChange levelMoreSpec)) levelMoreCard

/-- THE TIED CARD OF 'courantlaw13.LevelAll'. -/
def levelAllCard : Claim7 := { stood := { row := levelAllRow, standIns := [], harness := (true, "59ff96817d9293550cb437ed4e510db847a2eaece8f596a0ddbe147e101bffce"), looks := false }, kinds := [], alts := [], laidByText := true, laidKinds := [.data, .pinned], laidTests := true, laidLooks := .later }
def LevelAllCardSaid : Prop := Claim7.holds Tryd.pinned (.plain (OpenSpec.ofChange levelAllSpec)) levelAllCard

/-- THE TIED CARD OF 'courantlaw13.LevelGrows'. -/
def levelGrowsCard : Claim7 := { stood := { row := levelGrowsRow, standIns := [], harness := (true, "59ff96817d9293550cb437ed4e510db847a2eaece8f596a0ddbe147e101bffce"), looks := false }, kinds := [], alts := [], laidByText := true, laidKinds := [.data, .pinned], laidTests := true, laidLooks := .later }
def LevelGrowsCardSaid : Prop := Claim7.holds Tryd.pinned (.plain (OpenSpec.ofChange levelGrowsSpec)) levelGrowsCard

/-- THE SECOND FORM's CARD OF 'courantlaw12.CheckSelf'. -/
def checkSelfUptoCard : Claim7 := { stood := { row := checkSelfUptoRow, standIns := [], harness := (true, "59ff96817d9293550cb437ed4e510db847a2eaece8f596a0ddbe147e101bffce"), looks := false }, kinds := [], alts := [], laidByText := true, laidKinds := [.data, .pinned], laidTests := true, laidLooks := .later }
def CheckSelfUptoCardSaid : Prop := Claim7.holds Tryd.pinned (.plain (OpenSpec.upto checkSelfSpec)) checkSelfUptoCard

/-- THE SECOND FORM's CARD OF 'courantlaw12.CheckEnds'. -/
def checkEndsUptoCard : Claim7 := { stood := { row := checkEndsUptoRow, standIns := [], harness := (true, "59ff96817d9293550cb437ed4e510db847a2eaece8f596a0ddbe147e101bffce"), looks := false }, kinds := [], alts := [], laidByText := true, laidKinds := [.data, .pinned], laidTests := true, laidLooks := .later }
def CheckEndsUptoCardSaid : Prop := Claim7.holds Tryd.pinned (.plain (OpenSpec.upto checkEndsSpec)) checkEndsUptoCard

/-- THE SECOND FORM's CARD OF 'courantlaw12.CheckFields'. -/
def checkFieldsUptoCard : Claim7 := { stood := { row := checkFieldsUptoRow, standIns := [], harness := (true, "59ff96817d9293550cb437ed4e510db847a2eaece8f596a0ddbe147e101bffce"), looks := false }, kinds := [], alts := [], laidByText := true, laidKinds := [.data, .pinned], laidTests := true, laidLooks := .later }
def CheckFieldsUptoCardSaid : Prop := Claim7.holds Tryd.pinned (.plain (OpenSpec.upto checkFieldsSpec)) checkFieldsUptoCard

/-- THE SECOND FORM's CARD OF 'courantlaw12.CheckUnions'. -/
def checkUnionsUptoCard : Claim7 := { stood := { row := checkUnionsUptoRow, standIns := [], harness := (true, "59ff96817d9293550cb437ed4e510db847a2eaece8f596a0ddbe147e101bffce"), looks := false }, kinds := [], alts := [], laidByText := true, laidKinds := [.data, .pinned], laidTests := true, laidLooks := .later }
def CheckUnionsUptoCardSaid : Prop := Claim7.holds Tryd.pinned (.plain (OpenSpec.upto checkUnionsSpec)) checkUnionsUptoCard

/-- THE SECOND FORM's CARD OF 'courantlaw13.LevelMore'. -/
def levelMoreUptoCard : Claim7 := { stood := { row := levelMoreUptoRow, standIns := [], harness := (true, "59ff96817d9293550cb437ed4e510db847a2eaece8f596a0ddbe147e101bffce"), looks := false }, kinds := [], alts := [], laidByText := true, laidKinds := [.data, .pinned], laidTests := true, laidLooks := .later }
def LevelMoreUptoCardSaid : Prop := Claim7.holds Tryd.pinned (.plain (OpenSpec.upto levelMoreSpec)) levelMoreUptoCard

/-- THE SECOND FORM's CARD OF 'courantlaw13.LevelAll'. -/
def levelAllUptoCard : Claim7 := { stood := { row := levelAllUptoRow, standIns := [], harness := (true, "59ff96817d9293550cb437ed4e510db847a2eaece8f596a0ddbe147e101bffce"), looks := false }, kinds := [], alts := [], laidByText := true, laidKinds := [.data, .pinned], laidTests := true, laidLooks := .later }
def LevelAllUptoCardSaid : Prop := Claim7.holds Tryd.pinned (.plain (OpenSpec.upto levelAllSpec)) levelAllUptoCard

/-- THE SECOND FORM's CARD OF 'courantlaw13.LevelGrows'. -/
def levelGrowsUptoCard : Claim7 := { stood := { row := levelGrowsUptoRow, standIns := [], harness := (true, "59ff96817d9293550cb437ed4e510db847a2eaece8f596a0ddbe147e101bffce"), looks := false }, kinds := [], alts := [], laidByText := true, laidKinds := [.data, .pinned], laidTests := true, laidLooks := .later }
def LevelGrowsUptoCardSaid : Prop := Claim7.holds Tryd.pinned (.plain (OpenSpec.upto levelGrowsSpec)) levelGrowsUptoCard
end Rows
end Go.Proofs.YtnhndjbninibhaaDoor
