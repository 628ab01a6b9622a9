/-
  DERIVED. GIVEN WITH THE SEED: THE CARDS: each row of YtkacbcpnmbkaeaaDoorRows.lean that lists a variable, with what it lists TIED to the program's text (the seventh form; the later family's looks); each row that meets fmt, with fmt's text TOLD by the authors' own Lean function (tested against real Go, not proved from fmt's source: count such statements apart). THE CARD IS WHAT COUNTS. Prove the row's statement (the work); the ties are given (YtkacbcpnmbkaeaaDoorTie.lean); close each card by the builder's one call (the guide's Derived/Test/ToyasCard.lean, 'card_holds'). Laid BY PROGRAM, IN A SANDBOX (cutbox-door.mjs). By AI agents, Wed Nov 11 2026. No macro, syntax, notation, axiom, sorry.
-/
import Derived.Test.YtkacbcpnmbkaeaaDoorRows
import GoSem.ClaimSeven
namespace Go.Proofs.YtkacbcpnmbkaeaaDoor
namespace Rows

/-- THE TIED CARD OF 'courantlaw03.NamesMake'. -/
def namesMakeCard : Claim7 := { stood := { row := namesMakeRow, standIns := [], harness := (true, "65af60d72841a18f372d32ba187f9280f510ad0513856970cb1bdec99684fb0a"), looks := false }, kinds := [], alts := [], laidByText := true, laidKinds := [.data, .pinned], laidTests := true, laidLooks := .later }
def NamesMakeCardSaid : Prop := Claim7.holds Tryd.pinned (.plain (OpenSpec.ofChange namesMakeSpec)) namesMakeCard

/-- THE TIED CARD OF 'courantlaw03.NamesPieces'. -/
def namesPiecesCard : Claim7 := { stood := { row := namesPiecesRow, standIns := [], harness := (true, "65af60d72841a18f372d32ba187f9280f510ad0513856970cb1bdec99684fb0a"), looks := false }, kinds := [], alts := [], laidByText := true, laidKinds := [.data, .pinned], laidTests := true, laidLooks := .later }
def NamesPiecesCardSaid : Prop := Claim7.holds Tryd.pinned (.plain (OpenSpec.ofChange namesPiecesSpec)) namesPiecesCard

/-- THE TIED CARD OF 'courantlaw03.NamesTell'. -/
def namesTellCard : Claim7 := { stood := { row := namesTellRow, standIns := [], harness := (true, "65af60d72841a18f372d32ba187f9280f510ad0513856970cb1bdec99684fb0a"), looks := false }, kinds := [], alts := [], laidByText := true, laidKinds := [.data, .pinned], laidTests := true, laidLooks := .later }
def NamesTellCardSaid : Prop := Claim7.holds Tryd.pinned (.plain (OpenSpec.ofChange namesTellSpec)) namesTellCard

/-- THE TIED CARD OF 'courantlaw03.NamesBack'. -/
def namesBackCard : Claim7 := { stood := { row := namesBackRow, standIns := [], harness := (true, "65af60d72841a18f372d32ba187f9280f510ad0513856970cb1bdec99684fb0a"), looks := false }, kinds := [], alts := [], laidByText := true, laidKinds := [.data, .pinned], laidTests := true, laidLooks := .later }
def NamesBackCardSaid : Prop := Claim7.holds Tryd.pinned (.plain (OpenSpec.ofChange namesBackSpec)) namesBackCard

/-- THE SECOND FORM's CARD OF 'courantlaw03.NamesMake'. -/
def namesMakeUptoCard : Claim7 := { stood := { row := namesMakeUptoRow, standIns := [], harness := (true, "65af60d72841a18f372d32ba187f9280f510ad0513856970cb1bdec99684fb0a"), looks := false }, kinds := [], alts := [], laidByText := true, laidKinds := [.data, .pinned], laidTests := true, laidLooks := .later }
def NamesMakeUptoCardSaid : Prop := Claim7.holds Tryd.pinned (.plain (OpenSpec.upto namesMakeSpec)) namesMakeUptoCard

/-- THE SECOND FORM's CARD OF 'courantlaw03.NamesPieces'. -/
def namesPiecesUptoCard : Claim7 := { stood := { row := namesPiecesUptoRow, standIns := [], harness := (true, "65af60d72841a18f372d32ba187f9280f510ad0513856970cb1bdec99684fb0a"), looks := false }, kinds := [], alts := [], laidByText := true, laidKinds := [.data, .pinned], laidTests := true, laidLooks := .later }
def NamesPiecesUptoCardSaid : Prop := Claim7.holds Tryd.pinned (.plain (OpenSpec.upto namesPiecesSpec)) namesPiecesUptoCard

/-- THE SECOND FORM's CARD OF 'courantlaw03.NamesTell'. -/
def namesTellUptoCard : Claim7 := { stood := { row := namesTellUptoRow, standIns := [], harness := (true, "65af60d72841a18f372d32ba187f9280f510ad0513856970cb1bdec99684fb0a"), looks := false }, kinds := [], alts := [], laidByText := true, laidKinds := [.data, .pinned], laidTests := true, laidLooks := .later }
def NamesTellUptoCardSaid : Prop := Claim7.holds Tryd.pinned (.plain (OpenSpec.upto namesTellSpec)) namesTellUptoCard

/-- THE SECOND FORM's CARD OF 'courantlaw03.NamesBack'. -/
def namesBackUptoCard : Claim7 := { stood := { row := namesBackUptoRow, standIns := [], harness := (true, "65af60d72841a18f372d32ba187f9280f510ad0513856970cb1bdec99684fb0a"), looks := false }, kinds := [], alts := [], laidByText := true, laidKinds := [.data, .pinned], laidTests := true, laidLooks := .later }
def NamesBackUptoCardSaid : Prop := Claim7.holds Tryd.pinned (.plain (OpenSpec.upto namesBackSpec)) namesBackUptoCard
end Rows
end Go.Proofs.YtkacbcpnmbkaeaaDoor
