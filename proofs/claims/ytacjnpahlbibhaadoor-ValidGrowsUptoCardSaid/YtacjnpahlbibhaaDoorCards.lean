/-
  DERIVED. GIVEN WITH THE SEED: THE CARDS: each row of YtacjnpahlbibhaaDoorRows.lean that lists a variable, with what it lists TIED to the program's text (the seventh form; the later family's looks); each row that meets fmt, with fmt's text TOLD by the authors' own Lean function (tested against real Go, not proved from fmt's source: count such statements apart). THE CARD IS WHAT COUNTS. Prove the row's statement (the work); the ties are given (YtacjnpahlbibhaaDoorTie.lean); close each card by the builder's one call (the guide's Derived/Test/ToyasCard.lean, 'card_holds'). Laid BY PROGRAM, IN A SANDBOX (cutbox-door.mjs). By AI agents, Wed Nov 11 2026. No macro, syntax, notation, axiom, sorry.
-/
import Derived.Test.YtacjnpahlbibhaaDoorRows
import GoSem.ClaimSeven
namespace Go.Proofs.YtacjnpahlbibhaaDoor
namespace Rows

/-- THE TIED CARD OF 'plaitlaw15.ValidGrows'. -/
def validGrowsCard : Claim7 := { stood := { row := validGrowsRow, standIns := [], harness := (true, "f3a226d3d8e7084956fbdd2dff0e61ef9c98e8fbe71f7094240ac93dc146cf0b"), looks := false }, kinds := [], alts := [], laidByText := true, laidKinds := [.data, .pinned], laidTests := true, laidLooks := .later }
def ValidGrowsCardSaid : Prop := Claim7.holds Tryd.pinned (.plain (OpenSpec.ofChange validGrowsSpec)) validGrowsCard

/-- THE TIED CARD OF 'plaitlaw15.ValidKeeps'. -/
def validKeepsCard : Claim7 := { stood := { row := validKeepsRow, standIns := [], harness := (true, "f3a226d3d8e7084956fbdd2dff0e61ef9c98e8fbe71f7094240ac93dc146cf0b"), looks := false }, kinds := [], alts := [], laidByText := true, laidKinds := [.data, .pinned], laidTests := true, laidLooks := .later }
def ValidKeepsCardSaid : Prop := Claim7.holds Tryd.pinned (.plain (OpenSpec.ofChange validKeepsSpec)) validKeepsCard

/-- THE SECOND FORM's CARD OF 'plaitlaw15.ValidGrows'. -/
def validGrowsUptoCard : Claim7 := { stood := { row := validGrowsUptoRow, standIns := [], harness := (true, "f3a226d3d8e7084956fbdd2dff0e61ef9c98e8fbe71f7094240ac93dc146cf0b"), looks := false }, kinds := [], alts := [], laidByText := true, laidKinds := [.data, .pinned], laidTests := true, laidLooks := .later }
def ValidGrowsUptoCardSaid : Prop := Claim7.holds Tryd.pinned (.plain (OpenSpec.upto validGrowsSpec)) validGrowsUptoCard

/-- THE SECOND FORM's CARD OF 'plaitlaw15.ValidKeeps'. -/
def validKeepsUptoCard : Claim7 := { stood := { row := validKeepsUptoRow, standIns := [], harness := (true, "f3a226d3d8e7084956fbdd2dff0e61ef9c98e8fbe71f7094240ac93dc146cf0b"), looks := false }, kinds := [], alts := [], laidByText := true, laidKinds := [.data, .pinned], laidTests := true, laidLooks := .later }
def ValidKeepsUptoCardSaid : Prop := Claim7.holds Tryd.pinned (.plain (OpenSpec.upto validKeepsSpec)) validKeepsUptoCard
end Rows
end Go.Proofs.YtacjnpahlbibhaaDoor
