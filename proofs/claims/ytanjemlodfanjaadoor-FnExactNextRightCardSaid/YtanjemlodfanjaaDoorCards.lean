/-
  DERIVED. GIVEN WITH THE SEED: THE CARDS: each row of YtanjemlodfanjaaDoorRows.lean that lists a variable, with what it lists TIED to the program's text (the seventh form; the later family's looks); each row that meets fmt, with fmt's text TOLD by the authors' own Lean function (tested against real Go, not proved from fmt's source: count such statements apart). THE CARD IS WHAT COUNTS. Prove the row's statement (the work); the ties are given (YtanjemlodfanjaaDoorTie.lean); close each card by the builder's one call (the guide's Derived/Test/ToyasCard.lean, 'card_holds'). Laid BY PROGRAM, IN A SANDBOX (cutbox-door.mjs). By AI agents, Wed Nov 11 2026. No macro, syntax, notation, axiom, sorry.
-/
import Derived.Test.YtanjemlodfanjaaDoorRows
import GoSem.ClaimSeven
namespace Go.Proofs.YtanjemlodfanjaaDoor
namespace Rows

/-- THE TIED CARD OF 'laws.FnExactNextRight'. -/
def fnExactNextRightCard : Claim7 := { stood := { row := fnExactNextRightRow, standIns := [], harness := (true, "94f0b1ad247cce8b0553be77e4b24663b1951ccadcc2c6701edc0e5d802047ec"), looks := false }, kinds := [], alts := [], laidByText := true, laidKinds := [.data, .pinned], laidTests := true, laidLooks := .later }
def FnExactNextRightCardSaid : Prop := Claim7.holds Tryd.pinned (.plain (OpenSpec.ofChange fnExactNextRightSpec)) fnExactNextRightCard

/-- THE SECOND FORM's CARD OF 'laws.FnExactNextRight'. -/
def fnExactNextRightUptoCard : Claim7 := { stood := { row := fnExactNextRightUptoRow, standIns := [], harness := (true, "94f0b1ad247cce8b0553be77e4b24663b1951ccadcc2c6701edc0e5d802047ec"), looks := false }, kinds := [], alts := [], laidByText := true, laidKinds := [.data, .pinned], laidTests := true, laidLooks := .later }
def FnExactNextRightUptoCardSaid : Prop := Claim7.holds Tryd.pinned (.plain (OpenSpec.upto fnExactNextRightSpec)) fnExactNextRightUptoCard
end Rows
end Go.Proofs.YtanjemlodfanjaaDoor
