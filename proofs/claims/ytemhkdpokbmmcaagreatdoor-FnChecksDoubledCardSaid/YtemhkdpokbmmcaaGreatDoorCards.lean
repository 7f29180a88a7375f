/-
  DERIVED. GIVEN WITH THE SEED: THE CARDS: each row of YtemhkdpokbmmcaaGreatDoorRows.lean that lists a variable, with what it lists TIED to the program's text (the seventh form; the later family's looks); each row that meets fmt, with fmt's text TOLD by the authors' own Lean function (tested against real Go, not proved from fmt's source: count such statements apart). THE CARD IS WHAT COUNTS. Prove the row's statement (the work); the ties are given (YtemhkdpokbmmcaaGreatDoorTie.lean); close each card by the builder's one call (the guide's Derived/Test/ToyasCard.lean, 'card_holds'). Laid BY PROGRAM, IN A SANDBOX (cutbox-door.mjs). By AI agents, Wed Nov 11 2026. No macro, syntax, notation, axiom, sorry.
-/
import Derived.Test.YtemhkdpokbmmcaaGreatDoorRows
import GoSem.ClaimSeven
namespace Go.Proofs.YtemhkdpokbmmcaaGreatDoor
namespace Rows

/-- THE TIED CARD OF 'laws.FnKeysSame'. -/
def fnKeysSameCard : Claim7 := { stood := { row := fnKeysSameRow, standIns := [], harness := (true, "95b5fa93d6c1a6fe1f6a1ef39326d4b719c1600f189b6dd9c7dd7bfb1a45594a"), looks := true }, kinds := [], alts := [], laidByText := true, laidKinds := [.data, .pinned], laidTests := true, laidLooks := .later }
def FnKeysSameCardSaid : Prop := Claim7.holds Tryz.pinned (.plain (OpenSpec.ofChange fnKeysSameSpec)) fnKeysSameCard

/-- THE TIED CARD OF 'laws.FnChecksFound'. -/
def fnChecksFoundCard : Claim7 := { stood := { row := fnChecksFoundRow, standIns := [], harness := (true, "95b5fa93d6c1a6fe1f6a1ef39326d4b719c1600f189b6dd9c7dd7bfb1a45594a"), looks := true }, kinds := [], alts := [], laidByText := true, laidKinds := [.data, .pinned], laidTests := true, laidLooks := .later }
def FnChecksFoundCardSaid : Prop := Claim7.holds Tryz.pinned (.plain (OpenSpec.ofChange fnChecksFoundSpec)) fnChecksFoundCard

/-- THE TIED CARD OF 'laws.FnChecksDoubled'. -/
def fnChecksDoubledCard : Claim7 := { stood := { row := fnChecksDoubledRow, standIns := [], harness := (true, "95b5fa93d6c1a6fe1f6a1ef39326d4b719c1600f189b6dd9c7dd7bfb1a45594a"), looks := true }, kinds := [], alts := [], laidByText := true, laidKinds := [.data, .data, .data, .data, .sentinel, .sentinel, .pinned], laidTests := true, laidLooks := .later }
def FnChecksDoubledCardSaid : Prop := Claim7.holds Tryz.pinned (.plain (OpenSpec.ofChange fnChecksDoubledSpec)) fnChecksDoubledCard

/-- THE SECOND FORM's CARD OF 'laws.FnKeysSame'. -/
def fnKeysSameUptoCard : Claim7 := { stood := { row := fnKeysSameUptoRow, standIns := [], harness := (true, "95b5fa93d6c1a6fe1f6a1ef39326d4b719c1600f189b6dd9c7dd7bfb1a45594a"), looks := true }, kinds := [], alts := [], laidByText := true, laidKinds := [.data, .pinned], laidTests := true, laidLooks := .later }
def FnKeysSameUptoCardSaid : Prop := Claim7.holds Tryz.pinned (.plain (OpenSpec.upto fnKeysSameSpec)) fnKeysSameUptoCard

/-- THE SECOND FORM's CARD OF 'laws.FnChecksFound'. -/
def fnChecksFoundUptoCard : Claim7 := { stood := { row := fnChecksFoundUptoRow, standIns := [], harness := (true, "95b5fa93d6c1a6fe1f6a1ef39326d4b719c1600f189b6dd9c7dd7bfb1a45594a"), looks := true }, kinds := [], alts := [], laidByText := true, laidKinds := [.data, .pinned], laidTests := true, laidLooks := .later }
def FnChecksFoundUptoCardSaid : Prop := Claim7.holds Tryz.pinned (.plain (OpenSpec.upto fnChecksFoundSpec)) fnChecksFoundUptoCard

/-- THE SECOND FORM's CARD OF 'laws.FnChecksDoubled'. -/
def fnChecksDoubledUptoCard : Claim7 := { stood := { row := fnChecksDoubledUptoRow, standIns := [], harness := (true, "95b5fa93d6c1a6fe1f6a1ef39326d4b719c1600f189b6dd9c7dd7bfb1a45594a"), looks := true }, kinds := [], alts := [], laidByText := true, laidKinds := [.data, .data, .data, .data, .sentinel, .sentinel, .pinned], laidTests := true, laidLooks := .later }
def FnChecksDoubledUptoCardSaid : Prop := Claim7.holds Tryz.pinned (.plain (OpenSpec.upto fnChecksDoubledSpec)) fnChecksDoubledUptoCard
end Rows
end Go.Proofs.YtemhkdpokbmmcaaGreatDoor
