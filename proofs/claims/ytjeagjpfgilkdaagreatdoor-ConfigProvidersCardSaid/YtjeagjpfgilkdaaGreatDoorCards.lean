/-
  DERIVED. GIVEN WITH THE SEED: THE CARDS: each row of YtjeagjpfgilkdaaGreatDoorRows.lean that lists a variable, with what it lists TIED to the program's text (the seventh form; the later family's looks); each row that meets fmt, with fmt's text TOLD by the authors' own Lean function (tested against real Go, not proved from fmt's source: count such statements apart). THE CARD IS WHAT COUNTS. Prove the row's statement (the work); the ties are given (YtjeagjpfgilkdaaGreatDoorTie.lean); close each card by the builder's one call (the guide's Derived/Test/ToyasCard.lean, 'card_holds'). Laid BY PROGRAM, IN A SANDBOX (cutbox-door.mjs). By AI agents, Wed Nov 11 2026. No macro, syntax, notation, axiom, sorry.
-/
import Derived.Test.YtjeagjpfgilkdaaGreatDoorRows
import GoSem.ClaimSeven
namespace Go.Proofs.YtjeagjpfgilkdaaGreatDoor
namespace Rows

/-- THE TIED CARD OF 'gaugerlaw26.ConfigProviders'. -/
def configProvidersCard : Claim7 := { stood := { row := configProvidersRow, standIns := [], harness := (true, "07160ffe63eb9942be62116b7d8c82b9e9304f69b9b8dd1262023a810e1f9641"), looks := true }, kinds := [], alts := [], laidByText := true, laidKinds := [.data, .data, .data, .data, .sentinel, .sentinel, .data, .data, .data, .pinned], laidTests := true, laidLooks := .later }
def ConfigProvidersCardSaid : Prop := Claim7.holds Tryz.pinned (.plain (OpenSpec.ofChange configProvidersSpec)) configProvidersCard

/-- THE SECOND FORM's CARD OF 'gaugerlaw26.ConfigProviders'. -/
def configProvidersUptoCard : Claim7 := { stood := { row := configProvidersUptoRow, standIns := [], harness := (true, "07160ffe63eb9942be62116b7d8c82b9e9304f69b9b8dd1262023a810e1f9641"), looks := true }, kinds := [], alts := [], laidByText := true, laidKinds := [.data, .data, .data, .data, .sentinel, .sentinel, .data, .data, .data, .pinned], laidTests := true, laidLooks := .later }
def ConfigProvidersUptoCardSaid : Prop := Claim7.holds Tryz.pinned (.plain (OpenSpec.upto configProvidersSpec)) configProvidersUptoCard
end Rows
end Go.Proofs.YtjeagjpfgilkdaaGreatDoor
