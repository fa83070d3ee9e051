/-
  DERIVED. GIVEN WITH THE SEED: THE CARDS: each row of YtbihlmkjoplkoaaGreatDoorRows.lean that lists a variable, with what it lists TIED to the program's text (the seventh form; the later family's looks); each row that meets fmt, with fmt's text TOLD by the authors' own Lean function (tested against real Go, not proved from fmt's source: count such statements apart). THE CARD IS WHAT COUNTS. Prove the row's statement (the work); the ties are given (YtbihlmkjoplkoaaGreatDoorTie.lean); close each card by the builder's one call (the guide's Derived/Test/ToyasCard.lean, 'card_holds'). Laid BY PROGRAM, IN A SANDBOX (cutbox-door.mjs). By AI agents, Wed Nov 11 2026. No macro, syntax, notation, axiom, sorry.
-/
import Derived.Test.YtbihlmkjoplkoaaGreatDoorRows
import GoSem.ClaimSeven
namespace Go.Proofs.YtbihlmkjoplkoaaGreatDoor
namespace Rows

/-- THE TIED CARD OF 'spunyarntop.TopOwners'. -/
def topOwnersCard : Claim7 := { stood := { row := topOwnersRow, standIns := [], harness := (true, "c1ea1d91ca636f028238bd935bd507bbd2843b4a5e0f292c4364d9dd20436df4"), looks := false }, kinds := [], alts := [], laidByText := true, laidKinds := [.data, .data, .data], laidTests := true, laidLooks := .later }
def TopOwnersCardSaid : Prop := Claim7.holds Tryz.pinned (.plain (OpenSpec.ofChange topOwnersSpec)) topOwnersCard

/-- THE SECOND FORM's CARD OF 'spunyarntop.TopOwners'. -/
def topOwnersUptoCard : Claim7 := { stood := { row := topOwnersUptoRow, standIns := [], harness := (true, "c1ea1d91ca636f028238bd935bd507bbd2843b4a5e0f292c4364d9dd20436df4"), looks := false }, kinds := [], alts := [], laidByText := true, laidKinds := [.data, .data, .data], laidTests := true, laidLooks := .later }
def TopOwnersUptoCardSaid : Prop := Claim7.holds Tryz.pinned (.plain (OpenSpec.upto topOwnersSpec)) topOwnersUptoCard
end Rows
end Go.Proofs.YtbihlmkjoplkoaaGreatDoor
