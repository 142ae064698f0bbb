/-
  DERIVED. GIVEN WITH THE SEED: THE CARDS: each row of YtonlnkibohmalaaGreatDoorRows.lean that lists a variable, with what it lists TIED to the program's text (the seventh form; the later family's looks); each row that meets fmt, with fmt's text TOLD by the authors' own Lean function (tested against real Go, not proved from fmt's source: count such statements apart). THE CARD IS WHAT COUNTS. Prove the row's statement (the work); the ties are given (YtonlnkibohmalaaGreatDoorTie.lean); close each card by the builder's one call (the guide's Derived/Test/ToyasCard.lean, 'card_holds'). Laid BY PROGRAM, IN A SANDBOX (cutbox-door.mjs). By AI agents, Wed Nov 11 2026. No macro, syntax, notation, axiom, sorry.
-/
import Derived.Test.YtonlnkibohmalaaGreatDoorRows
import GoSem.ClaimSeven
namespace Go.Proofs.YtonlnkibohmalaaGreatDoor
namespace Rows

/-- THE TIED CARD OF 'watchwordlaw35.InitialNone'. -/
def initialNoneCard : Claim7 := { stood := { row := initialNoneRow, standIns := [], harness := (true, "d10fdf3afb6aa864b6baadc5944b53db766bf7c86189d01898f22051853d22cf"), looks := true }, kinds := [], alts := [], laidByText := true, laidKinds := [.pinned, .data, .data, .data, .data, .data, .data, .data, .data], laidTests := true, laidLooks := .later }
def InitialNoneCardSaid : Prop := Claim7.holds Tryz.pinned (.plain (OpenSpec.ofChange initialNoneSpec)) initialNoneCard

/-- THE SECOND FORM's CARD OF 'watchwordlaw35.InitialNone'. -/
def initialNoneUptoCard : Claim7 := { stood := { row := initialNoneUptoRow, standIns := [], harness := (true, "d10fdf3afb6aa864b6baadc5944b53db766bf7c86189d01898f22051853d22cf"), looks := true }, kinds := [], alts := [], laidByText := true, laidKinds := [.pinned, .data, .data, .data, .data, .data, .data, .data, .data], laidTests := true, laidLooks := .later }
def InitialNoneUptoCardSaid : Prop := Claim7.holds Tryz.pinned (.plain (OpenSpec.upto initialNoneSpec)) initialNoneUptoCard
end Rows
end Go.Proofs.YtonlnkibohmalaaGreatDoor
