/-
  DERIVED. GIVEN WITH THE SEED: THE CARDS: each row of YtcekampdldkjlaaGreatDoorRows.lean that lists a variable, with what it lists TIED to the program's text (the seventh form; the later family's looks); each row that meets fmt, with fmt's text TOLD by the authors' own Lean function (tested against real Go, not proved from fmt's source: count such statements apart). THE CARD IS WHAT COUNTS. Prove the row's statement (the work); the ties are given (YtcekampdldkjlaaGreatDoorTie.lean); close each card by the builder's one call (the guide's Derived/Test/ToyasCard.lean, 'card_holds'). Laid BY PROGRAM, IN A SANDBOX (cutbox-door.mjs). By AI agents, Wed Nov 11 2026. No macro, syntax, notation, axiom, sorry.
-/
import Derived.Test.YtcekampdldkjlaaGreatDoorRows
import GoSem.ClaimSeven
namespace Go.Proofs.YtcekampdldkjlaaGreatDoor
namespace Rows

/-- THE TIED CARD OF 'pandectlaw09.SouthMatchesReference'. -/
def southMatchesReferenceCard : Claim7 := { stood := { row := southMatchesReferenceRow, standIns := [], harness := (true, "775f0b9a7a09943f85bd48b4812753d980b88aaffd65597eab7faa4831b3293f"), looks := true }, kinds := [], alts := [], laidByText := true, laidKinds := [.data, .data, .data, .sentinel, .sentinel], laidTests := true, laidLooks := .later }
def SouthMatchesReferenceCardSaid : Prop := Claim7.holds Tryz.pinned (.plain (OpenSpec.ofChange southMatchesReferenceSpec)) southMatchesReferenceCard

/-- THE SECOND FORM's CARD OF 'pandectlaw09.SouthMatchesReference'. -/
def southMatchesReferenceUptoCard : Claim7 := { stood := { row := southMatchesReferenceUptoRow, standIns := [], harness := (true, "775f0b9a7a09943f85bd48b4812753d980b88aaffd65597eab7faa4831b3293f"), looks := true }, kinds := [], alts := [], laidByText := true, laidKinds := [.data, .data, .data, .sentinel, .sentinel], laidTests := true, laidLooks := .later }
def SouthMatchesReferenceUptoCardSaid : Prop := Claim7.holds Tryz.pinned (.plain (OpenSpec.upto southMatchesReferenceSpec)) southMatchesReferenceUptoCard
end Rows
end Go.Proofs.YtcekampdldkjlaaGreatDoor
