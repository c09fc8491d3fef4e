/-
  DERIVED. GIVEN WITH THE SEED: THE CARDS: each row of YtcekampdldkjlaaDoorRows.lean that lists a variable, with what it lists TIED to the program's text (the seventh form; the later family's looks); each row that meets fmt, with fmt's text TOLD by the authors' own Lean function (tested against real Go, not proved from fmt's source: count such statements apart). THE CARD IS WHAT COUNTS. Prove the row's statement (the work); the ties are given (YtcekampdldkjlaaDoorTie.lean); close each card by the builder's one call (the guide's Derived/Test/ToyasCard.lean, 'card_holds'). Laid BY PROGRAM, IN A SANDBOX (cutbox-door.mjs). By AI agents, Wed Nov 11 2026. No macro, syntax, notation, axiom, sorry.
-/
import Derived.Test.YtcekampdldkjlaaDoorRows
import GoSem.ClaimSeven
namespace Go.Proofs.YtcekampdldkjlaaDoor
namespace Rows

/-- THE TIED CARD OF 'pandectlaw09.SouthGaps'. -/
def southGapsCard : Claim7 := { stood := { row := southGapsRow, standIns := [], harness := (true, "a5f413e713da0b383d3b58feed5fe1bb9dd3d24d8a9db90b81d4c90351d6208e"), looks := true }, kinds := [], alts := [], laidByText := true, laidKinds := [.data, .data, .data, .sentinel, .sentinel], laidTests := true, laidLooks := .later }
def SouthGapsCardSaid : Prop := Claim7.holds Tryd.pinned (.plain (OpenSpec.ofChange southGapsSpec)) southGapsCard

/-- THE TIED CARD OF 'pandectlaw09.SouthFirst'. -/
def southFirstCard : Claim7 := { stood := { row := southFirstRow, standIns := [], harness := (true, "a5f413e713da0b383d3b58feed5fe1bb9dd3d24d8a9db90b81d4c90351d6208e"), looks := true }, kinds := [], alts := [], laidByText := true, laidKinds := [.data, .data, .data, .sentinel, .sentinel], laidTests := true, laidLooks := .later }
def SouthFirstCardSaid : Prop := Claim7.holds Tryd.pinned (.plain (OpenSpec.ofChange southFirstSpec)) southFirstCard

/-- THE TIED CARD OF 'pandectlaw09.SouthPostfix'. -/
def southPostfixCard : Claim7 := { stood := { row := southPostfixRow, standIns := [], harness := (true, "a5f413e713da0b383d3b58feed5fe1bb9dd3d24d8a9db90b81d4c90351d6208e"), looks := true }, kinds := [], alts := [], laidByText := true, laidKinds := [.data, .data, .data, .sentinel, .sentinel], laidTests := true, laidLooks := .later }
def SouthPostfixCardSaid : Prop := Claim7.holds Tryd.pinned (.plain (OpenSpec.ofChange southPostfixSpec)) southPostfixCard

/-- THE TIED CARD OF 'pandectlaw09.SouthParts'. -/
def southPartsCard : Claim7 := { stood := { row := southPartsRow, standIns := [], harness := (true, "a5f413e713da0b383d3b58feed5fe1bb9dd3d24d8a9db90b81d4c90351d6208e"), looks := true }, kinds := [], alts := [], laidByText := true, laidKinds := [.data, .data, .data, .sentinel, .sentinel], laidTests := true, laidLooks := .later }
def SouthPartsCardSaid : Prop := Claim7.holds Tryd.pinned (.plain (OpenSpec.ofChange southPartsSpec)) southPartsCard

/-- THE TIED CARD OF 'pandectlaw09.SouthForm'. -/
def southFormCard : Claim7 := { stood := { row := southFormRow, standIns := [], harness := (true, "a5f413e713da0b383d3b58feed5fe1bb9dd3d24d8a9db90b81d4c90351d6208e"), looks := true }, kinds := [], alts := [], laidByText := true, laidKinds := [.data, .data, .data, .sentinel, .sentinel], laidTests := true, laidLooks := .later }
def SouthFormCardSaid : Prop := Claim7.holds Tryd.pinned (.plain (OpenSpec.ofChange southFormSpec)) southFormCard

/-- THE SECOND FORM's CARD OF 'pandectlaw09.SouthGaps'. -/
def southGapsUptoCard : Claim7 := { stood := { row := southGapsUptoRow, standIns := [], harness := (true, "a5f413e713da0b383d3b58feed5fe1bb9dd3d24d8a9db90b81d4c90351d6208e"), looks := true }, kinds := [], alts := [], laidByText := true, laidKinds := [.data, .data, .data, .sentinel, .sentinel], laidTests := true, laidLooks := .later }
def SouthGapsUptoCardSaid : Prop := Claim7.holds Tryd.pinned (.plain (OpenSpec.upto southGapsSpec)) southGapsUptoCard

/-- THE SECOND FORM's CARD OF 'pandectlaw09.SouthFirst'. -/
def southFirstUptoCard : Claim7 := { stood := { row := southFirstUptoRow, standIns := [], harness := (true, "a5f413e713da0b383d3b58feed5fe1bb9dd3d24d8a9db90b81d4c90351d6208e"), looks := true }, kinds := [], alts := [], laidByText := true, laidKinds := [.data, .data, .data, .sentinel, .sentinel], laidTests := true, laidLooks := .later }
def SouthFirstUptoCardSaid : Prop := Claim7.holds Tryd.pinned (.plain (OpenSpec.upto southFirstSpec)) southFirstUptoCard

/-- THE SECOND FORM's CARD OF 'pandectlaw09.SouthPostfix'. -/
def southPostfixUptoCard : Claim7 := { stood := { row := southPostfixUptoRow, standIns := [], harness := (true, "a5f413e713da0b383d3b58feed5fe1bb9dd3d24d8a9db90b81d4c90351d6208e"), looks := true }, kinds := [], alts := [], laidByText := true, laidKinds := [.data, .data, .data, .sentinel, .sentinel], laidTests := true, laidLooks := .later }
def SouthPostfixUptoCardSaid : Prop := Claim7.holds Tryd.pinned (.plain (OpenSpec.upto southPostfixSpec)) southPostfixUptoCard

/-- THE SECOND FORM's CARD OF 'pandectlaw09.SouthParts'. -/
def southPartsUptoCard : Claim7 := { stood := { row := southPartsUptoRow, standIns := [], harness := (true, "a5f413e713da0b383d3b58feed5fe1bb9dd3d24d8a9db90b81d4c90351d6208e"), looks := true }, kinds := [], alts := [], laidByText := true, laidKinds := [.data, .data, .data, .sentinel, .sentinel], laidTests := true, laidLooks := .later }
def SouthPartsUptoCardSaid : Prop := Claim7.holds Tryd.pinned (.plain (OpenSpec.upto southPartsSpec)) southPartsUptoCard

/-- THE SECOND FORM's CARD OF 'pandectlaw09.SouthForm'. -/
def southFormUptoCard : Claim7 := { stood := { row := southFormUptoRow, standIns := [], harness := (true, "a5f413e713da0b383d3b58feed5fe1bb9dd3d24d8a9db90b81d4c90351d6208e"), looks := true }, kinds := [], alts := [], laidByText := true, laidKinds := [.data, .data, .data, .sentinel, .sentinel], laidTests := true, laidLooks := .later }
def SouthFormUptoCardSaid : Prop := Claim7.holds Tryd.pinned (.plain (OpenSpec.upto southFormSpec)) southFormUptoCard
end Rows
end Go.Proofs.YtcekampdldkjlaaDoor
