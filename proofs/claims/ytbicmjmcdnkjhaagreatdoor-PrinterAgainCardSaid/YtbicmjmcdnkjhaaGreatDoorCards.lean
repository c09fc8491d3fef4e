/-
  DERIVED. GIVEN WITH THE SEED: THE CARDS: each row of YtbicmjmcdnkjhaaGreatDoorRows.lean that lists a variable, with what it lists TIED to the program's text (the seventh form; the later family's looks); each row that meets fmt, with fmt's text TOLD by the authors' own Lean function (tested against real Go, not proved from fmt's source: count such statements apart). THE CARD IS WHAT COUNTS. Prove the row's statement (the work); the ties are given (YtbicmjmcdnkjhaaGreatDoorTie.lean); close each card by the builder's one call (the guide's Derived/Test/ToyasCard.lean, 'card_holds'). Laid BY PROGRAM, IN A SANDBOX (cutbox-door.mjs). By AI agents, Wed Nov 11 2026. No macro, syntax, notation, axiom, sorry.
-/
import Derived.Test.YtbicmjmcdnkjhaaGreatDoorRows
import GoSem.ClaimSeven
namespace Go.Proofs.YtbicmjmcdnkjhaaGreatDoor
namespace Rows

/-- THE TIED CARD OF 'pandectlaw10.PrinterMatchesReference'. -/
def printerMatchesReferenceCard : Claim7 := { stood := { row := printerMatchesReferenceRow, standIns := [], harness := (true, "e8cff645778269869854ac512c61010b0688d591d9aceaf04562608c0919df74"), looks := true }, kinds := [], alts := [], laidByText := true, laidKinds := [.data, .data, .data, .sentinel, .sentinel, .listed, .data], laidTests := true, laidLooks := .later }
def PrinterMatchesReferenceCardSaid : Prop := Claim7.holds Tryz.pinned (.plain (OpenSpec.ofChange printerMatchesReferenceSpec)) printerMatchesReferenceCard

/-- THE TIED CARD OF 'pandectlaw10.PrinterEqual'. -/
def printerEqualCard : Claim7 := { stood := { row := printerEqualRow, standIns := [], harness := (true, "e8cff645778269869854ac512c61010b0688d591d9aceaf04562608c0919df74"), looks := true }, kinds := [], alts := [], laidByText := true, laidKinds := [.data, .data, .data, .sentinel, .sentinel, .listed, .data], laidTests := true, laidLooks := .later }
def PrinterEqualCardSaid : Prop := Claim7.holds Tryz.pinned (.plain (OpenSpec.ofChange printerEqualSpec)) printerEqualCard

/-- THE TIED CARD OF 'pandectlaw10.PrinterWords'. -/
def printerWordsCard : Claim7 := { stood := { row := printerWordsRow, standIns := [], harness := (true, "e8cff645778269869854ac512c61010b0688d591d9aceaf04562608c0919df74"), looks := true }, kinds := [], alts := [], laidByText := true, laidKinds := [.data, .data, .data, .sentinel, .sentinel, .listed, .data], laidTests := true, laidLooks := .later }
def PrinterWordsCardSaid : Prop := Claim7.holds Tryz.pinned (.plain (OpenSpec.ofChange printerWordsSpec)) printerWordsCard

/-- THE TIED CARD OF 'pandectlaw10.PrinterRefuses'. -/
def printerRefusesCard : Claim7 := { stood := { row := printerRefusesRow, standIns := [], harness := (true, "e8cff645778269869854ac512c61010b0688d591d9aceaf04562608c0919df74"), looks := true }, kinds := [], alts := [], laidByText := true, laidKinds := [.data, .data, .data, .sentinel, .sentinel, .listed, .data], laidTests := true, laidLooks := .later }
def PrinterRefusesCardSaid : Prop := Claim7.holds Tryz.pinned (.plain (OpenSpec.ofChange printerRefusesSpec)) printerRefusesCard

/-- THE TIED CARD OF 'pandectlaw10.PrinterNorth'. -/
def printerNorthCard : Claim7 := { stood := { row := printerNorthRow, standIns := [], harness := (true, "e8cff645778269869854ac512c61010b0688d591d9aceaf04562608c0919df74"), looks := true }, kinds := [], alts := [], laidByText := true, laidKinds := [.data, .data, .data, .sentinel, .sentinel, .listed, .data], laidTests := true, laidLooks := .later }
def PrinterNorthCardSaid : Prop := Claim7.holds Tryz.pinned (.plain (OpenSpec.ofChange printerNorthSpec)) printerNorthCard

/-- THE TIED CARD OF 'pandectlaw10.PrinterSouth'. -/
def printerSouthCard : Claim7 := { stood := { row := printerSouthRow, standIns := [], harness := (true, "e8cff645778269869854ac512c61010b0688d591d9aceaf04562608c0919df74"), looks := true }, kinds := [], alts := [], laidByText := true, laidKinds := [.data, .data, .data, .sentinel, .sentinel, .listed, .data], laidTests := true, laidLooks := .later }
def PrinterSouthCardSaid : Prop := Claim7.holds Tryz.pinned (.plain (OpenSpec.ofChange printerSouthSpec)) printerSouthCard

/-- THE TIED CARD OF 'pandectlaw10.PrinterAgain'. -/
def printerAgainCard : Claim7 := { stood := { row := printerAgainRow, standIns := [], harness := (true, "e8cff645778269869854ac512c61010b0688d591d9aceaf04562608c0919df74"), looks := true }, kinds := [], alts := [], laidByText := true, laidKinds := [.data, .data, .data, .sentinel, .sentinel, .listed, .data], laidTests := true, laidLooks := .later }
def PrinterAgainCardSaid : Prop := Claim7.holds Tryz.pinned (.plain (OpenSpec.ofChange printerAgainSpec)) printerAgainCard

/-- THE SECOND FORM's CARD OF 'pandectlaw10.PrinterMatchesReference'. -/
def printerMatchesReferenceUptoCard : Claim7 := { stood := { row := printerMatchesReferenceUptoRow, standIns := [], harness := (true, "e8cff645778269869854ac512c61010b0688d591d9aceaf04562608c0919df74"), looks := true }, kinds := [], alts := [], laidByText := true, laidKinds := [.data, .data, .data, .sentinel, .sentinel, .listed, .data], laidTests := true, laidLooks := .later }
def PrinterMatchesReferenceUptoCardSaid : Prop := Claim7.holds Tryz.pinned (.plain (OpenSpec.upto printerMatchesReferenceSpec)) printerMatchesReferenceUptoCard

/-- THE SECOND FORM's CARD OF 'pandectlaw10.PrinterEqual'. -/
def printerEqualUptoCard : Claim7 := { stood := { row := printerEqualUptoRow, standIns := [], harness := (true, "e8cff645778269869854ac512c61010b0688d591d9aceaf04562608c0919df74"), looks := true }, kinds := [], alts := [], laidByText := true, laidKinds := [.data, .data, .data, .sentinel, .sentinel, .listed, .data], laidTests := true, laidLooks := .later }
def PrinterEqualUptoCardSaid : Prop := Claim7.holds Tryz.pinned (.plain (OpenSpec.upto printerEqualSpec)) printerEqualUptoCard

/-- THE SECOND FORM's CARD OF 'pandectlaw10.PrinterWords'. -/
def printerWordsUptoCard : Claim7 := { stood := { row := printerWordsUptoRow, standIns := [], harness := (true, "e8cff645778269869854ac512c61010b0688d591d9aceaf04562608c0919df74"), looks := true }, kinds := [], alts := [], laidByText := true, laidKinds := [.data, .data, .data, .sentinel, .sentinel, .listed, .data], laidTests := true, laidLooks := .later }
def PrinterWordsUptoCardSaid : Prop := Claim7.holds Tryz.pinned (.plain (OpenSpec.upto printerWordsSpec)) printerWordsUptoCard

/-- THE SECOND FORM's CARD OF 'pandectlaw10.PrinterRefuses'. -/
def printerRefusesUptoCard : Claim7 := { stood := { row := printerRefusesUptoRow, standIns := [], harness := (true, "e8cff645778269869854ac512c61010b0688d591d9aceaf04562608c0919df74"), looks := true }, kinds := [], alts := [], laidByText := true, laidKinds := [.data, .data, .data, .sentinel, .sentinel, .listed, .data], laidTests := true, laidLooks := .later }
def PrinterRefusesUptoCardSaid : Prop := Claim7.holds Tryz.pinned (.plain (OpenSpec.upto printerRefusesSpec)) printerRefusesUptoCard

/-- THE SECOND FORM's CARD OF 'pandectlaw10.PrinterNorth'. -/
def printerNorthUptoCard : Claim7 := { stood := { row := printerNorthUptoRow, standIns := [], harness := (true, "e8cff645778269869854ac512c61010b0688d591d9aceaf04562608c0919df74"), looks := true }, kinds := [], alts := [], laidByText := true, laidKinds := [.data, .data, .data, .sentinel, .sentinel, .listed, .data], laidTests := true, laidLooks := .later }
def PrinterNorthUptoCardSaid : Prop := Claim7.holds Tryz.pinned (.plain (OpenSpec.upto printerNorthSpec)) printerNorthUptoCard

/-- THE SECOND FORM's CARD OF 'pandectlaw10.PrinterSouth'. -/
def printerSouthUptoCard : Claim7 := { stood := { row := printerSouthUptoRow, standIns := [], harness := (true, "e8cff645778269869854ac512c61010b0688d591d9aceaf04562608c0919df74"), looks := true }, kinds := [], alts := [], laidByText := true, laidKinds := [.data, .data, .data, .sentinel, .sentinel, .listed, .data], laidTests := true, laidLooks := .later }
def PrinterSouthUptoCardSaid : Prop := Claim7.holds Tryz.pinned (.plain (OpenSpec.upto printerSouthSpec)) printerSouthUptoCard

/-- THE SECOND FORM's CARD OF 'pandectlaw10.PrinterAgain'. -/
def printerAgainUptoCard : Claim7 := { stood := { row := printerAgainUptoRow, standIns := [], harness := (true, "e8cff645778269869854ac512c61010b0688d591d9aceaf04562608c0919df74"), looks := true }, kinds := [], alts := [], laidByText := true, laidKinds := [.data, .data, .data, .sentinel, .sentinel, .listed, .data], laidTests := true, laidLooks := .later }
def PrinterAgainUptoCardSaid : Prop := Claim7.holds Tryz.pinned (.plain (OpenSpec.upto printerAgainSpec)) printerAgainUptoCard
end Rows
end Go.Proofs.YtbicmjmcdnkjhaaGreatDoor
