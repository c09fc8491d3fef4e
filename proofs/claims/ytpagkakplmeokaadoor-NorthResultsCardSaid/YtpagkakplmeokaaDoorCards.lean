/-
  DERIVED. GIVEN WITH THE SEED: THE CARDS: each row of YtpagkakplmeokaaDoorRows.lean that lists a variable, with what it lists TIED to the program's text (the seventh form; the later family's looks); each row that meets fmt, with fmt's text TOLD by the authors' own Lean function (tested against real Go, not proved from fmt's source: count such statements apart). THE CARD IS WHAT COUNTS. Prove the row's statement (the work); the ties are given (YtpagkakplmeokaaDoorTie.lean); close each card by the builder's one call (the guide's Derived/Test/ToyasCard.lean, 'card_holds'). Laid BY PROGRAM, IN A SANDBOX (cutbox-door.mjs). By AI agents, Wed Nov 11 2026. No macro, syntax, notation, axiom, sorry.
-/
import Derived.Test.YtpagkakplmeokaaDoorRows
import GoSem.ClaimSeven
namespace Go.Proofs.YtpagkakplmeokaaDoor
namespace Rows

/-- THE TIED CARD OF 'pandectlaw08.NorthGaps'. -/
def northGapsCard : Claim7 := { stood := { row := northGapsRow, standIns := [], harness := (true, "d13d6a79ba3a68ff05c251bb2b412e273d492b2b98d293da744ff318d697e47f"), looks := true }, kinds := [], alts := [], laidByText := true, laidKinds := [.data, .data, .data, .sentinel, .sentinel], laidTests := true, laidLooks := .later }
def NorthGapsCardSaid : Prop := Claim7.holds Tryd.pinned (.plain (OpenSpec.ofChange northGapsSpec)) northGapsCard

/-- THE TIED CARD OF 'pandectlaw08.NorthFirstError'. -/
def northFirstErrorCard : Claim7 := { stood := { row := northFirstErrorRow, standIns := [], harness := (true, "d13d6a79ba3a68ff05c251bb2b412e273d492b2b98d293da744ff318d697e47f"), looks := true }, kinds := [], alts := [], laidByText := true, laidKinds := [.data, .data, .data, .sentinel, .sentinel], laidTests := true, laidLooks := .later }
def NorthFirstErrorCardSaid : Prop := Claim7.holds Tryd.pinned (.plain (OpenSpec.ofChange northFirstErrorSpec)) northFirstErrorCard

/-- THE TIED CARD OF 'pandectlaw08.NorthJoins'. -/
def northJoinsCard : Claim7 := { stood := { row := northJoinsRow, standIns := [], harness := (true, "d13d6a79ba3a68ff05c251bb2b412e273d492b2b98d293da744ff318d697e47f"), looks := true }, kinds := [], alts := [], laidByText := true, laidKinds := [.data, .data, .data, .sentinel, .sentinel], laidTests := true, laidLooks := .later }
def NorthJoinsCardSaid : Prop := Claim7.holds Tryd.pinned (.plain (OpenSpec.ofChange northJoinsSpec)) northJoinsCard

/-- THE TIED CARD OF 'pandectlaw08.NorthAbsent'. -/
def northAbsentCard : Claim7 := { stood := { row := northAbsentRow, standIns := [], harness := (true, "d13d6a79ba3a68ff05c251bb2b412e273d492b2b98d293da744ff318d697e47f"), looks := true }, kinds := [], alts := [], laidByText := true, laidKinds := [.data, .data, .data, .sentinel, .sentinel], laidTests := true, laidLooks := .later }
def NorthAbsentCardSaid : Prop := Claim7.holds Tryd.pinned (.plain (OpenSpec.ofChange northAbsentSpec)) northAbsentCard

/-- THE TIED CARD OF 'pandectlaw08.NorthResults'. -/
def northResultsCard : Claim7 := { stood := { row := northResultsRow, standIns := [], harness := (true, "d13d6a79ba3a68ff05c251bb2b412e273d492b2b98d293da744ff318d697e47f"), looks := true }, kinds := [], alts := [], laidByText := true, laidKinds := [.data, .data, .data, .sentinel, .sentinel], laidTests := true, laidLooks := .later }
def NorthResultsCardSaid : Prop := Claim7.holds Tryd.pinned (.plain (OpenSpec.ofChange northResultsSpec)) northResultsCard

/-- THE TIED CARD OF 'pandectlaw08.NorthEnds'. -/
def northEndsCard : Claim7 := { stood := { row := northEndsRow, standIns := [], harness := (true, "d13d6a79ba3a68ff05c251bb2b412e273d492b2b98d293da744ff318d697e47f"), looks := true }, kinds := [], alts := [], laidByText := true, laidKinds := [.data, .data, .data, .sentinel, .sentinel], laidTests := true, laidLooks := .later }
def NorthEndsCardSaid : Prop := Claim7.holds Tryd.pinned (.plain (OpenSpec.ofChange northEndsSpec)) northEndsCard

/-- THE SECOND FORM's CARD OF 'pandectlaw08.NorthGaps'. -/
def northGapsUptoCard : Claim7 := { stood := { row := northGapsUptoRow, standIns := [], harness := (true, "d13d6a79ba3a68ff05c251bb2b412e273d492b2b98d293da744ff318d697e47f"), looks := true }, kinds := [], alts := [], laidByText := true, laidKinds := [.data, .data, .data, .sentinel, .sentinel], laidTests := true, laidLooks := .later }
def NorthGapsUptoCardSaid : Prop := Claim7.holds Tryd.pinned (.plain (OpenSpec.upto northGapsSpec)) northGapsUptoCard

/-- THE SECOND FORM's CARD OF 'pandectlaw08.NorthFirstError'. -/
def northFirstErrorUptoCard : Claim7 := { stood := { row := northFirstErrorUptoRow, standIns := [], harness := (true, "d13d6a79ba3a68ff05c251bb2b412e273d492b2b98d293da744ff318d697e47f"), looks := true }, kinds := [], alts := [], laidByText := true, laidKinds := [.data, .data, .data, .sentinel, .sentinel], laidTests := true, laidLooks := .later }
def NorthFirstErrorUptoCardSaid : Prop := Claim7.holds Tryd.pinned (.plain (OpenSpec.upto northFirstErrorSpec)) northFirstErrorUptoCard

/-- THE SECOND FORM's CARD OF 'pandectlaw08.NorthJoins'. -/
def northJoinsUptoCard : Claim7 := { stood := { row := northJoinsUptoRow, standIns := [], harness := (true, "d13d6a79ba3a68ff05c251bb2b412e273d492b2b98d293da744ff318d697e47f"), looks := true }, kinds := [], alts := [], laidByText := true, laidKinds := [.data, .data, .data, .sentinel, .sentinel], laidTests := true, laidLooks := .later }
def NorthJoinsUptoCardSaid : Prop := Claim7.holds Tryd.pinned (.plain (OpenSpec.upto northJoinsSpec)) northJoinsUptoCard

/-- THE SECOND FORM's CARD OF 'pandectlaw08.NorthAbsent'. -/
def northAbsentUptoCard : Claim7 := { stood := { row := northAbsentUptoRow, standIns := [], harness := (true, "d13d6a79ba3a68ff05c251bb2b412e273d492b2b98d293da744ff318d697e47f"), looks := true }, kinds := [], alts := [], laidByText := true, laidKinds := [.data, .data, .data, .sentinel, .sentinel], laidTests := true, laidLooks := .later }
def NorthAbsentUptoCardSaid : Prop := Claim7.holds Tryd.pinned (.plain (OpenSpec.upto northAbsentSpec)) northAbsentUptoCard

/-- THE SECOND FORM's CARD OF 'pandectlaw08.NorthResults'. -/
def northResultsUptoCard : Claim7 := { stood := { row := northResultsUptoRow, standIns := [], harness := (true, "d13d6a79ba3a68ff05c251bb2b412e273d492b2b98d293da744ff318d697e47f"), looks := true }, kinds := [], alts := [], laidByText := true, laidKinds := [.data, .data, .data, .sentinel, .sentinel], laidTests := true, laidLooks := .later }
def NorthResultsUptoCardSaid : Prop := Claim7.holds Tryd.pinned (.plain (OpenSpec.upto northResultsSpec)) northResultsUptoCard

/-- THE SECOND FORM's CARD OF 'pandectlaw08.NorthEnds'. -/
def northEndsUptoCard : Claim7 := { stood := { row := northEndsUptoRow, standIns := [], harness := (true, "d13d6a79ba3a68ff05c251bb2b412e273d492b2b98d293da744ff318d697e47f"), looks := true }, kinds := [], alts := [], laidByText := true, laidKinds := [.data, .data, .data, .sentinel, .sentinel], laidTests := true, laidLooks := .later }
def NorthEndsUptoCardSaid : Prop := Claim7.holds Tryd.pinned (.plain (OpenSpec.upto northEndsSpec)) northEndsUptoCard
end Rows
end Go.Proofs.YtpagkakplmeokaaDoor
