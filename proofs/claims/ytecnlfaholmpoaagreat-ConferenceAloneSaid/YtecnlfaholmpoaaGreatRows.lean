/-
  No cell of these rows narrows 'for every input' (looked for: loops, veiled, ifaces, maps, wideKeys, modest, calm, conditions, laid).
  DERIVED. THE GIVEN ROWS OF THIS SEAT. 7 by the template 'for every input the law returns true; each argument reads behind the call as it read before'; 0 by the template 'total and deterministic' (their statements: YtecnlfaholmpoaaGreatTotals.lean).
  GIVEN WITH THE SEED: the statements are not yours to turn. If you find one false, say at which input.
  Laid BY PROGRAM, IN A SANDBOX (cutbox-rows.mjs): the forced cells as the released guide's own fill.sh prints them over the translation 516aa1afb0be49db… (all of the seat's roots in one cut). By AI agents, Wed Nov 11 2026. No macro, syntax, notation, axiom, sorry.
-/
import Derived.Test.YtecnlfaholmpoaaGreatChecked
import GoSem.Claim
import GoSem.ClaimJoined
import GoSem.ClaimMapViews
import Derived.JoinedTies
import Derived.KernelRfl
namespace Go.Proofs.YtecnlfaholmpoaaGreat
/- THE CELL 'sum', in the pinned program and in every row, IS THE sha256 OF THE DUMP (.gsa) THAT YtecnlfaholmpoaaGreatProg.lean LOADS. Nothing in Lean hashes anything: it is a label: what it is worth is what the hold of that sum in a sandbox is worth. -/
noncomputable def Tryz.pinned : Pinned := { name := "ytecnlfaholmpoaagreat", sum := "516aa1afb0be49dbd2167a4f1e16dd276855da9459868c2759504702c01b286c", checked := Tryz.checked }
namespace Rows
def none {H : Type} : Left H := { results := [], args := [] }

/-- 'pandectlaw38.ConferenceMatchesReference': WHATEVER THE INPUT: true; the input reads as it did. -/
def conferenceMatchesReferenceSpec : ChangeSpec := { name := "conferenceMatchesReference", fn := fun _ => fun
  | [d1, d2, d3] => { results := [.lit (.bool true)], args := [d1, d2, d3] }
  | _ => none }
def conferenceMatchesReferenceRow : OpenClaim := { program := "ytecnlfaholmpoaagreat", sum := "516aa1afb0be49dbd2167a4f1e16dd276855da9459868c2759504702c01b286c", func := "pandect/pandectlaw38.ConferenceMatchesReference", spec := "conferenceMatchesReference", inPlace := ["slices.overlaps[pandect/api.Item]", "internal/bytealg.IndexByteString", "internal/bytealg.IndexString"], unfollowed := true, recurses := true, named := ["internal/bytealg.MaxLen"], plainKeys := false, apart := false }
def ConferenceMatchesReferenceSaid : Prop := conferenceMatchesReferenceRow.holds Tryz.pinned (OpenSpec.ofChange conferenceMatchesReferenceSpec)

/-- ITS FALSE NEIGHBOUR: 'it returns false'. Refute it at one input. -/
def conferenceMatchesReferenceWrong : ChangeSpec := { name := "conferenceMatchesReference", fn := fun _ => fun
  | [d1, d2, d3] => { results := [.lit (.bool false)], args := [d1, d2, d3] }
  | _ => none }
def ConferenceMatchesReferenceWrongFalsely : Prop := conferenceMatchesReferenceRow.holds Tryz.pinned (OpenSpec.ofChange conferenceMatchesReferenceWrong)

/-- 'pandectlaw38.ConferenceOrder': WHATEVER THE INPUT: true; the input reads as it did. -/
def conferenceOrderSpec : ChangeSpec := { name := "conferenceOrder", fn := fun _ => fun
  | [d1, d2] => { results := [.lit (.bool true)], args := [d1, d2] }
  | _ => none }
def conferenceOrderRow : OpenClaim := { program := "ytecnlfaholmpoaagreat", sum := "516aa1afb0be49dbd2167a4f1e16dd276855da9459868c2759504702c01b286c", func := "pandect/pandectlaw38.ConferenceOrder", spec := "conferenceOrder", inPlace := ["slices.overlaps[pandect/api.Item]", "internal/bytealg.IndexByteString", "internal/bytealg.IndexString"], unfollowed := true, recurses := true, named := ["internal/bytealg.MaxLen"], plainKeys := false, apart := false }
def ConferenceOrderSaid : Prop := conferenceOrderRow.holds Tryz.pinned (OpenSpec.ofChange conferenceOrderSpec)

/-- ITS FALSE NEIGHBOUR: 'it returns false'. Refute it at one input. -/
def conferenceOrderWrong : ChangeSpec := { name := "conferenceOrder", fn := fun _ => fun
  | [d1, d2] => { results := [.lit (.bool false)], args := [d1, d2] }
  | _ => none }
def ConferenceOrderWrongFalsely : Prop := conferenceOrderRow.holds Tryz.pinned (OpenSpec.ofChange conferenceOrderWrong)

/-- 'pandectlaw38.ConferenceJoins': WHATEVER THE INPUT: true; the input reads as it did. -/
def conferenceJoinsSpec : ChangeSpec := { name := "conferenceJoins", fn := fun _ => fun
  | [d1, d2] => { results := [.lit (.bool true)], args := [d1, d2] }
  | _ => none }
def conferenceJoinsRow : OpenClaim := { program := "ytecnlfaholmpoaagreat", sum := "516aa1afb0be49dbd2167a4f1e16dd276855da9459868c2759504702c01b286c", func := "pandect/pandectlaw38.ConferenceJoins", spec := "conferenceJoins", inPlace := ["slices.overlaps[pandect/api.Item]", "internal/bytealg.IndexByteString", "internal/bytealg.IndexString"], unfollowed := true, recurses := true, named := ["internal/bytealg.MaxLen"], plainKeys := false, apart := false }
def ConferenceJoinsSaid : Prop := conferenceJoinsRow.holds Tryz.pinned (OpenSpec.ofChange conferenceJoinsSpec)

/-- ITS FALSE NEIGHBOUR: 'it returns false'. Refute it at one input. -/
def conferenceJoinsWrong : ChangeSpec := { name := "conferenceJoins", fn := fun _ => fun
  | [d1, d2] => { results := [.lit (.bool false)], args := [d1, d2] }
  | _ => none }
def ConferenceJoinsWrongFalsely : Prop := conferenceJoinsRow.holds Tryz.pinned (OpenSpec.ofChange conferenceJoinsWrong)

/-- 'pandectlaw38.ConferenceResults': WHATEVER THE INPUT: true; the input reads as it did. -/
def conferenceResultsSpec : ChangeSpec := { name := "conferenceResults", fn := fun _ => fun
  | [d1, d2] => { results := [.lit (.bool true)], args := [d1, d2] }
  | _ => none }
def conferenceResultsRow : OpenClaim := { program := "ytecnlfaholmpoaagreat", sum := "516aa1afb0be49dbd2167a4f1e16dd276855da9459868c2759504702c01b286c", func := "pandect/pandectlaw38.ConferenceResults", spec := "conferenceResults", inPlace := ["slices.overlaps[pandect/api.Item]", "internal/bytealg.IndexByteString", "internal/bytealg.IndexString"], unfollowed := true, recurses := true, named := ["internal/bytealg.MaxLen"], plainKeys := false, apart := false }
def ConferenceResultsSaid : Prop := conferenceResultsRow.holds Tryz.pinned (OpenSpec.ofChange conferenceResultsSpec)

/-- ITS FALSE NEIGHBOUR: 'it returns false'. Refute it at one input. -/
def conferenceResultsWrong : ChangeSpec := { name := "conferenceResults", fn := fun _ => fun
  | [d1, d2] => { results := [.lit (.bool false)], args := [d1, d2] }
  | _ => none }
def ConferenceResultsWrongFalsely : Prop := conferenceResultsRow.holds Tryz.pinned (OpenSpec.ofChange conferenceResultsWrong)

/-- 'pandectlaw38.ConferenceAlone': WHATEVER THE INPUT: true; the input reads as it did. -/
def conferenceAloneSpec : ChangeSpec := { name := "conferenceAlone", fn := fun _ => fun
  | [d] => { results := [.lit (.bool true)], args := [d] }
  | _ => none }
def conferenceAloneRow : OpenClaim := { program := "ytecnlfaholmpoaagreat", sum := "516aa1afb0be49dbd2167a4f1e16dd276855da9459868c2759504702c01b286c", func := "pandect/pandectlaw38.ConferenceAlone", spec := "conferenceAlone", inPlace := ["slices.overlaps[pandect/api.Item]", "internal/bytealg.IndexByteString", "internal/bytealg.IndexString"], unfollowed := true, recurses := true, named := ["internal/bytealg.MaxLen"], plainKeys := false, apart := false }
def ConferenceAloneSaid : Prop := conferenceAloneRow.holds Tryz.pinned (OpenSpec.ofChange conferenceAloneSpec)

/-- ITS FALSE NEIGHBOUR: 'it returns false'. Refute it at one input. -/
def conferenceAloneWrong : ChangeSpec := { name := "conferenceAlone", fn := fun _ => fun
  | [d] => { results := [.lit (.bool false)], args := [d] }
  | _ => none }
def ConferenceAloneWrongFalsely : Prop := conferenceAloneRow.holds Tryz.pinned (OpenSpec.ofChange conferenceAloneWrong)

/-- 'pandectlaw38.ConferenceClashes': WHATEVER THE INPUT: true; the input reads as it did. -/
def conferenceClashesSpec : ChangeSpec := { name := "conferenceClashes", fn := fun _ => fun
  | [d1, d2] => { results := [.lit (.bool true)], args := [d1, d2] }
  | _ => none }
def conferenceClashesRow : OpenClaim := { program := "ytecnlfaholmpoaagreat", sum := "516aa1afb0be49dbd2167a4f1e16dd276855da9459868c2759504702c01b286c", func := "pandect/pandectlaw38.ConferenceClashes", spec := "conferenceClashes", inPlace := ["slices.overlaps[pandect/api.Item]", "internal/bytealg.IndexByteString", "internal/bytealg.IndexString"], unfollowed := true, recurses := true, named := ["internal/bytealg.MaxLen"], plainKeys := false, apart := false }
def ConferenceClashesSaid : Prop := conferenceClashesRow.holds Tryz.pinned (OpenSpec.ofChange conferenceClashesSpec)

/-- ITS FALSE NEIGHBOUR: 'it returns false'. Refute it at one input. -/
def conferenceClashesWrong : ChangeSpec := { name := "conferenceClashes", fn := fun _ => fun
  | [d1, d2] => { results := [.lit (.bool false)], args := [d1, d2] }
  | _ => none }
def ConferenceClashesWrongFalsely : Prop := conferenceClashesRow.holds Tryz.pinned (OpenSpec.ofChange conferenceClashesWrong)

/-- 'pandectlaw38.ConferenceAgrees': WHATEVER THE INPUT: true; the input reads as it did. -/
def conferenceAgreesSpec : ChangeSpec := { name := "conferenceAgrees", fn := fun _ => fun
  | [d1, d2] => { results := [.lit (.bool true)], args := [d1, d2] }
  | _ => none }
def conferenceAgreesRow : OpenClaim := { program := "ytecnlfaholmpoaagreat", sum := "516aa1afb0be49dbd2167a4f1e16dd276855da9459868c2759504702c01b286c", func := "pandect/pandectlaw38.ConferenceAgrees", spec := "conferenceAgrees", inPlace := ["slices.overlaps[pandect/api.Item]", "internal/bytealg.IndexByteString", "internal/bytealg.IndexString"], unfollowed := true, recurses := true, named := ["internal/bytealg.MaxLen"], plainKeys := false, apart := false }
def ConferenceAgreesSaid : Prop := conferenceAgreesRow.holds Tryz.pinned (OpenSpec.ofChange conferenceAgreesSpec)

/-- ITS FALSE NEIGHBOUR: 'it returns false'. Refute it at one input. -/
def conferenceAgreesWrong : ChangeSpec := { name := "conferenceAgrees", fn := fun _ => fun
  | [d1, d2] => { results := [.lit (.bool false)], args := [d1, d2] }
  | _ => none }
def ConferenceAgreesWrongFalsely : Prop := conferenceAgreesRow.holds Tryz.pinned (OpenSpec.ofChange conferenceAgreesWrong)

/- THE SECOND FORM. 'bulk': how many values and letters a reading holds, each counted each time it is reached (what is shared counts as often as it is met; a slice's spare places count too). A statement '..UptoSaid' is the law's where the arguments, and the package variables that the reading takes, are together of bulk at most 1048576: NARROWER than '..Said'. Prove '..Said' where nothing that the law and all that it calls make is longer than what came in: it says more and counts as full. Else prove '..UptoSaid'. A law counts once. -/
mutual
def uptoBulk {H : Type} : DataW H → Nat
  | .lit (.string bytes) => bytes.length + 1
  | .lit _ => 1
  | .nil => 1
  | .ptr d => uptoBulk d + 1
  | .slice elems spare => uptoBulkAll elems + uptoBulkAll spare + 1
  | .agg parts => uptoBulkAll parts + 1
  | .iface _ d => uptoBulk d + 1
  | .map entries => uptoBulkEntries entries + 1
  | .held _ => 1
def uptoBulkAll {H : Type} : List (DataW H) → Nat
  | [] => 0
  | d :: r => uptoBulk d + uptoBulkAll r
def uptoBulkEntries {H : Type} : List (Lit × DataW H) → Nat
  | [] => 0
  | x :: r => uptoBulkEntry x + uptoBulkEntries r
def uptoBulkEntry {H : Type} : Lit × DataW H → Nat
  | (.string bytes, d) => bytes.length + uptoBulk d + 1
  | (_, d) => uptoBulk d + 1
 end
def uptoSmall : (H : Type) → List (DataW H) → Bool := fun _ ds => decide (uptoBulkAll ds ≤ 1048576)
def OpenSpec.upto (s : _root_.Go.ChangeSpec) : _root_.Go.OpenSpec := { _root_.Go.OpenSpec.ofChange s with cond := some uptoSmall }

/-- 'pandectlaw38.ConferenceMatchesReference', WHERE WHAT IT READS IS OF BULK AT MOST 1048576: true; the input reads as it did. -/
def conferenceMatchesReferenceUptoRow : OpenClaim := { program := "ytecnlfaholmpoaagreat", sum := "516aa1afb0be49dbd2167a4f1e16dd276855da9459868c2759504702c01b286c", func := "pandect/pandectlaw38.ConferenceMatchesReference", spec := "conferenceMatchesReference", inPlace := ["slices.overlaps[pandect/api.Item]", "internal/bytealg.IndexByteString", "internal/bytealg.IndexString"], unfollowed := true, recurses := true, named := ["internal/bytealg.MaxLen"], plainKeys := false, apart := false, narrowed := true }
def ConferenceMatchesReferenceUptoSaid : Prop := conferenceMatchesReferenceUptoRow.holds Tryz.pinned (OpenSpec.upto conferenceMatchesReferenceSpec)

/-- 'pandectlaw38.ConferenceOrder', WHERE WHAT IT READS IS OF BULK AT MOST 1048576: true; the input reads as it did. -/
def conferenceOrderUptoRow : OpenClaim := { program := "ytecnlfaholmpoaagreat", sum := "516aa1afb0be49dbd2167a4f1e16dd276855da9459868c2759504702c01b286c", func := "pandect/pandectlaw38.ConferenceOrder", spec := "conferenceOrder", inPlace := ["slices.overlaps[pandect/api.Item]", "internal/bytealg.IndexByteString", "internal/bytealg.IndexString"], unfollowed := true, recurses := true, named := ["internal/bytealg.MaxLen"], plainKeys := false, apart := false, narrowed := true }
def ConferenceOrderUptoSaid : Prop := conferenceOrderUptoRow.holds Tryz.pinned (OpenSpec.upto conferenceOrderSpec)

/-- 'pandectlaw38.ConferenceJoins', WHERE WHAT IT READS IS OF BULK AT MOST 1048576: true; the input reads as it did. -/
def conferenceJoinsUptoRow : OpenClaim := { program := "ytecnlfaholmpoaagreat", sum := "516aa1afb0be49dbd2167a4f1e16dd276855da9459868c2759504702c01b286c", func := "pandect/pandectlaw38.ConferenceJoins", spec := "conferenceJoins", inPlace := ["slices.overlaps[pandect/api.Item]", "internal/bytealg.IndexByteString", "internal/bytealg.IndexString"], unfollowed := true, recurses := true, named := ["internal/bytealg.MaxLen"], plainKeys := false, apart := false, narrowed := true }
def ConferenceJoinsUptoSaid : Prop := conferenceJoinsUptoRow.holds Tryz.pinned (OpenSpec.upto conferenceJoinsSpec)

/-- 'pandectlaw38.ConferenceResults', WHERE WHAT IT READS IS OF BULK AT MOST 1048576: true; the input reads as it did. -/
def conferenceResultsUptoRow : OpenClaim := { program := "ytecnlfaholmpoaagreat", sum := "516aa1afb0be49dbd2167a4f1e16dd276855da9459868c2759504702c01b286c", func := "pandect/pandectlaw38.ConferenceResults", spec := "conferenceResults", inPlace := ["slices.overlaps[pandect/api.Item]", "internal/bytealg.IndexByteString", "internal/bytealg.IndexString"], unfollowed := true, recurses := true, named := ["internal/bytealg.MaxLen"], plainKeys := false, apart := false, narrowed := true }
def ConferenceResultsUptoSaid : Prop := conferenceResultsUptoRow.holds Tryz.pinned (OpenSpec.upto conferenceResultsSpec)

/-- 'pandectlaw38.ConferenceAlone', WHERE WHAT IT READS IS OF BULK AT MOST 1048576: true; the input reads as it did. -/
def conferenceAloneUptoRow : OpenClaim := { program := "ytecnlfaholmpoaagreat", sum := "516aa1afb0be49dbd2167a4f1e16dd276855da9459868c2759504702c01b286c", func := "pandect/pandectlaw38.ConferenceAlone", spec := "conferenceAlone", inPlace := ["slices.overlaps[pandect/api.Item]", "internal/bytealg.IndexByteString", "internal/bytealg.IndexString"], unfollowed := true, recurses := true, named := ["internal/bytealg.MaxLen"], plainKeys := false, apart := false, narrowed := true }
def ConferenceAloneUptoSaid : Prop := conferenceAloneUptoRow.holds Tryz.pinned (OpenSpec.upto conferenceAloneSpec)

/-- 'pandectlaw38.ConferenceClashes', WHERE WHAT IT READS IS OF BULK AT MOST 1048576: true; the input reads as it did. -/
def conferenceClashesUptoRow : OpenClaim := { program := "ytecnlfaholmpoaagreat", sum := "516aa1afb0be49dbd2167a4f1e16dd276855da9459868c2759504702c01b286c", func := "pandect/pandectlaw38.ConferenceClashes", spec := "conferenceClashes", inPlace := ["slices.overlaps[pandect/api.Item]", "internal/bytealg.IndexByteString", "internal/bytealg.IndexString"], unfollowed := true, recurses := true, named := ["internal/bytealg.MaxLen"], plainKeys := false, apart := false, narrowed := true }
def ConferenceClashesUptoSaid : Prop := conferenceClashesUptoRow.holds Tryz.pinned (OpenSpec.upto conferenceClashesSpec)

/-- 'pandectlaw38.ConferenceAgrees', WHERE WHAT IT READS IS OF BULK AT MOST 1048576: true; the input reads as it did. -/
def conferenceAgreesUptoRow : OpenClaim := { program := "ytecnlfaholmpoaagreat", sum := "516aa1afb0be49dbd2167a4f1e16dd276855da9459868c2759504702c01b286c", func := "pandect/pandectlaw38.ConferenceAgrees", spec := "conferenceAgrees", inPlace := ["slices.overlaps[pandect/api.Item]", "internal/bytealg.IndexByteString", "internal/bytealg.IndexString"], unfollowed := true, recurses := true, named := ["internal/bytealg.MaxLen"], plainKeys := false, apart := false, narrowed := true }
def ConferenceAgreesUptoSaid : Prop := conferenceAgreesUptoRow.holds Tryz.pinned (OpenSpec.upto conferenceAgreesSpec)

end Rows
end Go.Proofs.YtecnlfaholmpoaaGreat
