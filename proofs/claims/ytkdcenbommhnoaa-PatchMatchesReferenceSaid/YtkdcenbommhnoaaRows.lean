/-
  No cell of these rows narrows 'for every input' (looked for: loops, veiled, ifaces, maps, wideKeys, modest, calm, conditions, laid).
  DERIVED. THE GIVEN ROWS OF THIS SEAT. 7 by the template 'for every input the law returns true; each argument reads behind the call as it read before'; 0 by the template 'total and deterministic' (their statements: YtkdcenbommhnoaaTotals.lean).
  GIVEN WITH THE SEED: the statements are not yours to turn. If you find one false, say at which input.
  Laid BY PROGRAM, IN A SANDBOX (cutbox-rows.mjs): the forced cells as the released guide's own fill.sh prints them over the translation 4436244ff6cb6e2c… (all of the seat's roots in one cut). By AI agents, Wed Nov 11 2026. No macro, syntax, notation, axiom, sorry.
-/
import Derived.Test.YtkdcenbommhnoaaChecked
import GoSem.Claim
import GoSem.ClaimJoined
import GoSem.ClaimMapViews
import Derived.JoinedTies
import Derived.KernelRfl
namespace Go.Proofs.Ytkdcenbommhnoaa
/- THE CELL 'sum', in the pinned program and in every row, IS THE sha256 OF THE DUMP (.gsa) THAT YtkdcenbommhnoaaProg.lean LOADS. Nothing in Lean hashes anything: it is a label: what it is worth is what the hold of that sum in a sandbox is worth. -/
noncomputable def Try.pinned : Pinned := { name := "ytkdcenbommhnoaa", sum := "4436244ff6cb6e2c618f5ecb728d948796dd2bc47b16beeeae739d0b2686ec5e", checked := Try.checked }
namespace Rows
def none {H : Type} : Left H := { results := [], args := [] }

/-- 'pandectlaw19.PatchValid': WHATEVER THE INPUT: true; the input reads as it did. -/
def patchValidSpec : ChangeSpec := { name := "patchValid", fn := fun _ => fun
  | [d1, d2] => { results := [.lit (.bool true)], args := [d1, d2] }
  | _ => none }
def patchValidRow : OpenClaim := { program := "ytkdcenbommhnoaa", sum := "4436244ff6cb6e2c618f5ecb728d948796dd2bc47b16beeeae739d0b2686ec5e", func := "pandect/pandectlaw19.PatchValid", spec := "patchValid", inPlace := ["slices.overlaps[pandect/api.Item]", "internal/bytealg.IndexByteString", "internal/bytealg.IndexString"], unfollowed := true, recurses := true, named := ["internal/bytealg.MaxLen"], apart := false }
def PatchValidSaid : Prop := patchValidRow.holds Try.pinned (OpenSpec.ofChange patchValidSpec)

/-- ITS FALSE NEIGHBOUR: 'it returns false'. Refute it at one input. -/
def patchValidWrong : ChangeSpec := { name := "patchValid", fn := fun _ => fun
  | [d1, d2] => { results := [.lit (.bool false)], args := [d1, d2] }
  | _ => none }
def PatchValidWrongFalsely : Prop := patchValidRow.holds Try.pinned (OpenSpec.ofChange patchValidWrong)

/-- 'pandectlaw19.PatchOne': WHATEVER THE INPUT: true; the input reads as it did. -/
def patchOneSpec : ChangeSpec := { name := "patchOne", fn := fun _ => fun
  | [d1, d2] => { results := [.lit (.bool true)], args := [d1, d2] }
  | _ => none }
def patchOneRow : OpenClaim := { program := "ytkdcenbommhnoaa", sum := "4436244ff6cb6e2c618f5ecb728d948796dd2bc47b16beeeae739d0b2686ec5e", func := "pandect/pandectlaw19.PatchOne", spec := "patchOne", inPlace := ["slices.overlaps[pandect/api.Item]", "internal/bytealg.IndexByteString", "internal/bytealg.IndexString"], unfollowed := true, recurses := true, named := ["internal/bytealg.MaxLen"], apart := false }
def PatchOneSaid : Prop := patchOneRow.holds Try.pinned (OpenSpec.ofChange patchOneSpec)

/-- ITS FALSE NEIGHBOUR: 'it returns false'. Refute it at one input. -/
def patchOneWrong : ChangeSpec := { name := "patchOne", fn := fun _ => fun
  | [d1, d2] => { results := [.lit (.bool false)], args := [d1, d2] }
  | _ => none }
def PatchOneWrongFalsely : Prop := patchOneRow.holds Try.pinned (OpenSpec.ofChange patchOneWrong)

/-- 'pandectlaw19.PatchOrder': WHATEVER THE INPUT: true; the input reads as it did. -/
def patchOrderSpec : ChangeSpec := { name := "patchOrder", fn := fun _ => fun
  | [d1, d2] => { results := [.lit (.bool true)], args := [d1, d2] }
  | _ => none }
def patchOrderRow : OpenClaim := { program := "ytkdcenbommhnoaa", sum := "4436244ff6cb6e2c618f5ecb728d948796dd2bc47b16beeeae739d0b2686ec5e", func := "pandect/pandectlaw19.PatchOrder", spec := "patchOrder", inPlace := ["slices.overlaps[pandect/api.Item]", "internal/bytealg.IndexByteString", "internal/bytealg.IndexString"], unfollowed := true, recurses := true, named := ["internal/bytealg.MaxLen"], apart := false }
def PatchOrderSaid : Prop := patchOrderRow.holds Try.pinned (OpenSpec.ofChange patchOrderSpec)

/-- ITS FALSE NEIGHBOUR: 'it returns false'. Refute it at one input. -/
def patchOrderWrong : ChangeSpec := { name := "patchOrder", fn := fun _ => fun
  | [d1, d2] => { results := [.lit (.bool false)], args := [d1, d2] }
  | _ => none }
def PatchOrderWrongFalsely : Prop := patchOrderRow.holds Try.pinned (OpenSpec.ofChange patchOrderWrong)

/-- 'pandectlaw19.PatchAgain': WHATEVER THE INPUT: true; the input reads as it did. -/
def patchAgainSpec : ChangeSpec := { name := "patchAgain", fn := fun _ => fun
  | [d1, d2] => { results := [.lit (.bool true)], args := [d1, d2] }
  | _ => none }
def patchAgainRow : OpenClaim := { program := "ytkdcenbommhnoaa", sum := "4436244ff6cb6e2c618f5ecb728d948796dd2bc47b16beeeae739d0b2686ec5e", func := "pandect/pandectlaw19.PatchAgain", spec := "patchAgain", inPlace := ["slices.overlaps[pandect/api.Item]", "internal/bytealg.IndexByteString", "internal/bytealg.IndexString"], unfollowed := true, recurses := true, named := ["internal/bytealg.MaxLen"], apart := false }
def PatchAgainSaid : Prop := patchAgainRow.holds Try.pinned (OpenSpec.ofChange patchAgainSpec)

/-- ITS FALSE NEIGHBOUR: 'it returns false'. Refute it at one input. -/
def patchAgainWrong : ChangeSpec := { name := "patchAgain", fn := fun _ => fun
  | [d1, d2] => { results := [.lit (.bool false)], args := [d1, d2] }
  | _ => none }
def PatchAgainWrongFalsely : Prop := patchAgainRow.holds Try.pinned (OpenSpec.ofChange patchAgainWrong)

/-- 'pandectlaw19.PatchLists': WHATEVER THE INPUT: true; the input reads as it did. -/
def patchListsSpec : ChangeSpec := { name := "patchLists", fn := fun _ => fun
  | [d1, d2, d3] => { results := [.lit (.bool true)], args := [d1, d2, d3] }
  | _ => none }
def patchListsRow : OpenClaim := { program := "ytkdcenbommhnoaa", sum := "4436244ff6cb6e2c618f5ecb728d948796dd2bc47b16beeeae739d0b2686ec5e", func := "pandect/pandectlaw19.PatchLists", spec := "patchLists", inPlace := ["slices.overlaps[pandect/api.Item]", "internal/bytealg.IndexByteString", "internal/bytealg.IndexString"], unfollowed := true, recurses := true, named := ["internal/bytealg.MaxLen"], apart := false }
def PatchListsSaid : Prop := patchListsRow.holds Try.pinned (OpenSpec.ofChange patchListsSpec)

/-- ITS FALSE NEIGHBOUR: 'it returns false'. Refute it at one input. -/
def patchListsWrong : ChangeSpec := { name := "patchLists", fn := fun _ => fun
  | [d1, d2, d3] => { results := [.lit (.bool false)], args := [d1, d2, d3] }
  | _ => none }
def PatchListsWrongFalsely : Prop := patchListsRow.holds Try.pinned (OpenSpec.ofChange patchListsWrong)

/-- 'pandectlaw19.PatchBack': WHATEVER THE INPUT: true; the input reads as it did. -/
def patchBackSpec : ChangeSpec := { name := "patchBack", fn := fun _ => fun
  | [d1, d2] => { results := [.lit (.bool true)], args := [d1, d2] }
  | _ => none }
def patchBackRow : OpenClaim := { program := "ytkdcenbommhnoaa", sum := "4436244ff6cb6e2c618f5ecb728d948796dd2bc47b16beeeae739d0b2686ec5e", func := "pandect/pandectlaw19.PatchBack", spec := "patchBack", inPlace := ["slices.overlaps[pandect/api.Item]", "internal/bytealg.IndexByteString", "internal/bytealg.IndexString"], unfollowed := true, recurses := true, named := ["internal/bytealg.MaxLen"], apart := false }
def PatchBackSaid : Prop := patchBackRow.holds Try.pinned (OpenSpec.ofChange patchBackSpec)

/-- ITS FALSE NEIGHBOUR: 'it returns false'. Refute it at one input. -/
def patchBackWrong : ChangeSpec := { name := "patchBack", fn := fun _ => fun
  | [d1, d2] => { results := [.lit (.bool false)], args := [d1, d2] }
  | _ => none }
def PatchBackWrongFalsely : Prop := patchBackRow.holds Try.pinned (OpenSpec.ofChange patchBackWrong)

/-- 'pandectlaw19.PatchMatchesReference': WHATEVER THE INPUT: true; the input reads as it did. -/
def patchMatchesReferenceSpec : ChangeSpec := { name := "patchMatchesReference", fn := fun _ => fun
  | [d1, d2, d3] => { results := [.lit (.bool true)], args := [d1, d2, d3] }
  | _ => none }
def patchMatchesReferenceRow : OpenClaim := { program := "ytkdcenbommhnoaa", sum := "4436244ff6cb6e2c618f5ecb728d948796dd2bc47b16beeeae739d0b2686ec5e", func := "pandect/pandectlaw19.PatchMatchesReference", spec := "patchMatchesReference", inPlace := ["slices.overlaps[pandect/api.Item]", "internal/bytealg.IndexByteString", "internal/bytealg.IndexString"], unfollowed := true, recurses := true, named := ["internal/bytealg.MaxLen"], apart := false }
def PatchMatchesReferenceSaid : Prop := patchMatchesReferenceRow.holds Try.pinned (OpenSpec.ofChange patchMatchesReferenceSpec)

/-- ITS FALSE NEIGHBOUR: 'it returns false'. Refute it at one input. -/
def patchMatchesReferenceWrong : ChangeSpec := { name := "patchMatchesReference", fn := fun _ => fun
  | [d1, d2, d3] => { results := [.lit (.bool false)], args := [d1, d2, d3] }
  | _ => none }
def PatchMatchesReferenceWrongFalsely : Prop := patchMatchesReferenceRow.holds Try.pinned (OpenSpec.ofChange patchMatchesReferenceWrong)

/- THE SECOND FORM. 'bulk': how many values and letters a reading holds, each counted each time it is reached (what is shared counts as often as it is met; a slice's spare places count too). A statement '..UptoSaid' is the law's where the arguments, and the package variables that the reading takes, are together of bulk at most 1048576: NARROWER than '..Said'. Prove '..Said' where nothing that the law and all that it calls make is longer than what came in: it says more and counts as full. Else prove '..UptoSaid'. A law counts once. -/
mutual
def uptoBulk {H : Type} : DataW H → Nat
  | .lit (.string bytes) => bytes.length + 1
  | .lit _ => 1
  | .nil => 1
  | .ptr d => uptoBulk d + 1
  | .slice elems spare => uptoBulkAll elems + uptoBulkAll spare + 1
  | .agg parts => uptoBulkAll parts + 1
  | .iface _ d => uptoBulk d + 1
  | .map entries => uptoBulkEntries entries + 1
  | .held _ => 1
def uptoBulkAll {H : Type} : List (DataW H) → Nat
  | [] => 0
  | d :: r => uptoBulk d + uptoBulkAll r
def uptoBulkEntries {H : Type} : List (Lit × DataW H) → Nat
  | [] => 0
  | x :: r => uptoBulkEntry x + uptoBulkEntries r
def uptoBulkEntry {H : Type} : Lit × DataW H → Nat
  | (.string bytes, d) => bytes.length + uptoBulk d + 1
  | (_, d) => uptoBulk d + 1
 end
def uptoSmall : (H : Type) → List (DataW H) → Bool := fun _ ds => decide (uptoBulkAll ds ≤ 1048576)
def OpenSpec.upto (s : _root_.Go.ChangeSpec) : _root_.Go.OpenSpec := { _root_.Go.OpenSpec.ofChange s with cond := some uptoSmall }

/-- 'pandectlaw19.PatchValid', WHERE WHAT IT READS IS OF BULK AT MOST 1048576: true; the input reads as it did. -/
def patchValidUptoRow : OpenClaim := { program := "ytkdcenbommhnoaa", sum := "4436244ff6cb6e2c618f5ecb728d948796dd2bc47b16beeeae739d0b2686ec5e", func := "pandect/pandectlaw19.PatchValid", spec := "patchValid", inPlace := ["slices.overlaps[pandect/api.Item]", "internal/bytealg.IndexByteString", "internal/bytealg.IndexString"], unfollowed := true, recurses := true, named := ["internal/bytealg.MaxLen"], apart := false, narrowed := true }
def PatchValidUptoSaid : Prop := patchValidUptoRow.holds Try.pinned (OpenSpec.upto patchValidSpec)

/-- 'pandectlaw19.PatchOne', WHERE WHAT IT READS IS OF BULK AT MOST 1048576: true; the input reads as it did. -/
def patchOneUptoRow : OpenClaim := { program := "ytkdcenbommhnoaa", sum := "4436244ff6cb6e2c618f5ecb728d948796dd2bc47b16beeeae739d0b2686ec5e", func := "pandect/pandectlaw19.PatchOne", spec := "patchOne", inPlace := ["slices.overlaps[pandect/api.Item]", "internal/bytealg.IndexByteString", "internal/bytealg.IndexString"], unfollowed := true, recurses := true, named := ["internal/bytealg.MaxLen"], apart := false, narrowed := true }
def PatchOneUptoSaid : Prop := patchOneUptoRow.holds Try.pinned (OpenSpec.upto patchOneSpec)

/-- 'pandectlaw19.PatchOrder', WHERE WHAT IT READS IS OF BULK AT MOST 1048576: true; the input reads as it did. -/
def patchOrderUptoRow : OpenClaim := { program := "ytkdcenbommhnoaa", sum := "4436244ff6cb6e2c618f5ecb728d948796dd2bc47b16beeeae739d0b2686ec5e", func := "pandect/pandectlaw19.PatchOrder", spec := "patchOrder", inPlace := ["slices.overlaps[pandect/api.Item]", "internal/bytealg.IndexByteString", "internal/bytealg.IndexString"], unfollowed := true, recurses := true, named := ["internal/bytealg.MaxLen"], apart := false, narrowed := true }
def PatchOrderUptoSaid : Prop := patchOrderUptoRow.holds Try.pinned (OpenSpec.upto patchOrderSpec)

/-- 'pandectlaw19.PatchAgain', WHERE WHAT IT READS IS OF BULK AT MOST 1048576: true; the input reads as it did. -/
def patchAgainUptoRow : OpenClaim := { program := "ytkdcenbommhnoaa", sum := "4436244ff6cb6e2c618f5ecb728d948796dd2bc47b16beeeae739d0b2686ec5e", func := "pandect/pandectlaw19.PatchAgain", spec := "patchAgain", inPlace := ["slices.overlaps[pandect/api.Item]", "internal/bytealg.IndexByteString", "internal/bytealg.IndexString"], unfollowed := true, recurses := true, named := ["internal/bytealg.MaxLen"], apart := false, narrowed := true }
def PatchAgainUptoSaid : Prop := patchAgainUptoRow.holds Try.pinned (OpenSpec.upto patchAgainSpec)

/-- 'pandectlaw19.PatchLists', WHERE WHAT IT READS IS OF BULK AT MOST 1048576: true; the input reads as it did. -/
def patchListsUptoRow : OpenClaim := { program := "ytkdcenbommhnoaa", sum := "4436244ff6cb6e2c618f5ecb728d948796dd2bc47b16beeeae739d0b2686ec5e", func := "pandect/pandectlaw19.PatchLists", spec := "patchLists", inPlace := ["slices.overlaps[pandect/api.Item]", "internal/bytealg.IndexByteString", "internal/bytealg.IndexString"], unfollowed := true, recurses := true, named := ["internal/bytealg.MaxLen"], apart := false, narrowed := true }
def PatchListsUptoSaid : Prop := patchListsUptoRow.holds Try.pinned (OpenSpec.upto patchListsSpec)

/-- 'pandectlaw19.PatchBack', WHERE WHAT IT READS IS OF BULK AT MOST 1048576: true; the input reads as it did. -/
def patchBackUptoRow : OpenClaim := { program := "ytkdcenbommhnoaa", sum := "4436244ff6cb6e2c618f5ecb728d948796dd2bc47b16beeeae739d0b2686ec5e", func := "pandect/pandectlaw19.PatchBack", spec := "patchBack", inPlace := ["slices.overlaps[pandect/api.Item]", "internal/bytealg.IndexByteString", "internal/bytealg.IndexString"], unfollowed := true, recurses := true, named := ["internal/bytealg.MaxLen"], apart := false, narrowed := true }
def PatchBackUptoSaid : Prop := patchBackUptoRow.holds Try.pinned (OpenSpec.upto patchBackSpec)

/-- 'pandectlaw19.PatchMatchesReference', WHERE WHAT IT READS IS OF BULK AT MOST 1048576: true; the input reads as it did. -/
def patchMatchesReferenceUptoRow : OpenClaim := { program := "ytkdcenbommhnoaa", sum := "4436244ff6cb6e2c618f5ecb728d948796dd2bc47b16beeeae739d0b2686ec5e", func := "pandect/pandectlaw19.PatchMatchesReference", spec := "patchMatchesReference", inPlace := ["slices.overlaps[pandect/api.Item]", "internal/bytealg.IndexByteString", "internal/bytealg.IndexString"], unfollowed := true, recurses := true, named := ["internal/bytealg.MaxLen"], apart := false, narrowed := true }
def PatchMatchesReferenceUptoSaid : Prop := patchMatchesReferenceUptoRow.holds Try.pinned (OpenSpec.upto patchMatchesReferenceSpec)

end Rows
end Go.Proofs.Ytkdcenbommhnoaa
