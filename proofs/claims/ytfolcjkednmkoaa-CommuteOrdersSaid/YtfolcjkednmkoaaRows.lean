/-
  No cell of these rows narrows 'for every input' (looked for: loops, veiled, ifaces, maps, wideKeys, modest, calm, conditions, laid).
  DERIVED. THE GIVEN ROWS OF THIS SEAT. 5 by the template 'for every input the law returns true; each argument reads behind the call as it read before'; 0 by the template 'total and deterministic' (their statements: YtfolcjkednmkoaaTotals.lean).
  GIVEN WITH THE SEED: the statements are not yours to turn. If you find one false, say at which input.
  Laid BY PROGRAM, IN A SANDBOX (cutbox-rows.mjs): the forced cells as the released guide's own fill.sh prints them over the translation d4468174719f14a1… (all of the seat's roots in one cut). By AI agents, Wed Nov 11 2026. No macro, syntax, notation, axiom, sorry.
-/
import Derived.Test.YtfolcjkednmkoaaChecked
import GoSem.Claim
import GoSem.ClaimJoined
import GoSem.ClaimMapViews
import Derived.JoinedTies
import Derived.KernelRfl
namespace Go.Proofs.Ytfolcjkednmkoaa
/- THE CELL 'sum', in the pinned program and in every row, IS THE sha256 OF THE DUMP (.gsa) THAT YtfolcjkednmkoaaProg.lean LOADS. Nothing in Lean hashes anything: it is a label: what it is worth is what the hold of that sum in a sandbox is worth. -/
noncomputable def Try.pinned : Pinned := { name := "ytfolcjkednmkoaa", sum := "d4468174719f14a195fc4efd68fb72adaa71c88db92657e28b59debcfe5763d9", checked := Try.checked }
namespace Rows
def none {H : Type} : Left H := { results := [], args := [] }

/-- 'pandectlaw20.CommuteSound': WHATEVER THE INPUT: true; the input reads as it did. -/
def commuteSoundSpec : ChangeSpec := { name := "commuteSound", fn := fun _ => fun
  | [d1, d2, d3] => { results := [.lit (.bool true)], args := [d1, d2, d3] }
  | _ => none }
def commuteSoundRow : OpenClaim := { program := "ytfolcjkednmkoaa", sum := "d4468174719f14a195fc4efd68fb72adaa71c88db92657e28b59debcfe5763d9", func := "pandect/pandectlaw20.CommuteSound", spec := "commuteSound", inPlace := ["slices.overlaps[pandect/api.Item]", "internal/bytealg.IndexByteString", "internal/bytealg.IndexString"], unfollowed := true, recurses := true, named := ["internal/bytealg.MaxLen"], plainKeys := false, apart := false }
def CommuteSoundSaid : Prop := commuteSoundRow.holds Try.pinned (OpenSpec.ofChange commuteSoundSpec)

/-- ITS FALSE NEIGHBOUR: 'it returns false'. Refute it at one input. -/
def commuteSoundWrong : ChangeSpec := { name := "commuteSound", fn := fun _ => fun
  | [d1, d2, d3] => { results := [.lit (.bool false)], args := [d1, d2, d3] }
  | _ => none }
def CommuteSoundWrongFalsely : Prop := commuteSoundRow.holds Try.pinned (OpenSpec.ofChange commuteSoundWrong)

/-- 'pandectlaw20.CommuteSwaps': WHATEVER THE INPUT: true; the input reads as it did. -/
def commuteSwapsSpec : ChangeSpec := { name := "commuteSwaps", fn := fun _ => fun
  | [d1, d2, d3] => { results := [.lit (.bool true)], args := [d1, d2, d3] }
  | _ => none }
def commuteSwapsRow : OpenClaim := { program := "ytfolcjkednmkoaa", sum := "d4468174719f14a195fc4efd68fb72adaa71c88db92657e28b59debcfe5763d9", func := "pandect/pandectlaw20.CommuteSwaps", spec := "commuteSwaps", inPlace := ["slices.overlaps[pandect/api.Item]", "internal/bytealg.IndexByteString", "internal/bytealg.IndexString"], unfollowed := true, recurses := true, named := ["internal/bytealg.MaxLen"], plainKeys := false, apart := false }
def CommuteSwapsSaid : Prop := commuteSwapsRow.holds Try.pinned (OpenSpec.ofChange commuteSwapsSpec)

/-- ITS FALSE NEIGHBOUR: 'it returns false'. Refute it at one input. -/
def commuteSwapsWrong : ChangeSpec := { name := "commuteSwaps", fn := fun _ => fun
  | [d1, d2, d3] => { results := [.lit (.bool false)], args := [d1, d2, d3] }
  | _ => none }
def CommuteSwapsWrongFalsely : Prop := commuteSwapsRow.holds Try.pinned (OpenSpec.ofChange commuteSwapsWrong)

/-- 'pandectlaw20.CommuteGroups': WHATEVER THE INPUT: true; the input reads as it did. -/
def commuteGroupsSpec : ChangeSpec := { name := "commuteGroups", fn := fun _ => fun
  | [d] => { results := [.lit (.bool true)], args := [d] }
  | _ => none }
def commuteGroupsRow : OpenClaim := { program := "ytfolcjkednmkoaa", sum := "d4468174719f14a195fc4efd68fb72adaa71c88db92657e28b59debcfe5763d9", func := "pandect/pandectlaw20.CommuteGroups", spec := "commuteGroups", inPlace := ["slices.overlaps[pandect/api.Item]", "internal/bytealg.IndexByteString", "internal/bytealg.IndexString"], unfollowed := true, recurses := true, named := ["internal/bytealg.MaxLen"], plainKeys := false, apart := false }
def CommuteGroupsSaid : Prop := commuteGroupsRow.holds Try.pinned (OpenSpec.ofChange commuteGroupsSpec)

/-- ITS FALSE NEIGHBOUR: 'it returns false'. Refute it at one input. -/
def commuteGroupsWrong : ChangeSpec := { name := "commuteGroups", fn := fun _ => fun
  | [d] => { results := [.lit (.bool false)], args := [d] }
  | _ => none }
def CommuteGroupsWrongFalsely : Prop := commuteGroupsRow.holds Try.pinned (OpenSpec.ofChange commuteGroupsWrong)

/-- 'pandectlaw20.CommuteOrders': WHATEVER THE INPUT: true; the input reads as it did. -/
def commuteOrdersSpec : ChangeSpec := { name := "commuteOrders", fn := fun _ => fun
  | [d1, d2, d3] => { results := [.lit (.bool true)], args := [d1, d2, d3] }
  | _ => none }
def commuteOrdersRow : OpenClaim := { program := "ytfolcjkednmkoaa", sum := "d4468174719f14a195fc4efd68fb72adaa71c88db92657e28b59debcfe5763d9", func := "pandect/pandectlaw20.CommuteOrders", spec := "commuteOrders", inPlace := ["slices.overlaps[pandect/api.Item]", "internal/bytealg.IndexByteString", "internal/bytealg.IndexString"], unfollowed := true, recurses := true, named := ["internal/bytealg.MaxLen"], plainKeys := false, apart := false }
def CommuteOrdersSaid : Prop := commuteOrdersRow.holds Try.pinned (OpenSpec.ofChange commuteOrdersSpec)

/-- ITS FALSE NEIGHBOUR: 'it returns false'. Refute it at one input. -/
def commuteOrdersWrong : ChangeSpec := { name := "commuteOrders", fn := fun _ => fun
  | [d1, d2, d3] => { results := [.lit (.bool false)], args := [d1, d2, d3] }
  | _ => none }
def CommuteOrdersWrongFalsely : Prop := commuteOrdersRow.holds Try.pinned (OpenSpec.ofChange commuteOrdersWrong)

/-- 'pandectlaw20.CommuteFurther': WHATEVER THE INPUT: true; the input reads as it did. -/
def commuteFurtherSpec : ChangeSpec := { name := "commuteFurther", fn := fun _ => fun
  | [d1, d2] => { results := [.lit (.bool true)], args := [d1, d2] }
  | _ => none }
def commuteFurtherRow : OpenClaim := { program := "ytfolcjkednmkoaa", sum := "d4468174719f14a195fc4efd68fb72adaa71c88db92657e28b59debcfe5763d9", func := "pandect/pandectlaw20.CommuteFurther", spec := "commuteFurther", inPlace := ["slices.overlaps[pandect/api.Item]", "internal/bytealg.IndexByteString", "internal/bytealg.IndexString"], unfollowed := true, recurses := true, named := ["internal/bytealg.MaxLen"], plainKeys := false, apart := false }
def CommuteFurtherSaid : Prop := commuteFurtherRow.holds Try.pinned (OpenSpec.ofChange commuteFurtherSpec)

/-- ITS FALSE NEIGHBOUR: 'it returns false'. Refute it at one input. -/
def commuteFurtherWrong : ChangeSpec := { name := "commuteFurther", fn := fun _ => fun
  | [d1, d2] => { results := [.lit (.bool false)], args := [d1, d2] }
  | _ => none }
def CommuteFurtherWrongFalsely : Prop := commuteFurtherRow.holds Try.pinned (OpenSpec.ofChange commuteFurtherWrong)

/- THE SECOND FORM. 'bulk': how many values and letters a reading holds, each counted each time it is reached (what is shared counts as often as it is met; a slice's spare places count too). A statement '..UptoSaid' is the law's where the arguments, and the package variables that the reading takes, are together of bulk at most 1048576: NARROWER than '..Said'. Prove '..Said' where nothing that the law and all that it calls make is longer than what came in: it says more and counts as full. Else prove '..UptoSaid'. A law counts once. -/
mutual
def uptoBulk {H : Type} : DataW H → Nat
  | .lit (.string bytes) => bytes.length + 1
  | .lit _ => 1
  | .nil => 1
  | .ptr d => uptoBulk d + 1
  | .slice elems spare => uptoBulkAll elems + uptoBulkAll spare + 1
  | .agg parts => uptoBulkAll parts + 1
  | .iface _ d => uptoBulk d + 1
  | .map entries => uptoBulkEntries entries + 1
  | .held _ => 1
def uptoBulkAll {H : Type} : List (DataW H) → Nat
  | [] => 0
  | d :: r => uptoBulk d + uptoBulkAll r
def uptoBulkEntries {H : Type} : List (Lit × DataW H) → Nat
  | [] => 0
  | x :: r => uptoBulkEntry x + uptoBulkEntries r
def uptoBulkEntry {H : Type} : Lit × DataW H → Nat
  | (.string bytes, d) => bytes.length + uptoBulk d + 1
  | (_, d) => uptoBulk d + 1
 end
def uptoSmall : (H : Type) → List (DataW H) → Bool := fun _ ds => decide (uptoBulkAll ds ≤ 1048576)
def OpenSpec.upto (s : _root_.Go.ChangeSpec) : _root_.Go.OpenSpec := { _root_.Go.OpenSpec.ofChange s with cond := some uptoSmall }

/-- 'pandectlaw20.CommuteSound', WHERE WHAT IT READS IS OF BULK AT MOST 1048576: true; the input reads as it did. -/
def commuteSoundUptoRow : OpenClaim := { program := "ytfolcjkednmkoaa", sum := "d4468174719f14a195fc4efd68fb72adaa71c88db92657e28b59debcfe5763d9", func := "pandect/pandectlaw20.CommuteSound", spec := "commuteSound", inPlace := ["slices.overlaps[pandect/api.Item]", "internal/bytealg.IndexByteString", "internal/bytealg.IndexString"], unfollowed := true, recurses := true, named := ["internal/bytealg.MaxLen"], plainKeys := false, apart := false, narrowed := true }
def CommuteSoundUptoSaid : Prop := commuteSoundUptoRow.holds Try.pinned (OpenSpec.upto commuteSoundSpec)

/-- 'pandectlaw20.CommuteSwaps', WHERE WHAT IT READS IS OF BULK AT MOST 1048576: true; the input reads as it did. -/
def commuteSwapsUptoRow : OpenClaim := { program := "ytfolcjkednmkoaa", sum := "d4468174719f14a195fc4efd68fb72adaa71c88db92657e28b59debcfe5763d9", func := "pandect/pandectlaw20.CommuteSwaps", spec := "commuteSwaps", inPlace := ["slices.overlaps[pandect/api.Item]", "internal/bytealg.IndexByteString", "internal/bytealg.IndexString"], unfollowed := true, recurses := true, named := ["internal/bytealg.MaxLen"], plainKeys := false, apart := false, narrowed := true }
def CommuteSwapsUptoSaid : Prop := commuteSwapsUptoRow.holds Try.pinned (OpenSpec.upto commuteSwapsSpec)

/-- 'pandectlaw20.CommuteGroups', WHERE WHAT IT READS IS OF BULK AT MOST 1048576: true; the input reads as it did. -/
def commuteGroupsUptoRow : OpenClaim := { program := "ytfolcjkednmkoaa", sum := "d4468174719f14a195fc4efd68fb72adaa71c88db92657e28b59debcfe5763d9", func := "pandect/pandectlaw20.CommuteGroups", spec := "commuteGroups", inPlace := ["slices.overlaps[pandect/api.Item]", "internal/bytealg.IndexByteString", "internal/bytealg.IndexString"], unfollowed := true, recurses := true, named := ["internal/bytealg.MaxLen"], plainKeys := false, apart := false, narrowed := true }
def CommuteGroupsUptoSaid : Prop := commuteGroupsUptoRow.holds Try.pinned (OpenSpec.upto commuteGroupsSpec)

/-- 'pandectlaw20.CommuteOrders', WHERE WHAT IT READS IS OF BULK AT MOST 1048576: true; the input reads as it did. -/
def commuteOrdersUptoRow : OpenClaim := { program := "ytfolcjkednmkoaa", sum := "d4468174719f14a195fc4efd68fb72adaa71c88db92657e28b59debcfe5763d9", func := "pandect/pandectlaw20.CommuteOrders", spec := "commuteOrders", inPlace := ["slices.overlaps[pandect/api.Item]", "internal/bytealg.IndexByteString", "internal/bytealg.IndexString"], unfollowed := true, recurses := true, named := ["internal/bytealg.MaxLen"], plainKeys := false, apart := false, narrowed := true }
def CommuteOrdersUptoSaid : Prop := commuteOrdersUptoRow.holds Try.pinned (OpenSpec.upto commuteOrdersSpec)

/-- 'pandectlaw20.CommuteFurther', WHERE WHAT IT READS IS OF BULK AT MOST 1048576: true; the input reads as it did. -/
def commuteFurtherUptoRow : OpenClaim := { program := "ytfolcjkednmkoaa", sum := "d4468174719f14a195fc4efd68fb72adaa71c88db92657e28b59debcfe5763d9", func := "pandect/pandectlaw20.CommuteFurther", spec := "commuteFurther", inPlace := ["slices.overlaps[pandect/api.Item]", "internal/bytealg.IndexByteString", "internal/bytealg.IndexString"], unfollowed := true, recurses := true, named := ["internal/bytealg.MaxLen"], plainKeys := false, apart := false, narrowed := true }
def CommuteFurtherUptoSaid : Prop := commuteFurtherUptoRow.holds Try.pinned (OpenSpec.upto commuteFurtherSpec)

end Rows
end Go.Proofs.Ytfolcjkednmkoaa
