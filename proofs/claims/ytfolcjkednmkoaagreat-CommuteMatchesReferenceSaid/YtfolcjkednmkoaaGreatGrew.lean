/- A region that draws its order, whose operations read and whose callees make memory of their own alone: one walk in the order of the text. -/
import Derived.Test.YtfolcjkednmkoaaGreatBase
import Derived.Deep.QuietTactic
import Derived.BigQuiet
set_option linter.unusedVariables false
set_option linter.unusedSimpArgs false
namespace Go
/- x, if it is w with new blocks alone; else w -/
noncomputable def World.grew (w x : World) : World := @ite _ (RowKit.Below w.heap.size w x) (Classical.propDecidable _) x w
end Go
namespace Go.Proofs.YtfolcjkednmkoaaGreat
open Go.RowKit
theorem grew_below (w x : World) : Below w.heap.size w (World.grew w x) := by
 unfold World.grew
 split
 · assumption
 · exact Below.refl _ _
theorem grew_of {w x : World} (h : Below w.heap.size w x) : World.grew w x = x := by
 unfold World.grew
 rw [if_pos h]
@[go_sem] theorem cell?_grew {w x : World} {b o : Nat} (h : b < w.heap.size) : (World.grew w x).cell? ⟨b, o, none⟩ = w.cell? ⟨b, o, none⟩ := (grew_below w x).cell (p := ⟨b, o, none⟩) h
@[go_sem] theorem frozen?_grew {w x : World} {b o : Nat} (h : b < w.heap.size) : (World.grew w x).frozen? ⟨b, o, none⟩ = w.frozen? ⟨b, o, none⟩ := (grew_below w x).frozen (p := ⟨b, o, none⟩) h
theorem wp_region_grew {P : Program} {id : Nat} {Q : Exit → Act → World → Prop} {a : Act} {w : World} {l : List Oper} (hm : P.follows .mixedOrders = true) (hB : Region.lexB .any l.toArray = true)
 (h : wpQuiet P l.toArray (fun w' => ∃ x, w' = World.grew w x) (fun a' => ∀ w', (∃ x, w' = World.grew w x) → Q .normal a' w') l a) : (Code.region id l.toArray true).wp P Q a w :=
 wp_region_quiet (C := fun w' => ∃ x, w' = World.grew w x) hm hB ⟨w.drew, (grew_of (Below.refl _ _).drew).symm⟩ (by simpa using h)
/- a callee's contract, met in such a world -/
theorem Calls_grew {P : Program} {f : FuncId} {args : Array Value} {w x : World} {v : Value} (h : Calls P f args (World.grew w x) fun e w' => e = .returned v ∧ Below (World.grew w x).heap.size (World.grew w x) w') :
 Calls P f args (World.grew w x) fun e w' => e = .returned v ∧ ∃ y, w' = World.grew w y :=
 h.mono fun _ w' ⟨he, hb⟩ => ⟨he, w', (grew_of ((grew_below w x).trans (hb.mono (grew_below w x).size))).symm⟩
end Go.Proofs.YtfolcjkednmkoaaGreat
