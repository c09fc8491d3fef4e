/- The laws' helpers Few, Light. -/
import Derived.Test.YtkdcenbommhnoaaIds
set_option linter.unusedVariables false
set_option linter.unusedSimpArgs false
namespace Go.Proofs.Ytkdcenbommhnoaa
open Go.RowKit
/- the lengths of a patch's strings are those of strings that came in -/
structure Item.Fits (x : Item) : Prop where
  id : x.id.length ≤ 140737488355328
  par : x.par.length ≤ 140737488355328
  num : x.num.length ≤ 140737488355328
  no : x.no.length ≤ 140737488355328
  so : x.so.length ≤ 140737488355328
structure Patch.Fits (p : Patch) : Prop where
  id : p.id.length ≤ 140737488355328
  par : p.par.length ≤ 140737488355328
  aft : p.aft.length ≤ 140737488355328
  num : p.num.length ≤ 140737488355328
  item : p.item.Fits
  fr : p.fr.length ≤ 140737488355328
  to : p.to.length ≤ 140737488355328
def few1 (p : Patch) : Bool := decide ((p.id.length : Int) + p.par.length + p.aft.length + p.num.length ≤ 1000)
def few2 (p : Patch) : Bool := decide ((p.fr.length : Int) + p.to.length ≤ 1000)
def few3 (x : Item) : Bool := decide ((x.id.length : Int) + x.par.length + x.num.length + x.no.length + x.so.length ≤ 2000)
def fewB (p : Patch) : Bool := few1 p && few2 p && few3 p.item
set_option maxRecDepth 20000 in
set_option maxHeartbeats 1000000 in
theorem few_any (p : Patch) (w : World) (hf : p.Fits) :
    Calls Try.prog 12 #[p.agg] w fun e w' => e = .returned (.bool (fewB p)) ∧ Below w.heap.size w w' := by
  obtain ⟨l1, l2, l3, l4, ⟨l5, l6, l7, l8, l9⟩, l10, l11⟩ := hf
  cases h1 : few1 p <;> cases h2 : few2 p <;> cases h3 : few3 p.item
  all_goals
    have H := Lib.hid (show fewB p = _ by unfold fewB; rw [h1, h2, h3])
    unfold few1 at h1
    unfold few2 at h2
    unfold few3 at h3
    go_enter Try.func12, Try.ntmps12
    go_wp2_with fail
    go_ret
    exact ⟨ret_bool (by rw [H.out]; rfl), ((Below.refl _ _).alloc (Nat.le_refl _) _).alloc (by simp) _⟩
end Go.Proofs.Ytkdcenbommhnoaa
