/- code.Valid, code.Below, code.Under. -/
import Derived.Test.YtfolcjkednmkoaaGreatWalk
import Derived.Deep.RegionHeld3
import Derived.Deep.AppendLies
import Derived.Deep.QuietTactic
import Derived.BigQuiet
set_option linter.unusedVariables false
set_option linter.unusedSimpArgs false
set_option maxRecDepth 20000
set_option maxHeartbeats 1000000
namespace Go.Proofs.YtfolcjkednmkoaaGreat
open Go.RowKit
theorem valid1_any (k : Int) (v : Value) (w : World) : Calls Tryz.prog 36 #[.int .i64 k, v] w fun e w' => e = .returned (.tuple #[]) ∧ w = w' := by
 go_enter Tryz.func36, Tryz.ntmps36
 go_wp2
 go_end0
 exact ⟨rfl, rfl⟩
theorem valid_visits (l : List Item) (B0 : Nat) : Visits l B0 36 #[] (fun _ F _ => F = []) where
 enters := enters Tryz.func36 (by kernel_rfl) rfl
 bound := by rintro done F W rfl b hb; simp at hb
 keep := fun done F W W' h _ _ => h
 visit := by
  rintro done F W x o O hx rfl hr hl
  refine (valid1_any _ _ W).mono ?_
  rintro e w' ⟨rfl, rfl⟩
  exact ⟨rfl, [], rfl, VEff.refl _ _, by simp⟩
theorem valid_any (l : List Item) (A : Option Addr) (c : Nat) (w : World) (hr : RdI w A l) (hl : l.length ≤ 1000000) (hsh : ∀ x ∈ l, x.Short) :
 Calls Tryz.prog 18 #[.agg #[.slice A l.length c]] w fun e w' => e = .returned (.bool (walkB l)) ∧ Below w.heap.size w w' := by
 have HSH := Lib.hid hsh; clear hsh
 go_enter Tryz.func18, Tryz.ntmps18
 go_wp2_with fail
 refine (walk_any l A c 36 #[] (fun _ F _ => F = []) [] _ (hr.below ((Below.refl _ _).alloc (Nat.le_refl _) _)) hl HSH.out (by simp) (valid_visits l _) rfl).mono ?_
 rintro e w1 ⟨rfl, done, F, hF, hv, _, _⟩
 have HV := Lib.hid hv; clear hv
 clear hF
 go_wp2_with fail
 go_ret
 exact ⟨rfl, ((Below.refl _ _).alloc (Nat.le_refl _) _).trans ((VEff.to_below HV.out).mono (by simp))⟩
end Go.Proofs.YtfolcjkednmkoaaGreat
