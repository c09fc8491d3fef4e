/- slices.Index and slices.Contains at strings. -/
import Derived.Test.YtfolcjkednmkoaaGreatBase
set_option linter.unusedVariables false
set_option linter.unusedSimpArgs false
set_option maxRecDepth 20000
set_option maxHeartbeats 400000
namespace Go.Proofs.YtfolcjkednmkoaaGreat
open Go.RowKit
def RdS (w : World) (A : Option Addr) (l : List Str) : Prop := Sl (fun s => [vs s]) 1 w A l
theorem RdS.below {w w' : World} {A : Option Addr} {l : List Str} (h : RdS w A l) (hb : Below w.heap.size w w') : RdS w' A l := Sl.below h hb
theorem RdS.item {w : World} {A : Option Addr} {l : List Str} (h : RdS w A l) {k : Nat} {x : Str} (hx : l[k]? = some x) :
 ∃ b o, A = some ⟨b, o, none⟩ ∧ b < w.heap.size ∧ w.cell? ⟨b, o + k, none⟩ = some (vs x) := by
 obtain ⟨b, o, hA, hlt, hc⟩ := h (by rintro rfl; simp at hx)
 have := hc k x hx 0 _ rfl
 exact ⟨b, o, hA, hlt, by simpa using this⟩
def hasS (l : List Str) (s : Str) : Bool := l.any fun x => s == x
def ixS (l : List Str) (s : Str) : Option Nat := l.findIdx? fun x => s == x
theorem indexS_any (l : List Str) (A : Option Addr) (c : Nat) (s : Str) (w : World) (hr : RdS w A l) (hl : l.length ≤ maxLen) :
 Calls Tryz.prog 53 #[.slice A l.length c, vs s] w fun e w' => e = .returned (.int .i64 (idx (ixS l s))) ∧ w = w' := by
 unfold maxLen at hl
 go_enter Tryz.func53, Tryz.ntmps53
 go_wp2
 go_loop [8] (fun i => ∃ k : Nat, k ≤ l.length ∧ i = .int .i64 k ∧ ∀ (j : Nat) x, l[j]? = some x → j < k → (s == x) = false) (fun i => l.length - (intOf i).toNat)
 case atStart => exact ⟨0, Nat.zero_le _, rfl, fun _ _ _ h => absurd h (by omega)⟩
 case round =>
  obtain ⟨k, hk, rfl, hno⟩ := hrel
  have Hno := Lib.hid hno; clear hno
  by_cases hlt : k < l.length
  · obtain ⟨x, hx⟩ := get_of_lt hlt
    obtain ⟨b, o, rfl, hbs, c0⟩ := hr.item hx
    have Hx := Lib.hid hx
    clear hr hx
    cases hp : (s == x) with
    | true =>
      have Hp := Lib.hid hp
      go_wp2_with fail
      go_ret
      exact ⟨by unfold ixS; rw [findIdx_some Hx.out Hp.out Hno.out]; rfl, rfl⟩
    | false =>
      have Hp := Lib.hid hp
      go_wp2_with fail
      exact ⟨⟨k + 1, by omega, by go_num, below_succ (p := fun x => s == x) Hx.out Hp.out Hno.out⟩, by simp [intOf]; omega⟩
  · have : k = l.length := by omega
    subst this
    go_wp2_with fail
    go_ret
    exact ⟨by unfold ixS; rw [findIdx_none Hno.out]; rfl, rfl⟩
theorem idx_nonneg' (o : Option Nat) : decide (0 ≤ idx o) = o.isSome := by
 cases o <;> simp [idx]
theorem containsS_any (l : List Str) (A : Option Addr) (c : Nat) (s : Str) (w : World) (hr : RdS w A l) (hl : l.length ≤ maxLen) :
 Calls Tryz.prog 39 #[.slice A l.length c, vs s] w fun e w' => e = .returned (.bool (hasS l s)) ∧ w = w' := by
 have H1 := Lib.hid (indexS_any l A c s w hr hl)
 go_enter Tryz.func39, Tryz.ntmps39
 go_wp2_with (go_at_call 53; refine H1.out.mono ?_; rintro e w1 ⟨rfl, rfl⟩)
 go_ret
 refine ⟨ret_bool ?_, rfl⟩
 rw [idx_nonneg']; unfold ixS hasS; rw [List.findIdx?_isSome]
end Go.Proofs.YtfolcjkednmkoaaGreat
