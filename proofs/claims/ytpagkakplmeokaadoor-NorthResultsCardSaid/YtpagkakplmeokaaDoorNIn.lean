/- The reference's In. -/
import Derived.Test.YtpagkakplmeokaaDoorNGaps
set_option linter.unusedVariables false
set_option linter.unusedSimpArgs false
namespace Go.Proofs.YtpagkakplmeokaaDoor
open Go.RowKit
set_option maxRecDepth 20000 in
theorem in_any (l : List (List UInt8)) (A : Option Addr) (c : Nat) (s : List UInt8) (w : World) (hr : RdS w A l) (hl : l.length ≤ 100000) :
    Calls Tryd.prog 20 #[.slice A l.length c, vs s] w fun e w' => e = .returned (.int .i64 (idx (ixS l s))) ∧ w = w' := by
  go_enter Tryd.func20, Tryd.ntmps20
  go_wp2_with fail
  go_loop [5] (fun i => ∃ k : Nat, k ≤ l.length ∧ i = .int .i64 k ∧ ∀ (j : Nat) x, l[j]? = some x → j < k → (s == x) = false) (fun i => l.length - (intOf i).toNat)
  case atStart => exact ⟨0, Nat.zero_le _, rfl, fun _ _ _ h => absurd h (by omega)⟩
  case round =>
    obtain ⟨k, hk, rfl, hno⟩ := hrel
    have Hno := Lib.hid hno; clear hno
    by_cases hlt : k < l.length
    · obtain ⟨x, hx⟩ := get_of_lt hlt
      obtain ⟨b, o, rfl, hbs, c0⟩ := hr.item hx
      have Hx := Lib.hid hx
      clear hr hx
      have hk1 : (k : Int) < l.length := by omega
      cases hp : (x == s) with
      | true =>
        have Hp : Hid ((s == x) = true) := Lib.hid (by rw [← hp, BEq.comm])
        go_wp2_with fail
        go_ret
        exact ⟨by unfold ixS; rw [findIdx_some Hx.out Hp.out Hno.out]; rfl, rfl⟩
      | false =>
        have Hp : Hid ((s == x) = false) := Lib.hid (by rw [← hp, BEq.comm])
        go_wp2_with fail
        exact ⟨⟨k + 1, hlt, by go_num, below_succ (p := fun x => s == x) Hx.out Hp.out Hno.out⟩, by simp [intOf]; omega⟩
    · have : k = l.length := by omega
      subst this
      have hk1 : ¬ ((l.length : Nat) : Int) < l.length := by omega
      go_wp2_with fail
      go_ret
      exact ⟨by unfold ixS; rw [findIdx_none Hno.out]; rfl, rfl⟩
end Go.Proofs.YtpagkakplmeokaaDoor
