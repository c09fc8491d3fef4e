/- pandectref07.In: is a name in a list? -/
import Derived.Test.YtbicmjmcdnkjhaaGreatDoorJP1
set_option linter.unusedVariables false
set_option linter.unusedSimpArgs false
namespace Go.Proofs.YtbicmjmcdnkjhaaGreatDoor
open Go.RowKit
def inL (l : List (List UInt8)) (s : List UInt8) : Bool := l.contains s
theorem drop_any {l : List (List UInt8)} {k : Nat} {x s : List UInt8} (hx : l[k]? = some x) : inL (l.drop k) s = (x == s || inL (l.drop (k + 1)) s) := by
  unfold inL
  obtain ⟨h1, rfl⟩ := List.getElem?_eq_some_iff.1 hx
  rw [List.drop_eq_getElem_cons h1, List.contains_cons]
  congr 1
  exact Bool.beq_comm
set_option maxRecDepth 20000 in
set_option maxHeartbeats 2000000 in
theorem in_any (l : List (List UInt8)) (A : Option Addr) (c : Nat) (s : List UInt8) (w : World) (hr : RdS w A l) (hl : l.length ≤ 1000000) :
    Calls Tryz.prog 19 #[.slice A l.length c, vs s] w fun e w' => e = .returned (.bool (l.contains s)) ∧ Below w.heap.size w w' := by
  have HR := Lib.hid hr
  clear hr
  obtain ⟨b, hb0⟩ : ∃ b, l.contains s = b := ⟨_, rfl⟩
  rw [hb0]
  have HB0 := Lib.hid hb0
  clear hb0
  go_enter Tryz.func19, Tryz.ntmps19
  go_wp2_with fail
  go_loopw [5] (fun v wr => ∃ k : Nat, k ≤ l.length ∧ v = .int .i64 k ∧ inL (l.drop k) s = b ∧ Below w.heap.size w wr) (fun v _ => l.length - (intOf v).toNat)
  case atStart => exact ⟨0, Nat.zero_le _, rfl, HB0.out, Below.refl _ _⟩
  case round =>
    obtain ⟨k, hk, rfl, heq, hb⟩ := hrel
    have HEQ := Lib.hid heq
    have HB := Lib.hid hb
    clear hb heq
    by_cases hlt : k < l.length
    · obtain ⟨x, hx⟩ := get_of_lt hlt
      have HST := Lib.hid (drop_any (s := s) hx)
      obtain ⟨g1, r1, rfl, hg1, hc1⟩ := HR.out.item hx
      have z1 : wr.cell? ⟨g1, r1 + k, none⟩ = some (vs x) := (HB.out.cell (p := ⟨g1, r1 + k, none⟩) hg1).trans hc1
      have hk1 : (k : Int) < l.length := by omega
      have hk0 : (0 : Int) ≤ k := by omega
      clear hc1 hx
      cases hxy : (x == s) with
      | true =>
        rw [hxy] at HST
        go_wp2_with fail
        go_ret
        exact ⟨by rw [← HEQ.out, HST.out, Bool.true_or]; rfl, HB.out⟩
      | false =>
        rw [hxy] at HST
        go_wp2_with fail
        exact ⟨⟨k + 1, by omega, by go_num, by rw [← HEQ.out, HST.out, Bool.false_or], HB.out⟩, by simp [intOf]; omega⟩
    · have hk' : k = l.length := by omega
      subst hk'
      have hlt2 : ¬ ((l.length : Nat) : Int) < l.length := by omega
      have hend : b = false := by rw [← HEQ.out, List.drop_length]; rfl
      have HE := Lib.hid hend
      clear hend
      go_wp2_with fail
      go_ret
      exact ⟨by rw [HE.out]; rfl, HB.out⟩
end Go.Proofs.YtbicmjmcdnkjhaaGreatDoor
