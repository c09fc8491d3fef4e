/- The laws' helpers: Same, samePatch at equal arguments; ids. -/
import Derived.Test.YtkdcenbommhnoaaNames
import Derived.Test.YtkdcenbommhnoaaPatEq
set_option linter.unusedVariables false
set_option linter.unusedSimpArgs false
namespace Go.Proofs.Ytkdcenbommhnoaa
open Go.RowKit
set_option maxRecDepth 20000 in
set_option maxHeartbeats 1000000 in
theorem same_refl (l : List Item) (A B : Option Addr) (c d : Nat) (w : World) (hr : RdI w A l) (hs : RdI w B l) (hl : l.length ≤ maxLen) :
    Calls Try.prog 20 #[.agg #[.slice A l.length c], .agg #[.slice B l.length d]] w fun e w' => e = .returned (.bool true) ∧ Below w.heap.size w w' := by
  unfold maxLen at hl
  have HR := Lib.hid hr; clear hr
  have HS := Lib.hid hs; clear hs
  have hb0 := ((Below.refl w.heap.size w).alloc (Nat.le_refl _) (.cells #[.slice A l.length c] 24)).alloc (by simp) (.cells #[.slice B l.length d] 24)
  have HB0 := Lib.hid hb0; clear hb0
  have hd : ((l.length : Int) != (l.length : Int)) = false := by simp
  go_enter Try.func20, Try.ntmps20
  go_wp2_with fail
  go_loopw [5] (fun i wr => ∃ k : Nat, k ≤ l.length ∧ i = .int .i64 k ∧ Below ((w.alloc (.cells #[.slice A l.length c] 24)).alloc (.cells #[.slice B l.length d] 24)).heap.size ((w.alloc (.cells #[.slice A l.length c] 24)).alloc (.cells #[.slice B l.length d] 24)) wr) (fun i _ => l.length - (intOf i).toNat)
  case atStart => exact ⟨0, Nat.zero_le _, rfl, Below.refl _ _⟩
  case round =>
    obtain ⟨k, hk, rfl, hb⟩ := hrel
    have hsz := hb.size
    simp at hsz
    have z1 : w.heap.size < wr.heap.size := by omega
    have z2 : w.heap.size + 1 < wr.heap.size := by omega
    by_cases hlt : k < l.length
    · obtain ⟨x, hx⟩ := get_of_lt hlt
      have hi1 : (k : Int) < l.length := by omega
      have hi0 : (0 : Int) ≤ k := by omega
      obtain ⟨b1, o1, rfl, hbs1, c0, c1, c2, c3, c4, c5, c6⟩ := ((HR.out.below HB0.out).below hb).item hx
      obtain ⟨b2, o2, rfl, hbs2, d0, d1, d2, d3, d4, d5, d6⟩ := ((HS.out.below HB0.out).below hb).item hx
      obtain ⟨hc, hf⟩ := bcell hb
      have HX := Lib.hid hx; clear hx
      have HB := Lib.hid hb; clear hb
      go_wp2_with fail
      go_quiet (fail)
      go_wp2_with fail
      exact ⟨⟨k + 1, by omega, by go_num, Below.drewN' _ HB.out⟩, by simp [intOf]; omega⟩
    · have : k = l.length := by omega
      subst this
      obtain ⟨hc, hf⟩ := bcell hb
      have HB := Lib.hid hb; clear hb
      go_wp2_with fail
      go_ret
      exact ⟨rfl, HB0.out.trans (HB.out.mono HB0.out.size)⟩
set_option maxRecDepth 20000 in
set_option maxHeartbeats 1000000 in
theorem samePatch_refl (p : Patch) (w : World) :
    Calls Try.prog 23 #[p.agg, p.agg] w fun e w' => e = .returned (.bool true) ∧ Below w.heap.size w w' := by
  go_enter Try.func23, Try.ntmps23
  go_wp2_with fail
  go_ret
  exact ⟨rfl, ((Below.refl _ _).alloc (Nat.le_refl _) _).alloc (by simp) _⟩
end Go.Proofs.Ytkdcenbommhnoaa
