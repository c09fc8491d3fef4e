/- The laws' helpers: Names, In, Same, ids. -/
import Derived.Test.YtkdcenbommhnoaaMove
set_option linter.unusedVariables false
set_option linter.unusedSimpArgs false
namespace Go.Proofs.Ytkdcenbommhnoaa
open Go.RowKit
set_option maxRecDepth 20000 in
set_option maxHeartbeats 1000000 in
theorem names_any (l m : List Str) (A B : Option Addr) (c d : Nat) (w : World) (hr : RdS w A l) (hs : RdS w B m) (hl : l.length ≤ maxLen) (hm : m.length ≤ maxLen) :
    Calls Try.prog 17 #[.slice A l.length c, .slice B m.length d] w fun e w' => e = .returned (.bool (l == m)) ∧ Below w.heap.size w w' := by
  unfold maxLen at hl hm
  have HR := Lib.hid hr; clear hr
  have HS := Lib.hid hs; clear hs
  by_cases hne : l.length = m.length
  · have hd : ((l.length : Int) != (m.length : Int)) = false := by simp [hne]
    have HNE := Lib.hid hne; clear hne
    go_enter Try.func17, Try.ntmps17
    go_wp2_with fail
    go_loopw [5] (fun i wr => ∃ k : Nat, k ≤ l.length ∧ i = .int .i64 k ∧ Below w.heap.size w wr ∧ ∀ j, j < k → l[j]? = m[j]?) (fun i _ => l.length - (intOf i).toNat)
    case atStart => exact ⟨0, Nat.zero_le _, rfl, Below.refl _ _, fun _ h => absurd h (by omega)⟩
    case round =>
      obtain ⟨k, hk, rfl, hb, hno⟩ := hrel
      have Hno := Lib.hid hno; clear hno
      by_cases hlt : k < l.length
      · obtain ⟨x, hx⟩ := get_of_lt hlt
        obtain ⟨y, hy⟩ := get_of_lt (l := m) (k := k) (by have := HNE.out; omega)
        have hlt2 : k < m.length := by have := HNE.out; omega
        have hi1 : (k : Int) < l.length := by omega
        have hi2 : (k : Int) < m.length := by omega
        have hi0 : (0 : Int) ≤ k := by omega
        obtain ⟨b1, o1, rfl, hbs1, c1⟩ := (HR.out.below hb).item hx
        obtain ⟨b2, o2, rfl, hbs2, c2⟩ := (HS.out.below hb).item hy
        have HX := Lib.hid hx; clear hx
        have HY := Lib.hid hy; clear hy
        have HB := Lib.hid hb; clear hb
        cases hp : (x == y) with
        | true =>
          have hq : (x != y) = false := by simp [bne, hp]
          have HP := Lib.hid hp
          go_wp2_with fail
          go_quiet (fail)
          go_wp2_with fail
          refine ⟨⟨k + 1, by omega, by go_num, Below.drewN' _ HB.out, fun j hj => ?_⟩, by simp [intOf]; omega⟩
          rcases Nat.lt_succ_iff_lt_or_eq.1 hj with h | rfl
          · exact Hno.out j h
          · rw [HX.out, HY.out, eq_of_beq HP.out]
        | false =>
          have hq : (x != y) = true := by simp [bne, hp]
          have HP := Lib.hid hp
          go_wp2_with fail
          go_quiet (fail)
          go_wp2_with fail
          go_ret
          refine ⟨ret_bool ?_, Below.drewN' _ HB.out⟩
          symm
          rw [beq_eq_false_iff_ne]
          rintro rfl
          have := HX.out.symm.trans HY.out
          cases this
          have := HP.out
          simp at this
      · have : k = l.length := by omega
        subst this
        have HB := Lib.hid hb; clear hb
        go_wp2_with fail
        go_ret
        refine ⟨ret_bool ?_, HB.out⟩
        symm
        rw [beq_iff_eq]
        apply List.ext_getElem?
        intro j
        by_cases hj : j < l.length
        · exact Hno.out j hj
        · rw [List.getElem?_eq_none (by omega), List.getElem?_eq_none (by have := HNE.out; omega)]
  · have hd : ((l.length : Int) != (m.length : Int)) = true := by simp; omega
    have HNE := Lib.hid hne; clear hne
    go_enter Try.func17, Try.ntmps17
    go_wp2_with fail
    go_ret
    refine ⟨ret_bool ?_, Below.refl _ _⟩
    symm
    rw [beq_eq_false_iff_ne]
    rintro rfl
    exact HNE.out rfl
set_option maxRecDepth 20000 in
set_option maxHeartbeats 1000000 in
theorem in_any (l : List Str) (A : Option Addr) (c : Nat) (s : Str) (w : World) (hr : RdS w A l) (hl : l.length ≤ maxLen) :
    Calls Try.prog 19 #[.slice A l.length c, vs s] w fun e w' => e = .returned (.bool (hasS l s)) ∧ w = w' := by
  unfold maxLen at hl
  have HR := Lib.hid hr; clear hr
  go_enter Try.func19, Try.ntmps19
  go_wp2_with fail
  go_loop [5] (fun i => ∃ k : Nat, k ≤ l.length ∧ i = .int .i64 k ∧ ∀ (j : Nat) x, l[j]? = some x → j < k → (s == x) = false) (fun i => l.length - (intOf i).toNat)
  case atStart => exact ⟨0, Nat.zero_le _, rfl, fun _ _ _ h => absurd h (by omega)⟩
  case round =>
    obtain ⟨k, hk, rfl, hno⟩ := hrel
    have Hno := Lib.hid hno; clear hno
    by_cases hlt : k < l.length
    · obtain ⟨x, hx⟩ := get_of_lt hlt
      obtain ⟨b, o, rfl, hbs, c0⟩ := HR.out.item hx
      have Hx := Lib.hid hx; clear hx
      cases hp : (s == x) with
      | true =>
        have hp2 : (x == s) = true := by rw [beq_iff_eq] at hp ⊢; exact hp.symm
        have Hp := Lib.hid hp; clear hp
        go_wp2_with fail
        go_ret
        refine ⟨ret_bool ?_, rfl⟩
        symm
        unfold hasS
        rw [List.any_eq_true]
        exact ⟨x, List.mem_of_getElem? Hx.out, Hp.out⟩
      | false =>
        have hp2 : (x == s) = false := by rw [beq_eq_false_iff_ne] at hp ⊢; exact fun h => hp h.symm
        have Hp := Lib.hid hp; clear hp
        go_wp2_with fail
        exact ⟨⟨k + 1, by omega, by go_num, below_succ (p := fun x => s == x) Hx.out Hp.out Hno.out⟩, by simp [intOf]; omega⟩
    · have : k = l.length := by omega
      subst this
      go_wp2_with fail
      go_ret
      refine ⟨ret_bool ?_, rfl⟩
      symm
      unfold hasS
      rw [List.any_eq_false]
      intro x hx
      obtain ⟨j, hj⟩ := List.mem_iff_getElem?.1 hx
      simpa using Hno.out j x hj (List.getElem?_eq_some_iff.1 hj).1
end Go.Proofs.Ytkdcenbommhnoaa
