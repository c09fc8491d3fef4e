/- plain; the texts of postfix and parts. -/
import Derived.Test.YtcekampdldkjlaaDoorSParts
import Derived.Deep.CutRange
set_option linter.unusedVariables false
set_option linter.unusedSimpArgs false
namespace Go.Proofs.YtcekampdldkjlaaDoor
open Go.RowKit
def brB (c : UInt8) : Bool := c == 123 || c == 125 || c == 40 || c == 41 || c == 91 || c == 93
def plainB (s : List UInt8) : Bool := s.all fun c => !brB c
theorem plainB_no {s : List UInt8} (h : plainB s = true) {c : UInt8} (hc : c ∈ s) : brB c = false := by
  unfold plainB at h
  rw [List.all_eq_true] at h
  simpa using h c hc
theorem plain_125 {s : List UInt8} (h : plainB s = true) : 125 ∉ s := fun hc => by have := plainB_no h hc; revert this; decide
theorem plain_41 {s : List UInt8} (h : plainB s = true) : 41 ∉ s := fun hc => by have := plainB_no h hc; revert this; decide
theorem all_false {ls : List (List UInt8)} {i k : Nat} {s : List UInt8} {c : UInt8} (h : ls[i]? = some s) (hc : s[k]? = some c) (hb : brB c = true) : ls.all plainB = false := by
  cases h2 : ls.all plainB with
  | false => rfl
  | true =>
    rw [List.all_eq_true] at h2
    have := plainB_no (h2 s (List.mem_of_getElem? h)) (List.mem_of_getElem? hc)
    rw [hb] at this; cases this
theorem plain_of {s : List UInt8} (h : ∀ (k : Nat) c, s[k]? = some c → k < s.length → brB c = false) : plainB s = true := by
  unfold plainB
  rw [List.all_eq_true]
  intro c hc
  obtain ⟨k, hk⟩ := List.getElem?_of_mem hc
  rw [h k c hk (List.getElem?_eq_some_iff.1 hk).1]; rfl
theorem plain_all {ls : List (List UInt8)} (h : ∀ (k : Nat) s, ls[k]? = some s → k < ls.length → plainB s = true) : ls.all plainB = true := by
  rw [List.all_eq_true]
  intro s hs
  obtain ⟨k, hk⟩ := List.getElem?_of_mem hs
  exact h k s hk (List.getElem?_eq_some_iff.1 hk).1
theorem br_no {c : UInt8} (h : brB c = false) : ((c.toNat : Int) == 123) = false ∧ ((c.toNat : Int) == 125) = false ∧ ((c.toNat : Int) == 40) = false ∧ ((c.toNat : Int) == 41) = false ∧ ((c.toNat : Int) == 91) = false ∧ ((c.toNat : Int) == 93) = false := by
  have key : ∀ (d : UInt8), (c == d) = false → ((c.toNat : Int) == (d.toNat : Int)) = false := by
    intro d hd
    simp only [beq_eq_false_iff_ne, ne_eq] at hd ⊢
    intro h2
    exact hd (UInt8.toNat_inj.1 (by omega))
  unfold brB at h
  simp only [Bool.or_eq_false_iff] at h
  obtain ⟨⟨⟨⟨⟨h1, h2⟩, h3⟩, h4⟩, h5⟩, h6⟩ := h
  exact ⟨key _ h1, key _ h2, key _ h3, key _ h4, key _ h5, key _ h6⟩
theorem br_yes {c : UInt8} (h : brB c = true) : c = 123 ∨ c = 125 ∨ c = 40 ∨ c = 41 ∨ c = 91 ∨ c = 93 := by
  unfold brB at h
  simp only [Bool.or_eq_true, beq_iff_eq] at h
  rcases h with ((((h | h) | h) | h) | h) | h
  · exact .inl h
  · exact .inr (.inl h)
  · exact .inr (.inr (.inl h))
  · exact .inr (.inr (.inr (.inl h)))
  · exact .inr (.inr (.inr (.inr (.inl h))))
  · exact .inr (.inr (.inr (.inr (.inr h))))
set_option maxRecDepth 20000 in
set_option maxHeartbeats 1000000 in
theorem plain_any (ls : List (List UInt8)) (A : Option Addr) (c : Nat) (w : World) (hr : RdS w A ls) (hl : ls.length ≤ 10) (hlen : ∀ s ∈ ls, s.length ≤ 1000) :
    Calls Tryd.prog 13 #[.slice A ls.length c] w fun e w' => e = .returned (.bool (ls.all plainB)) ∧ w = w' := by
  have HR := Lib.hid hr
  have HLEN := Lib.hid hlen
  clear hr hlen
  go_enter Tryd.func13, Tryd.ntmps13
  go_wp2_with fail
  go_loop [3] (fun v3 => ∃ i : Nat, i ≤ ls.length ∧ v3 = .int .i64 i ∧ ∀ (j : Nat) s, ls[j]? = some s → j < i → plainB s = true) (fun v3 => ls.length - (intOf v3).toNat)
  case atStart => exact ⟨0, Nat.zero_le _, rfl, fun _ _ _ h => absurd h (by omega)⟩
  case round =>
    obtain ⟨i, hi, rfl, hno⟩ := hrel
    have HNO := Lib.hid hno; clear hno
    by_cases hlt : i < ls.length
    · obtain ⟨s, hs⟩ := get_of_lt hlt
      obtain ⟨b, o, rfl, hbs, c0⟩ := HR.out.item hs
      have HS := Lib.hid hs
      have hsl := HLEN.out s (List.mem_of_getElem? hs)
      have hi1 : (i : Int) < ls.length := by omega
      clear hs
      go_wp2_with fail
      go_loop [4] (fun v4 => ∃ k : Nat, k ≤ s.length ∧ v4 = .int .i64 k ∧ ∀ (j : Nat) c, s[j]? = some c → j < k → brB c = false) (fun v4 => s.length - (intOf v4).toNat)
      case atStart => exact ⟨0, Nat.zero_le _, rfl, fun _ _ _ h => absurd h (by omega)⟩
      case round =>
        obtain ⟨k, hk, rfl, hno⟩ := hrel
        have HNO2 := Lib.hid hno; clear hno
        by_cases hlt2 : k < s.length
        · obtain ⟨ch, hx⟩ := get_of_lt hlt2
          have hb := byte_at hx
          have HX := Lib.hid hx
          have hk1 : (k : Int) < s.length := by omega
          clear hx
          cases hbr : brB ch with
          | false =>
            obtain ⟨n1, n2, n3, n4, n5, n6⟩ := br_no hbr
            have HBR := Lib.hid hbr
            clear hbr
            go_wp2_with fail
            exact ⟨⟨k + 1, by omega, by go_num, below_succ (p := brB) HX.out HBR.out HNO2.out⟩, by simp [intOf]; omega⟩
          | true =>
            have HF : Hid (ls.all plainB = false) := Lib.hid (all_false HS.out HX.out hbr)
            have hcs := br_yes hbr
            clear hbr HX
            rcases hcs with rfl | rfl | rfl | rfl | rfl | rfl
            all_goals
              go_wp2_with fail
              go_ret
              exact ⟨by rw [HF.out]; rfl, rfl⟩
        · have : k = s.length := by omega
          subst this
          have hk1 : ¬ ((s.length : Nat) : Int) < s.length := by omega
          go_wp2_with fail
          exact ⟨⟨i + 1, by omega, by go_num, fun j x hx hj => (by
            rcases Nat.lt_or_ge j i with h | h
            · exact HNO.out j x hx h
            · obtain rfl : j = i := by omega
              rw [HS.out] at hx; cases hx
              exact plain_of HNO2.out)⟩, by simp [intOf]; omega⟩
    · have : i = ls.length := by omega
      subst this
      have hi1 : ¬ ((ls.length : Nat) : Int) < ls.length := by omega
      go_wp2_with fail
      go_ret
      exact ⟨by rw [plain_all HNO.out]; rfl, rfl⟩
end Go.Proofs.YtcekampdldkjlaaDoor
