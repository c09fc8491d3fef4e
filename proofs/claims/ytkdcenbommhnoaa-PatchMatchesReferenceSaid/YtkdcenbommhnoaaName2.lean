/- code.isName and code.proper. -/
import Derived.Test.YtkdcenbommhnoaaName
set_option linter.unusedVariables false
set_option linter.unusedSimpArgs false
namespace Go.Proofs.Ytkdcenbommhnoaa
open Go.RowKit
def letB (c : UInt8) : Bool := isLowB c || isUpB c
def digB (c : UInt8) : Bool := isDigitB c || c.toNat == 95
def nameOk (i : Nat) (c : UInt8) : Bool := letB c || (i != 0 && digB c)
def isNameB (s : Str) : Bool := (List.range s.length).all (fun i => nameOk i (s.getD i 0)) && s != [] && decide (s.length ≤ 24)
theorem isName_no {s : Str} {k : Nat} {x : UInt8} (hx : s[k]? = some x) (h : nameOk k x = false) : isNameB s = false := by
  obtain ⟨hk, rfl⟩ := List.getElem?_eq_some_iff.1 hx
  unfold isNameB
  have : (List.range s.length).all (fun i => nameOk i (s.getD i 0)) = false := by
    rw [List.all_eq_false]
    exact ⟨k, by simpa using hk, by simp [List.getD_eq_getElem?_getD, List.getElem?_eq_getElem hk, h]⟩
  rw [this]; simp
theorem isName_end {s : Str} (h : ∀ (j : Nat) y, s[j]? = some y → j < s.length → nameOk j y = true) : isNameB s = (s != [] && decide (s.length ≤ 24)) := by
  unfold isNameB
  have : (List.range s.length).all (fun i => nameOk i (s.getD i 0)) = true := by
    rw [List.all_eq_true]
    intro i hi
    have hi' : i < s.length := by simpa using hi
    have := h i s[i] (List.getElem?_eq_getElem hi') hi'
    simpa [List.getD_eq_getElem?_getD, List.getElem?_eq_getElem hi'] using this
  rw [this]; simp
theorem up_succ {α : Type} {l : List α} {p : Nat → α → Bool} {k : Nat} {x : α} (hx : l[k]? = some x) (hp : p k x = true) (hno : ∀ (j : Nat) y, l[j]? = some y → j < k → p j y = true) : ∀ (j : Nat) y, l[j]? = some y → j < k + 1 → p j y = true := by
  intro j y hy hj
  rcases Nat.lt_succ_iff_lt_or_eq.1 hj with h | rfl
  · exact hno j y hy h
  · rw [hx] at hy; cases hy; exact hp
theorem byte_classes (n : Nat) : ((97 ≤ n ∧ n ≤ 122) ∨ (65 ≤ n ∧ n ≤ 90)) ∨ ((48 ≤ n ∧ n ≤ 57) ∨ (95 ≤ n ∧ n ≤ 95)) ∨ (n ≤ 47 ∨ (58 ≤ n ∧ n ≤ 64) ∨ (91 ≤ n ∧ n ≤ 94) ∨ (96 ≤ n ∧ n ≤ 96) ∨ 123 ≤ n) := by omega
theorem nameOk_let {k : Nat} {x : UInt8} (h : (97 ≤ x.toNat ∧ x.toNat ≤ 122) ∨ (65 ≤ x.toNat ∧ x.toNat ≤ 90)) : nameOk k x = true := by
  simp [nameOk, letB, isLowB, isUpB]; omega
theorem nameOk_dig {k : Nat} {x : UInt8} (h : (48 ≤ x.toNat ∧ x.toNat ≤ 57) ∨ (95 ≤ x.toNat ∧ x.toNat ≤ 95)) : nameOk k x = (k != 0) := by
  have h1 : letB x = false := by simp [letB, isLowB, isUpB]; omega
  have h2 : digB x = true := by simp [digB, isDigitB]; omega
  simp [nameOk, h1, h2]
theorem nameOk_other {k : Nat} {x : UInt8} (h : x.toNat ≤ 47 ∨ (58 ≤ x.toNat ∧ x.toNat ≤ 64) ∨ (91 ≤ x.toNat ∧ x.toNat ≤ 94) ∨ (96 ≤ x.toNat ∧ x.toNat ≤ 96) ∨ 123 ≤ x.toNat) : nameOk k x = false := by
  have h1 : letB x = false := by simp [letB, isLowB, isUpB]; omega
  have h2 : digB x = false := by simp [digB, isDigitB]; omega
  simp [nameOk, h1, h2]
set_option maxRecDepth 20000 in
set_option maxHeartbeats 1000000 in
theorem isName_any (s : Str) (w : World) (hs : s.length ≤ maxLen) :
    Calls Try.prog 76 #[vs s] w fun e w' => e = .returned (.bool (isNameB s)) ∧ w' = w := by
  unfold maxLen at hs
  go_enter Try.func76, Try.ntmps76
  go_wp2
  go_loop [9] (fun i => ∃ k : Nat, k ≤ s.length ∧ i = .int .i64 k ∧ ∀ j x, s[j]? = some x → j < k → nameOk j x = true) (fun i => s.length - (intOf i).toNat)
  case atStart => exact ⟨0, Nat.zero_le _, rfl, fun _ _ _ h => absurd h (by omega)⟩
  case round =>
    obtain ⟨k, hk, rfl, hno⟩ := hrel
    have Hno := Lib.hid hno; clear hno
    by_cases hlt : k < s.length
    · obtain ⟨x, hx⟩ := get_of_lt hlt
      have hsz : k < (⟨s.toArray⟩ : ByteArray).size := by simpa [ByteArray.size] using hlt
      have hxx : (⟨s.toArray⟩ : ByteArray)[k] = x := by
        obtain ⟨_, h⟩ := List.getElem?_eq_some_iff.1 hx
        exact h
      have Hx := Lib.hid hx; clear hx
      have hbd : x.toNat < 256 := x.toNat_lt
      rcases byte_classes x.toNat with h | h | h
      · have Hn := Lib.hid (nameOk_let (k := k) h)
        have he : ((x.toNat : Int) == 95) = false := by simp; omega
        rcases h with ⟨ha, hb⟩ | ⟨ha, hb⟩
        all_goals
          go_wp2_with fail
          exact ⟨⟨k + 1, by omega, by go_num, up_succ Hx.out Hn.out Hno.out⟩, by simp [intOf]; omega⟩
      · have Hn := Lib.hid (nameOk_dig (k := k) h)
        cases hk0 : ((k : Int) == 0) with
        | true =>
          have Hk := Lib.hid (show nameOk k x = false by rw [Hn.out]; simpa using hk0)
          rcases h with ⟨ha, hb⟩ | ⟨ha, hb⟩
          · go_wp2_with fail
            go_ret
            exact ⟨ret_bool (isName_no Hx.out Hk.out).symm, rfl⟩
          · have he : ((x.toNat : Int) == 95) = true := by simp; omega
            have d1 : decide ((x.toNat : Int) ≤ 90) = false := by simp; omega
            have d2 : decide ((x.toNat : Int) ≤ 57) = false := by simp; omega
            go_wp2_with fail
            go_ret
            exact ⟨ret_bool (isName_no Hx.out Hk.out).symm, rfl⟩
        | false =>
          have Hk := Lib.hid (show nameOk k x = true by rw [Hn.out]; simpa using hk0)
          rcases h with ⟨ha, hb⟩ | ⟨ha, hb⟩
          · go_wp2_with fail
            exact ⟨⟨k + 1, by omega, by go_num, up_succ Hx.out Hk.out Hno.out⟩, by simp [intOf]; omega⟩
          · have he : ((x.toNat : Int) == 95) = true := by simp; omega
            have d1 : decide ((x.toNat : Int) ≤ 90) = false := by simp; omega
            have d2 : decide ((x.toNat : Int) ≤ 57) = false := by simp; omega
            go_wp2_with fail
            exact ⟨⟨k + 1, by omega, by go_num, up_succ Hx.out Hk.out Hno.out⟩, by simp [intOf]; omega⟩
      · have Hn := Lib.hid (nameOk_other (k := k) h)
        have he : ((x.toNat : Int) == 95) = false := by simp; omega
        cases hk0 : ((k : Int) == 0)
        all_goals
          rcases h with ha | ⟨ha, hb⟩ | ⟨ha, hb⟩ | ⟨ha, hb⟩ | ha
          all_goals
            first
              | (have d1 : decide ((x.toNat : Int) ≤ 57) = false := by simp; omega
                 first
                   | (have d2 : decide ((x.toNat : Int) ≤ 90) = false := by simp; omega
                      first
                        | (have d3 : decide ((x.toNat : Int) ≤ 122) = false := by simp; omega
                           go_wp2_with fail)
                        | go_wp2_with fail)
                   | go_wp2_with fail)
              | go_wp2_with fail
            go_ret
            exact ⟨ret_bool (isName_no Hx.out Hn.out).symm, rfl⟩
    · have hkk : k = s.length := by omega
      subst hkk
      by_cases hz : s = []
      · subst hz
        go_wp2_with fail
        go_ret
        exact ⟨by rw [isName_end Hno.out]; rfl, rfl⟩
      · have hz' : s.isEmpty = false := by simpa using hz
        by_cases h24 : s.length ≤ 24
        · go_wp2_with fail
          go_ret
          exact ⟨ret_bool (by rw [isName_end Hno.out, show (s != []) = true by simpa using hz]; first | (simp [h24]; done) | (simp; omega)), rfl⟩
        · go_wp2_with fail
          go_ret
          exact ⟨ret_bool (by rw [isName_end Hno.out, show (s != []) = true by simpa using hz]; first | (simp [h24]; done) | (simp; omega)), rfl⟩
end Go.Proofs.Ytkdcenbommhnoaa
