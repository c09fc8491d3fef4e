/- The reference's names: letter, digit, word, Name; pandectref18.number. The reference's number, Find, In, Chain. The reference's Chain: the ancestors of an item, the nearest first. -/
import Derived.Test.YtfolcjkednmkoaaGreatJName
import Derived.Test.YtfolcjkednmkoaaGreatFind
import Derived.Test.YtfolcjkednmkoaaGreatStrs
import Derived.Test.YtfolcjkednmkoaaGreatMem
import Derived.Test.YtfolcjkednmkoaaGreatGrew
import Derived.Test.YtfolcjkednmkoaaGreatBelow
set_option linter.unusedVariables false
set_option linter.unusedSimpArgs false
set_option maxRecDepth 20000
set_option maxHeartbeats 1000000
namespace Go.Proofs.YtfolcjkednmkoaaGreat
open Go.RowKit
theorem rletter_any (x : UInt8) (w : World) :
 Calls Tryz.prog 87 #[.int .u8 x.toNat] w fun e w' => e = .returned (.bool (letB x)) ∧ w' = w := by
 have hbd := x.toNat_lt
 have hcl : (97 ≤ x.toNat ∧ x.toNat ≤ 122) ∨ (65 ≤ x.toNat ∧ x.toNat ≤ 90) ∨ (x.toNat ≤ 64) ∨ (91 ≤ x.toNat ∧ x.toNat ≤ 96) ∨ 123 ≤ x.toNat := by omega
 rcases hcl with h | h | h | h | h
 all_goals
  have hb : letB x = true ∨ letB x = false := by cases letB x <;> simp
  rcases hb with hb | hb
 all_goals
  first
   | (exfalso; simp [letB, isLowB, isUpB] at hb; done)
   | (exfalso; simp [letB, isLowB, isUpB] at hb; omega)
   | skip
 all_goals
  rw [hb]
  clear hb
  have d1 : decide ((97 : Int) ≤ (x.toNat : Int)) = decide (97 ≤ x.toNat) := by simp; omega
  have d2 : decide ((x.toNat : Int) ≤ 122) = decide (x.toNat ≤ 122) := by simp; omega
  have d3 : decide ((65 : Int) ≤ (x.toNat : Int)) = decide (65 ≤ x.toNat) := by simp; omega
  have d4 : decide ((x.toNat : Int) ≤ 90) = decide (x.toNat ≤ 90) := by simp; omega
  first | rw [decide_eq_true (show 97 ≤ x.toNat by omega)] at d1 | rw [decide_eq_false (show ¬ 97 ≤ x.toNat by omega)] at d1
  first | rw [decide_eq_true (show x.toNat ≤ 122 by omega)] at d2 | rw [decide_eq_false (show ¬ x.toNat ≤ 122 by omega)] at d2
  first | rw [decide_eq_true (show 65 ≤ x.toNat by omega)] at d3 | rw [decide_eq_false (show ¬ 65 ≤ x.toNat by omega)] at d3
  first | rw [decide_eq_true (show x.toNat ≤ 90 by omega)] at d4 | rw [decide_eq_false (show ¬ x.toNat ≤ 90 by omega)] at d4
  go_enter Tryz.func87, Tryz.ntmps87
  go_wp2_with fail
  go_ret
  exact ⟨rfl, rfl⟩
theorem rdigit_any (x : UInt8) (w : World) :
 Calls Tryz.prog 107 #[.int .u8 x.toNat] w fun e w' => e = .returned (.bool (isDigitB x)) ∧ w' = w := by
 have hbd := x.toNat_lt
 have hcl : (48 ≤ x.toNat ∧ x.toNat ≤ 57) ∨ (x.toNat ≤ 47) ∨ 58 ≤ x.toNat := by omega
 rcases hcl with h | h | h
 all_goals
  have hb : isDigitB x = true ∨ isDigitB x = false := by cases isDigitB x <;> simp
  rcases hb with hb | hb
 all_goals
  first
   | (exfalso; simp [isDigitB] at hb; done)
   | (exfalso; simp [isDigitB] at hb; omega)
   | skip
 all_goals
  rw [hb]
  clear hb
  have d1 : decide ((48 : Int) ≤ (x.toNat : Int)) = decide (48 ≤ x.toNat) := by simp; omega
  have d2 : decide ((x.toNat : Int) ≤ 57) = decide (x.toNat ≤ 57) := by simp; omega
  first | rw [decide_eq_true (show 48 ≤ x.toNat by omega)] at d1 | rw [decide_eq_false (show ¬ 48 ≤ x.toNat by omega)] at d1
  first | rw [decide_eq_true (show x.toNat ≤ 57 by omega)] at d2 | rw [decide_eq_false (show ¬ x.toNat ≤ 57 by omega)] at d2
  go_enter Tryz.func107, Tryz.ntmps107
  go_wp2_with fail
  go_ret
  exact ⟨rfl, rfl⟩
def wordB (x : UInt8) : Bool := letB x || digB x
theorem rword_any (x : UInt8) (w : World) :
 Calls Tryz.prog 86 #[.int .u8 x.toNat] w fun e w' => e = .returned (.bool (wordB x)) ∧ w' = w := by
 have hbd := x.toNat_lt
 have HL := Lib.hid (rletter_any x)
 have HD := Lib.hid (rdigit_any x)
 obtain ⟨b, hb⟩ : ∃ b, wordB x = b := ⟨_, rfl⟩
 rw [hb]
 unfold wordB digB at hb
 cases h1 : letB x <;> cases h2 : isDigitB x <;> cases h3 : (x.toNat == 95)
 all_goals
  rw [h1, h2, h3] at hb
  simp at hb
  subst hb
  have h4 : ((x.toNat : Int) == 95) = (x.toNat == 95) := by rw [Bool.eq_iff_iff]; simp; omega
  rw [h3] at h4
  have H1 := Lib.hid h1; clear h1
  have H2 := Lib.hid h2; clear h2
  clear h3
  go_enter Tryz.func86, Tryz.ntmps86
  go_wp2_with (first
   | (go_at_call 87; refine (HL.out _).mono ?_; rintro e w1 ⟨rfl, rfl⟩; rw [H1.out])
   | (go_at_call 107; refine (HD.out _).mono ?_; rintro e w1 ⟨rfl, rfl⟩; rw [H2.out]))
  go_ret
  exact ⟨rfl, rfl⟩
theorem nameOk_word {k : Nat} {x : UInt8} (h : wordB x = false) : nameOk k x = false := by
 unfold wordB at h
 simp at h
 simp [nameOk, h]
theorem nameOk_word' {k : Nat} {x : UInt8} (hk : 0 < k) (h : wordB x = true) : nameOk k x = true := by
 unfold wordB at h
 simp at h
 have : k ≠ 0 := by omega
 simp [nameOk, this, h]
theorem nameOk_zero (x : UInt8) : nameOk 0 x = letB x := by simp [nameOk]
theorem rname_all {s : Str} (hw : ∀ (j : Nat) y, s[j]? = some y → j < s.length → wordB y = true) {x : UInt8} (hx : s[0]? = some x) (hl : letB x = true) : isNameB s = decide (s.length ≤ 24) := by
 have hne : (s != []) = true := by cases s <;> simp_all
 rw [isName_end (fun j y hy hj => ?_), hne, Bool.true_and]
 cases j with
 | zero => rw [hx] at hy; cases hy; rw [nameOk_zero]; exact hl
 | succ j => exact nameOk_word' (by omega) (hw _ y hy hj)
theorem rname_zero {s : Str} {x : UInt8} (hx : s[0]? = some x) (hl : letB x = false) : isNameB s = false := isName_no hx (by rw [nameOk_zero]; exact hl)
theorem rname_long {s : Str} (h : 24 < s.length) : isNameB s = false := by
 unfold isNameB
 have : decide (s.length ≤ 24) = false := by simp; omega
 rw [this, Bool.and_false]
theorem rname_any (s : Str) (w : World) (hs : s.length ≤ maxLen) :
 Calls Tryz.prog 54 #[vs s] w fun e w' => e = .returned (.bool (isNameB s)) ∧ w' = w := by
 unfold maxLen at hs
 have HW := Lib.hid rword_any
 have HL := Lib.hid rletter_any
 go_enter Tryz.func54, Tryz.ntmps54
 go_wp2_with fail
 go_loop [3] (fun i => ∃ k : Nat, k ≤ s.length ∧ i = .int .i64 k ∧ ∀ (j : Nat) y, s[j]? = some y → j < k → wordB y = true) (fun i => s.length - (intOf i).toNat)
 case atStart => exact ⟨0, Nat.zero_le _, rfl, fun _ _ _ h => absurd h (by omega)⟩
 case round =>
  obtain ⟨k, hk, rfl, hno⟩ := hrel
  have Hno := Lib.hid hno; clear hno
  by_cases hlt : k < s.length
  · obtain ⟨x, hx⟩ := get_of_lt hlt
    have hsz : k < (⟨s.toArray⟩ : ByteArray).size := by simpa [ByteArray.size] using hlt
    have hxx : (⟨s.toArray⟩ : ByteArray)[k] = x := by
     obtain ⟨_, h⟩ := List.getElem?_eq_some_iff.1 hx
     exact h
    have Hx := Lib.hid hx; clear hx
    have hbd : x.toNat < 256 := x.toNat_lt
    cases hp : wordB x
    · have HP := Lib.hid hp; clear hp
      go_wp2_with (go_at_call 86; refine (HW.out x _).mono ?_; rintro e w1 ⟨rfl, rfl⟩; rw [HP.out])
      go_ret
      exact ⟨ret_bool (isName_no Hx.out (nameOk_word HP.out)).symm, rfl⟩
    · have HP := Lib.hid hp; clear hp
      go_wp2_with (go_at_call 86; refine (HW.out x _).mono ?_; rintro e w1 ⟨rfl, rfl⟩; rw [HP.out])
      exact ⟨⟨k + 1, by omega, by go_num, up_succ (p := fun _ y => wordB y) Hx.out HP.out Hno.out⟩, by simp [intOf]; omega⟩
  · have : k = s.length := by omega
    subst this
    by_cases h0 : s.length = 0
    · obtain rfl : s = [] := List.eq_nil_of_length_eq_zero h0
      clear h0
      go_wp2_with fail
      go_ret
      exact ⟨ret_bool (by rfl), rfl⟩
    · have h1 : 0 < s.length := by omega
      obtain ⟨x, hx⟩ := get_of_lt h1
      have hsz : 0 < (⟨s.toArray⟩ : ByteArray).size := by simpa [ByteArray.size] using h1
      have hxx : (⟨s.toArray⟩ : ByteArray)[0] = x := by
       obtain ⟨_, h⟩ := List.getElem?_eq_some_iff.1 hx
       exact h
      have Hx := Lib.hid hx; clear hx
      have hbd : x.toNat < 256 := x.toNat_lt
      clear h0
      by_cases h24 : s.length ≤ 24
      · cases hp : letB x
        all_goals
         have HP := Lib.hid hp; clear hp
         go_wp2_with (go_at_call 87; refine (HL.out x _).mono ?_; rintro e w1 ⟨rfl, rfl⟩; rw [HP.out])
         go_ret
         refine ⟨ret_bool ?_, rfl⟩
         first
          | exact (rname_zero Hx.out HP.out).symm
          | (rw [rname_all Hno.out Hx.out HP.out]; simp; omega)
      · have h24' : 24 < s.length := by omega
        clear h24
        go_wp2_with fail
        go_ret
        exact ⟨ret_bool (rname_long h24').symm, rfl⟩
end Go.Proofs.YtfolcjkednmkoaaGreat
set_option maxRecDepth 20000
set_option maxHeartbeats 1000000
namespace Go.Proofs.YtfolcjkednmkoaaGreat
open Go.RowKit
theorem numOk_no {s : Str} {k : Nat} {x : UInt8} (hx : s[k]? = some x) (h : numB x = false) : numOk s = false := by
 have : allNum s = false := by
  unfold allNum
  rw [List.all_eq_false]
  exact ⟨x, List.mem_of_getElem? hx, by rw [h]; simp⟩
 unfold numOk
 rw [this, Bool.and_false]
theorem numOk_all {s : Str} (h : ∀ (j : Nat) y, s[j]? = some y → j < s.length → numB y = true) : numOk s = decide ((s.length : Int) ≤ 8) := by
 have : allNum s = true := by
  unfold allNum
  rw [List.all_eq_true]
  intro y hy
  obtain ⟨j, hj⟩ := List.mem_iff_getElem?.1 hy
  exact h j y hj (List.getElem?_eq_some_iff.1 hj).1
 unfold numOk
 rw [this, Bool.and_true]
theorem rnumber_any (s : Str) (w : World) (hs : s.length ≤ maxLen) :
 Calls Tryz.prog 56 #[vs s] w fun e w' => e = .returned (.bool (numOk s)) ∧ w' = w := by
 unfold maxLen at hs
 go_enter Tryz.func56, Tryz.ntmps56
 go_wp2_with fail
 go_loop [3] (fun i => ∃ k : Nat, k ≤ s.length ∧ i = .int .i64 k ∧ ∀ (j : Nat) y, s[j]? = some y → j < k → numB y = true) (fun i => s.length - (intOf i).toNat)
 case atStart => exact ⟨0, Nat.zero_le _, rfl, fun _ _ _ h => absurd h (by omega)⟩
 case round =>
  obtain ⟨k, hk, rfl, hno⟩ := hrel
  have Hno := Lib.hid hno; clear hno
  by_cases hlt : k < s.length
  · obtain ⟨x, hx⟩ := get_of_lt hlt
    have hsz : k < (⟨s.toArray⟩ : ByteArray).size := by simpa [ByteArray.size] using hlt
    have hxx : (⟨s.toArray⟩ : ByteArray)[k] = x := by
     obtain ⟨_, h⟩ := List.getElem?_eq_some_iff.1 hx
     exact h
    have Hx := Lib.hid hx; clear hx
    have hbd : x.toNat < 256 := x.toNat_lt
    have hcl : (48 ≤ x.toNat ∧ x.toNat ≤ 57) ∨ (97 ≤ x.toNat ∧ x.toNat ≤ 122) ∨ x.toNat ≤ 47 ∨ (58 ≤ x.toNat ∧ x.toNat ≤ 96) ∨ 123 ≤ x.toNat := by omega
    rcases hcl with h | h | h | h | h
    all_goals
     have hb : numB x = true ∨ numB x = false := by cases numB x <;> simp
     rcases hb with hb | hb
    all_goals
     first
      | (exfalso; simp [numB, isDigitB, isLowB] at hb; done)
      | (exfalso; simp [numB, isDigitB, isLowB] at hb; omega)
      | skip
    all_goals
     have HB := Lib.hid hb
     clear hb
     have d1 : decide ((48 : Int) ≤ (x.toNat : Int)) = decide (48 ≤ x.toNat) := by simp; omega
     have d2 : decide ((x.toNat : Int) ≤ 57) = decide (x.toNat ≤ 57) := by simp; omega
     have d3 : decide ((97 : Int) ≤ (x.toNat : Int)) = decide (97 ≤ x.toNat) := by simp; omega
     have d4 : decide ((x.toNat : Int) ≤ 122) = decide (x.toNat ≤ 122) := by simp; omega
     first | rw [decide_eq_true (show 48 ≤ x.toNat by omega)] at d1 | rw [decide_eq_false (show ¬ 48 ≤ x.toNat by omega)] at d1
     first | rw [decide_eq_true (show x.toNat ≤ 57 by omega)] at d2 | rw [decide_eq_false (show ¬ x.toNat ≤ 57 by omega)] at d2
     first | rw [decide_eq_true (show 97 ≤ x.toNat by omega)] at d3 | rw [decide_eq_false (show ¬ 97 ≤ x.toNat by omega)] at d3
     first | rw [decide_eq_true (show x.toNat ≤ 122 by omega)] at d4 | rw [decide_eq_false (show ¬ x.toNat ≤ 122 by omega)] at d4
     go_wp2_with fail
     first
      | exact ⟨⟨k + 1, by omega, by go_num, up_succ (p := fun _ y => numB y) Hx.out HB.out Hno.out⟩, by simp [intOf]; omega⟩
      | (go_ret; exact ⟨ret_bool (numOk_no Hx.out HB.out).symm, rfl⟩)
  · have : k = s.length := by omega
    subst this
    have HE := Lib.hid (numOk_all Hno.out)
    go_wp2_with fail
    go_ret
    exact ⟨ret_bool HE.out.symm, rfl⟩
theorem rfind_any (l : List Item) (A : Option Addr) (c : Nat) (s : Str) (w : World) (hr : RdI w A l) (hl : l.length ≤ maxLen) :
 Calls Tryz.prog 55 #[.agg #[.slice A l.length c], vs s] w fun e w' => e = .returned (.int .i64 (findI l s)) ∧ Below w.heap.size w w' := by
 unfold maxLen at hl
 have hb0 := (Below.refl w.heap.size w).alloc (Nat.le_refl _) (.cells #[.slice A l.length c] 24)
 have HB0 := Lib.hid hb0; clear hb0
 have HR := Lib.hid (hr.below HB0.out); clear hr
 go_enter Tryz.func55, Tryz.ntmps55
 go_wp2_with fail
 go_loop [5] (fun i => ∃ k : Nat, k ≤ l.length ∧ i = .int .i64 k ∧ ∀ (j : Nat) x, l[j]? = some x → j < k → (x.id == s) = false) (fun i => l.length - (intOf i).toNat)
 case atStart => exact ⟨0, Nat.zero_le _, rfl, fun _ _ _ h => absurd h (by omega)⟩
 case round =>
  obtain ⟨k, hk, rfl, hno⟩ := hrel
  have Hno := Lib.hid hno; clear hno
  by_cases hlt : k < l.length
  · obtain ⟨x, hx⟩ := get_of_lt hlt
    have hi1 : (k : Int) < l.length := by omega
    have hi0 : (0 : Int) ≤ k := by omega
    obtain ⟨b1, o1, rfl, hbs1, c0, c1, c2, c3, c4, c5, c6⟩ := HR.out.item hx
    have HX := Lib.hid hx; clear hx
    cases hp : (x.id == s) with
    | true =>
      have HP := Lib.hid hp
      go_wp2_with fail
      go_ret
      refine ⟨?_, HB0.out⟩
      unfold findI
      rw [findIdx_some HX.out HP.out Hno.out]; rfl
    | false =>
      have HP := Lib.hid hp
      go_wp2_with fail
      exact ⟨⟨k + 1, by omega, by go_num, below_succ (p := fun x => x.id == s) HX.out HP.out Hno.out⟩, by simp [intOf]; omega⟩
  · have : k = l.length := by omega
    subst this
    go_wp2_with fail
    go_ret
    refine ⟨?_, HB0.out⟩
    unfold findI
    rw [findIdx_none (fun j x hx hj => Hno.out j x hx hj)]; rfl
theorem rin_any (l : List Str) (A : Option Addr) (c : Nat) (s : Str) (w : World) (hr : RdS w A l) (hl : l.length ≤ maxLen) :
 Calls Tryz.prog 88 #[.slice A l.length c, vs s] w fun e w' => e = .returned (.bool (hasS l s)) ∧ w = w' := by
 unfold maxLen at hl
 have HR := Lib.hid hr; clear hr
 go_enter Tryz.func88, Tryz.ntmps88
 go_wp2_with fail
 go_loop [5] (fun i => ∃ k : Nat, k ≤ l.length ∧ i = .int .i64 k ∧ ∀ (j : Nat) x, l[j]? = some x → j < k → (s == x) = false) (fun i => l.length - (intOf i).toNat)
 case atStart => exact ⟨0, Nat.zero_le _, rfl, fun _ _ _ h => absurd h (by omega)⟩
 case round =>
  obtain ⟨k, hk, rfl, hno⟩ := hrel
  have Hno := Lib.hid hno; clear hno
  by_cases hlt : k < l.length
  · obtain ⟨x, hx⟩ := get_of_lt hlt
    obtain ⟨b, o, rfl, hbs, c0⟩ := HR.out.item hx
    have Hx := Lib.hid hx; clear hx
    cases hp : (s == x) with
    | true =>
      have hp2 : (x == s) = true := by rw [beq_iff_eq] at hp ⊢; exact hp.symm
      have Hp := Lib.hid hp; clear hp
      go_wp2_with fail
      go_ret
      refine ⟨ret_bool ?_, rfl⟩
      symm
      unfold hasS
      rw [List.any_eq_true]
      exact ⟨x, List.mem_of_getElem? Hx.out, Hp.out⟩
    | false =>
      have hp2 : (x == s) = false := by rw [beq_eq_false_iff_ne] at hp ⊢; exact fun h => hp h.symm
      have Hp := Lib.hid hp; clear hp
      go_wp2_with fail
      exact ⟨⟨k + 1, by omega, by go_num, below_succ (p := fun x => s == x) Hx.out Hp.out Hno.out⟩, by simp [intOf]; omega⟩
  · have : k = l.length := by omega
    subst this
    go_wp2_with fail
    go_ret
    refine ⟨ret_bool ?_, rfl⟩
    symm
    unfold hasS
    rw [List.any_eq_false]
    intro x hx
    obtain ⟨j, hj⟩ := List.mem_iff_getElem?.1 hx
    simpa using Hno.out j x hj (List.getElem?_eq_some_iff.1 hj).1
/- the ancestors of an item, the nearest first: what Chain follows -/
def ChainOk (l : List Item) : Str → List Str → Prop
 | id, [] => id = []
 | id, t :: r => id ≠ [] ∧ t = id ∧ ∃ (k : Nat) (y : Item), findI l id = k ∧ l[k]? = some y ∧ ChainOk l y.par r
def sliceLen : Value → Nat
 | .slice _ n _ => n
 | _ => 0
theorem sliceLen_own {W : World} {base m : Nat} {t : TypeId} {v : Value} {xs : List Value} (h : W.ownsRow base t 1 v m xs) (hm : xs.length = m) : sliceLen v = m := by
 rcases h.2 with ⟨rfl, rfl⟩ | ⟨g, cap, cur, rfl, r⟩
 · rw [← hm]; rfl
 · rfl
end Go.Proofs.YtfolcjkednmkoaaGreat
set_option maxRecDepth 20000
set_option maxHeartbeats 1000000
namespace Go.Proofs.YtfolcjkednmkoaaGreat
open Go.RowKit
theorem rfind_at {l : List Item} {s : Str} {k : Nat} (h : findI l s = k) (A : Option Addr) (c : Nat) (w : World) (hr : RdI w A l) (hl : l.length ≤ maxLen) :
 Calls Tryz.prog 55 #[.agg #[.slice A l.length c], vs s] w fun e w' => e = .returned (.int .i64 k) ∧ Below w.heap.size w w' := by
 rw [← h]; exact rfind_any l A c s w hr hl
theorem rchain_any (l : List Item) (A : Option Addr) (c i : Nat) (x : Item) (L : List Str) (w : World) (hr : RdI w A l) (hl : l.length ≤ 1000000) (hx : l[i]? = some x) (hL : ChainOk l x.par L) (hn : L.length ≤ 1000000) :
 Calls Tryz.prog 89 #[.agg #[.slice A l.length c], .int .i64 i] w fun e w' => ∃ O cc, e = .returned (.slice O L.length cc) ∧ RdS w' O L ∧ Below w.heap.size w w' := by
 obtain ⟨i0, hi0, hz0, hz1, hz2⟩ := info_parts info9
 have Hi0 := Lib.hid hi0; clear hi0
 have Hz0 := Lib.hid hz0; clear hz0
 have Hz1 := Lib.hid hz1; clear hz1
 have Hz2 := Lib.hid hz2; clear hz2
 have hb0 := (Below.refl w.heap.size w).alloc (Nat.le_refl _) (.cells #[.slice A l.length c] 24)
 have HB0 := Lib.hid hb0; clear hb0
 have HR := Lib.hid (hr.below HB0.out); clear hr
 obtain ⟨b1, o1, rfl, hbs1, c0, c1, c2, c3, c4, c5, c6⟩ := HR.out.item hx
 have hi : i < l.length := (List.getElem?_eq_some_iff.1 hx).1
 have hi1 : (i : Int) < l.length := by omega
 have hi2 : (0 : Int) ≤ i := by omega
 have HL := Lib.hid hL; clear hL hx
 go_enter Tryz.func89, Tryz.ntmps89
 go_wp2_with fail
 clear c0 c1 c2 c3 c4 c5 c6
 go_loopw [5, 6] (fun v d wr => ∃ (done rest : List Str) (t : Str), L = done ++ rest ∧ d = vs t ∧ ChainOk l t rest ∧ wr.ownsRow (w.heap.size + 1) 9 1 v done.length (done.map vs) ∧ Below (w.heap.size + 1) (w.alloc (.cells #[.slice (some ⟨b1, o1, none⟩) l.length c] 24)) wr) (fun v _ _ => L.length - sliceLen v)
 case atStart => exact ⟨[], L, x.par, rfl, rfl, HL.out, World.ownsRow_nil _ _ _ _, Below.refl _ _⟩
 case round =>
  obtain ⟨done, rest, t, hL, rfl, hch, hown, hb⟩ := hrel
  have hsz := hb.size
  simp at hsz
  have z1 : w.heap.size < wr.heap.size := by omega
  have hb1 : Below (w.alloc (.cells #[.slice (some ⟨b1, o1, none⟩) l.length c] 24)).heap.size (w.alloc (.cells #[.slice (some ⟨b1, o1, none⟩) l.length c] 24)) wr := by simpa using hb
  have HB := Lib.hid hb; clear hb
  have HOWN := Lib.hid hown; clear hown
  have HLL := Lib.hid hL
  have hdl : done.length ≤ 1000000 := by rw [hL, List.length_append] at hn; omega
  clear hL
  cases rest with
  | nil =>
    obtain rfl : t = [] := hch
    have hc0 : wr.cell? ⟨w.heap.size, 0, none⟩ = some (.slice (some ⟨b1, o1, none⟩) l.length c) := (hb1.cell (p := ⟨w.heap.size, 0, none⟩) (by simp)).trans (by simp [go_sem])
    clear hb1
    go_wp2_with fail
    go_ret
    obtain ⟨O, cc, hvv, hrd, hge⟩ := own_slice HOWN.out
    have e : L = done := by rw [HLL.out, List.append_nil]
    rw [e]
    exact ⟨O, cc, by rw [← hvv]; rfl, hrd, HB0.out.trans (HB.out.mono (by omega))⟩
  | cons t' r =>
    obtain ⟨hne, rfl, k, y, hfi, hy, hch'⟩ := hch
    have HCH := Lib.hid hch'; clear hch'
    have HFI := Lib.hid hfi; clear hfi
    have n1 : (t' == []) = false := by simpa using hne
    have n2 : (t' != []) = true := by simpa using hne
    have n3 : t'.isEmpty = false := by simpa using hne
    clear hne
    have hk : k < l.length := (List.getElem?_eq_some_iff.1 hy).1
    have hk1 : (k : Int) < l.length := by omega
    have hk2 : (0 : Int) ≤ k := by omega
    have HY := Lib.hid hy; clear hy
    have hdr : done.length + 1 ≤ L.length := by rw [HLL.out]; simp
    go_wp2_with (at_builtin; refine wpList_append_own _ rfl (.tmp 15) (.tmp 17) _ rfl (w.heap.size + 1) 9 i0 (.string ⟨#[]⟩) 1 16 Tryz.underlying61 Hi0.out Hz0.out Hz1.out Hz2.out rfl (by decide) u5 done.length (done.map vs) rfl (HOWN.out.alloc _) ⟨wr.heap.size, 0, none⟩ 1 1 [vs t'] rfl rfl (World.news_of_block (cs := #[vs t']) (t := 9) (fr := (0, 0)) (heap_alloc_new wr _)) one_cell (le_maxLen (by omega)) (by omega) (by simp; omega) ?_; intro v' w1 hown1 hgr _)
    have hb2 : Below (w.heap.size + 1) (w.alloc (.cells #[.slice (some ⟨b1, o1, none⟩) l.length c] 24)) w1 := (HB.out.alloc (by omega) _).grown hgr (by simp; omega) (fun b hb => (own_ge HOWN.out b hb).1)
    have hb3 : Below (w.alloc (.cells #[.slice (some ⟨b1, o1, none⟩) l.length c] 24)).heap.size (w.alloc (.cells #[.slice (some ⟨b1, o1, none⟩) l.length c] 24)) w1 := by simpa using hb2
    have hc0 : w1.cell? ⟨w.heap.size, 0, none⟩ = some (.slice (some ⟨b1, o1, none⟩) l.length c) := (hb3.cell (p := ⟨w.heap.size, 0, none⟩) (by simp)).trans (by simp [go_sem])
    have z2 : w.heap.size < w1.heap.size := World.block_lt_of_cell? _ _ hc0
    have HR1 := Lib.hid (HR.out.below hb3)
    obtain ⟨b2, o2, hA2, hbs2, d0, d1, d2, d3, d4, d5, d6⟩ := HR1.out.item HY.out
    cases hA2
    have HB2 := Lib.hid hb2; clear hb2 hb3 hb1
    have HOWN1 := Lib.hid hown1; clear hown1
    clear hgr d0 d1 d3 d4 d5 d6
    refine wp_region_grew (by kernel_rfl) (by as_aux_lemma => kernel_rfl) ?_
    repeat (go_big_quiet_step ((exact Calls_grew (rfind_at HFI.out _ _ _ (HR1.out.below (grew_below _ _)) (le_maxLen (by omega))))))
    refine wpQuiet_nil ?_
    rintro _ ⟨W, rfl⟩
    go_wp2_with fail
    have hbg := grew_below w1 W
    refine ⟨⟨done ++ [t'], r, y.par, by rw [HLL.out, List.append_assoc]; rfl, rfl, HCH.out, ?_, ?_⟩, ?_⟩
    · rw [List.length_append, List.map_append]
      exact own_keep HOWN1.out (fun b hb => hbg.block b (own_ge HOWN1.out b hb).2)
    · exact HB2.out.trans (hbg.mono (by have := HB2.out.size; simp at this; omega))
    · rw [sliceLen_own HOWN.out (by simp), sliceLen_own HOWN1.out (by simp)]
      omega
end Go.Proofs.YtfolcjkednmkoaaGreat
