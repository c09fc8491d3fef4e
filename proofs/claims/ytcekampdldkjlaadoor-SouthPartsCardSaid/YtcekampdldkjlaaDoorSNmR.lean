/- The reference's names; key. -/
import Derived.Test.YtcekampdldkjlaaDoorSRes0
set_option linter.unusedVariables false
set_option linter.unusedSimpArgs false
namespace Go.Proofs.YtcekampdldkjlaaDoor
open Go.RowKit
theorem letterB_iff (c : UInt8) : letterB c = decide ((97 ≤ c.toNat ∧ c.toNat ≤ 122) ∨ (65 ≤ c.toNat ∧ c.toNat ≤ 90)) := by
  unfold letterB
  rw [Bool.eq_iff_iff]
  simp [UInt8.le_iff_toNat_le]
theorem digitB_iff (c : UInt8) : digitB c = decide (48 ≤ c.toNat ∧ c.toNat ≤ 57) := by
  unfold digitB
  rw [Bool.eq_iff_iff]
  simp [UInt8.le_iff_toNat_le]
theorem letterR_any (c : UInt8) (w : World) : Calls Tryd.prog 38 #[.int .u8 c.toNat] w fun e w' => e = .returned (.bool (letterB c)) ∧ w = w' := by
  have HL := Lib.hid (letterB_iff c)
  generalize letterB c = B at *
  generalize c.toNat = n at *
  by_cases hc1 : n < 65
  · obtain rfl : B = false := by rw [HL.out, decide_eq_false (by omega)]
    have i0 : ¬ ((97 : Int) ≤ n) := by omega
    have i1 : ¬ ((65 : Int) ≤ n) := by omega
    go_enter Tryd.func38, Tryd.ntmps38
    go_wp2_with fail
    go_ret
    exact ⟨rfl, rfl⟩
  by_cases hc2 : 65 ≤ n ∧ n ≤ 90
  · obtain rfl : B = true := by rw [HL.out, decide_eq_true (by omega)]
    have i0 : ¬ ((97 : Int) ≤ n) := by omega
    have i1 : ((65 : Int) ≤ n) := by omega
    have i2 : ((n : Int) ≤ 90) := by omega
    go_enter Tryd.func38, Tryd.ntmps38
    go_wp2_with fail
    go_ret
    exact ⟨rfl, rfl⟩
  by_cases hc3 : 90 < n ∧ n < 97
  · obtain rfl : B = false := by rw [HL.out, decide_eq_false (by omega)]
    have i0 : ¬ ((97 : Int) ≤ n) := by omega
    have i1 : ((65 : Int) ≤ n) := by omega
    have i2 : ¬ ((n : Int) ≤ 90) := by omega
    go_enter Tryd.func38, Tryd.ntmps38
    go_wp2_with fail
    go_ret
    exact ⟨rfl, rfl⟩
  by_cases hc4 : 97 ≤ n ∧ n ≤ 122
  · obtain rfl : B = true := by rw [HL.out, decide_eq_true (by omega)]
    have i0 : ((97 : Int) ≤ n) := by omega
    have i1 : ((n : Int) ≤ 122) := by omega
    go_enter Tryd.func38, Tryd.ntmps38
    go_wp2_with fail
    go_ret
    exact ⟨rfl, rfl⟩
  by_cases hc5 : 122 < n
  · obtain rfl : B = false := by rw [HL.out, decide_eq_false (by omega)]
    have i0 : ((97 : Int) ≤ n) := by omega
    have i1 : ¬ ((n : Int) ≤ 122) := by omega
    have i2 : ((65 : Int) ≤ n) := by omega
    have i3 : ¬ ((n : Int) ≤ 90) := by omega
    go_enter Tryd.func38, Tryd.ntmps38
    go_wp2_with fail
    go_ret
    exact ⟨rfl, rfl⟩
  · exfalso; omega
theorem digitR_any (c : UInt8) (w : World) : Calls Tryd.prog 61 #[.int .u8 c.toNat] w fun e w' => e = .returned (.bool (digitB c)) ∧ w = w' := by
  have HL := Lib.hid (digitB_iff c)
  generalize digitB c = B at *
  generalize c.toNat = n at *
  by_cases hc6 : n < 48
  · obtain rfl : B = false := by rw [HL.out, decide_eq_false (by omega)]
    have i0 : ¬ ((48 : Int) ≤ n) := by omega
    go_enter Tryd.func61, Tryd.ntmps61
    go_wp2_with fail
    go_ret
    exact ⟨rfl, rfl⟩
  by_cases hc7 : 48 ≤ n ∧ n ≤ 57
  · obtain rfl : B = true := by rw [HL.out, decide_eq_true (by omega)]
    have i0 : ((48 : Int) ≤ n) := by omega
    have i1 : ((n : Int) ≤ 57) := by omega
    go_enter Tryd.func61, Tryd.ntmps61
    go_wp2_with fail
    go_ret
    exact ⟨rfl, rfl⟩
  by_cases hc8 : 57 < n
  · obtain rfl : B = false := by rw [HL.out, decide_eq_false (by omega)]
    have i0 : ((48 : Int) ≤ n) := by omega
    have i1 : ¬ ((n : Int) ≤ 57) := by omega
    go_enter Tryd.func61, Tryd.ntmps61
    go_wp2_with fail
    go_ret
    exact ⟨rfl, rfl⟩
  · exfalso; omega
theorem wordR_yes (c : UInt8) (w : World) (hw : wordB c = true) : Calls Tryd.prog 37 #[.int .u8 c.toNat] w fun e w' => e = .returned (.bool true) ∧ w = w' := by
  cases hl : letterB c with
  | true =>
    have HL := Lib.hid hl
    clear hl hw
    go_enter Tryd.func37, Tryd.ntmps37
    go_wp2_with fail
    refine (letterR_any c _).mono ?_
    rintro e w' ⟨rfl, rfl⟩
    rw [HL.out]
    go_wp2_with fail
    go_ret
    exact ⟨rfl, rfl⟩
  | false =>
    cases hd : digitB c with
    | true =>
      have HL := Lib.hid hl
      have HD := Lib.hid hd
      clear hl hw hd
      go_enter Tryd.func37, Tryd.ntmps37
      go_wp2_with fail
      refine (letterR_any c _).mono ?_
      rintro e w' ⟨rfl, rfl⟩
      rw [HL.out]
      go_wp2_with fail
      refine (digitR_any c _).mono ?_
      rintro e w' ⟨rfl, rfl⟩
      rw [HD.out]
      go_wp2_with fail
      go_ret
      exact ⟨rfl, rfl⟩
    | false =>
      have hc : c.toNat = 95 := by
        unfold wordB at hw
        rw [hl, hd] at hw
        simp at hw
        subst hw; rfl
      have HL := Lib.hid hl
      have HD := Lib.hid hd
      have HC := Lib.hid hc
      clear hl hw hd hc
      go_enter Tryd.func37, Tryd.ntmps37
      go_wp2_with fail
      refine (letterR_any c _).mono ?_
      rintro e w' ⟨rfl, rfl⟩
      rw [HL.out]
      go_wp2_with fail
      refine (digitR_any c _).mono ?_
      rintro e w' ⟨rfl, rfl⟩
      rw [HD.out, HC.out]
      go_wp2_with fail
      go_ret
      exact ⟨rfl, rfl⟩
theorem good_parts {s : List UInt8} (h : goodName s = true) : (∃ c r, s = c :: r ∧ letterB c = true) ∧ (∀ x ∈ s, wordB x = true) ∧ s.length ≤ 24 ∧ keyF s = false := by
  unfold goodName at h
  simp only [Bool.and_eq_true, decide_eq_true_eq, Bool.not_eq_true', List.all_eq_true] at h
  obtain ⟨⟨⟨h1, h2⟩, h3⟩, h4⟩ := h
  refine ⟨?_, h2, h3, h4⟩
  cases s with
  | nil => cases h1
  | cons c r => exact ⟨c, r, rfl, h1⟩
set_option maxRecDepth 20000 in
theorem nameR5_yes (s : List UInt8) (w : World) (h : goodName s = true) : Calls Tryd.prog 22 #[vs s] w fun e w' => e = .returned (.bool true) ∧ w = w' := by
  obtain ⟨⟨c0, r0, hs, hl0⟩, hw, hlen, -⟩ := good_parts h
  have HW := Lib.hid hw
  have HL0 := Lib.hid hl0
  have hb0 : s[0]? = some c0 := by rw [hs]; rfl
  have hb0 := byte_at hb0
  have hpos : 0 < s.length := by rw [hs]; simp
  have HS := Lib.hid hs
  have HB0 := Lib.hid hb0
  clear h hw hl0 hs hb0
  go_enter Tryd.func22, Tryd.ntmps22
  go_wp2_with fail
  go_loop [3] (fun i => ∃ k : Nat, k ≤ s.length ∧ i = .int .i64 k) (fun i => s.length - (intOf i).toNat)
  case atStart => exact ⟨0, Nat.zero_le _, rfl⟩
  case round =>
    obtain ⟨k, hk, rfl⟩ := hrel
    by_cases hlt : k < s.length
    · obtain ⟨c, hx⟩ := get_of_lt hlt
      have hb := byte_at hx
      have hwc := HW.out c (List.mem_of_getElem? hx)
      have HWC := Lib.hid hwc
      have hk1 : (k : Int) < s.length := by omega
      clear hx hwc
      go_wp2_with fail
      refine (wordR_yes c _ HWC.out).mono ?_
      rintro e w' ⟨rfl, rfl⟩
      go_wp2_with fail
      exact ⟨⟨k + 1, hlt, by go_num⟩, by simp [intOf]; omega⟩
    · have : k = s.length := by omega
      subst this
      have hk1 : ¬ ((s.length : Nat) : Int) < s.length := by omega
      have hb := HB0.out
      go_wp2_with fail
      refine (letterR_any c0 _).mono ?_
      rintro e w' ⟨rfl, rfl⟩
      rw [HL0.out]
      go_wp2_with fail
      go_ret
      exact ⟨rfl, rfl⟩
theorem ix_contains (l : List (List UInt8)) (s : List UInt8) : l.contains s = (ixS l s).isSome := by
  rw [ixS_eq, Bool.eq_iff_iff, List.isSome_idxOf?, List.contains_iff_mem]
theorem row_rd {w : World} {b : Nat} {C : Array Value} {l : List (List UInt8)} (h : w.heap[b]? = some (.cells C 9 (0, 0))) (hC : C = (l.map vs).toArray) : RdS w (some ⟨b, 0, none⟩) l := by
  intro _
  refine ⟨b, 0, rfl, lt_of_heap' h, fun k x hx j v hv => ?_⟩
  cases j with
  | zero =>
    simp at hv
    subst hv
    rw [show 0 + k * 1 + 0 = k by omega]
    exact cell_of_blk h (by rw [hC]; simp [hx])
  | succ j => simp at hv
set_option maxRecDepth 20000 in
theorem index_any (l : List (List UInt8)) (A : Option Addr) (c : Nat) (s : List UInt8) (w : World) (hr : RdS w A l) (hl : l.length ≤ 100000) :
    Calls Tryd.prog 16 #[.slice A l.length c, vs s] w fun e w' => e = .returned (.int .i64 (idx (ixS l s))) ∧ w = w' := by
  go_enter Tryd.func16, Tryd.ntmps16
  go_wp2_with fail
  go_loop [5] (fun i => ∃ k : Nat, k ≤ l.length ∧ i = .int .i64 k ∧ ∀ (j : Nat) x, l[j]? = some x → j < k → (s == x) = false) (fun i => l.length - (intOf i).toNat)
  case atStart => exact ⟨0, Nat.zero_le _, rfl, fun _ _ _ h => absurd h (by omega)⟩
  case round =>
    obtain ⟨k, hk, rfl, hno⟩ := hrel
    have Hno := Lib.hid hno; clear hno
    by_cases hlt : k < l.length
    · obtain ⟨x, hx⟩ := get_of_lt hlt
      obtain ⟨b, o, rfl, hbs, c0⟩ := hr.item hx
      have Hx := Lib.hid hx
      clear hr hx
      have hk1 : (k : Int) < l.length := by omega
      cases hp : (x == s) with
      | true =>
        have Hp : Hid ((s == x) = true) := Lib.hid (by rw [← hp, BEq.comm])
        go_wp2_with fail
        go_ret
        exact ⟨by unfold ixS; rw [findIdx_some Hx.out Hp.out Hno.out]; rfl, rfl⟩
      | false =>
        have Hp : Hid ((s == x) = false) := Lib.hid (by rw [← hp, BEq.comm])
        go_wp2_with fail
        exact ⟨⟨k + 1, hlt, by go_num, below_succ (p := fun x => s == x) Hx.out Hp.out Hno.out⟩, by simp [intOf]; omega⟩
    · have : k = l.length := by omega
      subst this
      have hk1 : ¬ ((l.length : Nat) : Int) < l.length := by omega
      go_wp2_with fail
      go_ret
      exact ⟨by unfold ixS; rw [findIdx_none Hno.out]; rfl, rfl⟩
theorem words_any (w : World) : Calls Tryd.prog 23 #[] w fun e w' => Below w.heap.size w w' ∧ ∃ A, e = .returned (.slice A keyWords.length 31) ∧ RdS w' A keyWords := by
  go_enter Tryd.func23, Tryd.ntmps23
  go_wp2_with fail
  go_ret
  exact ⟨(Below.refl _ _).alloc (Nat.le_refl _) _, _, rfl, row_rd (heap_alloc_new w _) (by kernel_rfl)⟩
theorem key_no (s : List UInt8) (w : World) (h : goodName s = true) : Calls Tryd.prog 15 #[vs s] w fun e w' => e = .returned (.bool false) ∧ Below w.heap.size w w' := by
  have H := Lib.hid h
  clear h
  go_enter Tryd.func15, Tryd.ntmps15
  go_wp2_with fail
  refine (nameR5_yes s _ H.out).mono ?_
  rintro e w' ⟨rfl, rfl⟩
  go_wp2_with fail
  refine (words_any w).mono ?_
  rintro e w1 ⟨hb1, A, rfl, hrd⟩
  have HB1 := Lib.hid hb1
  have HRD := Lib.hid hrd
  clear hb1 hrd
  go_wp2_with fail
  refine (index_any keyWords A 31 s w1 HRD.out (by decide)).mono ?_
  rintro e w2 ⟨rfl, rfl⟩
  have hn : ixS keyWords s = none := by
    have := (good_parts H.out).2.2.2
    unfold keyF at this
    rw [ix_contains] at this
    simpa using this
  rw [hn]
  clear hn
  go_wp2_with fail
  go_ret
  exact ⟨rfl, HB1.out⟩
end Go.Proofs.YtcekampdldkjlaaDoor
