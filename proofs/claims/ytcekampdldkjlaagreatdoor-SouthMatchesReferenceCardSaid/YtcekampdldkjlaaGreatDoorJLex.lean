/- The reference's lexer: word, has, gap. The reference's lexer: next. The reference's lexer: next at a digit. The reference's lexer: next at a symbol. The reference's Lex. -/
import Derived.Test.YtcekampdldkjlaaGreatDoorNToks
import Derived.Test.YtcekampdldkjlaaGreatDoorNLexW
set_option linter.unusedVariables false
set_option linter.unusedSimpArgs false
namespace Go.Proofs.YtcekampdldkjlaaGreatDoor
open Go.RowKit
theorem letterB_iff (c : UInt8) : letterB c = decide ((97 ≤ c.toNat ∧ c.toNat ≤ 122) ∨ (65 ≤ c.toNat ∧ c.toNat ≤ 90)) := by
  unfold letterB
  rw [Bool.eq_iff_iff]
  simp [UInt8.le_iff_toNat_le]
theorem digitB_iff (c : UInt8) : digitB c = decide (48 ≤ c.toNat ∧ c.toNat ≤ 57) := by
  unfold digitB
  rw [Bool.eq_iff_iff]
  simp [UInt8.le_iff_toNat_le]
theorem letterR_any (c : UInt8) (w : World) : Calls Tryz.prog 67 #[.int .u8 c.toNat] w fun e w' => e = .returned (.bool (letterB c)) ∧ w = w' := by
  have HL := Lib.hid (letterB_iff c)
  generalize letterB c = B at *
  generalize c.toNat = n at *
  by_cases hc1 : n < 65
  · obtain rfl : B = false := by rw [HL.out, decide_eq_false (by omega)]
    have i0 : ¬ ((97 : Int) ≤ n) := by omega
    have i1 : ¬ ((65 : Int) ≤ n) := by omega
    go_enter Tryz.func67, Tryz.ntmps67
    go_wp2_with fail
    go_ret
    exact ⟨rfl, rfl⟩
  by_cases hc2 : 65 ≤ n ∧ n ≤ 90
  · obtain rfl : B = true := by rw [HL.out, decide_eq_true (by omega)]
    have i0 : ¬ ((97 : Int) ≤ n) := by omega
    have i1 : ((65 : Int) ≤ n) := by omega
    have i2 : ((n : Int) ≤ 90) := by omega
    go_enter Tryz.func67, Tryz.ntmps67
    go_wp2_with fail
    go_ret
    exact ⟨rfl, rfl⟩
  by_cases hc3 : 90 < n ∧ n < 97
  · obtain rfl : B = false := by rw [HL.out, decide_eq_false (by omega)]
    have i0 : ¬ ((97 : Int) ≤ n) := by omega
    have i1 : ((65 : Int) ≤ n) := by omega
    have i2 : ¬ ((n : Int) ≤ 90) := by omega
    go_enter Tryz.func67, Tryz.ntmps67
    go_wp2_with fail
    go_ret
    exact ⟨rfl, rfl⟩
  by_cases hc4 : 97 ≤ n ∧ n ≤ 122
  · obtain rfl : B = true := by rw [HL.out, decide_eq_true (by omega)]
    have i0 : ((97 : Int) ≤ n) := by omega
    have i1 : ((n : Int) ≤ 122) := by omega
    go_enter Tryz.func67, Tryz.ntmps67
    go_wp2_with fail
    go_ret
    exact ⟨rfl, rfl⟩
  by_cases hc5 : 122 < n
  · obtain rfl : B = false := by rw [HL.out, decide_eq_false (by omega)]
    have i0 : ((97 : Int) ≤ n) := by omega
    have i1 : ¬ ((n : Int) ≤ 122) := by omega
    have i2 : ((65 : Int) ≤ n) := by omega
    have i3 : ¬ ((n : Int) ≤ 90) := by omega
    go_enter Tryz.func67, Tryz.ntmps67
    go_wp2_with fail
    go_ret
    exact ⟨rfl, rfl⟩
  · exfalso; omega
theorem digitR_any (c : UInt8) (w : World) : Calls Tryz.prog 69 #[.int .u8 c.toNat] w fun e w' => e = .returned (.bool (digitB c)) ∧ w = w' := by
  have HL := Lib.hid (digitB_iff c)
  generalize digitB c = B at *
  generalize c.toNat = n at *
  by_cases hc6 : n < 48
  · obtain rfl : B = false := by rw [HL.out, decide_eq_false (by omega)]
    have i0 : ¬ ((48 : Int) ≤ n) := by omega
    go_enter Tryz.func69, Tryz.ntmps69
    go_wp2_with fail
    go_ret
    exact ⟨rfl, rfl⟩
  by_cases hc7 : 48 ≤ n ∧ n ≤ 57
  · obtain rfl : B = true := by rw [HL.out, decide_eq_true (by omega)]
    have i0 : ((48 : Int) ≤ n) := by omega
    have i1 : ((n : Int) ≤ 57) := by omega
    go_enter Tryz.func69, Tryz.ntmps69
    go_wp2_with fail
    go_ret
    exact ⟨rfl, rfl⟩
  by_cases hc8 : 57 < n
  · obtain rfl : B = false := by rw [HL.out, decide_eq_false (by omega)]
    have i0 : ((48 : Int) ≤ n) := by omega
    have i1 : ¬ ((n : Int) ≤ 57) := by omega
    go_enter Tryz.func69, Tryz.ntmps69
    go_wp2_with fail
    go_ret
    exact ⟨rfl, rfl⟩
  · exfalso; omega
theorem wordR_yes (c : UInt8) (w : World) (hw : wordB c = true) : Calls Tryz.prog 68 #[.int .u8 c.toNat] w fun e w' => e = .returned (.bool true) ∧ w = w' := by
  cases hl : letterB c with
  | true =>
    have HL := Lib.hid hl
    clear hl hw
    go_enter Tryz.func68, Tryz.ntmps68
    go_wp2_with fail
    refine (letterR_any c _).mono ?_
    rintro e w' ⟨rfl, rfl⟩
    rw [HL.out]
    go_wp2_with fail
    go_ret
    exact ⟨rfl, rfl⟩
  | false =>
    cases hd : digitB c with
    | true =>
      have HL := Lib.hid hl
      have HD := Lib.hid hd
      clear hl hw hd
      go_enter Tryz.func68, Tryz.ntmps68
      go_wp2_with fail
      refine (letterR_any c _).mono ?_
      rintro e w' ⟨rfl, rfl⟩
      rw [HL.out]
      go_wp2_with fail
      refine (digitR_any c _).mono ?_
      rintro e w' ⟨rfl, rfl⟩
      rw [HD.out]
      go_wp2_with fail
      go_ret
      exact ⟨rfl, rfl⟩
    | false =>
      have hc : c.toNat = 95 := by
        unfold wordB at hw
        rw [hl, hd] at hw
        simp at hw
        subst hw; rfl
      have HL := Lib.hid hl
      have HD := Lib.hid hd
      have HC := Lib.hid hc
      clear hl hw hd hc
      go_enter Tryz.func68, Tryz.ntmps68
      go_wp2_with fail
      refine (letterR_any c _).mono ?_
      rintro e w' ⟨rfl, rfl⟩
      rw [HL.out]
      go_wp2_with fail
      refine (digitR_any c _).mono ?_
      rintro e w' ⟨rfl, rfl⟩
      rw [HD.out, HC.out]
      go_wp2_with fail
      go_ret
      exact ⟨rfl, rfl⟩
theorem wrapN {k : Nat} (h : k < 9000000) : wrap64 ((k : Int) + 1) = ((k + 1 : Nat) : Int) := by unfold wrap64; omega
theorem wordR_no (c : UInt8) (w : World) (hw : wordB c = false) : Calls Tryz.prog 68 #[.int .u8 c.toNat] w fun e w' => e = .returned (.bool false) ∧ w = w' := by
  have h1 : letterB c = false := by cases h : letterB c <;> simp [wordB, h] at hw ⊢
  have h2 : digitB c = false := by cases h : digitB c <;> simp [wordB, h] at hw ⊢
  have h3 : ¬ (c.toNat : Int) = 95 := by
    intro e
    have : c = 95 := UInt8.toNat_inj.1 (by have : (95 : UInt8).toNat = 95 := rfl; omega)
    simp [wordB, this] at hw
  have h4 : ((c.toNat : Int) == 95) = false := by simpa using h3
  have HL := Lib.hid h1
  have HD := Lib.hid h2
  clear hw h1 h2
  go_enter Tryz.func68, Tryz.ntmps68
  go_wp2_with fail
  refine (letterR_any c _).mono ?_
  rintro e w' ⟨rfl, rfl⟩
  rw [HL.out]
  go_wp2_with fail
  refine (digitR_any c _).mono ?_
  rintro e w' ⟨rfl, rfl⟩
  rw [HD.out]
  go_wp2_with fail
  go_ret
  exact ⟨rfl, rfl⟩
theorem wordR_any (c : UInt8) (w : World) : Calls Tryz.prog 68 #[.int .u8 c.toNat] w fun e w' => e = .returned (.bool (wordB c)) ∧ w = w' := by
  cases h : wordB c with
  | true => exact wordR_yes c w h
  | false => exact wordR_no c w h
theorem byte_ne' {x c : UInt8} (h : x ≠ c) : ¬ (x.toNat : Int) = c.toNat := fun e => h (UInt8.toNat_inj.1 (by omega))
set_option maxRecDepth 20000 in
theorem has_any (s : List UInt8) (c : UInt8) (w : World) (hs : s.length ≤ 100) : Calls Tryz.prog 66 #[vs s, .int .u8 c.toNat] w fun e w' => e = .returned (.bool (s.contains c)) ∧ w = w' := by
  go_enter Tryz.func66, Tryz.ntmps66
  go_wp2_with fail
  go_loop [5] (fun v => ∃ k : Nat, k ≤ s.length ∧ v = .int .i64 k ∧ ∀ j x, j < k → s[j]? = some x → x ≠ c) (fun v => s.length - (intOf v).toNat)
  case atStart => exact ⟨0, by omega, rfl, fun j x h => absurd h (Nat.not_lt_zero _)⟩
  case round =>
    obtain ⟨k, hk, rfl, hno⟩ := hrel
    by_cases hlt : k < s.length
    · obtain ⟨x, hx⟩ := get_of_lt hlt
      have hb := byte_at hx
      have hk1 : (k : Int) < s.length := by omega
      have HX := Lib.hid hx
      have HNO := Lib.hid hno
      have HLT := Lib.hid hlt
      clear hx hno
      by_cases hc : x = c
      · subst hc
        go_wp2_with fail
        go_ret
        exact ⟨by rw [decide_eq_true (List.mem_of_getElem? HX.out)]; rfl, rfl⟩
      · have hc' := byte_ne' hc
        go_wp2_with fail
        refine ⟨⟨k + 1, HLT.out, by go_num, fun j y hj hy => ?_⟩, by have := HLT.out; simp [intOf]; omega⟩
        rcases Nat.lt_succ_iff_lt_or_eq.1 hj with h | rfl
        · exact HNO.out j y h hy
        · rw [HX.out] at hy; cases hy; exact hc
    · obtain rfl : k = s.length := by omega
      have hbl : decide (c ∈ s) = false := by
        rw [decide_eq_false]
        intro h
        obtain ⟨j, hj⟩ := List.mem_iff_getElem?.1 h
        exact hno j c (List.getElem?_eq_some_iff.1 hj).1 hj rfl
      have HBL := Lib.hid hbl
      have hk1 : ¬ ((s.length : Nat) : Int) < s.length := by omega
      clear hno hbl
      go_wp2_with fail
      go_ret
      exact ⟨by rw [HBL.out]; rfl, rfl⟩
theorem drop_at' {l : List UInt8} {k : Nat} {c : UInt8} (h : l[k]? = some c) : l.drop k = c :: l.drop (k + 1) := by
  obtain ⟨h1, h2⟩ := List.getElem?_eq_some_iff.1 h
  rw [List.drop_eq_getElem_cons h1, h2]
theorem blank_in (c : UInt8) : ([32, 9, 10] : List UInt8).contains c = blankB c := by
  rw [Bool.eq_iff_iff]
  simp [blankB, or_assoc]
/- inside a comment -/
def comK (d : List UInt8) (j : Nat) : List Tok × Option (Nat × Nat) := sc (d.drop (d.takeWhile (· != 10)).length) (j + (d.takeWhile (· != 10)).length)
theorem comK_start (r : List UInt8) (m : Nat) : comK (35 :: r) m = sc (35 :: r) m := by
  rw [sc_hash]
  unfold comK
  rw [List.takeWhile_cons_of_pos (by decide), List.length_cons, List.drop_succ_cons, Nat.add_comm (r.takeWhile _).length 1, Nat.add_assoc]
theorem comK_step {c : UInt8} (r : List UInt8) (m : Nat) (h : c ≠ 10) : comK (c :: r) m = comK r (m + 1) := by
  unfold comK
  rw [List.takeWhile_cons_of_pos (by simpa using h), List.length_cons, List.drop_succ_cons, Nat.add_comm (r.takeWhile _).length 1, Nat.add_assoc]
theorem comK_stop (r : List UInt8) (m : Nat) : comK (10 :: r) m = sc (10 :: r) m := by
  unfold comK
  rw [List.takeWhile_cons_of_neg (by decide)]
  rfl
theorem comK_nil (m : Nat) : comK [] m = sc [] m := rfl
def GapTo (l : List UInt8) (k m : Nat) : Prop := k ≤ m ∧ m ≤ l.length ∧ sc (l.drop k) k = sc (l.drop m) m ∧ (m = l.length ∨ ∃ c r, l.drop m = c :: r ∧ blankB c = false ∧ c ≠ 35)
set_option maxRecDepth 20000 in
set_option maxHeartbeats 1000000 in
theorem gapR_any (l : List UInt8) (k0 : Nat) (w : World) (hk0 : k0 ≤ l.length) (hl : l.length ≤ 20000) : Calls Tryz.prog 34 #[vs l, .int .i64 k0] w fun e w' => w = w' ∧ ∃ m : Nat, e = .returned (.int .i64 m) ∧ GapTo l k0 m := by
  go_enter Tryz.func34, Tryz.ntmps34
  go_wp2_with fail
  go_loop [1] (fun v => ∃ k : Nat, k0 ≤ k ∧ k ≤ l.length ∧ v = .int .i64 k ∧ sc (l.drop k0) k0 = sc (l.drop k) k) (fun v => l.length - (intOf v).toNat)
  case atStart => exact ⟨k0, Nat.le_refl _, hk0, rfl, rfl⟩
  case round =>
    obtain ⟨k, hkk, hk, rfl, hgk⟩ := hrel
    by_cases hlt : k < l.length
    · obtain ⟨c, hx⟩ := get_of_lt hlt
      have hb := byte_at hx
      have hdr := drop_at' hx
      have HDR := Lib.hid hdr
      have HGK := Lib.hid hgk
      have HX := Lib.hid hx
      have hk1 : (k : Int) < l.length := by omega
      have hwk := wrapN (k := k) (by omega)
      clear hgk hx hdr
      go_wp2_with fail
      refine (has_any [32, 9, 10] c _ (by simp)).mono ?_
      rintro e w' ⟨rfl, rfl⟩
      rw [blank_in]
      cases hc : blankB c with
      | true =>
        have HN : Hid (sc (l.drop k0) k0 = sc (l.drop (k + 1)) (k + 1)) := Lib.hid (by rw [HGK.out, HDR.out, sc_blank _ _ hc])
        clear hc
        go_wp2_with fail
        exact ⟨⟨k + 1, Nat.le_succ_of_le hkk, hlt, rfl, HN.out⟩, Nat.sub_lt_sub_left hlt (Nat.lt_succ_self _)⟩
      | false =>
        by_cases hc2 : c = 35
        · subst hc2
          have HC : Hid (sc (l.drop k0) k0 = comK (l.drop k) k) := Lib.hid (by rw [HGK.out, HDR.out, comK_start])
          clear hc
          go_wp2_with fail
          clear hb
          go_loop [1] (fun v => ∃ j : Nat, k ≤ j ∧ j ≤ l.length ∧ v = .int .i64 j ∧ sc (l.drop k0) k0 = comK (l.drop j) j) (fun v => l.length - (intOf v).toNat)
          case atStart => exact ⟨k, Nat.le_refl _, hk, rfl, HC.out⟩
          case round =>
            obtain ⟨j, hkj, hj, rfl, hcj⟩ := hrel
            by_cases hlj : j < l.length
            · obtain ⟨y, hy⟩ := get_of_lt hlj
              have hb := byte_at hy
              have hdy := drop_at' hy
              have HY := Lib.hid hy
              have HDY := Lib.hid hdy
              have HCJ := Lib.hid hcj
              have hj1 : (j : Int) < l.length := by omega
              have hwj := wrapN (k := j) (by omega)
              clear hcj hy hdy
              by_cases h10 : y = 10
              · subst h10
                have hne : k ≠ j := by
                  rintro rfl
                  have := HX.out.symm.trans HY.out
                  cases this
                have hkj2 : k < j := Nat.lt_of_le_of_ne hkj hne
                have HN : Hid (sc (l.drop k0) k0 = sc (l.drop j) j) := Lib.hid (by rw [HCJ.out, HDY.out, comK_stop])
                go_wp2_with fail
                exact ⟨⟨j, Nat.le_trans hkk hkj, hj, rfl, HN.out⟩, Nat.sub_lt_sub_left hlt hkj2⟩
              · have h10' : ¬ (y.toNat : Int) = 10 := fun e => h10 (UInt8.toNat_inj.1 (by have : (10 : UInt8).toNat = 10 := rfl; omega))
                have HN : Hid (sc (l.drop k0) k0 = comK (l.drop (j + 1)) (j + 1)) := Lib.hid (by rw [HCJ.out, HDY.out, comK_step _ _ h10])
                go_wp2_with fail
                exact ⟨⟨j + 1, Nat.le_succ_of_le hkj, hlj, rfl, HN.out⟩, Nat.sub_lt_sub_left hlj (Nat.lt_succ_self _)⟩
            · obtain rfl : j = l.length := by omega
              have hj1 : ¬ (l.length : Int) < l.length := by omega
              have HN : Hid (sc (l.drop k0) k0 = sc (l.drop l.length) l.length) := Lib.hid (by rw [hcj, List.drop_length]; rfl)
              clear hcj
              go_wp2_with fail
              exact ⟨⟨l.length, Nat.le_trans hkk hk, Nat.le_refl _, rfl, HN.out⟩, Nat.sub_lt_sub_left hlt hlt⟩
        · have h35' : ¬ (c.toNat : Int) = 35 := fun e => hc2 (UInt8.toNat_inj.1 (by have : (35 : UInt8).toNat = 35 := rfl; omega))
          have HC := Lib.hid hc
          have HC2 := Lib.hid hc2
          clear hc hc2
          go_wp2_with fail
          go_ret
          exact ⟨rfl, k, rfl, hkk, hk, HGK.out, .inr ⟨c, _, HDR.out, HC.out, HC2.out⟩⟩
    · obtain rfl : k = l.length := by omega
      have hk1 : ¬ (l.length : Int) < l.length := by omega
      have HG := Lib.hid hgk
      clear hgk
      go_wp2_with fail
      go_ret
      exact ⟨rfl, l.length, rfl, hkk, Nat.le_refl _, HG.out, .inl rfl⟩
end Go.Proofs.YtcekampdldkjlaaGreatDoor
namespace Go.Proofs.YtcekampdldkjlaaGreatDoor
open Go.RowKit
theorem run_of (p : UInt8 → Bool) {l r : List UInt8} {i : Nat} {c : UInt8} (h : l.drop i = c :: r) {e : Nat} (h1 : i + 1 ≤ e) (h2 : e ≤ i + 1 + (r.takeWhile p).length) :
    (e < i + 1 + (r.takeWhile p).length ∧ e < l.length ∧ ∃ x, l[e]? = some x ∧ p x = true) ∨ (e = i + 1 + (r.takeWhile p).length ∧ (e = l.length ∨ e < l.length ∧ ∃ x, l[e]? = some x ∧ p x = false)) := by
  have hr : l.drop (i + 1) = r := by have := drop_more h 0; simpa using this
  have hg : ∀ k, r[k]? = l[i + 1 + k]? := fun k => by rw [← hr, List.getElem?_drop]
  have hlen := drop_len h
  have hle := takeWhile_len p r
  obtain ⟨j, rfl⟩ : ∃ j, e = i + 1 + j := ⟨e - (i + 1), by omega⟩
  by_cases hj : j < (r.takeWhile p).length
  · obtain ⟨x, hx, hp⟩ := tw_lt hj
    exact .inl ⟨by omega, by omega, x, by rw [← hg, hx], hp⟩
  · have hj2 : j = (r.takeWhile p).length := by omega
    refine .inr ⟨by omega, ?_⟩
    by_cases hl : i + 1 + j = l.length
    · exact .inl hl
    · obtain ⟨x, hx⟩ := get_of_lt (l := l) (k := i + 1 + j) (by omega)
      refine .inr ⟨by omega, x, hx, ?_⟩
      rw [← hg, hj2] at hx
      exact tw_end hx
def NextPost (i : Nat) (c : UInt8) (r : List UInt8) (w : World) (e : Ending) (w' : World) : Prop := Below w.heap.size w w' ∧ match lexOne c r with
  | .error er => e = .returned (.tuple #[.agg #[.int .i64 0, .string ⟨#[]⟩, .int .i64 0, .int .i64 0], .int .i64 er])
  | .ok (k, n, v) => e = .returned (.tuple #[.agg (Tok.cells ⟨k, (c :: r).take n, v, i⟩).toArray, .int .i64 0])
set_option maxRecDepth 20000 in
set_option maxHeartbeats 2000000 in
theorem nextL_any (l : List UInt8) (i : Nat) (c : UInt8) (r : List UInt8) (w : World) (hd : l.drop i = c :: r) (hl : l.length ≤ 20000) (hc : letterB c = true) : Calls Tryz.prog 35 #[vs l, .int .i64 i] w (NextPost i c r w) := by
  have hlen := drop_len hd
  have hi1 : (i : Int) < l.length := by omega
  have hi0 : (0 : Int) ≤ i := by omega
  have hb := byte_at (drop_get hd)
  have HD := Lib.hid hd
  have HC := Lib.hid hc
  have hwi := wrapN (k := i) (by omega)
  have HLEN := Lib.hid hlen
  clear hd hc hlen
  go_enter Tryz.func35, Tryz.ntmps35
  go_wp2_with fail
  refine (letterR_any c _).mono ?_
  rintro e w' ⟨rfl, rfl⟩
  rw [HC.out]
  go_wp2_with fail
  go_loop [6] (fun v => ∃ e : Nat, i + 1 ≤ e ∧ e ≤ i + 1 + (r.takeWhile wordB).length ∧ v = .int .i64 e) (fun v => l.length + 1 - (intOf v).toNat)
  case atStart => exact ⟨i + 1, Nat.le_refl _, Nat.le_add_right _ _, rfl⟩
  case round =>
    obtain ⟨e, h1, h2, rfl⟩ := hrel
    have hle := takeWhile_len wordB r
    rcases run_of wordB HD.out h1 h2 with ⟨h3, h4, x, hx, hxp⟩ | ⟨rfl, h3⟩
    · have hb := byte_at hx
      have h5 : (e : Int) < l.length := by omega
      have hwe := wrapN (k := e) (by omega)
      have HXP := Lib.hid hxp
      clear hx hxp
      go_wp2_with fail
      refine (wordR_any x _).mono ?_
      rintro q w' ⟨rfl, rfl⟩
      rw [HXP.out]
      go_wp2_with fail
      exact ⟨⟨e + 1, by omega, by omega, by go_num⟩, by simp [intOf]; omega⟩
    · generalize hT : (r.takeWhile wordB).length = T at *
      have HT := Lib.hid hT
      have hwT : wrap64 ((i : Int) + 1 + T - i) = 1 + (T : Int) := by have := HLEN.out; unfold wrap64; omega
      have hTl : (i : Int) + 1 + T ≤ l.length := by have := HLEN.out; omega
      clear hT
      by_cases h24 : 24 < T + 1
      · have h24' : (24 : Int) < 1 + T := by omega
        have HR : Hid (lexOne c r = .error 2) := Lib.hid (by unfold lexOne; rw [if_pos HC.out, HT.out, if_pos h24])
        clear h24
        rcases h3 with h3 | ⟨h4, x, hx, hxp⟩
        · have h5 : ¬ ((i + 1 + T : Nat) : Int) < l.length := by omega
          have H3 := Lib.hid h3
          clear h3
          go_wp2_with fail
          refine bodyPost_ret (v := .tuple #[.agg #[.int .i64 0, .string ⟨#[]⟩, .int .i64 0, .int .i64 0], .int .i64 2]) (by simp [results, Tryz.results35, go_sem]) rfl ?_
          refine ⟨((Below.refl _ _).alloc (Nat.le_refl _) _).alloc (by simp) _, ?_⟩
          rw [HR.out]
          exact rfl
        · have hb := byte_at hx
          have h5 : ((i + 1 + T : Nat) : Int) < l.length := by omega
          have HXP := Lib.hid hxp
          clear hx hxp
          go_wp2_with fail
          refine (wordR_any x _).mono ?_
          rintro q w' ⟨rfl, rfl⟩
          rw [HXP.out]
          go_wp2_with fail
          refine bodyPost_ret (v := .tuple #[.agg #[.int .i64 0, .string ⟨#[]⟩, .int .i64 0, .int .i64 0], .int .i64 2]) (by simp [results, Tryz.results35, go_sem]) rfl ?_
          refine ⟨((Below.refl _ _).alloc (Nat.le_refl _) _).alloc (by simp) _, ?_⟩
          rw [HR.out]
          exact rfl
      · have h24' : ¬ (24 : Int) < 1 + T := by omega
        have HR : Hid (lexOne c r = .ok (1, T + 1, 0)) := Lib.hid (by unfold lexOne; rw [if_pos HC.out, HT.out, if_neg h24])
        clear h24
        rcases h3 with h3 | ⟨h4, x, hx, hxp⟩
        · have h5 : ¬ ((i + 1 + T : Nat) : Int) < l.length := by omega
          have H3 := Lib.hid h3
          clear h3
          go_wp2_with fail
          refine bodyPost_ret (v := .tuple #[.agg #[.int .i64 1, .string ⟨((l.drop i).take (T + 1)).toArray⟩, .int .i64 (0), .int .i64 i], .int .i64 0]) (by simp [results, Tryz.results35, go_sem]; rw [text_slice]; congr 3; omega) rfl ?_
          refine ⟨((Below.refl _ _).alloc (Nat.le_refl _) _).alloc (by simp) _, ?_⟩
          rw [HR.out, HD.out]
          exact rfl
        · have hb := byte_at hx
          have h5 : ((i + 1 + T : Nat) : Int) < l.length := by omega
          have HXP := Lib.hid hxp
          clear hx hxp
          go_wp2_with fail
          refine (wordR_any x _).mono ?_
          rintro q w' ⟨rfl, rfl⟩
          rw [HXP.out]
          go_wp2_with fail
          refine bodyPost_ret (v := .tuple #[.agg #[.int .i64 1, .string ⟨((l.drop i).take (T + 1)).toArray⟩, .int .i64 (0), .int .i64 i], .int .i64 0]) (by simp [results, Tryz.results35, go_sem]; rw [text_slice]; congr 3; omega) rfl ?_
          refine ⟨((Below.refl _ _).alloc (Nat.le_refl _) _).alloc (by simp) _, ?_⟩
          rw [HR.out, HD.out]
          exact rfl
end Go.Proofs.YtcekampdldkjlaaGreatDoor
namespace Go.Proofs.YtcekampdldkjlaaGreatDoor
open Go.RowKit
theorem valN_snoc (s : List UInt8) (x : UInt8) : valN (s ++ [x]) = 10 * valN s + (x.toNat - 48) := by simp [valN]
theorem dig_at {c : UInt8} {r : List UInt8} {T j : Nat} (hT : (r.takeWhile digitB).length = T) (h : ∀ x ∈ c :: r.takeWhile digitB, digitB x = true) (hj : j < T + 1) : ∃ x, (c :: r)[j]? = some x ∧ digitB x = true := by
  cases j with
  | zero => exact ⟨c, rfl, h c (by simp)⟩
  | succ j =>
    obtain ⟨x, hx, hp⟩ := tw_lt (p := digitB) (d := r) (j := j) (by omega)
    exact ⟨x, by simpa using hx, hp⟩
theorem dig_48 {x : UInt8} (h : digitB x = true) : 48 ≤ x.toNat ∧ x.toNat ≤ 57 := by
  rw [digitB_iff] at h
  simpa using h
theorem dig_val {c : UInt8} {r : List UInt8} {T j : Nat} (h : ∀ x ∈ c :: r.takeWhile digitB, digitB x = true) (hk : c :: r.takeWhile digitB = (c :: r).take (T + 1)) (hj : j ≤ T + 1) (hT : T + 1 ≤ 7) : valN ((c :: r).take j) < 10000000 := by
  have hall : ∀ x ∈ (c :: r).take j, digitB x = true := by
    intro x hx
    refine h x ?_
    rw [hk]
    exact (List.take_prefix_take_left (l := c :: r) hj).subset hx
  have := valN_bound ((c :: r).take j) 0 0 hall (by decide)
  have h2 : ((c :: r).take j).length ≤ 7 := by rw [List.length_take]; omega
  have h3 : 10 ^ (0 + ((c :: r).take j).length) ≤ 10 ^ 7 := Nat.pow_le_pow_right (by decide) (by omega)
  exact Nat.lt_of_lt_of_le this h3
theorem dig_step {c x : UInt8} {r : List UInt8} {j : Nat} (h : (c :: r)[j]? = some x) : valN ((c :: r).take (j + 1)) = 10 * valN ((c :: r).take j) + (x.toNat - 48) := by
  rw [List.take_add_one, h]
  exact valN_snoc _ _
theorem num_start (w : World) (i : Nat) : ((w.alloc (.cells #[.int .i64 0, .string ⟨#[]⟩, .int .i64 0, .int .i64 0] 55)).alloc (.cells #[.int .i64 2, .string ⟨#[]⟩, .int .i64 0, .int .i64 i] 55)).heap[w.heap.size]? = some (.cells #[.int .i64 0, .string ⟨#[]⟩, .int .i64 0, .int .i64 0] 55 (0, 0)) ∧ ((w.alloc (.cells #[.int .i64 0, .string ⟨#[]⟩, .int .i64 0, .int .i64 0] 55)).alloc (.cells #[.int .i64 2, .string ⟨#[]⟩, .int .i64 0, .int .i64 i] 55)).heap[w.heap.size + 1]? = some (.cells #[.int .i64 2, .string ⟨#[]⟩, .int .i64 0, .int .i64 i] 55 (0, 0)) ∧ Below w.heap.size w ((w.alloc (.cells #[.int .i64 0, .string ⟨#[]⟩, .int .i64 0, .int .i64 0] 55)).alloc (.cells #[.int .i64 2, .string ⟨#[]⟩, .int .i64 0, .int .i64 i] 55)) := by
  refine ⟨(Below.heap_alloc _ _ _ (by simp)).trans (heap_alloc_new w _), ?_, ((Below.refl _ _).alloc (Nat.le_refl _) _).alloc (by simp) _⟩
  have := heap_alloc_new (w.alloc (.cells #[.int .i64 0, .string ⟨#[]⟩, .int .i64 0, .int .i64 0] 55)) (.cells #[.int .i64 2, .string ⟨#[]⟩, .int .i64 0, .int .i64 i] 55)
  rwa [show (w.alloc (.cells #[.int .i64 0, .string ⟨#[]⟩, .int .i64 0, .int .i64 0] 55)).heap.size = w.heap.size + 1 by simp] at this
set_option maxRecDepth 20000 in
set_option maxHeartbeats 2000000 in
theorem nextD_any (l : List UInt8) (i : Nat) (c : UInt8) (r : List UInt8) (w : World) (hd : l.drop i = c :: r) (hl : l.length ≤ 20000) (hc0 : letterB c = false) (hc : digitB c = true) : Calls Tryz.prog 35 #[vs l, .int .i64 i] w (NextPost i c r w) := by
  have HC0 := Lib.hid hc0
  clear hc0
  have hlen := drop_len hd
  have hi1 : (i : Int) < l.length := by omega
  have hi0 : (0 : Int) ≤ i := by omega
  have hb := byte_at (drop_get hd)
  have HD := Lib.hid hd
  have HC := Lib.hid hc
  have hwi := wrapN (k := i) (by omega)
  have HLEN := Lib.hid hlen
  clear hd hc hlen
  go_enter Tryz.func35, Tryz.ntmps35
  go_wp2_with fail
  refine (letterR_any c _).mono ?_
  rintro e w' ⟨rfl, rfl⟩
  rw [HC0.out]
  go_wp2_with fail
  refine (digitR_any c _).mono ?_
  rintro e w' ⟨rfl, rfl⟩
  rw [HC.out]
  go_wp2_with fail
  go_loop [6] (fun v => ∃ e : Nat, i + 1 ≤ e ∧ e ≤ i + 1 + (r.takeWhile digitB).length ∧ v = .int .i64 e) (fun v => l.length + 1 - (intOf v).toNat)
  case atStart => exact ⟨i + 1, Nat.le_refl _, Nat.le_add_right _ _, rfl⟩
  case round =>
    obtain ⟨e, h1, h2, rfl⟩ := hrel
    have hle := takeWhile_len digitB r
    rcases run_of digitB HD.out h1 h2 with ⟨h3, h4, x, hx, hxp⟩ | ⟨rfl, h3⟩
    · have hb := byte_at hx
      have h5 : (e : Int) < l.length := by omega
      have hwe := wrapN (k := e) (by omega)
      have HXP := Lib.hid hxp
      clear hx hxp
      go_wp2_with fail
      refine (digitR_any x _).mono ?_
      rintro q w' ⟨rfl, rfl⟩
      rw [HXP.out]
      go_wp2_with fail
      exact ⟨⟨e + 1, by omega, by omega, by go_num⟩, by simp [intOf]; omega⟩
    · have hall : Hid (∀ x ∈ c :: r.takeWhile digitB, digitB x = true) := Lib.hid (digits_all HC.out)
      have htk : Hid (c :: r.takeWhile digitB = (c :: r).take ((r.takeWhile digitB).length + 1)) := Lib.hid (by rw [List.take_succ_cons, ← List.prefix_iff_eq_take.1 (List.takeWhile_prefix _)])
      have hhd : Hid ((r.drop (r.takeWhile digitB).length).head? = l[i + 1 + (r.takeWhile digitB).length]?) := Lib.hid (by rw [← drop_more HD.out, List.head?_drop])
      have HLX : Hid (lexOne c r = if 7 < (r.takeWhile digitB).length + 1 ∨ ((r.drop (r.takeWhile digitB).length).head?.any wordB) = true then .error 4 else .ok (2, (r.takeWhile digitB).length + 1, valN (c :: r.takeWhile digitB))) := Lib.hid (by unfold lexOne; rw [if_neg (by rw [HC0.out]; decide), if_pos HC.out])
      have HV : Hid (valN (c :: r.takeWhile digitB) = valN (c :: r.takeWhile digitB)) := Lib.hid rfl
      generalize hT : (r.takeWhile digitB).length = T at *
      have HT := Lib.hid hT
      have hwT : wrap64 ((i : Int) + 1 + T - i) = 1 + (T : Int) := by have := HLEN.out; unfold wrap64; omega
      have hTl : (i : Int) + 1 + T ≤ l.length := by have := HLEN.out; omega
      clear hT
      by_cases h7 : 7 < T + 1
      · have h7' : (7 : Int) < 1 + T := by omega
        have HR : Hid (lexOne c r = .error 4) := Lib.hid (by rw [HLX.out, if_pos (.inl h7)])
        clear h7
        rcases h3 with h3 | ⟨h4, x, hx, hxp⟩
        · have h5 : ¬ ((i + 1 + T : Nat) : Int) < l.length := by omega
          have H3 := Lib.hid h3
          clear h3
          go_wp2_with fail
          refine bodyPost_ret (v := .tuple #[.agg #[.int .i64 0, .string ⟨#[]⟩, .int .i64 0, .int .i64 0], .int .i64 4]) (by simp [results, Tryz.results35, go_sem]) rfl ?_
          refine ⟨((Below.refl _ _).alloc (Nat.le_refl _) _).alloc (by simp) _, ?_⟩
          rw [HR.out]
          exact rfl
        · have hb := byte_at hx
          have h5 : ((i + 1 + T : Nat) : Int) < l.length := by omega
          have HXP := Lib.hid hxp
          clear hx hxp
          go_wp2_with fail
          refine (digitR_any x _).mono ?_
          rintro q w' ⟨rfl, rfl⟩
          rw [HXP.out]
          go_wp2_with fail
          refine bodyPost_ret (v := .tuple #[.agg #[.int .i64 0, .string ⟨#[]⟩, .int .i64 0, .int .i64 0], .int .i64 4]) (by simp [results, Tryz.results35, go_sem]) rfl ?_
          refine ⟨((Below.refl _ _).alloc (Nat.le_refl _) _).alloc (by simp) _, ?_⟩
          rw [HR.out]
          exact rfl
      · have h7' : ¬ (7 : Int) < 1 + T := by omega
        rcases h3 with h3 | ⟨h4, x, hx, hxp⟩
        · have h5 : ¬ ((i + 1 + T : Nat) : Int) < l.length := by omega
          have H3 := Lib.hid h3
          clear h3
          have HR : Hid (lexOne c r = .ok (2, T + 1, valN ((c :: r).take (T + 1)))) := Lib.hid (by rw [HLX.out, if_neg (by rw [hhd.out, H3.out, List.getElem?_eq_none (Nat.le_refl _)]; simpa using h7), htk.out])
          go_wp2_with fail
          go_loopw [9] (fun v wr => ∃ k : Nat, i ≤ k ∧ k ≤ i + T + 1 ∧ v = .int .i64 k ∧ wr.heap[w.heap.size]? = some (.cells #[.int .i64 0, .string ⟨#[]⟩, .int .i64 0, .int .i64 0] 55 (0, 0)) ∧ wr.heap[w.heap.size + 1]? = some (.cells #[.int .i64 2, .string ⟨#[]⟩, .int .i64 (valN ((c :: r).take (k - i))), .int .i64 i] 55 (0, 0)) ∧ Below w.heap.size w wr) (fun v _ => l.length + 1 - (intOf v).toNat)
          case atStart => exact ⟨i, Nat.le_refl _, by omega, rfl, by rw [Nat.sub_self]; exact num_start w i⟩
          case round =>
            obtain ⟨k, hk1, hk2, rfl, hz, ht, hbw⟩ := hrel
            have HZ := Lib.hid hz
            have HTT := Lib.hid ht
            have HBW := Lib.hid hbw
            have hlt1 := lt_of_heap' ht
            by_cases hkT : k < i + T + 1
            · obtain ⟨x, hx, hxd⟩ : ∃ x, (c :: r)[k - i]? = some x ∧ digitB x = true := dig_at HT.out hall.out (by omega)
              have hx2 : l[k]? = some x := by rw [← hx, ← HD.out, List.getElem?_drop, show i + (k - i) = k by omega]
              have hb := byte_at hx2
              have hkl := (List.getElem?_eq_some_iff.1 hx2).1
              have hx48 := dig_48 hxd
              have hvb : valN ((c :: r).take (k - i)) < 10000000 := dig_val hall.out htk.out (by omega) (by omega)
              have HVS : Hid (valN ((c :: r).take (k + 1 - i)) = 10 * valN ((c :: r).take (k - i)) + (x.toNat - 48)) := Lib.hid (by rw [show k + 1 - i = (k - i) + 1 by omega]; exact dig_step hx)
              have HKT := Lib.hid hkT
              have HK2 := Lib.hid hk2
              have hw8 : IntKind.u8.wrap ((x.toNat : Int) - 48) = (x.toNat : Int) - 48 := by rw [IntKind.wrap_u8]; omega
              generalize hV : valN ((c :: r).take (k - i)) = V at *
              have c2 := cell_of_blk (o := 2) ht rfl
              have f2 := frozen_of_blk (o := 2) ht
              have h6 : (k : Int) < (i : Int) + 1 + T := by omega
              have h7 : (k : Int) < l.length := by omega
              have hwe := wrapN (k := k) (by omega)
              clear hx hxd hx2 hz ht hbw hV hkT hk2
              clear hTl hwT hwe hlt1 h7' h1 h2 hle h7
              go_wp2_with fail
              go_region
              go_wp2_with fail
              have hlt2 := HKT.out
              refine ⟨⟨k + 1, by omega, by omega, by go_num, ?_, ?_, ?_⟩, by simp [intOf]; omega⟩
              · exact (Below.heap_setCell wr ⟨w.heap.size + 1, 2, none⟩ _ w.heap.size (by simp)).trans HZ.out
              · have h8 := row_setCell (o := 2) (u := .int .i64 (10 * (V : Int) + ((x.toNat : Int) - 48))) HTT.out
                rw [HVS.out, show ((10 * V + (x.toNat - 48) : Nat) : Int) = 10 * (V : Int) + ((x.toNat : Int) - 48) by omega]
                exact h8
              · exact (HBW.out.setCell (by simp) _).drew
            · obtain rfl : k = i + T + 1 := by omega
              have hks : i + T + 1 - i = T + 1 := by omega
              rw [hks] at ht
              have HT5 := Lib.hid ht
              clear hz ht hbw hk1 hk2 hkT hks HTT
              have c0 := cell_of_blk (o := 0) HT5.out rfl
              have c1 := cell_of_blk (o := 1) HT5.out rfl
              have c2 := cell_of_blk (o := 2) HT5.out rfl
              have c3 := cell_of_blk (o := 3) HT5.out rfl
              have f1 := frozen_of_blk (o := 1) HT5.out
              have z0 := cell_of_blk (o := 0) HZ.out rfl
              have z1 := cell_of_blk (o := 1) HZ.out rfl
              have z2 := cell_of_blk (o := 2) HZ.out rfl
              have z3 := cell_of_blk (o := 3) HZ.out rfl
              have y0 := frozen_of_blk (o := 0) HZ.out
              have y1 := frozen_of_blk (o := 1) HZ.out
              have y2 := frozen_of_blk (o := 2) HZ.out
              have y3 := frozen_of_blk (o := 3) HZ.out
              have h6 : ¬ ((i + T + 1 : Nat) : Int) < (i : Int) + 1 + T := by omega
              go_wp2_with fail
              refine bodyPost_ret (v := .tuple #[.agg #[.int .i64 2, .string ⟨((l.drop i).take (T + 1)).toArray⟩, .int .i64 (valN ((c :: r).take (T + 1))), .int .i64 i], .int .i64 0]) (by simp [results, Tryz.results35, go_sem, *]; rw [text_slice]; congr 3; omega) rfl ?_
              refine ⟨(((((HBW.out.setCell (by simp) _).setCell (Nat.le_refl _) _).setCell (Nat.le_refl _) _).setCell (Nat.le_refl _) _).setCell (Nat.le_refl _) _), ?_⟩
              rw [HR.out, HD.out]
              exact rfl
        · have hb := byte_at hx
          have h5 : ((i + 1 + T : Nat) : Int) < l.length := by omega
          have HXP := Lib.hid hxp
          have HX := Lib.hid hx
          clear hx hxp
          go_wp2_with fail
          refine (digitR_any x _).mono ?_
          rintro q w' ⟨rfl, rfl⟩
          rw [HXP.out]
          go_wp2_with fail
          refine (wordR_any x _).mono ?_
          rintro q w' ⟨rfl, rfl⟩
          cases hwx : wordB x with
          | true =>
            have HR : Hid (lexOne c r = .error 4) := Lib.hid (by rw [HLX.out, if_pos (.inr (by rw [hhd.out, HX.out]; simpa using hwx))])
            clear hwx
            go_wp2_with fail
            refine bodyPost_ret (v := .tuple #[.agg #[.int .i64 0, .string ⟨#[]⟩, .int .i64 0, .int .i64 0], .int .i64 4]) (by simp [results, Tryz.results35, go_sem]) rfl ?_
            refine ⟨((Below.refl _ _).alloc (Nat.le_refl _) _).alloc (by simp) _, ?_⟩
            rw [HR.out]
            exact rfl
          | false =>
            have HR : Hid (lexOne c r = .ok (2, T + 1, valN ((c :: r).take (T + 1)))) := Lib.hid (by rw [HLX.out, if_neg (by rw [hhd.out, HX.out]; simp [hwx]; omega), htk.out])
            clear hwx
            go_wp2_with fail
            go_loopw [9] (fun v wr => ∃ k : Nat, i ≤ k ∧ k ≤ i + T + 1 ∧ v = .int .i64 k ∧ wr.heap[w.heap.size]? = some (.cells #[.int .i64 0, .string ⟨#[]⟩, .int .i64 0, .int .i64 0] 55 (0, 0)) ∧ wr.heap[w.heap.size + 1]? = some (.cells #[.int .i64 2, .string ⟨#[]⟩, .int .i64 (valN ((c :: r).take (k - i))), .int .i64 i] 55 (0, 0)) ∧ Below w.heap.size w wr) (fun v _ => l.length + 1 - (intOf v).toNat)
            case atStart => exact ⟨i, Nat.le_refl _, by omega, rfl, by rw [Nat.sub_self]; exact num_start w i⟩
            case round =>
              obtain ⟨k, hk1, hk2, rfl, hz, ht, hbw⟩ := hrel
              have HZ := Lib.hid hz
              have HTT := Lib.hid ht
              have HBW := Lib.hid hbw
              have hlt1 := lt_of_heap' ht
              by_cases hkT : k < i + T + 1
              · obtain ⟨x, hx, hxd⟩ : ∃ x, (c :: r)[k - i]? = some x ∧ digitB x = true := dig_at HT.out hall.out (by omega)
                have hx2 : l[k]? = some x := by rw [← hx, ← HD.out, List.getElem?_drop, show i + (k - i) = k by omega]
                have hb := byte_at hx2
                have hkl := (List.getElem?_eq_some_iff.1 hx2).1
                have hx48 := dig_48 hxd
                have hvb : valN ((c :: r).take (k - i)) < 10000000 := dig_val hall.out htk.out (by omega) (by omega)
                have HVS : Hid (valN ((c :: r).take (k + 1 - i)) = 10 * valN ((c :: r).take (k - i)) + (x.toNat - 48)) := Lib.hid (by rw [show k + 1 - i = (k - i) + 1 by omega]; exact dig_step hx)
                have HKT := Lib.hid hkT
                have HK2 := Lib.hid hk2
                have hw8 : IntKind.u8.wrap ((x.toNat : Int) - 48) = (x.toNat : Int) - 48 := by rw [IntKind.wrap_u8]; omega
                generalize hV : valN ((c :: r).take (k - i)) = V at *
                have c2 := cell_of_blk (o := 2) ht rfl
                have f2 := frozen_of_blk (o := 2) ht
                have h6 : (k : Int) < (i : Int) + 1 + T := by omega
                have h7 : (k : Int) < l.length := by omega
                have hwe := wrapN (k := k) (by omega)
                clear hx hxd hx2 hz ht hbw hV hkT hk2
                clear hTl hwT hwe hlt1 h7' h1 h2 hle h7
                go_wp2_with fail
                go_region
                go_wp2_with fail
                have hlt2 := HKT.out
                refine ⟨⟨k + 1, by omega, by omega, by go_num, ?_, ?_, ?_⟩, by simp [intOf]; omega⟩
                · exact (Below.heap_setCell wr ⟨w.heap.size + 1, 2, none⟩ _ w.heap.size (by simp)).trans HZ.out
                · have h8 := row_setCell (o := 2) (u := .int .i64 (10 * (V : Int) + ((x.toNat : Int) - 48))) HTT.out
                  rw [HVS.out, show ((10 * V + (x.toNat - 48) : Nat) : Int) = 10 * (V : Int) + ((x.toNat : Int) - 48) by omega]
                  exact h8
                · exact (HBW.out.setCell (by simp) _).drew
              · obtain rfl : k = i + T + 1 := by omega
                have hks : i + T + 1 - i = T + 1 := by omega
                rw [hks] at ht
                have HT5 := Lib.hid ht
                clear hz ht hbw hk1 hk2 hkT hks HTT
                have c0 := cell_of_blk (o := 0) HT5.out rfl
                have c1 := cell_of_blk (o := 1) HT5.out rfl
                have c2 := cell_of_blk (o := 2) HT5.out rfl
                have c3 := cell_of_blk (o := 3) HT5.out rfl
                have f1 := frozen_of_blk (o := 1) HT5.out
                have z0 := cell_of_blk (o := 0) HZ.out rfl
                have z1 := cell_of_blk (o := 1) HZ.out rfl
                have z2 := cell_of_blk (o := 2) HZ.out rfl
                have z3 := cell_of_blk (o := 3) HZ.out rfl
                have y0 := frozen_of_blk (o := 0) HZ.out
                have y1 := frozen_of_blk (o := 1) HZ.out
                have y2 := frozen_of_blk (o := 2) HZ.out
                have y3 := frozen_of_blk (o := 3) HZ.out
                have h6 : ¬ ((i + T + 1 : Nat) : Int) < (i : Int) + 1 + T := by omega
                go_wp2_with fail
                refine bodyPost_ret (v := .tuple #[.agg #[.int .i64 2, .string ⟨((l.drop i).take (T + 1)).toArray⟩, .int .i64 (valN ((c :: r).take (T + 1))), .int .i64 i], .int .i64 0]) (by simp [results, Tryz.results35, go_sem, *]; rw [text_slice]; congr 3; omega) rfl ?_
                refine ⟨(((((HBW.out.setCell (by simp) _).setCell (Nat.le_refl _) _).setCell (Nat.le_refl _) _).setCell (Nat.le_refl _) _).setCell (Nat.le_refl _) _), ?_⟩
                rw [HR.out, HD.out]
                exact rfl
end Go.Proofs.YtcekampdldkjlaaGreatDoor
namespace Go.Proofs.YtcekampdldkjlaaGreatDoor
open Go.RowKit
theorem lex_symR {c : UInt8} (r : List UInt8) (h1 : letterB c = false) (h2 : digitB c = false) : lexOne c r = if ([33, 60, 62] : List UInt8).contains c = true ∧ r.head? = some 61 then .ok (3, 2, 0) else if ([59, 44, 46, 58, 40, 41, 91, 93, 123, 125, 61, 60, 62] : List UInt8).contains c = true then .ok (3, 1, 0) else .error 3 := by
  have ea : ([33, 60, 62] : List UInt8).contains c = (c == 33 || preB c) := by
    rw [Bool.eq_iff_iff]; simp [preB]
  have eb : ([59, 44, 46, 58, 40, 41, 91, 93, 123, 125, 61, 60, 62] : List UInt8).contains c = (symB c || preB c) := by
    rw [Bool.eq_iff_iff]; simp [preB, symB, or_assoc]
  have es : symB c = true → preB c = false ∧ c ≠ 33 := by
    intro h
    simp only [symB, Bool.or_eq_true, beq_iff_eq] at h
    rcases h with (((((((((h | h) | h) | h) | h) | h) | h) | h) | h) | h) | h <;> (subst h; decide)
  rw [ea, eb]
  unfold lexOne
  rw [if_neg (by rw [h1]; decide), if_neg (by rw [h2]; decide)]
  by_cases hs : symB c = true
  · obtain ⟨e1, e2⟩ := es hs
    simp [hs, e1, e2]
  · by_cases hp : preB c = true
    · simp [hs, hp]
    · by_cases h33 : c = 33
      · subst h33
        simp only [Bool.not_eq_true] at hs hp
        simp [hs, hp]
      · simp only [Bool.not_eq_true] at hs hp
        simp [hs, hp, h33]
set_option maxRecDepth 20000 in
set_option maxHeartbeats 2000000 in
theorem nextS_any (l : List UInt8) (i : Nat) (c : UInt8) (r : List UInt8) (w : World) (hd : l.drop i = c :: r) (hl : l.length ≤ 20000) (hc0 : letterB c = false) (hc : digitB c = false) : Calls Tryz.prog 35 #[vs l, .int .i64 i] w (NextPost i c r w) := by
  have HC0 := Lib.hid hc0
  have HS := Lib.hid (lex_symR r hc0 hc)
  have HHD : Hid (r.head? = l[i + 1]?) := Lib.hid (by have := drop_more hd 0; simp at this; rw [← this, List.head?_drop])
  clear hc0
  have hlen := drop_len hd
  have hi1 : (i : Int) < l.length := by omega
  have hi0 : (0 : Int) ≤ i := by omega
  have hb := byte_at (drop_get hd)
  have HD := Lib.hid hd
  have HC := Lib.hid hc
  have hwi := wrapN (k := i) (by omega)
  have HLEN := Lib.hid hlen
  clear hd hc hlen
  go_enter Tryz.func35, Tryz.ntmps35
  go_wp2_with fail
  refine (letterR_any c _).mono ?_
  rintro e w' ⟨rfl, rfl⟩
  rw [HC0.out]
  go_wp2_with fail
  refine (digitR_any c _).mono ?_
  rintro e w' ⟨rfl, rfl⟩
  rw [HC.out]
  go_wp2_with fail
  refine (has_any [33, 60, 62] c _ (by simp)).mono ?_
  rintro e w' ⟨rfl, rfl⟩
  cases ha : ([33, 60, 62] : List UInt8).contains c with
  | false =>
    have HNO : Hid (¬ (([33, 60, 62] : List UInt8).contains c = true ∧ r.head? = some 61)) := Lib.hid (by rw [ha]; simp)
    clear ha
    go_wp2_with fail
    refine (has_any [59, 44, 46, 58, 40, 41, 91, 93, 123, 125, 61, 60, 62] c _ (by simp)).mono ?_
    rintro q w' ⟨rfl, rfl⟩
    cases hb2 : ([59, 44, 46, 58, 40, 41, 91, 93, 123, 125, 61, 60, 62] : List UInt8).contains c with
    | true =>
      have HR : Hid (lexOne c r = .ok (3, 1, 0)) := Lib.hid (by rw [HS.out, if_neg HNO.out, if_pos hb2])
      clear hb2
      go_wp2_with fail
      refine bodyPost_ret (v := .tuple #[.agg #[.int .i64 3, .string ⟨((l.drop i).take 1).toArray⟩, .int .i64 (0), .int .i64 i], .int .i64 0]) (by simp [results, Tryz.results35, go_sem]; rw [text_slice]; congr 3; omega) rfl ?_
      refine ⟨((Below.refl _ _).alloc (Nat.le_refl _) _).alloc (by simp) _, ?_⟩
      rw [HR.out, HD.out]
      exact rfl
    | false =>
      have HR : Hid (lexOne c r = .error 3) := Lib.hid (by rw [HS.out, if_neg HNO.out, if_neg (by rw [hb2]; decide)])
      clear hb2
      go_wp2_with fail
      refine bodyPost_ret (v := .tuple #[.agg #[.int .i64 0, .string ⟨#[]⟩, .int .i64 0, .int .i64 0], .int .i64 3]) (by simp [results, Tryz.results35, go_sem]) rfl ?_
      refine ⟨((Below.refl _ _).alloc (Nat.le_refl _) _).alloc (by simp) _, ?_⟩
      rw [HR.out]
      exact rfl
  | true =>
    by_cases hend : i + 1 < l.length
    · obtain ⟨y, hy⟩ := get_of_lt hend
      have hb2 := byte_at hy
      have h5 : ((i + 1 : Nat) : Int) < l.length := by omega
      by_cases h61 : y = 61
      · subst h61
        have HR : Hid (lexOne c r = .ok (3, 2, 0)) := Lib.hid (by rw [HS.out, if_pos ⟨ha, by rw [HHD.out, hy]⟩])
        have hwj := wrapN (k := i + 1) (by omega)
        clear ha hy
        go_wp2_with fail
        refine bodyPost_ret (v := .tuple #[.agg #[.int .i64 3, .string ⟨((l.drop i).take 2).toArray⟩, .int .i64 (0), .int .i64 i], .int .i64 0]) (by simp [results, Tryz.results35, go_sem]; rw [text_slice]; congr 3; omega) rfl ?_
        refine ⟨((Below.refl _ _).alloc (Nat.le_refl _) _).alloc (by simp) _, ?_⟩
        rw [HR.out, HD.out]
        exact rfl
      · have HNO : Hid (¬ (([33, 60, 62] : List UInt8).contains c = true ∧ r.head? = some 61)) := Lib.hid (by rw [HHD.out, hy]; simp [h61])
        have h61' : ¬ (y.toNat : Int) = 61 := fun e => h61 (UInt8.toNat_inj.1 (by have : (61 : UInt8).toNat = 61 := rfl; omega))
        clear ha hy h61
        go_wp2_with fail
        refine (has_any [59, 44, 46, 58, 40, 41, 91, 93, 123, 125, 61, 60, 62] c _ (by simp)).mono ?_
        rintro q w' ⟨rfl, rfl⟩
        cases hb2 : ([59, 44, 46, 58, 40, 41, 91, 93, 123, 125, 61, 60, 62] : List UInt8).contains c with
        | true =>
          have HR : Hid (lexOne c r = .ok (3, 1, 0)) := Lib.hid (by rw [HS.out, if_neg HNO.out, if_pos hb2])
          clear hb2
          go_wp2_with fail
          refine bodyPost_ret (v := .tuple #[.agg #[.int .i64 3, .string ⟨((l.drop i).take 1).toArray⟩, .int .i64 (0), .int .i64 i], .int .i64 0]) (by simp [results, Tryz.results35, go_sem]; rw [text_slice]; congr 3; omega) rfl ?_
          refine ⟨((Below.refl _ _).alloc (Nat.le_refl _) _).alloc (by simp) _, ?_⟩
          rw [HR.out, HD.out]
          exact rfl
        | false =>
          have HR : Hid (lexOne c r = .error 3) := Lib.hid (by rw [HS.out, if_neg HNO.out, if_neg (by rw [hb2]; decide)])
          clear hb2
          go_wp2_with fail
          refine bodyPost_ret (v := .tuple #[.agg #[.int .i64 0, .string ⟨#[]⟩, .int .i64 0, .int .i64 0], .int .i64 3]) (by simp [results, Tryz.results35, go_sem]) rfl ?_
          refine ⟨((Below.refl _ _).alloc (Nat.le_refl _) _).alloc (by simp) _, ?_⟩
          rw [HR.out]
          exact rfl
    · have HNO : Hid (¬ (([33, 60, 62] : List UInt8).contains c = true ∧ r.head? = some 61)) := Lib.hid (by rw [HHD.out, List.getElem?_eq_none (by omega)]; simp)
      have h5 : ¬ ((i + 1 : Nat) : Int) < l.length := by omega
      clear ha
      go_wp2_with fail
      refine (has_any [59, 44, 46, 58, 40, 41, 91, 93, 123, 125, 61, 60, 62] c _ (by simp)).mono ?_
      rintro q w' ⟨rfl, rfl⟩
      cases hb2 : ([59, 44, 46, 58, 40, 41, 91, 93, 123, 125, 61, 60, 62] : List UInt8).contains c with
      | true =>
        have HR : Hid (lexOne c r = .ok (3, 1, 0)) := Lib.hid (by rw [HS.out, if_neg HNO.out, if_pos hb2])
        clear hb2
        go_wp2_with fail
        refine bodyPost_ret (v := .tuple #[.agg #[.int .i64 3, .string ⟨((l.drop i).take 1).toArray⟩, .int .i64 (0), .int .i64 i], .int .i64 0]) (by simp [results, Tryz.results35, go_sem]; rw [text_slice]; congr 3; omega) rfl ?_
        refine ⟨((Below.refl _ _).alloc (Nat.le_refl _) _).alloc (by simp) _, ?_⟩
        rw [HR.out, HD.out]
        exact rfl
      | false =>
        have HR : Hid (lexOne c r = .error 3) := Lib.hid (by rw [HS.out, if_neg HNO.out, if_neg (by rw [hb2]; decide)])
        clear hb2
        go_wp2_with fail
        refine bodyPost_ret (v := .tuple #[.agg #[.int .i64 0, .string ⟨#[]⟩, .int .i64 0, .int .i64 0], .int .i64 3]) (by simp [results, Tryz.results35, go_sem]) rfl ?_
        refine ⟨((Below.refl _ _).alloc (Nat.le_refl _) _).alloc (by simp) _, ?_⟩
        rw [HR.out]
        exact rfl
theorem next_any (l : List UInt8) (i : Nat) (c : UInt8) (r : List UInt8) (w : World) (hd : l.drop i = c :: r) (hl : l.length ≤ 20000) : Calls Tryz.prog 35 #[vs l, .int .i64 i] w (NextPost i c r w) := by
  cases h1 : letterB c with
  | true => exact nextL_any l i c r w hd hl h1
  | false =>
    cases h2 : digitB c with
    | true => exact nextD_any l i c r w hd hl h1 h2
    | false => exact nextS_any l i c r w hd hl h1 h2
end Go.Proofs.YtcekampdldkjlaaGreatDoor
namespace Go.Proofs.YtcekampdldkjlaaGreatDoor
open Go.RowKit
theorem wpList_append_tokR {ops : Array Oper} {rest : List Oper} {o : Oper} {a : Act} {w : World} {Q : Exit → Act → World → Prop} (hgd : o.guard = none) (s x : Operand) (hop : o.op = Op.call { callee := Callee.builtin Builtin.append, args := #[s, x], argTypes := #[37, 37] })
    (base : Nat) (v : Value) (l : List Tok) (g0 : Nat) (t : Tok) (hs : a.eval s = v) (hx : a.eval x = .slice (some ⟨g0, 0, none⟩) 1 1) (hown : OwnLx w base v l) (hc : w.heap[g0]? = some (.cells t.cells.toArray 55 (0, 0)))
    (hlen : l.length + 1 ≤ 1000000) (hb : base ≤ w.heap.size) (h : ∀ v' w', OwnLx w' base v' (l ++ [t]) → w.grownBy w' v.ownBlock → wpList Tryz.prog ops Q rest (a.put o.dst v') w') : wpList Tryz.prog ops Q (o :: rest) a w := by
  obtain ⟨i0, hi0, hz0, hz1, hz2⟩ := info_parts info_tok
  refine wpList_append_own_at _ hgd s x _ hop base 55 i0 _ 4 40 Tryz.underlying37 hi0 hz0 hz1 hz2 rfl (by decide) v l.length _ hs hown ⟨g0, 0, none⟩ 1 1 t.cells hx rfl (fun j u hu => ?_) (by simp [Value.oneCell']) (by unfold maxLen; omega) (by omega) hb ?_
  · rw [Addr.add_lit]
    exact cell_of_blk hc (by simpa using hu)
  · intro v' w' ho hg _ _
    exact h v' w' (by unfold OwnLx; simpa using ho) hg
theorem lx_own {w : World} {base : Nat} {v : Value} {l : List Tok} (h : OwnLx w base v l) : ∀ b, v.ownBlock = some b → base ≤ b ∧ b < w.heap.size := by
  intro b hb
  rcases h.2 with ⟨hv, -⟩ | ⟨g, cap, cur, rfl, r2, r3, -⟩
  · rw [hv] at hb; simp [Value.ownBlock] at hb
  · simp [Value.ownBlock] at hb
    subst hb
    exact ⟨r2, lt_of_heap' r3⟩
set_option maxRecDepth 20000 in
set_option maxHeartbeats 2000000 in
theorem lexR_any (l : List UInt8) (w : World) (hl : l.length ≤ 5000) : Calls Tryz.prog 11 #[vs l] w (LexPost l w) := by
  have hl1 : ¬ (20000 : Int) < l.length := by omega
  have hl2 : l.length ≤ 20000 := by omega
  go_enter Tryz.func11, Tryz.ntmps11
  go_wp2_with fail
  refine (gapR_any l 0 _ (Nat.zero_le _) hl2).mono ?_
  rintro e w' ⟨rfl, m0, rfl, hg⟩
  have HG := Lib.hid hg
  clear hg
  go_wp2_with fail
  go_loopw [5, 6] (fun v5 v6 wr => ∃ (ts : List Tok) (i : Nat), i ≤ l.length ∧ ts.length ≤ i ∧ v6 = .int .i64 i ∧ OwnLx wr w.heap.size v5 ts ∧ sc l 0 = (ts ++ (sc (l.drop i) i).1, (sc (l.drop i) i).2) ∧ (i = l.length ∨ ∃ c r, l.drop i = c :: r ∧ blankB c = false ∧ c ≠ 35) ∧ Below w.heap.size w wr) (fun _ v _ => l.length - (intOf v).toNat)
  case atStart =>
    obtain ⟨h1, h2, h3, h4⟩ := HG.out
    exact ⟨[], m0, h2, Nat.zero_le _, rfl, OwnLx.nil, by rw [List.drop_zero] at h3; rw [h3]; rfl, h4, Below.refl _ _⟩
  case round =>
    obtain ⟨ts, i, hi, hts, rfl, hown, hsc, hnx, hbl⟩ := hrel
    obtain ⟨A, cap, rfl, hc1, hc2, hrd, hA⟩ := hown.form
    have HOWN := Lib.hid hown
    have HSC := Lib.hid hsc
    have HBL := Lib.hid hbl
    have HRD := Lib.hid hrd
    have HA := Lib.hid hA
    have HC1 := Lib.hid hc1
    have HC2 := Lib.hid hc2
    clear hown hsc hbl hrd hA hc1 hc2
    by_cases hlt : i < l.length
    · obtain ⟨c, r, hdr, hb1, hb2⟩ : ∃ c r, l.drop i = c :: r ∧ blankB c = false ∧ c ≠ 35 := by
        rcases hnx with h | h
        · omega
        · exact h
      have HDR := Lib.hid hdr
      have HB1 := Lib.hid hb1
      have HB2 := Lib.hid hb2
      have hlen := drop_len hdr
      have HLEN := Lib.hid hlen
      have h5 : (i : Int) < l.length := by omega
      clear hnx hdr hb1 hb2 hlen
      go_wp2_with fail
      refine (next_any l i c r _ HDR.out hl2).mono ?_
      rintro e w1 ⟨hbw, hm⟩
      have HBW := Lib.hid hbw
      have hsz := hbw.size
      clear hbw
      cases hlx : lexOne c r with
      | error er =>
        rw [hlx] at hm
        simp only at hm
        subst hm
        have her : ((er : Int) == 0) = false := by have := lexOne_err hlx; simp; omega
        have her2 : er ≠ 0 := lexOne_err hlx
        have HLX : Hid (lexF l = .error (er, (i : Int))) := Lib.hid (by
          unfold lexF
          rw [show scan l.length l 0 = sc l 0 from rfl, if_neg (by omega), HSC.out, HDR.out, sc_err _ HB1.out HB2.out hlx]
          simp only []
          rw [List.drop_of_length_le (by simp; omega)])
        clear hlx
        go_wp2_with fail
        refine bodyPost_ret (v := .tuple #[.slice none 0 0, .int .i64 er, .int .i64 i]) (by simp [results, Tryz.results11, go_sem]) rfl ?_
        refine ⟨(HBL.out.trans (HBW.out.mono HBL.out.size)).alloc (Nat.le_trans HBL.out.size hsz) _, ?_⟩
        rw [HLX.out]
      | ok x =>
        obtain ⟨k, n, v⟩ := x
        rw [hlx] at hm
        simp only at hm
        subst hm
        have HTOK := Lib.hid (sc_tok i HB1.out HB2.out hlx)
        have hn := lexOne_len hlx
        have HN := Lib.hid hn
        have HLX := Lib.hid hlx
        have h6 : ((ts.length : Int) == 5000) = false := by simp; omega
        clear hlx hn
        generalize htk : (⟨k, (c :: r).take n, v, i⟩ : Tok) = tk at *
        have HTK := Lib.hid htk
        clear htk
        have hkeep : ∀ b C t fr, wr.heap[b]? = some (.cells C t fr) → w.heap.size ≤ b → ((w1.alloc (.cells tk.cells.toArray 55)).alloc (.cells tk.cells.toArray 55)).heap[b]? = some (.cells C t fr) := fun b C t fr hb _ => old_at' (old_at' ((HBW.out.block b (lt_of_heap' hb)).trans hb))
        have HOWN3 : Hid (OwnLx ((w1.alloc (.cells tk.cells.toArray 55)).alloc (.cells tk.cells.toArray 55)) w.heap.size (.slice A ts.length cap) ts) := Lib.hid (HOWN.out.keep hkeep)
        have HB0 : Hid (((w1.alloc (.cells tk.cells.toArray 55)).alloc (.cells tk.cells.toArray 55)).heap[w1.heap.size]? = some (.cells tk.cells.toArray 55 (0, 0))) := Lib.hid (old_at' (heap_alloc_new w1 _))
        have HCELL : Hid (((w1.alloc (.cells tk.cells.toArray 55)).alloc (.cells tk.cells.toArray 55)).heap[w1.heap.size + 1]? = some (.cells tk.cells.toArray 55 (0, 0))) := Lib.hid (alloc_at' (by simp))
        have HBL3 : Hid (Below w.heap.size w ((w1.alloc (.cells tk.cells.toArray 55)).alloc (.cells tk.cells.toArray 55))) := Lib.hid ((((HBL.out.trans (HBW.out.mono HBL.out.size))).alloc (Nat.le_trans HBL.out.size hsz) _).alloc (by simp; have := HBL.out.size; omega) _)
        have HSZ : Hid (w.heap.size ≤ ((w1.alloc (.cells tk.cells.toArray 55)).alloc (.cells tk.cells.toArray 55)).heap.size) := Lib.hid HBL3.out.size
        have HOB := Lib.hid (lx_own HOWN.out)
        have HKT := Lib.hid (show tk.text.length = n by rw [← HTK.out]; simp; have := HN.out; omega)
        clear hkeep
        go_wp2_with (at_builtin; refine wpList_append_tokR rfl (.tmp 35) (.tmp 37) rfl w.heap.size (.slice A ts.length cap) ts (w1.heap.size + 1) tk rfl rfl HOWN3.out HCELL.out (by omega) HSZ.out ?_; intro v' w3 ho hg; obtain ⟨A', cap', rfl, -, -, -, -⟩ := ho.form; have HO := Lib.hid ho; have HG3 := Lib.hid hg; have hb3 : w3.heap[w1.heap.size]? = some (.cells tk.cells.toArray 55 (0, 0)) := (hg.block _ (lt_of_heap' HB0.out) (fun e => by have := (HOB.out _ e.symm).2; omega)).trans HB0.out; have HB3 := Lib.hid hb3; have c1 : w3.cell? ⟨w1.heap.size, 1, none⟩ = some (vs tk.text) := cell_of_blk hb3 rfl; clear ho hg hb3)
        have hin : i + n ≤ l.length := by have := HN.out; have := HLEN.out; omega
        rw [show wrap64 ((i : Int) + tk.text.length) = ((i + n : Nat) : Int) by rw [HKT.out]; unfold wrap64; omega]
        refine (gapR_any l (i + n) _ hin hl2).mono ?_
        rintro e w' ⟨rfl, m, rfl, hgt⟩
        have HGT := Lib.hid hgt
        clear hgt
        go_wp2_with fail
        obtain ⟨h1, h2, h3, h4⟩ := HGT.out
        have hn1 := HN.out.1
        refine ⟨⟨ts ++ [tk], m, h2, by simp; omega, rfl, by simpa using HO.out, ?_, h4, ?_⟩, by simp [intOf]; omega⟩
        · rw [HSC.out, HDR.out, HTOK.out]
          have e1 : r.drop (n - 1) = l.drop (i + n) := by rw [← drop_more HDR.out, show i + 1 + (n - 1) = i + n by omega]
          rw [e1, h3]
          simp
        · exact HBL3.out.grown HG3.out HBL3.out.size (fun k e => (HOB.out k e).1)
    · obtain rfl : i = l.length := by omega
      have HLX : Hid (lexF l = .ok ts) := Lib.hid (lexF_mk (by rw [HSC.out, List.drop_length]; simp [sc_nil]) (by omega) hl2)
      have h5 : ¬ ((l.length : Nat) : Int) < l.length := by omega
      clear hnx
      go_wp2_with fail
      refine bodyPost_ret (v := .tuple #[.slice A ts.length cap, .int .i64 0, .int .i64 0]) (by simp [results, Tryz.results11, go_sem]) rfl ?_
      refine ⟨HBL.out, ?_⟩
      rw [HLX.out]
      exact ⟨A, cap, rfl, HRD.out, HA.out, HC1.out, Nat.le_trans HC2.out (by decide)⟩
end Go.Proofs.YtcekampdldkjlaaGreatDoor
