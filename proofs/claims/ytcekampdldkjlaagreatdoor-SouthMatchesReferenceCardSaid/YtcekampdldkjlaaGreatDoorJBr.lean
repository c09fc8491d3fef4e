/- The reference's reader: begins. The reference's reader: braces. -/
import Derived.Test.YtcekampdldkjlaaGreatDoorJItem
set_option linter.unusedVariables false
set_option linter.unusedSimpArgs false
namespace Go.Proofs.YtcekampdldkjlaaGreatDoor
open Go.RowKit
set_option maxRecDepth 20000 in
set_option maxHeartbeats 1000000 in
theorem rbeg_1 (b : Bool) (p fin : Nat) (ts : List Tok) (s : Rs) (w : World) (hp : RR w p fin ts s) (h1 : namedA ts s = true) :
    Calls Tryz.prog 37 #[.pointer (some ⟨p, 0, none⟩), .bool b] w fun r w' => r = .returned (.bool (beginsA ts s b)) ∧ Below w.heap.size w w' := by
  have HP0 := Lib.hid hp
  have HB0 : Hid (Below w.heap.size w w) := Lib.hid (Below.refl _ _)
  have HV : Hid (beginsA ts s b = true) := Lib.hid (by simp [beginsA, h1])
  have H1 := Lib.hid h1
  clear h1
  clear hp
  go_enter Tryz.func37, Tryz.ntmps37
  go_wp2_with fail
  refine (named_any p fin ts s _ HP0.out).mono ?_
  rintro r w1 ⟨rfl, hb⟩
  rw [H1.out]
  have HP1 := Lib.hid (HP0.out.below hb)
  have HB1 : Hid (Below w.heap.size w w1) := Lib.hid (HB0.out.trans (hb.mono HB0.out.size))
  clear hb
  go_wp2_with fail
  go_ret
  exact ⟨by rw [HV.out]; rfl, HB1.out⟩
set_option maxRecDepth 20000 in
set_option maxHeartbeats 1000000 in
theorem rbeg_2 (b : Bool) (p fin : Nat) (ts : List Tok) (s : Rs) (w : World) (hp : RR w p fin ts s) (h1 : namedA ts s = false) (h2 : seesA ts s [97, 108, 108] = true) :
    Calls Tryz.prog 37 #[.pointer (some ⟨p, 0, none⟩), .bool b] w fun r w' => r = .returned (.bool (beginsA ts s b)) ∧ Below w.heap.size w w' := by
  have HP0 := Lib.hid hp
  have HB0 : Hid (Below w.heap.size w w) := Lib.hid (Below.refl _ _)
  have HV : Hid (beginsA ts s b = true) := Lib.hid (by simp [beginsA, h1, h2])
  have H1 := Lib.hid h1
  have H2 := Lib.hid h2
  clear h1 h2
  clear hp
  go_enter Tryz.func37, Tryz.ntmps37
  go_wp2_with fail
  refine (named_any p fin ts s _ HP0.out).mono ?_
  rintro r w1 ⟨rfl, hb⟩
  rw [H1.out]
  have HP1 := Lib.hid (HP0.out.below hb)
  have HB1 : Hid (Below w.heap.size w w1) := Lib.hid (HB0.out.trans (hb.mono HB0.out.size))
  clear hb
  go_wp2_with fail
  refine (rsees_any [97, 108, 108] p fin ts s _ HP1.out).mono ?_
  rintro r w2 ⟨rfl, hb⟩
  rw [H2.out]
  have HP2 := Lib.hid (HP1.out.below hb)
  have HB2 : Hid (Below w.heap.size w w2) := Lib.hid (HB1.out.trans (hb.mono HB1.out.size))
  clear hb
  go_wp2_with fail
  go_ret
  exact ⟨by rw [HV.out]; rfl, HB2.out⟩
set_option maxRecDepth 20000 in
set_option maxHeartbeats 1000000 in
theorem rbeg_3 (b : Bool) (p fin : Nat) (ts : List Tok) (s : Rs) (w : World) (hp : RR w p fin ts s) (h1 : namedA ts s = false) (h2 : seesA ts s [97, 108, 108] = false) (h3 : seesA ts s [97, 110, 121] = true) :
    Calls Tryz.prog 37 #[.pointer (some ⟨p, 0, none⟩), .bool b] w fun r w' => r = .returned (.bool (beginsA ts s b)) ∧ Below w.heap.size w w' := by
  have HP0 := Lib.hid hp
  have HB0 : Hid (Below w.heap.size w w) := Lib.hid (Below.refl _ _)
  have HV : Hid (beginsA ts s b = true) := Lib.hid (by simp [beginsA, h1, h2, h3])
  have H1 := Lib.hid h1
  have H2 := Lib.hid h2
  have H3 := Lib.hid h3
  clear h1 h2 h3
  clear hp
  go_enter Tryz.func37, Tryz.ntmps37
  go_wp2_with fail
  refine (named_any p fin ts s _ HP0.out).mono ?_
  rintro r w1 ⟨rfl, hb⟩
  rw [H1.out]
  have HP1 := Lib.hid (HP0.out.below hb)
  have HB1 : Hid (Below w.heap.size w w1) := Lib.hid (HB0.out.trans (hb.mono HB0.out.size))
  clear hb
  go_wp2_with fail
  refine (rsees_any [97, 108, 108] p fin ts s _ HP1.out).mono ?_
  rintro r w2 ⟨rfl, hb⟩
  rw [H2.out]
  have HP2 := Lib.hid (HP1.out.below hb)
  have HB2 : Hid (Below w.heap.size w w2) := Lib.hid (HB1.out.trans (hb.mono HB1.out.size))
  clear hb
  go_wp2_with fail
  refine (rsees_any [97, 110, 121] p fin ts s _ HP2.out).mono ?_
  rintro r w3 ⟨rfl, hb⟩
  rw [H3.out]
  have HP3 := Lib.hid (HP2.out.below hb)
  have HB3 : Hid (Below w.heap.size w w3) := Lib.hid (HB2.out.trans (hb.mono HB2.out.size))
  clear hb
  go_wp2_with fail
  go_ret
  exact ⟨by rw [HV.out]; rfl, HB3.out⟩
set_option maxRecDepth 20000 in
set_option maxHeartbeats 1000000 in
theorem rbeg_f0 (p fin : Nat) (ts : List Tok) (s : Rs) (w : World) (hp : RR w p fin ts s) (h1 : namedA ts s = false) (h2 : seesA ts s [97, 108, 108] = false) (h3 : seesA ts s [97, 110, 121] = false) (h7 : seesA ts s [121, 101, 115] = true) :
    Calls Tryz.prog 37 #[.pointer (some ⟨p, 0, none⟩), .bool false] w fun r w' => r = .returned (.bool (beginsA ts s false)) ∧ Below w.heap.size w w' := by
  have HP0 := Lib.hid hp
  have HB0 : Hid (Below w.heap.size w w) := Lib.hid (Below.refl _ _)
  have HV : Hid (beginsA ts s false = true) := Lib.hid (by simp [beginsA, h1, h2, h3, h7])
  have H1 := Lib.hid h1
  have H2 := Lib.hid h2
  have H3 := Lib.hid h3
  have H7 := Lib.hid h7
  clear h1 h2 h3 h7
  clear hp
  go_enter Tryz.func37, Tryz.ntmps37
  go_wp2_with fail
  refine (named_any p fin ts s _ HP0.out).mono ?_
  rintro r w1 ⟨rfl, hb⟩
  rw [H1.out]
  have HP1 := Lib.hid (HP0.out.below hb)
  have HB1 : Hid (Below w.heap.size w w1) := Lib.hid (HB0.out.trans (hb.mono HB0.out.size))
  clear hb
  go_wp2_with fail
  refine (rsees_any [97, 108, 108] p fin ts s _ HP1.out).mono ?_
  rintro r w2 ⟨rfl, hb⟩
  rw [H2.out]
  have HP2 := Lib.hid (HP1.out.below hb)
  have HB2 : Hid (Below w.heap.size w w2) := Lib.hid (HB1.out.trans (hb.mono HB1.out.size))
  clear hb
  go_wp2_with fail
  refine (rsees_any [97, 110, 121] p fin ts s _ HP2.out).mono ?_
  rintro r w3 ⟨rfl, hb⟩
  rw [H3.out]
  have HP3 := Lib.hid (HP2.out.below hb)
  have HB3 : Hid (Below w.heap.size w w3) := Lib.hid (HB2.out.trans (hb.mono HB2.out.size))
  clear hb
  go_wp2_with fail
  refine (rsees_any [121, 101, 115] p fin ts s _ HP3.out).mono ?_
  rintro r w4 ⟨rfl, hb⟩
  rw [H7.out]
  have HP4 := Lib.hid (HP3.out.below hb)
  have HB4 : Hid (Below w.heap.size w w4) := Lib.hid (HB3.out.trans (hb.mono HB3.out.size))
  clear hb
  go_wp2_with fail
  go_ret
  exact ⟨by rw [HV.out]; rfl, HB4.out⟩
set_option maxRecDepth 20000 in
set_option maxHeartbeats 1000000 in
theorem rbeg_f1 (p fin : Nat) (ts : List Tok) (s : Rs) (w : World) (hp : RR w p fin ts s) (h1 : namedA ts s = false) (h2 : seesA ts s [97, 108, 108] = false) (h3 : seesA ts s [97, 110, 121] = false) (h7 : seesA ts s [121, 101, 115] = false) (h8 : seesA ts s [110, 111] = true) :
    Calls Tryz.prog 37 #[.pointer (some ⟨p, 0, none⟩), .bool false] w fun r w' => r = .returned (.bool (beginsA ts s false)) ∧ Below w.heap.size w w' := by
  have HP0 := Lib.hid hp
  have HB0 : Hid (Below w.heap.size w w) := Lib.hid (Below.refl _ _)
  have HV : Hid (beginsA ts s false = true) := Lib.hid (by simp [beginsA, h1, h2, h3, h7, h8])
  have H1 := Lib.hid h1
  have H2 := Lib.hid h2
  have H3 := Lib.hid h3
  have H7 := Lib.hid h7
  have H8 := Lib.hid h8
  clear h1 h2 h3 h7 h8
  clear hp
  go_enter Tryz.func37, Tryz.ntmps37
  go_wp2_with fail
  refine (named_any p fin ts s _ HP0.out).mono ?_
  rintro r w1 ⟨rfl, hb⟩
  rw [H1.out]
  have HP1 := Lib.hid (HP0.out.below hb)
  have HB1 : Hid (Below w.heap.size w w1) := Lib.hid (HB0.out.trans (hb.mono HB0.out.size))
  clear hb
  go_wp2_with fail
  refine (rsees_any [97, 108, 108] p fin ts s _ HP1.out).mono ?_
  rintro r w2 ⟨rfl, hb⟩
  rw [H2.out]
  have HP2 := Lib.hid (HP1.out.below hb)
  have HB2 : Hid (Below w.heap.size w w2) := Lib.hid (HB1.out.trans (hb.mono HB1.out.size))
  clear hb
  go_wp2_with fail
  refine (rsees_any [97, 110, 121] p fin ts s _ HP2.out).mono ?_
  rintro r w3 ⟨rfl, hb⟩
  rw [H3.out]
  have HP3 := Lib.hid (HP2.out.below hb)
  have HB3 : Hid (Below w.heap.size w w3) := Lib.hid (HB2.out.trans (hb.mono HB2.out.size))
  clear hb
  go_wp2_with fail
  refine (rsees_any [121, 101, 115] p fin ts s _ HP3.out).mono ?_
  rintro r w4 ⟨rfl, hb⟩
  rw [H7.out]
  have HP4 := Lib.hid (HP3.out.below hb)
  have HB4 : Hid (Below w.heap.size w w4) := Lib.hid (HB3.out.trans (hb.mono HB3.out.size))
  clear hb
  go_wp2_with fail
  refine (rsees_any [110, 111] p fin ts s _ HP4.out).mono ?_
  rintro r w5 ⟨rfl, hb⟩
  rw [H8.out]
  have HP5 := Lib.hid (HP4.out.below hb)
  have HB5 : Hid (Below w.heap.size w w5) := Lib.hid (HB4.out.trans (hb.mono HB4.out.size))
  clear hb
  go_wp2_with fail
  go_ret
  exact ⟨by rw [HV.out]; rfl, HB5.out⟩
set_option maxRecDepth 20000 in
set_option maxHeartbeats 1000000 in
theorem rbeg_f2 (p fin : Nat) (ts : List Tok) (s : Rs) (w : World) (hp : RR w p fin ts s) (h1 : namedA ts s = false) (h2 : seesA ts s [97, 108, 108] = false) (h3 : seesA ts s [97, 110, 121] = false) (h7 : seesA ts s [121, 101, 115] = false) (h8 : seesA ts s [110, 111] = false) (h9 : seesA ts s [110, 101, 103, 97, 116, 101, 100] = true) :
    Calls Tryz.prog 37 #[.pointer (some ⟨p, 0, none⟩), .bool false] w fun r w' => r = .returned (.bool (beginsA ts s false)) ∧ Below w.heap.size w w' := by
  have HP0 := Lib.hid hp
  have HB0 : Hid (Below w.heap.size w w) := Lib.hid (Below.refl _ _)
  have HV : Hid (beginsA ts s false = true) := Lib.hid (by simp [beginsA, h1, h2, h3, h7, h8, h9])
  have H1 := Lib.hid h1
  have H2 := Lib.hid h2
  have H3 := Lib.hid h3
  have H7 := Lib.hid h7
  have H8 := Lib.hid h8
  have H9 := Lib.hid h9
  clear h1 h2 h3 h7 h8 h9
  clear hp
  go_enter Tryz.func37, Tryz.ntmps37
  go_wp2_with fail
  refine (named_any p fin ts s _ HP0.out).mono ?_
  rintro r w1 ⟨rfl, hb⟩
  rw [H1.out]
  have HP1 := Lib.hid (HP0.out.below hb)
  have HB1 : Hid (Below w.heap.size w w1) := Lib.hid (HB0.out.trans (hb.mono HB0.out.size))
  clear hb
  go_wp2_with fail
  refine (rsees_any [97, 108, 108] p fin ts s _ HP1.out).mono ?_
  rintro r w2 ⟨rfl, hb⟩
  rw [H2.out]
  have HP2 := Lib.hid (HP1.out.below hb)
  have HB2 : Hid (Below w.heap.size w w2) := Lib.hid (HB1.out.trans (hb.mono HB1.out.size))
  clear hb
  go_wp2_with fail
  refine (rsees_any [97, 110, 121] p fin ts s _ HP2.out).mono ?_
  rintro r w3 ⟨rfl, hb⟩
  rw [H3.out]
  have HP3 := Lib.hid (HP2.out.below hb)
  have HB3 : Hid (Below w.heap.size w w3) := Lib.hid (HB2.out.trans (hb.mono HB2.out.size))
  clear hb
  go_wp2_with fail
  refine (rsees_any [121, 101, 115] p fin ts s _ HP3.out).mono ?_
  rintro r w4 ⟨rfl, hb⟩
  rw [H7.out]
  have HP4 := Lib.hid (HP3.out.below hb)
  have HB4 : Hid (Below w.heap.size w w4) := Lib.hid (HB3.out.trans (hb.mono HB3.out.size))
  clear hb
  go_wp2_with fail
  refine (rsees_any [110, 111] p fin ts s _ HP4.out).mono ?_
  rintro r w5 ⟨rfl, hb⟩
  rw [H8.out]
  have HP5 := Lib.hid (HP4.out.below hb)
  have HB5 : Hid (Below w.heap.size w w5) := Lib.hid (HB4.out.trans (hb.mono HB4.out.size))
  clear hb
  go_wp2_with fail
  refine (rsees_any [110, 101, 103, 97, 116, 101, 100] p fin ts s _ HP5.out).mono ?_
  rintro r w6 ⟨rfl, hb⟩
  rw [H9.out]
  have HP6 := Lib.hid (HP5.out.below hb)
  have HB6 : Hid (Below w.heap.size w w6) := Lib.hid (HB5.out.trans (hb.mono HB5.out.size))
  clear hb
  go_wp2_with fail
  go_ret
  exact ⟨by rw [HV.out]; rfl, HB6.out⟩
set_option maxRecDepth 20000 in
set_option maxHeartbeats 1000000 in
theorem rbeg_f3 (p fin : Nat) (ts : List Tok) (s : Rs) (w : World) (hp : RR w p fin ts s) (h1 : namedA ts s = false) (h2 : seesA ts s [97, 108, 108] = false) (h3 : seesA ts s [97, 110, 121] = false) (h7 : seesA ts s [121, 101, 115] = false) (h8 : seesA ts s [110, 111] = false) (h9 : seesA ts s [110, 101, 103, 97, 116, 101, 100] = false) :
    Calls Tryz.prog 37 #[.pointer (some ⟨p, 0, none⟩), .bool false] w fun r w' => r = .returned (.bool (beginsA ts s false)) ∧ Below w.heap.size w w' := by
  have HP0 := Lib.hid hp
  have HB0 : Hid (Below w.heap.size w w) := Lib.hid (Below.refl _ _)
  have HV : Hid (beginsA ts s false = false) := Lib.hid (by simp [beginsA, h1, h2, h3, h7, h8, h9])
  have H1 := Lib.hid h1
  have H2 := Lib.hid h2
  have H3 := Lib.hid h3
  have H7 := Lib.hid h7
  have H8 := Lib.hid h8
  have H9 := Lib.hid h9
  clear h1 h2 h3 h7 h8 h9
  clear hp
  go_enter Tryz.func37, Tryz.ntmps37
  go_wp2_with fail
  refine (named_any p fin ts s _ HP0.out).mono ?_
  rintro r w1 ⟨rfl, hb⟩
  rw [H1.out]
  have HP1 := Lib.hid (HP0.out.below hb)
  have HB1 : Hid (Below w.heap.size w w1) := Lib.hid (HB0.out.trans (hb.mono HB0.out.size))
  clear hb
  go_wp2_with fail
  refine (rsees_any [97, 108, 108] p fin ts s _ HP1.out).mono ?_
  rintro r w2 ⟨rfl, hb⟩
  rw [H2.out]
  have HP2 := Lib.hid (HP1.out.below hb)
  have HB2 : Hid (Below w.heap.size w w2) := Lib.hid (HB1.out.trans (hb.mono HB1.out.size))
  clear hb
  go_wp2_with fail
  refine (rsees_any [97, 110, 121] p fin ts s _ HP2.out).mono ?_
  rintro r w3 ⟨rfl, hb⟩
  rw [H3.out]
  have HP3 := Lib.hid (HP2.out.below hb)
  have HB3 : Hid (Below w.heap.size w w3) := Lib.hid (HB2.out.trans (hb.mono HB2.out.size))
  clear hb
  go_wp2_with fail
  refine (rsees_any [121, 101, 115] p fin ts s _ HP3.out).mono ?_
  rintro r w4 ⟨rfl, hb⟩
  rw [H7.out]
  have HP4 := Lib.hid (HP3.out.below hb)
  have HB4 : Hid (Below w.heap.size w w4) := Lib.hid (HB3.out.trans (hb.mono HB3.out.size))
  clear hb
  go_wp2_with fail
  refine (rsees_any [110, 111] p fin ts s _ HP4.out).mono ?_
  rintro r w5 ⟨rfl, hb⟩
  rw [H8.out]
  have HP5 := Lib.hid (HP4.out.below hb)
  have HB5 : Hid (Below w.heap.size w w5) := Lib.hid (HB4.out.trans (hb.mono HB4.out.size))
  clear hb
  go_wp2_with fail
  refine (rsees_any [110, 101, 103, 97, 116, 101, 100] p fin ts s _ HP5.out).mono ?_
  rintro r w6 ⟨rfl, hb⟩
  rw [H9.out]
  have HP6 := Lib.hid (HP5.out.below hb)
  have HB6 : Hid (Below w.heap.size w w6) := Lib.hid (HB5.out.trans (hb.mono HB5.out.size))
  clear hb
  go_wp2_with fail
  go_ret
  exact ⟨by rw [HV.out]; rfl, HB6.out⟩
set_option maxRecDepth 20000 in
set_option maxHeartbeats 1000000 in
theorem rbeg_s0 (p fin : Nat) (ts : List Tok) (s : Rs) (w : World) (hp : RR w p fin ts s) (h1 : namedA ts s = false) (h2 : seesA ts s [97, 108, 108] = false) (h3 : seesA ts s [97, 110, 121] = false) (h4 : seesA ts s [97, 108, 119, 97, 121, 115] = true) :
    Calls Tryz.prog 37 #[.pointer (some ⟨p, 0, none⟩), .bool true] w fun r w' => r = .returned (.bool (beginsA ts s true)) ∧ Below w.heap.size w w' := by
  have HP0 := Lib.hid hp
  have HB0 : Hid (Below w.heap.size w w) := Lib.hid (Below.refl _ _)
  have HV : Hid (beginsA ts s true = true) := Lib.hid (by simp [beginsA, h1, h2, h3, h4])
  have H1 := Lib.hid h1
  have H2 := Lib.hid h2
  have H3 := Lib.hid h3
  have H4 := Lib.hid h4
  clear h1 h2 h3 h4
  clear hp
  go_enter Tryz.func37, Tryz.ntmps37
  go_wp2_with fail
  refine (named_any p fin ts s _ HP0.out).mono ?_
  rintro r w1 ⟨rfl, hb⟩
  rw [H1.out]
  have HP1 := Lib.hid (HP0.out.below hb)
  have HB1 : Hid (Below w.heap.size w w1) := Lib.hid (HB0.out.trans (hb.mono HB0.out.size))
  clear hb
  go_wp2_with fail
  refine (rsees_any [97, 108, 108] p fin ts s _ HP1.out).mono ?_
  rintro r w2 ⟨rfl, hb⟩
  rw [H2.out]
  have HP2 := Lib.hid (HP1.out.below hb)
  have HB2 : Hid (Below w.heap.size w w2) := Lib.hid (HB1.out.trans (hb.mono HB1.out.size))
  clear hb
  go_wp2_with fail
  refine (rsees_any [97, 110, 121] p fin ts s _ HP2.out).mono ?_
  rintro r w3 ⟨rfl, hb⟩
  rw [H3.out]
  have HP3 := Lib.hid (HP2.out.below hb)
  have HB3 : Hid (Below w.heap.size w w3) := Lib.hid (HB2.out.trans (hb.mono HB2.out.size))
  clear hb
  obtain ⟨A, c, hh, hr, hnn, hc1⟩ := HP3.out.is
  have hle := HP3.out.le
  have c0 := cell_of_blk (o := 0) hh rfl
  have c1 := cell_of_blk (o := 1) hh rfl
  have c3 := cell_of_blk (o := 3) hh rfl
  have hlt := lt_of_heap' hh
  clear hh hr hnn hc1
  have HC4 : Hid (∀ y, Calls Tryz.prog 36 #[.pointer (some ⟨p, 0, none⟩), vs [97, 108, 119, 97, 121, 115]] (World.grew w3 y) fun e w' => e = .returned (.bool (seesA ts s [97, 108, 119, 97, 121, 115])) ∧ Below (World.grew w3 y).heap.size (World.grew w3 y) w') := Lib.hid (fun y => rsees_any [97, 108, 119, 97, 121, 115] p fin ts s _ (HP3.out.below (grew_below w3 y)))
  have HC5 : Hid (∀ y, Calls Tryz.prog 36 #[.pointer (some ⟨p, 0, none⟩), vs [110, 101, 118, 101, 114]] (World.grew w3 y) fun e w' => e = .returned (.bool (seesA ts s [110, 101, 118, 101, 114])) ∧ Below (World.grew w3 y).heap.size (World.grew w3 y) w') := Lib.hid (fun y => rsees_any [110, 101, 118, 101, 114] p fin ts s _ (HP3.out.below (grew_below w3 y)))
  rw [H4.out] at HC4
  skip
  go_wp2_with fail
  refine wp_region_grew (by kernel_rfl) (by as_aux_lemma => kernel_rfl) ?_
  repeat (go_big_quiet_step ((first | (with_reducible exact Calls_grew (HC4.out _)) | (with_reducible exact Calls_grew (HC5.out _)))))
  refine wpQuiet_nil ?_
  rintro _ ⟨y, rfl⟩
  go_wp2_with fail
  go_ret
  exact ⟨by rw [HV.out]; rfl, HB3.out.trans ((grew_below w3 y).mono HB3.out.size)⟩
set_option maxRecDepth 20000 in
set_option maxHeartbeats 1000000 in
theorem rbeg_s1 (p fin : Nat) (ts : List Tok) (s : Rs) (w : World) (hp : RR w p fin ts s) (h1 : namedA ts s = false) (h2 : seesA ts s [97, 108, 108] = false) (h3 : seesA ts s [97, 110, 121] = false) (h4 : seesA ts s [97, 108, 119, 97, 121, 115] = false) (h5 : seesA ts s [110, 101, 118, 101, 114] = true) :
    Calls Tryz.prog 37 #[.pointer (some ⟨p, 0, none⟩), .bool true] w fun r w' => r = .returned (.bool (beginsA ts s true)) ∧ Below w.heap.size w w' := by
  have HP0 := Lib.hid hp
  have HB0 : Hid (Below w.heap.size w w) := Lib.hid (Below.refl _ _)
  have HV : Hid (beginsA ts s true = true) := Lib.hid (by simp [beginsA, h1, h2, h3, h4, h5])
  have H1 := Lib.hid h1
  have H2 := Lib.hid h2
  have H3 := Lib.hid h3
  have H4 := Lib.hid h4
  have H5 := Lib.hid h5
  clear h1 h2 h3 h4 h5
  clear hp
  go_enter Tryz.func37, Tryz.ntmps37
  go_wp2_with fail
  refine (named_any p fin ts s _ HP0.out).mono ?_
  rintro r w1 ⟨rfl, hb⟩
  rw [H1.out]
  have HP1 := Lib.hid (HP0.out.below hb)
  have HB1 : Hid (Below w.heap.size w w1) := Lib.hid (HB0.out.trans (hb.mono HB0.out.size))
  clear hb
  go_wp2_with fail
  refine (rsees_any [97, 108, 108] p fin ts s _ HP1.out).mono ?_
  rintro r w2 ⟨rfl, hb⟩
  rw [H2.out]
  have HP2 := Lib.hid (HP1.out.below hb)
  have HB2 : Hid (Below w.heap.size w w2) := Lib.hid (HB1.out.trans (hb.mono HB1.out.size))
  clear hb
  go_wp2_with fail
  refine (rsees_any [97, 110, 121] p fin ts s _ HP2.out).mono ?_
  rintro r w3 ⟨rfl, hb⟩
  rw [H3.out]
  have HP3 := Lib.hid (HP2.out.below hb)
  have HB3 : Hid (Below w.heap.size w w3) := Lib.hid (HB2.out.trans (hb.mono HB2.out.size))
  clear hb
  obtain ⟨A, c, hh, hr, hnn, hc1⟩ := HP3.out.is
  have hle := HP3.out.le
  have c0 := cell_of_blk (o := 0) hh rfl
  have c1 := cell_of_blk (o := 1) hh rfl
  have c3 := cell_of_blk (o := 3) hh rfl
  have hlt := lt_of_heap' hh
  clear hh hr hnn hc1
  have HC4 : Hid (∀ y, Calls Tryz.prog 36 #[.pointer (some ⟨p, 0, none⟩), vs [97, 108, 119, 97, 121, 115]] (World.grew w3 y) fun e w' => e = .returned (.bool (seesA ts s [97, 108, 119, 97, 121, 115])) ∧ Below (World.grew w3 y).heap.size (World.grew w3 y) w') := Lib.hid (fun y => rsees_any [97, 108, 119, 97, 121, 115] p fin ts s _ (HP3.out.below (grew_below w3 y)))
  have HC5 : Hid (∀ y, Calls Tryz.prog 36 #[.pointer (some ⟨p, 0, none⟩), vs [110, 101, 118, 101, 114]] (World.grew w3 y) fun e w' => e = .returned (.bool (seesA ts s [110, 101, 118, 101, 114])) ∧ Below (World.grew w3 y).heap.size (World.grew w3 y) w') := Lib.hid (fun y => rsees_any [110, 101, 118, 101, 114] p fin ts s _ (HP3.out.below (grew_below w3 y)))
  rw [H4.out] at HC4
  rw [H5.out] at HC5
  go_wp2_with fail
  refine wp_region_grew (by kernel_rfl) (by as_aux_lemma => kernel_rfl) ?_
  repeat (go_big_quiet_step ((first | (with_reducible exact Calls_grew (HC4.out _)) | (with_reducible exact Calls_grew (HC5.out _)))))
  refine wpQuiet_nil ?_
  rintro _ ⟨y, rfl⟩
  go_wp2_with fail
  go_ret
  exact ⟨by rw [HV.out]; rfl, HB3.out.trans ((grew_below w3 y).mono HB3.out.size)⟩
set_option maxRecDepth 20000 in
set_option maxHeartbeats 1000000 in
theorem rbeg_s2 (p fin : Nat) (ts : List Tok) (s : Rs) (w : World) (hp : RR w p fin ts s) (h1 : namedA ts s = false) (h2 : seesA ts s [97, 108, 108] = false) (h3 : seesA ts s [97, 110, 121] = false) (h4 : seesA ts s [97, 108, 119, 97, 121, 115] = false) (h5 : seesA ts s [110, 101, 118, 101, 114] = false) (h6 : isNumA ts s = false) (h7 : s.e ≠ 0) :
    Calls Tryz.prog 37 #[.pointer (some ⟨p, 0, none⟩), .bool true] w fun r w' => r = .returned (.bool (beginsA ts s true)) ∧ Below w.heap.size w w' := by
  have HP0 := Lib.hid hp
  have HB0 : Hid (Below w.heap.size w w) := Lib.hid (Below.refl _ _)
  have HV : Hid (beginsA ts s true = false) := Lib.hid (by simp [beginsA, h1, h2, h3, h4, h5, h6])
  have H1 := Lib.hid h1
  have H2 := Lib.hid h2
  have H3 := Lib.hid h3
  have H4 := Lib.hid h4
  have H5 := Lib.hid h5
  have H6 := Lib.hid h6
  have H7 := Lib.hid h7
  clear h7
  clear h1 h2 h3 h4 h5 h6
  clear hp
  go_enter Tryz.func37, Tryz.ntmps37
  go_wp2_with fail
  refine (named_any p fin ts s _ HP0.out).mono ?_
  rintro r w1 ⟨rfl, hb⟩
  rw [H1.out]
  have HP1 := Lib.hid (HP0.out.below hb)
  have HB1 : Hid (Below w.heap.size w w1) := Lib.hid (HB0.out.trans (hb.mono HB0.out.size))
  clear hb
  go_wp2_with fail
  refine (rsees_any [97, 108, 108] p fin ts s _ HP1.out).mono ?_
  rintro r w2 ⟨rfl, hb⟩
  rw [H2.out]
  have HP2 := Lib.hid (HP1.out.below hb)
  have HB2 : Hid (Below w.heap.size w w2) := Lib.hid (HB1.out.trans (hb.mono HB1.out.size))
  clear hb
  go_wp2_with fail
  refine (rsees_any [97, 110, 121] p fin ts s _ HP2.out).mono ?_
  rintro r w3 ⟨rfl, hb⟩
  rw [H3.out]
  have HP3 := Lib.hid (HP2.out.below hb)
  have HB3 : Hid (Below w.heap.size w w3) := Lib.hid (HB2.out.trans (hb.mono HB2.out.size))
  clear hb
  obtain ⟨A, c, hh, hr, hnn, hc1⟩ := HP3.out.is
  have hle := HP3.out.le
  have c0 := cell_of_blk (o := 0) hh rfl
  have c1 := cell_of_blk (o := 1) hh rfl
  have c3 := cell_of_blk (o := 3) hh rfl
  have hlt := lt_of_heap' hh
  have h0' : ((s.e : Int) == 0) = false := by have := H7.out; simp; omega
  clear hh hr hnn hc1
  have HC4 : Hid (∀ y, Calls Tryz.prog 36 #[.pointer (some ⟨p, 0, none⟩), vs [97, 108, 119, 97, 121, 115]] (World.grew w3 y) fun e w' => e = .returned (.bool (seesA ts s [97, 108, 119, 97, 121, 115])) ∧ Below (World.grew w3 y).heap.size (World.grew w3 y) w') := Lib.hid (fun y => rsees_any [97, 108, 119, 97, 121, 115] p fin ts s _ (HP3.out.below (grew_below w3 y)))
  have HC5 : Hid (∀ y, Calls Tryz.prog 36 #[.pointer (some ⟨p, 0, none⟩), vs [110, 101, 118, 101, 114]] (World.grew w3 y) fun e w' => e = .returned (.bool (seesA ts s [110, 101, 118, 101, 114])) ∧ Below (World.grew w3 y).heap.size (World.grew w3 y) w') := Lib.hid (fun y => rsees_any [110, 101, 118, 101, 114] p fin ts s _ (HP3.out.below (grew_below w3 y)))
  rw [H4.out] at HC4
  rw [H5.out] at HC5
  go_wp2_with fail
  refine wp_region_grew (by kernel_rfl) (by as_aux_lemma => kernel_rfl) ?_
  repeat (go_big_quiet_step ((first | (with_reducible exact Calls_grew (HC4.out _)) | (with_reducible exact Calls_grew (HC5.out _)))))
  refine wpQuiet_nil ?_
  rintro _ ⟨y, rfl⟩
  go_wp2_with fail
  go_ret
  exact ⟨by rw [HV.out]; rfl, HB3.out.trans ((grew_below w3 y).mono HB3.out.size)⟩
set_option maxRecDepth 20000 in
set_option maxHeartbeats 1000000 in
theorem rbeg_s3 (p fin : Nat) (ts : List Tok) (s : Rs) (w : World) (hp : RR w p fin ts s) (h1 : namedA ts s = false) (h2 : seesA ts s [97, 108, 108] = false) (h3 : seesA ts s [97, 110, 121] = false) (h4 : seesA ts s [97, 108, 119, 97, 121, 115] = false) (h5 : seesA ts s [110, 101, 118, 101, 114] = false) (h6 : isNumA ts s = false) (h7 : s.e = 0) (h8 : ts[s.i]? = none) :
    Calls Tryz.prog 37 #[.pointer (some ⟨p, 0, none⟩), .bool true] w fun r w' => r = .returned (.bool (beginsA ts s true)) ∧ Below w.heap.size w w' := by
  have HP0 := Lib.hid hp
  have HB0 : Hid (Below w.heap.size w w) := Lib.hid (Below.refl _ _)
  have HV : Hid (beginsA ts s true = false) := Lib.hid (by simp [beginsA, h1, h2, h3, h4, h5, h6])
  have H1 := Lib.hid h1
  have H2 := Lib.hid h2
  have H3 := Lib.hid h3
  have H4 := Lib.hid h4
  have H5 := Lib.hid h5
  have H6 := Lib.hid h6
  have H7 := Lib.hid h7
  have H8 := Lib.hid (none_of h8 hp.le)
  clear h7 h8
  clear h1 h2 h3 h4 h5 h6
  clear hp
  go_enter Tryz.func37, Tryz.ntmps37
  go_wp2_with fail
  refine (named_any p fin ts s _ HP0.out).mono ?_
  rintro r w1 ⟨rfl, hb⟩
  rw [H1.out]
  have HP1 := Lib.hid (HP0.out.below hb)
  have HB1 : Hid (Below w.heap.size w w1) := Lib.hid (HB0.out.trans (hb.mono HB0.out.size))
  clear hb
  go_wp2_with fail
  refine (rsees_any [97, 108, 108] p fin ts s _ HP1.out).mono ?_
  rintro r w2 ⟨rfl, hb⟩
  rw [H2.out]
  have HP2 := Lib.hid (HP1.out.below hb)
  have HB2 : Hid (Below w.heap.size w w2) := Lib.hid (HB1.out.trans (hb.mono HB1.out.size))
  clear hb
  go_wp2_with fail
  refine (rsees_any [97, 110, 121] p fin ts s _ HP2.out).mono ?_
  rintro r w3 ⟨rfl, hb⟩
  rw [H3.out]
  have HP3 := Lib.hid (HP2.out.below hb)
  have HB3 : Hid (Below w.heap.size w w3) := Lib.hid (HB2.out.trans (hb.mono HB2.out.size))
  clear hb
  obtain ⟨A, c, hh, hr, hnn, hc1⟩ := HP3.out.is
  have hle := HP3.out.le
  have c0 := cell_of_blk (o := 0) hh rfl
  have c1 := cell_of_blk (o := 1) hh rfl
  have c3 := cell_of_blk (o := 3) hh rfl
  have hlt := lt_of_heap' hh
  rw [H7.out] at c3
  have hi1 : decide ((s.i : Int) < ts.length) = false := by have := H8.out; simp; omega
  have hi2 : decide (s.i < ts.length) = false := by have := H8.out; simp; omega
  clear hh hr hnn hc1
  have HC4 : Hid (∀ y, Calls Tryz.prog 36 #[.pointer (some ⟨p, 0, none⟩), vs [97, 108, 119, 97, 121, 115]] (World.grew w3 y) fun e w' => e = .returned (.bool (seesA ts s [97, 108, 119, 97, 121, 115])) ∧ Below (World.grew w3 y).heap.size (World.grew w3 y) w') := Lib.hid (fun y => rsees_any [97, 108, 119, 97, 121, 115] p fin ts s _ (HP3.out.below (grew_below w3 y)))
  have HC5 : Hid (∀ y, Calls Tryz.prog 36 #[.pointer (some ⟨p, 0, none⟩), vs [110, 101, 118, 101, 114]] (World.grew w3 y) fun e w' => e = .returned (.bool (seesA ts s [110, 101, 118, 101, 114])) ∧ Below (World.grew w3 y).heap.size (World.grew w3 y) w') := Lib.hid (fun y => rsees_any [110, 101, 118, 101, 114] p fin ts s _ (HP3.out.below (grew_below w3 y)))
  rw [H4.out] at HC4
  rw [H5.out] at HC5
  go_wp2_with fail
  refine wp_region_grew (by kernel_rfl) (by as_aux_lemma => kernel_rfl) ?_
  repeat (go_big_quiet_step ((first | (with_reducible exact Calls_grew (HC4.out _)) | (with_reducible exact Calls_grew (HC5.out _)))))
  refine wpQuiet_nil ?_
  rintro _ ⟨y, rfl⟩
  go_wp2_with fail
  go_ret
  exact ⟨by rw [HV.out]; rfl, HB3.out.trans ((grew_below w3 y).mono HB3.out.size)⟩
set_option maxRecDepth 20000 in
set_option maxHeartbeats 1000000 in
theorem rbeg_s4 (p fin : Nat) (ts : List Tok) (s : Rs) (w : World) (hp : RR w p fin ts s) (h1 : namedA ts s = false) (h2 : seesA ts s [97, 108, 108] = false) (h3 : seesA ts s [97, 110, 121] = false) (h4 : seesA ts s [97, 108, 119, 97, 121, 115] = false) (h5 : seesA ts s [110, 101, 118, 101, 114] = false) (h6 : isNumA ts s = false) (t : Tok) (h7 : s.e = 0) (h8 : ts[s.i]? = some t) (h9 : t.kind ≠ 2) :
    Calls Tryz.prog 37 #[.pointer (some ⟨p, 0, none⟩), .bool true] w fun r w' => r = .returned (.bool (beginsA ts s true)) ∧ Below w.heap.size w w' := by
  have HP0 := Lib.hid hp
  have HB0 : Hid (Below w.heap.size w w) := Lib.hid (Below.refl _ _)
  have HV : Hid (beginsA ts s true = false) := Lib.hid (by simp [beginsA, h1, h2, h3, h4, h5, h6])
  have H1 := Lib.hid h1
  have H2 := Lib.hid h2
  have H3 := Lib.hid h3
  have H4 := Lib.hid h4
  have H5 := Lib.hid h5
  have H6 := Lib.hid h6
  have H7 := Lib.hid h7
  have H8 := Lib.hid h8
  have H9 := Lib.hid h9
  have HI := Lib.hid (tok_of h8)
  clear h7 h8 h9
  clear h1 h2 h3 h4 h5 h6
  clear hp
  go_enter Tryz.func37, Tryz.ntmps37
  go_wp2_with fail
  refine (named_any p fin ts s _ HP0.out).mono ?_
  rintro r w1 ⟨rfl, hb⟩
  rw [H1.out]
  have HP1 := Lib.hid (HP0.out.below hb)
  have HB1 : Hid (Below w.heap.size w w1) := Lib.hid (HB0.out.trans (hb.mono HB0.out.size))
  clear hb
  go_wp2_with fail
  refine (rsees_any [97, 108, 108] p fin ts s _ HP1.out).mono ?_
  rintro r w2 ⟨rfl, hb⟩
  rw [H2.out]
  have HP2 := Lib.hid (HP1.out.below hb)
  have HB2 : Hid (Below w.heap.size w w2) := Lib.hid (HB1.out.trans (hb.mono HB1.out.size))
  clear hb
  go_wp2_with fail
  refine (rsees_any [97, 110, 121] p fin ts s _ HP2.out).mono ?_
  rintro r w3 ⟨rfl, hb⟩
  rw [H3.out]
  have HP3 := Lib.hid (HP2.out.below hb)
  have HB3 : Hid (Below w.heap.size w w3) := Lib.hid (HB2.out.trans (hb.mono HB2.out.size))
  clear hb
  obtain ⟨A, c, hh, hr, hnn, hc1⟩ := HP3.out.is
  have hle := HP3.out.le
  have c0 := cell_of_blk (o := 0) hh rfl
  have c1 := cell_of_blk (o := 1) hh rfl
  have c3 := cell_of_blk (o := 3) hh rfl
  have hlt := lt_of_heap' hh
  rw [H7.out] at c3
  obtain ⟨bt, ot, rfl, hbl, t0, t1, t2, t3⟩ := tok_cells hr H8.out
  have hk' : ((t.kind : Int) == 2) = false := by have := H9.out; simp; omega
  have hi1 : (s.i : Int) < ts.length := by have := HI.out; omega
  have hi0 : (0 : Int) ≤ s.i := by omega
  clear hh hr hnn hc1 t1 t2 t3
  have HC4 : Hid (∀ y, Calls Tryz.prog 36 #[.pointer (some ⟨p, 0, none⟩), vs [97, 108, 119, 97, 121, 115]] (World.grew w3 y) fun e w' => e = .returned (.bool (seesA ts s [97, 108, 119, 97, 121, 115])) ∧ Below (World.grew w3 y).heap.size (World.grew w3 y) w') := Lib.hid (fun y => rsees_any [97, 108, 119, 97, 121, 115] p fin ts s _ (HP3.out.below (grew_below w3 y)))
  have HC5 : Hid (∀ y, Calls Tryz.prog 36 #[.pointer (some ⟨p, 0, none⟩), vs [110, 101, 118, 101, 114]] (World.grew w3 y) fun e w' => e = .returned (.bool (seesA ts s [110, 101, 118, 101, 114])) ∧ Below (World.grew w3 y).heap.size (World.grew w3 y) w') := Lib.hid (fun y => rsees_any [110, 101, 118, 101, 114] p fin ts s _ (HP3.out.below (grew_below w3 y)))
  rw [H4.out] at HC4
  rw [H5.out] at HC5
  go_wp2_with fail
  refine wp_region_grew (by kernel_rfl) (by as_aux_lemma => kernel_rfl) ?_
  repeat (go_big_quiet_step ((first | (with_reducible exact Calls_grew (HC4.out _)) | (with_reducible exact Calls_grew (HC5.out _)))))
  refine wpQuiet_nil ?_
  rintro _ ⟨y, rfl⟩
  go_wp2_with fail
  go_ret
  exact ⟨by rw [HV.out]; rfl, HB3.out.trans ((grew_below w3 y).mono HB3.out.size)⟩
set_option maxRecDepth 20000 in
set_option maxHeartbeats 1000000 in
theorem rbeg_s5 (p fin : Nat) (ts : List Tok) (s : Rs) (w : World) (hp : RR w p fin ts s) (h1 : namedA ts s = false) (h2 : seesA ts s [97, 108, 108] = false) (h3 : seesA ts s [97, 110, 121] = false) (h4 : seesA ts s [97, 108, 119, 97, 121, 115] = false) (h5 : seesA ts s [110, 101, 118, 101, 114] = false) (h6 : isNumA ts s = true) (t : Tok) (h7 : s.e = 0) (h8 : ts[s.i]? = some t) (h9 : t.kind = 2) :
    Calls Tryz.prog 37 #[.pointer (some ⟨p, 0, none⟩), .bool true] w fun r w' => r = .returned (.bool (beginsA ts s true)) ∧ Below w.heap.size w w' := by
  have HP0 := Lib.hid hp
  have HB0 : Hid (Below w.heap.size w w) := Lib.hid (Below.refl _ _)
  have HV : Hid (beginsA ts s true = true) := Lib.hid (by simp [beginsA, h1, h2, h3, h4, h5, h6])
  have H1 := Lib.hid h1
  have H2 := Lib.hid h2
  have H3 := Lib.hid h3
  have H4 := Lib.hid h4
  have H5 := Lib.hid h5
  have H6 := Lib.hid h6
  have H7 := Lib.hid h7
  have H8 := Lib.hid h8
  have H9 := Lib.hid h9
  have HI := Lib.hid (tok_of h8)
  clear h7 h8 h9
  clear h1 h2 h3 h4 h5 h6
  clear hp
  go_enter Tryz.func37, Tryz.ntmps37
  go_wp2_with fail
  refine (named_any p fin ts s _ HP0.out).mono ?_
  rintro r w1 ⟨rfl, hb⟩
  rw [H1.out]
  have HP1 := Lib.hid (HP0.out.below hb)
  have HB1 : Hid (Below w.heap.size w w1) := Lib.hid (HB0.out.trans (hb.mono HB0.out.size))
  clear hb
  go_wp2_with fail
  refine (rsees_any [97, 108, 108] p fin ts s _ HP1.out).mono ?_
  rintro r w2 ⟨rfl, hb⟩
  rw [H2.out]
  have HP2 := Lib.hid (HP1.out.below hb)
  have HB2 : Hid (Below w.heap.size w w2) := Lib.hid (HB1.out.trans (hb.mono HB1.out.size))
  clear hb
  go_wp2_with fail
  refine (rsees_any [97, 110, 121] p fin ts s _ HP2.out).mono ?_
  rintro r w3 ⟨rfl, hb⟩
  rw [H3.out]
  have HP3 := Lib.hid (HP2.out.below hb)
  have HB3 : Hid (Below w.heap.size w w3) := Lib.hid (HB2.out.trans (hb.mono HB2.out.size))
  clear hb
  obtain ⟨A, c, hh, hr, hnn, hc1⟩ := HP3.out.is
  have hle := HP3.out.le
  have c0 := cell_of_blk (o := 0) hh rfl
  have c1 := cell_of_blk (o := 1) hh rfl
  have c3 := cell_of_blk (o := 3) hh rfl
  have hlt := lt_of_heap' hh
  rw [H7.out] at c3
  obtain ⟨bt, ot, rfl, hbl, t0, t1, t2, t3⟩ := tok_cells hr H8.out
  rw [H9.out] at t0
  have hi1 : (s.i : Int) < ts.length := by have := HI.out; omega
  have hi0 : (0 : Int) ≤ s.i := by omega
  clear hh hr hnn hc1 t1 t2 t3
  have HC4 : Hid (∀ y, Calls Tryz.prog 36 #[.pointer (some ⟨p, 0, none⟩), vs [97, 108, 119, 97, 121, 115]] (World.grew w3 y) fun e w' => e = .returned (.bool (seesA ts s [97, 108, 119, 97, 121, 115])) ∧ Below (World.grew w3 y).heap.size (World.grew w3 y) w') := Lib.hid (fun y => rsees_any [97, 108, 119, 97, 121, 115] p fin ts s _ (HP3.out.below (grew_below w3 y)))
  have HC5 : Hid (∀ y, Calls Tryz.prog 36 #[.pointer (some ⟨p, 0, none⟩), vs [110, 101, 118, 101, 114]] (World.grew w3 y) fun e w' => e = .returned (.bool (seesA ts s [110, 101, 118, 101, 114])) ∧ Below (World.grew w3 y).heap.size (World.grew w3 y) w') := Lib.hid (fun y => rsees_any [110, 101, 118, 101, 114] p fin ts s _ (HP3.out.below (grew_below w3 y)))
  rw [H4.out] at HC4
  rw [H5.out] at HC5
  go_wp2_with fail
  refine wp_region_grew (by kernel_rfl) (by as_aux_lemma => kernel_rfl) ?_
  repeat (go_big_quiet_step ((first | (with_reducible exact Calls_grew (HC4.out _)) | (with_reducible exact Calls_grew (HC5.out _)))))
  refine wpQuiet_nil ?_
  rintro _ ⟨y, rfl⟩
  go_wp2_with fail
  go_ret
  exact ⟨by rw [HV.out]; rfl, HB3.out.trans ((grew_below w3 y).mono HB3.out.size)⟩
theorem rbegins_any (b : Bool) (p fin : Nat) (ts : List Tok) (s : Rs) (w : World) (hp : RR w p fin ts s) :
    Calls Tryz.prog 37 #[.pointer (some ⟨p, 0, none⟩), .bool b] w fun r w' => r = .returned (.bool (beginsA ts s b)) ∧ Below w.heap.size w w' := by
  cases h1 : namedA ts s with
  | true => exact rbeg_1 b p fin ts s w hp h1
  | false =>
  cases h2 : seesA ts s [97, 108, 108] with
  | true => exact rbeg_2 b p fin ts s w hp h1 h2
  | false =>
  cases h3 : seesA ts s [97, 110, 121] with
  | true => exact rbeg_3 b p fin ts s w hp h1 h2 h3
  | false =>
  cases b with
  | false =>
    cases h7 : seesA ts s [121, 101, 115] with
    | true => exact rbeg_f0 p fin ts s w hp h1 h2 h3 h7
    | false =>
    cases h8 : seesA ts s [110, 111] with
    | true => exact rbeg_f1 p fin ts s w hp h1 h2 h3 h7 h8
    | false =>
    cases h9 : seesA ts s [110, 101, 103, 97, 116, 101, 100] with
    | true => exact rbeg_f2 p fin ts s w hp h1 h2 h3 h7 h8 h9
    | false =>
    exact rbeg_f3 p fin ts s w hp h1 h2 h3 h7 h8 h9
  | true =>
    cases h4 : seesA ts s [97, 108, 119, 97, 121, 115] with
    | true => exact rbeg_s0 p fin ts s w hp h1 h2 h3 h4
    | false =>
    cases h5 : seesA ts s [110, 101, 118, 101, 114] with
    | true => exact rbeg_s1 p fin ts s w hp h1 h2 h3 h4 h5
    | false =>
    cases h6 : isNumA ts s with
    | true =>
      obtain ⟨n1, n2, n3⟩ := num_lt h6
      refine rbeg_s5 p fin ts s w hp h1 h2 h3 h4 h5 h6 _ n2 n3 ?_
      unfold isNumA at h6
      rw [n3] at h6
      simp at h6
      exact h6.2
    | false =>
      by_cases h7 : s.e = 0
      · cases h8 : ts[s.i]? with
        | none => exact rbeg_s3 p fin ts s w hp h1 h2 h3 h4 h5 h6 h7 h8
        | some t =>
          refine rbeg_s4 p fin ts s w hp h1 h2 h3 h4 h5 h6 t h7 h8 (fun hk => ?_)
          unfold isNumA at h6
          rw [h8, h7] at h6
          simp [hk] at h6
      · exact rbeg_s2 p fin ts s w hp h1 h2 h3 h4 h5 h6 h7
end Go.Proofs.YtcekampdldkjlaaGreatDoor
namespace Go.Proofs.YtcekampdldkjlaaGreatDoor
open Go.RowKit
theorem combineA_grow {st : Stack} {op k D : Nat} {a : Int} {s : Rs} (h : ∀ x ∈ st, x.2 ≤ D) : (combineA st op k a s).1.length ≤ st.length + 1 ∧ ∀ x ∈ (combineA st op k a s).1, x.2 ≤ D + 1 := by
  have h0 : ∀ x ∈ st, x.2 ≤ D + 1 := fun x hx => by have := h x hx; omega
  unfold combineA
  split
  · exact ⟨by simp, h0⟩
  split
  · exact ⟨by simp, h0⟩
  · refine ⟨by simp, fun x hx => ?_⟩
    rcases List.mem_append.1 hx with hx | hx
    · exact h0 x (List.mem_of_mem_take hx)
    · simp at hx
      subst hx
      exact udeep_le (fun x hx => h x (List.mem_of_mem_drop hx))
theorem leaf_grow {st : Stack} {D : Nat} {t : Tree} (h : ∀ x ∈ st, x.2 ≤ D) : (st ++ [(t, 1)]).length ≤ st.length + 1 ∧ ∀ x ∈ st ++ [(t, 1)], x.2 ≤ D + 1 := by
  refine ⟨by simp, fun x hx => ?_⟩
  rcases List.mem_append.1 hx with hx | hx
  · have := h x hx; omega
  · simp at hx; subst hx; show 1 ≤ D + 1; omega
theorem item_grow {starts : Bool} {ts : List Tok} {fin D : Nat} {st : Stack} {s : Rs} (h : ∀ x ∈ st, x.2 ≤ D) : (someItemA starts ts fin st s).1.length ≤ st.length + 1 ∧ ∀ x ∈ (someItemA starts ts fin st s).1, x.2 ≤ D + 1 := by
  unfold someItemA
  cases starts with
  | true =>
    rw [if_pos rfl]
    unfold sitemA groupA
    split
    · exact leaf_grow h
    split
    · exact leaf_grow h
    split
    · exact combineA_grow h
    split
    · exact leaf_grow h
    · exact leaf_grow h
  | false =>
    rw [if_neg (by decide)]
    unfold itemA groupA
    split
    · exact leaf_grow h
    split
    · exact leaf_grow h
    split
    · exact combineA_grow h
    split
    · exact combineA_grow h
    split
    · exact leaf_grow h
    · exact leaf_grow h
theorem sees_err {ts : List Tok} {s : Rs} {u : List UInt8} (h : s.e ≠ 0) : seesA ts s u = false := by simp [seesA, h]
theorem failA_err {ts : List Tok} {fin : Nat} {s : Rs} (h : s.e ≠ 0) : failA ts fin s = s := by
  unfold failA Rs.flt
  split <;> rw [if_neg h]
theorem mustA_err {ts : List Tok} {fin : Nat} {s : Rs} {u : List UInt8} (h : s.e ≠ 0) : mustA ts fin s u = s := by
  unfold mustA
  rw [sees_err h]
  exact failA_err h
theorem loop_err {starts : Bool} {ts : List Tok} {fin f : Nat} {st : Stack} {s : Rs} (h : s.e ≠ 0 ∨ seesA ts s [125] = true) : loopA starts ts fin (f + 1) st s = (st, s, false) := by
  unfold loopA
  rw [if_pos h]
theorem loop_no {starts : Bool} {ts : List Tok} {fin f : Nat} {st : Stack} {s : Rs} (h1 : s.e = 0) (h2 : seesA ts s [125] = false) (h3 : beginsA ts s starts = false) : loopA starts ts fin (f + 1) st s = (st, failA ts fin s, true) := by
  unfold loopA
  rw [if_neg (by simp [h1, h2]), if_pos h3]
theorem loop_full {starts : Bool} {ts : List Tok} {fin : Nat} {st : Stack} {s : Rs} (h1 : s.e = 0) (h2 : seesA ts s [125] = false) (h3 : beginsA ts s starts = true) : loopA starts ts fin 1 st s = (st, s.flt 2 (tokA ts s).pos, true) := by
  unfold loopA
  rw [if_neg (by simp [h1, h2]), if_neg (by rw [h3]; decide), if_pos rfl]
theorem loop_next {starts : Bool} {ts : List Tok} {fin f : Nat} {st : Stack} {s : Rs} (h1 : s.e = 0) (h2 : seesA ts s [125] = false) (h3 : beginsA ts s starts = true) (hf : f ≠ 0) : loopA starts ts fin (f + 1) st s = loopA starts ts fin f (someItemA starts ts fin st s).1 (someItemA starts ts fin st s).2 := by
  rw [loopA]
  rw [if_neg (by simp [h1, h2]), if_neg (by rw [h3]; decide), if_neg hf]
theorem begins_tok {ts : List Tok} {s : Rs} {starts : Bool} (h : beginsA ts s starts = true) : s.i + 1 ≤ ts.length := by
  have hs : ∀ u, seesA ts s u = true → s.i + 1 ≤ ts.length := fun u hu => sees_lt hu
  have hn : namedA ts s = true → s.i + 1 ≤ ts.length := fun h => (named_lt h).1
  have hk : isNumA ts s = true → s.i + 1 ≤ ts.length := fun h => (num_lt h).1
  unfold beginsA at h
  cases starts <;> simp at h <;> (rcases h with h | h) <;> (try rcases h with h | h) <;> (try rcases h with h | h) <;> first | exact hn h | exact hs _ h | exact hk h
theorem top_left {ts : List Tok} {fin : Nat} {st : Stack} {s : Rs} : topA ts fin (st, s, true) = (zeroE, s) := by unfold topA; rw [if_pos rfl]
theorem top_err {ts : List Tok} {fin : Nat} {st : Stack} {s : Rs} (h : s.e ≠ 0) : topA ts fin (st, s, false) = (zeroE, s) := by
  unfold topA
  rw [if_neg (show ¬ false = true by decide)]
  simp only [sees_err (u := [125]) h, Bool.false_eq_true, false_and, if_false, mustA_err h]
  rw [if_pos h]
theorem top_many {ts : List Tok} {fin : Nat} {st : Stack} {s : Rs} (h : seesA ts s [125] = true) (hl : st.length ≠ 1) : topA ts fin (st, s, false) = (zeroE, failA ts fin s) := by
  unfold topA
  rw [if_neg (show ¬ false = true by decide)]
  simp only [h, true_and, ne_eq, hl, not_false_eq_true, if_true, mustA_err (failA_ne ts fin s)]
  rw [if_pos (failA_ne ts fin s)]
theorem top_one {ts : List Tok} {fin : Nat} {x : Tree × Nat} {s : Rs} (h : seesA ts s [125] = true) : topA ts fin ([x], s, false) = (x, s.next) := by
  have he : (s.next).e = 0 := sees_e (s := s) h
  unfold topA
  rw [if_neg (show ¬ false = true by decide)]
  simp only [h, true_and, List.length_cons, List.length_nil, Nat.zero_add, ne_eq, not_true_eq_false, if_false, mustA, if_true]
  rw [if_neg (by rw [he]; decide)]
  rfl
structure BoxU (w : World) (b : Nat) : Prop where
  is : w.heap[b]? = some (.cells #[.int .i64 0, .string ⟨#[]⟩, .int .i64 0, .int .i64 0, .slice none 0 0, .int .i64 0] 52 (0, 0))
theorem RR.box6 {w : World} {p fin : Nat} {ts : List Tok} {s : Rs} (h : RR w p fin ts s) {z : Nat} (hb : p < z) (v0 v1 v2 v3 v4 v5 : Value) : RR ((((((w.setCell ⟨z, 0, none⟩ v0).setCell ⟨z, 1, none⟩ v1).setCell ⟨z, 2, none⟩ v2).setCell ⟨z, 3, none⟩ v3).setCell ⟨z, 4, none⟩ v4).setCell ⟨z, 5, none⟩ v5) p fin ts s :=
  (((((h.box hb _).box hb _).box hb _).box hb _).box hb _).box hb _
theorem Eff.box6 {w w' : World} {p : Nat} (h : Eff p w w') {z : Nat} (hb : w.heap.size ≤ z) (v0 v1 v2 v3 v4 v5 : Value) : Eff p w ((((((w'.setCell ⟨z, 0, none⟩ v0).setCell ⟨z, 1, none⟩ v1).setCell ⟨z, 2, none⟩ v2).setCell ⟨z, 3, none⟩ v3).setCell ⟨z, 4, none⟩ v4).setCell ⟨z, 5, none⟩ v5) :=
  (((((h.setCell ⟨z, 0, none⟩ (.inr hb) _).setCell ⟨z, 1, none⟩ (.inr hb) _).setCell ⟨z, 2, none⟩ (.inr hb) _).setCell ⟨z, 3, none⟩ (.inr hb) _).setCell ⟨z, 4, none⟩ (.inr hb) _).setCell ⟨z, 5, none⟩ (.inr hb) _
theorem RdU.box6 {w : World} {cs : List Value} {d lo z : Nat} {t : Tree} (h : RdU (fun b => lo ≤ b) w cs d t) (hz : z < lo) (v0 v1 v2 v3 v4 v5 : Value) : RdU (fun b => z ≤ b) ((((((w.setCell ⟨z, 0, none⟩ v0).setCell ⟨z, 1, none⟩ v1).setCell ⟨z, 2, none⟩ v2).setCell ⟨z, 3, none⟩ v3).setCell ⟨z, 4, none⟩ v4).setCell ⟨z, 5, none⟩ v5) cs d t :=
  h.keep (by simp) (fun b hb _ => ⟨by omega, by
    rw [Below.heap_setCell _ _ _ _ (by simp; omega), Below.heap_setCell _ _ _ _ (by simp; omega), Below.heap_setCell _ _ _ _ (by simp; omega), Below.heap_setCell _ _ _ _ (by simp; omega), Below.heap_setCell _ _ _ _ (by simp; omega), Below.heap_setCell _ _ _ _ (by simp; omega)]⟩)
theorem Eff.ofB {p : Nat} {w wa w' : World} (h : Eff p w wa) {base : Nat} (hb : w.heap.size ≤ base) (h2 : EffB p base wa w') : Eff p w w' := ⟨h2.os.trans h.os, h2.tape.trans h.tape, h2.output.trans h.output, Nat.le_trans h.size h2.size, fun k hk hn => (h2.block k (by omega) hn).trans (h.block k hk hn)⟩
set_option maxRecDepth 20000 in
set_option maxHeartbeats 4000000 in
theorem rbraces_any (starts : Bool) (p fin : Nat) (ts : List Tok) (s : Rs) (w : World) (hp : RR w p fin ts s) (hn : ∀ t ∈ ts, t.n ≤ 9999999) :
    Calls Tryz.prog 14 #[.pointer (some ⟨p, 0, none⟩), .bool starts] w fun r w' => ∃ cs : List Value, r = .returned (.agg cs.toArray) ∧ RdU (fun b => w.heap.size ≤ b) w' cs (bracesA starts ts fin s).1.2 (bracesA starts ts fin s).1.1 ∧ RR w' p fin ts (bracesA starts ts fin s).2 ∧ Eff p w w' := by
  have HP := Lib.hid hp
  have HN := Lib.hid hn
  have hpz : p < w.heap.size := hp.lt
  have HQ : Hid (bracesA starts ts fin s = topA ts fin (loopA starts ts fin 201 [] (mustA ts fin s [123]))) := Lib.hid rfl
  have hal : Below w.heap.size w (w.alloc (.cells #[.int .i64 0, .string ⟨#[]⟩, .int .i64 0, .int .i64 0, .slice none 0 0, .int .i64 0] 52 (0, 0))) := (Below.refl _ _).alloc (Nat.le_refl _) _
  have HAL := Lib.hid hal
  clear hp hn hal
  go_enter Tryz.func14, Tryz.ntmps14
  go_wp2_with fail
  refine (rmust_any [123] p fin ts s _ (HP.out.below HAL.out)).mono ?_
  rintro r w1 ⟨rfl, hr1, he1⟩
  have HR1 := Lib.hid hr1
  have HE1 := Lib.hid ((Eff.of_below (p := p) HAL.out).trans he1)
  have HBX1 : Hid (w1.heap[w.heap.size]? = some (.cells #[.int .i64 0, .string ⟨#[]⟩, .int .i64 0, .int .i64 0, .slice none 0 0, .int .i64 0] 52 (0, 0))) := Lib.hid ((he1.block _ (by simp) (by omega)).trans (heap_alloc_new w _))
  have HB1 : Hid (w.heap.size + 1 ≤ w1.heap.size) := Lib.hid (by have := he1.size; simp at this; omega)
  clear hr1 he1
  generalize hs0 : mustA ts fin s [123] = s0 at *
  obtain ⟨LX, hLX⟩ : ∃ x, loopA starts ts fin 201 [] s0 = x := ⟨_, rfl⟩
  have HLX := Lib.hid hLX
  clear hLX hs0
  go_wp2_with fail
  go_loopw [5, 6] (fun v5 v6 wr => ∃ (st : Stack) (s' : Rs) (n : Nat), n ≤ 200 ∧ v6 = .int .i64 n ∧ OwnU (fun b => w.heap.size + 1 ≤ b) wr (w.heap.size + 1) v5 st ∧ RR wr p fin ts s' ∧ EffB p (w.heap.size + 1) w1 wr ∧ st.length ≤ n ∧ (∀ x ∈ st, x.2 ≤ n) ∧ loopA starts ts fin (201 - n) st s' = LX) (fun _ v6 _ => 201 - (intOf v6).toNat)
  case atStart => exact ⟨[], s0, 0, by omega, rfl, OwnU.nil, HR1.out, EffB.refl _ _ _, by simp, by simp, HLX.out⟩
  case round =>
    obtain ⟨st, s', n, hn2, rfl, ho, hr, he, hl, hd, hlx⟩ := hrel
    have HO := Lib.hid ho
    have HR := Lib.hid hr
    have HE := Lib.hid he
    have HEW := Lib.hid (HE1.out.ofB (Nat.le_succ _) he)
    have HD := Lib.hid hd
    have HL := Lib.hid hl
    have HBX := Lib.hid ((he.block w.heap.size (by omega) (by omega)).trans HBX1.out)
    have HBW : Hid (w.heap.size + 1 ≤ wr.heap.size) := Lib.hid (Nat.le_trans HB1.out he.size)
    obtain ⟨VA, vc, rfl⟩ := ho.form
    obtain ⟨f, hf⟩ : ∃ f, 201 - n = f + 1 := ⟨200 - n, by omega⟩
    rw [hf] at hlx
    have HLQ := Lib.hid hlx
    have HF := Lib.hid hf
    obtain ⟨A, c, hh, hr2, hnn, hc1⟩ := hr.is
    have c3 := cell_of_blk (o := 3) hh rfl
    have hlt := lt_of_heap' hh
    clear ho hr he hl hd hlx hf hh hr2 hnn hc1
    by_cases h0 : s'.e = 0
    case neg =>
      have h0' : ((s'.e : Int) == 0) = false := by simp; omega
      have h0'' : ((s'.e : Int) != 0) = true := by simp; omega
      have HQ2 : Hid (bracesA starts ts fin s = (zeroE, s')) := Lib.hid (by rw [HQ.out, HLX.out, ← HLQ.out, loop_err (.inl h0), top_err h0])
      have HS := Lib.hid (sees_err (ts := ts) (u := [125]) h0)
      have HM := Lib.hid (mustA_err (ts := ts) (fin := fin) (u := [125]) h0)
      clear h0
      go_wp2_with fail
      refine (rsees_any [125] p fin ts s' _ HR.out).mono ?_
      rintro r w2 ⟨rfl, hb2⟩
      rw [HS.out]
      have HR2 := Lib.hid (HR.out.below hb2)
      have HE2 := Lib.hid (HEW.out.trans (Eff.of_below hb2))
      have HBX2 := Lib.hid ((hb2.block _ (lt_of_heap' HBX.out)).trans HBX.out)
      clear hb2 c3 hlt
      go_wp2_with fail
      refine (rmust_any [125] p fin ts s' _ HR2.out).mono ?_
      rintro r w3 ⟨rfl, hr3, he3⟩
      have HR3 : Hid (RR w3 p fin ts s') := Lib.hid (by rwa [HM.out] at hr3)
      have HE3 := Lib.hid (HE2.out.trans he3)
      have HBX3 := Lib.hid ((he3.block _ (lt_of_heap' HBX2.out) (by omega)).trans HBX2.out)
      obtain ⟨A, c, hh, -⟩ := HR3.out.is
      have c3 := cell_of_blk (o := 3) hh rfl
      have hlt := lt_of_heap' hh
      clear hr3 he3 hh
      have z0 := cell_of_blk (o := 0) HBX3.out rfl
      have y0 := frozen_of_blk (o := 0) HBX3.out
      have z1 := cell_of_blk (o := 1) HBX3.out rfl
      have y1 := frozen_of_blk (o := 1) HBX3.out
      have z2 := cell_of_blk (o := 2) HBX3.out rfl
      have y2 := frozen_of_blk (o := 2) HBX3.out
      have z3 := cell_of_blk (o := 3) HBX3.out rfl
      have y3 := frozen_of_blk (o := 3) HBX3.out
      have z4 := cell_of_blk (o := 4) HBX3.out rfl
      have y4 := frozen_of_blk (o := 4) HBX3.out
      have z5 := cell_of_blk (o := 5) HBX3.out rfl
      have y5 := frozen_of_blk (o := 5) HBX3.out
      have zl := lt_of_heap' HBX3.out
      go_wp2_with fail
      refine bodyPost_ret (v := .agg #[.int .i64 0, .string ⟨#[]⟩, .int .i64 0, .int .i64 0, .slice none 0 0, .int .i64 0]) (by simp [results, Tryz.results14, go_sem, *]) rfl ?_
      refine ⟨[.int .i64 0, .string ⟨#[]⟩, .int .i64 0, .int .i64 0, .slice none 0 0, .int .i64 0], rfl, by rw [HQ2.out]; exact RdU.leaf 0 [] 0 0 0 none 0, by rw [HQ2.out]; exact HR3.out.box6 hpz _ _ _ _ _ _, HE3.out.box6 (Nat.le_refl _) _ _ _ _ _ _⟩
    rw [h0] at c3
    have H0 := Lib.hid h0
    clear h0
    cases hs : seesA ts s' [125] with
    | true =>
      have HS := Lib.hid hs
      by_cases h1 : st.length = 1
      · obtain ⟨x, rfl⟩ : ∃ x, st = [x] := by
          match st, h1 with
          | [x], _ => exact ⟨x, rfl⟩
        have HQ2 : Hid (bracesA starts ts fin s = (x, s'.next)) := Lib.hid (by rw [HQ.out, HLX.out, ← HLQ.out, loop_err (.inr hs), top_one hs])
        have HM : Hid (mustA ts fin s' [125] = s'.next) := Lib.hid (by unfold mustA; rw [hs]; rfl)
        obtain ⟨g, cap, hv, hg1, hg2, hg3, hg4, css, k1, k2, k3⟩ := HO.out.at (by simp)
        injection hv with hv1 hv2 hv3
        subst hv1 hv3
        obtain ⟨csx, rfl⟩ : ∃ y, css = [y] := by
          match css, k1 with
          | [y], _ => exact ⟨y, rfl⟩
        have hrd := (k2 0 csx x rfl rfl).keep (S' := fun b => w.heap.size + 1 ≤ b) (Nat.le_refl _) (fun b hb _ => ⟨hb.1, rfl⟩)
        have HRD := Lib.hid hrd
        have HK3 := Lib.hid k3
        obtain ⟨⟨o', nm', cm', m', ks'⟩, d'⟩ := x
        obtain ⟨K, q, rfl, -, -⟩ := hrd
        clear hs k1 k2 k3 hv2 h1
        go_wp2_with fail
        refine (rsees_any [125] p fin ts s' _ HR.out).mono ?_
        rintro r w2 ⟨rfl, hb2⟩
        rw [HS.out]
        have HR2 := Lib.hid (HR.out.below hb2)
        have HE2 := Lib.hid (HEW.out.trans (Eff.of_below hb2))
        have HBL2 := Lib.hid hb2
        clear hb2 c3 hlt
        go_wp2_with fail
        refine (rsees_any [125] p fin ts s' _ HR2.out).mono ?_
        rintro r w3 ⟨rfl, hb3⟩
        rw [HS.out]
        have HR3 := Lib.hid (HR2.out.below hb3)
        have HE3 := Lib.hid (HE2.out.trans (Eff.of_below hb3))
        have HBL3 := Lib.hid (HBL2.out.trans (hb3.mono HBL2.out.size))
        clear hb3
        go_wp2_with fail
        refine (rmust_any [125] p fin ts s' _ HR3.out).mono ?_
        rintro r w4 ⟨rfl, hr4, he4⟩
        have HR4 : Hid (RR w4 p fin ts s'.next) := Lib.hid (by rwa [HM.out] at hr4)
        have HE4 := Lib.hid (HE3.out.trans he4)
        have HEF := Lib.hid ((Eff.of_below (p := p) HBL3.out).trans he4)
        have HBX4 := Lib.hid ((HEF.out.block _ (lt_of_heap' HBX.out) (by omega)).trans HBX.out)
        have HRD4 : Hid (RdU (fun b => w.heap.size + 1 ≤ b) w4 (ucs o' nm' cm' m' (.slice K ks'.length q) d') d' (.mk o' nm' cm' m' ks')) := Lib.hid (HRD.out.keep HEF.out.size (fun b hb hlt => ⟨hb, HEF.out.block b hlt (by omega)⟩))
        have hk : ∀ (j : Nat) u, (ucs o' nm' cm' m' (.slice K ks'.length q) d')[j]? = some u → w4.cell? ⟨g, j, none⟩ = some u := fun j u hu => HEF.out.cell (HK3.out j u (by simpa using hu)) (by omega)
        have e0 : w4.cell? ⟨g, 0, none⟩ = some (.int .i64 o') := hk 0 _ rfl
        have e1 : w4.cell? ⟨g, 1, none⟩ = some (vs nm') := hk 1 _ rfl
        have e2 : w4.cell? ⟨g, 2, none⟩ = some (.int .i64 cm') := hk 2 _ rfl
        have e3 : w4.cell? ⟨g, 3, none⟩ = some (.int .i64 m') := hk 3 _ rfl
        have e4 : w4.cell? ⟨g, 4, none⟩ = some (.slice K ks'.length q) := hk 4 _ rfl
        have e5 : w4.cell? ⟨g, 5, none⟩ = some (.int .i64 d') := hk 5 _ rfl
        have hg4' : g < w4.heap.size := Nat.lt_of_lt_of_le hg2 HEF.out.size
        obtain ⟨A, c, hh, -⟩ := HR4.out.is
        have c3 := cell_of_blk (o := 3) hh rfl
        have hlt := lt_of_heap' hh
        have hne : s'.next.e = 0 := H0.out
        rw [hne] at c3
        clear hr4 he4 hh hk hne
        have z0 := cell_of_blk (o := 0) HBX4.out rfl
        have y0 := frozen_of_blk (o := 0) HBX4.out
        have z1 := cell_of_blk (o := 1) HBX4.out rfl
        have y1 := frozen_of_blk (o := 1) HBX4.out
        have z2 := cell_of_blk (o := 2) HBX4.out rfl
        have y2 := frozen_of_blk (o := 2) HBX4.out
        have z3 := cell_of_blk (o := 3) HBX4.out rfl
        have y3 := frozen_of_blk (o := 3) HBX4.out
        have z4 := cell_of_blk (o := 4) HBX4.out rfl
        have y4 := frozen_of_blk (o := 4) HBX4.out
        have z5 := cell_of_blk (o := 5) HBX4.out rfl
        have y5 := frozen_of_blk (o := 5) HBX4.out
        have zl := lt_of_heap' HBX4.out
        go_wp2_with fail
        refine bodyPost_ret (v := .agg #[.int .i64 o', vs nm', .int .i64 cm', .int .i64 m', .slice K ks'.length q, .int .i64 d']) (by simp [results, Tryz.results14, go_sem, *]) rfl ?_
        exact ⟨_, rfl, by rw [HQ2.out]; exact HRD4.out.box6 (Nat.lt_succ_self _) _ _ _ _ _ _, by rw [HQ2.out]; exact HR4.out.box6 hpz _ _ _ _ _ _, HE4.out.box6 (Nat.le_refl _) _ _ _ _ _ _⟩
      · have HQ2 : Hid (bracesA starts ts fin s = (zeroE, failA ts fin s')) := Lib.hid (by rw [HQ.out, HLX.out, ← HLQ.out, loop_err (.inr hs), top_many hs h1])
        have HM := Lib.hid (mustA_err (ts := ts) (fin := fin) (u := [125]) (failA_ne ts fin s'))
        have h1' : ((st.length : Int) != 1) = true := by simp; omega
        clear hs h1
        go_wp2_with fail
        refine (rsees_any [125] p fin ts s' _ HR.out).mono ?_
        rintro r w2 ⟨rfl, hb2⟩
        rw [HS.out]
        have HR2 := Lib.hid (HR.out.below hb2)
        have HE2 := Lib.hid (HEW.out.trans (Eff.of_below hb2))
        have HBX2 := Lib.hid ((hb2.block _ (lt_of_heap' HBX.out)).trans HBX.out)
        clear hb2 c3 hlt
        go_wp2_with fail
        refine (rsees_any [125] p fin ts s' _ HR2.out).mono ?_
        rintro r w3 ⟨rfl, hb3⟩
        rw [HS.out]
        have HR3 := Lib.hid (HR2.out.below hb3)
        have HE3 := Lib.hid (HE2.out.trans (Eff.of_below hb3))
        have HBX3 := Lib.hid ((hb3.block _ (lt_of_heap' HBX2.out)).trans HBX2.out)
        clear hb3
        go_wp2_with fail
        refine (rfail_any p fin ts s' _ HR3.out).mono ?_
        rintro r w4 ⟨rfl, hr4, he4⟩
        have HR4 := Lib.hid hr4
        have HE4 := Lib.hid (HE3.out.trans he4)
        have HBX4 := Lib.hid ((he4.block _ (lt_of_heap' HBX3.out) (by omega)).trans HBX3.out)
        clear hr4 he4
        go_wp2_with fail
        refine (rmust_any [125] p fin ts _ _ HR4.out).mono ?_
        rintro r w5 ⟨rfl, hr5, he5⟩
        have HR5 : Hid (RR w5 p fin ts (failA ts fin s')) := Lib.hid (by rwa [HM.out] at hr5)
        have HE5 := Lib.hid (HE4.out.trans he5)
        have HBX5 := Lib.hid ((he5.block _ (lt_of_heap' HBX4.out) (by omega)).trans HBX4.out)
        obtain ⟨A, c, hh, -⟩ := HR5.out.is
        have c3 := cell_of_blk (o := 3) hh rfl
        have hlt := lt_of_heap' hh
        have h0'' : (((failA ts fin s').e : Int) != 0) = true := by have := failA_ne ts fin s'; simp; omega
        clear hr5 he5 hh
        have z0 := cell_of_blk (o := 0) HBX5.out rfl
        have y0 := frozen_of_blk (o := 0) HBX5.out
        have z1 := cell_of_blk (o := 1) HBX5.out rfl
        have y1 := frozen_of_blk (o := 1) HBX5.out
        have z2 := cell_of_blk (o := 2) HBX5.out rfl
        have y2 := frozen_of_blk (o := 2) HBX5.out
        have z3 := cell_of_blk (o := 3) HBX5.out rfl
        have y3 := frozen_of_blk (o := 3) HBX5.out
        have z4 := cell_of_blk (o := 4) HBX5.out rfl
        have y4 := frozen_of_blk (o := 4) HBX5.out
        have z5 := cell_of_blk (o := 5) HBX5.out rfl
        have y5 := frozen_of_blk (o := 5) HBX5.out
        have zl := lt_of_heap' HBX5.out
        go_wp2_with fail
        refine bodyPost_ret (v := .agg #[.int .i64 0, .string ⟨#[]⟩, .int .i64 0, .int .i64 0, .slice none 0 0, .int .i64 0]) (by simp [results, Tryz.results14, go_sem, *]) rfl ?_
        refine ⟨[.int .i64 0, .string ⟨#[]⟩, .int .i64 0, .int .i64 0, .slice none 0 0, .int .i64 0], rfl, by rw [HQ2.out]; exact RdU.leaf 0 [] 0 0 0 none 0, by rw [HQ2.out]; exact HR5.out.box6 hpz _ _ _ _ _ _, HE5.out.box6 (Nat.le_refl _) _ _ _ _ _ _⟩
    | false =>
      have HS := Lib.hid hs
      cases hbg : beginsA ts s' starts with
      | false =>
        have HQ2 : Hid (bracesA starts ts fin s = (zeroE, failA ts fin s')) := Lib.hid (by rw [HQ.out, HLX.out, ← HLQ.out, loop_no H0.out hs hbg, top_left])
        have HBG := Lib.hid hbg
        clear hs hbg
        go_wp2_with fail
        refine (rsees_any [125] p fin ts s' _ HR.out).mono ?_
        rintro r w2 ⟨rfl, hb2⟩
        rw [HS.out]
        have HR2 := Lib.hid (HR.out.below hb2)
        have HE2 := Lib.hid (HEW.out.trans (Eff.of_below hb2))
        have HBX2 := Lib.hid ((hb2.block _ (lt_of_heap' HBX.out)).trans HBX.out)
        clear hb2 c3 hlt
        go_wp2_with fail
        refine (rbegins_any starts p fin ts s' _ HR2.out).mono ?_
        rintro r w3 ⟨rfl, hb3⟩
        rw [HBG.out]
        have HR3 := Lib.hid (HR2.out.below hb3)
        have HE3 := Lib.hid (HE2.out.trans (Eff.of_below hb3))
        have HBX3 := Lib.hid ((hb3.block _ (lt_of_heap' HBX2.out)).trans HBX2.out)
        clear hb3
        go_wp2_with fail
        refine (rfail_any p fin ts s' _ HR3.out).mono ?_
        rintro r w4 ⟨rfl, hr4, he4⟩
        have HR4 := Lib.hid hr4
        have HE4 := Lib.hid (HE3.out.trans he4)
        have HBX4 := Lib.hid ((he4.block _ (lt_of_heap' HBX3.out) (by omega)).trans HBX3.out)
        clear hr4 he4
        have z0 := cell_of_blk (o := 0) HBX4.out rfl
        have y0 := frozen_of_blk (o := 0) HBX4.out
        have z1 := cell_of_blk (o := 1) HBX4.out rfl
        have y1 := frozen_of_blk (o := 1) HBX4.out
        have z2 := cell_of_blk (o := 2) HBX4.out rfl
        have y2 := frozen_of_blk (o := 2) HBX4.out
        have z3 := cell_of_blk (o := 3) HBX4.out rfl
        have y3 := frozen_of_blk (o := 3) HBX4.out
        have z4 := cell_of_blk (o := 4) HBX4.out rfl
        have y4 := frozen_of_blk (o := 4) HBX4.out
        have z5 := cell_of_blk (o := 5) HBX4.out rfl
        have y5 := frozen_of_blk (o := 5) HBX4.out
        have zl := lt_of_heap' HBX4.out
        go_wp2_with fail
        refine bodyPost_ret (v := .agg #[.int .i64 0, .string ⟨#[]⟩, .int .i64 0, .int .i64 0, .slice none 0 0, .int .i64 0]) (by simp [results, Tryz.results14, go_sem, *]) rfl ?_
        refine ⟨[.int .i64 0, .string ⟨#[]⟩, .int .i64 0, .int .i64 0, .slice none 0 0, .int .i64 0], rfl, by rw [HQ2.out]; exact RdU.leaf 0 [] 0 0 0 none 0, by rw [HQ2.out]; exact HR4.out.box6 hpz _ _ _ _ _ _, HE4.out.box6 (Nat.le_refl _) _ _ _ _ _ _⟩
      | true =>
        have HBG := Lib.hid hbg
        have hti := begins_tok hbg
        obtain ⟨t, htx⟩ : ∃ t, ts[s'.i]? = some t := get_of_lt (by omega)
        have HTX := Lib.hid htx
        have HTT : Hid (tokA ts s' = t) := Lib.hid (by simp [tokA, htx])
        by_cases hnn : n = 200
        · subst hnn
          obtain rfl : f = 0 := by have := HF.out; omega
          have HQ2 : Hid (bracesA starts ts fin s = (zeroE, s'.flt 2 t.pos)) := Lib.hid (by rw [HQ.out, HLX.out, ← HLQ.out, loop_full H0.out hs hbg, top_left, HTT.out])
          clear hs hbg htx
          go_wp2_with fail
          refine (rsees_any [125] p fin ts s' _ HR.out).mono ?_
          rintro r w2 ⟨rfl, hb2⟩
          rw [HS.out]
          have HR2 := Lib.hid (HR.out.below hb2)
          have HE2 := Lib.hid (HEW.out.trans (Eff.of_below hb2))
          have HBX2 := Lib.hid ((hb2.block _ (lt_of_heap' HBX.out)).trans HBX.out)
          clear hb2 c3 hlt
          go_wp2_with fail
          refine (rbegins_any starts p fin ts s' _ HR2.out).mono ?_
          rintro r w3 ⟨rfl, hb3⟩
          rw [HBG.out]
          have HR3 := Lib.hid (HR2.out.below hb3)
          have HE3 := Lib.hid (HE2.out.trans (Eff.of_below hb3))
          have HBX3 := Lib.hid ((hb3.block _ (lt_of_heap' HBX2.out)).trans HBX2.out)
          clear hb3
          obtain ⟨A, c, hh, hr2, hnn2, hc1⟩ := HR3.out.is
          obtain ⟨bt, ot, rfl, hbl, t0, t1, t2, t3⟩ := tok_cells hr2 HTX.out
          have c0 := cell_of_blk (o := 0) hh rfl
          have c1 := cell_of_blk (o := 1) hh rfl
          have hlt := lt_of_heap' hh
          have hi1 : (s'.i : Int) < ts.length := by omega
          have hi0 : (0 : Int) ≤ s'.i := by omega
          clear hh hr2 hnn2 hc1 t0 t1 t2
          go_wp2_with fail
          go_still_tail 12, (by kernel_rfl)
          change wpList _ _ _ _ _ w3.drew
          have HRD := Lib.hid (HR3.out.below (Below.refl _ _).drew)
          have HED := Lib.hid (HE3.out.trans (Eff.of_below (Below.refl w3.heap.size w3).drew))
          have HBXD : Hid (w3.drew.heap[w.heap.size]? = _) := HBX3
          generalize w3.drew = wd at HRD HED HBXD ⊢
          clear c0 c1 t3 hlt hbl
          go_wp2_with fail
          refine (fault_any 2 t.pos p fin ts s' _ HRD.out).mono ?_
          rintro r w4 ⟨rfl, hr4, he4⟩
          have HR4 := Lib.hid hr4
          have HE4 := Lib.hid (HED.out.trans he4)
          have HBX4 := Lib.hid ((he4.block _ (lt_of_heap' HBXD.out) (by omega)).trans HBXD.out)
          clear hr4 he4
          have z0 := cell_of_blk (o := 0) HBX4.out rfl
          have y0 := frozen_of_blk (o := 0) HBX4.out
          have z1 := cell_of_blk (o := 1) HBX4.out rfl
          have y1 := frozen_of_blk (o := 1) HBX4.out
          have z2 := cell_of_blk (o := 2) HBX4.out rfl
          have y2 := frozen_of_blk (o := 2) HBX4.out
          have z3 := cell_of_blk (o := 3) HBX4.out rfl
          have y3 := frozen_of_blk (o := 3) HBX4.out
          have z4 := cell_of_blk (o := 4) HBX4.out rfl
          have y4 := frozen_of_blk (o := 4) HBX4.out
          have z5 := cell_of_blk (o := 5) HBX4.out rfl
          have y5 := frozen_of_blk (o := 5) HBX4.out
          have zl := lt_of_heap' HBX4.out
          go_wp2_with fail
          refine bodyPost_ret (v := .agg #[.int .i64 0, .string ⟨#[]⟩, .int .i64 0, .int .i64 0, .slice none 0 0, .int .i64 0]) (by simp [results, Tryz.results14, go_sem, *]) rfl ?_
          refine ⟨[.int .i64 0, .string ⟨#[]⟩, .int .i64 0, .int .i64 0, .slice none 0 0, .int .i64 0], rfl, by rw [HQ2.out]; exact RdU.leaf 0 [] 0 0 0 none 0, by rw [HQ2.out]; exact HR4.out.box6 hpz _ _ _ _ _ _, HE4.out.box6 (Nat.le_refl _) _ _ _ _ _ _⟩
        · have hn3 : ¬ (200 : Int) < (n : Int) + 1 := by omega
          have HNX := Lib.hid (loop_next (fin := fin) (f := f) (st := st) H0.out hs hbg (by have := HF.out; omega))
          have hgr := item_grow (starts := starts) (ts := ts) (fin := fin) (s := s') HD.out
          have HGR := Lib.hid hgr
          have h300 : st.length ≤ 300 := by have := HL.out; omega
          have h900 : n ≤ 900 := by omega
          have HNN : Hid (n + 1 ≤ 200) := Lib.hid (by omega)
          clear hs hbg htx hgr hnn
          go_wp2_with fail
          refine (rsees_any [125] p fin ts s' _ HR.out).mono ?_
          rintro r w2 ⟨rfl, hb2⟩
          rw [HS.out]
          have HR2 := Lib.hid (HR.out.below hb2)
          have HBL2 := Lib.hid hb2
          clear hb2 c3 hlt
          go_wp2_with fail
          refine (rbegins_any starts p fin ts s' _ HR2.out).mono ?_
          rintro r w3 ⟨rfl, hb3⟩
          rw [HBG.out]
          have HR3 := Lib.hid (HR2.out.below hb3)
          have HBL3 := Lib.hid (HBL2.out.trans (hb3.mono HBL2.out.size))
          have HO3 := Lib.hid (HO.out.later (Eff.of_below (p := p) HBL3.out) (by omega))
          have HB3 : Hid (w.heap.size + 1 ≤ w3.heap.size) := Lib.hid (Nat.le_trans HBW.out HBL3.out.size)
          have HE3 := Lib.hid (HE.out.trans (EffB.below HBL3.out HBW.out))
          clear hb3
          cases starts with
          | true =>
            go_wp2_with fail
            refine (rsitem_any p (w.heap.size + 1) fin n ts s' _ st _ HR3.out HO3.out (by omega) HB3.out h300 h900 HD.out HN.out).mono ?_
            rintro r w4 ⟨v4, rfl, ho4, hr4, he4⟩
            have HO4 := Lib.hid ho4
            have HR4 := Lib.hid hr4
            have HE4 := Lib.hid (HE3.out.trans he4)
            clear ho4 hr4 he4
            go_wp2_with fail
            exact ⟨⟨_, _, n + 1, HNN.out, by go_num, HO4.out, HR4.out, HE4.out, Nat.le_trans HGR.out.1 (Nat.succ_le_succ HL.out), HGR.out.2, by rw [← HLQ.out, HNX.out]; rw [show 201 - (n + 1) = f by have := HF.out; omega]; rfl⟩, by have := HNN.out; simp [intOf]; omega⟩
          | false =>
            go_wp2_with fail
            refine (ritem_any p (w.heap.size + 1) fin n ts s' _ st _ HR3.out HO3.out (by omega) HB3.out h300 h900 HD.out HN.out).mono ?_
            rintro r w4 ⟨v4, rfl, ho4, hr4, he4⟩
            have HO4 := Lib.hid ho4
            have HR4 := Lib.hid hr4
            have HE4 := Lib.hid (HE3.out.trans he4)
            clear ho4 hr4 he4
            go_wp2_with fail
            exact ⟨⟨_, _, n + 1, HNN.out, by go_num, HO4.out, HR4.out, HE4.out, Nat.le_trans HGR.out.1 (Nat.succ_le_succ HL.out), HGR.out.2, by rw [← HLQ.out, HNX.out]; rw [show 201 - (n + 1) = f by have := HF.out; omega]; rfl⟩, by have := HNN.out; simp [intOf]; omega⟩
end Go.Proofs.YtcekampdldkjlaaGreatDoor
