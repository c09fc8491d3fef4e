/- The laws' head: fixed examples. -/
import Derived.Test.YtkdcenbommhnoaaExample
set_option linter.unusedVariables false
set_option linter.unusedSimpArgs false
namespace Go.Proofs.Ytkdcenbommhnoaa
open Go.RowKit
theorem RdS.lit (w : World) (l : List Str) (C : Array Value) (hC : C = (l.map vs).toArray) : RdS (w.alloc (.cells C 9)) (some ⟨w.heap.size, 0, none⟩) l := by
  subst hC
  intro _
  refine ⟨w.heap.size, 0, rfl, by simp, fun k x hx j v hv => ?_⟩
  cases j with
  | succ j => simp at hv
  | zero =>
    simp at hv
    subst hv
    rw [cell_of_row _ _ _ _ _ _ (heap_alloc_new w _)]
    simp [hx]
theorem step_below {wp wn : World} {o : Obj} (hb : Below (wp.alloc o).heap.size (wp.alloc o) wn) : Below wp.heap.size wp wn := ((Below.refl _ _).alloc (Nat.le_refl _) _).trans (hb.mono (by simp))
theorem step_box {wp wn : World} {v : Value} {t : TypeId} (hb : Below (wp.alloc (.cells #[v] t)).heap.size (wp.alloc (.cells #[v] t)) wn) : wn.cell? ⟨wp.heap.size, 0, none⟩ = some v :=
  (hb.cell (p := ⟨wp.heap.size, 0, none⟩) (by simp)).trans (by simp [go_sem])
theorem step_cell {wp wn : World} {b : Nat} {v : Value} (hb : Below wp.heap.size wp wn) (h : wp.cell? ⟨b, 0, none⟩ = some v) : wn.cell? ⟨b, 0, none⟩ = some v := (hb.cell (p := ⟨b, 0, none⟩) (World.block_lt_of_cell? _ _ h)).trans h
set_option maxRecDepth 20000 in
set_option maxHeartbeats 2000000 in
theorem head_any (w : World) (m : Int) (hg : w.cell? ⟨0, 0, none⟩ = some (.int .i64 m)) :
    Calls Try.prog 10 #[] w fun e w' => e = .returned (.bool true) ∧ Below w.heap.size w w' := by
  obtain ⟨r1, f1, e1, g1, l1⟩ := xf1
  obtain ⟨r2, f2, e2, g2, l2⟩ := xf2
  obtain ⟨r3, f3, e3⟩ := xf3
  obtain ⟨r4, f4, e4, g4, l4⟩ := xf4
  obtain ⟨r5, f5, e5⟩ := xf5
  obtain ⟨r6, f6, e6⟩ := xf6
  have F1 := Lib.hid (And.intro f1 e1); clear f1 e1
  have F2 := Lib.hid (And.intro f2 e2); clear f2 e2
  have F3 := Lib.hid (And.intro f3 e3); clear f3 e3
  have F4 := Lib.hid (And.intro f4 e4); clear f4 e4
  have F5 := Lib.hid (And.intro f5 e5); clear f5 e5
  have F6 := Lib.hid (And.intro f6 e6); clear f6 e6
  have G1 := Lib.hid g1; clear g1
  have G2 := Lib.hid g2; clear g2
  have G4 := Lib.hid g4; clear g4
  have HG := Lib.hid hg; clear hg
  go_enter Try.func10, Try.ntmps10
  go_wp2_with fail
  refine (example_any w).mono ?_
  rintro e w1 ⟨A0, rfl, hr0, hb0⟩
  have HB1 := Lib.hid hb0
  have HG1 := Lib.hid (step_cell hb0 HG.out); clear hb0
  have HR1 := Lib.hid hr0; clear hr0
  go_wp2_with fail
  refine (ex_apply xq1 r1 0 F1.out.1 F1.out.2 A0 _ m (HR1.out.below ((Below.refl _ _).alloc (Nat.le_refl _) _)) (step_cell ((Below.refl _ _).alloc (Nat.le_refl _) _) HG1.out) noItem_short (by simp [xq1]) (by simp [xq1])).mono ?_
  rintro e w2 ⟨A1, c1, rfl, hr, hb⟩
  have hx := step_below hb
  have HB2 := Lib.hid (HB1.out.trans (hx.mono HB1.out.size))
  have HG2 := Lib.hid (step_cell hx HG1.out)
  have HR2 := Lib.hid (HR1.out.below hx)
  have HS1_2 := Lib.hid hr; clear hr
  have K0 := step_box hb
  have z0 := World.block_lt_of_cell? _ _ K0
  clear hb hx HB1 HG1 HR1
  go_wp2_with fail
  refine (ex_apply xq2 r2 0 F2.out.1 F2.out.2 A0 _ m (HR2.out.below ((Below.refl _ _).alloc (Nat.le_refl _) _)) (step_cell ((Below.refl _ _).alloc (Nat.le_refl _) _) HG2.out) noItem_short (by simp [xq2]) (by simp [xq2])).mono ?_
  rintro e w3 ⟨A2, c2, rfl, hr, hb⟩
  have hx := step_below hb
  have HB3 := Lib.hid (HB2.out.trans (hx.mono HB2.out.size))
  have HG3 := Lib.hid (step_cell hx HG2.out)
  have HR3 := Lib.hid (HR2.out.below hx)
  have HS2_3 := Lib.hid hr; clear hr
  have HS1_3 := Lib.hid (HS1_2.out.below hx)
  have K0 := step_cell hx K0
  have K1 := step_box hb
  have z0 := World.block_lt_of_cell? _ _ K0
  have z1 := World.block_lt_of_cell? _ _ K1
  clear hb hx HB2 HG2 HR2
  clear HS1_2
  go_wp2_with fail
  refine (ex_apply xq3 r3 14 F3.out.1 F3.out.2 A0 _ m (HR3.out.below ((Below.refl _ _).alloc (Nat.le_refl _) _)) (step_cell ((Below.refl _ _).alloc (Nat.le_refl _) _) HG3.out) noItem_short (by simp [xq3]) (by simp [xq3])).mono ?_
  rintro e w4 ⟨A3, c3, rfl, hr, hb⟩
  have hx := step_below hb
  have HB4 := Lib.hid (HB3.out.trans (hx.mono HB3.out.size))
  have HG4 := Lib.hid (step_cell hx HG3.out)
  have HR4 := Lib.hid (HR3.out.below hx)
  have HS3_4 := Lib.hid hr; clear hr
  have HS1_4 := Lib.hid (HS1_3.out.below hx)
  have HS2_4 := Lib.hid (HS2_3.out.below hx)
  have K0 := step_cell hx K0
  have K1 := step_cell hx K1
  have K2 := step_box hb
  have z0 := World.block_lt_of_cell? _ _ K0
  have z1 := World.block_lt_of_cell? _ _ K1
  have z2 := World.block_lt_of_cell? _ _ K2
  clear hb hx HB3 HG3 HR3
  clear HS1_3
  clear HS2_3
  go_wp2_with fail
  have hal4 := (Below.refl w4.heap.size w4).alloc (Nat.le_refl _) (.cells #[.slice A3 r3.length c3] 24)
  refine (ex_apply xq4 r4 0 F4.out.1 F4.out.2 A0 _ m ((HR4.out.below hal4).below ((Below.refl _ _).alloc (Nat.le_refl _) _)) (step_cell ((Below.refl _ _).alloc (Nat.le_refl _) _) (step_cell hal4 HG4.out)) ⟨by simp [xq4, maxLen], by simp [xq4, maxLen], by simp [xq4], by simp [xq4], by simp [xq4]⟩ (by simp [xq4]) (by simp [xq4])).mono ?_
  rintro e w5 ⟨A4, c4, rfl, hr, hb⟩
  have hx : Below w4.heap.size w4 w5 := hal4.trans ((step_below hb).mono (by simp))
  have HB5 := Lib.hid (HB4.out.trans (hx.mono HB4.out.size))
  have HG5 := Lib.hid (step_cell hx HG4.out)
  have HR5 := Lib.hid (HR4.out.below hx)
  have HS4_5 := Lib.hid hr; clear hr
  have HS1_5 := Lib.hid (HS1_4.out.below hx)
  have HS2_5 := Lib.hid (HS2_4.out.below hx)
  have K0 := step_cell hx K0
  have K1 := step_cell hx K1
  have K2 := step_cell hx K2
  have z0 := World.block_lt_of_cell? _ _ K0
  have z1 := World.block_lt_of_cell? _ _ K1
  have z2 := World.block_lt_of_cell? _ _ K2
  clear hb hx HB4 HG4 HR4
  clear HS1_4
  clear HS2_4
  go_wp2_with fail
  refine (ex_apply xq5 r5 15 F5.out.1 F5.out.2 A0 _ m (HR5.out.below ((Below.refl _ _).alloc (Nat.le_refl _) _)) (step_cell ((Below.refl _ _).alloc (Nat.le_refl _) _) HG5.out) noItem_short (by simp [xq5]) (by simp [xq5])).mono ?_
  rintro e w6 ⟨A5, c5, rfl, hr, hb⟩
  have hx := step_below hb
  have HB6 := Lib.hid (HB5.out.trans (hx.mono HB5.out.size))
  have HG6 := Lib.hid (step_cell hx HG5.out)
  have HR6 := Lib.hid (HR5.out.below hx)
  have HS5_6 := Lib.hid hr; clear hr
  have HS1_6 := Lib.hid (HS1_5.out.below hx)
  have HS2_6 := Lib.hid (HS2_5.out.below hx)
  have HS4_6 := Lib.hid (HS4_5.out.below hx)
  have K0 := step_cell hx K0
  have K1 := step_cell hx K1
  have K2 := step_cell hx K2
  have K4 := step_box hb
  have z0 := World.block_lt_of_cell? _ _ K0
  have z1 := World.block_lt_of_cell? _ _ K1
  have z2 := World.block_lt_of_cell? _ _ K2
  have z4 := World.block_lt_of_cell? _ _ K4
  clear hb hx HB5 HG5 HR5
  clear HS1_5
  clear HS2_5
  clear HS4_5
  go_wp2_with fail
  refine (ex_apply xq6 r6 11 F6.out.1 F6.out.2 A0 _ m (HR6.out.below ((Below.refl _ _).alloc (Nat.le_refl _) _)) (step_cell ((Below.refl _ _).alloc (Nat.le_refl _) _) HG6.out) noItem_short (by simp [xq6]) (by simp [xq6])).mono ?_
  rintro e w7 ⟨A6, c6, rfl, hr, hb⟩
  have hx := step_below hb
  have HB7 := Lib.hid (HB6.out.trans (hx.mono HB6.out.size))
  have HG7 := Lib.hid (step_cell hx HG6.out)
  have HR7 := Lib.hid (HR6.out.below hx)
  have HS6_7 := Lib.hid hr; clear hr
  have HS1_7 := Lib.hid (HS1_6.out.below hx)
  have HS2_7 := Lib.hid (HS2_6.out.below hx)
  have HS4_7 := Lib.hid (HS4_6.out.below hx)
  have K0 := step_cell hx K0
  have K1 := step_cell hx K1
  have K2 := step_cell hx K2
  have K4 := step_cell hx K4
  have z0 := World.block_lt_of_cell? _ _ K0
  have z1 := World.block_lt_of_cell? _ _ K1
  have z2 := World.block_lt_of_cell? _ _ K2
  have z4 := World.block_lt_of_cell? _ _ K4
  clear hb hx HB6 HG6 HR6
  clear HS1_6
  clear HS2_6
  clear HS4_6
  go_wp2_with fail
  have hl1 : (idsL r1).length ≤ maxLen := by unfold maxLen idsL; simp; omega
  refine (ids_any r1 A1 c1 _ (HS1_7.out.below ((Below.refl _ _).alloc (Nat.le_refl _) _)) (by omega)).mono ?_
  rintro e wa1 ⟨O1, cc1, rfl, hrd, -, hb⟩
  have HX := Lib.hid (step_below hb)
  have HRD := Lib.hid hrd; clear hrd hb
  have K2 := step_cell HX.out K2
  have z2 := World.block_lt_of_cell? _ _ K2
  have K4 := step_cell HX.out K4
  have z4 := World.block_lt_of_cell? _ _ K4
  go_wp2_with fail
  refine (names_any (idsL r1) [[112, 49], [100, 49], [112, 50], [112, 51]] O1 (some ⟨wa1.heap.size, 0, none⟩) cc1 4 _ (HRD.out.below ((Below.refl _ _).alloc (Nat.le_refl _) _)) (RdS.lit wa1 _ _ rfl) hl1 (by decide)).mono ?_
  rintro e wb1 ⟨rfl, hb⟩
  rw [G1.out]
  have hbn := hb
  have HY := Lib.hid (HX.out.trans ((step_below hb).mono HX.out.size)); clear hb HX
  have HBb1 := Lib.hid (HB7.out.trans (HY.out.mono HB7.out.size))
  have HS2_b1 := Lib.hid (HS2_7.out.below HY.out)
  have HS4_b1 := Lib.hid (HS4_7.out.below HY.out)
  have K2 := step_cell (step_below hbn) K2
  have z2 := World.block_lt_of_cell? _ _ K2
  have K4 := step_cell (step_below hbn) K4
  have z4 := World.block_lt_of_cell? _ _ K4
  clear hbn
  go_wp2_with fail
  have hl2 : (idsL r2).length ≤ maxLen := by unfold maxLen idsL; simp; omega
  refine (ids_any r2 A2 c2 _ (HS2_b1.out.below (Below.refl _ _)) (by omega)).mono ?_
  rintro e wa2 ⟨O2, cc2, rfl, hrd, -, hb⟩
  have HX := Lib.hid (hb)
  have HRD := Lib.hid hrd; clear hrd hb
  have K4 := step_cell HX.out K4
  have z4 := World.block_lt_of_cell? _ _ K4
  go_wp2_with fail
  refine (names_any (idsL r2) [[112, 51], [100, 49], [112, 49], [112, 50]] O2 (some ⟨wa2.heap.size, 0, none⟩) cc2 4 _ (HRD.out.below ((Below.refl _ _).alloc (Nat.le_refl _) _)) (RdS.lit wa2 _ _ rfl) hl2 (by decide)).mono ?_
  rintro e wb2 ⟨rfl, hb⟩
  rw [G2.out]
  have hbn := hb
  have HY := Lib.hid (HX.out.trans ((step_below hb).mono HX.out.size)); clear hb HX
  have HBb2 := Lib.hid (HBb1.out.trans (HY.out.mono HBb1.out.size))
  have HS4_b2 := Lib.hid (HS4_b1.out.below HY.out)
  have K4 := step_cell (step_below hbn) K4
  have z4 := World.block_lt_of_cell? _ _ K4
  clear hbn
  go_wp2_with fail
  have hl4 : (idsL r4).length ≤ maxLen := by unfold maxLen idsL; simp; omega
  refine (ids_any r4 A4 c4 _ (HS4_b2.out.below (Below.refl _ _)) (by omega)).mono ?_
  rintro e wa4 ⟨O4, cc4, rfl, hrd, -, hb⟩
  have HX := Lib.hid (hb)
  have HRD := Lib.hid hrd; clear hrd hb
  go_wp2_with fail
  refine (names_any (idsL r4) [[100, 49], [112, 49], [112, 52], [112, 50], [112, 51]] O4 (some ⟨wa4.heap.size, 0, none⟩) cc4 5 _ (HRD.out.below ((Below.refl _ _).alloc (Nat.le_refl _) _)) (RdS.lit wa4 _ _ rfl) hl4 (by decide)).mono ?_
  rintro e wb4 ⟨rfl, hb⟩
  rw [G4.out]
  have hbn := hb
  have HY := Lib.hid (HX.out.trans ((step_below hb).mono HX.out.size)); clear hb HX
  have HBb4 := Lib.hid (HBb2.out.trans (HY.out.mono HBb2.out.size))
  clear hbn
  go_wp2_with fail
  go_ret
  exact ⟨rfl, HBb4.out⟩
end Go.Proofs.Ytkdcenbommhnoaa
