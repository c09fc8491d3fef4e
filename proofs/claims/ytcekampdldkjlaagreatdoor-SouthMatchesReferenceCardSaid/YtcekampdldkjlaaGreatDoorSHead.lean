/- The law's check of the chapter's examples. -/
import Derived.Test.YtcekampdldkjlaaGreatDoorSSame
import Derived.Deep.CutRange
set_option linter.unusedVariables false
set_option linter.unusedSimpArgs false
namespace Go.Proofs.YtcekampdldkjlaaGreatDoor
open Go.RowKit
abbrev hd0 : List UInt8 := [113, 117, 101, 115, 116, 105, 111, 110, 32, 116, 97, 120, 32, 103, 105, 118, 101, 115, 32, 53, 32, 91, 115, 116, 97, 116, 117, 116, 101, 32, 112, 49, 93]
abbrev hd1 : List UInt8 := [119, 104, 101, 114, 101, 32, 123, 32, 97, 103, 101, 32, 49, 56, 32, 108, 101, 97, 115, 116, 32, 112, 111, 111, 114, 32, 100, 101, 102, 105, 110, 101, 100, 32, 110, 101, 103, 97, 116, 101, 100, 32, 97, 108, 108, 32, 50, 32, 125, 32, 116, 101, 114, 109, 32, 97, 100, 117, 108, 116, 32, 91, 111, 114, 100, 101, 114, 32, 112, 50, 93]
abbrev hd2 : List UInt8 := [119, 104, 101, 114, 101, 32, 123, 32, 97, 103, 101, 32, 49, 56, 32, 108, 101, 97, 115, 116, 32, 97, 108, 108, 32, 50, 32, 125, 32, 116, 101, 114, 109, 32, 97, 32, 91, 114, 117, 108, 101, 32, 112, 93]
abbrev hd3 : List UInt8 := [119, 104, 101, 114, 101, 32, 123, 32, 121, 101, 115, 32, 110, 111, 32, 125, 32, 116, 101, 114, 109, 32, 97, 32, 91, 114, 117, 108, 101, 32, 112, 93]
abbrev hd4 : List UInt8 := [116, 101, 114, 109, 32, 114, 117, 108, 101, 32, 91, 114, 117, 108, 101, 32, 112, 93]
def hpA : Prov := ⟨[112, 49], 2, 2, [116, 97, 120], 5, .mk 1 [] 0 0 [], [], .mk 1 [] 0 0 [], .mk 2 [] 0 0 [], .mk 2 [] 0 0 []⟩
def hpB : Prov := ⟨[112, 50], 3, 1, [97, 100, 117, 108, 116], 0, .mk 6 [] 0 0 [.mk 3 [97, 103, 101] 6 18 [], .mk 5 [] 0 0 [.mk 4 [112, 111, 111, 114] 0 0 []]], [], .mk 1 [] 0 0 [], .mk 2 [] 0 0 [], .mk 2 [] 0 0 []⟩
set_option maxRecDepth 100000
theorem hd0_ok : parseF hd0 = .ok hpA := by kernel_rfl
theorem hd1_ok : parseF hd1 = .ok hpB := by kernel_rfl
theorem hd2_no : parseF hd2 = .error (5, 21) := by kernel_rfl
theorem hd3_no : parseF hd3 = .error (5, 15) := by kernel_rfl
theorem hd4_no : parseF hd4 = .error (5, 5) := by kernel_rfl
theorem maxc_below {w w' : World} {m : Int} (hm : w.cell? ⟨2, 0, none⟩ = some (.int .i64 m)) (hb : Below w.heap.size w w') : w'.cell? ⟨2, 0, none⟩ = some (.int .i64 m) :=
  (hb.cell (p := ⟨_, 0, none⟩) (World.block_lt_of_cell? _ _ hm)).trans hm
theorem prov_io {base : Nat} {W : World} {cs : List Value} {P : Prov} (h : RdProv base W cs P) : (∀ W b, rowStore W b cs.toArray (some (.cells zeroA 31 (0, 0))) = .ok () (W.setRow b cs.toArray)) ∧ (∀ W b t fr, rowLoadP W b (some (.cells cs.toArray t fr)) = .ok (.agg cs.toArray) W) := by
  obtain ⟨h1, h2⟩ := prov_cells h
  exact ⟨fun W b => rowStore_cells W b cs zeroA _ rfl (by rw [List.size_toArray, h1]) h2, fun W b t fr => rowLoadP_cells W b cs t fr (by rw [List.size_toArray, h1])⟩
theorem RdProv.below {base n : Nat} {W W' : World} {cs : List Value} {P : Prov} (h : RdProv base W cs P) (hb : Below W.heap.size W W') : RdProv 0 W' cs P := h.weak (Nat.zero_le _) hb.size (fun k _ hk => hb.block k hk)
set_option maxHeartbeats 4000000 in
theorem head_any (w : World) (m : Int) (hm : w.cell? ⟨2, 0, none⟩ = some (.int .i64 m)) :
    Calls Tryz.prog 4 #[] w fun e w' => e = .returned (.bool true) ∧ Below w.heap.size w w' := by
  have HM := Lib.hid hm
  clear hm
  go_enter Tryz.func4, Tryz.ntmps4
  go_wp2_with fail
  refine (parse_any hd0 _ m HM.out).mono ?_
  rintro e w1 ⟨hb1, hp1⟩
  rw [hd0_ok] at hp1
  obtain ⟨c1, rfl, hr1⟩ := hp1
  obtain ⟨st1, ld1⟩ := prov_io hr1
  have HB1 := Lib.hid hb1
  have HR1 := Lib.hid hr1
  clear hb1 hr1
  go_wp2_with fail
  refine (parse_any hd1 _ m (maxc_below HM.out (HB1.out.alloc HB1.out.size _))).mono ?_
  rintro e w2 ⟨hb2, hp2⟩
  rw [hd1_ok] at hp2
  obtain ⟨c2, rfl, hr2⟩ := hp2
  obtain ⟨st2, ld2⟩ := prov_io hr2
  have k1 : w2.blk w1.heap.size = some (.cells c1.toArray 31 (0, 0)) := (hb2.block _ (by simp)).trans (heap_alloc_new w1 _)
  have z1 : w1.heap.size < w2.heap.size := lt_of_heap' k1
  have HB2 : Hid (Below w.heap.size w w2) := Lib.hid ((HB1.out.alloc HB1.out.size _).trans (hb2.mono (by have := HB1.out.size; simp; omega)))
  have HC2 : Hid (Below w1.heap.size w1 w2) := Lib.hid (((Below.refl _ _).alloc (Nat.le_refl _) _).trans (hb2.mono (by simp)))
  have HK1 := Lib.hid k1
  have HR2 := Lib.hid hr2
  clear hb2 hr2 k1
  go_wp2_with fail
  refine (parse_any hd2 _ m (maxc_below HM.out (HB2.out.alloc HB2.out.size _))).mono ?_
  rintro e w3 ⟨hb3, hp3⟩
  rw [hd2_no] at hp3
  obtain rfl := hp3
  have k1 : w3.blk w1.heap.size = some (.cells c1.toArray 31 (0, 0)) := (hb3.block _ (by simp; omega)).trans ((Below.heap_alloc _ _ _ z1).trans HK1.out)
  have k2 : w3.blk w2.heap.size = some (.cells c2.toArray 31 (0, 0)) := (hb3.block _ (by simp)).trans (heap_alloc_new w2 _)
  have z2 : w2.heap.size < w3.heap.size := lt_of_heap' k2
  have HB3 : Hid (Below w.heap.size w w3) := Lib.hid ((HB2.out.alloc HB2.out.size _).trans (hb3.mono (by have := HB2.out.size; simp; omega)))
  have HC3 : Hid (Below w2.heap.size w2 w3) := Lib.hid (((Below.refl _ _).alloc (Nat.le_refl _) _).trans (hb3.mono (by simp)))
  have HK1' := Lib.hid k1
  have HK2 := Lib.hid k2
  clear hb3 k1 k2
  go_wp2_with fail
  refine (parse_any hd3 _ m (maxc_below HM.out (HB3.out.alloc HB3.out.size _))).mono ?_
  rintro e w4 ⟨hb4, hp4⟩
  rw [hd3_no] at hp4
  obtain rfl := hp4
  have HB4 : Hid (Below w.heap.size w w4) := Lib.hid ((HB3.out.alloc HB3.out.size _).trans (hb4.mono (by have := HB3.out.size; simp; omega)))
  have HC4 : Hid (Below w3.heap.size w3 w4) := Lib.hid (((Below.refl _ _).alloc (Nat.le_refl _) _).trans (hb4.mono (by simp)))
  clear hb4
  go_wp2_with fail
  refine (parse_any hd4 _ m (maxc_below HM.out (HB4.out.alloc HB4.out.size _))).mono ?_
  rintro e w5 ⟨hb5, hp5⟩
  rw [hd4_no] at hp5
  obtain rfl := hp5
  have HB5 : Hid (Below w.heap.size w w5) := Lib.hid ((HB4.out.alloc HB4.out.size _).trans (hb5.mono (by have := HB4.out.size; simp; omega)))
  have HC5 : Hid (Below w3.heap.size w3 w5) := Lib.hid (HC4.out.trans ((((Below.refl _ _).alloc (Nat.le_refl _) _).trans (hb5.mono (by simp))).mono HC4.out.size))
  have k1 : w5.blk w1.heap.size = some (.cells c1.toArray 31 (0, 0)) := (HC5.out.block _ (by omega)).trans HK1'.out
  have k2 : w5.blk w2.heap.size = some (.cells c2.toArray 31 (0, 0)) := (HC5.out.block _ (by omega)).trans HK2.out
  have z5 : w2.heap.size < w5.heap.size := lt_of_heap' k2
  have z51 : w1.heap.size < w5.heap.size := lt_of_heap' k1
  clear hb5 st1 st2
  go_upto_region 6 with fail
  generalize hwf : World.alloc w5 _ = wf
  have hbf : Below w5.heap.size w5 wf := by rw [← hwf]; exact (Below.refl _ _).alloc (Nat.le_refl _) _
  clear hwf
  have HWF : Hid (Below w.heap.size w wf) := Lib.hid (HB5.out.trans (hbf.mono HB5.out.size))
  have j1 := (hbf.block _ z51).trans k1
  have j2 := (hbf.block _ z5).trans k2
  have hA := HR1.out.below (n := 0) (HC2.out.trans (((HC3.out.mono HC2.out.size).trans ((HC5.out.mono (by have := HC3.out.size; have := HC2.out.size; omega)).trans (hbf.mono (by omega))))))
  have hB := HR2.out.below (n := 0) (HC3.out.trans ((HC5.out.mono HC3.out.size).trans (hbf.mono (by omega))))
  obtain ⟨cc, A, cap, cb, cf, ca, hc1, -, t1, -, t2, t3, t4⟩ := hA
  obtain ⟨A1, p1, rfl, -, -⟩ := t1
  obtain ⟨A2, p2, rfl, -, -⟩ := t2
  obtain ⟨A3, p3, rfl, -, -⟩ := t3
  obtain ⟨A4, p4, rfl, -, -⟩ := t4
  obtain ⟨dd, B, cap', db, df, da, hc2, -, u1, -, u2, u3, u4⟩ := hB
  obtain ⟨B1, q1, rfl, -, hk⟩ := u1
  have lx := lt_of_heap' j1
  have ly := lt_of_heap' j2
  rcases hk with hk | ⟨kb, ko, rfl, -, hkl, ⟨e0, h0, g0⟩, ⟨e1, h1, g1⟩, -⟩
  · cases hk
  obtain ⟨D0, r0, rfl, -, -⟩ := g0
  obtain ⟨D1, r1, rfl, -, hk1⟩ := g1
  rcases hk1 with hk1 | ⟨kc, kp, rfl, -, hkl1, ⟨e2, h2, g2⟩, -⟩
  · cases hk1
  obtain ⟨D2, r2, rfl, -, -⟩ := g2
  rw [hc1] at j1
  rw [hc2] at j2
  have xa0 : wf.cell? ⟨w1.heap.size, 0, none⟩ = some (vs [112, 49]) := cell_of_blk (o := 0) j1 rfl
  have xa1 : wf.cell? ⟨w1.heap.size, 1, none⟩ = some (.int .i64 2) := cell_of_blk (o := 1) j1 rfl
  have xa2 : wf.cell? ⟨w1.heap.size, 2, none⟩ = some (.int .i64 2) := cell_of_blk (o := 2) j1 rfl
  have xa3 : wf.cell? ⟨w1.heap.size, 3, none⟩ = some (vs [116, 97, 120]) := cell_of_blk (o := 3) j1 rfl
  have xa4 : wf.cell? ⟨w1.heap.size, 4, none⟩ = some (.int .i64 5) := cell_of_blk (o := 4) j1 rfl
  have xa5 : wf.cell? ⟨w1.heap.size, 5, none⟩ = some (.int .i64 1) := cell_of_blk (o := 5) j1 rfl
  have xa11 : wf.cell? ⟨w1.heap.size, 11, none⟩ = some (.int .i64 1) := cell_of_blk (o := 11) j1 rfl
  have xa15 : wf.cell? ⟨w1.heap.size, 15, none⟩ = some (.int .i64 2) := cell_of_blk (o := 15) j1 rfl
  have xb1 : wf.cell? ⟨w2.heap.size, 1, none⟩ = some (.int .i64 3) := cell_of_blk (o := 1) j2 rfl
  have xb2 : wf.cell? ⟨w2.heap.size, 2, none⟩ = some (.int .i64 1) := cell_of_blk (o := 2) j2 rfl
  have xb5 : wf.cell? ⟨w2.heap.size, 5, none⟩ = some (.int .i64 6) := cell_of_blk (o := 5) j2 rfl
  have xb9 : wf.cell? ⟨w2.heap.size, 9, none⟩ = some (.slice (some ⟨kb, ko, none⟩) 2 q1) := cell_of_blk (o := 9) j2 rfl
  have y2 : wf.cell? ⟨kb, ko + 2, none⟩ = some (.int .i64 6) := h0 2 _ rfl
  have y3 : wf.cell? ⟨kb, ko + 3, none⟩ = some (.int .i64 18) := h0 3 _ rfl
  have y4 : wf.cell? ⟨kb, ko + 5 + 4, none⟩ = some (.slice (some ⟨kc, kp, none⟩) 1 r1) := h1 4 _ rfl
  have y5 : wf.cell? ⟨kc, kp + 1, none⟩ = some (vs [112, 111, 111, 114]) := h2 1 _ rfl
  clear hbf j1 j2 h0 h1 h2 hc1 hc2 k1 k2 z5 z51
  go_wp2_with fail
  go_ret
  exact ⟨rfl, HWF.out⟩
end Go.Proofs.YtcekampdldkjlaaGreatDoor
