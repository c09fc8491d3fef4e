/- The law CommuteSwaps. -/
import Derived.Test.YtfolcjkednmkoaaCSound
set_option linter.unusedVariables false
set_option linter.unusedSimpArgs false
namespace Go.Proofs.Ytfolcjkednmkoaa
open Go.RowKit
theorem two_boxes (W : World) (x y : Patch) : Below W.heap.size W ((((W.alloc (.cells (patCs zeroP) 28)).alloc (.cells (patCs zeroP) 28)).setRow W.heap.size (patCs x)).setRow (W.heap.size + 1) (patCs y)) ∧
    ((((W.alloc (.cells (patCs zeroP) 28)).alloc (.cells (patCs zeroP) 28)).setRow W.heap.size (patCs x)).setRow (W.heap.size + 1) (patCs y)).blk W.heap.size = some (.cells (patCs x) 28 (0, 0)) ∧
    ((((W.alloc (.cells (patCs zeroP) 28)).alloc (.cells (patCs zeroP) 28)).setRow W.heap.size (patCs x)).setRow (W.heap.size + 1) (patCs y)).blk (W.heap.size + 1) = some (.cells (patCs y) 28 (0, 0)) := by
  have h1 : ((W.alloc (.cells (patCs zeroP) 28)).alloc (.cells (patCs zeroP) 28)).blk W.heap.size = some (.cells (patCs zeroP) 28 (0, 0)) := (blk_alloc_lt (by simp)).trans (blk_alloc_at rfl)
  have h2 : ((W.alloc (.cells (patCs zeroP) 28)).alloc (.cells (patCs zeroP) 28)).blk (W.heap.size + 1) = some (.cells (patCs zeroP) 28 (0, 0)) := blk_alloc_at (by simp)
  refine ⟨below_setRow (below_setRow (bl1 (bl1 (Below.refl _ _) _) _) (Nat.le_refl _) _) (by omega) _, ?_, ?_⟩
  · exact (blk_setRow_ne (by omega)).trans (blk_setRow_at h1)
  · exact blk_setRow_at ((blk_setRow_ne (by omega)).trans h2)
set_option maxRecDepth 20000 in
set_option maxHeartbeats 8000000 in
theorem cswaps_a (l : List Item) (A : Option Addr) (c : Nat) (a b : Patch) (w : World) (m : Int) (hr : RdI w A l) (hl : l.length ≤ maxLen) (hlc : l.length ≤ c) (hfit : ∀ x ∈ l, x.Fits) (hpa : a.Fits) (hpb : b.Fits) (hg : w.cell? ⟨0, 0, none⟩ = some (.int .i64 m)) (hli : lightB l [a, b] = false) : Calls Try.prog 4 #[.agg #[.slice A l.length c], a.agg, b.agg] w fun e w' => e = .returned (.bool true) ∧ Below w.heap.size w w' := by
  have HR := Lib.hid hr; clear hr
  have HG := Lib.hid hg; clear hg
  have HFI := Lib.hid hfit; clear hfit
  have HLI := Lib.hid hli; clear hli
  have HB0 : Hid (Below w.heap.size w ((((w.alloc (.cells #[.slice A l.length c] 24)).alloc (.cells (patCs a) 28)).alloc (.cells (patCs b) 28)))) := Lib.hid ((((Below.refl w.heap.size w).alloc (Nat.le_refl _) (.cells #[.slice A l.length c] 24)).alloc (by simp) (.cells (patCs a) 28)).alloc (by simp; omega) (.cells (patCs b) 28))
  have C0 : ((((w.alloc (.cells #[.slice A l.length c] 24)).alloc (.cells (patCs a) 28)).alloc (.cells (patCs b) 28))).cell? ⟨w.heap.size, 0, none⟩ = some (.slice A l.length c) := by simp [go_sem]
  have PA0 : ((((w.alloc (.cells #[.slice A l.length c] 24)).alloc (.cells (patCs a) 28)).alloc (.cells (patCs b) 28))).blk (w.heap.size + 1) = some (.cells (patCs a) 28 (0, 0)) := by simp [go_sem]
  have PB0 : ((((w.alloc (.cells #[.slice A l.length c] 24)).alloc (.cells (patCs a) 28)).alloc (.cells (patCs b) 28))).blk (w.heap.size + 1 + 1) = some (.cells (patCs b) 28 (0, 0)) := by simp [go_sem]
  go_enter Try.func4, Try.ntmps4
  go_wp2_with fail
  refine (head20_any _ m (gcell HB0.out HG.out)).mono ?_
  rintro e w1 ⟨rfl, hb1⟩
  have hx1 := hb1
  have C1 := keepw hx1 C0
  have qC1 := World.block_lt_of_cell? _ _ C1
  have PA1 := rkeepk hx1 PA0
  have qPA1 := lt_of_heap PA1
  have PB1 := rkeepk hx1 PB0
  have qPB1 := lt_of_heap PB1
  have HB1 := Lib.hid (chain2 HB0.out hx1)
  clear hx1 hb1 C0 PA0 PB0 
  go_wp2_with fail
  have hbl := bl1 HB1.out (.cells (twoCs a b) 28)
  refine (light_lit HLI.out A _ c 2 2 _ rfl (HR.out.below hbl) (RdP.lit2 _ a b _ (by simp)) hl HFI.out (two_fits hpa hpb)).mono ?_
  rintro e w2 ⟨rfl, hb2⟩
  clear hbl
  have hx2 := (step_below hb2)
  have C2 := keepw hx2 C1
  have qC2 := World.block_lt_of_cell? _ _ C2
  have PA2 := rkeepk hx2 PA1
  have qPA2 := lt_of_heap PA2
  have PB2 := rkeepk hx2 PB1
  have qPB2 := lt_of_heap PB2
  have HB2 := Lib.hid (chain2 HB1.out hx2)
  clear hx2 hb2 C1 qC1 PA1 qPA1 PB1 qPB1 
  go_wp2_with fail
  go_ret
  exact ⟨rfl, HB2.out⟩
set_option maxRecDepth 20000 in
set_option maxHeartbeats 8000000 in
theorem cswaps_b (l : List Item) (A : Option Addr) (c : Nat) (a b : Patch) (w : World) (m : Int) (hr : RdI w A l) (hl : l.length ≤ maxLen) (hlc : l.length ≤ c) (hfit : ∀ x ∈ l, x.Fits) (hpa : a.Fits) (hpb : b.Fits) (hg : w.cell? ⟨0, 0, none⟩ = some (.int .i64 m)) (hli : lightB l [a, b] = true) (hsw : swapF l a b = (zeroP, zeroP, false)) (d : List Item) (i0 er : Int) (hal : allR l [a, b] = (d, i0, er)) (h0 : (er != 0) = true) : Calls Try.prog 4 #[.agg #[.slice A l.length c], a.agg, b.agg] w fun e w' => e = .returned (.bool true) ∧ Below w.heap.size w w' := by
  have HSW := Lib.hid hsw; clear hsw
  have HAL := Lib.hid hal; clear hal
  obtain ⟨hl30, hsh, ra, rb⟩ := two_light hli
  have HSH := Lib.hid hsh; clear hsh
  have HR := Lib.hid hr; clear hr
  have HG := Lib.hid hg; clear hg
  have HFI := Lib.hid hfit; clear hfit
  have HLI := Lib.hid hli; clear hli
  have HB0 : Hid (Below w.heap.size w ((((w.alloc (.cells #[.slice A l.length c] 24)).alloc (.cells (patCs a) 28)).alloc (.cells (patCs b) 28)))) := Lib.hid ((((Below.refl w.heap.size w).alloc (Nat.le_refl _) (.cells #[.slice A l.length c] 24)).alloc (by simp) (.cells (patCs a) 28)).alloc (by simp; omega) (.cells (patCs b) 28))
  have C0 : ((((w.alloc (.cells #[.slice A l.length c] 24)).alloc (.cells (patCs a) 28)).alloc (.cells (patCs b) 28))).cell? ⟨w.heap.size, 0, none⟩ = some (.slice A l.length c) := by simp [go_sem]
  have PA0 : ((((w.alloc (.cells #[.slice A l.length c] 24)).alloc (.cells (patCs a) 28)).alloc (.cells (patCs b) 28))).blk (w.heap.size + 1) = some (.cells (patCs a) 28 (0, 0)) := by simp [go_sem]
  have PB0 : ((((w.alloc (.cells #[.slice A l.length c] 24)).alloc (.cells (patCs a) 28)).alloc (.cells (patCs b) 28))).blk (w.heap.size + 1 + 1) = some (.cells (patCs b) 28 (0, 0)) := by simp [go_sem]
  go_enter Try.func4, Try.ntmps4
  go_wp2_with fail
  refine (head20_any _ m (gcell HB0.out HG.out)).mono ?_
  rintro e w1 ⟨rfl, hb1⟩
  have hx1 := hb1
  have C1 := keepw hx1 C0
  have qC1 := World.block_lt_of_cell? _ _ C1
  have PA1 := rkeepk hx1 PA0
  have qPA1 := lt_of_heap PA1
  have PB1 := rkeepk hx1 PB0
  have qPB1 := lt_of_heap PB1
  have HB1 := Lib.hid (chain2 HB0.out hx1)
  clear hx1 hb1 C0 PA0 PB0 
  go_wp2_with fail
  have hbl := bl1 HB1.out (.cells (twoCs a b) 28)
  refine (light_lit HLI.out A _ c 2 2 _ rfl (HR.out.below hbl) (RdP.lit2 _ a b _ (by simp)) hl HFI.out (two_fits hpa hpb)).mono ?_
  rintro e w2 ⟨rfl, hb2⟩
  clear hbl
  have hx2 := (step_below hb2)
  have C2 := keepw hx2 C1
  have qC2 := World.block_lt_of_cell? _ _ C2
  have PA2 := rkeepk hx2 PA1
  have qPA2 := lt_of_heap PA2
  have PB2 := rkeepk hx2 PB1
  have qPB2 := lt_of_heap PB2
  have HB2 := Lib.hid (chain2 HB1.out hx2)
  clear hx2 hb2 C1 qC1 PA1 qPA1 PB1 qPB1 
  go_wp2_with fail
  refine (swap_lit HSW.out A _ c _ rfl (HR.out.below HB2.out) (by omega) hlc HSH.out ra rb m (gcell HB2.out HG.out)).mono ?_
  rintro e w3 ⟨rfl, hb3⟩
  have hx3 := hb3
  have C3 := keepw hx3 C2
  have qC3 := World.block_lt_of_cell? _ _ C3
  have PA3 := rkeepk hx3 PA2
  have qPA3 := lt_of_heap PA3
  have PB3 := rkeepk hx3 PB2
  have qPB3 := lt_of_heap PB3
  have HB3 := Lib.hid (chain2 HB2.out hx3)
  clear hx3 hb3 C2 qC2 PA2 qPA2 PB2 qPB2 
  go_upto_region 5 with fail
  generalize hW : World.setRow (World.setRow (World.alloc (World.alloc w3 _) _) _ _) _ _ = w4
  have h9 : Below w3.heap.size w3 w4 ∧ w4.blk w3.heap.size = some (.cells (patCs zeroP) 28 (0, 0)) ∧ w4.blk (w3.heap.size + 1) = some (.cells (patCs zeroP) 28 (0, 0)) := by rw [← hW]; exact two_boxes w3 zeroP zeroP
  clear hW
  obtain ⟨hb4, h91, h92⟩ := h9
  have hx4 := hb4
  have C4 := keepw hx4 C3
  have qC4 := World.block_lt_of_cell? _ _ C4
  have PA4 := rkeepk hx4 PA3
  have qPA4 := lt_of_heap PA4
  have PB4 := rkeepk hx4 PB3
  have qPB4 := lt_of_heap PB4
  have HB4 := Lib.hid (chain2 HB3.out hx4)
  clear hx4 hb4 C3 qC3 PA3 qPA3 PB3 qPB3 
  have X4 : w4.blk (w3.heap.size) = some (.cells (patCs zeroP) 28 (0, 0)) := h91
  have qX4 := lt_of_heap X4
  have Y4 : w4.blk (w3.heap.size + 1) = some (.cells (patCs zeroP) 28 (0, 0)) := h92
  have qY4 := lt_of_heap Y4
  clear h91 h92
  go_wp2_with fail
  have hbl := bl1 HB4.out (.cells (twoCs a b) 28)
  refine (all_lit HAL.out A _ 2 c 2 _ rfl (HR.out.below hbl) (RdP.lit2 _ a b _ (by simp)) (by omega) hlc HSH.out (by simp) (two_ready ra rb) m (gcell hbl HG.out)).mono ?_
  rintro e w5 ⟨At, ct, rfl, hrd, hcd5, hb5⟩
  clear hbl hcd5
  have hx5 := (step_below hb5)
  have C5 := keepw hx5 C4
  have qC5 := World.block_lt_of_cell? _ _ C5
  have PA5 := rkeepk hx5 PA4
  have qPA5 := lt_of_heap PA5
  have PB5 := rkeepk hx5 PB4
  have qPB5 := lt_of_heap PB5
  have X5 := rkeepk hx5 X4
  have qX5 := lt_of_heap X5
  have Y5 := rkeepk hx5 Y4
  have qY5 := lt_of_heap Y5
  have HB5 := Lib.hid (chain2 HB4.out hx5)
  clear hx5 hb5 C4 qC4 PA4 qPA4 PB4 qPB4 X4 qX4 Y4 qY4 
  have HT5 := Lib.hid (hrd)
  clear hrd
  go_wp2_with fail
  go_ret
  exact ⟨rfl, bl1 HB5.out _⟩
set_option maxRecDepth 20000 in
set_option maxHeartbeats 8000000 in
theorem cswaps_c (l : List Item) (A : Option Addr) (c : Nat) (a b : Patch) (w : World) (m : Int) (hr : RdI w A l) (hl : l.length ≤ maxLen) (hlc : l.length ≤ c) (hfit : ∀ x ∈ l, x.Fits) (hpa : a.Fits) (hpb : b.Fits) (hg : w.cell? ⟨0, 0, none⟩ = some (.int .i64 m)) (hli : lightB l [a, b] = true) (hsw : swapF l a b = (zeroP, zeroP, false)) (d : List Item) (i0 er : Int) (hal : allR l [a, b] = (d, i0, er)) (h0 : (er != 0) = false) (hcc : commF a b = false) : Calls Try.prog 4 #[.agg #[.slice A l.length c], a.agg, b.agg] w fun e w' => e = .returned (.bool true) ∧ Below w.heap.size w w' := by
  have HSW := Lib.hid hsw; clear hsw
  have HAL := Lib.hid hal; clear hal
  obtain ⟨hl30, hsh, ra, rb⟩ := two_light hli
  have HSH := Lib.hid hsh; clear hsh
  have HR := Lib.hid hr; clear hr
  have HG := Lib.hid hg; clear hg
  have HFI := Lib.hid hfit; clear hfit
  have HLI := Lib.hid hli; clear hli
  have HB0 : Hid (Below w.heap.size w ((((w.alloc (.cells #[.slice A l.length c] 24)).alloc (.cells (patCs a) 28)).alloc (.cells (patCs b) 28)))) := Lib.hid ((((Below.refl w.heap.size w).alloc (Nat.le_refl _) (.cells #[.slice A l.length c] 24)).alloc (by simp) (.cells (patCs a) 28)).alloc (by simp; omega) (.cells (patCs b) 28))
  have C0 : ((((w.alloc (.cells #[.slice A l.length c] 24)).alloc (.cells (patCs a) 28)).alloc (.cells (patCs b) 28))).cell? ⟨w.heap.size, 0, none⟩ = some (.slice A l.length c) := by simp [go_sem]
  have PA0 : ((((w.alloc (.cells #[.slice A l.length c] 24)).alloc (.cells (patCs a) 28)).alloc (.cells (patCs b) 28))).blk (w.heap.size + 1) = some (.cells (patCs a) 28 (0, 0)) := by simp [go_sem]
  have PB0 : ((((w.alloc (.cells #[.slice A l.length c] 24)).alloc (.cells (patCs a) 28)).alloc (.cells (patCs b) 28))).blk (w.heap.size + 1 + 1) = some (.cells (patCs b) 28 (0, 0)) := by simp [go_sem]
  go_enter Try.func4, Try.ntmps4
  go_wp2_with fail
  refine (head20_any _ m (gcell HB0.out HG.out)).mono ?_
  rintro e w1 ⟨rfl, hb1⟩
  have hx1 := hb1
  have C1 := keepw hx1 C0
  have qC1 := World.block_lt_of_cell? _ _ C1
  have PA1 := rkeepk hx1 PA0
  have qPA1 := lt_of_heap PA1
  have PB1 := rkeepk hx1 PB0
  have qPB1 := lt_of_heap PB1
  have HB1 := Lib.hid (chain2 HB0.out hx1)
  clear hx1 hb1 C0 PA0 PB0 
  go_wp2_with fail
  have hbl := bl1 HB1.out (.cells (twoCs a b) 28)
  refine (light_lit HLI.out A _ c 2 2 _ rfl (HR.out.below hbl) (RdP.lit2 _ a b _ (by simp)) hl HFI.out (two_fits hpa hpb)).mono ?_
  rintro e w2 ⟨rfl, hb2⟩
  clear hbl
  have hx2 := (step_below hb2)
  have C2 := keepw hx2 C1
  have qC2 := World.block_lt_of_cell? _ _ C2
  have PA2 := rkeepk hx2 PA1
  have qPA2 := lt_of_heap PA2
  have PB2 := rkeepk hx2 PB1
  have qPB2 := lt_of_heap PB2
  have HB2 := Lib.hid (chain2 HB1.out hx2)
  clear hx2 hb2 C1 qC1 PA1 qPA1 PB1 qPB1 
  go_wp2_with fail
  refine (swap_lit HSW.out A _ c _ rfl (HR.out.below HB2.out) (by omega) hlc HSH.out ra rb m (gcell HB2.out HG.out)).mono ?_
  rintro e w3 ⟨rfl, hb3⟩
  have hx3 := hb3
  have C3 := keepw hx3 C2
  have qC3 := World.block_lt_of_cell? _ _ C3
  have PA3 := rkeepk hx3 PA2
  have qPA3 := lt_of_heap PA3
  have PB3 := rkeepk hx3 PB2
  have qPB3 := lt_of_heap PB3
  have HB3 := Lib.hid (chain2 HB2.out hx3)
  clear hx3 hb3 C2 qC2 PA2 qPA2 PB2 qPB2 
  go_upto_region 5 with fail
  generalize hW : World.setRow (World.setRow (World.alloc (World.alloc w3 _) _) _ _) _ _ = w4
  have h9 : Below w3.heap.size w3 w4 ∧ w4.blk w3.heap.size = some (.cells (patCs zeroP) 28 (0, 0)) ∧ w4.blk (w3.heap.size + 1) = some (.cells (patCs zeroP) 28 (0, 0)) := by rw [← hW]; exact two_boxes w3 zeroP zeroP
  clear hW
  obtain ⟨hb4, h91, h92⟩ := h9
  have hx4 := hb4
  have C4 := keepw hx4 C3
  have qC4 := World.block_lt_of_cell? _ _ C4
  have PA4 := rkeepk hx4 PA3
  have qPA4 := lt_of_heap PA4
  have PB4 := rkeepk hx4 PB3
  have qPB4 := lt_of_heap PB4
  have HB4 := Lib.hid (chain2 HB3.out hx4)
  clear hx4 hb4 C3 qC3 PA3 qPA3 PB3 qPB3 
  have X4 : w4.blk (w3.heap.size) = some (.cells (patCs zeroP) 28 (0, 0)) := h91
  have qX4 := lt_of_heap X4
  have Y4 : w4.blk (w3.heap.size + 1) = some (.cells (patCs zeroP) 28 (0, 0)) := h92
  have qY4 := lt_of_heap Y4
  clear h91 h92
  go_wp2_with fail
  have hbl := bl1 HB4.out (.cells (twoCs a b) 28)
  refine (all_lit HAL.out A _ 2 c 2 _ rfl (HR.out.below hbl) (RdP.lit2 _ a b _ (by simp)) (by omega) hlc HSH.out (by simp) (two_ready ra rb) m (gcell hbl HG.out)).mono ?_
  rintro e w5 ⟨At, ct, rfl, hrd, hcd5, hb5⟩
  clear hbl hcd5
  have hx5 := (step_below hb5)
  have C5 := keepw hx5 C4
  have qC5 := World.block_lt_of_cell? _ _ C5
  have PA5 := rkeepk hx5 PA4
  have qPA5 := lt_of_heap PA5
  have PB5 := rkeepk hx5 PB4
  have qPB5 := lt_of_heap PB5
  have X5 := rkeepk hx5 X4
  have qX5 := lt_of_heap X5
  have Y5 := rkeepk hx5 Y4
  have qY5 := lt_of_heap Y5
  have HB5 := Lib.hid (chain2 HB4.out hx5)
  clear hx5 hb5 C4 qC4 PA4 qPA4 PB4 qPB4 X4 qX4 Y4 qY4 
  have HT5 := Lib.hid (hrd)
  clear hrd
  go_wp2_with fail
  refine (comm_lit hcc ra rb _ m (gcell (bl1 HB5.out _) HG.out)).mono ?_
  rintro e w6 ⟨rfl, hb6⟩
  have hx6 := (step_below hb6)
  have C6 := keepw hx6 C5
  have qC6 := World.block_lt_of_cell? _ _ C6
  have PA6 := rkeepk hx6 PA5
  have qPA6 := lt_of_heap PA6
  have PB6 := rkeepk hx6 PB5
  have qPB6 := lt_of_heap PB6
  have X6 := rkeepk hx6 X5
  have qX6 := lt_of_heap X6
  have Y6 := rkeepk hx6 Y5
  have qY6 := lt_of_heap Y6
  have T6 : w6.cell? ⟨w5.heap.size, 0, none⟩ = some (.slice At d.length ct) := bx_c hb6 (by first | rfl | simp)
  have qT6 := World.block_lt_of_cell? _ _ T6
  have HT6 := Lib.hid (HT5.out.below hx6)
  have HB6 := Lib.hid (chain2 HB5.out hx6)
  clear hx6 hb6 C5 qC5 PA5 qPA5 PB5 qPB5 X5 qX5 Y5 qY5 HT5
  go_wp2_with fail
  go_ret
  exact ⟨rfl, HB6.out⟩
set_option maxRecDepth 20000 in
set_option maxHeartbeats 8000000 in
theorem cswaps_d (l : List Item) (A : Option Addr) (c : Nat) (a b : Patch) (w : World) (m : Int) (hr : RdI w A l) (hl : l.length ≤ maxLen) (hlc : l.length ≤ c) (hfit : ∀ x ∈ l, x.Fits) (hpa : a.Fits) (hpb : b.Fits) (hg : w.cell? ⟨0, 0, none⟩ = some (.int .i64 m)) (hli : lightB l [a, b] = true) (x y u v : Patch) (hsw : swapF l a b = (x, y, true)) (hsx : swapF l x y = (u, v, true)) (d : List Item) (i0 : Int) (hal : allR l [a, b] = (d, i0, 0)) (ham : allR l [x, y] = (d, i0, 0)) (han : allR l [u, v] = (d, i0, 0)) (rx : x.Ready) (ry : y.Ready) (ru : u.Ready) (rv : v.Ready) : Calls Try.prog 4 #[.agg #[.slice A l.length c], a.agg, b.agg] w fun e w' => e = .returned (.bool true) ∧ Below w.heap.size w w' := by
  have HSW := Lib.hid hsw; clear hsw
  have HSX := Lib.hid hsx; clear hsx
  have hdl : d.length ≤ 100000 := by have := allRL_len l [a, b] (by have := (two_light hli).1; omega); rw [hal] at this; exact this
  have HAL := Lib.hid hal; clear hal
  have HAM := Lib.hid ham; clear ham
  have HAN := Lib.hid han; clear han
  obtain ⟨hl30, hsh, ra, rb⟩ := two_light hli
  have HSH := Lib.hid hsh; clear hsh
  have HR := Lib.hid hr; clear hr
  have HG := Lib.hid hg; clear hg
  have HFI := Lib.hid hfit; clear hfit
  have HLI := Lib.hid hli; clear hli
  have HB0 : Hid (Below w.heap.size w ((((w.alloc (.cells #[.slice A l.length c] 24)).alloc (.cells (patCs a) 28)).alloc (.cells (patCs b) 28)))) := Lib.hid ((((Below.refl w.heap.size w).alloc (Nat.le_refl _) (.cells #[.slice A l.length c] 24)).alloc (by simp) (.cells (patCs a) 28)).alloc (by simp; omega) (.cells (patCs b) 28))
  have C0 : ((((w.alloc (.cells #[.slice A l.length c] 24)).alloc (.cells (patCs a) 28)).alloc (.cells (patCs b) 28))).cell? ⟨w.heap.size, 0, none⟩ = some (.slice A l.length c) := by simp [go_sem]
  have PA0 : ((((w.alloc (.cells #[.slice A l.length c] 24)).alloc (.cells (patCs a) 28)).alloc (.cells (patCs b) 28))).blk (w.heap.size + 1) = some (.cells (patCs a) 28 (0, 0)) := by simp [go_sem]
  have PB0 : ((((w.alloc (.cells #[.slice A l.length c] 24)).alloc (.cells (patCs a) 28)).alloc (.cells (patCs b) 28))).blk (w.heap.size + 1 + 1) = some (.cells (patCs b) 28 (0, 0)) := by simp [go_sem]
  go_enter Try.func4, Try.ntmps4
  go_wp2_with fail
  refine (head20_any _ m (gcell HB0.out HG.out)).mono ?_
  rintro e w1 ⟨rfl, hb1⟩
  have hx1 := hb1
  have C1 := keepw hx1 C0
  have qC1 := World.block_lt_of_cell? _ _ C1
  have PA1 := rkeepk hx1 PA0
  have qPA1 := lt_of_heap PA1
  have PB1 := rkeepk hx1 PB0
  have qPB1 := lt_of_heap PB1
  have HB1 := Lib.hid (chain2 HB0.out hx1)
  clear hx1 hb1 C0 PA0 PB0 
  go_wp2_with fail
  have hbl := bl1 HB1.out (.cells (twoCs a b) 28)
  refine (light_lit HLI.out A _ c 2 2 _ rfl (HR.out.below hbl) (RdP.lit2 _ a b _ (by simp)) hl HFI.out (two_fits hpa hpb)).mono ?_
  rintro e w2 ⟨rfl, hb2⟩
  clear hbl
  have hx2 := (step_below hb2)
  have C2 := keepw hx2 C1
  have qC2 := World.block_lt_of_cell? _ _ C2
  have PA2 := rkeepk hx2 PA1
  have qPA2 := lt_of_heap PA2
  have PB2 := rkeepk hx2 PB1
  have qPB2 := lt_of_heap PB2
  have HB2 := Lib.hid (chain2 HB1.out hx2)
  clear hx2 hb2 C1 qC1 PA1 qPA1 PB1 qPB1 
  go_wp2_with fail
  refine (swap_lit HSW.out A _ c _ rfl (HR.out.below HB2.out) (by omega) hlc HSH.out ra rb m (gcell HB2.out HG.out)).mono ?_
  rintro e w3 ⟨rfl, hb3⟩
  have hx3 := hb3
  have C3 := keepw hx3 C2
  have qC3 := World.block_lt_of_cell? _ _ C3
  have PA3 := rkeepk hx3 PA2
  have qPA3 := lt_of_heap PA3
  have PB3 := rkeepk hx3 PB2
  have qPB3 := lt_of_heap PB3
  have HB3 := Lib.hid (chain2 HB2.out hx3)
  clear hx3 hb3 C2 qC2 PA2 qPA2 PB2 qPB2 
  go_upto_region 5 with fail
  generalize hW : World.setRow (World.setRow (World.alloc (World.alloc w3 _) _) _ _) _ _ = w4
  have h9 : Below w3.heap.size w3 w4 ∧ w4.blk w3.heap.size = some (.cells (patCs x) 28 (0, 0)) ∧ w4.blk (w3.heap.size + 1) = some (.cells (patCs y) 28 (0, 0)) := by rw [← hW]; exact two_boxes w3 x y
  clear hW
  obtain ⟨hb4, h91, h92⟩ := h9
  have hx4 := hb4
  have C4 := keepw hx4 C3
  have qC4 := World.block_lt_of_cell? _ _ C4
  have PA4 := rkeepk hx4 PA3
  have qPA4 := lt_of_heap PA4
  have PB4 := rkeepk hx4 PB3
  have qPB4 := lt_of_heap PB4
  have HB4 := Lib.hid (chain2 HB3.out hx4)
  clear hx4 hb4 C3 qC3 PA3 qPA3 PB3 qPB3 
  have X4 : w4.blk (w3.heap.size) = some (.cells (patCs x) 28 (0, 0)) := h91
  have qX4 := lt_of_heap X4
  have Y4 : w4.blk (w3.heap.size + 1) = some (.cells (patCs y) 28 (0, 0)) := h92
  have qY4 := lt_of_heap Y4
  clear h91 h92
  go_wp2_with fail
  have hbl := bl1 HB4.out (.cells (twoCs a b) 28)
  refine (all_lit HAL.out A _ 2 c 2 _ rfl (HR.out.below hbl) (RdP.lit2 _ a b _ (by simp)) (by omega) hlc HSH.out (by simp) (two_ready ra rb) m (gcell hbl HG.out)).mono ?_
  rintro e w5 ⟨At, ct, rfl, hrd, hcd5, hb5⟩
  clear hbl hcd5
  have hx5 := (step_below hb5)
  have C5 := keepw hx5 C4
  have qC5 := World.block_lt_of_cell? _ _ C5
  have PA5 := rkeepk hx5 PA4
  have qPA5 := lt_of_heap PA5
  have PB5 := rkeepk hx5 PB4
  have qPB5 := lt_of_heap PB5
  have X5 := rkeepk hx5 X4
  have qX5 := lt_of_heap X5
  have Y5 := rkeepk hx5 Y4
  have qY5 := lt_of_heap Y5
  have HB5 := Lib.hid (chain2 HB4.out hx5)
  clear hx5 hb5 C4 qC4 PA4 qPA4 PB4 qPB4 X4 qX4 Y4 qY4 
  have HT5 := Lib.hid (hrd)
  clear hrd
  go_wp2_with fail
  have hbl := bl1 (bl1 HB5.out ((.cells #[.slice At d.length ct] 24))) (.cells (twoCs x y) 28)
  refine (all_lit HAM.out A _ 2 c 2 _ rfl (HR.out.below hbl) (RdP.lit2 _ x y _ (by simp)) (by omega) hlc HSH.out (by simp) (two_ready rx ry) m (gcell hbl HG.out)).mono ?_
  rintro e w6 ⟨Ag, cg, rfl, hrd, hcd6, hb6⟩
  clear hbl hcd6
  have hx6 := (step_below (step_below hb6))
  have C6 := keepw hx6 C5
  have qC6 := World.block_lt_of_cell? _ _ C6
  have PA6 := rkeepk hx6 PA5
  have qPA6 := lt_of_heap PA6
  have PB6 := rkeepk hx6 PB5
  have qPB6 := lt_of_heap PB6
  have X6 := rkeepk hx6 X5
  have qX6 := lt_of_heap X6
  have Y6 := rkeepk hx6 Y5
  have qY6 := lt_of_heap Y6
  have T6 : w6.cell? ⟨w5.heap.size, 0, none⟩ = some (.slice At d.length ct) := bx_c (step_below hb6) (by first | rfl | simp)
  have qT6 := World.block_lt_of_cell? _ _ T6
  have HT6 := Lib.hid (HT5.out.below hx6)
  have HB6 := Lib.hid (chain2 HB5.out hx6)
  clear hx6 hb6 C5 qC5 PA5 qPA5 PB5 qPB5 X5 qX5 Y5 qY5 HT5
  have HGT6 := Lib.hid (hrd)
  clear hrd
  go_wp2_with fail
  refine (swap_lit HSX.out A _ c _ rfl (HR.out.below (bl1 HB6.out _)) (by omega) hlc HSH.out rx ry m (gcell (bl1 HB6.out _) HG.out)).mono ?_
  rintro e w7 ⟨rfl, hb7⟩
  have hx7 := (step_below hb7)
  have C7 := keepw hx7 C6
  have qC7 := World.block_lt_of_cell? _ _ C7
  have PA7 := rkeepk hx7 PA6
  have qPA7 := lt_of_heap PA7
  have PB7 := rkeepk hx7 PB6
  have qPB7 := lt_of_heap PB7
  have X7 := rkeepk hx7 X6
  have qX7 := lt_of_heap X7
  have Y7 := rkeepk hx7 Y6
  have qY7 := lt_of_heap Y7
  have T7 := keepw hx7 T6
  have qT7 := World.block_lt_of_cell? _ _ T7
  have GT7 : w7.cell? ⟨w6.heap.size, 0, none⟩ = some (.slice Ag d.length cg) := bx_c hb7 (by first | rfl | simp)
  have qGT7 := World.block_lt_of_cell? _ _ GT7
  have HT7 := Lib.hid (HT6.out.below hx7)
  have HGT7 := Lib.hid (HGT6.out.below hx7)
  have HB7 := Lib.hid (chain2 HB6.out hx7)
  clear hx7 hb7 C6 qC6 PA6 qPA6 PB6 qPB6 X6 qX6 Y6 qY6 T6 qT6 HT6 HGT6
  go_upto_region 10 with fail
  generalize hW : World.setRow (World.setRow (World.alloc (World.alloc w7 _) _) _ _) _ _ = w8
  have h9 : Below w7.heap.size w7 w8 ∧ w8.blk w7.heap.size = some (.cells (patCs u) 28 (0, 0)) ∧ w8.blk (w7.heap.size + 1) = some (.cells (patCs v) 28 (0, 0)) := by rw [← hW]; exact two_boxes w7 u v
  clear hW
  obtain ⟨hb8, h91, h92⟩ := h9
  have hx8 := hb8
  have C8 := keepw hx8 C7
  have qC8 := World.block_lt_of_cell? _ _ C8
  have PA8 := rkeepk hx8 PA7
  have qPA8 := lt_of_heap PA8
  have PB8 := rkeepk hx8 PB7
  have qPB8 := lt_of_heap PB8
  have X8 := rkeepk hx8 X7
  have qX8 := lt_of_heap X8
  have Y8 := rkeepk hx8 Y7
  have qY8 := lt_of_heap Y8
  have T8 := keepw hx8 T7
  have qT8 := World.block_lt_of_cell? _ _ T8
  have GT8 := keepw hx8 GT7
  have qGT8 := World.block_lt_of_cell? _ _ GT8
  have HT8 := Lib.hid (HT7.out.below hx8)
  have HGT8 := Lib.hid (HGT7.out.below hx8)
  have HB8 := Lib.hid (chain2 HB7.out hx8)
  clear hx8 hb8 C7 qC7 PA7 qPA7 PB7 qPB7 X7 qX7 Y7 qY7 T7 qT7 GT7 qGT7 HT7 HGT7
  have U8 : w8.blk (w7.heap.size) = some (.cells (patCs u) 28 (0, 0)) := h91
  have qU8 := lt_of_heap U8
  have V8 : w8.blk (w7.heap.size + 1) = some (.cells (patCs v) 28 (0, 0)) := h92
  have qV8 := lt_of_heap V8
  clear h91 h92
  go_wp2_with fail
  have hbl := bl1 HB8.out (.cells (twoCs u v) 28)
  refine (all_lit HAN.out A _ 2 c 2 _ rfl (HR.out.below hbl) (RdP.lit2 _ u v _ (by simp)) (by omega) hlc HSH.out (by simp) (two_ready ru rv) m (gcell hbl HG.out)).mono ?_
  rintro e w9 ⟨Ak, ck, rfl, hrd, hcd9, hb9⟩
  clear hbl hcd9
  have hx9 := (step_below hb9)
  have C9 := keepw hx9 C8
  have qC9 := World.block_lt_of_cell? _ _ C9
  have PA9 := rkeepk hx9 PA8
  have qPA9 := lt_of_heap PA9
  have PB9 := rkeepk hx9 PB8
  have qPB9 := lt_of_heap PB9
  have X9 := rkeepk hx9 X8
  have qX9 := lt_of_heap X9
  have Y9 := rkeepk hx9 Y8
  have qY9 := lt_of_heap Y9
  have T9 := keepw hx9 T8
  have qT9 := World.block_lt_of_cell? _ _ T9
  have GT9 := keepw hx9 GT8
  have qGT9 := World.block_lt_of_cell? _ _ GT9
  have U9 := rkeepk hx9 U8
  have qU9 := lt_of_heap U9
  have V9 := rkeepk hx9 V8
  have qV9 := lt_of_heap V9
  have HT9 := Lib.hid (HT8.out.below hx9)
  have HGT9 := Lib.hid (HGT8.out.below hx9)
  have HB9 := Lib.hid (chain2 HB8.out hx9)
  clear hx9 hb9 C8 qC8 PA8 qPA8 PB8 qPB8 X8 qX8 Y8 qY8 T8 qT8 GT8 qGT8 U8 qU8 V8 qV8 HT8 HGT8
  have HK9 := Lib.hid (hrd)
  clear hrd
  go_wp2_with fail
  refine (same_lit (r := d) (s := d) rfl Ag At _ _ cg ct _ rfl rfl (HGT9.out.below (bl1 (Below.refl _ _) _)) (HT9.out.below (bl1 (Below.refl _ _) _)) hdl).mono ?_
  rintro e w10 ⟨rfl, hb10⟩
  have hx10 := (step_below hb10)
  have C10 := keepw hx10 C9
  have qC10 := World.block_lt_of_cell? _ _ C10
  have PA10 := rkeepk hx10 PA9
  have qPA10 := lt_of_heap PA10
  have PB10 := rkeepk hx10 PB9
  have qPB10 := lt_of_heap PB10
  have X10 := rkeepk hx10 X9
  have qX10 := lt_of_heap X10
  have Y10 := rkeepk hx10 Y9
  have qY10 := lt_of_heap Y10
  have T10 := keepw hx10 T9
  have qT10 := World.block_lt_of_cell? _ _ T10
  have GT10 := keepw hx10 GT9
  have qGT10 := World.block_lt_of_cell? _ _ GT10
  have U10 := rkeepk hx10 U9
  have qU10 := lt_of_heap U10
  have V10 := rkeepk hx10 V9
  have qV10 := lt_of_heap V10
  have K10 : w10.cell? ⟨w9.heap.size, 0, none⟩ = some (.slice Ak d.length ck) := bx_c hb10 (by first | rfl | simp)
  have qK10 := World.block_lt_of_cell? _ _ K10
  have HT10 := Lib.hid (HT9.out.below hx10)
  have HGT10 := Lib.hid (HGT9.out.below hx10)
  have HK10 := Lib.hid (HK9.out.below hx10)
  have HB10 := Lib.hid (chain2 HB9.out hx10)
  clear hx10 hb10 C9 qC9 PA9 qPA9 PB9 qPB9 X9 qX9 Y9 qY9 T9 qT9 GT9 qGT9 U9 qU9 V9 qV9 HT9 HGT9 HK9
  go_wp2_with fail
  refine (same_lit (r := d) (s := d) rfl Ak At _ _ ck ct _ rfl rfl HK10.out HT10.out hdl).mono ?_
  rintro e w11 ⟨rfl, hb11⟩
  have hx11 := hb11
  have C11 := keepw hx11 C10
  have qC11 := World.block_lt_of_cell? _ _ C11
  have PA11 := rkeepk hx11 PA10
  have qPA11 := lt_of_heap PA11
  have PB11 := rkeepk hx11 PB10
  have qPB11 := lt_of_heap PB11
  have X11 := rkeepk hx11 X10
  have qX11 := lt_of_heap X11
  have Y11 := rkeepk hx11 Y10
  have qY11 := lt_of_heap Y11
  have T11 := keepw hx11 T10
  have qT11 := World.block_lt_of_cell? _ _ T11
  have GT11 := keepw hx11 GT10
  have qGT11 := World.block_lt_of_cell? _ _ GT11
  have U11 := rkeepk hx11 U10
  have qU11 := lt_of_heap U11
  have V11 := rkeepk hx11 V10
  have qV11 := lt_of_heap V11
  have K11 := keepw hx11 K10
  have qK11 := World.block_lt_of_cell? _ _ K11
  have HT11 := Lib.hid (HT10.out.below hx11)
  have HGT11 := Lib.hid (HGT10.out.below hx11)
  have HK11 := Lib.hid (HK10.out.below hx11)
  have HB11 := Lib.hid (chain2 HB10.out hx11)
  clear hx11 hb11 C10 qC10 PA10 qPA10 PB10 qPB10 X10 qX10 Y10 qY10 T10 qT10 GT10 qGT10 U10 qU10 V10 qV10 K10 qK10 HT10 HGT10 HK10
  go_wp2_with fail
  go_ret
  exact ⟨rfl, HB11.out⟩
theorem zeroP_ready : zeroP.Ready := by
  refine ⟨⟨?_, ?_, ?_, ?_, ?_⟩, ?_, ?_⟩ <;> simp [zeroP, noItem]
theorem cswaps_any (l : List Item) (A : Option Addr) (c : Nat) (a b : Patch) (w : World) (m : Int) (hr : RdI w A l) (hl : l.length ≤ maxLen) (hlc : l.length ≤ c) (hfit : ∀ x ∈ l, x.Fits) (hpa : a.Fits) (hpb : b.Fits) (hg : w.cell? ⟨0, 0, none⟩ = some (.int .i64 m)) : Calls Try.prog 4 #[.agg #[.slice A l.length c], a.agg, b.agg] w fun e w' => e = .returned (.bool true) ∧ Below w.heap.size w w' := by
  cases hli : lightB l [a, b] with
  | false => exact cswaps_a l A c a b w m hr hl hlc hfit hpa hpb hg hli
  | true =>
    obtain ⟨-, -, ra, rb⟩ := two_light hli
    cases ho : (swapF l a b).2.2 with
    | false =>
      obtain ⟨h1, h2⟩ := swap_no ho
      by_cases h0 : (allR l [a, b]).2.2 = 0
      · refine cswaps_c l A c a b w m hr hl hlc hfit hpa hpb hg hli h1 (allR l [a, b]).1 (allR l [a, b]).2.1 (allR l [a, b]).2.2 rfl (by simp [h0]) ?_
        rcases h2 with h2 | h2
        · exact absurd h0 h2
        · exact h2
      · exact cswaps_b l A c a b w m hr hl hlc hfit hpa hpb hg hli h1 (allR l [a, b]).1 (allR l [a, b]).2.1 (allR l [a, b]).2.2 rfl (by simpa using h0)
    | true =>
      obtain ⟨h1, h2, h3⟩ := swap_ok ho
      obtain ⟨r1, r2⟩ := swap_ready (l := l) ra rb zeroP_ready
      obtain ⟨x, y, o, hxy⟩ : ∃ x y o, swapF l a b = (x, y, o) := ⟨_, _, _, rfl⟩
      rw [hxy] at ho h2 h3 r1 r2
      simp only at ho h2 h3 r1 r2
      subst ho
      obtain ⟨k1, k2, k3⟩ := swap_ok h3
      obtain ⟨s1, s2⟩ := swap_ready (l := l) r1 r2 zeroP_ready
      obtain ⟨u, v, o', huv⟩ : ∃ u v o', swapF l x y = (u, v, o') := ⟨_, _, _, rfl⟩
      rw [huv] at h3 k2 s1 s2
      simp only at h3 k2 s1 s2
      subst h3
      obtain ⟨d, i0, er, hal⟩ : ∃ d i0 er, allR l [a, b] = (d, i0, er) := ⟨_, _, _, rfl⟩
      rw [hal] at h1 h2
      simp only at h1
      subst h1
      exact cswaps_d l A c a b w m hr hl hlc hfit hpa hpb hg hli x y u v hxy huv d i0 hal h2 (k2.trans h2) r1 r2 s1 s2
end Go.Proofs.Ytfolcjkednmkoaa
