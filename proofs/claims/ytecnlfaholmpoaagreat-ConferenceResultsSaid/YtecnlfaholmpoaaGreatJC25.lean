/- Put where the Id is there. Put is what the plain page says. conference.moved. Two fields' addresses compared. -/
import Derived.Test.YtecnlfaholmpoaaGreatJC24
import Derived.Test.YtecnlfaholmpoaaGreatJC22
set_option linter.unusedVariables false
set_option linter.unusedSimpArgs false
set_option maxRecDepth 20000
set_option maxHeartbeats 4000000
namespace Go.Proofs.YtecnlfaholmpoaaGreat
open Go.RowKit
theorem merge_eq {a b : Clause} {r : Bool} (h : (decide (a.id = b.id) && (decide (a.after = b.after) && patEq a.patch b.patch)) = r) (w : World) : Calls Tryz.prog 69 #[a.agg, b.agg] w fun e w' => e = .returned (.tuple #[(a.or b).agg, .bool r]) ∧ Below w.heap.size w w' := by
 subst h
 exact merge_any a b w
theorem put_old_true (pg : List Clause) (c : Clause) (pb mb : Nat) (w : World) (hpc : w.cell? ⟨pb, 0, none⟩ = some (.map (some mb))) (hpl : pb < w.heap.size) (hm : CMap w mb pg) (q : Clause) (hpr : c.proper = true) (hq1 : ∀ z, CMap z mb pg → (Instr.lookup 100 (.map (some mb)) c.id.agg true).run Tryz.prog z = .ok (.tuple #[q.agg, .bool true]) z) (hmr : (decide (q.id = c.id) && (decide (q.after = c.after) && patEq q.patch c.patch)) = true) (pg' : List Clause) (hup : ∀ z, CMap z mb pg → ∃ o, (Instr.mapUpdate 100 (.map (some mb)) c.id.agg (q.or c).agg).run Tryz.prog z = .ok () (Go.ChangeMaps.setBlock z mb o) ∧ CMap (Go.ChangeMaps.setBlock z mb o) mb pg') : Calls Tryz.prog 31 #[.pointer (some ⟨pb, 0, none⟩), c.agg] w fun e w' => e = .returned (.int .i64 (0)) ∧ CMap w' mb pg' ∧ w.grownBy w' (some mb) := by
 have HPR := Lib.hid hpr; clear hpr
 have HQ1 := Lib.hid hq1; clear hq1
 have HMR := Lib.hid hmr; clear hmr
 have HUP := Lib.hid hup; clear hup
 have HPC := Lib.hid hpc; clear hpc
 have HM := Lib.hid hm; clear hm
 go_enter Tryz.func31, Tryz.ntmps31
 go_wp2_with fail
 refine (cproper_eq HPR.out _).mono ?_
 rintro e w1 ⟨rfl, hb1⟩
 have hb0 := ((Below.refl w.heap.size w).alloc (Nat.le_refl _) (.cells (claCs c) 51)).trans (hb1.mono (by simp))
 have k := rkeepk hb1 (b := w.heap.size) (x := .cells (claCs c) 51 (0, 0)) (by simp [go_sem])
 clear hb1
 go_wp2_with fail
 have H3 : w1.cell? ⟨pb, 0, none⟩ = some (.map (some mb)) ∧ w1.blk w.heap.size = some (.cells (claCs c) 51 (0, 0)) ∧ CMap w1 mb pg := ⟨(keepw hb0 HPC.out), k, HM.out.keep (hb0.block _ HM.out.lt)⟩
 clear k
 refine wp_region_held_drew (S := (fun X : World => X.cell? ⟨pb, 0, none⟩ = some (.map (some mb)) ∧ X.blk w.heap.size = some (.cells (claCs c) 51 (0, 0)) ∧ CMap X mb pg)) (by kernel_rfl) ⟨H3.1, H3.2.1, H3.2.2.keep rfl⟩ (fun hHeld => ?_)
 refine takeF (i := 0) (v := .pointer (some ⟨pb, 0, none⟩)) (k := 19) rfl rfl (by kernel_rfl) (by kernel_rfl) (by kernel_rfl) (fun _ _ _ h => h) (Or.inl ⟨by rfl, fun z hz => by (obtain ⟨z0, z1, z2⟩ := hz; go_simp)⟩) hHeld ?_
 try simp only [Act.put, sia, sc0, scs]
 refine takeF (i := 1) (v := .pointer (some ⟨pb, 0, none⟩)) (k := 20) rfl rfl (by kernel_rfl) (by kernel_rfl) (by kernel_rfl) (fun _ _ _ h => h) (Or.inl ⟨by rfl, fun z hz => by (obtain ⟨z0, z1, z2⟩ := hz; go_simp)⟩) hHeld ?_
 try simp only [Act.put, sia, sc0, scs]
 refine takeF (i := 2) (v := .pointer (some ⟨pb, 0, none⟩)) (k := 21) rfl rfl (by kernel_rfl) (by kernel_rfl) (by kernel_rfl) (fun _ _ _ h => h) (Or.inl ⟨by rfl, fun z hz => by (obtain ⟨z0, z1, z2⟩ := hz; go_simp)⟩) hHeld ?_
 try simp only [Act.put, sia, sc0, scs]
 refine takeF (i := 3) (v := .map (some mb)) (k := 22) rfl rfl (by kernel_rfl) (by kernel_rfl) (by kernel_rfl) (fun _ _ _ h => h) (Or.inl ⟨by rfl, fun z hz => by (obtain ⟨z0, z1, z2⟩ := hz; go_simp)⟩) hHeld ?_
 try simp only [Act.put, sia, sc0, scs]
 refine takeF (i := 4) (v := .pointer (some ⟨w.heap.size, 0, none⟩)) (k := 23) rfl rfl (by kernel_rfl) (by kernel_rfl) (by kernel_rfl) (fun _ _ _ h => h) (Or.inl ⟨by rfl, fun z hz => by (obtain ⟨z0, z1, z2⟩ := hz; go_simp)⟩) hHeld ?_
 try simp only [Act.put, sia, sc0, scs]
 refine takeF (i := 5) (v := c.id.agg) (k := 24) rfl rfl (by kernel_rfl) (by kernel_rfl) (by kernel_rfl) (fun _ _ _ h => h) (Or.inl ⟨by rfl, fun z hz => by (obtain ⟨z0, z1, z2⟩ := hz; have y0 : z.cell? ⟨w.heap.size, 0, none⟩ = some (.int .i64 c.id.seat) := (cell_of_row _ _ _ _ _ _ z1).trans rfl; have y1 : z.cell? ⟨w.heap.size, 1, none⟩ = some (.int .i64 c.id.count) := (cell_of_row _ _ _ _ _ _ z1).trans rfl; have y2 : z.cell? ⟨w.heap.size, 2, none⟩ = some (.int .i64 c.after.seat) := (cell_of_row _ _ _ _ _ _ z1).trans rfl; have y3 : z.cell? ⟨w.heap.size, 3, none⟩ = some (.int .i64 c.after.count) := (cell_of_row _ _ _ _ _ _ z1).trans rfl; clear z1 z2; go_simp)⟩) hHeld ?_
 try simp only [Act.put, sia, sc0, scs]
 refine takeF (i := 6) (v := .tuple #[q.agg, .bool true]) (k := 25) rfl rfl (by kernel_rfl) (by kernel_rfl) (by kernel_rfl) (fun _ _ _ h => h) (Or.inl ⟨by rfl, fun z hz => by (obtain ⟨z0, z1, z2⟩ := hz; have hq := HQ1.out z z2; clear z0 z1 z2; go_simp)⟩) hHeld ?_
 try simp only [Act.put, sia, sc0, scs]
 refine takeF (i := 7) (v := .tuple #[q.agg, .bool true]) (k := 18) rfl rfl (by kernel_rfl) (by kernel_rfl) (by kernel_rfl) (fun _ _ _ h => h) (Or.inl ⟨by rfl, fun z hz => by (obtain ⟨z0, z1, z2⟩ := hz; go_simp)⟩) hHeld ?_
 try simp only [Act.put, sia, sc0, scs]
 refine takeF (i := 8) (v := q.agg) (k := 26) rfl rfl (by kernel_rfl) (by kernel_rfl) (by kernel_rfl) (fun _ _ _ h => h) (Or.inl ⟨by rfl, fun z hz => by (obtain ⟨z0, z1, z2⟩ := hz; go_simp)⟩) hHeld ?_
 try simp only [Act.put, sia, sc0, scs]
 refine takeF (i := 9) (v := .bool true) (k := 27) rfl rfl (by kernel_rfl) (by kernel_rfl) (by kernel_rfl) (fun _ _ _ h => h) (Or.inl ⟨by rfl, fun z hz => by (obtain ⟨z0, z1, z2⟩ := hz; go_simp)⟩) hHeld ?_
 try simp only [Act.put, sia, sc0, scs]
 refine wpAnyH_ready (rs := [10]) (by kernel_rfl) (by simp) (AllReadyH.cons rfl (fun K hK => ?_) AllReadyH.nil)
 go_simp
 have hA : Below w1.heap.size w1 (w1.drew.alloc (.cells (claCs zeroCl) 51)) := (Below.refl _ _).drew.alloc (Nat.le_refl _) _
 refine hK.out _ _ ⟨keepw hA H3.1, rkeepk hA H3.2.1, H3.2.2.keep (hA.block _ H3.2.2.lt)⟩ (fun hHeld => ?_)
 clear hK K
 try simp only [Act.put, sia, sc0, scs]
 refine wpAnyH_ready (rs := [11]) (by kernel_rfl) (by simp) (AllReadyH.cons rfl (fun K hK => ?_) AllReadyH.nil)
 refine step_store_cla rfl (.tmp 5) (.tmp 26) rfl (w1.heap.size) q zeroCl rfl rfl (heap_alloc_new _ _) ?_
 show K _ ((w1.drew.alloc (.cells (claCs zeroCl) 51)).setRow w1.heap.size (claCs q))
 rw [show (w1.drew.alloc (.cells (claCs zeroCl) 51)).setRow w1.heap.size (claCs q) = w1.drew.alloc (.cells (claCs q) 51) from setRow_alloc_new w1.drew _ _ _]
 have hA' : Below w1.heap.size w1 (w1.drew.alloc (.cells (claCs q) 51)) := (Below.refl _ _).drew.alloc (Nat.le_refl _) _
 refine hK.out _ _ ⟨keepw hA' H3.1, rkeepk hA' H3.2.1, H3.2.2.keep (hA'.block _ H3.2.2.lt)⟩ (fun hHeld => ?_)
 clear hK K
 try simp only [Act.put, sia, sc0, scs]
 refine takeF (i := 12) (v := .bool true) (k := 6) rfl rfl (by kernel_rfl) (by kernel_rfl) (by kernel_rfl) (fun _ _ _ h => h) (Or.inl ⟨by rfl, fun z hz => by (obtain ⟨z0, z1, z2⟩ := hz; go_simp)⟩) hHeld ?_
 try simp only [Act.put, sia, sc0, scs]
 refine wpAnyH_done (by kernel_rfl) ?_ _
 obtain ⟨w2, hw2⟩ : ∃ X, X = w1.drew.alloc (.cells (claCs q) 51) := ⟨_, rfl⟩
 have hbw2 : Below w.heap.size w w2 := by rw [hw2]; exact hb0.drew.alloc hb0.size _
 have Hw2 : w2.cell? ⟨pb, 0, none⟩ = some (.map (some mb)) ∧ w2.blk w.heap.size = some (.cells (claCs c) 51 (0, 0)) ∧ CMap w2 mb pg := ⟨keepw hbw2 HPC.out, by rw [hw2]; exact (Below.heap_alloc w1.drew _ _ (lt_of_heap H3.2.1)).trans H3.2.1, HM.out.keep (hbw2.block _ HM.out.lt)⟩
 have Zw2 : w2.blk w1.heap.size = some (.cells (claCs q) 51 (0, 0)) := by rw [hw2]; exact heap_alloc_new w1.drew _
 rw [← hw2]
 clear hw2
 have kb := Hw2.2.1
 go_wp2_with fail
 refine (merge_eq HMR.out _).mono ?_
 rintro e w3 ⟨rfl, hb3⟩
 have hbw3 : Below w.heap.size w w3 := hbw2.trans (hb3.mono hbw2.size)
 have Hw3 : w3.cell? ⟨pb, 0, none⟩ = some (.map (some mb)) ∧ w3.blk w.heap.size = some (.cells (claCs c) 51 (0, 0)) ∧ CMap w3 mb pg := ⟨keepw hb3 Hw2.1, rkeepk hb3 Hw2.2.1, Hw2.2.2.keep (hb3.block _ Hw2.2.2.lt)⟩
 clear hb3 kb Zw2
 obtain ⟨m, hmm⟩ : ∃ m, m = q.or c := ⟨_, rfl⟩
 rw [← hmm]
 rw [← hmm] at HUP
 clear hmm
 go_wp2_with fail
 obtain ⟨w4, hw4⟩ : ∃ X, X = w3.alloc (.cells (claCs m) 51) := ⟨_, rfl⟩
 have hbw4 : Below w.heap.size w w4 := by rw [hw4]; exact hbw3.alloc hbw3.size _
 have Hw4 : w4.cell? ⟨pb, 0, none⟩ = some (.map (some mb)) ∧ w4.blk w.heap.size = some (.cells (claCs c) 51 (0, 0)) ∧ CMap w4 mb pg := ⟨keepw hbw4 HPC.out, by rw [hw4]; exact (Below.heap_alloc w3 _ _ (lt_of_heap Hw3.2.1)).trans Hw3.2.1, HM.out.keep (hbw4.block _ HM.out.lt)⟩
 have Zw4 : w4.blk w3.heap.size = some (.cells (claCs m) 51 (0, 0)) := by rw [hw4]; exact heap_alloc_new w3 _
 have hl3 : w3.heap.size ≠ mb := Nat.ne_of_gt Hw3.2.2.lt
 rw [← hw4]
 clear hw4
 have hne := cmap_ne HM.out HPC.out
 have hlm := HM.out.lt
 refine wp_region_held_drew (S := (fun X : World => X.cell? ⟨pb, 0, none⟩ = some (.map (some mb)) ∧ X.blk w.heap.size = some (.cells (claCs c) 51 (0, 0)) ∧ X.blk w3.heap.size = some (.cells (claCs m) 51 (0, 0)))) (by kernel_rfl) ⟨Hw4.1, Hw4.2.1, Zw4⟩ (fun hHeld => ?_)
 refine takeF (i := 0) (v := .pointer (some ⟨pb, 0, none⟩)) (k := 37) rfl rfl (by kernel_rfl) (by kernel_rfl) (by kernel_rfl) (fun _ _ _ h => h) (Or.inl ⟨by rfl, fun z hz => by (obtain ⟨z0, z1, z2⟩ := hz; go_simp)⟩) hHeld ?_
 try simp only [Act.put, sia, sc0, scs]
 refine takeF (i := 1) (v := .pointer (some ⟨pb, 0, none⟩)) (k := 38) rfl rfl (by kernel_rfl) (by kernel_rfl) (by kernel_rfl) (fun _ _ _ h => h) (Or.inl ⟨by rfl, fun z hz => by (obtain ⟨z0, z1, z2⟩ := hz; go_simp)⟩) hHeld ?_
 try simp only [Act.put, sia, sc0, scs]
 refine takeF (i := 2) (v := .pointer (some ⟨pb, 0, none⟩)) (k := 39) rfl rfl (by kernel_rfl) (by kernel_rfl) (by kernel_rfl) (fun _ _ _ h => h) (Or.inl ⟨by rfl, fun z hz => by (obtain ⟨z0, z1, z2⟩ := hz; go_simp)⟩) hHeld ?_
 try simp only [Act.put, sia, sc0, scs]
 refine takeF (i := 3) (v := .map (some mb)) (k := 40) rfl rfl (by kernel_rfl) (by kernel_rfl) (by kernel_rfl) (fun _ _ _ h => h) (Or.inl ⟨by rfl, fun z hz => by (obtain ⟨z0, z1, z2⟩ := hz; go_simp)⟩) hHeld ?_
 try simp only [Act.put, sia, sc0, scs]
 refine takeF (i := 4) (v := .pointer (some ⟨w.heap.size, 0, none⟩)) (k := 41) rfl rfl (by kernel_rfl) (by kernel_rfl) (by kernel_rfl) (fun _ _ _ h => h) (Or.inl ⟨by rfl, fun z hz => by (obtain ⟨z0, z1, z2⟩ := hz; go_simp)⟩) hHeld ?_
 try simp only [Act.put, sia, sc0, scs]
 refine takeF (i := 5) (v := c.id.agg) (k := 42) rfl rfl (by kernel_rfl) (by kernel_rfl) (by kernel_rfl) (fun _ _ _ h => h) (Or.inl ⟨by rfl, fun z hz => by (obtain ⟨z0, z1, z2⟩ := hz; have y0 : z.cell? ⟨w.heap.size, 0, none⟩ = some (.int .i64 c.id.seat) := (cell_of_row _ _ _ _ _ _ z1).trans rfl; have y1 : z.cell? ⟨w.heap.size, 1, none⟩ = some (.int .i64 c.id.count) := (cell_of_row _ _ _ _ _ _ z1).trans rfl; have y2 : z.cell? ⟨w.heap.size, 2, none⟩ = some (.int .i64 c.after.seat) := (cell_of_row _ _ _ _ _ _ z1).trans rfl; have y3 : z.cell? ⟨w.heap.size, 3, none⟩ = some (.int .i64 c.after.count) := (cell_of_row _ _ _ _ _ _ z1).trans rfl; clear z1 z2; go_simp)⟩) hHeld ?_
 try simp only [Act.put, sia, sc0, scs]
 refine takeF (i := 6) (v := m.agg) (k := 43) rfl rfl (by kernel_rfl) (by kernel_rfl) (by kernel_rfl) (fun _ _ _ h => h) (Or.inl ⟨by rfl, fun z hz => by (obtain ⟨z0, z1, z2⟩ := hz; go_simp)⟩) hHeld ?_
 try simp only [Act.put, sia, sc0, scs]
 refine wpAnyH_ready (rs := [7]) (by kernel_rfl) (by simp) (AllReadyH.cons rfl (fun K hK => ?_) AllReadyH.nil)
 obtain ⟨o, hu1, hu2⟩ := HUP.out w4.drew (Hw4.2.2.keep rfl)
 refine step_mapUpdate rfl 100 (.tmp 40) (.tmp 42) (.tmp 43) rfl _ _ _ rfl rfl rfl hu1 ?_
 refine hK.out _ _ ⟨(setBlock_cell hne).trans Hw4.1, (setBlock_ne (show w.heap.size ≠ mb by omega)).trans Hw4.2.1, (setBlock_ne hl3).trans Zw4⟩ (fun hHeld => ?_)
 clear hK K
 try simp only [Act.put, sia, sc0, scs]
 refine wpAnyH_done (by kernel_rfl) ?_ _
 go_wp2_with fail
 go_ret
 exact ⟨rfl, hu2, grown_set hbw4.drew⟩
theorem put_old_false (pg : List Clause) (c : Clause) (pb mb : Nat) (w : World) (hpc : w.cell? ⟨pb, 0, none⟩ = some (.map (some mb))) (hpl : pb < w.heap.size) (hm : CMap w mb pg) (q : Clause) (hpr : c.proper = true) (hq1 : ∀ z, CMap z mb pg → (Instr.lookup 100 (.map (some mb)) c.id.agg true).run Tryz.prog z = .ok (.tuple #[q.agg, .bool true]) z) (hmr : (decide (q.id = c.id) && (decide (q.after = c.after) && patEq q.patch c.patch)) = false) : Calls Tryz.prog 31 #[.pointer (some ⟨pb, 0, none⟩), c.agg] w fun e w' => e = .returned (.int .i64 (9)) ∧ CMap w' mb pg ∧ w.grownBy w' (some mb) := by
 have HPR := Lib.hid hpr; clear hpr
 have HQ1 := Lib.hid hq1; clear hq1
 have HMR := Lib.hid hmr; clear hmr
 have HPC := Lib.hid hpc; clear hpc
 have HM := Lib.hid hm; clear hm
 go_enter Tryz.func31, Tryz.ntmps31
 go_wp2_with fail
 refine (cproper_eq HPR.out _).mono ?_
 rintro e w1 ⟨rfl, hb1⟩
 have hb0 := ((Below.refl w.heap.size w).alloc (Nat.le_refl _) (.cells (claCs c) 51)).trans (hb1.mono (by simp))
 have k := rkeepk hb1 (b := w.heap.size) (x := .cells (claCs c) 51 (0, 0)) (by simp [go_sem])
 clear hb1
 go_wp2_with fail
 have H3 : w1.cell? ⟨pb, 0, none⟩ = some (.map (some mb)) ∧ w1.blk w.heap.size = some (.cells (claCs c) 51 (0, 0)) ∧ CMap w1 mb pg := ⟨(keepw hb0 HPC.out), k, HM.out.keep (hb0.block _ HM.out.lt)⟩
 clear k
 refine wp_region_held_drew (S := (fun X : World => X.cell? ⟨pb, 0, none⟩ = some (.map (some mb)) ∧ X.blk w.heap.size = some (.cells (claCs c) 51 (0, 0)) ∧ CMap X mb pg)) (by kernel_rfl) ⟨H3.1, H3.2.1, H3.2.2.keep rfl⟩ (fun hHeld => ?_)
 refine takeF (i := 0) (v := .pointer (some ⟨pb, 0, none⟩)) (k := 19) rfl rfl (by kernel_rfl) (by kernel_rfl) (by kernel_rfl) (fun _ _ _ h => h) (Or.inl ⟨by rfl, fun z hz => by (obtain ⟨z0, z1, z2⟩ := hz; go_simp)⟩) hHeld ?_
 try simp only [Act.put, sia, sc0, scs]
 refine takeF (i := 1) (v := .pointer (some ⟨pb, 0, none⟩)) (k := 20) rfl rfl (by kernel_rfl) (by kernel_rfl) (by kernel_rfl) (fun _ _ _ h => h) (Or.inl ⟨by rfl, fun z hz => by (obtain ⟨z0, z1, z2⟩ := hz; go_simp)⟩) hHeld ?_
 try simp only [Act.put, sia, sc0, scs]
 refine takeF (i := 2) (v := .pointer (some ⟨pb, 0, none⟩)) (k := 21) rfl rfl (by kernel_rfl) (by kernel_rfl) (by kernel_rfl) (fun _ _ _ h => h) (Or.inl ⟨by rfl, fun z hz => by (obtain ⟨z0, z1, z2⟩ := hz; go_simp)⟩) hHeld ?_
 try simp only [Act.put, sia, sc0, scs]
 refine takeF (i := 3) (v := .map (some mb)) (k := 22) rfl rfl (by kernel_rfl) (by kernel_rfl) (by kernel_rfl) (fun _ _ _ h => h) (Or.inl ⟨by rfl, fun z hz => by (obtain ⟨z0, z1, z2⟩ := hz; go_simp)⟩) hHeld ?_
 try simp only [Act.put, sia, sc0, scs]
 refine takeF (i := 4) (v := .pointer (some ⟨w.heap.size, 0, none⟩)) (k := 23) rfl rfl (by kernel_rfl) (by kernel_rfl) (by kernel_rfl) (fun _ _ _ h => h) (Or.inl ⟨by rfl, fun z hz => by (obtain ⟨z0, z1, z2⟩ := hz; go_simp)⟩) hHeld ?_
 try simp only [Act.put, sia, sc0, scs]
 refine takeF (i := 5) (v := c.id.agg) (k := 24) rfl rfl (by kernel_rfl) (by kernel_rfl) (by kernel_rfl) (fun _ _ _ h => h) (Or.inl ⟨by rfl, fun z hz => by (obtain ⟨z0, z1, z2⟩ := hz; have y0 : z.cell? ⟨w.heap.size, 0, none⟩ = some (.int .i64 c.id.seat) := (cell_of_row _ _ _ _ _ _ z1).trans rfl; have y1 : z.cell? ⟨w.heap.size, 1, none⟩ = some (.int .i64 c.id.count) := (cell_of_row _ _ _ _ _ _ z1).trans rfl; have y2 : z.cell? ⟨w.heap.size, 2, none⟩ = some (.int .i64 c.after.seat) := (cell_of_row _ _ _ _ _ _ z1).trans rfl; have y3 : z.cell? ⟨w.heap.size, 3, none⟩ = some (.int .i64 c.after.count) := (cell_of_row _ _ _ _ _ _ z1).trans rfl; clear z1 z2; go_simp)⟩) hHeld ?_
 try simp only [Act.put, sia, sc0, scs]
 refine takeF (i := 6) (v := .tuple #[q.agg, .bool true]) (k := 25) rfl rfl (by kernel_rfl) (by kernel_rfl) (by kernel_rfl) (fun _ _ _ h => h) (Or.inl ⟨by rfl, fun z hz => by (obtain ⟨z0, z1, z2⟩ := hz; have hq := HQ1.out z z2; clear z0 z1 z2; go_simp)⟩) hHeld ?_
 try simp only [Act.put, sia, sc0, scs]
 refine takeF (i := 7) (v := .tuple #[q.agg, .bool true]) (k := 18) rfl rfl (by kernel_rfl) (by kernel_rfl) (by kernel_rfl) (fun _ _ _ h => h) (Or.inl ⟨by rfl, fun z hz => by (obtain ⟨z0, z1, z2⟩ := hz; go_simp)⟩) hHeld ?_
 try simp only [Act.put, sia, sc0, scs]
 refine takeF (i := 8) (v := q.agg) (k := 26) rfl rfl (by kernel_rfl) (by kernel_rfl) (by kernel_rfl) (fun _ _ _ h => h) (Or.inl ⟨by rfl, fun z hz => by (obtain ⟨z0, z1, z2⟩ := hz; go_simp)⟩) hHeld ?_
 try simp only [Act.put, sia, sc0, scs]
 refine takeF (i := 9) (v := .bool true) (k := 27) rfl rfl (by kernel_rfl) (by kernel_rfl) (by kernel_rfl) (fun _ _ _ h => h) (Or.inl ⟨by rfl, fun z hz => by (obtain ⟨z0, z1, z2⟩ := hz; go_simp)⟩) hHeld ?_
 try simp only [Act.put, sia, sc0, scs]
 refine wpAnyH_ready (rs := [10]) (by kernel_rfl) (by simp) (AllReadyH.cons rfl (fun K hK => ?_) AllReadyH.nil)
 go_simp
 have hA : Below w1.heap.size w1 (w1.drew.alloc (.cells (claCs zeroCl) 51)) := (Below.refl _ _).drew.alloc (Nat.le_refl _) _
 refine hK.out _ _ ⟨keepw hA H3.1, rkeepk hA H3.2.1, H3.2.2.keep (hA.block _ H3.2.2.lt)⟩ (fun hHeld => ?_)
 clear hK K
 try simp only [Act.put, sia, sc0, scs]
 refine wpAnyH_ready (rs := [11]) (by kernel_rfl) (by simp) (AllReadyH.cons rfl (fun K hK => ?_) AllReadyH.nil)
 refine step_store_cla rfl (.tmp 5) (.tmp 26) rfl (w1.heap.size) q zeroCl rfl rfl (heap_alloc_new _ _) ?_
 show K _ ((w1.drew.alloc (.cells (claCs zeroCl) 51)).setRow w1.heap.size (claCs q))
 rw [show (w1.drew.alloc (.cells (claCs zeroCl) 51)).setRow w1.heap.size (claCs q) = w1.drew.alloc (.cells (claCs q) 51) from setRow_alloc_new w1.drew _ _ _]
 have hA' : Below w1.heap.size w1 (w1.drew.alloc (.cells (claCs q) 51)) := (Below.refl _ _).drew.alloc (Nat.le_refl _) _
 refine hK.out _ _ ⟨keepw hA' H3.1, rkeepk hA' H3.2.1, H3.2.2.keep (hA'.block _ H3.2.2.lt)⟩ (fun hHeld => ?_)
 clear hK K
 try simp only [Act.put, sia, sc0, scs]
 refine takeF (i := 12) (v := .bool true) (k := 6) rfl rfl (by kernel_rfl) (by kernel_rfl) (by kernel_rfl) (fun _ _ _ h => h) (Or.inl ⟨by rfl, fun z hz => by (obtain ⟨z0, z1, z2⟩ := hz; go_simp)⟩) hHeld ?_
 try simp only [Act.put, sia, sc0, scs]
 refine wpAnyH_done (by kernel_rfl) ?_ _
 obtain ⟨w2, hw2⟩ : ∃ X, X = w1.drew.alloc (.cells (claCs q) 51) := ⟨_, rfl⟩
 have hbw2 : Below w.heap.size w w2 := by rw [hw2]; exact hb0.drew.alloc hb0.size _
 have Hw2 : w2.cell? ⟨pb, 0, none⟩ = some (.map (some mb)) ∧ w2.blk w.heap.size = some (.cells (claCs c) 51 (0, 0)) ∧ CMap w2 mb pg := ⟨keepw hbw2 HPC.out, by rw [hw2]; exact (Below.heap_alloc w1.drew _ _ (lt_of_heap H3.2.1)).trans H3.2.1, HM.out.keep (hbw2.block _ HM.out.lt)⟩
 have Zw2 : w2.blk w1.heap.size = some (.cells (claCs q) 51 (0, 0)) := by rw [hw2]; exact heap_alloc_new w1.drew _
 rw [← hw2]
 clear hw2
 have kb := Hw2.2.1
 go_wp2_with fail
 refine (merge_eq HMR.out _).mono ?_
 rintro e w3 ⟨rfl, hb3⟩
 have hbw3 : Below w.heap.size w w3 := hbw2.trans (hb3.mono hbw2.size)
 have Hw3 : w3.cell? ⟨pb, 0, none⟩ = some (.map (some mb)) ∧ w3.blk w.heap.size = some (.cells (claCs c) 51 (0, 0)) ∧ CMap w3 mb pg := ⟨keepw hb3 Hw2.1, rkeepk hb3 Hw2.2.1, Hw2.2.2.keep (hb3.block _ Hw2.2.2.lt)⟩
 clear hb3 kb Zw2
 obtain ⟨m, hmm⟩ : ∃ m, m = q.or c := ⟨_, rfl⟩
 rw [← hmm]
 clear hmm
 go_wp2_with fail
 go_ret
 exact ⟨rfl, Hw3.2.2.keep (Below.heap_alloc _ _ _ Hw3.2.2.lt), below_grown (hbw3.alloc hbw3.size _)⟩
end Go.Proofs.YtecnlfaholmpoaaGreat
namespace Go.Proofs.YtecnlfaholmpoaaGreat
open Go.RowKit
theorem stamp_agg {a b : Stamp} (h : a.agg = b.agg) : a = b := by
 cases a; cases b
 simp at h
 simp [h]
theorem properS_key {s : Stamp} (h : properS s = true) : ∃ l, keyOf Tryz.prog 45 s.agg = some l := by
 unfold properS at h
 simp only [Bool.and_eq_true, decide_eq_true_eq] at h
 exact stamp_key s (WalkArith.wf_i64 (by omega)) (WalkArith.wf_i64 (by omega))
theorem noStamp_key : ∃ l, keyOf Tryz.prog 45 noStamp.agg = some l := stamp_key _ (by decide) (by decide)
theorem zero_cla (w : World) : (zeroValue 51).run Tryz.prog w = .ok zeroCl.agg w := by kernel_rfl
theorem cmap_ids {w : World} {mb : Nat} {pg : List Clause} (h : CMap w mb pg) : (pg.map (·.id)).Nodup := by
 have := h.nodup
 rw [List.map_map] at this
 have e : pg.map ((fun p : Value × Value => p.1) ∘ kvOf) = (pg.map (·.id)).map Stamp.agg := by rw [List.map_map]; rfl
 rw [e] at this
 exact List.Pairwise.of_map _ (fun a b hne hab => hne (by rw [hab])) this
theorem look_miss {mb : Nat} {pg : List Clause} {s : Stamp} (hk : ∃ l, keyOf Tryz.prog 45 s.agg = some l) (h : pget pg s = none) (z : World) (hm : CMap z mb pg) :
 (Instr.lookup 100 (.map (some mb)) s.agg true).run Tryz.prog z = .ok (.tuple #[zeroCl.agg, .bool false]) z := by
 obtain ⟨l, hl⟩ := hk
 have := hm.miss stamp_law Tryz.underlying100 hl (fun p hp e => by
  obtain ⟨x, hx, rfl⟩ := List.mem_map.1 hp
  exact pget_none.1 h x hx (stamp_agg e)) (zero_cla z) true
 simpa using this
theorem look_hit {mb : Nat} {pg : List Clause} {s : Stamp} {o : Clause} (hk : ∃ l, keyOf Tryz.prog 45 s.agg = some l) (h : pget pg s = some o) (z : World) (hm : CMap z mb pg) :
 (Instr.lookup 100 (.map (some mb)) s.agg true).run Tryz.prog z = .ok (.tuple #[o.agg, .bool true]) z := by
 obtain ⟨l, hl⟩ := hk
 obtain ⟨h1, h2⟩ := pget_mem h
 have := hm.hit stamp_law Tryz.underlying100 hl (List.mem_map.2 ⟨o, h1, by rw [← h2]⟩) true
 simpa using this
theorem up_new {mb : Nat} {pg : List Clause} {c : Clause} (hk : ∃ l, keyOf Tryz.prog 45 c.id.agg = some l) (h : pget pg c.id = none) (z : World) (hm : CMap z mb pg) :
 ∃ o, (Instr.mapUpdate 100 (.map (some mb)) c.id.agg c.agg).run Tryz.prog z = .ok () (Go.ChangeMaps.setBlock z mb o) ∧ CMap (Go.ChangeMaps.setBlock z mb o) mb (pg ++ [c]) := by
 obtain ⟨l, hl⟩ := hk
 obtain ⟨o, h1, h2⟩ := hm.put_new stamp_law Tryz.underlying100 c.agg hl (fun p hp e => by
  obtain ⟨x, hx, rfl⟩ := List.mem_map.1 hp
  exact pget_none.1 h x hx (stamp_agg e))
 refine ⟨o, h1, ?_⟩
 unfold CMap
 rw [List.map_append]
 exact h2
theorem pset_at {u v : List Clause} {o c : Clause} (hn : ((u ++ o :: v).map (·.id)).Nodup) (ho : o.id = c.id) : pset (u ++ o :: v) c = u ++ o.or c :: v := by
 rw [List.map_append, List.map_cons, List.nodup_append, List.nodup_cons] at hn
 have key : ∀ l : List Clause, (∀ x ∈ l, x.id ≠ c.id) → l.map (fun x => if x.id = c.id then { x with gone := x.gone || c.gone } else x) = l := fun l hl => by
  conv => rhs; rw [← List.map_id l]
  refine List.map_congr_left fun x hx => ?_
  rw [if_neg (hl x hx)]
  rfl
 unfold pset
 rw [List.map_append, List.map_cons, if_pos ho, key u (fun x hx e => hn.2.2 x.id (List.mem_map.2 ⟨x, hx, rfl⟩) o.id (by simp) (e.trans ho.symm)), key v (fun x hx e => hn.2.1.1 (List.mem_map.2 ⟨x, hx, e.trans ho.symm⟩))]
 rfl
theorem up_old {mb : Nat} {pg : List Clause} {c o : Clause} (hk : ∃ l, keyOf Tryz.prog 45 c.id.agg = some l) (h : pget pg c.id = some o) (z : World) (hm : CMap z mb pg) :
 ∃ b, (Instr.mapUpdate 100 (.map (some mb)) c.id.agg (o.or c).agg).run Tryz.prog z = .ok () (Go.ChangeMaps.setBlock z mb b) ∧ CMap (Go.ChangeMaps.setBlock z mb b) mb (pset pg c) := by
 obtain ⟨l, hl⟩ := hk
 obtain ⟨h1, h2⟩ := pget_mem h
 obtain ⟨b, h3, kv', h4, h5⟩ := hm.put_old stamp_law Tryz.underlying100 (o.or c).agg hl (List.mem_map.2 ⟨o, h1, by rw [← h2]⟩)
 refine ⟨b, h3, ?_⟩
 have hn := cmap_ids hm
 obtain ⟨u, v, rfl⟩ := List.append_of_mem h1
 have e := h5 (u.map kvOf) (v.map kvOf) (by rw [List.map_append, List.map_cons, h2.symm])
 subst e
 unfold CMap
 rw [pset_at hn h2, List.map_append, List.map_cons]
 have e2 : kvOf (o.or c) = (c.id.agg, (o.or c).agg) := by rw [← h2]; rfl
 rw [e2]
 exact h4
theorem cput_any (pg : List Clause) (c : Clause) (pb mb : Nat) (w : World) (hpc : w.cell? ⟨pb, 0, none⟩ = some (.map (some mb))) (hpl : pb < w.heap.size) (hm : CMap w mb pg) (hn : pg.length ≤ 100000) :
 Calls Tryz.prog 31 #[.pointer (some ⟨pb, 0, none⟩), c.agg] w fun e w' => e = .returned (.int .i64 (putE pg c)) ∧ CMap w' mb (putP pg c) ∧ w.grownBy w' (some mb) := by
 cases hpr : c.proper with
 | false =>
   have he : putE pg c = 1 := by unfold putE; simp [hpr]
   have hp : putP pg c = pg := by unfold putP; simp [he]
   rw [he, hp]
   exact put_bad pg c pb mb w hpc hpl hm hpr
 | true =>
   have hpr2 := hpr
   unfold Clause.proper at hpr2
   simp only [Bool.and_eq_true, Bool.or_eq_true, decide_eq_true_eq] at hpr2
   have hki := properS_key hpr2.1
   have hka : ∃ l, keyOf Tryz.prog 45 c.after.agg = some l := by
    rcases hpr2.2 with h | h
    · rw [h]; exact noStamp_key
    · exact properS_key h.1
   cases hg : pget pg c.id with
   | some o =>
     have hid := (pget_mem hg).2
     cases hs : (decide (o.after = c.after) && patEq o.patch c.patch) with
     | false =>
       have he : putE pg c = 9 := by
        unfold putE
        rw [if_pos hpr, hg]
        have : ¬ (o.after = c.after ∧ patEq o.patch c.patch = true) := fun h => by simp [h.1, h.2] at hs
        simp only [if_neg this]
       have hp : putP pg c = pg := by unfold putP; simp [he]
       rw [he, hp]
       exact put_old_false pg c pb mb w hpc hpl hm o hpr (look_hit hki hg) (by simp [hid, hs])
     | true =>
       have he : putE pg c = 0 := by
        unfold putE
        rw [if_pos hpr, hg]
        have : o.after = c.after ∧ patEq o.patch c.patch = true := by simpa using hs
        simp only [if_pos this]
       have hp : putP pg c = pset pg c := by unfold putP; simp [he, hg]
       rw [he, hp]
       exact put_old_true pg c pb mb w hpc hpl hm o hpr (look_hit hki hg) (by simp [hid, hs]) _ (up_old hki hg)
   | none =>
     have hs0 : sEq c.after.seat c.after.count 0 0 = decide (c.after = noStamp) := sEq_iff (a := c.after) (b := noStamp)
     cases ha : pget pg c.after with
     | some p =>
       cases hgn : c.gone with
       | true =>
         have he : putE pg c = 0 := by unfold putE; rw [if_pos hpr, hg]; simp [ha, hgn]
         have hp : putP pg c = pg ++ [c] := by unfold putP; simp [he, hg]
         rw [he, hp]
         exact put_k_gone pg c pb mb w hpc hpl hm p hpr (look_miss hki hg) (look_hit hka ha) hgn (up_new hki hg)
       | false =>
         by_cases ho : openN pg < 64
         · have he : putE pg c = 0 := by unfold putE; rw [if_pos hpr, hg]; simp [ha, hgn]; omega
           have hp : putP pg c = pg ++ [c] := by unfold putP; simp [he, hg]
           rw [he, hp]
           exact put_k_open pg c pb mb w hpc hpl hm p hpr (look_miss hki hg) (look_hit hka ha) hn hgn ho (up_new hki hg)
         · have he : putE pg c = 27 := by unfold putE; rw [if_pos hpr, hg]; simp [ha, hgn]; omega
           have hp : putP pg c = pg := by unfold putP; simp [he]
           rw [he, hp]
           exact put_k_full pg c pb mb w hpc hpl hm p hpr (look_miss hki hg) (look_hit hka ha) hn hgn (by omega)
     | none =>
       by_cases hr : c.after = noStamp
       · have hs : sEq c.after.seat c.after.count 0 0 = true := by rw [hs0]; simpa using hr
         cases hgn : c.gone with
         | true =>
           have he : putE pg c = 0 := by unfold putE; rw [if_pos hpr, hg]; simp [hr, hgn]
           have hp : putP pg c = pg ++ [c] := by unfold putP; simp [he, hg]
           rw [he, hp]
           exact put_r_gone pg c pb mb w hpc hpl hm hpr (look_miss hki hg) (look_miss hka ha) hs hgn (up_new hki hg)
         | false =>
           by_cases ho : openN pg < 64
           · have he : putE pg c = 0 := by unfold putE; rw [if_pos hpr, hg]; simp [hr, hgn]; omega
             have hp : putP pg c = pg ++ [c] := by unfold putP; simp [he, hg]
             rw [he, hp]
             exact put_r_open pg c pb mb w hpc hpl hm hpr (look_miss hki hg) (look_miss hka ha) hs hn hgn ho (up_new hki hg)
           · have he : putE pg c = 27 := by unfold putE; rw [if_pos hpr, hg]; simp [hr, hgn]; omega
             have hp : putP pg c = pg := by unfold putP; simp [he]
             rw [he, hp]
             exact put_r_full pg c pb mb w hpc hpl hm hpr (look_miss hki hg) (look_miss hka ha) hs hn hgn (by omega)
       · have hs : sEq c.after.seat c.after.count 0 0 = false := by rw [hs0]; simpa using hr
         have he : putE pg c = 11 := by unfold putE; rw [if_pos hpr, hg]; simp [ha, hr]
         have hp : putP pg c = pg := by unfold putP; simp [he]
         rw [he, hp]
         exact put_n_none pg c pb mb w hpc hpl hm hpr (look_miss hki hg) (look_miss hka ha) hs
end Go.Proofs.YtecnlfaholmpoaaGreat
namespace Go.Proofs.YtecnlfaholmpoaaGreat
open Go.RowKit
theorem cflat_set {j : Nat} {v : Value} (hj : j < 20) : ∀ (l : List Clause) (i : Nat) (x x' : Clause), l[i]? = some x → x'.cells = x.cells.set j v → cflat (l.set i x') = (cflat l).set (i * 20 + j) v
 | [], i, x, x', h, _ => by simp at h
 | y :: r, 0, x, x', h, hx => by
   simp at h
   subst h
   unfold cflat
   rw [List.set_cons_zero, List.flatMap_cons, List.flatMap_cons, Nat.zero_mul, Nat.zero_add, List.set_append_left _ _ (show j < y.cells.length from hj), hx]
 | y :: r, i + 1, x, x', h, hx => by
   have hy : y.cells.length = 20 := rfl
   unfold cflat
   rw [List.set_cons_succ, List.flatMap_cons, List.flatMap_cons, List.set_append_right _ _ (by rw [hy]; omega), hy, show (i + 1) * 20 + j - 20 = i * 20 + j by omega]
   have := cflat_set hj r i x x' (by simpa using h) hx
   unfold cflat at this
   rw [this]
theorem OwnCs.setCell {w : World} {base b n cap i j : Nat} {l : List Clause} {x x' : Clause} {v : Value} (h : OwnCs w base (.slice (some ⟨b, 0, none⟩) n cap) l) (hx : l[i]? = some x) (hx' : x'.cells = x.cells.set j v) (hj : j < 20) :
 OwnCs (w.setCell ⟨b, i * 20 + j, none⟩ v) base (.slice (some ⟨b, 0, none⟩) n cap) (l.set i x') := by
 have hil : i < l.length := (List.getElem?_eq_some_iff.1 hx).1
 rcases h.2 with ⟨hv, _⟩ | ⟨g, cap', cur, hv, r2, r3, r4, r5, r6, r7⟩
 · cases hv
 · simp only [Value.slice.injEq, Option.some.injEq, Addr.mk.injEq] at hv
   obtain ⟨⟨rfl, _⟩, rfl, rfl⟩ := hv
   refine ⟨by rw [cflat_len], .inr ⟨b, cap, cur.setIfInBounds (i * 20 + j) v, by rw [List.length_set], r2, blk_setCell_at r3, by rw [List.length_set]; exact r4, r5, by simpa using r6, ?_⟩⟩
   rw [List.length_set, cflat_set hj l i x x' hx hx', ← r7, Array.toList_setIfInBounds, List.take_set]
def mvId (d : Int) (c : Clause) : Clause := { c with id := ⟨c.id.seat + d, c.id.count⟩ }
def mvAf (d : Int) (c : Clause) : Clause := { c with after := ⟨c.after.seat + d, c.after.count⟩ }
def mv (d : Int) (c : Clause) : Clause := if c.after = noStamp then mvId d c else mvAf d (mvId d c)
theorem mv_moved (c : Clause) : mv 100 c = c.moved := by
 unfold mv mvAf mvId Clause.moved Stamp.move
 by_cases h : c.after = noStamp
 · rw [if_pos h, if_pos h, ← h]
 · rw [if_neg h, if_neg h]
theorem mv_zero (c : Clause) : mv 0 c = c := by
 unfold mv mvAf mvId
 simp
def mvRow (d : Int) (l : List Clause) (k : Nat) : List Clause := (l.take k).map (mv d) ++ l.drop k
theorem mvRow_len (d : Int) (l : List Clause) (k : Nat) : (mvRow d l k).length = l.length := by
 unfold mvRow
 rw [List.length_append, List.length_map, List.length_take, List.length_drop]
 omega
theorem mvRow_at {d : Int} {l : List Clause} {k : Nat} {x : Clause} (h : l[k]? = some x) : (mvRow d l k)[k]? = some x := by
 have hk := (List.getElem?_eq_some_iff.1 h).1
 unfold mvRow
 rw [List.getElem?_append_right (by simp; omega)]
 simp
 rw [show k + (k - min k l.length) = k by omega]
 exact h
theorem mvRow_succ {d : Int} {l : List Clause} {k : Nat} {x : Clause} (h : l[k]? = some x) : (mvRow d l k).set k (mv d x) = mvRow d l (k + 1) := by
 have hk := (List.getElem?_eq_some_iff.1 h).1
 unfold mvRow
 rw [List.set_append_right _ _ (by simp; omega)]
 have e : k - ((l.take k).map (mv d)).length = 0 := by simp; omega
 rw [e, List.drop_eq_getElem_cons hk, List.set_cons_zero, List.take_succ_eq_append_getElem hk, List.map_append]
 rw [(List.getElem?_eq_some_iff.1 h).2]
 simp
theorem OwnCs.cell {w : World} {base b n c k j : Nat} {L : List Clause} {x : Clause} {v : Value} (h : OwnCs w base (.slice (some ⟨b, 0, none⟩) n c) L) (hx : L[k]? = some x) (hv : x.cells[j]? = some v) : w.cell? ⟨b, k * 20 + j, none⟩ = some v ∧ w.frozen? ⟨b, k * 20 + j, none⟩ = false := by
 rcases h.2 with ⟨hv, _⟩ | ⟨g, cap', cur, hg, r2, r3, r4, r5, r6, r7⟩
 · cases hv
 · simp only [Value.slice.injEq, Option.some.injEq, Addr.mk.injEq] at hg
   obtain ⟨⟨rfl, _⟩, _, rfl⟩ := hg
   refine ⟨?_, blk_frozen r3⟩
   rw [cell_of_row _ _ _ _ _ _ r3]
   have h1 := cfl_get L k x j v hx hv
   rw [← r7, List.getElem?_take] at h1
   split at h1
   · rw [← Array.getElem?_toList]; exact h1
   · cases h1
theorem seats_succ {l : List Clause} {k : Nat} {x : Clause} (hx : l[k]? = some x) : seatsB (l.take (k + 1)) = (seatsB (l.take k) && (seat x.id.seat && (decide (x.after = noStamp) || seat x.after.seat))) := by
 have hk := (List.getElem?_eq_some_iff.1 hx).1
 rw [List.take_succ_eq_append_getElem hk, (List.getElem?_eq_some_iff.1 hx).2]
 unfold seatsB
 rw [List.all_append]
 simp
theorem seats_bad {l : List Clause} {k : Nat} (hk : seatsB (l.take k) = false) : seatsB l = false := by
 unfold seatsB at *
 rw [List.all_eq_false] at *
 obtain ⟨c, hc, h⟩ := hk
 exact ⟨c, List.mem_of_mem_take hc, h⟩
end Go.Proofs.YtecnlfaholmpoaaGreat
namespace Go.Proofs.YtecnlfaholmpoaaGreat
open Go.RowKit
def eqlPt (x y : Value) : Sem Value := binOp .eql 114 x y
theorem addr_beq (b i j : Nat) : ((⟨b, i, none⟩ : Addr) == ⟨b, j, none⟩) = decide (i = j) := by
 rw [Bool.eq_iff_iff]
 simp
theorem run_equalPt (d b i j : Nat) (W : World) : (Op.equalIn (d + 1) 114 (.pointer (some ⟨b, i, none⟩)) (.pointer (some ⟨b, j, none⟩))).run Tryz.prog W = .ok (decide (i = j)) W := by
 have hs : (sizeOf 45).run Tryz.prog W = .ok 2 W := by kernel_rfl
 simp [Op.equalIn, run_underlying Tryz.underlying114, hs, sameAddr, addr_beq]
@[go_sem] theorem run_eqlPt (b i j : Nat) (W : World) : (eqlPt (.pointer (some ⟨b, i, none⟩)) (.pointer (some ⟨b, j, none⟩))).run Tryz.prog W = .ok (.bool (decide (i = j))) W := by
 unfold eqlPt
 simp only [binOp]
 simp only [Op.equal, Sem.run_bind, show Op.maxDepth = 9999 + 1 from rfl, run_equalPt, Result.andThen_ok, Sem.run_pure]
@[go_sem high] theorem fold_eqlPt (x y : Value) : binOp .eql 114 x y = eqlPt x y := rfl
end Go.Proofs.YtecnlfaholmpoaaGreat
