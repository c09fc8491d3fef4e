/- Put. -/
import Derived.Test.YtecnlfaholmpoaaGreatJC23
set_option linter.unusedVariables false
set_option linter.unusedSimpArgs false
set_option maxRecDepth 20000
set_option maxHeartbeats 4000000
namespace Go.Proofs.YtecnlfaholmpoaaGreat
open Go.RowKit
theorem cproper_eq {c : Clause} {r : Bool} (h : c.proper = r) (w : World) : Calls Tryz.prog 68 #[c.agg] w fun e w' => e = .returned (.bool r) ∧ Below w.heap.size w w' := by
 subst h
 exact cproper_any c w
theorem step_mapUpdate {P : Program} {ops : Array Oper} {o : Oper} {a : Act} {w w' : World} {K : Act → World → Prop} {Q : Exit → Act → World → Prop} {E : Prop} (hgd : o.guard = none) (t : TypeId) (x y u : Operand) (ho : o.op = Op.mapUpdate t x y u) (mv kv vv : Value)
 (hx : a.eval x = mv) (hy : a.eval y = kv) (hu : a.eval u = vv) (hrun : (Instr.mapUpdate t mv kv vv).run P w = .ok () w') (hK : K (a.put o.dst undef) w') : if Region.wanted o (yielded ops a.tmps) = true then Oper.wp P o a w K Q else E := by
 have hw : Region.wanted o (yielded ops a.tmps) = true := by simp [Region.wanted, hgd]
 rw [if_pos hw]
 unfold Oper.wp
 simp [execOp, ho, hx, hy, hu, hrun, Result.andThen]
 exact hK
theorem setBlock_ne {W : World} {mb k : Nat} {o : Obj} (h : k ≠ mb) : (Go.ChangeMaps.setBlock W mb o).heap[k]? = W.heap[k]? := by
 simp only [Go.ChangeMaps.setBlock, Array.getElem?_setIfInBounds]
 rw [if_neg (fun e => h e.symm)]
theorem setBlock_cell {W : World} {mb b i : Nat} {o : Obj} (h : b ≠ mb) : (Go.ChangeMaps.setBlock W mb o).cell? ⟨b, i, none⟩ = W.cell? ⟨b, i, none⟩ := by
 unfold World.cell?
 rw [setBlock_ne h]
theorem cmap_ne {w : World} {mb pb i : Nat} {pg : List Clause} {v : Value} (h : CMap w mb pg) (hc : w.cell? ⟨pb, i, none⟩ = some v) : pb ≠ mb := by
 rintro rfl
 obtain ⟨es, clock, hh, _⟩ := h.is
 simp [World.cell?, hh] at hc
theorem grown_set {w W : World} {mb : Nat} {o : Obj} (h : Below w.heap.size w W) : w.grownBy (Go.ChangeMaps.setBlock W mb o) (some mb) :=
 ⟨h.os, h.tape, h.output, by simpa [Go.ChangeMaps.setBlock] using h.size, fun i hi hne => by
   have : (Go.ChangeMaps.setBlock W mb o).heap[i]? = W.heap[i]? := by
    simp only [Go.ChangeMaps.setBlock, Array.getElem?_setIfInBounds]
    rw [if_neg (fun e => hne (by rw [e]))]
   exact this.trans (h.block i hi)⟩
theorem below_grown {w w' : World} {o : Option Nat} (h : Below w.heap.size w w') : w.grownBy w' o := ⟨h.os, h.tape, h.output, h.size, fun i hi _ => h.block i hi⟩
theorem put_bad (pg : List Clause) (c : Clause) (pb mb : Nat) (w : World) (hpc : w.cell? ⟨pb, 0, none⟩ = some (.map (some mb))) (hpl : pb < w.heap.size) (hm : CMap w mb pg) (hpr : c.proper = false) : Calls Tryz.prog 31 #[.pointer (some ⟨pb, 0, none⟩), c.agg] w fun e w' => e = .returned (.int .i64 (1)) ∧ CMap w' mb pg ∧ w.grownBy w' (some mb) := by
 have HPR := Lib.hid hpr; clear hpr
 have HPC := Lib.hid hpc; clear hpc
 have HM := Lib.hid hm; clear hm
 go_enter Tryz.func31, Tryz.ntmps31
 go_wp2_with fail
 refine (cproper_eq HPR.out _).mono ?_
 rintro e w1 ⟨rfl, hb1⟩
 have hb0 := ((Below.refl w.heap.size w).alloc (Nat.le_refl _) (.cells (claCs c) 51)).trans (hb1.mono (by simp))
 clear hb1
 go_wp2_with fail
 go_ret
 exact ⟨rfl, HM.out.keep (hb0.block _ HM.out.lt), below_grown hb0⟩
theorem put_k_gone (pg : List Clause) (c : Clause) (pb mb : Nat) (w : World) (hpc : w.cell? ⟨pb, 0, none⟩ = some (.map (some mb))) (hpl : pb < w.heap.size) (hm : CMap w mb pg) (p : Clause) (hpr : c.proper = true) (hq1 : ∀ z, CMap z mb pg → (Instr.lookup 100 (.map (some mb)) c.id.agg true).run Tryz.prog z = .ok (.tuple #[zeroCl.agg, .bool false]) z) (hq2 : ∀ z, CMap z mb pg → (Instr.lookup 100 (.map (some mb)) c.after.agg true).run Tryz.prog z = .ok (.tuple #[p.agg, .bool true]) z) (hgn : c.gone = true) (hup : ∀ z, CMap z mb pg → ∃ o, (Instr.mapUpdate 100 (.map (some mb)) c.id.agg c.agg).run Tryz.prog z = .ok () (Go.ChangeMaps.setBlock z mb o) ∧ CMap (Go.ChangeMaps.setBlock z mb o) mb (pg ++ [c])) : Calls Tryz.prog 31 #[.pointer (some ⟨pb, 0, none⟩), c.agg] w fun e w' => e = .returned (.int .i64 (0)) ∧ CMap w' mb (pg ++ [c]) ∧ w.grownBy w' (some mb) := by
 have HPR := Lib.hid hpr; clear hpr
 have HQ1 := Lib.hid hq1; clear hq1
 have HQ2 := Lib.hid hq2; clear hq2
 have HUP := Lib.hid hup; clear hup
 have HGN := Lib.hid hgn; clear hgn
 have HPC := Lib.hid hpc; clear hpc
 have HM := Lib.hid hm; clear hm
 go_enter Tryz.func31, Tryz.ntmps31
 go_wp2_with fail
 refine (cproper_eq HPR.out _).mono ?_
 rintro e w1 ⟨rfl, hb1⟩
 have hb0 := ((Below.refl w.heap.size w).alloc (Nat.le_refl _) (.cells (claCs c) 51)).trans (hb1.mono (by simp))
 have k := rkeepk hb1 (b := w.heap.size) (x := .cells (claCs c) 51 (0, 0)) (by simp [go_sem])
 clear hb1
 go_wp2_with fail
 have H3 : w1.cell? ⟨pb, 0, none⟩ = some (.map (some mb)) ∧ w1.blk w.heap.size = some (.cells (claCs c) 51 (0, 0)) ∧ CMap w1 mb pg := ⟨(keepw hb0 HPC.out), k, HM.out.keep (hb0.block _ HM.out.lt)⟩
 clear k
 refine wp_region_held_drew (S := (fun X : World => X.cell? ⟨pb, 0, none⟩ = some (.map (some mb)) ∧ X.blk w.heap.size = some (.cells (claCs c) 51 (0, 0)) ∧ CMap X mb pg)) (by kernel_rfl) ⟨H3.1, H3.2.1, H3.2.2.keep rfl⟩ (fun hHeld => ?_)
 refine takeF (i := 0) (v := .pointer (some ⟨pb, 0, none⟩)) (k := 19) rfl rfl (by kernel_rfl) (by kernel_rfl) (by kernel_rfl) (fun _ _ _ h => h) (Or.inl ⟨by rfl, fun z hz => by (obtain ⟨z0, z1, z2⟩ := hz; go_simp)⟩) hHeld ?_
 try simp only [Act.put, sia, sc0, scs]
 refine takeF (i := 1) (v := .pointer (some ⟨pb, 0, none⟩)) (k := 20) rfl rfl (by kernel_rfl) (by kernel_rfl) (by kernel_rfl) (fun _ _ _ h => h) (Or.inl ⟨by rfl, fun z hz => by (obtain ⟨z0, z1, z2⟩ := hz; go_simp)⟩) hHeld ?_
 try simp only [Act.put, sia, sc0, scs]
 refine takeF (i := 2) (v := .pointer (some ⟨pb, 0, none⟩)) (k := 21) rfl rfl (by kernel_rfl) (by kernel_rfl) (by kernel_rfl) (fun _ _ _ h => h) (Or.inl ⟨by rfl, fun z hz => by (obtain ⟨z0, z1, z2⟩ := hz; go_simp)⟩) hHeld ?_
 try simp only [Act.put, sia, sc0, scs]
 refine takeF (i := 3) (v := .map (some mb)) (k := 22) rfl rfl (by kernel_rfl) (by kernel_rfl) (by kernel_rfl) (fun _ _ _ h => h) (Or.inl ⟨by rfl, fun z hz => by (obtain ⟨z0, z1, z2⟩ := hz; go_simp)⟩) hHeld ?_
 try simp only [Act.put, sia, sc0, scs]
 refine takeF (i := 4) (v := .pointer (some ⟨w.heap.size, 0, none⟩)) (k := 23) rfl rfl (by kernel_rfl) (by kernel_rfl) (by kernel_rfl) (fun _ _ _ h => h) (Or.inl ⟨by rfl, fun z hz => by (obtain ⟨z0, z1, z2⟩ := hz; go_simp)⟩) hHeld ?_
 try simp only [Act.put, sia, sc0, scs]
 refine takeF (i := 5) (v := c.id.agg) (k := 24) rfl rfl (by kernel_rfl) (by kernel_rfl) (by kernel_rfl) (fun _ _ _ h => h) (Or.inl ⟨by rfl, fun z hz => by (obtain ⟨z0, z1, z2⟩ := hz; have y0 : z.cell? ⟨w.heap.size, 0, none⟩ = some (.int .i64 c.id.seat) := (cell_of_row _ _ _ _ _ _ z1).trans rfl; have y1 : z.cell? ⟨w.heap.size, 1, none⟩ = some (.int .i64 c.id.count) := (cell_of_row _ _ _ _ _ _ z1).trans rfl; have y2 : z.cell? ⟨w.heap.size, 2, none⟩ = some (.int .i64 c.after.seat) := (cell_of_row _ _ _ _ _ _ z1).trans rfl; have y3 : z.cell? ⟨w.heap.size, 3, none⟩ = some (.int .i64 c.after.count) := (cell_of_row _ _ _ _ _ _ z1).trans rfl; clear z1 z2; go_simp)⟩) hHeld ?_
 try simp only [Act.put, sia, sc0, scs]
 refine takeF (i := 6) (v := .tuple #[zeroCl.agg, .bool false]) (k := 25) rfl rfl (by kernel_rfl) (by kernel_rfl) (by kernel_rfl) (fun _ _ _ h => h) (Or.inl ⟨by rfl, fun z hz => by (obtain ⟨z0, z1, z2⟩ := hz; have hq := HQ1.out z z2; clear z0 z1 z2; go_simp)⟩) hHeld ?_
 try simp only [Act.put, sia, sc0, scs]
 refine takeF (i := 7) (v := .tuple #[zeroCl.agg, .bool false]) (k := 18) rfl rfl (by kernel_rfl) (by kernel_rfl) (by kernel_rfl) (fun _ _ _ h => h) (Or.inl ⟨by rfl, fun z hz => by (obtain ⟨z0, z1, z2⟩ := hz; go_simp)⟩) hHeld ?_
 try simp only [Act.put, sia, sc0, scs]
 refine takeF (i := 8) (v := zeroCl.agg) (k := 26) rfl rfl (by kernel_rfl) (by kernel_rfl) (by kernel_rfl) (fun _ _ _ h => h) (Or.inl ⟨by rfl, fun z hz => by (obtain ⟨z0, z1, z2⟩ := hz; go_simp)⟩) hHeld ?_
 try simp only [Act.put, sia, sc0, scs]
 refine takeF (i := 9) (v := .bool false) (k := 27) rfl rfl (by kernel_rfl) (by kernel_rfl) (by kernel_rfl) (fun _ _ _ h => h) (Or.inl ⟨by rfl, fun z hz => by (obtain ⟨z0, z1, z2⟩ := hz; go_simp)⟩) hHeld ?_
 try simp only [Act.put, sia, sc0, scs]
 refine wpAnyH_ready (rs := [10]) (by kernel_rfl) (by simp) (AllReadyH.cons rfl (fun K hK => ?_) AllReadyH.nil)
 go_simp
 have hA : Below w1.heap.size w1 (w1.drew.alloc (.cells (claCs zeroCl) 51)) := (Below.refl _ _).drew.alloc (Nat.le_refl _) _
 refine hK.out _ _ ⟨keepw hA H3.1, rkeepk hA H3.2.1, H3.2.2.keep (hA.block _ H3.2.2.lt)⟩ (fun hHeld => ?_)
 clear hK K
 try simp only [Act.put, sia, sc0, scs]
 refine wpAnyH_ready (rs := [11]) (by kernel_rfl) (by simp) (AllReadyH.cons rfl (fun K hK => ?_) AllReadyH.nil)
 refine step_store_cla rfl (.tmp 5) (.tmp 26) rfl (w1.heap.size) zeroCl zeroCl rfl rfl (heap_alloc_new _ _) ?_
 show K _ ((w1.drew.alloc (.cells (claCs zeroCl) 51)).setRow w1.heap.size (claCs zeroCl))
 rw [show (w1.drew.alloc (.cells (claCs zeroCl) 51)).setRow w1.heap.size (claCs zeroCl) = w1.drew.alloc (.cells (claCs zeroCl) 51) from setRow_alloc_new w1.drew _ _ _]
 have hA' : Below w1.heap.size w1 (w1.drew.alloc (.cells (claCs zeroCl) 51)) := (Below.refl _ _).drew.alloc (Nat.le_refl _) _
 refine hK.out _ _ ⟨keepw hA' H3.1, rkeepk hA' H3.2.1, H3.2.2.keep (hA'.block _ H3.2.2.lt)⟩ (fun hHeld => ?_)
 clear hK K
 try simp only [Act.put, sia, sc0, scs]
 refine takeF (i := 12) (v := .bool false) (k := 6) rfl rfl (by kernel_rfl) (by kernel_rfl) (by kernel_rfl) (fun _ _ _ h => h) (Or.inl ⟨by rfl, fun z hz => by (obtain ⟨z0, z1, z2⟩ := hz; go_simp)⟩) hHeld ?_
 try simp only [Act.put, sia, sc0, scs]
 refine wpAnyH_done (by kernel_rfl) ?_ _
 obtain ⟨w2, hw2⟩ : ∃ X, X = w1.drew.alloc (.cells (claCs zeroCl) 51) := ⟨_, rfl⟩
 have hbw2 : Below w.heap.size w w2 := by rw [hw2]; exact hb0.drew.alloc hb0.size _
 have Hw2 : w2.cell? ⟨pb, 0, none⟩ = some (.map (some mb)) ∧ w2.blk w.heap.size = some (.cells (claCs c) 51 (0, 0)) ∧ CMap w2 mb pg := ⟨keepw hbw2 HPC.out, by rw [hw2]; exact (Below.heap_alloc w1.drew _ _ (lt_of_heap H3.2.1)).trans H3.2.1, HM.out.keep (hbw2.block _ HM.out.lt)⟩
 have Zw2 : w2.blk w1.heap.size = some (.cells (claCs zeroCl) 51 (0, 0)) := by rw [hw2]; exact heap_alloc_new w1.drew _
 rw [← hw2]
 clear hw2
 go_wp2_with fail
 refine wp_region_held_drew (S := (fun X : World => X.cell? ⟨pb, 0, none⟩ = some (.map (some mb)) ∧ X.blk w.heap.size = some (.cells (claCs c) 51 (0, 0)) ∧ CMap X mb pg)) (by kernel_rfl) ⟨Hw2.1, Hw2.2.1, Hw2.2.2.keep rfl⟩ (fun hHeld => ?_)
 refine takeF (i := 0) (v := .pointer (some ⟨pb, 0, none⟩)) (k := 45) rfl rfl (by kernel_rfl) (by kernel_rfl) (by kernel_rfl) (fun _ _ _ h => h) (Or.inl ⟨by rfl, fun z hz => by (obtain ⟨z0, z1, z2⟩ := hz; go_simp)⟩) hHeld ?_
 try simp only [Act.put, sia, sc0, scs]
 refine takeF (i := 1) (v := .pointer (some ⟨pb, 0, none⟩)) (k := 46) rfl rfl (by kernel_rfl) (by kernel_rfl) (by kernel_rfl) (fun _ _ _ h => h) (Or.inl ⟨by rfl, fun z hz => by (obtain ⟨z0, z1, z2⟩ := hz; go_simp)⟩) hHeld ?_
 try simp only [Act.put, sia, sc0, scs]
 refine takeF (i := 2) (v := .pointer (some ⟨pb, 0, none⟩)) (k := 47) rfl rfl (by kernel_rfl) (by kernel_rfl) (by kernel_rfl) (fun _ _ _ h => h) (Or.inl ⟨by rfl, fun z hz => by (obtain ⟨z0, z1, z2⟩ := hz; go_simp)⟩) hHeld ?_
 try simp only [Act.put, sia, sc0, scs]
 refine takeF (i := 3) (v := .map (some mb)) (k := 48) rfl rfl (by kernel_rfl) (by kernel_rfl) (by kernel_rfl) (fun _ _ _ h => h) (Or.inl ⟨by rfl, fun z hz => by (obtain ⟨z0, z1, z2⟩ := hz; go_simp)⟩) hHeld ?_
 try simp only [Act.put, sia, sc0, scs]
 refine takeF (i := 4) (v := .pointer (some ⟨w.heap.size, 2, none⟩)) (k := 49) rfl rfl (by kernel_rfl) (by kernel_rfl) (by kernel_rfl) (fun _ _ _ h => h) (Or.inl ⟨by rfl, fun z hz => by (obtain ⟨z0, z1, z2⟩ := hz; go_simp)⟩) hHeld ?_
 try simp only [Act.put, sia, sc0, scs]
 refine takeF (i := 5) (v := c.after.agg) (k := 50) rfl rfl (by kernel_rfl) (by kernel_rfl) (by kernel_rfl) (fun _ _ _ h => h) (Or.inl ⟨by rfl, fun z hz => by (obtain ⟨z0, z1, z2⟩ := hz; have y0 : z.cell? ⟨w.heap.size, 0, none⟩ = some (.int .i64 c.id.seat) := (cell_of_row _ _ _ _ _ _ z1).trans rfl; have y1 : z.cell? ⟨w.heap.size, 1, none⟩ = some (.int .i64 c.id.count) := (cell_of_row _ _ _ _ _ _ z1).trans rfl; have y2 : z.cell? ⟨w.heap.size, 2, none⟩ = some (.int .i64 c.after.seat) := (cell_of_row _ _ _ _ _ _ z1).trans rfl; have y3 : z.cell? ⟨w.heap.size, 3, none⟩ = some (.int .i64 c.after.count) := (cell_of_row _ _ _ _ _ _ z1).trans rfl; clear z1 z2; go_simp)⟩) hHeld ?_
 try simp only [Act.put, sia, sc0, scs]
 refine takeF (i := 6) (v := .tuple #[p.agg, .bool true]) (k := 51) rfl rfl (by kernel_rfl) (by kernel_rfl) (by kernel_rfl) (fun _ _ _ h => h) (Or.inl ⟨by rfl, fun z hz => by (obtain ⟨z0, z1, z2⟩ := hz; have hq := HQ2.out z z2; clear z0 z1 z2; go_simp)⟩) hHeld ?_
 try simp only [Act.put, sia, sc0, scs]
 refine takeF (i := 7) (v := .tuple #[p.agg, .bool true]) (k := 44) rfl rfl (by kernel_rfl) (by kernel_rfl) (by kernel_rfl) (fun _ _ _ h => h) (Or.inl ⟨by rfl, fun z hz => by (obtain ⟨z0, z1, z2⟩ := hz; go_simp)⟩) hHeld ?_
 try simp only [Act.put, sia, sc0, scs]
 refine takeF (i := 8) (v := p.agg) (k := 52) rfl rfl (by kernel_rfl) (by kernel_rfl) (by kernel_rfl) (fun _ _ _ h => h) (Or.inl ⟨by rfl, fun z hz => by (obtain ⟨z0, z1, z2⟩ := hz; go_simp)⟩) hHeld ?_
 try simp only [Act.put, sia, sc0, scs]
 refine takeF (i := 9) (v := .bool true) (k := 53) rfl rfl (by kernel_rfl) (by kernel_rfl) (by kernel_rfl) (fun _ _ _ h => h) (Or.inl ⟨by rfl, fun z hz => by (obtain ⟨z0, z1, z2⟩ := hz; go_simp)⟩) hHeld ?_
 try simp only [Act.put, sia, sc0, scs]
 refine wpAnyH_ready (rs := [10]) (by kernel_rfl) (by simp) (AllReadyH.cons rfl (fun K hK => ?_) AllReadyH.nil)
 go_simp
 have hA : Below w2.heap.size w2 (w2.drew.alloc (.cells (claCs zeroCl) 51)) := (Below.refl _ _).drew.alloc (Nat.le_refl _) _
 refine hK.out _ _ ⟨keepw hA Hw2.1, rkeepk hA Hw2.2.1, Hw2.2.2.keep (hA.block _ Hw2.2.2.lt)⟩ (fun hHeld => ?_)
 clear hK K
 try simp only [Act.put, sia, sc0, scs]
 refine wpAnyH_ready (rs := [11]) (by kernel_rfl) (by simp) (AllReadyH.cons rfl (fun K hK => ?_) AllReadyH.nil)
 refine step_store_cla rfl (.tmp 9) (.tmp 52) rfl (w2.heap.size) p zeroCl rfl rfl (heap_alloc_new _ _) ?_
 show K _ ((w2.drew.alloc (.cells (claCs zeroCl) 51)).setRow w2.heap.size (claCs p))
 rw [show (w2.drew.alloc (.cells (claCs zeroCl) 51)).setRow w2.heap.size (claCs p) = w2.drew.alloc (.cells (claCs p) 51) from setRow_alloc_new w2.drew _ _ _]
 have hA' : Below w2.heap.size w2 (w2.drew.alloc (.cells (claCs p) 51)) := (Below.refl _ _).drew.alloc (Nat.le_refl _) _
 refine hK.out _ _ ⟨keepw hA' Hw2.1, rkeepk hA' Hw2.2.1, Hw2.2.2.keep (hA'.block _ Hw2.2.2.lt)⟩ (fun hHeld => ?_)
 clear hK K
 try simp only [Act.put, sia, sc0, scs]
 refine takeF (i := 12) (v := .bool true) (k := 10) rfl rfl (by kernel_rfl) (by kernel_rfl) (by kernel_rfl) (fun _ _ _ h => h) (Or.inl ⟨by rfl, fun z hz => by (obtain ⟨z0, z1, z2⟩ := hz; go_simp)⟩) hHeld ?_
 try simp only [Act.put, sia, sc0, scs]
 refine wpAnyH_done (by kernel_rfl) ?_ _
 obtain ⟨w3, hw3⟩ : ∃ X, X = w2.drew.alloc (.cells (claCs p) 51) := ⟨_, rfl⟩
 have hbw3 : Below w.heap.size w w3 := by rw [hw3]; exact hbw2.drew.alloc hbw2.size _
 have Hw3 : w3.cell? ⟨pb, 0, none⟩ = some (.map (some mb)) ∧ w3.blk w.heap.size = some (.cells (claCs c) 51 (0, 0)) ∧ CMap w3 mb pg := ⟨keepw hbw3 HPC.out, by rw [hw3]; exact (Below.heap_alloc w2.drew _ _ (lt_of_heap Hw2.2.1)).trans Hw2.2.1, HM.out.keep (hbw3.block _ HM.out.lt)⟩
 have Zw3 : w3.blk w2.heap.size = some (.cells (claCs p) 51 (0, 0)) := by rw [hw3]; exact heap_alloc_new w2.drew _
 rw [← hw3]
 clear hw3
 have y0 : w3.cell? ⟨w.heap.size, 0, none⟩ = some (.int .i64 c.id.seat) := (cell_of_row _ _ _ _ _ _ Hw3.2.1).trans rfl
 have y1 : w3.cell? ⟨w.heap.size, 1, none⟩ = some (.int .i64 c.id.count) := (cell_of_row _ _ _ _ _ _ Hw3.2.1).trans rfl
 have y2 : w3.cell? ⟨w.heap.size, 2, none⟩ = some (.int .i64 c.after.seat) := (cell_of_row _ _ _ _ _ _ Hw3.2.1).trans rfl
 have y3 : w3.cell? ⟨w.heap.size, 3, none⟩ = some (.int .i64 c.after.count) := (cell_of_row _ _ _ _ _ _ Hw3.2.1).trans rfl
 have y19 : w3.cell? ⟨w.heap.size, 19, none⟩ = some (.bool c.gone) := (cell_of_row _ _ _ _ _ _ Hw3.2.1).trans rfl
 have yp := Hw3.1
 have hgn := HGN.out
 go_wp2_with fail
 have hs := True.intro
 have hne := cmap_ne HM.out HPC.out
 have hlm := HM.out.lt
 clear y0 y1 y2 y3 y19 yp hgn hs
 refine wp_region_held_drew (S := (fun X : World => X.cell? ⟨pb, 0, none⟩ = some (.map (some mb)) ∧ X.blk w.heap.size = some (.cells (claCs c) 51 (0, 0)))) (by kernel_rfl) ⟨Hw3.1, Hw3.2.1⟩ (fun hHeld => ?_)
 refine takeF (i := 0) (v := .pointer (some ⟨pb, 0, none⟩)) (k := 75) rfl rfl (by kernel_rfl) (by kernel_rfl) (by kernel_rfl) (fun _ _ _ h => h) (Or.inl ⟨by rfl, fun z hz => by (obtain ⟨z0, z1⟩ := hz; go_simp)⟩) hHeld ?_
 try simp only [Act.put, sia, sc0, scs]
 refine takeF (i := 1) (v := .pointer (some ⟨pb, 0, none⟩)) (k := 76) rfl rfl (by kernel_rfl) (by kernel_rfl) (by kernel_rfl) (fun _ _ _ h => h) (Or.inl ⟨by rfl, fun z hz => by (obtain ⟨z0, z1⟩ := hz; go_simp)⟩) hHeld ?_
 try simp only [Act.put, sia, sc0, scs]
 refine takeF (i := 2) (v := .pointer (some ⟨pb, 0, none⟩)) (k := 77) rfl rfl (by kernel_rfl) (by kernel_rfl) (by kernel_rfl) (fun _ _ _ h => h) (Or.inl ⟨by rfl, fun z hz => by (obtain ⟨z0, z1⟩ := hz; go_simp)⟩) hHeld ?_
 try simp only [Act.put, sia, sc0, scs]
 refine takeF (i := 3) (v := .map (some mb)) (k := 78) rfl rfl (by kernel_rfl) (by kernel_rfl) (by kernel_rfl) (fun _ _ _ h => h) (Or.inl ⟨by rfl, fun z hz => by (obtain ⟨z0, z1⟩ := hz; go_simp)⟩) hHeld ?_
 try simp only [Act.put, sia, sc0, scs]
 refine takeF (i := 4) (v := .pointer (some ⟨w.heap.size, 0, none⟩)) (k := 79) rfl rfl (by kernel_rfl) (by kernel_rfl) (by kernel_rfl) (fun _ _ _ h => h) (Or.inl ⟨by rfl, fun z hz => by (obtain ⟨z0, z1⟩ := hz; go_simp)⟩) hHeld ?_
 try simp only [Act.put, sia, sc0, scs]
 refine takeF (i := 5) (v := c.id.agg) (k := 80) rfl rfl (by kernel_rfl) (by kernel_rfl) (by kernel_rfl) (fun _ _ _ h => h) (Or.inl ⟨by rfl, fun z hz => by (obtain ⟨z0, z1⟩ := hz; have y0 : z.cell? ⟨w.heap.size, 0, none⟩ = some (.int .i64 c.id.seat) := (cell_of_row _ _ _ _ _ _ z1).trans rfl; have y1 : z.cell? ⟨w.heap.size, 1, none⟩ = some (.int .i64 c.id.count) := (cell_of_row _ _ _ _ _ _ z1).trans rfl; have y2 : z.cell? ⟨w.heap.size, 2, none⟩ = some (.int .i64 c.after.seat) := (cell_of_row _ _ _ _ _ _ z1).trans rfl; have y3 : z.cell? ⟨w.heap.size, 3, none⟩ = some (.int .i64 c.after.count) := (cell_of_row _ _ _ _ _ _ z1).trans rfl; clear z1; go_simp)⟩) hHeld ?_
 try simp only [Act.put, sia, sc0, scs]
 refine takeF (i := 6) (v := c.agg) (k := 81) rfl rfl (by kernel_rfl) (by kernel_rfl) (by kernel_rfl) (fun _ _ _ h => h) (Or.inl ⟨by rfl, fun z hz => by (obtain ⟨z0, z1⟩ := hz; go_simp)⟩) hHeld ?_
 try simp only [Act.put, sia, sc0, scs]
 refine wpAnyH_ready (rs := [7]) (by kernel_rfl) (by simp) (AllReadyH.cons rfl (fun K hK => ?_) AllReadyH.nil)
 obtain ⟨o, hu1, hu2⟩ := HUP.out w3.drew (Hw3.2.2.keep rfl)
 refine step_mapUpdate rfl 100 (.tmp 78) (.tmp 80) (.tmp 81) rfl _ _ _ rfl rfl rfl hu1 ?_
 refine hK.out _ _ ⟨(setBlock_cell hne).trans Hw3.1, (setBlock_ne (show w.heap.size ≠ mb by omega)).trans Hw3.2.1⟩ (fun hHeld => ?_)
 clear hK K
 try simp only [Act.put, sia, sc0, scs]
 refine wpAnyH_done (by kernel_rfl) ?_ _
 go_wp2_with fail
 go_ret
 exact ⟨rfl, hu2, grown_set hbw3.drew⟩
theorem put_k_open (pg : List Clause) (c : Clause) (pb mb : Nat) (w : World) (hpc : w.cell? ⟨pb, 0, none⟩ = some (.map (some mb))) (hpl : pb < w.heap.size) (hm : CMap w mb pg) (p : Clause) (hpr : c.proper = true) (hq1 : ∀ z, CMap z mb pg → (Instr.lookup 100 (.map (some mb)) c.id.agg true).run Tryz.prog z = .ok (.tuple #[zeroCl.agg, .bool false]) z) (hq2 : ∀ z, CMap z mb pg → (Instr.lookup 100 (.map (some mb)) c.after.agg true).run Tryz.prog z = .ok (.tuple #[p.agg, .bool true]) z) (hn : pg.length ≤ 100000) (hgn : c.gone = false) (hop : openN pg < 64) (hup : ∀ z, CMap z mb pg → ∃ o, (Instr.mapUpdate 100 (.map (some mb)) c.id.agg c.agg).run Tryz.prog z = .ok () (Go.ChangeMaps.setBlock z mb o) ∧ CMap (Go.ChangeMaps.setBlock z mb o) mb (pg ++ [c])) : Calls Tryz.prog 31 #[.pointer (some ⟨pb, 0, none⟩), c.agg] w fun e w' => e = .returned (.int .i64 (0)) ∧ CMap w' mb (pg ++ [c]) ∧ w.grownBy w' (some mb) := by
 have HPR := Lib.hid hpr; clear hpr
 have HQ1 := Lib.hid hq1; clear hq1
 have HQ2 := Lib.hid hq2; clear hq2
 have HUP := Lib.hid hup; clear hup
 have HGN := Lib.hid hgn; clear hgn
 have HPC := Lib.hid hpc; clear hpc
 have HM := Lib.hid hm; clear hm
 go_enter Tryz.func31, Tryz.ntmps31
 go_wp2_with fail
 refine (cproper_eq HPR.out _).mono ?_
 rintro e w1 ⟨rfl, hb1⟩
 have hb0 := ((Below.refl w.heap.size w).alloc (Nat.le_refl _) (.cells (claCs c) 51)).trans (hb1.mono (by simp))
 have k := rkeepk hb1 (b := w.heap.size) (x := .cells (claCs c) 51 (0, 0)) (by simp [go_sem])
 clear hb1
 go_wp2_with fail
 have H3 : w1.cell? ⟨pb, 0, none⟩ = some (.map (some mb)) ∧ w1.blk w.heap.size = some (.cells (claCs c) 51 (0, 0)) ∧ CMap w1 mb pg := ⟨(keepw hb0 HPC.out), k, HM.out.keep (hb0.block _ HM.out.lt)⟩
 clear k
 refine wp_region_held_drew (S := (fun X : World => X.cell? ⟨pb, 0, none⟩ = some (.map (some mb)) ∧ X.blk w.heap.size = some (.cells (claCs c) 51 (0, 0)) ∧ CMap X mb pg)) (by kernel_rfl) ⟨H3.1, H3.2.1, H3.2.2.keep rfl⟩ (fun hHeld => ?_)
 refine takeF (i := 0) (v := .pointer (some ⟨pb, 0, none⟩)) (k := 19) rfl rfl (by kernel_rfl) (by kernel_rfl) (by kernel_rfl) (fun _ _ _ h => h) (Or.inl ⟨by rfl, fun z hz => by (obtain ⟨z0, z1, z2⟩ := hz; go_simp)⟩) hHeld ?_
 try simp only [Act.put, sia, sc0, scs]
 refine takeF (i := 1) (v := .pointer (some ⟨pb, 0, none⟩)) (k := 20) rfl rfl (by kernel_rfl) (by kernel_rfl) (by kernel_rfl) (fun _ _ _ h => h) (Or.inl ⟨by rfl, fun z hz => by (obtain ⟨z0, z1, z2⟩ := hz; go_simp)⟩) hHeld ?_
 try simp only [Act.put, sia, sc0, scs]
 refine takeF (i := 2) (v := .pointer (some ⟨pb, 0, none⟩)) (k := 21) rfl rfl (by kernel_rfl) (by kernel_rfl) (by kernel_rfl) (fun _ _ _ h => h) (Or.inl ⟨by rfl, fun z hz => by (obtain ⟨z0, z1, z2⟩ := hz; go_simp)⟩) hHeld ?_
 try simp only [Act.put, sia, sc0, scs]
 refine takeF (i := 3) (v := .map (some mb)) (k := 22) rfl rfl (by kernel_rfl) (by kernel_rfl) (by kernel_rfl) (fun _ _ _ h => h) (Or.inl ⟨by rfl, fun z hz => by (obtain ⟨z0, z1, z2⟩ := hz; go_simp)⟩) hHeld ?_
 try simp only [Act.put, sia, sc0, scs]
 refine takeF (i := 4) (v := .pointer (some ⟨w.heap.size, 0, none⟩)) (k := 23) rfl rfl (by kernel_rfl) (by kernel_rfl) (by kernel_rfl) (fun _ _ _ h => h) (Or.inl ⟨by rfl, fun z hz => by (obtain ⟨z0, z1, z2⟩ := hz; go_simp)⟩) hHeld ?_
 try simp only [Act.put, sia, sc0, scs]
 refine takeF (i := 5) (v := c.id.agg) (k := 24) rfl rfl (by kernel_rfl) (by kernel_rfl) (by kernel_rfl) (fun _ _ _ h => h) (Or.inl ⟨by rfl, fun z hz => by (obtain ⟨z0, z1, z2⟩ := hz; have y0 : z.cell? ⟨w.heap.size, 0, none⟩ = some (.int .i64 c.id.seat) := (cell_of_row _ _ _ _ _ _ z1).trans rfl; have y1 : z.cell? ⟨w.heap.size, 1, none⟩ = some (.int .i64 c.id.count) := (cell_of_row _ _ _ _ _ _ z1).trans rfl; have y2 : z.cell? ⟨w.heap.size, 2, none⟩ = some (.int .i64 c.after.seat) := (cell_of_row _ _ _ _ _ _ z1).trans rfl; have y3 : z.cell? ⟨w.heap.size, 3, none⟩ = some (.int .i64 c.after.count) := (cell_of_row _ _ _ _ _ _ z1).trans rfl; clear z1 z2; go_simp)⟩) hHeld ?_
 try simp only [Act.put, sia, sc0, scs]
 refine takeF (i := 6) (v := .tuple #[zeroCl.agg, .bool false]) (k := 25) rfl rfl (by kernel_rfl) (by kernel_rfl) (by kernel_rfl) (fun _ _ _ h => h) (Or.inl ⟨by rfl, fun z hz => by (obtain ⟨z0, z1, z2⟩ := hz; have hq := HQ1.out z z2; clear z0 z1 z2; go_simp)⟩) hHeld ?_
 try simp only [Act.put, sia, sc0, scs]
 refine takeF (i := 7) (v := .tuple #[zeroCl.agg, .bool false]) (k := 18) rfl rfl (by kernel_rfl) (by kernel_rfl) (by kernel_rfl) (fun _ _ _ h => h) (Or.inl ⟨by rfl, fun z hz => by (obtain ⟨z0, z1, z2⟩ := hz; go_simp)⟩) hHeld ?_
 try simp only [Act.put, sia, sc0, scs]
 refine takeF (i := 8) (v := zeroCl.agg) (k := 26) rfl rfl (by kernel_rfl) (by kernel_rfl) (by kernel_rfl) (fun _ _ _ h => h) (Or.inl ⟨by rfl, fun z hz => by (obtain ⟨z0, z1, z2⟩ := hz; go_simp)⟩) hHeld ?_
 try simp only [Act.put, sia, sc0, scs]
 refine takeF (i := 9) (v := .bool false) (k := 27) rfl rfl (by kernel_rfl) (by kernel_rfl) (by kernel_rfl) (fun _ _ _ h => h) (Or.inl ⟨by rfl, fun z hz => by (obtain ⟨z0, z1, z2⟩ := hz; go_simp)⟩) hHeld ?_
 try simp only [Act.put, sia, sc0, scs]
 refine wpAnyH_ready (rs := [10]) (by kernel_rfl) (by simp) (AllReadyH.cons rfl (fun K hK => ?_) AllReadyH.nil)
 go_simp
 have hA : Below w1.heap.size w1 (w1.drew.alloc (.cells (claCs zeroCl) 51)) := (Below.refl _ _).drew.alloc (Nat.le_refl _) _
 refine hK.out _ _ ⟨keepw hA H3.1, rkeepk hA H3.2.1, H3.2.2.keep (hA.block _ H3.2.2.lt)⟩ (fun hHeld => ?_)
 clear hK K
 try simp only [Act.put, sia, sc0, scs]
 refine wpAnyH_ready (rs := [11]) (by kernel_rfl) (by simp) (AllReadyH.cons rfl (fun K hK => ?_) AllReadyH.nil)
 refine step_store_cla rfl (.tmp 5) (.tmp 26) rfl (w1.heap.size) zeroCl zeroCl rfl rfl (heap_alloc_new _ _) ?_
 show K _ ((w1.drew.alloc (.cells (claCs zeroCl) 51)).setRow w1.heap.size (claCs zeroCl))
 rw [show (w1.drew.alloc (.cells (claCs zeroCl) 51)).setRow w1.heap.size (claCs zeroCl) = w1.drew.alloc (.cells (claCs zeroCl) 51) from setRow_alloc_new w1.drew _ _ _]
 have hA' : Below w1.heap.size w1 (w1.drew.alloc (.cells (claCs zeroCl) 51)) := (Below.refl _ _).drew.alloc (Nat.le_refl _) _
 refine hK.out _ _ ⟨keepw hA' H3.1, rkeepk hA' H3.2.1, H3.2.2.keep (hA'.block _ H3.2.2.lt)⟩ (fun hHeld => ?_)
 clear hK K
 try simp only [Act.put, sia, sc0, scs]
 refine takeF (i := 12) (v := .bool false) (k := 6) rfl rfl (by kernel_rfl) (by kernel_rfl) (by kernel_rfl) (fun _ _ _ h => h) (Or.inl ⟨by rfl, fun z hz => by (obtain ⟨z0, z1, z2⟩ := hz; go_simp)⟩) hHeld ?_
 try simp only [Act.put, sia, sc0, scs]
 refine wpAnyH_done (by kernel_rfl) ?_ _
 obtain ⟨w2, hw2⟩ : ∃ X, X = w1.drew.alloc (.cells (claCs zeroCl) 51) := ⟨_, rfl⟩
 have hbw2 : Below w.heap.size w w2 := by rw [hw2]; exact hb0.drew.alloc hb0.size _
 have Hw2 : w2.cell? ⟨pb, 0, none⟩ = some (.map (some mb)) ∧ w2.blk w.heap.size = some (.cells (claCs c) 51 (0, 0)) ∧ CMap w2 mb pg := ⟨keepw hbw2 HPC.out, by rw [hw2]; exact (Below.heap_alloc w1.drew _ _ (lt_of_heap H3.2.1)).trans H3.2.1, HM.out.keep (hbw2.block _ HM.out.lt)⟩
 have Zw2 : w2.blk w1.heap.size = some (.cells (claCs zeroCl) 51 (0, 0)) := by rw [hw2]; exact heap_alloc_new w1.drew _
 rw [← hw2]
 clear hw2
 go_wp2_with fail
 refine wp_region_held_drew (S := (fun X : World => X.cell? ⟨pb, 0, none⟩ = some (.map (some mb)) ∧ X.blk w.heap.size = some (.cells (claCs c) 51 (0, 0)) ∧ CMap X mb pg)) (by kernel_rfl) ⟨Hw2.1, Hw2.2.1, Hw2.2.2.keep rfl⟩ (fun hHeld => ?_)
 refine takeF (i := 0) (v := .pointer (some ⟨pb, 0, none⟩)) (k := 45) rfl rfl (by kernel_rfl) (by kernel_rfl) (by kernel_rfl) (fun _ _ _ h => h) (Or.inl ⟨by rfl, fun z hz => by (obtain ⟨z0, z1, z2⟩ := hz; go_simp)⟩) hHeld ?_
 try simp only [Act.put, sia, sc0, scs]
 refine takeF (i := 1) (v := .pointer (some ⟨pb, 0, none⟩)) (k := 46) rfl rfl (by kernel_rfl) (by kernel_rfl) (by kernel_rfl) (fun _ _ _ h => h) (Or.inl ⟨by rfl, fun z hz => by (obtain ⟨z0, z1, z2⟩ := hz; go_simp)⟩) hHeld ?_
 try simp only [Act.put, sia, sc0, scs]
 refine takeF (i := 2) (v := .pointer (some ⟨pb, 0, none⟩)) (k := 47) rfl rfl (by kernel_rfl) (by kernel_rfl) (by kernel_rfl) (fun _ _ _ h => h) (Or.inl ⟨by rfl, fun z hz => by (obtain ⟨z0, z1, z2⟩ := hz; go_simp)⟩) hHeld ?_
 try simp only [Act.put, sia, sc0, scs]
 refine takeF (i := 3) (v := .map (some mb)) (k := 48) rfl rfl (by kernel_rfl) (by kernel_rfl) (by kernel_rfl) (fun _ _ _ h => h) (Or.inl ⟨by rfl, fun z hz => by (obtain ⟨z0, z1, z2⟩ := hz; go_simp)⟩) hHeld ?_
 try simp only [Act.put, sia, sc0, scs]
 refine takeF (i := 4) (v := .pointer (some ⟨w.heap.size, 2, none⟩)) (k := 49) rfl rfl (by kernel_rfl) (by kernel_rfl) (by kernel_rfl) (fun _ _ _ h => h) (Or.inl ⟨by rfl, fun z hz => by (obtain ⟨z0, z1, z2⟩ := hz; go_simp)⟩) hHeld ?_
 try simp only [Act.put, sia, sc0, scs]
 refine takeF (i := 5) (v := c.after.agg) (k := 50) rfl rfl (by kernel_rfl) (by kernel_rfl) (by kernel_rfl) (fun _ _ _ h => h) (Or.inl ⟨by rfl, fun z hz => by (obtain ⟨z0, z1, z2⟩ := hz; have y0 : z.cell? ⟨w.heap.size, 0, none⟩ = some (.int .i64 c.id.seat) := (cell_of_row _ _ _ _ _ _ z1).trans rfl; have y1 : z.cell? ⟨w.heap.size, 1, none⟩ = some (.int .i64 c.id.count) := (cell_of_row _ _ _ _ _ _ z1).trans rfl; have y2 : z.cell? ⟨w.heap.size, 2, none⟩ = some (.int .i64 c.after.seat) := (cell_of_row _ _ _ _ _ _ z1).trans rfl; have y3 : z.cell? ⟨w.heap.size, 3, none⟩ = some (.int .i64 c.after.count) := (cell_of_row _ _ _ _ _ _ z1).trans rfl; clear z1 z2; go_simp)⟩) hHeld ?_
 try simp only [Act.put, sia, sc0, scs]
 refine takeF (i := 6) (v := .tuple #[p.agg, .bool true]) (k := 51) rfl rfl (by kernel_rfl) (by kernel_rfl) (by kernel_rfl) (fun _ _ _ h => h) (Or.inl ⟨by rfl, fun z hz => by (obtain ⟨z0, z1, z2⟩ := hz; have hq := HQ2.out z z2; clear z0 z1 z2; go_simp)⟩) hHeld ?_
 try simp only [Act.put, sia, sc0, scs]
 refine takeF (i := 7) (v := .tuple #[p.agg, .bool true]) (k := 44) rfl rfl (by kernel_rfl) (by kernel_rfl) (by kernel_rfl) (fun _ _ _ h => h) (Or.inl ⟨by rfl, fun z hz => by (obtain ⟨z0, z1, z2⟩ := hz; go_simp)⟩) hHeld ?_
 try simp only [Act.put, sia, sc0, scs]
 refine takeF (i := 8) (v := p.agg) (k := 52) rfl rfl (by kernel_rfl) (by kernel_rfl) (by kernel_rfl) (fun _ _ _ h => h) (Or.inl ⟨by rfl, fun z hz => by (obtain ⟨z0, z1, z2⟩ := hz; go_simp)⟩) hHeld ?_
 try simp only [Act.put, sia, sc0, scs]
 refine takeF (i := 9) (v := .bool true) (k := 53) rfl rfl (by kernel_rfl) (by kernel_rfl) (by kernel_rfl) (fun _ _ _ h => h) (Or.inl ⟨by rfl, fun z hz => by (obtain ⟨z0, z1, z2⟩ := hz; go_simp)⟩) hHeld ?_
 try simp only [Act.put, sia, sc0, scs]
 refine wpAnyH_ready (rs := [10]) (by kernel_rfl) (by simp) (AllReadyH.cons rfl (fun K hK => ?_) AllReadyH.nil)
 go_simp
 have hA : Below w2.heap.size w2 (w2.drew.alloc (.cells (claCs zeroCl) 51)) := (Below.refl _ _).drew.alloc (Nat.le_refl _) _
 refine hK.out _ _ ⟨keepw hA Hw2.1, rkeepk hA Hw2.2.1, Hw2.2.2.keep (hA.block _ Hw2.2.2.lt)⟩ (fun hHeld => ?_)
 clear hK K
 try simp only [Act.put, sia, sc0, scs]
 refine wpAnyH_ready (rs := [11]) (by kernel_rfl) (by simp) (AllReadyH.cons rfl (fun K hK => ?_) AllReadyH.nil)
 refine step_store_cla rfl (.tmp 9) (.tmp 52) rfl (w2.heap.size) p zeroCl rfl rfl (heap_alloc_new _ _) ?_
 show K _ ((w2.drew.alloc (.cells (claCs zeroCl) 51)).setRow w2.heap.size (claCs p))
 rw [show (w2.drew.alloc (.cells (claCs zeroCl) 51)).setRow w2.heap.size (claCs p) = w2.drew.alloc (.cells (claCs p) 51) from setRow_alloc_new w2.drew _ _ _]
 have hA' : Below w2.heap.size w2 (w2.drew.alloc (.cells (claCs p) 51)) := (Below.refl _ _).drew.alloc (Nat.le_refl _) _
 refine hK.out _ _ ⟨keepw hA' Hw2.1, rkeepk hA' Hw2.2.1, Hw2.2.2.keep (hA'.block _ Hw2.2.2.lt)⟩ (fun hHeld => ?_)
 clear hK K
 try simp only [Act.put, sia, sc0, scs]
 refine takeF (i := 12) (v := .bool true) (k := 10) rfl rfl (by kernel_rfl) (by kernel_rfl) (by kernel_rfl) (fun _ _ _ h => h) (Or.inl ⟨by rfl, fun z hz => by (obtain ⟨z0, z1, z2⟩ := hz; go_simp)⟩) hHeld ?_
 try simp only [Act.put, sia, sc0, scs]
 refine wpAnyH_done (by kernel_rfl) ?_ _
 obtain ⟨w3, hw3⟩ : ∃ X, X = w2.drew.alloc (.cells (claCs p) 51) := ⟨_, rfl⟩
 have hbw3 : Below w.heap.size w w3 := by rw [hw3]; exact hbw2.drew.alloc hbw2.size _
 have Hw3 : w3.cell? ⟨pb, 0, none⟩ = some (.map (some mb)) ∧ w3.blk w.heap.size = some (.cells (claCs c) 51 (0, 0)) ∧ CMap w3 mb pg := ⟨keepw hbw3 HPC.out, by rw [hw3]; exact (Below.heap_alloc w2.drew _ _ (lt_of_heap Hw2.2.1)).trans Hw2.2.1, HM.out.keep (hbw3.block _ HM.out.lt)⟩
 have Zw3 : w3.blk w2.heap.size = some (.cells (claCs p) 51 (0, 0)) := by rw [hw3]; exact heap_alloc_new w2.drew _
 rw [← hw3]
 clear hw3
 have y0 : w3.cell? ⟨w.heap.size, 0, none⟩ = some (.int .i64 c.id.seat) := (cell_of_row _ _ _ _ _ _ Hw3.2.1).trans rfl
 have y1 : w3.cell? ⟨w.heap.size, 1, none⟩ = some (.int .i64 c.id.count) := (cell_of_row _ _ _ _ _ _ Hw3.2.1).trans rfl
 have y2 : w3.cell? ⟨w.heap.size, 2, none⟩ = some (.int .i64 c.after.seat) := (cell_of_row _ _ _ _ _ _ Hw3.2.1).trans rfl
 have y3 : w3.cell? ⟨w.heap.size, 3, none⟩ = some (.int .i64 c.after.count) := (cell_of_row _ _ _ _ _ _ Hw3.2.1).trans rfl
 have y19 : w3.cell? ⟨w.heap.size, 19, none⟩ = some (.bool c.gone) := (cell_of_row _ _ _ _ _ _ Hw3.2.1).trans rfl
 have yp := Hw3.1
 have hgn := HGN.out
 go_wp2_with fail
 refine (openm_any pg mb _ hn Hw3.2.2).mono ?_
 rintro e w4 ⟨rfl, hb4⟩
 have hbw4 : Below w.heap.size w w4 := hbw3.trans (hb4.mono hbw3.size)
 have Hw4 : w4.cell? ⟨pb, 0, none⟩ = some (.map (some mb)) ∧ w4.blk w.heap.size = some (.cells (claCs c) 51 (0, 0)) ∧ CMap w4 mb pg := ⟨keepw hb4 Hw3.1, rkeepk hb4 Hw3.2.1, Hw3.2.2.keep (hb4.block _ Hw3.2.2.lt)⟩
 have hoi : ¬ (64 : Int) ≤ (openN pg : Int) := by omega
 clear hb4
 go_wp2_with fail
 have hs := True.intro
 have hne := cmap_ne HM.out HPC.out
 have hlm := HM.out.lt
 clear y0 y1 y2 y3 y19 yp hgn hs
 refine wp_region_held_drew (S := (fun X : World => X.cell? ⟨pb, 0, none⟩ = some (.map (some mb)) ∧ X.blk w.heap.size = some (.cells (claCs c) 51 (0, 0)))) (by kernel_rfl) ⟨Hw4.1, Hw4.2.1⟩ (fun hHeld => ?_)
 refine takeF (i := 0) (v := .pointer (some ⟨pb, 0, none⟩)) (k := 75) rfl rfl (by kernel_rfl) (by kernel_rfl) (by kernel_rfl) (fun _ _ _ h => h) (Or.inl ⟨by rfl, fun z hz => by (obtain ⟨z0, z1⟩ := hz; go_simp)⟩) hHeld ?_
 try simp only [Act.put, sia, sc0, scs]
 refine takeF (i := 1) (v := .pointer (some ⟨pb, 0, none⟩)) (k := 76) rfl rfl (by kernel_rfl) (by kernel_rfl) (by kernel_rfl) (fun _ _ _ h => h) (Or.inl ⟨by rfl, fun z hz => by (obtain ⟨z0, z1⟩ := hz; go_simp)⟩) hHeld ?_
 try simp only [Act.put, sia, sc0, scs]
 refine takeF (i := 2) (v := .pointer (some ⟨pb, 0, none⟩)) (k := 77) rfl rfl (by kernel_rfl) (by kernel_rfl) (by kernel_rfl) (fun _ _ _ h => h) (Or.inl ⟨by rfl, fun z hz => by (obtain ⟨z0, z1⟩ := hz; go_simp)⟩) hHeld ?_
 try simp only [Act.put, sia, sc0, scs]
 refine takeF (i := 3) (v := .map (some mb)) (k := 78) rfl rfl (by kernel_rfl) (by kernel_rfl) (by kernel_rfl) (fun _ _ _ h => h) (Or.inl ⟨by rfl, fun z hz => by (obtain ⟨z0, z1⟩ := hz; go_simp)⟩) hHeld ?_
 try simp only [Act.put, sia, sc0, scs]
 refine takeF (i := 4) (v := .pointer (some ⟨w.heap.size, 0, none⟩)) (k := 79) rfl rfl (by kernel_rfl) (by kernel_rfl) (by kernel_rfl) (fun _ _ _ h => h) (Or.inl ⟨by rfl, fun z hz => by (obtain ⟨z0, z1⟩ := hz; go_simp)⟩) hHeld ?_
 try simp only [Act.put, sia, sc0, scs]
 refine takeF (i := 5) (v := c.id.agg) (k := 80) rfl rfl (by kernel_rfl) (by kernel_rfl) (by kernel_rfl) (fun _ _ _ h => h) (Or.inl ⟨by rfl, fun z hz => by (obtain ⟨z0, z1⟩ := hz; have y0 : z.cell? ⟨w.heap.size, 0, none⟩ = some (.int .i64 c.id.seat) := (cell_of_row _ _ _ _ _ _ z1).trans rfl; have y1 : z.cell? ⟨w.heap.size, 1, none⟩ = some (.int .i64 c.id.count) := (cell_of_row _ _ _ _ _ _ z1).trans rfl; have y2 : z.cell? ⟨w.heap.size, 2, none⟩ = some (.int .i64 c.after.seat) := (cell_of_row _ _ _ _ _ _ z1).trans rfl; have y3 : z.cell? ⟨w.heap.size, 3, none⟩ = some (.int .i64 c.after.count) := (cell_of_row _ _ _ _ _ _ z1).trans rfl; clear z1; go_simp)⟩) hHeld ?_
 try simp only [Act.put, sia, sc0, scs]
 refine takeF (i := 6) (v := c.agg) (k := 81) rfl rfl (by kernel_rfl) (by kernel_rfl) (by kernel_rfl) (fun _ _ _ h => h) (Or.inl ⟨by rfl, fun z hz => by (obtain ⟨z0, z1⟩ := hz; go_simp)⟩) hHeld ?_
 try simp only [Act.put, sia, sc0, scs]
 refine wpAnyH_ready (rs := [7]) (by kernel_rfl) (by simp) (AllReadyH.cons rfl (fun K hK => ?_) AllReadyH.nil)
 obtain ⟨o, hu1, hu2⟩ := HUP.out w4.drew (Hw4.2.2.keep rfl)
 refine step_mapUpdate rfl 100 (.tmp 78) (.tmp 80) (.tmp 81) rfl _ _ _ rfl rfl rfl hu1 ?_
 refine hK.out _ _ ⟨(setBlock_cell hne).trans Hw4.1, (setBlock_ne (show w.heap.size ≠ mb by omega)).trans Hw4.2.1⟩ (fun hHeld => ?_)
 clear hK K
 try simp only [Act.put, sia, sc0, scs]
 refine wpAnyH_done (by kernel_rfl) ?_ _
 go_wp2_with fail
 go_ret
 exact ⟨rfl, hu2, grown_set hbw4.drew⟩
theorem put_k_full (pg : List Clause) (c : Clause) (pb mb : Nat) (w : World) (hpc : w.cell? ⟨pb, 0, none⟩ = some (.map (some mb))) (hpl : pb < w.heap.size) (hm : CMap w mb pg) (p : Clause) (hpr : c.proper = true) (hq1 : ∀ z, CMap z mb pg → (Instr.lookup 100 (.map (some mb)) c.id.agg true).run Tryz.prog z = .ok (.tuple #[zeroCl.agg, .bool false]) z) (hq2 : ∀ z, CMap z mb pg → (Instr.lookup 100 (.map (some mb)) c.after.agg true).run Tryz.prog z = .ok (.tuple #[p.agg, .bool true]) z) (hn : pg.length ≤ 100000) (hgn : c.gone = false) (hop : 64 ≤ openN pg) : Calls Tryz.prog 31 #[.pointer (some ⟨pb, 0, none⟩), c.agg] w fun e w' => e = .returned (.int .i64 (27)) ∧ CMap w' mb pg ∧ w.grownBy w' (some mb) := by
 have HPR := Lib.hid hpr; clear hpr
 have HQ1 := Lib.hid hq1; clear hq1
 have HQ2 := Lib.hid hq2; clear hq2
 have HGN := Lib.hid hgn; clear hgn
 have HPC := Lib.hid hpc; clear hpc
 have HM := Lib.hid hm; clear hm
 go_enter Tryz.func31, Tryz.ntmps31
 go_wp2_with fail
 refine (cproper_eq HPR.out _).mono ?_
 rintro e w1 ⟨rfl, hb1⟩
 have hb0 := ((Below.refl w.heap.size w).alloc (Nat.le_refl _) (.cells (claCs c) 51)).trans (hb1.mono (by simp))
 have k := rkeepk hb1 (b := w.heap.size) (x := .cells (claCs c) 51 (0, 0)) (by simp [go_sem])
 clear hb1
 go_wp2_with fail
 have H3 : w1.cell? ⟨pb, 0, none⟩ = some (.map (some mb)) ∧ w1.blk w.heap.size = some (.cells (claCs c) 51 (0, 0)) ∧ CMap w1 mb pg := ⟨(keepw hb0 HPC.out), k, HM.out.keep (hb0.block _ HM.out.lt)⟩
 clear k
 refine wp_region_held_drew (S := (fun X : World => X.cell? ⟨pb, 0, none⟩ = some (.map (some mb)) ∧ X.blk w.heap.size = some (.cells (claCs c) 51 (0, 0)) ∧ CMap X mb pg)) (by kernel_rfl) ⟨H3.1, H3.2.1, H3.2.2.keep rfl⟩ (fun hHeld => ?_)
 refine takeF (i := 0) (v := .pointer (some ⟨pb, 0, none⟩)) (k := 19) rfl rfl (by kernel_rfl) (by kernel_rfl) (by kernel_rfl) (fun _ _ _ h => h) (Or.inl ⟨by rfl, fun z hz => by (obtain ⟨z0, z1, z2⟩ := hz; go_simp)⟩) hHeld ?_
 try simp only [Act.put, sia, sc0, scs]
 refine takeF (i := 1) (v := .pointer (some ⟨pb, 0, none⟩)) (k := 20) rfl rfl (by kernel_rfl) (by kernel_rfl) (by kernel_rfl) (fun _ _ _ h => h) (Or.inl ⟨by rfl, fun z hz => by (obtain ⟨z0, z1, z2⟩ := hz; go_simp)⟩) hHeld ?_
 try simp only [Act.put, sia, sc0, scs]
 refine takeF (i := 2) (v := .pointer (some ⟨pb, 0, none⟩)) (k := 21) rfl rfl (by kernel_rfl) (by kernel_rfl) (by kernel_rfl) (fun _ _ _ h => h) (Or.inl ⟨by rfl, fun z hz => by (obtain ⟨z0, z1, z2⟩ := hz; go_simp)⟩) hHeld ?_
 try simp only [Act.put, sia, sc0, scs]
 refine takeF (i := 3) (v := .map (some mb)) (k := 22) rfl rfl (by kernel_rfl) (by kernel_rfl) (by kernel_rfl) (fun _ _ _ h => h) (Or.inl ⟨by rfl, fun z hz => by (obtain ⟨z0, z1, z2⟩ := hz; go_simp)⟩) hHeld ?_
 try simp only [Act.put, sia, sc0, scs]
 refine takeF (i := 4) (v := .pointer (some ⟨w.heap.size, 0, none⟩)) (k := 23) rfl rfl (by kernel_rfl) (by kernel_rfl) (by kernel_rfl) (fun _ _ _ h => h) (Or.inl ⟨by rfl, fun z hz => by (obtain ⟨z0, z1, z2⟩ := hz; go_simp)⟩) hHeld ?_
 try simp only [Act.put, sia, sc0, scs]
 refine takeF (i := 5) (v := c.id.agg) (k := 24) rfl rfl (by kernel_rfl) (by kernel_rfl) (by kernel_rfl) (fun _ _ _ h => h) (Or.inl ⟨by rfl, fun z hz => by (obtain ⟨z0, z1, z2⟩ := hz; have y0 : z.cell? ⟨w.heap.size, 0, none⟩ = some (.int .i64 c.id.seat) := (cell_of_row _ _ _ _ _ _ z1).trans rfl; have y1 : z.cell? ⟨w.heap.size, 1, none⟩ = some (.int .i64 c.id.count) := (cell_of_row _ _ _ _ _ _ z1).trans rfl; have y2 : z.cell? ⟨w.heap.size, 2, none⟩ = some (.int .i64 c.after.seat) := (cell_of_row _ _ _ _ _ _ z1).trans rfl; have y3 : z.cell? ⟨w.heap.size, 3, none⟩ = some (.int .i64 c.after.count) := (cell_of_row _ _ _ _ _ _ z1).trans rfl; clear z1 z2; go_simp)⟩) hHeld ?_
 try simp only [Act.put, sia, sc0, scs]
 refine takeF (i := 6) (v := .tuple #[zeroCl.agg, .bool false]) (k := 25) rfl rfl (by kernel_rfl) (by kernel_rfl) (by kernel_rfl) (fun _ _ _ h => h) (Or.inl ⟨by rfl, fun z hz => by (obtain ⟨z0, z1, z2⟩ := hz; have hq := HQ1.out z z2; clear z0 z1 z2; go_simp)⟩) hHeld ?_
 try simp only [Act.put, sia, sc0, scs]
 refine takeF (i := 7) (v := .tuple #[zeroCl.agg, .bool false]) (k := 18) rfl rfl (by kernel_rfl) (by kernel_rfl) (by kernel_rfl) (fun _ _ _ h => h) (Or.inl ⟨by rfl, fun z hz => by (obtain ⟨z0, z1, z2⟩ := hz; go_simp)⟩) hHeld ?_
 try simp only [Act.put, sia, sc0, scs]
 refine takeF (i := 8) (v := zeroCl.agg) (k := 26) rfl rfl (by kernel_rfl) (by kernel_rfl) (by kernel_rfl) (fun _ _ _ h => h) (Or.inl ⟨by rfl, fun z hz => by (obtain ⟨z0, z1, z2⟩ := hz; go_simp)⟩) hHeld ?_
 try simp only [Act.put, sia, sc0, scs]
 refine takeF (i := 9) (v := .bool false) (k := 27) rfl rfl (by kernel_rfl) (by kernel_rfl) (by kernel_rfl) (fun _ _ _ h => h) (Or.inl ⟨by rfl, fun z hz => by (obtain ⟨z0, z1, z2⟩ := hz; go_simp)⟩) hHeld ?_
 try simp only [Act.put, sia, sc0, scs]
 refine wpAnyH_ready (rs := [10]) (by kernel_rfl) (by simp) (AllReadyH.cons rfl (fun K hK => ?_) AllReadyH.nil)
 go_simp
 have hA : Below w1.heap.size w1 (w1.drew.alloc (.cells (claCs zeroCl) 51)) := (Below.refl _ _).drew.alloc (Nat.le_refl _) _
 refine hK.out _ _ ⟨keepw hA H3.1, rkeepk hA H3.2.1, H3.2.2.keep (hA.block _ H3.2.2.lt)⟩ (fun hHeld => ?_)
 clear hK K
 try simp only [Act.put, sia, sc0, scs]
 refine wpAnyH_ready (rs := [11]) (by kernel_rfl) (by simp) (AllReadyH.cons rfl (fun K hK => ?_) AllReadyH.nil)
 refine step_store_cla rfl (.tmp 5) (.tmp 26) rfl (w1.heap.size) zeroCl zeroCl rfl rfl (heap_alloc_new _ _) ?_
 show K _ ((w1.drew.alloc (.cells (claCs zeroCl) 51)).setRow w1.heap.size (claCs zeroCl))
 rw [show (w1.drew.alloc (.cells (claCs zeroCl) 51)).setRow w1.heap.size (claCs zeroCl) = w1.drew.alloc (.cells (claCs zeroCl) 51) from setRow_alloc_new w1.drew _ _ _]
 have hA' : Below w1.heap.size w1 (w1.drew.alloc (.cells (claCs zeroCl) 51)) := (Below.refl _ _).drew.alloc (Nat.le_refl _) _
 refine hK.out _ _ ⟨keepw hA' H3.1, rkeepk hA' H3.2.1, H3.2.2.keep (hA'.block _ H3.2.2.lt)⟩ (fun hHeld => ?_)
 clear hK K
 try simp only [Act.put, sia, sc0, scs]
 refine takeF (i := 12) (v := .bool false) (k := 6) rfl rfl (by kernel_rfl) (by kernel_rfl) (by kernel_rfl) (fun _ _ _ h => h) (Or.inl ⟨by rfl, fun z hz => by (obtain ⟨z0, z1, z2⟩ := hz; go_simp)⟩) hHeld ?_
 try simp only [Act.put, sia, sc0, scs]
 refine wpAnyH_done (by kernel_rfl) ?_ _
 obtain ⟨w2, hw2⟩ : ∃ X, X = w1.drew.alloc (.cells (claCs zeroCl) 51) := ⟨_, rfl⟩
 have hbw2 : Below w.heap.size w w2 := by rw [hw2]; exact hb0.drew.alloc hb0.size _
 have Hw2 : w2.cell? ⟨pb, 0, none⟩ = some (.map (some mb)) ∧ w2.blk w.heap.size = some (.cells (claCs c) 51 (0, 0)) ∧ CMap w2 mb pg := ⟨keepw hbw2 HPC.out, by rw [hw2]; exact (Below.heap_alloc w1.drew _ _ (lt_of_heap H3.2.1)).trans H3.2.1, HM.out.keep (hbw2.block _ HM.out.lt)⟩
 have Zw2 : w2.blk w1.heap.size = some (.cells (claCs zeroCl) 51 (0, 0)) := by rw [hw2]; exact heap_alloc_new w1.drew _
 rw [← hw2]
 clear hw2
 go_wp2_with fail
 refine wp_region_held_drew (S := (fun X : World => X.cell? ⟨pb, 0, none⟩ = some (.map (some mb)) ∧ X.blk w.heap.size = some (.cells (claCs c) 51 (0, 0)) ∧ CMap X mb pg)) (by kernel_rfl) ⟨Hw2.1, Hw2.2.1, Hw2.2.2.keep rfl⟩ (fun hHeld => ?_)
 refine takeF (i := 0) (v := .pointer (some ⟨pb, 0, none⟩)) (k := 45) rfl rfl (by kernel_rfl) (by kernel_rfl) (by kernel_rfl) (fun _ _ _ h => h) (Or.inl ⟨by rfl, fun z hz => by (obtain ⟨z0, z1, z2⟩ := hz; go_simp)⟩) hHeld ?_
 try simp only [Act.put, sia, sc0, scs]
 refine takeF (i := 1) (v := .pointer (some ⟨pb, 0, none⟩)) (k := 46) rfl rfl (by kernel_rfl) (by kernel_rfl) (by kernel_rfl) (fun _ _ _ h => h) (Or.inl ⟨by rfl, fun z hz => by (obtain ⟨z0, z1, z2⟩ := hz; go_simp)⟩) hHeld ?_
 try simp only [Act.put, sia, sc0, scs]
 refine takeF (i := 2) (v := .pointer (some ⟨pb, 0, none⟩)) (k := 47) rfl rfl (by kernel_rfl) (by kernel_rfl) (by kernel_rfl) (fun _ _ _ h => h) (Or.inl ⟨by rfl, fun z hz => by (obtain ⟨z0, z1, z2⟩ := hz; go_simp)⟩) hHeld ?_
 try simp only [Act.put, sia, sc0, scs]
 refine takeF (i := 3) (v := .map (some mb)) (k := 48) rfl rfl (by kernel_rfl) (by kernel_rfl) (by kernel_rfl) (fun _ _ _ h => h) (Or.inl ⟨by rfl, fun z hz => by (obtain ⟨z0, z1, z2⟩ := hz; go_simp)⟩) hHeld ?_
 try simp only [Act.put, sia, sc0, scs]
 refine takeF (i := 4) (v := .pointer (some ⟨w.heap.size, 2, none⟩)) (k := 49) rfl rfl (by kernel_rfl) (by kernel_rfl) (by kernel_rfl) (fun _ _ _ h => h) (Or.inl ⟨by rfl, fun z hz => by (obtain ⟨z0, z1, z2⟩ := hz; go_simp)⟩) hHeld ?_
 try simp only [Act.put, sia, sc0, scs]
 refine takeF (i := 5) (v := c.after.agg) (k := 50) rfl rfl (by kernel_rfl) (by kernel_rfl) (by kernel_rfl) (fun _ _ _ h => h) (Or.inl ⟨by rfl, fun z hz => by (obtain ⟨z0, z1, z2⟩ := hz; have y0 : z.cell? ⟨w.heap.size, 0, none⟩ = some (.int .i64 c.id.seat) := (cell_of_row _ _ _ _ _ _ z1).trans rfl; have y1 : z.cell? ⟨w.heap.size, 1, none⟩ = some (.int .i64 c.id.count) := (cell_of_row _ _ _ _ _ _ z1).trans rfl; have y2 : z.cell? ⟨w.heap.size, 2, none⟩ = some (.int .i64 c.after.seat) := (cell_of_row _ _ _ _ _ _ z1).trans rfl; have y3 : z.cell? ⟨w.heap.size, 3, none⟩ = some (.int .i64 c.after.count) := (cell_of_row _ _ _ _ _ _ z1).trans rfl; clear z1 z2; go_simp)⟩) hHeld ?_
 try simp only [Act.put, sia, sc0, scs]
 refine takeF (i := 6) (v := .tuple #[p.agg, .bool true]) (k := 51) rfl rfl (by kernel_rfl) (by kernel_rfl) (by kernel_rfl) (fun _ _ _ h => h) (Or.inl ⟨by rfl, fun z hz => by (obtain ⟨z0, z1, z2⟩ := hz; have hq := HQ2.out z z2; clear z0 z1 z2; go_simp)⟩) hHeld ?_
 try simp only [Act.put, sia, sc0, scs]
 refine takeF (i := 7) (v := .tuple #[p.agg, .bool true]) (k := 44) rfl rfl (by kernel_rfl) (by kernel_rfl) (by kernel_rfl) (fun _ _ _ h => h) (Or.inl ⟨by rfl, fun z hz => by (obtain ⟨z0, z1, z2⟩ := hz; go_simp)⟩) hHeld ?_
 try simp only [Act.put, sia, sc0, scs]
 refine takeF (i := 8) (v := p.agg) (k := 52) rfl rfl (by kernel_rfl) (by kernel_rfl) (by kernel_rfl) (fun _ _ _ h => h) (Or.inl ⟨by rfl, fun z hz => by (obtain ⟨z0, z1, z2⟩ := hz; go_simp)⟩) hHeld ?_
 try simp only [Act.put, sia, sc0, scs]
 refine takeF (i := 9) (v := .bool true) (k := 53) rfl rfl (by kernel_rfl) (by kernel_rfl) (by kernel_rfl) (fun _ _ _ h => h) (Or.inl ⟨by rfl, fun z hz => by (obtain ⟨z0, z1, z2⟩ := hz; go_simp)⟩) hHeld ?_
 try simp only [Act.put, sia, sc0, scs]
 refine wpAnyH_ready (rs := [10]) (by kernel_rfl) (by simp) (AllReadyH.cons rfl (fun K hK => ?_) AllReadyH.nil)
 go_simp
 have hA : Below w2.heap.size w2 (w2.drew.alloc (.cells (claCs zeroCl) 51)) := (Below.refl _ _).drew.alloc (Nat.le_refl _) _
 refine hK.out _ _ ⟨keepw hA Hw2.1, rkeepk hA Hw2.2.1, Hw2.2.2.keep (hA.block _ Hw2.2.2.lt)⟩ (fun hHeld => ?_)
 clear hK K
 try simp only [Act.put, sia, sc0, scs]
 refine wpAnyH_ready (rs := [11]) (by kernel_rfl) (by simp) (AllReadyH.cons rfl (fun K hK => ?_) AllReadyH.nil)
 refine step_store_cla rfl (.tmp 9) (.tmp 52) rfl (w2.heap.size) p zeroCl rfl rfl (heap_alloc_new _ _) ?_
 show K _ ((w2.drew.alloc (.cells (claCs zeroCl) 51)).setRow w2.heap.size (claCs p))
 rw [show (w2.drew.alloc (.cells (claCs zeroCl) 51)).setRow w2.heap.size (claCs p) = w2.drew.alloc (.cells (claCs p) 51) from setRow_alloc_new w2.drew _ _ _]
 have hA' : Below w2.heap.size w2 (w2.drew.alloc (.cells (claCs p) 51)) := (Below.refl _ _).drew.alloc (Nat.le_refl _) _
 refine hK.out _ _ ⟨keepw hA' Hw2.1, rkeepk hA' Hw2.2.1, Hw2.2.2.keep (hA'.block _ Hw2.2.2.lt)⟩ (fun hHeld => ?_)
 clear hK K
 try simp only [Act.put, sia, sc0, scs]
 refine takeF (i := 12) (v := .bool true) (k := 10) rfl rfl (by kernel_rfl) (by kernel_rfl) (by kernel_rfl) (fun _ _ _ h => h) (Or.inl ⟨by rfl, fun z hz => by (obtain ⟨z0, z1, z2⟩ := hz; go_simp)⟩) hHeld ?_
 try simp only [Act.put, sia, sc0, scs]
 refine wpAnyH_done (by kernel_rfl) ?_ _
 obtain ⟨w3, hw3⟩ : ∃ X, X = w2.drew.alloc (.cells (claCs p) 51) := ⟨_, rfl⟩
 have hbw3 : Below w.heap.size w w3 := by rw [hw3]; exact hbw2.drew.alloc hbw2.size _
 have Hw3 : w3.cell? ⟨pb, 0, none⟩ = some (.map (some mb)) ∧ w3.blk w.heap.size = some (.cells (claCs c) 51 (0, 0)) ∧ CMap w3 mb pg := ⟨keepw hbw3 HPC.out, by rw [hw3]; exact (Below.heap_alloc w2.drew _ _ (lt_of_heap Hw2.2.1)).trans Hw2.2.1, HM.out.keep (hbw3.block _ HM.out.lt)⟩
 have Zw3 : w3.blk w2.heap.size = some (.cells (claCs p) 51 (0, 0)) := by rw [hw3]; exact heap_alloc_new w2.drew _
 rw [← hw3]
 clear hw3
 have y0 : w3.cell? ⟨w.heap.size, 0, none⟩ = some (.int .i64 c.id.seat) := (cell_of_row _ _ _ _ _ _ Hw3.2.1).trans rfl
 have y1 : w3.cell? ⟨w.heap.size, 1, none⟩ = some (.int .i64 c.id.count) := (cell_of_row _ _ _ _ _ _ Hw3.2.1).trans rfl
 have y2 : w3.cell? ⟨w.heap.size, 2, none⟩ = some (.int .i64 c.after.seat) := (cell_of_row _ _ _ _ _ _ Hw3.2.1).trans rfl
 have y3 : w3.cell? ⟨w.heap.size, 3, none⟩ = some (.int .i64 c.after.count) := (cell_of_row _ _ _ _ _ _ Hw3.2.1).trans rfl
 have y19 : w3.cell? ⟨w.heap.size, 19, none⟩ = some (.bool c.gone) := (cell_of_row _ _ _ _ _ _ Hw3.2.1).trans rfl
 have yp := Hw3.1
 have hgn := HGN.out
 go_wp2_with fail
 refine (openm_any pg mb _ hn Hw3.2.2).mono ?_
 rintro e w4 ⟨rfl, hb4⟩
 have hbw4 : Below w.heap.size w w4 := hbw3.trans (hb4.mono hbw3.size)
 have Hw4 : w4.cell? ⟨pb, 0, none⟩ = some (.map (some mb)) ∧ w4.blk w.heap.size = some (.cells (claCs c) 51 (0, 0)) ∧ CMap w4 mb pg := ⟨keepw hb4 Hw3.1, rkeepk hb4 Hw3.2.1, Hw3.2.2.keep (hb4.block _ Hw3.2.2.lt)⟩
 have hoi : (64 : Int) ≤ (openN pg : Int) := by omega
 clear hb4
 go_wp2_with fail
 go_ret
 exact ⟨rfl, Hw4.2.2, below_grown hbw4⟩
theorem put_r_gone (pg : List Clause) (c : Clause) (pb mb : Nat) (w : World) (hpc : w.cell? ⟨pb, 0, none⟩ = some (.map (some mb))) (hpl : pb < w.heap.size) (hm : CMap w mb pg) (hpr : c.proper = true) (hq1 : ∀ z, CMap z mb pg → (Instr.lookup 100 (.map (some mb)) c.id.agg true).run Tryz.prog z = .ok (.tuple #[zeroCl.agg, .bool false]) z) (hq2 : ∀ z, CMap z mb pg → (Instr.lookup 100 (.map (some mb)) c.after.agg true).run Tryz.prog z = .ok (.tuple #[zeroCl.agg, .bool false]) z) (hs : sEq c.after.seat c.after.count 0 0 = true) (hgn : c.gone = true) (hup : ∀ z, CMap z mb pg → ∃ o, (Instr.mapUpdate 100 (.map (some mb)) c.id.agg c.agg).run Tryz.prog z = .ok () (Go.ChangeMaps.setBlock z mb o) ∧ CMap (Go.ChangeMaps.setBlock z mb o) mb (pg ++ [c])) : Calls Tryz.prog 31 #[.pointer (some ⟨pb, 0, none⟩), c.agg] w fun e w' => e = .returned (.int .i64 (0)) ∧ CMap w' mb (pg ++ [c]) ∧ w.grownBy w' (some mb) := by
 have HPR := Lib.hid hpr; clear hpr
 have HQ1 := Lib.hid hq1; clear hq1
 have HQ2 := Lib.hid hq2; clear hq2
 have HUP := Lib.hid hup; clear hup
 have HS := Lib.hid hs; clear hs
 have HGN := Lib.hid hgn; clear hgn
 have HPC := Lib.hid hpc; clear hpc
 have HM := Lib.hid hm; clear hm
 go_enter Tryz.func31, Tryz.ntmps31
 go_wp2_with fail
 refine (cproper_eq HPR.out _).mono ?_
 rintro e w1 ⟨rfl, hb1⟩
 have hb0 := ((Below.refl w.heap.size w).alloc (Nat.le_refl _) (.cells (claCs c) 51)).trans (hb1.mono (by simp))
 have k := rkeepk hb1 (b := w.heap.size) (x := .cells (claCs c) 51 (0, 0)) (by simp [go_sem])
 clear hb1
 go_wp2_with fail
 have H3 : w1.cell? ⟨pb, 0, none⟩ = some (.map (some mb)) ∧ w1.blk w.heap.size = some (.cells (claCs c) 51 (0, 0)) ∧ CMap w1 mb pg := ⟨(keepw hb0 HPC.out), k, HM.out.keep (hb0.block _ HM.out.lt)⟩
 clear k
 refine wp_region_held_drew (S := (fun X : World => X.cell? ⟨pb, 0, none⟩ = some (.map (some mb)) ∧ X.blk w.heap.size = some (.cells (claCs c) 51 (0, 0)) ∧ CMap X mb pg)) (by kernel_rfl) ⟨H3.1, H3.2.1, H3.2.2.keep rfl⟩ (fun hHeld => ?_)
 refine takeF (i := 0) (v := .pointer (some ⟨pb, 0, none⟩)) (k := 19) rfl rfl (by kernel_rfl) (by kernel_rfl) (by kernel_rfl) (fun _ _ _ h => h) (Or.inl ⟨by rfl, fun z hz => by (obtain ⟨z0, z1, z2⟩ := hz; go_simp)⟩) hHeld ?_
 try simp only [Act.put, sia, sc0, scs]
 refine takeF (i := 1) (v := .pointer (some ⟨pb, 0, none⟩)) (k := 20) rfl rfl (by kernel_rfl) (by kernel_rfl) (by kernel_rfl) (fun _ _ _ h => h) (Or.inl ⟨by rfl, fun z hz => by (obtain ⟨z0, z1, z2⟩ := hz; go_simp)⟩) hHeld ?_
 try simp only [Act.put, sia, sc0, scs]
 refine takeF (i := 2) (v := .pointer (some ⟨pb, 0, none⟩)) (k := 21) rfl rfl (by kernel_rfl) (by kernel_rfl) (by kernel_rfl) (fun _ _ _ h => h) (Or.inl ⟨by rfl, fun z hz => by (obtain ⟨z0, z1, z2⟩ := hz; go_simp)⟩) hHeld ?_
 try simp only [Act.put, sia, sc0, scs]
 refine takeF (i := 3) (v := .map (some mb)) (k := 22) rfl rfl (by kernel_rfl) (by kernel_rfl) (by kernel_rfl) (fun _ _ _ h => h) (Or.inl ⟨by rfl, fun z hz => by (obtain ⟨z0, z1, z2⟩ := hz; go_simp)⟩) hHeld ?_
 try simp only [Act.put, sia, sc0, scs]
 refine takeF (i := 4) (v := .pointer (some ⟨w.heap.size, 0, none⟩)) (k := 23) rfl rfl (by kernel_rfl) (by kernel_rfl) (by kernel_rfl) (fun _ _ _ h => h) (Or.inl ⟨by rfl, fun z hz => by (obtain ⟨z0, z1, z2⟩ := hz; go_simp)⟩) hHeld ?_
 try simp only [Act.put, sia, sc0, scs]
 refine takeF (i := 5) (v := c.id.agg) (k := 24) rfl rfl (by kernel_rfl) (by kernel_rfl) (by kernel_rfl) (fun _ _ _ h => h) (Or.inl ⟨by rfl, fun z hz => by (obtain ⟨z0, z1, z2⟩ := hz; have y0 : z.cell? ⟨w.heap.size, 0, none⟩ = some (.int .i64 c.id.seat) := (cell_of_row _ _ _ _ _ _ z1).trans rfl; have y1 : z.cell? ⟨w.heap.size, 1, none⟩ = some (.int .i64 c.id.count) := (cell_of_row _ _ _ _ _ _ z1).trans rfl; have y2 : z.cell? ⟨w.heap.size, 2, none⟩ = some (.int .i64 c.after.seat) := (cell_of_row _ _ _ _ _ _ z1).trans rfl; have y3 : z.cell? ⟨w.heap.size, 3, none⟩ = some (.int .i64 c.after.count) := (cell_of_row _ _ _ _ _ _ z1).trans rfl; clear z1 z2; go_simp)⟩) hHeld ?_
 try simp only [Act.put, sia, sc0, scs]
 refine takeF (i := 6) (v := .tuple #[zeroCl.agg, .bool false]) (k := 25) rfl rfl (by kernel_rfl) (by kernel_rfl) (by kernel_rfl) (fun _ _ _ h => h) (Or.inl ⟨by rfl, fun z hz => by (obtain ⟨z0, z1, z2⟩ := hz; have hq := HQ1.out z z2; clear z0 z1 z2; go_simp)⟩) hHeld ?_
 try simp only [Act.put, sia, sc0, scs]
 refine takeF (i := 7) (v := .tuple #[zeroCl.agg, .bool false]) (k := 18) rfl rfl (by kernel_rfl) (by kernel_rfl) (by kernel_rfl) (fun _ _ _ h => h) (Or.inl ⟨by rfl, fun z hz => by (obtain ⟨z0, z1, z2⟩ := hz; go_simp)⟩) hHeld ?_
 try simp only [Act.put, sia, sc0, scs]
 refine takeF (i := 8) (v := zeroCl.agg) (k := 26) rfl rfl (by kernel_rfl) (by kernel_rfl) (by kernel_rfl) (fun _ _ _ h => h) (Or.inl ⟨by rfl, fun z hz => by (obtain ⟨z0, z1, z2⟩ := hz; go_simp)⟩) hHeld ?_
 try simp only [Act.put, sia, sc0, scs]
 refine takeF (i := 9) (v := .bool false) (k := 27) rfl rfl (by kernel_rfl) (by kernel_rfl) (by kernel_rfl) (fun _ _ _ h => h) (Or.inl ⟨by rfl, fun z hz => by (obtain ⟨z0, z1, z2⟩ := hz; go_simp)⟩) hHeld ?_
 try simp only [Act.put, sia, sc0, scs]
 refine wpAnyH_ready (rs := [10]) (by kernel_rfl) (by simp) (AllReadyH.cons rfl (fun K hK => ?_) AllReadyH.nil)
 go_simp
 have hA : Below w1.heap.size w1 (w1.drew.alloc (.cells (claCs zeroCl) 51)) := (Below.refl _ _).drew.alloc (Nat.le_refl _) _
 refine hK.out _ _ ⟨keepw hA H3.1, rkeepk hA H3.2.1, H3.2.2.keep (hA.block _ H3.2.2.lt)⟩ (fun hHeld => ?_)
 clear hK K
 try simp only [Act.put, sia, sc0, scs]
 refine wpAnyH_ready (rs := [11]) (by kernel_rfl) (by simp) (AllReadyH.cons rfl (fun K hK => ?_) AllReadyH.nil)
 refine step_store_cla rfl (.tmp 5) (.tmp 26) rfl (w1.heap.size) zeroCl zeroCl rfl rfl (heap_alloc_new _ _) ?_
 show K _ ((w1.drew.alloc (.cells (claCs zeroCl) 51)).setRow w1.heap.size (claCs zeroCl))
 rw [show (w1.drew.alloc (.cells (claCs zeroCl) 51)).setRow w1.heap.size (claCs zeroCl) = w1.drew.alloc (.cells (claCs zeroCl) 51) from setRow_alloc_new w1.drew _ _ _]
 have hA' : Below w1.heap.size w1 (w1.drew.alloc (.cells (claCs zeroCl) 51)) := (Below.refl _ _).drew.alloc (Nat.le_refl _) _
 refine hK.out _ _ ⟨keepw hA' H3.1, rkeepk hA' H3.2.1, H3.2.2.keep (hA'.block _ H3.2.2.lt)⟩ (fun hHeld => ?_)
 clear hK K
 try simp only [Act.put, sia, sc0, scs]
 refine takeF (i := 12) (v := .bool false) (k := 6) rfl rfl (by kernel_rfl) (by kernel_rfl) (by kernel_rfl) (fun _ _ _ h => h) (Or.inl ⟨by rfl, fun z hz => by (obtain ⟨z0, z1, z2⟩ := hz; go_simp)⟩) hHeld ?_
 try simp only [Act.put, sia, sc0, scs]
 refine wpAnyH_done (by kernel_rfl) ?_ _
 obtain ⟨w2, hw2⟩ : ∃ X, X = w1.drew.alloc (.cells (claCs zeroCl) 51) := ⟨_, rfl⟩
 have hbw2 : Below w.heap.size w w2 := by rw [hw2]; exact hb0.drew.alloc hb0.size _
 have Hw2 : w2.cell? ⟨pb, 0, none⟩ = some (.map (some mb)) ∧ w2.blk w.heap.size = some (.cells (claCs c) 51 (0, 0)) ∧ CMap w2 mb pg := ⟨keepw hbw2 HPC.out, by rw [hw2]; exact (Below.heap_alloc w1.drew _ _ (lt_of_heap H3.2.1)).trans H3.2.1, HM.out.keep (hbw2.block _ HM.out.lt)⟩
 have Zw2 : w2.blk w1.heap.size = some (.cells (claCs zeroCl) 51 (0, 0)) := by rw [hw2]; exact heap_alloc_new w1.drew _
 rw [← hw2]
 clear hw2
 go_wp2_with fail
 refine wp_region_held_drew (S := (fun X : World => X.cell? ⟨pb, 0, none⟩ = some (.map (some mb)) ∧ X.blk w.heap.size = some (.cells (claCs c) 51 (0, 0)) ∧ CMap X mb pg)) (by kernel_rfl) ⟨Hw2.1, Hw2.2.1, Hw2.2.2.keep rfl⟩ (fun hHeld => ?_)
 refine takeF (i := 0) (v := .pointer (some ⟨pb, 0, none⟩)) (k := 45) rfl rfl (by kernel_rfl) (by kernel_rfl) (by kernel_rfl) (fun _ _ _ h => h) (Or.inl ⟨by rfl, fun z hz => by (obtain ⟨z0, z1, z2⟩ := hz; go_simp)⟩) hHeld ?_
 try simp only [Act.put, sia, sc0, scs]
 refine takeF (i := 1) (v := .pointer (some ⟨pb, 0, none⟩)) (k := 46) rfl rfl (by kernel_rfl) (by kernel_rfl) (by kernel_rfl) (fun _ _ _ h => h) (Or.inl ⟨by rfl, fun z hz => by (obtain ⟨z0, z1, z2⟩ := hz; go_simp)⟩) hHeld ?_
 try simp only [Act.put, sia, sc0, scs]
 refine takeF (i := 2) (v := .pointer (some ⟨pb, 0, none⟩)) (k := 47) rfl rfl (by kernel_rfl) (by kernel_rfl) (by kernel_rfl) (fun _ _ _ h => h) (Or.inl ⟨by rfl, fun z hz => by (obtain ⟨z0, z1, z2⟩ := hz; go_simp)⟩) hHeld ?_
 try simp only [Act.put, sia, sc0, scs]
 refine takeF (i := 3) (v := .map (some mb)) (k := 48) rfl rfl (by kernel_rfl) (by kernel_rfl) (by kernel_rfl) (fun _ _ _ h => h) (Or.inl ⟨by rfl, fun z hz => by (obtain ⟨z0, z1, z2⟩ := hz; go_simp)⟩) hHeld ?_
 try simp only [Act.put, sia, sc0, scs]
 refine takeF (i := 4) (v := .pointer (some ⟨w.heap.size, 2, none⟩)) (k := 49) rfl rfl (by kernel_rfl) (by kernel_rfl) (by kernel_rfl) (fun _ _ _ h => h) (Or.inl ⟨by rfl, fun z hz => by (obtain ⟨z0, z1, z2⟩ := hz; go_simp)⟩) hHeld ?_
 try simp only [Act.put, sia, sc0, scs]
 refine takeF (i := 5) (v := c.after.agg) (k := 50) rfl rfl (by kernel_rfl) (by kernel_rfl) (by kernel_rfl) (fun _ _ _ h => h) (Or.inl ⟨by rfl, fun z hz => by (obtain ⟨z0, z1, z2⟩ := hz; have y0 : z.cell? ⟨w.heap.size, 0, none⟩ = some (.int .i64 c.id.seat) := (cell_of_row _ _ _ _ _ _ z1).trans rfl; have y1 : z.cell? ⟨w.heap.size, 1, none⟩ = some (.int .i64 c.id.count) := (cell_of_row _ _ _ _ _ _ z1).trans rfl; have y2 : z.cell? ⟨w.heap.size, 2, none⟩ = some (.int .i64 c.after.seat) := (cell_of_row _ _ _ _ _ _ z1).trans rfl; have y3 : z.cell? ⟨w.heap.size, 3, none⟩ = some (.int .i64 c.after.count) := (cell_of_row _ _ _ _ _ _ z1).trans rfl; clear z1 z2; go_simp)⟩) hHeld ?_
 try simp only [Act.put, sia, sc0, scs]
 refine takeF (i := 6) (v := .tuple #[zeroCl.agg, .bool false]) (k := 51) rfl rfl (by kernel_rfl) (by kernel_rfl) (by kernel_rfl) (fun _ _ _ h => h) (Or.inl ⟨by rfl, fun z hz => by (obtain ⟨z0, z1, z2⟩ := hz; have hq := HQ2.out z z2; clear z0 z1 z2; go_simp)⟩) hHeld ?_
 try simp only [Act.put, sia, sc0, scs]
 refine takeF (i := 7) (v := .tuple #[zeroCl.agg, .bool false]) (k := 44) rfl rfl (by kernel_rfl) (by kernel_rfl) (by kernel_rfl) (fun _ _ _ h => h) (Or.inl ⟨by rfl, fun z hz => by (obtain ⟨z0, z1, z2⟩ := hz; go_simp)⟩) hHeld ?_
 try simp only [Act.put, sia, sc0, scs]
 refine takeF (i := 8) (v := zeroCl.agg) (k := 52) rfl rfl (by kernel_rfl) (by kernel_rfl) (by kernel_rfl) (fun _ _ _ h => h) (Or.inl ⟨by rfl, fun z hz => by (obtain ⟨z0, z1, z2⟩ := hz; go_simp)⟩) hHeld ?_
 try simp only [Act.put, sia, sc0, scs]
 refine takeF (i := 9) (v := .bool false) (k := 53) rfl rfl (by kernel_rfl) (by kernel_rfl) (by kernel_rfl) (fun _ _ _ h => h) (Or.inl ⟨by rfl, fun z hz => by (obtain ⟨z0, z1, z2⟩ := hz; go_simp)⟩) hHeld ?_
 try simp only [Act.put, sia, sc0, scs]
 refine wpAnyH_ready (rs := [10]) (by kernel_rfl) (by simp) (AllReadyH.cons rfl (fun K hK => ?_) AllReadyH.nil)
 go_simp
 have hA : Below w2.heap.size w2 (w2.drew.alloc (.cells (claCs zeroCl) 51)) := (Below.refl _ _).drew.alloc (Nat.le_refl _) _
 refine hK.out _ _ ⟨keepw hA Hw2.1, rkeepk hA Hw2.2.1, Hw2.2.2.keep (hA.block _ Hw2.2.2.lt)⟩ (fun hHeld => ?_)
 clear hK K
 try simp only [Act.put, sia, sc0, scs]
 refine wpAnyH_ready (rs := [11]) (by kernel_rfl) (by simp) (AllReadyH.cons rfl (fun K hK => ?_) AllReadyH.nil)
 refine step_store_cla rfl (.tmp 9) (.tmp 52) rfl (w2.heap.size) zeroCl zeroCl rfl rfl (heap_alloc_new _ _) ?_
 show K _ ((w2.drew.alloc (.cells (claCs zeroCl) 51)).setRow w2.heap.size (claCs zeroCl))
 rw [show (w2.drew.alloc (.cells (claCs zeroCl) 51)).setRow w2.heap.size (claCs zeroCl) = w2.drew.alloc (.cells (claCs zeroCl) 51) from setRow_alloc_new w2.drew _ _ _]
 have hA' : Below w2.heap.size w2 (w2.drew.alloc (.cells (claCs zeroCl) 51)) := (Below.refl _ _).drew.alloc (Nat.le_refl _) _
 refine hK.out _ _ ⟨keepw hA' Hw2.1, rkeepk hA' Hw2.2.1, Hw2.2.2.keep (hA'.block _ Hw2.2.2.lt)⟩ (fun hHeld => ?_)
 clear hK K
 try simp only [Act.put, sia, sc0, scs]
 refine takeF (i := 12) (v := .bool false) (k := 10) rfl rfl (by kernel_rfl) (by kernel_rfl) (by kernel_rfl) (fun _ _ _ h => h) (Or.inl ⟨by rfl, fun z hz => by (obtain ⟨z0, z1, z2⟩ := hz; go_simp)⟩) hHeld ?_
 try simp only [Act.put, sia, sc0, scs]
 refine wpAnyH_done (by kernel_rfl) ?_ _
 obtain ⟨w3, hw3⟩ : ∃ X, X = w2.drew.alloc (.cells (claCs zeroCl) 51) := ⟨_, rfl⟩
 have hbw3 : Below w.heap.size w w3 := by rw [hw3]; exact hbw2.drew.alloc hbw2.size _
 have Hw3 : w3.cell? ⟨pb, 0, none⟩ = some (.map (some mb)) ∧ w3.blk w.heap.size = some (.cells (claCs c) 51 (0, 0)) ∧ CMap w3 mb pg := ⟨keepw hbw3 HPC.out, by rw [hw3]; exact (Below.heap_alloc w2.drew _ _ (lt_of_heap Hw2.2.1)).trans Hw2.2.1, HM.out.keep (hbw3.block _ HM.out.lt)⟩
 have Zw3 : w3.blk w2.heap.size = some (.cells (claCs zeroCl) 51 (0, 0)) := by rw [hw3]; exact heap_alloc_new w2.drew _
 rw [← hw3]
 clear hw3
 have y0 : w3.cell? ⟨w.heap.size, 0, none⟩ = some (.int .i64 c.id.seat) := (cell_of_row _ _ _ _ _ _ Hw3.2.1).trans rfl
 have y1 : w3.cell? ⟨w.heap.size, 1, none⟩ = some (.int .i64 c.id.count) := (cell_of_row _ _ _ _ _ _ Hw3.2.1).trans rfl
 have y2 : w3.cell? ⟨w.heap.size, 2, none⟩ = some (.int .i64 c.after.seat) := (cell_of_row _ _ _ _ _ _ Hw3.2.1).trans rfl
 have y3 : w3.cell? ⟨w.heap.size, 3, none⟩ = some (.int .i64 c.after.count) := (cell_of_row _ _ _ _ _ _ Hw3.2.1).trans rfl
 have y19 : w3.cell? ⟨w.heap.size, 19, none⟩ = some (.bool c.gone) := (cell_of_row _ _ _ _ _ _ Hw3.2.1).trans rfl
 have yp := Hw3.1
 have hs := HS.out
 have hgn := HGN.out
 go_wp2_with fail
 have hne := cmap_ne HM.out HPC.out
 have hlm := HM.out.lt
 clear y0 y1 y2 y3 y19 yp hgn hs
 refine wp_region_held_drew (S := (fun X : World => X.cell? ⟨pb, 0, none⟩ = some (.map (some mb)) ∧ X.blk w.heap.size = some (.cells (claCs c) 51 (0, 0)))) (by kernel_rfl) ⟨Hw3.1, Hw3.2.1⟩ (fun hHeld => ?_)
 refine takeF (i := 0) (v := .pointer (some ⟨pb, 0, none⟩)) (k := 75) rfl rfl (by kernel_rfl) (by kernel_rfl) (by kernel_rfl) (fun _ _ _ h => h) (Or.inl ⟨by rfl, fun z hz => by (obtain ⟨z0, z1⟩ := hz; go_simp)⟩) hHeld ?_
 try simp only [Act.put, sia, sc0, scs]
 refine takeF (i := 1) (v := .pointer (some ⟨pb, 0, none⟩)) (k := 76) rfl rfl (by kernel_rfl) (by kernel_rfl) (by kernel_rfl) (fun _ _ _ h => h) (Or.inl ⟨by rfl, fun z hz => by (obtain ⟨z0, z1⟩ := hz; go_simp)⟩) hHeld ?_
 try simp only [Act.put, sia, sc0, scs]
 refine takeF (i := 2) (v := .pointer (some ⟨pb, 0, none⟩)) (k := 77) rfl rfl (by kernel_rfl) (by kernel_rfl) (by kernel_rfl) (fun _ _ _ h => h) (Or.inl ⟨by rfl, fun z hz => by (obtain ⟨z0, z1⟩ := hz; go_simp)⟩) hHeld ?_
 try simp only [Act.put, sia, sc0, scs]
 refine takeF (i := 3) (v := .map (some mb)) (k := 78) rfl rfl (by kernel_rfl) (by kernel_rfl) (by kernel_rfl) (fun _ _ _ h => h) (Or.inl ⟨by rfl, fun z hz => by (obtain ⟨z0, z1⟩ := hz; go_simp)⟩) hHeld ?_
 try simp only [Act.put, sia, sc0, scs]
 refine takeF (i := 4) (v := .pointer (some ⟨w.heap.size, 0, none⟩)) (k := 79) rfl rfl (by kernel_rfl) (by kernel_rfl) (by kernel_rfl) (fun _ _ _ h => h) (Or.inl ⟨by rfl, fun z hz => by (obtain ⟨z0, z1⟩ := hz; go_simp)⟩) hHeld ?_
 try simp only [Act.put, sia, sc0, scs]
 refine takeF (i := 5) (v := c.id.agg) (k := 80) rfl rfl (by kernel_rfl) (by kernel_rfl) (by kernel_rfl) (fun _ _ _ h => h) (Or.inl ⟨by rfl, fun z hz => by (obtain ⟨z0, z1⟩ := hz; have y0 : z.cell? ⟨w.heap.size, 0, none⟩ = some (.int .i64 c.id.seat) := (cell_of_row _ _ _ _ _ _ z1).trans rfl; have y1 : z.cell? ⟨w.heap.size, 1, none⟩ = some (.int .i64 c.id.count) := (cell_of_row _ _ _ _ _ _ z1).trans rfl; have y2 : z.cell? ⟨w.heap.size, 2, none⟩ = some (.int .i64 c.after.seat) := (cell_of_row _ _ _ _ _ _ z1).trans rfl; have y3 : z.cell? ⟨w.heap.size, 3, none⟩ = some (.int .i64 c.after.count) := (cell_of_row _ _ _ _ _ _ z1).trans rfl; clear z1; go_simp)⟩) hHeld ?_
 try simp only [Act.put, sia, sc0, scs]
 refine takeF (i := 6) (v := c.agg) (k := 81) rfl rfl (by kernel_rfl) (by kernel_rfl) (by kernel_rfl) (fun _ _ _ h => h) (Or.inl ⟨by rfl, fun z hz => by (obtain ⟨z0, z1⟩ := hz; go_simp)⟩) hHeld ?_
 try simp only [Act.put, sia, sc0, scs]
 refine wpAnyH_ready (rs := [7]) (by kernel_rfl) (by simp) (AllReadyH.cons rfl (fun K hK => ?_) AllReadyH.nil)
 obtain ⟨o, hu1, hu2⟩ := HUP.out w3.drew (Hw3.2.2.keep rfl)
 refine step_mapUpdate rfl 100 (.tmp 78) (.tmp 80) (.tmp 81) rfl _ _ _ rfl rfl rfl hu1 ?_
 refine hK.out _ _ ⟨(setBlock_cell hne).trans Hw3.1, (setBlock_ne (show w.heap.size ≠ mb by omega)).trans Hw3.2.1⟩ (fun hHeld => ?_)
 clear hK K
 try simp only [Act.put, sia, sc0, scs]
 refine wpAnyH_done (by kernel_rfl) ?_ _
 go_wp2_with fail
 go_ret
 exact ⟨rfl, hu2, grown_set hbw3.drew⟩
theorem put_r_open (pg : List Clause) (c : Clause) (pb mb : Nat) (w : World) (hpc : w.cell? ⟨pb, 0, none⟩ = some (.map (some mb))) (hpl : pb < w.heap.size) (hm : CMap w mb pg) (hpr : c.proper = true) (hq1 : ∀ z, CMap z mb pg → (Instr.lookup 100 (.map (some mb)) c.id.agg true).run Tryz.prog z = .ok (.tuple #[zeroCl.agg, .bool false]) z) (hq2 : ∀ z, CMap z mb pg → (Instr.lookup 100 (.map (some mb)) c.after.agg true).run Tryz.prog z = .ok (.tuple #[zeroCl.agg, .bool false]) z) (hs : sEq c.after.seat c.after.count 0 0 = true) (hn : pg.length ≤ 100000) (hgn : c.gone = false) (hop : openN pg < 64) (hup : ∀ z, CMap z mb pg → ∃ o, (Instr.mapUpdate 100 (.map (some mb)) c.id.agg c.agg).run Tryz.prog z = .ok () (Go.ChangeMaps.setBlock z mb o) ∧ CMap (Go.ChangeMaps.setBlock z mb o) mb (pg ++ [c])) : Calls Tryz.prog 31 #[.pointer (some ⟨pb, 0, none⟩), c.agg] w fun e w' => e = .returned (.int .i64 (0)) ∧ CMap w' mb (pg ++ [c]) ∧ w.grownBy w' (some mb) := by
 have HPR := Lib.hid hpr; clear hpr
 have HQ1 := Lib.hid hq1; clear hq1
 have HQ2 := Lib.hid hq2; clear hq2
 have HUP := Lib.hid hup; clear hup
 have HS := Lib.hid hs; clear hs
 have HGN := Lib.hid hgn; clear hgn
 have HPC := Lib.hid hpc; clear hpc
 have HM := Lib.hid hm; clear hm
 go_enter Tryz.func31, Tryz.ntmps31
 go_wp2_with fail
 refine (cproper_eq HPR.out _).mono ?_
 rintro e w1 ⟨rfl, hb1⟩
 have hb0 := ((Below.refl w.heap.size w).alloc (Nat.le_refl _) (.cells (claCs c) 51)).trans (hb1.mono (by simp))
 have k := rkeepk hb1 (b := w.heap.size) (x := .cells (claCs c) 51 (0, 0)) (by simp [go_sem])
 clear hb1
 go_wp2_with fail
 have H3 : w1.cell? ⟨pb, 0, none⟩ = some (.map (some mb)) ∧ w1.blk w.heap.size = some (.cells (claCs c) 51 (0, 0)) ∧ CMap w1 mb pg := ⟨(keepw hb0 HPC.out), k, HM.out.keep (hb0.block _ HM.out.lt)⟩
 clear k
 refine wp_region_held_drew (S := (fun X : World => X.cell? ⟨pb, 0, none⟩ = some (.map (some mb)) ∧ X.blk w.heap.size = some (.cells (claCs c) 51 (0, 0)) ∧ CMap X mb pg)) (by kernel_rfl) ⟨H3.1, H3.2.1, H3.2.2.keep rfl⟩ (fun hHeld => ?_)
 refine takeF (i := 0) (v := .pointer (some ⟨pb, 0, none⟩)) (k := 19) rfl rfl (by kernel_rfl) (by kernel_rfl) (by kernel_rfl) (fun _ _ _ h => h) (Or.inl ⟨by rfl, fun z hz => by (obtain ⟨z0, z1, z2⟩ := hz; go_simp)⟩) hHeld ?_
 try simp only [Act.put, sia, sc0, scs]
 refine takeF (i := 1) (v := .pointer (some ⟨pb, 0, none⟩)) (k := 20) rfl rfl (by kernel_rfl) (by kernel_rfl) (by kernel_rfl) (fun _ _ _ h => h) (Or.inl ⟨by rfl, fun z hz => by (obtain ⟨z0, z1, z2⟩ := hz; go_simp)⟩) hHeld ?_
 try simp only [Act.put, sia, sc0, scs]
 refine takeF (i := 2) (v := .pointer (some ⟨pb, 0, none⟩)) (k := 21) rfl rfl (by kernel_rfl) (by kernel_rfl) (by kernel_rfl) (fun _ _ _ h => h) (Or.inl ⟨by rfl, fun z hz => by (obtain ⟨z0, z1, z2⟩ := hz; go_simp)⟩) hHeld ?_
 try simp only [Act.put, sia, sc0, scs]
 refine takeF (i := 3) (v := .map (some mb)) (k := 22) rfl rfl (by kernel_rfl) (by kernel_rfl) (by kernel_rfl) (fun _ _ _ h => h) (Or.inl ⟨by rfl, fun z hz => by (obtain ⟨z0, z1, z2⟩ := hz; go_simp)⟩) hHeld ?_
 try simp only [Act.put, sia, sc0, scs]
 refine takeF (i := 4) (v := .pointer (some ⟨w.heap.size, 0, none⟩)) (k := 23) rfl rfl (by kernel_rfl) (by kernel_rfl) (by kernel_rfl) (fun _ _ _ h => h) (Or.inl ⟨by rfl, fun z hz => by (obtain ⟨z0, z1, z2⟩ := hz; go_simp)⟩) hHeld ?_
 try simp only [Act.put, sia, sc0, scs]
 refine takeF (i := 5) (v := c.id.agg) (k := 24) rfl rfl (by kernel_rfl) (by kernel_rfl) (by kernel_rfl) (fun _ _ _ h => h) (Or.inl ⟨by rfl, fun z hz => by (obtain ⟨z0, z1, z2⟩ := hz; have y0 : z.cell? ⟨w.heap.size, 0, none⟩ = some (.int .i64 c.id.seat) := (cell_of_row _ _ _ _ _ _ z1).trans rfl; have y1 : z.cell? ⟨w.heap.size, 1, none⟩ = some (.int .i64 c.id.count) := (cell_of_row _ _ _ _ _ _ z1).trans rfl; have y2 : z.cell? ⟨w.heap.size, 2, none⟩ = some (.int .i64 c.after.seat) := (cell_of_row _ _ _ _ _ _ z1).trans rfl; have y3 : z.cell? ⟨w.heap.size, 3, none⟩ = some (.int .i64 c.after.count) := (cell_of_row _ _ _ _ _ _ z1).trans rfl; clear z1 z2; go_simp)⟩) hHeld ?_
 try simp only [Act.put, sia, sc0, scs]
 refine takeF (i := 6) (v := .tuple #[zeroCl.agg, .bool false]) (k := 25) rfl rfl (by kernel_rfl) (by kernel_rfl) (by kernel_rfl) (fun _ _ _ h => h) (Or.inl ⟨by rfl, fun z hz => by (obtain ⟨z0, z1, z2⟩ := hz; have hq := HQ1.out z z2; clear z0 z1 z2; go_simp)⟩) hHeld ?_
 try simp only [Act.put, sia, sc0, scs]
 refine takeF (i := 7) (v := .tuple #[zeroCl.agg, .bool false]) (k := 18) rfl rfl (by kernel_rfl) (by kernel_rfl) (by kernel_rfl) (fun _ _ _ h => h) (Or.inl ⟨by rfl, fun z hz => by (obtain ⟨z0, z1, z2⟩ := hz; go_simp)⟩) hHeld ?_
 try simp only [Act.put, sia, sc0, scs]
 refine takeF (i := 8) (v := zeroCl.agg) (k := 26) rfl rfl (by kernel_rfl) (by kernel_rfl) (by kernel_rfl) (fun _ _ _ h => h) (Or.inl ⟨by rfl, fun z hz => by (obtain ⟨z0, z1, z2⟩ := hz; go_simp)⟩) hHeld ?_
 try simp only [Act.put, sia, sc0, scs]
 refine takeF (i := 9) (v := .bool false) (k := 27) rfl rfl (by kernel_rfl) (by kernel_rfl) (by kernel_rfl) (fun _ _ _ h => h) (Or.inl ⟨by rfl, fun z hz => by (obtain ⟨z0, z1, z2⟩ := hz; go_simp)⟩) hHeld ?_
 try simp only [Act.put, sia, sc0, scs]
 refine wpAnyH_ready (rs := [10]) (by kernel_rfl) (by simp) (AllReadyH.cons rfl (fun K hK => ?_) AllReadyH.nil)
 go_simp
 have hA : Below w1.heap.size w1 (w1.drew.alloc (.cells (claCs zeroCl) 51)) := (Below.refl _ _).drew.alloc (Nat.le_refl _) _
 refine hK.out _ _ ⟨keepw hA H3.1, rkeepk hA H3.2.1, H3.2.2.keep (hA.block _ H3.2.2.lt)⟩ (fun hHeld => ?_)
 clear hK K
 try simp only [Act.put, sia, sc0, scs]
 refine wpAnyH_ready (rs := [11]) (by kernel_rfl) (by simp) (AllReadyH.cons rfl (fun K hK => ?_) AllReadyH.nil)
 refine step_store_cla rfl (.tmp 5) (.tmp 26) rfl (w1.heap.size) zeroCl zeroCl rfl rfl (heap_alloc_new _ _) ?_
 show K _ ((w1.drew.alloc (.cells (claCs zeroCl) 51)).setRow w1.heap.size (claCs zeroCl))
 rw [show (w1.drew.alloc (.cells (claCs zeroCl) 51)).setRow w1.heap.size (claCs zeroCl) = w1.drew.alloc (.cells (claCs zeroCl) 51) from setRow_alloc_new w1.drew _ _ _]
 have hA' : Below w1.heap.size w1 (w1.drew.alloc (.cells (claCs zeroCl) 51)) := (Below.refl _ _).drew.alloc (Nat.le_refl _) _
 refine hK.out _ _ ⟨keepw hA' H3.1, rkeepk hA' H3.2.1, H3.2.2.keep (hA'.block _ H3.2.2.lt)⟩ (fun hHeld => ?_)
 clear hK K
 try simp only [Act.put, sia, sc0, scs]
 refine takeF (i := 12) (v := .bool false) (k := 6) rfl rfl (by kernel_rfl) (by kernel_rfl) (by kernel_rfl) (fun _ _ _ h => h) (Or.inl ⟨by rfl, fun z hz => by (obtain ⟨z0, z1, z2⟩ := hz; go_simp)⟩) hHeld ?_
 try simp only [Act.put, sia, sc0, scs]
 refine wpAnyH_done (by kernel_rfl) ?_ _
 obtain ⟨w2, hw2⟩ : ∃ X, X = w1.drew.alloc (.cells (claCs zeroCl) 51) := ⟨_, rfl⟩
 have hbw2 : Below w.heap.size w w2 := by rw [hw2]; exact hb0.drew.alloc hb0.size _
 have Hw2 : w2.cell? ⟨pb, 0, none⟩ = some (.map (some mb)) ∧ w2.blk w.heap.size = some (.cells (claCs c) 51 (0, 0)) ∧ CMap w2 mb pg := ⟨keepw hbw2 HPC.out, by rw [hw2]; exact (Below.heap_alloc w1.drew _ _ (lt_of_heap H3.2.1)).trans H3.2.1, HM.out.keep (hbw2.block _ HM.out.lt)⟩
 have Zw2 : w2.blk w1.heap.size = some (.cells (claCs zeroCl) 51 (0, 0)) := by rw [hw2]; exact heap_alloc_new w1.drew _
 rw [← hw2]
 clear hw2
 go_wp2_with fail
 refine wp_region_held_drew (S := (fun X : World => X.cell? ⟨pb, 0, none⟩ = some (.map (some mb)) ∧ X.blk w.heap.size = some (.cells (claCs c) 51 (0, 0)) ∧ CMap X mb pg)) (by kernel_rfl) ⟨Hw2.1, Hw2.2.1, Hw2.2.2.keep rfl⟩ (fun hHeld => ?_)
 refine takeF (i := 0) (v := .pointer (some ⟨pb, 0, none⟩)) (k := 45) rfl rfl (by kernel_rfl) (by kernel_rfl) (by kernel_rfl) (fun _ _ _ h => h) (Or.inl ⟨by rfl, fun z hz => by (obtain ⟨z0, z1, z2⟩ := hz; go_simp)⟩) hHeld ?_
 try simp only [Act.put, sia, sc0, scs]
 refine takeF (i := 1) (v := .pointer (some ⟨pb, 0, none⟩)) (k := 46) rfl rfl (by kernel_rfl) (by kernel_rfl) (by kernel_rfl) (fun _ _ _ h => h) (Or.inl ⟨by rfl, fun z hz => by (obtain ⟨z0, z1, z2⟩ := hz; go_simp)⟩) hHeld ?_
 try simp only [Act.put, sia, sc0, scs]
 refine takeF (i := 2) (v := .pointer (some ⟨pb, 0, none⟩)) (k := 47) rfl rfl (by kernel_rfl) (by kernel_rfl) (by kernel_rfl) (fun _ _ _ h => h) (Or.inl ⟨by rfl, fun z hz => by (obtain ⟨z0, z1, z2⟩ := hz; go_simp)⟩) hHeld ?_
 try simp only [Act.put, sia, sc0, scs]
 refine takeF (i := 3) (v := .map (some mb)) (k := 48) rfl rfl (by kernel_rfl) (by kernel_rfl) (by kernel_rfl) (fun _ _ _ h => h) (Or.inl ⟨by rfl, fun z hz => by (obtain ⟨z0, z1, z2⟩ := hz; go_simp)⟩) hHeld ?_
 try simp only [Act.put, sia, sc0, scs]
 refine takeF (i := 4) (v := .pointer (some ⟨w.heap.size, 2, none⟩)) (k := 49) rfl rfl (by kernel_rfl) (by kernel_rfl) (by kernel_rfl) (fun _ _ _ h => h) (Or.inl ⟨by rfl, fun z hz => by (obtain ⟨z0, z1, z2⟩ := hz; go_simp)⟩) hHeld ?_
 try simp only [Act.put, sia, sc0, scs]
 refine takeF (i := 5) (v := c.after.agg) (k := 50) rfl rfl (by kernel_rfl) (by kernel_rfl) (by kernel_rfl) (fun _ _ _ h => h) (Or.inl ⟨by rfl, fun z hz => by (obtain ⟨z0, z1, z2⟩ := hz; have y0 : z.cell? ⟨w.heap.size, 0, none⟩ = some (.int .i64 c.id.seat) := (cell_of_row _ _ _ _ _ _ z1).trans rfl; have y1 : z.cell? ⟨w.heap.size, 1, none⟩ = some (.int .i64 c.id.count) := (cell_of_row _ _ _ _ _ _ z1).trans rfl; have y2 : z.cell? ⟨w.heap.size, 2, none⟩ = some (.int .i64 c.after.seat) := (cell_of_row _ _ _ _ _ _ z1).trans rfl; have y3 : z.cell? ⟨w.heap.size, 3, none⟩ = some (.int .i64 c.after.count) := (cell_of_row _ _ _ _ _ _ z1).trans rfl; clear z1 z2; go_simp)⟩) hHeld ?_
 try simp only [Act.put, sia, sc0, scs]
 refine takeF (i := 6) (v := .tuple #[zeroCl.agg, .bool false]) (k := 51) rfl rfl (by kernel_rfl) (by kernel_rfl) (by kernel_rfl) (fun _ _ _ h => h) (Or.inl ⟨by rfl, fun z hz => by (obtain ⟨z0, z1, z2⟩ := hz; have hq := HQ2.out z z2; clear z0 z1 z2; go_simp)⟩) hHeld ?_
 try simp only [Act.put, sia, sc0, scs]
 refine takeF (i := 7) (v := .tuple #[zeroCl.agg, .bool false]) (k := 44) rfl rfl (by kernel_rfl) (by kernel_rfl) (by kernel_rfl) (fun _ _ _ h => h) (Or.inl ⟨by rfl, fun z hz => by (obtain ⟨z0, z1, z2⟩ := hz; go_simp)⟩) hHeld ?_
 try simp only [Act.put, sia, sc0, scs]
 refine takeF (i := 8) (v := zeroCl.agg) (k := 52) rfl rfl (by kernel_rfl) (by kernel_rfl) (by kernel_rfl) (fun _ _ _ h => h) (Or.inl ⟨by rfl, fun z hz => by (obtain ⟨z0, z1, z2⟩ := hz; go_simp)⟩) hHeld ?_
 try simp only [Act.put, sia, sc0, scs]
 refine takeF (i := 9) (v := .bool false) (k := 53) rfl rfl (by kernel_rfl) (by kernel_rfl) (by kernel_rfl) (fun _ _ _ h => h) (Or.inl ⟨by rfl, fun z hz => by (obtain ⟨z0, z1, z2⟩ := hz; go_simp)⟩) hHeld ?_
 try simp only [Act.put, sia, sc0, scs]
 refine wpAnyH_ready (rs := [10]) (by kernel_rfl) (by simp) (AllReadyH.cons rfl (fun K hK => ?_) AllReadyH.nil)
 go_simp
 have hA : Below w2.heap.size w2 (w2.drew.alloc (.cells (claCs zeroCl) 51)) := (Below.refl _ _).drew.alloc (Nat.le_refl _) _
 refine hK.out _ _ ⟨keepw hA Hw2.1, rkeepk hA Hw2.2.1, Hw2.2.2.keep (hA.block _ Hw2.2.2.lt)⟩ (fun hHeld => ?_)
 clear hK K
 try simp only [Act.put, sia, sc0, scs]
 refine wpAnyH_ready (rs := [11]) (by kernel_rfl) (by simp) (AllReadyH.cons rfl (fun K hK => ?_) AllReadyH.nil)
 refine step_store_cla rfl (.tmp 9) (.tmp 52) rfl (w2.heap.size) zeroCl zeroCl rfl rfl (heap_alloc_new _ _) ?_
 show K _ ((w2.drew.alloc (.cells (claCs zeroCl) 51)).setRow w2.heap.size (claCs zeroCl))
 rw [show (w2.drew.alloc (.cells (claCs zeroCl) 51)).setRow w2.heap.size (claCs zeroCl) = w2.drew.alloc (.cells (claCs zeroCl) 51) from setRow_alloc_new w2.drew _ _ _]
 have hA' : Below w2.heap.size w2 (w2.drew.alloc (.cells (claCs zeroCl) 51)) := (Below.refl _ _).drew.alloc (Nat.le_refl _) _
 refine hK.out _ _ ⟨keepw hA' Hw2.1, rkeepk hA' Hw2.2.1, Hw2.2.2.keep (hA'.block _ Hw2.2.2.lt)⟩ (fun hHeld => ?_)
 clear hK K
 try simp only [Act.put, sia, sc0, scs]
 refine takeF (i := 12) (v := .bool false) (k := 10) rfl rfl (by kernel_rfl) (by kernel_rfl) (by kernel_rfl) (fun _ _ _ h => h) (Or.inl ⟨by rfl, fun z hz => by (obtain ⟨z0, z1, z2⟩ := hz; go_simp)⟩) hHeld ?_
 try simp only [Act.put, sia, sc0, scs]
 refine wpAnyH_done (by kernel_rfl) ?_ _
 obtain ⟨w3, hw3⟩ : ∃ X, X = w2.drew.alloc (.cells (claCs zeroCl) 51) := ⟨_, rfl⟩
 have hbw3 : Below w.heap.size w w3 := by rw [hw3]; exact hbw2.drew.alloc hbw2.size _
 have Hw3 : w3.cell? ⟨pb, 0, none⟩ = some (.map (some mb)) ∧ w3.blk w.heap.size = some (.cells (claCs c) 51 (0, 0)) ∧ CMap w3 mb pg := ⟨keepw hbw3 HPC.out, by rw [hw3]; exact (Below.heap_alloc w2.drew _ _ (lt_of_heap Hw2.2.1)).trans Hw2.2.1, HM.out.keep (hbw3.block _ HM.out.lt)⟩
 have Zw3 : w3.blk w2.heap.size = some (.cells (claCs zeroCl) 51 (0, 0)) := by rw [hw3]; exact heap_alloc_new w2.drew _
 rw [← hw3]
 clear hw3
 have y0 : w3.cell? ⟨w.heap.size, 0, none⟩ = some (.int .i64 c.id.seat) := (cell_of_row _ _ _ _ _ _ Hw3.2.1).trans rfl
 have y1 : w3.cell? ⟨w.heap.size, 1, none⟩ = some (.int .i64 c.id.count) := (cell_of_row _ _ _ _ _ _ Hw3.2.1).trans rfl
 have y2 : w3.cell? ⟨w.heap.size, 2, none⟩ = some (.int .i64 c.after.seat) := (cell_of_row _ _ _ _ _ _ Hw3.2.1).trans rfl
 have y3 : w3.cell? ⟨w.heap.size, 3, none⟩ = some (.int .i64 c.after.count) := (cell_of_row _ _ _ _ _ _ Hw3.2.1).trans rfl
 have y19 : w3.cell? ⟨w.heap.size, 19, none⟩ = some (.bool c.gone) := (cell_of_row _ _ _ _ _ _ Hw3.2.1).trans rfl
 have yp := Hw3.1
 have hs := HS.out
 have hgn := HGN.out
 go_wp2_with fail
 refine (openm_any pg mb _ hn Hw3.2.2).mono ?_
 rintro e w4 ⟨rfl, hb4⟩
 have hbw4 : Below w.heap.size w w4 := hbw3.trans (hb4.mono hbw3.size)
 have Hw4 : w4.cell? ⟨pb, 0, none⟩ = some (.map (some mb)) ∧ w4.blk w.heap.size = some (.cells (claCs c) 51 (0, 0)) ∧ CMap w4 mb pg := ⟨keepw hb4 Hw3.1, rkeepk hb4 Hw3.2.1, Hw3.2.2.keep (hb4.block _ Hw3.2.2.lt)⟩
 have hoi : ¬ (64 : Int) ≤ (openN pg : Int) := by omega
 clear hb4
 go_wp2_with fail
 have hne := cmap_ne HM.out HPC.out
 have hlm := HM.out.lt
 clear y0 y1 y2 y3 y19 yp hgn hs
 refine wp_region_held_drew (S := (fun X : World => X.cell? ⟨pb, 0, none⟩ = some (.map (some mb)) ∧ X.blk w.heap.size = some (.cells (claCs c) 51 (0, 0)))) (by kernel_rfl) ⟨Hw4.1, Hw4.2.1⟩ (fun hHeld => ?_)
 refine takeF (i := 0) (v := .pointer (some ⟨pb, 0, none⟩)) (k := 75) rfl rfl (by kernel_rfl) (by kernel_rfl) (by kernel_rfl) (fun _ _ _ h => h) (Or.inl ⟨by rfl, fun z hz => by (obtain ⟨z0, z1⟩ := hz; go_simp)⟩) hHeld ?_
 try simp only [Act.put, sia, sc0, scs]
 refine takeF (i := 1) (v := .pointer (some ⟨pb, 0, none⟩)) (k := 76) rfl rfl (by kernel_rfl) (by kernel_rfl) (by kernel_rfl) (fun _ _ _ h => h) (Or.inl ⟨by rfl, fun z hz => by (obtain ⟨z0, z1⟩ := hz; go_simp)⟩) hHeld ?_
 try simp only [Act.put, sia, sc0, scs]
 refine takeF (i := 2) (v := .pointer (some ⟨pb, 0, none⟩)) (k := 77) rfl rfl (by kernel_rfl) (by kernel_rfl) (by kernel_rfl) (fun _ _ _ h => h) (Or.inl ⟨by rfl, fun z hz => by (obtain ⟨z0, z1⟩ := hz; go_simp)⟩) hHeld ?_
 try simp only [Act.put, sia, sc0, scs]
 refine takeF (i := 3) (v := .map (some mb)) (k := 78) rfl rfl (by kernel_rfl) (by kernel_rfl) (by kernel_rfl) (fun _ _ _ h => h) (Or.inl ⟨by rfl, fun z hz => by (obtain ⟨z0, z1⟩ := hz; go_simp)⟩) hHeld ?_
 try simp only [Act.put, sia, sc0, scs]
 refine takeF (i := 4) (v := .pointer (some ⟨w.heap.size, 0, none⟩)) (k := 79) rfl rfl (by kernel_rfl) (by kernel_rfl) (by kernel_rfl) (fun _ _ _ h => h) (Or.inl ⟨by rfl, fun z hz => by (obtain ⟨z0, z1⟩ := hz; go_simp)⟩) hHeld ?_
 try simp only [Act.put, sia, sc0, scs]
 refine takeF (i := 5) (v := c.id.agg) (k := 80) rfl rfl (by kernel_rfl) (by kernel_rfl) (by kernel_rfl) (fun _ _ _ h => h) (Or.inl ⟨by rfl, fun z hz => by (obtain ⟨z0, z1⟩ := hz; have y0 : z.cell? ⟨w.heap.size, 0, none⟩ = some (.int .i64 c.id.seat) := (cell_of_row _ _ _ _ _ _ z1).trans rfl; have y1 : z.cell? ⟨w.heap.size, 1, none⟩ = some (.int .i64 c.id.count) := (cell_of_row _ _ _ _ _ _ z1).trans rfl; have y2 : z.cell? ⟨w.heap.size, 2, none⟩ = some (.int .i64 c.after.seat) := (cell_of_row _ _ _ _ _ _ z1).trans rfl; have y3 : z.cell? ⟨w.heap.size, 3, none⟩ = some (.int .i64 c.after.count) := (cell_of_row _ _ _ _ _ _ z1).trans rfl; clear z1; go_simp)⟩) hHeld ?_
 try simp only [Act.put, sia, sc0, scs]
 refine takeF (i := 6) (v := c.agg) (k := 81) rfl rfl (by kernel_rfl) (by kernel_rfl) (by kernel_rfl) (fun _ _ _ h => h) (Or.inl ⟨by rfl, fun z hz => by (obtain ⟨z0, z1⟩ := hz; go_simp)⟩) hHeld ?_
 try simp only [Act.put, sia, sc0, scs]
 refine wpAnyH_ready (rs := [7]) (by kernel_rfl) (by simp) (AllReadyH.cons rfl (fun K hK => ?_) AllReadyH.nil)
 obtain ⟨o, hu1, hu2⟩ := HUP.out w4.drew (Hw4.2.2.keep rfl)
 refine step_mapUpdate rfl 100 (.tmp 78) (.tmp 80) (.tmp 81) rfl _ _ _ rfl rfl rfl hu1 ?_
 refine hK.out _ _ ⟨(setBlock_cell hne).trans Hw4.1, (setBlock_ne (show w.heap.size ≠ mb by omega)).trans Hw4.2.1⟩ (fun hHeld => ?_)
 clear hK K
 try simp only [Act.put, sia, sc0, scs]
 refine wpAnyH_done (by kernel_rfl) ?_ _
 go_wp2_with fail
 go_ret
 exact ⟨rfl, hu2, grown_set hbw4.drew⟩
theorem put_r_full (pg : List Clause) (c : Clause) (pb mb : Nat) (w : World) (hpc : w.cell? ⟨pb, 0, none⟩ = some (.map (some mb))) (hpl : pb < w.heap.size) (hm : CMap w mb pg) (hpr : c.proper = true) (hq1 : ∀ z, CMap z mb pg → (Instr.lookup 100 (.map (some mb)) c.id.agg true).run Tryz.prog z = .ok (.tuple #[zeroCl.agg, .bool false]) z) (hq2 : ∀ z, CMap z mb pg → (Instr.lookup 100 (.map (some mb)) c.after.agg true).run Tryz.prog z = .ok (.tuple #[zeroCl.agg, .bool false]) z) (hs : sEq c.after.seat c.after.count 0 0 = true) (hn : pg.length ≤ 100000) (hgn : c.gone = false) (hop : 64 ≤ openN pg) : Calls Tryz.prog 31 #[.pointer (some ⟨pb, 0, none⟩), c.agg] w fun e w' => e = .returned (.int .i64 (27)) ∧ CMap w' mb pg ∧ w.grownBy w' (some mb) := by
 have HPR := Lib.hid hpr; clear hpr
 have HQ1 := Lib.hid hq1; clear hq1
 have HQ2 := Lib.hid hq2; clear hq2
 have HS := Lib.hid hs; clear hs
 have HGN := Lib.hid hgn; clear hgn
 have HPC := Lib.hid hpc; clear hpc
 have HM := Lib.hid hm; clear hm
 go_enter Tryz.func31, Tryz.ntmps31
 go_wp2_with fail
 refine (cproper_eq HPR.out _).mono ?_
 rintro e w1 ⟨rfl, hb1⟩
 have hb0 := ((Below.refl w.heap.size w).alloc (Nat.le_refl _) (.cells (claCs c) 51)).trans (hb1.mono (by simp))
 have k := rkeepk hb1 (b := w.heap.size) (x := .cells (claCs c) 51 (0, 0)) (by simp [go_sem])
 clear hb1
 go_wp2_with fail
 have H3 : w1.cell? ⟨pb, 0, none⟩ = some (.map (some mb)) ∧ w1.blk w.heap.size = some (.cells (claCs c) 51 (0, 0)) ∧ CMap w1 mb pg := ⟨(keepw hb0 HPC.out), k, HM.out.keep (hb0.block _ HM.out.lt)⟩
 clear k
 refine wp_region_held_drew (S := (fun X : World => X.cell? ⟨pb, 0, none⟩ = some (.map (some mb)) ∧ X.blk w.heap.size = some (.cells (claCs c) 51 (0, 0)) ∧ CMap X mb pg)) (by kernel_rfl) ⟨H3.1, H3.2.1, H3.2.2.keep rfl⟩ (fun hHeld => ?_)
 refine takeF (i := 0) (v := .pointer (some ⟨pb, 0, none⟩)) (k := 19) rfl rfl (by kernel_rfl) (by kernel_rfl) (by kernel_rfl) (fun _ _ _ h => h) (Or.inl ⟨by rfl, fun z hz => by (obtain ⟨z0, z1, z2⟩ := hz; go_simp)⟩) hHeld ?_
 try simp only [Act.put, sia, sc0, scs]
 refine takeF (i := 1) (v := .pointer (some ⟨pb, 0, none⟩)) (k := 20) rfl rfl (by kernel_rfl) (by kernel_rfl) (by kernel_rfl) (fun _ _ _ h => h) (Or.inl ⟨by rfl, fun z hz => by (obtain ⟨z0, z1, z2⟩ := hz; go_simp)⟩) hHeld ?_
 try simp only [Act.put, sia, sc0, scs]
 refine takeF (i := 2) (v := .pointer (some ⟨pb, 0, none⟩)) (k := 21) rfl rfl (by kernel_rfl) (by kernel_rfl) (by kernel_rfl) (fun _ _ _ h => h) (Or.inl ⟨by rfl, fun z hz => by (obtain ⟨z0, z1, z2⟩ := hz; go_simp)⟩) hHeld ?_
 try simp only [Act.put, sia, sc0, scs]
 refine takeF (i := 3) (v := .map (some mb)) (k := 22) rfl rfl (by kernel_rfl) (by kernel_rfl) (by kernel_rfl) (fun _ _ _ h => h) (Or.inl ⟨by rfl, fun z hz => by (obtain ⟨z0, z1, z2⟩ := hz; go_simp)⟩) hHeld ?_
 try simp only [Act.put, sia, sc0, scs]
 refine takeF (i := 4) (v := .pointer (some ⟨w.heap.size, 0, none⟩)) (k := 23) rfl rfl (by kernel_rfl) (by kernel_rfl) (by kernel_rfl) (fun _ _ _ h => h) (Or.inl ⟨by rfl, fun z hz => by (obtain ⟨z0, z1, z2⟩ := hz; go_simp)⟩) hHeld ?_
 try simp only [Act.put, sia, sc0, scs]
 refine takeF (i := 5) (v := c.id.agg) (k := 24) rfl rfl (by kernel_rfl) (by kernel_rfl) (by kernel_rfl) (fun _ _ _ h => h) (Or.inl ⟨by rfl, fun z hz => by (obtain ⟨z0, z1, z2⟩ := hz; have y0 : z.cell? ⟨w.heap.size, 0, none⟩ = some (.int .i64 c.id.seat) := (cell_of_row _ _ _ _ _ _ z1).trans rfl; have y1 : z.cell? ⟨w.heap.size, 1, none⟩ = some (.int .i64 c.id.count) := (cell_of_row _ _ _ _ _ _ z1).trans rfl; have y2 : z.cell? ⟨w.heap.size, 2, none⟩ = some (.int .i64 c.after.seat) := (cell_of_row _ _ _ _ _ _ z1).trans rfl; have y3 : z.cell? ⟨w.heap.size, 3, none⟩ = some (.int .i64 c.after.count) := (cell_of_row _ _ _ _ _ _ z1).trans rfl; clear z1 z2; go_simp)⟩) hHeld ?_
 try simp only [Act.put, sia, sc0, scs]
 refine takeF (i := 6) (v := .tuple #[zeroCl.agg, .bool false]) (k := 25) rfl rfl (by kernel_rfl) (by kernel_rfl) (by kernel_rfl) (fun _ _ _ h => h) (Or.inl ⟨by rfl, fun z hz => by (obtain ⟨z0, z1, z2⟩ := hz; have hq := HQ1.out z z2; clear z0 z1 z2; go_simp)⟩) hHeld ?_
 try simp only [Act.put, sia, sc0, scs]
 refine takeF (i := 7) (v := .tuple #[zeroCl.agg, .bool false]) (k := 18) rfl rfl (by kernel_rfl) (by kernel_rfl) (by kernel_rfl) (fun _ _ _ h => h) (Or.inl ⟨by rfl, fun z hz => by (obtain ⟨z0, z1, z2⟩ := hz; go_simp)⟩) hHeld ?_
 try simp only [Act.put, sia, sc0, scs]
 refine takeF (i := 8) (v := zeroCl.agg) (k := 26) rfl rfl (by kernel_rfl) (by kernel_rfl) (by kernel_rfl) (fun _ _ _ h => h) (Or.inl ⟨by rfl, fun z hz => by (obtain ⟨z0, z1, z2⟩ := hz; go_simp)⟩) hHeld ?_
 try simp only [Act.put, sia, sc0, scs]
 refine takeF (i := 9) (v := .bool false) (k := 27) rfl rfl (by kernel_rfl) (by kernel_rfl) (by kernel_rfl) (fun _ _ _ h => h) (Or.inl ⟨by rfl, fun z hz => by (obtain ⟨z0, z1, z2⟩ := hz; go_simp)⟩) hHeld ?_
 try simp only [Act.put, sia, sc0, scs]
 refine wpAnyH_ready (rs := [10]) (by kernel_rfl) (by simp) (AllReadyH.cons rfl (fun K hK => ?_) AllReadyH.nil)
 go_simp
 have hA : Below w1.heap.size w1 (w1.drew.alloc (.cells (claCs zeroCl) 51)) := (Below.refl _ _).drew.alloc (Nat.le_refl _) _
 refine hK.out _ _ ⟨keepw hA H3.1, rkeepk hA H3.2.1, H3.2.2.keep (hA.block _ H3.2.2.lt)⟩ (fun hHeld => ?_)
 clear hK K
 try simp only [Act.put, sia, sc0, scs]
 refine wpAnyH_ready (rs := [11]) (by kernel_rfl) (by simp) (AllReadyH.cons rfl (fun K hK => ?_) AllReadyH.nil)
 refine step_store_cla rfl (.tmp 5) (.tmp 26) rfl (w1.heap.size) zeroCl zeroCl rfl rfl (heap_alloc_new _ _) ?_
 show K _ ((w1.drew.alloc (.cells (claCs zeroCl) 51)).setRow w1.heap.size (claCs zeroCl))
 rw [show (w1.drew.alloc (.cells (claCs zeroCl) 51)).setRow w1.heap.size (claCs zeroCl) = w1.drew.alloc (.cells (claCs zeroCl) 51) from setRow_alloc_new w1.drew _ _ _]
 have hA' : Below w1.heap.size w1 (w1.drew.alloc (.cells (claCs zeroCl) 51)) := (Below.refl _ _).drew.alloc (Nat.le_refl _) _
 refine hK.out _ _ ⟨keepw hA' H3.1, rkeepk hA' H3.2.1, H3.2.2.keep (hA'.block _ H3.2.2.lt)⟩ (fun hHeld => ?_)
 clear hK K
 try simp only [Act.put, sia, sc0, scs]
 refine takeF (i := 12) (v := .bool false) (k := 6) rfl rfl (by kernel_rfl) (by kernel_rfl) (by kernel_rfl) (fun _ _ _ h => h) (Or.inl ⟨by rfl, fun z hz => by (obtain ⟨z0, z1, z2⟩ := hz; go_simp)⟩) hHeld ?_
 try simp only [Act.put, sia, sc0, scs]
 refine wpAnyH_done (by kernel_rfl) ?_ _
 obtain ⟨w2, hw2⟩ : ∃ X, X = w1.drew.alloc (.cells (claCs zeroCl) 51) := ⟨_, rfl⟩
 have hbw2 : Below w.heap.size w w2 := by rw [hw2]; exact hb0.drew.alloc hb0.size _
 have Hw2 : w2.cell? ⟨pb, 0, none⟩ = some (.map (some mb)) ∧ w2.blk w.heap.size = some (.cells (claCs c) 51 (0, 0)) ∧ CMap w2 mb pg := ⟨keepw hbw2 HPC.out, by rw [hw2]; exact (Below.heap_alloc w1.drew _ _ (lt_of_heap H3.2.1)).trans H3.2.1, HM.out.keep (hbw2.block _ HM.out.lt)⟩
 have Zw2 : w2.blk w1.heap.size = some (.cells (claCs zeroCl) 51 (0, 0)) := by rw [hw2]; exact heap_alloc_new w1.drew _
 rw [← hw2]
 clear hw2
 go_wp2_with fail
 refine wp_region_held_drew (S := (fun X : World => X.cell? ⟨pb, 0, none⟩ = some (.map (some mb)) ∧ X.blk w.heap.size = some (.cells (claCs c) 51 (0, 0)) ∧ CMap X mb pg)) (by kernel_rfl) ⟨Hw2.1, Hw2.2.1, Hw2.2.2.keep rfl⟩ (fun hHeld => ?_)
 refine takeF (i := 0) (v := .pointer (some ⟨pb, 0, none⟩)) (k := 45) rfl rfl (by kernel_rfl) (by kernel_rfl) (by kernel_rfl) (fun _ _ _ h => h) (Or.inl ⟨by rfl, fun z hz => by (obtain ⟨z0, z1, z2⟩ := hz; go_simp)⟩) hHeld ?_
 try simp only [Act.put, sia, sc0, scs]
 refine takeF (i := 1) (v := .pointer (some ⟨pb, 0, none⟩)) (k := 46) rfl rfl (by kernel_rfl) (by kernel_rfl) (by kernel_rfl) (fun _ _ _ h => h) (Or.inl ⟨by rfl, fun z hz => by (obtain ⟨z0, z1, z2⟩ := hz; go_simp)⟩) hHeld ?_
 try simp only [Act.put, sia, sc0, scs]
 refine takeF (i := 2) (v := .pointer (some ⟨pb, 0, none⟩)) (k := 47) rfl rfl (by kernel_rfl) (by kernel_rfl) (by kernel_rfl) (fun _ _ _ h => h) (Or.inl ⟨by rfl, fun z hz => by (obtain ⟨z0, z1, z2⟩ := hz; go_simp)⟩) hHeld ?_
 try simp only [Act.put, sia, sc0, scs]
 refine takeF (i := 3) (v := .map (some mb)) (k := 48) rfl rfl (by kernel_rfl) (by kernel_rfl) (by kernel_rfl) (fun _ _ _ h => h) (Or.inl ⟨by rfl, fun z hz => by (obtain ⟨z0, z1, z2⟩ := hz; go_simp)⟩) hHeld ?_
 try simp only [Act.put, sia, sc0, scs]
 refine takeF (i := 4) (v := .pointer (some ⟨w.heap.size, 2, none⟩)) (k := 49) rfl rfl (by kernel_rfl) (by kernel_rfl) (by kernel_rfl) (fun _ _ _ h => h) (Or.inl ⟨by rfl, fun z hz => by (obtain ⟨z0, z1, z2⟩ := hz; go_simp)⟩) hHeld ?_
 try simp only [Act.put, sia, sc0, scs]
 refine takeF (i := 5) (v := c.after.agg) (k := 50) rfl rfl (by kernel_rfl) (by kernel_rfl) (by kernel_rfl) (fun _ _ _ h => h) (Or.inl ⟨by rfl, fun z hz => by (obtain ⟨z0, z1, z2⟩ := hz; have y0 : z.cell? ⟨w.heap.size, 0, none⟩ = some (.int .i64 c.id.seat) := (cell_of_row _ _ _ _ _ _ z1).trans rfl; have y1 : z.cell? ⟨w.heap.size, 1, none⟩ = some (.int .i64 c.id.count) := (cell_of_row _ _ _ _ _ _ z1).trans rfl; have y2 : z.cell? ⟨w.heap.size, 2, none⟩ = some (.int .i64 c.after.seat) := (cell_of_row _ _ _ _ _ _ z1).trans rfl; have y3 : z.cell? ⟨w.heap.size, 3, none⟩ = some (.int .i64 c.after.count) := (cell_of_row _ _ _ _ _ _ z1).trans rfl; clear z1 z2; go_simp)⟩) hHeld ?_
 try simp only [Act.put, sia, sc0, scs]
 refine takeF (i := 6) (v := .tuple #[zeroCl.agg, .bool false]) (k := 51) rfl rfl (by kernel_rfl) (by kernel_rfl) (by kernel_rfl) (fun _ _ _ h => h) (Or.inl ⟨by rfl, fun z hz => by (obtain ⟨z0, z1, z2⟩ := hz; have hq := HQ2.out z z2; clear z0 z1 z2; go_simp)⟩) hHeld ?_
 try simp only [Act.put, sia, sc0, scs]
 refine takeF (i := 7) (v := .tuple #[zeroCl.agg, .bool false]) (k := 44) rfl rfl (by kernel_rfl) (by kernel_rfl) (by kernel_rfl) (fun _ _ _ h => h) (Or.inl ⟨by rfl, fun z hz => by (obtain ⟨z0, z1, z2⟩ := hz; go_simp)⟩) hHeld ?_
 try simp only [Act.put, sia, sc0, scs]
 refine takeF (i := 8) (v := zeroCl.agg) (k := 52) rfl rfl (by kernel_rfl) (by kernel_rfl) (by kernel_rfl) (fun _ _ _ h => h) (Or.inl ⟨by rfl, fun z hz => by (obtain ⟨z0, z1, z2⟩ := hz; go_simp)⟩) hHeld ?_
 try simp only [Act.put, sia, sc0, scs]
 refine takeF (i := 9) (v := .bool false) (k := 53) rfl rfl (by kernel_rfl) (by kernel_rfl) (by kernel_rfl) (fun _ _ _ h => h) (Or.inl ⟨by rfl, fun z hz => by (obtain ⟨z0, z1, z2⟩ := hz; go_simp)⟩) hHeld ?_
 try simp only [Act.put, sia, sc0, scs]
 refine wpAnyH_ready (rs := [10]) (by kernel_rfl) (by simp) (AllReadyH.cons rfl (fun K hK => ?_) AllReadyH.nil)
 go_simp
 have hA : Below w2.heap.size w2 (w2.drew.alloc (.cells (claCs zeroCl) 51)) := (Below.refl _ _).drew.alloc (Nat.le_refl _) _
 refine hK.out _ _ ⟨keepw hA Hw2.1, rkeepk hA Hw2.2.1, Hw2.2.2.keep (hA.block _ Hw2.2.2.lt)⟩ (fun hHeld => ?_)
 clear hK K
 try simp only [Act.put, sia, sc0, scs]
 refine wpAnyH_ready (rs := [11]) (by kernel_rfl) (by simp) (AllReadyH.cons rfl (fun K hK => ?_) AllReadyH.nil)
 refine step_store_cla rfl (.tmp 9) (.tmp 52) rfl (w2.heap.size) zeroCl zeroCl rfl rfl (heap_alloc_new _ _) ?_
 show K _ ((w2.drew.alloc (.cells (claCs zeroCl) 51)).setRow w2.heap.size (claCs zeroCl))
 rw [show (w2.drew.alloc (.cells (claCs zeroCl) 51)).setRow w2.heap.size (claCs zeroCl) = w2.drew.alloc (.cells (claCs zeroCl) 51) from setRow_alloc_new w2.drew _ _ _]
 have hA' : Below w2.heap.size w2 (w2.drew.alloc (.cells (claCs zeroCl) 51)) := (Below.refl _ _).drew.alloc (Nat.le_refl _) _
 refine hK.out _ _ ⟨keepw hA' Hw2.1, rkeepk hA' Hw2.2.1, Hw2.2.2.keep (hA'.block _ Hw2.2.2.lt)⟩ (fun hHeld => ?_)
 clear hK K
 try simp only [Act.put, sia, sc0, scs]
 refine takeF (i := 12) (v := .bool false) (k := 10) rfl rfl (by kernel_rfl) (by kernel_rfl) (by kernel_rfl) (fun _ _ _ h => h) (Or.inl ⟨by rfl, fun z hz => by (obtain ⟨z0, z1, z2⟩ := hz; go_simp)⟩) hHeld ?_
 try simp only [Act.put, sia, sc0, scs]
 refine wpAnyH_done (by kernel_rfl) ?_ _
 obtain ⟨w3, hw3⟩ : ∃ X, X = w2.drew.alloc (.cells (claCs zeroCl) 51) := ⟨_, rfl⟩
 have hbw3 : Below w.heap.size w w3 := by rw [hw3]; exact hbw2.drew.alloc hbw2.size _
 have Hw3 : w3.cell? ⟨pb, 0, none⟩ = some (.map (some mb)) ∧ w3.blk w.heap.size = some (.cells (claCs c) 51 (0, 0)) ∧ CMap w3 mb pg := ⟨keepw hbw3 HPC.out, by rw [hw3]; exact (Below.heap_alloc w2.drew _ _ (lt_of_heap Hw2.2.1)).trans Hw2.2.1, HM.out.keep (hbw3.block _ HM.out.lt)⟩
 have Zw3 : w3.blk w2.heap.size = some (.cells (claCs zeroCl) 51 (0, 0)) := by rw [hw3]; exact heap_alloc_new w2.drew _
 rw [← hw3]
 clear hw3
 have y0 : w3.cell? ⟨w.heap.size, 0, none⟩ = some (.int .i64 c.id.seat) := (cell_of_row _ _ _ _ _ _ Hw3.2.1).trans rfl
 have y1 : w3.cell? ⟨w.heap.size, 1, none⟩ = some (.int .i64 c.id.count) := (cell_of_row _ _ _ _ _ _ Hw3.2.1).trans rfl
 have y2 : w3.cell? ⟨w.heap.size, 2, none⟩ = some (.int .i64 c.after.seat) := (cell_of_row _ _ _ _ _ _ Hw3.2.1).trans rfl
 have y3 : w3.cell? ⟨w.heap.size, 3, none⟩ = some (.int .i64 c.after.count) := (cell_of_row _ _ _ _ _ _ Hw3.2.1).trans rfl
 have y19 : w3.cell? ⟨w.heap.size, 19, none⟩ = some (.bool c.gone) := (cell_of_row _ _ _ _ _ _ Hw3.2.1).trans rfl
 have yp := Hw3.1
 have hs := HS.out
 have hgn := HGN.out
 go_wp2_with fail
 refine (openm_any pg mb _ hn Hw3.2.2).mono ?_
 rintro e w4 ⟨rfl, hb4⟩
 have hbw4 : Below w.heap.size w w4 := hbw3.trans (hb4.mono hbw3.size)
 have Hw4 : w4.cell? ⟨pb, 0, none⟩ = some (.map (some mb)) ∧ w4.blk w.heap.size = some (.cells (claCs c) 51 (0, 0)) ∧ CMap w4 mb pg := ⟨keepw hb4 Hw3.1, rkeepk hb4 Hw3.2.1, Hw3.2.2.keep (hb4.block _ Hw3.2.2.lt)⟩
 have hoi : (64 : Int) ≤ (openN pg : Int) := by omega
 clear hb4
 go_wp2_with fail
 go_ret
 exact ⟨rfl, Hw4.2.2, below_grown hbw4⟩
theorem put_n_none (pg : List Clause) (c : Clause) (pb mb : Nat) (w : World) (hpc : w.cell? ⟨pb, 0, none⟩ = some (.map (some mb))) (hpl : pb < w.heap.size) (hm : CMap w mb pg) (hpr : c.proper = true) (hq1 : ∀ z, CMap z mb pg → (Instr.lookup 100 (.map (some mb)) c.id.agg true).run Tryz.prog z = .ok (.tuple #[zeroCl.agg, .bool false]) z) (hq2 : ∀ z, CMap z mb pg → (Instr.lookup 100 (.map (some mb)) c.after.agg true).run Tryz.prog z = .ok (.tuple #[zeroCl.agg, .bool false]) z) (hs : sEq c.after.seat c.after.count 0 0 = false) : Calls Tryz.prog 31 #[.pointer (some ⟨pb, 0, none⟩), c.agg] w fun e w' => e = .returned (.int .i64 (11)) ∧ CMap w' mb pg ∧ w.grownBy w' (some mb) := by
 have HPR := Lib.hid hpr; clear hpr
 have HQ1 := Lib.hid hq1; clear hq1
 have HQ2 := Lib.hid hq2; clear hq2
 have HS := Lib.hid hs; clear hs
 have HPC := Lib.hid hpc; clear hpc
 have HM := Lib.hid hm; clear hm
 go_enter Tryz.func31, Tryz.ntmps31
 go_wp2_with fail
 refine (cproper_eq HPR.out _).mono ?_
 rintro e w1 ⟨rfl, hb1⟩
 have hb0 := ((Below.refl w.heap.size w).alloc (Nat.le_refl _) (.cells (claCs c) 51)).trans (hb1.mono (by simp))
 have k := rkeepk hb1 (b := w.heap.size) (x := .cells (claCs c) 51 (0, 0)) (by simp [go_sem])
 clear hb1
 go_wp2_with fail
 have H3 : w1.cell? ⟨pb, 0, none⟩ = some (.map (some mb)) ∧ w1.blk w.heap.size = some (.cells (claCs c) 51 (0, 0)) ∧ CMap w1 mb pg := ⟨(keepw hb0 HPC.out), k, HM.out.keep (hb0.block _ HM.out.lt)⟩
 clear k
 refine wp_region_held_drew (S := (fun X : World => X.cell? ⟨pb, 0, none⟩ = some (.map (some mb)) ∧ X.blk w.heap.size = some (.cells (claCs c) 51 (0, 0)) ∧ CMap X mb pg)) (by kernel_rfl) ⟨H3.1, H3.2.1, H3.2.2.keep rfl⟩ (fun hHeld => ?_)
 refine takeF (i := 0) (v := .pointer (some ⟨pb, 0, none⟩)) (k := 19) rfl rfl (by kernel_rfl) (by kernel_rfl) (by kernel_rfl) (fun _ _ _ h => h) (Or.inl ⟨by rfl, fun z hz => by (obtain ⟨z0, z1, z2⟩ := hz; go_simp)⟩) hHeld ?_
 try simp only [Act.put, sia, sc0, scs]
 refine takeF (i := 1) (v := .pointer (some ⟨pb, 0, none⟩)) (k := 20) rfl rfl (by kernel_rfl) (by kernel_rfl) (by kernel_rfl) (fun _ _ _ h => h) (Or.inl ⟨by rfl, fun z hz => by (obtain ⟨z0, z1, z2⟩ := hz; go_simp)⟩) hHeld ?_
 try simp only [Act.put, sia, sc0, scs]
 refine takeF (i := 2) (v := .pointer (some ⟨pb, 0, none⟩)) (k := 21) rfl rfl (by kernel_rfl) (by kernel_rfl) (by kernel_rfl) (fun _ _ _ h => h) (Or.inl ⟨by rfl, fun z hz => by (obtain ⟨z0, z1, z2⟩ := hz; go_simp)⟩) hHeld ?_
 try simp only [Act.put, sia, sc0, scs]
 refine takeF (i := 3) (v := .map (some mb)) (k := 22) rfl rfl (by kernel_rfl) (by kernel_rfl) (by kernel_rfl) (fun _ _ _ h => h) (Or.inl ⟨by rfl, fun z hz => by (obtain ⟨z0, z1, z2⟩ := hz; go_simp)⟩) hHeld ?_
 try simp only [Act.put, sia, sc0, scs]
 refine takeF (i := 4) (v := .pointer (some ⟨w.heap.size, 0, none⟩)) (k := 23) rfl rfl (by kernel_rfl) (by kernel_rfl) (by kernel_rfl) (fun _ _ _ h => h) (Or.inl ⟨by rfl, fun z hz => by (obtain ⟨z0, z1, z2⟩ := hz; go_simp)⟩) hHeld ?_
 try simp only [Act.put, sia, sc0, scs]
 refine takeF (i := 5) (v := c.id.agg) (k := 24) rfl rfl (by kernel_rfl) (by kernel_rfl) (by kernel_rfl) (fun _ _ _ h => h) (Or.inl ⟨by rfl, fun z hz => by (obtain ⟨z0, z1, z2⟩ := hz; have y0 : z.cell? ⟨w.heap.size, 0, none⟩ = some (.int .i64 c.id.seat) := (cell_of_row _ _ _ _ _ _ z1).trans rfl; have y1 : z.cell? ⟨w.heap.size, 1, none⟩ = some (.int .i64 c.id.count) := (cell_of_row _ _ _ _ _ _ z1).trans rfl; have y2 : z.cell? ⟨w.heap.size, 2, none⟩ = some (.int .i64 c.after.seat) := (cell_of_row _ _ _ _ _ _ z1).trans rfl; have y3 : z.cell? ⟨w.heap.size, 3, none⟩ = some (.int .i64 c.after.count) := (cell_of_row _ _ _ _ _ _ z1).trans rfl; clear z1 z2; go_simp)⟩) hHeld ?_
 try simp only [Act.put, sia, sc0, scs]
 refine takeF (i := 6) (v := .tuple #[zeroCl.agg, .bool false]) (k := 25) rfl rfl (by kernel_rfl) (by kernel_rfl) (by kernel_rfl) (fun _ _ _ h => h) (Or.inl ⟨by rfl, fun z hz => by (obtain ⟨z0, z1, z2⟩ := hz; have hq := HQ1.out z z2; clear z0 z1 z2; go_simp)⟩) hHeld ?_
 try simp only [Act.put, sia, sc0, scs]
 refine takeF (i := 7) (v := .tuple #[zeroCl.agg, .bool false]) (k := 18) rfl rfl (by kernel_rfl) (by kernel_rfl) (by kernel_rfl) (fun _ _ _ h => h) (Or.inl ⟨by rfl, fun z hz => by (obtain ⟨z0, z1, z2⟩ := hz; go_simp)⟩) hHeld ?_
 try simp only [Act.put, sia, sc0, scs]
 refine takeF (i := 8) (v := zeroCl.agg) (k := 26) rfl rfl (by kernel_rfl) (by kernel_rfl) (by kernel_rfl) (fun _ _ _ h => h) (Or.inl ⟨by rfl, fun z hz => by (obtain ⟨z0, z1, z2⟩ := hz; go_simp)⟩) hHeld ?_
 try simp only [Act.put, sia, sc0, scs]
 refine takeF (i := 9) (v := .bool false) (k := 27) rfl rfl (by kernel_rfl) (by kernel_rfl) (by kernel_rfl) (fun _ _ _ h => h) (Or.inl ⟨by rfl, fun z hz => by (obtain ⟨z0, z1, z2⟩ := hz; go_simp)⟩) hHeld ?_
 try simp only [Act.put, sia, sc0, scs]
 refine wpAnyH_ready (rs := [10]) (by kernel_rfl) (by simp) (AllReadyH.cons rfl (fun K hK => ?_) AllReadyH.nil)
 go_simp
 have hA : Below w1.heap.size w1 (w1.drew.alloc (.cells (claCs zeroCl) 51)) := (Below.refl _ _).drew.alloc (Nat.le_refl _) _
 refine hK.out _ _ ⟨keepw hA H3.1, rkeepk hA H3.2.1, H3.2.2.keep (hA.block _ H3.2.2.lt)⟩ (fun hHeld => ?_)
 clear hK K
 try simp only [Act.put, sia, sc0, scs]
 refine wpAnyH_ready (rs := [11]) (by kernel_rfl) (by simp) (AllReadyH.cons rfl (fun K hK => ?_) AllReadyH.nil)
 refine step_store_cla rfl (.tmp 5) (.tmp 26) rfl (w1.heap.size) zeroCl zeroCl rfl rfl (heap_alloc_new _ _) ?_
 show K _ ((w1.drew.alloc (.cells (claCs zeroCl) 51)).setRow w1.heap.size (claCs zeroCl))
 rw [show (w1.drew.alloc (.cells (claCs zeroCl) 51)).setRow w1.heap.size (claCs zeroCl) = w1.drew.alloc (.cells (claCs zeroCl) 51) from setRow_alloc_new w1.drew _ _ _]
 have hA' : Below w1.heap.size w1 (w1.drew.alloc (.cells (claCs zeroCl) 51)) := (Below.refl _ _).drew.alloc (Nat.le_refl _) _
 refine hK.out _ _ ⟨keepw hA' H3.1, rkeepk hA' H3.2.1, H3.2.2.keep (hA'.block _ H3.2.2.lt)⟩ (fun hHeld => ?_)
 clear hK K
 try simp only [Act.put, sia, sc0, scs]
 refine takeF (i := 12) (v := .bool false) (k := 6) rfl rfl (by kernel_rfl) (by kernel_rfl) (by kernel_rfl) (fun _ _ _ h => h) (Or.inl ⟨by rfl, fun z hz => by (obtain ⟨z0, z1, z2⟩ := hz; go_simp)⟩) hHeld ?_
 try simp only [Act.put, sia, sc0, scs]
 refine wpAnyH_done (by kernel_rfl) ?_ _
 obtain ⟨w2, hw2⟩ : ∃ X, X = w1.drew.alloc (.cells (claCs zeroCl) 51) := ⟨_, rfl⟩
 have hbw2 : Below w.heap.size w w2 := by rw [hw2]; exact hb0.drew.alloc hb0.size _
 have Hw2 : w2.cell? ⟨pb, 0, none⟩ = some (.map (some mb)) ∧ w2.blk w.heap.size = some (.cells (claCs c) 51 (0, 0)) ∧ CMap w2 mb pg := ⟨keepw hbw2 HPC.out, by rw [hw2]; exact (Below.heap_alloc w1.drew _ _ (lt_of_heap H3.2.1)).trans H3.2.1, HM.out.keep (hbw2.block _ HM.out.lt)⟩
 have Zw2 : w2.blk w1.heap.size = some (.cells (claCs zeroCl) 51 (0, 0)) := by rw [hw2]; exact heap_alloc_new w1.drew _
 rw [← hw2]
 clear hw2
 go_wp2_with fail
 refine wp_region_held_drew (S := (fun X : World => X.cell? ⟨pb, 0, none⟩ = some (.map (some mb)) ∧ X.blk w.heap.size = some (.cells (claCs c) 51 (0, 0)) ∧ CMap X mb pg)) (by kernel_rfl) ⟨Hw2.1, Hw2.2.1, Hw2.2.2.keep rfl⟩ (fun hHeld => ?_)
 refine takeF (i := 0) (v := .pointer (some ⟨pb, 0, none⟩)) (k := 45) rfl rfl (by kernel_rfl) (by kernel_rfl) (by kernel_rfl) (fun _ _ _ h => h) (Or.inl ⟨by rfl, fun z hz => by (obtain ⟨z0, z1, z2⟩ := hz; go_simp)⟩) hHeld ?_
 try simp only [Act.put, sia, sc0, scs]
 refine takeF (i := 1) (v := .pointer (some ⟨pb, 0, none⟩)) (k := 46) rfl rfl (by kernel_rfl) (by kernel_rfl) (by kernel_rfl) (fun _ _ _ h => h) (Or.inl ⟨by rfl, fun z hz => by (obtain ⟨z0, z1, z2⟩ := hz; go_simp)⟩) hHeld ?_
 try simp only [Act.put, sia, sc0, scs]
 refine takeF (i := 2) (v := .pointer (some ⟨pb, 0, none⟩)) (k := 47) rfl rfl (by kernel_rfl) (by kernel_rfl) (by kernel_rfl) (fun _ _ _ h => h) (Or.inl ⟨by rfl, fun z hz => by (obtain ⟨z0, z1, z2⟩ := hz; go_simp)⟩) hHeld ?_
 try simp only [Act.put, sia, sc0, scs]
 refine takeF (i := 3) (v := .map (some mb)) (k := 48) rfl rfl (by kernel_rfl) (by kernel_rfl) (by kernel_rfl) (fun _ _ _ h => h) (Or.inl ⟨by rfl, fun z hz => by (obtain ⟨z0, z1, z2⟩ := hz; go_simp)⟩) hHeld ?_
 try simp only [Act.put, sia, sc0, scs]
 refine takeF (i := 4) (v := .pointer (some ⟨w.heap.size, 2, none⟩)) (k := 49) rfl rfl (by kernel_rfl) (by kernel_rfl) (by kernel_rfl) (fun _ _ _ h => h) (Or.inl ⟨by rfl, fun z hz => by (obtain ⟨z0, z1, z2⟩ := hz; go_simp)⟩) hHeld ?_
 try simp only [Act.put, sia, sc0, scs]
 refine takeF (i := 5) (v := c.after.agg) (k := 50) rfl rfl (by kernel_rfl) (by kernel_rfl) (by kernel_rfl) (fun _ _ _ h => h) (Or.inl ⟨by rfl, fun z hz => by (obtain ⟨z0, z1, z2⟩ := hz; have y0 : z.cell? ⟨w.heap.size, 0, none⟩ = some (.int .i64 c.id.seat) := (cell_of_row _ _ _ _ _ _ z1).trans rfl; have y1 : z.cell? ⟨w.heap.size, 1, none⟩ = some (.int .i64 c.id.count) := (cell_of_row _ _ _ _ _ _ z1).trans rfl; have y2 : z.cell? ⟨w.heap.size, 2, none⟩ = some (.int .i64 c.after.seat) := (cell_of_row _ _ _ _ _ _ z1).trans rfl; have y3 : z.cell? ⟨w.heap.size, 3, none⟩ = some (.int .i64 c.after.count) := (cell_of_row _ _ _ _ _ _ z1).trans rfl; clear z1 z2; go_simp)⟩) hHeld ?_
 try simp only [Act.put, sia, sc0, scs]
 refine takeF (i := 6) (v := .tuple #[zeroCl.agg, .bool false]) (k := 51) rfl rfl (by kernel_rfl) (by kernel_rfl) (by kernel_rfl) (fun _ _ _ h => h) (Or.inl ⟨by rfl, fun z hz => by (obtain ⟨z0, z1, z2⟩ := hz; have hq := HQ2.out z z2; clear z0 z1 z2; go_simp)⟩) hHeld ?_
 try simp only [Act.put, sia, sc0, scs]
 refine takeF (i := 7) (v := .tuple #[zeroCl.agg, .bool false]) (k := 44) rfl rfl (by kernel_rfl) (by kernel_rfl) (by kernel_rfl) (fun _ _ _ h => h) (Or.inl ⟨by rfl, fun z hz => by (obtain ⟨z0, z1, z2⟩ := hz; go_simp)⟩) hHeld ?_
 try simp only [Act.put, sia, sc0, scs]
 refine takeF (i := 8) (v := zeroCl.agg) (k := 52) rfl rfl (by kernel_rfl) (by kernel_rfl) (by kernel_rfl) (fun _ _ _ h => h) (Or.inl ⟨by rfl, fun z hz => by (obtain ⟨z0, z1, z2⟩ := hz; go_simp)⟩) hHeld ?_
 try simp only [Act.put, sia, sc0, scs]
 refine takeF (i := 9) (v := .bool false) (k := 53) rfl rfl (by kernel_rfl) (by kernel_rfl) (by kernel_rfl) (fun _ _ _ h => h) (Or.inl ⟨by rfl, fun z hz => by (obtain ⟨z0, z1, z2⟩ := hz; go_simp)⟩) hHeld ?_
 try simp only [Act.put, sia, sc0, scs]
 refine wpAnyH_ready (rs := [10]) (by kernel_rfl) (by simp) (AllReadyH.cons rfl (fun K hK => ?_) AllReadyH.nil)
 go_simp
 have hA : Below w2.heap.size w2 (w2.drew.alloc (.cells (claCs zeroCl) 51)) := (Below.refl _ _).drew.alloc (Nat.le_refl _) _
 refine hK.out _ _ ⟨keepw hA Hw2.1, rkeepk hA Hw2.2.1, Hw2.2.2.keep (hA.block _ Hw2.2.2.lt)⟩ (fun hHeld => ?_)
 clear hK K
 try simp only [Act.put, sia, sc0, scs]
 refine wpAnyH_ready (rs := [11]) (by kernel_rfl) (by simp) (AllReadyH.cons rfl (fun K hK => ?_) AllReadyH.nil)
 refine step_store_cla rfl (.tmp 9) (.tmp 52) rfl (w2.heap.size) zeroCl zeroCl rfl rfl (heap_alloc_new _ _) ?_
 show K _ ((w2.drew.alloc (.cells (claCs zeroCl) 51)).setRow w2.heap.size (claCs zeroCl))
 rw [show (w2.drew.alloc (.cells (claCs zeroCl) 51)).setRow w2.heap.size (claCs zeroCl) = w2.drew.alloc (.cells (claCs zeroCl) 51) from setRow_alloc_new w2.drew _ _ _]
 have hA' : Below w2.heap.size w2 (w2.drew.alloc (.cells (claCs zeroCl) 51)) := (Below.refl _ _).drew.alloc (Nat.le_refl _) _
 refine hK.out _ _ ⟨keepw hA' Hw2.1, rkeepk hA' Hw2.2.1, Hw2.2.2.keep (hA'.block _ Hw2.2.2.lt)⟩ (fun hHeld => ?_)
 clear hK K
 try simp only [Act.put, sia, sc0, scs]
 refine takeF (i := 12) (v := .bool false) (k := 10) rfl rfl (by kernel_rfl) (by kernel_rfl) (by kernel_rfl) (fun _ _ _ h => h) (Or.inl ⟨by rfl, fun z hz => by (obtain ⟨z0, z1, z2⟩ := hz; go_simp)⟩) hHeld ?_
 try simp only [Act.put, sia, sc0, scs]
 refine wpAnyH_done (by kernel_rfl) ?_ _
 obtain ⟨w3, hw3⟩ : ∃ X, X = w2.drew.alloc (.cells (claCs zeroCl) 51) := ⟨_, rfl⟩
 have hbw3 : Below w.heap.size w w3 := by rw [hw3]; exact hbw2.drew.alloc hbw2.size _
 have Hw3 : w3.cell? ⟨pb, 0, none⟩ = some (.map (some mb)) ∧ w3.blk w.heap.size = some (.cells (claCs c) 51 (0, 0)) ∧ CMap w3 mb pg := ⟨keepw hbw3 HPC.out, by rw [hw3]; exact (Below.heap_alloc w2.drew _ _ (lt_of_heap Hw2.2.1)).trans Hw2.2.1, HM.out.keep (hbw3.block _ HM.out.lt)⟩
 have Zw3 : w3.blk w2.heap.size = some (.cells (claCs zeroCl) 51 (0, 0)) := by rw [hw3]; exact heap_alloc_new w2.drew _
 rw [← hw3]
 clear hw3
 have y0 : w3.cell? ⟨w.heap.size, 0, none⟩ = some (.int .i64 c.id.seat) := (cell_of_row _ _ _ _ _ _ Hw3.2.1).trans rfl
 have y1 : w3.cell? ⟨w.heap.size, 1, none⟩ = some (.int .i64 c.id.count) := (cell_of_row _ _ _ _ _ _ Hw3.2.1).trans rfl
 have y2 : w3.cell? ⟨w.heap.size, 2, none⟩ = some (.int .i64 c.after.seat) := (cell_of_row _ _ _ _ _ _ Hw3.2.1).trans rfl
 have y3 : w3.cell? ⟨w.heap.size, 3, none⟩ = some (.int .i64 c.after.count) := (cell_of_row _ _ _ _ _ _ Hw3.2.1).trans rfl
 have y19 : w3.cell? ⟨w.heap.size, 19, none⟩ = some (.bool c.gone) := (cell_of_row _ _ _ _ _ _ Hw3.2.1).trans rfl
 have yp := Hw3.1
 have hs := HS.out
 go_wp2_with fail
 go_ret
 exact ⟨rfl, Hw3.2.2, below_grown hbw3⟩
end Go.Proofs.YtecnlfaholmpoaaGreat
