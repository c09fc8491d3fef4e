/- What commute.Swap answers, and its law. commute.Swap answers swapF. -/
import Derived.Test.YtfolcjkednmkoaaGreatJState
import Derived.Test.YtfolcjkednmkoaaGreatJGr
import Derived.Test.YtfolcjkednmkoaaGreatAll
import Derived.Test.YtfolcjkednmkoaaGreatJCm
import Derived.Deep.RegionHeld3
set_option linter.unusedVariables false
set_option linter.unusedSimpArgs false
namespace Go.Proofs.YtfolcjkednmkoaaGreat
open Go.RowKit
def swapF (l : List Item) (a b : Patch) : Patch × Patch × Bool :=
 if (allR l [a, b]).2.2 ≠ 0 then (zeroP, zeroP, false)
 else if commF a b = true then (b, a, true)
 else if a.kind = 1 ∧ b.kind = 1 ∧ a.par = b.par ∧ a.aft = b.aft then (b, { a with aft := b.id }, true)
 else if a.kind = 1 ∧ b.kind = 1 ∧ b.aft = a.id then ({ b with aft := a.aft }, a, true)
 else (zeroP, zeroP, false)
theorem allR_valid {l : List Item} {ps : List Patch} (h : (allR l ps).2.2 = 0) : walkB l = true ∧ ∀ qs, allR l qs = allF l qs 0 := by
 cases hv : walkB l with
 | false =>
   unfold allR at h
   rw [hv] at h
   simp at h
 | true => exact ⟨rfl, fun qs => by unfold allR; rw [hv]; rfl⟩
/- both orders of two that commute -/
/- groups in another order -/
end Go.Proofs.YtfolcjkednmkoaaGreat
set_option maxRecDepth 20000
set_option maxHeartbeats 4000000
namespace Go.Proofs.YtfolcjkednmkoaaGreat
open Go.RowKit
theorem sw_start (w : World) (A : Option Addr) (l : List Item) (c : Nat) (a b : Patch) : Below w.heap.size w (((((w.alloc (.cells #[.slice A l.length c] 24)).alloc (.cells (patCs a) 29)).alloc (.cells (patCs b) 29)).alloc (.cells (patCs zeroP) 29)).alloc (.cells (patCs zeroP) 29)) ∧ (((((w.alloc (.cells #[.slice A l.length c] 24)).alloc (.cells (patCs a) 29)).alloc (.cells (patCs b) 29)).alloc (.cells (patCs zeroP) 29)).alloc (.cells (patCs zeroP) 29)).cell? ⟨w.heap.size, 0, none⟩ = some (.slice A l.length c) ∧ (((((w.alloc (.cells #[.slice A l.length c] 24)).alloc (.cells (patCs a) 29)).alloc (.cells (patCs b) 29)).alloc (.cells (patCs zeroP) 29)).alloc (.cells (patCs zeroP) 29)).blk (w.heap.size + 1) = some (.cells (patCs a) 29 (0, 0)) ∧ (((((w.alloc (.cells #[.slice A l.length c] 24)).alloc (.cells (patCs a) 29)).alloc (.cells (patCs b) 29)).alloc (.cells (patCs zeroP) 29)).alloc (.cells (patCs zeroP) 29)).blk (w.heap.size + 1 + 1) = some (.cells (patCs b) 29 (0, 0)) ∧ (((((w.alloc (.cells #[.slice A l.length c] 24)).alloc (.cells (patCs a) 29)).alloc (.cells (patCs b) 29)).alloc (.cells (patCs zeroP) 29)).alloc (.cells (patCs zeroP) 29)).blk (w.heap.size + 1 + 1 + 1) = some (.cells (patCs zeroP) 29 (0, 0)) ∧ (((((w.alloc (.cells #[.slice A l.length c] 24)).alloc (.cells (patCs a) 29)).alloc (.cells (patCs b) 29)).alloc (.cells (patCs zeroP) 29)).alloc (.cells (patCs zeroP) 29)).blk (w.heap.size + 1 + 1 + 1 + 1) = some (.cells (patCs zeroP) 29 (0, 0)) :=
 ⟨(((((Below.refl w.heap.size w).alloc (Nat.le_refl _) (.cells #[.slice A l.length c] 24)).alloc (by simp) (.cells (patCs a) 29)).alloc (by simp; omega) (.cells (patCs b) 29)).alloc (by simp; omega) (.cells (patCs zeroP) 29)).alloc (by simp; omega) (.cells (patCs zeroP) 29), by simp [go_sem], by simp [go_sem], by simp [go_sem], by simp [go_sem], by simp [go_sem]⟩
theorem results_cct {fn : Func} {p q u : Tmp} {ty ty' : TypeId} (h : fn.results = #[.cell p ty, .cell q ty', .tmp u]) (tmps : Array Value) (P : Program) (w : World) :
 (results fn tmps).run P w =
   ((asAddr (tmps.getD p undef)).run P w).andThen fun a w₁ => ((loadVar ty a).run P w₁).andThen fun v w₂ => ((asAddr (tmps.getD q undef)).run P w₂).andThen fun a' w₃ => ((loadVar ty' a').run P w₃).andThen fun v' w₄ => .ok (.tuple #[v, v', tmps.getD u undef]) w₄ := by
 simp only [results, h]
 simp [Sem.run_bind, Result.andThen]
theorem results_swap {X : World} {tmps : Array Value} {x y : Patch} {o : Bool} {b1 b2 : Nat} (h1 : tmps.getD 6 undef = .pointer (some ⟨b1, 0, none⟩)) (h2 : tmps.getD 7 undef = .pointer (some ⟨b2, 0, none⟩)) (h3 : tmps.getD 8 undef = .bool o)
 (k1 : X.blk b1 = some (.cells (patCs x) 29 (0, 0))) (k2 : X.blk b2 = some (.cells (patCs y) 29 (0, 0))) :
 (results Tryz.f6 tmps).run Tryz.prog X = .ok (.tuple #[x.agg, y.agg, .bool o]) X := by
 rw [results_cct Tryz.results6, h1, h2, h3]
 simp only [asAddr, Sem.run_pure, Result.andThen_ok, load_pat k1, load_pat k2]
theorem swap_1 (l : List Item) (A : Option Addr) (c : Nat) (a b : Patch) (w : World) (hr : RdI w A l) (hl : l.length ≤ 100000) (hlc : l.length ≤ c) (hsh : ∀ x ∈ l, x.Short) (ra : a.Ready) (rb : b.Ready) (m : Int) (hg : w.cell? ⟨0, 0, none⟩ = some (.int .i64 m)) (d : List Item) (i0 er : Int) (hal : allR l [a, b] = (d, i0, er)) (h0 : (er != 0) = true) : Calls Tryz.prog 6 #[.agg #[.slice A l.length c], a.agg, b.agg] w fun e w' => e = .returned (.tuple #[zeroP.agg, zeroP.agg, .bool false]) ∧ Below w.heap.size w w' := by
 have hz := World.block_lt_of_cell? _ _ hg
 obtain ⟨hb0, C0, PA0, PB0, R10, R20⟩ := sw_start w A l c a b
 have HB0 := Lib.hid hb0; clear hb0
 have HR := Lib.hid hr; clear hr
 have HG := Lib.hid hg; clear hg
 have HAL := Lib.hid hal; clear hal
 have HSH := Lib.hid hsh; clear hsh
 go_enter Tryz.func6, Tryz.ntmps6
 go_wp2_with fail
 have hbl := HB0.out.alloc HB0.out.size (.cells (twoCs a b) 29)
 refine (all_lit HAL.out A _ 2 c 2 _ rfl (HR.out.below hbl) (RdP.lit2 _ a b _ (by simp)) hl hlc HSH.out (by simp) (two_ready ra rb) m (gcell hbl HG.out)).mono ?_
 rintro e w1 ⟨Ad, cd, rfl, hrd, hcd, hb1⟩
 have hx1 := step_below hb1
 have C1 := keepw hx1 C0
 have qC1 := World.block_lt_of_cell? _ _ C1
 have PA1 := rkeepk hx1 PA0
 have qPA1 := lt_of_heap PA1
 have PB1 := rkeepk hx1 PB0
 have qPB1 := lt_of_heap PB1
 have R11 := rkeepk hx1 R10
 have qR11 := lt_of_heap R11
 have R21 := rkeepk hx1 R20
 have qR21 := lt_of_heap R21
 have HB1 := Lib.hid (chain2 HB0.out hx1)
 have HX1 := Lib.hid hx1
 clear hx1 hb1 C0 PA0 PB0 R10 R20
 clear hrd
 have G1 := (blk_alloc_lt (o := (.cells #[.slice Ad d.length cd] 24)) qR11).trans R11
 have G20 := (blk_alloc_lt (o := (.cells #[.slice Ad d.length cd] 24)) qR21).trans R21
 have HBX := Lib.hid (HB1.out.alloc HB1.out.size (.cells #[.slice Ad d.length cd] 24))
 have G2 := (blk_setRow_ne (b := w.heap.size + 1 + 1 + 1) (D := patCs zeroP) (by omega)).trans G20
 go_wp2_with (first | refine wpList_store_pat rfl (.tmp 6) (.tmp 29) rfl (w.heap.size + 1 + 1 + 1) zeroP zeroP rfl rfl G1 ?_ | refine wpList_store_pat rfl (.tmp 7) (.tmp 30) rfl (w.heap.size + 1 + 1 + 1 + 1) zeroP zeroP rfl rfl G2 ?_)
 refine bodyPost_ret (v := .tuple #[zeroP.agg, zeroP.agg, .bool false]) (results_swap rfl rfl rfl ((blk_setRow_ne (by omega)).trans (blk_setRow_at G1)) (blk_setRow_at G2)) rfl ⟨rfl, ?_⟩
 exact below_setRow (below_setRow (HBX.out) (by omega) _) (by omega) _
theorem swap_2 (l : List Item) (A : Option Addr) (c : Nat) (a b : Patch) (w : World) (hr : RdI w A l) (hl : l.length ≤ 100000) (hlc : l.length ≤ c) (hsh : ∀ x ∈ l, x.Short) (ra : a.Ready) (rb : b.Ready) (m : Int) (hg : w.cell? ⟨0, 0, none⟩ = some (.int .i64 m)) (d : List Item) (i0 er : Int) (hal : allR l [a, b] = (d, i0, er)) (hv : walkB l = true) (h0 : (er != 0) = false) (ins : Bool) (hins : ((a.kind == 1) && (b.kind == 1)) = ins) (hcc : commF a b = true) : Calls Tryz.prog 6 #[.agg #[.slice A l.length c], a.agg, b.agg] w fun e w' => e = .returned (.tuple #[b.agg, a.agg, .bool true]) ∧ Below w.heap.size w w' := by
 have HV := Lib.hid hv; clear hv
 have HINS := Lib.hid hins; clear hins
 have HC := Lib.hid hcc; clear hcc
 have hz := World.block_lt_of_cell? _ _ hg
 obtain ⟨hb0, C0, PA0, PB0, R10, R20⟩ := sw_start w A l c a b
 have HB0 := Lib.hid hb0; clear hb0
 have HR := Lib.hid hr; clear hr
 have HG := Lib.hid hg; clear hg
 have HAL := Lib.hid hal; clear hal
 have HSH := Lib.hid hsh; clear hsh
 go_enter Tryz.func6, Tryz.ntmps6
 go_wp2_with fail
 have hbl := HB0.out.alloc HB0.out.size (.cells (twoCs a b) 29)
 refine (all_lit HAL.out A _ 2 c 2 _ rfl (HR.out.below hbl) (RdP.lit2 _ a b _ (by simp)) hl hlc HSH.out (by simp) (two_ready ra rb) m (gcell hbl HG.out)).mono ?_
 rintro e w1 ⟨Ad, cd, rfl, hrd, hcd, hb1⟩
 have hx1 := step_below hb1
 have C1 := keepw hx1 C0
 have qC1 := World.block_lt_of_cell? _ _ C1
 have PA1 := rkeepk hx1 PA0
 have qPA1 := lt_of_heap PA1
 have PB1 := rkeepk hx1 PB0
 have qPB1 := lt_of_heap PB1
 have R11 := rkeepk hx1 R10
 have qR11 := lt_of_heap R11
 have R21 := rkeepk hx1 R20
 have qR21 := lt_of_heap R21
 have HB1 := Lib.hid (chain2 HB0.out hx1)
 have HX1 := Lib.hid hx1
 clear hx1 hb1 C0 PA0 PB0 R10 R20
 clear hrd
 go_wp2_with fail
 refine (valid_any l A c _ (HR.out.below (HB1.out.alloc HB1.out.size _)) (by omega) HSH.out).mono ?_
 rintro e w2 ⟨rfl, hb2⟩
 rw [HV.out]
 have hx2 := step_below hb2
 have C2 := keepw hx2 C1
 have qC2 := World.block_lt_of_cell? _ _ C2
 have PA2 := rkeepk hx2 PA1
 have qPA2 := lt_of_heap PA2
 have PB2 := rkeepk hx2 PB1
 have qPB2 := lt_of_heap PB2
 have R12 := rkeepk hx2 R11
 have qR12 := lt_of_heap R12
 have R22 := rkeepk hx2 R21
 have qR22 := lt_of_heap R22
 have HB2 := Lib.hid (chain2 HB1.out hx2)
 have HX2 := Lib.hid hx2
 clear hx2 hb2 C1 qC1 PA1 qPA1 PB1 qPB1 R11 qR11 R21 qR21
 have a0 : w2.cell? ⟨w.heap.size + 1, 0, none⟩ = some (.int .i64 a.kind) := blk_cell PA2 rfl
 have a1 : w2.cell? ⟨w.heap.size + 1, 1, none⟩ = some (vs a.id) := blk_cell PA2 rfl
 have a2 : w2.cell? ⟨w.heap.size + 1, 2, none⟩ = some (vs a.par) := blk_cell PA2 rfl
 have a3 : w2.cell? ⟨w.heap.size + 1, 3, none⟩ = some (vs a.aft) := blk_cell PA2 rfl
 have b0 : w2.cell? ⟨w.heap.size + 1 + 1, 0, none⟩ = some (.int .i64 b.kind) := blk_cell PB2 rfl
 have b1 : w2.cell? ⟨w.heap.size + 1 + 1, 1, none⟩ = some (vs b.id) := blk_cell PB2 rfl
 have b2 : w2.cell? ⟨w.heap.size + 1 + 1, 2, none⟩ = some (vs b.par) := blk_cell PB2 rfl
 have b3 : w2.cell? ⟨w.heap.size + 1 + 1, 3, none⟩ = some (vs b.aft) := blk_cell PB2 rfl
 go_upto_region 4 with fail
 go_cut [12] (fun v12 wc => v12 = .bool ins ∧ w2 = wc)
 case first =>
  cases hka : (a.kind == 1)
  all_goals
   cases hkb : (b.kind == 1)
  all_goals
   have HI := HINS.out
   rw [hka, hkb] at HI
   subst HI
   go_wp2_with fail
   go_meet
   case rel => exact ⟨rfl, rfl⟩
 case rest =>
 obtain ⟨rfl, rfl⟩ := hcut
 go_wp2_with fail
 refine (comm_any a b ra rb _ m (gcell HB2.out HG.out)).mono ?_
 rintro e w3 ⟨rfl, hb3⟩
 rw [HC.out]
 clear a0 a1 a2 a3 b0 b1 b2 b3
 have hx3 := hb3
 have C3 := keepw hx3 C2
 have qC3 := World.block_lt_of_cell? _ _ C3
 have PA3 := rkeepk hx3 PA2
 have qPA3 := lt_of_heap PA3
 have PB3 := rkeepk hx3 PB2
 have qPB3 := lt_of_heap PB3
 have R13 := rkeepk hx3 R12
 have qR13 := lt_of_heap R13
 have R23 := rkeepk hx3 R22
 have qR23 := lt_of_heap R23
 have HB3 := Lib.hid (chain2 HB2.out hx3)
 have HX3 := Lib.hid hx3
 clear hx3 hb3 C2 qC2 PA2 qPA2 PB2 qPB2 R12 qR12 R22 qR22
 go_wp2_with fail
 refine wp_region_held_drew (S := (fun X => X.blk (w.heap.size + 1) = some (.cells (patCs a) 29 (0, 0)) ∧ X.blk (w.heap.size + 1 + 1) = some (.cells (patCs b) 29 (0, 0)))) (by kernel_rfl) ⟨PA3, PB3⟩ (fun hHeld => ?_)
 refine takeD (i := 0) (v := (b).agg) (k := 76) rfl rfl (by kernel_rfl) (by kernel_rfl) (by kernel_rfl) (fun _ _ _ h => h) (Or.inl ⟨by rfl, fun z hz => by (obtain ⟨z0, z1⟩ := hz; go_simp)⟩) hHeld ?_
 simp only [Act.put, sia, sc0, scs]
 refine takeD (i := 1) (v := (a).agg) (k := 77) rfl rfl (by kernel_rfl) (by kernel_rfl) (by kernel_rfl) (fun _ _ _ h => h) (Or.inl ⟨by rfl, fun z hz => by (obtain ⟨z0, z1⟩ := hz; go_simp)⟩) hHeld ?_
 simp only [Act.put, sia, sc0, scs]
 refine wpAnyH_ready (rs := [2]) (by kernel_rfl) (by simp) (AllReadyH.cons rfl (fun K hK => ?_) AllReadyH.nil)
 refine step_store_pat rfl (.tmp 6) (.tmp 76) rfl (w.heap.size + 1 + 1 + 1) (b) zeroP rfl rfl R13 ?_
 refine hK.out _ _ ⟨(blk_setRow_ne (by omega)).trans hHeld.1, (blk_setRow_ne (by omega)).trans hHeld.2⟩ (fun hHeld => ?_)
 clear hK K
 simp only [Act.put, sia, sc0, scs]
 refine wpAnyH_ready (rs := [3]) (by kernel_rfl) (by simp) (AllReadyH.cons rfl (fun K hK => ?_) AllReadyH.nil)
 refine step_store_pat rfl (.tmp 7) (.tmp 77) rfl (w.heap.size + 1 + 1 + 1 + 1) (a) zeroP rfl rfl ((blk_setRow_ne (by omega)).trans R23) ?_
 refine hK.out _ _ ⟨(blk_setRow_ne (by omega)).trans hHeld.1, (blk_setRow_ne (by omega)).trans hHeld.2⟩ (fun hHeld => ?_)
 clear hK K
 simp only [Act.put, sia, sc0, scs]
 refine takeD (i := 4) (v := .bool true) (k := 8) rfl rfl (by kernel_rfl) (by kernel_rfl) (by kernel_rfl) (fun _ _ _ h => h) (Or.inl ⟨by rfl, fun z hz => by (obtain ⟨z0, z1⟩ := hz; go_simp)⟩) hHeld ?_
 simp only [Act.put, sia, sc0, scs]
 refine wpAnyH_done (by kernel_rfl) ?_ _
 go_wp2_with fail
 have D1 : (w3).drew.blk (w.heap.size + 1 + 1 + 1) = some (.cells (patCs zeroP) 29 (0, 0)) := R13
 have D2 : (w3).drew.blk (w.heap.size + 1 + 1 + 1 + 1) = some (.cells (patCs zeroP) 29 (0, 0)) := R23
 refine bodyPost_ret (v := .tuple #[(b).agg, (a).agg, .bool true]) (results_swap rfl rfl rfl ((blk_setRow_ne (by omega)).trans (blk_setRow_at D1)) (blk_setRow_at ((blk_setRow_ne (by omega)).trans D2))) rfl ⟨rfl, ?_⟩
 exact below_setRow (below_setRow (HB3.out.drew) (by omega) _) (by omega) _
theorem swap_3 (l : List Item) (A : Option Addr) (c : Nat) (a b : Patch) (w : World) (hr : RdI w A l) (hl : l.length ≤ 100000) (hlc : l.length ≤ c) (hsh : ∀ x ∈ l, x.Short) (ra : a.Ready) (rb : b.Ready) (m : Int) (hg : w.cell? ⟨0, 0, none⟩ = some (.int .i64 m)) (d : List Item) (i0 er : Int) (hal : allR l [a, b] = (d, i0, er)) (hv : walkB l = true) (h0 : (er != 0) = false) (ins : Bool) (hins : ((a.kind == 1) && (b.kind == 1)) = ins) (hcc : commF a b = false) (hi : ins = true) (hpp : (a.par == b.par) = true) (haa : (a.aft == b.aft) = true) : Calls Tryz.prog 6 #[.agg #[.slice A l.length c], a.agg, b.agg] w fun e w' => e = .returned (.tuple #[b.agg, { a with aft := b.id }.agg, .bool true]) ∧ Below w.heap.size w w' := by
 have HV := Lib.hid hv; clear hv
 have HINS := Lib.hid hins; clear hins
 have HC := Lib.hid hcc; clear hcc
 have hz := World.block_lt_of_cell? _ _ hg
 obtain ⟨hb0, C0, PA0, PB0, R10, R20⟩ := sw_start w A l c a b
 have HB0 := Lib.hid hb0; clear hb0
 have HR := Lib.hid hr; clear hr
 have HG := Lib.hid hg; clear hg
 have HAL := Lib.hid hal; clear hal
 have HSH := Lib.hid hsh; clear hsh
 go_enter Tryz.func6, Tryz.ntmps6
 go_wp2_with fail
 have hbl := HB0.out.alloc HB0.out.size (.cells (twoCs a b) 29)
 refine (all_lit HAL.out A _ 2 c 2 _ rfl (HR.out.below hbl) (RdP.lit2 _ a b _ (by simp)) hl hlc HSH.out (by simp) (two_ready ra rb) m (gcell hbl HG.out)).mono ?_
 rintro e w1 ⟨Ad, cd, rfl, hrd, hcd, hb1⟩
 have hx1 := step_below hb1
 have C1 := keepw hx1 C0
 have qC1 := World.block_lt_of_cell? _ _ C1
 have PA1 := rkeepk hx1 PA0
 have qPA1 := lt_of_heap PA1
 have PB1 := rkeepk hx1 PB0
 have qPB1 := lt_of_heap PB1
 have R11 := rkeepk hx1 R10
 have qR11 := lt_of_heap R11
 have R21 := rkeepk hx1 R20
 have qR21 := lt_of_heap R21
 have HB1 := Lib.hid (chain2 HB0.out hx1)
 have HX1 := Lib.hid hx1
 clear hx1 hb1 C0 PA0 PB0 R10 R20
 clear hrd
 go_wp2_with fail
 refine (valid_any l A c _ (HR.out.below (HB1.out.alloc HB1.out.size _)) (by omega) HSH.out).mono ?_
 rintro e w2 ⟨rfl, hb2⟩
 rw [HV.out]
 have hx2 := step_below hb2
 have C2 := keepw hx2 C1
 have qC2 := World.block_lt_of_cell? _ _ C2
 have PA2 := rkeepk hx2 PA1
 have qPA2 := lt_of_heap PA2
 have PB2 := rkeepk hx2 PB1
 have qPB2 := lt_of_heap PB2
 have R12 := rkeepk hx2 R11
 have qR12 := lt_of_heap R12
 have R22 := rkeepk hx2 R21
 have qR22 := lt_of_heap R22
 have HB2 := Lib.hid (chain2 HB1.out hx2)
 have HX2 := Lib.hid hx2
 clear hx2 hb2 C1 qC1 PA1 qPA1 PB1 qPB1 R11 qR11 R21 qR21
 have a0 : w2.cell? ⟨w.heap.size + 1, 0, none⟩ = some (.int .i64 a.kind) := blk_cell PA2 rfl
 have a1 : w2.cell? ⟨w.heap.size + 1, 1, none⟩ = some (vs a.id) := blk_cell PA2 rfl
 have a2 : w2.cell? ⟨w.heap.size + 1, 2, none⟩ = some (vs a.par) := blk_cell PA2 rfl
 have a3 : w2.cell? ⟨w.heap.size + 1, 3, none⟩ = some (vs a.aft) := blk_cell PA2 rfl
 have b0 : w2.cell? ⟨w.heap.size + 1 + 1, 0, none⟩ = some (.int .i64 b.kind) := blk_cell PB2 rfl
 have b1 : w2.cell? ⟨w.heap.size + 1 + 1, 1, none⟩ = some (vs b.id) := blk_cell PB2 rfl
 have b2 : w2.cell? ⟨w.heap.size + 1 + 1, 2, none⟩ = some (vs b.par) := blk_cell PB2 rfl
 have b3 : w2.cell? ⟨w.heap.size + 1 + 1, 3, none⟩ = some (vs b.aft) := blk_cell PB2 rfl
 go_upto_region 4 with fail
 go_cut [12] (fun v12 wc => v12 = .bool ins ∧ w2 = wc)
 case first =>
  cases hka : (a.kind == 1)
  all_goals
   cases hkb : (b.kind == 1)
  all_goals
   have HI := HINS.out
   rw [hka, hkb] at HI
   subst HI
   go_wp2_with fail
   go_meet
   case rel => exact ⟨rfl, rfl⟩
 case rest =>
 obtain ⟨rfl, rfl⟩ := hcut
 go_wp2_with fail
 refine (comm_any a b ra rb _ m (gcell HB2.out HG.out)).mono ?_
 rintro e w3 ⟨rfl, hb3⟩
 rw [HC.out]
 clear a0 a1 a2 a3 b0 b1 b2 b3
 have hx3 := hb3
 have C3 := keepw hx3 C2
 have qC3 := World.block_lt_of_cell? _ _ C3
 have PA3 := rkeepk hx3 PA2
 have qPA3 := lt_of_heap PA3
 have PB3 := rkeepk hx3 PB2
 have qPB3 := lt_of_heap PB3
 have R13 := rkeepk hx3 R12
 have qR13 := lt_of_heap R13
 have R23 := rkeepk hx3 R22
 have qR23 := lt_of_heap R23
 have HB3 := Lib.hid (chain2 HB2.out hx3)
 have HX3 := Lib.hid hx3
 clear hx3 hb3 C2 qC2 PA2 qPA2 PB2 qPB2 R12 qR12 R22 qR22
 have a0 : w3.cell? ⟨w.heap.size + 1, 0, none⟩ = some (.int .i64 a.kind) := blk_cell PA3 rfl
 have a1 : w3.cell? ⟨w.heap.size + 1, 1, none⟩ = some (vs a.id) := blk_cell PA3 rfl
 have a2 : w3.cell? ⟨w.heap.size + 1, 2, none⟩ = some (vs a.par) := blk_cell PA3 rfl
 have a3 : w3.cell? ⟨w.heap.size + 1, 3, none⟩ = some (vs a.aft) := blk_cell PA3 rfl
 have b0 : w3.cell? ⟨w.heap.size + 1 + 1, 0, none⟩ = some (.int .i64 b.kind) := blk_cell PB3 rfl
 have b1 : w3.cell? ⟨w.heap.size + 1 + 1, 1, none⟩ = some (vs b.id) := blk_cell PB3 rfl
 have b2 : w3.cell? ⟨w.heap.size + 1 + 1, 2, none⟩ = some (vs b.par) := blk_cell PB3 rfl
 have b3 : w3.cell? ⟨w.heap.size + 1 + 1, 3, none⟩ = some (vs b.aft) := blk_cell PB3 rfl
 subst hi
 have hfz : w3.frozen? ⟨w.heap.size + 1, 3, none⟩ = false := blk_frozen PA3
 go_wp2_with fail
 have PA4 : (w3.setCell ⟨w.heap.size + 1, 3, none⟩ (vs (b.id))).blk (w.heap.size + 1) = some (.cells (patCs { a with aft := b.id }) 29 (0, 0)) := blk_setCell_at PA3
 have PB4 : (w3.setCell ⟨w.heap.size + 1, 3, none⟩ (vs (b.id))).blk (w.heap.size + 1 + 1) = some (.cells (patCs b) 29 (0, 0)) := (blk_setCell (show (w.heap.size + 1 + 1 : Nat) ≠ w.heap.size + 1 by omega)).trans PB3
 have R14 : (w3.setCell ⟨w.heap.size + 1, 3, none⟩ (vs (b.id))).blk (w.heap.size + 1 + 1 + 1) = some (.cells (patCs zeroP) 29 (0, 0)) := (blk_setCell (show (w.heap.size + 1 + 1 + 1 : Nat) ≠ w.heap.size + 1 by omega)).trans R13
 have R24 : (w3.setCell ⟨w.heap.size + 1, 3, none⟩ (vs (b.id))).blk (w.heap.size + 1 + 1 + 1 + 1) = some (.cells (patCs zeroP) 29 (0, 0)) := (blk_setCell (show (w.heap.size + 1 + 1 + 1 + 1 : Nat) ≠ w.heap.size + 1 by omega)).trans R23
 have HB4 : Hid (Below w.heap.size w (w3.setCell ⟨w.heap.size + 1, 3, none⟩ (vs (b.id)))) := Lib.hid (HB3.out.setCell (show w.heap.size ≤ w.heap.size + 1 by omega) _)
 refine wp_region_held_drew (S := (fun X => X.blk (w.heap.size + 1) = some (.cells (patCs { a with aft := b.id }) 29 (0, 0)) ∧ X.blk (w.heap.size + 1 + 1) = some (.cells (patCs b) 29 (0, 0)))) (by kernel_rfl) ⟨PA4, PB4⟩ (fun hHeld => ?_)
 refine takeD (i := 0) (v := (b).agg) (k := 76) rfl rfl (by kernel_rfl) (by kernel_rfl) (by kernel_rfl) (fun _ _ _ h => h) (Or.inl ⟨by rfl, fun z hz => by (obtain ⟨z0, z1⟩ := hz; go_simp)⟩) hHeld ?_
 simp only [Act.put, sia, sc0, scs]
 refine takeD (i := 1) (v := ({ a with aft := b.id }).agg) (k := 77) rfl rfl (by kernel_rfl) (by kernel_rfl) (by kernel_rfl) (fun _ _ _ h => h) (Or.inl ⟨by rfl, fun z hz => by (obtain ⟨z0, z1⟩ := hz; go_simp)⟩) hHeld ?_
 simp only [Act.put, sia, sc0, scs]
 refine wpAnyH_ready (rs := [2]) (by kernel_rfl) (by simp) (AllReadyH.cons rfl (fun K hK => ?_) AllReadyH.nil)
 refine step_store_pat rfl (.tmp 6) (.tmp 76) rfl (w.heap.size + 1 + 1 + 1) (b) zeroP rfl rfl R14 ?_
 refine hK.out _ _ ⟨(blk_setRow_ne (by omega)).trans hHeld.1, (blk_setRow_ne (by omega)).trans hHeld.2⟩ (fun hHeld => ?_)
 clear hK K
 simp only [Act.put, sia, sc0, scs]
 refine wpAnyH_ready (rs := [3]) (by kernel_rfl) (by simp) (AllReadyH.cons rfl (fun K hK => ?_) AllReadyH.nil)
 refine step_store_pat rfl (.tmp 7) (.tmp 77) rfl (w.heap.size + 1 + 1 + 1 + 1) ({ a with aft := b.id }) zeroP rfl rfl ((blk_setRow_ne (by omega)).trans R24) ?_
 refine hK.out _ _ ⟨(blk_setRow_ne (by omega)).trans hHeld.1, (blk_setRow_ne (by omega)).trans hHeld.2⟩ (fun hHeld => ?_)
 clear hK K
 simp only [Act.put, sia, sc0, scs]
 refine takeD (i := 4) (v := .bool true) (k := 8) rfl rfl (by kernel_rfl) (by kernel_rfl) (by kernel_rfl) (fun _ _ _ h => h) (Or.inl ⟨by rfl, fun z hz => by (obtain ⟨z0, z1⟩ := hz; go_simp)⟩) hHeld ?_
 simp only [Act.put, sia, sc0, scs]
 refine wpAnyH_done (by kernel_rfl) ?_ _
 go_wp2_with fail
 have D1 : (w3.setCell ⟨w.heap.size + 1, 3, none⟩ (vs b.id)).drew.blk (w.heap.size + 1 + 1 + 1) = some (.cells (patCs zeroP) 29 (0, 0)) := R14
 have D2 : (w3.setCell ⟨w.heap.size + 1, 3, none⟩ (vs b.id)).drew.blk (w.heap.size + 1 + 1 + 1 + 1) = some (.cells (patCs zeroP) 29 (0, 0)) := R24
 refine bodyPost_ret (v := .tuple #[(b).agg, ({ a with aft := b.id }).agg, .bool true]) (results_swap rfl rfl rfl ((blk_setRow_ne (by omega)).trans (blk_setRow_at D1)) (blk_setRow_at ((blk_setRow_ne (by omega)).trans D2))) rfl ⟨rfl, ?_⟩
 exact below_setRow (below_setRow (HB4.out.drew) (by omega) _) (by omega) _
theorem swap_4 (l : List Item) (A : Option Addr) (c : Nat) (a b : Patch) (w : World) (hr : RdI w A l) (hl : l.length ≤ 100000) (hlc : l.length ≤ c) (hsh : ∀ x ∈ l, x.Short) (ra : a.Ready) (rb : b.Ready) (m : Int) (hg : w.cell? ⟨0, 0, none⟩ = some (.int .i64 m)) (d : List Item) (i0 er : Int) (hal : allR l [a, b] = (d, i0, er)) (hv : walkB l = true) (h0 : (er != 0) = false) (ins : Bool) (hins : ((a.kind == 1) && (b.kind == 1)) = ins) (hcc : commF a b = false) (hi : ins = true) (h7 : ((a.par == b.par) && (a.aft == b.aft)) = false) (hbi : (b.aft == a.id) = true) : Calls Tryz.prog 6 #[.agg #[.slice A l.length c], a.agg, b.agg] w fun e w' => e = .returned (.tuple #[{ b with aft := a.aft }.agg, a.agg, .bool true]) ∧ Below w.heap.size w w' := by
 have H7 := Lib.hid h7; clear h7
 have HV := Lib.hid hv; clear hv
 have HINS := Lib.hid hins; clear hins
 have HC := Lib.hid hcc; clear hcc
 have hz := World.block_lt_of_cell? _ _ hg
 obtain ⟨hb0, C0, PA0, PB0, R10, R20⟩ := sw_start w A l c a b
 have HB0 := Lib.hid hb0; clear hb0
 have HR := Lib.hid hr; clear hr
 have HG := Lib.hid hg; clear hg
 have HAL := Lib.hid hal; clear hal
 have HSH := Lib.hid hsh; clear hsh
 go_enter Tryz.func6, Tryz.ntmps6
 go_wp2_with fail
 have hbl := HB0.out.alloc HB0.out.size (.cells (twoCs a b) 29)
 refine (all_lit HAL.out A _ 2 c 2 _ rfl (HR.out.below hbl) (RdP.lit2 _ a b _ (by simp)) hl hlc HSH.out (by simp) (two_ready ra rb) m (gcell hbl HG.out)).mono ?_
 rintro e w1 ⟨Ad, cd, rfl, hrd, hcd, hb1⟩
 have hx1 := step_below hb1
 have C1 := keepw hx1 C0
 have qC1 := World.block_lt_of_cell? _ _ C1
 have PA1 := rkeepk hx1 PA0
 have qPA1 := lt_of_heap PA1
 have PB1 := rkeepk hx1 PB0
 have qPB1 := lt_of_heap PB1
 have R11 := rkeepk hx1 R10
 have qR11 := lt_of_heap R11
 have R21 := rkeepk hx1 R20
 have qR21 := lt_of_heap R21
 have HB1 := Lib.hid (chain2 HB0.out hx1)
 have HX1 := Lib.hid hx1
 clear hx1 hb1 C0 PA0 PB0 R10 R20
 clear hrd
 go_wp2_with fail
 refine (valid_any l A c _ (HR.out.below (HB1.out.alloc HB1.out.size _)) (by omega) HSH.out).mono ?_
 rintro e w2 ⟨rfl, hb2⟩
 rw [HV.out]
 have hx2 := step_below hb2
 have C2 := keepw hx2 C1
 have qC2 := World.block_lt_of_cell? _ _ C2
 have PA2 := rkeepk hx2 PA1
 have qPA2 := lt_of_heap PA2
 have PB2 := rkeepk hx2 PB1
 have qPB2 := lt_of_heap PB2
 have R12 := rkeepk hx2 R11
 have qR12 := lt_of_heap R12
 have R22 := rkeepk hx2 R21
 have qR22 := lt_of_heap R22
 have HB2 := Lib.hid (chain2 HB1.out hx2)
 have HX2 := Lib.hid hx2
 clear hx2 hb2 C1 qC1 PA1 qPA1 PB1 qPB1 R11 qR11 R21 qR21
 have a0 : w2.cell? ⟨w.heap.size + 1, 0, none⟩ = some (.int .i64 a.kind) := blk_cell PA2 rfl
 have a1 : w2.cell? ⟨w.heap.size + 1, 1, none⟩ = some (vs a.id) := blk_cell PA2 rfl
 have a2 : w2.cell? ⟨w.heap.size + 1, 2, none⟩ = some (vs a.par) := blk_cell PA2 rfl
 have a3 : w2.cell? ⟨w.heap.size + 1, 3, none⟩ = some (vs a.aft) := blk_cell PA2 rfl
 have b0 : w2.cell? ⟨w.heap.size + 1 + 1, 0, none⟩ = some (.int .i64 b.kind) := blk_cell PB2 rfl
 have b1 : w2.cell? ⟨w.heap.size + 1 + 1, 1, none⟩ = some (vs b.id) := blk_cell PB2 rfl
 have b2 : w2.cell? ⟨w.heap.size + 1 + 1, 2, none⟩ = some (vs b.par) := blk_cell PB2 rfl
 have b3 : w2.cell? ⟨w.heap.size + 1 + 1, 3, none⟩ = some (vs b.aft) := blk_cell PB2 rfl
 go_upto_region 4 with fail
 go_cut [12] (fun v12 wc => v12 = .bool ins ∧ w2 = wc)
 case first =>
  cases hka : (a.kind == 1)
  all_goals
   cases hkb : (b.kind == 1)
  all_goals
   have HI := HINS.out
   rw [hka, hkb] at HI
   subst HI
   go_wp2_with fail
   go_meet
   case rel => exact ⟨rfl, rfl⟩
 case rest =>
 obtain ⟨rfl, rfl⟩ := hcut
 go_wp2_with fail
 refine (comm_any a b ra rb _ m (gcell HB2.out HG.out)).mono ?_
 rintro e w3 ⟨rfl, hb3⟩
 rw [HC.out]
 clear a0 a1 a2 a3 b0 b1 b2 b3
 have hx3 := hb3
 have C3 := keepw hx3 C2
 have qC3 := World.block_lt_of_cell? _ _ C3
 have PA3 := rkeepk hx3 PA2
 have qPA3 := lt_of_heap PA3
 have PB3 := rkeepk hx3 PB2
 have qPB3 := lt_of_heap PB3
 have R13 := rkeepk hx3 R12
 have qR13 := lt_of_heap R13
 have R23 := rkeepk hx3 R22
 have qR23 := lt_of_heap R23
 have HB3 := Lib.hid (chain2 HB2.out hx3)
 have HX3 := Lib.hid hx3
 clear hx3 hb3 C2 qC2 PA2 qPA2 PB2 qPB2 R12 qR12 R22 qR22
 have a0 : w3.cell? ⟨w.heap.size + 1, 0, none⟩ = some (.int .i64 a.kind) := blk_cell PA3 rfl
 have a1 : w3.cell? ⟨w.heap.size + 1, 1, none⟩ = some (vs a.id) := blk_cell PA3 rfl
 have a2 : w3.cell? ⟨w.heap.size + 1, 2, none⟩ = some (vs a.par) := blk_cell PA3 rfl
 have a3 : w3.cell? ⟨w.heap.size + 1, 3, none⟩ = some (vs a.aft) := blk_cell PA3 rfl
 have b0 : w3.cell? ⟨w.heap.size + 1 + 1, 0, none⟩ = some (.int .i64 b.kind) := blk_cell PB3 rfl
 have b1 : w3.cell? ⟨w.heap.size + 1 + 1, 1, none⟩ = some (vs b.id) := blk_cell PB3 rfl
 have b2 : w3.cell? ⟨w.heap.size + 1 + 1, 2, none⟩ = some (vs b.par) := blk_cell PB3 rfl
 have b3 : w3.cell? ⟨w.heap.size + 1 + 1, 3, none⟩ = some (vs b.aft) := blk_cell PB3 rfl
 subst hi
 have hfz : w3.frozen? ⟨w.heap.size + 1 + 1, 3, none⟩ = false := blk_frozen PB3
 go_upto_region 7 with fail
 go_cut [45] (fun v wc => v = .bool false ∧ w3 = wc)
 case first =>
  cases hpp : (a.par == b.par)
  all_goals
   cases haa : (a.aft == b.aft)
  all_goals (first | exact absurd H7.out (by rw [hpp, haa]; decide) | (go_wp2_with fail; go_meet; case rel => exact ⟨rfl, rfl⟩))
 case rest =>
 obtain ⟨rfl, rfl⟩ := hcut
 go_wp2_with fail
 have PB4 : (w3.setCell ⟨w.heap.size + 1 + 1, 3, none⟩ (vs (a.aft))).blk (w.heap.size + 1 + 1) = some (.cells (patCs { b with aft := a.aft }) 29 (0, 0)) := blk_setCell_at PB3
 have PA4 : (w3.setCell ⟨w.heap.size + 1 + 1, 3, none⟩ (vs (a.aft))).blk (w.heap.size + 1) = some (.cells (patCs a) 29 (0, 0)) := (blk_setCell (show (w.heap.size + 1 : Nat) ≠ w.heap.size + 1 + 1 by omega)).trans PA3
 have R14 : (w3.setCell ⟨w.heap.size + 1 + 1, 3, none⟩ (vs (a.aft))).blk (w.heap.size + 1 + 1 + 1) = some (.cells (patCs zeroP) 29 (0, 0)) := (blk_setCell (show (w.heap.size + 1 + 1 + 1 : Nat) ≠ w.heap.size + 1 + 1 by omega)).trans R13
 have R24 : (w3.setCell ⟨w.heap.size + 1 + 1, 3, none⟩ (vs (a.aft))).blk (w.heap.size + 1 + 1 + 1 + 1) = some (.cells (patCs zeroP) 29 (0, 0)) := (blk_setCell (show (w.heap.size + 1 + 1 + 1 + 1 : Nat) ≠ w.heap.size + 1 + 1 by omega)).trans R23
 have HB4 : Hid (Below w.heap.size w (w3.setCell ⟨w.heap.size + 1 + 1, 3, none⟩ (vs (a.aft)))) := Lib.hid (HB3.out.setCell (show w.heap.size ≤ w.heap.size + 1 + 1 by omega) _)
 refine wp_region_held_drew (S := (fun X => X.blk (w.heap.size + 1) = some (.cells (patCs a) 29 (0, 0)) ∧ X.blk (w.heap.size + 1 + 1) = some (.cells (patCs { b with aft := a.aft }) 29 (0, 0)))) (by kernel_rfl) ⟨PA4, PB4⟩ (fun hHeld => ?_)
 refine takeD (i := 0) (v := ({ b with aft := a.aft }).agg) (k := 76) rfl rfl (by kernel_rfl) (by kernel_rfl) (by kernel_rfl) (fun _ _ _ h => h) (Or.inl ⟨by rfl, fun z hz => by (obtain ⟨z0, z1⟩ := hz; go_simp)⟩) hHeld ?_
 simp only [Act.put, sia, sc0, scs]
 refine takeD (i := 1) (v := (a).agg) (k := 77) rfl rfl (by kernel_rfl) (by kernel_rfl) (by kernel_rfl) (fun _ _ _ h => h) (Or.inl ⟨by rfl, fun z hz => by (obtain ⟨z0, z1⟩ := hz; go_simp)⟩) hHeld ?_
 simp only [Act.put, sia, sc0, scs]
 refine wpAnyH_ready (rs := [2]) (by kernel_rfl) (by simp) (AllReadyH.cons rfl (fun K hK => ?_) AllReadyH.nil)
 refine step_store_pat rfl (.tmp 6) (.tmp 76) rfl (w.heap.size + 1 + 1 + 1) ({ b with aft := a.aft }) zeroP rfl rfl R14 ?_
 refine hK.out _ _ ⟨(blk_setRow_ne (by omega)).trans hHeld.1, (blk_setRow_ne (by omega)).trans hHeld.2⟩ (fun hHeld => ?_)
 clear hK K
 simp only [Act.put, sia, sc0, scs]
 refine wpAnyH_ready (rs := [3]) (by kernel_rfl) (by simp) (AllReadyH.cons rfl (fun K hK => ?_) AllReadyH.nil)
 refine step_store_pat rfl (.tmp 7) (.tmp 77) rfl (w.heap.size + 1 + 1 + 1 + 1) (a) zeroP rfl rfl ((blk_setRow_ne (by omega)).trans R24) ?_
 refine hK.out _ _ ⟨(blk_setRow_ne (by omega)).trans hHeld.1, (blk_setRow_ne (by omega)).trans hHeld.2⟩ (fun hHeld => ?_)
 clear hK K
 simp only [Act.put, sia, sc0, scs]
 refine takeD (i := 4) (v := .bool true) (k := 8) rfl rfl (by kernel_rfl) (by kernel_rfl) (by kernel_rfl) (fun _ _ _ h => h) (Or.inl ⟨by rfl, fun z hz => by (obtain ⟨z0, z1⟩ := hz; go_simp)⟩) hHeld ?_
 simp only [Act.put, sia, sc0, scs]
 refine wpAnyH_done (by kernel_rfl) ?_ _
 go_wp2_with fail
 have D1 : (w3.setCell ⟨w.heap.size + 1 + 1, 3, none⟩ (vs a.aft)).drew.blk (w.heap.size + 1 + 1 + 1) = some (.cells (patCs zeroP) 29 (0, 0)) := R14
 have D2 : (w3.setCell ⟨w.heap.size + 1 + 1, 3, none⟩ (vs a.aft)).drew.blk (w.heap.size + 1 + 1 + 1 + 1) = some (.cells (patCs zeroP) 29 (0, 0)) := R24
 refine bodyPost_ret (v := .tuple #[({ b with aft := a.aft }).agg, (a).agg, .bool true]) (results_swap rfl rfl rfl ((blk_setRow_ne (by omega)).trans (blk_setRow_at D1)) (blk_setRow_at ((blk_setRow_ne (by omega)).trans D2))) rfl ⟨rfl, ?_⟩
 exact below_setRow (below_setRow (HB4.out.drew) (by omega) _) (by omega) _
theorem swap_5 (l : List Item) (A : Option Addr) (c : Nat) (a b : Patch) (w : World) (hr : RdI w A l) (hl : l.length ≤ 100000) (hlc : l.length ≤ c) (hsh : ∀ x ∈ l, x.Short) (ra : a.Ready) (rb : b.Ready) (m : Int) (hg : w.cell? ⟨0, 0, none⟩ = some (.int .i64 m)) (d : List Item) (i0 er : Int) (hal : allR l [a, b] = (d, i0, er)) (hv : walkB l = true) (h0 : (er != 0) = false) (ins : Bool) (hins : ((a.kind == 1) && (b.kind == 1)) = ins) (hcc : commF a b = false) (h7 : (ins && ((a.par == b.par) && (a.aft == b.aft))) = false) (h9 : (ins && (b.aft == a.id)) = false) : Calls Tryz.prog 6 #[.agg #[.slice A l.length c], a.agg, b.agg] w fun e w' => e = .returned (.tuple #[zeroP.agg, zeroP.agg, .bool false]) ∧ Below w.heap.size w w' := by
 have H7 := Lib.hid h7; clear h7
 have H9 := Lib.hid h9; clear h9
 have HV := Lib.hid hv; clear hv
 have HINS := Lib.hid hins; clear hins
 have HC := Lib.hid hcc; clear hcc
 have hz := World.block_lt_of_cell? _ _ hg
 obtain ⟨hb0, C0, PA0, PB0, R10, R20⟩ := sw_start w A l c a b
 have HB0 := Lib.hid hb0; clear hb0
 have HR := Lib.hid hr; clear hr
 have HG := Lib.hid hg; clear hg
 have HAL := Lib.hid hal; clear hal
 have HSH := Lib.hid hsh; clear hsh
 go_enter Tryz.func6, Tryz.ntmps6
 go_wp2_with fail
 have hbl := HB0.out.alloc HB0.out.size (.cells (twoCs a b) 29)
 refine (all_lit HAL.out A _ 2 c 2 _ rfl (HR.out.below hbl) (RdP.lit2 _ a b _ (by simp)) hl hlc HSH.out (by simp) (two_ready ra rb) m (gcell hbl HG.out)).mono ?_
 rintro e w1 ⟨Ad, cd, rfl, hrd, hcd, hb1⟩
 have hx1 := step_below hb1
 have C1 := keepw hx1 C0
 have qC1 := World.block_lt_of_cell? _ _ C1
 have PA1 := rkeepk hx1 PA0
 have qPA1 := lt_of_heap PA1
 have PB1 := rkeepk hx1 PB0
 have qPB1 := lt_of_heap PB1
 have R11 := rkeepk hx1 R10
 have qR11 := lt_of_heap R11
 have R21 := rkeepk hx1 R20
 have qR21 := lt_of_heap R21
 have HB1 := Lib.hid (chain2 HB0.out hx1)
 have HX1 := Lib.hid hx1
 clear hx1 hb1 C0 PA0 PB0 R10 R20
 clear hrd
 go_wp2_with fail
 refine (valid_any l A c _ (HR.out.below (HB1.out.alloc HB1.out.size _)) (by omega) HSH.out).mono ?_
 rintro e w2 ⟨rfl, hb2⟩
 rw [HV.out]
 have hx2 := step_below hb2
 have C2 := keepw hx2 C1
 have qC2 := World.block_lt_of_cell? _ _ C2
 have PA2 := rkeepk hx2 PA1
 have qPA2 := lt_of_heap PA2
 have PB2 := rkeepk hx2 PB1
 have qPB2 := lt_of_heap PB2
 have R12 := rkeepk hx2 R11
 have qR12 := lt_of_heap R12
 have R22 := rkeepk hx2 R21
 have qR22 := lt_of_heap R22
 have HB2 := Lib.hid (chain2 HB1.out hx2)
 have HX2 := Lib.hid hx2
 clear hx2 hb2 C1 qC1 PA1 qPA1 PB1 qPB1 R11 qR11 R21 qR21
 have a0 : w2.cell? ⟨w.heap.size + 1, 0, none⟩ = some (.int .i64 a.kind) := blk_cell PA2 rfl
 have a1 : w2.cell? ⟨w.heap.size + 1, 1, none⟩ = some (vs a.id) := blk_cell PA2 rfl
 have a2 : w2.cell? ⟨w.heap.size + 1, 2, none⟩ = some (vs a.par) := blk_cell PA2 rfl
 have a3 : w2.cell? ⟨w.heap.size + 1, 3, none⟩ = some (vs a.aft) := blk_cell PA2 rfl
 have b0 : w2.cell? ⟨w.heap.size + 1 + 1, 0, none⟩ = some (.int .i64 b.kind) := blk_cell PB2 rfl
 have b1 : w2.cell? ⟨w.heap.size + 1 + 1, 1, none⟩ = some (vs b.id) := blk_cell PB2 rfl
 have b2 : w2.cell? ⟨w.heap.size + 1 + 1, 2, none⟩ = some (vs b.par) := blk_cell PB2 rfl
 have b3 : w2.cell? ⟨w.heap.size + 1 + 1, 3, none⟩ = some (vs b.aft) := blk_cell PB2 rfl
 go_upto_region 4 with fail
 go_cut [12] (fun v12 wc => v12 = .bool ins ∧ w2 = wc)
 case first =>
  cases hka : (a.kind == 1)
  all_goals
   cases hkb : (b.kind == 1)
  all_goals
   have HI := HINS.out
   rw [hka, hkb] at HI
   subst HI
   go_wp2_with fail
   go_meet
   case rel => exact ⟨rfl, rfl⟩
 case rest =>
 obtain ⟨rfl, rfl⟩ := hcut
 go_wp2_with fail
 refine (comm_any a b ra rb _ m (gcell HB2.out HG.out)).mono ?_
 rintro e w3 ⟨rfl, hb3⟩
 rw [HC.out]
 clear a0 a1 a2 a3 b0 b1 b2 b3
 have hx3 := hb3
 have C3 := keepw hx3 C2
 have qC3 := World.block_lt_of_cell? _ _ C3
 have PA3 := rkeepk hx3 PA2
 have qPA3 := lt_of_heap PA3
 have PB3 := rkeepk hx3 PB2
 have qPB3 := lt_of_heap PB3
 have R13 := rkeepk hx3 R12
 have qR13 := lt_of_heap R13
 have R23 := rkeepk hx3 R22
 have qR23 := lt_of_heap R23
 have HB3 := Lib.hid (chain2 HB2.out hx3)
 have HX3 := Lib.hid hx3
 clear hx3 hb3 C2 qC2 PA2 qPA2 PB2 qPB2 R12 qR12 R22 qR22
 have a0 : w3.cell? ⟨w.heap.size + 1, 0, none⟩ = some (.int .i64 a.kind) := blk_cell PA3 rfl
 have a1 : w3.cell? ⟨w.heap.size + 1, 1, none⟩ = some (vs a.id) := blk_cell PA3 rfl
 have a2 : w3.cell? ⟨w.heap.size + 1, 2, none⟩ = some (vs a.par) := blk_cell PA3 rfl
 have a3 : w3.cell? ⟨w.heap.size + 1, 3, none⟩ = some (vs a.aft) := blk_cell PA3 rfl
 have b0 : w3.cell? ⟨w.heap.size + 1 + 1, 0, none⟩ = some (.int .i64 b.kind) := blk_cell PB3 rfl
 have b1 : w3.cell? ⟨w.heap.size + 1 + 1, 1, none⟩ = some (vs b.id) := blk_cell PB3 rfl
 have b2 : w3.cell? ⟨w.heap.size + 1 + 1, 2, none⟩ = some (vs b.par) := blk_cell PB3 rfl
 have b3 : w3.cell? ⟨w.heap.size + 1 + 1, 3, none⟩ = some (vs b.aft) := blk_cell PB3 rfl
 go_upto_region 7 with fail
 go_cut [45] (fun v wc => v = .bool false ∧ w3 = wc)
 case first =>
  cases ins
  all_goals
   cases hpp : (a.par == b.par)
  all_goals
   cases haa : (a.aft == b.aft)
  all_goals (first | exact absurd H7.out (by rw [hpp, haa]; decide) | (go_wp2_with fail; go_meet; case rel => exact ⟨rfl, rfl⟩))
 case rest =>
 obtain ⟨rfl, rfl⟩ := hcut
 go_upto_region 9 with fail
 go_cut [64] (fun v wc => v = .bool false ∧ w3 = wc)
 case first =>
  cases ins
  all_goals
   cases hbi : (b.aft == a.id)
  all_goals (first | exact absurd H9.out (by rw [hbi]; decide) | (go_wp2_with fail; go_meet; case rel => exact ⟨rfl, rfl⟩))
 case rest =>
 obtain ⟨rfl, rfl⟩ := hcut
 have G1 := R13
 have G20 := R23
 have HBX := HB3
 have G2 := (blk_setRow_ne (b := w.heap.size + 1 + 1 + 1) (D := patCs zeroP) (by omega)).trans G20
 go_wp2_with (first | refine wpList_store_pat rfl (.tmp 6) (.tmp 39) rfl (w.heap.size + 1 + 1 + 1) zeroP zeroP rfl rfl G1 ?_ | refine wpList_store_pat rfl (.tmp 7) (.tmp 40) rfl (w.heap.size + 1 + 1 + 1 + 1) zeroP zeroP rfl rfl G2 ?_)
 refine bodyPost_ret (v := .tuple #[zeroP.agg, zeroP.agg, .bool false]) (results_swap rfl rfl rfl ((blk_setRow_ne (by omega)).trans (blk_setRow_at G1)) (blk_setRow_at G2)) rfl ⟨rfl, ?_⟩
 exact below_setRow (below_setRow (HBX.out) (by omega) _) (by omega) _
def SwapP (l : List Item) (a b : Patch) (w : World) (e : Ending) (w' : World) : Prop :=
 e = .returned (.tuple #[(swapF l a b).1.agg, (swapF l a b).2.1.agg, .bool (swapF l a b).2.2]) ∧ Below w.heap.size w w'
theorem swap_any (l : List Item) (A : Option Addr) (c : Nat) (a b : Patch) (w : World) (hr : RdI w A l) (hl : l.length ≤ 100000) (hlc : l.length ≤ c) (hsh : ∀ x ∈ l, x.Short) (ra : a.Ready) (rb : b.Ready) (m : Int) (hg : w.cell? ⟨0, 0, none⟩ = some (.int .i64 m)) :
 Calls Tryz.prog 6 #[.agg #[.slice A l.length c], a.agg, b.agg] w (SwapP l a b w) := by
 obtain ⟨d, i0, er, hal⟩ : ∃ d i0 er, allR l [a, b] = (d, i0, er) := ⟨_, _, _, rfl⟩
 unfold SwapP swapF
 rw [hal]
 by_cases h0 : er = 0
 · have h0' : (er != 0) = false := by simp [h0]
   have hv : walkB l = true := (allR_valid (l := l) (ps := [a, b]) (by rw [hal]; exact h0)).1
   rw [if_neg (by simpa using h0)]
   obtain ⟨ins, hins⟩ : ∃ ins, ((a.kind == 1) && (b.kind == 1)) = ins := ⟨_, rfl⟩
   have hi1 : ins = true ↔ a.kind = 1 ∧ b.kind = 1 := by rw [← hins]; simp
   by_cases hc : commF a b = true
   · rw [if_pos hc]
     exact swap_2 l A c a b w hr hl hlc hsh ra rb m hg d i0 er hal hv h0' ins hins hc
   · have hc' : commF a b = false := by simpa using hc
     rw [if_neg hc]
     by_cases h3 : a.kind = 1 ∧ b.kind = 1 ∧ a.par = b.par ∧ a.aft = b.aft
     · rw [if_pos h3]
       exact swap_3 l A c a b w hr hl hlc hsh ra rb m hg d i0 er hal hv h0' ins hins hc' (hi1.2 ⟨h3.1, h3.2.1⟩) (by simp [h3.2.2.1]) (by simp [h3.2.2.2])
     · rw [if_neg h3]
       by_cases h4 : a.kind = 1 ∧ b.kind = 1 ∧ b.aft = a.id
       · rw [if_pos h4]
         refine swap_4 l A c a b w hr hl hlc hsh ra rb m hg d i0 er hal hv h0' ins hins hc' (hi1.2 ⟨h4.1, h4.2.1⟩) ?_ (by simp [h4.2.2])
         rw [Bool.eq_false_iff]
         intro h
         simp only [Bool.and_eq_true, beq_iff_eq] at h
         exact h3 ⟨h4.1, h4.2.1, h.1, h.2⟩
       · rw [if_neg h4]
         refine swap_5 l A c a b w hr hl hlc hsh ra rb m hg d i0 er hal hv h0' ins hins hc' ?_ ?_
         · rw [Bool.eq_false_iff]
           intro h
           simp only [Bool.and_eq_true, beq_iff_eq] at h
           exact h3 ⟨(hi1.1 h.1).1, (hi1.1 h.1).2, h.2.1, h.2.2⟩
         · rw [Bool.eq_false_iff]
           intro h
           simp only [Bool.and_eq_true, beq_iff_eq] at h
           exact h4 ⟨(hi1.1 h.1).1, (hi1.1 h.1).2, h.2⟩
 · rw [if_pos (by simpa using h0)]
   exact swap_1 l A c a b w hr hl hlc hsh ra rb m hg d i0 er hal (by simpa using h0)
end Go.Proofs.YtfolcjkednmkoaaGreat
