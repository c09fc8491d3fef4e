/- The law CommuteMatchesReference. -/
import Derived.Test.YtfolcjkednmkoaaGreatCHead
import Derived.Test.YtfolcjkednmkoaaGreatCOwnP
import Derived.Test.YtfolcjkednmkoaaGreatJRf
import Derived.Test.YtfolcjkednmkoaaGreatJRf
import Derived.Test.YtfolcjkednmkoaaGreatCommon
set_option linter.unusedVariables false
set_option linter.unusedSimpArgs false
set_option maxRecDepth 20000
set_option maxHeartbeats 8000000
namespace Go.Proofs.YtfolcjkednmkoaaGreat
open Go.RowKit
theorem light_lit {l : List Item} {ps : List Patch} {r : Bool} (h : lightB l ps = r) (A B : Option Addr) (c n d : Nat) (w : World) (hn : n = ps.length) (hr : RdI w A l) (hs : RdP w B ps) (hl : l.length ≤ maxLen) (hfit : ∀ x ∈ l, x.Fits) (hfp : ps.length ≤ maxLen ∧ ∀ p ∈ ps, p.Fits) :
 Calls Tryz.prog 5 #[.agg #[.slice A l.length c], .slice B n d] w fun e w' => e = .returned (.bool r) ∧ Below w.heap.size w w' := by
 subst hn h
 exact light_any l ps A B c d w hr hs hl hfp.1 hfit hfp.2
theorem few_ready {p : Patch} (h : fewB p = true) : p.Ready := by
 obtain ⟨a, b, d⟩ := few_facts h
 exact ⟨a, b, d⟩
theorem two_boxes (W : World) (x y : Patch) : Below W.heap.size W ((((W.alloc (.cells (patCs zeroP) 29)).alloc (.cells (patCs zeroP) 29)).setRow W.heap.size (patCs x)).setRow (W.heap.size + 1) (patCs y)) ∧
 ((((W.alloc (.cells (patCs zeroP) 29)).alloc (.cells (patCs zeroP) 29)).setRow W.heap.size (patCs x)).setRow (W.heap.size + 1) (patCs y)).blk W.heap.size = some (.cells (patCs x) 29 (0, 0)) ∧
 ((((W.alloc (.cells (patCs zeroP) 29)).alloc (.cells (patCs zeroP) 29)).setRow W.heap.size (patCs x)).setRow (W.heap.size + 1) (patCs y)).blk (W.heap.size + 1) = some (.cells (patCs y) 29 (0, 0)) := by
 have h1 : ((W.alloc (.cells (patCs zeroP) 29)).alloc (.cells (patCs zeroP) 29)).blk W.heap.size = some (.cells (patCs zeroP) 29 (0, 0)) := (blk_alloc_lt (by simp)).trans (blk_alloc_at rfl)
 have h2 : ((W.alloc (.cells (patCs zeroP) 29)).alloc (.cells (patCs zeroP) 29)).blk (W.heap.size + 1) = some (.cells (patCs zeroP) 29 (0, 0)) := blk_alloc_at (by simp)
 refine ⟨below_setRow (below_setRow (bl1 (bl1 (Below.refl _ _) _) _) (Nat.le_refl _) _) (by omega) _, ?_, ?_⟩
 · exact (blk_setRow_ne (by omega)).trans (blk_setRow_at h1)
 · exact blk_setRow_at ((blk_setRow_ne (by omega)).trans h2)
theorem more_fits {ps : List Patch} {a b : Patch} (h : ∀ q ∈ ps, q.Fits) (ha : a.Fits) (hb : b.Fits) : ∀ q ∈ ps ++ [a, b], q.Fits := by
 intro q hq
 rcases List.mem_append.1 hq with hq | hq
 · exact h q hq
 · simp at hq
   rcases hq with rfl | rfl <;> assumption
theorem few_rready {p : Patch} (h : fewB p = true) : p.RReady := by
 obtain ⟨a, b, d⟩ := few_facts h
 refine ⟨a, b, ?_, d⟩
 unfold fewB few1 few2 few3 at h
 simp only [Bool.and_eq_true, decide_eq_true_eq] at h
 omega
theorem RdP.pair (w : World) (a b : Patch) (g : Nat) (h : w.heap[g]? = some (.cells (twoCs a b) 29 (0, 0))) : RdP w (some ⟨g, 0, none⟩) [a, b] := by
 intro _
 refine ⟨g, 0, rfl, lt_of_heap h, fun k x hx j v hv => ?_⟩
 rw [Nat.zero_add, cell_of_row _ _ _ _ _ _ h, show twoCs a b = (pflat [a, b]).toArray from rfl, List.getElem?_toArray]
 exact pfl_get [a, b] k x j v hx hv
theorem keep3 {W W' : World} {B0 B1 B2 : Nat} {v : Value} {x y : Obj} (hb : Below W.heap.size W W') (h : W.cell? ⟨B0, 0, none⟩ = some v ∧ W.blk B1 = some x ∧ W.blk B2 = some y) : W'.cell? ⟨B0, 0, none⟩ = some v ∧ W'.blk B1 = some x ∧ W'.blk B2 = some y := ⟨keepw hb h.1, rkeepk hb h.2.1, rkeepk hb h.2.2⟩
theorem cmatch_a (l : List Item) (A : Option Addr) (c : Nat) (ps : List Patch) (B : Option Addr) (dc : Nat) (a b : Patch) (w : World) (m : Int) (hr : RdI w A l) (hl : l.length ≤ maxLen) (hlc : l.length ≤ c) (hfit : ∀ x ∈ l, x.Fits) (hs : RdP w B ps) (hm : ps.length ≤ maxLen) (hfp : ∀ q ∈ ps, q.Fits) (hbg : ps.length * 208 ≤ 140737488351232) (hpa : a.Fits) (hpb : b.Fits) (hg : w.cell? ⟨0, 0, none⟩ = some (.int .i64 m)) (hli : lightB l (ps ++ [a, b]) = false) : Calls Tryz.prog 3 #[.agg #[.slice A l.length c], .slice B ps.length dc, a.agg, b.agg] w fun e w' => e = .returned (.bool true) ∧ Below w.heap.size w w' := by
 have HR := Lib.hid hr; clear hr
 have HS := Lib.hid hs; clear hs
 have HG := Lib.hid hg; clear hg
 have HFI := Lib.hid hfit; clear hfit
 have HFP := Lib.hid hfp; clear hfp
 have HLI := Lib.hid hli; clear hli
 have hb0 : Below w.heap.size w (((w.alloc (.cells #[.slice A l.length c] 24)).alloc (.cells (patCs a) 29)).alloc (.cells (patCs b) 29)) := (((Below.refl w.heap.size w).alloc (Nat.le_refl _) _).alloc (by simp) _).alloc (by simp; omega) _
 have HK0 : (((w.alloc (.cells #[.slice A l.length c] 24)).alloc (.cells (patCs a) 29)).alloc (.cells (patCs b) 29)).cell? ⟨w.heap.size, 0, none⟩ = some (.slice A l.length c) ∧ (((w.alloc (.cells #[.slice A l.length c] 24)).alloc (.cells (patCs a) 29)).alloc (.cells (patCs b) 29)).blk (w.heap.size + 1) = some (.cells (patCs a) 29 (0, 0)) ∧ (((w.alloc (.cells #[.slice A l.length c] 24)).alloc (.cells (patCs a) 29)).alloc (.cells (patCs b) 29)).blk (w.heap.size + 1 + 1) = some (.cells (patCs b) 29 (0, 0)) := ⟨by simp [go_sem], by simp [go_sem], by simp [go_sem]⟩
 have HB0 := Lib.hid hb0; clear hb0
 go_enter Tryz.func3, Tryz.ntmps3
 go_wp2_with fail
 refine (head20_any _ m (gcell HB0.out HG.out)).mono ?_
 rintro e w1 ⟨rfl, hb1⟩
 have HK1 := keep3 hb1 HK0
 have HB1 := Lib.hid (chain2 HB0.out hb1)
 clear hb1 HK0 HB0
 have HSW := Lib.hid (HS.out.below HB1.out)
 go_upto_region 2 with fail
 go_cut [31] (fun v31 wd => v31 = .bool true ∧ Below w1.heap.size w1 wd)
 case first =>
  refine wp_region_held_drew (S := (fun X => X.cell? ⟨w.heap.size, 0, none⟩ = some (.slice A l.length c) ∧ X.blk (w.heap.size + 1) = some (.cells (patCs a) 29 (0, 0)) ∧ X.blk (w.heap.size + 1 + 1) = some (.cells (patCs b) 29 (0, 0)))) (by kernel_rfl) HK1 (fun hHeld => ?_)
  refine takeD (i := 0) (v := .agg #[.slice A l.length c]) (k := 17) rfl rfl (by kernel_rfl) (by kernel_rfl) (by kernel_rfl) (fun _ _ _ h => h) (Or.inl ⟨by rfl, fun z hz => by (obtain ⟨z0, z1, z2⟩ := hz; go_simp)⟩) hHeld ?_
  refine takeD (i := 2) (v := .slice B ps.length dc) (k := 19) rfl rfl (by kernel_rfl) (by kernel_rfl) (by kernel_rfl) (fun _ _ _ h => h) (Or.inl ⟨by rfl, fun z hz => by (obtain ⟨z0, z1, z2⟩ := hz; go_simp)⟩) hHeld ?_
  refine takeD (i := 4) (v := a.agg) (k := 21) rfl rfl (by kernel_rfl) (by kernel_rfl) (by kernel_rfl) (fun _ _ _ h => h) (Or.inl ⟨by rfl, fun z hz => by (obtain ⟨z0, z1, z2⟩ := hz; go_simp)⟩) hHeld ?_
  refine takeD (i := 5) (v := b.agg) (k := 22) rfl rfl (by kernel_rfl) (by kernel_rfl) (by kernel_rfl) (fun _ _ _ h => h) (Or.inl ⟨by rfl, fun z hz => by (obtain ⟨z0, z1, z2⟩ := hz; go_simp)⟩) hHeld ?_
  try simp only [Act.put, sia, sc0, scs]
  generalize hG : wpAnyH Tryz.prog _ _ _ _ = G
  have e21 : ∀ (W : World) (g0 : Nat) (v : Value) (g4 : Nat), Below w1.heap.size w1 W → OwnPs W w1.heap.size v ps → W.heap[g4]? = some (.cells (twoCs a b) 29 (0, 0)) → G 8 #[true, true, true, true, true, true, true, false, false, false, false, false, false, false, false] ⟨#[.agg #[.slice A l.length c], .slice B ps.length dc, a.agg, b.agg, .pointer (some ⟨w.heap.size, 0, none⟩), undef, .pointer (some ⟨w.heap.size + 1, 0, none⟩), .pointer (some ⟨w.heap.size + 1 + 1, 0, none⟩), .bool false, .bool true, undef, undef, undef, undef, undef, undef, .bool true, .agg #[.slice A l.length c], .slice (some ⟨g0, 0, none⟩) 0 0, .slice B ps.length dc, v, a.agg, b.agg, .slice (some ⟨g4, 0, none⟩) 2 2, undef, undef, undef, undef, undef, undef, undef, undef, undef, undef, undef, undef, undef, undef, undef, undef, undef, undef, undef, undef, undef, undef, undef, undef, undef, undef, undef, undef, undef, undef, undef, undef, undef, undef, undef, undef, undef, undef, undef, undef, undef, undef, undef, undef, undef, undef, undef, undef, undef, undef, undef, undef, undef, undef, undef, undef, undef], []⟩ W := by
   intro W g0 v g4 hB hO h4
   rw [← hG]
   refine wpAnyH_ready (rs := [7]) (by kernel_rfl) (by simp) (AllReadyH.cons rfl (fun K hK => ?_) AllReadyH.nil)
   refine step_append_pats rfl (.tmp 20) (.tmp 23) rfl rfl w1.heap.size v ps [a, b] (some ⟨g4, 0, none⟩) 2 2 rfl rfl rfl hO (RdP.pair _ _ _ _ h4) (by simp; omega) hB.size (some 24) rfl ?_
   intro v' W2 hO2 hgr
   have hB2 := hB.grown hgr hB.size hO.ge
   obtain ⟨A2, c2, rfl, hc1, hc2, hrd⟩ := hO2.reads
   have hm1 : (ps ++ [a, b]).length = ps.length + 2 := by simp
   refine hK.out _ _ (keep3 hB2 HK1) (fun hHeld => ?_)
   clear hK K
   try simp only [Act.put, sia, sc0, scs]
   refine wpAnyH_ready (rs := [8]) (by kernel_rfl) (by simp) (AllReadyH.cons rfl (fun K hK => ?_) AllReadyH.nil)
   go_simp
   try simp only [hm1]
   refine (light_lit HLI.out A A2 c (ps.length + 2) c2 _ hm1.symm (HR.out.below (chain2 HB1.out hB2)) hrd hl HFI.out ⟨by rw [hm1]; unfold maxLen; omega, more_fits HFP.out hpa hpb⟩).mono ?_
   rintro e W3 ⟨rfl, hb3⟩
   have hB3 := chain2 hB2 hb3
   clear hb3 hrd
   go_wp2_with fail
   refine hK.out _ _ (keep3 hB3 HK1) (fun hHeld => ?_)
   clear hK K
   try simp only [Act.put, sia, sc0, scs]
   refine takeD (i := 9) (v := .bool true) (k := 26) rfl rfl (by kernel_rfl) (by kernel_rfl) (by kernel_rfl) (fun _ _ _ h => h) (Or.inl ⟨by rfl, fun z hz => by (obtain ⟨z0, z1, z2⟩ := hz; go_simp)⟩) hHeld ?_
   refine takeD (i := 10) (v := .bool true) (k := 27) rfl rfl (by kernel_rfl) (by kernel_rfl) (by kernel_rfl) (fun _ _ _ h => h) (Or.inl ⟨by rfl, fun z hz => by (obtain ⟨z0, z1, z2⟩ := hz; go_simp)⟩) hHeld ?_
   refine takeD (i := 11) (v := undef) (k := 28) rfl rfl (by kernel_rfl) (by kernel_rfl) (by kernel_rfl) (fun _ _ _ h => h) (Or.inr ⟨by rfl, by rfl⟩) hHeld ?_
   refine takeD (i := 12) (v := undef) (k := 29) rfl rfl (by kernel_rfl) (by kernel_rfl) (by kernel_rfl) (fun _ _ _ h => h) (Or.inr ⟨by rfl, by rfl⟩) hHeld ?_
   refine takeD (i := 13) (v := undef) (k := 30) rfl rfl (by kernel_rfl) (by kernel_rfl) (by kernel_rfl) (fun _ _ _ h => h) (Or.inr ⟨by rfl, by rfl⟩) hHeld ?_
   refine takeD (i := 14) (v := .bool true) (k := 31) rfl rfl (by kernel_rfl) (by kernel_rfl) (by kernel_rfl) (fun _ _ _ h => h) (Or.inl ⟨by rfl, fun z hz => by (obtain ⟨z0, z1, z2⟩ := hz; go_simp)⟩) hHeld ?_
   try simp only [Act.put, sia, sc0, scs]
   refine wpAnyH_done (by kernel_rfl) ?_ _
   go_wp2_with fail
   go_meet
   case rel => exact ⟨rfl, hB3⟩
  have e20 : ∀ (W : World) (g0 : Nat) (v : Value), Below w1.heap.size w1 W → OwnPs W w1.heap.size v ps → G 9 #[true, true, true, true, true, true, false, false, false, false, false, false, false, false, false] ⟨#[.agg #[.slice A l.length c], .slice B ps.length dc, a.agg, b.agg, .pointer (some ⟨w.heap.size, 0, none⟩), undef, .pointer (some ⟨w.heap.size + 1, 0, none⟩), .pointer (some ⟨w.heap.size + 1 + 1, 0, none⟩), .bool false, .bool true, undef, undef, undef, undef, undef, undef, .bool true, .agg #[.slice A l.length c], .slice (some ⟨g0, 0, none⟩) 0 0, .slice B ps.length dc, v, a.agg, b.agg, undef, undef, undef, undef, undef, undef, undef, undef, undef, undef, undef, undef, undef, undef, undef, undef, undef, undef, undef, undef, undef, undef, undef, undef, undef, undef, undef, undef, undef, undef, undef, undef, undef, undef, undef, undef, undef, undef, undef, undef, undef, undef, undef, undef, undef, undef, undef, undef, undef, undef, undef, undef, undef, undef, undef, undef, undef, undef], []⟩ W := by
   intro W g0 v hB hO
   rw [← hG]
   refine wpAnyH_ready (rs := [6]) (by kernel_rfl) (by simp) (AllReadyH.cons rfl (fun K hK => ?_) (AllReadyH.nil))
   · go_simp
     have hB2 := bl1 hB (.cells (twoCs a b) 29)
     have hb2 : Below W.heap.size W (W.alloc (.cells (twoCs a b) 29)) := bl1 (Below.refl _ _) _
     refine hK.out _ _ (keep3 hB2 HK1) (fun hHeld => ?_)
     clear hK K
     try simp only [Act.put, sia, sc0, scs]
     have := e21 _ g0 v W.heap.size hB2 (hO.below hb2) (heap_alloc_new _ _)
     rw [← hG] at this
     exact this
  have e11 : ∀ (W : World) (g0 : Nat) (g4 : Nat), Below w1.heap.size w1 W → W.heap[g0]? = some (.cells #[] 29 (0, 0)) → w1.heap.size ≤ g0 → W.heap[g4]? = some (.cells (twoCs a b) 29 (0, 0)) → g4 ≠ g0 → G 9 #[true, true, true, false, true, true, true, false, false, false, false, false, false, false, false] ⟨#[.agg #[.slice A l.length c], .slice B ps.length dc, a.agg, b.agg, .pointer (some ⟨w.heap.size, 0, none⟩), undef, .pointer (some ⟨w.heap.size + 1, 0, none⟩), .pointer (some ⟨w.heap.size + 1 + 1, 0, none⟩), .bool false, .bool true, undef, undef, undef, undef, undef, undef, .bool true, .agg #[.slice A l.length c], .slice (some ⟨g0, 0, none⟩) 0 0, .slice B ps.length dc, undef, a.agg, b.agg, .slice (some ⟨g4, 0, none⟩) 2 2, undef, undef, undef, undef, undef, undef, undef, undef, undef, undef, undef, undef, undef, undef, undef, undef, undef, undef, undef, undef, undef, undef, undef, undef, undef, undef, undef, undef, undef, undef, undef, undef, undef, undef, undef, undef, undef, undef, undef, undef, undef, undef, undef, undef, undef, undef, undef, undef, undef, undef, undef, undef, undef, undef, undef, undef, undef], []⟩ W := by
   intro W g0 g4 hB h0 l0 h4 hn
   rw [← hG]
   refine wpAnyH_ready (rs := [3]) (by kernel_rfl) (by simp) (AllReadyH.cons rfl (fun K hK => ?_) (AllReadyH.nil))
   · refine step_append_pats rfl (.tmp 18) (.tmp 19) rfl rfl w1.heap.size (.slice (some ⟨g0, 0, none⟩) 0 0) [] ps B ps.length dc rfl rfl rfl (OwnPs.empty h0 l0) (HSW.out.below hB) (by simp; omega) hB.size (some 20) rfl ?_
     intro v' W2 hO2 hgr
     have hB2 := hB.grown hgr hB.size (OwnPs.empty h0 l0).ge
     refine hK.out _ _ (keep3 hB2 HK1) (fun hHeld => ?_)
     clear hK K
     try simp only [Act.put, sia, sc0, scs]
     have := e21 W2 g0 v' g4 hB2 hO2 ((hgr.block g4 (lt_of_heap h4) (fun e => hn (Option.some.inj e))).trans h4)
     rw [← hG] at this
     exact this
  have e10 : ∀ (W : World) (g0 : Nat), Below w1.heap.size w1 W → W.heap[g0]? = some (.cells #[] 29 (0, 0)) → w1.heap.size ≤ g0 → G 10 #[true, true, true, false, true, true, false, false, false, false, false, false, false, false, false] ⟨#[.agg #[.slice A l.length c], .slice B ps.length dc, a.agg, b.agg, .pointer (some ⟨w.heap.size, 0, none⟩), undef, .pointer (some ⟨w.heap.size + 1, 0, none⟩), .pointer (some ⟨w.heap.size + 1 + 1, 0, none⟩), .bool false, .bool true, undef, undef, undef, undef, undef, undef, .bool true, .agg #[.slice A l.length c], .slice (some ⟨g0, 0, none⟩) 0 0, .slice B ps.length dc, undef, a.agg, b.agg, undef, undef, undef, undef, undef, undef, undef, undef, undef, undef, undef, undef, undef, undef, undef, undef, undef, undef, undef, undef, undef, undef, undef, undef, undef, undef, undef, undef, undef, undef, undef, undef, undef, undef, undef, undef, undef, undef, undef, undef, undef, undef, undef, undef, undef, undef, undef, undef, undef, undef, undef, undef, undef, undef, undef, undef, undef, undef], []⟩ W := by
   intro W g0 hB h0 l0
   rw [← hG]
   refine wpAnyH_ready (rs := [3, 6]) (by kernel_rfl) (by simp) (AllReadyH.cons rfl (fun K hK => ?_) (AllReadyH.cons rfl (fun K hK => ?_) (AllReadyH.nil)))
   · refine step_append_pats rfl (.tmp 18) (.tmp 19) rfl rfl w1.heap.size (.slice (some ⟨g0, 0, none⟩) 0 0) [] ps B ps.length dc rfl rfl rfl (OwnPs.empty h0 l0) (HSW.out.below hB) (by simp; omega) hB.size (some 20) rfl ?_
     intro v' W2 hO2 hgr
     have hB2 := hB.grown hgr hB.size (OwnPs.empty h0 l0).ge
     refine hK.out _ _ (keep3 hB2 HK1) (fun hHeld => ?_)
     clear hK K
     try simp only [Act.put, sia, sc0, scs]
     have := e20 W2 g0 v' hB2 hO2
     rw [← hG] at this
     exact this
   · go_simp
     have hB2 := bl1 hB (.cells (twoCs a b) 29)
     have hb2 : Below W.heap.size W (W.alloc (.cells (twoCs a b) 29)) := bl1 (Below.refl _ _) _
     refine hK.out _ _ (keep3 hB2 HK1) (fun hHeld => ?_)
     clear hK K
     try simp only [Act.put, sia, sc0, scs]
     have := e11 _ g0 W.heap.size hB2 (rkeepk hb2 h0) l0 (heap_alloc_new _ _) (Nat.ne_of_lt (lt_of_heap h0)).symm
     rw [← hG] at this
     exact this
  have e01 : ∀ (W : World) (g4 : Nat), Below w1.heap.size w1 W → W.heap[g4]? = some (.cells (twoCs a b) 29 (0, 0)) → G 10 #[true, false, true, false, true, true, true, false, false, false, false, false, false, false, false] ⟨#[.agg #[.slice A l.length c], .slice B ps.length dc, a.agg, b.agg, .pointer (some ⟨w.heap.size, 0, none⟩), undef, .pointer (some ⟨w.heap.size + 1, 0, none⟩), .pointer (some ⟨w.heap.size + 1 + 1, 0, none⟩), .bool false, .bool true, undef, undef, undef, undef, undef, undef, .bool true, .agg #[.slice A l.length c], undef, .slice B ps.length dc, undef, a.agg, b.agg, .slice (some ⟨g4, 0, none⟩) 2 2, undef, undef, undef, undef, undef, undef, undef, undef, undef, undef, undef, undef, undef, undef, undef, undef, undef, undef, undef, undef, undef, undef, undef, undef, undef, undef, undef, undef, undef, undef, undef, undef, undef, undef, undef, undef, undef, undef, undef, undef, undef, undef, undef, undef, undef, undef, undef, undef, undef, undef, undef, undef, undef, undef, undef, undef, undef], []⟩ W := by
   intro W g4 hB h4
   rw [← hG]
   refine wpAnyH_ready (rs := [1]) (by kernel_rfl) (by simp) (AllReadyH.cons rfl (fun K hK => ?_) (AllReadyH.nil))
   · go_simp
     have hB2 := bl1 hB (.cells #[] 29)
     have hb2 : Below W.heap.size W (W.alloc (.cells #[] 29)) := bl1 (Below.refl _ _) _
     refine hK.out _ _ (keep3 hB2 HK1) (fun hHeld => ?_)
     clear hK K
     try simp only [Act.put, sia, sc0, scs]
     have := e11 _ W.heap.size g4 hB2 (heap_alloc_new _ _) hB.size (rkeepk hb2 h4) (Nat.ne_of_lt (lt_of_heap h4))
     rw [← hG] at this
     exact this
  have e00 : ∀ (W : World), Below w1.heap.size w1 W → G 11 #[true, false, true, false, true, true, false, false, false, false, false, false, false, false, false] ⟨#[.agg #[.slice A l.length c], .slice B ps.length dc, a.agg, b.agg, .pointer (some ⟨w.heap.size, 0, none⟩), undef, .pointer (some ⟨w.heap.size + 1, 0, none⟩), .pointer (some ⟨w.heap.size + 1 + 1, 0, none⟩), .bool false, .bool true, undef, undef, undef, undef, undef, undef, .bool true, .agg #[.slice A l.length c], undef, .slice B ps.length dc, undef, a.agg, b.agg, undef, undef, undef, undef, undef, undef, undef, undef, undef, undef, undef, undef, undef, undef, undef, undef, undef, undef, undef, undef, undef, undef, undef, undef, undef, undef, undef, undef, undef, undef, undef, undef, undef, undef, undef, undef, undef, undef, undef, undef, undef, undef, undef, undef, undef, undef, undef, undef, undef, undef, undef, undef, undef, undef, undef, undef, undef, undef], []⟩ W := by
   intro W hB
   rw [← hG]
   refine wpAnyH_ready (rs := [1, 6]) (by kernel_rfl) (by simp) (AllReadyH.cons rfl (fun K hK => ?_) (AllReadyH.cons rfl (fun K hK => ?_) (AllReadyH.nil)))
   · go_simp
     have hB2 := bl1 hB (.cells #[] 29)
     have hb2 : Below W.heap.size W (W.alloc (.cells #[] 29)) := bl1 (Below.refl _ _) _
     refine hK.out _ _ (keep3 hB2 HK1) (fun hHeld => ?_)
     clear hK K
     try simp only [Act.put, sia, sc0, scs]
     have := e10 _ W.heap.size hB2 (heap_alloc_new _ _) hB.size
     rw [← hG] at this
     exact this
   · go_simp
     have hB2 := bl1 hB (.cells (twoCs a b) 29)
     have hb2 : Below W.heap.size W (W.alloc (.cells (twoCs a b) 29)) := bl1 (Below.refl _ _) _
     refine hK.out _ _ (keep3 hB2 HK1) (fun hHeld => ?_)
     clear hK K
     try simp only [Act.put, sia, sc0, scs]
     have := e01 _ W.heap.size hB2 (heap_alloc_new _ _)
     rw [← hG] at this
     exact this
  have := e00 _ (Below.refl _ _).drew
  exact this
 case rest =>
 obtain ⟨rfl, hbc⟩ := hcut
 obtain ⟨w2, hw2⟩ : ∃ x, x = wc := ⟨_, rfl⟩
 subst hw2
 have HB2 := Lib.hid (chain2 HB1.out hbc)
 go_wp2_with fail
 go_ret
 exact ⟨rfl, HB2.out⟩
theorem keep6 {W W' : World} {B1 B2 B3 B4 B5 B6 : Nat} {x1 x2 x3 x4 x5 x6 : Obj} (hb : Below W.heap.size W W') (h : W.blk B1 = some x1 ∧ W.blk B2 = some x2 ∧ W.blk B3 = some x3 ∧ W.blk B4 = some x4 ∧ W.blk B5 = some x5 ∧ W.blk B6 = some x6) : W'.blk B1 = some x1 ∧ W'.blk B2 = some x2 ∧ W'.blk B3 = some x3 ∧ W'.blk B4 = some x4 ∧ W'.blk B5 = some x5 ∧ W'.blk B6 = some x6 :=
 ⟨rkeepk hb h.1, rkeepk hb h.2.1, rkeepk hb h.2.2.1, rkeepk hb h.2.2.2.1, rkeepk hb h.2.2.2.2.1, rkeepk hb h.2.2.2.2.2⟩
theorem rswap_lit {l : List Item} {a b x y : Patch} {o : Bool} (h : swapF l a b = (x, y, o)) (A : Option Addr) (n c : Nat) (w : World) (hn : n = l.length) (hr : RdI w A l) (hl : l.length ≤ 100000) (hlc : l.length ≤ c) (hsh : ∀ x ∈ l, x.Short) (ra : a.Ready) (rb : b.Ready) (qa : a.RReady) (qb : b.RReady) :
 Calls Tryz.prog 7 #[.agg #[.slice A n c], a.agg, b.agg] w fun e w' => e = .returned (.tuple #[x.agg, y.agg, .bool o]) ∧ Below w.heap.size w w' := by
 subst hn
 have := rswap_any l A c a b w hr hl hlc hsh ra rb qa qb
 unfold SwapP at this
 rw [h] at this
 exact this
theorem groups_small {adj : Adj} {n : Nat} {G : List (List Nat)} (h : GroupsOk adj n G) : G.length ≤ n ∧ ∀ g ∈ G, g.length ≤ n := by
 have hs := h.sum
 have key : ∀ (H : List (List Nat)), (∀ g ∈ H, g ≠ []) → H.length ≤ (H.map List.length).sum ∧ ∀ g ∈ H, g.length ≤ (H.map List.length).sum := by
  intro H
  induction H with
  | nil => simp
  | cons a r ih =>
    intro hne
    obtain ⟨h1, h2⟩ := ih (fun g hg => hne g (List.mem_cons_of_mem _ hg))
    have ha : 0 < a.length := List.length_pos_iff.2 (hne a (by simp))
    simp only [List.length_cons, List.map_cons, List.sum_cons]
    refine ⟨by omega, fun g hg => ?_⟩
    rcases List.mem_cons.1 hg with rfl | hg
    · omega
    · have := h2 g hg; omega
 obtain ⟨h1, h2⟩ := key G h.ne
 rw [hs] at h1 h2
 exact ⟨h1, h2⟩
theorem cmatch_b (l : List Item) (A : Option Addr) (c : Nat) (ps : List Patch) (B : Option Addr) (dc : Nat) (a b : Patch) (w : World) (m : Int) (hr : RdI w A l) (hl : l.length ≤ maxLen) (hlc : l.length ≤ c) (hfit : ∀ x ∈ l, x.Fits) (hs : RdP w B ps) (hm : ps.length ≤ maxLen) (hfp : ∀ q ∈ ps, q.Fits) (hbg : ps.length * 208 ≤ 140737488351232) (hpa : a.Fits) (hpb : b.Fits) (hg : w.cell? ⟨0, 0, none⟩ = some (.int .i64 m)) (hli : lightB l (ps ++ [a, b]) = true) : Calls Tryz.prog 3 #[.agg #[.slice A l.length c], .slice B ps.length dc, a.agg, b.agg] w fun e w' => e = .returned (.bool true) ∧ Below w.heap.size w w' := by
 have hlight := light_pats hli
 obtain ⟨hl30, hsh⟩ := light_facts hli
 have hn12 : ps.length + 2 ≤ 12 := by simpa using hlight.1
 have hq20 : decide ((20 : Int) < (ps.length : Int)) = false := by simp; omega
 have ra := few_ready (hlight.2 a (by simp))
 have rb := few_ready (hlight.2 b (by simp))
 have qa := few_rready (hlight.2 a (by simp))
 have qb := few_rready (hlight.2 b (by simp))
 have HRD := Lib.hid (fun q (hq : q ∈ ps) => few_ready (hlight.2 q (List.mem_append_left _ hq)))
 have HSH := Lib.hid hsh; clear hsh hlight
 obtain ⟨x, y, o, hsw⟩ : ∃ x y o, swapF l a b = (x, y, o) := ⟨_, _, _, rfl⟩
 have HSW2 := Lib.hid hsw; clear hsw
 obtain ⟨cc, hcc⟩ : ∃ cc, commF a b = cc := ⟨_, rfl⟩
 have HCC := Lib.hid hcc; clear hcc
 have HR := Lib.hid hr; clear hr
 have HS := Lib.hid hs; clear hs
 have HG := Lib.hid hg; clear hg
 have HFI := Lib.hid hfit; clear hfit
 have HFP := Lib.hid hfp; clear hfp
 have HLI := Lib.hid hli; clear hli
 have hb0 : Below w.heap.size w (((w.alloc (.cells #[.slice A l.length c] 24)).alloc (.cells (patCs a) 29)).alloc (.cells (patCs b) 29)) := (((Below.refl w.heap.size w).alloc (Nat.le_refl _) _).alloc (by simp) _).alloc (by simp; omega) _
 have HK0 : (((w.alloc (.cells #[.slice A l.length c] 24)).alloc (.cells (patCs a) 29)).alloc (.cells (patCs b) 29)).cell? ⟨w.heap.size, 0, none⟩ = some (.slice A l.length c) ∧ (((w.alloc (.cells #[.slice A l.length c] 24)).alloc (.cells (patCs a) 29)).alloc (.cells (patCs b) 29)).blk (w.heap.size + 1) = some (.cells (patCs a) 29 (0, 0)) ∧ (((w.alloc (.cells #[.slice A l.length c] 24)).alloc (.cells (patCs a) 29)).alloc (.cells (patCs b) 29)).blk (w.heap.size + 1 + 1) = some (.cells (patCs b) 29 (0, 0)) := ⟨by simp [go_sem], by simp [go_sem], by simp [go_sem]⟩
 have HB0 := Lib.hid hb0; clear hb0
 go_enter Tryz.func3, Tryz.ntmps3
 go_wp2_with fail
 refine (head20_any _ m (gcell HB0.out HG.out)).mono ?_
 rintro e w1 ⟨rfl, hb1⟩
 have HK1 := keep3 hb1 HK0
 have HB1 := Lib.hid (chain2 HB0.out hb1)
 clear hb1 HK0 HB0
 have HSW := Lib.hid (HS.out.below HB1.out)
 go_upto_region 2 with fail
 go_cut [31] (fun v31 wd => v31 = .bool false ∧ Below w1.heap.size w1 wd)
 case first =>
  refine wp_region_held_drew (S := (fun X => X.cell? ⟨w.heap.size, 0, none⟩ = some (.slice A l.length c) ∧ X.blk (w.heap.size + 1) = some (.cells (patCs a) 29 (0, 0)) ∧ X.blk (w.heap.size + 1 + 1) = some (.cells (patCs b) 29 (0, 0)))) (by kernel_rfl) HK1 (fun hHeld => ?_)
  refine takeD (i := 0) (v := .agg #[.slice A l.length c]) (k := 17) rfl rfl (by kernel_rfl) (by kernel_rfl) (by kernel_rfl) (fun _ _ _ h => h) (Or.inl ⟨by rfl, fun z hz => by (obtain ⟨z0, z1, z2⟩ := hz; go_simp)⟩) hHeld ?_
  refine takeD (i := 2) (v := .slice B ps.length dc) (k := 19) rfl rfl (by kernel_rfl) (by kernel_rfl) (by kernel_rfl) (fun _ _ _ h => h) (Or.inl ⟨by rfl, fun z hz => by (obtain ⟨z0, z1, z2⟩ := hz; go_simp)⟩) hHeld ?_
  refine takeD (i := 4) (v := a.agg) (k := 21) rfl rfl (by kernel_rfl) (by kernel_rfl) (by kernel_rfl) (fun _ _ _ h => h) (Or.inl ⟨by rfl, fun z hz => by (obtain ⟨z0, z1, z2⟩ := hz; go_simp)⟩) hHeld ?_
  refine takeD (i := 5) (v := b.agg) (k := 22) rfl rfl (by kernel_rfl) (by kernel_rfl) (by kernel_rfl) (fun _ _ _ h => h) (Or.inl ⟨by rfl, fun z hz => by (obtain ⟨z0, z1, z2⟩ := hz; go_simp)⟩) hHeld ?_
  try simp only [Act.put, sia, sc0, scs]
  generalize hG : wpAnyH Tryz.prog _ _ _ _ = G
  have e21 : ∀ (W : World) (g0 : Nat) (v : Value) (g4 : Nat), Below w1.heap.size w1 W → OwnPs W w1.heap.size v ps → W.heap[g4]? = some (.cells (twoCs a b) 29 (0, 0)) → G 8 #[true, true, true, true, true, true, true, false, false, false, false, false, false, false, false] ⟨#[.agg #[.slice A l.length c], .slice B ps.length dc, a.agg, b.agg, .pointer (some ⟨w.heap.size, 0, none⟩), undef, .pointer (some ⟨w.heap.size + 1, 0, none⟩), .pointer (some ⟨w.heap.size + 1 + 1, 0, none⟩), .bool false, .bool true, undef, undef, undef, undef, undef, undef, .bool true, .agg #[.slice A l.length c], .slice (some ⟨g0, 0, none⟩) 0 0, .slice B ps.length dc, v, a.agg, b.agg, .slice (some ⟨g4, 0, none⟩) 2 2, undef, undef, undef, undef, undef, undef, undef, undef, undef, undef, undef, undef, undef, undef, undef, undef, undef, undef, undef, undef, undef, undef, undef, undef, undef, undef, undef, undef, undef, undef, undef, undef, undef, undef, undef, undef, undef, undef, undef, undef, undef, undef, undef, undef, undef, undef, undef, undef, undef, undef, undef, undef, undef, undef, undef, undef, undef], []⟩ W := by
   intro W g0 v g4 hB hO h4
   rw [← hG]
   refine wpAnyH_ready (rs := [7]) (by kernel_rfl) (by simp) (AllReadyH.cons rfl (fun K hK => ?_) AllReadyH.nil)
   refine step_append_pats rfl (.tmp 20) (.tmp 23) rfl rfl w1.heap.size v ps [a, b] (some ⟨g4, 0, none⟩) 2 2 rfl rfl rfl hO (RdP.pair _ _ _ _ h4) (by simp; omega) hB.size (some 24) rfl ?_
   intro v' W2 hO2 hgr
   have hB2 := hB.grown hgr hB.size hO.ge
   obtain ⟨A2, c2, rfl, hc1, hc2, hrd⟩ := hO2.reads
   have hm1 : (ps ++ [a, b]).length = ps.length + 2 := by simp
   refine hK.out _ _ (keep3 hB2 HK1) (fun hHeld => ?_)
   clear hK K
   try simp only [Act.put, sia, sc0, scs]
   refine wpAnyH_ready (rs := [8]) (by kernel_rfl) (by simp) (AllReadyH.cons rfl (fun K hK => ?_) AllReadyH.nil)
   go_simp
   try simp only [hm1]
   refine (light_lit HLI.out A A2 c (ps.length + 2) c2 _ hm1.symm (HR.out.below (chain2 HB1.out hB2)) hrd hl HFI.out ⟨by rw [hm1]; unfold maxLen; omega, more_fits HFP.out hpa hpb⟩).mono ?_
   rintro e W3 ⟨rfl, hb3⟩
   have hB3 := chain2 hB2 hb3
   clear hb3 hrd
   go_wp2_with fail
   refine hK.out _ _ (keep3 hB3 HK1) (fun hHeld => ?_)
   clear hK K
   try simp only [Act.put, sia, sc0, scs]
   refine takeD (i := 9) (v := .bool false) (k := 26) rfl rfl (by kernel_rfl) (by kernel_rfl) (by kernel_rfl) (fun _ _ _ h => h) (Or.inl ⟨by rfl, fun z hz => by (obtain ⟨z0, z1, z2⟩ := hz; go_simp)⟩) hHeld ?_
   refine takeD (i := 10) (v := .bool false) (k := 27) rfl rfl (by kernel_rfl) (by kernel_rfl) (by kernel_rfl) (fun _ _ _ h => h) (Or.inl ⟨by rfl, fun z hz => by (obtain ⟨z0, z1, z2⟩ := hz; go_simp)⟩) hHeld ?_
   refine takeD (i := 11) (v := .slice B ps.length dc) (k := 28) rfl rfl (by kernel_rfl) (by kernel_rfl) (by kernel_rfl) (fun _ _ _ h => h) (Or.inl ⟨by rfl, fun z hz => by (obtain ⟨z0, z1, z2⟩ := hz; go_simp)⟩) hHeld ?_
   refine takeD (i := 12) (v := .int .i64 ps.length) (k := 29) rfl rfl (by kernel_rfl) (by kernel_rfl) (by kernel_rfl) (fun _ _ _ h => h) (Or.inl ⟨by rfl, fun z hz => by (obtain ⟨z0, z1, z2⟩ := hz; go_simp)⟩) hHeld ?_
   refine takeD (i := 13) (v := .bool false) (k := 30) rfl rfl (by kernel_rfl) (by kernel_rfl) (by kernel_rfl) (fun _ _ _ h => h) (Or.inl ⟨by rfl, fun z hz => by (obtain ⟨z0, z1, z2⟩ := hz; go_simp)⟩) hHeld ?_
   refine takeD (i := 14) (v := .bool false) (k := 31) rfl rfl (by kernel_rfl) (by kernel_rfl) (by kernel_rfl) (fun _ _ _ h => h) (Or.inl ⟨by rfl, fun z hz => by (obtain ⟨z0, z1, z2⟩ := hz; go_simp)⟩) hHeld ?_
   try simp only [Act.put, sia, sc0, scs]
   refine wpAnyH_done (by kernel_rfl) ?_ _
   go_wp2_with fail
   go_meet
   case rel => exact ⟨rfl, hB3⟩
  have e20 : ∀ (W : World) (g0 : Nat) (v : Value), Below w1.heap.size w1 W → OwnPs W w1.heap.size v ps → G 9 #[true, true, true, true, true, true, false, false, false, false, false, false, false, false, false] ⟨#[.agg #[.slice A l.length c], .slice B ps.length dc, a.agg, b.agg, .pointer (some ⟨w.heap.size, 0, none⟩), undef, .pointer (some ⟨w.heap.size + 1, 0, none⟩), .pointer (some ⟨w.heap.size + 1 + 1, 0, none⟩), .bool false, .bool true, undef, undef, undef, undef, undef, undef, .bool true, .agg #[.slice A l.length c], .slice (some ⟨g0, 0, none⟩) 0 0, .slice B ps.length dc, v, a.agg, b.agg, undef, undef, undef, undef, undef, undef, undef, undef, undef, undef, undef, undef, undef, undef, undef, undef, undef, undef, undef, undef, undef, undef, undef, undef, undef, undef, undef, undef, undef, undef, undef, undef, undef, undef, undef, undef, undef, undef, undef, undef, undef, undef, undef, undef, undef, undef, undef, undef, undef, undef, undef, undef, undef, undef, undef, undef, undef, undef], []⟩ W := by
   intro W g0 v hB hO
   rw [← hG]
   refine wpAnyH_ready (rs := [6]) (by kernel_rfl) (by simp) (AllReadyH.cons rfl (fun K hK => ?_) (AllReadyH.nil))
   · go_simp
     have hB2 := bl1 hB (.cells (twoCs a b) 29)
     have hb2 : Below W.heap.size W (W.alloc (.cells (twoCs a b) 29)) := bl1 (Below.refl _ _) _
     refine hK.out _ _ (keep3 hB2 HK1) (fun hHeld => ?_)
     clear hK K
     try simp only [Act.put, sia, sc0, scs]
     have := e21 _ g0 v W.heap.size hB2 (hO.below hb2) (heap_alloc_new _ _)
     rw [← hG] at this
     exact this
  have e11 : ∀ (W : World) (g0 : Nat) (g4 : Nat), Below w1.heap.size w1 W → W.heap[g0]? = some (.cells #[] 29 (0, 0)) → w1.heap.size ≤ g0 → W.heap[g4]? = some (.cells (twoCs a b) 29 (0, 0)) → g4 ≠ g0 → G 9 #[true, true, true, false, true, true, true, false, false, false, false, false, false, false, false] ⟨#[.agg #[.slice A l.length c], .slice B ps.length dc, a.agg, b.agg, .pointer (some ⟨w.heap.size, 0, none⟩), undef, .pointer (some ⟨w.heap.size + 1, 0, none⟩), .pointer (some ⟨w.heap.size + 1 + 1, 0, none⟩), .bool false, .bool true, undef, undef, undef, undef, undef, undef, .bool true, .agg #[.slice A l.length c], .slice (some ⟨g0, 0, none⟩) 0 0, .slice B ps.length dc, undef, a.agg, b.agg, .slice (some ⟨g4, 0, none⟩) 2 2, undef, undef, undef, undef, undef, undef, undef, undef, undef, undef, undef, undef, undef, undef, undef, undef, undef, undef, undef, undef, undef, undef, undef, undef, undef, undef, undef, undef, undef, undef, undef, undef, undef, undef, undef, undef, undef, undef, undef, undef, undef, undef, undef, undef, undef, undef, undef, undef, undef, undef, undef, undef, undef, undef, undef, undef, undef], []⟩ W := by
   intro W g0 g4 hB h0 l0 h4 hn
   rw [← hG]
   refine wpAnyH_ready (rs := [3]) (by kernel_rfl) (by simp) (AllReadyH.cons rfl (fun K hK => ?_) (AllReadyH.nil))
   · refine step_append_pats rfl (.tmp 18) (.tmp 19) rfl rfl w1.heap.size (.slice (some ⟨g0, 0, none⟩) 0 0) [] ps B ps.length dc rfl rfl rfl (OwnPs.empty h0 l0) (HSW.out.below hB) (by simp; omega) hB.size (some 20) rfl ?_
     intro v' W2 hO2 hgr
     have hB2 := hB.grown hgr hB.size (OwnPs.empty h0 l0).ge
     refine hK.out _ _ (keep3 hB2 HK1) (fun hHeld => ?_)
     clear hK K
     try simp only [Act.put, sia, sc0, scs]
     have := e21 W2 g0 v' g4 hB2 hO2 ((hgr.block g4 (lt_of_heap h4) (fun e => hn (Option.some.inj e))).trans h4)
     rw [← hG] at this
     exact this
  have e10 : ∀ (W : World) (g0 : Nat), Below w1.heap.size w1 W → W.heap[g0]? = some (.cells #[] 29 (0, 0)) → w1.heap.size ≤ g0 → G 10 #[true, true, true, false, true, true, false, false, false, false, false, false, false, false, false] ⟨#[.agg #[.slice A l.length c], .slice B ps.length dc, a.agg, b.agg, .pointer (some ⟨w.heap.size, 0, none⟩), undef, .pointer (some ⟨w.heap.size + 1, 0, none⟩), .pointer (some ⟨w.heap.size + 1 + 1, 0, none⟩), .bool false, .bool true, undef, undef, undef, undef, undef, undef, .bool true, .agg #[.slice A l.length c], .slice (some ⟨g0, 0, none⟩) 0 0, .slice B ps.length dc, undef, a.agg, b.agg, undef, undef, undef, undef, undef, undef, undef, undef, undef, undef, undef, undef, undef, undef, undef, undef, undef, undef, undef, undef, undef, undef, undef, undef, undef, undef, undef, undef, undef, undef, undef, undef, undef, undef, undef, undef, undef, undef, undef, undef, undef, undef, undef, undef, undef, undef, undef, undef, undef, undef, undef, undef, undef, undef, undef, undef, undef, undef], []⟩ W := by
   intro W g0 hB h0 l0
   rw [← hG]
   refine wpAnyH_ready (rs := [3, 6]) (by kernel_rfl) (by simp) (AllReadyH.cons rfl (fun K hK => ?_) (AllReadyH.cons rfl (fun K hK => ?_) (AllReadyH.nil)))
   · refine step_append_pats rfl (.tmp 18) (.tmp 19) rfl rfl w1.heap.size (.slice (some ⟨g0, 0, none⟩) 0 0) [] ps B ps.length dc rfl rfl rfl (OwnPs.empty h0 l0) (HSW.out.below hB) (by simp; omega) hB.size (some 20) rfl ?_
     intro v' W2 hO2 hgr
     have hB2 := hB.grown hgr hB.size (OwnPs.empty h0 l0).ge
     refine hK.out _ _ (keep3 hB2 HK1) (fun hHeld => ?_)
     clear hK K
     try simp only [Act.put, sia, sc0, scs]
     have := e20 W2 g0 v' hB2 hO2
     rw [← hG] at this
     exact this
   · go_simp
     have hB2 := bl1 hB (.cells (twoCs a b) 29)
     have hb2 : Below W.heap.size W (W.alloc (.cells (twoCs a b) 29)) := bl1 (Below.refl _ _) _
     refine hK.out _ _ (keep3 hB2 HK1) (fun hHeld => ?_)
     clear hK K
     try simp only [Act.put, sia, sc0, scs]
     have := e11 _ g0 W.heap.size hB2 (rkeepk hb2 h0) l0 (heap_alloc_new _ _) (Nat.ne_of_lt (lt_of_heap h0)).symm
     rw [← hG] at this
     exact this
  have e01 : ∀ (W : World) (g4 : Nat), Below w1.heap.size w1 W → W.heap[g4]? = some (.cells (twoCs a b) 29 (0, 0)) → G 10 #[true, false, true, false, true, true, true, false, false, false, false, false, false, false, false] ⟨#[.agg #[.slice A l.length c], .slice B ps.length dc, a.agg, b.agg, .pointer (some ⟨w.heap.size, 0, none⟩), undef, .pointer (some ⟨w.heap.size + 1, 0, none⟩), .pointer (some ⟨w.heap.size + 1 + 1, 0, none⟩), .bool false, .bool true, undef, undef, undef, undef, undef, undef, .bool true, .agg #[.slice A l.length c], undef, .slice B ps.length dc, undef, a.agg, b.agg, .slice (some ⟨g4, 0, none⟩) 2 2, undef, undef, undef, undef, undef, undef, undef, undef, undef, undef, undef, undef, undef, undef, undef, undef, undef, undef, undef, undef, undef, undef, undef, undef, undef, undef, undef, undef, undef, undef, undef, undef, undef, undef, undef, undef, undef, undef, undef, undef, undef, undef, undef, undef, undef, undef, undef, undef, undef, undef, undef, undef, undef, undef, undef, undef, undef], []⟩ W := by
   intro W g4 hB h4
   rw [← hG]
   refine wpAnyH_ready (rs := [1]) (by kernel_rfl) (by simp) (AllReadyH.cons rfl (fun K hK => ?_) (AllReadyH.nil))
   · go_simp
     have hB2 := bl1 hB (.cells #[] 29)
     have hb2 : Below W.heap.size W (W.alloc (.cells #[] 29)) := bl1 (Below.refl _ _) _
     refine hK.out _ _ (keep3 hB2 HK1) (fun hHeld => ?_)
     clear hK K
     try simp only [Act.put, sia, sc0, scs]
     have := e11 _ W.heap.size g4 hB2 (heap_alloc_new _ _) hB.size (rkeepk hb2 h4) (Nat.ne_of_lt (lt_of_heap h4))
     rw [← hG] at this
     exact this
  have e00 : ∀ (W : World), Below w1.heap.size w1 W → G 11 #[true, false, true, false, true, true, false, false, false, false, false, false, false, false, false] ⟨#[.agg #[.slice A l.length c], .slice B ps.length dc, a.agg, b.agg, .pointer (some ⟨w.heap.size, 0, none⟩), undef, .pointer (some ⟨w.heap.size + 1, 0, none⟩), .pointer (some ⟨w.heap.size + 1 + 1, 0, none⟩), .bool false, .bool true, undef, undef, undef, undef, undef, undef, .bool true, .agg #[.slice A l.length c], undef, .slice B ps.length dc, undef, a.agg, b.agg, undef, undef, undef, undef, undef, undef, undef, undef, undef, undef, undef, undef, undef, undef, undef, undef, undef, undef, undef, undef, undef, undef, undef, undef, undef, undef, undef, undef, undef, undef, undef, undef, undef, undef, undef, undef, undef, undef, undef, undef, undef, undef, undef, undef, undef, undef, undef, undef, undef, undef, undef, undef, undef, undef, undef, undef, undef, undef], []⟩ W := by
   intro W hB
   rw [← hG]
   refine wpAnyH_ready (rs := [1, 6]) (by kernel_rfl) (by simp) (AllReadyH.cons rfl (fun K hK => ?_) (AllReadyH.cons rfl (fun K hK => ?_) (AllReadyH.nil)))
   · go_simp
     have hB2 := bl1 hB (.cells #[] 29)
     have hb2 : Below W.heap.size W (W.alloc (.cells #[] 29)) := bl1 (Below.refl _ _) _
     refine hK.out _ _ (keep3 hB2 HK1) (fun hHeld => ?_)
     clear hK K
     try simp only [Act.put, sia, sc0, scs]
     have := e10 _ W.heap.size hB2 (heap_alloc_new _ _) hB.size
     rw [← hG] at this
     exact this
   · go_simp
     have hB2 := bl1 hB (.cells (twoCs a b) 29)
     have hb2 : Below W.heap.size W (W.alloc (.cells (twoCs a b) 29)) := bl1 (Below.refl _ _) _
     refine hK.out _ _ (keep3 hB2 HK1) (fun hHeld => ?_)
     clear hK K
     try simp only [Act.put, sia, sc0, scs]
     have := e01 _ W.heap.size hB2 (heap_alloc_new _ _)
     rw [← hG] at this
     exact this
  have := e00 _ (Below.refl _ _).drew
  exact this
 case rest =>
 obtain ⟨rfl, hbc⟩ := hcut
 obtain ⟨w2, hw2⟩ : ∃ x, x = wc := ⟨_, rfl⟩
 subst hw2
 have HB2 := Lib.hid (chain2 HB1.out hbc)
 have HK2 := keep3 hbc HK1
 clear hbc HK1
 obtain ⟨C2, PA2, PB2⟩ := HK2
 have zc2 := World.block_lt_of_cell? _ _ C2
 have za2 := lt_of_heap PA2
 have zb2 := lt_of_heap PB2
 go_wp2_with fail
 refine (swap_lit HSW2.out A _ c _ rfl (HR.out.below HB2.out) (by omega) hlc HSH.out ra rb m (gcell HB2.out HG.out)).mono ?_
 rintro e w3 ⟨rfl, hb3⟩
 have HK3 := keep3 hb3 ⟨C2, PA2, PB2⟩
 have HB3 := Lib.hid (chain2 HB2.out hb3)
 clear hb3
 obtain ⟨C3, PA3, PB3⟩ := HK3
 have zc3 := World.block_lt_of_cell? _ _ C3
 have za3 := lt_of_heap PA3
 have zb3 := lt_of_heap PB3
 clear C2 PA2 PB2 zc2 za2 zb2
 go_upto_region 5 with fail
 generalize hW : World.setRow (World.setRow (World.alloc (World.alloc w3 _) _) _ _) _ _ = w4
 have h9 : Below w3.heap.size w3 w4 ∧ w4.blk w3.heap.size = some (.cells (patCs x) 29 (0, 0)) ∧ w4.blk (w3.heap.size + 1) = some (.cells (patCs y) 29 (0, 0)) := by rw [← hW]; exact two_boxes w3 x y
 clear hW
 obtain ⟨hb4, X, Y⟩ := h9
 have HK4 := keep3 hb4 ⟨C3, PA3, PB3⟩
 have HB4 := Lib.hid (chain2 HB3.out hb4)
 clear hb4
 obtain ⟨C4, PA4, PB4⟩ := HK4
 have zc4 := World.block_lt_of_cell? _ _ C4
 have za4 := lt_of_heap PA4
 have zb4 := lt_of_heap PB4
 clear C3 PA3 PB3 zc3 za3 zb3
 have zx := lt_of_heap X
 have zy := lt_of_heap Y
 go_wp2_with fail
 refine (rswap_lit HSW2.out A _ c _ rfl (HR.out.below HB4.out) (by omega) hlc HSH.out ra rb qa qb).mono ?_
 rintro e w5 ⟨rfl, hb5⟩
 have HK5 := keep3 hb5 ⟨C4, PA4, PB4⟩
 have HB5 := Lib.hid (chain2 HB4.out hb5)
 replace X := rkeepk hb5 X
 replace Y := rkeepk hb5 Y
 clear hb5
 obtain ⟨C5, PA5, PB5⟩ := HK5
 have zc5 := World.block_lt_of_cell? _ _ C5
 have za5 := lt_of_heap PA5
 have zb5 := lt_of_heap PB5
 clear C4 PA4 PB4 zc4 za4 zb4
 go_upto_region 6 with fail
 generalize hW : World.setRow (World.setRow (World.alloc (World.alloc w5 _) _) _ _) _ _ = w6
 have h9 : Below w5.heap.size w5 w6 ∧ w6.blk w5.heap.size = some (.cells (patCs x) 29 (0, 0)) ∧ w6.blk (w5.heap.size + 1) = some (.cells (patCs y) 29 (0, 0)) := by rw [← hW]; exact two_boxes w5 x y
 clear hW
 obtain ⟨hb6, U, V⟩ := h9
 have HK6 := keep3 hb6 ⟨C5, PA5, PB5⟩
 have HB6 := Lib.hid (chain2 HB5.out hb6)
 replace X := rkeepk hb6 X
 replace Y := rkeepk hb6 Y
 clear hb6
 obtain ⟨C6, PA6, PB6⟩ := HK6
 have zc6 := World.block_lt_of_cell? _ _ C6
 have za6 := lt_of_heap PA6
 have zb6 := lt_of_heap PB6
 clear C5 PA5 PB5 zc5 za5 zb5
 clear zx zy
 have hgs := groups_small (groups_ok (adjF ps) ps.length (fun i k h => (adjF_lt h).2) (adjF_symm ps))
 have hgl : (groupsF (adjF ps) ps.length).length ≤ 1000 := Nat.le_trans hgs.1 (by omega)
 have hgg : ∀ g ∈ groupsF (adjF ps) ps.length, g.length ≤ 1000 := fun g hg => Nat.le_trans (hgs.2 g hg) (by omega)
 have HS6 : w6.blk (w.heap.size + 1) = some (.cells (patCs a) 29 (0, 0)) ∧ w6.blk (w.heap.size + 1 + 1) = some (.cells (patCs b) 29 (0, 0)) ∧ w6.blk (w3.heap.size) = some (.cells (patCs x) 29 (0, 0)) ∧ w6.blk (w3.heap.size + 1) = some (.cells (patCs y) 29 (0, 0)) ∧ w6.blk (w5.heap.size) = some (.cells (patCs x) 29 (0, 0)) ∧ w6.blk (w5.heap.size + 1) = some (.cells (patCs y) 29 (0, 0)) := ⟨PA6, PB6, X, Y, U, V⟩
 refine wp_region_held_drew (S := fun X => X.blk (w.heap.size + 1) = some (.cells (patCs a) 29 (0, 0)) ∧ X.blk (w.heap.size + 1 + 1) = some (.cells (patCs b) 29 (0, 0)) ∧ X.blk (w3.heap.size) = some (.cells (patCs x) 29 (0, 0)) ∧ X.blk (w3.heap.size + 1) = some (.cells (patCs y) 29 (0, 0)) ∧ X.blk (w5.heap.size) = some (.cells (patCs x) 29 (0, 0)) ∧ X.blk (w5.heap.size + 1) = some (.cells (patCs y) 29 (0, 0))) (by kernel_rfl) HS6 (fun hHeld => ?_)
 have hB6 : Below w6.heap.size w6 w6.drew := (Below.refl _ _).drew
 refine takeD (i := 0) (v := .bool true) (k := 49) rfl rfl (by kernel_rfl) (by kernel_rfl) (by kernel_rfl) (fun _ _ _ h => h) (Or.inl ⟨by rfl, fun z hz => by (obtain ⟨z0, z1, z2, z3, z4, z5⟩ := hz; go_simp)⟩) hHeld ?_
 try simp only [Act.put, sia, sc0, scs]
 refine takeD (i := 1) (v := .bool true) (k := 50) rfl rfl (by kernel_rfl) (by kernel_rfl) (by kernel_rfl) (fun _ _ _ h => h) (Or.inl ⟨by rfl, fun z hz => by (obtain ⟨z0, z1, z2, z3, z4, z5⟩ := hz; go_simp)⟩) hHeld ?_
 try simp only [Act.put, sia, sc0, scs]
 refine takeD (i := 2) (v := a.agg) (k := 51) rfl rfl (by kernel_rfl) (by kernel_rfl) (by kernel_rfl) (fun _ _ _ h => h) (Or.inl ⟨by rfl, fun z hz => by (obtain ⟨z0, z1, z2, z3, z4, z5⟩ := hz; go_simp)⟩) hHeld ?_
 try simp only [Act.put, sia, sc0, scs]
 refine takeD (i := 3) (v := b.agg) (k := 52) rfl rfl (by kernel_rfl) (by kernel_rfl) (by kernel_rfl) (fun _ _ _ h => h) (Or.inl ⟨by rfl, fun z hz => by (obtain ⟨z0, z1, z2, z3, z4, z5⟩ := hz; go_simp)⟩) hHeld ?_
 try simp only [Act.put, sia, sc0, scs]
 refine takeD (i := 5) (v := a.agg) (k := 54) rfl rfl (by kernel_rfl) (by kernel_rfl) (by kernel_rfl) (fun _ _ _ h => h) (Or.inl ⟨by rfl, fun z hz => by (obtain ⟨z0, z1, z2, z3, z4, z5⟩ := hz; go_simp)⟩) hHeld ?_
 try simp only [Act.put, sia, sc0, scs]
 refine takeD (i := 6) (v := b.agg) (k := 55) rfl rfl (by kernel_rfl) (by kernel_rfl) (by kernel_rfl) (fun _ _ _ h => h) (Or.inl ⟨by rfl, fun z hz => by (obtain ⟨z0, z1, z2, z3, z4, z5⟩ := hz; go_simp)⟩) hHeld ?_
 try simp only [Act.put, sia, sc0, scs]
 refine wpAnyH_ready (rs := [4]) (by kernel_rfl) (by simp) (AllReadyH.cons rfl (fun K hK => ?_) AllReadyH.nil)
 go_simp
 refine (comm_lit HCC.out ra rb _ m (gcell (HB6.out.trans (Below.mono hB6 HB6.out.size)) HG.out)).mono ?_
 rintro e W7 ⟨rfl, hb⟩
 have hB7 := chain2 hB6 hb
 clear hb
 go_wp2_with fail
 refine hK.out _ _ (keep6 hB7 HS6) (fun hHeld => ?_)
 clear hK K
 try simp only [Act.put, sia, sc0, scs]
 refine wpAnyH_ready (rs := [7]) (by kernel_rfl) (by simp) (AllReadyH.cons rfl (fun K hK => ?_) AllReadyH.nil)
 go_simp
 refine (rcomm_lit HCC.out ra rb _).mono ?_
 rintro e W8 ⟨rfl, hb⟩
 have hB8 := chain2 hB7 hb
 clear hb
 go_wp2_with fail
 refine hK.out _ _ (keep6 hB8 HS6) (fun hHeld => ?_)
 clear hK K
 try simp only [Act.put, sia, sc0, scs]
 refine takeD (i := 8) (v := .bool true) (k := 57) rfl rfl (by kernel_rfl) (by kernel_rfl) (by kernel_rfl) (fun _ _ _ h => h) (Or.inl ⟨by rfl, fun z hz => by (obtain ⟨z0, z1, z2, z3, z4, z5⟩ := hz; go_simp)⟩) hHeld ?_
 try simp only [Act.put, sia, sc0, scs]
 refine takeD (i := 9) (v := .bool true) (k := 58) rfl rfl (by kernel_rfl) (by kernel_rfl) (by kernel_rfl) (fun _ _ _ h => h) (Or.inl ⟨by rfl, fun z hz => by (obtain ⟨z0, z1, z2, z3, z4, z5⟩ := hz; go_simp)⟩) hHeld ?_
 try simp only [Act.put, sia, sc0, scs]
 refine takeD (i := 10) (v := .bool true) (k := 59) rfl rfl (by kernel_rfl) (by kernel_rfl) (by kernel_rfl) (fun _ _ _ h => h) (Or.inl ⟨by rfl, fun z hz => by (obtain ⟨z0, z1, z2, z3, z4, z5⟩ := hz; go_simp)⟩) hHeld ?_
 try simp only [Act.put, sia, sc0, scs]
 refine takeD (i := 11) (v := x.agg) (k := 60) rfl rfl (by kernel_rfl) (by kernel_rfl) (by kernel_rfl) (fun _ _ _ h => h) (Or.inl ⟨by rfl, fun z hz => by (obtain ⟨z0, z1, z2, z3, z4, z5⟩ := hz; go_simp)⟩) hHeld ?_
 try simp only [Act.put, sia, sc0, scs]
 refine takeD (i := 12) (v := x.agg) (k := 61) rfl rfl (by kernel_rfl) (by kernel_rfl) (by kernel_rfl) (fun _ _ _ h => h) (Or.inl ⟨by rfl, fun z hz => by (obtain ⟨z0, z1, z2, z3, z4, z5⟩ := hz; go_simp)⟩) hHeld ?_
 try simp only [Act.put, sia, sc0, scs]
 refine takeD (i := 13) (v := .bool true) (k := 62) rfl rfl (by kernel_rfl) (by kernel_rfl) (by kernel_rfl) (fun _ _ _ h => h) (Or.inl ⟨by rfl, fun z hz => by (obtain ⟨z0, z1, z2, z3, z4, z5⟩ := hz; go_simp)⟩) hHeld ?_
 try simp only [Act.put, sia, sc0, scs]
 refine takeD (i := 14) (v := .bool true) (k := 63) rfl rfl (by kernel_rfl) (by kernel_rfl) (by kernel_rfl) (fun _ _ _ h => h) (Or.inl ⟨by rfl, fun z hz => by (obtain ⟨z0, z1, z2, z3, z4, z5⟩ := hz; go_simp)⟩) hHeld ?_
 try simp only [Act.put, sia, sc0, scs]
 refine takeD (i := 15) (v := .bool true) (k := 64) rfl rfl (by kernel_rfl) (by kernel_rfl) (by kernel_rfl) (fun _ _ _ h => h) (Or.inl ⟨by rfl, fun z hz => by (obtain ⟨z0, z1, z2, z3, z4, z5⟩ := hz; go_simp)⟩) hHeld ?_
 try simp only [Act.put, sia, sc0, scs]
 refine takeD (i := 16) (v := y.agg) (k := 65) rfl rfl (by kernel_rfl) (by kernel_rfl) (by kernel_rfl) (fun _ _ _ h => h) (Or.inl ⟨by rfl, fun z hz => by (obtain ⟨z0, z1, z2, z3, z4, z5⟩ := hz; go_simp)⟩) hHeld ?_
 try simp only [Act.put, sia, sc0, scs]
 refine takeD (i := 17) (v := y.agg) (k := 66) rfl rfl (by kernel_rfl) (by kernel_rfl) (by kernel_rfl) (fun _ _ _ h => h) (Or.inl ⟨by rfl, fun z hz => by (obtain ⟨z0, z1, z2, z3, z4, z5⟩ := hz; go_simp)⟩) hHeld ?_
 try simp only [Act.put, sia, sc0, scs]
 refine takeD (i := 18) (v := .bool true) (k := 67) rfl rfl (by kernel_rfl) (by kernel_rfl) (by kernel_rfl) (fun _ _ _ h => h) (Or.inl ⟨by rfl, fun z hz => by (obtain ⟨z0, z1, z2, z3, z4, z5⟩ := hz; go_simp)⟩) hHeld ?_
 try simp only [Act.put, sia, sc0, scs]
 refine takeD (i := 19) (v := .bool true) (k := 68) rfl rfl (by kernel_rfl) (by kernel_rfl) (by kernel_rfl) (fun _ _ _ h => h) (Or.inl ⟨by rfl, fun z hz => by (obtain ⟨z0, z1, z2, z3, z4, z5⟩ := hz; go_simp)⟩) hHeld ?_
 try simp only [Act.put, sia, sc0, scs]
 refine takeD (i := 20) (v := .bool true) (k := 69) rfl rfl (by kernel_rfl) (by kernel_rfl) (by kernel_rfl) (fun _ _ _ h => h) (Or.inl ⟨by rfl, fun z hz => by (obtain ⟨z0, z1, z2, z3, z4, z5⟩ := hz; go_simp)⟩) hHeld ?_
 try simp only [Act.put, sia, sc0, scs]
 refine takeD (i := 21) (v := .bool o) (k := 70) rfl rfl (by kernel_rfl) (by kernel_rfl) (by kernel_rfl) (fun _ _ _ h => h) (Or.inl ⟨by rfl, fun z hz => by (obtain ⟨z0, z1, z2, z3, z4, z5⟩ := hz; go_simp)⟩) hHeld ?_
 try simp only [Act.put, sia, sc0, scs]
 refine takeD (i := 22) (v := .bool o) (k := 71) rfl rfl (by kernel_rfl) (by kernel_rfl) (by kernel_rfl) (fun _ _ _ h => h) (Or.inl ⟨by rfl, fun z hz => by (obtain ⟨z0, z1, z2, z3, z4, z5⟩ := hz; go_simp)⟩) hHeld ?_
 try simp only [Act.put, sia, sc0, scs]
 refine takeD (i := 23) (v := .bool true) (k := 72) rfl rfl (by kernel_rfl) (by kernel_rfl) (by kernel_rfl) (fun _ _ _ h => h) (Or.inl ⟨by rfl, fun z hz => by (obtain ⟨z0, z1, z2, z3, z4, z5⟩ := hz; go_simp)⟩) hHeld ?_
 try simp only [Act.put, sia, sc0, scs]
 refine takeD (i := 24) (v := .bool true) (k := 73) rfl rfl (by kernel_rfl) (by kernel_rfl) (by kernel_rfl) (fun _ _ _ h => h) (Or.inl ⟨by rfl, fun z hz => by (obtain ⟨z0, z1, z2, z3, z4, z5⟩ := hz; go_simp)⟩) hHeld ?_
 try simp only [Act.put, sia, sc0, scs]
 refine takeD (i := 25) (v := .bool true) (k := 74) rfl rfl (by kernel_rfl) (by kernel_rfl) (by kernel_rfl) (fun _ _ _ h => h) (Or.inl ⟨by rfl, fun z hz => by (obtain ⟨z0, z1, z2, z3, z4, z5⟩ := hz; go_simp)⟩) hHeld ?_
 try simp only [Act.put, sia, sc0, scs]
 refine takeD (i := 26) (v := .slice B ps.length dc) (k := 75) rfl rfl (by kernel_rfl) (by kernel_rfl) (by kernel_rfl) (fun _ _ _ h => h) (Or.inl ⟨by rfl, fun z hz => by (obtain ⟨z0, z1, z2, z3, z4, z5⟩ := hz; go_simp)⟩) hHeld ?_
 try simp only [Act.put, sia, sc0, scs]
 refine takeD (i := 28) (v := .slice B ps.length dc) (k := 77) rfl rfl (by kernel_rfl) (by kernel_rfl) (by kernel_rfl) (fun _ _ _ h => h) (Or.inl ⟨by rfl, fun z hz => by (obtain ⟨z0, z1, z2, z3, z4, z5⟩ := hz; go_simp)⟩) hHeld ?_
 try simp only [Act.put, sia, sc0, scs]
 refine wpAnyH_ready (rs := [27]) (by kernel_rfl) (by simp) (AllReadyH.cons rfl (fun K hK => ?_) AllReadyH.nil)
 go_simp
 refine (groups_read ps HRD.out (by omega) B dc _ rfl m _ (HS.out.below (HB6.out.trans (Below.mono hB8 HB6.out.size))) (gcell (HB6.out.trans (Below.mono hB8 HB6.out.size)) HG.out)).mono ?_
 rintro e W9 ⟨A1, c1, rfl, hcx, hrg, -, hb⟩
 have hB9 := chain2 hB8 hb
 have HRG := Lib.hid hrg
 clear hrg hcx
 clear hb
 go_wp2_with fail
 refine hK.out _ _ (keep6 hB9 HS6) (fun hHeld => ?_)
 clear hK K
 try simp only [Act.put, sia, sc0, scs]
 refine wpAnyH_ready (rs := [29]) (by kernel_rfl) (by simp) (AllReadyH.cons rfl (fun K hK => ?_) AllReadyH.nil)
 go_simp
 refine (rgroups_any ps HRD.out (by omega) B dc _ (HS.out.below (HB6.out.trans (Below.mono hB9 HB6.out.size)))).mono ?_
 rintro e W10 ⟨A2, c2, rfl, hrg, hb⟩
 have hB10 := chain2 hB9 hb
 have HRG2 := Lib.hid hrg
 have HRG1 := Lib.hid (HRG.out.below hb)
 clear hrg
 clear hb
 go_wp2_with fail
 refine hK.out _ _ (keep6 hB10 HS6) (fun hHeld => ?_)
 clear hK K
 try simp only [Act.put, sia, sc0, scs]
 refine wpAnyH_ready (rs := [30]) (by kernel_rfl) (by simp) (AllReadyH.cons rfl (fun K hK => ?_) AllReadyH.nil)
 go_simp
 refine (lists_refl (groupsF (adjF ps) ps.length) A1 A2 c1 c2 _ HRG1.out HRG2.out hgl hgg).mono ?_
 rintro e W11 ⟨rfl, hb⟩
 have hB11 := chain2 hB10 hb
 clear hb
 go_wp2_with fail
 refine hK.out _ _ (keep6 hB11 HS6) (fun hHeld => ?_)
 clear hK K
 try simp only [Act.put, sia, sc0, scs]
 refine takeD (i := 31) (v := .bool true) (k := 80) rfl rfl (by kernel_rfl) (by kernel_rfl) (by kernel_rfl) (fun _ _ _ h => h) (Or.inl ⟨by rfl, fun z hz => by (obtain ⟨z0, z1, z2, z3, z4, z5⟩ := hz; go_simp)⟩) hHeld ?_
 try simp only [Act.put, sia, sc0, scs]
 refine takeD (i := 32) (v := .bool true) (k := 8) rfl rfl (by kernel_rfl) (by kernel_rfl) (by kernel_rfl) (fun _ _ _ h => h) (Or.inl ⟨by rfl, fun z hz => by (obtain ⟨z0, z1, z2, z3, z4, z5⟩ := hz; go_simp)⟩) hHeld ?_
 try simp only [Act.put, sia, sc0, scs]
 refine wpAnyH_done (by kernel_rfl) ?_ _
 go_wp2_with fail
 go_ret
 exact ⟨rfl, HB6.out.trans (hB11.mono HB6.out.size)⟩
theorem cmatch_any (l : List Item) (A : Option Addr) (c : Nat) (ps : List Patch) (B : Option Addr) (dc : Nat) (a b : Patch) (w : World) (m : Int) (hr : RdI w A l) (hl : l.length ≤ maxLen) (hlc : l.length ≤ c) (hfit : ∀ x ∈ l, x.Fits) (hs : RdP w B ps) (hm : ps.length ≤ maxLen) (hfp : ∀ q ∈ ps, q.Fits) (hbg : ps.length * 208 ≤ 140737488351232) (hpa : a.Fits) (hpb : b.Fits) (hg : w.cell? ⟨0, 0, none⟩ = some (.int .i64 m)) : Calls Tryz.prog 3 #[.agg #[.slice A l.length c], .slice B ps.length dc, a.agg, b.agg] w fun e w' => e = .returned (.bool true) ∧ Below w.heap.size w w' := by
 cases hli : lightB l (ps ++ [a, b]) with
 | false => exact cmatch_a l A c ps B dc a b w m hr hl hlc hfit hs hm hfp hbg hpa hpb hg hli
 | true => exact cmatch_b l A c ps B dc a b w m hr hl hlc hfit hs hm hfp hbg hpa hpb hg hli
end Go.Proofs.YtfolcjkednmkoaaGreat
