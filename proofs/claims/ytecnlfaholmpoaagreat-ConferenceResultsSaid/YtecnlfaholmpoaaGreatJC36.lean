/- The laws' head: the chapter's examples. -/
import Derived.Test.YtecnlfaholmpoaaGreatJC35
set_option linter.unusedVariables false
set_option linter.unusedSimpArgs false
set_option maxRecDepth 20000
set_option maxHeartbeats 40000000
namespace Go.Proofs.YtecnlfaholmpoaaGreat
open Go.RowKit
theorem results_c1' {fn : Func} {p : Tmp} {ty : TypeId} (h : fn.results = #[.cell p ty]) (tmps : Array Value) (P : Program) (w : World) :
 (results fn tmps).run P w = ((asAddr (tmps.getD p undef)).run P w).andThen fun a w₁ => (loadVar ty a).run P w₁ := by
 simp only [results, h]
 simp [Sem.run_bind, Result.andThen]
theorem results_cla1 {fn : Func} {p : Tmp} (h : fn.results = #[.cell p 51]) {X : World} {tmps : Array Value} {q : Clause} {b : Nat} (h1 : tmps.getD p undef = .pointer (some ⟨b, 0, none⟩)) (k1 : X.blk b = some (.cells (claCs q) 51 (0, 0))) :
 (results fn tmps).run Tryz.prog X = .ok q.agg X := by
 rw [results_c1' h, h1]
 simp only [asAddr, Sem.run_pure, Result.andThen_ok, load_cla k1]
theorem repeal_any (a b : Int) (s : Str) (w : World) : Calls Tryz.prog 37 #[.int .i64 a, .int .i64 b, vs s] w fun e w' => e = .returned (cRep a b s).agg ∧ Below w.heap.size w w' := by
 go_enter Tryz.func37, Tryz.ntmps37
 go_wp2_with fail
 refine bodyPost_ret (v := (cRep a b s).agg) (results_cla1 Tryz.results37 rfl (blk_alloc_at rfl)) rfl ⟨rfl, (Below.refl w.heap.size w).alloc (Nat.le_refl _) _⟩
theorem example38_any (w : World) :
 Calls Tryz.prog 36 #[] w fun e w' => ∃ A, e = .returned (.agg #[.slice A 2 2]) ∧ RdI w' A exH ∧ Below w.heap.size w w' := by
 go_enter Tryz.func36, Tryz.ntmps36
 go_wp2_with fail
 refine bodyPost_ret (v := .agg #[.slice (some ⟨w.heap.size + 1, 0, none⟩) 2 2]) (by simp [results, Tryz.results36, go_sem]) rfl ⟨_, rfl, ?_, ?_⟩
 · exact RdI.of_row (cur := flat exH) (rest := []) (t := 47) (heap_new_at (by simp)) (by simp)
 · exact ((Below.refl _ _).alloc (Nat.le_refl _) _).alloc (by simp) _
theorem pRep_ready (s : Str) : (pRep s).Ready := by
 refine ⟨⟨?_, ?_, ?_, ?_, ?_⟩, ?_, ?_⟩ <;> simp [pRep]
theorem pRpl_ready : cRplM.patch.Ready := by
 refine ⟨⟨?_, ?_, ?_, ?_, ?_⟩, ?_, ?_⟩ <;> simp [cRplM] <;> decide
theorem join_lit {a b r : List Clause} {er : Int} (h : joinF a b = (r, er)) (A B : Option Addr) (n k c d : Nat) (w : World) (hn : n = a.length) (hk : k = b.length) (ha : RdC w A a) (hb : RdC w B b) (hl : a.length + b.length < 20) :
 Calls Tryz.prog 12 #[.slice A n c, .slice B k d] w fun e w' => (∃ v, e = .returned (.tuple #[v, .int .i64 er]) ∧ OwnCs w' w.heap.size v r) ∧ Below w.heap.size w w' := by
 subst hn hk
 have := join_any a b A B c d w (sorts_few hl) ha hb (by omega) (by omega)
 unfold Joins at this
 rw [h] at this
 refine this.mono ?_
 rintro e w' ⟨v, h1, h2, h3⟩
 exact ⟨⟨v, h1, h2⟩, h3⟩
theorem clash_lit {cs : List Clause} {r : List (Stamp × Stamp)} (h : clashOf exH (pairsL (openL cs)) = r) (A B : Option Addr) (n d : Nat) (w : World) (hn : n = cs.length) (hr : RdI w A exH) (hs : RdC w B cs) (hm : cs.length ≤ 64) (hrd : ∀ x ∈ cs, x.patch.Ready) (m : Int) (hg : w.cell? ⟨0, 0, none⟩ = some (.int .i64 m)) :
 Calls Tryz.prog 15 #[.agg #[.slice A 2 2], .slice B n d] w fun e w' => (∃ A' c', e = .returned (.tuple #[.slice A' r.length c', .int .i64 0])) ∧ Below w.heap.size w w' := by
 subst hn h
 refine (clashes_t exH cs A B 2 d w hr (by decide) (by decide) hs hm hrd m hg h_valid).mono ?_
 rintro e w' ⟨v, rfl, h2, h3⟩
 obtain ⟨A', c', rfl, _⟩ := h2.reads
 exact ⟨⟨A', c', rfl⟩, h3⟩
theorem result_lit {cs : List Clause} {tk : List Patch} {lf : List Stamp} (h : (resS exH (openL cs)).2 = (tk, lf)) (A B : Option Addr) (n d : Nat) (w : World) (hn : n = cs.length) (hr : RdI w A exH) (hs : RdC w B cs) (hm : cs.length ≤ 64) (hrd : ∀ x ∈ cs, x.patch.Ready) (m : Int) (hg : w.cell? ⟨0, 0, none⟩ = some (.int .i64 m)) :
 Calls Tryz.prog 17 #[.agg #[.slice A 2 2], .slice B n d] w fun e w' => (∃ tA tc lA lc, e = .returned (.tuple #[.slice tA tk.length tc, .slice lA lf.length lc, .int .i64 0]) ∧ RdP w' tA tk ∧ RdSt w' lA lf) ∧ Below w.heap.size w w' := by
 subst hn
 refine (result_t exH cs A B 2 d w hr (by decide) (by decide) hs hm hrd m hg h_valid).mono ?_
 rintro e w' ⟨tv, lv, rfl, h2, h3, h4⟩
 rw [h] at h2 h3
 obtain ⟨tA, tc, rfl, _, _, r1⟩ := h2.reads
 obtain ⟨lA, lc, rfl, _, _, r2⟩ := h3.reads
 exact ⟨⟨tA, tc, lA, lc, rfl, r1, r2⟩, h4⟩
theorem OwnCs.row2 {w : World} {base n c : Nat} {A : Option Addr} {l : List Clause} (h : OwnCs w base (.slice A n c) l) : RdC w A l := by
 obtain ⟨A', c', e, _, _, hr⟩ := h.reads
 simp only [Value.slice.injEq] at e
 rw [e.1]
 exact hr
theorem RdC.two (W : World) (a b : Clause) (C : Array Value) (hC : C = (a.cells ++ b.cells).toArray) (g : Nat) (hgg : g = W.heap.size) : RdC (W.alloc (.cells C 51)) (some ⟨g, 0, none⟩) [a, b] := by
 subst hgg hC
 intro _
 refine ⟨W.heap.size, 0, rfl, by simp, fun k x hx j v hv => ?_⟩
 rw [cell_of_row _ _ _ _ _ _ (heap_alloc_new W _), List.getElem?_toArray, Nat.zero_add]
 have := cfl_get [a, b] k x j v hx hv
 simpa [cflat] using this
theorem head38_any (w : World) (m : Int) (hg : w.cell? ⟨0, 0, none⟩ = some (.int .i64 m)) :
 Calls Tryz.prog 10 #[] w fun e w' => e = .returned (.bool true) ∧ Below w.heap.size w w' := by
 have HG := Lib.hid hg; clear hg
 go_enter Tryz.func10, Tryz.ntmps10
 go_wp2_with fail
 refine (example38_any w).mono ?_
 rintro e w1 ⟨A, rfl, hr1, hb1⟩
 have HR1 := Lib.hid hr1; clear hr1
 have HB1 := Lib.hid hb1; clear hb1
 go_upto_region 3 with fail
 rw [setRow_alloc_new2]
 generalize hW3 : World.alloc (World.alloc w1 _) _ = W3
 have hb3 : Below w1.heap.size w1 W3 := by rw [← hW3]; exact ((Below.refl _ _).alloc (Nat.le_refl _) _).alloc (by simp) _
 have k1 : W3.cell? ⟨w1.heap.size, 0, none⟩ = some (.slice A 2 2) := by rw [← hW3]; simp [go_sem]
 have k2 : W3.blk (w1.heap.size + 1) = some (.cells (claCs cRpl) 51 (0, 0)) := by rw [← hW3]; exact heap_new_at (by simp)
 clear hW3
 have HW3 := Lib.hid (chain2 HB1.out hb3)
 have HR3 := Lib.hid (HR1.out.below hb3)
 clear hb3 HB1 HR1
 go_cut [3, 4] (fun v3 v4 wd => v4 = .int .i64 0 ∧ (∃ A3 c3, v3 = .slice A3 2 c3 ∧ OwnCs wd W3.heap.size (.slice A3 2 c3) [cRplM, cRep 3 1 [112, 49]]) ∧ Below W3.heap.size W3 wd)
 case first =>
  refine wp_region_held_drew (S := (fun X => X.blk (w1.heap.size + 1) = some (.cells (claCs cRpl) 51 (0, 0)))) (by kernel_rfl) k2 (fun hHeld => ?_)
  refine takeF (i := 2) (v := cRpl.agg) (k := 28) rfl rfl (by kernel_rfl) (by kernel_rfl) (by kernel_rfl) (fun _ _ _ h => h) (Or.inl ⟨by rfl, fun z hz => by go_simp⟩) hHeld ?_
  try simp only [Act.put, sia, sc0, scs]
  generalize hG : wpAnyH Tryz.prog _ _ _ _ = G
  have e21 : ∀ (W : World) (g1 : Nat) (g2 : Nat), W.blk (w1.heap.size + 1) = some (.cells (claCs cRpl) 51 (0, 0)) → Below W3.heap.size W3 W → W.heap[g1]? = some (.cells (claCs (cRep 3 1 [112, 49])) 51 (0, 0)) → W.heap[g2]? = some (.cells (claCs cRpl) 51 (0, 0)) → G 6 #[true, true, true, true, false, false, false, false, false, false] ⟨#[.bool false, .pointer (some ⟨w1.heap.size, 0, none⟩), .pointer (some ⟨w1.heap.size + 1, 0, none⟩), undef, undef, undef, undef, undef, undef, undef, undef, undef, undef, undef, undef, undef, undef, undef, undef, undef, .agg #[.slice A 2 2], .agg #[.int .i64 3, .int .i64 2], .agg #[.int .i64 0, Value.string { data := #[] }, Value.string { data := #[] }, Value.string { data := #[] }, Value.string { data := #[110] }, Value.string { data := #[] }, .bool false], .agg #[.int .i64 7, Value.string { data := #[112, 49] }, Value.string { data := #[] }, Value.string { data := #[] }, Value.string { data := #[] }, .int .i64 0, Value.string { data := #[] }, Value.string { data := #[] }, Value.string { data := #[] }, Value.string { data := #[110] }, Value.string { data := #[] }, .bool false, .int .i64 0, Value.string { data := #[] }, Value.string { data := #[] }], .agg #[.int .i64 3, .int .i64 2, .int .i64 0, .int .i64 0, .int .i64 7, Value.string { data := #[112, 49] }, Value.string { data := #[] }, Value.string { data := #[] }, Value.string { data := #[] }, .int .i64 0, Value.string { data := #[] }, Value.string { data := #[] }, Value.string { data := #[] }, Value.string { data := #[110] }, Value.string { data := #[] }, .bool false, .int .i64 0, Value.string { data := #[] }, Value.string { data := #[] }, .bool false], undef, (cRep 3 1 [112, 49]).agg, .slice (some ⟨g1, 0, none⟩) 1 1, cRpl.agg, .slice (some ⟨g2, 0, none⟩) 1 1, undef, undef, undef, undef, undef, undef, undef, undef, undef, undef, undef, undef, undef, undef, undef, undef, undef, undef, undef, undef, undef, undef, undef, undef, undef, undef, undef, undef, undef, undef, undef, undef, undef, undef, undef, undef, undef, undef, undef, undef, undef, undef, undef, undef, undef, undef, undef, undef, undef, undef, undef, undef, undef, undef, undef, undef, undef, undef, undef, undef, undef, undef, undef, undef, undef, undef, undef, undef, undef, undef, undef, undef, undef, undef, undef, undef, undef, undef, undef, undef, undef, undef, undef, undef, undef, undef, undef, undef, undef, undef, undef, undef, undef, undef, undef, undef, undef, undef, undef, undef, undef, undef, undef, undef, undef, undef, undef, undef, undef, undef, undef, undef, undef, undef, undef, undef, undef, undef, undef, undef, undef, undef, undef, undef, undef, undef, undef, undef, undef, undef, undef, undef, undef, undef, undef, undef, undef, undef, undef, undef, undef, undef, undef, undef, undef, undef, undef], []⟩ W := by
   intro W g1 g2 hS hB h1 h2
   rw [← hG]
   refine wpAnyH_ready (rs := [4]) (by kernel_rfl) (by simp) (AllReadyH.cons rfl (fun K hK => ?_) (AllReadyH.nil))
   go_simp
   refine (join_lit h_j1 (some ⟨g1, 0, none⟩) (some ⟨g2, 0, none⟩) 1 1 1 1 _ rfl rfl (RdC.one _ _ _ h1) (RdC.one _ _ _ h2) (by decide)).mono ?_
   rintro e W2 ⟨⟨v, rfl, hO⟩, hb2⟩
   have hS2 := rkeepk hb2 hS
   have hB2 := chain2 hB hb2
   obtain ⟨A3, c3, rfl, _, _, _⟩ := hO.reads
   have hO3 := hO.lower hB.size
   clear hb2 hO
   go_wp2_with fail
   refine hK.out _ _ hS2 (fun hHeld => ?_)
   clear hK K
   try simp only [Act.put, sia, sc0, scs]
   refine takeF (i := 5) (v := .tuple #[.slice A3 2 c3, .int .i64 0]) (k := 25) rfl rfl (by kernel_rfl) (by kernel_rfl) (by kernel_rfl) (fun _ _ _ h => h) (Or.inl ⟨by rfl, fun z hz => by go_simp⟩) hHeld ?_
   try simp only [Act.put, sia, sc0, scs]
   refine takeF (i := 6) (v := .slice A3 2 c3) (k := 31) rfl rfl (by kernel_rfl) (by kernel_rfl) (by kernel_rfl) (fun _ _ _ h => h) (Or.inl ⟨by rfl, fun z hz => by go_simp⟩) hHeld ?_
   try simp only [Act.put, sia, sc0, scs]
   refine takeF (i := 7) (v := .int .i64 0) (k := 32) rfl rfl (by kernel_rfl) (by kernel_rfl) (by kernel_rfl) (fun _ _ _ h => h) (Or.inl ⟨by rfl, fun z hz => by go_simp⟩) hHeld ?_
   try simp only [Act.put, sia, sc0, scs]
   refine takeF (i := 8) (v := .slice A3 2 c3) (k := 3) rfl rfl (by kernel_rfl) (by kernel_rfl) (by kernel_rfl) (fun _ _ _ h => h) (Or.inl ⟨by rfl, fun z hz => by go_simp⟩) hHeld ?_
   try simp only [Act.put, sia, sc0, scs]
   refine takeF (i := 9) (v := .int .i64 0) (k := 4) rfl rfl (by kernel_rfl) (by kernel_rfl) (by kernel_rfl) (fun _ _ _ h => h) (Or.inl ⟨by rfl, fun z hz => by go_simp⟩) hHeld ?_
   try simp only [Act.put, sia, sc0, scs]
   refine wpAnyH_done (by kernel_rfl) ?_ _
   go_wp2_with fail
   go_meet
   case rel => exact ⟨rfl, ⟨_, _, rfl, hO3⟩, hB2⟩
  have e20 : ∀ (W : World) (g1 : Nat), W.blk (w1.heap.size + 1) = some (.cells (claCs cRpl) 51 (0, 0)) → Below W3.heap.size W3 W → W.heap[g1]? = some (.cells (claCs (cRep 3 1 [112, 49])) 51 (0, 0)) → G 7 #[true, true, true, false, false, false, false, false, false, false] ⟨#[.bool false, .pointer (some ⟨w1.heap.size, 0, none⟩), .pointer (some ⟨w1.heap.size + 1, 0, none⟩), undef, undef, undef, undef, undef, undef, undef, undef, undef, undef, undef, undef, undef, undef, undef, undef, undef, .agg #[.slice A 2 2], .agg #[.int .i64 3, .int .i64 2], .agg #[.int .i64 0, Value.string { data := #[] }, Value.string { data := #[] }, Value.string { data := #[] }, Value.string { data := #[110] }, Value.string { data := #[] }, .bool false], .agg #[.int .i64 7, Value.string { data := #[112, 49] }, Value.string { data := #[] }, Value.string { data := #[] }, Value.string { data := #[] }, .int .i64 0, Value.string { data := #[] }, Value.string { data := #[] }, Value.string { data := #[] }, Value.string { data := #[110] }, Value.string { data := #[] }, .bool false, .int .i64 0, Value.string { data := #[] }, Value.string { data := #[] }], .agg #[.int .i64 3, .int .i64 2, .int .i64 0, .int .i64 0, .int .i64 7, Value.string { data := #[112, 49] }, Value.string { data := #[] }, Value.string { data := #[] }, Value.string { data := #[] }, .int .i64 0, Value.string { data := #[] }, Value.string { data := #[] }, Value.string { data := #[] }, Value.string { data := #[110] }, Value.string { data := #[] }, .bool false, .int .i64 0, Value.string { data := #[] }, Value.string { data := #[] }, .bool false], undef, (cRep 3 1 [112, 49]).agg, .slice (some ⟨g1, 0, none⟩) 1 1, cRpl.agg, undef, undef, undef, undef, undef, undef, undef, undef, undef, undef, undef, undef, undef, undef, undef, undef, undef, undef, undef, undef, undef, undef, undef, undef, undef, undef, undef, undef, undef, undef, undef, undef, undef, undef, undef, undef, undef, undef, undef, undef, undef, undef, undef, undef, undef, undef, undef, undef, undef, undef, undef, undef, undef, undef, undef, undef, undef, undef, undef, undef, undef, undef, undef, undef, undef, undef, undef, undef, undef, undef, undef, undef, undef, undef, undef, undef, undef, undef, undef, undef, undef, undef, undef, undef, undef, undef, undef, undef, undef, undef, undef, undef, undef, undef, undef, undef, undef, undef, undef, undef, undef, undef, undef, undef, undef, undef, undef, undef, undef, undef, undef, undef, undef, undef, undef, undef, undef, undef, undef, undef, undef, undef, undef, undef, undef, undef, undef, undef, undef, undef, undef, undef, undef, undef, undef, undef, undef, undef, undef, undef, undef, undef, undef, undef, undef, undef, undef, undef], []⟩ W := by
   intro W g1 hS hB h1
   rw [← hG]
   refine wpAnyH_ready (rs := [3]) (by kernel_rfl) (by simp) (AllReadyH.cons rfl (fun K hK => ?_) (AllReadyH.nil))
   · go_simp
     have hb2 : Below W.heap.size W (W.alloc (.cells (claCs cRpl) 51)) := (Below.refl _ _).alloc (Nat.le_refl _) _
     have hS2 := rkeepk hb2 hS
     have hB2 := chain2 hB hb2
     refine hK.out _ _ hS2 (fun hHeld => ?_)
     clear hK K
     try simp only [Act.put, sia, sc0, scs]
     have := e21 _ g1 W.heap.size hS2 hB2 (rkeepk hb2 h1) (heap_alloc_new _ _)
     rw [← hG] at this
     exact this
  have e11 : ∀ (W : World) (g2 : Nat), W.blk (w1.heap.size + 1) = some (.cells (claCs cRpl) 51 (0, 0)) → Below W3.heap.size W3 W → W.heap[g2]? = some (.cells (claCs cRpl) 51 (0, 0)) → G 7 #[true, false, true, true, false, false, false, false, false, false] ⟨#[.bool false, .pointer (some ⟨w1.heap.size, 0, none⟩), .pointer (some ⟨w1.heap.size + 1, 0, none⟩), undef, undef, undef, undef, undef, undef, undef, undef, undef, undef, undef, undef, undef, undef, undef, undef, undef, .agg #[.slice A 2 2], .agg #[.int .i64 3, .int .i64 2], .agg #[.int .i64 0, Value.string { data := #[] }, Value.string { data := #[] }, Value.string { data := #[] }, Value.string { data := #[110] }, Value.string { data := #[] }, .bool false], .agg #[.int .i64 7, Value.string { data := #[112, 49] }, Value.string { data := #[] }, Value.string { data := #[] }, Value.string { data := #[] }, .int .i64 0, Value.string { data := #[] }, Value.string { data := #[] }, Value.string { data := #[] }, Value.string { data := #[110] }, Value.string { data := #[] }, .bool false, .int .i64 0, Value.string { data := #[] }, Value.string { data := #[] }], .agg #[.int .i64 3, .int .i64 2, .int .i64 0, .int .i64 0, .int .i64 7, Value.string { data := #[112, 49] }, Value.string { data := #[] }, Value.string { data := #[] }, Value.string { data := #[] }, .int .i64 0, Value.string { data := #[] }, Value.string { data := #[] }, Value.string { data := #[] }, Value.string { data := #[110] }, Value.string { data := #[] }, .bool false, .int .i64 0, Value.string { data := #[] }, Value.string { data := #[] }, .bool false], undef, (cRep 3 1 [112, 49]).agg, undef, cRpl.agg, .slice (some ⟨g2, 0, none⟩) 1 1, undef, undef, undef, undef, undef, undef, undef, undef, undef, undef, undef, undef, undef, undef, undef, undef, undef, undef, undef, undef, undef, undef, undef, undef, undef, undef, undef, undef, undef, undef, undef, undef, undef, undef, undef, undef, undef, undef, undef, undef, undef, undef, undef, undef, undef, undef, undef, undef, undef, undef, undef, undef, undef, undef, undef, undef, undef, undef, undef, undef, undef, undef, undef, undef, undef, undef, undef, undef, undef, undef, undef, undef, undef, undef, undef, undef, undef, undef, undef, undef, undef, undef, undef, undef, undef, undef, undef, undef, undef, undef, undef, undef, undef, undef, undef, undef, undef, undef, undef, undef, undef, undef, undef, undef, undef, undef, undef, undef, undef, undef, undef, undef, undef, undef, undef, undef, undef, undef, undef, undef, undef, undef, undef, undef, undef, undef, undef, undef, undef, undef, undef, undef, undef, undef, undef, undef, undef, undef, undef, undef, undef, undef, undef, undef, undef, undef, undef], []⟩ W := by
   intro W g2 hS hB h2
   rw [← hG]
   refine wpAnyH_ready (rs := [1]) (by kernel_rfl) (by simp) (AllReadyH.cons rfl (fun K hK => ?_) (AllReadyH.nil))
   · go_simp
     have hb2 : Below W.heap.size W (W.alloc (.cells (claCs (cRep 3 1 [112, 49])) 51)) := (Below.refl _ _).alloc (Nat.le_refl _) _
     have hS2 := rkeepk hb2 hS
     have hB2 := chain2 hB hb2
     refine hK.out _ _ hS2 (fun hHeld => ?_)
     clear hK K
     try simp only [Act.put, sia, sc0, scs]
     have := e21 _ W.heap.size g2 hS2 hB2 (heap_alloc_new _ _) (rkeepk hb2 h2)
     rw [← hG] at this
     exact this
  have e10 : ∀ (W : World), W.blk (w1.heap.size + 1) = some (.cells (claCs cRpl) 51 (0, 0)) → Below W3.heap.size W3 W → G 8 #[true, false, true, false, false, false, false, false, false, false] ⟨#[.bool false, .pointer (some ⟨w1.heap.size, 0, none⟩), .pointer (some ⟨w1.heap.size + 1, 0, none⟩), undef, undef, undef, undef, undef, undef, undef, undef, undef, undef, undef, undef, undef, undef, undef, undef, undef, .agg #[.slice A 2 2], .agg #[.int .i64 3, .int .i64 2], .agg #[.int .i64 0, Value.string { data := #[] }, Value.string { data := #[] }, Value.string { data := #[] }, Value.string { data := #[110] }, Value.string { data := #[] }, .bool false], .agg #[.int .i64 7, Value.string { data := #[112, 49] }, Value.string { data := #[] }, Value.string { data := #[] }, Value.string { data := #[] }, .int .i64 0, Value.string { data := #[] }, Value.string { data := #[] }, Value.string { data := #[] }, Value.string { data := #[110] }, Value.string { data := #[] }, .bool false, .int .i64 0, Value.string { data := #[] }, Value.string { data := #[] }], .agg #[.int .i64 3, .int .i64 2, .int .i64 0, .int .i64 0, .int .i64 7, Value.string { data := #[112, 49] }, Value.string { data := #[] }, Value.string { data := #[] }, Value.string { data := #[] }, .int .i64 0, Value.string { data := #[] }, Value.string { data := #[] }, Value.string { data := #[] }, Value.string { data := #[110] }, Value.string { data := #[] }, .bool false, .int .i64 0, Value.string { data := #[] }, Value.string { data := #[] }, .bool false], undef, (cRep 3 1 [112, 49]).agg, undef, cRpl.agg, undef, undef, undef, undef, undef, undef, undef, undef, undef, undef, undef, undef, undef, undef, undef, undef, undef, undef, undef, undef, undef, undef, undef, undef, undef, undef, undef, undef, undef, undef, undef, undef, undef, undef, undef, undef, undef, undef, undef, undef, undef, undef, undef, undef, undef, undef, undef, undef, undef, undef, undef, undef, undef, undef, undef, undef, undef, undef, undef, undef, undef, undef, undef, undef, undef, undef, undef, undef, undef, undef, undef, undef, undef, undef, undef, undef, undef, undef, undef, undef, undef, undef, undef, undef, undef, undef, undef, undef, undef, undef, undef, undef, undef, undef, undef, undef, undef, undef, undef, undef, undef, undef, undef, undef, undef, undef, undef, undef, undef, undef, undef, undef, undef, undef, undef, undef, undef, undef, undef, undef, undef, undef, undef, undef, undef, undef, undef, undef, undef, undef, undef, undef, undef, undef, undef, undef, undef, undef, undef, undef, undef, undef, undef, undef, undef, undef, undef, undef], []⟩ W := by
   intro W hS hB
   rw [← hG]
   refine wpAnyH_ready (rs := [1, 3]) (by kernel_rfl) (by simp) (AllReadyH.cons rfl (fun K hK => ?_) (AllReadyH.cons rfl (fun K hK => ?_) (AllReadyH.nil)))
   · go_simp
     have hb2 : Below W.heap.size W (W.alloc (.cells (claCs (cRep 3 1 [112, 49])) 51)) := (Below.refl _ _).alloc (Nat.le_refl _) _
     have hS2 := rkeepk hb2 hS
     have hB2 := chain2 hB hb2
     refine hK.out _ _ hS2 (fun hHeld => ?_)
     clear hK K
     try simp only [Act.put, sia, sc0, scs]
     have := e20 _ W.heap.size hS2 hB2 (heap_alloc_new _ _)
     rw [← hG] at this
     exact this
   · go_simp
     have hb2 : Below W.heap.size W (W.alloc (.cells (claCs cRpl) 51)) := (Below.refl _ _).alloc (Nat.le_refl _) _
     have hS2 := rkeepk hb2 hS
     have hB2 := chain2 hB hb2
     refine hK.out _ _ hS2 (fun hHeld => ?_)
     clear hK K
     try simp only [Act.put, sia, sc0, scs]
     have := e11 _ W.heap.size hS2 hB2 (heap_alloc_new _ _)
     rw [← hG] at this
     exact this
  have e01 : ∀ (W : World) (g2 : Nat), W.blk (w1.heap.size + 1) = some (.cells (claCs cRpl) 51 (0, 0)) → Below W3.heap.size W3 W → W.heap[g2]? = some (.cells (claCs cRpl) 51 (0, 0)) → G 8 #[false, false, true, true, false, false, false, false, false, false] ⟨#[.bool false, .pointer (some ⟨w1.heap.size, 0, none⟩), .pointer (some ⟨w1.heap.size + 1, 0, none⟩), undef, undef, undef, undef, undef, undef, undef, undef, undef, undef, undef, undef, undef, undef, undef, undef, undef, .agg #[.slice A 2 2], .agg #[.int .i64 3, .int .i64 2], .agg #[.int .i64 0, Value.string { data := #[] }, Value.string { data := #[] }, Value.string { data := #[] }, Value.string { data := #[110] }, Value.string { data := #[] }, .bool false], .agg #[.int .i64 7, Value.string { data := #[112, 49] }, Value.string { data := #[] }, Value.string { data := #[] }, Value.string { data := #[] }, .int .i64 0, Value.string { data := #[] }, Value.string { data := #[] }, Value.string { data := #[] }, Value.string { data := #[110] }, Value.string { data := #[] }, .bool false, .int .i64 0, Value.string { data := #[] }, Value.string { data := #[] }], .agg #[.int .i64 3, .int .i64 2, .int .i64 0, .int .i64 0, .int .i64 7, Value.string { data := #[112, 49] }, Value.string { data := #[] }, Value.string { data := #[] }, Value.string { data := #[] }, .int .i64 0, Value.string { data := #[] }, Value.string { data := #[] }, Value.string { data := #[] }, Value.string { data := #[110] }, Value.string { data := #[] }, .bool false, .int .i64 0, Value.string { data := #[] }, Value.string { data := #[] }, .bool false], undef, undef, undef, cRpl.agg, .slice (some ⟨g2, 0, none⟩) 1 1, undef, undef, undef, undef, undef, undef, undef, undef, undef, undef, undef, undef, undef, undef, undef, undef, undef, undef, undef, undef, undef, undef, undef, undef, undef, undef, undef, undef, undef, undef, undef, undef, undef, undef, undef, undef, undef, undef, undef, undef, undef, undef, undef, undef, undef, undef, undef, undef, undef, undef, undef, undef, undef, undef, undef, undef, undef, undef, undef, undef, undef, undef, undef, undef, undef, undef, undef, undef, undef, undef, undef, undef, undef, undef, undef, undef, undef, undef, undef, undef, undef, undef, undef, undef, undef, undef, undef, undef, undef, undef, undef, undef, undef, undef, undef, undef, undef, undef, undef, undef, undef, undef, undef, undef, undef, undef, undef, undef, undef, undef, undef, undef, undef, undef, undef, undef, undef, undef, undef, undef, undef, undef, undef, undef, undef, undef, undef, undef, undef, undef, undef, undef, undef, undef, undef, undef, undef, undef, undef, undef, undef, undef, undef, undef, undef, undef, undef], []⟩ W := by
   intro W g2 hS hB h2
   rw [← hG]
   refine wpAnyH_ready (rs := [0]) (by kernel_rfl) (by simp) (AllReadyH.cons rfl (fun K hK => ?_) (AllReadyH.nil))
   · go_simp
     refine (repeal_any 3 1 [112, 49] _).mono ?_
     rintro e W2 ⟨rfl, hb2⟩
     have hS2 := rkeepk hb2 hS
     have hB2 := chain2 hB hb2
     have k2 := rkeepk hb2 h2
     clear hb2
     go_wp2_with fail
     refine hK.out _ _ hS2 (fun hHeld => ?_)
     clear hK K
     try simp only [Act.put, sia, sc0, scs]
     have := e11 W2 g2 hS2 hB2 k2
     rw [← hG] at this
     exact this
  have e00 : ∀ (W : World), W.blk (w1.heap.size + 1) = some (.cells (claCs cRpl) 51 (0, 0)) → Below W3.heap.size W3 W → G 9 #[false, false, true, false, false, false, false, false, false, false] ⟨#[.bool false, .pointer (some ⟨w1.heap.size, 0, none⟩), .pointer (some ⟨w1.heap.size + 1, 0, none⟩), undef, undef, undef, undef, undef, undef, undef, undef, undef, undef, undef, undef, undef, undef, undef, undef, undef, .agg #[.slice A 2 2], .agg #[.int .i64 3, .int .i64 2], .agg #[.int .i64 0, Value.string { data := #[] }, Value.string { data := #[] }, Value.string { data := #[] }, Value.string { data := #[110] }, Value.string { data := #[] }, .bool false], .agg #[.int .i64 7, Value.string { data := #[112, 49] }, Value.string { data := #[] }, Value.string { data := #[] }, Value.string { data := #[] }, .int .i64 0, Value.string { data := #[] }, Value.string { data := #[] }, Value.string { data := #[] }, Value.string { data := #[110] }, Value.string { data := #[] }, .bool false, .int .i64 0, Value.string { data := #[] }, Value.string { data := #[] }], .agg #[.int .i64 3, .int .i64 2, .int .i64 0, .int .i64 0, .int .i64 7, Value.string { data := #[112, 49] }, Value.string { data := #[] }, Value.string { data := #[] }, Value.string { data := #[] }, .int .i64 0, Value.string { data := #[] }, Value.string { data := #[] }, Value.string { data := #[] }, Value.string { data := #[110] }, Value.string { data := #[] }, .bool false, .int .i64 0, Value.string { data := #[] }, Value.string { data := #[] }, .bool false], undef, undef, undef, cRpl.agg, undef, undef, undef, undef, undef, undef, undef, undef, undef, undef, undef, undef, undef, undef, undef, undef, undef, undef, undef, undef, undef, undef, undef, undef, undef, undef, undef, undef, undef, undef, undef, undef, undef, undef, undef, undef, undef, undef, undef, undef, undef, undef, undef, undef, undef, undef, undef, undef, undef, undef, undef, undef, undef, undef, undef, undef, undef, undef, undef, undef, undef, undef, undef, undef, undef, undef, undef, undef, undef, undef, undef, undef, undef, undef, undef, undef, undef, undef, undef, undef, undef, undef, undef, undef, undef, undef, undef, undef, undef, undef, undef, undef, undef, undef, undef, undef, undef, undef, undef, undef, undef, undef, undef, undef, undef, undef, undef, undef, undef, undef, undef, undef, undef, undef, undef, undef, undef, undef, undef, undef, undef, undef, undef, undef, undef, undef, undef, undef, undef, undef, undef, undef, undef, undef, undef, undef, undef, undef, undef, undef, undef, undef, undef, undef, undef, undef, undef, undef], []⟩ W := by
   intro W hS hB
   rw [← hG]
   refine wpAnyH_ready (rs := [0, 3]) (by kernel_rfl) (by simp) (AllReadyH.cons rfl (fun K hK => ?_) (AllReadyH.cons rfl (fun K hK => ?_) (AllReadyH.nil)))
   · go_simp
     refine (repeal_any 3 1 [112, 49] _).mono ?_
     rintro e W2 ⟨rfl, hb2⟩
     have hS2 := rkeepk hb2 hS
     have hB2 := chain2 hB hb2
     clear hb2
     go_wp2_with fail
     refine hK.out _ _ hS2 (fun hHeld => ?_)
     clear hK K
     try simp only [Act.put, sia, sc0, scs]
     have := e10 W2 hS2 hB2
     rw [← hG] at this
     exact this
   · go_simp
     have hb2 : Below W.heap.size W (W.alloc (.cells (claCs cRpl) 51)) := (Below.refl _ _).alloc (Nat.le_refl _) _
     have hS2 := rkeepk hb2 hS
     have hB2 := chain2 hB hb2
     refine hK.out _ _ hS2 (fun hHeld => ?_)
     clear hK K
     try simp only [Act.put, sia, sc0, scs]
     have := e01 _ W.heap.size hS2 hB2 (heap_alloc_new _ _)
     rw [← hG] at this
     exact this
  have := e00 _ hHeld (Below.refl _ _).drew
  exact this
 case rest =>
 obtain ⟨rfl, ⟨A3, c3, rfl, hj1⟩, hcb⟩ := hcut
 rename_i w4x _ _
 have HW4 := Lib.hid (chain2 HW3.out hcb)
 have HR4 := Lib.hid (HR3.out.below hcb)
 have HJ1 := Lib.hid hj1; clear hj1
 have kc := keepw hcb k1
 clear hcb k1 k2 HW3 HR3
 go_upto_region 4 with fail
 go_cut [5, 6] (fun v5 v6 wd => v6 = .int .i64 0 ∧ (∃ A5 c5, v5 = .slice A5 2 c5 ∧ RdC wd A5 [cRep 103 1 [112, 50], cRep 3 1 [112, 49]]) ∧ Below wc.heap.size wc wd)
 case first =>
  go_wp2_with fail
  refine (repeal_any 3 1 [112, 49] _).mono ?_
  rintro e x1 ⟨rfl, hx1⟩
  have HX1 := Lib.hid hx1; clear hx1
  have y1 : (x1.alloc (.cells (claCs (cRep 3 1 [112, 49])) 51)).blk x1.heap.size = some (.cells (claCs (cRep 3 1 [112, 49])) 51 (0, 0)) := heap_alloc_new _ _
  have hx1b : Below x1.heap.size x1 (x1.alloc (.cells (claCs (cRep 3 1 [112, 49])) 51)) := (Below.refl _ _).alloc (Nat.le_refl _) _
  have HX1B := Lib.hid hx1b; clear hx1b
  go_wp2_with fail
  refine (repeal_any 3 1 [112, 50] _).mono ?_
  rintro e x2 ⟨rfl, hx2⟩
  have y2 := rkeepk hx2 y1
  have HX2 := Lib.hid (chain2 (chain2 HX1.out HX1B.out) hx2); clear hx2 y1
  have hx2b : Below x2.heap.size x2 (x2.alloc (.cells (claCs (cRep 3 1 [112, 50])) 51)) := (Below.refl _ _).alloc (Nat.le_refl _) _
  have HX2B := Lib.hid hx2b; clear hx2b
  go_wp2_with fail
  refine (join_lit h_j2 (some ⟨x1.heap.size, 0, none⟩) (some ⟨x2.heap.size, 0, none⟩) 1 1 1 1 _ rfl rfl (RdC.one _ _ _ (rkeepk HX2B.out y2)) (RdC.one _ _ _ (heap_alloc_new _ _)) (by decide)).mono ?_
  rintro e x3 ⟨⟨v, rfl, hO⟩, hx3⟩
  obtain ⟨A5, c5, rfl, _, _, hrd⟩ := hO.reads
  have HX3 := Lib.hid (chain2 (chain2 HX2.out HX2B.out) hx3); clear hx3
  go_wp2_with fail
  go_meet
  case rel => exact ⟨rfl, ⟨_, _, rfl, hrd⟩, HX3.out⟩
 case rest =>
 obtain ⟨rfl, ⟨A5, c5, rfl, hj2⟩, hcb⟩ := hcut
 rename_i wa _ _ _ _
 have HW5 := Lib.hid (chain2 HW4.out hcb)
 have HR5 := Lib.hid (HR4.out.below hcb)
 have HJ11 := Lib.hid (HJ1.out.below hcb)
 have HJ2 := Lib.hid hj2; clear hj2
 have kd := keepw hcb kc
 clear hcb kc HW4 HR4 HJ1
 go_upto_region 5 with fail
 go_cut [7, 8] (fun v7 v8 wd => v8 = .int .i64 1 ∧ Below wc.heap.size wc wd)
 case first =>
  go_wp2_with fail
  refine (repeal_any 100 1 [112, 49] _).mono ?_
  rintro e x1 ⟨rfl, hx1⟩
  have HX1 := Lib.hid hx1; clear hx1
  have hx1b : Below x1.heap.size x1 (x1.alloc (.cells (claCs (cRep 100 1 [112, 49])) 51)) := (Below.refl _ _).alloc (Nat.le_refl _) _
  have HX1B := Lib.hid hx1b; clear hx1b
  go_wp2_with fail
  refine (join_lit h_j3 (some ⟨x1.heap.size, 0, none⟩) none 1 0 1 0 _ rfl rfl (RdC.one _ _ _ (heap_alloc_new _ _)) (fun h => absurd rfl h) (by decide)).mono ?_
  rintro e x3 ⟨⟨v, rfl, hO⟩, hx3⟩
  have HX3 := Lib.hid (chain2 (chain2 HX1.out HX1B.out) hx3); clear hx3 hO
  go_wp2_with fail
  go_meet
  case rel => exact ⟨rfl, HX3.out⟩
 case rest =>
 obtain ⟨rfl, hcb⟩ := hcut
 have HW6 := Lib.hid (chain2 HW5.out hcb)
 have HR6 := Lib.hid (HR5.out.below hcb)
 have HJ12 := Lib.hid (HJ11.out.below hcb)
 have HJ21 := Lib.hid (HJ2.out.below hcb)
 have ke := keepw hcb kd
 clear hcb kd HW5 HR5 HJ11 HJ2
 have hrd1 : ∀ x ∈ [cRplM, cRep 3 1 [112, 49]], x.patch.Ready := by
  intro x hx
  simp at hx
  rcases hx with rfl | rfl
  · exact pRpl_ready
  · exact pRep_ready _
 have hrd2 : ∀ x ∈ [cRep 103 1 [112, 50], cRep 3 1 [112, 49]], x.patch.Ready := by
  intro x hx
  simp at hx
  rcases hx with rfl | rfl
  · exact pRep_ready _
  · exact pRep_ready _
 have hrd3 : ∀ x ∈ [cRep 3 1 [112, 49], cRplM], x.patch.Ready := by
  intro x hx
  simp at hx
  rcases hx with rfl | rfl
  · exact pRep_ready _
  · exact pRpl_ready
 have HRD1 := Lib.hid hrd1; clear hrd1
 have HRD2 := Lib.hid hrd2; clear hrd2
 have HRD3 := Lib.hid hrd3; clear hrd3
 go_upto_region 8 with fail
 go_cut [9, 10] (fun v9 v10 wd => v10 = .int .i64 0 ∧ (∃ A9 c9, v9 = .slice A9 1 c9) ∧ Below wc.heap.size wc wd)
 case first =>
  go_wp2_with fail
  refine (clash_lit h_c1 A A3 2 c3 _ rfl HR6.out HJ12.out.row2 (by decide) HRD1.out m (step_cell HW6.out HG.out)).mono ?_
  rintro e x1 ⟨⟨A9, c9, rfl⟩, hx1⟩
  have HX1 := Lib.hid hx1; clear hx1
  go_wp2_with fail
  go_meet
  case rel => exact ⟨rfl, ⟨_, _, rfl⟩, HX1.out⟩
 case rest =>
 obtain ⟨rfl, ⟨A9, c9, rfl⟩, hcb⟩ := hcut
 have HW7 := Lib.hid (chain2 HW6.out hcb)
 have HR7 := Lib.hid (HR6.out.below hcb)
 have HJ13 := Lib.hid (HJ12.out.below hcb)
 have HJ22 := Lib.hid (HJ21.out.below hcb)
 have kf := keepw hcb ke
 clear hcb ke HW6 HR6 HJ12 HJ21
 go_upto_region 9 with fail
 go_cut [11, 12] (fun v11 v12 wd => v12 = .int .i64 0 ∧ (∃ A11 c11, v11 = .slice A11 0 c11) ∧ Below wc.heap.size wc wd)
 case first =>
  go_wp2_with fail
  refine (clash_lit h_c2 A A5 2 c5 _ rfl HR7.out HJ22.out (by decide) HRD2.out m (step_cell HW7.out HG.out)).mono ?_
  rintro e x1 ⟨⟨A9, c9, rfl⟩, hx1⟩
  have HX1 := Lib.hid hx1; clear hx1
  go_wp2_with fail
  go_meet
  case rel => exact ⟨rfl, ⟨_, _, rfl⟩, HX1.out⟩
 case rest =>
 obtain ⟨rfl, ⟨A11, c11, rfl⟩, hcb⟩ := hcut
 have HW8 := Lib.hid (chain2 HW7.out hcb)
 have HR8 := Lib.hid (HR7.out.below hcb)
 have HJ14 := Lib.hid (HJ13.out.below hcb)
 have HJ23 := Lib.hid (HJ22.out.below hcb)
 have kg := keepw hcb kf
 clear hcb kf HW7 HR7 HJ13 HJ22
 obtain ⟨b3, rfl⟩ : ∃ b3, A3 = some ⟨b3, 0, none⟩ := by
  rcases HJ14.out.2 with ⟨hv, h0⟩ | ⟨g, cap', cur, hv, r2, _⟩
  · cases h0
  · simp only [Value.slice.injEq] at hv; exact ⟨g, hv.1⟩
 go_upto_region 10 with fail
 go_cut [13, 14, 15] (fun v13 v14 v15 wd => v15 = .int .i64 0 ∧ (∃ tA tc lA lc, v13 = .slice tA 1 tc ∧ v14 = .slice lA 1 lc ∧ RdP wd tA [pRep [112, 49]] ∧ RdSt wd lA [⟨103, 2⟩]) ∧ Below wc.heap.size wc wd)
 case first =>
  have hi0 : (0 : Int) ≤ 1 := by decide
  refine wp_region_held_drew (S := (fun X => X.cell? ⟨w1.heap.size, 0, none⟩ = some (.slice A 2 2) ∧ OwnCs X W3.heap.size (.slice (some ⟨b3, 0, none⟩) 2 c3) [cRplM, cRep 3 1 [112, 49]])) (by kernel_rfl) ⟨kg, HJ14.out.keep (fun _ _ => rfl)⟩ (fun hHeld => ?_)
  refine takeF (i := 0) (v := .agg #[.slice A 2 2]) (k := 80) rfl rfl (by kernel_rfl) (by kernel_rfl) (by kernel_rfl) (fun _ _ _ h => h) (Or.inl ⟨by rfl, fun z hz => by (obtain ⟨z0, z1⟩ := hz; go_simp)⟩) hHeld ?_
  try simp only [Act.put, sia, sc0, scs]
  refine takeF (i := 1) (v := .slice (some ⟨b3, 0, none⟩) 2 c3) (k := 81) rfl rfl (by kernel_rfl) (by kernel_rfl) (by kernel_rfl) (fun _ _ _ h => h) (Or.inl ⟨by rfl, fun z hz => by go_simp⟩) hHeld ?_
  try simp only [Act.put, sia, sc0, scs]
  refine takeF (i := 2) (v := .pointer (some ⟨b3, 20, none⟩)) (k := 82) rfl rfl (by kernel_rfl) (by kernel_rfl) (by kernel_rfl) (fun _ _ _ h => h) (Or.inl ⟨by rfl, fun z hz => by go_simp⟩) hHeld ?_
  try simp only [Act.put, sia, sc0, scs]
  refine takeF (i := 3) (v := (cRep 3 1 [112, 49]).agg) (k := 83) rfl rfl (by kernel_rfl) (by kernel_rfl) (by kernel_rfl) (fun _ _ _ h => h) (Or.inl ⟨by rfl, fun z hz => by (obtain ⟨z0, z1⟩ := hz; have hq := z1.load (k := 1) (x := cRep 3 1 [112, 49]) rfl; rw [show 1 * 20 = 20 from rfl] at hq; clear z0 z1; go_simp)⟩) hHeld ?_
  try simp only [Act.put, sia, sc0, scs]
  refine takeF (i := 4) (v := .slice (some ⟨b3, 0, none⟩) 2 c3) (k := 84) rfl rfl (by kernel_rfl) (by kernel_rfl) (by kernel_rfl) (fun _ _ _ h => h) (Or.inl ⟨by rfl, fun z hz => by go_simp⟩) hHeld ?_
  try simp only [Act.put, sia, sc0, scs]
  refine takeF (i := 5) (v := .pointer (some ⟨b3, 0, none⟩)) (k := 85) rfl rfl (by kernel_rfl) (by kernel_rfl) (by kernel_rfl) (fun _ _ _ h => h) (Or.inl ⟨by rfl, fun z hz => by go_simp⟩) hHeld ?_
  try simp only [Act.put, sia, sc0, scs]
  refine takeF (i := 6) (v := cRplM.agg) (k := 86) rfl rfl (by kernel_rfl) (by kernel_rfl) (by kernel_rfl) (fun _ _ _ h => h) (Or.inl ⟨by rfl, fun z hz => by (obtain ⟨z0, z1⟩ := hz; have hq := z1.load (k := 0) (x := cRplM) rfl; rw [show 0 * 20 = 0 from rfl] at hq; clear z0 z1; go_simp)⟩) hHeld ?_
  try simp only [Act.put, sia, sc0, scs]
  refine wpAnyH_ready (rs := [7]) (by kernel_rfl) (by simp) (AllReadyH.cons rfl (fun K hK => ?_) (AllReadyH.nil))
  go_simp
  have hX : Below wc.heap.size wc (wc.drew.alloc (.cells ((cRep 3 1 [112, 49]).cells ++ cRplM.cells).toArray 51)) := (Below.refl _ _).drew.alloc (Nat.le_refl _) _
  have HX := Lib.hid hX; clear hX
  refine hK.out _ _ ⟨keepw HX.out kg, HJ14.out.below HX.out⟩ (fun hHeld => ?_)
  clear hK K
  try simp only [Act.put, sia, sc0, scs]
  refine wpAnyH_ready (rs := [8]) (by kernel_rfl) (by simp) (AllReadyH.cons rfl (fun K hK => ?_) (AllReadyH.nil))
  go_simp
  refine (result_lit h_r1 A (some ⟨wc.heap.size, 0, none⟩) 2 2 _ rfl (HR8.out.below HX.out) (RdC.two _ _ _ _ rfl _ rfl) (by decide) HRD3.out m (step_cell (chain2 HW8.out HX.out) HG.out)).mono ?_
  rintro e x1 ⟨⟨tA, tc, lA, lc, rfl, ht, hl⟩, hx1⟩
  have HX1 := Lib.hid (chain2 HX.out hx1)
  clear hx1
  go_wp2_with fail
  refine hK.out _ _ ⟨keepw HX1.out kg, HJ14.out.below HX1.out⟩ (fun hHeld => ?_)
  clear hK K
  try simp only [Act.put, sia, sc0, scs]
  refine takeF (i := 9) (v := .tuple #[.slice tA 1 tc, .slice lA 1 lc, .int .i64 0]) (k := 79) rfl rfl (by kernel_rfl) (by kernel_rfl) (by kernel_rfl) (fun _ _ _ h => h) (Or.inl ⟨by rfl, fun z hz => by go_simp⟩) hHeld ?_
  try simp only [Act.put, sia, sc0, scs]
  refine takeF (i := 10) (v := .slice tA 1 tc) (k := 89) rfl rfl (by kernel_rfl) (by kernel_rfl) (by kernel_rfl) (fun _ _ _ h => h) (Or.inl ⟨by rfl, fun z hz => by go_simp⟩) hHeld ?_
  try simp only [Act.put, sia, sc0, scs]
  refine takeF (i := 11) (v := .slice lA 1 lc) (k := 90) rfl rfl (by kernel_rfl) (by kernel_rfl) (by kernel_rfl) (fun _ _ _ h => h) (Or.inl ⟨by rfl, fun z hz => by go_simp⟩) hHeld ?_
  try simp only [Act.put, sia, sc0, scs]
  refine takeF (i := 12) (v := .int .i64 0) (k := 91) rfl rfl (by kernel_rfl) (by kernel_rfl) (by kernel_rfl) (fun _ _ _ h => h) (Or.inl ⟨by rfl, fun z hz => by go_simp⟩) hHeld ?_
  try simp only [Act.put, sia, sc0, scs]
  refine takeF (i := 13) (v := .slice tA 1 tc) (k := 13) rfl rfl (by kernel_rfl) (by kernel_rfl) (by kernel_rfl) (fun _ _ _ h => h) (Or.inl ⟨by rfl, fun z hz => by go_simp⟩) hHeld ?_
  try simp only [Act.put, sia, sc0, scs]
  refine takeF (i := 14) (v := .slice lA 1 lc) (k := 14) rfl rfl (by kernel_rfl) (by kernel_rfl) (by kernel_rfl) (fun _ _ _ h => h) (Or.inl ⟨by rfl, fun z hz => by go_simp⟩) hHeld ?_
  try simp only [Act.put, sia, sc0, scs]
  refine takeF (i := 15) (v := .int .i64 0) (k := 15) rfl rfl (by kernel_rfl) (by kernel_rfl) (by kernel_rfl) (fun _ _ _ h => h) (Or.inl ⟨by rfl, fun z hz => by go_simp⟩) hHeld ?_
  try simp only [Act.put, sia, sc0, scs]
  refine wpAnyH_done (by kernel_rfl) ?_ _
  go_wp2_with fail
  go_meet
  case rel => exact ⟨rfl, ⟨_, _, _, _, rfl, rfl, ht, hl⟩, HX1.out⟩
 case rest =>
 obtain ⟨rfl, ⟨tA, tc, lA, lc, rfl, rfl, ht, hl⟩, hcb⟩ := hcut
 have HW9 := Lib.hid (chain2 HW8.out hcb)
 have HR9 := Lib.hid (HR8.out.below hcb)
 have HJ15 := Lib.hid (HJ14.out.below hcb)
 have HJ24 := Lib.hid (HJ23.out.below hcb)
 have HT := Lib.hid ht; clear ht
 have HL := Lib.hid hl; clear hl
 have kh := keepw hcb kg
 clear hcb kg HW8 HR8 HJ14 HJ23
 go_upto_region 11 with fail
 go_cut [16, 17, 18] (fun v16 v17 v18 wd => v18 = .int .i64 0 ∧ (∃ tA tc lA lc, v16 = .slice tA 2 tc ∧ v17 = .slice lA 0 lc) ∧ Below wc.heap.size wc wd)
 case first =>
  go_wp2_with fail
  refine (result_lit h_r2 A A5 2 c5 _ rfl HR9.out HJ24.out (by decide) HRD2.out m (step_cell HW9.out HG.out)).mono ?_
  rintro e x1 ⟨⟨tA', tc', lA', lc', rfl, ht', hl'⟩, hx1⟩
  have HX1 := Lib.hid hx1; clear hx1 ht' hl'
  go_wp2_with fail
  go_meet
  case rel => exact ⟨rfl, ⟨_, _, _, _, rfl, rfl⟩, HX1.out⟩
 case rest =>
 obtain ⟨rfl, ⟨uA, uc, mA, mc, rfl, rfl⟩, hcb⟩ := hcut
 have HW10 := Lib.hid (chain2 HW9.out hcb)
 have HJ16 := Lib.hid (HJ15.out.below hcb)
 have HT1 := Lib.hid (HT.out.below hcb)
 have HL1 := Lib.hid (HL.out.below hcb)
 clear hcb kh HW9 HR9 HJ15 HJ24 HT HL
 obtain ⟨bt, ot, rfl, hbt, hct⟩ := HT1.out (by simp)
 obtain ⟨bl, ol, rfl, hbl, hcl⟩ := HL1.out (by simp)
 have t0 : wc.cell? ⟨bt, ot, none⟩ = some (.int .i64 5) := hct 0 _ rfl 0 _ rfl
 have l0 : wc.cell? ⟨bl, ol, none⟩ = some (.int .i64 103) := hcl 0 _ rfl 0 _ rfl
 have l1 : wc.cell? ⟨bl, ol + 1, none⟩ = some (.int .i64 2) := hcl 0 _ rfl 1 _ rfl
 have q0 : wc.cell? ⟨b3, 0, none⟩ = some (.int .i64 103) := (HJ16.out.cell (k := 0) (x := cRplM) rfl (j := 0) rfl).1
 have q1 : wc.cell? ⟨b3, 1, none⟩ = some (.int .i64 2) := (HJ16.out.cell (k := 0) (x := cRplM) rfl (j := 1) rfl).1
 have q2 : wc.cell? ⟨b3, 20, none⟩ = some (.int .i64 3) := (HJ16.out.cell (k := 1) (x := cRep 3 1 [112, 49]) rfl (j := 0) rfl).1
 have q3 : wc.cell? ⟨b3, 20 + 1, none⟩ = some (.int .i64 1) := (HJ16.out.cell (k := 1) (x := cRep 3 1 [112, 49]) rfl (j := 1) rfl).1
 clear hct hcl hbt hbl
 go_upto_region 12 with fail
 go_cut [19] (fun v19 wd => v19 = .bool true ∧ wd = wc)
 case first =>
  go_wp2_with fail
  go_meet
  case rel => exact ⟨rfl, rfl⟩
 case rest =>
 obtain ⟨rfl, rfl⟩ := hcut
 go_upto_region 13 with fail
 go_quiet (fail)
 go_wp2_with fail
 go_ret
 exact ⟨rfl, Below.drewN' _ HW10.out⟩
end Go.Proofs.YtecnlfaholmpoaaGreat
