/- law20's head: the chapter's examples. -/
import Derived.Test.YtfolcjkednmkoaaGreatJMk
import Derived.Test.YtfolcjkednmkoaaGreatJSw
import Derived.Test.YtfolcjkednmkoaaGreatJVis
import Derived.Deep.DeepCutAuto
set_option linter.unusedVariables false
set_option linter.unusedSimpArgs false
set_option maxRecDepth 20000
set_option maxHeartbeats 40000000
namespace Go.Proofs.YtfolcjkednmkoaaGreat
open Go.RowKit
def exC : List Item := [⟨2, [112, 49], [], [], [], [], false⟩, ⟨2, [112, 50], [], [], [], [], false⟩]
theorem insP_ready (s t : Str) (h : s.length ≤ 100) : (insP s t).Ready := by
 have h9 : (2000 : Nat) ≤ maxLen := by unfold maxLen; omega
 refine ⟨⟨?_, ?_, ?_, ?_, ?_⟩, ?_, ?_⟩ <;> (simp [insP] <;> omega)
theorem wordP_ready (s : Str) (k : Int) : (wordP s k).Ready := by
 refine ⟨⟨?_, ?_, ?_, ?_, ?_⟩, ?_, ?_⟩ <;> simp [wordP, noItem]
theorem movP_ready (s : Str) : (movP s).Ready := by
 refine ⟨⟨?_, ?_, ?_, ?_, ?_⟩, ?_, ?_⟩ <;> simp [movP, noItem]
theorem repP_ready : repP.Ready := by
 refine ⟨⟨?_, ?_, ?_, ?_, ?_⟩, ?_, ?_⟩ <;> simp [repP, noItem]
theorem exC_short : ∀ x ∈ exC, x.Short := by
 intro x hx
 have h : ∀ x ∈ exC, x.id.length ≤ 3 ∧ x.par.length ≤ 3 ∧ x.num.length ≤ 3 ∧ x.no.length ≤ 3 ∧ x.so.length ≤ 3 := by simp [exC]
 obtain ⟨h1, h2, h3, h4, h5⟩ := h x hx
 unfold maxLen at *
 exact ⟨by unfold maxLen; omega, by unfold maxLen; omega, by unfold maxLen; omega, by unfold maxLen; omega, by unfold maxLen; omega⟩
theorem pflat_get : ∀ (ps : List Patch) (k : Nat) (p : Patch) (j : Nat) (v : Value), ps[k]? = some p → p.cells[j]? = some v → (ps.flatMap Patch.cells)[k * 15 + j]? = some v
 | [], k, p, j, v, h, _ => by simp at h
 | q :: r, 0, p, j, v, h, hv => by
   simp at h
   subst h
   have hj : j < q.cells.length := (List.getElem?_eq_some_iff.1 hv).1
   rw [List.flatMap_cons, Nat.zero_mul, Nat.zero_add, List.getElem?_append_left hj]
   exact hv
 | q :: r, k + 1, p, j, v, h, hv => by
   have hq : q.cells.length = 15 := rfl
   rw [List.flatMap_cons, List.getElem?_append_right (by rw [hq]; omega), hq, show (k + 1) * 15 + j - 15 = k * 15 + j by omega]
   exact pflat_get r k p j v (by simpa using h) hv
theorem RdP.lits (W : World) (ps : List Patch) (C : Array Value) (hC : C = (ps.flatMap Patch.cells).toArray) (g : Nat) (hgg : g = W.heap.size) : RdP (W.alloc (.cells C 29)) (some ⟨g, 0, none⟩) ps := by
 subst hgg hC
 intro _
 refine ⟨W.heap.size, 0, rfl, by simp, fun k x hx j v hv => ?_⟩
 rw [cell_of_row _ _ _ _ _ _ (heap_alloc_new W _), List.getElem?_toArray, Nat.zero_add]
 exact pflat_get ps k x j v hx hv
theorem RdG.two {W : World} {b h1 h2 : Nat} {x1 x2 y1 y2 : Nat} (e1 : W.cell? ⟨b, 0, none⟩ = some (.slice (some ⟨h1, 0, none⟩) 2 2)) (e2 : W.cell? ⟨b, 1, none⟩ = some (.slice (some ⟨h2, 0, none⟩) 2 2))
 (c1 : W.cell? ⟨h1, 0, none⟩ = some (.int .i64 (x1 : Int))) (c2 : W.cell? ⟨h1, 1, none⟩ = some (.int .i64 (x2 : Int))) (d1 : W.cell? ⟨h2, 0, none⟩ = some (.int .i64 (y1 : Int))) (d2 : W.cell? ⟨h2, 1, none⟩ = some (.int .i64 (y2 : Int))) (n1 : h1 ≠ b) (n2 : h2 ≠ b) :
 RdG W (some ⟨b, 0, none⟩) [[x1, x2], [y1, y2]] := by
 intro _
 refine ⟨b, rfl, World.block_lt_of_cell? _ _ e1, fun i g hg => ?_⟩
 match i, hg with
 | 0, hg =>
   simp at hg
   subst hg
   refine ⟨h1, 2, e1, by simp, World.block_lt_of_cell? _ _ c1, n1, fun k x hx => ?_⟩
   match k, hx with
   | 0, hx => simp at hx; subst hx; exact c1
   | 1, hx => simp at hx; subst hx; exact c2
   | k + 2, hx => simp at hx
 | 1, hg =>
   simp at hg
   subst hg
   refine ⟨h2, 2, e2, by simp, World.block_lt_of_cell? _ _ d1, n2, fun k x hx => ?_⟩
   match k, hx with
   | 0, hx => simp at hx; subst hx; exact d1
   | 1, hx => simp at hx; subst hx; exact d2
   | k + 2, hx => simp at hx
 | i + 2, hg => simp at hg
theorem lists_lit (G : List (List Nat)) (n : Nat) (hn : n = G.length) (A B : Option Addr) (c d : Nat) (w : World) (hr : RdG w A G) (hs : RdG w B G) (hl : G.length ≤ 1000) (hgl : ∀ g ∈ G, g.length ≤ 1000) :
 Calls Tryz.prog 10 #[.slice A n c, .slice B n d] w fun e w' => e = .returned (.bool true) ∧ Below w.heap.size w w' := by
 subst hn
 exact lists_refl G A B c d w hr hs hl hgl
theorem bl1 {W X : World} (h : Below W.heap.size W X) (o : Obj) : Below W.heap.size W (X.alloc o) := h.alloc h.size _
theorem comm_lit {a b : Patch} {r : Bool} (h : commF a b = r) (ra : a.Ready) (rb : b.Ready) (w : World) (m : Int) (hg : w.cell? ⟨0, 0, none⟩ = some (.int .i64 m)) :
 Calls Tryz.prog 8 #[a.agg, b.agg] w fun e w' => e = .returned (.bool r) ∧ Below w.heap.size w w' := by
 subst h
 exact comm_any a b ra rb w m hg
theorem swap_lit {l : List Item} {a b x y : Patch} {o : Bool} (h : swapF l a b = (x, y, o)) (A : Option Addr) (n c : Nat) (w : World) (hn : n = l.length) (hr : RdI w A l) (hl : l.length ≤ 100000) (hlc : l.length ≤ c) (hsh : ∀ x ∈ l, x.Short) (ra : a.Ready) (rb : b.Ready) (m : Int) (hg : w.cell? ⟨0, 0, none⟩ = some (.int .i64 m)) :
 Calls Tryz.prog 6 #[.agg #[.slice A n c], a.agg, b.agg] w fun e w' => e = .returned (.tuple #[x.agg, y.agg, .bool o]) ∧ Below w.heap.size w w' := by
 subst hn
 have := swap_any l A c a b w hr hl hlc hsh ra rb m hg
 unfold SwapP at this
 rw [h] at this
 exact this
theorem head_c1 : commF (wordP [112, 49] 1) (wordP [112, 49] 2) = true := by kernel_rfl
theorem head_c2 : commF (repP) (wordP [112, 49] 1) = false := by kernel_rfl
theorem head_c3 : commF (repP) (wordP [112, 50] 1) = true := by kernel_rfl
theorem head_c4 : commF (insP [120] [112, 49]) (insP [121] [112, 49]) = false := by kernel_rfl
theorem head_c5 : commF (insP [120] [112, 49]) (insP [121] [112, 50]) = true := by kernel_rfl
theorem head_c6 : commF (movP [112, 49]) (movP [112, 51]) = false := by kernel_rfl
theorem head_s1 : swapF exC (insP [120] [112, 49]) (insP [121] [112, 49]) = (insP [121] [112, 49], insP [120] [121], true) := by kernel_rfl
theorem head_s2 : swapF exC (wordP [112, 49] 1) (wordP [112, 49] 2) = (zeroP, zeroP, false) := by kernel_rfl
def head_ps : List Patch := [insP [120] [112, 49], repP, insP [121] [112, 49], wordP [112, 49] 1]
theorem head_g : groupsF (adjF head_ps) head_ps.length = [[0, 2], [1, 3]] := by kernel_rfl
theorem head_rdy : ∀ p ∈ head_ps, p.Ready := by
 intro p hp
 simp [head_ps] at hp
 rcases hp with rfl | rfl | rfl | rfl
 · exact insP_ready _ _ (by decide)
 · exact repP_ready
 · exact insP_ready _ _ (by decide)
 · exact wordP_ready _ _
theorem head20_any (w : World) (m : Int) (hg : w.cell? ⟨0, 0, none⟩ = some (.int .i64 m)) :
 Calls Tryz.prog 4 #[] w fun e w' => e = .returned (.bool true) ∧ Below w.heap.size w w' := by
 have HG := Lib.hid hg; clear hg
 go_enter Tryz.func4, Tryz.ntmps4
 go_upto_region 2 with fail
 generalize hW1 : World.setRow _ _ _ = W1
 have hb1 : Below w.heap.size w W1 := by rw [← hW1]; exact below_setRow ((Below.refl _ _).alloc (Nat.le_refl _) _) (Nat.le_refl _) _
 have hk1 : W1.blk w.heap.size = some (.cells (patCs repP) 29 (0, 0)) := by rw [← hW1]; exact blk_setRow_at (blk_alloc_at rfl)
 have hz1 : w.heap.size < W1.heap.size := lt_of_heap hk1
 clear hW1
 have HW1 := Lib.hid hb1; clear hb1
 go_cut [2] (fun v2 wc => v2 = .bool true ∧ Below W1.heap.size W1 wc)
 case first =>
  refine wp_region_grew (by kernel_rfl) (by as_aux_lemma => kernel_rfl) ?_
  repeat (go_big_quiet_step (first
   | with_reducible exact Calls_grew (mkwords_any [112, 49] 1 _)
   | with_reducible exact Calls_grew (mkwords_any [112, 49] 2 _)
   | with_reducible exact Calls_grew (mkwords_any [112, 50] 1 _)
   | with_reducible exact Calls_grew (mkins_any [120] [112, 49] _)
   | with_reducible exact Calls_grew (mkins_any [121] [112, 49] _)
   | with_reducible exact Calls_grew (mkins_any [121] [112, 50] _)
   | with_reducible exact Calls_grew (comm_lit head_c1 (wordP_ready _ _) (wordP_ready _ _) _ m (gcell (HW1.out.trans ((grew_below _ _).mono HW1.out.size)) HG.out))
   | with_reducible exact Calls_grew (comm_lit head_c2 repP_ready (wordP_ready _ _) _ m (gcell (HW1.out.trans ((grew_below _ _).mono HW1.out.size)) HG.out))
   | with_reducible exact Calls_grew (comm_lit head_c3 repP_ready (wordP_ready _ _) _ m (gcell (HW1.out.trans ((grew_below _ _).mono HW1.out.size)) HG.out))
   | with_reducible exact Calls_grew (comm_lit head_c4 (insP_ready _ _ (by decide)) (insP_ready _ _ (by decide)) _ m (gcell (HW1.out.trans ((grew_below _ _).mono HW1.out.size)) HG.out))
   | with_reducible exact Calls_grew (comm_lit head_c5 (insP_ready _ _ (by decide)) (insP_ready _ _ (by decide)) _ m (gcell (HW1.out.trans ((grew_below _ _).mono HW1.out.size)) HG.out))))
  refine wpQuiet_nil ?_
  rintro _ ⟨W, rfl⟩
  go_wp2_with fail
  go_meet
  case rel => exact ⟨rfl, grew_below _ _⟩
 case rest =>
 obtain ⟨rfl, hcb⟩ := hcut
 rename_i W2
 have hb2 : Below w.heap.size w wc := HW1.out.trans (hcb.mono HW1.out.size)
 have hk2 := rkeepk hcb hk1
 clear hcb hk1 hz1 HW1
 have hz2 : w.heap.size < wc.heap.size := lt_of_heap hk2
 have HW2 := Lib.hid hb2; clear hb2
 go_upto_region 4 with fail
 go_cut [4] (fun v4 wd => ∃ g0 g1, v4 = .pointer (some ⟨g1, 0, none⟩) ∧ RdI wd (some ⟨g0, 0, none⟩) exC ∧ wd.cell? ⟨g1, 0, none⟩ = some (.slice (some ⟨g0, 0, none⟩) 2 2) ∧ Below wc.heap.size wc wd)
 case first =>
  go_wp2_with fail
  go_meet
  case rel =>
   refine ⟨wc.heap.size, wc.heap.size + 1, rfl, ?_, by simp [go_sem], ((Below.refl _ _).alloc (Nat.le_refl _) _).alloc (by simp) _⟩
   exact RdI.below (RdI.of_row (cur := flat exC) (rest := []) (t := 27) (heap_new_at rfl) (by simp)) ((Below.refl _ _).alloc (Nat.le_refl _) _)
 case rest =>
 obtain ⟨g0, g1, rfl, hr3, hc3, hcb⟩ := hcut
 rename_i wz _ _ _
 have HW3 := Lib.hid (HW2.out.trans (hcb.mono HW2.out.size))
 have hk3 := rkeepk hcb hk2
 have HR3 := Lib.hid hr3
 clear hcb hk2 hz2 HW2 hr3
 go_upto_region 5 with fail
 go_cut [5, 6, 7] (fun v5 v6 v7 wd => ∃ b5 b6, v5 = .pointer (some ⟨b5, 0, none⟩) ∧ v6 = .pointer (some ⟨b6, 0, none⟩) ∧ v7 = .bool true ∧ wd.blk b5 = some (.cells (patCs (insP [121] [112, 49])) 29 (0, 0)) ∧ wd.blk b6 = some (.cells (patCs (insP [120] [121])) 29 (0, 0)) ∧ Below wc.heap.size wc wd)
 case first =>
  refine wp_region_held_drew (S := (fun X => X.cell? ⟨g1, 0, none⟩ = some (.slice (some ⟨g0, 0, none⟩) 2 2))) (by kernel_rfl) hc3 (fun hHeld => ?_)
  refine takeD (i := 0) (v := .agg #[.slice (some ⟨g0, 0, none⟩) 2 2]) (k := 43) rfl rfl (by kernel_rfl) (by kernel_rfl) (by kernel_rfl) (fun _ _ _ h => h) (Or.inl ⟨by rfl, fun z hz => by go_simp⟩) hHeld ?_
  simp only [Act.put, sia, sc0, scs]
  generalize hG : wpAnyH Tryz.prog _ _ _ _ = G
  have e311 : ∀ (W : World) (b8 : Nat) (b9 : Nat), W.cell? ⟨g1, 0, none⟩ = some (.slice (some ⟨g0, 0, none⟩) 2 2) → Below wc.heap.size wc W → W.blk b8 = some (.cells (patCs zeroP) 29 (0, 0)) → wc.heap.size ≤ b8 → W.blk b9 = some (.cells (patCs zeroP) 29 (0, 0)) → wc.heap.size ≤ b9 → b8 ≠ b9 → G 3 #[true, true, true, true, true, true, true, true, true, true, false, false, false] ⟨#[.bool false, .pointer (some ⟨w.heap.size, 0, none⟩), .bool true, .func (.func 15) #[] #[], .pointer (some ⟨g1, 0, none⟩), .pointer (some ⟨b8, 0, none⟩), .pointer (some ⟨b9, 0, none⟩), undef, u8, u9, undef, undef, u12, u13, u14, u15, u16, u17, u18, u19, u20, u21, u22, u23, u24, u25, u26, u27, u28, u29, u30, u31, u32, u33, u34, u35, u36, u37, u38, u39, u40, u41, .tuple #[(insP [121] [112, 49]).agg, (insP [120] [121]).agg, .bool true], .agg #[.slice (some ⟨g0, 0, none⟩) 2 2], (insP [120] [112, 49]).agg, (insP [121] [112, 49]).agg, .tuple #[(insP [121] [112, 49]).agg, (insP [120] [121]).agg, .bool true], (insP [121] [112, 49]).agg, (insP [120] [121]).agg, .bool true, u50, u51, u52, u53, u54, u55, u56, u57, u58, u59, u60, u61, u62, u63, u64, u65, u66, u67, u68, u69, u70, u71, u72, u73, u74, u75, u76, u77, u78, u79, u80, u81, u82, u83, u84, u85, u86, u87, u88, u89, u90, u91, u92, u93, u94, u95, u96], []⟩ W := by
   intro W b8 b9 hS hB h8 l8 h9 l9 hn
   rw [← hG]
   have hB8 := below_setRow hB l8 (patCs (insP [121] [112, 49]))
   have hB9 := below_setRow hB8 l9 (patCs (insP [120] [121]))
   refine wpAnyH_ready (rs := [10]) (by kernel_rfl) (by simp) (AllReadyH.cons rfl (fun K hK => ?_) AllReadyH.nil)
   refine step_store_pat rfl (.tmp 5) (.tmp 47) rfl b8 (insP [121] [112, 49]) zeroP rfl rfl h8 ?_
   refine hK.out _ _ (keepw hB8 hc3) (fun hHeld => ?_)
   clear hK K
   simp only [Act.put, sia, sc0, scs]
   refine wpAnyH_ready (rs := [11]) (by kernel_rfl) (by simp) (AllReadyH.cons rfl (fun K hK => ?_) AllReadyH.nil)
   refine step_store_pat rfl (.tmp 6) (.tmp 48) rfl b9 (insP [120] [121]) zeroP rfl rfl ((blk_setRow_ne (Ne.symm hn)).trans h9) ?_
   refine hK.out _ _ (keepw hB9 hc3) (fun hHeld => ?_)
   clear hK K
   simp only [Act.put, sia, sc0, scs]
   refine takeD (i := 12) (v := .bool true) (k := 7) rfl rfl (by kernel_rfl) (by kernel_rfl) (by kernel_rfl) (fun _ _ _ h => h) (Or.inl ⟨by rfl, fun z hz => by go_simp⟩) hHeld ?_
   simp only [Act.put, sia, sc0, scs]
   refine wpAnyH_done (by kernel_rfl) ?_ _
   go_wp2_with fail
   go_meet
   case rel => exact ⟨b8, b9, rfl, rfl, rfl, (blk_setRow_ne hn).trans (blk_setRow_at h8), blk_setRow_at ((blk_setRow_ne (Ne.symm hn)).trans h9), hB9⟩
  have e310 : ∀ (W : World) (b8 : Nat), W.cell? ⟨g1, 0, none⟩ = some (.slice (some ⟨g0, 0, none⟩) 2 2) → Below wc.heap.size wc W → W.blk b8 = some (.cells (patCs zeroP) 29 (0, 0)) → wc.heap.size ≤ b8 → G 4 #[true, true, true, true, true, true, true, true, true, false, false, false, false] ⟨#[.bool false, .pointer (some ⟨w.heap.size, 0, none⟩), .bool true, .func (.func 15) #[] #[], .pointer (some ⟨g1, 0, none⟩), .pointer (some ⟨b8, 0, none⟩), undef, undef, u8, u9, undef, undef, u12, u13, u14, u15, u16, u17, u18, u19, u20, u21, u22, u23, u24, u25, u26, u27, u28, u29, u30, u31, u32, u33, u34, u35, u36, u37, u38, u39, u40, u41, .tuple #[(insP [121] [112, 49]).agg, (insP [120] [121]).agg, .bool true], .agg #[.slice (some ⟨g0, 0, none⟩) 2 2], (insP [120] [112, 49]).agg, (insP [121] [112, 49]).agg, .tuple #[(insP [121] [112, 49]).agg, (insP [120] [121]).agg, .bool true], (insP [121] [112, 49]).agg, (insP [120] [121]).agg, .bool true, u50, u51, u52, u53, u54, u55, u56, u57, u58, u59, u60, u61, u62, u63, u64, u65, u66, u67, u68, u69, u70, u71, u72, u73, u74, u75, u76, u77, u78, u79, u80, u81, u82, u83, u84, u85, u86, u87, u88, u89, u90, u91, u92, u93, u94, u95, u96], []⟩ W := by
   intro W b8 hS hB h8 l8
   rw [← hG]
   refine wpAnyH_ready (rs := [9]) (by kernel_rfl) (by simp) (AllReadyH.cons rfl (fun K hK => ?_) (AllReadyH.nil))
   · go_simp
     have hB2 := bl1 hB (.cells (patCs zeroP) 29)
     have hb2 : Below W.heap.size W (W.alloc (.cells (patCs zeroP) 29)) := bl1 (Below.refl _ _) _
     have hS2 := keepw hb2 hS
     have l9 := hB.size
     have k9 : (W.alloc (.cells (patCs zeroP) 29)).blk W.heap.size = some (.cells (patCs zeroP) 29 (0, 0)) := blk_alloc_at rfl
     have k8 := rkeepk hb2 h8
     have hn2 : b8 ≠ W.heap.size := Nat.ne_of_lt (lt_of_heap h8)
     clear hb2
     refine hK.out _ _ hS2 (fun hHeld => ?_)
     clear hK K
     simp only [Act.put, sia, sc0, scs]
     have := e311 _ b8 W.heap.size hS2 hB2 k8 l8 k9 l9 hn2
     rw [← hG] at this
     exact this
  have e301 : ∀ (W : World) (b9 : Nat), W.cell? ⟨g1, 0, none⟩ = some (.slice (some ⟨g0, 0, none⟩) 2 2) → Below wc.heap.size wc W → W.blk b9 = some (.cells (patCs zeroP) 29 (0, 0)) → wc.heap.size ≤ b9 → G 4 #[true, true, true, true, true, true, true, true, false, true, false, false, false] ⟨#[.bool false, .pointer (some ⟨w.heap.size, 0, none⟩), .bool true, .func (.func 15) #[] #[], .pointer (some ⟨g1, 0, none⟩), undef, .pointer (some ⟨b9, 0, none⟩), undef, u8, u9, undef, undef, u12, u13, u14, u15, u16, u17, u18, u19, u20, u21, u22, u23, u24, u25, u26, u27, u28, u29, u30, u31, u32, u33, u34, u35, u36, u37, u38, u39, u40, u41, .tuple #[(insP [121] [112, 49]).agg, (insP [120] [121]).agg, .bool true], .agg #[.slice (some ⟨g0, 0, none⟩) 2 2], (insP [120] [112, 49]).agg, (insP [121] [112, 49]).agg, .tuple #[(insP [121] [112, 49]).agg, (insP [120] [121]).agg, .bool true], (insP [121] [112, 49]).agg, (insP [120] [121]).agg, .bool true, u50, u51, u52, u53, u54, u55, u56, u57, u58, u59, u60, u61, u62, u63, u64, u65, u66, u67, u68, u69, u70, u71, u72, u73, u74, u75, u76, u77, u78, u79, u80, u81, u82, u83, u84, u85, u86, u87, u88, u89, u90, u91, u92, u93, u94, u95, u96], []⟩ W := by
   intro W b9 hS hB h9 l9
   rw [← hG]
   refine wpAnyH_ready (rs := [8]) (by kernel_rfl) (by simp) (AllReadyH.cons rfl (fun K hK => ?_) (AllReadyH.nil))
   · go_simp
     have hB2 := bl1 hB (.cells (patCs zeroP) 29)
     have hb2 : Below W.heap.size W (W.alloc (.cells (patCs zeroP) 29)) := bl1 (Below.refl _ _) _
     have hS2 := keepw hb2 hS
     have l8 := hB.size
     have k8 : (W.alloc (.cells (patCs zeroP) 29)).blk W.heap.size = some (.cells (patCs zeroP) 29 (0, 0)) := blk_alloc_at rfl
     have k9 := rkeepk hb2 h9
     have hn2 : W.heap.size ≠ b9 := (Nat.ne_of_lt (lt_of_heap h9)).symm
     clear hb2
     refine hK.out _ _ hS2 (fun hHeld => ?_)
     clear hK K
     simp only [Act.put, sia, sc0, scs]
     have := e311 _ W.heap.size b9 hS2 hB2 k8 l8 k9 l9 hn2
     rw [← hG] at this
     exact this
  have e300 : ∀ (W : World), W.cell? ⟨g1, 0, none⟩ = some (.slice (some ⟨g0, 0, none⟩) 2 2) → Below wc.heap.size wc W → G 5 #[true, true, true, true, true, true, true, true, false, false, false, false, false] ⟨#[.bool false, .pointer (some ⟨w.heap.size, 0, none⟩), .bool true, .func (.func 15) #[] #[], .pointer (some ⟨g1, 0, none⟩), undef, undef, undef, u8, u9, undef, undef, u12, u13, u14, u15, u16, u17, u18, u19, u20, u21, u22, u23, u24, u25, u26, u27, u28, u29, u30, u31, u32, u33, u34, u35, u36, u37, u38, u39, u40, u41, .tuple #[(insP [121] [112, 49]).agg, (insP [120] [121]).agg, .bool true], .agg #[.slice (some ⟨g0, 0, none⟩) 2 2], (insP [120] [112, 49]).agg, (insP [121] [112, 49]).agg, .tuple #[(insP [121] [112, 49]).agg, (insP [120] [121]).agg, .bool true], (insP [121] [112, 49]).agg, (insP [120] [121]).agg, .bool true, u50, u51, u52, u53, u54, u55, u56, u57, u58, u59, u60, u61, u62, u63, u64, u65, u66, u67, u68, u69, u70, u71, u72, u73, u74, u75, u76, u77, u78, u79, u80, u81, u82, u83, u84, u85, u86, u87, u88, u89, u90, u91, u92, u93, u94, u95, u96], []⟩ W := by
   intro W hS hB
   rw [← hG]
   refine wpAnyH_ready (rs := [8, 9]) (by kernel_rfl) (by simp) (AllReadyH.cons rfl (fun K hK => ?_) (AllReadyH.cons rfl (fun K hK => ?_) (AllReadyH.nil)))
   · go_simp
     have hB2 := bl1 hB (.cells (patCs zeroP) 29)
     have hb2 : Below W.heap.size W (W.alloc (.cells (patCs zeroP) 29)) := bl1 (Below.refl _ _) _
     have hS2 := keepw hb2 hS
     have l8 := hB.size
     have k8 : (W.alloc (.cells (patCs zeroP) 29)).blk W.heap.size = some (.cells (patCs zeroP) 29 (0, 0)) := blk_alloc_at rfl
     clear hb2
     refine hK.out _ _ hS2 (fun hHeld => ?_)
     clear hK K
     simp only [Act.put, sia, sc0, scs]
     have := e310 _ W.heap.size hS2 hB2 k8 l8
     rw [← hG] at this
     exact this
   · go_simp
     have hB2 := bl1 hB (.cells (patCs zeroP) 29)
     have hb2 : Below W.heap.size W (W.alloc (.cells (patCs zeroP) 29)) := bl1 (Below.refl _ _) _
     have hS2 := keepw hb2 hS
     have l9 := hB.size
     have k9 : (W.alloc (.cells (patCs zeroP) 29)).blk W.heap.size = some (.cells (patCs zeroP) 29 (0, 0)) := blk_alloc_at rfl
     clear hb2
     refine hK.out _ _ hS2 (fun hHeld => ?_)
     clear hK K
     simp only [Act.put, sia, sc0, scs]
     have := e301 _ W.heap.size hS2 hB2 k9 l9
     rw [← hG] at this
     exact this
  have e211 : ∀ (W : World) (b8 : Nat) (b9 : Nat), W.cell? ⟨g1, 0, none⟩ = some (.slice (some ⟨g0, 0, none⟩) 2 2) → Below wc.heap.size wc W → W.blk b8 = some (.cells (patCs zeroP) 29 (0, 0)) → wc.heap.size ≤ b8 → W.blk b9 = some (.cells (patCs zeroP) 29 (0, 0)) → wc.heap.size ≤ b9 → b8 ≠ b9 → G 8 #[true, true, true, false, false, false, false, false, true, true, false, false, false] ⟨#[.bool false, .pointer (some ⟨w.heap.size, 0, none⟩), .bool true, .func (.func 15) #[] #[], .pointer (some ⟨g1, 0, none⟩), .pointer (some ⟨b8, 0, none⟩), .pointer (some ⟨b9, 0, none⟩), undef, u8, u9, undef, undef, u12, u13, u14, u15, u16, u17, u18, u19, u20, u21, u22, u23, u24, u25, u26, u27, u28, u29, u30, u31, u32, u33, u34, u35, u36, u37, u38, u39, u40, u41, u42, .agg #[.slice (some ⟨g0, 0, none⟩) 2 2], (insP [120] [112, 49]).agg, (insP [121] [112, 49]).agg, u46, u47, u48, u49, u50, u51, u52, u53, u54, u55, u56, u57, u58, u59, u60, u61, u62, u63, u64, u65, u66, u67, u68, u69, u70, u71, u72, u73, u74, u75, u76, u77, u78, u79, u80, u81, u82, u83, u84, u85, u86, u87, u88, u89, u90, u91, u92, u93, u94, u95, u96], []⟩ W := by
   intro W b8 b9 hS hB h8 l8 h9 l9 hn
   rw [← hG]
   refine wpAnyH_ready (rs := [3]) (by kernel_rfl) (by simp) (AllReadyH.cons rfl (fun K hK => ?_) (AllReadyH.nil))
   · go_simp
     refine (swap_lit head_s1 (some ⟨g0, 0, none⟩) 2 2 _ rfl (HR3.out.below hB) (by decide) (by decide) exC_short (insP_ready _ _ (by decide)) (insP_ready _ _ (by decide)) m (gcell (chain2 HW3.out hB) HG.out)).mono ?_
     rintro e W2 ⟨rfl, hb2⟩
     have hS2 := keepw hb2 hS
     have hB2 := chain2 hB hb2
     have k8 := rkeepk hb2 h8
     have k9 := rkeepk hb2 h9
     clear hb2
     go_wp2_with fail
     refine hK.out _ _ hS2 (fun hHeld => ?_)
     clear hK K
     simp only [Act.put, sia, sc0, scs]
     refine takeD (i := 4) (v := .tuple #[(insP [121] [112, 49]).agg, (insP [120] [121]).agg, .bool true]) (k := 42) rfl rfl (by kernel_rfl) (by kernel_rfl) (by kernel_rfl) (fun _ _ _ h => h) (Or.inl ⟨by rfl, fun z hz => by go_simp⟩) hHeld ?_
     simp only [Act.put, sia, sc0, scs]
     refine takeD (i := 5) (v := (insP [121] [112, 49]).agg) (k := 47) rfl rfl (by kernel_rfl) (by kernel_rfl) (by kernel_rfl) (fun _ _ _ h => h) (Or.inl ⟨by rfl, fun z hz => by go_simp⟩) hHeld ?_
     simp only [Act.put, sia, sc0, scs]
     refine takeD (i := 6) (v := (insP [120] [121]).agg) (k := 48) rfl rfl (by kernel_rfl) (by kernel_rfl) (by kernel_rfl) (fun _ _ _ h => h) (Or.inl ⟨by rfl, fun z hz => by go_simp⟩) hHeld ?_
     simp only [Act.put, sia, sc0, scs]
     refine takeD (i := 7) (v := .bool true) (k := 49) rfl rfl (by kernel_rfl) (by kernel_rfl) (by kernel_rfl) (fun _ _ _ h => h) (Or.inl ⟨by rfl, fun z hz => by go_simp⟩) hHeld ?_
     simp only [Act.put, sia, sc0, scs]
     have := e311 W2 b8 b9 hS2 hB2 k8 l8 k9 l9 hn
     rw [← hG] at this
     exact this
  have e210 : ∀ (W : World) (b8 : Nat), W.cell? ⟨g1, 0, none⟩ = some (.slice (some ⟨g0, 0, none⟩) 2 2) → Below wc.heap.size wc W → W.blk b8 = some (.cells (patCs zeroP) 29 (0, 0)) → wc.heap.size ≤ b8 → G 9 #[true, true, true, false, false, false, false, false, true, false, false, false, false] ⟨#[.bool false, .pointer (some ⟨w.heap.size, 0, none⟩), .bool true, .func (.func 15) #[] #[], .pointer (some ⟨g1, 0, none⟩), .pointer (some ⟨b8, 0, none⟩), undef, undef, u8, u9, undef, undef, u12, u13, u14, u15, u16, u17, u18, u19, u20, u21, u22, u23, u24, u25, u26, u27, u28, u29, u30, u31, u32, u33, u34, u35, u36, u37, u38, u39, u40, u41, u42, .agg #[.slice (some ⟨g0, 0, none⟩) 2 2], (insP [120] [112, 49]).agg, (insP [121] [112, 49]).agg, u46, u47, u48, u49, u50, u51, u52, u53, u54, u55, u56, u57, u58, u59, u60, u61, u62, u63, u64, u65, u66, u67, u68, u69, u70, u71, u72, u73, u74, u75, u76, u77, u78, u79, u80, u81, u82, u83, u84, u85, u86, u87, u88, u89, u90, u91, u92, u93, u94, u95, u96], []⟩ W := by
   intro W b8 hS hB h8 l8
   rw [← hG]
   refine wpAnyH_ready (rs := [3, 9]) (by kernel_rfl) (by simp) (AllReadyH.cons rfl (fun K hK => ?_) (AllReadyH.cons rfl (fun K hK => ?_) (AllReadyH.nil)))
   · go_simp
     refine (swap_lit head_s1 (some ⟨g0, 0, none⟩) 2 2 _ rfl (HR3.out.below hB) (by decide) (by decide) exC_short (insP_ready _ _ (by decide)) (insP_ready _ _ (by decide)) m (gcell (chain2 HW3.out hB) HG.out)).mono ?_
     rintro e W2 ⟨rfl, hb2⟩
     have hS2 := keepw hb2 hS
     have hB2 := chain2 hB hb2
     have k8 := rkeepk hb2 h8
     clear hb2
     go_wp2_with fail
     refine hK.out _ _ hS2 (fun hHeld => ?_)
     clear hK K
     simp only [Act.put, sia, sc0, scs]
     refine takeD (i := 4) (v := .tuple #[(insP [121] [112, 49]).agg, (insP [120] [121]).agg, .bool true]) (k := 42) rfl rfl (by kernel_rfl) (by kernel_rfl) (by kernel_rfl) (fun _ _ _ h => h) (Or.inl ⟨by rfl, fun z hz => by go_simp⟩) hHeld ?_
     simp only [Act.put, sia, sc0, scs]
     refine takeD (i := 5) (v := (insP [121] [112, 49]).agg) (k := 47) rfl rfl (by kernel_rfl) (by kernel_rfl) (by kernel_rfl) (fun _ _ _ h => h) (Or.inl ⟨by rfl, fun z hz => by go_simp⟩) hHeld ?_
     simp only [Act.put, sia, sc0, scs]
     refine takeD (i := 6) (v := (insP [120] [121]).agg) (k := 48) rfl rfl (by kernel_rfl) (by kernel_rfl) (by kernel_rfl) (fun _ _ _ h => h) (Or.inl ⟨by rfl, fun z hz => by go_simp⟩) hHeld ?_
     simp only [Act.put, sia, sc0, scs]
     refine takeD (i := 7) (v := .bool true) (k := 49) rfl rfl (by kernel_rfl) (by kernel_rfl) (by kernel_rfl) (fun _ _ _ h => h) (Or.inl ⟨by rfl, fun z hz => by go_simp⟩) hHeld ?_
     simp only [Act.put, sia, sc0, scs]
     have := e310 W2 b8 hS2 hB2 k8 l8
     rw [← hG] at this
     exact this
   · go_simp
     have hB2 := bl1 hB (.cells (patCs zeroP) 29)
     have hb2 : Below W.heap.size W (W.alloc (.cells (patCs zeroP) 29)) := bl1 (Below.refl _ _) _
     have hS2 := keepw hb2 hS
     have l9 := hB.size
     have k9 : (W.alloc (.cells (patCs zeroP) 29)).blk W.heap.size = some (.cells (patCs zeroP) 29 (0, 0)) := blk_alloc_at rfl
     have k8 := rkeepk hb2 h8
     have hn2 : b8 ≠ W.heap.size := Nat.ne_of_lt (lt_of_heap h8)
     clear hb2
     refine hK.out _ _ hS2 (fun hHeld => ?_)
     clear hK K
     simp only [Act.put, sia, sc0, scs]
     have := e211 _ b8 W.heap.size hS2 hB2 k8 l8 k9 l9 hn2
     rw [← hG] at this
     exact this
  have e201 : ∀ (W : World) (b9 : Nat), W.cell? ⟨g1, 0, none⟩ = some (.slice (some ⟨g0, 0, none⟩) 2 2) → Below wc.heap.size wc W → W.blk b9 = some (.cells (patCs zeroP) 29 (0, 0)) → wc.heap.size ≤ b9 → G 9 #[true, true, true, false, false, false, false, false, false, true, false, false, false] ⟨#[.bool false, .pointer (some ⟨w.heap.size, 0, none⟩), .bool true, .func (.func 15) #[] #[], .pointer (some ⟨g1, 0, none⟩), undef, .pointer (some ⟨b9, 0, none⟩), undef, u8, u9, undef, undef, u12, u13, u14, u15, u16, u17, u18, u19, u20, u21, u22, u23, u24, u25, u26, u27, u28, u29, u30, u31, u32, u33, u34, u35, u36, u37, u38, u39, u40, u41, u42, .agg #[.slice (some ⟨g0, 0, none⟩) 2 2], (insP [120] [112, 49]).agg, (insP [121] [112, 49]).agg, u46, u47, u48, u49, u50, u51, u52, u53, u54, u55, u56, u57, u58, u59, u60, u61, u62, u63, u64, u65, u66, u67, u68, u69, u70, u71, u72, u73, u74, u75, u76, u77, u78, u79, u80, u81, u82, u83, u84, u85, u86, u87, u88, u89, u90, u91, u92, u93, u94, u95, u96], []⟩ W := by
   intro W b9 hS hB h9 l9
   rw [← hG]
   refine wpAnyH_ready (rs := [3, 8]) (by kernel_rfl) (by simp) (AllReadyH.cons rfl (fun K hK => ?_) (AllReadyH.cons rfl (fun K hK => ?_) (AllReadyH.nil)))
   · go_simp
     refine (swap_lit head_s1 (some ⟨g0, 0, none⟩) 2 2 _ rfl (HR3.out.below hB) (by decide) (by decide) exC_short (insP_ready _ _ (by decide)) (insP_ready _ _ (by decide)) m (gcell (chain2 HW3.out hB) HG.out)).mono ?_
     rintro e W2 ⟨rfl, hb2⟩
     have hS2 := keepw hb2 hS
     have hB2 := chain2 hB hb2
     have k9 := rkeepk hb2 h9
     clear hb2
     go_wp2_with fail
     refine hK.out _ _ hS2 (fun hHeld => ?_)
     clear hK K
     simp only [Act.put, sia, sc0, scs]
     refine takeD (i := 4) (v := .tuple #[(insP [121] [112, 49]).agg, (insP [120] [121]).agg, .bool true]) (k := 42) rfl rfl (by kernel_rfl) (by kernel_rfl) (by kernel_rfl) (fun _ _ _ h => h) (Or.inl ⟨by rfl, fun z hz => by go_simp⟩) hHeld ?_
     simp only [Act.put, sia, sc0, scs]
     refine takeD (i := 5) (v := (insP [121] [112, 49]).agg) (k := 47) rfl rfl (by kernel_rfl) (by kernel_rfl) (by kernel_rfl) (fun _ _ _ h => h) (Or.inl ⟨by rfl, fun z hz => by go_simp⟩) hHeld ?_
     simp only [Act.put, sia, sc0, scs]
     refine takeD (i := 6) (v := (insP [120] [121]).agg) (k := 48) rfl rfl (by kernel_rfl) (by kernel_rfl) (by kernel_rfl) (fun _ _ _ h => h) (Or.inl ⟨by rfl, fun z hz => by go_simp⟩) hHeld ?_
     simp only [Act.put, sia, sc0, scs]
     refine takeD (i := 7) (v := .bool true) (k := 49) rfl rfl (by kernel_rfl) (by kernel_rfl) (by kernel_rfl) (fun _ _ _ h => h) (Or.inl ⟨by rfl, fun z hz => by go_simp⟩) hHeld ?_
     simp only [Act.put, sia, sc0, scs]
     have := e301 W2 b9 hS2 hB2 k9 l9
     rw [← hG] at this
     exact this
   · go_simp
     have hB2 := bl1 hB (.cells (patCs zeroP) 29)
     have hb2 : Below W.heap.size W (W.alloc (.cells (patCs zeroP) 29)) := bl1 (Below.refl _ _) _
     have hS2 := keepw hb2 hS
     have l8 := hB.size
     have k8 : (W.alloc (.cells (patCs zeroP) 29)).blk W.heap.size = some (.cells (patCs zeroP) 29 (0, 0)) := blk_alloc_at rfl
     have k9 := rkeepk hb2 h9
     have hn2 : W.heap.size ≠ b9 := (Nat.ne_of_lt (lt_of_heap h9)).symm
     clear hb2
     refine hK.out _ _ hS2 (fun hHeld => ?_)
     clear hK K
     simp only [Act.put, sia, sc0, scs]
     have := e211 _ W.heap.size b9 hS2 hB2 k8 l8 k9 l9 hn2
     rw [← hG] at this
     exact this
  have e200 : ∀ (W : World), W.cell? ⟨g1, 0, none⟩ = some (.slice (some ⟨g0, 0, none⟩) 2 2) → Below wc.heap.size wc W → G 10 #[true, true, true, false, false, false, false, false, false, false, false, false, false] ⟨#[.bool false, .pointer (some ⟨w.heap.size, 0, none⟩), .bool true, .func (.func 15) #[] #[], .pointer (some ⟨g1, 0, none⟩), undef, undef, undef, u8, u9, undef, undef, u12, u13, u14, u15, u16, u17, u18, u19, u20, u21, u22, u23, u24, u25, u26, u27, u28, u29, u30, u31, u32, u33, u34, u35, u36, u37, u38, u39, u40, u41, u42, .agg #[.slice (some ⟨g0, 0, none⟩) 2 2], (insP [120] [112, 49]).agg, (insP [121] [112, 49]).agg, u46, u47, u48, u49, u50, u51, u52, u53, u54, u55, u56, u57, u58, u59, u60, u61, u62, u63, u64, u65, u66, u67, u68, u69, u70, u71, u72, u73, u74, u75, u76, u77, u78, u79, u80, u81, u82, u83, u84, u85, u86, u87, u88, u89, u90, u91, u92, u93, u94, u95, u96], []⟩ W := by
   intro W hS hB
   rw [← hG]
   refine wpAnyH_ready (rs := [3, 8, 9]) (by kernel_rfl) (by simp) (AllReadyH.cons rfl (fun K hK => ?_) (AllReadyH.cons rfl (fun K hK => ?_) (AllReadyH.cons rfl (fun K hK => ?_) (AllReadyH.nil))))
   · go_simp
     refine (swap_lit head_s1 (some ⟨g0, 0, none⟩) 2 2 _ rfl (HR3.out.below hB) (by decide) (by decide) exC_short (insP_ready _ _ (by decide)) (insP_ready _ _ (by decide)) m (gcell (chain2 HW3.out hB) HG.out)).mono ?_
     rintro e W2 ⟨rfl, hb2⟩
     have hS2 := keepw hb2 hS
     have hB2 := chain2 hB hb2
     clear hb2
     go_wp2_with fail
     refine hK.out _ _ hS2 (fun hHeld => ?_)
     clear hK K
     simp only [Act.put, sia, sc0, scs]
     refine takeD (i := 4) (v := .tuple #[(insP [121] [112, 49]).agg, (insP [120] [121]).agg, .bool true]) (k := 42) rfl rfl (by kernel_rfl) (by kernel_rfl) (by kernel_rfl) (fun _ _ _ h => h) (Or.inl ⟨by rfl, fun z hz => by go_simp⟩) hHeld ?_
     simp only [Act.put, sia, sc0, scs]
     refine takeD (i := 5) (v := (insP [121] [112, 49]).agg) (k := 47) rfl rfl (by kernel_rfl) (by kernel_rfl) (by kernel_rfl) (fun _ _ _ h => h) (Or.inl ⟨by rfl, fun z hz => by go_simp⟩) hHeld ?_
     simp only [Act.put, sia, sc0, scs]
     refine takeD (i := 6) (v := (insP [120] [121]).agg) (k := 48) rfl rfl (by kernel_rfl) (by kernel_rfl) (by kernel_rfl) (fun _ _ _ h => h) (Or.inl ⟨by rfl, fun z hz => by go_simp⟩) hHeld ?_
     simp only [Act.put, sia, sc0, scs]
     refine takeD (i := 7) (v := .bool true) (k := 49) rfl rfl (by kernel_rfl) (by kernel_rfl) (by kernel_rfl) (fun _ _ _ h => h) (Or.inl ⟨by rfl, fun z hz => by go_simp⟩) hHeld ?_
     simp only [Act.put, sia, sc0, scs]
     have := e300 W2 hS2 hB2
     rw [← hG] at this
     exact this
   · go_simp
     have hB2 := bl1 hB (.cells (patCs zeroP) 29)
     have hb2 : Below W.heap.size W (W.alloc (.cells (patCs zeroP) 29)) := bl1 (Below.refl _ _) _
     have hS2 := keepw hb2 hS
     have l8 := hB.size
     have k8 : (W.alloc (.cells (patCs zeroP) 29)).blk W.heap.size = some (.cells (patCs zeroP) 29 (0, 0)) := blk_alloc_at rfl
     clear hb2
     refine hK.out _ _ hS2 (fun hHeld => ?_)
     clear hK K
     simp only [Act.put, sia, sc0, scs]
     have := e210 _ W.heap.size hS2 hB2 k8 l8
     rw [← hG] at this
     exact this
   · go_simp
     have hB2 := bl1 hB (.cells (patCs zeroP) 29)
     have hb2 : Below W.heap.size W (W.alloc (.cells (patCs zeroP) 29)) := bl1 (Below.refl _ _) _
     have hS2 := keepw hb2 hS
     have l9 := hB.size
     have k9 : (W.alloc (.cells (patCs zeroP) 29)).blk W.heap.size = some (.cells (patCs zeroP) 29 (0, 0)) := blk_alloc_at rfl
     clear hb2
     refine hK.out _ _ hS2 (fun hHeld => ?_)
     clear hK K
     simp only [Act.put, sia, sc0, scs]
     have := e201 _ W.heap.size hS2 hB2 k9 l9
     rw [← hG] at this
     exact this
  have e111 : ∀ (W : World) (b8 : Nat) (b9 : Nat), W.cell? ⟨g1, 0, none⟩ = some (.slice (some ⟨g0, 0, none⟩) 2 2) → Below wc.heap.size wc W → W.blk b8 = some (.cells (patCs zeroP) 29 (0, 0)) → wc.heap.size ≤ b8 → W.blk b9 = some (.cells (patCs zeroP) 29 (0, 0)) → wc.heap.size ≤ b9 → b8 ≠ b9 → G 9 #[true, true, false, false, false, false, false, false, true, true, false, false, false] ⟨#[.bool false, .pointer (some ⟨w.heap.size, 0, none⟩), .bool true, .func (.func 15) #[] #[], .pointer (some ⟨g1, 0, none⟩), .pointer (some ⟨b8, 0, none⟩), .pointer (some ⟨b9, 0, none⟩), undef, u8, u9, undef, undef, u12, u13, u14, u15, u16, u17, u18, u19, u20, u21, u22, u23, u24, u25, u26, u27, u28, u29, u30, u31, u32, u33, u34, u35, u36, u37, u38, u39, u40, u41, u42, .agg #[.slice (some ⟨g0, 0, none⟩) 2 2], (insP [120] [112, 49]).agg, u45, u46, u47, u48, u49, u50, u51, u52, u53, u54, u55, u56, u57, u58, u59, u60, u61, u62, u63, u64, u65, u66, u67, u68, u69, u70, u71, u72, u73, u74, u75, u76, u77, u78, u79, u80, u81, u82, u83, u84, u85, u86, u87, u88, u89, u90, u91, u92, u93, u94, u95, u96], []⟩ W := by
   intro W b8 b9 hS hB h8 l8 h9 l9 hn
   rw [← hG]
   refine wpAnyH_ready (rs := [2]) (by kernel_rfl) (by simp) (AllReadyH.cons rfl (fun K hK => ?_) (AllReadyH.nil))
   · go_simp
     refine (mkins_any [121] [112, 49] _).mono ?_
     rintro e W2 ⟨rfl, hb2⟩
     have hS2 := keepw hb2 hS
     have hB2 := chain2 hB hb2
     have k8 := rkeepk hb2 h8
     have k9 := rkeepk hb2 h9
     clear hb2
     go_wp2_with fail
     refine hK.out _ _ hS2 (fun hHeld => ?_)
     clear hK K
     simp only [Act.put, sia, sc0, scs]
     have := e211 W2 b8 b9 hS2 hB2 k8 l8 k9 l9 hn
     rw [← hG] at this
     exact this
  have e110 : ∀ (W : World) (b8 : Nat), W.cell? ⟨g1, 0, none⟩ = some (.slice (some ⟨g0, 0, none⟩) 2 2) → Below wc.heap.size wc W → W.blk b8 = some (.cells (patCs zeroP) 29 (0, 0)) → wc.heap.size ≤ b8 → G 10 #[true, true, false, false, false, false, false, false, true, false, false, false, false] ⟨#[.bool false, .pointer (some ⟨w.heap.size, 0, none⟩), .bool true, .func (.func 15) #[] #[], .pointer (some ⟨g1, 0, none⟩), .pointer (some ⟨b8, 0, none⟩), undef, undef, u8, u9, undef, undef, u12, u13, u14, u15, u16, u17, u18, u19, u20, u21, u22, u23, u24, u25, u26, u27, u28, u29, u30, u31, u32, u33, u34, u35, u36, u37, u38, u39, u40, u41, u42, .agg #[.slice (some ⟨g0, 0, none⟩) 2 2], (insP [120] [112, 49]).agg, u45, u46, u47, u48, u49, u50, u51, u52, u53, u54, u55, u56, u57, u58, u59, u60, u61, u62, u63, u64, u65, u66, u67, u68, u69, u70, u71, u72, u73, u74, u75, u76, u77, u78, u79, u80, u81, u82, u83, u84, u85, u86, u87, u88, u89, u90, u91, u92, u93, u94, u95, u96], []⟩ W := by
   intro W b8 hS hB h8 l8
   rw [← hG]
   refine wpAnyH_ready (rs := [2, 9]) (by kernel_rfl) (by simp) (AllReadyH.cons rfl (fun K hK => ?_) (AllReadyH.cons rfl (fun K hK => ?_) (AllReadyH.nil)))
   · go_simp
     refine (mkins_any [121] [112, 49] _).mono ?_
     rintro e W2 ⟨rfl, hb2⟩
     have hS2 := keepw hb2 hS
     have hB2 := chain2 hB hb2
     have k8 := rkeepk hb2 h8
     clear hb2
     go_wp2_with fail
     refine hK.out _ _ hS2 (fun hHeld => ?_)
     clear hK K
     simp only [Act.put, sia, sc0, scs]
     have := e210 W2 b8 hS2 hB2 k8 l8
     rw [← hG] at this
     exact this
   · go_simp
     have hB2 := bl1 hB (.cells (patCs zeroP) 29)
     have hb2 : Below W.heap.size W (W.alloc (.cells (patCs zeroP) 29)) := bl1 (Below.refl _ _) _
     have hS2 := keepw hb2 hS
     have l9 := hB.size
     have k9 : (W.alloc (.cells (patCs zeroP) 29)).blk W.heap.size = some (.cells (patCs zeroP) 29 (0, 0)) := blk_alloc_at rfl
     have k8 := rkeepk hb2 h8
     have hn2 : b8 ≠ W.heap.size := Nat.ne_of_lt (lt_of_heap h8)
     clear hb2
     refine hK.out _ _ hS2 (fun hHeld => ?_)
     clear hK K
     simp only [Act.put, sia, sc0, scs]
     have := e111 _ b8 W.heap.size hS2 hB2 k8 l8 k9 l9 hn2
     rw [← hG] at this
     exact this
  have e101 : ∀ (W : World) (b9 : Nat), W.cell? ⟨g1, 0, none⟩ = some (.slice (some ⟨g0, 0, none⟩) 2 2) → Below wc.heap.size wc W → W.blk b9 = some (.cells (patCs zeroP) 29 (0, 0)) → wc.heap.size ≤ b9 → G 10 #[true, true, false, false, false, false, false, false, false, true, false, false, false] ⟨#[.bool false, .pointer (some ⟨w.heap.size, 0, none⟩), .bool true, .func (.func 15) #[] #[], .pointer (some ⟨g1, 0, none⟩), undef, .pointer (some ⟨b9, 0, none⟩), undef, u8, u9, undef, undef, u12, u13, u14, u15, u16, u17, u18, u19, u20, u21, u22, u23, u24, u25, u26, u27, u28, u29, u30, u31, u32, u33, u34, u35, u36, u37, u38, u39, u40, u41, u42, .agg #[.slice (some ⟨g0, 0, none⟩) 2 2], (insP [120] [112, 49]).agg, u45, u46, u47, u48, u49, u50, u51, u52, u53, u54, u55, u56, u57, u58, u59, u60, u61, u62, u63, u64, u65, u66, u67, u68, u69, u70, u71, u72, u73, u74, u75, u76, u77, u78, u79, u80, u81, u82, u83, u84, u85, u86, u87, u88, u89, u90, u91, u92, u93, u94, u95, u96], []⟩ W := by
   intro W b9 hS hB h9 l9
   rw [← hG]
   refine wpAnyH_ready (rs := [2, 8]) (by kernel_rfl) (by simp) (AllReadyH.cons rfl (fun K hK => ?_) (AllReadyH.cons rfl (fun K hK => ?_) (AllReadyH.nil)))
   · go_simp
     refine (mkins_any [121] [112, 49] _).mono ?_
     rintro e W2 ⟨rfl, hb2⟩
     have hS2 := keepw hb2 hS
     have hB2 := chain2 hB hb2
     have k9 := rkeepk hb2 h9
     clear hb2
     go_wp2_with fail
     refine hK.out _ _ hS2 (fun hHeld => ?_)
     clear hK K
     simp only [Act.put, sia, sc0, scs]
     have := e201 W2 b9 hS2 hB2 k9 l9
     rw [← hG] at this
     exact this
   · go_simp
     have hB2 := bl1 hB (.cells (patCs zeroP) 29)
     have hb2 : Below W.heap.size W (W.alloc (.cells (patCs zeroP) 29)) := bl1 (Below.refl _ _) _
     have hS2 := keepw hb2 hS
     have l8 := hB.size
     have k8 : (W.alloc (.cells (patCs zeroP) 29)).blk W.heap.size = some (.cells (patCs zeroP) 29 (0, 0)) := blk_alloc_at rfl
     have k9 := rkeepk hb2 h9
     have hn2 : W.heap.size ≠ b9 := (Nat.ne_of_lt (lt_of_heap h9)).symm
     clear hb2
     refine hK.out _ _ hS2 (fun hHeld => ?_)
     clear hK K
     simp only [Act.put, sia, sc0, scs]
     have := e111 _ W.heap.size b9 hS2 hB2 k8 l8 k9 l9 hn2
     rw [← hG] at this
     exact this
  have e100 : ∀ (W : World), W.cell? ⟨g1, 0, none⟩ = some (.slice (some ⟨g0, 0, none⟩) 2 2) → Below wc.heap.size wc W → G 11 #[true, true, false, false, false, false, false, false, false, false, false, false, false] ⟨#[.bool false, .pointer (some ⟨w.heap.size, 0, none⟩), .bool true, .func (.func 15) #[] #[], .pointer (some ⟨g1, 0, none⟩), undef, undef, undef, u8, u9, undef, undef, u12, u13, u14, u15, u16, u17, u18, u19, u20, u21, u22, u23, u24, u25, u26, u27, u28, u29, u30, u31, u32, u33, u34, u35, u36, u37, u38, u39, u40, u41, u42, .agg #[.slice (some ⟨g0, 0, none⟩) 2 2], (insP [120] [112, 49]).agg, u45, u46, u47, u48, u49, u50, u51, u52, u53, u54, u55, u56, u57, u58, u59, u60, u61, u62, u63, u64, u65, u66, u67, u68, u69, u70, u71, u72, u73, u74, u75, u76, u77, u78, u79, u80, u81, u82, u83, u84, u85, u86, u87, u88, u89, u90, u91, u92, u93, u94, u95, u96], []⟩ W := by
   intro W hS hB
   rw [← hG]
   refine wpAnyH_ready (rs := [2, 8, 9]) (by kernel_rfl) (by simp) (AllReadyH.cons rfl (fun K hK => ?_) (AllReadyH.cons rfl (fun K hK => ?_) (AllReadyH.cons rfl (fun K hK => ?_) (AllReadyH.nil))))
   · go_simp
     refine (mkins_any [121] [112, 49] _).mono ?_
     rintro e W2 ⟨rfl, hb2⟩
     have hS2 := keepw hb2 hS
     have hB2 := chain2 hB hb2
     clear hb2
     go_wp2_with fail
     refine hK.out _ _ hS2 (fun hHeld => ?_)
     clear hK K
     simp only [Act.put, sia, sc0, scs]
     have := e200 W2 hS2 hB2
     rw [← hG] at this
     exact this
   · go_simp
     have hB2 := bl1 hB (.cells (patCs zeroP) 29)
     have hb2 : Below W.heap.size W (W.alloc (.cells (patCs zeroP) 29)) := bl1 (Below.refl _ _) _
     have hS2 := keepw hb2 hS
     have l8 := hB.size
     have k8 : (W.alloc (.cells (patCs zeroP) 29)).blk W.heap.size = some (.cells (patCs zeroP) 29 (0, 0)) := blk_alloc_at rfl
     clear hb2
     refine hK.out _ _ hS2 (fun hHeld => ?_)
     clear hK K
     simp only [Act.put, sia, sc0, scs]
     have := e110 _ W.heap.size hS2 hB2 k8 l8
     rw [← hG] at this
     exact this
   · go_simp
     have hB2 := bl1 hB (.cells (patCs zeroP) 29)
     have hb2 : Below W.heap.size W (W.alloc (.cells (patCs zeroP) 29)) := bl1 (Below.refl _ _) _
     have hS2 := keepw hb2 hS
     have l9 := hB.size
     have k9 : (W.alloc (.cells (patCs zeroP) 29)).blk W.heap.size = some (.cells (patCs zeroP) 29 (0, 0)) := blk_alloc_at rfl
     clear hb2
     refine hK.out _ _ hS2 (fun hHeld => ?_)
     clear hK K
     simp only [Act.put, sia, sc0, scs]
     have := e101 _ W.heap.size hS2 hB2 k9 l9
     rw [← hG] at this
     exact this
  have e011 : ∀ (W : World) (b8 : Nat) (b9 : Nat), W.cell? ⟨g1, 0, none⟩ = some (.slice (some ⟨g0, 0, none⟩) 2 2) → Below wc.heap.size wc W → W.blk b8 = some (.cells (patCs zeroP) 29 (0, 0)) → wc.heap.size ≤ b8 → W.blk b9 = some (.cells (patCs zeroP) 29 (0, 0)) → wc.heap.size ≤ b9 → b8 ≠ b9 → G 10 #[true, false, false, false, false, false, false, false, true, true, false, false, false] ⟨#[.bool false, .pointer (some ⟨w.heap.size, 0, none⟩), .bool true, .func (.func 15) #[] #[], .pointer (some ⟨g1, 0, none⟩), .pointer (some ⟨b8, 0, none⟩), .pointer (some ⟨b9, 0, none⟩), undef, u8, u9, undef, undef, u12, u13, u14, u15, u16, u17, u18, u19, u20, u21, u22, u23, u24, u25, u26, u27, u28, u29, u30, u31, u32, u33, u34, u35, u36, u37, u38, u39, u40, u41, u42, .agg #[.slice (some ⟨g0, 0, none⟩) 2 2], u44, u45, u46, u47, u48, u49, u50, u51, u52, u53, u54, u55, u56, u57, u58, u59, u60, u61, u62, u63, u64, u65, u66, u67, u68, u69, u70, u71, u72, u73, u74, u75, u76, u77, u78, u79, u80, u81, u82, u83, u84, u85, u86, u87, u88, u89, u90, u91, u92, u93, u94, u95, u96], []⟩ W := by
   intro W b8 b9 hS hB h8 l8 h9 l9 hn
   rw [← hG]
   refine wpAnyH_ready (rs := [1]) (by kernel_rfl) (by simp) (AllReadyH.cons rfl (fun K hK => ?_) (AllReadyH.nil))
   · go_simp
     refine (mkins_any [120] [112, 49] _).mono ?_
     rintro e W2 ⟨rfl, hb2⟩
     have hS2 := keepw hb2 hS
     have hB2 := chain2 hB hb2
     have k8 := rkeepk hb2 h8
     have k9 := rkeepk hb2 h9
     clear hb2
     go_wp2_with fail
     refine hK.out _ _ hS2 (fun hHeld => ?_)
     clear hK K
     simp only [Act.put, sia, sc0, scs]
     have := e111 W2 b8 b9 hS2 hB2 k8 l8 k9 l9 hn
     rw [← hG] at this
     exact this
  have e010 : ∀ (W : World) (b8 : Nat), W.cell? ⟨g1, 0, none⟩ = some (.slice (some ⟨g0, 0, none⟩) 2 2) → Below wc.heap.size wc W → W.blk b8 = some (.cells (patCs zeroP) 29 (0, 0)) → wc.heap.size ≤ b8 → G 11 #[true, false, false, false, false, false, false, false, true, false, false, false, false] ⟨#[.bool false, .pointer (some ⟨w.heap.size, 0, none⟩), .bool true, .func (.func 15) #[] #[], .pointer (some ⟨g1, 0, none⟩), .pointer (some ⟨b8, 0, none⟩), undef, undef, u8, u9, undef, undef, u12, u13, u14, u15, u16, u17, u18, u19, u20, u21, u22, u23, u24, u25, u26, u27, u28, u29, u30, u31, u32, u33, u34, u35, u36, u37, u38, u39, u40, u41, u42, .agg #[.slice (some ⟨g0, 0, none⟩) 2 2], u44, u45, u46, u47, u48, u49, u50, u51, u52, u53, u54, u55, u56, u57, u58, u59, u60, u61, u62, u63, u64, u65, u66, u67, u68, u69, u70, u71, u72, u73, u74, u75, u76, u77, u78, u79, u80, u81, u82, u83, u84, u85, u86, u87, u88, u89, u90, u91, u92, u93, u94, u95, u96], []⟩ W := by
   intro W b8 hS hB h8 l8
   rw [← hG]
   refine wpAnyH_ready (rs := [1, 9]) (by kernel_rfl) (by simp) (AllReadyH.cons rfl (fun K hK => ?_) (AllReadyH.cons rfl (fun K hK => ?_) (AllReadyH.nil)))
   · go_simp
     refine (mkins_any [120] [112, 49] _).mono ?_
     rintro e W2 ⟨rfl, hb2⟩
     have hS2 := keepw hb2 hS
     have hB2 := chain2 hB hb2
     have k8 := rkeepk hb2 h8
     clear hb2
     go_wp2_with fail
     refine hK.out _ _ hS2 (fun hHeld => ?_)
     clear hK K
     simp only [Act.put, sia, sc0, scs]
     have := e110 W2 b8 hS2 hB2 k8 l8
     rw [← hG] at this
     exact this
   · go_simp
     have hB2 := bl1 hB (.cells (patCs zeroP) 29)
     have hb2 : Below W.heap.size W (W.alloc (.cells (patCs zeroP) 29)) := bl1 (Below.refl _ _) _
     have hS2 := keepw hb2 hS
     have l9 := hB.size
     have k9 : (W.alloc (.cells (patCs zeroP) 29)).blk W.heap.size = some (.cells (patCs zeroP) 29 (0, 0)) := blk_alloc_at rfl
     have k8 := rkeepk hb2 h8
     have hn2 : b8 ≠ W.heap.size := Nat.ne_of_lt (lt_of_heap h8)
     clear hb2
     refine hK.out _ _ hS2 (fun hHeld => ?_)
     clear hK K
     simp only [Act.put, sia, sc0, scs]
     have := e011 _ b8 W.heap.size hS2 hB2 k8 l8 k9 l9 hn2
     rw [← hG] at this
     exact this
  have e001 : ∀ (W : World) (b9 : Nat), W.cell? ⟨g1, 0, none⟩ = some (.slice (some ⟨g0, 0, none⟩) 2 2) → Below wc.heap.size wc W → W.blk b9 = some (.cells (patCs zeroP) 29 (0, 0)) → wc.heap.size ≤ b9 → G 11 #[true, false, false, false, false, false, false, false, false, true, false, false, false] ⟨#[.bool false, .pointer (some ⟨w.heap.size, 0, none⟩), .bool true, .func (.func 15) #[] #[], .pointer (some ⟨g1, 0, none⟩), undef, .pointer (some ⟨b9, 0, none⟩), undef, u8, u9, undef, undef, u12, u13, u14, u15, u16, u17, u18, u19, u20, u21, u22, u23, u24, u25, u26, u27, u28, u29, u30, u31, u32, u33, u34, u35, u36, u37, u38, u39, u40, u41, u42, .agg #[.slice (some ⟨g0, 0, none⟩) 2 2], u44, u45, u46, u47, u48, u49, u50, u51, u52, u53, u54, u55, u56, u57, u58, u59, u60, u61, u62, u63, u64, u65, u66, u67, u68, u69, u70, u71, u72, u73, u74, u75, u76, u77, u78, u79, u80, u81, u82, u83, u84, u85, u86, u87, u88, u89, u90, u91, u92, u93, u94, u95, u96], []⟩ W := by
   intro W b9 hS hB h9 l9
   rw [← hG]
   refine wpAnyH_ready (rs := [1, 8]) (by kernel_rfl) (by simp) (AllReadyH.cons rfl (fun K hK => ?_) (AllReadyH.cons rfl (fun K hK => ?_) (AllReadyH.nil)))
   · go_simp
     refine (mkins_any [120] [112, 49] _).mono ?_
     rintro e W2 ⟨rfl, hb2⟩
     have hS2 := keepw hb2 hS
     have hB2 := chain2 hB hb2
     have k9 := rkeepk hb2 h9
     clear hb2
     go_wp2_with fail
     refine hK.out _ _ hS2 (fun hHeld => ?_)
     clear hK K
     simp only [Act.put, sia, sc0, scs]
     have := e101 W2 b9 hS2 hB2 k9 l9
     rw [← hG] at this
     exact this
   · go_simp
     have hB2 := bl1 hB (.cells (patCs zeroP) 29)
     have hb2 : Below W.heap.size W (W.alloc (.cells (patCs zeroP) 29)) := bl1 (Below.refl _ _) _
     have hS2 := keepw hb2 hS
     have l8 := hB.size
     have k8 : (W.alloc (.cells (patCs zeroP) 29)).blk W.heap.size = some (.cells (patCs zeroP) 29 (0, 0)) := blk_alloc_at rfl
     have k9 := rkeepk hb2 h9
     have hn2 : W.heap.size ≠ b9 := (Nat.ne_of_lt (lt_of_heap h9)).symm
     clear hb2
     refine hK.out _ _ hS2 (fun hHeld => ?_)
     clear hK K
     simp only [Act.put, sia, sc0, scs]
     have := e011 _ W.heap.size b9 hS2 hB2 k8 l8 k9 l9 hn2
     rw [← hG] at this
     exact this
  have e000 : ∀ (W : World), W.cell? ⟨g1, 0, none⟩ = some (.slice (some ⟨g0, 0, none⟩) 2 2) → Below wc.heap.size wc W → G 12 #[true, false, false, false, false, false, false, false, false, false, false, false, false] ⟨#[.bool false, .pointer (some ⟨w.heap.size, 0, none⟩), .bool true, .func (.func 15) #[] #[], .pointer (some ⟨g1, 0, none⟩), undef, undef, undef, u8, u9, undef, undef, u12, u13, u14, u15, u16, u17, u18, u19, u20, u21, u22, u23, u24, u25, u26, u27, u28, u29, u30, u31, u32, u33, u34, u35, u36, u37, u38, u39, u40, u41, u42, .agg #[.slice (some ⟨g0, 0, none⟩) 2 2], u44, u45, u46, u47, u48, u49, u50, u51, u52, u53, u54, u55, u56, u57, u58, u59, u60, u61, u62, u63, u64, u65, u66, u67, u68, u69, u70, u71, u72, u73, u74, u75, u76, u77, u78, u79, u80, u81, u82, u83, u84, u85, u86, u87, u88, u89, u90, u91, u92, u93, u94, u95, u96], []⟩ W := by
   intro W hS hB
   rw [← hG]
   refine wpAnyH_ready (rs := [1, 8, 9]) (by kernel_rfl) (by simp) (AllReadyH.cons rfl (fun K hK => ?_) (AllReadyH.cons rfl (fun K hK => ?_) (AllReadyH.cons rfl (fun K hK => ?_) (AllReadyH.nil))))
   · go_simp
     refine (mkins_any [120] [112, 49] _).mono ?_
     rintro e W2 ⟨rfl, hb2⟩
     have hS2 := keepw hb2 hS
     have hB2 := chain2 hB hb2
     clear hb2
     go_wp2_with fail
     refine hK.out _ _ hS2 (fun hHeld => ?_)
     clear hK K
     simp only [Act.put, sia, sc0, scs]
     have := e100 W2 hS2 hB2
     rw [← hG] at this
     exact this
   · go_simp
     have hB2 := bl1 hB (.cells (patCs zeroP) 29)
     have hb2 : Below W.heap.size W (W.alloc (.cells (patCs zeroP) 29)) := bl1 (Below.refl _ _) _
     have hS2 := keepw hb2 hS
     have l8 := hB.size
     have k8 : (W.alloc (.cells (patCs zeroP) 29)).blk W.heap.size = some (.cells (patCs zeroP) 29 (0, 0)) := blk_alloc_at rfl
     clear hb2
     refine hK.out _ _ hS2 (fun hHeld => ?_)
     clear hK K
     simp only [Act.put, sia, sc0, scs]
     have := e010 _ W.heap.size hS2 hB2 k8 l8
     rw [← hG] at this
     exact this
   · go_simp
     have hB2 := bl1 hB (.cells (patCs zeroP) 29)
     have hb2 : Below W.heap.size W (W.alloc (.cells (patCs zeroP) 29)) := bl1 (Below.refl _ _) _
     have hS2 := keepw hb2 hS
     have l9 := hB.size
     have k9 : (W.alloc (.cells (patCs zeroP) 29)).blk W.heap.size = some (.cells (patCs zeroP) 29 (0, 0)) := blk_alloc_at rfl
     clear hb2
     refine hK.out _ _ hS2 (fun hHeld => ?_)
     clear hK K
     simp only [Act.put, sia, sc0, scs]
     have := e001 _ W.heap.size hS2 hB2 k9 l9
     rw [← hG] at this
     exact this
  have := e000 _ hHeld (Below.refl _ _).drew
  exact this
 case rest =>
 obtain ⟨b5, b6, rfl, rfl, rfl, hk5, hk6, hcb⟩ := hcut
 rename_i wy _ _ _ _ _ _ _
 have HW4 := Lib.hid (HW3.out.trans (hcb.mono HW3.out.size))
 have HR4 := Lib.hid (HR3.out.below hcb)
 have hk4 := rkeepk hcb hk3
 have hc4 := keepw hcb hc3
 clear hcb hk3 hc3 HW3 HR3
 go_upto_region 6 with fail
 go_cut [8, 9, 10] (fun v8 v9 v10 wd => v10 = .bool false ∧ Below wc.heap.size wc wd)
 case first =>
  refine wp_region_held_drew (S := (fun X => X.cell? ⟨g1, 0, none⟩ = some (.slice (some ⟨g0, 0, none⟩) 2 2))) (by kernel_rfl) hc4 (fun hHeld => ?_)
  refine takeD (i := 0) (v := .agg #[.slice (some ⟨g0, 0, none⟩) 2 2]) (k := 51) rfl rfl (by kernel_rfl) (by kernel_rfl) (by kernel_rfl) (fun _ _ _ h => h) (Or.inl ⟨by rfl, fun z hz => by go_simp⟩) hHeld ?_
  simp only [Act.put, sia, sc0, scs]
  generalize hG : wpAnyH Tryz.prog _ _ _ _ = G
  have e311 : ∀ (W : World) (b8 : Nat) (b9 : Nat), W.cell? ⟨g1, 0, none⟩ = some (.slice (some ⟨g0, 0, none⟩) 2 2) → Below wc.heap.size wc W → W.blk b8 = some (.cells (patCs zeroP) 29 (0, 0)) → wc.heap.size ≤ b8 → W.blk b9 = some (.cells (patCs zeroP) 29 (0, 0)) → wc.heap.size ≤ b9 → b8 ≠ b9 → G 3 #[true, true, true, true, true, true, true, true, true, true, false, false, false] ⟨#[.bool false, .pointer (some ⟨w.heap.size, 0, none⟩), .bool true, .func (.func 15) #[] #[], .pointer (some ⟨g1, 0, none⟩), .pointer (some ⟨b5, 0, none⟩), .pointer (some ⟨b6, 0, none⟩), .bool true, .pointer (some ⟨b8, 0, none⟩), .pointer (some ⟨b9, 0, none⟩), undef, undef, u12, u13, u14, u15, u16, u17, u18, u19, u20, u21, u22, u23, u24, u25, u26, u27, u28, u29, u30, u31, u32, u33, u34, u35, u36, u37, u38, u39, u40, u41, u42, u43, u44, u45, u46, u47, u48, u49, .tuple #[zeroP.agg, zeroP.agg, .bool false], .agg #[.slice (some ⟨g0, 0, none⟩) 2 2], (wordP [112, 49] 1).agg, (wordP [112, 49] 2).agg, .tuple #[zeroP.agg, zeroP.agg, .bool false], zeroP.agg, zeroP.agg, .bool false, u58, u59, u60, u61, u62, u63, u64, u65, u66, u67, u68, u69, u70, u71, u72, u73, u74, u75, u76, u77, u78, u79, u80, u81, u82, u83, u84, u85, u86, u87, u88, u89, u90, u91, u92, u93, u94, u95, u96], []⟩ W := by
   intro W b8 b9 hS hB h8 l8 h9 l9 hn
   rw [← hG]
   have hB8 := below_setRow hB l8 (patCs (zeroP))
   have hB9 := below_setRow hB8 l9 (patCs (zeroP))
   refine wpAnyH_ready (rs := [10]) (by kernel_rfl) (by simp) (AllReadyH.cons rfl (fun K hK => ?_) AllReadyH.nil)
   refine step_store_pat rfl (.tmp 8) (.tmp 55) rfl b8 (zeroP) zeroP rfl rfl h8 ?_
   refine hK.out _ _ (keepw hB8 hc4) (fun hHeld => ?_)
   clear hK K
   simp only [Act.put, sia, sc0, scs]
   refine wpAnyH_ready (rs := [11]) (by kernel_rfl) (by simp) (AllReadyH.cons rfl (fun K hK => ?_) AllReadyH.nil)
   refine step_store_pat rfl (.tmp 9) (.tmp 56) rfl b9 (zeroP) zeroP rfl rfl ((blk_setRow_ne (Ne.symm hn)).trans h9) ?_
   refine hK.out _ _ (keepw hB9 hc4) (fun hHeld => ?_)
   clear hK K
   simp only [Act.put, sia, sc0, scs]
   refine takeD (i := 12) (v := .bool false) (k := 10) rfl rfl (by kernel_rfl) (by kernel_rfl) (by kernel_rfl) (fun _ _ _ h => h) (Or.inl ⟨by rfl, fun z hz => by go_simp⟩) hHeld ?_
   simp only [Act.put, sia, sc0, scs]
   refine wpAnyH_done (by kernel_rfl) ?_ _
   go_wp2_with fail
   go_meet
   case rel => exact ⟨rfl, hB9⟩
  have e310 : ∀ (W : World) (b8 : Nat), W.cell? ⟨g1, 0, none⟩ = some (.slice (some ⟨g0, 0, none⟩) 2 2) → Below wc.heap.size wc W → W.blk b8 = some (.cells (patCs zeroP) 29 (0, 0)) → wc.heap.size ≤ b8 → G 4 #[true, true, true, true, true, true, true, true, true, false, false, false, false] ⟨#[.bool false, .pointer (some ⟨w.heap.size, 0, none⟩), .bool true, .func (.func 15) #[] #[], .pointer (some ⟨g1, 0, none⟩), .pointer (some ⟨b5, 0, none⟩), .pointer (some ⟨b6, 0, none⟩), .bool true, .pointer (some ⟨b8, 0, none⟩), u9, undef, undef, u12, u13, u14, u15, u16, u17, u18, u19, u20, u21, u22, u23, u24, u25, u26, u27, u28, u29, u30, u31, u32, u33, u34, u35, u36, u37, u38, u39, u40, u41, u42, u43, u44, u45, u46, u47, u48, u49, .tuple #[zeroP.agg, zeroP.agg, .bool false], .agg #[.slice (some ⟨g0, 0, none⟩) 2 2], (wordP [112, 49] 1).agg, (wordP [112, 49] 2).agg, .tuple #[zeroP.agg, zeroP.agg, .bool false], zeroP.agg, zeroP.agg, .bool false, u58, u59, u60, u61, u62, u63, u64, u65, u66, u67, u68, u69, u70, u71, u72, u73, u74, u75, u76, u77, u78, u79, u80, u81, u82, u83, u84, u85, u86, u87, u88, u89, u90, u91, u92, u93, u94, u95, u96], []⟩ W := by
   intro W b8 hS hB h8 l8
   rw [← hG]
   refine wpAnyH_ready (rs := [9]) (by kernel_rfl) (by simp) (AllReadyH.cons rfl (fun K hK => ?_) (AllReadyH.nil))
   · go_simp
     have hB2 := bl1 hB (.cells (patCs zeroP) 29)
     have hb2 : Below W.heap.size W (W.alloc (.cells (patCs zeroP) 29)) := bl1 (Below.refl _ _) _
     have hS2 := keepw hb2 hS
     have l9 := hB.size
     have k9 : (W.alloc (.cells (patCs zeroP) 29)).blk W.heap.size = some (.cells (patCs zeroP) 29 (0, 0)) := blk_alloc_at rfl
     have k8 := rkeepk hb2 h8
     have hn2 : b8 ≠ W.heap.size := Nat.ne_of_lt (lt_of_heap h8)
     clear hb2
     refine hK.out _ _ hS2 (fun hHeld => ?_)
     clear hK K
     simp only [Act.put, sia, sc0, scs]
     have := e311 _ b8 W.heap.size hS2 hB2 k8 l8 k9 l9 hn2
     rw [← hG] at this
     exact this
  have e301 : ∀ (W : World) (b9 : Nat), W.cell? ⟨g1, 0, none⟩ = some (.slice (some ⟨g0, 0, none⟩) 2 2) → Below wc.heap.size wc W → W.blk b9 = some (.cells (patCs zeroP) 29 (0, 0)) → wc.heap.size ≤ b9 → G 4 #[true, true, true, true, true, true, true, true, false, true, false, false, false] ⟨#[.bool false, .pointer (some ⟨w.heap.size, 0, none⟩), .bool true, .func (.func 15) #[] #[], .pointer (some ⟨g1, 0, none⟩), .pointer (some ⟨b5, 0, none⟩), .pointer (some ⟨b6, 0, none⟩), .bool true, u8, .pointer (some ⟨b9, 0, none⟩), undef, undef, u12, u13, u14, u15, u16, u17, u18, u19, u20, u21, u22, u23, u24, u25, u26, u27, u28, u29, u30, u31, u32, u33, u34, u35, u36, u37, u38, u39, u40, u41, u42, u43, u44, u45, u46, u47, u48, u49, .tuple #[zeroP.agg, zeroP.agg, .bool false], .agg #[.slice (some ⟨g0, 0, none⟩) 2 2], (wordP [112, 49] 1).agg, (wordP [112, 49] 2).agg, .tuple #[zeroP.agg, zeroP.agg, .bool false], zeroP.agg, zeroP.agg, .bool false, u58, u59, u60, u61, u62, u63, u64, u65, u66, u67, u68, u69, u70, u71, u72, u73, u74, u75, u76, u77, u78, u79, u80, u81, u82, u83, u84, u85, u86, u87, u88, u89, u90, u91, u92, u93, u94, u95, u96], []⟩ W := by
   intro W b9 hS hB h9 l9
   rw [← hG]
   refine wpAnyH_ready (rs := [8]) (by kernel_rfl) (by simp) (AllReadyH.cons rfl (fun K hK => ?_) (AllReadyH.nil))
   · go_simp
     have hB2 := bl1 hB (.cells (patCs zeroP) 29)
     have hb2 : Below W.heap.size W (W.alloc (.cells (patCs zeroP) 29)) := bl1 (Below.refl _ _) _
     have hS2 := keepw hb2 hS
     have l8 := hB.size
     have k8 : (W.alloc (.cells (patCs zeroP) 29)).blk W.heap.size = some (.cells (patCs zeroP) 29 (0, 0)) := blk_alloc_at rfl
     have k9 := rkeepk hb2 h9
     have hn2 : W.heap.size ≠ b9 := (Nat.ne_of_lt (lt_of_heap h9)).symm
     clear hb2
     refine hK.out _ _ hS2 (fun hHeld => ?_)
     clear hK K
     simp only [Act.put, sia, sc0, scs]
     have := e311 _ W.heap.size b9 hS2 hB2 k8 l8 k9 l9 hn2
     rw [← hG] at this
     exact this
  have e300 : ∀ (W : World), W.cell? ⟨g1, 0, none⟩ = some (.slice (some ⟨g0, 0, none⟩) 2 2) → Below wc.heap.size wc W → G 5 #[true, true, true, true, true, true, true, true, false, false, false, false, false] ⟨#[.bool false, .pointer (some ⟨w.heap.size, 0, none⟩), .bool true, .func (.func 15) #[] #[], .pointer (some ⟨g1, 0, none⟩), .pointer (some ⟨b5, 0, none⟩), .pointer (some ⟨b6, 0, none⟩), .bool true, u8, u9, undef, undef, u12, u13, u14, u15, u16, u17, u18, u19, u20, u21, u22, u23, u24, u25, u26, u27, u28, u29, u30, u31, u32, u33, u34, u35, u36, u37, u38, u39, u40, u41, u42, u43, u44, u45, u46, u47, u48, u49, .tuple #[zeroP.agg, zeroP.agg, .bool false], .agg #[.slice (some ⟨g0, 0, none⟩) 2 2], (wordP [112, 49] 1).agg, (wordP [112, 49] 2).agg, .tuple #[zeroP.agg, zeroP.agg, .bool false], zeroP.agg, zeroP.agg, .bool false, u58, u59, u60, u61, u62, u63, u64, u65, u66, u67, u68, u69, u70, u71, u72, u73, u74, u75, u76, u77, u78, u79, u80, u81, u82, u83, u84, u85, u86, u87, u88, u89, u90, u91, u92, u93, u94, u95, u96], []⟩ W := by
   intro W hS hB
   rw [← hG]
   refine wpAnyH_ready (rs := [8, 9]) (by kernel_rfl) (by simp) (AllReadyH.cons rfl (fun K hK => ?_) (AllReadyH.cons rfl (fun K hK => ?_) (AllReadyH.nil)))
   · go_simp
     have hB2 := bl1 hB (.cells (patCs zeroP) 29)
     have hb2 : Below W.heap.size W (W.alloc (.cells (patCs zeroP) 29)) := bl1 (Below.refl _ _) _
     have hS2 := keepw hb2 hS
     have l8 := hB.size
     have k8 : (W.alloc (.cells (patCs zeroP) 29)).blk W.heap.size = some (.cells (patCs zeroP) 29 (0, 0)) := blk_alloc_at rfl
     clear hb2
     refine hK.out _ _ hS2 (fun hHeld => ?_)
     clear hK K
     simp only [Act.put, sia, sc0, scs]
     have := e310 _ W.heap.size hS2 hB2 k8 l8
     rw [← hG] at this
     exact this
   · go_simp
     have hB2 := bl1 hB (.cells (patCs zeroP) 29)
     have hb2 : Below W.heap.size W (W.alloc (.cells (patCs zeroP) 29)) := bl1 (Below.refl _ _) _
     have hS2 := keepw hb2 hS
     have l9 := hB.size
     have k9 : (W.alloc (.cells (patCs zeroP) 29)).blk W.heap.size = some (.cells (patCs zeroP) 29 (0, 0)) := blk_alloc_at rfl
     clear hb2
     refine hK.out _ _ hS2 (fun hHeld => ?_)
     clear hK K
     simp only [Act.put, sia, sc0, scs]
     have := e301 _ W.heap.size hS2 hB2 k9 l9
     rw [← hG] at this
     exact this
  have e211 : ∀ (W : World) (b8 : Nat) (b9 : Nat), W.cell? ⟨g1, 0, none⟩ = some (.slice (some ⟨g0, 0, none⟩) 2 2) → Below wc.heap.size wc W → W.blk b8 = some (.cells (patCs zeroP) 29 (0, 0)) → wc.heap.size ≤ b8 → W.blk b9 = some (.cells (patCs zeroP) 29 (0, 0)) → wc.heap.size ≤ b9 → b8 ≠ b9 → G 8 #[true, true, true, false, false, false, false, false, true, true, false, false, false] ⟨#[.bool false, .pointer (some ⟨w.heap.size, 0, none⟩), .bool true, .func (.func 15) #[] #[], .pointer (some ⟨g1, 0, none⟩), .pointer (some ⟨b5, 0, none⟩), .pointer (some ⟨b6, 0, none⟩), .bool true, .pointer (some ⟨b8, 0, none⟩), .pointer (some ⟨b9, 0, none⟩), undef, undef, u12, u13, u14, u15, u16, u17, u18, u19, u20, u21, u22, u23, u24, u25, u26, u27, u28, u29, u30, u31, u32, u33, u34, u35, u36, u37, u38, u39, u40, u41, u42, u43, u44, u45, u46, u47, u48, u49, u50, .agg #[.slice (some ⟨g0, 0, none⟩) 2 2], (wordP [112, 49] 1).agg, (wordP [112, 49] 2).agg, u54, u55, u56, u57, u58, u59, u60, u61, u62, u63, u64, u65, u66, u67, u68, u69, u70, u71, u72, u73, u74, u75, u76, u77, u78, u79, u80, u81, u82, u83, u84, u85, u86, u87, u88, u89, u90, u91, u92, u93, u94, u95, u96], []⟩ W := by
   intro W b8 b9 hS hB h8 l8 h9 l9 hn
   rw [← hG]
   refine wpAnyH_ready (rs := [3]) (by kernel_rfl) (by simp) (AllReadyH.cons rfl (fun K hK => ?_) (AllReadyH.nil))
   · go_simp
     refine (swap_lit head_s2 (some ⟨g0, 0, none⟩) 2 2 _ rfl (HR4.out.below hB) (by decide) (by decide) exC_short (wordP_ready _ _) (wordP_ready _ _) m (gcell (chain2 HW4.out hB) HG.out)).mono ?_
     rintro e W2 ⟨rfl, hb2⟩
     have hS2 := keepw hb2 hS
     have hB2 := chain2 hB hb2
     have k8 := rkeepk hb2 h8
     have k9 := rkeepk hb2 h9
     clear hb2
     go_wp2_with fail
     refine hK.out _ _ hS2 (fun hHeld => ?_)
     clear hK K
     simp only [Act.put, sia, sc0, scs]
     refine takeD (i := 4) (v := .tuple #[zeroP.agg, zeroP.agg, .bool false]) (k := 50) rfl rfl (by kernel_rfl) (by kernel_rfl) (by kernel_rfl) (fun _ _ _ h => h) (Or.inl ⟨by rfl, fun z hz => by go_simp⟩) hHeld ?_
     simp only [Act.put, sia, sc0, scs]
     refine takeD (i := 5) (v := zeroP.agg) (k := 55) rfl rfl (by kernel_rfl) (by kernel_rfl) (by kernel_rfl) (fun _ _ _ h => h) (Or.inl ⟨by rfl, fun z hz => by go_simp⟩) hHeld ?_
     simp only [Act.put, sia, sc0, scs]
     refine takeD (i := 6) (v := zeroP.agg) (k := 56) rfl rfl (by kernel_rfl) (by kernel_rfl) (by kernel_rfl) (fun _ _ _ h => h) (Or.inl ⟨by rfl, fun z hz => by go_simp⟩) hHeld ?_
     simp only [Act.put, sia, sc0, scs]
     refine takeD (i := 7) (v := .bool false) (k := 57) rfl rfl (by kernel_rfl) (by kernel_rfl) (by kernel_rfl) (fun _ _ _ h => h) (Or.inl ⟨by rfl, fun z hz => by go_simp⟩) hHeld ?_
     simp only [Act.put, sia, sc0, scs]
     have := e311 W2 b8 b9 hS2 hB2 k8 l8 k9 l9 hn
     rw [← hG] at this
     exact this
  have e210 : ∀ (W : World) (b8 : Nat), W.cell? ⟨g1, 0, none⟩ = some (.slice (some ⟨g0, 0, none⟩) 2 2) → Below wc.heap.size wc W → W.blk b8 = some (.cells (patCs zeroP) 29 (0, 0)) → wc.heap.size ≤ b8 → G 9 #[true, true, true, false, false, false, false, false, true, false, false, false, false] ⟨#[.bool false, .pointer (some ⟨w.heap.size, 0, none⟩), .bool true, .func (.func 15) #[] #[], .pointer (some ⟨g1, 0, none⟩), .pointer (some ⟨b5, 0, none⟩), .pointer (some ⟨b6, 0, none⟩), .bool true, .pointer (some ⟨b8, 0, none⟩), u9, undef, undef, u12, u13, u14, u15, u16, u17, u18, u19, u20, u21, u22, u23, u24, u25, u26, u27, u28, u29, u30, u31, u32, u33, u34, u35, u36, u37, u38, u39, u40, u41, u42, u43, u44, u45, u46, u47, u48, u49, u50, .agg #[.slice (some ⟨g0, 0, none⟩) 2 2], (wordP [112, 49] 1).agg, (wordP [112, 49] 2).agg, u54, u55, u56, u57, u58, u59, u60, u61, u62, u63, u64, u65, u66, u67, u68, u69, u70, u71, u72, u73, u74, u75, u76, u77, u78, u79, u80, u81, u82, u83, u84, u85, u86, u87, u88, u89, u90, u91, u92, u93, u94, u95, u96], []⟩ W := by
   intro W b8 hS hB h8 l8
   rw [← hG]
   refine wpAnyH_ready (rs := [3, 9]) (by kernel_rfl) (by simp) (AllReadyH.cons rfl (fun K hK => ?_) (AllReadyH.cons rfl (fun K hK => ?_) (AllReadyH.nil)))
   · go_simp
     refine (swap_lit head_s2 (some ⟨g0, 0, none⟩) 2 2 _ rfl (HR4.out.below hB) (by decide) (by decide) exC_short (wordP_ready _ _) (wordP_ready _ _) m (gcell (chain2 HW4.out hB) HG.out)).mono ?_
     rintro e W2 ⟨rfl, hb2⟩
     have hS2 := keepw hb2 hS
     have hB2 := chain2 hB hb2
     have k8 := rkeepk hb2 h8
     clear hb2
     go_wp2_with fail
     refine hK.out _ _ hS2 (fun hHeld => ?_)
     clear hK K
     simp only [Act.put, sia, sc0, scs]
     refine takeD (i := 4) (v := .tuple #[zeroP.agg, zeroP.agg, .bool false]) (k := 50) rfl rfl (by kernel_rfl) (by kernel_rfl) (by kernel_rfl) (fun _ _ _ h => h) (Or.inl ⟨by rfl, fun z hz => by go_simp⟩) hHeld ?_
     simp only [Act.put, sia, sc0, scs]
     refine takeD (i := 5) (v := zeroP.agg) (k := 55) rfl rfl (by kernel_rfl) (by kernel_rfl) (by kernel_rfl) (fun _ _ _ h => h) (Or.inl ⟨by rfl, fun z hz => by go_simp⟩) hHeld ?_
     simp only [Act.put, sia, sc0, scs]
     refine takeD (i := 6) (v := zeroP.agg) (k := 56) rfl rfl (by kernel_rfl) (by kernel_rfl) (by kernel_rfl) (fun _ _ _ h => h) (Or.inl ⟨by rfl, fun z hz => by go_simp⟩) hHeld ?_
     simp only [Act.put, sia, sc0, scs]
     refine takeD (i := 7) (v := .bool false) (k := 57) rfl rfl (by kernel_rfl) (by kernel_rfl) (by kernel_rfl) (fun _ _ _ h => h) (Or.inl ⟨by rfl, fun z hz => by go_simp⟩) hHeld ?_
     simp only [Act.put, sia, sc0, scs]
     have := e310 W2 b8 hS2 hB2 k8 l8
     rw [← hG] at this
     exact this
   · go_simp
     have hB2 := bl1 hB (.cells (patCs zeroP) 29)
     have hb2 : Below W.heap.size W (W.alloc (.cells (patCs zeroP) 29)) := bl1 (Below.refl _ _) _
     have hS2 := keepw hb2 hS
     have l9 := hB.size
     have k9 : (W.alloc (.cells (patCs zeroP) 29)).blk W.heap.size = some (.cells (patCs zeroP) 29 (0, 0)) := blk_alloc_at rfl
     have k8 := rkeepk hb2 h8
     have hn2 : b8 ≠ W.heap.size := Nat.ne_of_lt (lt_of_heap h8)
     clear hb2
     refine hK.out _ _ hS2 (fun hHeld => ?_)
     clear hK K
     simp only [Act.put, sia, sc0, scs]
     have := e211 _ b8 W.heap.size hS2 hB2 k8 l8 k9 l9 hn2
     rw [← hG] at this
     exact this
  have e201 : ∀ (W : World) (b9 : Nat), W.cell? ⟨g1, 0, none⟩ = some (.slice (some ⟨g0, 0, none⟩) 2 2) → Below wc.heap.size wc W → W.blk b9 = some (.cells (patCs zeroP) 29 (0, 0)) → wc.heap.size ≤ b9 → G 9 #[true, true, true, false, false, false, false, false, false, true, false, false, false] ⟨#[.bool false, .pointer (some ⟨w.heap.size, 0, none⟩), .bool true, .func (.func 15) #[] #[], .pointer (some ⟨g1, 0, none⟩), .pointer (some ⟨b5, 0, none⟩), .pointer (some ⟨b6, 0, none⟩), .bool true, u8, .pointer (some ⟨b9, 0, none⟩), undef, undef, u12, u13, u14, u15, u16, u17, u18, u19, u20, u21, u22, u23, u24, u25, u26, u27, u28, u29, u30, u31, u32, u33, u34, u35, u36, u37, u38, u39, u40, u41, u42, u43, u44, u45, u46, u47, u48, u49, u50, .agg #[.slice (some ⟨g0, 0, none⟩) 2 2], (wordP [112, 49] 1).agg, (wordP [112, 49] 2).agg, u54, u55, u56, u57, u58, u59, u60, u61, u62, u63, u64, u65, u66, u67, u68, u69, u70, u71, u72, u73, u74, u75, u76, u77, u78, u79, u80, u81, u82, u83, u84, u85, u86, u87, u88, u89, u90, u91, u92, u93, u94, u95, u96], []⟩ W := by
   intro W b9 hS hB h9 l9
   rw [← hG]
   refine wpAnyH_ready (rs := [3, 8]) (by kernel_rfl) (by simp) (AllReadyH.cons rfl (fun K hK => ?_) (AllReadyH.cons rfl (fun K hK => ?_) (AllReadyH.nil)))
   · go_simp
     refine (swap_lit head_s2 (some ⟨g0, 0, none⟩) 2 2 _ rfl (HR4.out.below hB) (by decide) (by decide) exC_short (wordP_ready _ _) (wordP_ready _ _) m (gcell (chain2 HW4.out hB) HG.out)).mono ?_
     rintro e W2 ⟨rfl, hb2⟩
     have hS2 := keepw hb2 hS
     have hB2 := chain2 hB hb2
     have k9 := rkeepk hb2 h9
     clear hb2
     go_wp2_with fail
     refine hK.out _ _ hS2 (fun hHeld => ?_)
     clear hK K
     simp only [Act.put, sia, sc0, scs]
     refine takeD (i := 4) (v := .tuple #[zeroP.agg, zeroP.agg, .bool false]) (k := 50) rfl rfl (by kernel_rfl) (by kernel_rfl) (by kernel_rfl) (fun _ _ _ h => h) (Or.inl ⟨by rfl, fun z hz => by go_simp⟩) hHeld ?_
     simp only [Act.put, sia, sc0, scs]
     refine takeD (i := 5) (v := zeroP.agg) (k := 55) rfl rfl (by kernel_rfl) (by kernel_rfl) (by kernel_rfl) (fun _ _ _ h => h) (Or.inl ⟨by rfl, fun z hz => by go_simp⟩) hHeld ?_
     simp only [Act.put, sia, sc0, scs]
     refine takeD (i := 6) (v := zeroP.agg) (k := 56) rfl rfl (by kernel_rfl) (by kernel_rfl) (by kernel_rfl) (fun _ _ _ h => h) (Or.inl ⟨by rfl, fun z hz => by go_simp⟩) hHeld ?_
     simp only [Act.put, sia, sc0, scs]
     refine takeD (i := 7) (v := .bool false) (k := 57) rfl rfl (by kernel_rfl) (by kernel_rfl) (by kernel_rfl) (fun _ _ _ h => h) (Or.inl ⟨by rfl, fun z hz => by go_simp⟩) hHeld ?_
     simp only [Act.put, sia, sc0, scs]
     have := e301 W2 b9 hS2 hB2 k9 l9
     rw [← hG] at this
     exact this
   · go_simp
     have hB2 := bl1 hB (.cells (patCs zeroP) 29)
     have hb2 : Below W.heap.size W (W.alloc (.cells (patCs zeroP) 29)) := bl1 (Below.refl _ _) _
     have hS2 := keepw hb2 hS
     have l8 := hB.size
     have k8 : (W.alloc (.cells (patCs zeroP) 29)).blk W.heap.size = some (.cells (patCs zeroP) 29 (0, 0)) := blk_alloc_at rfl
     have k9 := rkeepk hb2 h9
     have hn2 : W.heap.size ≠ b9 := (Nat.ne_of_lt (lt_of_heap h9)).symm
     clear hb2
     refine hK.out _ _ hS2 (fun hHeld => ?_)
     clear hK K
     simp only [Act.put, sia, sc0, scs]
     have := e211 _ W.heap.size b9 hS2 hB2 k8 l8 k9 l9 hn2
     rw [← hG] at this
     exact this
  have e200 : ∀ (W : World), W.cell? ⟨g1, 0, none⟩ = some (.slice (some ⟨g0, 0, none⟩) 2 2) → Below wc.heap.size wc W → G 10 #[true, true, true, false, false, false, false, false, false, false, false, false, false] ⟨#[.bool false, .pointer (some ⟨w.heap.size, 0, none⟩), .bool true, .func (.func 15) #[] #[], .pointer (some ⟨g1, 0, none⟩), .pointer (some ⟨b5, 0, none⟩), .pointer (some ⟨b6, 0, none⟩), .bool true, u8, u9, undef, undef, u12, u13, u14, u15, u16, u17, u18, u19, u20, u21, u22, u23, u24, u25, u26, u27, u28, u29, u30, u31, u32, u33, u34, u35, u36, u37, u38, u39, u40, u41, u42, u43, u44, u45, u46, u47, u48, u49, u50, .agg #[.slice (some ⟨g0, 0, none⟩) 2 2], (wordP [112, 49] 1).agg, (wordP [112, 49] 2).agg, u54, u55, u56, u57, u58, u59, u60, u61, u62, u63, u64, u65, u66, u67, u68, u69, u70, u71, u72, u73, u74, u75, u76, u77, u78, u79, u80, u81, u82, u83, u84, u85, u86, u87, u88, u89, u90, u91, u92, u93, u94, u95, u96], []⟩ W := by
   intro W hS hB
   rw [← hG]
   refine wpAnyH_ready (rs := [3, 8, 9]) (by kernel_rfl) (by simp) (AllReadyH.cons rfl (fun K hK => ?_) (AllReadyH.cons rfl (fun K hK => ?_) (AllReadyH.cons rfl (fun K hK => ?_) (AllReadyH.nil))))
   · go_simp
     refine (swap_lit head_s2 (some ⟨g0, 0, none⟩) 2 2 _ rfl (HR4.out.below hB) (by decide) (by decide) exC_short (wordP_ready _ _) (wordP_ready _ _) m (gcell (chain2 HW4.out hB) HG.out)).mono ?_
     rintro e W2 ⟨rfl, hb2⟩
     have hS2 := keepw hb2 hS
     have hB2 := chain2 hB hb2
     clear hb2
     go_wp2_with fail
     refine hK.out _ _ hS2 (fun hHeld => ?_)
     clear hK K
     simp only [Act.put, sia, sc0, scs]
     refine takeD (i := 4) (v := .tuple #[zeroP.agg, zeroP.agg, .bool false]) (k := 50) rfl rfl (by kernel_rfl) (by kernel_rfl) (by kernel_rfl) (fun _ _ _ h => h) (Or.inl ⟨by rfl, fun z hz => by go_simp⟩) hHeld ?_
     simp only [Act.put, sia, sc0, scs]
     refine takeD (i := 5) (v := zeroP.agg) (k := 55) rfl rfl (by kernel_rfl) (by kernel_rfl) (by kernel_rfl) (fun _ _ _ h => h) (Or.inl ⟨by rfl, fun z hz => by go_simp⟩) hHeld ?_
     simp only [Act.put, sia, sc0, scs]
     refine takeD (i := 6) (v := zeroP.agg) (k := 56) rfl rfl (by kernel_rfl) (by kernel_rfl) (by kernel_rfl) (fun _ _ _ h => h) (Or.inl ⟨by rfl, fun z hz => by go_simp⟩) hHeld ?_
     simp only [Act.put, sia, sc0, scs]
     refine takeD (i := 7) (v := .bool false) (k := 57) rfl rfl (by kernel_rfl) (by kernel_rfl) (by kernel_rfl) (fun _ _ _ h => h) (Or.inl ⟨by rfl, fun z hz => by go_simp⟩) hHeld ?_
     simp only [Act.put, sia, sc0, scs]
     have := e300 W2 hS2 hB2
     rw [← hG] at this
     exact this
   · go_simp
     have hB2 := bl1 hB (.cells (patCs zeroP) 29)
     have hb2 : Below W.heap.size W (W.alloc (.cells (patCs zeroP) 29)) := bl1 (Below.refl _ _) _
     have hS2 := keepw hb2 hS
     have l8 := hB.size
     have k8 : (W.alloc (.cells (patCs zeroP) 29)).blk W.heap.size = some (.cells (patCs zeroP) 29 (0, 0)) := blk_alloc_at rfl
     clear hb2
     refine hK.out _ _ hS2 (fun hHeld => ?_)
     clear hK K
     simp only [Act.put, sia, sc0, scs]
     have := e210 _ W.heap.size hS2 hB2 k8 l8
     rw [← hG] at this
     exact this
   · go_simp
     have hB2 := bl1 hB (.cells (patCs zeroP) 29)
     have hb2 : Below W.heap.size W (W.alloc (.cells (patCs zeroP) 29)) := bl1 (Below.refl _ _) _
     have hS2 := keepw hb2 hS
     have l9 := hB.size
     have k9 : (W.alloc (.cells (patCs zeroP) 29)).blk W.heap.size = some (.cells (patCs zeroP) 29 (0, 0)) := blk_alloc_at rfl
     clear hb2
     refine hK.out _ _ hS2 (fun hHeld => ?_)
     clear hK K
     simp only [Act.put, sia, sc0, scs]
     have := e201 _ W.heap.size hS2 hB2 k9 l9
     rw [← hG] at this
     exact this
  have e111 : ∀ (W : World) (b8 : Nat) (b9 : Nat), W.cell? ⟨g1, 0, none⟩ = some (.slice (some ⟨g0, 0, none⟩) 2 2) → Below wc.heap.size wc W → W.blk b8 = some (.cells (patCs zeroP) 29 (0, 0)) → wc.heap.size ≤ b8 → W.blk b9 = some (.cells (patCs zeroP) 29 (0, 0)) → wc.heap.size ≤ b9 → b8 ≠ b9 → G 9 #[true, true, false, false, false, false, false, false, true, true, false, false, false] ⟨#[.bool false, .pointer (some ⟨w.heap.size, 0, none⟩), .bool true, .func (.func 15) #[] #[], .pointer (some ⟨g1, 0, none⟩), .pointer (some ⟨b5, 0, none⟩), .pointer (some ⟨b6, 0, none⟩), .bool true, .pointer (some ⟨b8, 0, none⟩), .pointer (some ⟨b9, 0, none⟩), undef, undef, u12, u13, u14, u15, u16, u17, u18, u19, u20, u21, u22, u23, u24, u25, u26, u27, u28, u29, u30, u31, u32, u33, u34, u35, u36, u37, u38, u39, u40, u41, u42, u43, u44, u45, u46, u47, u48, u49, u50, .agg #[.slice (some ⟨g0, 0, none⟩) 2 2], (wordP [112, 49] 1).agg, u53, u54, u55, u56, u57, u58, u59, u60, u61, u62, u63, u64, u65, u66, u67, u68, u69, u70, u71, u72, u73, u74, u75, u76, u77, u78, u79, u80, u81, u82, u83, u84, u85, u86, u87, u88, u89, u90, u91, u92, u93, u94, u95, u96], []⟩ W := by
   intro W b8 b9 hS hB h8 l8 h9 l9 hn
   rw [← hG]
   refine wpAnyH_ready (rs := [2]) (by kernel_rfl) (by simp) (AllReadyH.cons rfl (fun K hK => ?_) (AllReadyH.nil))
   · go_simp
     refine (mkwords_any [112, 49] 2 _).mono ?_
     rintro e W2 ⟨rfl, hb2⟩
     have hS2 := keepw hb2 hS
     have hB2 := chain2 hB hb2
     have k8 := rkeepk hb2 h8
     have k9 := rkeepk hb2 h9
     clear hb2
     go_wp2_with fail
     refine hK.out _ _ hS2 (fun hHeld => ?_)
     clear hK K
     simp only [Act.put, sia, sc0, scs]
     have := e211 W2 b8 b9 hS2 hB2 k8 l8 k9 l9 hn
     rw [← hG] at this
     exact this
  have e110 : ∀ (W : World) (b8 : Nat), W.cell? ⟨g1, 0, none⟩ = some (.slice (some ⟨g0, 0, none⟩) 2 2) → Below wc.heap.size wc W → W.blk b8 = some (.cells (patCs zeroP) 29 (0, 0)) → wc.heap.size ≤ b8 → G 10 #[true, true, false, false, false, false, false, false, true, false, false, false, false] ⟨#[.bool false, .pointer (some ⟨w.heap.size, 0, none⟩), .bool true, .func (.func 15) #[] #[], .pointer (some ⟨g1, 0, none⟩), .pointer (some ⟨b5, 0, none⟩), .pointer (some ⟨b6, 0, none⟩), .bool true, .pointer (some ⟨b8, 0, none⟩), u9, undef, undef, u12, u13, u14, u15, u16, u17, u18, u19, u20, u21, u22, u23, u24, u25, u26, u27, u28, u29, u30, u31, u32, u33, u34, u35, u36, u37, u38, u39, u40, u41, u42, u43, u44, u45, u46, u47, u48, u49, u50, .agg #[.slice (some ⟨g0, 0, none⟩) 2 2], (wordP [112, 49] 1).agg, u53, u54, u55, u56, u57, u58, u59, u60, u61, u62, u63, u64, u65, u66, u67, u68, u69, u70, u71, u72, u73, u74, u75, u76, u77, u78, u79, u80, u81, u82, u83, u84, u85, u86, u87, u88, u89, u90, u91, u92, u93, u94, u95, u96], []⟩ W := by
   intro W b8 hS hB h8 l8
   rw [← hG]
   refine wpAnyH_ready (rs := [2, 9]) (by kernel_rfl) (by simp) (AllReadyH.cons rfl (fun K hK => ?_) (AllReadyH.cons rfl (fun K hK => ?_) (AllReadyH.nil)))
   · go_simp
     refine (mkwords_any [112, 49] 2 _).mono ?_
     rintro e W2 ⟨rfl, hb2⟩
     have hS2 := keepw hb2 hS
     have hB2 := chain2 hB hb2
     have k8 := rkeepk hb2 h8
     clear hb2
     go_wp2_with fail
     refine hK.out _ _ hS2 (fun hHeld => ?_)
     clear hK K
     simp only [Act.put, sia, sc0, scs]
     have := e210 W2 b8 hS2 hB2 k8 l8
     rw [← hG] at this
     exact this
   · go_simp
     have hB2 := bl1 hB (.cells (patCs zeroP) 29)
     have hb2 : Below W.heap.size W (W.alloc (.cells (patCs zeroP) 29)) := bl1 (Below.refl _ _) _
     have hS2 := keepw hb2 hS
     have l9 := hB.size
     have k9 : (W.alloc (.cells (patCs zeroP) 29)).blk W.heap.size = some (.cells (patCs zeroP) 29 (0, 0)) := blk_alloc_at rfl
     have k8 := rkeepk hb2 h8
     have hn2 : b8 ≠ W.heap.size := Nat.ne_of_lt (lt_of_heap h8)
     clear hb2
     refine hK.out _ _ hS2 (fun hHeld => ?_)
     clear hK K
     simp only [Act.put, sia, sc0, scs]
     have := e111 _ b8 W.heap.size hS2 hB2 k8 l8 k9 l9 hn2
     rw [← hG] at this
     exact this
  have e101 : ∀ (W : World) (b9 : Nat), W.cell? ⟨g1, 0, none⟩ = some (.slice (some ⟨g0, 0, none⟩) 2 2) → Below wc.heap.size wc W → W.blk b9 = some (.cells (patCs zeroP) 29 (0, 0)) → wc.heap.size ≤ b9 → G 10 #[true, true, false, false, false, false, false, false, false, true, false, false, false] ⟨#[.bool false, .pointer (some ⟨w.heap.size, 0, none⟩), .bool true, .func (.func 15) #[] #[], .pointer (some ⟨g1, 0, none⟩), .pointer (some ⟨b5, 0, none⟩), .pointer (some ⟨b6, 0, none⟩), .bool true, u8, .pointer (some ⟨b9, 0, none⟩), undef, undef, u12, u13, u14, u15, u16, u17, u18, u19, u20, u21, u22, u23, u24, u25, u26, u27, u28, u29, u30, u31, u32, u33, u34, u35, u36, u37, u38, u39, u40, u41, u42, u43, u44, u45, u46, u47, u48, u49, u50, .agg #[.slice (some ⟨g0, 0, none⟩) 2 2], (wordP [112, 49] 1).agg, u53, u54, u55, u56, u57, u58, u59, u60, u61, u62, u63, u64, u65, u66, u67, u68, u69, u70, u71, u72, u73, u74, u75, u76, u77, u78, u79, u80, u81, u82, u83, u84, u85, u86, u87, u88, u89, u90, u91, u92, u93, u94, u95, u96], []⟩ W := by
   intro W b9 hS hB h9 l9
   rw [← hG]
   refine wpAnyH_ready (rs := [2, 8]) (by kernel_rfl) (by simp) (AllReadyH.cons rfl (fun K hK => ?_) (AllReadyH.cons rfl (fun K hK => ?_) (AllReadyH.nil)))
   · go_simp
     refine (mkwords_any [112, 49] 2 _).mono ?_
     rintro e W2 ⟨rfl, hb2⟩
     have hS2 := keepw hb2 hS
     have hB2 := chain2 hB hb2
     have k9 := rkeepk hb2 h9
     clear hb2
     go_wp2_with fail
     refine hK.out _ _ hS2 (fun hHeld => ?_)
     clear hK K
     simp only [Act.put, sia, sc0, scs]
     have := e201 W2 b9 hS2 hB2 k9 l9
     rw [← hG] at this
     exact this
   · go_simp
     have hB2 := bl1 hB (.cells (patCs zeroP) 29)
     have hb2 : Below W.heap.size W (W.alloc (.cells (patCs zeroP) 29)) := bl1 (Below.refl _ _) _
     have hS2 := keepw hb2 hS
     have l8 := hB.size
     have k8 : (W.alloc (.cells (patCs zeroP) 29)).blk W.heap.size = some (.cells (patCs zeroP) 29 (0, 0)) := blk_alloc_at rfl
     have k9 := rkeepk hb2 h9
     have hn2 : W.heap.size ≠ b9 := (Nat.ne_of_lt (lt_of_heap h9)).symm
     clear hb2
     refine hK.out _ _ hS2 (fun hHeld => ?_)
     clear hK K
     simp only [Act.put, sia, sc0, scs]
     have := e111 _ W.heap.size b9 hS2 hB2 k8 l8 k9 l9 hn2
     rw [← hG] at this
     exact this
  have e100 : ∀ (W : World), W.cell? ⟨g1, 0, none⟩ = some (.slice (some ⟨g0, 0, none⟩) 2 2) → Below wc.heap.size wc W → G 11 #[true, true, false, false, false, false, false, false, false, false, false, false, false] ⟨#[.bool false, .pointer (some ⟨w.heap.size, 0, none⟩), .bool true, .func (.func 15) #[] #[], .pointer (some ⟨g1, 0, none⟩), .pointer (some ⟨b5, 0, none⟩), .pointer (some ⟨b6, 0, none⟩), .bool true, u8, u9, undef, undef, u12, u13, u14, u15, u16, u17, u18, u19, u20, u21, u22, u23, u24, u25, u26, u27, u28, u29, u30, u31, u32, u33, u34, u35, u36, u37, u38, u39, u40, u41, u42, u43, u44, u45, u46, u47, u48, u49, u50, .agg #[.slice (some ⟨g0, 0, none⟩) 2 2], (wordP [112, 49] 1).agg, u53, u54, u55, u56, u57, u58, u59, u60, u61, u62, u63, u64, u65, u66, u67, u68, u69, u70, u71, u72, u73, u74, u75, u76, u77, u78, u79, u80, u81, u82, u83, u84, u85, u86, u87, u88, u89, u90, u91, u92, u93, u94, u95, u96], []⟩ W := by
   intro W hS hB
   rw [← hG]
   refine wpAnyH_ready (rs := [2, 8, 9]) (by kernel_rfl) (by simp) (AllReadyH.cons rfl (fun K hK => ?_) (AllReadyH.cons rfl (fun K hK => ?_) (AllReadyH.cons rfl (fun K hK => ?_) (AllReadyH.nil))))
   · go_simp
     refine (mkwords_any [112, 49] 2 _).mono ?_
     rintro e W2 ⟨rfl, hb2⟩
     have hS2 := keepw hb2 hS
     have hB2 := chain2 hB hb2
     clear hb2
     go_wp2_with fail
     refine hK.out _ _ hS2 (fun hHeld => ?_)
     clear hK K
     simp only [Act.put, sia, sc0, scs]
     have := e200 W2 hS2 hB2
     rw [← hG] at this
     exact this
   · go_simp
     have hB2 := bl1 hB (.cells (patCs zeroP) 29)
     have hb2 : Below W.heap.size W (W.alloc (.cells (patCs zeroP) 29)) := bl1 (Below.refl _ _) _
     have hS2 := keepw hb2 hS
     have l8 := hB.size
     have k8 : (W.alloc (.cells (patCs zeroP) 29)).blk W.heap.size = some (.cells (patCs zeroP) 29 (0, 0)) := blk_alloc_at rfl
     clear hb2
     refine hK.out _ _ hS2 (fun hHeld => ?_)
     clear hK K
     simp only [Act.put, sia, sc0, scs]
     have := e110 _ W.heap.size hS2 hB2 k8 l8
     rw [← hG] at this
     exact this
   · go_simp
     have hB2 := bl1 hB (.cells (patCs zeroP) 29)
     have hb2 : Below W.heap.size W (W.alloc (.cells (patCs zeroP) 29)) := bl1 (Below.refl _ _) _
     have hS2 := keepw hb2 hS
     have l9 := hB.size
     have k9 : (W.alloc (.cells (patCs zeroP) 29)).blk W.heap.size = some (.cells (patCs zeroP) 29 (0, 0)) := blk_alloc_at rfl
     clear hb2
     refine hK.out _ _ hS2 (fun hHeld => ?_)
     clear hK K
     simp only [Act.put, sia, sc0, scs]
     have := e101 _ W.heap.size hS2 hB2 k9 l9
     rw [← hG] at this
     exact this
  have e011 : ∀ (W : World) (b8 : Nat) (b9 : Nat), W.cell? ⟨g1, 0, none⟩ = some (.slice (some ⟨g0, 0, none⟩) 2 2) → Below wc.heap.size wc W → W.blk b8 = some (.cells (patCs zeroP) 29 (0, 0)) → wc.heap.size ≤ b8 → W.blk b9 = some (.cells (patCs zeroP) 29 (0, 0)) → wc.heap.size ≤ b9 → b8 ≠ b9 → G 10 #[true, false, false, false, false, false, false, false, true, true, false, false, false] ⟨#[.bool false, .pointer (some ⟨w.heap.size, 0, none⟩), .bool true, .func (.func 15) #[] #[], .pointer (some ⟨g1, 0, none⟩), .pointer (some ⟨b5, 0, none⟩), .pointer (some ⟨b6, 0, none⟩), .bool true, .pointer (some ⟨b8, 0, none⟩), .pointer (some ⟨b9, 0, none⟩), undef, undef, u12, u13, u14, u15, u16, u17, u18, u19, u20, u21, u22, u23, u24, u25, u26, u27, u28, u29, u30, u31, u32, u33, u34, u35, u36, u37, u38, u39, u40, u41, u42, u43, u44, u45, u46, u47, u48, u49, u50, .agg #[.slice (some ⟨g0, 0, none⟩) 2 2], u52, u53, u54, u55, u56, u57, u58, u59, u60, u61, u62, u63, u64, u65, u66, u67, u68, u69, u70, u71, u72, u73, u74, u75, u76, u77, u78, u79, u80, u81, u82, u83, u84, u85, u86, u87, u88, u89, u90, u91, u92, u93, u94, u95, u96], []⟩ W := by
   intro W b8 b9 hS hB h8 l8 h9 l9 hn
   rw [← hG]
   refine wpAnyH_ready (rs := [1]) (by kernel_rfl) (by simp) (AllReadyH.cons rfl (fun K hK => ?_) (AllReadyH.nil))
   · go_simp
     refine (mkwords_any [112, 49] 1 _).mono ?_
     rintro e W2 ⟨rfl, hb2⟩
     have hS2 := keepw hb2 hS
     have hB2 := chain2 hB hb2
     have k8 := rkeepk hb2 h8
     have k9 := rkeepk hb2 h9
     clear hb2
     go_wp2_with fail
     refine hK.out _ _ hS2 (fun hHeld => ?_)
     clear hK K
     simp only [Act.put, sia, sc0, scs]
     have := e111 W2 b8 b9 hS2 hB2 k8 l8 k9 l9 hn
     rw [← hG] at this
     exact this
  have e010 : ∀ (W : World) (b8 : Nat), W.cell? ⟨g1, 0, none⟩ = some (.slice (some ⟨g0, 0, none⟩) 2 2) → Below wc.heap.size wc W → W.blk b8 = some (.cells (patCs zeroP) 29 (0, 0)) → wc.heap.size ≤ b8 → G 11 #[true, false, false, false, false, false, false, false, true, false, false, false, false] ⟨#[.bool false, .pointer (some ⟨w.heap.size, 0, none⟩), .bool true, .func (.func 15) #[] #[], .pointer (some ⟨g1, 0, none⟩), .pointer (some ⟨b5, 0, none⟩), .pointer (some ⟨b6, 0, none⟩), .bool true, .pointer (some ⟨b8, 0, none⟩), u9, undef, undef, u12, u13, u14, u15, u16, u17, u18, u19, u20, u21, u22, u23, u24, u25, u26, u27, u28, u29, u30, u31, u32, u33, u34, u35, u36, u37, u38, u39, u40, u41, u42, u43, u44, u45, u46, u47, u48, u49, u50, .agg #[.slice (some ⟨g0, 0, none⟩) 2 2], u52, u53, u54, u55, u56, u57, u58, u59, u60, u61, u62, u63, u64, u65, u66, u67, u68, u69, u70, u71, u72, u73, u74, u75, u76, u77, u78, u79, u80, u81, u82, u83, u84, u85, u86, u87, u88, u89, u90, u91, u92, u93, u94, u95, u96], []⟩ W := by
   intro W b8 hS hB h8 l8
   rw [← hG]
   refine wpAnyH_ready (rs := [1, 9]) (by kernel_rfl) (by simp) (AllReadyH.cons rfl (fun K hK => ?_) (AllReadyH.cons rfl (fun K hK => ?_) (AllReadyH.nil)))
   · go_simp
     refine (mkwords_any [112, 49] 1 _).mono ?_
     rintro e W2 ⟨rfl, hb2⟩
     have hS2 := keepw hb2 hS
     have hB2 := chain2 hB hb2
     have k8 := rkeepk hb2 h8
     clear hb2
     go_wp2_with fail
     refine hK.out _ _ hS2 (fun hHeld => ?_)
     clear hK K
     simp only [Act.put, sia, sc0, scs]
     have := e110 W2 b8 hS2 hB2 k8 l8
     rw [← hG] at this
     exact this
   · go_simp
     have hB2 := bl1 hB (.cells (patCs zeroP) 29)
     have hb2 : Below W.heap.size W (W.alloc (.cells (patCs zeroP) 29)) := bl1 (Below.refl _ _) _
     have hS2 := keepw hb2 hS
     have l9 := hB.size
     have k9 : (W.alloc (.cells (patCs zeroP) 29)).blk W.heap.size = some (.cells (patCs zeroP) 29 (0, 0)) := blk_alloc_at rfl
     have k8 := rkeepk hb2 h8
     have hn2 : b8 ≠ W.heap.size := Nat.ne_of_lt (lt_of_heap h8)
     clear hb2
     refine hK.out _ _ hS2 (fun hHeld => ?_)
     clear hK K
     simp only [Act.put, sia, sc0, scs]
     have := e011 _ b8 W.heap.size hS2 hB2 k8 l8 k9 l9 hn2
     rw [← hG] at this
     exact this
  have e001 : ∀ (W : World) (b9 : Nat), W.cell? ⟨g1, 0, none⟩ = some (.slice (some ⟨g0, 0, none⟩) 2 2) → Below wc.heap.size wc W → W.blk b9 = some (.cells (patCs zeroP) 29 (0, 0)) → wc.heap.size ≤ b9 → G 11 #[true, false, false, false, false, false, false, false, false, true, false, false, false] ⟨#[.bool false, .pointer (some ⟨w.heap.size, 0, none⟩), .bool true, .func (.func 15) #[] #[], .pointer (some ⟨g1, 0, none⟩), .pointer (some ⟨b5, 0, none⟩), .pointer (some ⟨b6, 0, none⟩), .bool true, u8, .pointer (some ⟨b9, 0, none⟩), undef, undef, u12, u13, u14, u15, u16, u17, u18, u19, u20, u21, u22, u23, u24, u25, u26, u27, u28, u29, u30, u31, u32, u33, u34, u35, u36, u37, u38, u39, u40, u41, u42, u43, u44, u45, u46, u47, u48, u49, u50, .agg #[.slice (some ⟨g0, 0, none⟩) 2 2], u52, u53, u54, u55, u56, u57, u58, u59, u60, u61, u62, u63, u64, u65, u66, u67, u68, u69, u70, u71, u72, u73, u74, u75, u76, u77, u78, u79, u80, u81, u82, u83, u84, u85, u86, u87, u88, u89, u90, u91, u92, u93, u94, u95, u96], []⟩ W := by
   intro W b9 hS hB h9 l9
   rw [← hG]
   refine wpAnyH_ready (rs := [1, 8]) (by kernel_rfl) (by simp) (AllReadyH.cons rfl (fun K hK => ?_) (AllReadyH.cons rfl (fun K hK => ?_) (AllReadyH.nil)))
   · go_simp
     refine (mkwords_any [112, 49] 1 _).mono ?_
     rintro e W2 ⟨rfl, hb2⟩
     have hS2 := keepw hb2 hS
     have hB2 := chain2 hB hb2
     have k9 := rkeepk hb2 h9
     clear hb2
     go_wp2_with fail
     refine hK.out _ _ hS2 (fun hHeld => ?_)
     clear hK K
     simp only [Act.put, sia, sc0, scs]
     have := e101 W2 b9 hS2 hB2 k9 l9
     rw [← hG] at this
     exact this
   · go_simp
     have hB2 := bl1 hB (.cells (patCs zeroP) 29)
     have hb2 : Below W.heap.size W (W.alloc (.cells (patCs zeroP) 29)) := bl1 (Below.refl _ _) _
     have hS2 := keepw hb2 hS
     have l8 := hB.size
     have k8 : (W.alloc (.cells (patCs zeroP) 29)).blk W.heap.size = some (.cells (patCs zeroP) 29 (0, 0)) := blk_alloc_at rfl
     have k9 := rkeepk hb2 h9
     have hn2 : W.heap.size ≠ b9 := (Nat.ne_of_lt (lt_of_heap h9)).symm
     clear hb2
     refine hK.out _ _ hS2 (fun hHeld => ?_)
     clear hK K
     simp only [Act.put, sia, sc0, scs]
     have := e011 _ W.heap.size b9 hS2 hB2 k8 l8 k9 l9 hn2
     rw [← hG] at this
     exact this
  have e000 : ∀ (W : World), W.cell? ⟨g1, 0, none⟩ = some (.slice (some ⟨g0, 0, none⟩) 2 2) → Below wc.heap.size wc W → G 12 #[true, false, false, false, false, false, false, false, false, false, false, false, false] ⟨#[.bool false, .pointer (some ⟨w.heap.size, 0, none⟩), .bool true, .func (.func 15) #[] #[], .pointer (some ⟨g1, 0, none⟩), .pointer (some ⟨b5, 0, none⟩), .pointer (some ⟨b6, 0, none⟩), .bool true, u8, u9, undef, undef, u12, u13, u14, u15, u16, u17, u18, u19, u20, u21, u22, u23, u24, u25, u26, u27, u28, u29, u30, u31, u32, u33, u34, u35, u36, u37, u38, u39, u40, u41, u42, u43, u44, u45, u46, u47, u48, u49, u50, .agg #[.slice (some ⟨g0, 0, none⟩) 2 2], u52, u53, u54, u55, u56, u57, u58, u59, u60, u61, u62, u63, u64, u65, u66, u67, u68, u69, u70, u71, u72, u73, u74, u75, u76, u77, u78, u79, u80, u81, u82, u83, u84, u85, u86, u87, u88, u89, u90, u91, u92, u93, u94, u95, u96], []⟩ W := by
   intro W hS hB
   rw [← hG]
   refine wpAnyH_ready (rs := [1, 8, 9]) (by kernel_rfl) (by simp) (AllReadyH.cons rfl (fun K hK => ?_) (AllReadyH.cons rfl (fun K hK => ?_) (AllReadyH.cons rfl (fun K hK => ?_) (AllReadyH.nil))))
   · go_simp
     refine (mkwords_any [112, 49] 1 _).mono ?_
     rintro e W2 ⟨rfl, hb2⟩
     have hS2 := keepw hb2 hS
     have hB2 := chain2 hB hb2
     clear hb2
     go_wp2_with fail
     refine hK.out _ _ hS2 (fun hHeld => ?_)
     clear hK K
     simp only [Act.put, sia, sc0, scs]
     have := e100 W2 hS2 hB2
     rw [← hG] at this
     exact this
   · go_simp
     have hB2 := bl1 hB (.cells (patCs zeroP) 29)
     have hb2 : Below W.heap.size W (W.alloc (.cells (patCs zeroP) 29)) := bl1 (Below.refl _ _) _
     have hS2 := keepw hb2 hS
     have l8 := hB.size
     have k8 : (W.alloc (.cells (patCs zeroP) 29)).blk W.heap.size = some (.cells (patCs zeroP) 29 (0, 0)) := blk_alloc_at rfl
     clear hb2
     refine hK.out _ _ hS2 (fun hHeld => ?_)
     clear hK K
     simp only [Act.put, sia, sc0, scs]
     have := e010 _ W.heap.size hS2 hB2 k8 l8
     rw [← hG] at this
     exact this
   · go_simp
     have hB2 := bl1 hB (.cells (patCs zeroP) 29)
     have hb2 : Below W.heap.size W (W.alloc (.cells (patCs zeroP) 29)) := bl1 (Below.refl _ _) _
     have hS2 := keepw hb2 hS
     have l9 := hB.size
     have k9 : (W.alloc (.cells (patCs zeroP) 29)).blk W.heap.size = some (.cells (patCs zeroP) 29 (0, 0)) := blk_alloc_at rfl
     clear hb2
     refine hK.out _ _ hS2 (fun hHeld => ?_)
     clear hK K
     simp only [Act.put, sia, sc0, scs]
     have := e001 _ W.heap.size hS2 hB2 k9 l9
     rw [← hG] at this
     exact this
  have := e000 _ hHeld (Below.refl _ _).drew
  exact this
 case rest =>
 obtain ⟨rfl, hcb⟩ := hcut
 have HW5 := Lib.hid (HW4.out.trans (hcb.mono HW4.out.size))
 have hk5' := rkeepk hcb hk5
 have hk6' := rkeepk hcb hk6
 have hk1 := rkeepk hcb hk4
 clear hcb hk4 hc4 HW4 HR4 hk5 hk6
 have HW5c := HW5.out
 go_upto_region 7 with fail
 go_cut [11] (fun v11 wd => ∃ A c, v11 = .slice A 2 c ∧ RdG wd A [[0, 2], [1, 3]] ∧ Below wc.heap.size wc wd)
 case first =>
  refine wp_region_held_drew (S := fun X => X.blk w.heap.size = some (.cells (patCs repP) 29 (0, 0))) (by kernel_rfl) hk1 (fun hHeld => ?_)
  refine takeD (i := 1) (v := repP.agg) (k := 59) rfl rfl (by kernel_rfl) (by kernel_rfl) (by kernel_rfl) (fun _ _ _ h => h) (Or.inl ⟨by rfl, fun z hz => by go_simp⟩) hHeld ?_
  try simp only [Act.put, sia, sc0, scs]
  have hS0 := hk1
  have hB0 : Below wc.heap.size wc wc.drew := (Below.refl _ _).drew
  clear hHeld
  refine wpAnyH_ready (rs := [0]) (by kernel_rfl) (by simp) (AllReadyH.cons rfl (fun K hK => ?_) AllReadyH.nil)
  go_simp
  refine (mkins_any [120] [112, 49] _).mono ?_
  rintro e W1 ⟨rfl, hb⟩
  have hS1 := rkeepk hb hS0
  have hB1 := chain2 hB0 hb
  clear hb
  go_wp2_with fail
  refine hK.out _ _ hS1 (fun hHeld => ?_)
  clear hK K
  try simp only [Act.put, sia, sc0, scs]
  refine wpAnyH_ready (rs := [2]) (by kernel_rfl) (by simp) (AllReadyH.cons rfl (fun K hK => ?_) AllReadyH.nil)
  go_simp
  refine (mkins_any [121] [112, 49] _).mono ?_
  rintro e W2 ⟨rfl, hb⟩
  have hS2 := rkeepk hb hS1
  have hB2 := chain2 hB1 hb
  clear hb
  go_wp2_with fail
  refine hK.out _ _ hS2 (fun hHeld => ?_)
  clear hK K
  try simp only [Act.put, sia, sc0, scs]
  refine wpAnyH_ready (rs := [3]) (by kernel_rfl) (by simp) (AllReadyH.cons rfl (fun K hK => ?_) AllReadyH.nil)
  go_simp
  refine (mkwords_any [112, 49] 1 _).mono ?_
  rintro e W3 ⟨rfl, hb⟩
  have hS3 := rkeepk hb hS2
  have hB3 := chain2 hB2 hb
  clear hb
  go_wp2_with fail
  refine hK.out _ _ hS3 (fun hHeld => ?_)
  clear hK K
  try simp only [Act.put, sia, sc0, scs]
  refine wpAnyH_ready (rs := [4]) (by kernel_rfl) (by simp) (AllReadyH.cons rfl (fun K hK => ?_) AllReadyH.nil)
  go_simp
  generalize hWg : World.alloc W3 _ = WG
  have hrp : RdP WG (some ⟨W3.heap.size, 0, none⟩) head_ps := by rw [← hWg]; exact RdP.lits _ _ _ rfl _ rfl
  have hBg : Below wc.heap.size wc WG := by rw [← hWg]; exact bl1 hB3 _
  have hSg : WG.blk w.heap.size = some (.cells (patCs repP) 29 (0, 0)) := by rw [← hWg]; exact rkeepk (bl1 (Below.refl _ _) _) hS3
  clear hWg
  refine hK.out _ _ hSg (fun hHeld => ?_)
  clear hK K
  try simp only [Act.put, sia, sc0, scs]
  refine wpAnyH_ready (rs := [5]) (by kernel_rfl) (by simp) (AllReadyH.cons rfl (fun K hK => ?_) AllReadyH.nil)
  go_simp
  refine (groups_read head_ps head_rdy (by decide) (some ⟨W3.heap.size, 0, none⟩) 4 4 rfl m _ hrp (gcell (chain2 HW5.out hBg) HG.out)).mono ?_
  rintro e W5 ⟨A, c, he, -, hrg, -, hb⟩
  rw [head_g] at he hrg
  subst he
  have hS5 := rkeepk hb hSg
  have hB5 := chain2 hBg hb
  have HRG := Lib.hid hrg
  clear hb hrg
  go_wp2_with fail
  refine hK.out _ _ hS5 (fun hHeld => ?_)
  clear hK K
  try simp only [Act.put, sia, sc0, scs]
  refine takeD (i := 6) (v := .slice A 2 c) (k := 11) rfl rfl (by kernel_rfl) (by kernel_rfl) (by kernel_rfl) (fun _ _ _ h => h) (Or.inl ⟨by rfl, fun z hz => by go_simp⟩) hHeld ?_
  try simp only [Act.put, sia, sc0, scs]
  refine wpAnyH_done (by kernel_rfl) ?_ _
  go_wp2_with fail
  go_meet
  case rel => exact ⟨A, c, rfl, HRG.out, hB5⟩
 case rest =>
 obtain ⟨A, c, rfl, hrg, hcb⟩ := hcut
 have HW6 := Lib.hid (HW5.out.trans (hcb.mono HW5.out.size))
 have k5 := rkeepk hcb hk5'
 have k6 := rkeepk hcb hk6'
 have HRG := Lib.hid hrg
 clear hcb hk1 hk5' hk6' HW5 HW5c hrg
 go_upto_region 8 with fail
 refine wp_region_held_drew (S := fun X => X.blk b5 = some (.cells (patCs (insP [121] [112, 49])) 29 (0, 0)) ∧ X.blk b6 = some (.cells (patCs (insP [120] [121])) 29 (0, 0))) (by kernel_rfl) ⟨k5, k6⟩ (fun hHeld => ?_)
 have hS0 := And.intro k5 k6
 have hB0 : Below wc.heap.size wc wc.drew := (Below.refl _ _).drew
 refine takeD (i := 0) (v := .bool true) (k := 64) rfl rfl (by kernel_rfl) (by kernel_rfl) (by kernel_rfl) (fun _ _ _ h => h) (Or.inl ⟨by rfl, fun z hz => by (obtain ⟨z0, z1⟩ := hz; go_simp)⟩) hHeld ?_
 try simp only [Act.put, sia, sc0, scs]
 refine takeD (i := 1) (v := .bool true) (k := 65) rfl rfl (by kernel_rfl) (by kernel_rfl) (by kernel_rfl) (fun _ _ _ h => h) (Or.inl ⟨by rfl, fun z hz => by (obtain ⟨z0, z1⟩ := hz; go_simp)⟩) hHeld ?_
 try simp only [Act.put, sia, sc0, scs]
 refine takeD (i := 2) (v := .func (.func 15) #[] #[]) (k := 66) rfl rfl (by kernel_rfl) (by kernel_rfl) (by kernel_rfl) (fun _ _ _ h => h) (Or.inl ⟨by rfl, fun z hz => by (obtain ⟨z0, z1⟩ := hz; go_simp)⟩) hHeld ?_
 try simp only [Act.put, sia, sc0, scs]
 refine takeD (i := 4) (v := .func (.func 15) #[] #[]) (k := 68) rfl rfl (by kernel_rfl) (by kernel_rfl) (by kernel_rfl) (fun _ _ _ h => h) (Or.inl ⟨by rfl, fun z hz => by (obtain ⟨z0, z1⟩ := hz; go_simp)⟩) hHeld ?_
 try simp only [Act.put, sia, sc0, scs]
 refine wpAnyH_ready (rs := [3]) (by kernel_rfl) (by simp) (AllReadyH.cons rfl (fun K hK => ?_) AllReadyH.nil)
 go_simp
 refine (mkmove_any [112, 49] _).mono ?_
 rintro e W1 ⟨rfl, hb⟩
 have hB1 := chain2 hB0 hb
 have hS1 := And.intro (rkeepk hb hS0.1) (rkeepk hb hS0.2)
 clear hb
 go_wp2_with fail
 refine hK.out _ _ hS1 (fun hHeld => ?_)
 clear hK K
 try simp only [Act.put, sia, sc0, scs]
 refine wpAnyH_ready (rs := [5]) (by kernel_rfl) (by simp) (AllReadyH.cons rfl (fun K hK => ?_) AllReadyH.nil)
 go_simp
 refine (mkmove_any [112, 51] _).mono ?_
 rintro e W2 ⟨rfl, hb⟩
 have hB2 := chain2 hB1 hb
 have hS2 := And.intro (rkeepk hb hS1.1) (rkeepk hb hS1.2)
 clear hb
 go_wp2_with fail
 refine hK.out _ _ hS2 (fun hHeld => ?_)
 clear hK K
 try simp only [Act.put, sia, sc0, scs]
 refine wpAnyH_ready (rs := [6]) (by kernel_rfl) (by simp) (AllReadyH.cons rfl (fun K hK => ?_) AllReadyH.nil)
 go_simp
 refine (comm_lit head_c6 (movP_ready _) (movP_ready _) _ m (gcell (chain2 HW6.out hB2) HG.out)).mono ?_
 rintro e W3 ⟨rfl, hb⟩
 have hB3 := chain2 hB2 hb
 have hS3 := And.intro (rkeepk hb hS2.1) (rkeepk hb hS2.2)
 clear hb
 go_wp2_with fail
 refine hK.out _ _ hS3 (fun hHeld => ?_)
 clear hK K
 try simp only [Act.put, sia, sc0, scs]
 refine takeD (i := 7) (v := .bool true) (k := 71) rfl rfl (by kernel_rfl) (by kernel_rfl) (by kernel_rfl) (fun _ _ _ h => h) (Or.inl ⟨by rfl, fun z hz => by (obtain ⟨z0, z1⟩ := hz; go_simp)⟩) hHeld ?_
 try simp only [Act.put, sia, sc0, scs]
 refine takeD (i := 8) (v := .bool true) (k := 72) rfl rfl (by kernel_rfl) (by kernel_rfl) (by kernel_rfl) (fun _ _ _ h => h) (Or.inl ⟨by rfl, fun z hz => by (obtain ⟨z0, z1⟩ := hz; go_simp)⟩) hHeld ?_
 try simp only [Act.put, sia, sc0, scs]
 refine takeD (i := 9) (v := .bool true) (k := 73) rfl rfl (by kernel_rfl) (by kernel_rfl) (by kernel_rfl) (fun _ _ _ h => h) (Or.inl ⟨by rfl, fun z hz => by (obtain ⟨z0, z1⟩ := hz; go_simp)⟩) hHeld ?_
 try simp only [Act.put, sia, sc0, scs]
 refine takeD (i := 10) (v := .bool true) (k := 74) rfl rfl (by kernel_rfl) (by kernel_rfl) (by kernel_rfl) (fun _ _ _ h => h) (Or.inl ⟨by rfl, fun z hz => by (obtain ⟨z0, z1⟩ := hz; go_simp)⟩) hHeld ?_
 try simp only [Act.put, sia, sc0, scs]
 refine takeD (i := 11) (v := .bool true) (k := 75) rfl rfl (by kernel_rfl) (by kernel_rfl) (by kernel_rfl) (fun _ _ _ h => h) (Or.inl ⟨by rfl, fun z hz => by (obtain ⟨z0, z1⟩ := hz; go_simp)⟩) hHeld ?_
 try simp only [Act.put, sia, sc0, scs]
 refine takeD (i := 12) (v := .bool true) (k := 76) rfl rfl (by kernel_rfl) (by kernel_rfl) (by kernel_rfl) (fun _ _ _ h => h) (Or.inl ⟨by rfl, fun z hz => by (obtain ⟨z0, z1⟩ := hz; go_simp)⟩) hHeld ?_
 try simp only [Act.put, sia, sc0, scs]
 refine takeD (i := 13) (v := (insP [121] [112, 49]).agg) (k := 77) rfl rfl (by kernel_rfl) (by kernel_rfl) (by kernel_rfl) (fun _ _ _ h => h) (Or.inl ⟨by rfl, fun z hz => by (obtain ⟨z0, z1⟩ := hz; go_simp)⟩) hHeld ?_
 try simp only [Act.put, sia, sc0, scs]
 refine wpAnyH_ready (rs := [14]) (by kernel_rfl) (by simp) (AllReadyH.cons rfl (fun K hK => ?_) AllReadyH.nil)
 go_simp
 refine (mkins_any [121] [112, 49] _).mono ?_
 rintro e W4 ⟨rfl, hb⟩
 have hB4 := chain2 hB3 hb
 have hS4 := And.intro (rkeepk hb hS3.1) (rkeepk hb hS3.2)
 clear hb
 go_wp2_with fail
 refine hK.out _ _ hS4 (fun hHeld => ?_)
 clear hK K
 try simp only [Act.put, sia, sc0, scs]
 refine takeD (i := 15) (v := .bool true) (k := 79) rfl rfl (by kernel_rfl) (by kernel_rfl) (by kernel_rfl) (fun _ _ _ h => h) (Or.inl ⟨by rfl, fun z hz => by (obtain ⟨z0, z1⟩ := hz; go_simp)⟩) hHeld ?_
 try simp only [Act.put, sia, sc0, scs]
 refine takeD (i := 16) (v := .bool true) (k := 80) rfl rfl (by kernel_rfl) (by kernel_rfl) (by kernel_rfl) (fun _ _ _ h => h) (Or.inl ⟨by rfl, fun z hz => by (obtain ⟨z0, z1⟩ := hz; go_simp)⟩) hHeld ?_
 try simp only [Act.put, sia, sc0, scs]
 refine takeD (i := 17) (v := .bool true) (k := 81) rfl rfl (by kernel_rfl) (by kernel_rfl) (by kernel_rfl) (fun _ _ _ h => h) (Or.inl ⟨by rfl, fun z hz => by (obtain ⟨z0, z1⟩ := hz; go_simp)⟩) hHeld ?_
 try simp only [Act.put, sia, sc0, scs]
 refine takeD (i := 18) (v := (insP [120] [121]).agg) (k := 82) rfl rfl (by kernel_rfl) (by kernel_rfl) (by kernel_rfl) (fun _ _ _ h => h) (Or.inl ⟨by rfl, fun z hz => by (obtain ⟨z0, z1⟩ := hz; go_simp)⟩) hHeld ?_
 try simp only [Act.put, sia, sc0, scs]
 refine wpAnyH_ready (rs := [19]) (by kernel_rfl) (by simp) (AllReadyH.cons rfl (fun K hK => ?_) AllReadyH.nil)
 go_simp
 refine (mkins_any [120] [121] _).mono ?_
 rintro e W5 ⟨rfl, hb⟩
 have hB5 := chain2 hB4 hb
 have hS5 := And.intro (rkeepk hb hS4.1) (rkeepk hb hS4.2)
 clear hb
 go_wp2_with fail
 refine hK.out _ _ hS5 (fun hHeld => ?_)
 clear hK K
 try simp only [Act.put, sia, sc0, scs]
 refine takeD (i := 20) (v := .bool true) (k := 84) rfl rfl (by kernel_rfl) (by kernel_rfl) (by kernel_rfl) (fun _ _ _ h => h) (Or.inl ⟨by rfl, fun z hz => by (obtain ⟨z0, z1⟩ := hz; go_simp)⟩) hHeld ?_
 try simp only [Act.put, sia, sc0, scs]
 refine takeD (i := 21) (v := .bool true) (k := 85) rfl rfl (by kernel_rfl) (by kernel_rfl) (by kernel_rfl) (fun _ _ _ h => h) (Or.inl ⟨by rfl, fun z hz => by (obtain ⟨z0, z1⟩ := hz; go_simp)⟩) hHeld ?_
 try simp only [Act.put, sia, sc0, scs]
 refine takeD (i := 22) (v := .bool true) (k := 86) rfl rfl (by kernel_rfl) (by kernel_rfl) (by kernel_rfl) (fun _ _ _ h => h) (Or.inl ⟨by rfl, fun z hz => by (obtain ⟨z0, z1⟩ := hz; go_simp)⟩) hHeld ?_
 try simp only [Act.put, sia, sc0, scs]
 refine takeD (i := 23) (v := .bool false) (k := 87) rfl rfl (by kernel_rfl) (by kernel_rfl) (by kernel_rfl) (fun _ _ _ h => h) (Or.inl ⟨by rfl, fun z hz => by (obtain ⟨z0, z1⟩ := hz; go_simp)⟩) hHeld ?_
 try simp only [Act.put, sia, sc0, scs]
 refine takeD (i := 24) (v := .bool true) (k := 88) rfl rfl (by kernel_rfl) (by kernel_rfl) (by kernel_rfl) (fun _ _ _ h => h) (Or.inl ⟨by rfl, fun z hz => by (obtain ⟨z0, z1⟩ := hz; go_simp)⟩) hHeld ?_
 try simp only [Act.put, sia, sc0, scs]
 refine takeD (i := 25) (v := .bool true) (k := 89) rfl rfl (by kernel_rfl) (by kernel_rfl) (by kernel_rfl) (fun _ _ _ h => h) (Or.inl ⟨by rfl, fun z hz => by (obtain ⟨z0, z1⟩ := hz; go_simp)⟩) hHeld ?_
 try simp only [Act.put, sia, sc0, scs]
 refine takeD (i := 26) (v := .bool true) (k := 90) rfl rfl (by kernel_rfl) (by kernel_rfl) (by kernel_rfl) (fun _ _ _ h => h) (Or.inl ⟨by rfl, fun z hz => by (obtain ⟨z0, z1⟩ := hz; go_simp)⟩) hHeld ?_
 try simp only [Act.put, sia, sc0, scs]
 refine takeD (i := 27) (v := .slice A 2 c) (k := 91) rfl rfl (by kernel_rfl) (by kernel_rfl) (by kernel_rfl) (fun _ _ _ h => h) (Or.inl ⟨by rfl, fun z hz => by (obtain ⟨z0, z1⟩ := hz; go_simp)⟩) hHeld ?_
 try simp only [Act.put, sia, sc0, scs]
 have HB5 := hB5
 clear hB0 hB1 hB2 hB3 hB4 hB5 hS0 hS1 hS2 hS3 hS4
 refine wpAnyH_ready (rs := [28, 29]) (by kernel_rfl) (by simp) (AllReadyH.cons rfl (fun K hK => ?_) (AllReadyH.cons rfl (fun K hK => ?_) AllReadyH.nil))
 · go_simp
   refine hK.out _ _ (And.intro (rkeepk (bl1 (Below.refl _ _) _) hHeld.1) (rkeepk (bl1 (Below.refl _ _) _) hHeld.2)) (fun hHeld => ?_)
   clear hK K
   try simp only [Act.put, sia, sc0, scs]
   refine wpAnyH_ready (rs := [29]) (by kernel_rfl) (by simp) (AllReadyH.cons rfl (fun K hK => ?_) AllReadyH.nil)
   go_simp
   refine hK.out _ _ (And.intro (rkeepk (bl1 (Below.refl _ _) _) hHeld.1) (rkeepk (bl1 (Below.refl _ _) _) hHeld.2)) (fun hHeld => ?_)
   clear hK K
   try simp only [Act.put, sia, sc0, scs]
   refine wpAnyH_ready (rs := [30]) (by kernel_rfl) (by simp) (AllReadyH.cons rfl (fun K hK => ?_) AllReadyH.nil)
   go_simp
   generalize hWz : World.alloc (World.alloc (World.alloc W5 _) _) _ = Wz
   have hBz : Below wc.heap.size wc Wz := by rw [← hWz]; exact bl1 (bl1 (bl1 HB5 _) _) _
   have hRz : RdG Wz (some ⟨W5.heap.size + 1 + 1, 0, none⟩) [[0, 2], [1, 3]] := by
    refine RdG.two (h1 := W5.heap.size) (h2 := W5.heap.size + 1) ?_ ?_ ?_ ?_ ?_ ?_ (by omega) (by omega) <;> (rw [← hWz]; simp [go_sem])
   have hSz : Wz.blk b5 = some (.cells (patCs (insP [121] [112, 49])) 29 (0, 0)) ∧ Wz.blk b6 = some (.cells (patCs (insP [120] [121])) 29 (0, 0)) := by
    rw [← hWz]
    exact ⟨rkeepk (bl1 (Below.refl _ _) _) hHeld.1, rkeepk (bl1 (Below.refl _ _) _) hHeld.2⟩
   clear hWz
   refine hK.out _ _ hSz (fun hHeld => ?_)
   clear hK K
   try simp only [Act.put, sia, sc0, scs]
   refine wpAnyH_ready (rs := [31]) (by kernel_rfl) (by simp) (AllReadyH.cons rfl (fun K hK => ?_) AllReadyH.nil)
   go_simp
   refine (lists_lit [[0, 2], [1, 3]] 2 rfl A (some ⟨W5.heap.size + 1 + 1, 0, none⟩) c 2 _ (HRG.out.below hBz) hRz (by decide) (by decide)).mono ?_
   rintro e W6 ⟨rfl, hb⟩
   have hB6 := chain2 hBz hb
   have hS6 := And.intro (rkeepk hb hSz.1) (rkeepk hb hSz.2)
   clear hb
   go_wp2_with fail
   refine hK.out _ _ hS6 (fun hHeld => ?_)
   clear hK K
   try simp only [Act.put, sia, sc0, scs]
   refine takeD (i := 32) (v := .bool true) (k := 96) rfl rfl (by kernel_rfl) (by kernel_rfl) (by kernel_rfl) (fun _ _ _ h => h) (Or.inl ⟨by rfl, fun z hz => by (obtain ⟨z0, z1⟩ := hz; go_simp)⟩) hHeld ?_
   try simp only [Act.put, sia, sc0, scs]
   refine takeD (i := 33) (v := .bool true) (k := 0) rfl rfl (by kernel_rfl) (by kernel_rfl) (by kernel_rfl) (fun _ _ _ h => h) (Or.inl ⟨by rfl, fun z hz => by (obtain ⟨z0, z1⟩ := hz; go_simp)⟩) hHeld ?_
   try simp only [Act.put, sia, sc0, scs]
   refine wpAnyH_done (by kernel_rfl) ?_ _
   go_wp2_with fail
   go_ret
   exact ⟨rfl, HW6.out.trans (hB6.mono HW6.out.size)⟩
 · go_simp
   refine hK.out _ _ (And.intro (rkeepk (bl1 (Below.refl _ _) _) hHeld.1) (rkeepk (bl1 (Below.refl _ _) _) hHeld.2)) (fun hHeld => ?_)
   clear hK K
   try simp only [Act.put, sia, sc0, scs]
   refine wpAnyH_ready (rs := [28]) (by kernel_rfl) (by simp) (AllReadyH.cons rfl (fun K hK => ?_) AllReadyH.nil)
   go_simp
   refine hK.out _ _ (And.intro (rkeepk (bl1 (Below.refl _ _) _) hHeld.1) (rkeepk (bl1 (Below.refl _ _) _) hHeld.2)) (fun hHeld => ?_)
   clear hK K
   try simp only [Act.put, sia, sc0, scs]
   refine wpAnyH_ready (rs := [30]) (by kernel_rfl) (by simp) (AllReadyH.cons rfl (fun K hK => ?_) AllReadyH.nil)
   go_simp
   generalize hWz : World.alloc (World.alloc (World.alloc W5 _) _) _ = Wz
   have hBz : Below wc.heap.size wc Wz := by rw [← hWz]; exact bl1 (bl1 (bl1 HB5 _) _) _
   have hRz : RdG Wz (some ⟨W5.heap.size + 1 + 1, 0, none⟩) [[0, 2], [1, 3]] := by
    refine RdG.two (h1 := W5.heap.size + 1) (h2 := W5.heap.size) ?_ ?_ ?_ ?_ ?_ ?_ (by omega) (by omega) <;> (rw [← hWz]; simp [go_sem])
   have hSz : Wz.blk b5 = some (.cells (patCs (insP [121] [112, 49])) 29 (0, 0)) ∧ Wz.blk b6 = some (.cells (patCs (insP [120] [121])) 29 (0, 0)) := by
    rw [← hWz]
    exact ⟨rkeepk (bl1 (Below.refl _ _) _) hHeld.1, rkeepk (bl1 (Below.refl _ _) _) hHeld.2⟩
   clear hWz
   refine hK.out _ _ hSz (fun hHeld => ?_)
   clear hK K
   try simp only [Act.put, sia, sc0, scs]
   refine wpAnyH_ready (rs := [31]) (by kernel_rfl) (by simp) (AllReadyH.cons rfl (fun K hK => ?_) AllReadyH.nil)
   go_simp
   refine (lists_lit [[0, 2], [1, 3]] 2 rfl A (some ⟨W5.heap.size + 1 + 1, 0, none⟩) c 2 _ (HRG.out.below hBz) hRz (by decide) (by decide)).mono ?_
   rintro e W6 ⟨rfl, hb⟩
   have hB6 := chain2 hBz hb
   have hS6 := And.intro (rkeepk hb hSz.1) (rkeepk hb hSz.2)
   clear hb
   go_wp2_with fail
   refine hK.out _ _ hS6 (fun hHeld => ?_)
   clear hK K
   try simp only [Act.put, sia, sc0, scs]
   refine takeD (i := 32) (v := .bool true) (k := 96) rfl rfl (by kernel_rfl) (by kernel_rfl) (by kernel_rfl) (fun _ _ _ h => h) (Or.inl ⟨by rfl, fun z hz => by (obtain ⟨z0, z1⟩ := hz; go_simp)⟩) hHeld ?_
   try simp only [Act.put, sia, sc0, scs]
   refine takeD (i := 33) (v := .bool true) (k := 0) rfl rfl (by kernel_rfl) (by kernel_rfl) (by kernel_rfl) (fun _ _ _ h => h) (Or.inl ⟨by rfl, fun z hz => by (obtain ⟨z0, z1⟩ := hz; go_simp)⟩) hHeld ?_
   try simp only [Act.put, sia, sc0, scs]
   refine wpAnyH_done (by kernel_rfl) ?_ _
   go_wp2_with fail
   go_ret
   exact ⟨rfl, HW6.out.trans (hB6.mono HW6.out.size)⟩
end Go.Proofs.YtfolcjkednmkoaaGreat
