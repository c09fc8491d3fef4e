/- The law CommuteFurther. -/
import Derived.Test.YtfolcjkednmkoaaCHead
import Derived.Test.YtfolcjkednmkoaaCGrpW
import Derived.Test.YtfolcjkednmkoaaCOwnP
import Derived.Test.YtfolcjkednmkoaaJVis
import Derived.Test.YtfolcjkednmkoaaCPlc
import Derived.Test.YtfolcjkednmkoaaCommon
set_option linter.unusedVariables false
set_option linter.unusedSimpArgs false
namespace Go.Proofs.Ytfolcjkednmkoaa
open Go.RowKit
theorem light_len {l : List Item} {ps : List Patch} (h : 12 < ps.length) : lightB l ps = false := by
  cases hl : lightB l ps with
  | false => rfl
  | true => have := (light_pats hl).1; omega
theorem more_fits {ps : List Patch} {p : Patch} (h : ∀ q ∈ ps, q.Fits) (hp : p.Fits) : ∀ q ∈ ps ++ [p], q.Fits := by
  intro q hq
  rcases List.mem_append.1 hq with hq | hq
  · exact h q hq
  · simp at hq
    subst hq
    exact hp
theorem light_lit2 {l : List Item} {ps : List Patch} {r : Bool} (h : lightB l ps = r) (A B : Option Addr) (c n d : Nat) (w : World) (hn : n = ps.length) (hr : RdI w A l) (hs : RdP w B ps) (hl : l.length ≤ maxLen) (hfit : ∀ x ∈ l, x.Fits) (hfp : ps.length ≤ maxLen ∧ ∀ p ∈ ps, p.Fits) :
    Calls Try.prog 9 #[.agg #[.slice A l.length c], .slice B n d] w fun e w' => e = .returned (.bool r) ∧ Below w.heap.size w w' := by
  subst hn h
  exact light_any l ps A B c d w hr hs hl hfp.1 hfit hfp.2
theorem range_get {G : List (List Nat)} {n i : Nat} (h : i < n) : ((List.range n).map (posG G))[i]? = some (posG G i) := by
  rw [List.getElem?_map, List.getElem?_range h]
  rfl
set_option maxRecDepth 20000 in
set_option maxHeartbeats 8000000 in
theorem cfur_a (ps : List Patch) (B : Option Addr) (dc : Nat) (p : Patch) (w : World) (m : Int) (hs : RdP w B ps) (hm : ps.length ≤ maxLen) (hfp : ∀ q ∈ ps, q.Fits) (hbg : ps.length * 208 ≤ 140737488351232) (hpf : p.Fits) (hg : w.cell? ⟨0, 0, none⟩ = some (.int .i64 m)) (hli : lightB [] (ps ++ [p]) = false) : Calls Try.prog 7 #[.slice B ps.length dc, p.agg] w fun e w' => e = .returned (.bool true) ∧ Below w.heap.size w w' := by
  have HLI := Lib.hid hli; clear hli
  have HS := Lib.hid hs; clear hs
  have HG := Lib.hid hg; clear hg
  have HFP := Lib.hid hfp; clear hfp
  have hb0 : Below w.heap.size w (w.alloc (.cells (patCs p) 28)) := (Below.refl _ _).alloc (Nat.le_refl _) _
  have P0 : (w.alloc (.cells (patCs p) 28)).blk w.heap.size = some (.cells (patCs p) 28 (0, 0)) := by simp [go_sem]
  have HB0 := Lib.hid hb0; clear hb0
  go_enter Try.func7, Try.ntmps7
  go_wp2_with fail
  refine (head20_any _ m (gcell HB0.out HG.out)).mono ?_
  rintro e w1 ⟨rfl, hb1⟩
  have P1 := rkeepk hb1 P0
  have HB1 := Lib.hid (chain2 HB0.out hb1)
  clear hb1 P0 HB0
  have hz1 : w.heap.size < w1.heap.size := lt_of_heap P1
  have HSW := Lib.hid (HS.out.below HB1.out)
  go_upto_region 2 with fail
  go_cut [6] (fun v6 wd => OwnPs wd w1.heap.size v6 (ps ++ [p]) ∧ Below w1.heap.size w1 wd)
  case first =>
    refine wp_region_held_drew (S := (fun X => X.blk w.heap.size = some (.cells (patCs p) 28 (0, 0)))) (by kernel_rfl) P1 (fun hHeld => ?_)
    refine takeD (i := 1) (v := .slice B ps.length dc) (k := 13) rfl rfl (by kernel_rfl) (by kernel_rfl) (by kernel_rfl) (fun _ _ _ h => h) (Or.inl ⟨by rfl, fun z hz => by go_simp⟩) hHeld ?_
    refine takeD (i := 3) (v := p.agg) (k := 15) rfl rfl (by kernel_rfl) (by kernel_rfl) (by kernel_rfl) (fun _ _ _ h => h) (Or.inl ⟨by rfl, fun z hz => by go_simp⟩) hHeld ?_
    try simp only [Act.put, List.setIfInBounds_toArray, List.set_cons_zero, List.set_cons_succ]
    generalize hG : wpAnyH Try.prog _ _ _ _ = G
    have e21 : ∀ (W : World) (g0 : Nat) (v : Value) (g4 : Nat), Below w1.heap.size w1 W → OwnPs W w1.heap.size v ps → W.heap[g4]? = some (.cells (patCs p) 28 (0, 0)) → G 2 #[true, true, true, true, true, false, false] ⟨#[.slice B ps.length dc, p.agg, undef, .pointer (some ⟨w.heap.size, 0, none⟩), .bool false, .bool true, undef, undef, undef, undef, undef, .bool true, .slice (some ⟨g0, 0, none⟩) 0 0, .slice B ps.length dc, v, p.agg, .slice (some ⟨g4, 0, none⟩) 1 1, undef, undef, undef, undef, undef, undef, undef, undef, undef, undef, undef, undef, undef, undef, undef, undef, undef, undef, undef, undef, undef, undef, undef, undef, undef, undef, undef, undef, undef, undef, undef, undef, undef, undef, undef, undef, undef, undef, undef, undef, undef, undef, undef, undef, undef, undef, undef, undef, undef, undef, undef, undef, undef, undef, undef, undef, undef, undef, undef, undef, undef, undef, undef, undef, undef, undef, undef, undef, undef, undef, undef, undef, undef, undef, undef, undef, undef, undef, undef, undef, undef, undef, undef, undef, undef, undef, undef, undef], []⟩ W := by
      intro W g0 v g4 hB hO h4
      rw [← hG]
      refine wpAnyH_ready (rs := [5]) (by kernel_rfl) (by simp) (AllReadyH.cons rfl (fun K hK => ?_) AllReadyH.nil)
      refine step_append_pats rfl (.tmp 14) (.tmp 16) rfl rfl w1.heap.size v ps [p] (some ⟨g4, 0, none⟩) 1 1 rfl rfl rfl hO (RdP.one _ _ _ h4) (by simp; omega) hB.size (some 17) rfl ?_
      intro v' W2 hO2 hgr
      have hB2 := hB.grown hgr hB.size hO.ge
      refine hK.out _ _ (rkeepk hB2 P1) (fun hHeld => ?_)
      clear hK K
      try simp only [Act.put, List.setIfInBounds_toArray, List.set_cons_zero, List.set_cons_succ]
      refine takeD (i := 6) (v := v') (k := 6) rfl rfl (by kernel_rfl) (by kernel_rfl) (by kernel_rfl) (fun _ _ _ h => h) (Or.inl ⟨by rfl, fun z hz => by go_simp⟩) hHeld ?_
      try simp only [Act.put, List.setIfInBounds_toArray, List.set_cons_zero, List.set_cons_succ]
      refine wpAnyH_done (by kernel_rfl) ?_ _
      go_wp2_with fail
      go_meet
      case rel => exact ⟨hO2, hB2⟩
    have e20 : ∀ (W : World) (g0 : Nat) (v : Value), Below w1.heap.size w1 W → OwnPs W w1.heap.size v ps → G 3 #[true, true, true, true, false, false, false] ⟨#[.slice B ps.length dc, p.agg, undef, .pointer (some ⟨w.heap.size, 0, none⟩), .bool false, .bool true, undef, undef, undef, undef, undef, .bool true, .slice (some ⟨g0, 0, none⟩) 0 0, .slice B ps.length dc, v, p.agg, undef, undef, undef, undef, undef, undef, undef, undef, undef, undef, undef, undef, undef, undef, undef, undef, undef, undef, undef, undef, undef, undef, undef, undef, undef, undef, undef, undef, undef, undef, undef, undef, undef, undef, undef, undef, undef, undef, undef, undef, undef, undef, undef, undef, undef, undef, undef, undef, undef, undef, undef, undef, undef, undef, undef, undef, undef, undef, undef, undef, undef, undef, undef, undef, undef, undef, undef, undef, undef, undef, undef, undef, undef, undef, undef, undef, undef, undef, undef, undef, undef, undef, undef, undef, undef, undef, undef, undef, undef], []⟩ W := by
      intro W g0 v hB hO
      rw [← hG]
      refine wpAnyH_ready (rs := [4]) (by kernel_rfl) (by simp) (AllReadyH.cons rfl (fun K hK => ?_) (AllReadyH.nil))
      · go_simp
        have hB2 := bl1 hB (.cells (patCs p) 28)
        have hb2 : Below W.heap.size W (W.alloc (.cells (patCs p) 28)) := bl1 (Below.refl _ _) _
        refine hK.out _ _ (rkeepk hB2 P1) (fun hHeld => ?_)
        clear hK K
        try simp only [Act.put, List.setIfInBounds_toArray, List.set_cons_zero, List.set_cons_succ]
        have := e21 _ g0 v W.heap.size hB2 (hO.below hb2) (heap_alloc_new _ _)
        rw [← hG] at this
        exact this
    have e11 : ∀ (W : World) (g0 : Nat) (g4 : Nat), Below w1.heap.size w1 W → W.heap[g0]? = some (.cells #[] 28 (0, 0)) → w1.heap.size ≤ g0 → W.heap[g4]? = some (.cells (patCs p) 28 (0, 0)) → g4 ≠ g0 → G 3 #[true, true, false, true, true, false, false] ⟨#[.slice B ps.length dc, p.agg, undef, .pointer (some ⟨w.heap.size, 0, none⟩), .bool false, .bool true, undef, undef, undef, undef, undef, .bool true, .slice (some ⟨g0, 0, none⟩) 0 0, .slice B ps.length dc, undef, p.agg, .slice (some ⟨g4, 0, none⟩) 1 1, undef, undef, undef, undef, undef, undef, undef, undef, undef, undef, undef, undef, undef, undef, undef, undef, undef, undef, undef, undef, undef, undef, undef, undef, undef, undef, undef, undef, undef, undef, undef, undef, undef, undef, undef, undef, undef, undef, undef, undef, undef, undef, undef, undef, undef, undef, undef, undef, undef, undef, undef, undef, undef, undef, undef, undef, undef, undef, undef, undef, undef, undef, undef, undef, undef, undef, undef, undef, undef, undef, undef, undef, undef, undef, undef, undef, undef, undef, undef, undef, undef, undef, undef, undef, undef, undef, undef, undef], []⟩ W := by
      intro W g0 g4 hB h0 l0 h4 hn
      rw [← hG]
      refine wpAnyH_ready (rs := [2]) (by kernel_rfl) (by simp) (AllReadyH.cons rfl (fun K hK => ?_) (AllReadyH.nil))
      · refine step_append_pats rfl (.tmp 12) (.tmp 13) rfl rfl w1.heap.size (.slice (some ⟨g0, 0, none⟩) 0 0) [] ps B ps.length dc rfl rfl rfl (OwnPs.empty h0 l0) (HSW.out.below hB) (by simp; omega) hB.size (some 14) rfl ?_
        intro v' W2 hO2 hgr
        have hB2 := hB.grown hgr hB.size (OwnPs.empty h0 l0).ge
        refine hK.out _ _ (rkeepk hB2 P1) (fun hHeld => ?_)
        clear hK K
        try simp only [Act.put, List.setIfInBounds_toArray, List.set_cons_zero, List.set_cons_succ]
        have := e21 W2 g0 v' g4 hB2 hO2 ((hgr.block g4 (lt_of_heap h4) (fun e => hn (Option.some.inj e))).trans h4)
        rw [← hG] at this
        exact this
    have e10 : ∀ (W : World) (g0 : Nat), Below w1.heap.size w1 W → W.heap[g0]? = some (.cells #[] 28 (0, 0)) → w1.heap.size ≤ g0 → G 4 #[true, true, false, true, false, false, false] ⟨#[.slice B ps.length dc, p.agg, undef, .pointer (some ⟨w.heap.size, 0, none⟩), .bool false, .bool true, undef, undef, undef, undef, undef, .bool true, .slice (some ⟨g0, 0, none⟩) 0 0, .slice B ps.length dc, undef, p.agg, undef, undef, undef, undef, undef, undef, undef, undef, undef, undef, undef, undef, undef, undef, undef, undef, undef, undef, undef, undef, undef, undef, undef, undef, undef, undef, undef, undef, undef, undef, undef, undef, undef, undef, undef, undef, undef, undef, undef, undef, undef, undef, undef, undef, undef, undef, undef, undef, undef, undef, undef, undef, undef, undef, undef, undef, undef, undef, undef, undef, undef, undef, undef, undef, undef, undef, undef, undef, undef, undef, undef, undef, undef, undef, undef, undef, undef, undef, undef, undef, undef, undef, undef, undef, undef, undef, undef, undef, undef], []⟩ W := by
      intro W g0 hB h0 l0
      rw [← hG]
      refine wpAnyH_ready (rs := [2, 4]) (by kernel_rfl) (by simp) (AllReadyH.cons rfl (fun K hK => ?_) (AllReadyH.cons rfl (fun K hK => ?_) (AllReadyH.nil)))
      · refine step_append_pats rfl (.tmp 12) (.tmp 13) rfl rfl w1.heap.size (.slice (some ⟨g0, 0, none⟩) 0 0) [] ps B ps.length dc rfl rfl rfl (OwnPs.empty h0 l0) (HSW.out.below hB) (by simp; omega) hB.size (some 14) rfl ?_
        intro v' W2 hO2 hgr
        have hB2 := hB.grown hgr hB.size (OwnPs.empty h0 l0).ge
        refine hK.out _ _ (rkeepk hB2 P1) (fun hHeld => ?_)
        clear hK K
        try simp only [Act.put, List.setIfInBounds_toArray, List.set_cons_zero, List.set_cons_succ]
        have := e20 W2 g0 v' hB2 hO2
        rw [← hG] at this
        exact this
      · go_simp
        have hB2 := bl1 hB (.cells (patCs p) 28)
        have hb2 : Below W.heap.size W (W.alloc (.cells (patCs p) 28)) := bl1 (Below.refl _ _) _
        refine hK.out _ _ (rkeepk hB2 P1) (fun hHeld => ?_)
        clear hK K
        try simp only [Act.put, List.setIfInBounds_toArray, List.set_cons_zero, List.set_cons_succ]
        have := e11 _ g0 W.heap.size hB2 (rkeepk hb2 h0) l0 (heap_alloc_new _ _) (Nat.ne_of_lt (lt_of_heap h0)).symm
        rw [← hG] at this
        exact this
    have e01 : ∀ (W : World) (g4 : Nat), Below w1.heap.size w1 W → W.heap[g4]? = some (.cells (patCs p) 28 (0, 0)) → G 4 #[false, true, false, true, true, false, false] ⟨#[.slice B ps.length dc, p.agg, undef, .pointer (some ⟨w.heap.size, 0, none⟩), .bool false, .bool true, undef, undef, undef, undef, undef, .bool true, undef, .slice B ps.length dc, undef, p.agg, .slice (some ⟨g4, 0, none⟩) 1 1, undef, undef, undef, undef, undef, undef, undef, undef, undef, undef, undef, undef, undef, undef, undef, undef, undef, undef, undef, undef, undef, undef, undef, undef, undef, undef, undef, undef, undef, undef, undef, undef, undef, undef, undef, undef, undef, undef, undef, undef, undef, undef, undef, undef, undef, undef, undef, undef, undef, undef, undef, undef, undef, undef, undef, undef, undef, undef, undef, undef, undef, undef, undef, undef, undef, undef, undef, undef, undef, undef, undef, undef, undef, undef, undef, undef, undef, undef, undef, undef, undef, undef, undef, undef, undef, undef, undef, undef], []⟩ W := by
      intro W g4 hB h4
      rw [← hG]
      refine wpAnyH_ready (rs := [0]) (by kernel_rfl) (by simp) (AllReadyH.cons rfl (fun K hK => ?_) (AllReadyH.nil))
      · go_simp
        have hB2 := bl1 hB (.cells #[] 28)
        have hb2 : Below W.heap.size W (W.alloc (.cells #[] 28)) := bl1 (Below.refl _ _) _
        refine hK.out _ _ (rkeepk hB2 P1) (fun hHeld => ?_)
        clear hK K
        try simp only [Act.put, List.setIfInBounds_toArray, List.set_cons_zero, List.set_cons_succ]
        have := e11 _ W.heap.size g4 hB2 (heap_alloc_new _ _) hB.size (rkeepk hb2 h4) (Nat.ne_of_lt (lt_of_heap h4))
        rw [← hG] at this
        exact this
    have e00 : ∀ (W : World), Below w1.heap.size w1 W → G 5 #[false, true, false, true, false, false, false] ⟨#[.slice B ps.length dc, p.agg, undef, .pointer (some ⟨w.heap.size, 0, none⟩), .bool false, .bool true, undef, undef, undef, undef, undef, .bool true, undef, .slice B ps.length dc, undef, p.agg, undef, undef, undef, undef, undef, undef, undef, undef, undef, undef, undef, undef, undef, undef, undef, undef, undef, undef, undef, undef, undef, undef, undef, undef, undef, undef, undef, undef, undef, undef, undef, undef, undef, undef, undef, undef, undef, undef, undef, undef, undef, undef, undef, undef, undef, undef, undef, undef, undef, undef, undef, undef, undef, undef, undef, undef, undef, undef, undef, undef, undef, undef, undef, undef, undef, undef, undef, undef, undef, undef, undef, undef, undef, undef, undef, undef, undef, undef, undef, undef, undef, undef, undef, undef, undef, undef, undef, undef, undef], []⟩ W := by
      intro W hB
      rw [← hG]
      refine wpAnyH_ready (rs := [0, 4]) (by kernel_rfl) (by simp) (AllReadyH.cons rfl (fun K hK => ?_) (AllReadyH.cons rfl (fun K hK => ?_) (AllReadyH.nil)))
      · go_simp
        have hB2 := bl1 hB (.cells #[] 28)
        have hb2 : Below W.heap.size W (W.alloc (.cells #[] 28)) := bl1 (Below.refl _ _) _
        refine hK.out _ _ (rkeepk hB2 P1) (fun hHeld => ?_)
        clear hK K
        try simp only [Act.put, List.setIfInBounds_toArray, List.set_cons_zero, List.set_cons_succ]
        have := e10 _ W.heap.size hB2 (heap_alloc_new _ _) hB.size
        rw [← hG] at this
        exact this
      · go_simp
        have hB2 := bl1 hB (.cells (patCs p) 28)
        have hb2 : Below W.heap.size W (W.alloc (.cells (patCs p) 28)) := bl1 (Below.refl _ _) _
        refine hK.out _ _ (rkeepk hB2 P1) (fun hHeld => ?_)
        clear hK K
        try simp only [Act.put, List.setIfInBounds_toArray, List.set_cons_zero, List.set_cons_succ]
        have := e01 _ W.heap.size hB2 (heap_alloc_new _ _)
        rw [← hG] at this
        exact this
    have := e00 _ (Below.refl _ _).drew
    exact this
  case rest =>
  obtain ⟨hown, hb2⟩ := hcut
  obtain ⟨w2, hw2⟩ : ∃ x, x = wc := ⟨_, rfl⟩
  subst hw2
  obtain ⟨A2, c2, rfl, hc1, hc2, hrd⟩ := hown.reads
  have HB2 := Lib.hid (chain2 HB1.out hb2)
  have HM := Lib.hid hrd
  have hm1 : (ps ++ [p]).length = ps.length + 1 := by simp
  clear hown hb2 P1 hz1 hrd HSW HB1
  have HS2 := Lib.hid (HS.out.below HB2.out)
  go_wp2_with fail
  refine (light_lit2 HLI.out none A2 0 (ps.length + 1) c2 _ hm1.symm Sl.nil HM.out (by simp) (by simp) ⟨by rw [hm1]; unfold maxLen; omega, more_fits HFP.out hpf⟩).mono ?_
  rintro e w3 ⟨rfl, hb3⟩
  have HB3 := Lib.hid (chain2 HB2.out hb3)
  have HM3 := Lib.hid (RdP.below HM.out hb3)
  clear hb3 HM HS2
  go_wp2_with fail
  go_ret
  exact ⟨rfl, HB3.out⟩
set_option maxRecDepth 20000 in
set_option maxHeartbeats 8000000 in
theorem cfur_b (ps : List Patch) (B : Option Addr) (dc : Nat) (p : Patch) (w : World) (m : Int) (hs : RdP w B ps) (hm : ps.length ≤ maxLen) (hfp : ∀ q ∈ ps, q.Fits) (hbg : ps.length * 208 ≤ 140737488351232) (hpf : p.Fits) (hg : w.cell? ⟨0, 0, none⟩ = some (.int .i64 m)) (hli : lightB [] (ps ++ [p]) = true) : Calls Try.prog 7 #[.slice B ps.length dc, p.agg] w fun e w' => e = .returned (.bool true) ∧ Below w.heap.size w w' := by
  obtain ⟨h12, hrd0⟩ := light_ready hli
  have HRD := Lib.hid hrd0
  have HRD1 := Lib.hid (fun q (hq : q ∈ ps) => hrd0 q (List.mem_append_left _ hq))
  have hn12 : ps.length + 1 ≤ 12 := by simpa using h12
  have hok := groups_ok (adjF ps) ps.length (fun i k h => (adjF_lt h).2) (adjF_symm ps)
  have hok2 := groups_ok (adjF (ps ++ [p])) (ps ++ [p]).length (fun i k h => (adjF_lt h).2) (adjF_symm (ps ++ [p]))
  have hlaw := fun i k (hi : i < ps.length) (hk : k < ps.length) => further_law ps p hi hk
  have e1 : (ps ++ [p]).length = ps.length + 1 := by simp
  have hre := fun (W : World) (B : Option Addr) (dc n : Nat) (hn : n = (ps ++ [p]).length) (m : Int) hr hg => groups_read (ps ++ [p]) hrd0 (by omega) B dc n hn m W hr hg
  rw [e1] at hok2 hre
  have hre1 := fun (W : World) (B : Option Addr) (dc n : Nat) (hn : n = ps.length) (m : Int) hr hg => groups_read ps (fun q hq => hrd0 q (List.mem_append_left _ hq)) (by omega) B dc n hn m W hr hg
  generalize groupsF (adjF (ps ++ [p])) (ps.length + 1) = G2 at hok2 hlaw hre
  generalize groupsF (adjF ps) ps.length = G1 at hok hlaw hre1
  obtain ⟨g1, g1'⟩ := groups_small hok
  obtain ⟨g2, g2'⟩ := groups_small hok2
  have HOK := Lib.hid hok; clear hok
  have HOK2 := Lib.hid hok2; clear hok2
  have HLAW := Lib.hid hlaw; clear hlaw
  have HRE := Lib.hid hre; clear hre
  have HRE1 := Lib.hid hre1; clear hre1
  have HG1 := Lib.hid (fun g hg => Nat.le_trans (g1' g hg) (show ps.length ≤ 1000 by omega)); clear g1'
  have HG2 := Lib.hid (fun g hg => Nat.le_trans (g2' g hg) (show ps.length + 1 ≤ 1000 by omega)); clear g2'
  clear hrd0 h12 e1
  have HLI := Lib.hid hli; clear hli
  have HS := Lib.hid hs; clear hs
  have HG := Lib.hid hg; clear hg
  have HFP := Lib.hid hfp; clear hfp
  have hb0 : Below w.heap.size w (w.alloc (.cells (patCs p) 28)) := (Below.refl _ _).alloc (Nat.le_refl _) _
  have P0 : (w.alloc (.cells (patCs p) 28)).blk w.heap.size = some (.cells (patCs p) 28 (0, 0)) := by simp [go_sem]
  have HB0 := Lib.hid hb0; clear hb0
  go_enter Try.func7, Try.ntmps7
  go_wp2_with fail
  refine (head20_any _ m (gcell HB0.out HG.out)).mono ?_
  rintro e w1 ⟨rfl, hb1⟩
  have P1 := rkeepk hb1 P0
  have HB1 := Lib.hid (chain2 HB0.out hb1)
  clear hb1 P0 HB0
  have hz1 : w.heap.size < w1.heap.size := lt_of_heap P1
  have HSW := Lib.hid (HS.out.below HB1.out)
  go_upto_region 2 with fail
  go_cut [6] (fun v6 wd => OwnPs wd w1.heap.size v6 (ps ++ [p]) ∧ Below w1.heap.size w1 wd)
  case first =>
    refine wp_region_held_drew (S := (fun X => X.blk w.heap.size = some (.cells (patCs p) 28 (0, 0)))) (by kernel_rfl) P1 (fun hHeld => ?_)
    refine takeD (i := 1) (v := .slice B ps.length dc) (k := 13) rfl rfl (by kernel_rfl) (by kernel_rfl) (by kernel_rfl) (fun _ _ _ h => h) (Or.inl ⟨by rfl, fun z hz => by go_simp⟩) hHeld ?_
    refine takeD (i := 3) (v := p.agg) (k := 15) rfl rfl (by kernel_rfl) (by kernel_rfl) (by kernel_rfl) (fun _ _ _ h => h) (Or.inl ⟨by rfl, fun z hz => by go_simp⟩) hHeld ?_
    try simp only [Act.put, List.setIfInBounds_toArray, List.set_cons_zero, List.set_cons_succ]
    generalize hG : wpAnyH Try.prog _ _ _ _ = G
    have e21 : ∀ (W : World) (g0 : Nat) (v : Value) (g4 : Nat), Below w1.heap.size w1 W → OwnPs W w1.heap.size v ps → W.heap[g4]? = some (.cells (patCs p) 28 (0, 0)) → G 2 #[true, true, true, true, true, false, false] ⟨#[.slice B ps.length dc, p.agg, undef, .pointer (some ⟨w.heap.size, 0, none⟩), .bool false, .bool true, undef, undef, undef, undef, undef, .bool true, .slice (some ⟨g0, 0, none⟩) 0 0, .slice B ps.length dc, v, p.agg, .slice (some ⟨g4, 0, none⟩) 1 1, undef, undef, undef, undef, undef, undef, undef, undef, undef, undef, undef, undef, undef, undef, undef, undef, undef, undef, undef, undef, undef, undef, undef, undef, undef, undef, undef, undef, undef, undef, undef, undef, undef, undef, undef, undef, undef, undef, undef, undef, undef, undef, undef, undef, undef, undef, undef, undef, undef, undef, undef, undef, undef, undef, undef, undef, undef, undef, undef, undef, undef, undef, undef, undef, undef, undef, undef, undef, undef, undef, undef, undef, undef, undef, undef, undef, undef, undef, undef, undef, undef, undef, undef, undef, undef, undef, undef, undef], []⟩ W := by
      intro W g0 v g4 hB hO h4
      rw [← hG]
      refine wpAnyH_ready (rs := [5]) (by kernel_rfl) (by simp) (AllReadyH.cons rfl (fun K hK => ?_) AllReadyH.nil)
      refine step_append_pats rfl (.tmp 14) (.tmp 16) rfl rfl w1.heap.size v ps [p] (some ⟨g4, 0, none⟩) 1 1 rfl rfl rfl hO (RdP.one _ _ _ h4) (by simp; omega) hB.size (some 17) rfl ?_
      intro v' W2 hO2 hgr
      have hB2 := hB.grown hgr hB.size hO.ge
      refine hK.out _ _ (rkeepk hB2 P1) (fun hHeld => ?_)
      clear hK K
      try simp only [Act.put, List.setIfInBounds_toArray, List.set_cons_zero, List.set_cons_succ]
      refine takeD (i := 6) (v := v') (k := 6) rfl rfl (by kernel_rfl) (by kernel_rfl) (by kernel_rfl) (fun _ _ _ h => h) (Or.inl ⟨by rfl, fun z hz => by go_simp⟩) hHeld ?_
      try simp only [Act.put, List.setIfInBounds_toArray, List.set_cons_zero, List.set_cons_succ]
      refine wpAnyH_done (by kernel_rfl) ?_ _
      go_wp2_with fail
      go_meet
      case rel => exact ⟨hO2, hB2⟩
    have e20 : ∀ (W : World) (g0 : Nat) (v : Value), Below w1.heap.size w1 W → OwnPs W w1.heap.size v ps → G 3 #[true, true, true, true, false, false, false] ⟨#[.slice B ps.length dc, p.agg, undef, .pointer (some ⟨w.heap.size, 0, none⟩), .bool false, .bool true, undef, undef, undef, undef, undef, .bool true, .slice (some ⟨g0, 0, none⟩) 0 0, .slice B ps.length dc, v, p.agg, undef, undef, undef, undef, undef, undef, undef, undef, undef, undef, undef, undef, undef, undef, undef, undef, undef, undef, undef, undef, undef, undef, undef, undef, undef, undef, undef, undef, undef, undef, undef, undef, undef, undef, undef, undef, undef, undef, undef, undef, undef, undef, undef, undef, undef, undef, undef, undef, undef, undef, undef, undef, undef, undef, undef, undef, undef, undef, undef, undef, undef, undef, undef, undef, undef, undef, undef, undef, undef, undef, undef, undef, undef, undef, undef, undef, undef, undef, undef, undef, undef, undef, undef, undef, undef, undef, undef, undef, undef], []⟩ W := by
      intro W g0 v hB hO
      rw [← hG]
      refine wpAnyH_ready (rs := [4]) (by kernel_rfl) (by simp) (AllReadyH.cons rfl (fun K hK => ?_) (AllReadyH.nil))
      · go_simp
        have hB2 := bl1 hB (.cells (patCs p) 28)
        have hb2 : Below W.heap.size W (W.alloc (.cells (patCs p) 28)) := bl1 (Below.refl _ _) _
        refine hK.out _ _ (rkeepk hB2 P1) (fun hHeld => ?_)
        clear hK K
        try simp only [Act.put, List.setIfInBounds_toArray, List.set_cons_zero, List.set_cons_succ]
        have := e21 _ g0 v W.heap.size hB2 (hO.below hb2) (heap_alloc_new _ _)
        rw [← hG] at this
        exact this
    have e11 : ∀ (W : World) (g0 : Nat) (g4 : Nat), Below w1.heap.size w1 W → W.heap[g0]? = some (.cells #[] 28 (0, 0)) → w1.heap.size ≤ g0 → W.heap[g4]? = some (.cells (patCs p) 28 (0, 0)) → g4 ≠ g0 → G 3 #[true, true, false, true, true, false, false] ⟨#[.slice B ps.length dc, p.agg, undef, .pointer (some ⟨w.heap.size, 0, none⟩), .bool false, .bool true, undef, undef, undef, undef, undef, .bool true, .slice (some ⟨g0, 0, none⟩) 0 0, .slice B ps.length dc, undef, p.agg, .slice (some ⟨g4, 0, none⟩) 1 1, undef, undef, undef, undef, undef, undef, undef, undef, undef, undef, undef, undef, undef, undef, undef, undef, undef, undef, undef, undef, undef, undef, undef, undef, undef, undef, undef, undef, undef, undef, undef, undef, undef, undef, undef, undef, undef, undef, undef, undef, undef, undef, undef, undef, undef, undef, undef, undef, undef, undef, undef, undef, undef, undef, undef, undef, undef, undef, undef, undef, undef, undef, undef, undef, undef, undef, undef, undef, undef, undef, undef, undef, undef, undef, undef, undef, undef, undef, undef, undef, undef, undef, undef, undef, undef, undef, undef, undef], []⟩ W := by
      intro W g0 g4 hB h0 l0 h4 hn
      rw [← hG]
      refine wpAnyH_ready (rs := [2]) (by kernel_rfl) (by simp) (AllReadyH.cons rfl (fun K hK => ?_) (AllReadyH.nil))
      · refine step_append_pats rfl (.tmp 12) (.tmp 13) rfl rfl w1.heap.size (.slice (some ⟨g0, 0, none⟩) 0 0) [] ps B ps.length dc rfl rfl rfl (OwnPs.empty h0 l0) (HSW.out.below hB) (by simp; omega) hB.size (some 14) rfl ?_
        intro v' W2 hO2 hgr
        have hB2 := hB.grown hgr hB.size (OwnPs.empty h0 l0).ge
        refine hK.out _ _ (rkeepk hB2 P1) (fun hHeld => ?_)
        clear hK K
        try simp only [Act.put, List.setIfInBounds_toArray, List.set_cons_zero, List.set_cons_succ]
        have := e21 W2 g0 v' g4 hB2 hO2 ((hgr.block g4 (lt_of_heap h4) (fun e => hn (Option.some.inj e))).trans h4)
        rw [← hG] at this
        exact this
    have e10 : ∀ (W : World) (g0 : Nat), Below w1.heap.size w1 W → W.heap[g0]? = some (.cells #[] 28 (0, 0)) → w1.heap.size ≤ g0 → G 4 #[true, true, false, true, false, false, false] ⟨#[.slice B ps.length dc, p.agg, undef, .pointer (some ⟨w.heap.size, 0, none⟩), .bool false, .bool true, undef, undef, undef, undef, undef, .bool true, .slice (some ⟨g0, 0, none⟩) 0 0, .slice B ps.length dc, undef, p.agg, undef, undef, undef, undef, undef, undef, undef, undef, undef, undef, undef, undef, undef, undef, undef, undef, undef, undef, undef, undef, undef, undef, undef, undef, undef, undef, undef, undef, undef, undef, undef, undef, undef, undef, undef, undef, undef, undef, undef, undef, undef, undef, undef, undef, undef, undef, undef, undef, undef, undef, undef, undef, undef, undef, undef, undef, undef, undef, undef, undef, undef, undef, undef, undef, undef, undef, undef, undef, undef, undef, undef, undef, undef, undef, undef, undef, undef, undef, undef, undef, undef, undef, undef, undef, undef, undef, undef, undef, undef], []⟩ W := by
      intro W g0 hB h0 l0
      rw [← hG]
      refine wpAnyH_ready (rs := [2, 4]) (by kernel_rfl) (by simp) (AllReadyH.cons rfl (fun K hK => ?_) (AllReadyH.cons rfl (fun K hK => ?_) (AllReadyH.nil)))
      · refine step_append_pats rfl (.tmp 12) (.tmp 13) rfl rfl w1.heap.size (.slice (some ⟨g0, 0, none⟩) 0 0) [] ps B ps.length dc rfl rfl rfl (OwnPs.empty h0 l0) (HSW.out.below hB) (by simp; omega) hB.size (some 14) rfl ?_
        intro v' W2 hO2 hgr
        have hB2 := hB.grown hgr hB.size (OwnPs.empty h0 l0).ge
        refine hK.out _ _ (rkeepk hB2 P1) (fun hHeld => ?_)
        clear hK K
        try simp only [Act.put, List.setIfInBounds_toArray, List.set_cons_zero, List.set_cons_succ]
        have := e20 W2 g0 v' hB2 hO2
        rw [← hG] at this
        exact this
      · go_simp
        have hB2 := bl1 hB (.cells (patCs p) 28)
        have hb2 : Below W.heap.size W (W.alloc (.cells (patCs p) 28)) := bl1 (Below.refl _ _) _
        refine hK.out _ _ (rkeepk hB2 P1) (fun hHeld => ?_)
        clear hK K
        try simp only [Act.put, List.setIfInBounds_toArray, List.set_cons_zero, List.set_cons_succ]
        have := e11 _ g0 W.heap.size hB2 (rkeepk hb2 h0) l0 (heap_alloc_new _ _) (Nat.ne_of_lt (lt_of_heap h0)).symm
        rw [← hG] at this
        exact this
    have e01 : ∀ (W : World) (g4 : Nat), Below w1.heap.size w1 W → W.heap[g4]? = some (.cells (patCs p) 28 (0, 0)) → G 4 #[false, true, false, true, true, false, false] ⟨#[.slice B ps.length dc, p.agg, undef, .pointer (some ⟨w.heap.size, 0, none⟩), .bool false, .bool true, undef, undef, undef, undef, undef, .bool true, undef, .slice B ps.length dc, undef, p.agg, .slice (some ⟨g4, 0, none⟩) 1 1, undef, undef, undef, undef, undef, undef, undef, undef, undef, undef, undef, undef, undef, undef, undef, undef, undef, undef, undef, undef, undef, undef, undef, undef, undef, undef, undef, undef, undef, undef, undef, undef, undef, undef, undef, undef, undef, undef, undef, undef, undef, undef, undef, undef, undef, undef, undef, undef, undef, undef, undef, undef, undef, undef, undef, undef, undef, undef, undef, undef, undef, undef, undef, undef, undef, undef, undef, undef, undef, undef, undef, undef, undef, undef, undef, undef, undef, undef, undef, undef, undef, undef, undef, undef, undef, undef, undef, undef], []⟩ W := by
      intro W g4 hB h4
      rw [← hG]
      refine wpAnyH_ready (rs := [0]) (by kernel_rfl) (by simp) (AllReadyH.cons rfl (fun K hK => ?_) (AllReadyH.nil))
      · go_simp
        have hB2 := bl1 hB (.cells #[] 28)
        have hb2 : Below W.heap.size W (W.alloc (.cells #[] 28)) := bl1 (Below.refl _ _) _
        refine hK.out _ _ (rkeepk hB2 P1) (fun hHeld => ?_)
        clear hK K
        try simp only [Act.put, List.setIfInBounds_toArray, List.set_cons_zero, List.set_cons_succ]
        have := e11 _ W.heap.size g4 hB2 (heap_alloc_new _ _) hB.size (rkeepk hb2 h4) (Nat.ne_of_lt (lt_of_heap h4))
        rw [← hG] at this
        exact this
    have e00 : ∀ (W : World), Below w1.heap.size w1 W → G 5 #[false, true, false, true, false, false, false] ⟨#[.slice B ps.length dc, p.agg, undef, .pointer (some ⟨w.heap.size, 0, none⟩), .bool false, .bool true, undef, undef, undef, undef, undef, .bool true, undef, .slice B ps.length dc, undef, p.agg, undef, undef, undef, undef, undef, undef, undef, undef, undef, undef, undef, undef, undef, undef, undef, undef, undef, undef, undef, undef, undef, undef, undef, undef, undef, undef, undef, undef, undef, undef, undef, undef, undef, undef, undef, undef, undef, undef, undef, undef, undef, undef, undef, undef, undef, undef, undef, undef, undef, undef, undef, undef, undef, undef, undef, undef, undef, undef, undef, undef, undef, undef, undef, undef, undef, undef, undef, undef, undef, undef, undef, undef, undef, undef, undef, undef, undef, undef, undef, undef, undef, undef, undef, undef, undef, undef, undef, undef, undef], []⟩ W := by
      intro W hB
      rw [← hG]
      refine wpAnyH_ready (rs := [0, 4]) (by kernel_rfl) (by simp) (AllReadyH.cons rfl (fun K hK => ?_) (AllReadyH.cons rfl (fun K hK => ?_) (AllReadyH.nil)))
      · go_simp
        have hB2 := bl1 hB (.cells #[] 28)
        have hb2 : Below W.heap.size W (W.alloc (.cells #[] 28)) := bl1 (Below.refl _ _) _
        refine hK.out _ _ (rkeepk hB2 P1) (fun hHeld => ?_)
        clear hK K
        try simp only [Act.put, List.setIfInBounds_toArray, List.set_cons_zero, List.set_cons_succ]
        have := e10 _ W.heap.size hB2 (heap_alloc_new _ _) hB.size
        rw [← hG] at this
        exact this
      · go_simp
        have hB2 := bl1 hB (.cells (patCs p) 28)
        have hb2 : Below W.heap.size W (W.alloc (.cells (patCs p) 28)) := bl1 (Below.refl _ _) _
        refine hK.out _ _ (rkeepk hB2 P1) (fun hHeld => ?_)
        clear hK K
        try simp only [Act.put, List.setIfInBounds_toArray, List.set_cons_zero, List.set_cons_succ]
        have := e01 _ W.heap.size hB2 (heap_alloc_new _ _)
        rw [← hG] at this
        exact this
    have := e00 _ (Below.refl _ _).drew
    exact this
  case rest =>
  obtain ⟨hown, hb2⟩ := hcut
  obtain ⟨w2, hw2⟩ : ∃ x, x = wc := ⟨_, rfl⟩
  subst hw2
  obtain ⟨A2, c2, rfl, hc1, hc2, hrd⟩ := hown.reads
  have HB2 := Lib.hid (chain2 HB1.out hb2)
  have HM := Lib.hid hrd
  have hm1 : (ps ++ [p]).length = ps.length + 1 := by simp
  clear hown hb2 P1 hz1 hrd HSW HB1
  have HS2 := Lib.hid (HS.out.below HB2.out)
  go_wp2_with fail
  refine (light_lit2 HLI.out none A2 0 (ps.length + 1) c2 _ hm1.symm Sl.nil HM.out (by simp) (by simp) ⟨by rw [hm1]; unfold maxLen; omega, more_fits HFP.out hpf⟩).mono ?_
  rintro e w3 ⟨rfl, hb3⟩
  have HB3 := Lib.hid (chain2 HB2.out hb3)
  have HM3 := Lib.hid (RdP.below HM.out hb3)
  clear hb3 HM HS2
  have HS3 := Lib.hid (HS.out.below HB3.out)
  go_wp2_with fail
  refine (HRE1.out _ B dc _ rfl m HS3.out (gcell HB3.out HG.out)).mono ?_
  rintro e w4 ⟨A4, c4, rfl, hc4, hrg, -, hb4⟩
  have HB4 := Lib.hid (chain2 HB3.out hb4)
  have HM4 := Lib.hid (RdP.below HM3.out hb4)
  have HRG := Lib.hid hrg
  clear hb4 hrg HM3
  go_wp2_with fail
  refine (places_g HOK.out (by omega) (by omega) HG1.out A4 c4 _ HRG.out).mono ?_
  rintro e w5 ⟨b5, rfl, hl5, hn5, hb5⟩
  have HB5 := Lib.hid (chain2 HB4.out hb5)
  have HM5 := Lib.hid (RdP.below HM4.out hb5)
  have HN5 := Lib.hid hn5
  clear hb5 hl5 hn5 HM4 HRG
  go_wp2_with fail
  refine (HRE.out _ A2 c2 _ rfl m HM5.out (gcell HB5.out HG.out)).mono ?_
  rintro e w6 ⟨A6, c6, rfl, hc6, hrg, -, hb6⟩
  have HB6 := Lib.hid (chain2 HB5.out hb6)
  have HN6 := Lib.hid (HN5.out.below hb6)
  have HRG := Lib.hid hrg
  clear hb6 hrg HN5
  go_wp2_with fail
  have hpl := places_g (n := ps.length + 1) HOK2.out (by omega) (by omega) HG2.out A6 c6 _ HRG.out
  rw [show ((ps.length + 1 : Nat) : Int) = (ps.length : Int) + 1 by simp] at hpl
  refine hpl.mono ?_
  clear hpl
  rintro e w7 ⟨b7, rfl, hl7, hn7, hb7⟩
  have HB7 := Lib.hid (chain2 HB6.out hb7)
  have HN7 := Lib.hid (HN6.out.below hb7)
  have HN8 := Lib.hid hn7
  clear hb7 hl7 hn7 HN6 HRG
  go_wp2_with fail
  go_loopw [9] (fun v wr => ∃ i : Nat, i ≤ ps.length ∧ v = .int .i64 i ∧ Below w7.heap.size w7 wr) (fun v _ => ps.length - (intOf v).toNat)
  case atStart => exact ⟨0, Nat.zero_le _, rfl, Below.refl _ _⟩
  case round =>
    obtain ⟨i, hi, rfl, hb⟩ := hrel
    have HBi := Lib.hid hb; clear hb
    by_cases hlt : i < ps.length
    · have hi1 : (i : Int) < ps.length := by omega
      have hi0 : (0 : Int) ≤ i := by omega
      have hi2 : (i : Int) < (ps.length : Int) + 1 := by omega
      go_wp2_with fail
      obtain ⟨wA, hwA⟩ : ∃ x, x = wr := ⟨_, rfl⟩
      subst hwA
      go_loopw [10] (fun v wr => ∃ k : Nat, k ≤ ps.length ∧ v = .int .i64 k ∧ Below w7.heap.size w7 wr) (fun v _ => ps.length - (intOf v).toNat)
      case atStart => exact ⟨0, Nat.zero_le _, rfl, HBi.out⟩
      case round =>
        obtain ⟨k, hk, rfl, hb⟩ := hrel
        have HBk := Lib.hid hb
        by_cases hl2 : k < ps.length
        · have hk1 : (k : Int) < ps.length := by omega
          have hk0 : (0 : Int) ≤ k := by omega
          have hk2 : (k : Int) < (ps.length : Int) + 1 := by omega
          have hz0 : (0 : Int) ≤ (ps.length : Int) := by omega
          have hz1 : (ps.length : Int) < (ps.length : Int) + 1 := by omega
          have r5 := HN7.out.below hb
          have r7 := HN8.out.below hb
          have u1 := r5.cell (range_get hlt)
          have u2 := r5.cell (range_get hl2)
          have v1 := r7.cell (range_get (n := ps.length + 1) (show i < ps.length + 1 by omega))
          have v2 := r7.cell (range_get (n := ps.length + 1) (show k < ps.length + 1 by omega))
          have v3 := r7.cell (range_get (n := ps.length + 1) (show ps.length < ps.length + 1 by omega))
          obtain ⟨law1, law2⟩ := HLAW.out i k hlt hl2
          generalize posG G1 i = pa at u1 law1 law2
          generalize posG G1 k = pb at u2 law1 law2
          generalize posG G2 i = px at v1 law1 law2
          generalize posG G2 k = py at v2 law1 law2
          generalize posG G2 ps.length = pz at v3 law2
          clear r5 r7 hb
          by_cases hab : pa = pb
          · obtain rfl : px = py := law1 hab
            subst hab
            clear law1 law2
            go_wp2_with fail
            go_quiet (fail)
            go_wp2_with fail
            exact ⟨⟨k + 1, by omega, by go_num, Below.drewN' _ HBk.out⟩, by simp [intOf]; omega⟩
          · have q1 : ((pa : Int) == (pb : Int)) = false := beq_eq_false_iff_ne.2 (by omega)
            have q2 : ((pa : Int) != (pb : Int)) = true := by simp; omega
            have q3 : decide (pa = pb) = false := by simpa using hab
            by_cases hxy : px = py
            · obtain rfl : px = pz := (law2 hxy).resolve_left hab
              subst hxy
              clear law1 law2 hab
              go_wp2_with fail
              go_quiet (fail)
              go_wp2_with fail
              exact ⟨⟨k + 1, by omega, by go_num, Below.drewN' _ HBk.out⟩, by simp [intOf]; omega⟩
            · have q4 : ((px : Int) == (py : Int)) = false := beq_eq_false_iff_ne.2 (by omega)
              have q5 : decide (px = py) = false := by simpa using hxy
              clear law1 law2 hab hxy
              go_wp2_with fail
              go_quiet (fail)
              go_wp2_with fail
              exact ⟨⟨k + 1, by omega, by go_num, Below.drewN' _ HBk.out⟩, by simp [intOf]; omega⟩
        · obtain rfl : k = ps.length := by omega
          clear hb
          go_wp2_with fail
          exact ⟨⟨i + 1, by omega, by go_num, HBk.out⟩, by simp [intOf]; omega⟩
    · obtain rfl : i = ps.length := by omega
      go_wp2_with fail
      go_ret
      exact ⟨rfl, HB7.out.trans (HBi.out.mono HB7.out.size)⟩
theorem cfur_any (ps : List Patch) (B : Option Addr) (dc : Nat) (p : Patch) (w : World) (m : Int) (hs : RdP w B ps) (hm : ps.length ≤ maxLen) (hfp : ∀ q ∈ ps, q.Fits) (hbg : ps.length * 208 ≤ 140737488351232) (hpf : p.Fits) (hg : w.cell? ⟨0, 0, none⟩ = some (.int .i64 m)) : Calls Try.prog 7 #[.slice B ps.length dc, p.agg] w fun e w' => e = .returned (.bool true) ∧ Below w.heap.size w w' := by
  cases hli : lightB [] (ps ++ [p]) with
  | false => exact cfur_a ps B dc p w m hs hm hfp hbg hpf hg hli
  | true => exact cfur_b ps B dc p w m hs hm hfp hbg hpf hg hli
end Go.Proofs.Ytfolcjkednmkoaa
