/- conference.Result. What Clashes finds, in plain words; possible. -/
import Derived.Test.YtecnlfaholmpoaaGreatJC32
import Derived.Test.YtecnlfaholmpoaaGreatJC31
import Derived.Test.YtecnlfaholmpoaaGreatJC21
set_option linter.unusedVariables false
set_option linter.unusedSimpArgs false
set_option maxRecDepth 20000
set_option maxHeartbeats 8000000
namespace Go.Proofs.YtecnlfaholmpoaaGreat
open Go.RowKit
theorem OwnPs.lower {w : World} {base base' : Nat} {v : Value} {l : List Patch} (h : OwnPs w base v l) (hb : base' ≤ base) : OwnPs w base' v l := by
 refine ⟨h.1, ?_⟩
 rcases h.2 with h | ⟨b, cap, cur, rfl, r2, r3⟩
 · exact .inl h
 · exact .inr ⟨b, cap, cur, rfl, by omega, r3⟩
theorem OwnSs.lower {w : World} {base base' : Nat} {v : Value} {l : List Stamp} (h : OwnSs w base v l) (hb : base' ≤ base) : OwnSs w base' v l := by
 refine ⟨h.1, ?_⟩
 rcases h.2 with h | ⟨b, cap, cur, rfl, r2, r3⟩
 · exact .inl h
 · exact .inr ⟨b, cap, cur, rfl, by omega, r3⟩
theorem openc_false (l : List Item) (cs : List Clause) (A B : Option Addr) (c d : Nat) (w : World) (hr : RdI w A l) (hl : l.length ≤ 1000000) (hsh : ∀ x ∈ l, x.Short) (hs : RdC w B cs) (hm : cs.length ≤ 64) (hv : walkB l = false) :
 Calls Tryz.prog 47 #[.agg #[.slice A l.length c], .slice B cs.length d] w fun e w' => e = .returned (.tuple #[.slice none 0 0, .int .i64 1]) ∧ Below w.heap.size w w' := by
 refine (openc_any l cs A B c d w hr hl hsh hs hm).mono ?_
 rintro e w' ⟨h, hb⟩
 rw [hv] at h
 exact ⟨by simpa using h, hb⟩
theorem openc_true (l : List Item) (cs : List Clause) (A B : Option Addr) (c d : Nat) (w : World) (hr : RdI w A l) (hl : l.length ≤ 1000000) (hsh : ∀ x ∈ l, x.Short) (hs : RdC w B cs) (hm : cs.length ≤ 64) (hv : walkB l = true) :
 Calls Tryz.prog 47 #[.agg #[.slice A l.length c], .slice B cs.length d] w fun e w' => ∃ v, e = .returned (.tuple #[v, .int .i64 0]) ∧ OwnCs w' (w.heap.size + 1) v (openL cs) ∧ Below w.heap.size w w' := by
 refine (openc_any l cs A B c d w hr hl hsh hs hm).mono ?_
 rintro e w' ⟨h, hb⟩
 rw [hv] at h
 obtain ⟨v, h1, h2⟩ := (by simpa using h : ∃ v, e = .returned (.tuple #[v, .int .i64 0]) ∧ OwnCs w' (w.heap.size + 1) v (openL cs))
 exact ⟨v, h1, h2, hb⟩
theorem result_f (l : List Item) (cs : List Clause) (A B : Option Addr) (c d : Nat) (w : World) (hr : RdI w A l) (hl : l.length ≤ 100000) (hsh : ∀ x ∈ l, x.Short) (hs : RdC w B cs) (hm : cs.length ≤ 64) (hv : walkB l = false) :
 Calls Tryz.prog 17 #[.agg #[.slice A l.length c], .slice B cs.length d] w fun e w' => e = .returned (.tuple #[.slice none 0 0, .slice none 0 0, .int .i64 1]) ∧ Below w.heap.size w w' := by
 have HR := Lib.hid hr; clear hr
 have HS := Lib.hid hs; clear hs
 have HSH := Lib.hid hsh; clear hsh
 have HV := Lib.hid hv; clear hv
 have hb0 := (Below.refl w.heap.size w).alloc (Nat.le_refl _) (.cells #[.slice A l.length c] 24)
 have HB0 := Lib.hid hb0; clear hb0
 go_enter Tryz.func17, Tryz.ntmps17
 go_wp2_with fail
 refine (openc_false l cs A B c d _ (HR.out.below HB0.out) (by omega) HSH.out (HS.out.below HB0.out) hm HV.out).mono ?_
 rintro e w1 ⟨rfl, hb1⟩
 have hbw := HB0.out.trans (hb1.mono HB0.out.size)
 clear hb1
 go_wp2_with fail
 refine bodyPost_ret (v := .tuple #[.slice none 0 0, .slice none 0 0, .int .i64 1]) (by simp [results, Tryz.results17, go_sem]) rfl ⟨rfl, hbw⟩
theorem res_take {l : List Item} {O : List Clause} {k : Nat} {x : Clause} (hx : O[k]? = some x) : resS l (O.take (k + 1)) = resStep (resS l (O.take k)) x := by
 obtain ⟨hk, rfl⟩ := List.getElem?_eq_some_iff.1 hx
 rw [List.take_succ_eq_append_getElem hk, resS_snoc]
theorem res_lens (l : List Item) : ∀ O : List Clause, (resS l O).2.1.length ≤ O.length ∧ (resS l O).2.2.length ≤ O.length := by
 have key : ∀ (O : List Clause) (s : ResS), (O.foldl resStep s).2.1.length ≤ s.2.1.length + O.length ∧ (O.foldl resStep s).2.2.length ≤ s.2.2.length + O.length := by
  intro O
  induction O with
  | nil => intro s; simp
  | cons a r ih =>
    intro s
    have h := ih (resStep s a)
    rw [List.foldl_cons]
    unfold resStep at h ⊢
    split
    · rename_i hc
      rw [if_pos hc] at h
      simp only [List.length_append, List.length_cons, List.length_nil] at h ⊢
      omega
    · rename_i hc
      rw [if_neg hc] at h
      simp only [List.length_append, List.length_cons, List.length_nil] at h ⊢
      omega
 intro O
 have h := key O (l, [], [])
 simpa [resS] using h
theorem result_t (l : List Item) (cs : List Clause) (A B : Option Addr) (c d : Nat) (w : World) (hr : RdI w A l) (hl : l.length ≤ 100000) (hlc : l.length ≤ c) (hs : RdC w B cs) (hm : cs.length ≤ 64) (hrd : ∀ x ∈ cs, x.patch.Ready) (m : Int) (hg : w.cell? ⟨0, 0, none⟩ = some (.int .i64 m)) (hv : walkB l = true) :
 Calls Tryz.prog 17 #[.agg #[.slice A l.length c], .slice B cs.length d] w fun e w' => ∃ tv lv, e = .returned (.tuple #[tv, lv, .int .i64 0]) ∧ OwnPs w' w.heap.size tv (resS l (openL cs)).2.1 ∧ OwnSs w' w.heap.size lv (resS l (openL cs)).2.2 ∧ Below w.heap.size w w' := by
 have HR := Lib.hid hr; clear hr
 have HS := Lib.hid hs; clear hs
 have HV := Lib.hid hv; clear hv
 have HG := Lib.hid hg; clear hg
 obtain ⟨O, hO⟩ : ∃ O, O = openL cs := ⟨_, rfl⟩
 have hOl : O.length ≤ 64 := by rw [hO]; exact Nat.le_trans (List.length_filter_le _ _) hm
 have hrdO : ∀ x ∈ O, x.patch.Ready := fun x hx => hrd x (by rw [hO] at hx; exact (List.mem_filter.1 hx).1)
 have HRD := Lib.hid hrdO; clear hrdO hrd
 rw [← hO]
 have HO := Lib.hid hO; clear hO
 have hb0 := (Below.refl w.heap.size w).alloc (Nat.le_refl _) (.cells #[.slice A l.length c] 24)
 have HB0 := Lib.hid hb0; clear hb0
 go_enter Tryz.func17, Tryz.ntmps17
 go_wp2_with fail
 refine (openc_true l cs A B c d _ (HR.out.below HB0.out) (by omega) (short_of_good HV.out) (HS.out.below HB0.out) hm HV.out).mono ?_
 rintro e w1 ⟨v, rfl, hv1, hb1⟩
 rw [← HO.out, World.size_alloc] at hv1
 have hbx1 : w1.heap[w.heap.size]? = some (.cells #[.slice A l.length c] 24 (0, 0)) := (hb1.block _ (by simp)).trans (heap_alloc_new _ _)
 have hbw1 := HB0.out.trans (hb1.mono HB0.out.size)
 have hsz1 : w.heap.size + 1 ≤ w1.heap.size := by have := hb1.size; simpa using this
 have hst1 : ResSt w1 w.heap.size w1.heap.size l A c [] (.slice none 0 0) [] (.slice none 0 0) := ⟨hbx1, HR.out.below hbw1, hlc, OwnPs.nil _ _, OwnSs.nil _ _, by simp [Value.ownBlock], fun hr b o hA => ⟨by have := rdi_lt HR.out hr hA; omega, by simp [Value.ownBlock], by simp [Value.ownBlock]⟩, by omega⟩
 have HST1 := Lib.hid hst1; clear hst1 hbx1
 have HB1 := Lib.hid hbw1; clear hbw1 hb1
 obtain ⟨Ao, co, rfl, hlo, hco, _⟩ := hv1.reads
 have HV1 := Lib.hid hv1; clear hv1
 go_wp2_with fail
 go_loopw [8, 9, 25] (fun tv lv i wr => ∃ (k : Nat) (r : List Item) (A' : Option Addr) (c' : Nat) (tk : List Patch) (lf : List Stamp), k ≤ O.length ∧ i = .int .i64 k ∧ resS l (O.take k) = (r, tk, lf) ∧ walkB r = true ∧ ResSt wr w.heap.size w1.heap.size r A' c' tk tv lf lv ∧ Below w.heap.size w wr ∧ w1.heap.size ≤ wr.heap.size ∧ (∀ j, j < w1.heap.size → j ≠ w.heap.size → wr.heap[j]? = w1.heap[j]?)) (fun _ _ i _ => O.length - (intOf i).toNat)
 case atStart => exact ⟨0, l, A, c, [], [], Nat.zero_le _, rfl, rfl, HV.out, HST1.out, HB1.out, Nat.le_refl _, fun _ _ _ => rfl⟩
 case round =>
  obtain ⟨k, r, A', c', tk, lf, hk, rfl, hres, hvr, hst, hb, hszr, hsame⟩ := hrel
  have hr2 : r.length ≤ 2000 := len_of_good hvr
  have HVR := Lib.hid hvr; clear hvr
  have HB := Lib.hid hb; clear hb
  have hlens := res_lens l (O.take k)
  rw [hres] at hlens
  simp only [List.length_take] at hlens
  have htl : tk.length ≤ 64 := by omega
  have hll : lf.length ≤ 64 := by omega
  clear hlens
  have HRES := Lib.hid hres; clear hres
  by_cases hlt : k < O.length
  · obtain ⟨x, hx⟩ := get_of_lt hlt
    have hi1 : (k : Int) < O.length := by omega
    have hi0 : (0 : Int) ≤ k := by omega
    have hrow : OwnCs wr (w.heap.size + 1 + 1) (.slice Ao O.length co) O := HV1.out.keep fun b hb => hsame b (HV1.out.lt b hb) (by have := HV1.out.ge b hb; omega)
    obtain ⟨b, rfl⟩ : ∃ b, Ao = some ⟨b, 0, none⟩ := by
     rcases hrow.2 with ⟨hv, h0⟩ | ⟨g, cap', cur, hv, r2, _⟩
     · omega
     · simp only [Value.slice.injEq] at hv; exact ⟨g, hv.1⟩
    have hq := hrow.load hx
    have hready := HRD.out x (List.mem_of_getElem? hx)
    have HX := Lib.hid hx; clear hx hrow
    have HSAME := Lib.hid hsame; clear hsame
    have h2 : wr.cell? ⟨w.heap.size, 0, none⟩ = some (.slice A' r.length c') := (cell_of_row _ _ _ _ _ _ hst.box).trans rfl
    have h2f : wr.frozen? ⟨w.heap.size, 0, none⟩ = false := frozen_of_row wr _ 0 _ _ hst.box
    have z1 := lt_of_heap hst.box
    have HST := Lib.hid hst; clear hst
    have hap := fun W h1 h2 => apply_any r A' c' x.patch W h1 (by omega) HST.out.cap (short_of_good HVR.out) hready.item hready.num m h2 hready.tlen
    unfold Applies at hap
    have HAP := Lib.hid hap; clear hap hready
    cases h0 : ((applyF r x.patch).2 != 0)
    · have H0 := Lib.hid h0
      obtain ⟨q, hq1⟩ : ∃ q, q = applyF r x.patch := ⟨_, rfl⟩
      rw [← hq1] at h0
      have HQ := Lib.hid hq1; clear hq1
      obtain ⟨xi, xa, xp, xg⟩ := x
      have hWA : Below wr.heap.size wr (wr.alloc (.cells (claCs ⟨xi, xa, xp, xg⟩) 51)) := (Below.refl _ _).alloc (Nat.le_refl _) _
      have HWA := Lib.hid hWA; clear hWA
      go_wp2_with fail
      refine (HAP.out _ (HST.out.rd.below HWA.out) (step_cell ((HB.out.trans (HWA.out.mono HB.out.size))) HG.out)).mono ?_
      rintro e w4 ⟨v, rfl, ⟨A2, c2, rfl, hr2', hlc2, hA2⟩, hb4⟩
      rw [← HQ.out] at hr2' hlc2 ⊢
      rw [World.size_alloc] at hA2
      have hbr4 := chain2 HWA.out hb4
      have x4 : w4.blk wr.heap.size = some (.cells (claCs ⟨xi, xa, xp, xg⟩) 51 (0, 0)) := (hb4.block _ (by simp)).trans (heap_alloc_new _ _)
      have hsz4 : wr.heap.size + 1 ≤ w4.heap.size := by have := hb4.size; simpa using this
      have hU : ResU (w4.alloc (.cells #[.slice A2 q.1.length c2] 24)) w.heap.size w1.heap.size r A' c' q.1 A2 c2 tk u8 lf u9 ⟨xi, xa, xp, xg⟩ wr.heap.size w4.heap.size := by
       refine ⟨(HST.out.keep hbr4).keep ((Below.refl _ _).alloc (Nat.le_refl _) _), hr2'.below ((Below.refl _ _).alloc (Nat.le_refl _) _), hlc2, fun hr b o hA => ?_, ⟨heap_old_at (by omega) x4, heap_alloc_new _ _⟩, ⟨by omega, by omega⟩, fun e => by have := HST.out.own.lt _ e; omega, fun e => by have := HST.out.own.lt _ e; omega⟩
       have := hA2 b o hA
       exact ⟨by omega, fun e => by have := HST.out.own.lt _ e; omega, fun e => by have := HST.out.left.lt _ e; omega⟩
      have hB4 : Below w.heap.size w (w4.alloc (.cells #[.slice A2 q.1.length c2] 24)) := (HB.out.trans (hbr4.mono HB.out.size)).alloc (by have := HB.out.size; omega) _
      have hsm4 : ∀ j, j < w1.heap.size → j ≠ w.heap.size → (w4.alloc (.cells #[.slice A2 q.1.length c2] 24)).heap[j]? = w1.heap[j]? := fun j h1 h2 => ((Below.heap_alloc w4 _ j (by omega)).trans (hbr4.block j (by omega))).trans (HSAME.out j h1 h2)
      have HU := Lib.hid hU; clear hU
      have HB4 := Lib.hid hB4; clear hB4
      have HSM4 := Lib.hid hsm4; clear hsm4
      clear hb4 hr2' hA2 hlc2 hbr4 h2 h2f
      go_upto_region 12 with fail
      obtain ⟨W0, hW0⟩ : ∃ X, X = w4.alloc (.cells #[.slice A2 q.1.length c2] 24) := ⟨_, rfl⟩
      rw [← hW0] at HU HB4 HSM4 ⊢
      have hsW0 : w1.heap.size ≤ W0.heap.size := by rw [hW0]; simp; omega
      clear hW0
      refine wp_region_held_drew (S := (Box2 ⟨xi, xa, xp, xg⟩ wr.heap.size w4.heap.size (.slice A2 q.1.length c2))) (by kernel_rfl) HU.out.bx (fun hHeld => ?_)
      refine takeF (i := 0) (v := .agg #[.slice A2 q.1.length c2]) (k := 43) rfl rfl (by kernel_rfl) (by kernel_rfl) (by kernel_rfl) (fun _ _ _ h => h) (Or.inl ⟨by rfl, fun z hz => by (obtain ⟨z0, z1⟩ := hz; have y : z.cell? ⟨w4.heap.size, 0, none⟩ = some (.slice A2 q.1.length c2) := (cell_of_row _ _ _ _ _ _ z1).trans rfl; go_simp)⟩) hHeld ?_
      try simp only [Act.put, sia, sc0, scs]
      refine takeF (i := 1) (v := u8) (k := 44) rfl rfl (by kernel_rfl) (by kernel_rfl) (by kernel_rfl) (fun _ _ _ h => h) (Or.inl ⟨by rfl, fun z hz => by (obtain ⟨z0, z1⟩ := hz; go_simp)⟩) hHeld ?_
      try simp only [Act.put, sia, sc0, scs]
      refine takeF (i := 2) (v := .pointer (some ⟨wr.heap.size, 4, none⟩)) (k := 45) rfl rfl (by kernel_rfl) (by kernel_rfl) (by kernel_rfl) (fun _ _ _ h => h) (Or.inl ⟨by rfl, fun z hz => by (obtain ⟨z0, z1⟩ := hz; go_simp)⟩) hHeld ?_
      try simp only [Act.put, sia, sc0, scs]
      refine takeF (i := 3) (v := xp.agg) (k := 46) rfl rfl (by kernel_rfl) (by kernel_rfl) (by kernel_rfl) (fun _ _ _ h => h) (Or.inl ⟨by rfl, fun z hz => by (obtain ⟨z0, z1⟩ := hz; go_simp)⟩) hHeld ?_
      try simp only [Act.put, sia, sc0, scs]
      refine wpAnyH_ready (rs := [4]) (by kernel_rfl) (by simp) (AllReadyH.cons rfl (fun K hK => ?_) AllReadyH.nil)
      go_simp
      have hW1 : Below W0.heap.size W0 (W0.drew.alloc (.cells (patCs xp) 49)) := (Below.refl _ _).drew.alloc (Nat.le_refl _) _
      have HU1 := Lib.hid (HU.out.keep hW1)
      refine hK.out _ _ HU1.out.bx (fun hHeld => ?_)
      clear hK K
      try simp only [Act.put, sia, sc0, scs]
      refine wpAnyH_ready (rs := [5]) (by kernel_rfl) (by simp) (AllReadyH.cons rfl (fun K hK => ?_) AllReadyH.nil)
      refine step_append_pat1 rfl (.tmp 44) (.tmp 47) rfl rfl w1.heap.size u8 tk xp W0.heap.size 1 rfl rfl HU1.out.st.own (heap_alloc_new _ _) (by omega) (Nat.le_trans hsW0 hW1.size) (some 48) rfl ?_
      intro tv' W2 ho2 hg2 hat2
      have HU2 := Lib.hid (HU1.out.take ho2 hg2 hat2)
      have hszW2 : W0.heap.size ≤ W2.heap.size := Nat.le_trans hW1.size hg2.size
      have hB2 : Below w.heap.size w W2 := (HB4.out.trans (hW1.mono HB4.out.size)).grown hg2 (HB4.out.trans (hW1.mono HB4.out.size)).size (fun b hb => by have := HU1.out.st.own.ge b hb; have := HB1.out.size; omega)
      have hsm2 : ∀ j, j < w1.heap.size → j ≠ w.heap.size → W2.heap[j]? = w1.heap[j]? := fun j h1 h2 => ((hg2.block j (Nat.lt_of_lt_of_le (show j < W0.heap.size by omega) hW1.size) (fun e => by have := HU1.out.st.own.ge j e.symm; omega)).trans (hW1.block j (by omega))).trans (HSM4.out j h1 h2)
      refine hK.out _ _ HU2.out.bx (fun hHeld => ?_)
      clear hK K
      try simp only [Act.put, sia, sc0, scs]
      have g2 : W2.cell? ⟨w.heap.size, 0, none⟩ = some (.slice A' r.length c') := (cell_of_row _ _ _ _ _ _ HU2.out.st.box).trans rfl
      have f2 : W2.frozen? ⟨w.heap.size, 0, none⟩ = false := frozen_of_row W2 _ 0 _ _ HU2.out.st.box
      refine wpAnyH_ready (rs := [6]) (by kernel_rfl) (by simp) (AllReadyH.cons rfl (fun K hK => ?_) AllReadyH.nil)
      go_simp
      have HV2 := Lib.hid HU2.out.store
      refine hK.out _ _ HV2.out.bx (fun hHeld => ?_)
      clear hK K g2 f2
      try simp only [Act.put, sia, sc0, scs]
      refine takeF (i := 7) (v := tv') (k := 8) rfl rfl (by kernel_rfl) (by kernel_rfl) (by kernel_rfl) (fun _ _ _ h => h) (Or.inl ⟨by rfl, fun z hz => by go_simp⟩) hHeld ?_
      try simp only [Act.put, sia, sc0, scs]
      refine wpAnyH_done (by kernel_rfl) ?_ _
      have hB3 := hB2.setCell (p := ⟨w.heap.size, 0, none⟩) (Nat.le_refl _) (.slice A2 q.1.length c2)
      have hsm3 : ∀ j, j < w1.heap.size → j ≠ w.heap.size → (W2.setCell ⟨w.heap.size, 0, none⟩ (.slice A2 q.1.length c2)).heap[j]? = w1.heap[j]? := fun j h1 h2 => (Below.heap_setCell W2 ⟨w.heap.size, 0, none⟩ _ j h2).trans (hsm2 j h1 h2)
      have hsz3 : w1.heap.size ≤ (W2.setCell ⟨w.heap.size, 0, none⟩ (.slice A2 q.1.length c2)).heap.size := by rw [World.size_setCell]; omega
      have h0' : (applyF r xp).2 = 0 := by simpa using H0.out
      have hnext : resS l (O.take (k + 1)) = (q.1, tk ++ [xp], lf) := by
       rw [res_take HX.out, HRES.out]
       unfold resStep
       simp only
       rw [if_pos h0', HQ.out]
      have hgood : walkB q.1 = true := by rw [HQ.out]; exact (kept_law h0').good
      go_wp2_with fail
      exact ⟨⟨k + 1, q.1, A2, c2, tk ++ [xp], lf, by omega, by go_num, hnext, hgood, HV2.out.st, hB3, hsz3, hsm3⟩, by simp [intOf]; omega⟩
    · have H0 := Lib.hid h0
      obtain ⟨q, hq1⟩ : ∃ q, q = applyF r x.patch := ⟨_, rfl⟩
      rw [← hq1] at h0
      have HQ := Lib.hid hq1; clear hq1
      obtain ⟨xi, xa, xp, xg⟩ := x
      have hWA : Below wr.heap.size wr (wr.alloc (.cells (claCs ⟨xi, xa, xp, xg⟩) 51)) := (Below.refl _ _).alloc (Nat.le_refl _) _
      have HWA := Lib.hid hWA; clear hWA
      go_wp2_with fail
      refine (HAP.out _ (HST.out.rd.below HWA.out) (step_cell ((HB.out.trans (HWA.out.mono HB.out.size))) HG.out)).mono ?_
      rintro e w4 ⟨v, rfl, ⟨A2, c2, rfl, hr2', hlc2, hA2⟩, hb4⟩
      rw [← HQ.out] at hr2' hlc2 ⊢
      have hbr4 := chain2 HWA.out hb4
      have x4 : w4.blk wr.heap.size = some (.cells (claCs ⟨xi, xa, xp, xg⟩) 51 (0, 0)) := (hb4.block _ (by simp)).trans (heap_alloc_new _ _)
      have x0 : w4.cell? ⟨wr.heap.size, 0, none⟩ = some (.int .i64 xi.seat) := (cell_of_row _ _ 0 _ _ _ x4).trans rfl
      have x1 : w4.cell? ⟨wr.heap.size, 1, none⟩ = some (.int .i64 xi.count) := (cell_of_row _ _ 1 _ _ _ x4).trans rfl
      have hsz4 : wr.heap.size + 1 ≤ w4.heap.size := by have := hb4.size; simpa using this
      obtain ⟨W0, hW0⟩ : ∃ X, X = (w4.alloc (.cells #[.slice A2 q.1.length c2] 24)).alloc (.cells (staCs xi) 45) := ⟨_, rfl⟩
      have hbW0 : Below w4.heap.size w4 W0 := by rw [hW0]; exact ((Below.refl _ _).alloc (Nat.le_refl _) _).alloc (by simp) _
      have hst0 := (HST.out.keep hbr4).keep hbW0
      have hB0 : Below w.heap.size w W0 := (HB.out.trans (hbr4.mono HB.out.size)).trans (hbW0.mono (by have := HB.out.size; omega))
      have hsm0 : ∀ j, j < w1.heap.size → j ≠ w.heap.size → W0.heap[j]? = w1.heap[j]? := fun j h1 h2 => ((hbW0.block j (by omega)).trans (hbr4.block j (by omega))).trans (HSAME.out j h1 h2)
      have hlt4 : wr.heap.size < w4.heap.size := by omega
      have hg0 : W0.heap[w4.heap.size + 1]? = some (.cells (staCs xi) 45 (0, 0)) := by rw [hW0]; exact heap_new_at (by simp)
      have hsW0 : w1.heap.size ≤ W0.heap.size := by have := hbW0.size; omega
      have HST0 := Lib.hid hst0; clear hst0
      have HB00 := Lib.hid hB0; clear hB0
      have HSM0 := Lib.hid hsm0; clear hsm0
      have HW0 := Lib.hid hW0; clear hW0
      have HG0 := Lib.hid hg0; clear hg0
      clear hb4 hr2' hA2 hlc2 hbr4 h2 h2f x4 hbW0
      go_wp2_with (at_builtin; refine wpList_append_sta1 rfl (.tmp 38) (.tmp 41) rfl rfl w1.heap.size u9 lf xi (w4.heap.size + 1) 1 rfl rfl (HW0.out ▸ HST0.out.left) (HW0.out ▸ HG0.out) (by omega) (HW0.out ▸ hsW0) ?_; intro lv' w5 ho5 hg5 hat5; rw [← HW0.out] at hg5 hat5; have hst5 := HST0.out.leave ho5 hg5 hat5; have hB5 := HB00.out.grown hg5 HB00.out.size (fun b hb => by have := HST0.out.left.ge b hb; have := HB1.out.size; omega); have hsm5 : ∀ j, j < w1.heap.size → j ≠ w.heap.size → w5.heap[j]? = w1.heap[j]? := (fun j h1 h2 => (hg5.block j (by omega) (fun e => by have := HST0.out.left.ge j e.symm; omega)).trans (HSM0.out j h1 h2)); have hsz5 : w1.heap.size ≤ w5.heap.size := Nat.le_trans hsW0 hg5.size; have HST5 := Lib.hid hst5; clear hst5 hg5 hat5 ho5; have HB5 := Lib.hid hB5; clear hB5; have HSM5 := Lib.hid hsm5; clear hsm5)
      have h0' : ¬ (applyF r xp).2 = 0 := by simpa using H0.out
      have hnext : resS l (O.take (k + 1)) = (r, tk, lf ++ [xi]) := by
       rw [res_take HX.out, HRES.out]
       unfold resStep
       simp only
       rw [if_neg h0']
      exact ⟨⟨k + 1, r, A', c', tk, lf ++ [xi], by omega, by go_num, hnext, HVR.out, HST5.out, HB5.out, hsz5, HSM5.out⟩, by simp [intOf]; omega⟩
  · have hke : k = O.length := by omega
    have hi1 : ¬ (k : Int) < O.length := by omega
    subst hke
    have hres := HRES.out
    rw [List.take_length] at hres
    have HRES2 := Lib.hid hres; clear hres
    have ho := hst.own
    have hl' := hst.left
    clear hst hsame
    go_wp2_with fail
    refine bodyPost_ret (v := .tuple #[u8, u9, .int .i64 0]) (by simp [results, Tryz.results17, go_sem]) rfl ⟨_, _, rfl, ?_, ?_, HB.out⟩
    · rw [HRES2.out]; exact OwnPs.lower ho HB1.out.size
    · rw [HRES2.out]; exact OwnSs.lower hl' HB1.out.size
end Go.Proofs.YtecnlfaholmpoaaGreat
set_option maxRecDepth 20000
set_option maxHeartbeats 2000000
namespace Go.Proofs.YtecnlfaholmpoaaGreat
open Go.RowKit
def onceB (l : List Item) (a : Patch) : Bool := (allR l [a]).2.2 == 0
def bothB (l : List Item) (a b : Patch) : Bool := (allR l [a, b]).2.2 == 0 && ((allR l [b, a]).2.2 == 0 && decide ((allR l [a, b]).1 = (allR l [b, a]).1))
def clashB (l : List Item) (a b : Patch) : Bool := onceB l a && (onceB l b && !bothB l a b)
def clashOf (l : List Item) (ps : List (Clause × Clause)) : List (Stamp × Stamp) := (ps.filter fun x => clashB l x.1.patch x.2.patch).map fun x => (x.1.id, x.2.id)
theorem allR_len (l : List Item) (hv : walkB l = true) (ps : List Patch) : (allR l ps).1.length ≤ 2000 := by
 have e : allR l ps = allF l ps 0 := by unfold allR; rw [hv]; rfl
 rw [e]
 by_cases h : (allF l ps 0).2.2 = 0
 · exact len_of_good (all_good l ps 0 hv h)
 · rw [(all_err l ps 0 h).1]
   simp
theorem clashOf_snoc (l : List Item) (ps : List (Clause × Clause)) (x : Clause × Clause) : clashOf l (ps ++ [x]) = if clashB l x.1.patch x.2.patch then clashOf l ps ++ [(x.1.id, x.2.id)] else clashOf l ps := by
 unfold clashOf
 rw [List.filter_append, List.map_append]
 cases h : clashB l x.1.patch x.2.patch <;> simp [h]
theorem clashOf_len (l : List Item) (ps : List (Clause × Clause)) : (clashOf l ps).length ≤ ps.length := by
 unfold clashOf
 rw [List.length_map]
 exact List.length_filter_le _ _
theorem poss_any (l : List Item) (ps : List Patch) (A B : Option Addr) (c d cb : Nat) (w : World) (hb : w.heap[cb]? = some (.cells #[.slice A l.length c] 24 (0, 0))) (hr : RdI w A l) (hs : RdP w B ps) (hl : l.length ≤ 100000) (hlc : l.length ≤ c) (hsh : ∀ x ∈ l, x.Short) (hps : ps.length ≤ 1000000) (hrd : ∀ p ∈ ps, p.Ready) (m : Int) (hg : w.cell? ⟨0, 0, none⟩ = some (.int .i64 m)) (r : Bool) (hres : ((allR l ps).2.2 == 0) = r) :
 Calls Tryz.prog 48 #[.slice B ps.length d, .pointer (some ⟨cb, 0, none⟩)] w fun e w' => e = .returned (.bool r) ∧ Below w.heap.size w w' := by
 have HA := Lib.hid (all_any l ps A B c d w hr hs hl hlc hsh hps hrd m hg)
 have k0 : w.cell? ⟨cb, 0, none⟩ = some (.slice A l.length c) := (cell_of_row _ _ _ _ _ _ hb).trans rfl
 have HRES := Lib.hid hres; clear hres
 clear hr hs hrd hsh hb hg
 go_enter Tryz.func48, Tryz.ntmps48
 go_wp2_with fail
 refine HA.out.mono ?_
 rintro e w1 ⟨v, rfl, ⟨A1, c1, rfl, _, _, _⟩, hb1⟩
 have HB1 := Lib.hid hb1; clear hb1
 go_wp2_with fail
 go_ret
 exact ⟨by rw [← HRES.out]; rfl, HB1.out.alloc HB1.out.size _⟩
theorem clashes_f (l : List Item) (cs : List Clause) (A B : Option Addr) (c d : Nat) (w : World) (hr : RdI w A l) (hl : l.length ≤ 100000) (hsh : ∀ x ∈ l, x.Short) (hs : RdC w B cs) (hm : cs.length ≤ 64) (hv : walkB l = false) :
 Calls Tryz.prog 15 #[.agg #[.slice A l.length c], .slice B cs.length d] w fun e w' => e = .returned (.tuple #[.slice none 0 0, .int .i64 1]) ∧ Below w.heap.size w w' := by
 have HR := Lib.hid hr; clear hr
 have HS := Lib.hid hs; clear hs
 have HSH := Lib.hid hsh; clear hsh
 have HV := Lib.hid hv; clear hv
 have hb0 := (Below.refl w.heap.size w).alloc (Nat.le_refl _) (.cells #[.slice A l.length c] 24)
 have HB0 := Lib.hid hb0; clear hb0
 refine (callsIn_wide (n := 9)).1 ?_
 refine callsIn_of_wp_marks Tryz.func15 rfl trivial ?_ rfl
 simp only [Tryz.ntmps15, List.size_toArray, List.length_cons, List.length_nil, Nat.reduceAdd, Nat.reduceSub, Array.replicate_succ, Array.replicate_zero, List.push_toArray, List.append_toArray, List.nil_append, List.cons_append]
 have f47 : Fence.wide.fn 47 := trivial
 gi_wp2_with fail
 refine ((callsIn_wide (n := 8)).2 (openc_false l cs A B c d _ (HR.out.below HB0.out) (by omega) HSH.out (HS.out.below HB0.out) hm HV.out)).mono ?_
 rintro e w1 ⟨rfl, hb1⟩
 have hbw := HB0.out.trans (hb1.mono HB0.out.size)
 have HBW := Lib.hid hbw; clear hbw hb1
 gi_wp2_with fail
 exact ⟨.tuple #[.slice none 0 0, .int .i64 1], by simp [results, Tryz.results15, go_sem], rfl, HBW.out⟩
end Go.Proofs.YtecnlfaholmpoaaGreat
