/- The law ConferenceResults, where the code is valid. -/
import Derived.Test.YtecnlfaholmpoaaGreatJC37
set_option linter.unusedVariables false
set_option linter.unusedSimpArgs false
set_option maxRecDepth 20000
set_option maxHeartbeats 20000000
namespace Go.Proofs.YtecnlfaholmpoaaGreat
open Go.RowKit
theorem resl_t (l : List Item) (A : Option Addr) (c : Nat) (cs : List Clause) (B : Option Addr) (d : Nat) (w : World) (m : Int) (hr : RdI w A l) (hl : l.length ≤ maxLen) (hlc : l.length ≤ c) (hfit : ∀ x ∈ l, x.Fits) (hs : RdC w B cs) (hm : cs.length ≤ maxLen) (hfp : ∀ x ∈ cs, x.patch.Fits) (hg : w.cell? ⟨0, 0, none⟩ = some (.int .i64 m)) (hfew : fewC l cs 20 = true) (hv : walkB l = true) : ResLaw l cs A B c d w := by
 unfold ResLaw
 obtain ⟨f1, f2, f3, f4, f5⟩ := fewC_facts hfew
 have hb0 := (Below.refl w.heap.size w).alloc (Nat.le_refl _) (.cells #[.slice A l.length c] 24)
 have hk0 : (w.alloc (.cells #[.slice A l.length c] 24)).blk w.heap.size = some (.cells #[.slice A l.length c] 24 (0, 0)) := heap_alloc_new _ _
 have hc0 : (w.alloc (.cells #[.slice A l.length c] 24)).cell? ⟨w.heap.size, 0, none⟩ = some (.slice A l.length c) := by simp [go_sem]
 have HB0 := Lib.hid hb0; clear hb0
 have HR := Lib.hid hr; clear hr
 have HS := Lib.hid hs; clear hs
 have HG := Lib.hid hg; clear hg
 have HV := Lib.hid hv; clear hv
 have HFEW := Lib.hid hfew; clear hfew
 have HFIT := Lib.hid hfit; clear hfit
 have HFP := Lib.hid hfp; clear hfp
 have HRD := Lib.hid f4; clear f3 f4 f1
 go_enter Tryz.func6, Tryz.ntmps6
 go_wp2_with fail
 refine (head38_any _ m (step_cell HB0.out HG.out)).mono ?_
 rintro e w1 ⟨rfl, hb1⟩
 have hk1 := rkeepk hb1 hk0
 have hc1 := keepw hb1 hc0
 have HB1 := Lib.hid (chain2 HB0.out hb1); clear hb1 hk0 hc0
 go_wp2_with fail
 refine (few_at HFEW.out A B c d w1 (by decide) (HR.out.below HB1.out) (HS.out.below HB1.out) hl HFIT.out HFP.out).mono ?_
 rintro e w2 ⟨rfl, hb2⟩
 have hk2 := rkeepk hb2 hk1
 have hz2 : w.heap.size < w2.heap.size := lt_of_heap hk2
 have hc2 := keepw hb2 hc1
 have HB2 := Lib.hid (chain2 HB1.out hb2); clear hb2 hk1 hc1
 go_wp2_with fail
 refine (result_t l cs A B c d w2 (HR.out.below HB2.out) (by omega) hlc (HS.out.below HB2.out) (by omega) HRD.out m (step_cell HB2.out HG.out) HV.out).mono ?_
 rintro e w3 ⟨tv, lv, rfl, ht, hf, hb3⟩
 obtain ⟨O, hO⟩ : ∃ O, O = openL cs := ⟨_, rfl⟩
 rw [← hO] at ht hf
 obtain ⟨R, hR⟩ : ∃ R, R = resS l O := ⟨_, rfl⟩
 rw [← hR] at ht hf
 have hk3 := rkeepk hb3 hk2
 have HB3 := Lib.hid (chain2 HB2.out hb3); clear hb3 hk2 hc2
 obtain ⟨tA, tc, rfl, _, _, _⟩ := ht.reads
 obtain ⟨lA, lc, rfl, _, _, _⟩ := hf.reads
 have HRT := Lib.hid ht; clear ht
 have HRL := Lib.hid hf; clear hf
 have HRR := Lib.hid hR; clear hR
 have hOl : O.length ≤ 12 := by rw [hO]; exact Nat.le_trans (List.length_filter_le _ _) f5
 have hRDO : ∀ x ∈ O, x.patch.Ready := fun x hx => HRD.out x (by rw [hO] at hx; exact (List.mem_filter.1 hx).1)
 have HRDO := Lib.hid hRDO; clear hRDO
 have HO := Lib.hid hO; clear hO
 go_wp2_with fail
 refine (openr_any cs B d w3 (HS.out.below HB3.out) (by omega)).mono ?_
 rintro e w4 ⟨vo, rfl, ho, hb4⟩
 rw [← HO.out] at ho
 have hk4 := rkeepk hb4 hk3
 have hz3 : w.heap.size < w3.heap.size := lt_of_heap hk3
 have HB4 := Lib.hid (chain2 HB3.out hb4)
 have HRT4 := Lib.hid (HRT.out.below hb4)
 have HRL4 := Lib.hid (HRL.out.below hb4)
 clear hb4 hk3 HRT HRL
 obtain ⟨oA, oc, rfl, _, _, _⟩ := ho.reads
 have HRO := Lib.hid ho; clear ho
 have hst0 : RdI w4 A l := HR.out.below HB4.out
 have HI4 := Lib.hid hst0; clear hst0
 have HK4 := Lib.hid hk4; clear hk4
 have hz4 : w.heap.size < w4.heap.size := lt_of_heap HK4.out
 go_wp2_with fail
 go_loopw [10, 11, 12] (fun v10 v11 v12 wr => ∃ (n : Nat) (r : List Item) (A' : Option Addr) (c' : Nat) (tk : List Patch) (lf : List Stamp), n ≤ O.length ∧ v12 = .int .i64 n ∧ v10 = .int .i64 tk.length ∧ v11 = .int .i64 lf.length ∧ resS l (O.take n) = (r, tk, lf) ∧ walkB r = true ∧ r.length ≤ c' ∧ RdI wr A' r ∧ (r ≠ [] → ∀ b o, A' = some ⟨b, o, none⟩ → b ≠ w.heap.size) ∧
  wr.heap[w.heap.size]? = some (.cells #[.slice A' r.length c'] 24 (0, 0)) ∧ Below w.heap.size w wr ∧ w4.heap.size ≤ wr.heap.size ∧ (∀ j, j < w4.heap.size → j ≠ w.heap.size → wr.heap[j]? = w4.heap[j]?)) (fun _ _ v12 _ => O.length - (intOf v12).toNat)
 case atStart => exact ⟨0, l, A, c, [], [], Nat.zero_le _, rfl, rfl, rfl, rfl, HV.out, hlc, HI4.out, fun hne b o hA => by have := rdi_lt HR.out hne hA; omega, HK4.out, HB4.out, Nat.le_refl _, fun _ _ _ => rfl⟩
 case round =>
  obtain ⟨n, r, A', c', tk, lf, hn, rfl, rfl, rfl, hres, hvr, hrc, hrr, hrn, hbx, hbel, hsz, hsame⟩ := hrel
  have hr2 : r.length ≤ 2000 := len_of_good hvr
  have HRES := Lib.hid hres; clear hres
  have HVR := Lib.hid hvr; clear hvr
  have HRI := Lib.hid hrr; clear hrr
  have HRN := Lib.hid hrn; clear hrn
  have HBX := Lib.hid hbx
  have HBEL := Lib.hid hbel; clear hbel
  have HSAME := Lib.hid hsame; clear hsame
  have k2 : wr.cell? ⟨w.heap.size, 0, none⟩ = some (.slice A' r.length c') := (cell_of_row _ _ _ _ _ _ hbx).trans rfl
  have k2f : wr.frozen? ⟨w.heap.size, 0, none⟩ = false := frozen_of_row wr _ 0 _ _ hbx
  clear hbx
  by_cases hlt : n < O.length
  · have hi1 : (n : Int) < O.length := by omega
    have hi0 : (0 : Int) ≤ n := by omega
    obtain ⟨x, hx⟩ := get_of_lt hlt
    have hready := HRDO.out x (List.mem_of_getElem? hx)
    have hro2 : RdC wr oA O := (HRO.out.keep fun b hb => HSAME.out b (HRO.out.lt b hb) (by have := HRO.out.ge b hb; omega)).row2
    obtain ⟨ob, oo, rfl, hob, hq1, hq2, hs0, hs1, hs19⟩ := hro2.at hx
    have HRO2 := Lib.hid hro2; clear hro2 hq1 hs19
    have HX := Lib.hid hx; clear hx
    have hap := fun W h1 h2 => apply_any r A' c' x.patch W h1 (by omega) hrc (short_of_good HVR.out) hready.item hready.num m h2 hready.tlen
    unfold Applies at hap
    have HAP := Lib.hid hap; clear hap hready
    obtain ⟨q, hq⟩ : ∃ q, q = applyF r x.patch := ⟨_, rfl⟩
    have HQ := Lib.hid hq; clear hq
    go_upto_region 12 with fail
    go_cut [13, 14] (fun v13 v14 wd => v14 = .int .i64 q.2 ∧ ∃ b13 A2 c2, v13 = .pointer (some ⟨b13, 0, none⟩) ∧ wd.heap[b13]? = some (.cells #[.slice A2 q.1.length c2] 24 (0, 0)) ∧ RdI wd A2 q.1 ∧ q.1.length ≤ c2 ∧ (q.1 ≠ [] → ∀ b o, A2 = some ⟨b, o, none⟩ → wr.heap.size ≤ b) ∧ wr.heap.size ≤ b13 ∧ Below wr.heap.size wr wd)
    case first =>
     refine wp_region_held_drew (S := (fun X => X.cell? ⟨w.heap.size, 0, none⟩ = some (.slice A' r.length c') ∧ RdC X (some ⟨ob, oo, none⟩) O)) (by kernel_rfl) ⟨k2, HRO2.out⟩ (fun hHeld => ?_)
     refine takeF (i := 0) (v := .agg #[.slice A' r.length c']) (k := 53) rfl rfl (by kernel_rfl) (by kernel_rfl) (by kernel_rfl) (fun _ _ _ h => h) (Or.inl ⟨by rfl, fun z hz => by (obtain ⟨z0, z1⟩ := hz; go_simp)⟩) hHeld ?_
     try simp only [Act.put, sia, sc0, scs]
     refine takeF (i := 1) (v := .slice (some ⟨ob, oo, none⟩) O.length oc) (k := 54) rfl rfl (by kernel_rfl) (by kernel_rfl) (by kernel_rfl) (fun _ _ _ h => h) (Or.inl ⟨by rfl, fun z hz => by go_simp⟩) hHeld ?_
     try simp only [Act.put, sia, sc0, scs]
     refine takeF (i := 2) (v := .int .i64 n) (k := 55) rfl rfl (by kernel_rfl) (by kernel_rfl) (by kernel_rfl) (fun _ _ _ h => h) (Or.inl ⟨by rfl, fun z hz => by go_simp⟩) hHeld ?_
     try simp only [Act.put, sia, sc0, scs]
     refine takeF (i := 3) (v := .pointer (some ⟨ob, oo + n * 20, none⟩)) (k := 56) rfl rfl (by kernel_rfl) (by kernel_rfl) (by kernel_rfl) (fun _ _ _ h => h) (Or.inl ⟨by rfl, fun z hz => by go_simp⟩) hHeld ?_
     try simp only [Act.put, sia, sc0, scs]
     refine takeF (i := 4) (v := .pointer (some ⟨ob, oo + n * 20 + 4, none⟩)) (k := 57) rfl rfl (by kernel_rfl) (by kernel_rfl) (by kernel_rfl) (fun _ _ _ h => h) (Or.inl ⟨by rfl, fun z hz => by go_simp⟩) hHeld ?_
     try simp only [Act.put, sia, sc0, scs]
     refine takeF (i := 5) (v := x.patch.agg) (k := 58) rfl rfl (by kernel_rfl) (by kernel_rfl) (by kernel_rfl) (fun _ _ _ h => h) (Or.inl ⟨by rfl, fun z hz => by (obtain ⟨z0, z1⟩ := hz; have hq := z1.load49 HX.out; clear z0 z1; go_simp)⟩) hHeld ?_
     try simp only [Act.put, sia, sc0, scs]
     generalize hG : wpAnyH Tryz.prog _ _ _ _ = G
     have e11 : ∀ (W : World) (A2 : Option Addr) (c2 : Nat) (b13 : Nat), W.cell? ⟨w.heap.size, 0, none⟩ = some (.slice A' r.length c') → RdC W (some ⟨ob, oo, none⟩) O → Below wr.heap.size wr W → RdI W A2 q.1 → q.1.length ≤ c2 → (q.1 ≠ [] → ∀ b o, A2 = some ⟨b, o, none⟩ → wr.heap.size ≤ b) → W.heap[b13]? = some (.cells #[.slice none 0 0] 24 (0, 0)) → wr.heap.size ≤ b13 → (q.1 ≠ [] → ∀ b o, A2 = some ⟨b, o, none⟩ → b ≠ b13) → G 2 #[true, true, true, true, true, true, true, true, true, true, true, false, false] ⟨#[.agg #[.slice A l.length c], .slice B cs.length d, .pointer (some ⟨w.heap.size, 0, none⟩), undef, u4, .bool true, .slice tA R.2.1.length tc, .slice lA R.2.2.length lc, .int .i64 0, .slice (some ⟨ob, oo, none⟩) O.length oc, .int .i64 tk.length, .int .i64 lf.length, .int .i64 n, .pointer (some ⟨b13, 0, none⟩), u14, .bool true, .agg #[.slice A l.length c], .slice B cs.length d, .bool true, .bool false, undef, .tuple #[.slice tA R.2.1.length tc, .slice lA R.2.2.length lc, .int .i64 0], .agg #[.slice A l.length c], .slice B cs.length d, .tuple #[.slice tA R.2.1.length tc, .slice lA R.2.2.length lc, .int .i64 0], .slice tA R.2.1.length tc, .slice lA R.2.2.length lc, .int .i64 0, .int .i64 0, .bool false, undef, undef, undef, undef, undef, undef, undef, undef, undef, undef, undef, undef, undef, undef, .slice B cs.length d, .slice (some ⟨ob, oo, none⟩) O.length oc, .int .i64 n, .slice (some ⟨ob, oo, none⟩) O.length oc, .int .i64 O.length, .bool true, u50, u51, .tuple #[.agg #[.slice A2 q.1.length c2], .int .i64 q.2], .agg #[.slice A' r.length c'], .slice (some ⟨ob, oo, none⟩) O.length oc, .int .i64 n, .pointer (some ⟨ob, oo + n * 20, none⟩), .pointer (some ⟨ob, oo + n * 20 + 4, none⟩), x.patch.agg, .tuple #[.agg #[.slice A2 q.1.length c2], .int .i64 q.2], .agg #[.slice A2 q.1.length c2], .int .i64 q.2, u62, u63, u64, u65, u66, u67, u68, u69, u70, u71, u72, u73, u74, u75, u76, u77, u78, u79, u80, u81, u82, u83, u84, u85, u86, u87, u88, u89, u90, u91, u92, u93, u94, u95, u96, u97, u98, u99, u100, undef, undef, undef, undef, undef, undef, undef, undef, undef, undef, undef, undef, undef], []⟩ W := by
      intro W A2 c2 b13 hS hO hB hI hc2 hA h13 l13 hne
      rw [← hG]
      have z13 : W.cell? ⟨b13, 0, none⟩ = some (.slice none 0 0) := (cell_of_row _ _ _ _ _ _ h13).trans rfl
      have f13 : W.frozen? ⟨b13, 0, none⟩ = false := frozen_of_row W _ 0 _ _ h13
      refine wpAnyH_ready (rs := [11]) (by kernel_rfl) (by simp) (AllReadyH.cons rfl (fun K hK => ?_) (AllReadyH.nil))
      go_simp
      have hB2 := hB.setCell (p := ⟨b13, 0, none⟩) l13 (.slice A2 q.1.length c2)
      have hS2 := keepw hB2 k2
      have hO2 := HRO2.out.below hB2
      refine hK.out _ _ ⟨hS2, hO2⟩ (fun hHeld => ?_)
      clear hK K z13 f13
      try simp only [Act.put, sia, sc0, scs]
      refine takeF (i := 12) (v := .int .i64 q.2) (k := 14) rfl rfl (by kernel_rfl) (by kernel_rfl) (by kernel_rfl) (fun _ _ _ h => h) (Or.inl ⟨by rfl, fun z hz => by go_simp⟩) hHeld ?_
      try simp only [Act.put, sia, sc0, scs]
      refine wpAnyH_done (by kernel_rfl) ?_ _
      go_wp2_with fail
      go_meet
      case rel =>
       refine ⟨rfl, b13, A2, c2, rfl, row_setCell h13, ?_, hc2, hA, l13, hB2⟩
       by_cases hq0 : q.1 = []
       · rw [hq0]; intro h0; exact absurd rfl h0
       · exact Sl.keep hI (by simp) (fun b o hA' _ => Below.heap_setCell W ⟨b13, 0, none⟩ _ b (hne hq0 b o hA'))
     have e10 : ∀ (W : World) (A2 : Option Addr) (c2 : Nat), W.cell? ⟨w.heap.size, 0, none⟩ = some (.slice A' r.length c') → RdC W (some ⟨ob, oo, none⟩) O → Below wr.heap.size wr W → RdI W A2 q.1 → q.1.length ≤ c2 → (q.1 ≠ [] → ∀ b o, A2 = some ⟨b, o, none⟩ → wr.heap.size ≤ b) → G 3 #[true, true, true, true, true, true, true, true, true, true, false, false, false] ⟨#[.agg #[.slice A l.length c], .slice B cs.length d, .pointer (some ⟨w.heap.size, 0, none⟩), undef, u4, .bool true, .slice tA R.2.1.length tc, .slice lA R.2.2.length lc, .int .i64 0, .slice (some ⟨ob, oo, none⟩) O.length oc, .int .i64 tk.length, .int .i64 lf.length, .int .i64 n, u13, u14, .bool true, .agg #[.slice A l.length c], .slice B cs.length d, .bool true, .bool false, undef, .tuple #[.slice tA R.2.1.length tc, .slice lA R.2.2.length lc, .int .i64 0], .agg #[.slice A l.length c], .slice B cs.length d, .tuple #[.slice tA R.2.1.length tc, .slice lA R.2.2.length lc, .int .i64 0], .slice tA R.2.1.length tc, .slice lA R.2.2.length lc, .int .i64 0, .int .i64 0, .bool false, undef, undef, undef, undef, undef, undef, undef, undef, undef, undef, undef, undef, undef, undef, .slice B cs.length d, .slice (some ⟨ob, oo, none⟩) O.length oc, .int .i64 n, .slice (some ⟨ob, oo, none⟩) O.length oc, .int .i64 O.length, .bool true, u50, u51, .tuple #[.agg #[.slice A2 q.1.length c2], .int .i64 q.2], .agg #[.slice A' r.length c'], .slice (some ⟨ob, oo, none⟩) O.length oc, .int .i64 n, .pointer (some ⟨ob, oo + n * 20, none⟩), .pointer (some ⟨ob, oo + n * 20 + 4, none⟩), x.patch.agg, .tuple #[.agg #[.slice A2 q.1.length c2], .int .i64 q.2], .agg #[.slice A2 q.1.length c2], .int .i64 q.2, u62, u63, u64, u65, u66, u67, u68, u69, u70, u71, u72, u73, u74, u75, u76, u77, u78, u79, u80, u81, u82, u83, u84, u85, u86, u87, u88, u89, u90, u91, u92, u93, u94, u95, u96, u97, u98, u99, u100, undef, undef, undef, undef, undef, undef, undef, undef, undef, undef, undef, undef, undef], []⟩ W := by
      intro W A2 c2 hS hO hB hI hc2 hA
      rw [← hG]
      refine wpAnyH_ready (rs := [10]) (by kernel_rfl) (by simp) (AllReadyH.cons rfl (fun K hK => ?_) (AllReadyH.nil))
      · go_simp
        have hb2 : Below W.heap.size W (W.alloc (.cells #[.slice none 0 0] 24)) := (Below.refl _ _).alloc (Nat.le_refl _) _
        have hS2 := keepw hb2 hS
        have hO2 := hO.below hb2
        have hB2 := chain2 hB hb2
        refine hK.out _ _ ⟨hS2, hO2⟩ (fun hHeld => ?_)
        clear hK K
        try simp only [Act.put, sia, sc0, scs]
        have := e11 _ A2 c2 W.heap.size hS2 hO2 hB2 (hI.below hb2) hc2 hA (heap_alloc_new _ _) hB.size (fun hq0 b o hA => by have := rdi_lt hI hq0 hA; omega)
        rw [← hG] at this
        exact this
     have e01 : ∀ (W : World) (b13 : Nat), W.cell? ⟨w.heap.size, 0, none⟩ = some (.slice A' r.length c') → RdC W (some ⟨ob, oo, none⟩) O → Below wr.heap.size wr W → W.heap[b13]? = some (.cells #[.slice none 0 0] 24 (0, 0)) → wr.heap.size ≤ b13 → G 6 #[true, true, true, true, true, true, false, false, false, false, true, false, false] ⟨#[.agg #[.slice A l.length c], .slice B cs.length d, .pointer (some ⟨w.heap.size, 0, none⟩), undef, u4, .bool true, .slice tA R.2.1.length tc, .slice lA R.2.2.length lc, .int .i64 0, .slice (some ⟨ob, oo, none⟩) O.length oc, .int .i64 tk.length, .int .i64 lf.length, .int .i64 n, .pointer (some ⟨b13, 0, none⟩), u14, .bool true, .agg #[.slice A l.length c], .slice B cs.length d, .bool true, .bool false, undef, .tuple #[.slice tA R.2.1.length tc, .slice lA R.2.2.length lc, .int .i64 0], .agg #[.slice A l.length c], .slice B cs.length d, .tuple #[.slice tA R.2.1.length tc, .slice lA R.2.2.length lc, .int .i64 0], .slice tA R.2.1.length tc, .slice lA R.2.2.length lc, .int .i64 0, .int .i64 0, .bool false, undef, undef, undef, undef, undef, undef, undef, undef, undef, undef, undef, undef, undef, undef, .slice B cs.length d, .slice (some ⟨ob, oo, none⟩) O.length oc, .int .i64 n, .slice (some ⟨ob, oo, none⟩) O.length oc, .int .i64 O.length, .bool true, u50, u51, u52, .agg #[.slice A' r.length c'], .slice (some ⟨ob, oo, none⟩) O.length oc, .int .i64 n, .pointer (some ⟨ob, oo + n * 20, none⟩), .pointer (some ⟨ob, oo + n * 20 + 4, none⟩), x.patch.agg, u59, u60, u61, u62, u63, u64, u65, u66, u67, u68, u69, u70, u71, u72, u73, u74, u75, u76, u77, u78, u79, u80, u81, u82, u83, u84, u85, u86, u87, u88, u89, u90, u91, u92, u93, u94, u95, u96, u97, u98, u99, u100, undef, undef, undef, undef, undef, undef, undef, undef, undef, undef, undef, undef, undef], []⟩ W := by
      intro W b13 hS hO hB h13 l13
      rw [← hG]
      refine wpAnyH_ready (rs := [6]) (by kernel_rfl) (by simp) (AllReadyH.cons rfl (fun K hK => ?_) (AllReadyH.nil))
      · go_simp
        refine (HAP.out W (HRI.out.below hB) (step_cell (HBEL.out.trans (hB.mono HBEL.out.size)) HG.out)).mono ?_
        rintro e W2 ⟨v, rfl, ⟨A2, c2, rfl, hI2, hc2, hA2⟩, hb2⟩
        rw [← HQ.out] at hI2 hc2 ⊢
        have hS2 := keepw hb2 hS
        have hO2 := hO.below hb2
        have hB2 := chain2 hB hb2
        have k13 := rkeepk hb2 h13
        have l13b := lt_of_heap h13
        have hsz2 := hB.size
        clear hb2
        go_wp2_with fail
        refine hK.out _ _ ⟨hS2, hO2⟩ (fun hHeld => ?_)
        clear hK K
        try simp only [Act.put, sia, sc0, scs]
        refine takeF (i := 7) (v := .tuple #[.agg #[.slice A2 q.1.length c2], .int .i64 q.2]) (k := 52) rfl rfl (by kernel_rfl) (by kernel_rfl) (by kernel_rfl) (fun _ _ _ h => h) (Or.inl ⟨by rfl, fun z hz => by go_simp⟩) hHeld ?_
        try simp only [Act.put, sia, sc0, scs]
        refine takeF (i := 8) (v := .agg #[.slice A2 q.1.length c2]) (k := 60) rfl rfl (by kernel_rfl) (by kernel_rfl) (by kernel_rfl) (fun _ _ _ h => h) (Or.inl ⟨by rfl, fun z hz => by go_simp⟩) hHeld ?_
        try simp only [Act.put, sia, sc0, scs]
        refine takeF (i := 9) (v := .int .i64 q.2) (k := 61) rfl rfl (by kernel_rfl) (by kernel_rfl) (by kernel_rfl) (fun _ _ _ h => h) (Or.inl ⟨by rfl, fun z hz => by go_simp⟩) hHeld ?_
        try simp only [Act.put, sia, sc0, scs]
        have := e11 W2 A2 c2 b13 hS2 hO2 hB2 hI2 hc2 (fun hq0 b o hA => Nat.le_trans hsz2 (hA2 b o hA)) k13 l13 (fun hq0 b o hA => by have := hA2 b o hA; omega)
        rw [← hG] at this
        exact this
     have e00 : ∀ (W : World), W.cell? ⟨w.heap.size, 0, none⟩ = some (.slice A' r.length c') → RdC W (some ⟨ob, oo, none⟩) O → Below wr.heap.size wr W → G 7 #[true, true, true, true, true, true, false, false, false, false, false, false, false] ⟨#[.agg #[.slice A l.length c], .slice B cs.length d, .pointer (some ⟨w.heap.size, 0, none⟩), undef, u4, .bool true, .slice tA R.2.1.length tc, .slice lA R.2.2.length lc, .int .i64 0, .slice (some ⟨ob, oo, none⟩) O.length oc, .int .i64 tk.length, .int .i64 lf.length, .int .i64 n, u13, u14, .bool true, .agg #[.slice A l.length c], .slice B cs.length d, .bool true, .bool false, undef, .tuple #[.slice tA R.2.1.length tc, .slice lA R.2.2.length lc, .int .i64 0], .agg #[.slice A l.length c], .slice B cs.length d, .tuple #[.slice tA R.2.1.length tc, .slice lA R.2.2.length lc, .int .i64 0], .slice tA R.2.1.length tc, .slice lA R.2.2.length lc, .int .i64 0, .int .i64 0, .bool false, undef, undef, undef, undef, undef, undef, undef, undef, undef, undef, undef, undef, undef, undef, .slice B cs.length d, .slice (some ⟨ob, oo, none⟩) O.length oc, .int .i64 n, .slice (some ⟨ob, oo, none⟩) O.length oc, .int .i64 O.length, .bool true, u50, u51, u52, .agg #[.slice A' r.length c'], .slice (some ⟨ob, oo, none⟩) O.length oc, .int .i64 n, .pointer (some ⟨ob, oo + n * 20, none⟩), .pointer (some ⟨ob, oo + n * 20 + 4, none⟩), x.patch.agg, u59, u60, u61, u62, u63, u64, u65, u66, u67, u68, u69, u70, u71, u72, u73, u74, u75, u76, u77, u78, u79, u80, u81, u82, u83, u84, u85, u86, u87, u88, u89, u90, u91, u92, u93, u94, u95, u96, u97, u98, u99, u100, undef, undef, undef, undef, undef, undef, undef, undef, undef, undef, undef, undef, undef], []⟩ W := by
      intro W hS hO hB
      rw [← hG]
      refine wpAnyH_ready (rs := [6, 10]) (by kernel_rfl) (by simp) (AllReadyH.cons rfl (fun K hK => ?_) (AllReadyH.cons rfl (fun K hK => ?_) (AllReadyH.nil)))
      · go_simp
        refine (HAP.out W (HRI.out.below hB) (step_cell (HBEL.out.trans (hB.mono HBEL.out.size)) HG.out)).mono ?_
        rintro e W2 ⟨v, rfl, ⟨A2, c2, rfl, hI2, hc2, hA2⟩, hb2⟩
        rw [← HQ.out] at hI2 hc2 ⊢
        have hS2 := keepw hb2 hS
        have hO2 := hO.below hb2
        have hB2 := chain2 hB hb2
        have hsz2 := hB.size
        clear hb2
        go_wp2_with fail
        refine hK.out _ _ ⟨hS2, hO2⟩ (fun hHeld => ?_)
        clear hK K
        try simp only [Act.put, sia, sc0, scs]
        refine takeF (i := 7) (v := .tuple #[.agg #[.slice A2 q.1.length c2], .int .i64 q.2]) (k := 52) rfl rfl (by kernel_rfl) (by kernel_rfl) (by kernel_rfl) (fun _ _ _ h => h) (Or.inl ⟨by rfl, fun z hz => by go_simp⟩) hHeld ?_
        try simp only [Act.put, sia, sc0, scs]
        refine takeF (i := 8) (v := .agg #[.slice A2 q.1.length c2]) (k := 60) rfl rfl (by kernel_rfl) (by kernel_rfl) (by kernel_rfl) (fun _ _ _ h => h) (Or.inl ⟨by rfl, fun z hz => by go_simp⟩) hHeld ?_
        try simp only [Act.put, sia, sc0, scs]
        refine takeF (i := 9) (v := .int .i64 q.2) (k := 61) rfl rfl (by kernel_rfl) (by kernel_rfl) (by kernel_rfl) (fun _ _ _ h => h) (Or.inl ⟨by rfl, fun z hz => by go_simp⟩) hHeld ?_
        try simp only [Act.put, sia, sc0, scs]
        have := e10 W2 A2 c2 hS2 hO2 hB2 hI2 hc2 (fun hq0 b o hA => Nat.le_trans hsz2 (hA2 b o hA))
        rw [← hG] at this
        exact this
      · go_simp
        have hb2 : Below W.heap.size W (W.alloc (.cells #[.slice none 0 0] 24)) := (Below.refl _ _).alloc (Nat.le_refl _) _
        have hS2 := keepw hb2 hS
        have hO2 := hO.below hb2
        have hB2 := chain2 hB hb2
        refine hK.out _ _ ⟨hS2, hO2⟩ (fun hHeld => ?_)
        clear hK K
        try simp only [Act.put, sia, sc0, scs]
        have := e01 _ W.heap.size hS2 hO2 hB2 (heap_alloc_new _ _) hB.size
        rw [← hG] at this
        exact this
     have := e00 _ hHeld.1 hHeld.2 (Below.refl _ _).drew
     exact this
    case rest =>
    obtain ⟨rfl, b13, A2, c2, rfl, h13, hI2, hc2, hA2, l13, hcb⟩ := hcut
    have HI2 := Lib.hid hI2; clear hI2
    have HCB := Lib.hid hcb; clear hcb
    have b13c : wc.cell? ⟨b13, 0, none⟩ = some (.slice A2 q.1.length c2) := (cell_of_row _ _ _ _ _ _ h13).trans rfl
    have b13l := lt_of_heap h13
    have j2 := keepw HCB.out k2
    have hbx2 := (HCB.out.block _ (lt_of_heap HBX.out)).trans HBX.out
    have j2f : wc.frozen? ⟨w.heap.size, 0, none⟩ = false := frozen_of_row wc _ 0 _ _ hbx2
    have HBX2 := Lib.hid hbx2; clear hbx2 h13 k2 k2f
    have hstep : resS l (O.take (n + 1)) = resStep (r, tk, lf) x := by rw [res_take HX.out, HRES.out]
    have hpre := res_prefix l O (n + 1)
    rw [hstep, ← HRR.out] at hpre
    have HPRE := Lib.hid hpre; clear hpre
    have hbel2 : Below w.heap.size w wc := HBEL.out.trans (HCB.out.mono HBEL.out.size)
    have hsz2 : w4.heap.size ≤ wc.heap.size := Nat.le_trans hsz HCB.out.size
    have hsm2 : ∀ j, j < w4.heap.size → j ≠ w.heap.size → wc.heap[j]? = w4.heap[j]? := fun j h1 h2 => (HCB.out.block j (by omega)).trans (HSAME.out j h1 h2)
    have HBEL2 := Lib.hid hbel2; clear hbel2
    have HSM2 := Lib.hid hsm2; clear hsm2
    cases he : (q.2 == 0) with
    | true =>
      have h0 : (applyF r x.patch).2 = 0 := by rw [← HQ.out]; simpa using he
      have hst2 : resStep (r, tk, lf) x = (q.1, tk ++ [x.patch], lf) := by unfold resStep; simp only; rw [if_pos h0, HQ.out]
      have hgood : walkB q.1 = true := by rw [HQ.out]; exact (kept_law h0).good
      obtain ⟨⟨t, ht⟩, _⟩ := HPRE.out
      rw [hst2] at ht hstep
      simp only at ht
      have HT := Lib.hid ht; clear ht
      have HSTEP := Lib.hid hstep; clear hstep hst2
      have HGOOD := Lib.hid hgood; clear hgood h0
      have hget : R.2.1[tk.length]? = some x.patch := by rw [HT.out, List.append_assoc, List.getElem?_append_right (Nat.le_refl _), Nat.sub_self]; rfl
      have hlen : tk.length < R.2.1.length := (List.getElem?_eq_some_iff.1 hget).1
      have hrt : RdP wc tA R.2.1 := (HRT4.out.keep fun b hb => HSM2.out b (HRT4.out.lt b hb) (by have := HRT4.out.ge b hb; omega)).rd
      have hrowc : OwnCs wc w3.heap.size (.slice (some ⟨ob, oo, none⟩) O.length oc) O := HRO.out.keep fun b hb => HSM2.out b (HRO.out.lt b hb) (by have := HRO.out.ge b hb; omega)
      obtain ⟨bt, ot, rfl, hbt, _⟩ := hrt.load15 hget
      have HRTC := Lib.hid hrt
      have HROC := Lib.hid hrowc.row2
      have HGET := Lib.hid hget
      have i1 : (tk.length : Int) < R.2.1.length := by omega
      have i2 : ¬ (R.2.1.length : Int) ≤ tk.length := by omega
      have i3 : (0 : Int) ≤ tk.length := by omega
      have hrn2 : (IntKind.i64.wrap ((tk.length : Int) + 1)) = (tk.length : Int) + 1 := by
       have := res_lens l (O.take n)
       rw [HRES.out] at this
       simp only [List.length_take] at this
       exact wrap_small _ (by omega) (by omega)
      clear hrt hrowc hget
      go_upto_region 14 with fail
      refine wp_region_held_drew (S := (fun X => RdP X (some ⟨bt, ot, none⟩) R.2.1 ∧ RdC X (some ⟨ob, oo, none⟩) O)) (by kernel_rfl) ⟨HRTC.out, HROC.out⟩ (fun hHeld => ?_)
      refine takeF (i := 0) (v := .int .i64 tk.length) (k := 64) rfl rfl (by kernel_rfl) (by kernel_rfl) (by kernel_rfl) (fun _ _ _ h => h) (Or.inl ⟨by rfl, fun z hz => by go_simp⟩) hHeld ?_
      try simp only [Act.put, sia, sc0, scs]
      refine takeF (i := 1) (v := .slice (some ⟨bt, ot, none⟩) R.2.1.length tc) (k := 65) rfl rfl (by kernel_rfl) (by kernel_rfl) (by kernel_rfl) (fun _ _ _ h => h) (Or.inl ⟨by rfl, fun z hz => by go_simp⟩) hHeld ?_
      try simp only [Act.put, sia, sc0, scs]
      refine takeF (i := 2) (v := .int .i64 R.2.1.length) (k := 66) rfl rfl (by kernel_rfl) (by kernel_rfl) (by kernel_rfl) (fun _ _ _ h => h) (Or.inl ⟨by rfl, fun z hz => by go_simp⟩) hHeld ?_
      try simp only [Act.put, sia, sc0, scs]
      refine takeF (i := 3) (v := .bool false) (k := 67) rfl rfl (by kernel_rfl) (by kernel_rfl) (by kernel_rfl) (fun _ _ _ h => h) (Or.inl ⟨by rfl, fun z hz => by go_simp⟩) hHeld ?_
      try simp only [Act.put, sia, sc0, scs]
      refine takeF (i := 4) (v := .bool false) (k := 68) rfl rfl (by kernel_rfl) (by kernel_rfl) (by kernel_rfl) (fun _ _ _ h => h) (Or.inl ⟨by rfl, fun z hz => by go_simp⟩) hHeld ?_
      try simp only [Act.put, sia, sc0, scs]
      refine takeF (i := 5) (v := .slice (some ⟨bt, ot, none⟩) R.2.1.length tc) (k := 69) rfl rfl (by kernel_rfl) (by kernel_rfl) (by kernel_rfl) (fun _ _ _ h => h) (Or.inl ⟨by rfl, fun z hz => by go_simp⟩) hHeld ?_
      try simp only [Act.put, sia, sc0, scs]
      refine takeF (i := 6) (v := .int .i64 tk.length) (k := 70) rfl rfl (by kernel_rfl) (by kernel_rfl) (by kernel_rfl) (fun _ _ _ h => h) (Or.inl ⟨by rfl, fun z hz => by go_simp⟩) hHeld ?_
      try simp only [Act.put, sia, sc0, scs]
      refine takeF (i := 7) (v := .pointer (some ⟨bt, ot + tk.length * 15, none⟩)) (k := 71) rfl rfl (by kernel_rfl) (by kernel_rfl) (by kernel_rfl) (fun _ _ _ h => h) (Or.inl ⟨by rfl, fun z hz => by go_simp⟩) hHeld ?_
      try simp only [Act.put, sia, sc0, scs]
      refine takeF (i := 8) (v := x.patch.agg) (k := 72) rfl rfl (by kernel_rfl) (by kernel_rfl) (by kernel_rfl) (fun _ _ _ h => h) (Or.inl ⟨by rfl, fun z hz => by (obtain ⟨z0, z1⟩ := hz; have hq := z0.loadAt HGET.out; clear z0 z1; go_simp)⟩) hHeld ?_
      try simp only [Act.put, sia, sc0, scs]
      refine takeF (i := 9) (v := .slice (some ⟨ob, oo, none⟩) O.length oc) (k := 73) rfl rfl (by kernel_rfl) (by kernel_rfl) (by kernel_rfl) (fun _ _ _ h => h) (Or.inl ⟨by rfl, fun z hz => by go_simp⟩) hHeld ?_
      try simp only [Act.put, sia, sc0, scs]
      refine takeF (i := 10) (v := .int .i64 n) (k := 74) rfl rfl (by kernel_rfl) (by kernel_rfl) (by kernel_rfl) (fun _ _ _ h => h) (Or.inl ⟨by rfl, fun z hz => by go_simp⟩) hHeld ?_
      try simp only [Act.put, sia, sc0, scs]
      refine takeF (i := 11) (v := .pointer (some ⟨ob, oo + n * 20, none⟩)) (k := 75) rfl rfl (by kernel_rfl) (by kernel_rfl) (by kernel_rfl) (fun _ _ _ h => h) (Or.inl ⟨by rfl, fun z hz => by go_simp⟩) hHeld ?_
      try simp only [Act.put, sia, sc0, scs]
      refine takeF (i := 12) (v := .pointer (some ⟨ob, oo + n * 20 + 4, none⟩)) (k := 76) rfl rfl (by kernel_rfl) (by kernel_rfl) (by kernel_rfl) (fun _ _ _ h => h) (Or.inl ⟨by rfl, fun z hz => by go_simp⟩) hHeld ?_
      try simp only [Act.put, sia, sc0, scs]
      refine takeF (i := 13) (v := x.patch.agg) (k := 77) rfl rfl (by kernel_rfl) (by kernel_rfl) (by kernel_rfl) (fun _ _ _ h => h) (Or.inl ⟨by rfl, fun z hz => by (obtain ⟨z0, z1⟩ := hz; have hq := z1.load49 HX.out; clear z0 z1; go_simp)⟩) hHeld ?_
      try simp only [Act.put, sia, sc0, scs]
      refine takeF (i := 14) (v := .bool false) (k := 78) rfl rfl (by kernel_rfl) (by kernel_rfl) (by kernel_rfl) (fun _ _ _ h => h) (Or.inl ⟨by rfl, fun z hz => by go_simp⟩) hHeld ?_
      try simp only [Act.put, sia, sc0, scs]
      refine takeF (i := 15) (v := .bool false) (k := 79) rfl rfl (by kernel_rfl) (by kernel_rfl) (by kernel_rfl) (fun _ _ _ h => h) (Or.inl ⟨by rfl, fun z hz => by go_simp⟩) hHeld ?_
      try simp only [Act.put, sia, sc0, scs]
      refine wpAnyH_done (by kernel_rfl) ?_ _
      go_wp2_with fail
      obtain ⟨W9, hW9⟩ : ∃ X, X = (wc.setCell ⟨w.heap.size, 0, none⟩ (.slice A2 q.1.length c2)).drew := ⟨_, rfl⟩
      rw [← hW9]
      have g1 : ∀ k, k ≠ w.heap.size → W9.heap[k]? = wc.heap[k]? := fun k hk => by rw [hW9]; exact Below.heap_setCell wc ⟨w.heap.size, 0, none⟩ _ k hk
      have g2 : W9.heap[w.heap.size]? = some (.cells #[.slice A2 q.1.length c2] 24 (0, 0)) := by rw [hW9]; exact row_setCell HBX2.out
      have g3 : Below w.heap.size w W9 := by rw [hW9]; exact (HBEL2.out.setCell (p := ⟨w.heap.size, 0, none⟩) (Nat.le_refl _) _).drew
      have g4 : W9.heap.size = wc.heap.size := by rw [hW9]; simp
      have g5 : RdI W9 A2 q.1 := by
       by_cases hq0 : q.1 = []
       · rw [hq0]; intro h0; exact absurd rfl h0
       · exact Sl.keep HI2.out (by omega) (fun b o hA' _ => g1 b (by have := hA2 hq0 b o hA'; have := lt_of_heap HBX.out; omega))
      exact ⟨⟨n + 1, q.1, A2, c2, tk ++ [x.patch], lf, by omega, by go_num, by simp, rfl, HSTEP.out, HGOOD.out, hc2, g5, fun hq0 b o hA' => by have := hA2 hq0 b o hA'; have := lt_of_heap HBX.out; omega, g2, g3, by omega, fun j h1 h2 => (g1 j h2).trans (HSM2.out j h1 h2)⟩, by simp [intOf]; omega⟩
    | false =>
      have h0 : ¬ (applyF r x.patch).2 = 0 := by rw [← HQ.out]; simpa using he
      have hst2 : resStep (r, tk, lf) x = (r, tk, lf ++ [x.id]) := by unfold resStep; simp only; rw [if_neg h0]
      obtain ⟨_, t, ht⟩ := HPRE.out
      rw [hst2] at ht hstep
      simp only at ht
      have HT := Lib.hid ht; clear ht
      have HSTEP := Lib.hid hstep; clear hstep hst2 h0
      have hget : R.2.2[lf.length]? = some x.id := by rw [HT.out, List.append_assoc, List.getElem?_append_right (Nat.le_refl _), Nat.sub_self]; rfl
      have hlen : lf.length < R.2.2.length := (List.getElem?_eq_some_iff.1 hget).1
      have hrt : RdSt wc lA R.2.2 := (HRL4.out.keep fun b hb => HSM2.out b (HRL4.out.lt b hb) (by have := HRL4.out.ge b hb; omega)).rd
      have hrowc : OwnCs wc w3.heap.size (.slice (some ⟨ob, oo, none⟩) O.length oc) O := HRO.out.keep fun b hb => HSM2.out b (HRO.out.lt b hb) (by have := HRO.out.ge b hb; omega)
      obtain ⟨bl, ol, rfl, hbl, _⟩ := hrt.two hget
      have HRTC := Lib.hid hrt
      have HROC := Lib.hid hrowc.row2
      have HGET := Lib.hid hget
      have i1 : (lf.length : Int) < R.2.2.length := by omega
      have i2 : ¬ (R.2.2.length : Int) ≤ lf.length := by omega
      have i3 : (0 : Int) ≤ lf.length := by omega
      have hrn2 : (IntKind.i64.wrap ((lf.length : Int) + 1)) = (lf.length : Int) + 1 := by
       have := res_lens l (O.take n)
       rw [HRES.out] at this
       simp only [List.length_take] at this
       exact wrap_small _ (by omega) (by omega)
      have hsq : sEq x.id.seat x.id.count x.id.seat x.id.count = true := by unfold sEq; simp
      clear hrt hrowc hget
      go_upto_region 18 with fail
      refine wp_region_held_drew (S := (fun X => Sl Stamp.cells 2 X (some ⟨bl, ol, none⟩) R.2.2 ∧ RdC X (some ⟨ob, oo, none⟩) O)) (by kernel_rfl) ⟨HRTC.out, HROC.out⟩ (fun hHeld => ?_)
      refine takeF (i := 0) (v := .int .i64 lf.length) (k := 83) rfl rfl (by kernel_rfl) (by kernel_rfl) (by kernel_rfl) (fun _ _ _ h => h) (Or.inl ⟨by rfl, fun z hz => by go_simp⟩) hHeld ?_
      try simp only [Act.put, sia, sc0, scs]
      refine takeF (i := 1) (v := .slice (some ⟨bl, ol, none⟩) R.2.2.length lc) (k := 84) rfl rfl (by kernel_rfl) (by kernel_rfl) (by kernel_rfl) (fun _ _ _ h => h) (Or.inl ⟨by rfl, fun z hz => by go_simp⟩) hHeld ?_
      try simp only [Act.put, sia, sc0, scs]
      refine takeF (i := 2) (v := .int .i64 R.2.2.length) (k := 85) rfl rfl (by kernel_rfl) (by kernel_rfl) (by kernel_rfl) (fun _ _ _ h => h) (Or.inl ⟨by rfl, fun z hz => by go_simp⟩) hHeld ?_
      try simp only [Act.put, sia, sc0, scs]
      refine takeF (i := 3) (v := .bool false) (k := 86) rfl rfl (by kernel_rfl) (by kernel_rfl) (by kernel_rfl) (fun _ _ _ h => h) (Or.inl ⟨by rfl, fun z hz => by go_simp⟩) hHeld ?_
      try simp only [Act.put, sia, sc0, scs]
      refine takeF (i := 4) (v := .bool false) (k := 87) rfl rfl (by kernel_rfl) (by kernel_rfl) (by kernel_rfl) (fun _ _ _ h => h) (Or.inl ⟨by rfl, fun z hz => by go_simp⟩) hHeld ?_
      try simp only [Act.put, sia, sc0, scs]
      refine takeF (i := 5) (v := .slice (some ⟨bl, ol, none⟩) R.2.2.length lc) (k := 88) rfl rfl (by kernel_rfl) (by kernel_rfl) (by kernel_rfl) (fun _ _ _ h => h) (Or.inl ⟨by rfl, fun z hz => by go_simp⟩) hHeld ?_
      try simp only [Act.put, sia, sc0, scs]
      refine takeF (i := 6) (v := .int .i64 lf.length) (k := 89) rfl rfl (by kernel_rfl) (by kernel_rfl) (by kernel_rfl) (fun _ _ _ h => h) (Or.inl ⟨by rfl, fun z hz => by go_simp⟩) hHeld ?_
      try simp only [Act.put, sia, sc0, scs]
      refine takeF (i := 7) (v := .pointer (some ⟨bl, ol + lf.length * 2, none⟩)) (k := 90) rfl rfl (by kernel_rfl) (by kernel_rfl) (by kernel_rfl) (fun _ _ _ h => h) (Or.inl ⟨by rfl, fun z hz => by go_simp⟩) hHeld ?_
      try simp only [Act.put, sia, sc0, scs]
      refine takeF (i := 8) (v := x.id.agg) (k := 91) rfl rfl (by kernel_rfl) (by kernel_rfl) (by kernel_rfl) (fun _ _ _ h => h) (Or.inl ⟨by rfl, fun z hz => by (obtain ⟨z0, z1⟩ := hz; obtain ⟨y0, y1⟩ := RdSt.twoAt z0 HGET.out; clear z0 z1; go_simp)⟩) hHeld ?_
      try simp only [Act.put, sia, sc0, scs]
      refine takeF (i := 9) (v := .slice (some ⟨ob, oo, none⟩) O.length oc) (k := 92) rfl rfl (by kernel_rfl) (by kernel_rfl) (by kernel_rfl) (fun _ _ _ h => h) (Or.inl ⟨by rfl, fun z hz => by go_simp⟩) hHeld ?_
      try simp only [Act.put, sia, sc0, scs]
      refine takeF (i := 10) (v := .int .i64 n) (k := 93) rfl rfl (by kernel_rfl) (by kernel_rfl) (by kernel_rfl) (fun _ _ _ h => h) (Or.inl ⟨by rfl, fun z hz => by go_simp⟩) hHeld ?_
      try simp only [Act.put, sia, sc0, scs]
      refine takeF (i := 11) (v := .pointer (some ⟨ob, oo + n * 20, none⟩)) (k := 94) rfl rfl (by kernel_rfl) (by kernel_rfl) (by kernel_rfl) (fun _ _ _ h => h) (Or.inl ⟨by rfl, fun z hz => by go_simp⟩) hHeld ?_
      try simp only [Act.put, sia, sc0, scs]
      refine takeF (i := 12) (v := .pointer (some ⟨ob, oo + n * 20, none⟩)) (k := 95) rfl rfl (by kernel_rfl) (by kernel_rfl) (by kernel_rfl) (fun _ _ _ h => h) (Or.inl ⟨by rfl, fun z hz => by go_simp⟩) hHeld ?_
      try simp only [Act.put, sia, sc0, scs]
      refine takeF (i := 13) (v := x.id.agg) (k := 96) rfl rfl (by kernel_rfl) (by kernel_rfl) (by kernel_rfl) (fun _ _ _ h => h) (Or.inl ⟨by rfl, fun z hz => by (obtain ⟨z0, z1⟩ := hz; obtain ⟨y0, y1⟩ := z1.idAt HX.out; clear z0 z1; go_simp)⟩) hHeld ?_
      try simp only [Act.put, sia, sc0, scs]
      refine takeF (i := 14) (v := .bool false) (k := 97) rfl rfl (by kernel_rfl) (by kernel_rfl) (by kernel_rfl) (fun _ _ _ h => h) (Or.inl ⟨by rfl, fun z hz => by go_simp⟩) hHeld ?_
      try simp only [Act.put, sia, sc0, scs]
      refine takeF (i := 15) (v := .bool false) (k := 98) rfl rfl (by kernel_rfl) (by kernel_rfl) (by kernel_rfl) (fun _ _ _ h => h) (Or.inl ⟨by rfl, fun z hz => by go_simp⟩) hHeld ?_
      try simp only [Act.put, sia, sc0, scs]
      refine wpAnyH_done (by kernel_rfl) ?_ _
      go_wp2_with fail
      have g3 : Below w.heap.size w wc.drew := HBEL2.out.drew
      exact ⟨⟨n + 1, r, A', c', tk, lf ++ [x.id], by omega, by go_num, rfl, by simp, HSTEP.out, HVR.out, hrc, HRI.out.below (HCB.out.drew), HRN.out, HBX2.out, g3, hsz2, HSM2.out⟩, by simp [intOf]; omega⟩
  · have hne : n = O.length := by omega
    have hi1 : ¬ (n : Int) < O.length := by omega
    have hres := HRES.out
    rw [hne, List.take_length, ← HRR.out] at hres
    have e1 : ((tk.length : Int) == (R.2.1.length : Int)) = true := by rw [hres]; simp
    have e2 : ((lf.length : Int) == (R.2.2.length : Int)) = true := by rw [hres]; simp
    clear hres
    go_wp2_with fail
    go_ret
    exact ⟨rfl, HBEL.out⟩
theorem results_law (l : List Item) (A : Option Addr) (c : Nat) (cs : List Clause) (B : Option Addr) (d : Nat) (w : World) (m : Int) (hr : RdI w A l) (hl : l.length ≤ maxLen) (hlc : l.length ≤ c) (hfit : ∀ x ∈ l, x.Fits) (hs : RdC w B cs) (hm : cs.length ≤ maxLen) (hfp : ∀ x ∈ cs, x.patch.Fits) (hg : w.cell? ⟨0, 0, none⟩ = some (.int .i64 m)) :
 Calls Tryz.prog 6 #[.agg #[.slice A l.length c], .slice B cs.length d] w fun e w' => e = .returned (.bool true) ∧ Below w.heap.size w w' := by
 cases hfew : fewC l cs 20 with
 | false => exact resl_f l A c cs B d w m hr hl hlc hfit hs hm hfp hg hfew
 | true =>
   cases hv : walkB l with
   | false => exact resl_n l A c cs B d w m hr hl hlc hfit hs hm hfp hg hfew hv
   | true => exact resl_t l A c cs B d w m hr hl hlc hfit hs hm hfp hg hfew hv
end Go.Proofs.YtecnlfaholmpoaaGreat
