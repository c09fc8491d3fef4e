/- The law ConferenceClashes. -/
import Derived.Test.YtecnlfaholmpoaaGreatJCC1
set_option linter.unusedVariables false
set_option linter.unusedSimpArgs false
set_option maxRecDepth 20000
set_option maxHeartbeats 20000000
namespace Go.Proofs.YtecnlfaholmpoaaGreat
open Go.RowKit
def ClaLaw (l : List Item) (cs : List Clause) (A B : Option Addr) (c d : Nat) (w : World) : Prop :=
 Calls Tryz.prog 8 #[.agg #[.slice A l.length c], .slice B cs.length d] w fun e w' => e = .returned (.bool true) ∧ Below w.heap.size w w'
theorem bl1c {W X : World} (h : Below W.heap.size W X) (o : Obj) : Below W.heap.size W (X.alloc o) := h.alloc h.size _
theorem apply_lit {l : List Item} {p : Patch} {r : List Item} {e : Int} (h : applyF l p = (r, e)) (A : Option Addr) (c : Nat) (w : World) (hr : RdI w A l) (hl : l.length ≤ 100000) (hlc : l.length ≤ c) (hsh : ∀ x ∈ l, x.Short) (hp : p.Ready) (m : Int) (hg : w.cell? ⟨0, 0, none⟩ = some (.int .i64 m)) :
 Calls Tryz.prog 28 #[.agg #[.slice A l.length c], p.agg] w fun en w' => ∃ A' c', en = .returned (.tuple #[.agg #[.slice A' r.length c'], .int .i64 e]) ∧ Below w.heap.size w w' := by
 have := apply_any l A c p w hr hl hlc hsh hp.item hp.num m hg hp.tlen
 unfold Applies at this
 rw [h] at this
 refine this.mono ?_
 rintro en w' ⟨v, rfl, ⟨A', c', rfl, hr', hlc', -⟩, hb⟩
 exact ⟨A', c', rfl, hb⟩
theorem same_lit2 {r s : List Item} {q : Bool} (h : decide (r = s) = q) (A B : Option Addr) (n k c d : Nat) (w : World) (hn : n = r.length) (hk : k = s.length) (hr : RdI w A r) (hs : RdI w B s) (hl : r.length ≤ 100000) (hm : s.length ≤ 100000) :
 Calls Tryz.prog 34 #[.agg #[.slice A n c], .agg #[.slice B k d]] w fun e w' => e = .returned (.bool q) ∧ Below w.heap.size w w' := by
 subst hn hk h
 exact same_any r s A B c d w hr hs hl hm
theorem clash_eqs {l : List Item} {a b : Patch} {ra rb d d2 : List Item} {ea eb di dj dh dm : Int} (hw : walkB l = true) (haa : applyF l a = (ra, ea)) (hab : applyF l b = (rb, eb)) (hal : allR l [a, b] = (d, di, dh)) (ham : allR l [b, a] = (d2, dj, dm)) :
 clashB l a b = ((ea == 0) && ((eb == 0) && !((dh == 0) && ((dm == 0) && decide (d = d2))))) := by
 unfold clashB bothB
 rw [once_eq hw, once_eq hw, haa, hab, hal, ham]
theorem clash_true {a b c : Bool} (h : (a && (b && !c)) = true) : a = true ∧ b = true ∧ c = false := by
 revert h
 cases a <;> cases b <;> cases c <;> simp
theorem clash_snoc (l : List Item) (done : List (Clause × Clause)) (x y : Clause) : (clashOf l done).length + (if clashB l x.patch y.patch = true then 1 else 0) = (clashOf l (done ++ [(x, y)])).length := by
 rw [clashOf_app, List.length_append]
 unfold clashOf
 rw [List.filter_cons]
 cases clashB l x.patch y.patch <;> rfl
theorem RdC.lt2 {w : World} {b o : Nat} {l : List Clause} (h : RdC w (some ⟨b, o, none⟩) l) {k : Nat} {p : Clause} (hp : l[k]? = some p) : b < w.heap.size := by
 obtain ⟨b', o', hA, hlt, _⟩ := h.at hp
 cases hA
 exact hlt
theorem cla_f (l : List Item) (A : Option Addr) (c : Nat) (cs : List Clause) (B : Option Addr) (d : Nat) (w : World) (m : Int) (hr : RdI w A l) (hl : l.length ≤ maxLen) (hlc : l.length ≤ c) (hfit : ∀ x ∈ l, x.Fits) (hs : RdC w B cs) (hm : cs.length ≤ maxLen) (hfp : ∀ x ∈ cs, x.patch.Fits) (hg : w.cell? ⟨0, 0, none⟩ = some (.int .i64 m)) (hfew : fewC l cs 12 = false) : ClaLaw l cs A B c d w := by
 unfold ClaLaw
 have hb0 := (Below.refl w.heap.size w).alloc (Nat.le_refl _) (.cells #[.slice A l.length c] 24)
 have hc0 : (w.alloc (.cells #[.slice A l.length c] 24)).cell? ⟨w.heap.size, 0, none⟩ = some (.slice A l.length c) := by simp [go_sem]
 have HB0 := Lib.hid hb0; clear hb0
 have HR := Lib.hid hr; clear hr
 have HS := Lib.hid hs; clear hs
 have HG := Lib.hid hg; clear hg
 have HFEW := Lib.hid hfew; clear hfew
 have HFIT := Lib.hid hfit; clear hfit
 have HFP := Lib.hid hfp; clear hfp
 go_enter Tryz.func8, Tryz.ntmps8
 go_wp2_with fail
 refine (head38_any _ m (step_cell HB0.out HG.out)).mono ?_
 rintro e w1 ⟨rfl, hb1⟩
 have hc1 := keepw hb1 hc0
 have HB1 := Lib.hid (chain2 HB0.out hb1); clear hb1 hc0
 go_wp2_with fail
 refine (few_at HFEW.out A B c d w1 (by decide) (HR.out.below HB1.out) (HS.out.below HB1.out) hl HFIT.out HFP.out).mono ?_
 rintro e w2 ⟨rfl, hb2⟩
 have hc2 := keepw hb2 hc1
 have HB2 := Lib.hid (chain2 HB1.out hb2); clear hb2 hc1
 go_wp2_with fail
 go_ret
 exact ⟨rfl, HB2.out⟩
theorem cla_t (l : List Item) (A : Option Addr) (c : Nat) (cs : List Clause) (B : Option Addr) (d : Nat) (w : World) (m : Int) (hr : RdI w A l) (hl : l.length ≤ maxLen) (hlc : l.length ≤ c) (hfit : ∀ x ∈ l, x.Fits) (hs : RdC w B cs) (hm : cs.length ≤ maxLen) (hfp : ∀ x ∈ cs, x.patch.Fits) (hg : w.cell? ⟨0, 0, none⟩ = some (.int .i64 m)) (hfew : fewC l cs 12 = true) : ClaLaw l cs A B c d w := by
 unfold ClaLaw
 obtain ⟨f1, f2, f3, f4, f5⟩ := fewC_facts hfew
 have HSH := Lib.hid f3
 have HRD := Lib.hid f4; clear f3 f4 f1
 have hb0 := (Below.refl w.heap.size w).alloc (Nat.le_refl _) (.cells #[.slice A l.length c] 24)
 have hc0 : (w.alloc (.cells #[.slice A l.length c] 24)).cell? ⟨w.heap.size, 0, none⟩ = some (.slice A l.length c) := by simp [go_sem]
 have HB0 := Lib.hid hb0; clear hb0
 have HR := Lib.hid hr; clear hr
 have HS := Lib.hid hs; clear hs
 have HG := Lib.hid hg; clear hg
 have HFEW := Lib.hid hfew; clear hfew
 have HFIT := Lib.hid hfit; clear hfit
 have HFP := Lib.hid hfp; clear hfp
 go_enter Tryz.func8, Tryz.ntmps8
 go_wp2_with fail
 refine (head38_any _ m (step_cell HB0.out HG.out)).mono ?_
 rintro e w1 ⟨rfl, hb1⟩
 have hc1 := keepw hb1 hc0
 have HB1 := Lib.hid (chain2 HB0.out hb1); clear hb1 hc0
 go_wp2_with fail
 refine (few_at HFEW.out A B c d w1 (by decide) (HR.out.below HB1.out) (HS.out.below HB1.out) hl HFIT.out HFP.out).mono ?_
 rintro e w2 ⟨rfl, hb2⟩
 have hc2 := keepw hb2 hc1
 have HB2 := Lib.hid (chain2 HB1.out hb2); clear hb2 hc1
 go_wp2_with fail
 refine (twice_any cs B d w2 (HS.out.below HB2.out) (by omega)).mono ?_
 rintro e w3 ⟨r, rfl, hnd, hb3⟩
 have hc3 := keepw hb3 hc2
 have HB3 := Lib.hid (chain2 HB2.out hb3); clear hb3 hc2
 cases r with
 | true =>
   go_wp2_with fail
   go_ret
   exact ⟨rfl, HB3.out⟩
 | false =>
   have HND := Lib.hid (open_nodup (hnd rfl)); clear hnd
   go_wp2_with fail
   cases hv : walkB l with
   | false =>
     refine (clashes_f l cs A B c d w3 (HR.out.below HB3.out) (by omega) HSH.out (HS.out.below HB3.out) (by omega) hv).mono ?_
     rintro e w4 ⟨rfl, hb4⟩
     have hc4 := keepw hb4 hc3
     have HB4 := Lib.hid (chain2 HB3.out hb4); clear hb4 hc3
     go_wp2_with fail
     refine (valid_any l A c w4 (HR.out.below HB4.out) (by omega) HSH.out).mono ?_
     rintro e w5 ⟨rfl, hb5⟩
     have HB5 := Lib.hid (chain2 HB4.out hb5); clear hb5
     rw [hv]
     go_wp2_with fail
     go_ret
     exact ⟨rfl, HB5.out⟩
   | true =>
     refine (clashes_t l cs A B c d w3 (HR.out.below HB3.out) (by omega) hlc (HS.out.below HB3.out) (by omega) HRD.out m (step_cell HB3.out HG.out) hv).mono ?_
     rintro e w4 ⟨pv, rfl, hp, hb4⟩
     obtain ⟨O, hO⟩ : ∃ O, O = openL cs := ⟨_, rfl⟩
     rw [← hO] at hp
     obtain ⟨C, hC⟩ : ∃ C, C = clashOf l (pairsL O) := ⟨_, rfl⟩
     rw [← hC] at hp
     have HC := Lib.hid hC; clear hC
     have hnd := HND.out
     rw [← hO] at hnd
     have HNP := Lib.hid (pairs_nodup hnd); clear hnd HND
     have hOl : O.length ≤ 12 := by rw [hO]; exact Nat.le_trans (List.length_filter_le _ _) f5
     have hRDO : ∀ x ∈ O, x.patch.Ready := fun x hx => HRD.out x (by rw [hO] at hx; exact (List.mem_filter.1 hx).1)
     have HRDO := Lib.hid hRDO; clear hRDO
     have hc4 := keepw hb4 hc3
     have HB4 := Lib.hid (chain2 HB3.out hb4); clear hb4 hc3
     obtain ⟨pA, pc, rfl, hpl, hpm, _⟩ := hp.reads
     have hCl : C.length ≤ maxLen := Nat.le_trans hpl hpm
     clear hpl hpm
     have HP4 := Lib.hid hp; clear hp
     go_wp2_with fail
     refine (openr_any cs B d w4 (HS.out.below HB4.out) (by omega)).mono ?_
     rintro e w5 ⟨vo, rfl, ho, hb5⟩
     rw [← hO] at ho
     clear hO
     have hc5 := keepw hb5 hc4
     have HP := Lib.hid (HP4.out.below hb5); clear HP4
     have HB5 := Lib.hid (chain2 HB4.out hb5); clear hb5 hc4
     obtain ⟨oA, oc, rfl, _, _, _⟩ := ho.reads
     have HRO := Lib.hid ho; clear ho
     go_wp2_with fail
     go_loopw [9, 10] (fun v9 v10 wr => ∃ (i n : Nat) (done : List (Clause × Clause)), i ≤ O.length ∧ v10 = .int .i64 i ∧ v9 = .int .i64 n ∧ pairsL O = done ++ pairsL (O.drop i) ∧ n = (clashOf l done).length ∧ Below w5.heap.size w5 wr) (fun _ v10 _ => O.length - (intOf v10).toNat)
     case atStart => exact ⟨0, 0, [], Nat.zero_le _, rfl, rfl, rfl, rfl, Below.refl _ _⟩
     case round =>
      obtain ⟨i, n, done, hi, rfl, rfl, hdn, hn, hbr⟩ := hrel
      have HDN := Lib.hid hdn; clear hdn
      have HN := Lib.hid hn; clear hn
      have HBR := Lib.hid hbr; clear hbr
      by_cases hlt : i < O.length
      · have hi1 : (i : Int) < O.length := by omega
        obtain ⟨x, hx⟩ := get_of_lt hlt
        have hrx := HRDO.out x (List.mem_of_getElem? hx)
        have HX := Lib.hid hx; clear hx
        go_wp2_with fail
        go_loopw [9, 11] (fun v9 v11 wr => ∃ (k n : Nat) (done : List (Clause × Clause)), k ≤ O.length ∧ i < k ∧ v11 = .int .i64 k ∧ v9 = .int .i64 n ∧ pairsL O = done ++ ((O.drop k).map (fun y => (x, y)) ++ pairsL (O.drop (i + 1))) ∧ n = (clashOf l done).length ∧ Below w5.heap.size w5 wr) (fun _ v11 _ => O.length - (intOf v11).toNat)
        case atStart => exact ⟨i + 1, n, done, by omega, by omega, by go_num, rfl, by rw [← drop_pairs HX.out]; exact HDN.out, HN.out, HBR.out⟩
        case round =>
         obtain ⟨k, n, done, hk, hik, rfl, rfl, hdk, hnk, hbk⟩ := hrel
         have HDK := Lib.hid hdk; clear hdk
         have HNK := Lib.hid hnk; clear hnk
         have HBK := Lib.hid hbk; clear hbk
         by_cases hkl : k < O.length
         · have hk2 : (k : Int) < O.length := by omega
           have hi0 : (0 : Int) ≤ i := by omega
           have hk0 : (0 : Int) ≤ k := by omega
           obtain ⟨y, hy⟩ := get_of_lt hkl
           have hry := HRDO.out y (List.mem_of_getElem? hy)
           have HY := Lib.hid hy; clear hy
           have hro2 : RdC wr oA O := (HRO.out.below HBK.out).row2
           obtain ⟨ob, oo, rfl, hob, hq1, hq2, hs0, hs1, hs19⟩ := hro2.at HX.out
           have HRO2 := Lib.hid hro2; clear hro2 hq1 hq2 hs0 hs1 hs19
           go_upto_region 15 with fail
           go_cut [12, 13] (fun v12 v13 wd => ∃ b12 b13, v12 = .pointer (some ⟨b12, 0, none⟩) ∧ v13 = .pointer (some ⟨b13, 0, none⟩) ∧ wd.heap[b12]? = some (.cells (patCs x.patch) 49 (0, 0)) ∧ wd.heap[b13]? = some (.cells (patCs y.patch) 49 (0, 0)) ∧ Below wr.heap.size wr wd)
           case first =>
            refine wp_region_held_drew (S := (fun X => RdC X (some ⟨ob, oo, none⟩) O)) (by kernel_rfl) HRO2.out (fun hHeld => ?_)
            refine takeF (i := 0) (v := .slice (some ⟨ob, oo, none⟩) O.length oc) (k := 72) rfl rfl (by kernel_rfl) (by kernel_rfl) (by kernel_rfl) (fun _ _ _ h => h) (Or.inl ⟨by rfl, fun z hz => by go_simp⟩) hHeld ?_
            try simp only [Act.put, sia, sc0, scs]
            refine takeF (i := 1) (v := .int .i64 i) (k := 73) rfl rfl (by kernel_rfl) (by kernel_rfl) (by kernel_rfl) (fun _ _ _ h => h) (Or.inl ⟨by rfl, fun z hz => by go_simp⟩) hHeld ?_
            try simp only [Act.put, sia, sc0, scs]
            refine takeF (i := 2) (v := .pointer (some ⟨ob, oo + i * 20, none⟩)) (k := 74) rfl rfl (by kernel_rfl) (by kernel_rfl) (by kernel_rfl) (fun _ _ _ h => h) (Or.inl ⟨by rfl, fun z hz => by go_simp⟩) hHeld ?_
            try simp only [Act.put, sia, sc0, scs]
            refine takeF (i := 3) (v := .pointer (some ⟨ob, oo + i * 20 + 4, none⟩)) (k := 75) rfl rfl (by kernel_rfl) (by kernel_rfl) (by kernel_rfl) (fun _ _ _ h => h) (Or.inl ⟨by rfl, fun z hz => by go_simp⟩) hHeld ?_
            try simp only [Act.put, sia, sc0, scs]
            refine takeF (i := 4) (v := x.patch.agg) (k := 76) rfl rfl (by kernel_rfl) (by kernel_rfl) (by kernel_rfl) (fun _ _ _ h => h) (Or.inl ⟨by rfl, fun z hz => by (have hq := RdC.load49 hz HX.out; clear hz; go_simp)⟩) hHeld ?_
            try simp only [Act.put, sia, sc0, scs]
            refine takeF (i := 5) (v := .slice (some ⟨ob, oo, none⟩) O.length oc) (k := 77) rfl rfl (by kernel_rfl) (by kernel_rfl) (by kernel_rfl) (fun _ _ _ h => h) (Or.inl ⟨by rfl, fun z hz => by go_simp⟩) hHeld ?_
            try simp only [Act.put, sia, sc0, scs]
            refine takeF (i := 6) (v := .int .i64 k) (k := 78) rfl rfl (by kernel_rfl) (by kernel_rfl) (by kernel_rfl) (fun _ _ _ h => h) (Or.inl ⟨by rfl, fun z hz => by go_simp⟩) hHeld ?_
            try simp only [Act.put, sia, sc0, scs]
            refine takeF (i := 7) (v := .pointer (some ⟨ob, oo + k * 20, none⟩)) (k := 79) rfl rfl (by kernel_rfl) (by kernel_rfl) (by kernel_rfl) (fun _ _ _ h => h) (Or.inl ⟨by rfl, fun z hz => by go_simp⟩) hHeld ?_
            try simp only [Act.put, sia, sc0, scs]
            refine takeF (i := 8) (v := .pointer (some ⟨ob, oo + k * 20 + 4, none⟩)) (k := 80) rfl rfl (by kernel_rfl) (by kernel_rfl) (by kernel_rfl) (fun _ _ _ h => h) (Or.inl ⟨by rfl, fun z hz => by go_simp⟩) hHeld ?_
            try simp only [Act.put, sia, sc0, scs]
            refine takeF (i := 9) (v := y.patch.agg) (k := 81) rfl rfl (by kernel_rfl) (by kernel_rfl) (by kernel_rfl) (fun _ _ _ h => h) (Or.inl ⟨by rfl, fun z hz => by (have hq := RdC.load49 hz HY.out; clear hz; go_simp)⟩) hHeld ?_
            try simp only [Act.put, sia, sc0, scs]
            generalize hG : wpAnyH Tryz.prog _ _ _ _ = G
            rw [← hG]
            refine wpAnyH_ready (rs := [10, 11]) (by kernel_rfl) (by simp) (AllReadyH.cons rfl (fun K hK => ?_) (AllReadyH.cons rfl (fun K hK => ?_) (AllReadyH.nil)))
            · go_simp
              have hB1 : Below wr.heap.size wr (wr.alloc (.cells (patCs zeroP) 49)).drew := ((Below.refl _ _).alloc (Nat.le_refl _) _).drew
              have h12 : (wr.alloc (.cells (patCs zeroP) 49)).drew.heap[wr.heap.size]? = some (.cells (patCs zeroP) 49 (0, 0)) := heap_alloc_new _ _
              refine hK.out _ _ (HRO2.out.below hB1) (fun hHeld => ?_)
              clear hK K
              try simp only [Act.put, sia, sc0, scs]
              refine wpAnyH_ready (rs := [11]) (by kernel_rfl) (by simp) (AllReadyH.cons rfl (fun K hK => ?_) (AllReadyH.nil))
              go_simp
              have hb2 : Below (wr.alloc (.cells (patCs zeroP) 49)).heap.size (wr.alloc (.cells (patCs zeroP) 49)) ((wr.alloc (.cells (patCs zeroP) 49)).alloc (.cells (patCs zeroP) 49)) := (Below.refl _ _).alloc (Nat.le_refl _) _
              have hB2 : Below wr.heap.size wr ((wr.alloc (.cells (patCs zeroP) 49)).alloc (.cells (patCs zeroP) 49)).drew := (((Below.refl _ _).alloc (Nat.le_refl _) _).alloc (by simp) _).drew
              have g12 : ((wr.alloc (.cells (patCs zeroP) 49)).alloc (.cells (patCs zeroP) 49)).drew.heap[wr.heap.size]? = some (.cells (patCs zeroP) 49 (0, 0)) := (show ((wr.alloc (.cells (patCs zeroP) 49)).alloc (.cells (patCs zeroP) 49)).heap[wr.heap.size]? = some (.cells (patCs zeroP) 49 (0, 0)) from rkeepk hb2 (heap_alloc_new _ _))
              have g13 : ((wr.alloc (.cells (patCs zeroP) 49)).alloc (.cells (patCs zeroP) 49)).drew.heap[wr.heap.size + 1]? = some (.cells (patCs zeroP) 49 (0, 0)) := heap_new_at (by simp)
              refine hK.out _ _ (HRO2.out.below hB2) (fun hHeld => ?_)
              clear hK K hb2 h12 hB1
              try simp only [Act.put, sia, sc0, scs]
              generalize hW2 : ((wr.alloc (.cells (patCs zeroP) 49)).alloc (.cells (patCs zeroP) 49)).drew = W2 at hB2 g12 g13
              refine wpAnyH_ready (rs := [12]) (by kernel_rfl) (by simp) (AllReadyH.cons rfl (fun K hK => ?_) (AllReadyH.nil))
              refine step_store_pat rfl (.tmp 12) (.tmp 76) rfl (wr.heap.size) x.patch zeroP rfl rfl (by rw [← hW2] at g12; exact g12) ?_
              have hB3 := below_setRow hB2 (g := wr.heap.size) (by omega) (patCs x.patch)
              have k12 := blk_setRow_at (D := patCs x.patch) g12
              have k13 := (blk_setRow_ne (D := patCs x.patch) (w := W2) (b := wr.heap.size) (k := wr.heap.size + 1) (by omega)).trans g13
              rw [← hW2] at hB3 k12 k13
              refine hK.out _ _ (HRO2.out.below hB3) (fun hHeld => ?_)
              clear hK K
              try simp only [Act.put, sia, sc0, scs]
              refine wpAnyH_ready (rs := [13]) (by kernel_rfl) (by simp) (AllReadyH.cons rfl (fun K hK => ?_) (AllReadyH.nil))
              refine step_store_pat rfl (.tmp 13) (.tmp 81) rfl (wr.heap.size + 1) y.patch zeroP rfl rfl k13 ?_
              have hB4 := below_setRow hB3 (g := wr.heap.size + 1) (by omega) (patCs y.patch)
              have m13 := blk_setRow_at (D := patCs y.patch) k13
              have m12 := (blk_setRow_ne (D := patCs y.patch) (b := wr.heap.size + 1) (k := wr.heap.size) (by omega)).trans k12
              refine hK.out _ _ (HRO2.out.below hB4) (fun hHeld => ?_)
              clear hK K
              try simp only [Act.put, sia, sc0, scs]
              refine wpAnyH_done (by kernel_rfl) ?_ _
              go_wp2_with fail
              go_meet
              case rel => exact ⟨_, _, rfl, rfl, m12, m13, hB4⟩
            · go_simp
              have hB1 : Below wr.heap.size wr (wr.alloc (.cells (patCs zeroP) 49)).drew := ((Below.refl _ _).alloc (Nat.le_refl _) _).drew
              have h13 : (wr.alloc (.cells (patCs zeroP) 49)).drew.heap[wr.heap.size]? = some (.cells (patCs zeroP) 49 (0, 0)) := heap_alloc_new _ _
              refine hK.out _ _ (HRO2.out.below hB1) (fun hHeld => ?_)
              clear hK K
              try simp only [Act.put, sia, sc0, scs]
              refine wpAnyH_ready (rs := [10]) (by kernel_rfl) (by simp) (AllReadyH.cons rfl (fun K hK => ?_) (AllReadyH.nil))
              go_simp
              have hb2 : Below (wr.alloc (.cells (patCs zeroP) 49)).heap.size (wr.alloc (.cells (patCs zeroP) 49)) ((wr.alloc (.cells (patCs zeroP) 49)).alloc (.cells (patCs zeroP) 49)) := (Below.refl _ _).alloc (Nat.le_refl _) _
              have hB2 : Below wr.heap.size wr ((wr.alloc (.cells (patCs zeroP) 49)).alloc (.cells (patCs zeroP) 49)).drew := (((Below.refl _ _).alloc (Nat.le_refl _) _).alloc (by simp) _).drew
              have g13 : ((wr.alloc (.cells (patCs zeroP) 49)).alloc (.cells (patCs zeroP) 49)).drew.heap[wr.heap.size]? = some (.cells (patCs zeroP) 49 (0, 0)) := (show ((wr.alloc (.cells (patCs zeroP) 49)).alloc (.cells (patCs zeroP) 49)).heap[wr.heap.size]? = some (.cells (patCs zeroP) 49 (0, 0)) from rkeepk hb2 (heap_alloc_new _ _))
              have g12 : ((wr.alloc (.cells (patCs zeroP) 49)).alloc (.cells (patCs zeroP) 49)).drew.heap[wr.heap.size + 1]? = some (.cells (patCs zeroP) 49 (0, 0)) := heap_new_at (by simp)
              refine hK.out _ _ (HRO2.out.below hB2) (fun hHeld => ?_)
              clear hK K hb2 h13 hB1
              try simp only [Act.put, sia, sc0, scs]
              generalize hW2 : ((wr.alloc (.cells (patCs zeroP) 49)).alloc (.cells (patCs zeroP) 49)).drew = W2 at hB2 g13 g12
              refine wpAnyH_ready (rs := [12]) (by kernel_rfl) (by simp) (AllReadyH.cons rfl (fun K hK => ?_) (AllReadyH.nil))
              refine step_store_pat rfl (.tmp 12) (.tmp 76) rfl (wr.heap.size + 1) x.patch zeroP rfl rfl (by rw [← hW2] at g12; exact g12) ?_
              have hB3 := below_setRow hB2 (g := wr.heap.size + 1) (by omega) (patCs x.patch)
              have k12 := blk_setRow_at (D := patCs x.patch) g12
              have k13 := (blk_setRow_ne (D := patCs x.patch) (w := W2) (b := wr.heap.size + 1) (k := wr.heap.size) (by omega)).trans g13
              rw [← hW2] at hB3 k12 k13
              refine hK.out _ _ (HRO2.out.below hB3) (fun hHeld => ?_)
              clear hK K
              try simp only [Act.put, sia, sc0, scs]
              refine wpAnyH_ready (rs := [13]) (by kernel_rfl) (by simp) (AllReadyH.cons rfl (fun K hK => ?_) (AllReadyH.nil))
              refine step_store_pat rfl (.tmp 13) (.tmp 81) rfl (wr.heap.size) y.patch zeroP rfl rfl k13 ?_
              have hB4 := below_setRow hB3 (g := wr.heap.size) (by omega) (patCs y.patch)
              have m13 := blk_setRow_at (D := patCs y.patch) k13
              have m12 := (blk_setRow_ne (D := patCs y.patch) (b := wr.heap.size) (k := wr.heap.size + 1) (by omega)).trans k12
              refine hK.out _ _ (HRO2.out.below hB4) (fun hHeld => ?_)
              clear hK K
              try simp only [Act.put, sia, sc0, scs]
              refine wpAnyH_done (by kernel_rfl) ?_ _
              go_wp2_with fail
              go_meet
              case rel => exact ⟨_, _, rfl, rfl, m12, m13, hB4⟩
           case rest =>
            obtain ⟨b12, b13, rfl, rfl, k12, k13, hbd⟩ := hcut
            have HBD := Lib.hid (HBK.out.trans (hbd.mono HBK.out.size)); clear hbd
            have hdrop : (O.drop k).map (fun y => (x, y)) = (x, y) :: (O.drop (k + 1)).map (fun y => (x, y)) := by
             obtain ⟨h1, h2⟩ := List.getElem?_eq_some_iff.1 HY.out
             rw [List.drop_eq_getElem_cons h1, h2, List.map_cons]
            have hlaw := named_law (l := l) (done := done) (rest := (O.drop (k + 1)).map (fun y => (x, y)) ++ pairsL (O.drop (i + 1))) (x := x) (y := y) (by
             have h1 := HDK.out
             rw [hdrop, List.cons_append] at h1
             rw [← h1]
             exact HNP.out)
            rw [← List.cons_append, ← hdrop, ← HDK.out, ← HC.out, ← HNK.out] at hlaw
            have HLAW := Lib.hid hlaw; clear hlaw
            have HDROP := Lib.hid hdrop; clear hdrop
            go_upto_region 16 with fail
            go_cut [14] (fun v14 we => v14 = .bool (clashB l x.patch y.patch) ∧ Below wc.heap.size wc we)
            case first =>
             by_cases hnC : n < C.length
             · have hn1 : (n : Int) < C.length := by omega
               have hn0 : (0 : Int) ≤ n := by omega
               obtain ⟨q, hq⟩ := get_of_lt hnC
               obtain ⟨pA2, pc2, hpe, _, _, hpr⟩ := (HP.out.below HBD.out).reads
               simp only [Value.slice.injEq] at hpe
               obtain ⟨rfl, -, rfl⟩ := hpe
               obtain ⟨pb, po, rfl, hpb, -⟩ := hpr (by rintro rfl; simp at hq)
               obtain ⟨r0, r1, r2, r3⟩ := RdPr.load4 hpr hq
               have hroc : RdC wc (some ⟨ob, oo, none⟩) O := (HRO.out.below HBD.out).row2
               obtain ⟨x0, x1⟩ := hroc.idAt HX.out
               obtain ⟨y0, y1⟩ := hroc.idAt HY.out
               have hob2 := hroc.lt2 HX.out
               have heq : ∀ W, (eqlPr #[.int .i64 q.1.seat, .int .i64 q.1.count, .int .i64 q.2.seat, .int .i64 q.2.count] #[.int .i64 x.id.seat, .int .i64 x.id.count, .int .i64 y.id.seat, .int .i64 y.id.count]).run Tryz.prog W = .ok (.bool (pEq q (x.id, y.id))) W := fun W => run_eqlPr q (x.id, y.id) W
               have hve : pEq q (x.id, y.id) = clashB l x.patch y.patch := by rw [pEq_iff, Bool.eq_iff_iff, decide_eq_true_eq, ← HLAW.out, hq]; simp
               have HVE := Lib.hid hve
               generalize pEq q (x.id, y.id) = ve at heq hve HVE
               have HQ := Lib.hid hq
               clear hve hq r0 r1 r2 r3 x0 x1 y0 y1
               have HPR := Lib.hid hpr; clear hpr
               have HROC := Lib.hid hroc; clear hroc
               refine wp_region_held_drew (S := (fun X => RdPr X (some ⟨pb, po, none⟩) C ∧ RdC X (some ⟨ob, oo, none⟩) O)) (by kernel_rfl) ⟨HPR.out, HROC.out⟩ (fun hHeld => ?_)
               refine takeF (i := 0) (v := .int .i64 n) (k := 82) rfl rfl (by kernel_rfl) (by kernel_rfl) (by kernel_rfl) (fun _ _ _ h => h) (Or.inl ⟨by rfl, fun z hz => by (clear hz; go_simp)⟩) hHeld ?_
               try simp only [Act.put, sia, sc0, scs]
               refine takeF (i := 1) (v := .slice (some ⟨pb, po, none⟩) C.length pc) (k := 83) rfl rfl (by kernel_rfl) (by kernel_rfl) (by kernel_rfl) (fun _ _ _ h => h) (Or.inl ⟨by rfl, fun z hz => by (clear hz; go_simp)⟩) hHeld ?_
               try simp only [Act.put, sia, sc0, scs]
               refine takeF (i := 2) (v := .int .i64 C.length) (k := 84) rfl rfl (by kernel_rfl) (by kernel_rfl) (by kernel_rfl) (fun _ _ _ h => h) (Or.inl ⟨by rfl, fun z hz => by (clear hz; go_simp)⟩) hHeld ?_
               try simp only [Act.put, sia, sc0, scs]
               refine takeF (i := 3) (v := .bool true) (k := 85) rfl rfl (by kernel_rfl) (by kernel_rfl) (by kernel_rfl) (fun _ _ _ h => h) (Or.inl ⟨by rfl, fun z hz => by (clear hz; go_simp)⟩) hHeld ?_
               try simp only [Act.put, sia, sc0, scs]
               refine takeF (i := 4) (v := .bool true) (k := 86) rfl rfl (by kernel_rfl) (by kernel_rfl) (by kernel_rfl) (fun _ _ _ h => h) (Or.inl ⟨by rfl, fun z hz => by (clear hz; go_simp)⟩) hHeld ?_
               try simp only [Act.put, sia, sc0, scs]
               refine takeF (i := 5) (v := .slice (some ⟨pb, po, none⟩) C.length pc) (k := 87) rfl rfl (by kernel_rfl) (by kernel_rfl) (by kernel_rfl) (fun _ _ _ h => h) (Or.inl ⟨by rfl, fun z hz => by (clear hz; go_simp)⟩) hHeld ?_
               try simp only [Act.put, sia, sc0, scs]
               refine takeF (i := 6) (v := .int .i64 n) (k := 88) rfl rfl (by kernel_rfl) (by kernel_rfl) (by kernel_rfl) (fun _ _ _ h => h) (Or.inl ⟨by rfl, fun z hz => by (clear hz; go_simp)⟩) hHeld ?_
               try simp only [Act.put, sia, sc0, scs]
               refine takeF (i := 7) (v := .pointer (some ⟨pb, po + n * 4, none⟩)) (k := 89) rfl rfl (by kernel_rfl) (by kernel_rfl) (by kernel_rfl) (fun _ _ _ h => h) (Or.inl ⟨by rfl, fun z hz => by (clear hz; go_simp)⟩) hHeld ?_
               try simp only [Act.put, sia, sc0, scs]
               refine takeF (i := 8) (v := .agg #[.int .i64 q.1.seat, .int .i64 q.1.count, .int .i64 q.2.seat, .int .i64 q.2.count]) (k := 90) rfl rfl (by kernel_rfl) (by kernel_rfl) (by kernel_rfl) (fun _ _ _ h => h) (Or.inl ⟨by rfl, fun z hz => by (obtain ⟨z0, z1⟩ := hz; obtain ⟨r0, r1, r2, r3⟩ := RdPr.load4 z0 HQ.out; clear z0 z1; go_simp)⟩) hHeld ?_
               try simp only [Act.put, sia, sc0, scs]
               refine takeF (i := 9) (v := .slice (some ⟨ob, oo, none⟩) O.length oc) (k := 91) rfl rfl (by kernel_rfl) (by kernel_rfl) (by kernel_rfl) (fun _ _ _ h => h) (Or.inl ⟨by rfl, fun z hz => by (clear hz; go_simp)⟩) hHeld ?_
               try simp only [Act.put, sia, sc0, scs]
               refine takeF (i := 10) (v := .int .i64 i) (k := 92) rfl rfl (by kernel_rfl) (by kernel_rfl) (by kernel_rfl) (fun _ _ _ h => h) (Or.inl ⟨by rfl, fun z hz => by (clear hz; go_simp)⟩) hHeld ?_
               try simp only [Act.put, sia, sc0, scs]
               refine takeF (i := 11) (v := .pointer (some ⟨ob, oo + i * 20, none⟩)) (k := 93) rfl rfl (by kernel_rfl) (by kernel_rfl) (by kernel_rfl) (fun _ _ _ h => h) (Or.inl ⟨by rfl, fun z hz => by (clear hz; go_simp)⟩) hHeld ?_
               try simp only [Act.put, sia, sc0, scs]
               refine takeF (i := 12) (v := .pointer (some ⟨ob, oo + i * 20, none⟩)) (k := 94) rfl rfl (by kernel_rfl) (by kernel_rfl) (by kernel_rfl) (fun _ _ _ h => h) (Or.inl ⟨by rfl, fun z hz => by (clear hz; go_simp)⟩) hHeld ?_
               try simp only [Act.put, sia, sc0, scs]
               refine takeF (i := 13) (v := x.id.agg) (k := 95) rfl rfl (by kernel_rfl) (by kernel_rfl) (by kernel_rfl) (fun _ _ _ h => h) (Or.inl ⟨by rfl, fun z hz => by (obtain ⟨z0, z1⟩ := hz; obtain ⟨y0, y1⟩ := z1.idAt HX.out; clear z0 z1; go_simp)⟩) hHeld ?_
               try simp only [Act.put, sia, sc0, scs]
               refine takeF (i := 14) (v := .slice (some ⟨ob, oo, none⟩) O.length oc) (k := 96) rfl rfl (by kernel_rfl) (by kernel_rfl) (by kernel_rfl) (fun _ _ _ h => h) (Or.inl ⟨by rfl, fun z hz => by (clear hz; go_simp)⟩) hHeld ?_
               try simp only [Act.put, sia, sc0, scs]
               refine takeF (i := 15) (v := .int .i64 k) (k := 97) rfl rfl (by kernel_rfl) (by kernel_rfl) (by kernel_rfl) (fun _ _ _ h => h) (Or.inl ⟨by rfl, fun z hz => by (clear hz; go_simp)⟩) hHeld ?_
               try simp only [Act.put, sia, sc0, scs]
               refine takeF (i := 16) (v := .pointer (some ⟨ob, oo + k * 20, none⟩)) (k := 98) rfl rfl (by kernel_rfl) (by kernel_rfl) (by kernel_rfl) (fun _ _ _ h => h) (Or.inl ⟨by rfl, fun z hz => by (clear hz; go_simp)⟩) hHeld ?_
               try simp only [Act.put, sia, sc0, scs]
               refine takeF (i := 17) (v := .pointer (some ⟨ob, oo + k * 20, none⟩)) (k := 99) rfl rfl (by kernel_rfl) (by kernel_rfl) (by kernel_rfl) (fun _ _ _ h => h) (Or.inl ⟨by rfl, fun z hz => by (clear hz; go_simp)⟩) hHeld ?_
               try simp only [Act.put, sia, sc0, scs]
               refine takeF (i := 18) (v := y.id.agg) (k := 100) rfl rfl (by kernel_rfl) (by kernel_rfl) (by kernel_rfl) (fun _ _ _ h => h) (Or.inl ⟨by rfl, fun z hz => by (obtain ⟨z0, z1⟩ := hz; obtain ⟨y0, y1⟩ := z1.idAt HY.out; clear z0 z1; go_simp)⟩) hHeld ?_
               try simp only [Act.put, sia, sc0, scs]
               refine takeF (i := 19) (v := .agg #[.int .i64 x.id.seat, .int .i64 x.id.count, .int .i64 y.id.seat, .int .i64 y.id.count]) (k := 101) rfl rfl (by kernel_rfl) (by kernel_rfl) (by kernel_rfl) (fun _ _ _ h => h) (Or.inl ⟨by rfl, fun z hz => by (clear hz; go_simp)⟩) hHeld ?_
               try simp only [Act.put, sia, sc0, scs]
               refine takeF (i := 20) (v := .bool ve) (k := 102) rfl rfl (by kernel_rfl) (by kernel_rfl) (by kernel_rfl) (fun _ _ _ h => h) (Or.inl ⟨by rfl, fun z hz => by (clear hz; go_simp)⟩) hHeld ?_
               try simp only [Act.put, sia, sc0, scs]
               refine takeF (i := 21) (v := .bool ve) (k := 103) rfl rfl (by kernel_rfl) (by kernel_rfl) (by kernel_rfl) (fun _ _ _ h => h) (Or.inl ⟨by rfl, fun z hz => by (clear hz; go_simp)⟩) hHeld ?_
               try simp only [Act.put, sia, sc0, scs]
               refine takeF (i := 22) (v := .bool ve) (k := 14) rfl rfl (by kernel_rfl) (by kernel_rfl) (by kernel_rfl) (fun _ _ _ h => h) (Or.inl ⟨by rfl, fun z hz => by (clear hz; go_simp)⟩) hHeld ?_
               try simp only [Act.put, sia, sc0, scs]
               refine wpAnyH_done (by kernel_rfl) ?_ _
               clear heq
               go_wp2_with fail
               go_meet
               case rel => exact ⟨by rw [HVE.out], (Below.refl _ _).drew⟩
             · have hn1 : decide ((n : Int) < (C.length : Int)) = false := by simp; omega
               have hcl : clashB l x.patch y.patch = false := by
                cases h : clashB l x.patch y.patch with
                | false => rfl
                | true =>
                  have h1 := HLAW.out.2 h
                  exact absurd (List.getElem?_eq_some_iff.1 h1).1 hnC
               go_quiet (fail)
               go_wp2_with fail
               go_meet
               case rel => exact ⟨by rw [hcl], Below.drewN' _ (Below.refl _ _)⟩
            case rest =>
            obtain ⟨rfl, hbe⟩ := hcut
            obtain ⟨w20, hw20⟩ : ∃ x, x = wc := ⟨_, rfl⟩
            subst hw20
            have C20 := keepw (chain2 HBD.out hbe) hc5
            have qC20 := World.block_lt_of_cell? _ _ C20
            have PA20 : w20.blk b12 = some (.cells (patCs x.patch) 49 (0, 0)) := rkeepk hbe k12
            have qPA20 := lt_of_heap PA20
            have PB20 : w20.blk b13 = some (.cells (patCs y.patch) 49 (0, 0)) := rkeepk hbe k13
            have qPB20 := lt_of_heap PB20
            have HV20 := Lib.hid (chain2 HBD.out hbe)
            have HB20 := Lib.hid (chain2 HB5.out HV20.out)
            clear hc5 k12 k13 hbe
            obtain ⟨⟨ra, ea⟩, haa⟩ : ∃ q, applyF l x.patch = q := ⟨_, rfl⟩
            obtain ⟨⟨rb, eb⟩, hab⟩ : ∃ q, applyF l y.patch = q := ⟨_, rfl⟩
            obtain ⟨⟨d1, di, dh⟩, hal⟩ : ∃ q, allR l [x.patch, y.patch] = q := ⟨_, rfl⟩
            obtain ⟨⟨d2, dj, dm⟩, ham⟩ : ∃ q, allR l [y.patch, x.patch] = q := ⟨_, rfl⟩
            have hlt := clash_eqs hv haa hab hal ham
            have hl1 : d1.length ≤ 100000 := by have := allR_len l hv [x.patch, y.patch]; rw [hal] at this; exact Nat.le_trans this (by decide)
            have hl2 : d2.length ≤ 100000 := by have := allR_len l hv [y.patch, x.patch]; rw [ham] at this; exact Nat.le_trans this (by decide)
            have hdone : pairsL O = (done ++ [(x, y)]) ++ ((O.drop (k + 1)).map (fun y => (x, y)) ++ pairsL (O.drop (i + 1))) := by
             rw [List.append_assoc, HDK.out, HDROP.out]; rfl
            have HDONE := Lib.hid hdone; clear hdone
            have hsnoc := clash_snoc l done x y
            rw [← HNK.out] at hsnoc
            have HCM := Lib.hid (fun hc hm => clash_commutes (a := x.patch) (b := y.patch) hv hc hm)
            have HAA := Lib.hid haa; have HAB := Lib.hid hab; have HAL := Lib.hid hal; have HAM := Lib.hid ham
            clear haa hab hal ham
            cases hcb : clashB l x.patch y.patch with
            | true =>
              rw [hcb] at hlt hsnoc
              have HSN := Lib.hid hsnoc; clear hsnoc
              obtain ⟨e1, e2, e3⟩ := clash_true hlt.symm
              have hnC : n < C.length := (List.getElem?_eq_some_iff.1 (HLAW.out.2 hcb)).1
              have hnw : IntKind.i64.wrap ((n : Int) + 1) = (n : Int) + 1 := by rw [IntKind.wrap_i64]; have : maxLen = 9223372036854775807 := rfl; omega
              clear hlt
              have HCL := Lib.hid hCl; clear hCl
              have HNC := Lib.hid hnC; clear hnC
              have HHCB := Lib.hid hcb; clear hcb
              go_wp2_with fail
              refine (apply_lit HAA.out A c _ (HR.out.below HB20.out) (by omega) hlc HSH.out hrx m (step_cell HB20.out HG.out)).mono ?_
              rintro e w21 ⟨A21, c21, rfl, hb21⟩
              have hx21 := hb21
              have C21 := keepw hx21 C20
              have qC21 := World.block_lt_of_cell? _ _ C21
              have PA21 := rkeepk hx21 PA20
              have qPA21 := lt_of_heap PA21
              have PB21 := rkeepk hx21 PB20
              have qPB21 := lt_of_heap PB21
              have HB21 := Lib.hid (chain2 HB20.out hx21)
              have HV21 := Lib.hid (chain2 HV20.out hx21)
              clear hx21 hb21 C20 qC20 PA20 qPA20 PB20 qPB20 
              go_wp2_with fail
              have hbl := bl1c HB21.out (.cells #[.slice A21 ra.length c21] 24)
              refine (apply_lit HAB.out A c _ (HR.out.below hbl) (by omega) hlc HSH.out hry m (step_cell hbl HG.out)).mono ?_
              rintro e w22 ⟨A22, c22, rfl, hb22⟩
              clear hbl
              have hx22 := (step_below hb22)
              have C22 := keepw hx22 C21
              have qC22 := World.block_lt_of_cell? _ _ C22
              have PA22 := rkeepk hx22 PA21
              have qPA22 := lt_of_heap PA22
              have PB22 := rkeepk hx22 PB21
              have qPB22 := lt_of_heap PB22
              have HB22 := Lib.hid (chain2 HB21.out hx22)
              have HV22 := Lib.hid (chain2 HV21.out hx22)
              clear hx22 hb22 C21 qC21 PA21 qPA21 PB21 qPB21 
              go_wp2_with fail
              have hbl := bl1c (bl1c HB22.out (.cells #[.slice A22 rb.length c22] 24)) (.cells (twoCs x.patch y.patch) 49)
              refine (all_lit HAL.out A _ 2 c 2 _ rfl (HR.out.below hbl) (RdP.lit2 _ x.patch y.patch _ (by simp)) (by omega) hlc HSH.out (by simp) (two_ready hrx hry) m (step_cell hbl HG.out)).mono ?_
              rintro e w23 ⟨A23, c23, rfl, hrd, hcd1, hb23⟩
              clear hbl
              have hx23 := (step_below (step_below hb23))
              have C23 := keepw hx23 C22
              have qC23 := World.block_lt_of_cell? _ _ C23
              have PA23 := rkeepk hx23 PA22
              have qPA23 := lt_of_heap PA23
              have PB23 := rkeepk hx23 PB22
              have qPB23 := lt_of_heap PB23
              have HB23 := Lib.hid (chain2 HB22.out hx23)
              have HV23 := Lib.hid (chain2 HV22.out hx23)
              clear hx23 hb23 C22 qC22 PA22 qPA22 PB22 qPB22 
              have HX23 := Lib.hid (hrd)
              clear hrd
              go_wp2_with fail
              have hbl := bl1c (bl1c HB23.out (.cells #[.slice A23 d1.length c23] 24)) (.cells (twoCs y.patch x.patch) 49)
              refine (all_lit HAM.out A _ 2 c 2 _ rfl (HR.out.below hbl) (RdP.lit2 _ y.patch x.patch _ (by simp)) (by omega) hlc HSH.out (by simp) (two_ready hry hrx) m (step_cell hbl HG.out)).mono ?_
              rintro e w24 ⟨A24, c24, rfl, hrd, hcd2, hb24⟩
              clear hbl
              have hx24 := (step_below (step_below hb24))
              have C24 := keepw hx24 C23
              have qC24 := World.block_lt_of_cell? _ _ C24
              have PA24 := rkeepk hx24 PA23
              have qPA24 := lt_of_heap PA24
              have PB24 := rkeepk hx24 PB23
              have qPB24 := lt_of_heap PB24
              have X24 : w24.cell? ⟨w23.heap.size, 0, none⟩ = some (.slice A23 d1.length c23) := bx_c (step_below hb24) (by first | rfl | simp)
              have qX24 := World.block_lt_of_cell? _ _ X24
              have HX24 := Lib.hid (HX23.out.below hx24)
              have HB24 := Lib.hid (chain2 HB23.out hx24)
              have HV24 := Lib.hid (chain2 HV23.out hx24)
              clear hx24 hb24 C23 qC23 PA23 qPA23 PB23 qPB23 HX23
              have HY24 := Lib.hid (hrd)
              clear hrd
              cases h3 : (dh == 0) with
              | false =>
                cases hcc : commF x.patch y.patch with
                | true =>
                  go_wp2_with fail
                  refine (commAt hcc hrx hry _ m (step_cell (bl1c HB24.out (.cells #[.slice A24 d2.length c24] 24)) HG.out)).mono ?_
                  rintro e w25 ⟨rfl, hb25⟩
                  have hx25 := (step_below hb25)
                  have C25 := keepw hx25 C24
                  have qC25 := World.block_lt_of_cell? _ _ C25
                  have PA25 := rkeepk hx25 PA24
                  have qPA25 := lt_of_heap PA25
                  have PB25 := rkeepk hx25 PB24
                  have qPB25 := lt_of_heap PB25
                  have X25 := keepw hx25 X24
                  have qX25 := World.block_lt_of_cell? _ _ X25
                  have HX25 := Lib.hid (HX24.out.below hx25)
                  have HY25 := Lib.hid (HY24.out.below hx25)
                  have HB25 := Lib.hid (chain2 HB24.out hx25)
                  have HV25 := Lib.hid (chain2 HV24.out hx25)
                  clear hx25 hb25 C24 qC24 PA24 qPA24 PB24 qPB24 X24 qX24 HX24 HY24
                  go_wp2_with fail
                  refine ⟨⟨k + 1, n + 1, done ++ [(x, y)], by omega, by omega, by go_num, by go_num, HDONE.out, HSN.out, HV25.out⟩, by simp [intOf]; omega⟩
                | false =>
                  go_wp2_with fail
                  refine (commAt hcc hrx hry _ m (step_cell (bl1c HB24.out (.cells #[.slice A24 d2.length c24] 24)) HG.out)).mono ?_
                  rintro e w25 ⟨rfl, hb25⟩
                  have hx25 := (step_below hb25)
                  have C25 := keepw hx25 C24
                  have qC25 := World.block_lt_of_cell? _ _ C25
                  have PA25 := rkeepk hx25 PA24
                  have qPA25 := lt_of_heap PA25
                  have PB25 := rkeepk hx25 PB24
                  have qPB25 := lt_of_heap PB25
                  have X25 := keepw hx25 X24
                  have qX25 := World.block_lt_of_cell? _ _ X25
                  have HX25 := Lib.hid (HX24.out.below hx25)
                  have HY25 := Lib.hid (HY24.out.below hx25)
                  have HB25 := Lib.hid (chain2 HB24.out hx25)
                  have HV25 := Lib.hid (chain2 HV24.out hx25)
                  clear hx25 hb25 C24 qC24 PA24 qPA24 PB24 qPB24 X24 qX24 HX24 HY24
                  go_wp2_with fail
                  refine ⟨⟨k + 1, n + 1, done ++ [(x, y)], by omega, by omega, by go_num, by go_num, HDONE.out, HSN.out, HV25.out⟩, by simp [intOf]; omega⟩
              | true =>
                cases h4 : (dm == 0) with
                | false =>
                  cases hcc : commF x.patch y.patch with
                  | true =>
                    exfalso
                    exact HCM.out HHCB.out hcc (by rw [HAL.out]; simpa using h3)
                  | false =>
                    go_wp2_with fail
                    refine (commAt hcc hrx hry _ m (step_cell (bl1c HB24.out (.cells #[.slice A24 d2.length c24] 24)) HG.out)).mono ?_
                    rintro e w25 ⟨rfl, hb25⟩
                    have hx25 := (step_below hb25)
                    have C25 := keepw hx25 C24
                    have qC25 := World.block_lt_of_cell? _ _ C25
                    have PA25 := rkeepk hx25 PA24
                    have qPA25 := lt_of_heap PA25
                    have PB25 := rkeepk hx25 PB24
                    have qPB25 := lt_of_heap PB25
                    have X25 := keepw hx25 X24
                    have qX25 := World.block_lt_of_cell? _ _ X25
                    have HX25 := Lib.hid (HX24.out.below hx25)
                    have HY25 := Lib.hid (HY24.out.below hx25)
                    have HB25 := Lib.hid (chain2 HB24.out hx25)
                    have HV25 := Lib.hid (chain2 HV24.out hx25)
                    clear hx25 hb25 C24 qC24 PA24 qPA24 PB24 qPB24 X24 qX24 HX24 HY24
                    go_wp2_with fail
                    refine ⟨⟨k + 1, n + 1, done ++ [(x, y)], by omega, by omega, by go_num, by go_num, HDONE.out, HSN.out, HV25.out⟩, by simp [intOf]; omega⟩
                | true =>
                  have hsm : decide (d1 = d2) = false := by rw [h3, h4] at e3; simpa using e3
                  go_wp2_with fail
                  refine (same_lit2 hsm A23 A24 _ _ c23 c24 _ rfl rfl (HX24.out.below (bl1c (Below.refl _ _) _)) (HY24.out.below (bl1c (Below.refl _ _) _)) hl1 hl2).mono ?_
                  rintro e w25 ⟨rfl, hb25⟩
                  have hx25 := (step_below hb25)
                  have C25 := keepw hx25 C24
                  have qC25 := World.block_lt_of_cell? _ _ C25
                  have PA25 := rkeepk hx25 PA24
                  have qPA25 := lt_of_heap PA25
                  have PB25 := rkeepk hx25 PB24
                  have qPB25 := lt_of_heap PB25
                  have X25 := keepw hx25 X24
                  have qX25 := World.block_lt_of_cell? _ _ X25
                  have HX25 := Lib.hid (HX24.out.below hx25)
                  have HY25 := Lib.hid (HY24.out.below hx25)
                  have HB25 := Lib.hid (chain2 HB24.out hx25)
                  have HV25 := Lib.hid (chain2 HV24.out hx25)
                  clear hx25 hb25 C24 qC24 PA24 qPA24 PB24 qPB24 X24 qX24 HX24 HY24
                  cases hcc : commF x.patch y.patch with
                  | true =>
                    exfalso
                    exact HCM.out HHCB.out hcc (by rw [HAL.out]; simpa using h3)
                  | false =>
                    go_wp2_with fail
                    refine (commAt hcc hrx hry _ m (step_cell HB25.out HG.out)).mono ?_
                    rintro e w26 ⟨rfl, hb26⟩
                    have hx26 := hb26
                    have C26 := keepw hx26 C25
                    have qC26 := World.block_lt_of_cell? _ _ C26
                    have PA26 := rkeepk hx26 PA25
                    have qPA26 := lt_of_heap PA26
                    have PB26 := rkeepk hx26 PB25
                    have qPB26 := lt_of_heap PB26
                    have X26 := keepw hx26 X25
                    have qX26 := World.block_lt_of_cell? _ _ X26
                    have HX26 := Lib.hid (HX25.out.below hx26)
                    have HY26 := Lib.hid (HY25.out.below hx26)
                    have HB26 := Lib.hid (chain2 HB25.out hx26)
                    have HV26 := Lib.hid (chain2 HV25.out hx26)
                    clear hx26 hb26 C25 qC25 PA25 qPA25 PB25 qPB25 X25 qX25 HX25 HY25
                    go_wp2_with fail
                    refine ⟨⟨k + 1, n + 1, done ++ [(x, y)], by omega, by omega, by go_num, by go_num, HDONE.out, HSN.out, HV26.out⟩, by simp [intOf]; omega⟩
            | false =>
              rw [hcb] at hlt hsnoc
              have HSN := Lib.hid hsnoc; clear hsnoc
              have e3 := hlt.symm
              clear hlt
              have HCL := Lib.hid hCl; clear hCl
              have HHCB := Lib.hid hcb; clear hcb
              go_wp2_with fail
              refine (apply_lit HAA.out A c _ (HR.out.below HB20.out) (by omega) hlc HSH.out hrx m (step_cell HB20.out HG.out)).mono ?_
              rintro e w21 ⟨A21, c21, rfl, hb21⟩
              have hx21 := hb21
              have C21 := keepw hx21 C20
              have qC21 := World.block_lt_of_cell? _ _ C21
              have PA21 := rkeepk hx21 PA20
              have qPA21 := lt_of_heap PA21
              have PB21 := rkeepk hx21 PB20
              have qPB21 := lt_of_heap PB21
              have HB21 := Lib.hid (chain2 HB20.out hx21)
              have HV21 := Lib.hid (chain2 HV20.out hx21)
              clear hx21 hb21 C20 qC20 PA20 qPA20 PB20 qPB20 
              go_wp2_with fail
              have hbl := bl1c HB21.out (.cells #[.slice A21 ra.length c21] 24)
              refine (apply_lit HAB.out A c _ (HR.out.below hbl) (by omega) hlc HSH.out hry m (step_cell hbl HG.out)).mono ?_
              rintro e w22 ⟨A22, c22, rfl, hb22⟩
              clear hbl
              have hx22 := (step_below hb22)
              have C22 := keepw hx22 C21
              have qC22 := World.block_lt_of_cell? _ _ C22
              have PA22 := rkeepk hx22 PA21
              have qPA22 := lt_of_heap PA22
              have PB22 := rkeepk hx22 PB21
              have qPB22 := lt_of_heap PB22
              have HB22 := Lib.hid (chain2 HB21.out hx22)
              have HV22 := Lib.hid (chain2 HV21.out hx22)
              clear hx22 hb22 C21 qC21 PA21 qPA21 PB21 qPB21 
              go_wp2_with fail
              have hbl := bl1c (bl1c HB22.out (.cells #[.slice A22 rb.length c22] 24)) (.cells (twoCs x.patch y.patch) 49)
              refine (all_lit HAL.out A _ 2 c 2 _ rfl (HR.out.below hbl) (RdP.lit2 _ x.patch y.patch _ (by simp)) (by omega) hlc HSH.out (by simp) (two_ready hrx hry) m (step_cell hbl HG.out)).mono ?_
              rintro e w23 ⟨A23, c23, rfl, hrd, hcd1, hb23⟩
              clear hbl
              have hx23 := (step_below (step_below hb23))
              have C23 := keepw hx23 C22
              have qC23 := World.block_lt_of_cell? _ _ C23
              have PA23 := rkeepk hx23 PA22
              have qPA23 := lt_of_heap PA23
              have PB23 := rkeepk hx23 PB22
              have qPB23 := lt_of_heap PB23
              have HB23 := Lib.hid (chain2 HB22.out hx23)
              have HV23 := Lib.hid (chain2 HV22.out hx23)
              clear hx23 hb23 C22 qC22 PA22 qPA22 PB22 qPB22 
              have HX23 := Lib.hid (hrd)
              clear hrd
              go_wp2_with fail
              have hbl := bl1c (bl1c HB23.out (.cells #[.slice A23 d1.length c23] 24)) (.cells (twoCs y.patch x.patch) 49)
              refine (all_lit HAM.out A _ 2 c 2 _ rfl (HR.out.below hbl) (RdP.lit2 _ y.patch x.patch _ (by simp)) (by omega) hlc HSH.out (by simp) (two_ready hry hrx) m (step_cell hbl HG.out)).mono ?_
              rintro e w24 ⟨A24, c24, rfl, hrd, hcd2, hb24⟩
              clear hbl
              have hx24 := (step_below (step_below hb24))
              have C24 := keepw hx24 C23
              have qC24 := World.block_lt_of_cell? _ _ C24
              have PA24 := rkeepk hx24 PA23
              have qPA24 := lt_of_heap PA24
              have PB24 := rkeepk hx24 PB23
              have qPB24 := lt_of_heap PB24
              have X24 : w24.cell? ⟨w23.heap.size, 0, none⟩ = some (.slice A23 d1.length c23) := bx_c (step_below hb24) (by first | rfl | simp)
              have qX24 := World.block_lt_of_cell? _ _ X24
              have HX24 := Lib.hid (HX23.out.below hx24)
              have HB24 := Lib.hid (chain2 HB23.out hx24)
              have HV24 := Lib.hid (chain2 HV23.out hx24)
              clear hx24 hb24 C23 qC23 PA23 qPA23 PB23 qPB23 HX23
              have HY24 := Lib.hid (hrd)
              clear hrd
              cases e1 : (ea == 0) with
              | false =>
                cases h3 : (dh == 0) with
                | false =>
                  go_wp2_with fail
                  refine ⟨⟨k + 1, n, done ++ [(x, y)], by omega, by omega, by go_num, by go_num, HDONE.out, HSN.out, bl1c HV24.out _⟩, by simp [intOf]; omega⟩
                | true =>
                  cases h4 : (dm == 0) with
                  | false =>
                    go_wp2_with fail
                    refine ⟨⟨k + 1, n, done ++ [(x, y)], by omega, by omega, by go_num, by go_num, HDONE.out, HSN.out, bl1c HV24.out _⟩, by simp [intOf]; omega⟩
                  | true =>
                    cases hsm : decide (d1 = d2) with
                    | false =>
                      go_wp2_with fail
                      refine (same_lit2 hsm A23 A24 _ _ c23 c24 _ rfl rfl (HX24.out.below (bl1c (Below.refl _ _) _)) (HY24.out.below (bl1c (Below.refl _ _) _)) hl1 hl2).mono ?_
                      rintro e w25 ⟨rfl, hb25⟩
                      have hx25 := (step_below hb25)
                      have C25 := keepw hx25 C24
                      have qC25 := World.block_lt_of_cell? _ _ C25
                      have PA25 := rkeepk hx25 PA24
                      have qPA25 := lt_of_heap PA25
                      have PB25 := rkeepk hx25 PB24
                      have qPB25 := lt_of_heap PB25
                      have X25 := keepw hx25 X24
                      have qX25 := World.block_lt_of_cell? _ _ X25
                      have HX25 := Lib.hid (HX24.out.below hx25)
                      have HY25 := Lib.hid (HY24.out.below hx25)
                      have HB25 := Lib.hid (chain2 HB24.out hx25)
                      have HV25 := Lib.hid (chain2 HV24.out hx25)
                      clear hx25 hb25 C24 qC24 PA24 qPA24 PB24 qPB24 X24 qX24 HX24 HY24
                      go_wp2_with fail
                      refine ⟨⟨k + 1, n, done ++ [(x, y)], by omega, by omega, by go_num, by go_num, HDONE.out, HSN.out, HV25.out⟩, by simp [intOf]; omega⟩
                    | true =>
                      go_wp2_with fail
                      refine (same_lit2 hsm A23 A24 _ _ c23 c24 _ rfl rfl (HX24.out.below (bl1c (Below.refl _ _) _)) (HY24.out.below (bl1c (Below.refl _ _) _)) hl1 hl2).mono ?_
                      rintro e w25 ⟨rfl, hb25⟩
                      have hx25 := (step_below hb25)
                      have C25 := keepw hx25 C24
                      have qC25 := World.block_lt_of_cell? _ _ C25
                      have PA25 := rkeepk hx25 PA24
                      have qPA25 := lt_of_heap PA25
                      have PB25 := rkeepk hx25 PB24
                      have qPB25 := lt_of_heap PB25
                      have X25 := keepw hx25 X24
                      have qX25 := World.block_lt_of_cell? _ _ X25
                      have HX25 := Lib.hid (HX24.out.below hx25)
                      have HY25 := Lib.hid (HY24.out.below hx25)
                      have HB25 := Lib.hid (chain2 HB24.out hx25)
                      have HV25 := Lib.hid (chain2 HV24.out hx25)
                      clear hx25 hb25 C24 qC24 PA24 qPA24 PB24 qPB24 X24 qX24 HX24 HY24
                      go_wp2_with fail
                      refine ⟨⟨k + 1, n, done ++ [(x, y)], by omega, by omega, by go_num, by go_num, HDONE.out, HSN.out, HV25.out⟩, by simp [intOf]; omega⟩
              | true =>
                cases e2 : (eb == 0) with
                | false =>
                  cases h3 : (dh == 0) with
                  | false =>
                    go_wp2_with fail
                    refine ⟨⟨k + 1, n, done ++ [(x, y)], by omega, by omega, by go_num, by go_num, HDONE.out, HSN.out, bl1c HV24.out _⟩, by simp [intOf]; omega⟩
                  | true =>
                    cases h4 : (dm == 0) with
                    | false =>
                      go_wp2_with fail
                      refine ⟨⟨k + 1, n, done ++ [(x, y)], by omega, by omega, by go_num, by go_num, HDONE.out, HSN.out, bl1c HV24.out _⟩, by simp [intOf]; omega⟩
                    | true =>
                      cases hsm : decide (d1 = d2) with
                      | false =>
                        go_wp2_with fail
                        refine (same_lit2 hsm A23 A24 _ _ c23 c24 _ rfl rfl (HX24.out.below (bl1c (Below.refl _ _) _)) (HY24.out.below (bl1c (Below.refl _ _) _)) hl1 hl2).mono ?_
                        rintro e w25 ⟨rfl, hb25⟩
                        have hx25 := (step_below hb25)
                        have C25 := keepw hx25 C24
                        have qC25 := World.block_lt_of_cell? _ _ C25
                        have PA25 := rkeepk hx25 PA24
                        have qPA25 := lt_of_heap PA25
                        have PB25 := rkeepk hx25 PB24
                        have qPB25 := lt_of_heap PB25
                        have X25 := keepw hx25 X24
                        have qX25 := World.block_lt_of_cell? _ _ X25
                        have HX25 := Lib.hid (HX24.out.below hx25)
                        have HY25 := Lib.hid (HY24.out.below hx25)
                        have HB25 := Lib.hid (chain2 HB24.out hx25)
                        have HV25 := Lib.hid (chain2 HV24.out hx25)
                        clear hx25 hb25 C24 qC24 PA24 qPA24 PB24 qPB24 X24 qX24 HX24 HY24
                        go_wp2_with fail
                        refine ⟨⟨k + 1, n, done ++ [(x, y)], by omega, by omega, by go_num, by go_num, HDONE.out, HSN.out, HV25.out⟩, by simp [intOf]; omega⟩
                      | true =>
                        go_wp2_with fail
                        refine (same_lit2 hsm A23 A24 _ _ c23 c24 _ rfl rfl (HX24.out.below (bl1c (Below.refl _ _) _)) (HY24.out.below (bl1c (Below.refl _ _) _)) hl1 hl2).mono ?_
                        rintro e w25 ⟨rfl, hb25⟩
                        have hx25 := (step_below hb25)
                        have C25 := keepw hx25 C24
                        have qC25 := World.block_lt_of_cell? _ _ C25
                        have PA25 := rkeepk hx25 PA24
                        have qPA25 := lt_of_heap PA25
                        have PB25 := rkeepk hx25 PB24
                        have qPB25 := lt_of_heap PB25
                        have X25 := keepw hx25 X24
                        have qX25 := World.block_lt_of_cell? _ _ X25
                        have HX25 := Lib.hid (HX24.out.below hx25)
                        have HY25 := Lib.hid (HY24.out.below hx25)
                        have HB25 := Lib.hid (chain2 HB24.out hx25)
                        have HV25 := Lib.hid (chain2 HV24.out hx25)
                        clear hx25 hb25 C24 qC24 PA24 qPA24 PB24 qPB24 X24 qX24 HX24 HY24
                        go_wp2_with fail
                        refine ⟨⟨k + 1, n, done ++ [(x, y)], by omega, by omega, by go_num, by go_num, HDONE.out, HSN.out, HV25.out⟩, by simp [intOf]; omega⟩
                | true =>
                  cases h3 : (dh == 0) with
                  | false =>
                    exfalso; rw [e1, e2, h3] at e3; simp at e3
                  | true =>
                    cases h4 : (dm == 0) with
                    | false =>
                      exfalso; rw [e1, e2, h3, h4] at e3; simp at e3
                    | true =>
                      cases hsm : decide (d1 = d2) with
                      | false =>
                        exfalso; rw [e1, e2, h3, h4, hsm] at e3; simp at e3
                      | true =>
                        go_wp2_with fail
                        refine (same_lit2 hsm A23 A24 _ _ c23 c24 _ rfl rfl (HX24.out.below (bl1c (Below.refl _ _) _)) (HY24.out.below (bl1c (Below.refl _ _) _)) hl1 hl2).mono ?_
                        rintro e w25 ⟨rfl, hb25⟩
                        have hx25 := (step_below hb25)
                        have C25 := keepw hx25 C24
                        have qC25 := World.block_lt_of_cell? _ _ C25
                        have PA25 := rkeepk hx25 PA24
                        have qPA25 := lt_of_heap PA25
                        have PB25 := rkeepk hx25 PB24
                        have qPB25 := lt_of_heap PB25
                        have X25 := keepw hx25 X24
                        have qX25 := World.block_lt_of_cell? _ _ X25
                        have HX25 := Lib.hid (HX24.out.below hx25)
                        have HY25 := Lib.hid (HY24.out.below hx25)
                        have HB25 := Lib.hid (chain2 HB24.out hx25)
                        have HV25 := Lib.hid (chain2 HV24.out hx25)
                        clear hx25 hb25 C24 qC24 PA24 qPA24 PB24 qPB24 X24 qX24 HX24 HY24
                        go_wp2_with fail
                        refine ⟨⟨k + 1, n, done ++ [(x, y)], by omega, by omega, by go_num, by go_num, HDONE.out, HSN.out, HV25.out⟩, by simp [intOf]; omega⟩
         · have hke : k = O.length := by omega
           have hk1 : ¬ (k : Int) < O.length := by omega
           go_wp2_with fail
           refine ⟨⟨i + 1, n, done, by omega, by go_num, rfl, ?_, HNK.out, HBK.out⟩, by simp [intOf]; omega⟩
           have := HDK.out
           rw [hke, List.drop_length] at this
           simpa using this
      · have hie : i = O.length := by omega
        have hi1 : ¬ (i : Int) < O.length := by omega
        have hnc : ((n : Int) == (C.length : Int)) = true := by
         have h1 := HDN.out
         rw [hie, List.drop_length] at h1
         simp [pairsL] at h1
         rw [HC.out, h1, ← HN.out]
         simp
        go_wp2_with fail
        go_ret
        exact ⟨rfl, HB5.out.trans (HBR.out.mono HB5.out.size)⟩
end Go.Proofs.YtecnlfaholmpoaaGreat
