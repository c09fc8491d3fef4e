/- The law ConferenceAgrees. Two runs of a sort by stretches, merged: the stable sort. -/
import Derived.Test.YtecnlfaholmpoaaGreatJC38
import Derived.Test.YtecnlfaholmpoaaGreatJC27
import Derived.Test.YtecnlfaholmpoaaGreatJCS1
set_option linter.unusedVariables false
set_option linter.unusedSimpArgs false
set_option maxRecDepth 20000
set_option maxHeartbeats 20000000
namespace Go.Proofs.YtecnlfaholmpoaaGreat
open Go.RowKit
def AgrLaw (l : List Item) (cs : List Clause) (A B : Option Addr) (c d : Nat) (w : World) : Prop :=
 Calls Tryz.prog 9 #[.agg #[.slice A l.length c], .slice B cs.length d] w fun e w' => e = .returned (.bool true) ∧ Below w.heap.size w w'
theorem agr_f (l : List Item) (A : Option Addr) (c : Nat) (cs : List Clause) (B : Option Addr) (d : Nat) (w : World) (m : Int) (hr : RdI w A l) (hl : l.length ≤ maxLen) (hlc : l.length ≤ c) (hfit : ∀ x ∈ l, x.Fits) (hs : RdC w B cs) (hm : cs.length ≤ maxLen) (hfp : ∀ x ∈ cs, x.patch.Fits) (hg : w.cell? ⟨0, 0, none⟩ = some (.int .i64 m)) (hfew : fewC l cs 12 = false) : AgrLaw l cs A B c d w := by
 unfold AgrLaw
 have hb0 := (Below.refl w.heap.size w).alloc (Nat.le_refl _) (.cells #[.slice A l.length c] 24)
 have hc0 : (w.alloc (.cells #[.slice A l.length c] 24)).cell? ⟨w.heap.size, 0, none⟩ = some (.slice A l.length c) := by simp [go_sem]
 have HB0 := Lib.hid hb0; clear hb0
 have HR := Lib.hid hr; clear hr
 have HS := Lib.hid hs; clear hs
 have HG := Lib.hid hg; clear hg
 have HFEW := Lib.hid hfew; clear hfew
 have HFIT := Lib.hid hfit; clear hfit
 have HFP := Lib.hid hfp; clear hfp
 go_enter Tryz.func9, Tryz.ntmps9
 go_wp2_with fail
 refine (head38_any _ m (step_cell HB0.out HG.out)).mono ?_
 rintro e w1 ⟨rfl, hb1⟩
 have hc1 := keepw hb1 hc0
 have HB1 := Lib.hid (chain2 HB0.out hb1); clear hb1 hc0
 go_wp2_with fail
 refine (few_at HFEW.out A B c d w1 (by decide) (HR.out.below HB1.out) (HS.out.below HB1.out) hl HFIT.out HFP.out).mono ?_
 rintro e w2 ⟨rfl, hb2⟩
 have hc2 := keepw hb2 hc1
 have HB2 := Lib.hid (chain2 HB1.out hb2); clear hb2 hc1
 go_wp2_with fail
 go_ret
 exact ⟨rfl, HB2.out⟩
theorem commAt {x y : Clause} {r : Bool} (h : commF x.patch y.patch = r) (rx : x.patch.Ready) (ry : y.patch.Ready) (w : World) (m : Int) (hg : w.cell? ⟨0, 0, none⟩ = some (.int .i64 m)) :
 Calls Tryz.prog 35 #[x.patch.agg, y.patch.agg] w fun e w' => e = .returned (.bool r) ∧ Below w.heap.size w w' := by
 subst h
 exact comm_any x.patch y.patch rx ry w m hg
theorem res_f_at {cs : List Clause} (n : Nat) (hn : n = cs.length) (l : List Item) (A B : Option Addr) (c d : Nat) (w : World) (hr : RdI w A l) (hl : l.length ≤ 100000) (hsh : ∀ x ∈ l, x.Short) (hs : RdC w B cs) (hm : n ≤ 64) (hv : walkB l = false) :
 Calls Tryz.prog 17 #[.agg #[.slice A l.length c], .slice B n d] w fun e w' => e = .returned (.tuple #[.slice none 0 0, .slice none 0 0, .int .i64 1]) ∧ Below w.heap.size w w' := by
 subst hn
 exact result_f l cs A B c d w hr hl hsh hs hm hv
theorem res_t_at {cs : List Clause} (n : Nat) (hn : n = cs.length) (l : List Item) (A B : Option Addr) (c d : Nat) (w : World) (hr : RdI w A l) (hl : l.length ≤ 100000) (hlc : l.length ≤ c) (hs : RdC w B cs) (hm : n ≤ 64) (hrd : ∀ x ∈ cs, x.patch.Ready) (m : Int) (hg : w.cell? ⟨0, 0, none⟩ = some (.int .i64 m)) (hv : walkB l = true) :
 Calls Tryz.prog 17 #[.agg #[.slice A l.length c], .slice B n d] w fun e w' => ∃ tv lv, e = .returned (.tuple #[tv, lv, .int .i64 0]) ∧ OwnPs w' w.heap.size tv (resS l (openL cs)).2.1 ∧ OwnSs w' w.heap.size lv (resS l (openL cs)).2.2 ∧ Below w.heap.size w w' := by
 subst hn
 exact result_t l cs A B c d w hr hl hlc hs hm hrd m hg hv
theorem commutes_step {O : List Clause} {i : Nat} {x : Clause} (h : Commutes O i) (hx : O[i]? = some x) (h2 : ∀ b y, b < i → O[b]? = some y → commF x.patch y.patch = true) : Commutes O (i + 1) := by
 intro a b p q hba ha hp hq
 by_cases hai : a < i
 · exact h a b p q hba hai hp hq
 · have : a = i := by omega
   subst this
   rw [hx] at hp
   cases hp
   exact h2 b q hba hq
theorem agr_t (l : List Item) (A : Option Addr) (c : Nat) (cs : List Clause) (B : Option Addr) (d : Nat) (w : World) (m : Int) (hr : RdI w A l) (hl : l.length ≤ maxLen) (hlc : l.length ≤ c) (hfit : ∀ x ∈ l, x.Fits) (hs : RdC w B cs) (hm : cs.length ≤ maxLen) (hfp : ∀ x ∈ cs, x.patch.Fits) (hg : w.cell? ⟨0, 0, none⟩ = some (.int .i64 m)) (hfew : fewC l cs 12 = true) : AgrLaw l cs A B c d w := by
 unfold AgrLaw
 obtain ⟨f1, f2, f3, f4, f5⟩ := fewC_facts hfew
 have HSH := Lib.hid f3
 have HRD := Lib.hid f4; clear f3 f4 f1
 have hb0 := (Below.refl w.heap.size w).alloc (Nat.le_refl _) (.cells #[.slice A l.length c] 24)
 have hc0 : (w.alloc (.cells #[.slice A l.length c] 24)).cell? ⟨w.heap.size, 0, none⟩ = some (.slice A l.length c) := by simp [go_sem]
 have HB0 := Lib.hid hb0; clear hb0
 have HR := Lib.hid hr; clear hr
 have HS := Lib.hid hs; clear hs
 have HG := Lib.hid hg; clear hg
 have HFEW := Lib.hid hfew; clear hfew
 have HFIT := Lib.hid hfit; clear hfit
 have HFP := Lib.hid hfp; clear hfp
 go_enter Tryz.func9, Tryz.ntmps9
 go_wp2_with fail
 refine (head38_any _ m (step_cell HB0.out HG.out)).mono ?_
 rintro e w1 ⟨rfl, hb1⟩
 have hc1 := keepw hb1 hc0
 have HB1 := Lib.hid (chain2 HB0.out hb1); clear hb1 hc0
 go_wp2_with fail
 refine (few_at HFEW.out A B c d w1 (by decide) (HR.out.below HB1.out) (HS.out.below HB1.out) hl HFIT.out HFP.out).mono ?_
 rintro e w2 ⟨rfl, hb2⟩
 have hc2 := keepw hb2 hc1
 have HB2 := Lib.hid (chain2 HB1.out hb2); clear hb2 hc1
 go_wp2_with fail
 refine (openr_any cs B d w2 (HS.out.below HB2.out) (by omega)).mono ?_
 rintro e w3 ⟨vo, rfl, ho, hb3⟩
 obtain ⟨O, hO⟩ : ∃ O, O = openL cs := ⟨_, rfl⟩
 rw [← hO] at ho
 have hOl : O.length ≤ 12 := by rw [hO]; exact Nat.le_trans (List.length_filter_le _ _) f5
 have hRDO : ∀ x ∈ O, x.patch.Ready := fun x hx => HRD.out x (by rw [hO] at hx; exact (List.mem_filter.1 hx).1)
 have HRDO := Lib.hid hRDO; clear hRDO
 have HO := Lib.hid hO; clear hO
 have hc3 := keepw hb3 hc2
 have HB3 := Lib.hid (chain2 HB2.out hb3); clear hb3 hc2
 obtain ⟨oA, oc, rfl, _, _, _⟩ := ho.reads
 have HRO := Lib.hid ho; clear ho
 go_wp2_with fail
 go_loopw [7] (fun v7 wr => ∃ i : Nat, i ≤ O.length ∧ v7 = .int .i64 i ∧ Commutes O i ∧ Below w3.heap.size w3 wr) (fun v7 _ => O.length - (intOf v7).toNat)
 case atStart => exact ⟨0, Nat.zero_le _, rfl, fun a b x y _ h => by omega, Below.refl _ _⟩
 case round =>
  obtain ⟨i, hi, rfl, hcm, hbr⟩ := hrel
  have HCM := Lib.hid hcm; clear hcm
  have HBR := Lib.hid hbr; clear hbr
  by_cases hlt : i < O.length
  · have hi1 : (i : Int) < O.length := by omega
    obtain ⟨x, hx⟩ := get_of_lt hlt
    have hrx := HRDO.out x (List.mem_of_getElem? hx)
    have HX := Lib.hid hx; clear hx
    go_wp2_with fail
    go_loopw [8] (fun v8 wr => ∃ k : Nat, k ≤ i ∧ v8 = .int .i64 k ∧ (∀ b y, b < k → O[b]? = some y → commF x.patch y.patch = true) ∧ Below w3.heap.size w3 wr) (fun v8 _ => i - (intOf v8).toNat)
    case atStart => exact ⟨0, Nat.zero_le _, rfl, fun b y h => by omega, HBR.out⟩
    case round =>
     obtain ⟨k, hk, rfl, hck, hbk⟩ := hrel
     have HCK := Lib.hid hck; clear hck
     have HBK := Lib.hid hbk; clear hbk
     by_cases hkl : k < i
     · have hk1 : (k : Int) < i := by omega
       have hk2 : (k : Int) < O.length := by omega
       have hi0 : (0 : Int) ≤ i := by omega
       have hk0 : (0 : Int) ≤ k := by omega
       obtain ⟨y, hy⟩ := get_of_lt (show k < O.length by omega)
       have hry := HRDO.out y (List.mem_of_getElem? hy)
       have HY := Lib.hid hy; clear hy
       have hro2 : RdC wr oA O := (HRO.out.below HBK.out).row2
       obtain ⟨ob, oo, rfl, hob, hq1, hq2, hs0, hs1, hs19⟩ := hro2.at HX.out
       have HRO2 := Lib.hid hro2; clear hro2 hq1 hq2 hs0 hs1 hs19
       go_upto_region 11 with fail
       refine wp_region_held_drew (S := (fun X => RdC X (some ⟨ob, oo, none⟩) O)) (by kernel_rfl) HRO2.out (fun hHeld => ?_)
       refine takeF (i := 0) (v := .slice (some ⟨ob, oo, none⟩) O.length oc) (k := 40) rfl rfl (by kernel_rfl) (by kernel_rfl) (by kernel_rfl) (fun _ _ _ h => h) (Or.inl ⟨by rfl, fun z hz => by go_simp⟩) hHeld ?_
       try simp only [Act.put, sia, sc0, scs]
       refine takeF (i := 1) (v := .int .i64 i) (k := 41) rfl rfl (by kernel_rfl) (by kernel_rfl) (by kernel_rfl) (fun _ _ _ h => h) (Or.inl ⟨by rfl, fun z hz => by go_simp⟩) hHeld ?_
       try simp only [Act.put, sia, sc0, scs]
       refine takeF (i := 2) (v := .pointer (some ⟨ob, oo + i * 20, none⟩)) (k := 42) rfl rfl (by kernel_rfl) (by kernel_rfl) (by kernel_rfl) (fun _ _ _ h => h) (Or.inl ⟨by rfl, fun z hz => by go_simp⟩) hHeld ?_
       try simp only [Act.put, sia, sc0, scs]
       refine takeF (i := 3) (v := .pointer (some ⟨ob, oo + i * 20 + 4, none⟩)) (k := 43) rfl rfl (by kernel_rfl) (by kernel_rfl) (by kernel_rfl) (fun _ _ _ h => h) (Or.inl ⟨by rfl, fun z hz => by go_simp⟩) hHeld ?_
       try simp only [Act.put, sia, sc0, scs]
       refine takeF (i := 4) (v := x.patch.agg) (k := 44) rfl rfl (by kernel_rfl) (by kernel_rfl) (by kernel_rfl) (fun _ _ _ h => h) (Or.inl ⟨by rfl, fun z hz => by (have hq := RdC.load49 hz HX.out; clear hz; go_simp)⟩) hHeld ?_
       try simp only [Act.put, sia, sc0, scs]
       refine takeF (i := 5) (v := .slice (some ⟨ob, oo, none⟩) O.length oc) (k := 45) rfl rfl (by kernel_rfl) (by kernel_rfl) (by kernel_rfl) (fun _ _ _ h => h) (Or.inl ⟨by rfl, fun z hz => by go_simp⟩) hHeld ?_
       try simp only [Act.put, sia, sc0, scs]
       refine takeF (i := 6) (v := .int .i64 k) (k := 46) rfl rfl (by kernel_rfl) (by kernel_rfl) (by kernel_rfl) (fun _ _ _ h => h) (Or.inl ⟨by rfl, fun z hz => by go_simp⟩) hHeld ?_
       try simp only [Act.put, sia, sc0, scs]
       refine takeF (i := 7) (v := .pointer (some ⟨ob, oo + k * 20, none⟩)) (k := 47) rfl rfl (by kernel_rfl) (by kernel_rfl) (by kernel_rfl) (fun _ _ _ h => h) (Or.inl ⟨by rfl, fun z hz => by go_simp⟩) hHeld ?_
       try simp only [Act.put, sia, sc0, scs]
       refine takeF (i := 8) (v := .pointer (some ⟨ob, oo + k * 20 + 4, none⟩)) (k := 48) rfl rfl (by kernel_rfl) (by kernel_rfl) (by kernel_rfl) (fun _ _ _ h => h) (Or.inl ⟨by rfl, fun z hz => by go_simp⟩) hHeld ?_
       try simp only [Act.put, sia, sc0, scs]
       refine takeF (i := 9) (v := y.patch.agg) (k := 49) rfl rfl (by kernel_rfl) (by kernel_rfl) (by kernel_rfl) (fun _ _ _ h => h) (Or.inl ⟨by rfl, fun z hz => by (have hq := RdC.load49 hz HY.out; clear hz; go_simp)⟩) hHeld ?_
       try simp only [Act.put, sia, sc0, scs]
       refine wpAnyH_ready (rs := [10]) (by kernel_rfl) (by simp) (AllReadyH.cons rfl (fun K hK => ?_) (AllReadyH.nil))
       go_simp
       cases hcc : commF x.patch y.patch with
       | true =>
         refine (commAt hcc hrx hry _ m (step_cell (HB3.out.trans (HBK.out.drew.mono HB3.out.size)) HG.out)).mono ?_
         rintro e W2 ⟨rfl, hb2⟩
         have hO2 := (HRO2.out.below (Below.refl _ _).drew).below hb2
         have HB2 := Lib.hid (HBK.out.drew.trans (hb2.mono HBK.out.drew.size)); clear hb2
         go_wp2_with fail
         refine hK.out _ _ hO2 (fun hHeld => ?_)
         clear hK K
         try simp only [Act.put, sia, sc0, scs]
         refine takeF (i := 11) (v := .bool false) (k := 51) rfl rfl (by kernel_rfl) (by kernel_rfl) (by kernel_rfl) (fun _ _ _ h => h) (Or.inl ⟨by rfl, fun z hz => by go_simp⟩) hHeld ?_
         try simp only [Act.put, sia, sc0, scs]
         refine wpAnyH_done (by kernel_rfl) ?_ _
         go_wp2_with fail
         refine ⟨⟨k + 1, by omega, by go_num, ?_, HB2.out⟩, by simp [intOf]; omega⟩
         intro b y' hb hy'
         by_cases hbk2 : b < k
         · exact HCK.out b y' hbk2 hy'
         · have hbe : b = k := by omega
           subst hbe
           have := HY.out
           rw [hy'] at this
           cases this
           exact hcc
       | false =>
         refine (commAt hcc hrx hry _ m (step_cell (HB3.out.trans (HBK.out.drew.mono HB3.out.size)) HG.out)).mono ?_
         rintro e W2 ⟨rfl, hb2⟩
         have hO2 := (HRO2.out.below (Below.refl _ _).drew).below hb2
         have HB2 := Lib.hid (HBK.out.drew.trans (hb2.mono HBK.out.drew.size)); clear hb2
         go_wp2_with fail
         refine hK.out _ _ hO2 (fun hHeld => ?_)
         clear hK K
         try simp only [Act.put, sia, sc0, scs]
         refine takeF (i := 11) (v := .bool true) (k := 51) rfl rfl (by kernel_rfl) (by kernel_rfl) (by kernel_rfl) (fun _ _ _ h => h) (Or.inl ⟨by rfl, fun z hz => by go_simp⟩) hHeld ?_
         try simp only [Act.put, sia, sc0, scs]
         refine wpAnyH_done (by kernel_rfl) ?_ _
         go_wp2_with fail
         go_ret
         exact ⟨rfl, HB3.out.trans (HB2.out.mono HB3.out.size)⟩
     · have hke : k = i := by omega
       have hk1 : ¬ (k : Int) < i := by omega
       go_wp2_with fail
       refine ⟨⟨i + 1, by omega, by go_num, commutes_step HCM.out HX.out (by subst hke; exact HCK.out), HBK.out⟩, by simp [intOf]; omega⟩
  · have hie : i = O.length := by omega
    have hi1 : ¬ (i : Int) < O.length := by omega
    have HBE := Lib.hid (HB3.out.trans (HBR.out.mono HB3.out.size))
    have hcr := keepw HBR.out hc3
    have HCM2 := Lib.hid (show Commutes O O.length by subst hie; exact HCM.out)
    clear HCM HBR
    have HRDR := Lib.hid (show ∀ x ∈ cs.reverse, x.patch.Ready from fun x hx => HRD.out x (List.mem_reverse.1 hx))
    go_wp2_with fail
    cases hv : walkB l with
    | false =>
      refine (result_f l cs A B c d wr (HR.out.below HBE.out) (by omega) HSH.out (HS.out.below HBE.out) (by omega) hv).mono ?_
      rintro e w5 ⟨rfl, hb5⟩
      have hc5 := keepw hb5 hcr
      have HB5 := Lib.hid (chain2 HBE.out hb5); clear hb5 hcr
      go_upto_region 14 with fail
      refine wp_region_held_drew (S := (fun X => X.cell? ⟨w.heap.size, 0, none⟩ = some (.slice A l.length c))) (by kernel_rfl) hc5 (fun hHeld => ?_)
      refine takeF (i := 0) (v := .agg #[.slice A l.length c]) (k := 61) rfl rfl (by kernel_rfl) (by kernel_rfl) (by kernel_rfl) (fun _ _ _ h => h) (Or.inl ⟨by rfl, fun z hz => by go_simp⟩) hHeld ?_
      try simp only [Act.put, sia, sc0, scs]
      refine takeF (i := 1) (v := .slice B cs.length d) (k := 62) rfl rfl (by kernel_rfl) (by kernel_rfl) (by kernel_rfl) (fun _ _ _ h => h) (Or.inl ⟨by rfl, fun z hz => by go_simp⟩) hHeld ?_
      try simp only [Act.put, sia, sc0, scs]
      refine wpAnyH_ready (rs := [2]) (by kernel_rfl) (by simp) (AllReadyH.cons rfl (fun K hK => ?_) (AllReadyH.nil))
      go_simp
      refine (turned_any cs B d _ (HS.out.below HB5.out.drew) (by omega)).mono ?_
      rintro e wt ⟨vt, rfl, ht, hbt⟩
      have hct := keepw hbt (keepw (Below.refl w5.heap.size w5).drew hc5)
      have HT := Lib.hid (chain2 HB5.out.drew hbt)
      have HTT := Lib.hid hbt; clear hbt
      obtain ⟨T, tc, rfl, _, _, hts⟩ := ht.reads
      clear ht
      rw [List.length_reverse]
      go_wp2_with fail
      refine hK.out _ _ hct (fun hHeld => ?_)
      clear hK K
      try simp only [Act.put, sia, sc0, scs]
      refine wpAnyH_ready (rs := [3]) (by kernel_rfl) (by simp) (AllReadyH.cons rfl (fun K hK => ?_) (AllReadyH.nil))
      go_simp
      refine (res_f_at cs.length List.length_reverse.symm l A T c tc _ (HR.out.below HT.out) (by omega) HSH.out hts (by omega) hv).mono ?_
      rintro e w6 ⟨rfl, hb6⟩
      have hc6 := keepw hb6 hct
      have HB6 := Lib.hid (chain2 HT.out hb6); clear hb6 hct
      clear hts
      go_wp2_with fail
      refine hK.out _ _ hc6 (fun hHeld => ?_)
      clear hK K
      try simp only [Act.put, sia, sc0, scs]
      refine takeF (i := 4) (v := .tuple #[.slice none 0 0, .slice none 0 0, .int .i64 1]) (k := 60) rfl rfl (by kernel_rfl) (by kernel_rfl) (by kernel_rfl) (fun _ _ _ h => h) (Or.inl ⟨by rfl, fun z hz => by go_simp⟩) hHeld ?_
      try simp only [Act.put, sia, sc0, scs]
      refine takeF (i := 5) (v := .slice none 0 0) (k := 65) rfl rfl (by kernel_rfl) (by kernel_rfl) (by kernel_rfl) (fun _ _ _ h => h) (Or.inl ⟨by rfl, fun z hz => by go_simp⟩) hHeld ?_
      try simp only [Act.put, sia, sc0, scs]
      refine takeF (i := 6) (v := .slice none 0 0) (k := 66) rfl rfl (by kernel_rfl) (by kernel_rfl) (by kernel_rfl) (fun _ _ _ h => h) (Or.inl ⟨by rfl, fun z hz => by go_simp⟩) hHeld ?_
      try simp only [Act.put, sia, sc0, scs]
      refine takeF (i := 7) (v := .int .i64 1) (k := 67) rfl rfl (by kernel_rfl) (by kernel_rfl) (by kernel_rfl) (fun _ _ _ h => h) (Or.inl ⟨by rfl, fun z hz => by go_simp⟩) hHeld ?_
      try simp only [Act.put, sia, sc0, scs]
      refine takeF (i := 8) (v := .slice none 0 0) (k := 12) rfl rfl (by kernel_rfl) (by kernel_rfl) (by kernel_rfl) (fun _ _ _ h => h) (Or.inl ⟨by rfl, fun z hz => by go_simp⟩) hHeld ?_
      try simp only [Act.put, sia, sc0, scs]
      refine takeF (i := 9) (v := .slice none 0 0) (k := 13) rfl rfl (by kernel_rfl) (by kernel_rfl) (by kernel_rfl) (fun _ _ _ h => h) (Or.inl ⟨by rfl, fun z hz => by go_simp⟩) hHeld ?_
      try simp only [Act.put, sia, sc0, scs]
      refine takeF (i := 10) (v := .int .i64 1) (k := 14) rfl rfl (by kernel_rfl) (by kernel_rfl) (by kernel_rfl) (fun _ _ _ h => h) (Or.inl ⟨by rfl, fun z hz => by go_simp⟩) hHeld ?_
      try simp only [Act.put, sia, sc0, scs]
      refine wpAnyH_done (by kernel_rfl) ?_ _
      go_wp2_with fail
      go_ret
      exact ⟨rfl, HB6.out⟩
    | true =>
      refine (result_t l cs A B c d wr (HR.out.below HBE.out) (by omega) hlc (HS.out.below HBE.out) (by omega) HRD.out m (step_cell HBE.out HG.out) hv).mono ?_
      rintro e w5 ⟨tv, lv, rfl, ht1, hf1, hb5⟩
      rw [← HO.out] at ht1 hf1
      obtain ⟨R, hR⟩ : ∃ R, R = resS l O := ⟨_, rfl⟩
      rw [← hR] at ht1 hf1
      have HRR := Lib.hid hR; clear hR
      have hc5 := keepw hb5 hcr
      have HB5 := Lib.hid (chain2 HBE.out hb5); clear hb5 hcr
      obtain ⟨tA, ta, rfl, _, _, _⟩ := ht1.reads
      obtain ⟨lA, la, rfl, _, _, _⟩ := hf1.reads
      have HRT5 := Lib.hid ht1; clear ht1 hf1
      go_upto_region 14 with fail
      refine wp_region_held_drew (S := (fun X => X.cell? ⟨w.heap.size, 0, none⟩ = some (.slice A l.length c))) (by kernel_rfl) hc5 (fun hHeld => ?_)
      refine takeF (i := 0) (v := .agg #[.slice A l.length c]) (k := 61) rfl rfl (by kernel_rfl) (by kernel_rfl) (by kernel_rfl) (fun _ _ _ h => h) (Or.inl ⟨by rfl, fun z hz => by go_simp⟩) hHeld ?_
      try simp only [Act.put, sia, sc0, scs]
      refine takeF (i := 1) (v := .slice B cs.length d) (k := 62) rfl rfl (by kernel_rfl) (by kernel_rfl) (by kernel_rfl) (fun _ _ _ h => h) (Or.inl ⟨by rfl, fun z hz => by go_simp⟩) hHeld ?_
      try simp only [Act.put, sia, sc0, scs]
      refine wpAnyH_ready (rs := [2]) (by kernel_rfl) (by simp) (AllReadyH.cons rfl (fun K hK => ?_) (AllReadyH.nil))
      go_simp
      refine (turned_any cs B d _ (HS.out.below HB5.out.drew) (by omega)).mono ?_
      rintro e wt ⟨vt, rfl, ht, hbt⟩
      have hct := keepw hbt (keepw (Below.refl w5.heap.size w5).drew hc5)
      have HT := Lib.hid (chain2 HB5.out.drew hbt)
      have HTT := Lib.hid hbt; clear hbt
      obtain ⟨T, tc, rfl, _, _, hts⟩ := ht.reads
      clear ht
      rw [List.length_reverse]
      go_wp2_with fail
      refine hK.out _ _ hct (fun hHeld => ?_)
      clear hK K
      try simp only [Act.put, sia, sc0, scs]
      refine wpAnyH_ready (rs := [3]) (by kernel_rfl) (by simp) (AllReadyH.cons rfl (fun K hK => ?_) (AllReadyH.nil))
      go_simp
      refine (res_t_at cs.length List.length_reverse.symm l A T c tc _ (HR.out.below HT.out) (by omega) hlc hts (by omega) HRDR.out m (step_cell HT.out HG.out) hv).mono ?_
      rintro e w6 ⟨tv2, lv2, rfl, ht2, hf2, hb6⟩
      rw [openL_rev, ← HO.out] at ht2 hf2
      obtain ⟨S, hS⟩ : ∃ S, S = resS l O.reverse := ⟨_, rfl⟩
      rw [← hS] at ht2 hf2
      have HSS := Lib.hid hS; clear hS
      obtain ⟨tB, tn, rfl, _, _, _⟩ := ht2.reads
      obtain ⟨lB, ln, rfl, _, _, _⟩ := hf2.reads
      have HT2 := Lib.hid ht2; clear ht2
      have HF2 := Lib.hid hf2; clear hf2
      have HRT6 := Lib.hid ((HRT5.out.below (Below.refl w5.heap.size w5).drew).below (HTT.out.trans (hb6.mono HTT.out.size)))
      have hc6 := keepw hb6 hct
      have HB6 := Lib.hid (chain2 HT.out hb6); clear hb6 hct
      clear hts
      go_wp2_with fail
      refine hK.out _ _ hc6 (fun hHeld => ?_)
      clear hK K
      try simp only [Act.put, sia, sc0, scs]
      refine takeF (i := 4) (v := .tuple #[.slice tB S.2.1.length tn, .slice lB S.2.2.length ln, .int .i64 0]) (k := 60) rfl rfl (by kernel_rfl) (by kernel_rfl) (by kernel_rfl) (fun _ _ _ h => h) (Or.inl ⟨by rfl, fun z hz => by go_simp⟩) hHeld ?_
      try simp only [Act.put, sia, sc0, scs]
      refine takeF (i := 5) (v := .slice tB S.2.1.length tn) (k := 65) rfl rfl (by kernel_rfl) (by kernel_rfl) (by kernel_rfl) (fun _ _ _ h => h) (Or.inl ⟨by rfl, fun z hz => by go_simp⟩) hHeld ?_
      try simp only [Act.put, sia, sc0, scs]
      refine takeF (i := 6) (v := .slice lB S.2.2.length ln) (k := 66) rfl rfl (by kernel_rfl) (by kernel_rfl) (by kernel_rfl) (fun _ _ _ h => h) (Or.inl ⟨by rfl, fun z hz => by go_simp⟩) hHeld ?_
      try simp only [Act.put, sia, sc0, scs]
      refine takeF (i := 7) (v := .int .i64 0) (k := 67) rfl rfl (by kernel_rfl) (by kernel_rfl) (by kernel_rfl) (fun _ _ _ h => h) (Or.inl ⟨by rfl, fun z hz => by go_simp⟩) hHeld ?_
      try simp only [Act.put, sia, sc0, scs]
      refine takeF (i := 8) (v := .slice tB S.2.1.length tn) (k := 12) rfl rfl (by kernel_rfl) (by kernel_rfl) (by kernel_rfl) (fun _ _ _ h => h) (Or.inl ⟨by rfl, fun z hz => by go_simp⟩) hHeld ?_
      try simp only [Act.put, sia, sc0, scs]
      refine takeF (i := 9) (v := .slice lB S.2.2.length ln) (k := 13) rfl rfl (by kernel_rfl) (by kernel_rfl) (by kernel_rfl) (fun _ _ _ h => h) (Or.inl ⟨by rfl, fun z hz => by go_simp⟩) hHeld ?_
      try simp only [Act.put, sia, sc0, scs]
      refine takeF (i := 10) (v := .int .i64 0) (k := 14) rfl rfl (by kernel_rfl) (by kernel_rfl) (by kernel_rfl) (fun _ _ _ h => h) (Or.inl ⟨by rfl, fun z hz => by go_simp⟩) hHeld ?_
      try simp only [Act.put, sia, sc0, scs]
      refine wpAnyH_done (by kernel_rfl) ?_ _
      cases hlf : R.2.2 with
      | cons z zs =>
        have hpos : (0 : Int) < ((z :: zs).length : Int) := by simp
        generalize (z :: zs).length = nz at hpos
        go_wp2_with fail
        go_ret
        exact ⟨rfl, HB6.out⟩
      | nil =>
        obtain ⟨D, gD, gl, e1, e2, ga, gb⟩ := agr_law hv HCM2.out (by rw [← HRR.out]; exact hlf)
        have hD := len_of_good gD
        rw [← HRR.out] at e1 ga
        rw [← HSS.out] at gl e2 gb
        have hp1 : ∀ p ∈ R.2.1, p.Ready := by rw [e1]; intro p hp; obtain ⟨x, hx, rfl⟩ := List.mem_map.1 hp; exact HRDO.out x hx
        have hp2 : ∀ p ∈ S.2.1, p.Ready := by rw [e2]; intro p hp; obtain ⟨x, hx, rfl⟩ := List.mem_map.1 hp; exact HRDO.out x (List.mem_reverse.1 hx)
        have hn1 : R.2.1.length ≤ 1000000 := by rw [e1]; simp; omega
        have hn2 : S.2.1.length ≤ 1000000 := by rw [e2]; simp; omega
        have HP1 := Lib.hid hp1; clear hp1
        have HP2 := Lib.hid hp2; clear hp2
        have HGA := Lib.hid ga; clear ga
        have HGB := Lib.hid gb; clear gb
        clear e1 e2 gD
        simp only [gl, List.length_nil]
        go_wp2_with fail
        refine (all_lit HGA.out A tA R.2.1.length c ta w6 rfl (HR.out.below HB6.out) HRT6.out.rd (by omega) hlc HSH.out hn1 HP1.out m (step_cell HB6.out HG.out)).mono ?_
        rintro e w7 ⟨A7, c7, rfl, hx7, hxc7, hb7⟩
        have hc7 := keepw hb7 hc6
        have HT7 := Lib.hid (HT2.out.below hb7)
        have HB7 := Lib.hid (chain2 HB6.out hb7); clear hb7 hc6
        have HX7 := Lib.hid hx7; clear hx7
        have hb8 : Below w7.heap.size w7 (w7.alloc (.cells #[.slice A7 D.length c7] 24)) := (Below.refl _ _).alloc (Nat.le_refl _) _
        have k8 : (w7.alloc (.cells #[.slice A7 D.length c7] 24)).heap[w7.heap.size]? = some (.cells #[.slice A7 D.length c7] 24 (0, 0)) := heap_alloc_new _ _
        have hc8 := keepw hb8 hc7
        go_wp2_with fail
        have c8 : (w7.alloc (.cells #[.slice A7 D.length c7] 24)).cell? ⟨w7.heap.size, 0, none⟩ = some (.slice A7 D.length c7) := (cell_of_row _ _ _ _ _ _ k8).trans rfl
        have HB8 := Lib.hid (chain2 HB7.out hb8)
        refine (all_lit HGB.out A tB S.2.1.length c tn _ rfl (HR.out.below HB8.out) (HT7.out.below hb8).rd (by omega) hlc HSH.out hn2 HP2.out m (step_cell HB8.out HG.out)).mono ?_
        rintro e w9 ⟨A9, c9, rfl, hx9, hxc9, hb9⟩
        have k9 := keepw hb9 c8
        have HX9 := Lib.hid ((HX7.out.below hb8).below hb9)
        have HB9 := Lib.hid (chain2 HB8.out hb9); clear hb9 k8 c8 hb8 hc8
        have hb10 : Below w9.heap.size w9 (w9.alloc (.cells #[.slice A9 D.length c9] 24)) := (Below.refl _ _).alloc (Nat.le_refl _) _
        have c10 : (w9.alloc (.cells #[.slice A9 D.length c9] 24)).cell? ⟨w9.heap.size, 0, none⟩ = some (.slice A9 D.length c9) := (cell_of_row _ _ _ _ _ _ (heap_alloc_new _ _)).trans rfl
        have k10 := keepw hb10 k9
        have HX10 := Lib.hid (HX9.out.below hb10)
        have HY10 := Lib.hid (hx9.below hb10)
        have HB10 := Lib.hid (chain2 HB9.out hb10)
        clear hb10 k9 hx9
        go_wp2_with fail
        refine (same_any D D A7 A9 c7 c9 _ HX10.out HY10.out (by omega) (by omega)).mono ?_
        rintro e w11 ⟨rfl, hb11⟩
        have HB11 := Lib.hid (chain2 HB10.out hb11); clear hb11
        rw [decide_eq_true rfl]
        go_wp2_with fail
        go_ret
        exact ⟨rfl, HB11.out⟩
theorem agrees_law (l : List Item) (A : Option Addr) (c : Nat) (cs : List Clause) (B : Option Addr) (d : Nat) (w : World) (m : Int) (hr : RdI w A l) (hl : l.length ≤ maxLen) (hlc : l.length ≤ c) (hfit : ∀ x ∈ l, x.Fits) (hs : RdC w B cs) (hm : cs.length ≤ maxLen) (hfp : ∀ x ∈ cs, x.patch.Fits) (hg : w.cell? ⟨0, 0, none⟩ = some (.int .i64 m)) :
 Calls Tryz.prog 9 #[.agg #[.slice A l.length c], .slice B cs.length d] w fun e w' => e = .returned (.bool true) ∧ Below w.heap.size w w' := by
 cases hfew : fewC l cs 12 with
 | false => exact agr_f l A c cs B d w m hr hl hlc hfit hs hm hfp hg hfew
 | true => exact agr_t l A c cs B d w m hr hl hlc hfit hs hm hfp hg hfew
end Go.Proofs.YtecnlfaholmpoaaGreat
namespace Go.Proofs.YtecnlfaholmpoaaGreat
open Go.RowKit
abbrev Bef (x y : TC) : Prop := ltI sooner y x = false
theorem bef_trans : ∀ x y z, Bef x y → Bef y z → Bef x z := fun x y z h1 h2 => soonI_swo.ntrans _ _ _ h2 h1
theorem bef_c1 {x y : TC} (h : soonerT y x < 0) : Bef y x := by
 have h1 : sooner y.1 x.1 = true := by rw [sooner_iff]; simpa using h
 have h2 : sooner x.1 y.1 = false := by
  unfold sooner at h1 ⊢
  simp only [Bool.or_eq_true, Bool.and_eq_true, decide_eq_true_eq, Bool.or_eq_false_iff, Bool.and_eq_false_iff, decide_eq_false_iff_not] at *
  omega
 show ltI sooner x y = false
 unfold ltI
 rw [h1, h2]
 rfl
theorem bef_c2 {x y : TC} (ht : x.2 < y.2) (h : ¬ soonerT y x < 0) : Bef x y := by
 have h1 : sooner y.1 x.1 = false := by rw [sooner_iff]; simpa using h
 show ltI sooner y x = false
 unfold ltI
 have hd : decide (y.2 < x.2) = false := by simp; omega
 rw [h1, hd, Bool.and_false, Bool.or_false]
theorem extract_take {α : Type} (d : Array α) (k : Nat) : (d.extract 0 k).toList = d.toList.take k := by simp
theorem extract_drop {α : Type} (d : Array α) (k n : Nat) (hn : n = d.size) : (d.extract k n).toList = d.toList.drop k := by
 subst hn
 simp only [Array.toList_extract, List.extract_eq_take_drop]
 exact List.take_of_length_le (by simp)
theorem two_runs (l : List Clause) (k : Nat) (hk : k ≤ l.length) (d1 d2 : Array TC) (h1 : d1 = Go.Sort.insertionSort (ltOf soonerT) l.zipIdx.toArray 0 k) (h2 : d2 = Go.Sort.insertionSort (ltOf soonerT) d1 k l.length) :
 d1.size = l.length ∧ ∃ X Y : List TC, d2 = (X ++ Y).toArray ∧ X.length = k ∧ X.length + Y.length = l.length ∧ X.Pairwise Bef ∧ Y.Pairwise Bef ∧ (∀ x ∈ X, ∀ y ∈ Y, x.2 < y.2) ∧ (X ++ Y).Perm l.zipIdx := by
 have hR : ∀ x y : TC, x.2 < y.2 → ltOf soonerT y x = ltI sooner y x := fun x y h => by
  have hd : decide (y.2 < x.2) = false := by simp; omega
  unfold ltI
  rw [hd, Bool.and_false, Bool.or_false, sooner_iff]
  rfl
 have hsz : l.zipIdx.toArray.size = l.length := by simp
 obtain ⟨p1, s1⟩ := insertionSort_stable (lt := ltOf soonerT) soonI_swo hR l.zipIdx.toArray 0 k (Nat.zero_le _) (by omega) (fun p q _ hpq hq => zip_order l p q hpq (by omega))
 rw [← h1] at p1 s1
 obtain ⟨p2, s2⟩ := insertionSort_stable (lt := ltOf soonerT) soonI_swo hR d1 k l.length hk (by rw [p1.1]; omega) (fun p q hp hpq hq => by
  rw [p1.2.1 p (by omega), p1.2.1 q (by omega)]
  exact zip_order l p q hpq (by omega))
 rw [← h2] at p2 s2
 have z1 : d1.size = l.length := by rw [p1.1]; exact hsz
 have z2 : d2.size = l.length := by rw [p2.1]; exact z1
 have get2 : ∀ (i : Nat) (hi : i < d2.toList.length), d2.toList[i] = d2[i]! := fun i hi => by rw [getElem!_pos d2 i (by simpa using hi)]; simp
 have get1 : ∀ (i : Nat) (hi : i < d1.toList.length), d1.toList[i] = d1[i]! := fun i hi => by rw [getElem!_pos d1 i (by simpa using hi)]; simp
 have hX : d2.toList.take k = d1.toList.take k := by
  apply List.ext_getElem
  · simp; omega
  · intro i hi1 hi2
    rw [List.length_take] at hi1 hi2
    rw [List.getElem_take, List.getElem_take, get2, get1, p2.2.1 i (by omega)]
 have pX : (d2.toList.take k).Perm (l.zipIdx.take k) := by
  rw [hX]
  have := p1.2.2
  rw [extract_take, extract_take] at this
  simpa using this
 have pY : (d2.toList.drop k).Perm (l.zipIdx.drop k) := by
  have h3 := p2.2.2
  rw [extract_drop _ _ _ z2.symm, extract_drop _ _ _ z1.symm] at h3
  refine h3.trans ?_
  have h4 : d1.toList.drop k = l.zipIdx.drop k := by
   apply List.ext_getElem
   · simp; omega
   · intro i hi1 hi2
     rw [List.length_drop] at hi1 hi2
     rw [List.getElem_drop, List.getElem_drop, get1, p1.2.1 (k + i) (by omega), getElem!_pos _ _ (by simp; simp at hi2; omega)]
     simp
  rw [h4]
 have e : d2.toList = d2.toList.take k ++ d2.toList.drop k := (List.take_append_drop _ _).symm
 refine ⟨z1, d2.toList.take k, d2.toList.drop k, by rw [← e], by simp; omega, by simp; omega, ?_, ?_, ?_, ?_⟩
 · rw [List.pairwise_iff_getElem]
   intro i j hi hj hij
   rw [List.length_take] at hi hj
   rw [List.getElem_take, List.getElem_take, get2, get2]
   have := s1 i j (Nat.zero_le _) hij (by omega)
   rw [p2.2.1 i (by omega), p2.2.1 j (by omega)]
   exact this
 · rw [List.pairwise_iff_getElem]
   intro i j hi hj hij
   rw [List.length_drop] at hi hj
   rw [List.getElem_drop, List.getElem_drop, get2, get2]
   exact s2 (k + i) (k + j) (by omega) (by omega) (by simp at hj; omega)
 · intro x hx y hy
   have hx' := pX.mem_iff.1 hx
   have hy' := pY.mem_iff.1 hy
   obtain ⟨i, hi, rfl⟩ := List.getElem_of_mem hx'
   obtain ⟨j, hj, rfl⟩ := List.getElem_of_mem hy'
   rw [List.length_take] at hi
   rw [List.getElem_take, List.getElem_drop]
   simp
   omega
 · rw [← e]
   refine (List.Perm.of_eq e).trans ?_
   refine (pX.append pY).trans (List.Perm.of_eq (List.take_append_drop _ _))
theorem runs_stable (l : List Clause) (Z : List TC) (hp : Z.Perm l.zipIdx) (hw : Z.Pairwise Bef) : Z.map Prod.fst = sortB sooner l := by
 rw [← sortB_eq l]
 congr 1
 refine asc_unique (lt := ltI sooner) _ _ (hp.trans (sortB_perm (ltI sooner) l.zipIdx).symm) hw (sortB_asc ?_ ?_ _) ?_
 · intro a b h
   exact soonI_swo.asymmA h
 · intro a b c h1 h2
   exact soonI_swo.ntrans _ _ _ h2 h1
 · intro a ha b hb l1 l2
   have ha' := hp.mem_iff.1 ha
   have hb' := hp.mem_iff.1 hb
   refine zip_uniq ha' hb' ?_
   unfold ltI sooner at l1 l2
   simp only [Bool.or_eq_false_iff, Bool.and_eq_false_iff, decide_eq_false_iff_not, Bool.not_eq_false', Bool.or_eq_true, Bool.and_eq_true, decide_eq_true_eq] at l1 l2
   omega
end Go.Proofs.YtecnlfaholmpoaaGreat
