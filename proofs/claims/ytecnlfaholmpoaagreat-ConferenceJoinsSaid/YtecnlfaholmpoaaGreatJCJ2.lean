/- The law ConferenceJoins. -/
import Derived.Test.YtecnlfaholmpoaaGreatJC40
import Derived.Test.YtecnlfaholmpoaaGreatJCJ1
import Derived.Test.YtecnlfaholmpoaaGreatJC28
set_option linter.unusedVariables false
set_option linter.unusedSimpArgs false
set_option maxRecDepth 20000
set_option maxHeartbeats 20000000
namespace Go.Proofs.YtecnlfaholmpoaaGreat
open Go.RowKit
theorem joi_f (a : List Clause) (A : Option Addr) (c : Nat) (b : List Clause) (B : Option Addr) (d : Nat) (w : World) (m : Int) (ha : RdC w A a) (hla : a.length ≤ maxLen) (hfa : ∀ x ∈ a, x.patch.Fits) (hb : RdC w B b) (hlb : b.length ≤ maxLen) (hfb : ∀ x ∈ b, x.patch.Fits) (hg : w.cell? ⟨0, 0, none⟩ = some (.int .i64 m)) (hfew : (fewC [] a 20 && fewC [] b 20) = false) : Calls Tryz.prog 5 #[.slice A a.length c, .slice B b.length d] w fun e w' => e = .returned (.bool true) ∧ Below w.heap.size w w' := by
 have HA := Lib.hid ha; clear ha
 have HB := Lib.hid hb; clear hb
 have HFA := Lib.hid hfa; clear hfa
 have HFB := Lib.hid hfb; clear hfb
 have HG := Lib.hid hg; clear hg
 have HFEW := Lib.hid hfew; clear hfew
 go_enter Tryz.func5, Tryz.ntmps5
 go_wp2_with fail
 refine (head38_any _ m HG.out).mono ?_
 rintro e w1 ⟨rfl, hb1⟩
 have HB1 := Lib.hid hb1; clear hb1
 go_wp2_with fail
 refine (fewp_at HFEW.out none A B 0 c d 0 w1 rfl (rdi_nil _) (HA.out.below HB1.out) (HB.out.below HB1.out) (by decide) (by simp) HFA.out HFB.out).mono ?_
 rintro e w2 ⟨rfl, hb2⟩
 have HB2 := Lib.hid (chain2 HB1.out hb2); clear hb2
 go_wp2_with fail
 go_ret
 exact ⟨rfl, HB2.out⟩
theorem joi_e (a : List Clause) (A : Option Addr) (c : Nat) (b : List Clause) (B : Option Addr) (d : Nat) (w : World) (m : Int) (ha : RdC w A a) (hla : a.length ≤ maxLen) (hfa : ∀ x ∈ a, x.patch.Fits) (hb : RdC w B b) (hlb : b.length ≤ maxLen) (hfb : ∀ x ∈ b, x.patch.Fits) (hg : w.cell? ⟨0, 0, none⟩ = some (.int .i64 m)) (hfew : (fewC [] a 20 && fewC [] b 20) = true) (e : Int) (hJ : joinF a b = ([], e)) (he : (e != 0) = true) : Calls Tryz.prog 5 #[.slice A a.length c, .slice B b.length d] w fun e w' => e = .returned (.bool true) ∧ Below w.heap.size w w' := by
 have hf := hfew
 rw [Bool.and_eq_true] at hf
 have la := (fewC_facts hf.1).2.2.2.2
 have lb := (fewC_facts hf.2).2.2.2.2
 have HJ := Lib.hid hJ; clear hf hJ
 have HA := Lib.hid ha; clear ha
 have HB := Lib.hid hb; clear hb
 have HFA := Lib.hid hfa; clear hfa
 have HFB := Lib.hid hfb; clear hfb
 have HG := Lib.hid hg; clear hg
 have HFEW := Lib.hid hfew; clear hfew
 go_enter Tryz.func5, Tryz.ntmps5
 go_wp2_with fail
 refine (head38_any _ m HG.out).mono ?_
 rintro e w1 ⟨rfl, hb1⟩
 have HB1 := Lib.hid hb1; clear hb1
 go_wp2_with fail
 refine (fewp_at HFEW.out none A B 0 c d 0 w1 rfl (rdi_nil _) (HA.out.below HB1.out) (HB.out.below HB1.out) (by decide) (by simp) HFA.out HFB.out).mono ?_
 rintro e w2 ⟨rfl, hb2⟩
 have HB2 := Lib.hid (chain2 HB1.out hb2); clear hb2
 go_wp2_with fail
 refine (join_at HJ.out a.length b.length rfl rfl A B c d w2 (by omega) (HA.out.below HB2.out) (HB.out.below HB2.out)).mono ?_
 rintro e' w3 ⟨v3, rfl, ho3, hb3⟩
 have HB3 := Lib.hid (chain2 HB2.out hb3); clear hb3
 obtain ⟨A3, c3, rfl, _, _, hr3⟩ := ho3.reads
 clear hr3 ho3
 go_wp2_with fail
 go_ret
 exact ⟨rfl, HB3.out⟩
theorem joi_t (a : List Clause) (A : Option Addr) (c : Nat) (b : List Clause) (B : Option Addr) (d : Nat) (w : World) (m : Int) (ha : RdC w A a) (hla : a.length ≤ maxLen) (hfa : ∀ x ∈ a, x.patch.Fits) (hb : RdC w B b) (hlb : b.length ≤ maxLen) (hfb : ∀ x ∈ b, x.patch.Fits) (hg : w.cell? ⟨0, 0, none⟩ = some (.int .i64 m)) (hfew : (fewC [] a 20 && fewC [] b 20) = true) (L : List Clause) (hJ : joinF a b = (L, 0)) : Calls Tryz.prog 5 #[.slice A a.length c, .slice B b.length d] w fun e w' => e = .returned (.bool true) ∧ Below w.heap.size w w' := by
 have hf := hfew
 rw [Bool.and_eq_true] at hf
 have la := (fewC_facts hf.1).2.2.2.2
 have lb := (fewC_facts hf.2).2.2.2.2
 have hll : L.length ≤ 24 := by have := join_len a b; rw [hJ] at this; simp only at this; omega
 have HSE := Lib.hid (joins_seats (a := a) (b := b) (by rw [hJ]))
 have hjo := joined_ok hJ
 obtain ⟨M, hM⟩ : ∃ M, M = a ++ b.map Clause.moved := ⟨_, rfl⟩
 rw [← hM] at hjo
 have hml : M.length ≤ 24 := by rw [hM]; simp; omega
 have HJO := Lib.hid hjo; clear hjo
 have HMM := Lib.hid hM; clear hM
 have HJ := Lib.hid hJ; clear hf hJ
 have HA := Lib.hid ha; clear ha
 have HB := Lib.hid hb; clear hb
 have HFA := Lib.hid hfa; clear hfa
 have HFB := Lib.hid hfb; clear hfb
 have HG := Lib.hid hg; clear hg
 have HFEW := Lib.hid hfew; clear hfew
 go_enter Tryz.func5, Tryz.ntmps5
 go_wp2_with fail
 refine (head38_any _ m HG.out).mono ?_
 rintro e w1 ⟨rfl, hb1⟩
 have HB1 := Lib.hid hb1; clear hb1
 go_wp2_with fail
 refine (fewp_at HFEW.out none A B 0 c d 0 w1 rfl (rdi_nil _) (HA.out.below HB1.out) (HB.out.below HB1.out) (by decide) (by simp) HFA.out HFB.out).mono ?_
 rintro e w2 ⟨rfl, hb2⟩
 have HB2 := Lib.hid (chain2 HB1.out hb2); clear hb2
 go_wp2_with fail
 refine (join_at HJ.out a.length b.length rfl rfl A B c d w2 (by omega) (HA.out.below HB2.out) (HB.out.below HB2.out)).mono ?_
 rintro e w3 ⟨v3, rfl, ho3, hb3⟩
 have HB3 := Lib.hid (chain2 HB2.out hb3); clear hb3
 obtain ⟨AL, cL, rfl, _, _, hr3⟩ := ho3.reads
 have HL3 := Lib.hid hr3; clear hr3 ho3
 have hba : Below w3.heap.size w3 (w3.alloc (.cells #[] 51)) := (Below.refl _ _).alloc (Nat.le_refl _) _
 have HE0 := Lib.hid (OwnCs.empty (base := w3.heap.size) (heap_alloc_new w3 (.cells #[] 51)) (Nat.le_refl _))
 have HAA := Lib.hid ((HA.out.below HB3.out).below hba)
 have HBA := Lib.hid hba; clear hba
 go_wp2_with (at_builtin; refine wpList_append_clas rfl (.tmp 40) (.tmp 41) rfl rfl w3.heap.size _ [] a A a.length c rfl rfl rfl HE0.out HAA.out (by simp; omega) HBA.out.size ?_; intro v4 w4 ho4 hg4)
 have hb4 := HBA.out.grown hg4 HBA.out.size HE0.out.ge
 have HO4 := Lib.hid ho4; clear ho4
 have HB4 := Lib.hid hb4; clear hb4 hg4 HAA HE0 HBA
 go_wp2_with fail
 go_loopw [8, 9] (fun v8 v9 wr => ∃ k : Nat, k ≤ b.length ∧ v9 = .int .i64 k ∧ OwnCs wr w3.heap.size v8 (a ++ (b.take k).map Clause.moved) ∧ Below w3.heap.size w3 wr) (fun _ v9 _ => b.length - (intOf v9).toNat)
 case atStart => exact ⟨0, Nat.zero_le _, rfl, by simpa using HO4.out, HB4.out⟩
 case round =>
  obtain ⟨k, hk, rfl, ho, hb⟩ := hrel
  have HO := Lib.hid ho; clear ho
  have HBW0 := Lib.hid hb; clear hb
  by_cases hlt : k < b.length
  · have hi1 : (k : Int) < b.length := by omega
    have hi0 : (0 : Int) ≤ k := by omega
    obtain ⟨x, hx⟩ := get_of_lt hlt
    have HOK := Lib.hid (seats_at HSE.out (List.mem_of_getElem? hx))
    obtain ⟨bb, bo, rfl, hbl, hq1, _, _, _, _⟩ := ((HB.out.below HB3.out).below HBW0.out).at hx
    have HMT := Lib.hid (moved_take hx a)
    clear hx
    have hln : (a ++ (b.take k).map Clause.moved).length ≤ 24 := by simp; omega
    go_wp2_with fail
    refine (rmoved_any x HOK.out _).mono ?_
    rintro e w6 ⟨rfl, hb6⟩
    have HO6 := Lib.hid (HO.out.below hb6)
    have HB6 := Lib.hid (chain2 HBW0.out hb6); clear hb6 hq1
    obtain ⟨mi, ms, mp, mg, hmv⟩ : ∃ mi ms mp mg, x.moved = ⟨mi, ms, mp, mg⟩ := ⟨_, _, _, _, rfl⟩
    rw [hmv]
    have HMV := Lib.hid hmv; clear hmv
    have hb7 : Below w6.heap.size w6 (w6.alloc (.cells (claCs (⟨mi, ms, mp, mg⟩ : Clause)) 51)) := (Below.refl _ _).alloc (Nat.le_refl _) _
    have HB7 := Lib.hid hb7; clear hb7
    go_wp2_with (at_builtin; refine wpList_append_cla1 rfl (.tmp 49) (.tmp 55) rfl rfl w3.heap.size u8 (a ++ (b.take k).map Clause.moved) ⟨mi, ms, mp, mg⟩ w6.heap.size 1 rfl rfl (HO6.out.below HB7.out) (heap_alloc_new _ _) (by omega) (Nat.le_trans HB6.out.size HB7.out.size) ?_; intro v' w8 ho8 hg8 hat8; have hb8 := (HB6.out.trans (HB7.out.mono HB6.out.size)).grown hg8 (Nat.le_trans HB6.out.size HB7.out.size) HO6.out.ge; have HO8 := Lib.hid ho8; clear ho8; have HB8 := Lib.hid hb8; clear hb8 hg8 hat8)
    refine ⟨⟨k + 1, hlt, by go_num, by rw [HMT.out, HMV.out]; exact HO8.out, HB8.out⟩, by simp [intOf]; omega⟩
  · have hke : k = b.length := by omega
    have hi1 : ¬ (k : Int) < b.length := by omega
    have ho5 := HO.out
    rw [hke, List.take_length, ← HMM.out] at ho5
    obtain ⟨AM, cM, rfl, _, _, hr5⟩ := ho5.reads
    have HM5 := Lib.hid hr5; clear hr5 ho5 HO
    obtain ⟨w5, hw5⟩ : ∃ x, x = wr := ⟨_, rfl⟩
    subst hw5
    have HL5 := Lib.hid (HL3.out.below HBW0.out)
    have HBW := Lib.hid (chain2 HB3.out HBW0.out)
    clear HL3 HSE HJ HBW0 HB4 HO4
    go_wp2_with fail
    go_loopw [10] (fun v wr => ∃ i : Nat, i ≤ M.length ∧ v = .int .i64 i ∧ Below w5.heap.size w5 wr) (fun v _ => M.length - (intOf v).toNat)
    case atStart => exact ⟨0, Nat.zero_le _, rfl, Below.refl _ _⟩
    case round =>
     obtain ⟨i, hi, rfl, hb⟩ := hrel
     have HW := Lib.hid hb; clear hb
     by_cases hlt : i < M.length
     · have hi1 : (i : Int) < M.length := by omega
       have hi0 : (0 : Int) ≤ i := by omega
       obtain ⟨x, hx⟩ := get_of_lt hlt
       have hxm := List.mem_of_getElem? hx
       have HXM := Lib.hid hxm; clear hxm
       obtain ⟨bM, oM, rfl, hbM5⟩ := HM5.out.some_at hx
       have HX := Lib.hid hx; clear hx
       go_wp2_with fail
       go_loopw [11, 12] (fun vn vk wr => ∃ k n : Nat, k ≤ L.length ∧ vk = .int .i64 k ∧ vn = .int .i64 n ∧ Hid (n = (L.take k).countP fun y => decide (y.id = x.id)) ∧ Below w5.heap.size w5 wr) (fun _ vk _ => L.length - (intOf vk).toNat)
       case atStart => exact ⟨0, 0, Nat.zero_le _, rfl, rfl, Lib.hid rfl, HW.out⟩
       case round =>
        obtain ⟨k, n, hk, rfl, rfl, HN, hb⟩ := hrel
        have HV := Lib.hid hb; clear hb
        by_cases hkl : k < L.length
        · have hk1 : (k : Int) < L.length := by omega
          have hk0 : (0 : Int) ≤ k := by omega
          obtain ⟨y, hy⟩ := get_of_lt hkl
          have hym := List.mem_of_getElem? hy
          have HYM := Lib.hid hym; clear hym
          obtain ⟨bL, oL, rfl, hbL5⟩ := HL5.out.some_at hy
          have hct := count_take (fun y => decide (y.id = x.id)) hy
          rw [← HN.out] at hct
          have HCT := Lib.hid hct; clear hct
          have hnk : n ≤ k := by rw [HN.out]; exact Nat.le_trans List.countP_le_length (by simp; omega)
          have hnw : IntKind.i64.wrap ((n : Int) + 1) = (n : Int) + 1 := by rw [IntKind.wrap_i64]; omega
          have HY := Lib.hid hy; clear hy
          have HRL := Lib.hid (HL5.out.below HV.out)
          have HRM := Lib.hid (HM5.out.below HV.out)
          go_upto_region 19 with fail
          refine wp_region_held_drew (S := (fun X => RdC X (some ⟨bL, oL, none⟩) L ∧ RdC X (some ⟨bM, oM, none⟩) M)) (by kernel_rfl) ⟨HRL.out, HRM.out⟩ (fun hHeld => ?_)
          refine takeF (i := 0) (v := .slice (some ⟨bL, oL, none⟩) L.length cL) (k := 69) rfl rfl (by kernel_rfl) (by kernel_rfl) (by kernel_rfl) (fun _ _ _ h => h) (Or.inl ⟨by rfl, fun z hz => by (clear hz; go_simp)⟩) hHeld ?_
          try simp only [Act.put, sia, sc0, scs]
          refine takeF (i := 1) (v := .int .i64 k) (k := 70) rfl rfl (by kernel_rfl) (by kernel_rfl) (by kernel_rfl) (fun _ _ _ h => h) (Or.inl ⟨by rfl, fun z hz => by (clear hz; go_simp)⟩) hHeld ?_
          try simp only [Act.put, sia, sc0, scs]
          refine takeF (i := 2) (v := .pointer (some ⟨bL, oL + k * 20, none⟩)) (k := 71) rfl rfl (by kernel_rfl) (by kernel_rfl) (by kernel_rfl) (fun _ _ _ h => h) (Or.inl ⟨by rfl, fun z hz => by (clear hz; go_simp)⟩) hHeld ?_
          try simp only [Act.put, sia, sc0, scs]
          refine takeF (i := 3) (v := .pointer (some ⟨bL, oL + k * 20, none⟩)) (k := 72) rfl rfl (by kernel_rfl) (by kernel_rfl) (by kernel_rfl) (fun _ _ _ h => h) (Or.inl ⟨by rfl, fun z hz => by (clear hz; go_simp)⟩) hHeld ?_
          try simp only [Act.put, sia, sc0, scs]
          refine takeF (i := 4) (v := y.id.agg) (k := 73) rfl rfl (by kernel_rfl) (by kernel_rfl) (by kernel_rfl) (fun _ _ _ h => h) (Or.inl ⟨by rfl, fun z hz => by (obtain ⟨z0, z1⟩ := hz; obtain ⟨y0, y1⟩ := z0.idAt HY.out; clear z0 z1; go_simp)⟩) hHeld ?_
          try simp only [Act.put, sia, sc0, scs]
          refine takeF (i := 5) (v := .slice (some ⟨bM, oM, none⟩) M.length cM) (k := 74) rfl rfl (by kernel_rfl) (by kernel_rfl) (by kernel_rfl) (fun _ _ _ h => h) (Or.inl ⟨by rfl, fun z hz => by (clear hz; go_simp)⟩) hHeld ?_
          try simp only [Act.put, sia, sc0, scs]
          refine takeF (i := 6) (v := .int .i64 i) (k := 75) rfl rfl (by kernel_rfl) (by kernel_rfl) (by kernel_rfl) (fun _ _ _ h => h) (Or.inl ⟨by rfl, fun z hz => by (clear hz; go_simp)⟩) hHeld ?_
          try simp only [Act.put, sia, sc0, scs]
          refine takeF (i := 7) (v := .pointer (some ⟨bM, oM + i * 20, none⟩)) (k := 76) rfl rfl (by kernel_rfl) (by kernel_rfl) (by kernel_rfl) (fun _ _ _ h => h) (Or.inl ⟨by rfl, fun z hz => by (clear hz; go_simp)⟩) hHeld ?_
          try simp only [Act.put, sia, sc0, scs]
          refine takeF (i := 8) (v := .pointer (some ⟨bM, oM + i * 20, none⟩)) (k := 77) rfl rfl (by kernel_rfl) (by kernel_rfl) (by kernel_rfl) (fun _ _ _ h => h) (Or.inl ⟨by rfl, fun z hz => by (clear hz; go_simp)⟩) hHeld ?_
          try simp only [Act.put, sia, sc0, scs]
          refine takeF (i := 9) (v := x.id.agg) (k := 78) rfl rfl (by kernel_rfl) (by kernel_rfl) (by kernel_rfl) (fun _ _ _ h => h) (Or.inl ⟨by rfl, fun z hz => by (obtain ⟨z0, z1⟩ := hz; obtain ⟨y0, y1⟩ := z1.idAt HX.out; clear z0 z1; go_simp)⟩) hHeld ?_
          try simp only [Act.put, sia, sc0, scs]
          refine takeF (i := 10) (v := .bool (sEq y.id.seat y.id.count x.id.seat x.id.count)) (k := 79) rfl rfl (by kernel_rfl) (by kernel_rfl) (by kernel_rfl) (fun _ _ _ h => h) (Or.inl ⟨by rfl, fun z hz => by (clear hz; go_simp)⟩) hHeld ?_
          try simp only [Act.put, sia, sc0, scs]
          refine wpAnyH_done (by kernel_rfl) ?_ _
          cases he : sEq y.id.seat y.id.count x.id.seat x.id.count with
          | false =>
            have hid : ¬ y.id = x.id := by rw [sEq_iff] at he; simpa using he
            have HCT2 : Hid (n = (L.take (k + 1)).countP fun y => decide (y.id = x.id)) := Lib.hid (by rw [HCT.out]; simp [hid])
            clear hid
            go_wp2_with fail
            refine ⟨⟨k + 1, n, hkl, by go_num, rfl, HCT2, HV.out.drew⟩, by simp [intOf]; omega⟩
          | true =>
            have hid : y.id = x.id := by rw [sEq_iff] at he; simpa using he
            have HCT2 : Hid (n + 1 = (L.take (k + 1)).countP fun y => decide (y.id = x.id)) := Lib.hid (by rw [HCT.out]; simp [hid])
            obtain ⟨s1, s2, s3⟩ := HJO.out.same x HXM.out y HYM.out hid
            have HSA : Hid (sEq y.after.seat y.after.count x.after.seat x.after.count = true) := Lib.hid (by rw [sEq_iff]; simpa using s1)
            have HPA := Lib.hid s2
            have HS3 := Lib.hid s3
            clear s1 s2 s3 hid
            have HV1 := Lib.hid HV.out.drew
            have HRL1 := Lib.hid (HL5.out.below HV1.out)
            have HRM1 := Lib.hid (HM5.out.below HV1.out)
            clear HRL HRM
            go_upto_region 21 with fail
            cases hxg : x.gone with
            | true =>
              have HXG := Lib.hid hxg
              have HYG := Lib.hid (HS3.out hxg)
              clear hxg
              refine wp_region_held_drew (S := (fun X => RdC X (some ⟨bL, oL, none⟩) L ∧ RdC X (some ⟨bM, oM, none⟩) M)) (by kernel_rfl) ⟨HRL1.out, HRM1.out⟩ (fun hHeld => ?_)
              refine takeF (i := 0) (v := .slice (some ⟨bL, oL, none⟩) L.length cL) (k := 82) rfl rfl (by kernel_rfl) (by kernel_rfl) (by kernel_rfl) (fun _ _ _ h => h) (Or.inl ⟨by rfl, fun z hz => by (clear hz; go_simp)⟩) hHeld ?_
              try simp only [Act.put, sia, sc0, scs]
              refine takeF (i := 1) (v := .int .i64 k) (k := 83) rfl rfl (by kernel_rfl) (by kernel_rfl) (by kernel_rfl) (fun _ _ _ h => h) (Or.inl ⟨by rfl, fun z hz => by (clear hz; go_simp)⟩) hHeld ?_
              try simp only [Act.put, sia, sc0, scs]
              refine takeF (i := 2) (v := .pointer (some ⟨bL, oL + k * 20, none⟩)) (k := 84) rfl rfl (by kernel_rfl) (by kernel_rfl) (by kernel_rfl) (fun _ _ _ h => h) (Or.inl ⟨by rfl, fun z hz => by (clear hz; go_simp)⟩) hHeld ?_
              try simp only [Act.put, sia, sc0, scs]
              refine takeF (i := 3) (v := .pointer (some ⟨bL, oL + k * 20 + 2, none⟩)) (k := 85) rfl rfl (by kernel_rfl) (by kernel_rfl) (by kernel_rfl) (fun _ _ _ h => h) (Or.inl ⟨by rfl, fun z hz => by (clear hz; go_simp)⟩) hHeld ?_
              try simp only [Act.put, sia, sc0, scs]
              refine takeF (i := 4) (v := y.after.agg) (k := 86) rfl rfl (by kernel_rfl) (by kernel_rfl) (by kernel_rfl) (fun _ _ _ h => h) (Or.inl ⟨by rfl, fun z hz => by (obtain ⟨z0, z1⟩ := hz; obtain ⟨y0, y1⟩ := z0.afterAt HY.out; clear z0 z1; go_simp)⟩) hHeld ?_
              try simp only [Act.put, sia, sc0, scs]
              refine takeF (i := 5) (v := .slice (some ⟨bM, oM, none⟩) M.length cM) (k := 87) rfl rfl (by kernel_rfl) (by kernel_rfl) (by kernel_rfl) (fun _ _ _ h => h) (Or.inl ⟨by rfl, fun z hz => by (clear hz; go_simp)⟩) hHeld ?_
              try simp only [Act.put, sia, sc0, scs]
              refine takeF (i := 6) (v := .int .i64 i) (k := 88) rfl rfl (by kernel_rfl) (by kernel_rfl) (by kernel_rfl) (fun _ _ _ h => h) (Or.inl ⟨by rfl, fun z hz => by (clear hz; go_simp)⟩) hHeld ?_
              try simp only [Act.put, sia, sc0, scs]
              refine takeF (i := 7) (v := .pointer (some ⟨bM, oM + i * 20, none⟩)) (k := 89) rfl rfl (by kernel_rfl) (by kernel_rfl) (by kernel_rfl) (fun _ _ _ h => h) (Or.inl ⟨by rfl, fun z hz => by (clear hz; go_simp)⟩) hHeld ?_
              try simp only [Act.put, sia, sc0, scs]
              refine takeF (i := 8) (v := .pointer (some ⟨bM, oM + i * 20 + 2, none⟩)) (k := 90) rfl rfl (by kernel_rfl) (by kernel_rfl) (by kernel_rfl) (fun _ _ _ h => h) (Or.inl ⟨by rfl, fun z hz => by (clear hz; go_simp)⟩) hHeld ?_
              try simp only [Act.put, sia, sc0, scs]
              refine takeF (i := 9) (v := x.after.agg) (k := 91) rfl rfl (by kernel_rfl) (by kernel_rfl) (by kernel_rfl) (fun _ _ _ h => h) (Or.inl ⟨by rfl, fun z hz => by (obtain ⟨z0, z1⟩ := hz; obtain ⟨y0, y1⟩ := z1.afterAt HX.out; clear z0 z1; go_simp)⟩) hHeld ?_
              try simp only [Act.put, sia, sc0, scs]
              refine takeF (i := 10) (v := .bool false) (k := 92) rfl rfl (by kernel_rfl) (by kernel_rfl) (by kernel_rfl) (fun _ _ _ h => h) (Or.inl ⟨by rfl, fun z hz => by (clear hz; have hq := HSA.out; go_simp)⟩) hHeld ?_
              try simp only [Act.put, sia, sc0, scs]
              refine takeF (i := 11) (v := .bool false) (k := 93) rfl rfl (by kernel_rfl) (by kernel_rfl) (by kernel_rfl) (fun _ _ _ h => h) (Or.inl ⟨by rfl, fun z hz => by (clear hz; go_simp)⟩) hHeld ?_
              try simp only [Act.put, sia, sc0, scs]
              refine takeF (i := 12) (v := .slice (some ⟨bL, oL, none⟩) L.length cL) (k := 94) rfl rfl (by kernel_rfl) (by kernel_rfl) (by kernel_rfl) (fun _ _ _ h => h) (Or.inl ⟨by rfl, fun z hz => by (clear hz; go_simp)⟩) hHeld ?_
              try simp only [Act.put, sia, sc0, scs]
              refine takeF (i := 13) (v := .int .i64 k) (k := 95) rfl rfl (by kernel_rfl) (by kernel_rfl) (by kernel_rfl) (fun _ _ _ h => h) (Or.inl ⟨by rfl, fun z hz => by (clear hz; go_simp)⟩) hHeld ?_
              try simp only [Act.put, sia, sc0, scs]
              refine takeF (i := 14) (v := .pointer (some ⟨bL, oL + k * 20, none⟩)) (k := 96) rfl rfl (by kernel_rfl) (by kernel_rfl) (by kernel_rfl) (fun _ _ _ h => h) (Or.inl ⟨by rfl, fun z hz => by (clear hz; go_simp)⟩) hHeld ?_
              try simp only [Act.put, sia, sc0, scs]
              refine takeF (i := 15) (v := .pointer (some ⟨bL, oL + k * 20 + 4, none⟩)) (k := 97) rfl rfl (by kernel_rfl) (by kernel_rfl) (by kernel_rfl) (fun _ _ _ h => h) (Or.inl ⟨by rfl, fun z hz => by (clear hz; go_simp)⟩) hHeld ?_
              try simp only [Act.put, sia, sc0, scs]
              refine takeF (i := 16) (v := x.patch.agg) (k := 98) rfl rfl (by kernel_rfl) (by kernel_rfl) (by kernel_rfl) (fun _ _ _ h => h) (Or.inl ⟨by rfl, fun z hz => by (obtain ⟨z0, z1⟩ := hz; have hq := z0.load49 HY.out; clear z0 z1; rw [HPA.out] at hq; go_simp)⟩) hHeld ?_
              try simp only [Act.put, sia, sc0, scs]
              refine takeF (i := 17) (v := .slice (some ⟨bM, oM, none⟩) M.length cM) (k := 99) rfl rfl (by kernel_rfl) (by kernel_rfl) (by kernel_rfl) (fun _ _ _ h => h) (Or.inl ⟨by rfl, fun z hz => by (clear hz; go_simp)⟩) hHeld ?_
              try simp only [Act.put, sia, sc0, scs]
              refine takeF (i := 18) (v := .int .i64 i) (k := 100) rfl rfl (by kernel_rfl) (by kernel_rfl) (by kernel_rfl) (fun _ _ _ h => h) (Or.inl ⟨by rfl, fun z hz => by (clear hz; go_simp)⟩) hHeld ?_
              try simp only [Act.put, sia, sc0, scs]
              refine takeF (i := 19) (v := .pointer (some ⟨bM, oM + i * 20, none⟩)) (k := 101) rfl rfl (by kernel_rfl) (by kernel_rfl) (by kernel_rfl) (fun _ _ _ h => h) (Or.inl ⟨by rfl, fun z hz => by (clear hz; go_simp)⟩) hHeld ?_
              try simp only [Act.put, sia, sc0, scs]
              refine takeF (i := 20) (v := .pointer (some ⟨bM, oM + i * 20 + 4, none⟩)) (k := 102) rfl rfl (by kernel_rfl) (by kernel_rfl) (by kernel_rfl) (fun _ _ _ h => h) (Or.inl ⟨by rfl, fun z hz => by (clear hz; go_simp)⟩) hHeld ?_
              try simp only [Act.put, sia, sc0, scs]
              refine takeF (i := 21) (v := x.patch.agg) (k := 103) rfl rfl (by kernel_rfl) (by kernel_rfl) (by kernel_rfl) (fun _ _ _ h => h) (Or.inl ⟨by rfl, fun z hz => by (obtain ⟨z0, z1⟩ := hz; have hq := z1.load49 HX.out; clear z0 z1; go_simp)⟩) hHeld ?_
              try simp only [Act.put, sia, sc0, scs]
              refine takeF (i := 22) (v := .bool false) (k := 104) rfl rfl (by kernel_rfl) (by kernel_rfl) (by kernel_rfl) (fun _ _ _ h => h) (Or.inl ⟨by rfl, fun z hz => by (clear hz; go_simp)⟩) hHeld ?_
              try simp only [Act.put, sia, sc0, scs]
              refine takeF (i := 23) (v := .bool false) (k := 105) rfl rfl (by kernel_rfl) (by kernel_rfl) (by kernel_rfl) (fun _ _ _ h => h) (Or.inl ⟨by rfl, fun z hz => by (clear hz; go_simp)⟩) hHeld ?_
              try simp only [Act.put, sia, sc0, scs]
              refine takeF (i := 24) (v := .bool false) (k := 106) rfl rfl (by kernel_rfl) (by kernel_rfl) (by kernel_rfl) (fun _ _ _ h => h) (Or.inl ⟨by rfl, fun z hz => by (clear hz; go_simp)⟩) hHeld ?_
              try simp only [Act.put, sia, sc0, scs]
              refine takeF (i := 25) (v := .slice (some ⟨bM, oM, none⟩) M.length cM) (k := 107) rfl rfl (by kernel_rfl) (by kernel_rfl) (by kernel_rfl) (fun _ _ _ h => h) (Or.inl ⟨by rfl, fun z hz => by (clear hz; go_simp)⟩) hHeld ?_
              try simp only [Act.put, sia, sc0, scs]
              refine takeF (i := 26) (v := .int .i64 i) (k := 108) rfl rfl (by kernel_rfl) (by kernel_rfl) (by kernel_rfl) (fun _ _ _ h => h) (Or.inl ⟨by rfl, fun z hz => by (clear hz; go_simp)⟩) hHeld ?_
              try simp only [Act.put, sia, sc0, scs]
              refine takeF (i := 27) (v := .pointer (some ⟨bM, oM + i * 20, none⟩)) (k := 109) rfl rfl (by kernel_rfl) (by kernel_rfl) (by kernel_rfl) (fun _ _ _ h => h) (Or.inl ⟨by rfl, fun z hz => by (clear hz; go_simp)⟩) hHeld ?_
              try simp only [Act.put, sia, sc0, scs]
              refine takeF (i := 28) (v := .pointer (some ⟨bM, oM + i * 20 + 19, none⟩)) (k := 110) rfl rfl (by kernel_rfl) (by kernel_rfl) (by kernel_rfl) (fun _ _ _ h => h) (Or.inl ⟨by rfl, fun z hz => by (clear hz; go_simp)⟩) hHeld ?_
              try simp only [Act.put, sia, sc0, scs]
              refine takeF (i := 29) (v := .bool true) (k := 111) rfl rfl (by kernel_rfl) (by kernel_rfl) (by kernel_rfl) (fun _ _ _ h => h) (Or.inl ⟨by rfl, fun z hz => by (obtain ⟨z0, z1⟩ := hz; have hq := z1.goneAt HX.out; rw [HXG.out] at hq; clear z0 z1; go_simp)⟩) hHeld ?_
              try simp only [Act.put, sia, sc0, scs]
              refine takeF (i := 30) (v := .bool true) (k := 112) rfl rfl (by kernel_rfl) (by kernel_rfl) (by kernel_rfl) (fun _ _ _ h => h) (Or.inl ⟨by rfl, fun z hz => by (clear hz; go_simp)⟩) hHeld ?_
              try simp only [Act.put, sia, sc0, scs]
              refine takeF (i := 31) (v := .slice (some ⟨bL, oL, none⟩) L.length cL) (k := 113) rfl rfl (by kernel_rfl) (by kernel_rfl) (by kernel_rfl) (fun _ _ _ h => h) (Or.inl ⟨by rfl, fun z hz => by (clear hz; go_simp)⟩) hHeld ?_
              try simp only [Act.put, sia, sc0, scs]
              refine takeF (i := 32) (v := .int .i64 k) (k := 114) rfl rfl (by kernel_rfl) (by kernel_rfl) (by kernel_rfl) (fun _ _ _ h => h) (Or.inl ⟨by rfl, fun z hz => by (clear hz; go_simp)⟩) hHeld ?_
              try simp only [Act.put, sia, sc0, scs]
              refine takeF (i := 33) (v := .pointer (some ⟨bL, oL + k * 20, none⟩)) (k := 115) rfl rfl (by kernel_rfl) (by kernel_rfl) (by kernel_rfl) (fun _ _ _ h => h) (Or.inl ⟨by rfl, fun z hz => by (clear hz; go_simp)⟩) hHeld ?_
              try simp only [Act.put, sia, sc0, scs]
              refine takeF (i := 34) (v := .pointer (some ⟨bL, oL + k * 20 + 19, none⟩)) (k := 116) rfl rfl (by kernel_rfl) (by kernel_rfl) (by kernel_rfl) (fun _ _ _ h => h) (Or.inl ⟨by rfl, fun z hz => by (clear hz; go_simp)⟩) hHeld ?_
              try simp only [Act.put, sia, sc0, scs]
              refine takeF (i := 35) (v := .bool true) (k := 117) rfl rfl (by kernel_rfl) (by kernel_rfl) (by kernel_rfl) (fun _ _ _ h => h) (Or.inl ⟨by rfl, fun z hz => by (obtain ⟨z0, z1⟩ := hz; have hq := z0.goneAt HY.out; rw [HYG.out] at hq; clear z0 z1; go_simp)⟩) hHeld ?_
              try simp only [Act.put, sia, sc0, scs]
              refine takeF (i := 36) (v := .bool false) (k := 118) rfl rfl (by kernel_rfl) (by kernel_rfl) (by kernel_rfl) (fun _ _ _ h => h) (Or.inl ⟨by rfl, fun z hz => by (clear hz; go_simp)⟩) hHeld ?_
              try simp only [Act.put, sia, sc0, scs]
              refine takeF (i := 37) (v := .bool false) (k := 119) rfl rfl (by kernel_rfl) (by kernel_rfl) (by kernel_rfl) (fun _ _ _ h => h) (Or.inl ⟨by rfl, fun z hz => by (clear hz; go_simp)⟩) hHeld ?_
              try simp only [Act.put, sia, sc0, scs]
              refine takeF (i := 38) (v := .bool false) (k := 120) rfl rfl (by kernel_rfl) (by kernel_rfl) (by kernel_rfl) (fun _ _ _ h => h) (Or.inl ⟨by rfl, fun z hz => by (clear hz; go_simp)⟩) hHeld ?_
              try simp only [Act.put, sia, sc0, scs]
              refine wpAnyH_done (by kernel_rfl) ?_ _
              go_wp2_with fail
              refine ⟨⟨k + 1, n + 1, hkl, by go_num, by go_num, HCT2, HV1.out.drew⟩, by simp [intOf]; omega⟩
            | false =>
              have HXG := Lib.hid hxg
              clear hxg
              refine wp_region_held_drew (S := (fun X => RdC X (some ⟨bL, oL, none⟩) L ∧ RdC X (some ⟨bM, oM, none⟩) M)) (by kernel_rfl) ⟨HRL1.out, HRM1.out⟩ (fun hHeld => ?_)
              refine takeF (i := 0) (v := .slice (some ⟨bL, oL, none⟩) L.length cL) (k := 82) rfl rfl (by kernel_rfl) (by kernel_rfl) (by kernel_rfl) (fun _ _ _ h => h) (Or.inl ⟨by rfl, fun z hz => by (clear hz; go_simp)⟩) hHeld ?_
              try simp only [Act.put, sia, sc0, scs]
              refine takeF (i := 1) (v := .int .i64 k) (k := 83) rfl rfl (by kernel_rfl) (by kernel_rfl) (by kernel_rfl) (fun _ _ _ h => h) (Or.inl ⟨by rfl, fun z hz => by (clear hz; go_simp)⟩) hHeld ?_
              try simp only [Act.put, sia, sc0, scs]
              refine takeF (i := 2) (v := .pointer (some ⟨bL, oL + k * 20, none⟩)) (k := 84) rfl rfl (by kernel_rfl) (by kernel_rfl) (by kernel_rfl) (fun _ _ _ h => h) (Or.inl ⟨by rfl, fun z hz => by (clear hz; go_simp)⟩) hHeld ?_
              try simp only [Act.put, sia, sc0, scs]
              refine takeF (i := 3) (v := .pointer (some ⟨bL, oL + k * 20 + 2, none⟩)) (k := 85) rfl rfl (by kernel_rfl) (by kernel_rfl) (by kernel_rfl) (fun _ _ _ h => h) (Or.inl ⟨by rfl, fun z hz => by (clear hz; go_simp)⟩) hHeld ?_
              try simp only [Act.put, sia, sc0, scs]
              refine takeF (i := 4) (v := y.after.agg) (k := 86) rfl rfl (by kernel_rfl) (by kernel_rfl) (by kernel_rfl) (fun _ _ _ h => h) (Or.inl ⟨by rfl, fun z hz => by (obtain ⟨z0, z1⟩ := hz; obtain ⟨y0, y1⟩ := z0.afterAt HY.out; clear z0 z1; go_simp)⟩) hHeld ?_
              try simp only [Act.put, sia, sc0, scs]
              refine takeF (i := 5) (v := .slice (some ⟨bM, oM, none⟩) M.length cM) (k := 87) rfl rfl (by kernel_rfl) (by kernel_rfl) (by kernel_rfl) (fun _ _ _ h => h) (Or.inl ⟨by rfl, fun z hz => by (clear hz; go_simp)⟩) hHeld ?_
              try simp only [Act.put, sia, sc0, scs]
              refine takeF (i := 6) (v := .int .i64 i) (k := 88) rfl rfl (by kernel_rfl) (by kernel_rfl) (by kernel_rfl) (fun _ _ _ h => h) (Or.inl ⟨by rfl, fun z hz => by (clear hz; go_simp)⟩) hHeld ?_
              try simp only [Act.put, sia, sc0, scs]
              refine takeF (i := 7) (v := .pointer (some ⟨bM, oM + i * 20, none⟩)) (k := 89) rfl rfl (by kernel_rfl) (by kernel_rfl) (by kernel_rfl) (fun _ _ _ h => h) (Or.inl ⟨by rfl, fun z hz => by (clear hz; go_simp)⟩) hHeld ?_
              try simp only [Act.put, sia, sc0, scs]
              refine takeF (i := 8) (v := .pointer (some ⟨bM, oM + i * 20 + 2, none⟩)) (k := 90) rfl rfl (by kernel_rfl) (by kernel_rfl) (by kernel_rfl) (fun _ _ _ h => h) (Or.inl ⟨by rfl, fun z hz => by (clear hz; go_simp)⟩) hHeld ?_
              try simp only [Act.put, sia, sc0, scs]
              refine takeF (i := 9) (v := x.after.agg) (k := 91) rfl rfl (by kernel_rfl) (by kernel_rfl) (by kernel_rfl) (fun _ _ _ h => h) (Or.inl ⟨by rfl, fun z hz => by (obtain ⟨z0, z1⟩ := hz; obtain ⟨y0, y1⟩ := z1.afterAt HX.out; clear z0 z1; go_simp)⟩) hHeld ?_
              try simp only [Act.put, sia, sc0, scs]
              refine takeF (i := 10) (v := .bool false) (k := 92) rfl rfl (by kernel_rfl) (by kernel_rfl) (by kernel_rfl) (fun _ _ _ h => h) (Or.inl ⟨by rfl, fun z hz => by (clear hz; have hq := HSA.out; go_simp)⟩) hHeld ?_
              try simp only [Act.put, sia, sc0, scs]
              refine takeF (i := 11) (v := .bool false) (k := 93) rfl rfl (by kernel_rfl) (by kernel_rfl) (by kernel_rfl) (fun _ _ _ h => h) (Or.inl ⟨by rfl, fun z hz => by (clear hz; go_simp)⟩) hHeld ?_
              try simp only [Act.put, sia, sc0, scs]
              refine takeF (i := 12) (v := .slice (some ⟨bL, oL, none⟩) L.length cL) (k := 94) rfl rfl (by kernel_rfl) (by kernel_rfl) (by kernel_rfl) (fun _ _ _ h => h) (Or.inl ⟨by rfl, fun z hz => by (clear hz; go_simp)⟩) hHeld ?_
              try simp only [Act.put, sia, sc0, scs]
              refine takeF (i := 13) (v := .int .i64 k) (k := 95) rfl rfl (by kernel_rfl) (by kernel_rfl) (by kernel_rfl) (fun _ _ _ h => h) (Or.inl ⟨by rfl, fun z hz => by (clear hz; go_simp)⟩) hHeld ?_
              try simp only [Act.put, sia, sc0, scs]
              refine takeF (i := 14) (v := .pointer (some ⟨bL, oL + k * 20, none⟩)) (k := 96) rfl rfl (by kernel_rfl) (by kernel_rfl) (by kernel_rfl) (fun _ _ _ h => h) (Or.inl ⟨by rfl, fun z hz => by (clear hz; go_simp)⟩) hHeld ?_
              try simp only [Act.put, sia, sc0, scs]
              refine takeF (i := 15) (v := .pointer (some ⟨bL, oL + k * 20 + 4, none⟩)) (k := 97) rfl rfl (by kernel_rfl) (by kernel_rfl) (by kernel_rfl) (fun _ _ _ h => h) (Or.inl ⟨by rfl, fun z hz => by (clear hz; go_simp)⟩) hHeld ?_
              try simp only [Act.put, sia, sc0, scs]
              refine takeF (i := 16) (v := x.patch.agg) (k := 98) rfl rfl (by kernel_rfl) (by kernel_rfl) (by kernel_rfl) (fun _ _ _ h => h) (Or.inl ⟨by rfl, fun z hz => by (obtain ⟨z0, z1⟩ := hz; have hq := z0.load49 HY.out; clear z0 z1; rw [HPA.out] at hq; go_simp)⟩) hHeld ?_
              try simp only [Act.put, sia, sc0, scs]
              refine takeF (i := 17) (v := .slice (some ⟨bM, oM, none⟩) M.length cM) (k := 99) rfl rfl (by kernel_rfl) (by kernel_rfl) (by kernel_rfl) (fun _ _ _ h => h) (Or.inl ⟨by rfl, fun z hz => by (clear hz; go_simp)⟩) hHeld ?_
              try simp only [Act.put, sia, sc0, scs]
              refine takeF (i := 18) (v := .int .i64 i) (k := 100) rfl rfl (by kernel_rfl) (by kernel_rfl) (by kernel_rfl) (fun _ _ _ h => h) (Or.inl ⟨by rfl, fun z hz => by (clear hz; go_simp)⟩) hHeld ?_
              try simp only [Act.put, sia, sc0, scs]
              refine takeF (i := 19) (v := .pointer (some ⟨bM, oM + i * 20, none⟩)) (k := 101) rfl rfl (by kernel_rfl) (by kernel_rfl) (by kernel_rfl) (fun _ _ _ h => h) (Or.inl ⟨by rfl, fun z hz => by (clear hz; go_simp)⟩) hHeld ?_
              try simp only [Act.put, sia, sc0, scs]
              refine takeF (i := 20) (v := .pointer (some ⟨bM, oM + i * 20 + 4, none⟩)) (k := 102) rfl rfl (by kernel_rfl) (by kernel_rfl) (by kernel_rfl) (fun _ _ _ h => h) (Or.inl ⟨by rfl, fun z hz => by (clear hz; go_simp)⟩) hHeld ?_
              try simp only [Act.put, sia, sc0, scs]
              refine takeF (i := 21) (v := x.patch.agg) (k := 103) rfl rfl (by kernel_rfl) (by kernel_rfl) (by kernel_rfl) (fun _ _ _ h => h) (Or.inl ⟨by rfl, fun z hz => by (obtain ⟨z0, z1⟩ := hz; have hq := z1.load49 HX.out; clear z0 z1; go_simp)⟩) hHeld ?_
              try simp only [Act.put, sia, sc0, scs]
              refine takeF (i := 22) (v := .bool false) (k := 104) rfl rfl (by kernel_rfl) (by kernel_rfl) (by kernel_rfl) (fun _ _ _ h => h) (Or.inl ⟨by rfl, fun z hz => by (clear hz; go_simp)⟩) hHeld ?_
              try simp only [Act.put, sia, sc0, scs]
              refine takeF (i := 23) (v := .bool false) (k := 105) rfl rfl (by kernel_rfl) (by kernel_rfl) (by kernel_rfl) (fun _ _ _ h => h) (Or.inl ⟨by rfl, fun z hz => by (clear hz; go_simp)⟩) hHeld ?_
              try simp only [Act.put, sia, sc0, scs]
              refine takeF (i := 24) (v := .bool false) (k := 106) rfl rfl (by kernel_rfl) (by kernel_rfl) (by kernel_rfl) (fun _ _ _ h => h) (Or.inl ⟨by rfl, fun z hz => by (clear hz; go_simp)⟩) hHeld ?_
              try simp only [Act.put, sia, sc0, scs]
              refine takeF (i := 25) (v := .slice (some ⟨bM, oM, none⟩) M.length cM) (k := 107) rfl rfl (by kernel_rfl) (by kernel_rfl) (by kernel_rfl) (fun _ _ _ h => h) (Or.inl ⟨by rfl, fun z hz => by (clear hz; go_simp)⟩) hHeld ?_
              try simp only [Act.put, sia, sc0, scs]
              refine takeF (i := 26) (v := .int .i64 i) (k := 108) rfl rfl (by kernel_rfl) (by kernel_rfl) (by kernel_rfl) (fun _ _ _ h => h) (Or.inl ⟨by rfl, fun z hz => by (clear hz; go_simp)⟩) hHeld ?_
              try simp only [Act.put, sia, sc0, scs]
              refine takeF (i := 27) (v := .pointer (some ⟨bM, oM + i * 20, none⟩)) (k := 109) rfl rfl (by kernel_rfl) (by kernel_rfl) (by kernel_rfl) (fun _ _ _ h => h) (Or.inl ⟨by rfl, fun z hz => by (clear hz; go_simp)⟩) hHeld ?_
              try simp only [Act.put, sia, sc0, scs]
              refine takeF (i := 28) (v := .pointer (some ⟨bM, oM + i * 20 + 19, none⟩)) (k := 110) rfl rfl (by kernel_rfl) (by kernel_rfl) (by kernel_rfl) (fun _ _ _ h => h) (Or.inl ⟨by rfl, fun z hz => by (clear hz; go_simp)⟩) hHeld ?_
              try simp only [Act.put, sia, sc0, scs]
              refine takeF (i := 29) (v := .bool false) (k := 111) rfl rfl (by kernel_rfl) (by kernel_rfl) (by kernel_rfl) (fun _ _ _ h => h) (Or.inl ⟨by rfl, fun z hz => by (obtain ⟨z0, z1⟩ := hz; have hq := z1.goneAt HX.out; rw [HXG.out] at hq; clear z0 z1; go_simp)⟩) hHeld ?_
              try simp only [Act.put, sia, sc0, scs]
              refine takeF (i := 30) (v := .bool false) (k := 112) rfl rfl (by kernel_rfl) (by kernel_rfl) (by kernel_rfl) (fun _ _ _ h => h) (Or.inl ⟨by rfl, fun z hz => by (clear hz; go_simp)⟩) hHeld ?_
              try simp only [Act.put, sia, sc0, scs]
              refine takeF (i := 31) (v := undef) (k := 113) rfl rfl (by kernel_rfl) (by kernel_rfl) (by kernel_rfl) (fun _ _ _ h => h) (Or.inr ⟨by rfl, rfl⟩) hHeld ?_
              try simp only [Act.put, sia, sc0, scs]
              refine takeF (i := 32) (v := undef) (k := 114) rfl rfl (by kernel_rfl) (by kernel_rfl) (by kernel_rfl) (fun _ _ _ h => h) (Or.inr ⟨by rfl, rfl⟩) hHeld ?_
              try simp only [Act.put, sia, sc0, scs]
              refine takeF (i := 33) (v := undef) (k := 115) rfl rfl (by kernel_rfl) (by kernel_rfl) (by kernel_rfl) (fun _ _ _ h => h) (Or.inr ⟨by rfl, rfl⟩) hHeld ?_
              try simp only [Act.put, sia, sc0, scs]
              refine takeF (i := 34) (v := undef) (k := 116) rfl rfl (by kernel_rfl) (by kernel_rfl) (by kernel_rfl) (fun _ _ _ h => h) (Or.inr ⟨by rfl, rfl⟩) hHeld ?_
              try simp only [Act.put, sia, sc0, scs]
              refine takeF (i := 35) (v := undef) (k := 117) rfl rfl (by kernel_rfl) (by kernel_rfl) (by kernel_rfl) (fun _ _ _ h => h) (Or.inr ⟨by rfl, rfl⟩) hHeld ?_
              try simp only [Act.put, sia, sc0, scs]
              refine takeF (i := 36) (v := undef) (k := 118) rfl rfl (by kernel_rfl) (by kernel_rfl) (by kernel_rfl) (fun _ _ _ h => h) (Or.inr ⟨by rfl, rfl⟩) hHeld ?_
              try simp only [Act.put, sia, sc0, scs]
              refine takeF (i := 37) (v := .bool false) (k := 119) rfl rfl (by kernel_rfl) (by kernel_rfl) (by kernel_rfl) (fun _ _ _ h => h) (Or.inl ⟨by rfl, fun z hz => by (clear hz; go_simp)⟩) hHeld ?_
              try simp only [Act.put, sia, sc0, scs]
              refine takeF (i := 38) (v := .bool false) (k := 120) rfl rfl (by kernel_rfl) (by kernel_rfl) (by kernel_rfl) (fun _ _ _ h => h) (Or.inl ⟨by rfl, fun z hz => by (clear hz; go_simp)⟩) hHeld ?_
              try simp only [Act.put, sia, sc0, scs]
              refine wpAnyH_done (by kernel_rfl) ?_ _
              go_wp2_with fail
              refine ⟨⟨k + 1, n + 1, hkl, by go_num, by go_num, HCT2, HV1.out.drew⟩, by simp [intOf]; omega⟩
        · have hke : k = L.length := by omega
          have hk1 : ¬ (k : Int) < L.length := by omega
          have hn1 : n = 1 := by
           rw [HN.out, hke, List.take_length]
           exact HJO.out.once x HXM.out
          subst hn1
          go_wp2_with fail
          refine ⟨⟨i + 1, hlt, by go_num, HV.out⟩, by simp [intOf]; omega⟩
     · have hie : i = M.length := by omega
       have hi1 : ¬ (i : Int) < M.length := by omega
       go_wp2_with fail
       go_loopw [13] (fun v wr => ∃ k : Nat, k ≤ L.length ∧ v = .int .i64 k ∧ Below w5.heap.size w5 wr) (fun v _ => L.length - (intOf v).toNat)
       case atStart => exact ⟨0, Nat.zero_le _, rfl, HW.out⟩
       case round =>
        obtain ⟨k, hk, rfl, hb⟩ := hrel
        have HV := Lib.hid hb; clear hb
        by_cases hkl : k < L.length
        · have hk1 : (k : Int) < L.length := by omega
          have hk0 : (0 : Int) ≤ k := by omega
          obtain ⟨y, hy⟩ := get_of_lt hkl
          obtain ⟨bL, oL, rfl, hbL5⟩ := HL5.out.some_at hy
          have HFR := Lib.hid (HJO.out.frm k y hy)
          have HGO := Lib.hid (HJO.out.gone k y hy)
          have HAF := Lib.hid (HJO.out.aft k y hy)
          have HY := Lib.hid hy; clear hy
          go_wp2_with fail
          go_loopw [14, 15, 16] (fun v14 v15 v16 wr => ∃ i : Nat, i ≤ M.length ∧ v16 = .int .i64 i ∧ v14 = .bool ((M.take i).any fun x => decide (x.id = y.id)) ∧ v15 = .bool ((M.take i).any fun x => decide (x.id = y.id) && x.gone) ∧ Below w5.heap.size w5 wr) (fun _ _ v16 _ => M.length - (intOf v16).toNat)
          case atStart => exact ⟨0, Nat.zero_le _, rfl, rfl, rfl, HV.out⟩
          case round =>
           obtain ⟨i, hi, rfl, h14, h15, hb⟩ := hrel
           have HU := Lib.hid hb; clear hb
           obtain ⟨f, hf⟩ : ∃ f, f = ((M.take i).any fun x => decide (x.id = y.id)) := ⟨_, rfl⟩
           obtain ⟨g, hgg⟩ : ∃ g, g = ((M.take i).any fun x => decide (x.id = y.id) && x.gone) := ⟨_, rfl⟩
           rw [← hf] at h14
           rw [← hgg] at h15
           subst h14 h15
           have HF := Lib.hid hf; clear hf
           have HGG := Lib.hid hgg; clear hgg
           by_cases hil : i < M.length
           · have hi1 : (i : Int) < M.length := by omega
             have hi0 : (0 : Int) ≤ i := by omega
             obtain ⟨x, hx⟩ := get_of_lt hil
             obtain ⟨bM, oM, rfl, hbM5⟩ := HM5.out.some_at hx
             obtain ⟨q, hq⟩ : ∃ q, sEq x.id.seat x.id.count y.id.seat y.id.count = q := ⟨_, rfl⟩
             have hqd : decide (x.id = y.id) = q := by rw [← hq, sEq_iff]
             have hf2 := any_take (fun x => decide (x.id = y.id)) hx
             have hg2 := any_take (fun x => decide (x.id = y.id) && x.gone) hx
             rw [← HF.out, hqd] at hf2
             rw [← HGG.out, hqd] at hg2
             have HF2 := Lib.hid hf2; clear hf2
             have HG2 := Lib.hid hg2; clear hg2
             have HX := Lib.hid hx; clear hx
             have HQ := Lib.hid hq; clear hq hqd
             obtain ⟨xg, hxg⟩ : ∃ g, x.gone = g := ⟨_, rfl⟩
             have HXG := Lib.hid hxg; clear hxg
             have HRL := Lib.hid (HL5.out.below HU.out)
             have HRM := Lib.hid (HM5.out.below HU.out)
             go_upto_region 32 with fail
             go_cut [14] (fun v14 wc => v14 = .bool (f || q) ∧ Below wr.heap.size wr wc)
             case first =>
              cases f with
              | true =>
                go_quiet (fail)
                go_wp2_with fail
                go_meet
                case rel => exact ⟨rfl, Below.drewN' _ (Below.refl _ _)⟩
              | false =>
                refine wp_region_held_drew (S := (fun X => RdC X (some ⟨bL, oL, none⟩) L ∧ RdC X (some ⟨bM, oM, none⟩) M)) (by kernel_rfl) ⟨HRL.out, HRM.out⟩ (fun hHeld => ?_)
                refine takeF (i := 0) (v := .bool false) (k := 135) rfl rfl (by kernel_rfl) (by kernel_rfl) (by kernel_rfl) (fun _ _ _ h => h) (Or.inl ⟨by rfl, fun z hz => by (clear hz; go_simp)⟩) hHeld ?_
                try simp only [Act.put, sia, sc0, scs]
                refine takeF (i := 1) (v := .bool false) (k := 136) rfl rfl (by kernel_rfl) (by kernel_rfl) (by kernel_rfl) (fun _ _ _ h => h) (Or.inl ⟨by rfl, fun z hz => by (clear hz; go_simp)⟩) hHeld ?_
                try simp only [Act.put, sia, sc0, scs]
                refine takeF (i := 2) (v := .slice (some ⟨bM, oM, none⟩) M.length cM) (k := 137) rfl rfl (by kernel_rfl) (by kernel_rfl) (by kernel_rfl) (fun _ _ _ h => h) (Or.inl ⟨by rfl, fun z hz => by (clear hz; go_simp)⟩) hHeld ?_
                try simp only [Act.put, sia, sc0, scs]
                refine takeF (i := 3) (v := .int .i64 i) (k := 138) rfl rfl (by kernel_rfl) (by kernel_rfl) (by kernel_rfl) (fun _ _ _ h => h) (Or.inl ⟨by rfl, fun z hz => by (clear hz; go_simp)⟩) hHeld ?_
                try simp only [Act.put, sia, sc0, scs]
                refine takeF (i := 4) (v := .pointer (some ⟨bM, oM + i * 20, none⟩)) (k := 139) rfl rfl (by kernel_rfl) (by kernel_rfl) (by kernel_rfl) (fun _ _ _ h => h) (Or.inl ⟨by rfl, fun z hz => by (clear hz; go_simp)⟩) hHeld ?_
                try simp only [Act.put, sia, sc0, scs]
                refine takeF (i := 5) (v := .pointer (some ⟨bM, oM + i * 20, none⟩)) (k := 140) rfl rfl (by kernel_rfl) (by kernel_rfl) (by kernel_rfl) (fun _ _ _ h => h) (Or.inl ⟨by rfl, fun z hz => by (clear hz; go_simp)⟩) hHeld ?_
                try simp only [Act.put, sia, sc0, scs]
                refine takeF (i := 6) (v := x.id.agg) (k := 141) rfl rfl (by kernel_rfl) (by kernel_rfl) (by kernel_rfl) (fun _ _ _ h => h) (Or.inl ⟨by rfl, fun z hz => by (obtain ⟨z0, z1⟩ := hz; obtain ⟨y0, y1⟩ := z1.idAt HX.out; clear z0 z1; go_simp)⟩) hHeld ?_
                try simp only [Act.put, sia, sc0, scs]
                refine takeF (i := 7) (v := .slice (some ⟨bL, oL, none⟩) L.length cL) (k := 142) rfl rfl (by kernel_rfl) (by kernel_rfl) (by kernel_rfl) (fun _ _ _ h => h) (Or.inl ⟨by rfl, fun z hz => by (clear hz; go_simp)⟩) hHeld ?_
                try simp only [Act.put, sia, sc0, scs]
                refine takeF (i := 8) (v := .int .i64 k) (k := 143) rfl rfl (by kernel_rfl) (by kernel_rfl) (by kernel_rfl) (fun _ _ _ h => h) (Or.inl ⟨by rfl, fun z hz => by (clear hz; go_simp)⟩) hHeld ?_
                try simp only [Act.put, sia, sc0, scs]
                refine takeF (i := 9) (v := .pointer (some ⟨bL, oL + k * 20, none⟩)) (k := 144) rfl rfl (by kernel_rfl) (by kernel_rfl) (by kernel_rfl) (fun _ _ _ h => h) (Or.inl ⟨by rfl, fun z hz => by (clear hz; go_simp)⟩) hHeld ?_
                try simp only [Act.put, sia, sc0, scs]
                refine takeF (i := 10) (v := .pointer (some ⟨bL, oL + k * 20, none⟩)) (k := 145) rfl rfl (by kernel_rfl) (by kernel_rfl) (by kernel_rfl) (fun _ _ _ h => h) (Or.inl ⟨by rfl, fun z hz => by (clear hz; go_simp)⟩) hHeld ?_
                try simp only [Act.put, sia, sc0, scs]
                refine takeF (i := 11) (v := y.id.agg) (k := 146) rfl rfl (by kernel_rfl) (by kernel_rfl) (by kernel_rfl) (fun _ _ _ h => h) (Or.inl ⟨by rfl, fun z hz => by (obtain ⟨z0, z1⟩ := hz; obtain ⟨y0, y1⟩ := z0.idAt HY.out; clear z0 z1; go_simp)⟩) hHeld ?_
                try simp only [Act.put, sia, sc0, scs]
                refine takeF (i := 12) (v := .bool q) (k := 147) rfl rfl (by kernel_rfl) (by kernel_rfl) (by kernel_rfl) (fun _ _ _ h => h) (Or.inl ⟨by rfl, fun z hz => by (clear hz; have hq := HQ.out; go_simp)⟩) hHeld ?_
                try simp only [Act.put, sia, sc0, scs]
                refine takeF (i := 13) (v := .bool q) (k := 148) rfl rfl (by kernel_rfl) (by kernel_rfl) (by kernel_rfl) (fun _ _ _ h => h) (Or.inl ⟨by rfl, fun z hz => by (clear hz; go_simp)⟩) hHeld ?_
                try simp only [Act.put, sia, sc0, scs]
                refine takeF (i := 14) (v := .bool q) (k := 14) rfl rfl (by kernel_rfl) (by kernel_rfl) (by kernel_rfl) (fun _ _ _ h => h) (Or.inl ⟨by rfl, fun z hz => by (clear hz; go_simp)⟩) hHeld ?_
                try simp only [Act.put, sia, sc0, scs]
                refine wpAnyH_done (by kernel_rfl) ?_ _
                go_wp2_with fail
                go_meet
                case rel => exact ⟨by rw [Bool.false_or], (Below.refl _ _).drew⟩
             case rest =>
             obtain ⟨rfl, hb1⟩ := hcut
             obtain ⟨w7, hw7⟩ : ∃ x, x = wc := ⟨_, rfl⟩
             subst hw7
             have HU1 := Lib.hid (chain2 HU.out hb1); clear hb1
             have HRL1 := Lib.hid (HL5.out.below HU1.out)
             have HRM1 := Lib.hid (HM5.out.below HU1.out)
             clear HRL HRM
             go_upto_region 33 with fail
             cases g with
             | true =>
               go_quiet (fail)
               have HU2 := Lib.hid (Below.drewN' nq HU1.out)
               go_wp2_with fail
               refine ⟨⟨i + 1, hil, by go_num, by rw [HF2.out], by rw [HG2.out, HXG.out, Bool.true_or], HU2.out⟩, by simp [intOf]; omega⟩
             | false =>
               cases q with
               | true =>
                 refine wp_region_held_drew (S := (fun X => RdC X (some ⟨bL, oL, none⟩) L ∧ RdC X (some ⟨bM, oM, none⟩) M)) (by kernel_rfl) ⟨HRL1.out, HRM1.out⟩ (fun hHeld => ?_)
                 refine takeF (i := 0) (v := .bool false) (k := 149) rfl rfl (by kernel_rfl) (by kernel_rfl) (by kernel_rfl) (fun _ _ _ h => h) (Or.inl ⟨by rfl, fun z hz => by (clear hz; go_simp)⟩) hHeld ?_
                 try simp only [Act.put, sia, sc0, scs]
                 refine takeF (i := 1) (v := .bool false) (k := 150) rfl rfl (by kernel_rfl) (by kernel_rfl) (by kernel_rfl) (fun _ _ _ h => h) (Or.inl ⟨by rfl, fun z hz => by (clear hz; go_simp)⟩) hHeld ?_
                 try simp only [Act.put, sia, sc0, scs]
                 refine takeF (i := 2) (v := .slice (some ⟨bM, oM, none⟩) M.length cM) (k := 151) rfl rfl (by kernel_rfl) (by kernel_rfl) (by kernel_rfl) (fun _ _ _ h => h) (Or.inl ⟨by rfl, fun z hz => by (clear hz; go_simp)⟩) hHeld ?_
                 try simp only [Act.put, sia, sc0, scs]
                 refine takeF (i := 3) (v := .int .i64 i) (k := 152) rfl rfl (by kernel_rfl) (by kernel_rfl) (by kernel_rfl) (fun _ _ _ h => h) (Or.inl ⟨by rfl, fun z hz => by (clear hz; go_simp)⟩) hHeld ?_
                 try simp only [Act.put, sia, sc0, scs]
                 refine takeF (i := 4) (v := .pointer (some ⟨bM, oM + i * 20, none⟩)) (k := 153) rfl rfl (by kernel_rfl) (by kernel_rfl) (by kernel_rfl) (fun _ _ _ h => h) (Or.inl ⟨by rfl, fun z hz => by (clear hz; go_simp)⟩) hHeld ?_
                 try simp only [Act.put, sia, sc0, scs]
                 refine takeF (i := 5) (v := .pointer (some ⟨bM, oM + i * 20, none⟩)) (k := 154) rfl rfl (by kernel_rfl) (by kernel_rfl) (by kernel_rfl) (fun _ _ _ h => h) (Or.inl ⟨by rfl, fun z hz => by (clear hz; go_simp)⟩) hHeld ?_
                 try simp only [Act.put, sia, sc0, scs]
                 refine takeF (i := 6) (v := x.id.agg) (k := 155) rfl rfl (by kernel_rfl) (by kernel_rfl) (by kernel_rfl) (fun _ _ _ h => h) (Or.inl ⟨by rfl, fun z hz => by (obtain ⟨z0, z1⟩ := hz; obtain ⟨y0, y1⟩ := z1.idAt HX.out; clear z0 z1; go_simp)⟩) hHeld ?_
                 try simp only [Act.put, sia, sc0, scs]
                 refine takeF (i := 7) (v := .slice (some ⟨bL, oL, none⟩) L.length cL) (k := 156) rfl rfl (by kernel_rfl) (by kernel_rfl) (by kernel_rfl) (fun _ _ _ h => h) (Or.inl ⟨by rfl, fun z hz => by (clear hz; go_simp)⟩) hHeld ?_
                 try simp only [Act.put, sia, sc0, scs]
                 refine takeF (i := 8) (v := .int .i64 k) (k := 157) rfl rfl (by kernel_rfl) (by kernel_rfl) (by kernel_rfl) (fun _ _ _ h => h) (Or.inl ⟨by rfl, fun z hz => by (clear hz; go_simp)⟩) hHeld ?_
                 try simp only [Act.put, sia, sc0, scs]
                 refine takeF (i := 9) (v := .pointer (some ⟨bL, oL + k * 20, none⟩)) (k := 158) rfl rfl (by kernel_rfl) (by kernel_rfl) (by kernel_rfl) (fun _ _ _ h => h) (Or.inl ⟨by rfl, fun z hz => by (clear hz; go_simp)⟩) hHeld ?_
                 try simp only [Act.put, sia, sc0, scs]
                 refine takeF (i := 10) (v := .pointer (some ⟨bL, oL + k * 20, none⟩)) (k := 159) rfl rfl (by kernel_rfl) (by kernel_rfl) (by kernel_rfl) (fun _ _ _ h => h) (Or.inl ⟨by rfl, fun z hz => by (clear hz; go_simp)⟩) hHeld ?_
                 try simp only [Act.put, sia, sc0, scs]
                 refine takeF (i := 11) (v := y.id.agg) (k := 160) rfl rfl (by kernel_rfl) (by kernel_rfl) (by kernel_rfl) (fun _ _ _ h => h) (Or.inl ⟨by rfl, fun z hz => by (obtain ⟨z0, z1⟩ := hz; obtain ⟨y0, y1⟩ := z0.idAt HY.out; clear z0 z1; go_simp)⟩) hHeld ?_
                 try simp only [Act.put, sia, sc0, scs]
                 refine takeF (i := 12) (v := .bool true) (k := 161) rfl rfl (by kernel_rfl) (by kernel_rfl) (by kernel_rfl) (fun _ _ _ h => h) (Or.inl ⟨by rfl, fun z hz => by (clear hz; have hq := HQ.out; go_simp)⟩) hHeld ?_
                 try simp only [Act.put, sia, sc0, scs]
                 refine takeF (i := 13) (v := .bool true) (k := 162) rfl rfl (by kernel_rfl) (by kernel_rfl) (by kernel_rfl) (fun _ _ _ h => h) (Or.inl ⟨by rfl, fun z hz => by (clear hz; go_simp)⟩) hHeld ?_
                 try simp only [Act.put, sia, sc0, scs]
                 refine takeF (i := 14) (v := .slice (some ⟨bM, oM, none⟩) M.length cM) (k := 163) rfl rfl (by kernel_rfl) (by kernel_rfl) (by kernel_rfl) (fun _ _ _ h => h) (Or.inl ⟨by rfl, fun z hz => by (clear hz; go_simp)⟩) hHeld ?_
                 try simp only [Act.put, sia, sc0, scs]
                 refine takeF (i := 15) (v := .int .i64 i) (k := 164) rfl rfl (by kernel_rfl) (by kernel_rfl) (by kernel_rfl) (fun _ _ _ h => h) (Or.inl ⟨by rfl, fun z hz => by (clear hz; go_simp)⟩) hHeld ?_
                 try simp only [Act.put, sia, sc0, scs]
                 refine takeF (i := 16) (v := .pointer (some ⟨bM, oM + i * 20, none⟩)) (k := 165) rfl rfl (by kernel_rfl) (by kernel_rfl) (by kernel_rfl) (fun _ _ _ h => h) (Or.inl ⟨by rfl, fun z hz => by (clear hz; go_simp)⟩) hHeld ?_
                 try simp only [Act.put, sia, sc0, scs]
                 refine takeF (i := 17) (v := .pointer (some ⟨bM, oM + i * 20 + 19, none⟩)) (k := 166) rfl rfl (by kernel_rfl) (by kernel_rfl) (by kernel_rfl) (fun _ _ _ h => h) (Or.inl ⟨by rfl, fun z hz => by (clear hz; go_simp)⟩) hHeld ?_
                 try simp only [Act.put, sia, sc0, scs]
                 refine takeF (i := 18) (v := .bool xg) (k := 167) rfl rfl (by kernel_rfl) (by kernel_rfl) (by kernel_rfl) (fun _ _ _ h => h) (Or.inl ⟨by rfl, fun z hz => by (obtain ⟨z0, z1⟩ := hz; have hq := z1.goneAt HX.out; rw [HXG.out] at hq; clear z0 z1; go_simp)⟩) hHeld ?_
                 try simp only [Act.put, sia, sc0, scs]
                 refine takeF (i := 19) (v := .bool xg) (k := 168) rfl rfl (by kernel_rfl) (by kernel_rfl) (by kernel_rfl) (fun _ _ _ h => h) (Or.inl ⟨by rfl, fun z hz => by (clear hz; go_simp)⟩) hHeld ?_
                 try simp only [Act.put, sia, sc0, scs]
                 refine takeF (i := 20) (v := .bool xg) (k := 169) rfl rfl (by kernel_rfl) (by kernel_rfl) (by kernel_rfl) (fun _ _ _ h => h) (Or.inl ⟨by rfl, fun z hz => by (clear hz; go_simp)⟩) hHeld ?_
                 try simp only [Act.put, sia, sc0, scs]
                 refine takeF (i := 21) (v := .bool xg) (k := 15) rfl rfl (by kernel_rfl) (by kernel_rfl) (by kernel_rfl) (fun _ _ _ h => h) (Or.inl ⟨by rfl, fun z hz => by (clear hz; go_simp)⟩) hHeld ?_
                 try simp only [Act.put, sia, sc0, scs]
                 refine wpAnyH_done (by kernel_rfl) ?_ _
                 have HU2 := Lib.hid HU1.out.drew
                 go_wp2_with fail
                 refine ⟨⟨i + 1, hil, by go_num, by rw [HF2.out], by rw [HG2.out, HXG.out, Bool.false_or, Bool.true_and], HU2.out⟩, by simp [intOf]; omega⟩
               | false =>
                 refine wp_region_held_drew (S := (fun X => RdC X (some ⟨bL, oL, none⟩) L ∧ RdC X (some ⟨bM, oM, none⟩) M)) (by kernel_rfl) ⟨HRL1.out, HRM1.out⟩ (fun hHeld => ?_)
                 refine takeF (i := 0) (v := .bool false) (k := 149) rfl rfl (by kernel_rfl) (by kernel_rfl) (by kernel_rfl) (fun _ _ _ h => h) (Or.inl ⟨by rfl, fun z hz => by (clear hz; go_simp)⟩) hHeld ?_
                 try simp only [Act.put, sia, sc0, scs]
                 refine takeF (i := 1) (v := .bool false) (k := 150) rfl rfl (by kernel_rfl) (by kernel_rfl) (by kernel_rfl) (fun _ _ _ h => h) (Or.inl ⟨by rfl, fun z hz => by (clear hz; go_simp)⟩) hHeld ?_
                 try simp only [Act.put, sia, sc0, scs]
                 refine takeF (i := 2) (v := .slice (some ⟨bM, oM, none⟩) M.length cM) (k := 151) rfl rfl (by kernel_rfl) (by kernel_rfl) (by kernel_rfl) (fun _ _ _ h => h) (Or.inl ⟨by rfl, fun z hz => by (clear hz; go_simp)⟩) hHeld ?_
                 try simp only [Act.put, sia, sc0, scs]
                 refine takeF (i := 3) (v := .int .i64 i) (k := 152) rfl rfl (by kernel_rfl) (by kernel_rfl) (by kernel_rfl) (fun _ _ _ h => h) (Or.inl ⟨by rfl, fun z hz => by (clear hz; go_simp)⟩) hHeld ?_
                 try simp only [Act.put, sia, sc0, scs]
                 refine takeF (i := 4) (v := .pointer (some ⟨bM, oM + i * 20, none⟩)) (k := 153) rfl rfl (by kernel_rfl) (by kernel_rfl) (by kernel_rfl) (fun _ _ _ h => h) (Or.inl ⟨by rfl, fun z hz => by (clear hz; go_simp)⟩) hHeld ?_
                 try simp only [Act.put, sia, sc0, scs]
                 refine takeF (i := 5) (v := .pointer (some ⟨bM, oM + i * 20, none⟩)) (k := 154) rfl rfl (by kernel_rfl) (by kernel_rfl) (by kernel_rfl) (fun _ _ _ h => h) (Or.inl ⟨by rfl, fun z hz => by (clear hz; go_simp)⟩) hHeld ?_
                 try simp only [Act.put, sia, sc0, scs]
                 refine takeF (i := 6) (v := x.id.agg) (k := 155) rfl rfl (by kernel_rfl) (by kernel_rfl) (by kernel_rfl) (fun _ _ _ h => h) (Or.inl ⟨by rfl, fun z hz => by (obtain ⟨z0, z1⟩ := hz; obtain ⟨y0, y1⟩ := z1.idAt HX.out; clear z0 z1; go_simp)⟩) hHeld ?_
                 try simp only [Act.put, sia, sc0, scs]
                 refine takeF (i := 7) (v := .slice (some ⟨bL, oL, none⟩) L.length cL) (k := 156) rfl rfl (by kernel_rfl) (by kernel_rfl) (by kernel_rfl) (fun _ _ _ h => h) (Or.inl ⟨by rfl, fun z hz => by (clear hz; go_simp)⟩) hHeld ?_
                 try simp only [Act.put, sia, sc0, scs]
                 refine takeF (i := 8) (v := .int .i64 k) (k := 157) rfl rfl (by kernel_rfl) (by kernel_rfl) (by kernel_rfl) (fun _ _ _ h => h) (Or.inl ⟨by rfl, fun z hz => by (clear hz; go_simp)⟩) hHeld ?_
                 try simp only [Act.put, sia, sc0, scs]
                 refine takeF (i := 9) (v := .pointer (some ⟨bL, oL + k * 20, none⟩)) (k := 158) rfl rfl (by kernel_rfl) (by kernel_rfl) (by kernel_rfl) (fun _ _ _ h => h) (Or.inl ⟨by rfl, fun z hz => by (clear hz; go_simp)⟩) hHeld ?_
                 try simp only [Act.put, sia, sc0, scs]
                 refine takeF (i := 10) (v := .pointer (some ⟨bL, oL + k * 20, none⟩)) (k := 159) rfl rfl (by kernel_rfl) (by kernel_rfl) (by kernel_rfl) (fun _ _ _ h => h) (Or.inl ⟨by rfl, fun z hz => by (clear hz; go_simp)⟩) hHeld ?_
                 try simp only [Act.put, sia, sc0, scs]
                 refine takeF (i := 11) (v := y.id.agg) (k := 160) rfl rfl (by kernel_rfl) (by kernel_rfl) (by kernel_rfl) (fun _ _ _ h => h) (Or.inl ⟨by rfl, fun z hz => by (obtain ⟨z0, z1⟩ := hz; obtain ⟨y0, y1⟩ := z0.idAt HY.out; clear z0 z1; go_simp)⟩) hHeld ?_
                 try simp only [Act.put, sia, sc0, scs]
                 refine takeF (i := 12) (v := .bool false) (k := 161) rfl rfl (by kernel_rfl) (by kernel_rfl) (by kernel_rfl) (fun _ _ _ h => h) (Or.inl ⟨by rfl, fun z hz => by (clear hz; have hq := HQ.out; go_simp)⟩) hHeld ?_
                 try simp only [Act.put, sia, sc0, scs]
                 refine takeF (i := 13) (v := .bool false) (k := 162) rfl rfl (by kernel_rfl) (by kernel_rfl) (by kernel_rfl) (fun _ _ _ h => h) (Or.inl ⟨by rfl, fun z hz => by (clear hz; go_simp)⟩) hHeld ?_
                 try simp only [Act.put, sia, sc0, scs]
                 refine takeF (i := 14) (v := undef) (k := 163) rfl rfl (by kernel_rfl) (by kernel_rfl) (by kernel_rfl) (fun _ _ _ h => h) (Or.inr ⟨by rfl, rfl⟩) hHeld ?_
                 try simp only [Act.put, sia, sc0, scs]
                 refine takeF (i := 15) (v := undef) (k := 164) rfl rfl (by kernel_rfl) (by kernel_rfl) (by kernel_rfl) (fun _ _ _ h => h) (Or.inr ⟨by rfl, rfl⟩) hHeld ?_
                 try simp only [Act.put, sia, sc0, scs]
                 refine takeF (i := 16) (v := undef) (k := 165) rfl rfl (by kernel_rfl) (by kernel_rfl) (by kernel_rfl) (fun _ _ _ h => h) (Or.inr ⟨by rfl, rfl⟩) hHeld ?_
                 try simp only [Act.put, sia, sc0, scs]
                 refine takeF (i := 17) (v := undef) (k := 166) rfl rfl (by kernel_rfl) (by kernel_rfl) (by kernel_rfl) (fun _ _ _ h => h) (Or.inr ⟨by rfl, rfl⟩) hHeld ?_
                 try simp only [Act.put, sia, sc0, scs]
                 refine takeF (i := 18) (v := undef) (k := 167) rfl rfl (by kernel_rfl) (by kernel_rfl) (by kernel_rfl) (fun _ _ _ h => h) (Or.inr ⟨by rfl, rfl⟩) hHeld ?_
                 try simp only [Act.put, sia, sc0, scs]
                 refine takeF (i := 19) (v := .bool false) (k := 168) rfl rfl (by kernel_rfl) (by kernel_rfl) (by kernel_rfl) (fun _ _ _ h => h) (Or.inl ⟨by rfl, fun z hz => by (clear hz; go_simp)⟩) hHeld ?_
                 try simp only [Act.put, sia, sc0, scs]
                 refine takeF (i := 20) (v := .bool false) (k := 169) rfl rfl (by kernel_rfl) (by kernel_rfl) (by kernel_rfl) (fun _ _ _ h => h) (Or.inl ⟨by rfl, fun z hz => by (clear hz; go_simp)⟩) hHeld ?_
                 try simp only [Act.put, sia, sc0, scs]
                 refine takeF (i := 21) (v := .bool false) (k := 15) rfl rfl (by kernel_rfl) (by kernel_rfl) (by kernel_rfl) (fun _ _ _ h => h) (Or.inl ⟨by rfl, fun z hz => by (clear hz; go_simp)⟩) hHeld ?_
                 try simp only [Act.put, sia, sc0, scs]
                 refine wpAnyH_done (by kernel_rfl) ?_ _
                 have HU2 := Lib.hid HU1.out.drew
                 go_wp2_with fail
                 refine ⟨⟨i + 1, hil, by go_num, by rw [HF2.out], by rw [HG2.out, HXG.out]; rfl, HU2.out⟩, by simp [intOf]; omega⟩
           · have hie : i = M.length := by omega
             have hi1 : ¬ (i : Int) < M.length := by omega
             have hft : f = true := by rw [HF.out, hie, List.take_length]; exact HFR.out
             have hgt : g = y.gone := by rw [HGG.out, hie, List.take_length]; exact HGO.out
             subst hft hgt
             obtain ⟨f0, f1⟩ := (HL5.out.below HU.out).afterAt HY.out
             obtain ⟨s0, hs0⟩ : ∃ q, sEq y.after.seat y.after.count 0 0 = q := ⟨_, rfl⟩
             have HS0 := Lib.hid hs0
             clear HF HGG HFR HGO
             have hbl := World.block_lt_of_cell? _ _ f0
             go_wp2_with fail
             try rw [hs0]
             clear hs0 f0 f1 hbl
             go_loopw [17, 18] (fun v17 v18 wr => ∃ j : Nat, j ≤ k ∧ v18 = .int .i64 j ∧ v17 = .bool (s0 || (L.take j).any fun p => decide (p.id = y.after)) ∧ Below w5.heap.size w5 wr) (fun _ v18 _ => k - (intOf v18).toNat)
             case atStart => exact ⟨0, Nat.zero_le _, rfl, by simp, HU.out⟩
             case round =>
              obtain ⟨j, hj, rfl, h17, hb⟩ := hrel
              have HT := Lib.hid hb; clear hb
              obtain ⟨e, he⟩ : ∃ e, e = (s0 || (L.take j).any fun p => decide (p.id = y.after)) := ⟨_, rfl⟩
              rw [← he] at h17
              subst h17
              have HE := Lib.hid he; clear he
              by_cases hjk : j < k
              · have hj1 : (j : Int) < k := by omega
                have hj2 : (j : Int) < L.length := by omega
                have hj0 : (0 : Int) ≤ j := by omega
                obtain ⟨p, hp⟩ := get_of_lt (show j < L.length by omega)
                obtain ⟨q, hq⟩ : ∃ q, sEq p.id.seat p.id.count y.after.seat y.after.count = q := ⟨_, rfl⟩
                have hqd : decide (p.id = y.after) = q := by rw [← hq, sEq_iff]
                have hf2 := any_take (fun p => decide (p.id = y.after)) hp
                rw [hqd] at hf2
                have he2 : (s0 || (L.take (j + 1)).any fun p => decide (p.id = y.after)) = (e || q) := by rw [hf2, HE.out, Bool.or_assoc]
                have HE2 := Lib.hid he2; clear he2 hf2
                have HP := Lib.hid hp; clear hp
                have HQ := Lib.hid hq; clear hq hqd
                have HRL := Lib.hid (HL5.out.below HT.out)
                have HRM := Lib.hid (show RdC wr (some ⟨bL, oL, none⟩) L from HRL.out)
                go_upto_region 38 with fail
                cases e with
                | true =>
                  go_quiet (fail)
                  go_wp2_with fail
                  refine ⟨⟨j + 1, hjk, by go_num, by rw [HE2.out]; rfl, Below.drewN' _ HT.out⟩, by simp [intOf]; omega⟩
                | false =>
                  refine wp_region_held_drew (S := (fun X => RdC X (some ⟨bL, oL, none⟩) L ∧ RdC X (some ⟨bL, oL, none⟩) L)) (by kernel_rfl) ⟨HRL.out, HRM.out⟩ (fun hHeld => ?_)
                  refine takeF (i := 0) (v := .bool false) (k := 182) rfl rfl (by kernel_rfl) (by kernel_rfl) (by kernel_rfl) (fun _ _ _ h => h) (Or.inl ⟨by rfl, fun z hz => by (clear hz; go_simp)⟩) hHeld ?_
                  try simp only [Act.put, sia, sc0, scs]
                  refine takeF (i := 1) (v := .bool false) (k := 183) rfl rfl (by kernel_rfl) (by kernel_rfl) (by kernel_rfl) (fun _ _ _ h => h) (Or.inl ⟨by rfl, fun z hz => by (clear hz; go_simp)⟩) hHeld ?_
                  try simp only [Act.put, sia, sc0, scs]
                  refine takeF (i := 2) (v := .slice (some ⟨bL, oL, none⟩) L.length cL) (k := 184) rfl rfl (by kernel_rfl) (by kernel_rfl) (by kernel_rfl) (fun _ _ _ h => h) (Or.inl ⟨by rfl, fun z hz => by (clear hz; go_simp)⟩) hHeld ?_
                  try simp only [Act.put, sia, sc0, scs]
                  refine takeF (i := 3) (v := .int .i64 j) (k := 185) rfl rfl (by kernel_rfl) (by kernel_rfl) (by kernel_rfl) (fun _ _ _ h => h) (Or.inl ⟨by rfl, fun z hz => by (clear hz; go_simp)⟩) hHeld ?_
                  try simp only [Act.put, sia, sc0, scs]
                  refine takeF (i := 4) (v := .pointer (some ⟨bL, oL + j * 20, none⟩)) (k := 186) rfl rfl (by kernel_rfl) (by kernel_rfl) (by kernel_rfl) (fun _ _ _ h => h) (Or.inl ⟨by rfl, fun z hz => by (clear hz; go_simp)⟩) hHeld ?_
                  try simp only [Act.put, sia, sc0, scs]
                  refine takeF (i := 5) (v := .pointer (some ⟨bL, oL + j * 20, none⟩)) (k := 187) rfl rfl (by kernel_rfl) (by kernel_rfl) (by kernel_rfl) (fun _ _ _ h => h) (Or.inl ⟨by rfl, fun z hz => by (clear hz; go_simp)⟩) hHeld ?_
                  try simp only [Act.put, sia, sc0, scs]
                  refine takeF (i := 6) (v := p.id.agg) (k := 188) rfl rfl (by kernel_rfl) (by kernel_rfl) (by kernel_rfl) (fun _ _ _ h => h) (Or.inl ⟨by rfl, fun z hz => by (obtain ⟨z0, z1⟩ := hz; obtain ⟨y0, y1⟩ := z0.idAt HP.out; clear z0 z1; go_simp)⟩) hHeld ?_
                  try simp only [Act.put, sia, sc0, scs]
                  refine takeF (i := 7) (v := .slice (some ⟨bL, oL, none⟩) L.length cL) (k := 189) rfl rfl (by kernel_rfl) (by kernel_rfl) (by kernel_rfl) (fun _ _ _ h => h) (Or.inl ⟨by rfl, fun z hz => by (clear hz; go_simp)⟩) hHeld ?_
                  try simp only [Act.put, sia, sc0, scs]
                  refine takeF (i := 8) (v := .int .i64 k) (k := 190) rfl rfl (by kernel_rfl) (by kernel_rfl) (by kernel_rfl) (fun _ _ _ h => h) (Or.inl ⟨by rfl, fun z hz => by (clear hz; go_simp)⟩) hHeld ?_
                  try simp only [Act.put, sia, sc0, scs]
                  refine takeF (i := 9) (v := .pointer (some ⟨bL, oL + k * 20, none⟩)) (k := 191) rfl rfl (by kernel_rfl) (by kernel_rfl) (by kernel_rfl) (fun _ _ _ h => h) (Or.inl ⟨by rfl, fun z hz => by (clear hz; go_simp)⟩) hHeld ?_
                  try simp only [Act.put, sia, sc0, scs]
                  refine takeF (i := 10) (v := .pointer (some ⟨bL, oL + k * 20 + 2, none⟩)) (k := 192) rfl rfl (by kernel_rfl) (by kernel_rfl) (by kernel_rfl) (fun _ _ _ h => h) (Or.inl ⟨by rfl, fun z hz => by (clear hz; go_simp)⟩) hHeld ?_
                  try simp only [Act.put, sia, sc0, scs]
                  refine takeF (i := 11) (v := y.after.agg) (k := 193) rfl rfl (by kernel_rfl) (by kernel_rfl) (by kernel_rfl) (fun _ _ _ h => h) (Or.inl ⟨by rfl, fun z hz => by (obtain ⟨z0, z1⟩ := hz; obtain ⟨y0, y1⟩ := z0.afterAt HY.out; clear z0 z1; go_simp)⟩) hHeld ?_
                  try simp only [Act.put, sia, sc0, scs]
                  refine takeF (i := 12) (v := .bool q) (k := 194) rfl rfl (by kernel_rfl) (by kernel_rfl) (by kernel_rfl) (fun _ _ _ h => h) (Or.inl ⟨by rfl, fun z hz => by (clear hz; have hq := HQ.out; go_simp)⟩) hHeld ?_
                  try simp only [Act.put, sia, sc0, scs]
                  refine takeF (i := 13) (v := .bool q) (k := 195) rfl rfl (by kernel_rfl) (by kernel_rfl) (by kernel_rfl) (fun _ _ _ h => h) (Or.inl ⟨by rfl, fun z hz => by (clear hz; go_simp)⟩) hHeld ?_
                  try simp only [Act.put, sia, sc0, scs]
                  refine takeF (i := 14) (v := .bool q) (k := 17) rfl rfl (by kernel_rfl) (by kernel_rfl) (by kernel_rfl) (fun _ _ _ h => h) (Or.inl ⟨by rfl, fun z hz => by (clear hz; go_simp)⟩) hHeld ?_
                  try simp only [Act.put, sia, sc0, scs]
                  refine wpAnyH_done (by kernel_rfl) ?_ _
                  go_wp2_with fail
                  refine ⟨⟨j + 1, hjk, by go_num, by rw [HE2.out, Bool.false_or], HT.out.drew⟩, by simp [intOf]; omega⟩
              · have hje : j = k := by omega
                have hj1 : ¬ (j : Int) < k := by omega
                have het : e = true := by
                 rw [HE.out, hje]
                 have := HAF.out
                 rw [← sEq_iff] at this
                 rw [← HS0.out]
                 exact this
                subst het
                have hgn := (HL5.out.below HT.out).goneAt HY.out
                have hbl := World.block_lt_of_cell? _ _ hgn
                obtain ⟨yg, hyg⟩ : ∃ g, y.gone = g := ⟨_, rfl⟩
                rw [hyg] at hgn
                rw [hyg]
                have HYG := Lib.hid hyg; clear hyg
                clear HE
                cases yg with
                | true =>
                  go_wp2_with fail
                  refine ⟨⟨k + 1, hkl, by go_num, HT.out⟩, by simp [intOf]; omega⟩
                | false =>
                  go_wp2_with fail
                  refine ⟨⟨k + 1, hkl, by go_num, HT.out⟩, by simp [intOf]; omega⟩
        · have hke : k = L.length := by omega
          have hk1 : ¬ (k : Int) < L.length := by omega
          go_wp2_with fail
          go_ret
          exact ⟨rfl, chain2 HBW.out HV.out⟩
theorem joins_law (a : List Clause) (A : Option Addr) (c : Nat) (b : List Clause) (B : Option Addr) (d : Nat) (w : World) (m : Int) (ha : RdC w A a) (hla : a.length ≤ maxLen) (hfa : ∀ x ∈ a, x.patch.Fits) (hb : RdC w B b) (hlb : b.length ≤ maxLen) (hfb : ∀ x ∈ b, x.patch.Fits) (hg : w.cell? ⟨0, 0, none⟩ = some (.int .i64 m)) : Calls Tryz.prog 5 #[.slice A a.length c, .slice B b.length d] w fun e w' => e = .returned (.bool true) ∧ Below w.heap.size w w' := by
 cases hfew : (fewC [] a 20 && fewC [] b 20) with
 | false => exact joi_f a A c b B d w m ha hla hfa hb hlb hfb hg hfew
 | true =>
   obtain ⟨J, hJ⟩ : ∃ J, joinF a b = J := ⟨_, rfl⟩
   obtain ⟨L, e⟩ := J
   by_cases he : e = 0
   · subst he
     exact joi_t a A c b B d w m ha hla hfa hb hlb hfb hg hfew L hJ
   · have h1 : L = [] := by have := joins_err (a := a) (b := b) (by rw [hJ]; exact he); rw [hJ] at this; exact this
     subst h1
     exact joi_e a A c b B d w m ha hla hfa hb hlb hfb hg hfew e hJ (by simpa using he)
end Go.Proofs.YtecnlfaholmpoaaGreat
