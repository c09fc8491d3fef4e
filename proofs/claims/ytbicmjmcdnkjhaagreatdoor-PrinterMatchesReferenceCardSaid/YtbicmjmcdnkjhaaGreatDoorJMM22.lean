/- The reference's northStart: the text of a condition. -/
import Derived.Test.YtbicmjmcdnkjhaaGreatDoorJMM1
import Derived.Test.YtbicmjmcdnkjhaaGreatDoorJMM20
import Derived.Test.YtbicmjmcdnkjhaaGreatDoorJMM21
import Derived.Deep.RegionHeld3
set_option linter.unusedVariables false
set_option linter.unusedSimpArgs false
set_option maxRecDepth 20000
set_option maxHeartbeats 16000000
namespace Go.Proofs.YtbicmjmcdnkjhaaGreatDoor
open Go.RowKit
attribute [local go_sem ↓] Go.wp_at_zero Go.wp_at_succ
attribute [local go_sem] bcat
theorem rnst_any : ∀ (N : Nat) (t : Tree) (cs : List Value) (w : World), t.size ≤ N → t.size ≤ 900 → shapeS t = true → Sh6 (namesS t) → RdX false w cs (up t) →
 Calls Tryz.prog 42 #[.agg cs.toArray] w fun e w' => e = .returned (vs (rS t)) ∧ Below w.heap.size w w' := by
 intro N
 induction N with
 | zero =>
   intro t cs w hN
   have := tree_pos t
   omega
 | succ N ih =>
   intro t cs w hN hz hs hn hr
   have IH := Hi ih
   obtain ⟨op, name, cm, m, ks⟩ := t
   rw [up] at hr
   obtain ⟨A1, p1, rfl, -, hk1⟩ := hr
   have HK := Hi hk1
   rw [ups_len] at *
   have hkn := len_sizes ks
   simp only [Tree.size] at hN hz
   obtain ⟨hop, h3, h5, h4⟩ := shapeS_op hs
   rw [namesS] at hn
   have HNR := Hi hn.right
   have HSH := Hi h4
   have HLK := Hi (rSs_len ks (by omega) h4 hn.right)
   obtain ⟨T, hT⟩ : ∃ T, rS (.mk op name cm m ks) = T := ⟨_, rfl⟩
   have HT := Hi hT
   rw [hT]
   simp only [tcX]
   obtain ⟨oi, hoi⟩ : ∃ oi : Int, (op : Int) = oi := ⟨_, rfl⟩
   rw [hoi]
   have hbx := heap_alloc_new w (.cells #[.int .i64 oi, vs name, .int .i64 (m : Int), .slice A1 ks.length p1] 28)
   have HBX := Hi hbx
   have c0 := cOb (o := 0) hbx rfl
   have c1 := cOb (o := 1) hbx rfl
   have c2 := cOb (o := 2) hbx rfl
   have c3 := cOb (o := 3) hbx rfl
   have l0 := lHp hbx
   have HW0 := Hi (belowA w (.cells #[.int .i64 oi, vs name, .int .i64 (m : Int), .slice A1 ks.length p1] 28))
   clear ih hs hk1 h4 hT hbx
   have hop2 : op = 1 ∨ op = 2 ∨ op = 3 ∨ (4 ≤ op ∧ op ≤ 7) ∨ (8 ≤ op ∧ op ≤ 9) := by omega
   rcases hop2 with rfl | rfl | rfl | hop2 | hop2
   · obtain rfl : oi = 1 := by rw [← hoi]; rfl
     go_enter Tryz.func42, Tryz.ntmps42
     go_wp2_with fail
     go_ret
     exact ⟨by rw [← HT.out, rS]; rfl, HW0.out⟩
   · obtain rfl : oi = 2 := by rw [← hoi]; rfl
     go_enter Tryz.func42, Tryz.ntmps42
     go_wp2_with fail
     go_ret
     exact ⟨by rw [← HT.out, rS]; rfl, HW0.out⟩
   · obtain rfl : oi = 3 := by rw [← hoi]; rfl
     have hdl := dec_len (n := m) (by omega)
     have HD : Hid (∀ wx, Calls Tryz.prog 39 #[.int .i64 m] wx fun e w' => e = .returned (vs (dec m)) ∧ wx = w') := Hi (fun wx => rdec_any m wx (by omega))
     have HTX : Hid ([100, 97, 121, 32] ++ dec m = T) := Hi (by rw [← HT.out, rS]; rfl)
     generalize dec m = dm at *
     go_enter Tryz.func42, Tryz.ntmps42
     go_wp2_with fail
     refine (HD.out _).mono ?_
     rintro e w' ⟨rfl, rfl⟩
     go_wp2_with fail
     go_ret
     exact ⟨by rw [← HTX.out]; exact congrArg (fun x => Ending.returned (Value.string x)) (bcat [100, 97, 121, 32] dm), HW0.out⟩
   · have hcs : op = 4 ∨ op = 5 ∨ op = 6 ∨ op = 7 := by omega
     have hnl : name.length ≤ 60 := own_len (r := namesSs ks) (by rw [if_pos hcs] at hn; exact hn)
     clear hop2
     rcases hcs with rfl | rfl | rfl | rfl
     · obtain rfl : oi = 4 := by rw [← hoi]; rfl
       go_enter Tryz.func42, Tryz.ntmps42
       go_wp2_with fail
       go_region
       go_wp2_with fail
       go_ret
       exact ⟨by rw [← HT.out, rS]; simp [startW], (HW0.out.trans (((Below.refl _ _).alloc (lR _) _).mono HW0.out.size)).drew⟩
     · obtain rfl : oi = 5 := by rw [← hoi]; rfl
       go_enter Tryz.func42, Tryz.ntmps42
       go_wp2_with fail
       go_region
       go_wp2_with fail
       go_ret
       exact ⟨by rw [← HT.out, rS]; simp [startW], (HW0.out.trans (((Below.refl _ _).alloc (lR _) _).mono HW0.out.size)).drew⟩
     · obtain rfl : oi = 6 := by rw [← hoi]; rfl
       go_enter Tryz.func42, Tryz.ntmps42
       go_wp2_with fail
       go_region
       go_wp2_with fail
       go_ret
       exact ⟨by rw [← HT.out, rS]; simp [startW], (HW0.out.trans (((Below.refl _ _).alloc (lR _) _).mono HW0.out.size)).drew⟩
     · obtain rfl : oi = 7 := by rw [← hoi]; rfl
       go_enter Tryz.func42, Tryz.ntmps42
       go_wp2_with fail
       go_region
       go_wp2_with fail
       go_ret
       exact ⟨by rw [← HT.out, rS]; simp [startW], (HW0.out.trans (((Below.refl _ _).alloc (lR _) _).mono HW0.out.size)).drew⟩
   · have hns : ¬ oi = 1 ∧ ¬ oi = 2 ∧ ¬ oi = 3 ∧ ¬ oi = 4 ∧ ¬ oi = 5 ∧ ¬ oi = 6 ∧ ¬ oi = 7 := by omega
     obtain ⟨i1, i2, i3, i4, i5, i6, i7⟩ := hns
     have q1 : (oi == 1) = false := by simpa using i1
     have q2 : (oi == 2) = false := by simpa using i2
     have q3 : (oi == 3) = false := by simpa using i3
     have q4 : (oi == 4) = false := by simpa using i4
     have q5 : (oi == 5) = false := by simpa using i5
     have q6 : (oi == 6) = false := by simpa using i6
     have q7 : (oi == 7) = false := by simpa using i7
     obtain ⟨b, hb⟩ : ∃ b, decide (op = 9) = b := ⟨_, rfl⟩
     have HOI := Hi hoi
     have HBB : Hid ((oi != 9) = !b) := Hi (by rw [← hb, ← hoi]; rw [Bool.eq_iff_iff]; simp; omega)
     clear hoi c0 c1 c2 c3
     go_enter Tryz.func42, Tryz.ntmps42
     have c0 := cOb (o := 0) HBX.out rfl
     go_wp2_with fail
     have HST := Hi (RqSt.start w #[.int .i64 oi, vs name, .int .i64 (m : Int), .slice A1 ks.length p1] 28)
     generalize (w.alloc (.cells #[.int .i64 oi, vs name, .int .i64 (m : Int), .slice A1 ks.length p1] 28)) = w0 at *
     go_loopw [3, 4] (fun v3 v4 wr => ∃ k : Nat, k ≤ ks.length ∧ v4 = .int .i64 k ∧ RqSt w wr #[.int .i64 oi, vs name, .int .i64 (m : Int), .slice A1 ks.length p1] 28 v3 (rSs b (ks.take k))) (fun _ v4 _ => ks.length - (intOf v4).toNat)
     case atStart => exact ⟨0, Nat.zero_le _, rfl, by rw [List.take_zero, rSs]; exact HST.out⟩
     case round =>
      obtain ⟨k, hk, rfl, hst⟩ := hrel
      have HR := Hi hst
      have d0 : wr.cell? ⟨w.heap.size, 0, none⟩ = some (.int .i64 oi) := cOb (o := 0) hst.blk rfl
      have d3 : wr.cell? ⟨w.heap.size, 3, none⟩ = some (.slice A1 ks.length p1) := cOb (o := 3) hst.blk rfl
      have dl := lHp hst.blk
      by_cases hlt : k < ks.length
      · obtain ⟨Av, nv, cv, rfl⟩ := hst.own.sl
        clear hst
        obtain ⟨t, ht⟩ := gLt hlt
        have hne : ups ks ≠ [] := by
         intro e
         have := congrArg List.length e
         rw [ups_len, List.length_nil] at this
         omega
        obtain ⟨bk, ok, rfl, hbk, hkd⟩ := HK.out.resolve_left hne
        obtain ⟨cs', hcs, hrt⟩ := hkd.kids ht
        have hts := size_of_kid ht
        have hsn := rSs_snoc b ht
        have hrl : (rSs b (ks.take k)).length = k := by rw [rSs_ln, List.length_take, Nat.min_eq_left hk]
        have hHC : ∀ wx, Below w.heap.size w wx → Calls Tryz.prog 42 #[.agg cs'.toArray] wx fun e w' => e = .returned (vs (rS t)) ∧ Below wx.heap.size wx w' := fun wx hx => IH.out t cs' wx (by omega) (by omega) (shapeSs_get HSH.out ht) (namesSs_kid ht HNR.out) (hrt.keep hx)
        have hXl := (rS_len t (by omega) (shapeSs_get HSH.out ht) (namesSs_kid ht HNR.out)).1
        obtain ⟨X, hX⟩ : ∃ X, rS t = X := ⟨_, rfl⟩
        rw [hX] at hHC hXl hsn
        have HC := Hi hHC
        have HSN := Hi hsn
        have hX900 : X.length ≤ 90000 := by omega
        clear hX hsn hHC hXl
        obtain ⟨o1, n1, c1, m1, k1⟩ := t
        rw [up] at hrt
        obtain ⟨B1, q1, rfl, -, -⟩ := hrt
        rw [ups_len] at hcs HC
        obtain ⟨kl, hkl⟩ : ∃ kl, k1.length = kl := ⟨_, rfl⟩
        obtain ⟨i1, hi1⟩ : ∃ i1 : Int, (o1 : Int) = i1 := ⟨_, rfl⟩
        obtain ⟨d1, hd1⟩ : ∃ d1 : Int, (c1 : Int) = d1 := ⟨_, rfl⟩
        obtain ⟨mi, hmi⟩ : ∃ mi : Int, (m1 : Int) = mi := ⟨_, rfl⟩
        have HUP : Hid (tcX false (o1 : Int) n1 (c1 : Int) (m1 : Int) (.slice B1 k1.length q1) = [.int .i64 i1, vs n1, .int .i64 mi, .slice B1 kl q1]) := Hi (by rw [hkl, hi1, hd1, hmi]; rfl)
        rw [HUP.out] at hcs HC
        have HWI : Hid (wrapB b (.mk o1 n1 c1 m1 k1) 8 9 X = if i1 = 9 ∨ (i1 = 8 ∧ b = false) then 40 :: (X ++ [41]) else X) := Hi (by
         rw [← hi1]
         unfold wrapB
         have e1 : ((Tree.mk o1 n1 c1 m1 k1).op = 9 ∨ ((Tree.mk o1 n1 c1 m1 k1).op = 8 ∧ b = false)) ↔ ((o1 : Int) = 9 ∨ ((o1 : Int) = 8 ∧ b = false)) := by
          show (o1 = 9 ∨ (o1 = 8 ∧ b = false)) ↔ _
          constructor
          · rintro (h | h)
            · exact Or.inl (by omega)
            · exact Or.inr ⟨by omega, h.2⟩
          · rintro (h | h)
            · exact Or.inl (by omega)
            · exact Or.inr ⟨by omega, h.2⟩
         by_cases h : ((Tree.mk o1 n1 c1 m1 k1).op = 9 ∨ ((Tree.mk o1 n1 c1 m1 k1).op = 8 ∧ b = false))
         · rw [if_pos h, if_pos (e1.1 h)]
         · rw [if_neg h, if_neg (fun h' => h (e1.2 h'))])
        obtain ⟨WX, hWX⟩ : ∃ x, wrapB b (.mk o1 n1 c1 m1 k1) 8 9 X = x := ⟨_, rfl⟩
        rw [hWX] at HSN HWI
        clear hkl hi1 hd1 hmi hWX
        have z0 : wr.cell? ⟨bk, ok + k * 4, none⟩ = some (.int .i64 i1) := (HR.out.bel.cell (p := ⟨bk, ok + k * 4, none⟩) hbk).trans (hcs 0 _ rfl)
        have z1 : wr.cell? ⟨bk, ok + k * 4 + 1, none⟩ = some (vs n1) := (HR.out.bel.cell (p := ⟨bk, ok + k * 4 + 1, none⟩) hbk).trans (hcs 1 _ rfl)
        have z2 : wr.cell? ⟨bk, ok + k * 4 + 2, none⟩ = some (.int .i64 mi) := (HR.out.bel.cell (p := ⟨bk, ok + k * 4 + 2, none⟩) hbk).trans (hcs 2 _ rfl)
        have z3 : wr.cell? ⟨bk, ok + k * 4 + 3, none⟩ = some (.slice B1 kl q1) := (HR.out.bel.cell (p := ⟨bk, ok + k * 4 + 3, none⟩) hbk).trans (hcs 3 _ rfl)
        have hk1 : (k : Int) < ks.length := by omega
        have hk0 : (0 : Int) ≤ k := by omega
        have hbl : bk < wr.heap.size := Nat.lt_of_lt_of_le hbk HR.out.bel.size
        clear hcs hkd hne ht
        go_wp2_with fail
        refine (HC.out _ (HR.out.bel.trans ((belowA wr _).mono HR.out.bel.size))).mono ?_
        rintro e w2 ⟨rfl, hb2⟩
        have H2 := Hi (HR.out.step ((belowA wr _).trans (hb2.mono (by simp))))
        have y0 : w2.cell? ⟨w.heap.size, 0, none⟩ = some (.int .i64 oi) := cOb (o := 0) H2.out.blk rfl
        have e0 := (hb2.block wr.heap.size (by simp)).trans (heap_alloc_new wr _)
        have x0 : w2.cell? ⟨wr.heap.size, 0, none⟩ = some (.int .i64 i1) := cOb (o := 0) e0 rfl
        have yl := lHp H2.out.blk
        have xl := lHp e0
        clear hb2 e0 z0 z1 z2 z3
        have f1 : ¬ 9223372036854775807 < X.length + 1 := by omega
        have f2 : ¬ 9223372036854775807 < 1 + X.length := by omega
        have f3 : ¬ 9223372036854775807 < X.length + 1 + 1 := by omega
        have f4 : ¬ 9223372036854775807 < 1 + X.length + 1 := by omega
        have f5 : ¬ 9223372036854775807 < X.length + 2 := by omega
        have HAP : Hid (∀ (w3 : World) (v' : Value) (s : Bytes), OwnS w3 (w.heap.size + 1) v' (rSs b (ks.take k) ++ [s]) → (w2.alloc (.cells #[vs s] 9)).grownBy w3 (Value.ownBlock (.slice Av nv cv)) → s = WX → RqSt w w3 #[.int .i64 oi, vs name, .int .i64 (m : Int), .slice (some ⟨bk, ok, none⟩) ks.length p1] 28 v' (rSs b (ks.take (k + 1)))) := Hi (fun w3 v' s ho hg hs => by
         rw [HSN.out, ← hs]
         exact (H2.out.step (belowA w2 _)).app ho hg)
        have hcase : (i1 = 9) ∨ (i1 = 8 ∧ b = false) ∨ (i1 = 8 ∧ b = true) ∨ (¬ i1 = 9 ∧ ¬ i1 = 8) := by
         cases b <;> simp <;> omega
        rcases hcase with rfl | ⟨rfl, rfl⟩ | ⟨rfl, rfl⟩ | ⟨g1, g2⟩
        · skip
          skip
          go_wp2_with (at_builtin; refine wpList_append_src rfl (.tmp 63) (.tmp 65) rfl (w.heap.size + 1) _ (rSs b (ks.take k)) [40 :: (X ++ [41])] _ 1 (by first | rfl | (simp [hrl]; done)) rfl (H2.out.own.grown (belowA _ _)) (rds_one _ _ _ (by simp)) (by simp; omega) (by have := H2.out.sz; simp; omega) ?_; intro v' w3 ho hg hb; obtain ⟨A9, n9, c9, rfl⟩ := ho.sl; have HN3 := Hi (HAP.out w3 _ _ ho hg (by rw [HWI.out]; first | (simp; done) | (rw [if_neg]; rintro (h | h); exact g1 h; exact g2 h.1))); clear ho hg hb)
          exact ⟨⟨k + 1, by omega, by go_num, HN3.out⟩, by simp [intOf]; omega⟩
        · skip
          have HBV := HBB.out
          go_wp2_with (at_builtin; refine wpList_append_src rfl (.tmp 63) (.tmp 65) rfl (w.heap.size + 1) _ (rSs false (ks.take k)) [40 :: (X ++ [41])] _ 1 (by first | rfl | (simp [hrl]; done)) rfl (H2.out.own.grown (belowA _ _)) (rds_one _ _ _ (by simp)) (by simp; omega) (by have := H2.out.sz; simp; omega) ?_; intro v' w3 ho hg hb; obtain ⟨A9, n9, c9, rfl⟩ := ho.sl; have HN3 := Hi (HAP.out w3 _ _ ho hg (by rw [HWI.out]; first | (simp; done) | (rw [if_neg]; rintro (h | h); exact g1 h; exact g2 h.1))); clear ho hg hb)
          exact ⟨⟨k + 1, by omega, by go_num, HN3.out⟩, by simp [intOf]; omega⟩
        · skip
          have HBV := HBB.out
          go_wp2_with (at_builtin; refine wpList_append_src rfl (.tmp 63) (.tmp 65) rfl (w.heap.size + 1) _ (rSs true (ks.take k)) [X] _ 1 (by first | rfl | (simp [hrl]; done)) rfl (H2.out.own.grown (belowA _ _)) (rds_one _ _ _ (by simp)) (by simp; omega) (by have := H2.out.sz; simp; omega) ?_; intro v' w3 ho hg hb; obtain ⟨A9, n9, c9, rfl⟩ := ho.sl; have HN3 := Hi (HAP.out w3 _ _ ho hg (by rw [HWI.out]; first | (simp; done) | (rw [if_neg]; rintro (h | h); exact g1 h; exact g2 h.1))); clear ho hg hb)
          exact ⟨⟨k + 1, by omega, by go_num, HN3.out⟩, by simp [intOf]; omega⟩
        · have j1 : (i1 == 9) = false := by simpa using g1
          have j2 : (i1 == 8) = false := by simpa using g2
          skip
          go_wp2_with (at_builtin; refine wpList_append_src rfl (.tmp 63) (.tmp 65) rfl (w.heap.size + 1) _ (rSs b (ks.take k)) [X] _ 1 (by first | rfl | (simp [hrl]; done)) rfl (H2.out.own.grown (belowA _ _)) (rds_one _ _ _ (by simp)) (by simp; omega) (by have := H2.out.sz; simp; omega) ?_; intro v' w3 ho hg hb; obtain ⟨A9, n9, c9, rfl⟩ := ho.sl; have HN3 := Hi (HAP.out w3 _ _ ho hg (by rw [HWI.out]; first | (simp; done) | (rw [if_neg]; rintro (h | h); exact g1 h; exact g2 h.1))); clear ho hg hb)
          exact ⟨⟨k + 1, by omega, by go_num, HN3.out⟩, by simp [intOf]; omega⟩
      · have hk' : k = ks.length := by omega
        subst hk'
        have hk1 : ¬ ((ks.length : Nat) : Int) < ks.length := by omega
        rw [List.take_length] at hst HR
        have hLl := rSs_ln b ks
        have HLB := Hi (HLK.out.2.1 b)
        obtain ⟨L, hL⟩ : ∃ L, rSs b ks = L := ⟨_, rfl⟩
        rw [hL] at hst HR hLl HLB
        obtain ⟨Av, cv, rfl, hcv, hrd, -⟩ := hst.own.form
        have HRD := Hi hrd
        have HLE := Hi hL
        have hL900 : L.length ≤ 900 := by omega
        have HJ : Hid (∀ by' : Bytes, by'.length ≤ 10 → Calls Tryz.prog 41 #[.slice Av L.length cv, vs by'] wr fun e w' => e = .returned (vs (joinT' by' L)) ∧ wr = w') := Hi (fun by' hb' => rjoin_any L Av cv by' wr (100 * sizes ks) HRD.out (by omega) (by omega) HLB.out hb')
        clear hst hrd hL
        rcases (by omega : op = 8 ∨ op = 9) with rfl | rfl
        · obtain rfl : oi = 8 := by rw [← HOI.out]; rfl
          obtain rfl : b = false := by rw [← hb]; rfl
          have HTT : Hid (joinT' [32, 97, 110, 100, 32] L = T) := Hi (by rw [← HT.out, rS, HLE.out]; rfl)
          clear hb hLl
          go_wp2_with fail
          refine (HJ.out [32, 97, 110, 100, 32] (by decide)).mono ?_
          rintro e w5 ⟨rfl, rfl⟩
          rw [HTT.out]
          go_wp2_with fail
          go_ret
          exact ⟨rfl, HR.out.bel⟩
        · obtain rfl : oi = 9 := by rw [← HOI.out]; rfl
          obtain rfl : b = true := by rw [← hb]; rfl
          have HTT : Hid (joinT' [32, 111, 114, 32] L = T) := Hi (by rw [← HT.out, rS, HLE.out]; rfl)
          clear hb hLl
          go_wp2_with fail
          refine (HJ.out [32, 111, 114, 32] (by decide)).mono ?_
          rintro e w5 ⟨rfl, rfl⟩
          rw [HTT.out]
          go_wp2_with fail
          go_ret
          exact ⟨rfl, HR.out.bel⟩
end Go.Proofs.YtbicmjmcdnkjhaaGreatDoor
