/- An item. -/
import Derived.Test.YtbicmjmcdnkjhaaGreatDoorJSS1
import Derived.Test.YtbicmjmcdnkjhaaGreatDoorJSS39
import Derived.Test.YtbicmjmcdnkjhaaGreatDoorJSS22
import Derived.Deep.RegionWith
set_option linter.unusedVariables false
set_option linter.unusedSimpArgs false
set_option maxRecDepth 20000
set_option maxHeartbeats 8000000
namespace Go.Proofs.YtbicmjmcdnkjhaaGreatDoor
namespace So
open Go.RowKit
theorem item_s (pb sbb mb mp n p sb base fin : Nat) (ts l : List Tok) (st : Stack) (w : World) (hi : ItS false w w pb sbb mb mp n 4 p sb base 140 fin [[100, 101, 99, 114, 101, 101], [101, 118, 101, 110, 116], [98, 101, 103, 117, 110], [111, 118, 101, 114]] ts l st) (hf : st.length < 200) (hbw : base ≤ w.heap.size) :
 Calls Tryz.prog 144 #[.pointer (some ⟨pb, 0, none⟩), .pointer (some ⟨sbb, 0, none⟩), .pointer (some ⟨mb, 0, none⟩)] w (OutI false p fin sb base 140 ts w (sitemF st l)) := by
 have HI0 := Hi hi
 have c := hi.cells
 obtain ⟨cp, cs, cm, lp, ls, lm⟩ := c
 clear hi
 go_enter Tryz.func144, Tryz.ntmps144
 go_wp2_with fail
 cases hs : seesF [[97, 108, 119, 97, 121, 115]] l with
 | true =>
   have HQ := Hi hs
   clear hs
   have HR : Hid (sitemF st l = .ok (st ++ [(.mk 1 [] 0 0 [], 1)], l.tail)) := Hi (by unfold sitemF; rw [isF_yes HQ.out]; rfl)
   refine (is_yes [97, 108, 119, 97, 121, 115] p fin ts l _ HI0.out.ps HQ.out).mono ?_
   rintro e wy ⟨rfl, hp, he⟩
   have HY := Hi (HI0.out.step hp he)
   have hbwy : base ≤ wy.heap.size := Nat.le_trans hbw HY.out.eff.size
   clear cp cs cm lp ls lm hp he
   have c := HY.out.cells
   obtain ⟨cp, cs, cm, lp, ls, lm⟩ := c
   go_wp2_with fail
   refine (push_s 1 [] 0 0 sb p base 140 fin ts l.tail st _ HY.out.ps HY.out.sk hf hbwy).mono ?_
   rintro e w3 ⟨rfl, h1, h2, h3⟩
   have HO := Hi (HY.out.push h1 h2 h3)
   clear h1 h2 h3
   go_wp2_with fail
   go_end0
   rw [HR.out]
   exact HO.out
 | false =>
   have HQ0 := Hi hs
   clear hs
   refine (is_no [97, 108, 119, 97, 121, 115] p fin ts l _ HI0.out.ps HQ0.out).mono ?_
   rintro e w1 ⟨rfl, hb⟩
   have HI1 := Hi (HI0.out.below hb)
   clear cp cs cm lp ls lm hb
   have c := HI1.out.cells
   obtain ⟨cp, cs, cm, lp, ls, lm⟩ := c
   go_wp2_with fail
   cases hs : seesF [[110, 101, 118, 101, 114]] l with
   | true =>
     have HQ := Hi hs
     clear hs
     have HR : Hid (sitemF st l = .ok (st ++ [(.mk 2 [] 0 0 [], 1)], l.tail)) := Hi (by unfold sitemF; rw [isF_no HQ0.out, isF_yes HQ.out]; rfl)
     refine (is_yes [110, 101, 118, 101, 114] p fin ts l _ HI1.out.ps HQ.out).mono ?_
     rintro e wy ⟨rfl, hp, he⟩
     have HY := Hi (HI1.out.step hp he)
     have hbwy : base ≤ wy.heap.size := Nat.le_trans hbw HY.out.eff.size
     clear cp cs cm lp ls lm hp he
     have c := HY.out.cells
     obtain ⟨cp, cs, cm, lp, ls, lm⟩ := c
     go_wp2_with fail
     refine (push_s 2 [] 0 0 sb p base 140 fin ts l.tail st _ HY.out.ps HY.out.sk hf hbwy).mono ?_
     rintro e w3 ⟨rfl, h1, h2, h3⟩
     have HO := Hi (HY.out.push h1 h2 h3)
     clear h1 h2 h3
     go_wp2_with fail
     go_end0
     rw [HR.out]
     exact HO.out
   | false =>
     have HQ1 := Hi hs
     clear hs
     refine (is_no [110, 101, 118, 101, 114] p fin ts l _ HI1.out.ps HQ1.out).mono ?_
     rintro e w2 ⟨rfl, hb⟩
     have HI2 := Hi (HI1.out.below hb)
     clear cp cs cm lp ls lm hb
     have c := HI2.out.cells
     obtain ⟨cp, cs, cm, lp, ls, lm⟩ := c
     go_wp2_with fail
     cases hs : seesF [[97, 108, 108]] l with
     | true =>
       have HQ := Hi hs
       clear hs
       have HR : Hid (sitemF st l = groupF 8 l st l.tail) := Hi (by unfold sitemF; rw [isF_no HQ0.out, isF_no HQ1.out, isF_yes HQ.out])
       refine (is_yes [97, 108, 108] p fin ts l _ HI2.out.ps HQ.out).mono ?_
       rintro e wy ⟨rfl, hp, he⟩
       have HY := Hi (HI2.out.step hp he)
       have hbwy : base ≤ wy.heap.size := Nat.le_trans hbw HY.out.eff.size
       clear cp cs cm lp ls lm hp he
       obtain ⟨t, r, rfl⟩ : ∃ t r, l = t :: r := by obtain ⟨t, r, h, -, -⟩ := sees_cons HQ.out; exact ⟨t, r, h⟩
       have HPV := Hi HI2.out.prev
       have c := HY.out.cells
       obtain ⟨cp, cs, cm, lp, ls, lm⟩ := c
       go_wp2_with fail
       refine (group_s 8 t sb p base fin ts r st _ HY.out.ps HPV.out HY.out.sk hbwy).mono ?_
       intro e w4 ho
       have ho := OutI.trans HY.out ho
       cases hq : groupF 8 (t :: r) st r with
       | error x =>
         obtain ⟨c, s⟩ := x
         rw [hq] at ho
         have HRR := Hi (HR.out.trans hq)
         obtain ⟨rfl, h2⟩ := ho
         have HO := Hi h2
         clear h2 hq
         go_wp2_with fail
         refine ⟨rfl, ?_⟩
         rw [HRR.out]
         exact ⟨rfl, HO.out⟩
       | ok x =>
         obtain ⟨st', r'⟩ := x
         rw [hq] at ho
         have HRR := Hi (HR.out.trans hq)
         obtain ⟨rfl, h2⟩ := ho
         have HO := Hi h2
         clear h2 hq
         go_wp2_with fail
         go_end0
         rw [HRR.out]
         exact ⟨rfl, HO.out⟩
     | false =>
       have HQ2 := Hi hs
       clear hs
       refine (is_no [97, 108, 108] p fin ts l _ HI2.out.ps HQ2.out).mono ?_
       rintro e w3 ⟨rfl, hb⟩
       have HI3 := Hi (HI2.out.below hb)
       clear cp cs cm lp ls lm hb
       have c := HI3.out.cells
       obtain ⟨cp, cs, cm, lp, ls, lm⟩ := c
       go_wp2_with fail
       cases hs : seesF [[97, 110, 121]] l with
       | true =>
         have HQ := Hi hs
         clear hs
         have HR : Hid (sitemF st l = groupF 9 l st l.tail) := Hi (by unfold sitemF; rw [isF_no HQ0.out, isF_no HQ1.out, isF_no HQ2.out, isF_yes HQ.out])
         refine (is_yes [97, 110, 121] p fin ts l _ HI3.out.ps HQ.out).mono ?_
         rintro e wy ⟨rfl, hp, he⟩
         have HY := Hi (HI3.out.step hp he)
         have hbwy : base ≤ wy.heap.size := Nat.le_trans hbw HY.out.eff.size
         clear cp cs cm lp ls lm hp he
         obtain ⟨t, r, rfl⟩ : ∃ t r, l = t :: r := by obtain ⟨t, r, h, -, -⟩ := sees_cons HQ.out; exact ⟨t, r, h⟩
         have HPV := Hi HI3.out.prev
         have c := HY.out.cells
         obtain ⟨cp, cs, cm, lp, ls, lm⟩ := c
         go_wp2_with fail
         refine (group_s 9 t sb p base fin ts r st _ HY.out.ps HPV.out HY.out.sk hbwy).mono ?_
         intro e w4 ho
         have ho := OutI.trans HY.out ho
         cases hq : groupF 9 (t :: r) st r with
         | error x =>
           obtain ⟨c, s⟩ := x
           rw [hq] at ho
           have HRR := Hi (HR.out.trans hq)
           obtain ⟨rfl, h2⟩ := ho
           have HO := Hi h2
           clear h2 hq
           go_wp2_with fail
           refine ⟨rfl, ?_⟩
           rw [HRR.out]
           exact ⟨rfl, HO.out⟩
         | ok x =>
           obtain ⟨st', r'⟩ := x
           rw [hq] at ho
           have HRR := Hi (HR.out.trans hq)
           obtain ⟨rfl, h2⟩ := ho
           have HO := Hi h2
           clear h2 hq
           go_wp2_with fail
           go_end0
           rw [HRR.out]
           exact ⟨rfl, HO.out⟩
       | false =>
         have HQ3 := Hi hs
         clear hs
         refine (is_no [97, 110, 121] p fin ts l _ HI3.out.ps HQ3.out).mono ?_
         rintro e w4 ⟨rfl, hb⟩
         have HI4 := Hi (HI3.out.below hb)
         clear cp cs cm lp ls lm hb
         have c := HI4.out.cells
         obtain ⟨cp, cs, cm, lp, ls, lm⟩ := c
         have HBA : Hid (sitemF st l = if (l.head?.any fun t => t.kind == 2) then bindR (limitF 1000000 l) fun v r => bindR (mustF [100, 97, 121] r) fun _ r => pushF st (.mk 3 [] 0 v []) r else bindR (nameF l) fun s r => bindR (chooseF [[100, 101, 99, 114, 101, 101], [101, 118, 101, 110, 116], [98, 101, 103, 117, 110], [111, 118, 101, 114]] r) fun c r => pushF st (.mk (4 + c) s 0 0 []) r) := Hi (by unfold sitemF; rw [isF_no HQ0.out, isF_no HQ1.out, isF_no HQ2.out, isF_no HQ3.out])
         have HIN := HI4
         go_wp2_with fail
         rcases number_cases l with ⟨t, r, rfl, hk, -⟩ | ⟨hk, -⟩
         case inl =>
          obtain ⟨l0, hl0⟩ : ∃ l0, l0 = t :: r := ⟨_, rfl⟩
          have HB : Hid (sitemF st l0 = bindR (limitF 1000000 l0) fun v r => bindR (mustF [100, 97, 121] r) fun _ r => pushF st (.mk 3 [] 0 v []) r) := Hi (by rw [hl0, HBA.out, head_kindB 0]; simp [headT, hk])
          have HL0 := Hi hl0
          refine (peek_cons p fin ts t r _ HIN.out.ps).mono ?_
          rintro e w7 ⟨rfl, hb7⟩
          have HI7 := Hi (HIN.out.below hb7)
          have i1 : ((t.kind : Int) == 2) = true := by simp; omega
          have i2 : (t.kind : Int) = 2 := by omega
          simp only [Tok.agg]
          clear cp cs cm lp ls lm hb7 hk i2
          have c := HI7.out.cells
          obtain ⟨cp, cs, cm, lp, ls, lm⟩ := c
          rw [← hl0] at HI7
          clear hl0
          go_wp2_with fail
          have hlim := limited_any 1000000 p fin ts l0 _ HI7.out.ps
          cases hq : limitF 1000000 l0 with
          | error x =>
            obtain ⟨c, s⟩ := x
            rw [hq] at hlim
            have HRR : Hid (sitemF st l0 = .error (c, s)) := Hi (by rw [HB.out, hq]; rfl)
            refine hlim.mono ?_
            rintro e w9 ⟨rfl, he9⟩
            have HER := Hi (HI7.out.eff.trans (he9.toS sb base))
            clear hlim hq he9
            go_wp2_with fail
            refine ⟨rfl, ?_⟩
            rw [← HL0.out, HRR.out]
            exact ⟨rfl, HER.out⟩
          | ok x =>
            obtain ⟨v, r2⟩ := x
            rw [hq] at hlim
            have HB3 : Hid (sitemF st l0 = bindR (mustF [100, 97, 121] r2) fun _ r => pushF st (.mk 3 [] 0 v []) r) := Hi (by rw [HB.out, hq]; rfl)
            refine hlim.mono ?_
            rintro e w9 ⟨vv, rfl, rfl, hp9, he9⟩
            have HI9 := Hi (HI7.out.step hp9 he9)
            clear cp cs cm lp ls lm hlim hq hp9 he9
            have c := HI9.out.cells
            obtain ⟨cp, cs, cm, lp, ls, lm⟩ := c
            go_wp2_with fail
            have hmu := must_any [100, 97, 121] p fin ts r2 _ HI9.out.ps
            cases hq : mustF [100, 97, 121] r2 with
            | error x =>
              obtain ⟨c, s⟩ := x
              rw [hq] at hmu
              have HRR : Hid (sitemF st l0 = .error (c, s)) := Hi (by rw [HB3.out, hq]; rfl)
              refine hmu.mono ?_
              rintro e wA ⟨rfl, heA⟩
              have HER := Hi (HI9.out.eff.trans (heA.toS sb base))
              clear hmu hq heA
              go_wp2_with fail
              refine ⟨rfl, ?_⟩
              rw [← HL0.out, HRR.out]
              exact ⟨rfl, HER.out⟩
            | ok x =>
              obtain ⟨u, r3⟩ := x
              rw [hq] at hmu
              have HRR : Hid (sitemF st l0 = .ok (st ++ [(.mk 3 [] 0 v [], 1)], r3)) := Hi (by rw [HB3.out, hq]; rfl)
              refine hmu.mono ?_
              rintro e wA ⟨vv, rfl, rfl, hpA, heA⟩
              have HIA := Hi (HI9.out.step hpA heA)
              have hbwA : base ≤ wA.heap.size := Nat.le_trans hbw HIA.out.eff.size
              clear cp cs cm lp ls lm hmu hq hpA heA
              have c := HIA.out.cells
              obtain ⟨cp, cs, cm, lp, ls, lm⟩ := c
              go_wp2_with fail
              refine (push_s 3 [] 0 v sb p base 140 fin ts r3 st _ HIA.out.ps HIA.out.sk hf hbwA).mono ?_
              rintro e wB ⟨rfl, h1, h2, h3⟩
              have HO := Hi (HIA.out.push h1 h2 h3)
              clear h1 h2 h3
              go_wp2_with fail
              go_end0
              rw [← HL0.out, HRR.out]
              exact HO.out
         case inr =>
          have HB : Hid (sitemF st l = bindR (nameF l) fun s r => bindR (chooseF [[100, 101, 99, 114, 101, 101], [101, 118, 101, 110, 116], [98, 101, 103, 117, 110], [111, 118, 101, 114]] r) fun c r => pushF st (.mk (4 + c) s 0 0 []) r) := Hi (by rw [HBA.out, head_kindB fin]; simp [hk fin])
          have HHK := Hi (hk fin)
          refine (peek_any p fin ts l _ HIN.out.ps).mono ?_
          rintro e w6 ⟨rfl, hb6⟩
          have hkk := HHK.out
          generalize headT fin l = T at hkk ⊢
          have i1 : ((T.kind : Int) == 2) = false := by simp; omega
          simp only [Tok.agg]
          have HIN := Hi (HIN.out.below hb6)
          clear cp cs cm lp ls lm hb6 hk hkk
          have c := HIN.out.cells
          obtain ⟨cp, cs, cm, lp, ls, lm⟩ := c
          go_wp2_with fail
          rcases name_cases l with ⟨t, r, rfl, hn1, hn2⟩ | ⟨hn1, hn2⟩
          case inr =>
           have HRR : Hid (sitemF st l = .error (failC l, l)) := Hi (by rw [HB.out, hn2]; rfl)
           refine (name_no p fin ts l _ HIN.out.ps hn1).mono ?_
           rintro e w7 ⟨rfl, hb7⟩
           have HER := Hi (HIN.out.eff.trans ((Eff.of_below (p := p) hb7).toS sb base))
           clear hb7
           go_wp2_with fail
           refine ⟨rfl, ?_⟩
           rw [HRR.out]
           exact ⟨rfl, HER.out⟩
          case inl =>
           obtain ⟨l0, hl0⟩ : ∃ l0, l0 = t :: r := ⟨_, rfl⟩
           rw [← hl0] at HB
           have HL0 := Hi hl0
           refine (name_ok p fin ts t r _ HIN.out.ps hn1).mono ?_
           rintro e w7 ⟨rfl, hp7, he7⟩
           have HI7 := Hi (HIN.out.step hp7 he7)
           have HN2 : Hid (nameF l0 = .ok (t.text, r)) := Hi (by rw [hl0]; exact hn2)
           simp only [Tok.agg]
           clear cp cs cm lp ls lm hp7 he7 hn1 hn2 hl0
           have c := HI7.out.cells
           obtain ⟨cp, cs, cm, lp, ls, lm⟩ := c
           have HB3 : Hid (sitemF st l0 = bindR (chooseF [[100, 101, 99, 114, 101, 101], [101, 118, 101, 110, 116], [98, 101, 103, 117, 110], [111, 118, 101, 114]] r) fun c r => pushF st (.mk (4 + c) t.text 0 0 []) r) := Hi (by rw [HB.out, HN2.out]; rfl)
           have HPD := Hi (HI7.out.below (Below.refl _ _).drew)
           have hch := choose_any [[100, 101, 99, 114, 101, 101], [101, 118, 101, 110, 116], [98, 101, 103, 117, 110], [111, 118, 101, 114]] (by decide) 4 mp n p fin ts r w7.drew HPD.out.ps HPD.out.cap.mm
           cases hq : chooseF [[100, 101, 99, 114, 101, 101], [101, 118, 101, 110, 116], [98, 101, 103, 117, 110], [111, 118, 101, 114]] r with
           | error x =>
             obtain ⟨c, s⟩ := x
             rw [hq] at hch
             have HCH := Hi hch
             have HRR : Hid (sitemF st l0 = .error (c, s)) := Hi (by rw [HB3.out, hq]; rfl)
             clear hch hq
             go_wp2_with fail
             refine wp_region_any (by kernel_rfl) ?_
             change wpAny _ _ _ _ _ _ _ (World.drew _)
             refine wpAny_take (i := 4) (v := ?_) rfl (by kernel_rfl) (by kernel_rfl) (by kernel_rfl) (fun _ _ _ h => h) (Or.inl ⟨by rfl, ?hy4⟩) ?rest4
             case hy4 =>
              intro w
              first | (go_simp; done) | (go_simp; rfl) | rfl
             refine wpAny_ready (rs := [0, 1, 2]) (by kernel_rfl) (by simp) ?_
             refine AllReady.cons rfl (fun K hK => ?_) ?_
             · go_simp
               refine hK _ _ ?_
               clear hK K
               refine wpAny_ready (rs := [1, 2]) (by kernel_rfl) (by simp) ?_
               refine AllReady.cons rfl (fun K hK => ?_) ?_
               · go_simp
                 refine hK _ _ ?_
                 clear hK K
                 refine wpAny_ready (rs := [2]) (by kernel_rfl) (by simp) ?_
                 refine AllReady.cons rfl (fun K hK => ?_) ?_
                 · go_simp
                   refine hK _ _ ?_
                   clear hK K
                   refine wpAny_ready (rs := [3]) (by kernel_rfl) (by simp) ?_
                   refine AllReady.cons rfl (fun K hK => ?_) ?_
                   · go_simp
                     refine HCH.out.mono ?_
                     rintro e w7 ⟨rfl, he7⟩
                     refine ⟨rfl, ?_⟩
                     rw [← HL0.out, HRR.out]
                     exact ⟨rfl, HPD.out.eff.trans (he7.toS sb base)⟩
                   exact AllReady.nil
                 exact AllReady.nil
               refine AllReady.cons rfl (fun K hK => ?_) ?_
               · go_simp
                 refine hK _ _ ?_
                 clear hK K
                 refine wpAny_ready (rs := [1]) (by kernel_rfl) (by simp) ?_
                 refine AllReady.cons rfl (fun K hK => ?_) ?_
                 · go_simp
                   refine hK _ _ ?_
                   clear hK K
                   refine wpAny_ready (rs := [3]) (by kernel_rfl) (by simp) ?_
                   refine AllReady.cons rfl (fun K hK => ?_) ?_
                   · go_simp
                     refine HCH.out.mono ?_
                     rintro e w7 ⟨rfl, he7⟩
                     refine ⟨rfl, ?_⟩
                     rw [← HL0.out, HRR.out]
                     exact ⟨rfl, HPD.out.eff.trans (he7.toS sb base)⟩
                   exact AllReady.nil
                 exact AllReady.nil
               exact AllReady.nil
             refine AllReady.cons rfl (fun K hK => ?_) ?_
             · go_simp
               refine hK _ _ ?_
               clear hK K
               refine wpAny_ready (rs := [0, 2]) (by kernel_rfl) (by simp) ?_
               refine AllReady.cons rfl (fun K hK => ?_) ?_
               · go_simp
                 refine hK _ _ ?_
                 clear hK K
                 refine wpAny_ready (rs := [2]) (by kernel_rfl) (by simp) ?_
                 refine AllReady.cons rfl (fun K hK => ?_) ?_
                 · go_simp
                   refine hK _ _ ?_
                   clear hK K
                   refine wpAny_ready (rs := [3]) (by kernel_rfl) (by simp) ?_
                   refine AllReady.cons rfl (fun K hK => ?_) ?_
                   · go_simp
                     refine HCH.out.mono ?_
                     rintro e w7 ⟨rfl, he7⟩
                     refine ⟨rfl, ?_⟩
                     rw [← HL0.out, HRR.out]
                     exact ⟨rfl, HPD.out.eff.trans (he7.toS sb base)⟩
                   exact AllReady.nil
                 exact AllReady.nil
               refine AllReady.cons rfl (fun K hK => ?_) ?_
               · go_simp
                 refine hK _ _ ?_
                 clear hK K
                 refine wpAny_ready (rs := [0, 3]) (by kernel_rfl) (by simp) ?_
                 refine AllReady.cons rfl (fun K hK => ?_) ?_
                 · go_simp
                   refine hK _ _ ?_
                   clear hK K
                   refine wpAny_ready (rs := [3]) (by kernel_rfl) (by simp) ?_
                   refine AllReady.cons rfl (fun K hK => ?_) ?_
                   · go_simp
                     refine HCH.out.mono ?_
                     rintro e w7 ⟨rfl, he7⟩
                     refine ⟨rfl, ?_⟩
                     rw [← HL0.out, HRR.out]
                     exact ⟨rfl, HPD.out.eff.trans (he7.toS sb base)⟩
                   exact AllReady.nil
                 refine AllReady.cons rfl (fun K hK => ?_) ?_
                 · go_simp
                   refine HCH.out.mono ?_
                   rintro e w7 ⟨rfl, he7⟩
                   refine ⟨rfl, ?_⟩
                   rw [← HL0.out, HRR.out]
                   exact ⟨rfl, HPD.out.eff.trans (he7.toS sb base)⟩
                 exact AllReady.nil
               exact AllReady.nil
             refine AllReady.cons rfl (fun K hK => ?_) ?_
             · go_simp
               refine hK _ _ ?_
               clear hK K
               refine wpAny_ready (rs := [0, 1]) (by kernel_rfl) (by simp) ?_
               refine AllReady.cons rfl (fun K hK => ?_) ?_
               · go_simp
                 refine hK _ _ ?_
                 clear hK K
                 refine wpAny_ready (rs := [1]) (by kernel_rfl) (by simp) ?_
                 refine AllReady.cons rfl (fun K hK => ?_) ?_
                 · go_simp
                   refine hK _ _ ?_
                   clear hK K
                   refine wpAny_ready (rs := [3]) (by kernel_rfl) (by simp) ?_
                   refine AllReady.cons rfl (fun K hK => ?_) ?_
                   · go_simp
                     refine HCH.out.mono ?_
                     rintro e w7 ⟨rfl, he7⟩
                     refine ⟨rfl, ?_⟩
                     rw [← HL0.out, HRR.out]
                     exact ⟨rfl, HPD.out.eff.trans (he7.toS sb base)⟩
                   exact AllReady.nil
                 exact AllReady.nil
               refine AllReady.cons rfl (fun K hK => ?_) ?_
               · go_simp
                 refine hK _ _ ?_
                 clear hK K
                 refine wpAny_ready (rs := [0, 3]) (by kernel_rfl) (by simp) ?_
                 refine AllReady.cons rfl (fun K hK => ?_) ?_
                 · go_simp
                   refine hK _ _ ?_
                   clear hK K
                   refine wpAny_ready (rs := [3]) (by kernel_rfl) (by simp) ?_
                   refine AllReady.cons rfl (fun K hK => ?_) ?_
                   · go_simp
                     refine HCH.out.mono ?_
                     rintro e w7 ⟨rfl, he7⟩
                     refine ⟨rfl, ?_⟩
                     rw [← HL0.out, HRR.out]
                     exact ⟨rfl, HPD.out.eff.trans (he7.toS sb base)⟩
                   exact AllReady.nil
                 refine AllReady.cons rfl (fun K hK => ?_) ?_
                 · go_simp
                   refine HCH.out.mono ?_
                   rintro e w7 ⟨rfl, he7⟩
                   refine ⟨rfl, ?_⟩
                   rw [← HL0.out, HRR.out]
                   exact ⟨rfl, HPD.out.eff.trans (he7.toS sb base)⟩
                 exact AllReady.nil
               exact AllReady.nil
             exact AllReady.nil
           | ok x =>
             obtain ⟨c, r3⟩ := x
             rw [hq] at hch
             have HCH : Hid (Calls Tryz.prog 95 #[.pointer (some ⟨p, 0, none⟩), .map (some mp)] w7.drew fun e w' => e = .returned (.int .i64 ((4 + c : Nat) : Int)) ∧ PS w' p fin ts r3 ∧ Eff p w7.drew w') := Hi (hch.mono fun e w' ⟨v, h1, h2, h3, h4⟩ => ⟨by rw [h1, h2], h3, h4⟩)
             have HRR : Hid (sitemF st l0 = .ok (st ++ [(.mk (4 + c) t.text (0) 0 [], 1)], r3)) := Hi (by rw [HB3.out, hq]; rfl)
             clear hch hq
             go_wp2_with fail
             go_region_with (first | (go_at_call 95; refine HCH.out.mono ?_; rintro e w7 ⟨rfl, hp7, he7⟩; have HI7 := Hi (HPD.out.step hp7 he7); have c7 := HI7.out.cells; obtain ⟨cp7, cs7, cm7, lp7, ls7, lm7⟩ := c7; clear hp7 he7) | (go_at_call 145; refine (push_s (4 + c) t.text (0) (0) sb p base 140 fin ts r3 st _ HI7.out.ps HI7.out.sk hf (Nat.le_trans hbw HI7.out.eff.size)).mono ?_; rintro e w8 ⟨rfl, h1, h2, h3⟩; have HO := Hi (HI7.out.push h1 h2 h3); clear h1 h2 h3))
             all_goals
              go_wp2_with fail
              go_end0
              rw [← HL0.out, HRR.out]
              exact HO.out
end So
end Go.Proofs.YtbicmjmcdnkjhaaGreatDoor
