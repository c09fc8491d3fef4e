/- provision, walked -/
import Derived.Test.YtbicmjmcdnkjhaaGreatDoorJSS1
import Derived.Test.YtbicmjmcdnkjhaaGreatDoorJSS44
set_option linter.unusedVariables false
set_option linter.unusedSimpArgs false
set_option maxRecDepth 20000
set_option maxHeartbeats 4000000
namespace Go.Proofs.YtbicmjmcdnkjhaaGreatDoor
namespace So
open Go.RowKit Go.Maps
def pv0y (P : Prov) (r : List Tok) : R Prov := bindR (formulaF r) fun t r => pv1 { P with cond := t } r
def pv2y (P : Prov) (r : List Tok) : R Prov := bindR (excF r) fun e r => pv3 { P with exc := e } r
def pv3y (P : Prov) (r : List Tok) : R Prov := bindR (startF r) fun t r => pv4 { P with beg := t } r
def pv4y (P : Prov) (r : List Tok) : R Prov := bindR (startF r) fun t r => pv5 { P with fin := t } r
def pv5y (P : Prov) (r : List Tok) : R Prov := bindR (startF r) fun t r => pv6 { P with aga := t } r
theorem allOne_of {l : List Value} (h : ∀ v ∈ l, v.oneCell' = true) : allOne l = true := by
 induction l with
 | nil => rfl
 | cons a r ih => simp only [allOne, h a (by simp), ih (fun v hv => h v (by simp [hv])), Bool.and_self]
theorem allOne_app {l m : List Value} (h : ∀ v ∈ l, v.oneCell' = true) : allOne (l ++ m) = allOne m := by
 induction l with
 | nil => rfl
 | cons a r ih => simp only [List.cons_append, allOne, h a (by simp), ih (fun v hv => h v (by simp [hv])), Bool.true_and]
theorem prov_any (p fin : Nat) (ts l : List Tok) (w : World) (hp : PS w p fin ts l) :
 Calls Tryz.prog 56 #[.pointer (some ⟨p, 0, none⟩)] w (OutR p fin ts w (endF (provF l)) (ProvV w)) := by
 have HP := Hi hp
 have hpl := hp.lt
 clear hp
 have hmm := @run_makeMap Tryz.prog
 go_enter Tryz.func56, Tryz.ntmps56
 go_wp2_with fail
 rw [rowStore_cells _ _ _ _ _ (by rfl) (by rfl) (by rfl)]
 go_upto_region 2 with fail
 obtain ⟨P, r, hR, hw⟩ := (⟨P0, l, pr_stages l, PW.start HP.out⟩ : ∃ P r, endF (provF l) = pv0 P r ∧ PW w _ p fin ts r P)
 have HR := Hi hR
 have HW := Hi hw
 clear hR hw
 go_upto_region 2 with fail
 go_cut [10] from 4 (fun s wx => ∃ (P : Prov) (r r' : List Tok) (bb : Bool), s = .bool bb ∧ endF (provF l) = pv0 P r ∧ seesF [[119, 104, 101, 114, 101]] r = bb ∧ r' = (if bb then r.tail else r) ∧ PW w wx p fin ts r' P)
 case first =>
  cases hs : seesF [[119, 104, 101, 114, 101]] r with
  | true =>
    have HS := Hi hs
    clear hs
    go_wp2_with fail
    refine (is_yes [119, 104, 101, 114, 101] p fin ts r _ HW.out.ps HS.out).mono ?_
    rintro e w2 ⟨rfl, hp, he⟩
    have HW2 := Hi (HW.out.call he hp)
    clear hp he
    go_wp2_with fail
    go_meet
    case rel => exact ⟨_, r, _, true, rfl, HR.out, HS.out, rfl, HW2.out⟩
  | false =>
    have HS := Hi hs
    clear hs
    go_wp2_with fail
    refine (is_no [119, 104, 101, 114, 101] p fin ts r _ HW.out.ps HS.out).mono ?_
    rintro e w2 ⟨rfl, hb⟩
    have HW2 := Hi (HW.out.below hb)
    clear hb
    go_wp2_with fail
    go_meet
    case rel => exact ⟨_, r, _, false, rfl, HR.out, HS.out, rfl, HW2.out⟩
 clear HR HW P r
 obtain ⟨P, r0, r, bb, rfl, hR, hse, hr', hw⟩ := hcut
 have HR0 := Hi hR
 have HSE := Hi hse
 have HRP := Hi hr'
 have HW := Hi hw
 clear hR hse hr' hw
 go_upto_if 10 with fail
 go_cut [] from 4 (fun wx => ∃ (P : Prov) (r : List Tok), endF (provF l) = pv1 P r ∧ PW w wx p fin ts r P)
 case first =>
  cases bb with
  | false =>
    go_wp2_with fail
    go_meet
    case rel => exact ⟨P, r, by rw [HR0.out]; unfold pv0; rw [isF_no HSE.out, HRP.out]; rfl, HW.out⟩
  | true =>
    have HR2 : Hid (endF (provF l) = pv0y P r) := Hi (by rw [HR0.out]; unfold pv0; rw [isF_yes HSE.out, HRP.out]; rfl)
    go_wp2_with fail
    refine calls_out (formula_any p fin ts r _ HW.out.ps) ?_ ?_
    case refine_2 =>
     intro c s wE hq heE
     have HRR : Hid (endF (provF l) = .error (c, s)) := Hi (by rw [HR2.out, pv0y, hq]; rfl)
     clear hq
     go_wp2_with fail
     refine ⟨rfl, ?_⟩
     rw [HRR.out]
     exact ⟨rfl, HW.out.eff.trans heE⟩
    case refine_1 =>
     intro t r2 v w2 hq hv hp2 he2
     have HW2 := Hi (HW.out.call he2 hp2)
     have HR3 : Hid (∀ P2 : Prov, ({ P with cond := t } : Prov) = P2 → endF (provF l) = pv1 P2 r2) := Hi (by rintro _ rfl; rw [HR2.out, pv0y, hq]; rfl)
     obtain ⟨cs, rfl, hrt⟩ := hv
     have HRT := Hi hrt
     obtain ⟨o', nm', cm', m', ks'⟩ := t
     obtain ⟨K', q', rfl, -, -⟩ := hrt
     simp only [tcs]
     obtain ⟨v5, e5, g5⟩ := HW2.out.cells 5 (by decide)
     obtain ⟨v6, e6, g6⟩ := HW2.out.cells 6 (by decide)
     obtain ⟨v7, e7, g7⟩ := HW2.out.cells 7 (by decide)
     obtain ⟨v8, e8, g8⟩ := HW2.out.cells 8 (by decide)
     obtain ⟨v9, e9, g9⟩ := HW2.out.cells 9 (by decide)
     have dl := HW2.out.room
     have HST := Hi (HW2.out.setCond o' nm' cm' m' ks' K' q' (HRT.out.keep (lR _) (fun b hb _ => ⟨by have := HW.out.room; omega, rfl⟩)))
     clear hq hp2 he2
     go_wp2_with fail
     go_meet
     case rel => exact ⟨_, _, HR3.out _ rfl, HST.out⟩
 clear HR0 HSE HRP HW P r r0
 obtain ⟨P, r, hR, hw⟩ := hcut
 have HR := Hi hR
 have HW := Hi hw
 clear hR hw
 go_upto_region 4 with fail
 go_cut [15] from 4 (fun s wx => ∃ (P : Prov) (r r' : List Tok) (bb : Bool), s = .bool bb ∧ endF (provF l) = pv1 P r ∧ seesF [[116, 101, 114, 109]] r = bb ∧ r' = (if bb then r.tail else r) ∧ PW w wx p fin ts r' P)
 case first =>
  cases hs : seesF [[116, 101, 114, 109]] r with
  | true =>
    have HS := Hi hs
    clear hs
    go_wp2_with fail
    refine (is_yes [116, 101, 114, 109] p fin ts r _ HW.out.ps HS.out).mono ?_
    rintro e w2 ⟨rfl, hp, he⟩
    have HW2 := Hi (HW.out.call he hp)
    clear hp he
    go_wp2_with fail
    go_meet
    case rel => exact ⟨_, r, _, true, rfl, HR.out, HS.out, rfl, HW2.out⟩
  | false =>
    have HS := Hi hs
    clear hs
    go_wp2_with fail
    refine (is_no [116, 101, 114, 109] p fin ts r _ HW.out.ps HS.out).mono ?_
    rintro e w2 ⟨rfl, hb⟩
    have HW2 := Hi (HW.out.below hb)
    clear hb
    go_wp2_with fail
    go_meet
    case rel => exact ⟨_, r, _, false, rfl, HR.out, HS.out, rfl, HW2.out⟩
 clear HR HW P r
 obtain ⟨P, r0, r, bb, rfl, hR, hse, hr', hw⟩ := hcut
 have HR0 := Hi hR
 have HSE := Hi hse
 have HRP := Hi hr'
 have HW := Hi hw
 clear hR hse hr' hw
 go_upto_if 15 with fail
 go_cut [] from 4 (fun wx => ∃ (P : Prov) (r : List Tok), endF (provF l) = pv2 P r ∧ PW w wx p fin ts r P)
 case first =>
  cases bb with
  | true =>
    have HR : Hid (endF (provF l) = pvT P r) := Hi (by rw [HR0.out]; unfold pv1; rw [isF_yes HSE.out, HRP.out]; rfl)
    go_wp2_with fail
    refine calls_out (name_any p fin ts r _ HW.out.ps) ?_ ?_
    case refine_2 =>
     intro c s wE hq heE
     have HRR : Hid (endF (provF l) = .error (c, s)) := Hi (by rw [HR.out, pvT, hq]; rfl)
     clear hq
     go_wp2_with fail
     refine ⟨rfl, ?_⟩
     rw [HRR.out]
     exact ⟨rfl, HW.out.eff.trans heE⟩
    intro sN rN vN wN hq hv hpN heN
    obtain ⟨tN, rfl, rfl⟩ := hv
    have HWN := Hi (HW.out.call heN hpN)
    have HRN : Hid (∀ P2 : Prov, ({ P with name := tN.text } : Prov) = P2 → endF (provF l) = pv2 P2 rN) := Hi (by rintro _ rfl; rw [HR.out, pvT, hq]; rfl)
    simp only [Tok.agg]
    obtain ⟨v3, e3, g3⟩ := HWN.out.cells 3 (by decide)
    have dl := HWN.out.room
    clear hq hpN heN
    go_wp2_with fail
    have HST := Hi (HWN.out.setName tN.text)
    go_meet
    case rel => exact ⟨_, _, HRN.out _ rfl, HST.out⟩
  | false =>
    have HR : Hid (endF (provF l) = pvQ P r) := Hi (by rw [HR0.out]; unfold pv1; rw [isF_no HSE.out, HRP.out]; rfl)
    go_wp2_with fail
    refine calls_out (must_any [113, 117, 101, 115, 116, 105, 111, 110] p fin ts r _ HW.out.ps) ?_ ?_
    case refine_2 =>
     intro c s wE hq heE
     have HRR : Hid (endF (provF l) = .error (c, s)) := Hi (by rw [HR.out, pvQ, hq]; rfl)
     clear hq
     go_wp2_with fail
     refine ⟨rfl, ?_⟩
     rw [HRR.out]
     exact ⟨rfl, HW.out.eff.trans heE⟩
    intro u rn v wn hq hv hpn hen
    subst hv
    have HRn : Hid (endF (provF l) = pvN P rn) := Hi (by rw [HR.out, pvQ, hq]; rfl)
    have HWn := Hi (HW.out.call hen hpn)
    clear hq hpn hen
    clear HR HW
    have HR := HRn
    have HW := HWn
    clear HRn HWn
    go_wp2_with fail
    refine calls_out (name_any p fin ts rn _ HW.out.ps) ?_ ?_
    case refine_2 =>
     intro c s wE hq heE
     have HRR : Hid (endF (provF l) = .error (c, s)) := Hi (by rw [HR.out, pvN, hq]; rfl)
     clear hq
     go_wp2_with fail
     refine ⟨rfl, ?_⟩
     rw [HRR.out]
     exact ⟨rfl, HW.out.eff.trans heE⟩
    intro sN rN vN wN hq hv hpN heN
    obtain ⟨tN, rfl, rfl⟩ := hv
    have HWN := Hi (HW.out.call heN hpN)
    have HRN : Hid (∀ P2 : Prov, ({ P with kind := 2, name := tN.text } : Prov) = P2 → endF (provF l) = pvG P2 rN) := Hi (by rintro _ rfl; rw [HR.out, pvN, hq]; rfl)
    simp only [Tok.agg]
    obtain ⟨v2, e2, g2⟩ := HWN.out.cells 2 (by decide)
    obtain ⟨v3, e3, g3⟩ := HWN.out.cells 3 (by decide)
    have dl := HWN.out.room
    clear hq hpN heN
    go_wp2_with fail
    have HST := Hi (HWN.out.setKN 2 tN.text)
    have HR1 := Hi (HRN.out _ rfl)
    generalize ({ P with kind := 2, name := tN.text } : Prov) = P2 at HST HR1
    refine calls_out (must_any [103, 105, 118, 101, 115] p fin ts rN _ HST.out.ps) ?_ ?_
    case refine_2 =>
     intro c s wE hq heE
     have HRR : Hid (endF (provF l) = .error (c, s)) := Hi (by rw [HR1.out, pvG, hq]; rfl)
     clear hq
     go_wp2_with fail
     refine ⟨rfl, ?_⟩
     rw [HRR.out]
     exact ⟨rfl, HST.out.eff.trans heE⟩
    intro u rn2 v wn hq hv hpn hen
    subst hv
    have HRn : Hid (endF (provF l) = pvV P2 rn2) := Hi (by rw [HR1.out, pvG, hq]; rfl)
    have HWn := Hi (HST.out.call hen hpn)
    clear hq hpn hen
    clear HR HW HR1
    have HR := HRn
    have HW := HWn
    clear HRn HWn
    go_wp2_with fail
    refine calls_out (limited_any 1000000 p fin ts rn2 _ HW.out.ps) ?_ ?_
    case refine_2 =>
     intro c s wE hq heE
     have HRR : Hid (endF (provF l) = .error (c, s)) := Hi (by rw [HR.out, pvV, hq]; rfl)
     clear hq
     go_wp2_with fail
     refine ⟨rfl, ?_⟩
     rw [HRR.out]
     exact ⟨rfl, HW.out.eff.trans heE⟩
    intro vv rL vL wL hq hv hpL heL
    subst hv
    have HWL := Hi (HW.out.call heL hpL)
    have HRL : Hid (endF (provF l) = pv2 { P2 with value := vv } rL) := Hi (by rw [HR.out, pvV, hq]; rfl)
    obtain ⟨v4, e4, g4⟩ := HWL.out.cells 4 (by decide)
    have dl := HWL.out.room
    clear hq hpL heL
    go_wp2_with fail
    have HST2 := Hi (HWL.out.setValue vv)
    go_meet
    case rel => exact ⟨_, _, HRL.out, HST2.out⟩
 clear HR0 HSE HRP HW P r r0
 obtain ⟨P, r, hR, hw⟩ := hcut
 have HR := Hi hR
 have HW := Hi hw
 clear hR hw
 go_upto_region 10 with fail
 go_cut [33] from 4 (fun s wx => ∃ (P : Prov) (r r' : List Tok) (bb : Bool), s = .bool bb ∧ endF (provF l) = pv2 P r ∧ seesF [[111, 118, 101, 114, 114, 105, 100, 101, 115]] r = bb ∧ r' = (if bb then r.tail else r) ∧ PW w wx p fin ts r' P)
 case first =>
  cases hs : seesF [[111, 118, 101, 114, 114, 105, 100, 101, 115]] r with
  | true =>
    have HS := Hi hs
    clear hs
    go_wp2_with fail
    refine (is_yes [111, 118, 101, 114, 114, 105, 100, 101, 115] p fin ts r _ HW.out.ps HS.out).mono ?_
    rintro e w2 ⟨rfl, hp, he⟩
    have HW2 := Hi (HW.out.call he hp)
    clear hp he
    go_wp2_with fail
    go_meet
    case rel => exact ⟨_, r, _, true, rfl, HR.out, HS.out, rfl, HW2.out⟩
  | false =>
    have HS := Hi hs
    clear hs
    go_wp2_with fail
    refine (is_no [111, 118, 101, 114, 114, 105, 100, 101, 115] p fin ts r _ HW.out.ps HS.out).mono ?_
    rintro e w2 ⟨rfl, hb⟩
    have HW2 := Hi (HW.out.below hb)
    clear hb
    go_wp2_with fail
    go_meet
    case rel => exact ⟨_, r, _, false, rfl, HR.out, HS.out, rfl, HW2.out⟩
 clear HR HW P r
 obtain ⟨P, r0, r, bb, rfl, hR, hse, hr', hw⟩ := hcut
 have HR0 := Hi hR
 have HSE := Hi hse
 have HRP := Hi hr'
 have HW := Hi hw
 clear hR hse hr' hw
 go_upto_if 33 with fail
 go_cut [] from 4 (fun wx => ∃ (P : Prov) (r : List Tok), endF (provF l) = pv3 P r ∧ PW w wx p fin ts r P)
 case first =>
  cases bb with
  | false =>
    go_wp2_with fail
    go_meet
    case rel => exact ⟨P, r, by rw [HR0.out]; unfold pv2; rw [isF_no HSE.out, HRP.out]; rfl, HW.out⟩
  | true =>
    have HR2 : Hid (endF (provF l) = pv2y P r) := Hi (by rw [HR0.out]; unfold pv2; rw [isF_yes HSE.out, HRP.out]; rfl)
    go_wp2_with fail
    refine calls_out (except_any p fin ts r _ HW.out.ps) ?_ ?_
    case refine_2 =>
     intro c s wE hq heE
     have HRR : Hid (endF (provF l) = .error (c, s)) := Hi (by rw [HR2.out, pv2y, hq]; rfl)
     clear hq
     go_wp2_with fail
     refine ⟨rfl, ?_⟩
     rw [HRR.out]
     exact ⟨rfl, HW.out.eff.trans heE⟩
    case refine_1 =>
     intro t r2 v w2 hq hv hp2 he2
     have HW2 := Hi (HW.out.call he2 hp2)
     have HR3 : Hid (∀ P2 : Prov, ({ P with exc := t } : Prov) = P2 → endF (provF l) = pv3 P2 r2) := Hi (by rintro _ rfl; rw [HR2.out, pv2y, hq]; rfl)
     obtain ⟨K', q', rfl, hcap, hrd, hA⟩ := hv
     have HHC := Hi hcap
     have HRD := Hi hrd
     have HA := Hi hA
     clear hcap hrd hA
     obtain ⟨v10, e10, g10⟩ := HW2.out.cells 10 (by decide)
     have dl := HW2.out.room
     have HST := Hi (HW2.out.setExc t K' q' HHC.out ⟨HRD.out, fun b o e => ⟨by have := (HA.out b o e).1; have := HW.out.room; omega, (HA.out b o e).2⟩⟩)
     clear hq hp2 he2
     go_wp2_with fail
     go_meet
     case rel => exact ⟨_, _, HR3.out _ rfl, HST.out⟩
 clear HR0 HSE HRP HW P r r0
 obtain ⟨P, r, hR, hw⟩ := hcut
 have HR := Hi hR
 have HW := Hi hw
 clear hR hw
 go_upto_region 12 with fail
 go_cut [38] from 4 (fun s wx => ∃ (P : Prov) (r r' : List Tok) (bb : Bool), s = .bool bb ∧ endF (provF l) = pv3 P r ∧ seesF [[115, 116, 97, 114, 116, 115]] r = bb ∧ r' = (if bb then r.tail else r) ∧ PW w wx p fin ts r' P)
 case first =>
  cases hs : seesF [[115, 116, 97, 114, 116, 115]] r with
  | true =>
    have HS := Hi hs
    clear hs
    go_wp2_with fail
    refine (is_yes [115, 116, 97, 114, 116, 115] p fin ts r _ HW.out.ps HS.out).mono ?_
    rintro e w2 ⟨rfl, hp, he⟩
    have HW2 := Hi (HW.out.call he hp)
    clear hp he
    go_wp2_with fail
    go_meet
    case rel => exact ⟨_, r, _, true, rfl, HR.out, HS.out, rfl, HW2.out⟩
  | false =>
    have HS := Hi hs
    clear hs
    go_wp2_with fail
    refine (is_no [115, 116, 97, 114, 116, 115] p fin ts r _ HW.out.ps HS.out).mono ?_
    rintro e w2 ⟨rfl, hb⟩
    have HW2 := Hi (HW.out.below hb)
    clear hb
    go_wp2_with fail
    go_meet
    case rel => exact ⟨_, r, _, false, rfl, HR.out, HS.out, rfl, HW2.out⟩
 clear HR HW P r
 obtain ⟨P, r0, r, bb, rfl, hR, hse, hr', hw⟩ := hcut
 have HR0 := Hi hR
 have HSE := Hi hse
 have HRP := Hi hr'
 have HW := Hi hw
 clear hR hse hr' hw
 go_upto_if 38 with fail
 go_cut [] from 4 (fun wx => ∃ (P : Prov) (r : List Tok), endF (provF l) = pv4 P r ∧ PW w wx p fin ts r P)
 case first =>
  cases bb with
  | false =>
    go_wp2_with fail
    go_meet
    case rel => exact ⟨P, r, by rw [HR0.out]; unfold pv3; rw [isF_no HSE.out, HRP.out]; rfl, HW.out⟩
  | true =>
    have HR2 : Hid (endF (provF l) = pv3y P r) := Hi (by rw [HR0.out]; unfold pv3; rw [isF_yes HSE.out, HRP.out]; rfl)
    go_wp2_with fail
    refine calls_out (condition_any p fin ts r _ HW.out.ps) ?_ ?_
    case refine_2 =>
     intro c s wE hq heE
     have HRR : Hid (endF (provF l) = .error (c, s)) := Hi (by rw [HR2.out, pv3y, hq]; rfl)
     clear hq
     go_wp2_with fail
     refine ⟨rfl, ?_⟩
     rw [HRR.out]
     exact ⟨rfl, HW.out.eff.trans heE⟩
    case refine_1 =>
     intro t r2 v w2 hq hv hp2 he2
     have HW2 := Hi (HW.out.call he2 hp2)
     have HR3 : Hid (∀ P2 : Prov, ({ P with beg := t } : Prov) = P2 → endF (provF l) = pv4 P2 r2) := Hi (by rintro _ rfl; rw [HR2.out, pv3y, hq]; rfl)
     obtain ⟨cs, rfl, hrt⟩ := hv
     have HRT := Hi hrt
     obtain ⟨o', nm', cm', m', ks'⟩ := t
     obtain ⟨K', q', rfl, -, -⟩ := hrt
     simp only [tcs]
     obtain ⟨v11, e11, g11⟩ := HW2.out.cells 11 (by decide)
     obtain ⟨v12, e12, g12⟩ := HW2.out.cells 12 (by decide)
     obtain ⟨v13, e13, g13⟩ := HW2.out.cells 13 (by decide)
     obtain ⟨v14, e14, g14⟩ := HW2.out.cells 14 (by decide)
     have dl := HW2.out.room
     have HST := Hi (HW2.out.setBeg o' nm' cm' m' ks' K' q' (HRT.out.keep (lR _) (fun b hb _ => ⟨by have := HW.out.room; omega, rfl⟩)))
     clear hq hp2 he2
     go_wp2_with fail
     go_meet
     case rel => exact ⟨_, _, HR3.out _ rfl, HST.out⟩
 clear HR0 HSE HRP HW P r r0
 obtain ⟨P, r, hR, hw⟩ := hcut
 have HR := Hi hR
 have HW := Hi hw
 clear hR hw
 go_upto_region 14 with fail
 go_cut [43] from 4 (fun s wx => ∃ (P : Prov) (r r' : List Tok) (bb : Bool), s = .bool bb ∧ endF (provF l) = pv4 P r ∧ seesF [[101, 110, 100, 115]] r = bb ∧ r' = (if bb then r.tail else r) ∧ PW w wx p fin ts r' P)
 case first =>
  cases hs : seesF [[101, 110, 100, 115]] r with
  | true =>
    have HS := Hi hs
    clear hs
    go_wp2_with fail
    refine (is_yes [101, 110, 100, 115] p fin ts r _ HW.out.ps HS.out).mono ?_
    rintro e w2 ⟨rfl, hp, he⟩
    have HW2 := Hi (HW.out.call he hp)
    clear hp he
    go_wp2_with fail
    go_meet
    case rel => exact ⟨_, r, _, true, rfl, HR.out, HS.out, rfl, HW2.out⟩
  | false =>
    have HS := Hi hs
    clear hs
    go_wp2_with fail
    refine (is_no [101, 110, 100, 115] p fin ts r _ HW.out.ps HS.out).mono ?_
    rintro e w2 ⟨rfl, hb⟩
    have HW2 := Hi (HW.out.below hb)
    clear hb
    go_wp2_with fail
    go_meet
    case rel => exact ⟨_, r, _, false, rfl, HR.out, HS.out, rfl, HW2.out⟩
 clear HR HW P r
 obtain ⟨P, r0, r, bb, rfl, hR, hse, hr', hw⟩ := hcut
 have HR0 := Hi hR
 have HSE := Hi hse
 have HRP := Hi hr'
 have HW := Hi hw
 clear hR hse hr' hw
 go_upto_if 43 with fail
 go_cut [] from 4 (fun wx => ∃ (P : Prov) (r : List Tok), endF (provF l) = pv5 P r ∧ PW w wx p fin ts r P)
 case first =>
  cases bb with
  | false =>
    go_wp2_with fail
    go_meet
    case rel => exact ⟨P, r, by rw [HR0.out]; unfold pv4; rw [isF_no HSE.out, HRP.out]; rfl, HW.out⟩
  | true =>
    have HR2 : Hid (endF (provF l) = pv4y P r) := Hi (by rw [HR0.out]; unfold pv4; rw [isF_yes HSE.out, HRP.out]; rfl)
    go_wp2_with fail
    refine calls_out (condition_any p fin ts r _ HW.out.ps) ?_ ?_
    case refine_2 =>
     intro c s wE hq heE
     have HRR : Hid (endF (provF l) = .error (c, s)) := Hi (by rw [HR2.out, pv4y, hq]; rfl)
     clear hq
     go_wp2_with fail
     refine ⟨rfl, ?_⟩
     rw [HRR.out]
     exact ⟨rfl, HW.out.eff.trans heE⟩
    case refine_1 =>
     intro t r2 v w2 hq hv hp2 he2
     have HW2 := Hi (HW.out.call he2 hp2)
     have HR3 : Hid (∀ P2 : Prov, ({ P with fin := t } : Prov) = P2 → endF (provF l) = pv5 P2 r2) := Hi (by rintro _ rfl; rw [HR2.out, pv4y, hq]; rfl)
     obtain ⟨cs, rfl, hrt⟩ := hv
     have HRT := Hi hrt
     obtain ⟨o', nm', cm', m', ks'⟩ := t
     obtain ⟨K', q', rfl, -, -⟩ := hrt
     simp only [tcs]
     obtain ⟨v15, e15, g15⟩ := HW2.out.cells 15 (by decide)
     obtain ⟨v16, e16, g16⟩ := HW2.out.cells 16 (by decide)
     obtain ⟨v17, e17, g17⟩ := HW2.out.cells 17 (by decide)
     obtain ⟨v18, e18, g18⟩ := HW2.out.cells 18 (by decide)
     have dl := HW2.out.room
     have HST := Hi (HW2.out.setFin o' nm' cm' m' ks' K' q' (HRT.out.keep (lR _) (fun b hb _ => ⟨by have := HW.out.room; omega, rfl⟩)))
     clear hq hp2 he2
     go_wp2_with fail
     go_meet
     case rel => exact ⟨_, _, HR3.out _ rfl, HST.out⟩
 clear HR0 HSE HRP HW P r r0
 obtain ⟨P, r, hR, hw⟩ := hcut
 have HR := Hi hR
 have HW := Hi hw
 clear hR hw
 go_upto_region 16 with fail
 go_cut [48] from 4 (fun s wx => ∃ (P : Prov) (r r' : List Tok) (bb : Bool), s = .bool bb ∧ endF (provF l) = pv5 P r ∧ seesF [[114, 101, 116, 117, 114, 110, 115]] r = bb ∧ r' = (if bb then r.tail else r) ∧ PW w wx p fin ts r' P)
 case first =>
  cases hs : seesF [[114, 101, 116, 117, 114, 110, 115]] r with
  | true =>
    have HS := Hi hs
    clear hs
    go_wp2_with fail
    refine (is_yes [114, 101, 116, 117, 114, 110, 115] p fin ts r _ HW.out.ps HS.out).mono ?_
    rintro e w2 ⟨rfl, hp, he⟩
    have HW2 := Hi (HW.out.call he hp)
    clear hp he
    go_wp2_with fail
    go_meet
    case rel => exact ⟨_, r, _, true, rfl, HR.out, HS.out, rfl, HW2.out⟩
  | false =>
    have HS := Hi hs
    clear hs
    go_wp2_with fail
    refine (is_no [114, 101, 116, 117, 114, 110, 115] p fin ts r _ HW.out.ps HS.out).mono ?_
    rintro e w2 ⟨rfl, hb⟩
    have HW2 := Hi (HW.out.below hb)
    clear hb
    go_wp2_with fail
    go_meet
    case rel => exact ⟨_, r, _, false, rfl, HR.out, HS.out, rfl, HW2.out⟩
 clear HR HW P r
 obtain ⟨P, r0, r, bb, rfl, hR, hse, hr', hw⟩ := hcut
 have HR0 := Hi hR
 have HSE := Hi hse
 have HRP := Hi hr'
 have HW := Hi hw
 clear hR hse hr' hw
 go_upto_if 48 with fail
 go_cut [] from 4 (fun wx => ∃ (P : Prov) (r : List Tok), endF (provF l) = pv6 P r ∧ PW w wx p fin ts r P)
 case first =>
  cases bb with
  | false =>
    go_wp2_with fail
    go_meet
    case rel => exact ⟨P, r, by rw [HR0.out]; unfold pv5; rw [isF_no HSE.out, HRP.out]; rfl, HW.out⟩
  | true =>
    have HR2 : Hid (endF (provF l) = pv5y P r) := Hi (by rw [HR0.out]; unfold pv5; rw [isF_yes HSE.out, HRP.out]; rfl)
    go_wp2_with fail
    refine calls_out (condition_any p fin ts r _ HW.out.ps) ?_ ?_
    case refine_2 =>
     intro c s wE hq heE
     have HRR : Hid (endF (provF l) = .error (c, s)) := Hi (by rw [HR2.out, pv5y, hq]; rfl)
     clear hq
     go_wp2_with fail
     refine ⟨rfl, ?_⟩
     rw [HRR.out]
     exact ⟨rfl, HW.out.eff.trans heE⟩
    case refine_1 =>
     intro t r2 v w2 hq hv hp2 he2
     have HW2 := Hi (HW.out.call he2 hp2)
     have HR3 : Hid (∀ P2 : Prov, ({ P with aga := t } : Prov) = P2 → endF (provF l) = pv6 P2 r2) := Hi (by rintro _ rfl; rw [HR2.out, pv5y, hq]; rfl)
     obtain ⟨cs, rfl, hrt⟩ := hv
     have HRT := Hi hrt
     obtain ⟨o', nm', cm', m', ks'⟩ := t
     obtain ⟨K', q', rfl, -, -⟩ := hrt
     simp only [tcs]
     obtain ⟨v19, e19, g19⟩ := HW2.out.cells 19 (by decide)
     obtain ⟨v20, e20, g20⟩ := HW2.out.cells 20 (by decide)
     obtain ⟨v21, e21, g21⟩ := HW2.out.cells 21 (by decide)
     obtain ⟨v22, e22, g22⟩ := HW2.out.cells 22 (by decide)
     have dl := HW2.out.room
     have HST := Hi (HW2.out.setAga o' nm' cm' m' ks' K' q' (HRT.out.keep (lR _) (fun b hb _ => ⟨by have := HW.out.room; omega, rfl⟩)))
     clear hq hp2 he2
     go_wp2_with fail
     go_meet
     case rel => exact ⟨_, _, HR3.out _ rfl, HST.out⟩
 clear HR0 HSE HRP HW P r r0
 obtain ⟨P, r, hR, hw⟩ := hcut
 have HR := Hi hR
 have HW := Hi hw
 clear hR hw
 go_wp2_with fail
 refine calls_out (must_any [91] p fin ts r _ HW.out.ps) ?_ ?_
 case refine_2 =>
  intro c s wE hq heE
  have HRR : Hid (endF (provF l) = .error (c, s)) := Hi (by rw [HR.out, pv6, hq]; rfl)
  clear hq
  go_wp2_with fail
  refine ⟨rfl, ?_⟩
  rw [HRR.out]
  exact ⟨rfl, HW.out.eff.trans heE⟩
 intro u rn v wn hq hv hpn hen
 subst hv
 have HRn : Hid (endF (provF l) = pv7 P rn) := Hi (by rw [HR.out, pv6, hq]; rfl)
 have HWn := Hi (HW.out.call hen hpn)
 clear hq hpn hen
 clear HR HW
 have HR := HRn
 have HW := HWn
 clear HRn HWn
 have M0 := MapB.made wn 1
 go_wp2_with (first | (refine wpList_ins rfl (.tmp 55) _ _ rfl wn _ 0 1 [] [99, 104, 97, 114, 116, 101, 114] 1 rfl rfl rfl rfl (by decide) (by decide) (by decide) (by assumption) ?_; intro ww1 M1; simp only [List.cons_append, List.nil_append] at M1) | (refine wpList_ins rfl (.tmp 55) _ _ rfl wn _ 1 1 [[99, 104, 97, 114, 116, 101, 114]] [115, 116, 97, 116, 117, 116, 101] 2 rfl rfl rfl rfl (by decide) (by decide) (by decide) (by assumption) ?_; intro ww2 M2; simp only [List.cons_append, List.nil_append] at M2) | (refine wpList_ins rfl (.tmp 55) _ _ rfl wn _ 2 1 [[99, 104, 97, 114, 116, 101, 114], [115, 116, 97, 116, 117, 116, 101]] [111, 114, 100, 101, 114] 3 rfl rfl rfl rfl (by decide) (by decide) (by decide) (by assumption) ?_; intro ww3 M3; simp only [List.cons_append, List.nil_append] at M3) | (refine wpList_ins rfl (.tmp 55) _ _ rfl wn _ 3 1 [[99, 104, 97, 114, 116, 101, 114], [115, 116, 97, 116, 117, 116, 101], [111, 114, 100, 101, 114]] [114, 117, 108, 101] 4 rfl rfl rfl rfl (by decide) (by decide) (by decide) (by assumption) ?_; intro ww4 M4; simp only [List.cons_append, List.nil_append] at M4))
 have HWM := Hi (HW.out.below M4.bel)
 refine calls_out (choose_any [[99, 104, 97, 114, 116, 101, 114], [115, 116, 97, 116, 117, 116, 101], [111, 114, 100, 101, 114], [114, 117, 108, 101]] (by decide) 1 _ 4 p fin ts rn _ HWM.out.ps M4.own) ?_ ?_
 case refine_2 =>
  intro c s wE hq heE
  have HRR : Hid (endF (provF l) = .error (c, s)) := Hi (by rw [HR.out, pv7, hq]; rfl)
  clear hq
  go_wp2_with fail
  refine ⟨rfl, ?_⟩
  rw [HRR.out]
  exact ⟨rfl, HWM.out.eff.trans heE⟩
 intro kC rC vC wC hq hv hpC heC
 subst hv
 have HWC := Hi (HWM.out.call heC hpC)
 have HRC : Hid (endF (provF l) = pv8 { P with rank := 1 + kC } rC) := Hi (by rw [HR.out, pv7, hq]; rfl)
 obtain ⟨v1, e1, g1⟩ := HWC.out.cells 1 (by decide)
 have dl := HWC.out.room
 clear hq hpC heC M0 M1 M2 M3 M4 HWM
 go_wp2_with fail
 have HST := Hi (HWC.out.setRank (1 + kC))
 clear HR HW HWC
 generalize ({ P with rank := 1 + kC } : Prov) = P2 at HST HRC
 refine calls_out (name_any p fin ts rC _ HST.out.ps) ?_ ?_
 case refine_2 =>
  intro c s wE hq heE
  have HRR : Hid (endF (provF l) = .error (c, s)) := Hi (by rw [HRC.out, pv8, hq]; rfl)
  clear hq
  go_wp2_with fail
  refine ⟨rfl, ?_⟩
  rw [HRR.out]
  exact ⟨rfl, HST.out.eff.trans heE⟩
 intro sN rN vN wN hq hv hpN heN
 obtain ⟨tN, rfl, rfl⟩ := hv
 have HWN := Hi (HST.out.call heN hpN)
 have HRN : Hid (endF (provF l) = pv9 { P2 with id := tN.text } rN) := Hi (by rw [HRC.out, pv8, hq]; rfl)
 simp only [Tok.agg]
 obtain ⟨v0, e0, g0⟩ := HWN.out.cells 0 (by decide)
 have dl := HWN.out.room
 clear hq hpN heN e1 g1
 go_wp2_with fail
 have HSI := Hi (HWN.out.setId tN.text)
 clear HRC HST HWN
 generalize ({ P2 with id := tN.text } : Prov) = P3 at HSI HRN
 refine calls_out (must_any [93] p fin ts rN _ HSI.out.ps) ?_ ?_
 case refine_2 =>
  intro c s wE hq heE
  have HRR : Hid (endF (provF l) = .error (c, s)) := Hi (by rw [HRN.out, pv9, hq]; rfl)
  clear hq
  go_wp2_with fail
  refine ⟨rfl, ?_⟩
  rw [HRR.out]
  exact ⟨rfl, HSI.out.eff.trans heE⟩
 intro u r9 v9 w9 hq hv hp9 he9
 subst hv
 have HR9 : Hid (endF (provF l) = pvE P3 r9) := Hi (by rw [HRN.out, pv9, hq]; rfl)
 have HW9 := Hi (HSI.out.call he9 hp9)
 clear hq hp9 he9 HRN HSI e0 g0
 obtain ⟨A9, c9, uT, hh, hu, hr9, -⟩ := HW9.out.ps.is
 have c0 := cOb (o := 0) hh rfl
 have c1 := cOb (o := 1) hh rfl
 have hlt := lHp hh
 have hlen : ts.length = uT.length + r9.length := by rw [hu, List.length_append]
 clear hh hr9 hu
 cases r9 with
 | cons t r =>
   simp only [List.length_cons] at hlen
   have y1 : decide ((uT.length : Int) < (ts.length : Int)) = true := by simp; omega
   have y2 : (uT.length : Int) < (ts.length : Int) := by omega
   have HRR : Hid (endF (provF l) = .error (failC (t :: r), t :: r)) := HR9
   clear hlen
   go_upto_region 22 with fail
   refine wp_region_grew (by kernel_rfl) (by as_aux_lemma => kernel_rfl) ?_
   repeat (go_big_quiet_step (fail))
   refine wpQuiet_nil ?_
   rintro _ ⟨y, rfl⟩
   have HWG := Hi (HW9.out.below (gBl w9 y))
   generalize World.grew w9 y = wg at HWG ⊢
   clear c0 c1 hlt
   go_wp2_with fail
   refine (fail_any p fin ts _ _ HWG.out.ps).mono ?_
   rintro e w10 ⟨rfl, hb10⟩
   have HER := Hi (HWG.out.eff.trans (Eff.of_below (p := p) hb10))
   clear hb10
   go_wp2_with fail
   refine ⟨rfl, ?_⟩
   rw [HRR.out]
   exact ⟨rfl, HER.out⟩
 | nil =>
   simp only [List.length_nil, Nat.add_zero] at hlen
   have y1 : decide ((uT.length : Int) < (ts.length : Int)) = false := by simp; omega
   have y2 : ¬ (uT.length : Int) < (ts.length : Int) := by omega
   clear hlen
   go_upto_region 22 with fail
   refine wp_region_grew (by kernel_rfl) (by as_aux_lemma => kernel_rfl) ?_
   repeat (go_big_quiet_step (fail))
   refine wpQuiet_nil ?_
   rintro _ ⟨y, rfl⟩
   have HWG := Hi (HW9.out.below (gBl w9 y))
   generalize World.grew w9 y = wg at HWG ⊢
   clear c0 c1 hlt
   obtain ⟨C, hb1, hC⟩ := HWG.out.out
   have hb0 := HWG.out.res
   have HRR : Hid (endF (provF l) = .ok (P3, [])) := HR9
   have HFIN := Hi (prov_fin HWG.out hC HRR.out)
   have hl := hC.len
   have ha : allOne C = true := by
    obtain ⟨cc, A, cap, cb, cf, ca, rfl, -, l2, -, l4, l5, l6⟩ := hC
    simp only [List.cons_append, List.nil_append, allOne, allOne_app l2.one, allOne_app l4.one, allOne_app l5.one, Value.oneCell', Bool.true_and]
    exact allOne_of l6.one
   have hsz : C.toArray.size = 23 := by simp [hl]
   have HHC := Hi hC
   clear hC hl
   go_wp2_with fail
   rw [rowStore_cells _ _ _ _ _ (by rfl) hsz ha]
   have hsr : (wg.setRow w.heap.size C.toArray).blk w.heap.size = some (.cells C.toArray 30 (0, 0)) := blk_setRow_at hb0
   have HSR := Hi hsr
   clear hsr
   go_wp2_with fail
   refine bodyPost_ret (v := .agg C.toArray) ?_ rfl HFIN.out
   exact results_cell_row Tryz.results56 _ _ w.heap.size 30 _ (0, 0) _ (by rfl) HSR.out Tryz.underlying30 rfl (by rw [hsz]; kernel_rfl)
end So
end Go.Proofs.YtbicmjmcdnkjhaaGreatDoor
