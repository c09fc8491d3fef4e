/- pandectref10.Same: two provisions compared. The example of the printer's statements: what it is written as. Plain laws of the lexer. Plain laws of the parser: one token ahead; places make no difference. What all rows of the Printer ask: the listed variables at the door, the library's cell, the builder that hands on the world's shape. A provision that came in as data. -/
import Derived.Test.YtbicmjmcdnkjhaaGreatDoorJSS1
import Derived.Test.YtbicmjmcdnkjhaaGreatDoorJSS21
import Derived.Test.YtbicmjmcdnkjhaaGreatDoorJSS8
import Derived.Test.YtbicmjmcdnkjhaaGreatDoorJSS3
import Derived.Test.YtbicmjmcdnkjhaaGreatDoorJSS2
import Derived.Test.YtbicmjmcdnkjhaaGreatDoorJSS10
import Derived.LaidSub
import Derived.MakeChecks
import Derived.Lib.LaidTab
import Derived.ProofKit
import Derived.LaidMore
import Derived.OpenShut
import Derived.Stop.Joined
import Derived.HandedShaped
import Derived.SevenTiedAt
import Derived.Shelf.Vars
import Derived.ChangeSame
import Derived.Test.YtbicmjmcdnkjhaaGreatDoorJSS6
import Derived.Deep.Slices
import Derived.Deep.Fields
set_option linter.unusedVariables false
set_option linter.unusedSimpArgs false
set_option maxRecDepth 20000
set_option maxHeartbeats 8000000
namespace Go.Proofs.YtbicmjmcdnkjhaaGreatDoor
open Go.RowKit
theorem sameP_any (P Q : ProvI) (cs1 cs2 : List Value) (w : World) (h1 : RdPX w cs1 P) (h2 : RdPX w cs2 Q) (hp1 : plainP P) (hp2 : plainP Q) (hsC : P.cond.size ≤ 1000000) (hsB : P.beg.size ≤ 1000000) (hsD : P.fin.size ≤ 1000000) (hsG : P.aga.size ≤ 1000000) (hse : P.exc.length ≤ 1000000) :
 Calls Tryz.prog 16 #[.agg cs1.toArray, .agg cs2.toArray] w fun e w' => e = .returned (.bool (eqP P Q)) ∧ Below w.heap.size w w' := by
 obtain ⟨id1, rank1, kind1, name1, value1, cond1, exc1, beg1, fin1, aga1⟩ := P
 obtain ⟨id2, rank2, kind2, name2, value2, cond2, exc2, beg2, fin2, aga2⟩ := Q
 obtain ⟨cc1, A1, p1, cb1, cf1, ca1, rfl, -, hcc1, hex1, hcb1, hcf1, hca1⟩ := h1
 obtain ⟨cc2, A2, p2, cb2, cf2, ca2, rfl, -, hcc2, hex2, hcb2, hcf2, hca2⟩ := h2
 obtain ⟨hpB1, hpD1, hpG1⟩ := hp1
 obtain ⟨hpB2, hpD2, hpG2⟩ := hp2
 simp only at *
 have TC1 := Hi hcc1
 have TC2 := Hi hcc2
 have TB1 := Hi hcb1
 have TB2 := Hi hcb2
 have TD1 := Hi hcf1
 have TD2 := Hi hcf2
 have TG1 := Hi hca1
 have TG2 := Hi hca2
 have PB1 := Hi hpB1
 have PB2 := Hi hpB2
 have PD1 := Hi hpD1
 have PD2 := Hi hpD2
 have PG1 := Hi hpG1
 have PG2 := Hi hpG2
 obtain ⟨oC1, nC1, dC1, mC1, ksC1⟩ := cond1
 obtain ⟨KC1, qC1, rfl, -, -⟩ := hcc1
 obtain ⟨oC2, nC2, dC2, mC2, ksC2⟩ := cond2
 obtain ⟨KC2, qC2, rfl, -, -⟩ := hcc2
 obtain ⟨oB1, nB1, dB1, mB1, ksB1⟩ := beg1
 obtain ⟨KB1, qB1, rfl, -, -⟩ := hcb1
 obtain ⟨oB2, nB2, dB2, mB2, ksB2⟩ := beg2
 obtain ⟨KB2, qB2, rfl, -, -⟩ := hcb2
 obtain ⟨oD1, nD1, dD1, mD1, ksD1⟩ := fin1
 obtain ⟨KD1, qD1, rfl, -, -⟩ := hcf1
 obtain ⟨oD2, nD2, dD2, mD2, ksD2⟩ := fin2
 obtain ⟨KD2, qD2, rfl, -, -⟩ := hcf2
 obtain ⟨oG1, nG1, dG1, mG1, ksG1⟩ := aga1
 obtain ⟨KG1, qG1, rfl, -, -⟩ := hca1
 obtain ⟨oG2, nG2, dG2, mG2, ksG2⟩ := aga2
 obtain ⟨KG2, qG2, rfl, -, -⟩ := hca2
 have E1 := Hi hex1
 have E2 := Hi hex2
 simp only [tcX, List.cons_append, List.nil_append]
 clear hex1 hex2 hpB1 hpB2 hpD1 hpD2 hpG1 hpG2
 cases hid : (id1 == id2) with
 | false =>
   have hE : eqP ⟨id1, rank1, kind1, name1, value1, (.mk oC1 nC1 dC1 mC1 ksC1), exc1, (.mk oB1 nB1 dB1 mB1 ksB1), (.mk oD1 nD1 dD1 mD1 ksD1), (.mk oG1 nG1 dG1 mG1 ksG1)⟩ ⟨id2, rank2, kind2, name2, value2, (.mk oC2 nC2 dC2 mC2 ksC2), exc2, (.mk oB2 nB2 dB2 mB2 ksB2), (.mk oD2 nD2 dD2 mD2 ksD2), (.mk oG2 nG2 dG2 mG2 ksG2)⟩ = false := by simp only [eqP, hid, Bool.false_and, Bool.and_false]
   have HE := Hi hE
   clear hE
   go_enter Tryz.func16, Tryz.ntmps16
   go_wp2_with fail
   go_ret
   exact ⟨by rw [HE.out]; rfl, ((Below.refl _ _).alloc (lR _) _).alloc (by simp) _⟩
 | true =>
 cases hrank : (rank1 == rank2) with
 | false =>
   have hE : eqP ⟨id1, rank1, kind1, name1, value1, (.mk oC1 nC1 dC1 mC1 ksC1), exc1, (.mk oB1 nB1 dB1 mB1 ksB1), (.mk oD1 nD1 dD1 mD1 ksD1), (.mk oG1 nG1 dG1 mG1 ksG1)⟩ ⟨id2, rank2, kind2, name2, value2, (.mk oC2 nC2 dC2 mC2 ksC2), exc2, (.mk oB2 nB2 dB2 mB2 ksB2), (.mk oD2 nD2 dD2 mD2 ksD2), (.mk oG2 nG2 dG2 mG2 ksG2)⟩ = false := by simp only [eqP, hrank, Bool.false_and, Bool.and_false]
   have HE := Hi hE
   clear hE
   go_enter Tryz.func16, Tryz.ntmps16
   go_wp2_with fail
   go_ret
   exact ⟨by rw [HE.out]; rfl, ((Below.refl _ _).alloc (lR _) _).alloc (by simp) _⟩
 | true =>
 cases hkind : (kind1 == kind2) with
 | false =>
   have hE : eqP ⟨id1, rank1, kind1, name1, value1, (.mk oC1 nC1 dC1 mC1 ksC1), exc1, (.mk oB1 nB1 dB1 mB1 ksB1), (.mk oD1 nD1 dD1 mD1 ksD1), (.mk oG1 nG1 dG1 mG1 ksG1)⟩ ⟨id2, rank2, kind2, name2, value2, (.mk oC2 nC2 dC2 mC2 ksC2), exc2, (.mk oB2 nB2 dB2 mB2 ksB2), (.mk oD2 nD2 dD2 mD2 ksD2), (.mk oG2 nG2 dG2 mG2 ksG2)⟩ = false := by simp only [eqP, hkind, Bool.false_and, Bool.and_false]
   have HE := Hi hE
   clear hE
   go_enter Tryz.func16, Tryz.ntmps16
   go_wp2_with fail
   go_ret
   exact ⟨by rw [HE.out]; rfl, ((Below.refl _ _).alloc (lR _) _).alloc (by simp) _⟩
 | true =>
 cases hname : (name1 == name2) with
 | false =>
   have hE : eqP ⟨id1, rank1, kind1, name1, value1, (.mk oC1 nC1 dC1 mC1 ksC1), exc1, (.mk oB1 nB1 dB1 mB1 ksB1), (.mk oD1 nD1 dD1 mD1 ksD1), (.mk oG1 nG1 dG1 mG1 ksG1)⟩ ⟨id2, rank2, kind2, name2, value2, (.mk oC2 nC2 dC2 mC2 ksC2), exc2, (.mk oB2 nB2 dB2 mB2 ksB2), (.mk oD2 nD2 dD2 mD2 ksD2), (.mk oG2 nG2 dG2 mG2 ksG2)⟩ = false := by simp only [eqP, hname, Bool.false_and, Bool.and_false]
   have HE := Hi hE
   clear hE
   go_enter Tryz.func16, Tryz.ntmps16
   go_wp2_with fail
   go_ret
   exact ⟨by rw [HE.out]; rfl, ((Below.refl _ _).alloc (lR _) _).alloc (by simp) _⟩
 | true =>
 cases hvalue : (value1 == value2) with
 | false =>
   have hE : eqP ⟨id1, rank1, kind1, name1, value1, (.mk oC1 nC1 dC1 mC1 ksC1), exc1, (.mk oB1 nB1 dB1 mB1 ksB1), (.mk oD1 nD1 dD1 mD1 ksD1), (.mk oG1 nG1 dG1 mG1 ksG1)⟩ ⟨id2, rank2, kind2, name2, value2, (.mk oC2 nC2 dC2 mC2 ksC2), exc2, (.mk oB2 nB2 dB2 mB2 ksB2), (.mk oD2 nD2 dD2 mD2 ksD2), (.mk oG2 nG2 dG2 mG2 ksG2)⟩ = false := by simp only [eqP, hvalue, Bool.false_and, Bool.and_false]
   have HE := Hi hE
   clear hE
   go_enter Tryz.func16, Tryz.ntmps16
   go_wp2_with fail
   go_ret
   exact ⟨by rw [HE.out]; rfl, ((Below.refl _ _).alloc (lR _) _).alloc (by simp) _⟩
 | true =>
 have hE : eqP ⟨id1, rank1, kind1, name1, value1, (.mk oC1 nC1 dC1 mC1 ksC1), exc1, (.mk oB1 nB1 dB1 mB1 ksB1), (.mk oD1 nD1 dD1 mD1 ksD1), (.mk oG1 nG1 dG1 mG1 ksG1)⟩ ⟨id2, rank2, kind2, name2, value2, (.mk oC2 nC2 dC2 mC2 ksC2), exc2, (.mk oB2 nB2 dB2 mB2 ksB2), (.mk oD2 nD2 dD2 mD2 ksD2), (.mk oG2 nG2 dG2 mG2 ksG2)⟩ = (exc1 == exc2 && eqX (.mk oC1 nC1 dC1 mC1 ksC1) (.mk oC2 nC2 dC2 mC2 ksC2) && eqX (.mk oB1 nB1 dB1 mB1 ksB1) (.mk oB2 nB2 dB2 mB2 ksB2) && eqX (.mk oD1 nD1 dD1 mD1 ksD1) (.mk oD2 nD2 dD2 mD2 ksD2) && eqX (.mk oG1 nG1 dG1 mG1 ksG1) (.mk oG2 nG2 dG2 mG2 ksG2)) := by simp only [eqP, hid, hrank, hkind, hname, hvalue, Bool.true_and]
 rw [hE]
 clear hE
 go_enter Tryz.func16, Tryz.ntmps16
 go_wp2_with fail
 have hw0 : Below w.heap.size w ((w.alloc (.cells #[vs id1, .int .i64 rank1, .int .i64 kind1, vs name1, .int .i64 value1, .int .i64 oC1, vs nC1, .int .i64 dC1, .int .i64 mC1, .slice KC1 ksC1.length qC1, .slice A1 exc1.length p1, .int .i64 oB1, vs nB1, .int .i64 mB1, .slice KB1 ksB1.length qB1, .int .i64 oD1, vs nD1, .int .i64 mD1, .slice KD1 ksD1.length qD1, .int .i64 oG1, vs nG1, .int .i64 mG1, .slice KG1 ksG1.length qG1] 30)).alloc (.cells #[vs id2, .int .i64 rank2, .int .i64 kind2, vs name2, .int .i64 value2, .int .i64 oC2, vs nC2, .int .i64 dC2, .int .i64 mC2, .slice KC2 ksC2.length qC2, .slice A2 exc2.length p2, .int .i64 oB2, vs nB2, .int .i64 mB2, .slice KB2 ksB2.length qB2, .int .i64 oD2, vs nD2, .int .i64 mD2, .slice KD2 ksD2.length qD2, .int .i64 oG2, vs nG2, .int .i64 mG2, .slice KG2 ksG2.length qG2] 30)) := ((Below.refl _ _).alloc (lR _) _).alloc (by simp) _
 have HW := Hi hw0
 have HX1 := Hi (show ((w.alloc (.cells #[vs id1, .int .i64 rank1, .int .i64 kind1, vs name1, .int .i64 value1, .int .i64 oC1, vs nC1, .int .i64 dC1, .int .i64 mC1, .slice KC1 ksC1.length qC1, .slice A1 exc1.length p1, .int .i64 oB1, vs nB1, .int .i64 mB1, .slice KB1 ksB1.length qB1, .int .i64 oD1, vs nD1, .int .i64 mD1, .slice KD1 ksD1.length qD1, .int .i64 oG1, vs nG1, .int .i64 mG1, .slice KG1 ksG1.length qG1] 30)).alloc (.cells #[vs id2, .int .i64 rank2, .int .i64 kind2, vs name2, .int .i64 value2, .int .i64 oC2, vs nC2, .int .i64 dC2, .int .i64 mC2, .slice KC2 ksC2.length qC2, .slice A2 exc2.length p2, .int .i64 oB2, vs nB2, .int .i64 mB2, .slice KB2 ksB2.length qB2, .int .i64 oD2, vs nD2, .int .i64 mD2, .slice KD2 ksD2.length qD2, .int .i64 oG2, vs nG2, .int .i64 mG2, .slice KG2 ksG2.length qG2] 30)).heap[w.heap.size]? = some (.cells #[vs id1, .int .i64 rank1, .int .i64 kind1, vs name1, .int .i64 value1, .int .i64 oC1, vs nC1, .int .i64 dC1, .int .i64 mC1, .slice KC1 ksC1.length qC1, .slice A1 exc1.length p1, .int .i64 oB1, vs nB1, .int .i64 mB1, .slice KB1 ksB1.length qB1, .int .i64 oD1, vs nD1, .int .i64 mD1, .slice KD1 ksD1.length qD1, .int .i64 oG1, vs nG1, .int .i64 mG1, .slice KG1 ksG1.length qG1] 30 (0, 0)) from kept_at (new_at rfl))
 have HX2 := Hi (show ((w.alloc (.cells #[vs id1, .int .i64 rank1, .int .i64 kind1, vs name1, .int .i64 value1, .int .i64 oC1, vs nC1, .int .i64 dC1, .int .i64 mC1, .slice KC1 ksC1.length qC1, .slice A1 exc1.length p1, .int .i64 oB1, vs nB1, .int .i64 mB1, .slice KB1 ksB1.length qB1, .int .i64 oD1, vs nD1, .int .i64 mD1, .slice KD1 ksD1.length qD1, .int .i64 oG1, vs nG1, .int .i64 mG1, .slice KG1 ksG1.length qG1] 30)).alloc (.cells #[vs id2, .int .i64 rank2, .int .i64 kind2, vs name2, .int .i64 value2, .int .i64 oC2, vs nC2, .int .i64 dC2, .int .i64 mC2, .slice KC2 ksC2.length qC2, .slice A2 exc2.length p2, .int .i64 oB2, vs nB2, .int .i64 mB2, .slice KB2 ksB2.length qB2, .int .i64 oD2, vs nD2, .int .i64 mD2, .slice KD2 ksD2.length qD2, .int .i64 oG2, vs nG2, .int .i64 mG2, .slice KG2 ksG2.length qG2] 30)).heap[w.heap.size + 1]? = some (.cells #[vs id2, .int .i64 rank2, .int .i64 kind2, vs name2, .int .i64 value2, .int .i64 oC2, vs nC2, .int .i64 dC2, .int .i64 mC2, .slice KC2 ksC2.length qC2, .slice A2 exc2.length p2, .int .i64 oB2, vs nB2, .int .i64 mB2, .slice KB2 ksB2.length qB2, .int .i64 oD2, vs nD2, .int .i64 mD2, .slice KD2 ksD2.length qD2, .int .i64 oG2, vs nG2, .int .i64 mG2, .slice KG2 ksG2.length qG2] 30 (0, 0)) from new_at (by simp))
 clear hw0
 refine (names_eq exc1 exc2 _ _ _ _ _ (E1.out.below HW.out) (E2.out.below HW.out) hse).mono ?_
 rintro e w3 ⟨rfl, hb3⟩
 have HW3 := Hi (HW.out.trans (hb3.mono HW.out.size))
 have HX1w3 := Hi ((hb3.block _ (lHp HX1.out)).trans HX1.out)
 have HX2w3 := Hi ((hb3.block _ (lHp HX2.out)).trans HX2.out)
 have u0x5 := cOb (o := 5) HX1w3.out rfl
 have v0x5 := cOb (o := 5) HX2w3.out rfl
 have u0x6 := cOb (o := 6) HX1w3.out rfl
 have v0x6 := cOb (o := 6) HX2w3.out rfl
 have u0x7 := cOb (o := 7) HX1w3.out rfl
 have v0x7 := cOb (o := 7) HX2w3.out rfl
 have u0x8 := cOb (o := 8) HX1w3.out rfl
 have v0x8 := cOb (o := 8) HX2w3.out rfl
 have u0x9 := cOb (o := 9) HX1w3.out rfl
 have v0x9 := cOb (o := 9) HX2w3.out rfl
 have l1w3 := lHp HX1w3.out
 have l2w3 := lHp HX2w3.out
 clear hb3
 cases hv0 : (exc1 == exc2) with
 | false =>
   go_wp2_with fail
   go_ret
   exact ⟨by simp only [hv0, Bool.true_and, Bool.false_and]; rfl, HW3.out⟩
 | true =>
 go_wp2_with fail
 refine (sameX_f _ (.mk oC1 nC1 dC1 mC1 ksC1) (.mk oC2 nC2 dC2 mC2 ksC2) _ _ _ (lR _) hsC (TC1.out.keep HW3.out) (TC2.out.keep HW3.out)).mono ?_
 rintro e w4 ⟨rfl, hb4⟩
 have HW4 := Hi (HW3.out.trans (hb4.mono HW3.out.size))
 have HX1w4 := Hi ((hb4.block _ (lHp HX1w3.out)).trans HX1w3.out)
 have HX2w4 := Hi ((hb4.block _ (lHp HX2w3.out)).trans HX2w3.out)
 have u1x11 := cOb (o := 11) HX1w4.out rfl
 have v1x11 := cOb (o := 11) HX2w4.out rfl
 have u1x12 := cOb (o := 12) HX1w4.out rfl
 have v1x12 := cOb (o := 12) HX2w4.out rfl
 have u1x13 := cOb (o := 13) HX1w4.out rfl
 have v1x13 := cOb (o := 13) HX2w4.out rfl
 have u1x14 := cOb (o := 14) HX1w4.out rfl
 have v1x14 := cOb (o := 14) HX2w4.out rfl
 have l1w4 := lHp HX1w4.out
 have l2w4 := lHp HX2w4.out
 clear hb4
 cases hv1 : (eqX (.mk oC1 nC1 dC1 mC1 ksC1) (.mk oC2 nC2 dC2 mC2 ksC2)) with
 | false =>
   go_wp2_with fail
   go_ret
   exact ⟨by simp only [hv0, hv1, Bool.true_and, Bool.false_and]; rfl, HW4.out⟩
 | true =>
 go_wp2_with fail
 refine (sameX_s _ (.mk oB1 nB1 dB1 mB1 ksB1) (.mk oB2 nB2 dB2 mB2 ksB2) _ _ _ (lR _) hsB PB1.out PB2.out (TB1.out.keep HW4.out) (TB2.out.keep HW4.out)).mono ?_
 rintro e w5 ⟨rfl, hb5⟩
 have HW5 := Hi (HW4.out.trans (hb5.mono HW4.out.size))
 have HX1w5 := Hi ((hb5.block _ (lHp HX1w4.out)).trans HX1w4.out)
 have HX2w5 := Hi ((hb5.block _ (lHp HX2w4.out)).trans HX2w4.out)
 have u2x15 := cOb (o := 15) HX1w5.out rfl
 have v2x15 := cOb (o := 15) HX2w5.out rfl
 have u2x16 := cOb (o := 16) HX1w5.out rfl
 have v2x16 := cOb (o := 16) HX2w5.out rfl
 have u2x17 := cOb (o := 17) HX1w5.out rfl
 have v2x17 := cOb (o := 17) HX2w5.out rfl
 have u2x18 := cOb (o := 18) HX1w5.out rfl
 have v2x18 := cOb (o := 18) HX2w5.out rfl
 have l1w5 := lHp HX1w5.out
 have l2w5 := lHp HX2w5.out
 clear hb5
 cases hv2 : (eqX (.mk oB1 nB1 dB1 mB1 ksB1) (.mk oB2 nB2 dB2 mB2 ksB2)) with
 | false =>
   go_wp2_with fail
   go_ret
   exact ⟨by simp only [hv0, hv1, hv2, Bool.true_and, Bool.false_and]; rfl, HW5.out⟩
 | true =>
 go_wp2_with fail
 refine (sameX_s _ (.mk oD1 nD1 dD1 mD1 ksD1) (.mk oD2 nD2 dD2 mD2 ksD2) _ _ _ (lR _) hsD PD1.out PD2.out (TD1.out.keep HW5.out) (TD2.out.keep HW5.out)).mono ?_
 rintro e w6 ⟨rfl, hb6⟩
 have HW6 := Hi (HW5.out.trans (hb6.mono HW5.out.size))
 have HX1w6 := Hi ((hb6.block _ (lHp HX1w5.out)).trans HX1w5.out)
 have HX2w6 := Hi ((hb6.block _ (lHp HX2w5.out)).trans HX2w5.out)
 have u3x19 := cOb (o := 19) HX1w6.out rfl
 have v3x19 := cOb (o := 19) HX2w6.out rfl
 have u3x20 := cOb (o := 20) HX1w6.out rfl
 have v3x20 := cOb (o := 20) HX2w6.out rfl
 have u3x21 := cOb (o := 21) HX1w6.out rfl
 have v3x21 := cOb (o := 21) HX2w6.out rfl
 have u3x22 := cOb (o := 22) HX1w6.out rfl
 have v3x22 := cOb (o := 22) HX2w6.out rfl
 have l1w6 := lHp HX1w6.out
 have l2w6 := lHp HX2w6.out
 clear hb6
 cases hv3 : (eqX (.mk oD1 nD1 dD1 mD1 ksD1) (.mk oD2 nD2 dD2 mD2 ksD2)) with
 | false =>
   go_wp2_with fail
   go_ret
   exact ⟨by simp only [hv0, hv1, hv2, hv3, Bool.true_and, Bool.false_and]; rfl, HW6.out⟩
 | true =>
 go_wp2_with fail
 refine (sameX_s _ (.mk oG1 nG1 dG1 mG1 ksG1) (.mk oG2 nG2 dG2 mG2 ksG2) _ _ _ (lR _) hsG PG1.out PG2.out (TG1.out.keep HW6.out) (TG2.out.keep HW6.out)).mono ?_
 rintro e w7 ⟨rfl, hb7⟩
 have HW7 := Hi (HW6.out.trans (hb7.mono HW6.out.size))
 clear hb7
 cases hv4 : (eqX (.mk oG1 nG1 dG1 mG1 ksG1) (.mk oG2 nG2 dG2 mG2 ksG2)) with
 | false =>
   go_wp2_with fail
   go_ret
   exact ⟨by simp only [hv0, hv1, hv2, hv3, hv4, Bool.true_and, Bool.false_and]; rfl, HW7.out⟩
 | true =>
 go_wp2_with fail
 go_ret
 exact ⟨by simp only [hv0, hv1, hv2, hv3, hv4, Bool.true_and]; rfl, HW7.out⟩
end Go.Proofs.YtbicmjmcdnkjhaaGreatDoor
set_option maxRecDepth 20000
namespace Go.Proofs.YtbicmjmcdnkjhaaGreatDoor
def exP (id : Bytes) : Prov := ⟨id, 2, 2, [116, 97, 120], 5, .mk 6 [] 0 0 [.mk 3 [97, 103, 101] 6 18 [], .mk 5 [] 0 0 [.mk 4 [112, 111, 111, 114] 0 0 []]], [[112, 50], [112, 51]], .mk 9 [] 0 0 [.mk 3 [] 0 10 [], .mk 4 [111, 49] 0 0 []], .mk 2 [] 0 0 [], .mk 2 [] 0 0 []⟩
abbrev exN : Bytes := [97, 99, 116, 32, 112, 49, 58, 32, 97, 110, 115, 119, 101, 114, 32, 116, 97, 120, 32, 105, 115, 32, 53, 32, 105, 102, 32, 97, 103, 101, 32, 62, 61, 32, 49, 56, 32, 97, 110, 100, 32, 110, 111, 116, 32, 112, 111, 111, 114, 32, 110, 111, 116, 119, 105, 116, 104, 115, 116, 97, 110, 100, 105, 110, 103, 32, 112, 50, 44, 32, 112, 51, 32, 102, 114, 111, 109, 32, 100, 97, 121, 32, 49, 48, 32, 111, 114, 32, 111, 114, 100, 101, 114, 32, 111, 49, 46]
abbrev exS : Bytes := [119, 104, 101, 114, 101, 32, 123, 32, 97, 103, 101, 32, 49, 56, 32, 108, 101, 97, 115, 116, 32, 112, 111, 111, 114, 32, 100, 101, 102, 105, 110, 101, 100, 32, 110, 101, 103, 97, 116, 101, 100, 32, 97, 108, 108, 32, 50, 32, 125, 32, 113, 117, 101, 115, 116, 105, 111, 110, 32, 116, 97, 120, 32, 103, 105, 118, 101, 115, 32, 53, 32, 111, 118, 101, 114, 114, 105, 100, 101, 115, 32, 40, 112, 50, 32, 112, 51, 41, 32, 115, 116, 97, 114, 116, 115, 32, 123, 32, 49, 48, 32, 100, 97, 121, 32, 111, 49, 32, 100, 101, 99, 114, 101, 101, 32, 97, 110, 121, 32, 50, 32, 125, 32, 91, 115, 116, 97, 116, 117, 116, 101, 32, 112, 49, 93]
abbrev exW : Bytes := [119, 104, 101, 114, 101]
theorem dec_2 : dec 2 = [50] := dec_small (by decide)
theorem dec_5 : dec 5 = [53] := dec_small (by decide)
theorem dec_10 : dec 10 = [49, 48] := by rw [dec_big (by decide), show 10 / 10 = 1 from rfl, dec_small (by decide)]; rfl
theorem dec_18 : dec 18 = [49, 56] := by rw [dec_big (by decide), show 18 / 10 = 1 from rfl, dec_small (by decide)]; rfl
theorem ex_wr (id : Bytes) : WrOk (exP id) where
 rank := by show 1 ≤ 2 ∧ 2 ≤ 4; decide
 kind := Or.inr rfl
 value := by show 5 ≤ 1000000; decide
 cond := by rfl
 condS := by rfl
 excN := by show [[112, 50], [112, 51]].Nodup; decide
 excL := by show 2 ≤ 20; decide
 beg := by rfl
 begS := by rfl
 fin := by rfl
 finS := by rfl
 aga := by rfl
 agaS := by rfl
theorem ex_plain (id : Bytes) : plainP (upP (exP id)) := plainP_up (ex_wr id)
theorem ex_names (id : Bytes) : namesP (exP id) = [id, [116, 97, 120], [112, 50], [112, 51], [97, 103, 101], [112, 111, 111, 114], [111, 49]] := rfl
theorem ex_north : northA (upP (exP [112, 49])) = (exN, 0) := by
 rw [← refA_north (ex_plain _)]
 unfold refA
 rw [writtenR_eq (ex_plain _), if_pos (written_up (ex_wr _)), down_upP, ex_names, if_pos (by decide)]
 have : rText (exP [112, 49]) = exN := by
  unfold rText exP
  simp [rF, rFs, rS, rSs, wrapB, joinT', signs, startW, ranksN, Tree.op, dec_5, dec_10, dec_18]
 rw [this]
 decide
theorem ex_south : southA (upP (exP [112, 49])) = (exS, 0) := by
 rw [← refA_south (ex_plain _)]
 unfold refA
 rw [writtenR_eq (ex_plain _), if_pos (written_up (ex_wr _)), down_upP, ex_names, if_pos (by decide)]
 have : So.rText (exP [112, 49]) = exS := by
  unfold So.rText exP
  simp [So.rF, So.rFs, So.rS, So.rSs, joinT', So.cmpW, So.opsW, So.ranksS, Tree.op, dec_2, dec_5, dec_10, dec_18]
 rw [this]
 decide
theorem ex_where : (northA (upP (exP exW))).2 = 0 ∧ (southA (upP (exP exW))).2 = 7 := by
 constructor
 · rw [← refA_north (ex_plain _)]
   unfold refA
   rw [writtenR_eq (ex_plain _), if_pos (written_up (ex_wr _)), down_upP, ex_names, if_pos (by decide)]
   have : ∃ s, rText (exP exW) = s ∧ (shortA s).2 = 0 := by
    refine ⟨[97, 99, 116, 32, 119, 104, 101, 114, 101, 58, 32, 97, 110, 115, 119, 101, 114, 32, 116, 97, 120, 32, 105, 115, 32, 53, 32, 105, 102, 32, 97, 103, 101, 32, 62, 61, 32, 49, 56, 32, 97, 110, 100, 32, 110, 111, 116, 32, 112, 111, 111, 114, 32, 110, 111, 116, 119, 105, 116, 104, 115, 116, 97, 110, 100, 105, 110, 103, 32, 112, 50, 44, 32, 112, 51, 32, 102, 114, 111, 109, 32, 100, 97, 121, 32, 49, 48, 32, 111, 114, 32, 111, 114, 100, 101, 114, 32, 111, 49, 46], ?_, by decide⟩
    unfold rText exP
    simp [rF, rFs, rS, rSs, wrapB, joinT', signs, startW, ranksN, Tree.op, dec_5, dec_10, dec_18]
   obtain ⟨s, e, h⟩ := this
   rw [e, h]
 · rw [← refA_south (ex_plain _)]
   unfold refA
   rw [writtenR_eq (ex_plain _), if_pos (written_up (ex_wr _)), down_upP, ex_names, if_neg (by decide)]
theorem ex_five {p : ProvI} (h : p.rank = 5) : (northA p).2 = 1 ∧ (southA p).2 = 1 := by
 obtain ⟨a, b⟩ := ans_arg (p := p) (refuses_ref (by unfold refP; rw [h]; rfl))
 rw [a, b]
 exact ⟨rfl, rfl⟩
namespace So
/- The lexer: its tokens, and how texts are joined. -/
/- more fuel makes no difference -/
/- the scan without fuel -/
/- induction along the scan -/
/- shifted -/
/- what follows a line feed is another text -/
/- Tokens by themselves, their places, and texts that are cut at a token. -/
/- what a token is by itself -/
/- the token alone, or cut anywhere behind it -/
/- where the tokens lie -/
/- a place belongs to one token -/
/- cut at a token: before it, behind it -/
/- the tokens, one line feed behind each -/
/- Bounds of the lexer's tokens. -/
end So
namespace So
/- One token ahead: what follows the token of an error makes no difference; a text that is cut at it. -/
/- r' begins as r does, or is at its end -/
/- a parser of one token -/
/- a branch that the next token alone decides; A consumes -/
/- what a branch by a word needs of what follows the word t -/
theorem sees_cons {ws : List (List UInt8)} {l : List Tok} (h : seesF ws l = true) : ∃ t v, l = t :: v ∧ isWord t = true ∧ t.text ∈ ws := by
 cases l with
 | nil => cases h
 | cons t v =>
   simp [seesF] at h
   exact ⟨t, v, rfl, h.1, h.2⟩
/- the loop and its end in one -/
/- The places of tokens make no difference. -/
end So
open Go.ChangeShapes Go.WideShapes Go.ChangeAt Go.RowKit
theorem Tryz.own : ownKnob Tryz.prog.godebug = none := by kernel_rfl
theorem Tryz.laidOut : laidOutB Tryz.prog = true := by kernel_rfl
theorem maxLen_cell (W : World) (h : W.ShapedOpen Tryz.prog) : ∃ m, W.cell? ⟨2, 0, none⟩ = some (.int .i64 m) :=
 cell_of_shapedOpen_int (t := 3) (zero := #[.int .i64 0]) h (of_decide_eq_true (by kernel_rfl)) (by kernel_rfl) rfl (by kernel_rfl) (by kernel_rfl) Tryz.underlying3
theorem door_met (os : Os) (args : Array Value) : laidMetH Tryz.prog Rows.printerEqualRow.laid ((World.doorLaid Tryz.prog 400 os).forCall (fun _ _ => 0) ⟨#[], args, []⟩).memory :=
 laidMetH_of_parts3 (fuel := 8) (laidMet_of_run' 8 (by kernel_rfl) (by kernel_rfl)) (by kernel_rfl) (by kernel_rfl)
/- the tables that the library reads, off the row's list -/
theorem tabs_of (W : World) (h : laidMetH Tryz.prog Rows.printerEqualRow.laid W) : Tabs W := by
 refine Tabs.mk' ?_ ?_
 · have h1 := h.filter (fun x => x.1 == "strings.asciiSpace")
   have e : (Rows.printerEqualRow.laid.filter (fun x => x.1 == "strings.asciiSpace") : List (String × DataW Unit)) = [("strings.asciiSpace", Lib.tabData .u8 Lib.asciiSpaceTab)] := by kernel_rfl
   rw [e, Go.MakeChecks.laidMetH_plain _ _ _ (by kernel_rfl)] at h1
   exact Lib.tabIs_of_head (g := 0) (rest := []) (by kernel_rfl) (by kernel_rfl) Tryz.underlying157 Tryz.underlying5 (by kernel_rfl) (by kernel_rfl) h1
 · have h1 := h.filter (fun x => x.1 == "internal/strconv.uint64pow10")
   have e : (Rows.printerEqualRow.laid.filter (fun x => x.1 == "internal/strconv.uint64pow10") : List (String × DataW Unit)) = [("internal/strconv.uint64pow10", Lib.tabData .u64 Lib.pow10Tab)] := by kernel_rfl
   rw [e, Go.MakeChecks.laidMetH_plain _ _ _ (by kernel_rfl)] at h1
   exact Lib.tabIs_of_head (g := 3) (rest := []) (by kernel_rfl) (by kernel_rfl) Tryz.underlying264 Tryz.underlying137 (by kernel_rfl) (by kernel_rfl) h1
/- 'returnsInHanded_of_change_and' with the world's shape handed on -/
theorem change_shaped_and {H : Type} {enc : TypeId × Value → H} {a : Assume} {C : Checked} {os : Os} {f : FuncId} {fn : Func} {s : ChangeSpec} {conds : List PathCond} {apart fresh handsOn again : Bool} {X : World → Array Value → Prop}
 (hX : ∀ (w w' : World) (args : Array Value), w.heap = w'.heap → X w args → X w' args)
 (own : ownKnob C.prog.godebug = none) (started : os.Started) (noInit : C.prog.inits.idxOf? f = none) (hfn : C.prog.funcs[f]? = some fn)
 (witness : ∃ (w : World) (tape : Tape) (i : Input), w.os = os ∧ (w.forCall tape i).Shaped C.prog ∧ i.vars = [] ∧ Input.okWide C.prog (w.forCall tape i) .any w.heap.size f i ∧
   ((s.pre enc C.prog fn conds apart (w.forCall tape i).memory i.args ∧ X (w.forCall tape i).memory i.args) ∧ sizedMet enc C.prog fn (OpenSpec.ofChange s) apart (w.forCall tape i).memory i.args) ∧ a.holds C.prog (lone (Frame.enter C.prog f i.args .normal) [] (w.forCall tape i)))
 (contract : ∀ (W : World) (base : Nat) (args : Array Value) (ds gs : List (DataW H)) (before : List MemPlace),
   (∀ (j : Nat) t v, fn.params[j]? = some t → args[j]? = some v → Value.okWide C.prog W .any base t v) →
   DataW.Whole enc C.prog fn.params.toList s.vars apart W args.toList ds gs before →
   conds.all (PathCond.test C.prog ⟨fn.params.toList, ds, s.plain.varTypes C.prog, gs⟩) = true →
   (DataW.weightsEach C.prog (fn.params.toList ++ s.plain.varTypes C.prog) (ds ++ gs)).all (· ≤ reachBytes) = true → X W args → W.ShapedOpen C.prog →
   a.holds C.prog (lone (Frame.enter C.prog f args .normal) [] W) →
   Calls C.prog f args W fun e W' => ∃ v, e = .returned v ∧ s.post enc C.prog fn apart fresh handsOn again W args v W') :
 ReturnsInHanded a C os f .any (fun w args => (s.pre enc C.prog fn conds apart w args ∧ X w args) ∧ sizedMet enc C.prog fn (OpenSpec.ofChange s) apart w args) (s.post enc C.prog fn apart fresh handsOn again) := by
 refine returnsInHanded_of_calls own started noInit witness ?_
 intro w tape i _ hsh _ hok hpre hholds
 obtain ⟨_, _, _, fn', hfn', _, _, _, _, hval⟩ := hok
 have e : fn' = fn := Option.some.inj (hfn'.symm.trans hfn)
 subst e
 obtain ⟨⟨⟨ds, gs, before, hw, hc⟩, hx⟩, hz⟩ := hpre
 have hw' := DataW.Whole.of_heap (w' := w.forCall tape i) (by rfl) hw
 refine (contract (w.forCall tape i) w.heap.size i.args ds gs before hval hw' hc (hz.weights hw) (hX _ _ _ (by rfl) hx) hsh hholds).mono fun e W' ⟨v, he, hp⟩ => ?_
 subst he
 exact ChangeSpec.post_blind hp
end Go.Proofs.YtbicmjmcdnkjhaaGreatDoor
set_option maxRecDepth 100000
set_option maxHeartbeats 1000000
namespace Go.Proofs.YtbicmjmcdnkjhaaGreatDoor
open Go.RowKit Go.ChangeShapes Go.WideShapes Go.Deep
theorem cells_form : Tryz.prog.cellsOf 24 = 5 := by kernel_rfl
theorem cells_start : Tryz.prog.cellsOf 28 = 4 := by kernel_rfl
theorem cells_prov : Tryz.prog.cellsOf 30 = 23 := by kernel_rfl
theorem cells_ones : Tryz.prog.cellsOf 9 = 1 ∧ Tryz.prog.cellsOf 3 = 1 ∧ Tryz.prog.cellsOf 22 = 1 ∧ Tryz.prog.cellsOf 26 = 1 ∧ Tryz.prog.cellsOf 25 = 1 := ⟨by kernel_rfl, by kernel_rfl, by kernel_rfl, by kernel_rfl, by kernel_rfl⟩
section
variable {H : Type} {enc : TypeId × Value → H} {w : World} {base : Nat} {spare : Nat → Bool} {held : Bool}
theorem str_etaX (s : ByteArray) : Value.string s = vs s.data.toList := by
 show Value.string s = Value.string ⟨s.data.toList.toArray⟩
 rw [Array.toArray_toList]
theorem choose_lt' {α : Type} [Inhabited α] {n : Nat} {Q : Nat → α → Prop} (h : ∀ i, i < n → ∃ a, Q i a) : ∃ f : Nat → α, ∀ i, i < n → Q i (f i) := by
 refine ⟨fun i => if hi : i < n then Classical.choose (h i hi) else default, fun i hi => ?_⟩
 simp only [dif_pos hi]
 exact Classical.choose_spec (h i hi)
instance : Inhabited TreeI := ⟨.mk 0 [] 0 0 []⟩
theorem range_get {α : Type} {n k : Nat} {f : Nat → α} {x : α} (h : ((List.range n).map f)[k]? = some x) : k < n ∧ x = f k := by
 rw [List.getElem?_map] at h
 by_cases hk : k < n
 · rw [List.getElem?_range hk] at h
   simp at h
   exact ⟨hk, h.symm⟩
 · rw [List.getElem?_eq_none (by simpa using hk)] at h
   simp at h
/- kids that came in -/
theorem kids_open {fm : Bool} {t e : TypeId} (ht : Tryz.prog.underlying t = some (.slice e)) (he : Tryz.prog.cellsOf e = tszX fm) {fuel : Nat}
 (ho : ∀ {n : Nat} {cs : List Value} {x : DataW H × List MemPlace}, n < fuel → DataW.trod enc Tryz.prog w base spare held n e cs = some x → ∃ a, RdX fm w cs a)
 {v : Value} {x : DataW H × List MemPlace} (h : DataW.trod enc Tryz.prog w base spare held fuel t [v] = some x) :
 ∃ (l : List TreeI) (A : Option Addr) (c : Nat), v = .slice A l.length c ∧ l.length ≤ c ∧ (l = [] ∨ ∃ b o, A = some ⟨b, o, none⟩ ∧ b < w.heap.size ∧ RdXs fm w b o l) := by
 have hs : 0 < tszX fm := by cases fm <;> decide
 rcases DataW.trod_slice ht h with ⟨h1, h2⟩ | ⟨a, len, cap, elems, rest, n, hfu, h1, -, hb, hlc, hcm, hel, hi, -, -⟩
 · exact ⟨[], none, 0, by simpa using h1, lR _, .inl rfl⟩
 · rw [he] at hi
   have hex : ∀ i, i < len → ∃ it : TreeI, ∃ cs, w.cells? base (a.add (i * tszX fm)) (tszX fm) = some cs ∧ RdX fm w cs it := by
    intro i hil
    have hx := hi i hil
    obtain ⟨y, hy⟩ : ∃ y, elems[i]? = some y := ⟨_, List.getElem?_eq_getElem (by omega)⟩
    rw [hy, Option.bind_eq_some_iff] at hx
    obtain ⟨cs', hc, ht'⟩ := hx
    obtain ⟨it, e1⟩ := ho (by omega) ht'
    exact ⟨it, cs', hc, e1⟩
   obtain ⟨f, hf⟩ := choose_lt' hex
   refine ⟨(List.range len).map f, some a, cap, by simpa using h1, by simpa using hlc, ?_⟩
   by_cases hne : len = 0
   · subst hne; exact .inl rfl
   right
   have hpos : 0 < len := by omega
   obtain ⟨b, off, spot⟩ := a
   obtain ⟨c0, hc0, hr0⟩ := hf 0 hpos
   have h0 := (World.cells?_some hc0).2.2 0 hs
   have hv0 : ∃ v0, c0[0]? = some v0 := ⟨_, List.getElem?_eq_getElem (by rw [hr0.len]; exact hs)⟩
   obtain ⟨v0, hv0⟩ := hv0
   rw [hv0] at h0
   have hspot : spot = none := by simpa [Addr.add] using World.cell?_spot h0
   subst hspot
   refine ⟨b, off, rfl, ?_, RdXs.mk fun k x hx => ?_⟩
   · have := World.block_lt_of_cell? w _ h0
     simpa [Addr.add] using this
   · obtain ⟨hk, rfl⟩ := range_get hx
     obtain ⟨ck, hck, hrk⟩ := hf k hk
     refine ⟨ck, fun j v hv => ?_, hrk⟩
     have hj := (List.getElem?_eq_some_iff.1 hv).1
     rw [hrk.len] at hj
     have hc := (World.cells?_some hck).2.2 j hj
     rw [hv] at hc
     rw [← hc]
     congr 1
     rw [Go.WideShapes.add_plain, Go.WideShapes.add_plain]
theorem open_form : ∀ (fuel : Nat) {cs : List Value} {x : DataW H × List MemPlace}, DataW.trod enc Tryz.prog w base spare held fuel 24 cs = some x → ∃ t, RdX true w cs t := by
 intro fuel
 induction fuel using Nat.strongRecOn with
 | ind fuel ih =>
   intro cs x h
   obtain ⟨xs, n, rfl, hx, hlen, hxl, hf⟩ := DataW.trod_struct Tryz.underlying24 h
   rw [cells_form] at hlen
   obtain ⟨c1, c2, c3, c4, c5⟩ := cells_ones
   match cs, hlen, xs, hxl with
   | [v0, v1, v2, v3, v4], _, [x0, x1, x2, x3, x4], _ =>
     have f0 := hf 0 _ rfl
     have f1 := hf 1 _ rfl
     have f2 := hf 2 _ rfl
     have f3 := hf 3 _ rfl
     have f4 := hf 4 _ rfl
     simp [c1, c2, c3] at f0 f1 f2 f3 f4
     obtain ⟨k0, e0, g0, _⟩ := DataW.trod_int Tryz.underlying3 f0
     obtain ⟨s1, e1, g1, _⟩ := DataW.trod_string Tryz.underlying9 f1
     obtain ⟨k2, e2, g2, _⟩ := DataW.trod_int Tryz.underlying3 f2
     obtain ⟨k3, e3, g3, _⟩ := DataW.trod_int Tryz.underlying3 f3
     obtain ⟨l, A, c, rfl, hlc, hr⟩ := kids_open (fm := true) Tryz.underlying22 cells_form (fun {m} {cs} {x} hm h => ih m (by omega) h) f4
     simp only [List.cons.injEq, and_true] at e0 e1 e2 e3
     subst e0 e1 e2 e3
     refine ⟨.mk k0 s1.data.toList k2 k3 l, A, c, ?_, hlc, hr⟩
     simp only [tcX, str_etaX]
theorem open_start : ∀ (fuel : Nat) {cs : List Value} {x : DataW H × List MemPlace}, DataW.trod enc Tryz.prog w base spare held fuel 28 cs = some x → ∃ t, RdX false w cs t := by
 intro fuel
 induction fuel using Nat.strongRecOn with
 | ind fuel ih =>
   intro cs x h
   obtain ⟨xs, n, rfl, hx, hlen, hxl, hf⟩ := DataW.trod_struct Tryz.underlying28 h
   rw [cells_start] at hlen
   obtain ⟨c1, c2, c3, c4, c5⟩ := cells_ones
   match cs, hlen, xs, hxl with
   | [v0, v1, v2, v3], _, [x0, x1, x2, x3], _ =>
     have f0 := hf 0 _ rfl
     have f1 := hf 1 _ rfl
     have f2 := hf 2 _ rfl
     have f3 := hf 3 _ rfl
     simp [c1, c2, c4] at f0 f1 f2 f3
     obtain ⟨k0, e0, g0, _⟩ := DataW.trod_int Tryz.underlying3 f0
     obtain ⟨s1, e1, g1, _⟩ := DataW.trod_string Tryz.underlying9 f1
     obtain ⟨k2, e2, g2, _⟩ := DataW.trod_int Tryz.underlying3 f2
     obtain ⟨l, A, c, rfl, hlc, hr⟩ := kids_open (fm := false) Tryz.underlying26 cells_start (fun {m} {cs} {x} hm h => ih m (by omega) h) f3
     simp only [List.cons.injEq, and_true] at e0 e1 e2
     subst e0 e1 e2
     refine ⟨.mk k0 s1.data.toList 0 k2 l, A, c, ?_, hlc, hr⟩
     simp only [tcX, str_etaX]
mutual
/- a start's tree without signs -/
def flat : TreeI → TreeI
 | .mk op name _ n ks => .mk op name 0 n (flats ks)
def flats : List TreeI → List TreeI
 | [] => []
 | k :: r => flat k :: flats r
end
theorem flats_len : ∀ ks : List TreeI, (flats ks).length = ks.length
 | [] => by rw [flats]
 | k :: r => by rw [flats, List.length_cons, List.length_cons, flats_len r]
mutual
theorem plain_flat : ∀ t : TreeI, plainS (flat t)
 | .mk _ _ _ _ ks => by rw [flat, plainS]; exact ⟨rfl, plain_flats ks⟩
theorem plain_flats : ∀ ks : List TreeI, plainSs (flats ks)
 | [] => by rw [flats, plainSs]; trivial
 | k :: r => by rw [flats, plainSs]; exact ⟨plain_flat k, plain_flats r⟩
end
mutual
theorem RdX.flat {w : World} : ∀ {cs : List Value} {t : TreeI}, RdX false w cs t → RdX false w cs (flat t)
 | cs, .mk op name cmp n ks, h => by
   obtain ⟨A, cap, h1, h2, h3⟩ := h
   rw [Go.Proofs.YtbicmjmcdnkjhaaGreatDoor.flat]
   refine ⟨A, cap, by rw [h1, flats_len]; rfl, by rw [flats_len]; exact h2, ?_⟩
   rcases h3 with h3 | ⟨b, o, hA, hlt, h3⟩
   · subst h3; left; rw [flats]
   · exact .inr ⟨b, o, hA, hlt, RdXs.flat h3⟩
theorem RdXs.flat {w : World} {b : Nat} : ∀ {o : Nat} {ks : List TreeI}, RdXs false w b o ks → RdXs false w b o (flats ks)
 | o, [], h => by rw [flats, RdXs]; trivial
 | o, t :: r, h => by
   rw [RdXs] at h
   rw [flats, RdXs]
   obtain ⟨⟨cs, h1, h2⟩, h3⟩ := h
   exact ⟨⟨cs, h1, RdX.flat h2⟩, RdXs.flat h3⟩
end
theorem open_strs' {fuel : Nat} {v : Value} {x : DataW H × List MemPlace} (h : DataW.trod enc Tryz.prog w base spare held fuel 25 [v] = some x) :
 ∃ (l : List (List UInt8)) (A : Option Addr) (c : Nat), v = .slice A l.length c ∧ l.length ≤ c ∧ c ≤ maxLen ∧ RdS w A l := by
 rcases open_slice Tryz.underlying25 h with ⟨h1, h2⟩ | ⟨a, len, cap, m, n, Dd, Pl, h1, hb, hlc, hcm, hm, hx, hi⟩
 · exact ⟨[], none, 0, by simpa using h1, lR _, by simp, Sl.nil⟩
 · have hlm : len ≤ m := by rw [hm]; split <;> omega
   rw [cells_ones.1] at hi
   have hex : ∀ i, i < len → ∃ s : List UInt8, w.cells? base (a.add (i * 1)) 1 = some [vs s] := by
    intro i hil
    obtain ⟨cs', hc, ht'⟩ := hi i (by omega)
    obtain ⟨s, e1, -, _⟩ := DataW.trod_string Tryz.underlying9 ht'
    exact ⟨s.data.toList, by rw [hc, e1, str_etaX]⟩
   obtain ⟨f, hf⟩ := choose_lt' hex
   refine ⟨(List.range len).map f, some a, cap, by simpa using h1, by simpa using hlc, hcm, ?_⟩
   intro hne
   have hpos : 0 < len := by
    cases len with
    | zero => simp at hne
    | succ k => omega
   obtain ⟨b, off, spot⟩ := a
   have h0 := (World.cells?_some (hf 0 hpos)).2.2 0 (by omega)
   have hspot : spot = none := by simpa [Addr.add] using World.cell?_spot h0
   subst hspot
   refine ⟨b, off, rfl, ?_, ?_⟩
   · have := World.block_lt_of_cell? w _ h0
     simpa [Addr.add] using this
   · intro k x hx j v hv
     obtain ⟨hk, rfl⟩ := range_get hx
     have hj : j = 0 := by
      have := (List.getElem?_eq_some_iff.1 hv).1
      simpa using this
     subst hj
     have hc := (World.cells?_some (hf k hk)).2.2 0 (by omega)
     rw [hv] at hc
     rw [← hc]
     congr 1
     rw [Go.WideShapes.add_plain, Go.WideShapes.add_plain]
theorem open_prov {b0 : Nat} {v : Value} {d : DataW H} {p : List MemPlace} (hv : Value.okWide Tryz.prog w .any b0 30 v) (h : DataW.Trod enc Tryz.prog w base spare held 30 v d p) :
 ∃ (cs : List Value) (q : ProvI), v = .agg cs.toArray ∧ RdPX w cs q ∧ plainP q ∧ q.exc.length ≤ maxLen := by
 obtain ⟨cs, rfl, hsz⟩ := okWide_struct Tryz.underlying30 hv
 obtain ⟨l0⟩ := cs
 rw [cells_prov] at hsz
 obtain ⟨fuel, hfu⟩ := h
 obtain ⟨xs, n, _, hx, _, hlen, hf⟩ := DataW.trod_struct Tryz.underlying30 hfu
 obtain ⟨c1, c2, c3, c4, c5⟩ := cells_ones
 match l0, hsz, xs, hlen with
 | [v0, v1, v2, v3, v4, v5, v6, v7, v8, v9, v10, v11, v12, v13, v14, v15, v16, v17, v18, v19, v20, v21, v22], _, [x0, x1, x2, x3, x4, x5, x6, x7, x8, x9], _ =>
   have f0 := hf 0 _ rfl
   have f1 := hf 1 _ rfl
   have f2 := hf 2 _ rfl
   have f3 := hf 3 _ rfl
   have f4 := hf 4 _ rfl
   have f5 := hf 5 _ rfl
   have f6 := hf 6 _ rfl
   have f7 := hf 7 _ rfl
   have f8 := hf 8 _ rfl
   have f9 := hf 9 _ rfl
   simp [Value.cells, c1, c2, c5, cells_form, cells_start] at f0 f1 f2 f3 f4 f5 f6 f7 f8 f9
   obtain ⟨s0, e0, g0, _⟩ := DataW.trod_string Tryz.underlying9 f0
   obtain ⟨k1, e1, g1, _⟩ := DataW.trod_int Tryz.underlying3 f1
   obtain ⟨k2, e2, g2, _⟩ := DataW.trod_int Tryz.underlying3 f2
   obtain ⟨s3, e3, g3, _⟩ := DataW.trod_string Tryz.underlying9 f3
   obtain ⟨k4, e4, g4, _⟩ := DataW.trod_int Tryz.underlying3 f4
   obtain ⟨t5, r5⟩ := open_form _ f5
   obtain ⟨l6, A6, c6, rfl, hlc, hcm, r6⟩ := open_strs' f6
   obtain ⟨t7, r7⟩ := open_start _ f7
   obtain ⟨t8, r8⟩ := open_start _ f8
   obtain ⟨t9, r9⟩ := open_start _ f9
   simp only [List.cons.injEq, and_true] at e0 e1 e2 e3 e4
   subst e0 e1 e2 e3 e4
   refine ⟨_, ⟨s0.data.toList, k1, k2, s3.data.toList, k4, t5, l6, flat t7, flat t8, flat t9⟩, rfl, ⟨[v5, v6, v7, v8, v9], A6, c6, [v11, v12, v13, v14], [v15, v16, v17, v18], [v19, v20, v21, v22], ?_, hlc, r5, r6, r7.flat, r8.flat, r9.flat⟩, ⟨plain_flat _, plain_flat _, plain_flat _⟩, by show l6.length ≤ _; omega⟩
   simp only [str_etaX]
   rfl
end
end Go.Proofs.YtbicmjmcdnkjhaaGreatDoor
