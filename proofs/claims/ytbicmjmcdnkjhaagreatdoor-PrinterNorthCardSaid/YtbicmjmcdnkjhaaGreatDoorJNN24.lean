/- pandectref10.Same: two provisions compared. The example of the printer's statements: what it is written as. The next token; a failure at it. A failure; the words of the language; one word of several. One word of several; a word that must be there. -/
import Derived.Test.YtbicmjmcdnkjhaaGreatDoorJNN23
import Derived.Test.YtbicmjmcdnkjhaaGreatDoorJNN10
import Derived.Test.YtbicmjmcdnkjhaaGreatDoorJNN1
import Derived.Test.YtbicmjmcdnkjhaaGreatDoorJNN17
import Derived.Test.YtbicmjmcdnkjhaaGreatDoorShelf
import Derived.BigQuiet
import Derived.Deep.QuietTactic
set_option linter.unusedVariables false
set_option linter.unusedSimpArgs false
set_option maxRecDepth 20000
set_option maxHeartbeats 8000000
namespace Go.Proofs.YtbicmjmcdnkjhaaGreatDoor
open Go.RowKit
theorem sameP_any (P Q : ProvI) (cs1 cs2 : List Value) (w : World) (h1 : RdPX w cs1 P) (h2 : RdPX w cs2 Q) (hp1 : plainP P) (hp2 : plainP Q) (hsC : P.cond.size ≤ 1000000) (hsB : P.beg.size ≤ 1000000) (hsD : P.fin.size ≤ 1000000) (hsG : P.aga.size ≤ 1000000) (hse : P.exc.length ≤ 1000000) :
 Calls Tryz.prog 16 #[.agg cs1.toArray, .agg cs2.toArray] w fun e w' => e = .returned (.bool (eqP P Q)) ∧ Below w.heap.size w w' := by
 obtain ⟨id1, rank1, kind1, name1, value1, cond1, exc1, beg1, fin1, aga1⟩ := P
 obtain ⟨id2, rank2, kind2, name2, value2, cond2, exc2, beg2, fin2, aga2⟩ := Q
 obtain ⟨cc1, A1, p1, cb1, cf1, ca1, rfl, -, hcc1, hex1, hcb1, hcf1, hca1⟩ := h1
 obtain ⟨cc2, A2, p2, cb2, cf2, ca2, rfl, -, hcc2, hex2, hcb2, hcf2, hca2⟩ := h2
 obtain ⟨hpB1, hpD1, hpG1⟩ := hp1
 obtain ⟨hpB2, hpD2, hpG2⟩ := hp2
 simp only at *
 have TC1 := Lib.hid hcc1
 have TC2 := Lib.hid hcc2
 have TB1 := Lib.hid hcb1
 have TB2 := Lib.hid hcb2
 have TD1 := Lib.hid hcf1
 have TD2 := Lib.hid hcf2
 have TG1 := Lib.hid hca1
 have TG2 := Lib.hid hca2
 have PB1 := Lib.hid hpB1
 have PB2 := Lib.hid hpB2
 have PD1 := Lib.hid hpD1
 have PD2 := Lib.hid hpD2
 have PG1 := Lib.hid hpG1
 have PG2 := Lib.hid hpG2
 obtain ⟨oC1, nC1, dC1, mC1, ksC1⟩ := cond1
 obtain ⟨KC1, qC1, rfl, -, -⟩ := hcc1
 obtain ⟨oC2, nC2, dC2, mC2, ksC2⟩ := cond2
 obtain ⟨KC2, qC2, rfl, -, -⟩ := hcc2
 obtain ⟨oB1, nB1, dB1, mB1, ksB1⟩ := beg1
 obtain ⟨KB1, qB1, rfl, -, -⟩ := hcb1
 obtain ⟨oB2, nB2, dB2, mB2, ksB2⟩ := beg2
 obtain ⟨KB2, qB2, rfl, -, -⟩ := hcb2
 obtain ⟨oD1, nD1, dD1, mD1, ksD1⟩ := fin1
 obtain ⟨KD1, qD1, rfl, -, -⟩ := hcf1
 obtain ⟨oD2, nD2, dD2, mD2, ksD2⟩ := fin2
 obtain ⟨KD2, qD2, rfl, -, -⟩ := hcf2
 obtain ⟨oG1, nG1, dG1, mG1, ksG1⟩ := aga1
 obtain ⟨KG1, qG1, rfl, -, -⟩ := hca1
 obtain ⟨oG2, nG2, dG2, mG2, ksG2⟩ := aga2
 obtain ⟨KG2, qG2, rfl, -, -⟩ := hca2
 have E1 := Lib.hid hex1
 have E2 := Lib.hid hex2
 simp only [tcX, List.cons_append, List.nil_append]
 clear hex1 hex2 hpB1 hpB2 hpD1 hpD2 hpG1 hpG2
 cases hid : (id1 == id2) with
 | false =>
   have hE : eqP ⟨id1, rank1, kind1, name1, value1, (.mk oC1 nC1 dC1 mC1 ksC1), exc1, (.mk oB1 nB1 dB1 mB1 ksB1), (.mk oD1 nD1 dD1 mD1 ksD1), (.mk oG1 nG1 dG1 mG1 ksG1)⟩ ⟨id2, rank2, kind2, name2, value2, (.mk oC2 nC2 dC2 mC2 ksC2), exc2, (.mk oB2 nB2 dB2 mB2 ksB2), (.mk oD2 nD2 dD2 mD2 ksD2), (.mk oG2 nG2 dG2 mG2 ksG2)⟩ = false := by simp only [eqP, hid, Bool.false_and, Bool.and_false]
   have HE := Lib.hid hE
   clear hE
   go_enter Tryz.func16, Tryz.ntmps16
   go_wp2_with fail
   go_ret
   exact ⟨by rw [HE.out]; rfl, ((Below.refl _ _).alloc (Nat.le_refl _) _).alloc (by simp) _⟩
 | true =>
 cases hrank : (rank1 == rank2) with
 | false =>
   have hE : eqP ⟨id1, rank1, kind1, name1, value1, (.mk oC1 nC1 dC1 mC1 ksC1), exc1, (.mk oB1 nB1 dB1 mB1 ksB1), (.mk oD1 nD1 dD1 mD1 ksD1), (.mk oG1 nG1 dG1 mG1 ksG1)⟩ ⟨id2, rank2, kind2, name2, value2, (.mk oC2 nC2 dC2 mC2 ksC2), exc2, (.mk oB2 nB2 dB2 mB2 ksB2), (.mk oD2 nD2 dD2 mD2 ksD2), (.mk oG2 nG2 dG2 mG2 ksG2)⟩ = false := by simp only [eqP, hrank, Bool.false_and, Bool.and_false]
   have HE := Lib.hid hE
   clear hE
   go_enter Tryz.func16, Tryz.ntmps16
   go_wp2_with fail
   go_ret
   exact ⟨by rw [HE.out]; rfl, ((Below.refl _ _).alloc (Nat.le_refl _) _).alloc (by simp) _⟩
 | true =>
 cases hkind : (kind1 == kind2) with
 | false =>
   have hE : eqP ⟨id1, rank1, kind1, name1, value1, (.mk oC1 nC1 dC1 mC1 ksC1), exc1, (.mk oB1 nB1 dB1 mB1 ksB1), (.mk oD1 nD1 dD1 mD1 ksD1), (.mk oG1 nG1 dG1 mG1 ksG1)⟩ ⟨id2, rank2, kind2, name2, value2, (.mk oC2 nC2 dC2 mC2 ksC2), exc2, (.mk oB2 nB2 dB2 mB2 ksB2), (.mk oD2 nD2 dD2 mD2 ksD2), (.mk oG2 nG2 dG2 mG2 ksG2)⟩ = false := by simp only [eqP, hkind, Bool.false_and, Bool.and_false]
   have HE := Lib.hid hE
   clear hE
   go_enter Tryz.func16, Tryz.ntmps16
   go_wp2_with fail
   go_ret
   exact ⟨by rw [HE.out]; rfl, ((Below.refl _ _).alloc (Nat.le_refl _) _).alloc (by simp) _⟩
 | true =>
 cases hname : (name1 == name2) with
 | false =>
   have hE : eqP ⟨id1, rank1, kind1, name1, value1, (.mk oC1 nC1 dC1 mC1 ksC1), exc1, (.mk oB1 nB1 dB1 mB1 ksB1), (.mk oD1 nD1 dD1 mD1 ksD1), (.mk oG1 nG1 dG1 mG1 ksG1)⟩ ⟨id2, rank2, kind2, name2, value2, (.mk oC2 nC2 dC2 mC2 ksC2), exc2, (.mk oB2 nB2 dB2 mB2 ksB2), (.mk oD2 nD2 dD2 mD2 ksD2), (.mk oG2 nG2 dG2 mG2 ksG2)⟩ = false := by simp only [eqP, hname, Bool.false_and, Bool.and_false]
   have HE := Lib.hid hE
   clear hE
   go_enter Tryz.func16, Tryz.ntmps16
   go_wp2_with fail
   go_ret
   exact ⟨by rw [HE.out]; rfl, ((Below.refl _ _).alloc (Nat.le_refl _) _).alloc (by simp) _⟩
 | true =>
 cases hvalue : (value1 == value2) with
 | false =>
   have hE : eqP ⟨id1, rank1, kind1, name1, value1, (.mk oC1 nC1 dC1 mC1 ksC1), exc1, (.mk oB1 nB1 dB1 mB1 ksB1), (.mk oD1 nD1 dD1 mD1 ksD1), (.mk oG1 nG1 dG1 mG1 ksG1)⟩ ⟨id2, rank2, kind2, name2, value2, (.mk oC2 nC2 dC2 mC2 ksC2), exc2, (.mk oB2 nB2 dB2 mB2 ksB2), (.mk oD2 nD2 dD2 mD2 ksD2), (.mk oG2 nG2 dG2 mG2 ksG2)⟩ = false := by simp only [eqP, hvalue, Bool.false_and, Bool.and_false]
   have HE := Lib.hid hE
   clear hE
   go_enter Tryz.func16, Tryz.ntmps16
   go_wp2_with fail
   go_ret
   exact ⟨by rw [HE.out]; rfl, ((Below.refl _ _).alloc (Nat.le_refl _) _).alloc (by simp) _⟩
 | true =>
 have hE : eqP ⟨id1, rank1, kind1, name1, value1, (.mk oC1 nC1 dC1 mC1 ksC1), exc1, (.mk oB1 nB1 dB1 mB1 ksB1), (.mk oD1 nD1 dD1 mD1 ksD1), (.mk oG1 nG1 dG1 mG1 ksG1)⟩ ⟨id2, rank2, kind2, name2, value2, (.mk oC2 nC2 dC2 mC2 ksC2), exc2, (.mk oB2 nB2 dB2 mB2 ksB2), (.mk oD2 nD2 dD2 mD2 ksD2), (.mk oG2 nG2 dG2 mG2 ksG2)⟩ = (exc1 == exc2 && eqX (.mk oC1 nC1 dC1 mC1 ksC1) (.mk oC2 nC2 dC2 mC2 ksC2) && eqX (.mk oB1 nB1 dB1 mB1 ksB1) (.mk oB2 nB2 dB2 mB2 ksB2) && eqX (.mk oD1 nD1 dD1 mD1 ksD1) (.mk oD2 nD2 dD2 mD2 ksD2) && eqX (.mk oG1 nG1 dG1 mG1 ksG1) (.mk oG2 nG2 dG2 mG2 ksG2)) := by simp only [eqP, hid, hrank, hkind, hname, hvalue, Bool.true_and]
 rw [hE]
 clear hE
 go_enter Tryz.func16, Tryz.ntmps16
 go_wp2_with fail
 have hw0 : Below w.heap.size w ((w.alloc (.cells #[vs id1, .int .i64 rank1, .int .i64 kind1, vs name1, .int .i64 value1, .int .i64 oC1, vs nC1, .int .i64 dC1, .int .i64 mC1, .slice KC1 ksC1.length qC1, .slice A1 exc1.length p1, .int .i64 oB1, vs nB1, .int .i64 mB1, .slice KB1 ksB1.length qB1, .int .i64 oD1, vs nD1, .int .i64 mD1, .slice KD1 ksD1.length qD1, .int .i64 oG1, vs nG1, .int .i64 mG1, .slice KG1 ksG1.length qG1] 30)).alloc (.cells #[vs id2, .int .i64 rank2, .int .i64 kind2, vs name2, .int .i64 value2, .int .i64 oC2, vs nC2, .int .i64 dC2, .int .i64 mC2, .slice KC2 ksC2.length qC2, .slice A2 exc2.length p2, .int .i64 oB2, vs nB2, .int .i64 mB2, .slice KB2 ksB2.length qB2, .int .i64 oD2, vs nD2, .int .i64 mD2, .slice KD2 ksD2.length qD2, .int .i64 oG2, vs nG2, .int .i64 mG2, .slice KG2 ksG2.length qG2] 30)) := ((Below.refl _ _).alloc (Nat.le_refl _) _).alloc (by simp) _
 have HW := Lib.hid hw0
 have HX1 := Lib.hid (show ((w.alloc (.cells #[vs id1, .int .i64 rank1, .int .i64 kind1, vs name1, .int .i64 value1, .int .i64 oC1, vs nC1, .int .i64 dC1, .int .i64 mC1, .slice KC1 ksC1.length qC1, .slice A1 exc1.length p1, .int .i64 oB1, vs nB1, .int .i64 mB1, .slice KB1 ksB1.length qB1, .int .i64 oD1, vs nD1, .int .i64 mD1, .slice KD1 ksD1.length qD1, .int .i64 oG1, vs nG1, .int .i64 mG1, .slice KG1 ksG1.length qG1] 30)).alloc (.cells #[vs id2, .int .i64 rank2, .int .i64 kind2, vs name2, .int .i64 value2, .int .i64 oC2, vs nC2, .int .i64 dC2, .int .i64 mC2, .slice KC2 ksC2.length qC2, .slice A2 exc2.length p2, .int .i64 oB2, vs nB2, .int .i64 mB2, .slice KB2 ksB2.length qB2, .int .i64 oD2, vs nD2, .int .i64 mD2, .slice KD2 ksD2.length qD2, .int .i64 oG2, vs nG2, .int .i64 mG2, .slice KG2 ksG2.length qG2] 30)).heap[w.heap.size]? = some (.cells #[vs id1, .int .i64 rank1, .int .i64 kind1, vs name1, .int .i64 value1, .int .i64 oC1, vs nC1, .int .i64 dC1, .int .i64 mC1, .slice KC1 ksC1.length qC1, .slice A1 exc1.length p1, .int .i64 oB1, vs nB1, .int .i64 mB1, .slice KB1 ksB1.length qB1, .int .i64 oD1, vs nD1, .int .i64 mD1, .slice KD1 ksD1.length qD1, .int .i64 oG1, vs nG1, .int .i64 mG1, .slice KG1 ksG1.length qG1] 30 (0, 0)) from kept_at (new_at rfl))
 have HX2 := Lib.hid (show ((w.alloc (.cells #[vs id1, .int .i64 rank1, .int .i64 kind1, vs name1, .int .i64 value1, .int .i64 oC1, vs nC1, .int .i64 dC1, .int .i64 mC1, .slice KC1 ksC1.length qC1, .slice A1 exc1.length p1, .int .i64 oB1, vs nB1, .int .i64 mB1, .slice KB1 ksB1.length qB1, .int .i64 oD1, vs nD1, .int .i64 mD1, .slice KD1 ksD1.length qD1, .int .i64 oG1, vs nG1, .int .i64 mG1, .slice KG1 ksG1.length qG1] 30)).alloc (.cells #[vs id2, .int .i64 rank2, .int .i64 kind2, vs name2, .int .i64 value2, .int .i64 oC2, vs nC2, .int .i64 dC2, .int .i64 mC2, .slice KC2 ksC2.length qC2, .slice A2 exc2.length p2, .int .i64 oB2, vs nB2, .int .i64 mB2, .slice KB2 ksB2.length qB2, .int .i64 oD2, vs nD2, .int .i64 mD2, .slice KD2 ksD2.length qD2, .int .i64 oG2, vs nG2, .int .i64 mG2, .slice KG2 ksG2.length qG2] 30)).heap[w.heap.size + 1]? = some (.cells #[vs id2, .int .i64 rank2, .int .i64 kind2, vs name2, .int .i64 value2, .int .i64 oC2, vs nC2, .int .i64 dC2, .int .i64 mC2, .slice KC2 ksC2.length qC2, .slice A2 exc2.length p2, .int .i64 oB2, vs nB2, .int .i64 mB2, .slice KB2 ksB2.length qB2, .int .i64 oD2, vs nD2, .int .i64 mD2, .slice KD2 ksD2.length qD2, .int .i64 oG2, vs nG2, .int .i64 mG2, .slice KG2 ksG2.length qG2] 30 (0, 0)) from new_at (by simp))
 clear hw0
 refine (names_eq exc1 exc2 _ _ _ _ _ (E1.out.below HW.out) (E2.out.below HW.out) hse).mono ?_
 rintro e w3 ⟨rfl, hb3⟩
 have HW3 := Lib.hid (HW.out.trans (hb3.mono HW.out.size))
 have HX1w3 := Lib.hid ((hb3.block _ (lt_of_heap' HX1.out)).trans HX1.out)
 have HX2w3 := Lib.hid ((hb3.block _ (lt_of_heap' HX2.out)).trans HX2.out)
 have u0x5 := cell_of_blk (o := 5) HX1w3.out rfl
 have v0x5 := cell_of_blk (o := 5) HX2w3.out rfl
 have u0x6 := cell_of_blk (o := 6) HX1w3.out rfl
 have v0x6 := cell_of_blk (o := 6) HX2w3.out rfl
 have u0x7 := cell_of_blk (o := 7) HX1w3.out rfl
 have v0x7 := cell_of_blk (o := 7) HX2w3.out rfl
 have u0x8 := cell_of_blk (o := 8) HX1w3.out rfl
 have v0x8 := cell_of_blk (o := 8) HX2w3.out rfl
 have u0x9 := cell_of_blk (o := 9) HX1w3.out rfl
 have v0x9 := cell_of_blk (o := 9) HX2w3.out rfl
 have l1w3 := lt_of_heap' HX1w3.out
 have l2w3 := lt_of_heap' HX2w3.out
 clear hb3
 cases hv0 : (exc1 == exc2) with
 | false =>
   go_wp2_with fail
   go_ret
   exact ⟨by simp only [hv0, Bool.true_and, Bool.false_and]; rfl, HW3.out⟩
 | true =>
 go_wp2_with fail
 refine (sameX_f _ (.mk oC1 nC1 dC1 mC1 ksC1) (.mk oC2 nC2 dC2 mC2 ksC2) _ _ _ (Nat.le_refl _) hsC (TC1.out.keep HW3.out) (TC2.out.keep HW3.out)).mono ?_
 rintro e w4 ⟨rfl, hb4⟩
 have HW4 := Lib.hid (HW3.out.trans (hb4.mono HW3.out.size))
 have HX1w4 := Lib.hid ((hb4.block _ (lt_of_heap' HX1w3.out)).trans HX1w3.out)
 have HX2w4 := Lib.hid ((hb4.block _ (lt_of_heap' HX2w3.out)).trans HX2w3.out)
 have u1x11 := cell_of_blk (o := 11) HX1w4.out rfl
 have v1x11 := cell_of_blk (o := 11) HX2w4.out rfl
 have u1x12 := cell_of_blk (o := 12) HX1w4.out rfl
 have v1x12 := cell_of_blk (o := 12) HX2w4.out rfl
 have u1x13 := cell_of_blk (o := 13) HX1w4.out rfl
 have v1x13 := cell_of_blk (o := 13) HX2w4.out rfl
 have u1x14 := cell_of_blk (o := 14) HX1w4.out rfl
 have v1x14 := cell_of_blk (o := 14) HX2w4.out rfl
 have l1w4 := lt_of_heap' HX1w4.out
 have l2w4 := lt_of_heap' HX2w4.out
 clear hb4
 cases hv1 : (eqX (.mk oC1 nC1 dC1 mC1 ksC1) (.mk oC2 nC2 dC2 mC2 ksC2)) with
 | false =>
   go_wp2_with fail
   go_ret
   exact ⟨by simp only [hv0, hv1, Bool.true_and, Bool.false_and]; rfl, HW4.out⟩
 | true =>
 go_wp2_with fail
 refine (sameX_s _ (.mk oB1 nB1 dB1 mB1 ksB1) (.mk oB2 nB2 dB2 mB2 ksB2) _ _ _ (Nat.le_refl _) hsB PB1.out PB2.out (TB1.out.keep HW4.out) (TB2.out.keep HW4.out)).mono ?_
 rintro e w5 ⟨rfl, hb5⟩
 have HW5 := Lib.hid (HW4.out.trans (hb5.mono HW4.out.size))
 have HX1w5 := Lib.hid ((hb5.block _ (lt_of_heap' HX1w4.out)).trans HX1w4.out)
 have HX2w5 := Lib.hid ((hb5.block _ (lt_of_heap' HX2w4.out)).trans HX2w4.out)
 have u2x15 := cell_of_blk (o := 15) HX1w5.out rfl
 have v2x15 := cell_of_blk (o := 15) HX2w5.out rfl
 have u2x16 := cell_of_blk (o := 16) HX1w5.out rfl
 have v2x16 := cell_of_blk (o := 16) HX2w5.out rfl
 have u2x17 := cell_of_blk (o := 17) HX1w5.out rfl
 have v2x17 := cell_of_blk (o := 17) HX2w5.out rfl
 have u2x18 := cell_of_blk (o := 18) HX1w5.out rfl
 have v2x18 := cell_of_blk (o := 18) HX2w5.out rfl
 have l1w5 := lt_of_heap' HX1w5.out
 have l2w5 := lt_of_heap' HX2w5.out
 clear hb5
 cases hv2 : (eqX (.mk oB1 nB1 dB1 mB1 ksB1) (.mk oB2 nB2 dB2 mB2 ksB2)) with
 | false =>
   go_wp2_with fail
   go_ret
   exact ⟨by simp only [hv0, hv1, hv2, Bool.true_and, Bool.false_and]; rfl, HW5.out⟩
 | true =>
 go_wp2_with fail
 refine (sameX_s _ (.mk oD1 nD1 dD1 mD1 ksD1) (.mk oD2 nD2 dD2 mD2 ksD2) _ _ _ (Nat.le_refl _) hsD PD1.out PD2.out (TD1.out.keep HW5.out) (TD2.out.keep HW5.out)).mono ?_
 rintro e w6 ⟨rfl, hb6⟩
 have HW6 := Lib.hid (HW5.out.trans (hb6.mono HW5.out.size))
 have HX1w6 := Lib.hid ((hb6.block _ (lt_of_heap' HX1w5.out)).trans HX1w5.out)
 have HX2w6 := Lib.hid ((hb6.block _ (lt_of_heap' HX2w5.out)).trans HX2w5.out)
 have u3x19 := cell_of_blk (o := 19) HX1w6.out rfl
 have v3x19 := cell_of_blk (o := 19) HX2w6.out rfl
 have u3x20 := cell_of_blk (o := 20) HX1w6.out rfl
 have v3x20 := cell_of_blk (o := 20) HX2w6.out rfl
 have u3x21 := cell_of_blk (o := 21) HX1w6.out rfl
 have v3x21 := cell_of_blk (o := 21) HX2w6.out rfl
 have u3x22 := cell_of_blk (o := 22) HX1w6.out rfl
 have v3x22 := cell_of_blk (o := 22) HX2w6.out rfl
 have l1w6 := lt_of_heap' HX1w6.out
 have l2w6 := lt_of_heap' HX2w6.out
 clear hb6
 cases hv3 : (eqX (.mk oD1 nD1 dD1 mD1 ksD1) (.mk oD2 nD2 dD2 mD2 ksD2)) with
 | false =>
   go_wp2_with fail
   go_ret
   exact ⟨by simp only [hv0, hv1, hv2, hv3, Bool.true_and, Bool.false_and]; rfl, HW6.out⟩
 | true =>
 go_wp2_with fail
 refine (sameX_s _ (.mk oG1 nG1 dG1 mG1 ksG1) (.mk oG2 nG2 dG2 mG2 ksG2) _ _ _ (Nat.le_refl _) hsG PG1.out PG2.out (TG1.out.keep HW6.out) (TG2.out.keep HW6.out)).mono ?_
 rintro e w7 ⟨rfl, hb7⟩
 have HW7 := Lib.hid (HW6.out.trans (hb7.mono HW6.out.size))
 clear hb7
 cases hv4 : (eqX (.mk oG1 nG1 dG1 mG1 ksG1) (.mk oG2 nG2 dG2 mG2 ksG2)) with
 | false =>
   go_wp2_with fail
   go_ret
   exact ⟨by simp only [hv0, hv1, hv2, hv3, hv4, Bool.true_and, Bool.false_and]; rfl, HW7.out⟩
 | true =>
 go_wp2_with fail
 go_ret
 exact ⟨by simp only [hv0, hv1, hv2, hv3, hv4, Bool.true_and]; rfl, HW7.out⟩
end Go.Proofs.YtbicmjmcdnkjhaaGreatDoor
set_option maxRecDepth 20000
namespace Go.Proofs.YtbicmjmcdnkjhaaGreatDoor
def exP (id : Bytes) : Prov := ⟨id, 2, 2, [116, 97, 120], 5, .mk 6 [] 0 0 [.mk 3 [97, 103, 101] 6 18 [], .mk 5 [] 0 0 [.mk 4 [112, 111, 111, 114] 0 0 []]], [[112, 50], [112, 51]], .mk 9 [] 0 0 [.mk 3 [] 0 10 [], .mk 4 [111, 49] 0 0 []], .mk 2 [] 0 0 [], .mk 2 [] 0 0 []⟩
abbrev exN : Bytes := [97, 99, 116, 32, 112, 49, 58, 32, 97, 110, 115, 119, 101, 114, 32, 116, 97, 120, 32, 105, 115, 32, 53, 32, 105, 102, 32, 97, 103, 101, 32, 62, 61, 32, 49, 56, 32, 97, 110, 100, 32, 110, 111, 116, 32, 112, 111, 111, 114, 32, 110, 111, 116, 119, 105, 116, 104, 115, 116, 97, 110, 100, 105, 110, 103, 32, 112, 50, 44, 32, 112, 51, 32, 102, 114, 111, 109, 32, 100, 97, 121, 32, 49, 48, 32, 111, 114, 32, 111, 114, 100, 101, 114, 32, 111, 49, 46]
abbrev exS : Bytes := [119, 104, 101, 114, 101, 32, 123, 32, 97, 103, 101, 32, 49, 56, 32, 108, 101, 97, 115, 116, 32, 112, 111, 111, 114, 32, 100, 101, 102, 105, 110, 101, 100, 32, 110, 101, 103, 97, 116, 101, 100, 32, 97, 108, 108, 32, 50, 32, 125, 32, 113, 117, 101, 115, 116, 105, 111, 110, 32, 116, 97, 120, 32, 103, 105, 118, 101, 115, 32, 53, 32, 111, 118, 101, 114, 114, 105, 100, 101, 115, 32, 40, 112, 50, 32, 112, 51, 41, 32, 115, 116, 97, 114, 116, 115, 32, 123, 32, 49, 48, 32, 100, 97, 121, 32, 111, 49, 32, 100, 101, 99, 114, 101, 101, 32, 97, 110, 121, 32, 50, 32, 125, 32, 91, 115, 116, 97, 116, 117, 116, 101, 32, 112, 49, 93]
abbrev exW : Bytes := [119, 104, 101, 114, 101]
theorem dec_2 : dec 2 = [50] := dec_small (by decide)
theorem dec_5 : dec 5 = [53] := dec_small (by decide)
theorem dec_10 : dec 10 = [49, 48] := by rw [dec_big (by decide), show 10 / 10 = 1 from rfl, dec_small (by decide)]; rfl
theorem dec_18 : dec 18 = [49, 56] := by rw [dec_big (by decide), show 18 / 10 = 1 from rfl, dec_small (by decide)]; rfl
theorem ex_wr (id : Bytes) : WrOk (exP id) where
 rank := by show 1 ≤ 2 ∧ 2 ≤ 4; decide
 kind := Or.inr rfl
 value := by show 5 ≤ 1000000; decide
 cond := by rfl
 condS := by rfl
 excN := by show [[112, 50], [112, 51]].Nodup; decide
 excL := by show 2 ≤ 20; decide
 beg := by rfl
 begS := by rfl
 fin := by rfl
 finS := by rfl
 aga := by rfl
 agaS := by rfl
theorem ex_plain (id : Bytes) : plainP (upP (exP id)) := plainP_up (ex_wr id)
theorem ex_names (id : Bytes) : namesP (exP id) = [id, [116, 97, 120], [112, 50], [112, 51], [97, 103, 101], [112, 111, 111, 114], [111, 49]] := rfl
theorem ex_north : northA (upP (exP [112, 49])) = (exN, 0) := by
 rw [← refA_north (ex_plain _)]
 unfold refA
 rw [writtenR_eq (ex_plain _), if_pos (written_up (ex_wr _)), down_upP, ex_names, if_pos (by decide)]
 have : rText (exP [112, 49]) = exN := by
  unfold rText exP
  simp [rF, rFs, rS, rSs, wrapB, joinT', signs, startW, ranksN, Tree.op, dec_5, dec_10, dec_18]
 rw [this]
 decide
theorem ex_south : southA (upP (exP [112, 49])) = (exS, 0) := by
 rw [← refA_south (ex_plain _)]
 unfold refA
 rw [writtenR_eq (ex_plain _), if_pos (written_up (ex_wr _)), down_upP, ex_names, if_pos (by decide)]
 have : So.rText (exP [112, 49]) = exS := by
  unfold So.rText exP
  simp [So.rF, So.rFs, So.rS, So.rSs, joinT', So.cmpW, So.opsW, So.ranksS, Tree.op, dec_2, dec_5, dec_10, dec_18]
 rw [this]
 decide
theorem ex_where : (northA (upP (exP exW))).2 = 0 ∧ (southA (upP (exP exW))).2 = 7 := by
 constructor
 · rw [← refA_north (ex_plain _)]
   unfold refA
   rw [writtenR_eq (ex_plain _), if_pos (written_up (ex_wr _)), down_upP, ex_names, if_pos (by decide)]
   have : ∃ s, rText (exP exW) = s ∧ (shortA s).2 = 0 := by
    refine ⟨[97, 99, 116, 32, 119, 104, 101, 114, 101, 58, 32, 97, 110, 115, 119, 101, 114, 32, 116, 97, 120, 32, 105, 115, 32, 53, 32, 105, 102, 32, 97, 103, 101, 32, 62, 61, 32, 49, 56, 32, 97, 110, 100, 32, 110, 111, 116, 32, 112, 111, 111, 114, 32, 110, 111, 116, 119, 105, 116, 104, 115, 116, 97, 110, 100, 105, 110, 103, 32, 112, 50, 44, 32, 112, 51, 32, 102, 114, 111, 109, 32, 100, 97, 121, 32, 49, 48, 32, 111, 114, 32, 111, 114, 100, 101, 114, 32, 111, 49, 46], ?_, by decide⟩
    unfold rText exP
    simp [rF, rFs, rS, rSs, wrapB, joinT', signs, startW, ranksN, Tree.op, dec_5, dec_10, dec_18]
   obtain ⟨s, e, h⟩ := this
   rw [e, h]
 · rw [← refA_south (ex_plain _)]
   unfold refA
   rw [writtenR_eq (ex_plain _), if_pos (written_up (ex_wr _)), down_upP, ex_names, if_neg (by decide)]
theorem ex_five {p : ProvI} (h : p.rank = 5) : (northA p).2 = 1 ∧ (southA p).2 = 1 := by
 obtain ⟨a, b⟩ := ans_arg (p := p) (refuses_ref (by unfold refP; rw [h]; rfl))
 rw [a, b]
 exact ⟨rfl, rfl⟩
end Go.Proofs.YtbicmjmcdnkjhaaGreatDoor
set_option maxRecDepth 20000
set_option maxHeartbeats 400000
namespace Go.Proofs.YtbicmjmcdnkjhaaGreatDoor
open Go.RowKit
def headT (fin : Nat) : List Tok → Tok
 | [] => ⟨0, [], 0, fin⟩
 | t :: _ => t
abbrev stopE (e a : Nat) : Ending := .panicked [{ v := .iface 83 (.agg #[.int .i64 e, .int .i64 a]), recovered := false }]
theorem next_nil (p fin : Nat) (w : World) (hp : PS w p fin []) :
 Calls Tryz.prog 118 #[.pointer (some ⟨p, 0, none⟩)] w fun e w' => e = .returned (.agg #[.int .i64 0, vs [], .int .i64 0, .int .i64 fin]) ∧ Below w.heap.size w w' := by
 obtain ⟨A, c, hh, -⟩ := hp.is
 have c0 := cell_of_blk (o := 0) hh rfl
 have c1 := cell_of_blk (o := 1) hh rfl
 have hlt := lt_of_heap' hh
 clear hh hp
 go_enter Tryz.func118, Tryz.ntmps118
 go_wp2
 refine bodyPost_ret (v := .agg #[.int .i64 0, vs [], .int .i64 0, .int .i64 fin]) (by simp [results, Tryz.results118, go_sem]) rfl ⟨rfl, ?_⟩
 exact (Below.refl _ _).alloc (Nat.le_refl _) _
theorem next_cons (p fin : Nat) (t : Tok) (l : List Tok) (w : World) (hp : PS w p fin (t :: l)) :
 Calls Tryz.prog 118 #[.pointer (some ⟨p, 0, none⟩)] w fun e w' => e = .returned t.agg ∧ Below w.heap.size w w' := by
 obtain ⟨A, c, hh, hr, -⟩ := hp.is
 obtain ⟨b, o, rfl, hb, d0, d1, d2, d3, -⟩ := hr.head
 have c0 := cell_of_blk (o := 0) hh rfl
 have c1 := cell_of_blk (o := 1) hh rfl
 have hlt := lt_of_heap' hh
 have hz : (((l.length : Nat) : Int) + 1 == 0) = false := by simp; omega
 simp only [List.length_cons] at c0
 clear hh hp hr
 go_enter Tryz.func118, Tryz.ntmps118
 go_wp2
 refine bodyPost_ret (v := t.agg) (by simp [results, Tryz.results118, go_sem]) rfl ⟨rfl, ?_⟩
 exact (Below.refl _ _).alloc (Nat.le_refl _) _
end Go.Proofs.YtbicmjmcdnkjhaaGreatDoor
set_option maxRecDepth 20000
set_option maxHeartbeats 400000
namespace Go.Proofs.YtbicmjmcdnkjhaaGreatDoor
open Go.RowKit
@[go_sem] theorem run_field_tok_at (a b c d : Value) (W : World) : (Instr.field 122 (.agg #[a, b, c, d]) 3).run Tryz.prog W = .ok d W := by kernel_rfl
theorem fail_any (p fin : Nat) (l : List Tok) (w : World) (hp : PS w p fin l) :
 Calls Tryz.prog 87 #[.pointer (some ⟨p, 0, none⟩)] w fun e w' => e = stopE (failC l) (posAt fin l) ∧ Below w.heap.size w w' := by
 cases l with
 | nil =>
   obtain ⟨A, c, hh, -⟩ := hp.is
   have c0 := cell_of_blk (o := 0) hh rfl
   have c1 := cell_of_blk (o := 1) hh rfl
   have hlt := lt_of_heap' hh
   clear hh hp
   go_enter Tryz.func87, Tryz.ntmps87
   go_wp2
   exact ⟨rfl, rfl, Below.refl _ _⟩
 | cons t r =>
   have HP := Lib.hid hp
   obtain ⟨A, c, hh, -⟩ := hp.is
   have c0 := cell_of_blk (o := 0) hh rfl
   have hlt := lt_of_heap' hh
   have hz : (((r.length : Nat) : Int) + 1 == 0) = false := by simp; omega
   simp only [List.length_cons] at c0
   clear hh hp
   go_enter Tryz.func87, Tryz.ntmps87
   go_wp2_with (go_at_call 118; refine (next_cons p fin t r _ HP.out).mono ?_; rintro e w1 ⟨rfl, hb1⟩)
   exact ⟨rfl, rfl, hb1⟩
/- a name is a key word if it stands among them, between blanks -/
theorem keys_bytes (s : List UInt8) : ((⟨#[32]⟩ : ByteArray) ++ ⟨s.toArray⟩ ++ ⟨#[32]⟩).data.toList = 32 :: (s ++ [32]) := by
 simp [ByteArray.data_append]
theorem contains_key (B : ByteArray) (s : List UInt8) (w : World) (hB : B.data.toList = keysT keyWords) (hs : ∀ c ∈ s, c ≠ 32) (hm : ∃ m, w.cell? ⟨2, 0, none⟩ = some (.int .i64 m)) :
 Calls Tryz.prog 162 #[.string B, .string ((⟨#[32]⟩ : ByteArray) ++ ⟨s.toArray⟩ ++ ⟨#[32]⟩)] w fun e w' => e = .returned (.bool (keyF s)) ∧ w = w' := by
 obtain ⟨m, hm⟩ := hm
 have hsz : B.size < 4294967281 := by
  have h1 : B.data.toList.length ≤ 1000 := by rw [hB]; decide
  have h2 : B.size = B.data.toList.length := (Array.length_toList).symm
  omega
 refine (Tryz.strings_Contains B _ m w hsz hm).mono ?_
 rintro e w' ⟨rfl, rfl⟩
 rw [hB, keys_bytes, key_contains s hs]
 exact ⟨rfl, rfl⟩
theorem key_any (s : List UInt8) (w : World) (hl : s.length ≤ 1000) (hs : ∀ c ∈ s, c ≠ 32) (hm : ∃ m, w.cell? ⟨2, 0, none⟩ = some (.int .i64 m)) :
 Calls Tryz.prog 119 #[vs s] w fun e w' => e = .returned (.bool (keyF s)) ∧ w = w' := by
 have HM := Lib.hid hm
 have HS := Lib.hid hs
 clear hs hm
 go_enter Tryz.func119, Tryz.ntmps119
 go_wp2_with fail
 refine (contains_key _ s _ ?hb HS.out HM.out).mono ?_
 case hb => rfl
 rintro e w1 ⟨rfl, rfl⟩
 go_wp2_with fail
 go_ret
 exact ⟨rfl, rfl⟩
end Go.Proofs.YtbicmjmcdnkjhaaGreatDoor
set_option maxRecDepth 20000
set_option maxHeartbeats 400000
namespace Go.Proofs.YtbicmjmcdnkjhaaGreatDoor
open Go.RowKit
/- one token is consumed -/
theorem PS.step {w w1 : World} {p fin : Nat} {t : Tok} {l : List Tok} {b o c : Nat} (h : PS w p fin (t :: l)) (hh : w.heap[p]? = some (.cells #[.slice (some ⟨b, o, none⟩) (l.length + 1) c, .int .i64 fin] 87 (0, 0)))
 (hr : RdT w (some ⟨b, o, none⟩) (t :: l)) (hn : b < p) (h1 : l.length + 1 ≤ c) (h2 : c ≤ 9223372036854775807) (hb : Below w.heap.size w w1) (A' : Option Addr) (c' : Nat) (hc' : c' = c - 1) (hA : A' = some ⟨b, o + 4, none⟩ ∨ (c = 1 ∧ A' = some ⟨b, o, none⟩)) (x : Obj) :
 PS ((w1.setCell ⟨p, 0, none⟩ (.slice A' l.length c')).alloc x) p fin l ∧ Eff p w ((w1.setCell ⟨p, 0, none⟩ (.slice A' l.length c')).alloc x) := by
 subst hc'
 have he : Eff p w (w1.setCell ⟨p, 0, none⟩ (.slice A' l.length (c - 1))) := (Eff.of_below hb).setCell ⟨p, 0, none⟩ (.inl rfl) _
 have hlt := lt_of_heap' hh
 have hps : PS (w1.setCell ⟨p, 0, none⟩ (.slice A' l.length (c - 1))) p fin l := by
  refine ⟨⟨A', c - 1, ?_, ?_, ?_, by omega, by omega⟩, fun x hx => h.fit x (by simp [hx]), ?_, h.ne, h.bound⟩
  · have := row_setCell (o := 0) (u := .slice A' l.length (c - 1)) ((hb.block p hlt).trans hh)
    rw [this]; rfl
  · rcases hA with rfl | ⟨hc1, rfl⟩
    · exact Sl.keep (hr.tail) he.size (fun b' o' hA hlt' => by cases hA; exact he.block _ hlt' (by omega))
    · have : l = [] := by
        cases l with
        | nil => rfl
        | cons x y => simp at h1; omega
      subst this; exact Sl.nil
  · intro b' o' hA'
    rcases hA with rfl | ⟨-, rfl⟩
    · cases hA'; exact hn
    · cases hA'; exact hn
  · obtain ⟨m, hm⟩ := h.mx
    exact ⟨m, he.cell hm (by have := h.ne; omega)⟩
 exact ⟨hps.below ((Below.refl _ _).alloc (Nat.le_refl _) _), he.alloc _⟩
theorem take_nil (ws : List (List UInt8)) (W : Option Addr) (cw : Nat) (p fin : Nat) (w : World) (hp : PS w p fin []) :
 Calls Tryz.prog 81 #[.pointer (some ⟨p, 0, none⟩), .slice W ws.length cw] w fun e w' => e = .returned (.int .i64 (-1)) ∧ Below w.heap.size w w' := by
 have HP := Lib.hid hp
 clear hp
 go_enter Tryz.func81, Tryz.ntmps81
 go_wp2_with (go_at_call 118; refine (next_nil p fin _ HP.out).mono ?_; rintro e w1 ⟨rfl, hb1⟩)
 go_ret
 exact ⟨rfl, hb1.alloc hb1.size _⟩
theorem take_num (ws : List (List UInt8)) (W : Option Addr) (cw : Nat) (p fin : Nat) (t : Tok) (l : List Tok) (w : World) (hp : PS w p fin (t :: l)) (hk : t.kind = 2) :
 Calls Tryz.prog 81 #[.pointer (some ⟨p, 0, none⟩), .slice W ws.length cw] w fun e w' => e = .returned (.int .i64 (-1)) ∧ Below w.heap.size w w' := by
 have HP := Lib.hid hp
 have k1 : ((t.kind : Int) != 1) = true := by simp [hk]
 have k3 : ((t.kind : Int) != 3) = true := by simp [hk]
 clear hp hk
 go_enter Tryz.func81, Tryz.ntmps81
 go_wp2_with (go_at_call 118; refine (next_cons p fin t l _ HP.out).mono ?_; rintro e w1 ⟨rfl, hb1⟩)
 go_ret
 exact ⟨rfl, hb1.alloc hb1.size _⟩
theorem take_other (ws : List (List UInt8)) (W : Option Addr) (cw : Nat) (p fin : Nat) (t : Tok) (l : List Tok) (w : World) (hp : PS w p fin (t :: l)) (hk : t.kind = 1 ∨ t.kind = 3) (hr : RdS w W ws) (hl : ws.length ≤ 100) (hi : ixS ws t.text = none) :
 Calls Tryz.prog 81 #[.pointer (some ⟨p, 0, none⟩), .slice W ws.length cw] w fun e w' => e = .returned (.int .i64 (-1)) ∧ Below w.heap.size w w' := by
 have HP := Lib.hid hp
 have HR := Lib.hid hr
 have HI := Lib.hid hi
 clear hp hr hi
 have key : (((t.kind : Int) != 1) = false ∧ ((t.kind : Int) != 3) = true) ∨ (((t.kind : Int) != 1) = true ∧ ((t.kind : Int) != 3) = false) := by rcases hk with h | h <;> simp [h]
 clear hk
 rcases key with ⟨k1, k3⟩ | ⟨k1, k3⟩
 all_goals
  go_enter Tryz.func81, Tryz.ntmps81
  go_wp2_with (go_at_call 118; refine (next_cons p fin t l _ HP.out).mono ?_; rintro e w1 ⟨rfl, hb1⟩)
  refine (indexS_any ws W cw t.text _ (HR.out.below (hb1.alloc hb1.size _)) (by unfold maxLen; omega)).mono ?_
  rintro e w2 ⟨rfl, rfl⟩
  rw [HI.out]
  go_wp2_with fail
  go_ret
  exact ⟨rfl, hb1.alloc hb1.size _⟩
theorem take_yes (ws : List (List UInt8)) (W : Option Addr) (cw : Nat) (p fin : Nat) (t : Tok) (l : List Tok) (w : World) (hp : PS w p fin (t :: l)) (hk : t.kind = 1 ∨ t.kind = 3) (hr : RdS w W ws) (hl : ws.length ≤ 100) (i : Nat) (hi : ixS ws t.text = some i) :
 Calls Tryz.prog 81 #[.pointer (some ⟨p, 0, none⟩), .slice W ws.length cw] w fun e w' => e = .returned (.int .i64 i) ∧ PS w' p fin l ∧ Eff p w w' := by
 have HP := Lib.hid hp
 have HR := Lib.hid hr
 have HI := Lib.hid hi
 obtain ⟨A, c, hh, hrt, hn, h1, h2⟩ := hp.is
 obtain ⟨b, o, rfl, hb, -, -, -, -, -⟩ := hrt.head
 have hn := hn b o rfl
 simp only [List.length_cons] at hh h1
 have HH := Lib.hid hh
 have c0 := cell_of_blk (o := 0) hh rfl
 have f0 := frozen_of_blk (o := 0) hh
 have hlt := lt_of_heap' hh
 clear hp hr hi hh
 have key : (((t.kind : Int) != 1) = false ∧ ((t.kind : Int) != 3) = true) ∨ (((t.kind : Int) != 1) = true ∧ ((t.kind : Int) != 3) = false) := by rcases hk with h | h <;> simp [h]
 clear hk
 have hc1 : (1 : Int) ≤ (l.length : Int) + 1 := by omega
 have hc2 : ((l.length : Int) + 1) ≤ c := by omega
 by_cases hc : c = 1
 all_goals
  rcases key with ⟨k1, k3⟩ | ⟨k1, k3⟩
  all_goals
   go_enter Tryz.func81, Tryz.ntmps81
   go_wp2_with (go_at_call 118; refine (next_cons p fin t l _ HP.out).mono ?_; rintro e w1 ⟨rfl, hb1⟩)
   refine (indexS_any ws W cw t.text _ (HR.out.below (hb1.alloc hb1.size _)) (by unfold maxLen; omega)).mono ?_
   rintro e w2 ⟨rfl, rfl⟩
   rw [HI.out]
   have d0 := (hb1.cell (p := ⟨p, 0, none⟩) hlt).trans c0
   have df := (hb1.frozen (p := ⟨p, 0, none⟩) hlt).trans f0
   have dl := World.block_lt_of_cell? _ _ d0
   go_wp2_with fail
   go_ret
   exact ⟨rfl, HP.out.step HH.out hrt hn h1 h2 hb1 _ _ (by omega) (by first | exact .inl rfl | exact .inr ⟨hc, rfl⟩) _⟩
/- take, whatever the next token -/
theorem TokFit.word {t : Tok} (h : TokFit t) : (isWord t = true ∧ (t.kind = 1 ∨ t.kind = 3)) ∨ (isWord t = false ∧ t.kind = 2) := by
 rcases h.kind with hk | hk | hk <;> simp [isWord, hk]
theorem take_no (ws : List (List UInt8)) (W : Option Addr) (cw : Nat) (p fin : Nat) (l : List Tok) (w : World) (hp : PS w p fin l) (hr : RdS w W ws) (hl : ws.length ≤ 100) (hi : takeF ws l = (none, l)) :
 Calls Tryz.prog 81 #[.pointer (some ⟨p, 0, none⟩), .slice W ws.length cw] w fun e w' => e = .returned (.int .i64 (-1)) ∧ Below w.heap.size w w' := by
 cases l with
 | nil => exact take_nil ws W cw p fin w hp
 | cons t r =>
   rcases (hp.fit t (by simp)).word with ⟨h1, h2⟩ | ⟨h1, h2⟩
   · refine take_other ws W cw p fin t r w hp h2 hr hl ?_
     rw [ixS_eq]
     simp only [takeF, h1, if_true] at hi
     cases hq : ws.idxOf? t.text with
     | none => rfl
     | some i => rw [hq] at hi; simp at hi
   · exact take_num ws W cw p fin t r w hp h2
theorem take_some (ws : List (List UInt8)) (W : Option Addr) (cw : Nat) (p fin : Nat) (t : Tok) (l : List Tok) (w : World) (hp : PS w p fin (t :: l)) (hr : RdS w W ws) (hl : ws.length ≤ 100) (i : Nat) (hi : takeF ws (t :: l) = (some i, l)) :
 Calls Tryz.prog 81 #[.pointer (some ⟨p, 0, none⟩), .slice W ws.length cw] w fun e w' => e = .returned (.int .i64 i) ∧ PS w' p fin l ∧ Eff p w w' := by
 rcases (hp.fit t (by simp)).word with ⟨h1, h2⟩ | ⟨h1, h2⟩
 · refine take_yes ws W cw p fin t l w hp h2 hr hl i ?_
   rw [ixS_eq]
   simp only [takeF, h1, if_true] at hi
   cases hq : ws.idxOf? t.text with
   | none => rw [hq] at hi; simp at hi
   | some j => rw [hq] at hi; simp at hi; rw [hi]
 · simp [takeF, h1] at hi
end Go.Proofs.YtbicmjmcdnkjhaaGreatDoor
