/- The reference's North: the same answer. -/
import Derived.Test.YtbicmjmcdnkjhaaGreatDoorJMM1
import Derived.Test.YtbicmjmcdnkjhaaGreatDoorJMM37
import Derived.Test.YtbicmjmcdnkjhaaGreatDoorJMM35
import Derived.Test.YtbicmjmcdnkjhaaGreatDoorJMM22
import Derived.Deep.CutRange
import Derived.Deep.RegionHeld3
set_option linter.unusedVariables false
set_option linter.unusedSimpArgs false
set_option maxRecDepth 100000
set_option maxHeartbeats 16000000
namespace Go.Proofs.YtbicmjmcdnkjhaaGreatDoor
open Go.RowKit
attribute [local go_sem ↓] Go.wp_at_zero Go.wp_at_succ
attribute [local go_sem] bcat
theorem rNorth_p (w : World) (cs : List Value) (P : ProvI) (hr : RdPX w cs P) (hp : plainP P) (hf : FewP P) :
 Calls Tryz.prog 13 #[.agg cs.toArray] w fun e w' => e = .returned (.tuple #[vs (northA P).1, .int .i64 ((northA P).2 : Nat)]) ∧ Below w.heap.size w w' := by
 have hA := refA_north hp
 rw [← hA]
 clear hA
 unfold refA
 obtain ⟨-, ld1⟩ := rdpx_io hr
 have HX := Hi (Bx1.start w cs.toArray 30)
 have hWR := fun wx (hx : Below w.heap.size w wx) => rwrit_any wx cs P (hr.keep hx) (by have := hf.cond; omega) (by have := hf.beg; omega) (by have := hf.fin; omega) (by have := hf.aga; omega) (by have := hf.exc; omega)
 cases hw : writtenR P with
 | false =>
   rw [hw] at hWR
   have HWR := Hi hWR
   rw [if_neg (by decide)]
   clear hr hp hf hw hWR
   go_enter Tryz.func13, Tryz.ntmps13
   have k1 := HX.out.blk
   have l1 := lHp k1
   go_wp2_with fail
   refine (HWR.out _ HX.out.below).mono ?_
   rintro e w1 ⟨rfl, hb⟩
   have H1 := Hi (HX.out.step hb)
   clear hb k1 l1
   go_wp2_with fail
   go_ret2
   exact ⟨rfl, H1.out.below⟩
 | true =>
 rw [hw] at hWR
 have HWR := Hi hWR
 rw [if_pos rfl]
 obtain ⟨hP, hok⟩ := written_down hp (by rw [← writtenR_eq hp]; exact hw)
 have hnm : namesI P = namesP (downP P) := by
  have := namesI_up (downP P)
  rwa [← hP] at this
 have hND := fun (wx : World) (g : Nat) (hx : Below w.heap.size w wx) (hw' : RdS wx (some ⟨g, 0, none⟩) keyWords) => rnamed_any wx cs P keyWords 24 g (hr.keep hx) hf rfl (by decide) hw'
 rw [hnm] at hND
 generalize hq : downP P = q at *
 clear hw hWR hq
 cases hn : namedR keyWords (namesP q) with
 | false =>
   rw [hn] at hND
   have HND := Hi hND
   rw [if_neg (by decide)]
   clear hr hp hf hND hn hnm hok hP
   go_enter Tryz.func13, Tryz.ntmps13
   have k1 := HX.out.blk
   have l1 := lHp k1
   go_wp2_with fail
   refine (HWR.out _ HX.out.below).mono ?_
   rintro e w1 ⟨rfl, hb⟩
   have H1 := Hi (HX.out.step hb)
   have H1D := Hi H1.out.drew
   clear hb k1 l1
   have k1 := H1.out.blk
   have l1 := lHp k1
   go_wp2_with fail
   have k1d := H1D.out.blk
   go_region_held3 (fun w' => w'.blk w.heap.size = some (.cells cs.toArray 30 (0, 0)) ∧ w.heap.size < w'.heap.size) (go_keep) ((first | (go_at_call 17; refine (nwords_any _).mono ?_; rintro e9 w2 ⟨g9, rfl, hr9, hb9⟩; have HN9 := Hi hr9; have H2 := Hi (H1D.out.step hb9); have k9 := H2.out.blk; have l9 := lHp k9; clear hb9 hr9) | (go_at_call 38; refine (HND.out w2 g9 H2.out.below HN9.out).mono ?_; rintro e8 w3 ⟨rfl, hb8⟩; have H3 := Hi (H2.out.step hb8); have k8 := H3.out.blk; have l8 := lHp k8; clear hb8)))
   clear k1 l1 k1d
   go_wp2_with fail
   go_ret2
   exact ⟨rfl, H3.out.below⟩
 | true =>
 rw [hn] at hND
 have HND := Hi hND
 rw [if_pos rfl]
 have hf2 := hf
 rw [hP] at hr hf2
 clear hnm hn hND hp hf
 obtain ⟨id, rank, kind, name, value, cond, exc, beg, fin, aga⟩ := q
 obtain ⟨cc, A, cap, cb, cf, ca, hcs, hcap, hcc, hex, hcb, hcf, hca⟩ := hr
 simp only [upP] at hcs hcap hcc hex hcb hcf hca
 obtain ⟨k_1, k_2, k_3, k_4, k_5, k_6⟩ := hf2
 simp only [upP, size_up] at k_1 k_2 k_3 k_4 k_5
 rw [namesI_up] at k_6
 have hs1 : id.length ≤ 60 := k_6 id (by simp [namesP])
 have hs2 : name.length ≤ 60 := k_6 name (by simp [namesP])
 have hs3 : ∀ s ∈ exc, s.length ≤ 60 := fun s hs => k_6 s (by simp [namesP, hs])
 have hs4 : Sh6 (namesF cond) := fun s hs => k_6 s (by simp [namesP, hs])
 have hs5 : Sh6 (namesS beg) := fun s hs => k_6 s (by simp [namesP, hs])
 have hs6 : Sh6 (namesS fin) := fun s hs => k_6 s (by simp [namesP, hs])
 have hs7 : Sh6 (namesS aga) := fun s hs => k_6 s (by simp [namesP, hs])
 obtain ⟨w1, w2, w3, w4, -, -, w5, w6, -, w7, -, w8, -⟩ := hok
 simp only at w1 w2 w3 w4 w5 w6 w7 w8
 have HCF : Hid (∀ wx, Below w.heap.size w wx → Calls Tryz.prog 40 #[.agg cc.toArray] wx fun e w' => e = .returned (vs (rF cond)) ∧ Below wx.heap.size wx w') := Hi (fun wx hx => rnorth_any cond.size cond cc wx (lR _) (by omega) w4 hs4 (hcc.keep hx))
 have HCB : Hid (∀ wx, Below w.heap.size w wx → Calls Tryz.prog 42 #[.agg cb.toArray] wx fun e w' => e = .returned (vs (rS beg)) ∧ Below wx.heap.size wx w') := Hi (fun wx hx => rnst_any beg.size beg cb wx (lR _) (by omega) w6 hs5 (hcb.keep hx))
 have HCD : Hid (∀ wx, Below w.heap.size w wx → Calls Tryz.prog 42 #[.agg cf.toArray] wx fun e w' => e = .returned (vs (rS fin)) ∧ Below wx.heap.size wx w') := Hi (fun wx hx => rnst_any fin.size fin cf wx (lR _) (by omega) w7 hs6 (hcf.keep hx))
 have HCG : Hid (∀ wx, Below w.heap.size w wx → Calls Tryz.prog 42 #[.agg ca.toArray] wx fun e w' => e = .returned (vs (rS aga)) ∧ Below wx.heap.size wx w') := Hi (fun wx hx => rnst_any aga.size aga ca wx (lR _) (by omega) w8 hs7 (hca.keep hx))
 have HJ : Hid (∀ wx, Below w.heap.size w wx → Calls Tryz.prog 41 #[.slice A exc.length cap, vs [44, 32]] wx fun e w' => e = .returned (vs (joinT' [44, 32] exc)) ∧ wx = w') := Hi (fun wx hx => rjoin_any exc A cap [44, 32] wx 60 (hex.below hx) (by omega) (by omega) hs3 (by decide))
 have HD : Hid (∀ wx, Calls Tryz.prog 39 #[.int .i64 value] wx fun e w' => e = .returned (vs (dec value)) ∧ wx = w') := Hi (fun wx => rdec_any value wx (by omega))
 have b1 := (rF_len cond (by omega) w4 hs4).1
 have b2 := (rS_len beg (by omega) w6 hs5).1
 have b3 := (rS_len fin (by omega) w7 hs6).1
 have b4 := (rS_len aga (by omega) w8 hs7).1
 have b5 := joinT_len [44, 32] (by decide) 60 exc hs3
 have b6 := dec_len (n := value) (by omega)
 obtain ⟨T, hT⟩ : ∃ T, rText ⟨id, rank, kind, name, value, cond, exc, beg, fin, aga⟩ = T := ⟨_, rfl⟩
 rw [hT]
 unfold rText at hT
 simp only at hT
 generalize rF cond = tF at *
 generalize rS beg = tB at *
 generalize rS fin = tD at *
 generalize rS aga = tG at *
 generalize joinT' [44, 32] exc = tE at *
 generalize dec value = tV at *
 have b1 : tF.length ≤ 30000 := by omega
 have b2 : tB.length ≤ 30000 := by omega
 have b3 : tD.length ≤ 30000 := by omega
 have b4 : tG.length ≤ 30000 := by omega
 have b5 : tE.length ≤ 2100 := by omega
 obtain ⟨oC, nC, dC, mC, ksC⟩ := cond
 rw [up] at hcc
 obtain ⟨KC, qC, rfl, -⟩ := hcc
 obtain ⟨oB, nB, dB, mB, ksB⟩ := beg
 rw [up] at hcb
 obtain ⟨KB, qB, rfl, -⟩ := hcb
 obtain ⟨oD, nD, dD, mD, ksD⟩ := fin
 rw [up] at hcf
 obtain ⟨KD, qD, rfl, -⟩ := hcf
 obtain ⟨oG, nG, dG, mG, ksG⟩ := aga
 rw [up] at hca
 obtain ⟨KG, qG, rfl, -⟩ := hca
 simp only [ups_len, tcX, List.cons_append, List.nil_append] at hcs HCF HCB HCD HCG
 obtain ⟨ri, hri⟩ : ∃ x : Int, (rank : Int) = x := ⟨_, rfl⟩
 obtain ⟨ki, hki⟩ : ∃ x : Int, (kind : Int) = x := ⟨_, rfl⟩
 obtain ⟨pC, hpC⟩ : ∃ x : Int, (oC : Int) = x := ⟨_, rfl⟩
 obtain ⟨pB, hpB⟩ : ∃ x : Int, (oB : Int) = x := ⟨_, rfl⟩
 obtain ⟨pD, hpD⟩ : ∃ x : Int, (oD : Int) = x := ⟨_, rfl⟩
 obtain ⟨pG, hpG⟩ : ∃ x : Int, (oG : Int) = x := ⟨_, rfl⟩
 rw [hri, hki, hpC, hpB, hpD, hpG] at hcs
 rw [hpC] at HCF
 rw [hpB] at HCB
 rw [hpD] at HCD
 rw [hpG] at HCG
 obtain ⟨bC, hbC⟩ : ∃ b, (pC != 1) = b := ⟨_, rfl⟩
 obtain ⟨bB, hbB⟩ : ∃ b, (pB != 1) = b := ⟨_, rfl⟩
 obtain ⟨bD, hbD⟩ : ∃ b, (pD != 2) = b := ⟨_, rfl⟩
 obtain ⟨bG, hbG⟩ : ∃ b, (pG != 2) = b := ⟨_, rfl⟩
 obtain ⟨bK, hbK⟩ : ∃ b, (ki == 1) = b := ⟨_, rfl⟩
 have e1 : (oC != 1) = bC := by rw [← hbC, ← hpC, Bool.eq_iff_iff]; simp; omega
 have e2 : (oB != 1) = bB := by rw [← hbB, ← hpB, Bool.eq_iff_iff]; simp; omega
 have e3 : (oD != 2) = bD := by rw [← hbD, ← hpD, Bool.eq_iff_iff]; simp; omega
 have e4 : (oG != 2) = bG := by rw [← hbG, ← hpG, Bool.eq_iff_iff]; simp; omega
 have e5 : (kind = 1) ↔ bK = true := by rw [← hbK, ← hki]; simp; omega
 simp only [Tree.op, e1, e2, e3, e4, e5] at hT
 have HRI := Hi (And.intro hri w1)
 have HT := Hi hT
 subst hcs
 clear hT e1 e2 e3 e4 e5 hri hki hpC hpB hpD hpG w1 w2 w3 w4 w5 w6 w7 w8 hs3 hs4 hs5 hs6 hs7 k_1 k_2 k_3 k_4 k_6 hex hP
 go_enter Tryz.func13, Tryz.ntmps13
 have k1 := HX.out.blk
 have l1 := lHp k1
 go_wp2_with fail
 refine (HWR.out _ HX.out.below).mono ?_
 rintro e w1 ⟨rfl, hb⟩
 have H1 := Hi (HX.out.step hb)
 have H1D := Hi H1.out.drew
 clear hb k1 l1
 have k1 := H1.out.blk
 have l1 := lHp k1
 go_wp2_with fail
 have k1d := H1D.out.blk
 go_region_held3 (fun w' => w'.blk w.heap.size = some (.cells #[vs id, .int .i64 ri, .int .i64 ki, vs name, .int .i64 (value : Int), .int .i64 pC, vs nC, .int .i64 (dC : Int), .int .i64 (mC : Int), .slice KC ksC.length qC, .slice A exc.length cap, .int .i64 pB, vs nB, .int .i64 (mB : Int), .slice KB ksB.length qB, .int .i64 pD, vs nD, .int .i64 (mD : Int), .slice KD ksD.length qD, .int .i64 pG, vs nG, .int .i64 (mG : Int), .slice KG ksG.length qG] 30 (0, 0)) ∧ w.heap.size < w'.heap.size) (go_keep) ((first | (go_at_call 17; refine (nwords_any _).mono ?_; rintro e9 w2 ⟨g9, rfl, hr9, hb9⟩; have HN9 := Hi hr9; have H2 := Hi (H1D.out.step hb9); have k9 := H2.out.blk; have l9 := lHp k9; clear hb9 hr9) | (go_at_call 38; refine (HND.out w2 g9 H2.out.below HN9.out).mono ?_; rintro e8 w3 ⟨rfl, hb8⟩; have H3 := Hi (H2.out.step hb8); have k8 := H3.out.blk; have l8 := lHp k8; clear hb8)))
 clear k1 l1 k1d ld1 HX HWR HND
 have c0 : w3.cell? ⟨w.heap.size, 0, none⟩ = some (vs id) := cOb (o := 0) H3.out.blk rfl
 have c1 : w3.cell? ⟨w.heap.size, 1, none⟩ = some (.int .i64 ri) := cOb (o := 1) H3.out.blk rfl
 have cl := lHp H3.out.blk
 go_upto_region 6 with fail
 go_cut [4] from 12 to 22 (fun s4 wd => ∃ x : Bytes, s4 = vs x ∧ x = ranksN.getD (rank - 1) [] ++ 32 :: (id ++ [58, 32]) ∧ Bx1 w wd #[vs id, .int .i64 ri, .int .i64 ki, vs name, .int .i64 (value : Int), .int .i64 pC, vs nC, .int .i64 (dC : Int), .int .i64 (mC : Int), .slice KC ksC.length qC, .slice A exc.length cap, .int .i64 pB, vs nB, .int .i64 (mB : Int), .slice KB ksB.length qB, .int .i64 pD, vs nD, .int .i64 (mD : Int), .slice KD ksD.length qD, .int .i64 pG, vs nG, .int .i64 (mG : Int), .slice KG ksG.length qG] 30)
 case first =>
  have hr4 : rank = 1 ∨ rank = 2 ∨ rank = 3 ∨ rank = 4 := by have := HRI.out.2; omega
  have hri := HRI.out.1
  rcases hr4 with rfl | rfl | rfl | rfl
  · obtain rfl : ri = 1 := by rw [← hri]; rfl
    have hwk : IntKind.i64.wrap 0 = 0 := by rw [IntKind.wrap_i64]; omega
    have f1 : ¬ 9223372036854775807 < 13 + id.length := by omega
    have f2 : ¬ 9223372036854775807 < id.length + 13 := by omega
    have f3 : ¬ 9223372036854775807 < id.length + 13 + 2 := by omega
    have f4 : ¬ 9223372036854775807 < id.length + 2 + 13 := by omega
    have f5 : ¬ 9223372036854775807 < id.length + 15 := by omega
    go_wp2_with fail
    go_region
    go_wp2_with fail
    go_meet
    case rel => exact ⟨_, rfl, by simp [ranksN], by first | exact (H3.out.step (belowA _ _)).drew | exact H3.out.step (belowA _ _)⟩
  · obtain rfl : ri = 2 := by rw [← hri]; rfl
    have hwk : IntKind.i64.wrap 1 = 1 := by rw [IntKind.wrap_i64]; omega
    have f1 : ¬ 9223372036854775807 < 4 + id.length := by omega
    have f2 : ¬ 9223372036854775807 < id.length + 4 := by omega
    have f3 : ¬ 9223372036854775807 < id.length + 4 + 2 := by omega
    have f4 : ¬ 9223372036854775807 < id.length + 2 + 4 := by omega
    have f5 : ¬ 9223372036854775807 < id.length + 6 := by omega
    go_wp2_with fail
    go_region
    go_wp2_with fail
    go_meet
    case rel => exact ⟨_, rfl, by simp [ranksN], by first | exact (H3.out.step (belowA _ _)).drew | exact H3.out.step (belowA _ _)⟩
  · obtain rfl : ri = 3 := by rw [← hri]; rfl
    have hwk : IntKind.i64.wrap 2 = 2 := by rw [IntKind.wrap_i64]; omega
    have f1 : ¬ 9223372036854775807 < 11 + id.length := by omega
    have f2 : ¬ 9223372036854775807 < id.length + 11 := by omega
    have f3 : ¬ 9223372036854775807 < id.length + 11 + 2 := by omega
    have f4 : ¬ 9223372036854775807 < id.length + 2 + 11 := by omega
    have f5 : ¬ 9223372036854775807 < id.length + 13 := by omega
    go_wp2_with fail
    go_region
    go_wp2_with fail
    go_meet
    case rel => exact ⟨_, rfl, by simp [ranksN], by first | exact (H3.out.step (belowA _ _)).drew | exact H3.out.step (belowA _ _)⟩
  · obtain rfl : ri = 4 := by rw [← hri]; rfl
    have hwk : IntKind.i64.wrap 3 = 3 := by rw [IntKind.wrap_i64]; omega
    have f1 : ¬ 9223372036854775807 < 6 + id.length := by omega
    have f2 : ¬ 9223372036854775807 < id.length + 6 := by omega
    have f3 : ¬ 9223372036854775807 < id.length + 6 + 2 := by omega
    have f4 : ¬ 9223372036854775807 < id.length + 2 + 6 := by omega
    have f5 : ¬ 9223372036854775807 < id.length + 8 := by omega
    go_wp2_with fail
    go_region
    go_wp2_with fail
    go_meet
    case rel => exact ⟨_, rfl, by simp [ranksN], by first | exact (H3.out.step (belowA _ _)).drew | exact H3.out.step (belowA _ _)⟩
 case rest =>
 obtain ⟨a1, rfl, ha1, hst⟩ := hcut
 obtain ⟨y1, hwv⟩ : ∃ x, x = wc := ⟨_, rfl⟩
 subst hwv
 have G1 := Hi hst
 have hl1 : a1.length ≤ 100 := by
  rw [ha1]
  have hr4 : rank = 1 ∨ rank = 2 ∨ rank = 3 ∨ rank = 4 := by have := HRI.out.2; omega
  rcases hr4 with rfl | rfl | rfl | rfl <;> simp [ranksN] <;> omega
 have E1 := Hi ha1
 clear hst ha1
 clear c0 c1 cl
 have c2 : y1.cell? ⟨w.heap.size, 2, none⟩ = some (.int .i64 ki) := cOb (o := 2) G1.out.blk rfl
 have c3 : y1.cell? ⟨w.heap.size, 3, none⟩ = some (vs name) := cOb (o := 3) G1.out.blk rfl
 have c4 : y1.cell? ⟨w.heap.size, 4, none⟩ = some (.int .i64 (value : Int)) := cOb (o := 4) G1.out.blk rfl
 have cl := lHp G1.out.blk
 go_upto_if 25 with fail
 go_cut [4] from 26 to 40 (fun s4 wd => ∃ x : Bytes, s4 = vs x ∧ x = a1 ++ (if bK = true then [100, 101, 102, 105, 110, 101, 32] ++ name else [97, 110, 115, 119, 101, 114, 32] ++ (name ++ ([32, 105, 115, 32] ++ tV))) ∧ Bx1 w wd #[vs id, .int .i64 ri, .int .i64 ki, vs name, .int .i64 (value : Int), .int .i64 pC, vs nC, .int .i64 (dC : Int), .int .i64 (mC : Int), .slice KC ksC.length qC, .slice A exc.length cap, .int .i64 pB, vs nB, .int .i64 (mB : Int), .slice KB ksB.length qB, .int .i64 pD, vs nD, .int .i64 (mD : Int), .slice KD ksD.length qD, .int .i64 pG, vs nG, .int .i64 (mG : Int), .slice KG ksG.length qG] 30)
 case first =>
  cases bK with
  | true =>
    have f0 : ¬ 9223372036854775807 < 7 + name.length := by omega
    have f1 : ¬ 9223372036854775807 < name.length + 7 := by omega
    have f2 : ¬ 9223372036854775807 < a1.length + (name.length + 7) := by omega
    go_wp2_with fail
    go_meet
    case rel => exact ⟨_, rfl, by simp, G1.out⟩
  | false =>
    have f0 : ¬ 9223372036854775807 < 7 + name.length := by omega
    have f1 : ¬ 9223372036854775807 < name.length + 7 := by omega
    have f2 : ¬ 9223372036854775807 < name.length + 7 + 4 := by omega
    have f3 : ¬ 9223372036854775807 < name.length + 4 + 7 := by omega
    have f4 : ¬ 9223372036854775807 < name.length + 11 := by omega
    have f5 : ¬ 9223372036854775807 < name.length + 4 + 7 + tV.length := by omega
    have f6 : ¬ 9223372036854775807 < name.length + 11 + tV.length := by omega
    have f7 : ¬ 9223372036854775807 < name.length + (tV.length + 4) + 7 := by omega
    have f8 : ¬ 9223372036854775807 < a1.length + (name.length + (tV.length + 4) + 7) := by omega
    have f9 : ¬ 9223372036854775807 < a1.length + (name.length + 4 + 7 + tV.length) := by omega
    have HDR := Hi G1.out.drew
    go_wp2_with fail
    go_region_held3 (fun w' => w'.cell? ⟨w.heap.size, 3, none⟩ = some (vs name) ∧ w'.cell? ⟨w.heap.size, 4, none⟩ = some (.int .i64 (value : Int))) (go_keep) ((go_at_call 39; refine (HD.out _).mono ?_; rintro e w5 ⟨rfl, rfl⟩))
    go_wp2_with fail
    go_meet
    case rel => exact ⟨_, rfl, by simp, HDR.out⟩
 case rest =>
 obtain ⟨a2, rfl, ha2, hst⟩ := hcut
 obtain ⟨y2, hwv⟩ : ∃ x, x = wc := ⟨_, rfl⟩
 subst hwv
 have G2 := Hi hst
 have hl2 : a2.length ≤ 218 := by
  rw [ha2]
  split <;> simp <;> omega
 have E2 := Hi ha2
 clear hst ha2
 clear c2 c3 c4 cl
 have c5 : y2.cell? ⟨w.heap.size, 5, none⟩ = some (.int .i64 pC) := cOb (o := 5) G2.out.blk rfl
 have c6 : y2.cell? ⟨w.heap.size, 6, none⟩ = some (vs nC) := cOb (o := 6) G2.out.blk rfl
 have c7 : y2.cell? ⟨w.heap.size, 7, none⟩ = some (.int .i64 (dC : Int)) := cOb (o := 7) G2.out.blk rfl
 have c8 : y2.cell? ⟨w.heap.size, 8, none⟩ = some (.int .i64 (mC : Int)) := cOb (o := 8) G2.out.blk rfl
 have c9 : y2.cell? ⟨w.heap.size, 9, none⟩ = some (.slice KC ksC.length qC) := cOb (o := 9) G2.out.blk rfl
 have cl := lHp G2.out.blk
 go_upto_if 44 with fail
 go_cut [4] from 45 to 50 (fun s4 wd => ∃ x : Bytes, s4 = vs x ∧ x = a2 ++ (if bC = true then [32, 105, 102, 32] ++ tF else []) ∧ Bx1 w wd #[vs id, .int .i64 ri, .int .i64 ki, vs name, .int .i64 (value : Int), .int .i64 pC, vs nC, .int .i64 (dC : Int), .int .i64 (mC : Int), .slice KC ksC.length qC, .slice A exc.length cap, .int .i64 pB, vs nB, .int .i64 (mB : Int), .slice KB ksB.length qB, .int .i64 pD, vs nD, .int .i64 (mD : Int), .slice KD ksD.length qD, .int .i64 pG, vs nG, .int .i64 (mG : Int), .slice KG ksG.length qG] 30)
 case first =>
  cases bC with
  | false =>
    go_wp2_with fail
    go_meet
    case rel => exact ⟨_, rfl, by simp, G2.out⟩
  | true =>
    have f0 : ¬ 9223372036854775807 < 4 + tF.length := by omega
    have f1 : ¬ 9223372036854775807 < tF.length + 4 := by omega
    have f2 : ¬ 9223372036854775807 < a2.length + (tF.length + 4) := by omega
    have f3 : ¬ 9223372036854775807 < tF.length + 4 + 0 := by omega
    have f4 : ¬ 9223372036854775807 < tF.length + 4 := by omega
    have f5 : ¬ 9223372036854775807 < a2.length + (tF.length + 4) := by omega
    have f6 : ¬ 9223372036854775807 < tF.length + 0 + 4 := by omega
    have f7 : ¬ 9223372036854775807 < a2.length + (tF.length + 0 + 4) := by omega
    go_wp2_with fail
    refine (HCF.out _ G2.out.below).mono ?_
    rintro e wz ⟨rfl, hb⟩
    have HZ := Hi (G2.out.step hb)
    clear hb
    go_wp2_with fail
    go_meet
    case rel => exact ⟨_, rfl, by simp, HZ.out⟩
 case rest =>
 obtain ⟨a3, rfl, ha3, hst⟩ := hcut
 obtain ⟨y3, hwv⟩ : ∃ x, x = wc := ⟨_, rfl⟩
 subst hwv
 have G3 := Hi hst
 have hl3 : a3.length ≤ 30222 := by
  rw [ha3]
  split <;> simp <;> omega
 have E3 := Hi ha3
 clear hst ha3
 clear c5 c6 c7 c8 c9 cl
 have c10 : y3.cell? ⟨w.heap.size, 10, none⟩ = some (.slice A exc.length cap) := cOb (o := 10) G3.out.blk rfl
 have cl := lHp G3.out.blk
 go_upto_if 54 with fail
 go_cut [4] from 54 to 60 (fun s4 wd => ∃ x : Bytes, s4 = vs x ∧ x = a3 ++ (if exc = [] then [] else [32, 110, 111, 116, 119, 105, 116, 104, 115, 116, 97, 110, 100, 105, 110, 103, 32] ++ tE) ∧ Bx1 w wd #[vs id, .int .i64 ri, .int .i64 ki, vs name, .int .i64 (value : Int), .int .i64 pC, vs nC, .int .i64 (dC : Int), .int .i64 (mC : Int), .slice KC ksC.length qC, .slice A exc.length cap, .int .i64 pB, vs nB, .int .i64 (mB : Int), .slice KB ksB.length qB, .int .i64 pD, vs nD, .int .i64 (mD : Int), .slice KD ksD.length qD, .int .i64 pG, vs nG, .int .i64 (mG : Int), .slice KG ksG.length qG] 30)
 case first =>
  by_cases hE : exc = []
  · subst hE
    go_wp2_with fail
    go_meet
    case rel => exact ⟨_, rfl, by simp, G3.out⟩
  · have hE2 : 0 < exc.length := List.length_pos_iff.2 hE
    have hE3 : (0 : Int) < exc.length := by omega
    have HEE := Hi hE
    clear hE hE2
    have f0 : ¬ 9223372036854775807 < 17 + tE.length := by omega
    have f1 : ¬ 9223372036854775807 < tE.length + 17 := by omega
    have f2 : ¬ 9223372036854775807 < a3.length + (tE.length + 17) := by omega
    have f3 : ¬ 9223372036854775807 < tE.length + 17 + 0 := by omega
    have f4 : ¬ 9223372036854775807 < tE.length + 17 := by omega
    have f5 : ¬ 9223372036854775807 < a3.length + (tE.length + 17) := by omega
    have f6 : ¬ 9223372036854775807 < tE.length + 0 + 17 := by omega
    have f7 : ¬ 9223372036854775807 < a3.length + (tE.length + 0 + 17) := by omega
    go_wp2_with fail
    refine (HJ.out _ G3.out.below).mono ?_
    rintro e wz ⟨rfl, rfl⟩
    go_wp2_with fail
    go_meet
    case rel => exact ⟨_, rfl, by rw [if_neg HEE.out]; simp, G3.out⟩
 case rest =>
 obtain ⟨a4, rfl, ha4, hst⟩ := hcut
 obtain ⟨y4, hwv⟩ : ∃ x, x = wc := ⟨_, rfl⟩
 subst hwv
 have G4 := Hi hst
 have hl4 : a4.length ≤ 32339 := by
  rw [ha4]
  split <;> simp <;> omega
 have E4 := Hi ha4
 clear hst ha4
 clear c10 cl
 have c11 : y4.cell? ⟨w.heap.size, 11, none⟩ = some (.int .i64 pB) := cOb (o := 11) G4.out.blk rfl
 have c12 : y4.cell? ⟨w.heap.size, 12, none⟩ = some (vs nB) := cOb (o := 12) G4.out.blk rfl
 have c13 : y4.cell? ⟨w.heap.size, 13, none⟩ = some (.int .i64 (mB : Int)) := cOb (o := 13) G4.out.blk rfl
 have c14 : y4.cell? ⟨w.heap.size, 14, none⟩ = some (.slice KB ksB.length qB) := cOb (o := 14) G4.out.blk rfl
 have cl := lHp G4.out.blk
 go_upto_if 64 with fail
 go_cut [4] from 65 to 70 (fun s4 wd => ∃ x : Bytes, s4 = vs x ∧ x = a4 ++ (if bB = true then [32, 102, 114, 111, 109, 32] ++ tB else []) ∧ Bx1 w wd #[vs id, .int .i64 ri, .int .i64 ki, vs name, .int .i64 (value : Int), .int .i64 pC, vs nC, .int .i64 (dC : Int), .int .i64 (mC : Int), .slice KC ksC.length qC, .slice A exc.length cap, .int .i64 pB, vs nB, .int .i64 (mB : Int), .slice KB ksB.length qB, .int .i64 pD, vs nD, .int .i64 (mD : Int), .slice KD ksD.length qD, .int .i64 pG, vs nG, .int .i64 (mG : Int), .slice KG ksG.length qG] 30)
 case first =>
  cases bB with
  | false =>
    go_wp2_with fail
    go_meet
    case rel => exact ⟨_, rfl, by simp, G4.out⟩
  | true =>
    have f0 : ¬ 9223372036854775807 < 6 + tB.length := by omega
    have f1 : ¬ 9223372036854775807 < tB.length + 6 := by omega
    have f2 : ¬ 9223372036854775807 < a4.length + (tB.length + 6) := by omega
    have f3 : ¬ 9223372036854775807 < tB.length + 6 + 0 := by omega
    have f4 : ¬ 9223372036854775807 < tB.length + 6 := by omega
    have f5 : ¬ 9223372036854775807 < a4.length + (tB.length + 6) := by omega
    have f6 : ¬ 9223372036854775807 < tB.length + 0 + 6 := by omega
    have f7 : ¬ 9223372036854775807 < a4.length + (tB.length + 0 + 6) := by omega
    go_wp2_with fail
    refine (HCB.out _ G4.out.below).mono ?_
    rintro e wz ⟨rfl, hb⟩
    have HZ := Hi (G4.out.step hb)
    clear hb
    go_wp2_with fail
    go_meet
    case rel => exact ⟨_, rfl, by simp, HZ.out⟩
 case rest =>
 obtain ⟨a5, rfl, ha5, hst⟩ := hcut
 obtain ⟨y5, hwv⟩ : ∃ x, x = wc := ⟨_, rfl⟩
 subst hwv
 have G5 := Hi hst
 have hl5 : a5.length ≤ 62345 := by
  rw [ha5]
  split <;> simp <;> omega
 have E5 := Hi ha5
 clear hst ha5
 clear c11 c12 c13 c14 cl
 have c15 : y5.cell? ⟨w.heap.size, 15, none⟩ = some (.int .i64 pD) := cOb (o := 15) G5.out.blk rfl
 have c16 : y5.cell? ⟨w.heap.size, 16, none⟩ = some (vs nD) := cOb (o := 16) G5.out.blk rfl
 have c17 : y5.cell? ⟨w.heap.size, 17, none⟩ = some (.int .i64 (mD : Int)) := cOb (o := 17) G5.out.blk rfl
 have c18 : y5.cell? ⟨w.heap.size, 18, none⟩ = some (.slice KD ksD.length qD) := cOb (o := 18) G5.out.blk rfl
 have cl := lHp G5.out.blk
 go_upto_if 74 with fail
 go_cut [4] from 75 to 80 (fun s4 wd => ∃ x : Bytes, s4 = vs x ∧ x = a5 ++ (if bD = true then [32, 117, 110, 116, 105, 108, 32] ++ tD else []) ∧ Bx1 w wd #[vs id, .int .i64 ri, .int .i64 ki, vs name, .int .i64 (value : Int), .int .i64 pC, vs nC, .int .i64 (dC : Int), .int .i64 (mC : Int), .slice KC ksC.length qC, .slice A exc.length cap, .int .i64 pB, vs nB, .int .i64 (mB : Int), .slice KB ksB.length qB, .int .i64 pD, vs nD, .int .i64 (mD : Int), .slice KD ksD.length qD, .int .i64 pG, vs nG, .int .i64 (mG : Int), .slice KG ksG.length qG] 30)
 case first =>
  cases bD with
  | false =>
    go_wp2_with fail
    go_meet
    case rel => exact ⟨_, rfl, by simp, G5.out⟩
  | true =>
    have f0 : ¬ 9223372036854775807 < 7 + tD.length := by omega
    have f1 : ¬ 9223372036854775807 < tD.length + 7 := by omega
    have f2 : ¬ 9223372036854775807 < a5.length + (tD.length + 7) := by omega
    have f3 : ¬ 9223372036854775807 < tD.length + 7 + 0 := by omega
    have f4 : ¬ 9223372036854775807 < tD.length + 7 := by omega
    have f5 : ¬ 9223372036854775807 < a5.length + (tD.length + 7) := by omega
    have f6 : ¬ 9223372036854775807 < tD.length + 0 + 7 := by omega
    have f7 : ¬ 9223372036854775807 < a5.length + (tD.length + 0 + 7) := by omega
    go_wp2_with fail
    refine (HCD.out _ G5.out.below).mono ?_
    rintro e wz ⟨rfl, hb⟩
    have HZ := Hi (G5.out.step hb)
    clear hb
    go_wp2_with fail
    go_meet
    case rel => exact ⟨_, rfl, by simp, HZ.out⟩
 case rest =>
 obtain ⟨a6, rfl, ha6, hst⟩ := hcut
 obtain ⟨y6, hwv⟩ : ∃ x, x = wc := ⟨_, rfl⟩
 subst hwv
 have G6 := Hi hst
 have hl6 : a6.length ≤ 92352 := by
  rw [ha6]
  split <;> simp <;> omega
 have E6 := Hi ha6
 clear hst ha6
 clear c15 c16 c17 c18 cl
 have c19 : y6.cell? ⟨w.heap.size, 19, none⟩ = some (.int .i64 pG) := cOb (o := 19) G6.out.blk rfl
 have c20 : y6.cell? ⟨w.heap.size, 20, none⟩ = some (vs nG) := cOb (o := 20) G6.out.blk rfl
 have c21 : y6.cell? ⟨w.heap.size, 21, none⟩ = some (.int .i64 (mG : Int)) := cOb (o := 21) G6.out.blk rfl
 have c22 : y6.cell? ⟨w.heap.size, 22, none⟩ = some (.slice KG ksG.length qG) := cOb (o := 22) G6.out.blk rfl
 have cl := lHp G6.out.blk
 go_upto_if 84 with fail
 go_cut [4] from 85 to 90 (fun s4 wd => ∃ x : Bytes, s4 = vs x ∧ x = a6 ++ (if bG = true then [32, 97, 103, 97, 105, 110, 32] ++ tG else []) ∧ Bx1 w wd #[vs id, .int .i64 ri, .int .i64 ki, vs name, .int .i64 (value : Int), .int .i64 pC, vs nC, .int .i64 (dC : Int), .int .i64 (mC : Int), .slice KC ksC.length qC, .slice A exc.length cap, .int .i64 pB, vs nB, .int .i64 (mB : Int), .slice KB ksB.length qB, .int .i64 pD, vs nD, .int .i64 (mD : Int), .slice KD ksD.length qD, .int .i64 pG, vs nG, .int .i64 (mG : Int), .slice KG ksG.length qG] 30)
 case first =>
  cases bG with
  | false =>
    go_wp2_with fail
    go_meet
    case rel => exact ⟨_, rfl, by simp, G6.out⟩
  | true =>
    have f0 : ¬ 9223372036854775807 < 7 + tG.length := by omega
    have f1 : ¬ 9223372036854775807 < tG.length + 7 := by omega
    have f2 : ¬ 9223372036854775807 < a6.length + (tG.length + 7) := by omega
    have f3 : ¬ 9223372036854775807 < tG.length + 7 + 0 := by omega
    have f4 : ¬ 9223372036854775807 < tG.length + 7 := by omega
    have f5 : ¬ 9223372036854775807 < a6.length + (tG.length + 7) := by omega
    have f6 : ¬ 9223372036854775807 < tG.length + 0 + 7 := by omega
    have f7 : ¬ 9223372036854775807 < a6.length + (tG.length + 0 + 7) := by omega
    go_wp2_with fail
    refine (HCG.out _ G6.out.below).mono ?_
    rintro e wz ⟨rfl, hb⟩
    have HZ := Hi (G6.out.step hb)
    clear hb
    go_wp2_with fail
    go_meet
    case rel => exact ⟨_, rfl, by simp, HZ.out⟩
 case rest =>
 obtain ⟨a7, rfl, ha7, hst⟩ := hcut
 obtain ⟨y7, hwv⟩ : ∃ x, x = wc := ⟨_, rfl⟩
 subst hwv
 have G7 := Hi hst
 have hl7 : a7.length ≤ 122359 := by
  rw [ha7]
  split <;> simp <;> omega
 have E7 := Hi ha7
 clear hst ha7
 clear c19 c20 c21 c22 cl
 have hTE : a7 ++ [46] = T := by rw [← HT.out, E7.out, E6.out, E5.out, E4.out, E3.out, E2.out, E1.out]
 have f0 : ¬ 9223372036854775807 < a7.length + 1 := by omega
 have HSH : Hid (∀ wx, Calls Tryz.prog 43 #[vs (a7 ++ [46])] wx fun e w' => e = .returned (.tuple #[vs (shortA T).1, .int .i64 ((shortA T).2 : Nat)]) ∧ wx = w') := Hi (fun wx => by rw [← hTE]; exact rshort_any _ wx (by simp; omega))
 clear hTE
 go_wp2_with fail
 refine (HSH.out _).mono ?_
 rintro e wz ⟨rfl, rfl⟩
 go_wp2_with fail
 go_ret2
 exact ⟨rfl, G7.out.below⟩
end Go.Proofs.YtbicmjmcdnkjhaaGreatDoor
