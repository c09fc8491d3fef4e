/- The reference's South: the same answer. -/
import Derived.Test.YtbicmjmcdnkjhaaGreatDoorJMM1
import Derived.Test.YtbicmjmcdnkjhaaGreatDoorJMM37
import Derived.Test.YtbicmjmcdnkjhaaGreatDoorJMM35
import Derived.Test.YtbicmjmcdnkjhaaGreatDoorJMM23
import Derived.Test.YtbicmjmcdnkjhaaGreatDoorJMM24
import Derived.Deep.CutRange
import Derived.Deep.RegionHeld3
set_option linter.unusedVariables false
set_option linter.unusedSimpArgs false
set_option maxRecDepth 100000
set_option maxHeartbeats 16000000
namespace Go.Proofs.YtbicmjmcdnkjhaaGreatDoor
open Go.RowKit
attribute [local go_sem ↓] Go.wp_at_zero Go.wp_at_succ
attribute [local go_sem] bcat
theorem rSouth_p (w : World) (cs : List Value) (P : ProvI) (hr : RdPX w cs P) (hp : plainP P) (hf : FewP P) :
 Calls Tryz.prog 15 #[.agg cs.toArray] w fun e w' => e = .returned (.tuple #[vs (southA P).1, .int .i64 ((southA P).2 : Nat)]) ∧ Below w.heap.size w w' := by
 have hA := refA_south hp
 rw [← hA]
 clear hA
 unfold refA
 obtain ⟨-, ld1⟩ := rdpx_io hr
 have HX := Hi (Bx1.start w cs.toArray 30)
 have hWR := fun wx (hx : Below w.heap.size w wx) => rwrit_any wx cs P (hr.keep hx) (by have := hf.cond; omega) (by have := hf.beg; omega) (by have := hf.fin; omega) (by have := hf.aga; omega) (by have := hf.exc; omega)
 cases hw : writtenR P with
 | false =>
   rw [hw] at hWR
   have HWR := Hi hWR
   rw [if_neg (by decide)]
   clear hr hp hf hw hWR
   go_enter Tryz.func15, Tryz.ntmps15
   have k1 := HX.out.blk
   have l1 := lHp k1
   go_wp2_with fail
   refine (HWR.out _ HX.out.below).mono ?_
   rintro e w1 ⟨rfl, hb⟩
   have H1 := Hi (HX.out.step hb)
   clear hb k1 l1
   go_wp2_with fail
   go_ret2
   exact ⟨rfl, H1.out.below⟩
 | true =>
 rw [hw] at hWR
 have HWR := Hi hWR
 rw [if_pos rfl]
 obtain ⟨hP, hok⟩ := written_down hp (by rw [← writtenR_eq hp]; exact hw)
 have hnm : namesI P = namesP (downP P) := by
  have := namesI_up (downP P)
  rwa [← hP] at this
 have hND := fun (wx : World) (g : Nat) (hx : Below w.heap.size w wx) (hw' : RdS wx (some ⟨g, 0, none⟩) So.keyWords) => rnamed_any wx cs P So.keyWords 31 g (hr.keep hx) hf rfl (by decide) hw'
 rw [hnm] at hND
 generalize hq : downP P = q at *
 clear hw hWR hq
 cases hn : namedR So.keyWords (namesP q) with
 | false =>
   rw [hn] at hND
   have HND := Hi hND
   rw [if_neg (by decide)]
   clear hr hp hf hND hn hnm hok hP
   go_enter Tryz.func15, Tryz.ntmps15
   have k1 := HX.out.blk
   have l1 := lHp k1
   go_wp2_with fail
   refine (HWR.out _ HX.out.below).mono ?_
   rintro e w1 ⟨rfl, hb⟩
   have H1 := Hi (HX.out.step hb)
   have H1D := Hi H1.out.drew
   clear hb k1 l1
   have k1 := H1.out.blk
   have l1 := lHp k1
   go_wp2_with fail
   have k1d := H1D.out.blk
   go_region_held3 (fun w' => w'.blk w.heap.size = some (.cells cs.toArray 30 (0, 0)) ∧ w.heap.size < w'.heap.size) (go_keep) ((first | (go_at_call 18; refine (swords_any _).mono ?_; rintro e9 w2 ⟨g9, rfl, hr9, hb9⟩; have HN9 := Hi hr9; have H2 := Hi (H1D.out.step hb9); have k9 := H2.out.blk; have l9 := lHp k9; clear hb9 hr9) | (go_at_call 38; refine (HND.out w2 g9 H2.out.below HN9.out).mono ?_; rintro e8 w3 ⟨rfl, hb8⟩; have H3 := Hi (H2.out.step hb8); have k8 := H3.out.blk; have l8 := lHp k8; clear hb8)))
   clear k1 l1 k1d
   go_wp2_with fail
   go_ret2
   exact ⟨rfl, H3.out.below⟩
 | true =>
 rw [hn] at hND
 have HND := Hi hND
 rw [if_pos rfl]
 have hf2 := hf
 rw [hP] at hr hf2
 clear hnm hn hND hp hf
 obtain ⟨id, rank, kind, name, value, cond, exc, beg, fin, aga⟩ := q
 obtain ⟨cc, A, cap, cb, cf, ca, hcs, hcap, hcc, hex, hcb, hcf, hca⟩ := hr
 simp only [upP] at hcs hcap hcc hex hcb hcf hca
 obtain ⟨k_1, k_2, k_3, k_4, k_5, k_6⟩ := hf2
 simp only [upP, size_up] at k_1 k_2 k_3 k_4 k_5
 rw [namesI_up] at k_6
 have hs1 : id.length ≤ 60 := k_6 id (by simp [namesP])
 have hs2 : name.length ≤ 60 := k_6 name (by simp [namesP])
 have hs3 : ∀ s ∈ exc, s.length ≤ 60 := fun s hs => k_6 s (by simp [namesP, hs])
 have hs4 : Sh6 (namesF cond) := fun s hs => k_6 s (by simp [namesP, hs])
 have hs5 : Sh6 (namesS beg) := fun s hs => k_6 s (by simp [namesP, hs])
 have hs6 : Sh6 (namesS fin) := fun s hs => k_6 s (by simp [namesP, hs])
 have hs7 : Sh6 (namesS aga) := fun s hs => k_6 s (by simp [namesP, hs])
 obtain ⟨w1, w2, w3, w4, -, -, w5, w6, -, w7, -, w8, -⟩ := hok
 simp only at w1 w2 w3 w4 w5 w6 w7 w8
 have HCF : Hid (∀ wx, Below w.heap.size w wx → Calls Tryz.prog 47 #[.agg cc.toArray] wx fun e w' => e = .returned (vs (So.rF cond)) ∧ Below wx.heap.size wx w') := Hi (fun wx hx => rsouth_any cond.size cond cc wx (lR _) (by omega) w4 hs4 (hcc.keep hx))
 have HCB : Hid (∀ wx, Below w.heap.size w wx → Calls Tryz.prog 48 #[.agg cb.toArray] wx fun e w' => e = .returned (vs (So.rS beg)) ∧ Below wx.heap.size wx w') := Hi (fun wx hx => rsst_any beg.size beg cb wx (lR _) (by omega) w6 hs5 (hcb.keep hx))
 have HCD : Hid (∀ wx, Below w.heap.size w wx → Calls Tryz.prog 48 #[.agg cf.toArray] wx fun e w' => e = .returned (vs (So.rS fin)) ∧ Below wx.heap.size wx w') := Hi (fun wx hx => rsst_any fin.size fin cf wx (lR _) (by omega) w7 hs6 (hcf.keep hx))
 have HCG : Hid (∀ wx, Below w.heap.size w wx → Calls Tryz.prog 48 #[.agg ca.toArray] wx fun e w' => e = .returned (vs (So.rS aga)) ∧ Below wx.heap.size wx w') := Hi (fun wx hx => rsst_any aga.size aga ca wx (lR _) (by omega) w8 hs7 (hca.keep hx))
 have HJ : Hid (∀ wx, Below w.heap.size w wx → Calls Tryz.prog 41 #[.slice A exc.length cap, vs [32]] wx fun e w' => e = .returned (vs (joinT' [32] exc)) ∧ wx = w') := Hi (fun wx hx => rjoin_any exc A cap [32] wx 60 (hex.below hx) (by omega) (by omega) hs3 (by decide))
 have HD : Hid (∀ wx, Calls Tryz.prog 39 #[.int .i64 value] wx fun e w' => e = .returned (vs (dec value)) ∧ wx = w') := Hi (fun wx => rdec_any value wx (by omega))
 have b1 := (rF_len cond (by omega) w4 hs4).2
 have b2 := (rS_len beg (by omega) w6 hs5).2
 have b3 := (rS_len fin (by omega) w7 hs6).2
 have b4 := (rS_len aga (by omega) w8 hs7).2
 have b5 := joinT_len [32] (by decide) 60 exc hs3
 have b6 := dec_len (n := value) (by omega)
 obtain ⟨T, hT⟩ : ∃ T, So.rText ⟨id, rank, kind, name, value, cond, exc, beg, fin, aga⟩ = T := ⟨_, rfl⟩
 rw [hT]
 unfold So.rText at hT
 simp only at hT
 generalize So.rF cond = tF at *
 generalize So.rS beg = tB at *
 generalize So.rS fin = tD at *
 generalize So.rS aga = tG at *
 generalize joinT' [32] exc = tE at *
 generalize dec value = tV at *
 have b1 : tF.length ≤ 30000 := by omega
 have b2 : tB.length ≤ 30000 := by omega
 have b3 : tD.length ≤ 30000 := by omega
 have b4 : tG.length ≤ 30000 := by omega
 have b5 : tE.length ≤ 2100 := by omega
 obtain ⟨oC, nC, dC, mC, ksC⟩ := cond
 rw [up] at hcc
 obtain ⟨KC, qC, rfl, -⟩ := hcc
 obtain ⟨oB, nB, dB, mB, ksB⟩ := beg
 rw [up] at hcb
 obtain ⟨KB, qB, rfl, -⟩ := hcb
 obtain ⟨oD, nD, dD, mD, ksD⟩ := fin
 rw [up] at hcf
 obtain ⟨KD, qD, rfl, -⟩ := hcf
 obtain ⟨oG, nG, dG, mG, ksG⟩ := aga
 rw [up] at hca
 obtain ⟨KG, qG, rfl, -⟩ := hca
 simp only [ups_len, tcX, List.cons_append, List.nil_append] at hcs HCF HCB HCD HCG
 obtain ⟨ri, hri⟩ : ∃ x : Int, (rank : Int) = x := ⟨_, rfl⟩
 obtain ⟨ki, hki⟩ : ∃ x : Int, (kind : Int) = x := ⟨_, rfl⟩
 obtain ⟨pC, hpC⟩ : ∃ x : Int, (oC : Int) = x := ⟨_, rfl⟩
 obtain ⟨pB, hpB⟩ : ∃ x : Int, (oB : Int) = x := ⟨_, rfl⟩
 obtain ⟨pD, hpD⟩ : ∃ x : Int, (oD : Int) = x := ⟨_, rfl⟩
 obtain ⟨pG, hpG⟩ : ∃ x : Int, (oG : Int) = x := ⟨_, rfl⟩
 rw [hri, hki, hpC, hpB, hpD, hpG] at hcs
 rw [hpC] at HCF
 rw [hpB] at HCB
 rw [hpD] at HCD
 rw [hpG] at HCG
 obtain ⟨bC, hbC⟩ : ∃ b, (pC != 1) = b := ⟨_, rfl⟩
 obtain ⟨bB, hbB⟩ : ∃ b, (pB != 1) = b := ⟨_, rfl⟩
 obtain ⟨bD, hbD⟩ : ∃ b, (pD != 2) = b := ⟨_, rfl⟩
 obtain ⟨bG, hbG⟩ : ∃ b, (pG != 2) = b := ⟨_, rfl⟩
 obtain ⟨bK, hbK⟩ : ∃ b, (ki == 1) = b := ⟨_, rfl⟩
 have e1 : (oC != 1) = bC := by rw [← hbC, ← hpC, Bool.eq_iff_iff]; simp; omega
 have e2 : (oB != 1) = bB := by rw [← hbB, ← hpB, Bool.eq_iff_iff]; simp; omega
 have e3 : (oD != 2) = bD := by rw [← hbD, ← hpD, Bool.eq_iff_iff]; simp; omega
 have e4 : (oG != 2) = bG := by rw [← hbG, ← hpG, Bool.eq_iff_iff]; simp; omega
 have e5 : (kind = 1) ↔ bK = true := by rw [← hbK, ← hki]; simp; omega
 simp only [Tree.op, e1, e2, e3, e4, e5] at hT
 have HRI := Hi (And.intro hri w1)
 have HT := Hi hT
 subst hcs
 clear hT e1 e2 e3 e4 e5 hri hki hpC hpB hpD hpG w1 w2 w3 w4 w5 w6 w7 w8 hs3 hs4 hs5 hs6 hs7 k_1 k_2 k_3 k_4 k_6 hex hP
 go_enter Tryz.func15, Tryz.ntmps15
 have k1 := HX.out.blk
 have l1 := lHp k1
 go_wp2_with fail
 refine (HWR.out _ HX.out.below).mono ?_
 rintro e w1 ⟨rfl, hb⟩
 have H1 := Hi (HX.out.step hb)
 have H1D := Hi H1.out.drew
 clear hb k1 l1
 have k1 := H1.out.blk
 have l1 := lHp k1
 go_wp2_with fail
 have k1d := H1D.out.blk
 go_region_held3 (fun w' => w'.blk w.heap.size = some (.cells #[vs id, .int .i64 ri, .int .i64 ki, vs name, .int .i64 (value : Int), .int .i64 pC, vs nC, .int .i64 (dC : Int), .int .i64 (mC : Int), .slice KC ksC.length qC, .slice A exc.length cap, .int .i64 pB, vs nB, .int .i64 (mB : Int), .slice KB ksB.length qB, .int .i64 pD, vs nD, .int .i64 (mD : Int), .slice KD ksD.length qD, .int .i64 pG, vs nG, .int .i64 (mG : Int), .slice KG ksG.length qG] 30 (0, 0)) ∧ w.heap.size < w'.heap.size) (go_keep) ((first | (go_at_call 18; refine (swords_any _).mono ?_; rintro e9 w2 ⟨g9, rfl, hr9, hb9⟩; have HN9 := Hi hr9; have H2 := Hi (H1D.out.step hb9); have k9 := H2.out.blk; have l9 := lHp k9; clear hb9 hr9) | (go_at_call 38; refine (HND.out w2 g9 H2.out.below HN9.out).mono ?_; rintro e8 w3 ⟨rfl, hb8⟩; have H3 := Hi (H2.out.step hb8); have k8 := H3.out.blk; have l8 := lHp k8; clear hb8)))
 clear k1 l1 k1d ld1 HX HWR HND
 have c5 : w3.cell? ⟨w.heap.size, 5, none⟩ = some (.int .i64 pC) := cOb (o := 5) H3.out.blk rfl
 have c6 : w3.cell? ⟨w.heap.size, 6, none⟩ = some (vs nC) := cOb (o := 6) H3.out.blk rfl
 have c7 : w3.cell? ⟨w.heap.size, 7, none⟩ = some (.int .i64 (dC : Int)) := cOb (o := 7) H3.out.blk rfl
 have c8 : w3.cell? ⟨w.heap.size, 8, none⟩ = some (.int .i64 (mC : Int)) := cOb (o := 8) H3.out.blk rfl
 have c9 : w3.cell? ⟨w.heap.size, 9, none⟩ = some (.slice KC ksC.length qC) := cOb (o := 9) H3.out.blk rfl
 have cl := lHp H3.out.blk
 go_upto_if 15 with fail
 go_cut [4] from 16 to 20 (fun s4 wd => ∃ x : Bytes, s4 = vs x ∧ x = (if bC = true then [119, 104, 101, 114, 101, 32, 123, 32] ++ (tF ++ [32, 125, 32]) else []) ∧ Bx1 w wd #[vs id, .int .i64 ri, .int .i64 ki, vs name, .int .i64 (value : Int), .int .i64 pC, vs nC, .int .i64 (dC : Int), .int .i64 (mC : Int), .slice KC ksC.length qC, .slice A exc.length cap, .int .i64 pB, vs nB, .int .i64 (mB : Int), .slice KB ksB.length qB, .int .i64 pD, vs nD, .int .i64 (mD : Int), .slice KD ksD.length qD, .int .i64 pG, vs nG, .int .i64 (mG : Int), .slice KG ksG.length qG] 30)
 case first =>
  cases bC with
  | false =>
    go_wp2_with fail
    go_meet
    case rel => exact ⟨_, rfl, by simp, H3.out⟩
  | true =>
    have f0 : ¬ 9223372036854775807 < 8 + tF.length := by omega
    have f1 : ¬ 9223372036854775807 < tF.length + 8 := by omega
    have f2 : ¬ 9223372036854775807 < tF.length + 8 + 3 := by omega
    have f3 : ¬ 9223372036854775807 < tF.length + 3 + 8 := by omega
    have f4 : ¬ 9223372036854775807 < tF.length + 11 := by omega
    go_wp2_with fail
    refine (HCF.out _ H3.out.below).mono ?_
    rintro e wz ⟨rfl, hb⟩
    have HZ := Hi (H3.out.step hb)
    clear hb
    go_wp2_with fail
    go_meet
    case rel => exact ⟨_, rfl, by simp, HZ.out⟩
 case rest =>
 obtain ⟨a1, rfl, ha1, hst⟩ := hcut
 obtain ⟨y1, hwv⟩ : ∃ x, x = wc := ⟨_, rfl⟩
 subst hwv
 have G1 := Hi hst
 have hl1 : a1.length ≤ 30100 := by
  rw [ha1]
  split <;> simp <;> omega
 have E1 := Hi ha1
 clear hst ha1
 clear c5 c6 c7 c8 c9 cl
 have c2 : y1.cell? ⟨w.heap.size, 2, none⟩ = some (.int .i64 ki) := cOb (o := 2) G1.out.blk rfl
 have c3 : y1.cell? ⟨w.heap.size, 3, none⟩ = some (vs name) := cOb (o := 3) G1.out.blk rfl
 have c4 : y1.cell? ⟨w.heap.size, 4, none⟩ = some (.int .i64 (value : Int)) := cOb (o := 4) G1.out.blk rfl
 have cl := lHp G1.out.blk
 go_upto_if 23 with fail
 go_cut [4] from 24 to 38 (fun s4 wd => ∃ x : Bytes, s4 = vs x ∧ x = a1 ++ (if bK = true then [116, 101, 114, 109, 32] ++ name else [113, 117, 101, 115, 116, 105, 111, 110, 32] ++ (name ++ ([32, 103, 105, 118, 101, 115, 32] ++ tV))) ∧ Bx1 w wd #[vs id, .int .i64 ri, .int .i64 ki, vs name, .int .i64 (value : Int), .int .i64 pC, vs nC, .int .i64 (dC : Int), .int .i64 (mC : Int), .slice KC ksC.length qC, .slice A exc.length cap, .int .i64 pB, vs nB, .int .i64 (mB : Int), .slice KB ksB.length qB, .int .i64 pD, vs nD, .int .i64 (mD : Int), .slice KD ksD.length qD, .int .i64 pG, vs nG, .int .i64 (mG : Int), .slice KG ksG.length qG] 30)
 case first =>
  cases bK with
  | true =>
    have f0 : ¬ 9223372036854775807 < 5 + name.length := by omega
    have f1 : ¬ 9223372036854775807 < name.length + 5 := by omega
    have f2 : ¬ 9223372036854775807 < a1.length + (name.length + 5) := by omega
    go_wp2_with fail
    go_meet
    case rel => exact ⟨_, rfl, by simp, G1.out⟩
  | false =>
    have f0 : ¬ 9223372036854775807 < 9 + name.length := by omega
    have f1 : ¬ 9223372036854775807 < name.length + 9 := by omega
    have f2 : ¬ 9223372036854775807 < name.length + 9 + 7 := by omega
    have f3 : ¬ 9223372036854775807 < name.length + 7 + 9 := by omega
    have f4 : ¬ 9223372036854775807 < name.length + 16 := by omega
    have f5 : ¬ 9223372036854775807 < name.length + 7 + 9 + tV.length := by omega
    have f6 : ¬ 9223372036854775807 < name.length + 16 + tV.length := by omega
    have f7 : ¬ 9223372036854775807 < name.length + (tV.length + 7) + 9 := by omega
    have f8 : ¬ 9223372036854775807 < a1.length + (name.length + (tV.length + 7) + 9) := by omega
    have f9 : ¬ 9223372036854775807 < a1.length + (name.length + 7 + 9 + tV.length) := by omega
    have HDR := Hi G1.out.drew
    go_wp2_with fail
    go_region_held3 (fun w' => w'.cell? ⟨w.heap.size, 3, none⟩ = some (vs name) ∧ w'.cell? ⟨w.heap.size, 4, none⟩ = some (.int .i64 (value : Int))) (go_keep) ((go_at_call 39; refine (HD.out _).mono ?_; rintro e w5 ⟨rfl, rfl⟩))
    go_wp2_with fail
    go_meet
    case rel => exact ⟨_, rfl, by simp, HDR.out⟩
 case rest =>
 obtain ⟨a2, rfl, ha2, hst⟩ := hcut
 obtain ⟨y2, hwv⟩ : ∃ x, x = wc := ⟨_, rfl⟩
 subst hwv
 have G2 := Hi hst
 have hl2 : a2.length ≤ 30221 := by
  rw [ha2]
  split <;> simp <;> omega
 have E2 := Hi ha2
 clear hst ha2
 clear c2 c3 c4 cl
 have c10 : y2.cell? ⟨w.heap.size, 10, none⟩ = some (.slice A exc.length cap) := cOb (o := 10) G2.out.blk rfl
 have cl := lHp G2.out.blk
 go_upto_if 42 with fail
 go_cut [4] from 42 to 49 (fun s4 wd => ∃ x : Bytes, s4 = vs x ∧ x = a2 ++ (if exc = [] then [] else [32, 111, 118, 101, 114, 114, 105, 100, 101, 115, 32, 40] ++ (tE ++ [41])) ∧ Bx1 w wd #[vs id, .int .i64 ri, .int .i64 ki, vs name, .int .i64 (value : Int), .int .i64 pC, vs nC, .int .i64 (dC : Int), .int .i64 (mC : Int), .slice KC ksC.length qC, .slice A exc.length cap, .int .i64 pB, vs nB, .int .i64 (mB : Int), .slice KB ksB.length qB, .int .i64 pD, vs nD, .int .i64 (mD : Int), .slice KD ksD.length qD, .int .i64 pG, vs nG, .int .i64 (mG : Int), .slice KG ksG.length qG] 30)
 case first =>
  by_cases hE : exc = []
  · subst hE
    go_wp2_with fail
    go_meet
    case rel => exact ⟨_, rfl, by simp, G2.out⟩
  · have hE2 : 0 < exc.length := List.length_pos_iff.2 hE
    have hE3 : (0 : Int) < exc.length := by omega
    have HEE := Hi hE
    clear hE hE2
    have f0 : ¬ 9223372036854775807 < 12 + tE.length := by omega
    have f1 : ¬ 9223372036854775807 < tE.length + 12 := by omega
    have f2 : ¬ 9223372036854775807 < a2.length + (tE.length + 12) := by omega
    have f3 : ¬ 9223372036854775807 < tE.length + 12 + 1 := by omega
    have f4 : ¬ 9223372036854775807 < tE.length + 13 := by omega
    have f5 : ¬ 9223372036854775807 < a2.length + (tE.length + 13) := by omega
    have f6 : ¬ 9223372036854775807 < tE.length + 1 + 12 := by omega
    have f7 : ¬ 9223372036854775807 < a2.length + (tE.length + 1 + 12) := by omega
    go_wp2_with fail
    refine (HJ.out _ G2.out.below).mono ?_
    rintro e wz ⟨rfl, rfl⟩
    go_wp2_with fail
    go_meet
    case rel => exact ⟨_, rfl, by rw [if_neg HEE.out]; simp, G2.out⟩
 case rest =>
 obtain ⟨a3, rfl, ha3, hst⟩ := hcut
 obtain ⟨y3, hwv⟩ : ∃ x, x = wc := ⟨_, rfl⟩
 subst hwv
 have G3 := Hi hst
 have hl3 : a3.length ≤ 32334 := by
  rw [ha3]
  split <;> simp <;> omega
 have E3 := Hi ha3
 clear hst ha3
 clear c10 cl
 have c11 : y3.cell? ⟨w.heap.size, 11, none⟩ = some (.int .i64 pB) := cOb (o := 11) G3.out.blk rfl
 have c12 : y3.cell? ⟨w.heap.size, 12, none⟩ = some (vs nB) := cOb (o := 12) G3.out.blk rfl
 have c13 : y3.cell? ⟨w.heap.size, 13, none⟩ = some (.int .i64 (mB : Int)) := cOb (o := 13) G3.out.blk rfl
 have c14 : y3.cell? ⟨w.heap.size, 14, none⟩ = some (.slice KB ksB.length qB) := cOb (o := 14) G3.out.blk rfl
 have cl := lHp G3.out.blk
 go_upto_if 53 with fail
 go_cut [4] from 54 to 60 (fun s4 wd => ∃ x : Bytes, s4 = vs x ∧ x = a3 ++ (if bB = true then [32, 115, 116, 97, 114, 116, 115, 32, 123, 32] ++ (tB ++ [32, 125]) else []) ∧ Bx1 w wd #[vs id, .int .i64 ri, .int .i64 ki, vs name, .int .i64 (value : Int), .int .i64 pC, vs nC, .int .i64 (dC : Int), .int .i64 (mC : Int), .slice KC ksC.length qC, .slice A exc.length cap, .int .i64 pB, vs nB, .int .i64 (mB : Int), .slice KB ksB.length qB, .int .i64 pD, vs nD, .int .i64 (mD : Int), .slice KD ksD.length qD, .int .i64 pG, vs nG, .int .i64 (mG : Int), .slice KG ksG.length qG] 30)
 case first =>
  cases bB with
  | false =>
    go_wp2_with fail
    go_meet
    case rel => exact ⟨_, rfl, by simp, G3.out⟩
  | true =>
    have f0 : ¬ 9223372036854775807 < 10 + tB.length := by omega
    have f1 : ¬ 9223372036854775807 < tB.length + 10 := by omega
    have f2 : ¬ 9223372036854775807 < a3.length + (tB.length + 10) := by omega
    have f3 : ¬ 9223372036854775807 < tB.length + 10 + 2 := by omega
    have f4 : ¬ 9223372036854775807 < tB.length + 12 := by omega
    have f5 : ¬ 9223372036854775807 < a3.length + (tB.length + 12) := by omega
    have f6 : ¬ 9223372036854775807 < tB.length + 2 + 10 := by omega
    have f7 : ¬ 9223372036854775807 < a3.length + (tB.length + 2 + 10) := by omega
    go_wp2_with fail
    refine (HCB.out _ G3.out.below).mono ?_
    rintro e wz ⟨rfl, hb⟩
    have HZ := Hi (G3.out.step hb)
    clear hb
    go_wp2_with fail
    go_meet
    case rel => exact ⟨_, rfl, by simp, HZ.out⟩
 case rest =>
 obtain ⟨a4, rfl, ha4, hst⟩ := hcut
 obtain ⟨y4, hwv⟩ : ∃ x, x = wc := ⟨_, rfl⟩
 subst hwv
 have G4 := Hi hst
 have hl4 : a4.length ≤ 62346 := by
  rw [ha4]
  split <;> simp <;> omega
 have E4 := Hi ha4
 clear hst ha4
 clear c11 c12 c13 c14 cl
 have c15 : y4.cell? ⟨w.heap.size, 15, none⟩ = some (.int .i64 pD) := cOb (o := 15) G4.out.blk rfl
 have c16 : y4.cell? ⟨w.heap.size, 16, none⟩ = some (vs nD) := cOb (o := 16) G4.out.blk rfl
 have c17 : y4.cell? ⟨w.heap.size, 17, none⟩ = some (.int .i64 (mD : Int)) := cOb (o := 17) G4.out.blk rfl
 have c18 : y4.cell? ⟨w.heap.size, 18, none⟩ = some (.slice KD ksD.length qD) := cOb (o := 18) G4.out.blk rfl
 have cl := lHp G4.out.blk
 go_upto_if 64 with fail
 go_cut [4] from 65 to 71 (fun s4 wd => ∃ x : Bytes, s4 = vs x ∧ x = a4 ++ (if bD = true then [32, 101, 110, 100, 115, 32, 123, 32] ++ (tD ++ [32, 125]) else []) ∧ Bx1 w wd #[vs id, .int .i64 ri, .int .i64 ki, vs name, .int .i64 (value : Int), .int .i64 pC, vs nC, .int .i64 (dC : Int), .int .i64 (mC : Int), .slice KC ksC.length qC, .slice A exc.length cap, .int .i64 pB, vs nB, .int .i64 (mB : Int), .slice KB ksB.length qB, .int .i64 pD, vs nD, .int .i64 (mD : Int), .slice KD ksD.length qD, .int .i64 pG, vs nG, .int .i64 (mG : Int), .slice KG ksG.length qG] 30)
 case first =>
  cases bD with
  | false =>
    go_wp2_with fail
    go_meet
    case rel => exact ⟨_, rfl, by simp, G4.out⟩
  | true =>
    have f0 : ¬ 9223372036854775807 < 8 + tD.length := by omega
    have f1 : ¬ 9223372036854775807 < tD.length + 8 := by omega
    have f2 : ¬ 9223372036854775807 < a4.length + (tD.length + 8) := by omega
    have f3 : ¬ 9223372036854775807 < tD.length + 8 + 2 := by omega
    have f4 : ¬ 9223372036854775807 < tD.length + 10 := by omega
    have f5 : ¬ 9223372036854775807 < a4.length + (tD.length + 10) := by omega
    have f6 : ¬ 9223372036854775807 < tD.length + 2 + 8 := by omega
    have f7 : ¬ 9223372036854775807 < a4.length + (tD.length + 2 + 8) := by omega
    go_wp2_with fail
    refine (HCD.out _ G4.out.below).mono ?_
    rintro e wz ⟨rfl, hb⟩
    have HZ := Hi (G4.out.step hb)
    clear hb
    go_wp2_with fail
    go_meet
    case rel => exact ⟨_, rfl, by simp, HZ.out⟩
 case rest =>
 obtain ⟨a5, rfl, ha5, hst⟩ := hcut
 obtain ⟨y5, hwv⟩ : ∃ x, x = wc := ⟨_, rfl⟩
 subst hwv
 have G5 := Hi hst
 have hl5 : a5.length ≤ 92356 := by
  rw [ha5]
  split <;> simp <;> omega
 have E5 := Hi ha5
 clear hst ha5
 clear c15 c16 c17 c18 cl
 have c19 : y5.cell? ⟨w.heap.size, 19, none⟩ = some (.int .i64 pG) := cOb (o := 19) G5.out.blk rfl
 have c20 : y5.cell? ⟨w.heap.size, 20, none⟩ = some (vs nG) := cOb (o := 20) G5.out.blk rfl
 have c21 : y5.cell? ⟨w.heap.size, 21, none⟩ = some (.int .i64 (mG : Int)) := cOb (o := 21) G5.out.blk rfl
 have c22 : y5.cell? ⟨w.heap.size, 22, none⟩ = some (.slice KG ksG.length qG) := cOb (o := 22) G5.out.blk rfl
 have cl := lHp G5.out.blk
 go_upto_if 75 with fail
 go_cut [4] from 76 to 82 (fun s4 wd => ∃ x : Bytes, s4 = vs x ∧ x = a5 ++ (if bG = true then [32, 114, 101, 116, 117, 114, 110, 115, 32, 123, 32] ++ (tG ++ [32, 125]) else []) ∧ Bx1 w wd #[vs id, .int .i64 ri, .int .i64 ki, vs name, .int .i64 (value : Int), .int .i64 pC, vs nC, .int .i64 (dC : Int), .int .i64 (mC : Int), .slice KC ksC.length qC, .slice A exc.length cap, .int .i64 pB, vs nB, .int .i64 (mB : Int), .slice KB ksB.length qB, .int .i64 pD, vs nD, .int .i64 (mD : Int), .slice KD ksD.length qD, .int .i64 pG, vs nG, .int .i64 (mG : Int), .slice KG ksG.length qG] 30)
 case first =>
  cases bG with
  | false =>
    go_wp2_with fail
    go_meet
    case rel => exact ⟨_, rfl, by simp, G5.out⟩
  | true =>
    have f0 : ¬ 9223372036854775807 < 11 + tG.length := by omega
    have f1 : ¬ 9223372036854775807 < tG.length + 11 := by omega
    have f2 : ¬ 9223372036854775807 < a5.length + (tG.length + 11) := by omega
    have f3 : ¬ 9223372036854775807 < tG.length + 11 + 2 := by omega
    have f4 : ¬ 9223372036854775807 < tG.length + 13 := by omega
    have f5 : ¬ 9223372036854775807 < a5.length + (tG.length + 13) := by omega
    have f6 : ¬ 9223372036854775807 < tG.length + 2 + 11 := by omega
    have f7 : ¬ 9223372036854775807 < a5.length + (tG.length + 2 + 11) := by omega
    go_wp2_with fail
    refine (HCG.out _ G5.out.below).mono ?_
    rintro e wz ⟨rfl, hb⟩
    have HZ := Hi (G5.out.step hb)
    clear hb
    go_wp2_with fail
    go_meet
    case rel => exact ⟨_, rfl, by simp, HZ.out⟩
 case rest =>
 obtain ⟨a6, rfl, ha6, hst⟩ := hcut
 obtain ⟨y6, hwv⟩ : ∃ x, x = wc := ⟨_, rfl⟩
 subst hwv
 have G6 := Hi hst
 have hl6 : a6.length ≤ 122369 := by
  rw [ha6]
  split <;> simp <;> omega
 have E6 := Hi ha6
 clear hst ha6
 clear c19 c20 c21 c22 cl
 have hTE : a6 ++ ([32, 91] ++ (So.ranksS.getD (rank - 1) [] ++ 32 :: (id ++ [93]))) = T := by rw [← HT.out, E6.out, E5.out, E4.out, E3.out, E2.out, E1.out]
 have HTE := Hi hTE
 have hr4 : rank = 1 ∨ rank = 2 ∨ rank = 3 ∨ rank = 4 := by have := HRI.out.2; omega
 have hri := HRI.out.1
 have hTl : T.length ≤ 1000000 := by
  rw [← hTE]
  rcases hr4 with rfl | rfl | rfl | rfl <;> simp [So.ranksS] <;> omega
 have HSH : Hid (∀ (X : Bytes) wx, X = T → Calls Tryz.prog 43 #[vs X] wx fun e w' => e = .returned (.tuple #[vs (shortA T).1, .int .i64 ((shortA T).2 : Nat)]) ∧ wx = w') := Hi (fun X wx hX => by rw [hX]; exact rshort_any _ wx hTl)
 have c0 : y6.cell? ⟨w.heap.size, 0, none⟩ = some (vs id) := cOb (o := 0) G6.out.blk rfl
 have c1 : y6.cell? ⟨w.heap.size, 1, none⟩ = some (.int .i64 ri) := cOb (o := 1) G6.out.blk rfl
 have cl := lHp G6.out.blk
 clear hTE
 rcases hr4 with rfl | rfl | rfl | rfl
 · obtain rfl : ri = 1 := by rw [← hri]; rfl
   have hwk : IntKind.i64.wrap 0 = 0 := by rw [IntKind.wrap_i64]; omega
   have f0 : ¬ 9223372036854775807 < a6.length + 2 := by omega
   have f1 : ¬ 9223372036854775807 < a6.length + 2 + 7 := by omega
   have f2 : ¬ 9223372036854775807 < a6.length + 9 := by omega
   have f3 : ¬ 9223372036854775807 < a6.length + 9 + 1 := by omega
   have f4 : ¬ 9223372036854775807 < a6.length + 10 := by omega
   have f5 : ¬ 9223372036854775807 < a6.length + 10 + id.length := by omega
   have f6 : ¬ 9223372036854775807 < a6.length + (id.length + 10) := by omega
   have f7 : ¬ 9223372036854775807 < a6.length + (id.length + 10) + 1 := by omega
   go_wp2_with fail
   refine wp_region_held_drew (S := fun w' => w'.cell? ⟨w.heap.size, 0, none⟩ = some (vs id) ∧ w'.cell? ⟨w.heap.size, 1, none⟩ = some (.int .i64 1)) (by kernel_rfl) (by go_keep) (fun hHeld => ?_)
   refine wpAnyH_take (i := 0) (v := ?_) rfl (by kernel_rfl) (by kernel_rfl) (by kernel_rfl) (fun _ _ _ h => h) (Or.inl ⟨by rfl, ?_⟩) (by assumption) ?_
   rotate_left
   · (intro w hSw; (try dsimp only at hSw); go_simp; try with_reducible rfl)
   try simp only [Act.put, sia, sc0, scs]
   refine wpAnyH_take (i := 1) (v := ?_) rfl (by kernel_rfl) (by kernel_rfl) (by kernel_rfl) (fun _ _ _ h => h) (Or.inl ⟨by rfl, ?_⟩) (by assumption) ?_
   rotate_left
   · (intro w hSw; (try dsimp only at hSw); go_simp; try with_reducible rfl)
   try simp only [Act.put, sia, sc0, scs]
   refine wpAnyH_take (i := 3) (v := ?_) rfl (by kernel_rfl) (by kernel_rfl) (by kernel_rfl) (fun _ _ _ h => h) (Or.inl ⟨by rfl, ?_⟩) (by assumption) ?_
   rotate_left
   · (intro w hSw; (try dsimp only at hSw); go_simp; try with_reducible rfl)
   try simp only [Act.put, sia, sc0, scs]
   refine wpAnyH_take (i := 4) (v := ?_) rfl (by kernel_rfl) (by kernel_rfl) (by kernel_rfl) (fun _ _ _ h => h) (Or.inl ⟨by rfl, ?_⟩) (by assumption) ?_
   rotate_left
   · (intro w hSw; (try dsimp only at hSw); go_simp; try with_reducible rfl)
   try simp only [Act.put, sia, sc0, scs]
   refine wpAnyH_take (i := 5) (v := ?_) rfl (by kernel_rfl) (by kernel_rfl) (by kernel_rfl) (fun _ _ _ h => h) (Or.inl ⟨by rfl, ?_⟩) (by assumption) ?_
   rotate_left
   · (intro w hSw; (try dsimp only at hSw); go_simp; try with_reducible rfl)
   try simp only [Act.put, sia, sc0, scs]
   refine wpAnyH_take (i := 10) (v := ?_) rfl (by kernel_rfl) (by kernel_rfl) (by kernel_rfl) (fun _ _ _ h => h) (Or.inl ⟨by rfl, ?_⟩) (by assumption) ?_
   rotate_left
   · (intro w hSw; (try dsimp only at hSw); go_simp; try with_reducible rfl)
   try simp only [Act.put, sia, sc0, scs]
   refine wpAnyH_take (i := 11) (v := ?_) rfl (by kernel_rfl) (by kernel_rfl) (by kernel_rfl) (fun _ _ _ h => h) (Or.inl ⟨by rfl, ?_⟩) (by assumption) ?_
   rotate_left
   · (intro w hSw; (try dsimp only at hSw); go_simp; try with_reducible rfl)
   try simp only [Act.put, sia, sc0, scs]
   refine wpAnyH_ready (rs := [2]) (by kernel_rfl) (by simp) ?_
   refine AllReadyH.cons rfl (fun K hK => ?_) ?_
   · go_simp
     refine hK.out _ _ ?_ (fun hHeld => ?_)
     · (try dsimp only); go_keep
     clear hK K
     try simp only [Act.put, sia, sc0, scs]
     refine wpAnyH_take (i := 6) (v := ?_) rfl (by kernel_rfl) (by kernel_rfl) (by kernel_rfl) (fun _ _ _ h => h) (Or.inl ⟨by rfl, ?_⟩) (by assumption) ?_
     rotate_left
     · (intro w hSw; (try dsimp only at hSw); go_simp; try with_reducible rfl)
     try simp only [Act.put, sia, sc0, scs]
     refine wpAnyH_ready (rs := [7]) (by kernel_rfl) (by simp) ?_
     refine AllReadyH.cons rfl (fun K hK => ?_) ?_
     · go_simp
       refine hK.out _ _ ?_ (fun hHeld => ?_)
       · (try dsimp only); go_keep
       clear hK K
       try simp only [Act.put, sia, sc0, scs]
       refine wpAnyH_take (i := 8) (v := ?_) rfl (by kernel_rfl) (by kernel_rfl) (by kernel_rfl) (fun _ _ _ h => h) (Or.inl ⟨by rfl, ?_⟩) (by assumption) ?_
       rotate_left
       · (intro w hSw; (try dsimp only at hSw); go_simp; try with_reducible rfl)
       try simp only [Act.put, sia, sc0, scs]
       refine wpAnyH_take (i := 9) (v := ?_) rfl (by kernel_rfl) (by kernel_rfl) (by kernel_rfl) (fun _ _ _ h => h) (Or.inl ⟨by rfl, ?_⟩) (by assumption) ?_
       rotate_left
       · (intro w hSw; (try dsimp only at hSw); go_simp; try with_reducible rfl)
       try simp only [Act.put, sia, sc0, scs]
       refine wpAnyH_take (i := 12) (v := ?_) rfl (by kernel_rfl) (by kernel_rfl) (by kernel_rfl) (fun _ _ _ h => h) (Or.inl ⟨by rfl, ?_⟩) (by assumption) ?_
       rotate_left
       · (intro w hSw; (try dsimp only at hSw); go_simp; try with_reducible rfl)
       try simp only [Act.put, sia, sc0, scs]
       refine wpAnyH_take (i := 13) (v := ?_) rfl (by kernel_rfl) (by kernel_rfl) (by kernel_rfl) (fun _ _ _ h => h) (Or.inl ⟨by rfl, ?_⟩) (by assumption) ?_
       rotate_left
       · (intro w hSw; (try dsimp only at hSw); go_simp; try with_reducible rfl)
       try simp only [Act.put, sia, sc0, scs]
       refine wpAnyH_ready (rs := [14]) (by kernel_rfl) (by simp) ?_
       refine AllReadyH.cons rfl (fun K hK => ?_) ?_
       · go_simp
         refine (HSH.out _ _ (by rw [← HTE.out]; simp [So.ranksS])).mono ?_
         rintro e wz ⟨rfl, rfl⟩
         go_simp
         refine hK.out _ _ ?_ (fun hHeld => ?_)
         · (try dsimp only); go_keep
         clear hK K
         try simp only [Act.put, sia, sc0, scs]
         refine wpAnyH_take (i := 15) (v := ?_) rfl (by kernel_rfl) (by kernel_rfl) (by kernel_rfl) (fun _ _ _ h => h) (Or.inl ⟨by rfl, ?_⟩) (by assumption) ?_
         rotate_left
         · (intro w hSw; (try dsimp only at hSw); go_simp; try with_reducible rfl)
         try simp only [Act.put, sia, sc0, scs]
         refine wpAnyH_take (i := 16) (v := ?_) rfl (by kernel_rfl) (by kernel_rfl) (by kernel_rfl) (fun _ _ _ h => h) (Or.inl ⟨by rfl, ?_⟩) (by assumption) ?_
         rotate_left
         · (intro w hSw; (try dsimp only at hSw); go_simp; try with_reducible rfl)
         try simp only [Act.put, sia, sc0, scs]
         refine wpAnyH_take (i := 17) (v := ?_) rfl (by kernel_rfl) (by kernel_rfl) (by kernel_rfl) (fun _ _ _ h => h) (Or.inl ⟨by rfl, ?_⟩) (by assumption) ?_
         rotate_left
         · (intro w hSw; (try dsimp only at hSw); go_simp; try with_reducible rfl)
         try simp only [Act.put, sia, sc0, scs]
         refine wpAnyH_take (i := 18) (v := ?_) rfl (by kernel_rfl) (by kernel_rfl) (by kernel_rfl) (fun _ _ _ h => h) (Or.inl ⟨by rfl, ?_⟩) (by assumption) ?_
         rotate_left
         · (intro w hSw; (try dsimp only at hSw); go_simp; try with_reducible rfl)
         try simp only [Act.put, sia, sc0, scs]
         refine wpAnyH_done (by kernel_rfl) ?_ _
         simp [Act.put]
         go_wp2_with fail
         go_ret2
         exact ⟨rfl, by first | exact (G6.out.step (belowA _ _)).drew.below | exact (G6.out.drew.step (belowA _ _)).below⟩
       exact AllReadyH.nil
     exact AllReadyH.nil
   exact AllReadyH.nil
 · obtain rfl : ri = 2 := by rw [← hri]; rfl
   have hwk : IntKind.i64.wrap 1 = 1 := by rw [IntKind.wrap_i64]; omega
   have f0 : ¬ 9223372036854775807 < a6.length + 2 := by omega
   have f1 : ¬ 9223372036854775807 < a6.length + 2 + 7 := by omega
   have f2 : ¬ 9223372036854775807 < a6.length + 9 := by omega
   have f3 : ¬ 9223372036854775807 < a6.length + 9 + 1 := by omega
   have f4 : ¬ 9223372036854775807 < a6.length + 10 := by omega
   have f5 : ¬ 9223372036854775807 < a6.length + 10 + id.length := by omega
   have f6 : ¬ 9223372036854775807 < a6.length + (id.length + 10) := by omega
   have f7 : ¬ 9223372036854775807 < a6.length + (id.length + 10) + 1 := by omega
   go_wp2_with fail
   refine wp_region_held_drew (S := fun w' => w'.cell? ⟨w.heap.size, 0, none⟩ = some (vs id) ∧ w'.cell? ⟨w.heap.size, 1, none⟩ = some (.int .i64 2)) (by kernel_rfl) (by go_keep) (fun hHeld => ?_)
   refine wpAnyH_take (i := 0) (v := ?_) rfl (by kernel_rfl) (by kernel_rfl) (by kernel_rfl) (fun _ _ _ h => h) (Or.inl ⟨by rfl, ?_⟩) (by assumption) ?_
   rotate_left
   · (intro w hSw; (try dsimp only at hSw); go_simp; try with_reducible rfl)
   try simp only [Act.put, sia, sc0, scs]
   refine wpAnyH_take (i := 1) (v := ?_) rfl (by kernel_rfl) (by kernel_rfl) (by kernel_rfl) (fun _ _ _ h => h) (Or.inl ⟨by rfl, ?_⟩) (by assumption) ?_
   rotate_left
   · (intro w hSw; (try dsimp only at hSw); go_simp; try with_reducible rfl)
   try simp only [Act.put, sia, sc0, scs]
   refine wpAnyH_take (i := 3) (v := ?_) rfl (by kernel_rfl) (by kernel_rfl) (by kernel_rfl) (fun _ _ _ h => h) (Or.inl ⟨by rfl, ?_⟩) (by assumption) ?_
   rotate_left
   · (intro w hSw; (try dsimp only at hSw); go_simp; try with_reducible rfl)
   try simp only [Act.put, sia, sc0, scs]
   refine wpAnyH_take (i := 4) (v := ?_) rfl (by kernel_rfl) (by kernel_rfl) (by kernel_rfl) (fun _ _ _ h => h) (Or.inl ⟨by rfl, ?_⟩) (by assumption) ?_
   rotate_left
   · (intro w hSw; (try dsimp only at hSw); go_simp; try with_reducible rfl)
   try simp only [Act.put, sia, sc0, scs]
   refine wpAnyH_take (i := 5) (v := ?_) rfl (by kernel_rfl) (by kernel_rfl) (by kernel_rfl) (fun _ _ _ h => h) (Or.inl ⟨by rfl, ?_⟩) (by assumption) ?_
   rotate_left
   · (intro w hSw; (try dsimp only at hSw); go_simp; try with_reducible rfl)
   try simp only [Act.put, sia, sc0, scs]
   refine wpAnyH_take (i := 10) (v := ?_) rfl (by kernel_rfl) (by kernel_rfl) (by kernel_rfl) (fun _ _ _ h => h) (Or.inl ⟨by rfl, ?_⟩) (by assumption) ?_
   rotate_left
   · (intro w hSw; (try dsimp only at hSw); go_simp; try with_reducible rfl)
   try simp only [Act.put, sia, sc0, scs]
   refine wpAnyH_take (i := 11) (v := ?_) rfl (by kernel_rfl) (by kernel_rfl) (by kernel_rfl) (fun _ _ _ h => h) (Or.inl ⟨by rfl, ?_⟩) (by assumption) ?_
   rotate_left
   · (intro w hSw; (try dsimp only at hSw); go_simp; try with_reducible rfl)
   try simp only [Act.put, sia, sc0, scs]
   refine wpAnyH_ready (rs := [2]) (by kernel_rfl) (by simp) ?_
   refine AllReadyH.cons rfl (fun K hK => ?_) ?_
   · go_simp
     refine hK.out _ _ ?_ (fun hHeld => ?_)
     · (try dsimp only); go_keep
     clear hK K
     try simp only [Act.put, sia, sc0, scs]
     refine wpAnyH_take (i := 6) (v := ?_) rfl (by kernel_rfl) (by kernel_rfl) (by kernel_rfl) (fun _ _ _ h => h) (Or.inl ⟨by rfl, ?_⟩) (by assumption) ?_
     rotate_left
     · (intro w hSw; (try dsimp only at hSw); go_simp; try with_reducible rfl)
     try simp only [Act.put, sia, sc0, scs]
     refine wpAnyH_ready (rs := [7]) (by kernel_rfl) (by simp) ?_
     refine AllReadyH.cons rfl (fun K hK => ?_) ?_
     · go_simp
       refine hK.out _ _ ?_ (fun hHeld => ?_)
       · (try dsimp only); go_keep
       clear hK K
       try simp only [Act.put, sia, sc0, scs]
       refine wpAnyH_take (i := 8) (v := ?_) rfl (by kernel_rfl) (by kernel_rfl) (by kernel_rfl) (fun _ _ _ h => h) (Or.inl ⟨by rfl, ?_⟩) (by assumption) ?_
       rotate_left
       · (intro w hSw; (try dsimp only at hSw); go_simp; try with_reducible rfl)
       try simp only [Act.put, sia, sc0, scs]
       refine wpAnyH_take (i := 9) (v := ?_) rfl (by kernel_rfl) (by kernel_rfl) (by kernel_rfl) (fun _ _ _ h => h) (Or.inl ⟨by rfl, ?_⟩) (by assumption) ?_
       rotate_left
       · (intro w hSw; (try dsimp only at hSw); go_simp; try with_reducible rfl)
       try simp only [Act.put, sia, sc0, scs]
       refine wpAnyH_take (i := 12) (v := ?_) rfl (by kernel_rfl) (by kernel_rfl) (by kernel_rfl) (fun _ _ _ h => h) (Or.inl ⟨by rfl, ?_⟩) (by assumption) ?_
       rotate_left
       · (intro w hSw; (try dsimp only at hSw); go_simp; try with_reducible rfl)
       try simp only [Act.put, sia, sc0, scs]
       refine wpAnyH_take (i := 13) (v := ?_) rfl (by kernel_rfl) (by kernel_rfl) (by kernel_rfl) (fun _ _ _ h => h) (Or.inl ⟨by rfl, ?_⟩) (by assumption) ?_
       rotate_left
       · (intro w hSw; (try dsimp only at hSw); go_simp; try with_reducible rfl)
       try simp only [Act.put, sia, sc0, scs]
       refine wpAnyH_ready (rs := [14]) (by kernel_rfl) (by simp) ?_
       refine AllReadyH.cons rfl (fun K hK => ?_) ?_
       · go_simp
         refine (HSH.out _ _ (by rw [← HTE.out]; simp [So.ranksS])).mono ?_
         rintro e wz ⟨rfl, rfl⟩
         go_simp
         refine hK.out _ _ ?_ (fun hHeld => ?_)
         · (try dsimp only); go_keep
         clear hK K
         try simp only [Act.put, sia, sc0, scs]
         refine wpAnyH_take (i := 15) (v := ?_) rfl (by kernel_rfl) (by kernel_rfl) (by kernel_rfl) (fun _ _ _ h => h) (Or.inl ⟨by rfl, ?_⟩) (by assumption) ?_
         rotate_left
         · (intro w hSw; (try dsimp only at hSw); go_simp; try with_reducible rfl)
         try simp only [Act.put, sia, sc0, scs]
         refine wpAnyH_take (i := 16) (v := ?_) rfl (by kernel_rfl) (by kernel_rfl) (by kernel_rfl) (fun _ _ _ h => h) (Or.inl ⟨by rfl, ?_⟩) (by assumption) ?_
         rotate_left
         · (intro w hSw; (try dsimp only at hSw); go_simp; try with_reducible rfl)
         try simp only [Act.put, sia, sc0, scs]
         refine wpAnyH_take (i := 17) (v := ?_) rfl (by kernel_rfl) (by kernel_rfl) (by kernel_rfl) (fun _ _ _ h => h) (Or.inl ⟨by rfl, ?_⟩) (by assumption) ?_
         rotate_left
         · (intro w hSw; (try dsimp only at hSw); go_simp; try with_reducible rfl)
         try simp only [Act.put, sia, sc0, scs]
         refine wpAnyH_take (i := 18) (v := ?_) rfl (by kernel_rfl) (by kernel_rfl) (by kernel_rfl) (fun _ _ _ h => h) (Or.inl ⟨by rfl, ?_⟩) (by assumption) ?_
         rotate_left
         · (intro w hSw; (try dsimp only at hSw); go_simp; try with_reducible rfl)
         try simp only [Act.put, sia, sc0, scs]
         refine wpAnyH_done (by kernel_rfl) ?_ _
         simp [Act.put]
         go_wp2_with fail
         go_ret2
         exact ⟨rfl, by first | exact (G6.out.step (belowA _ _)).drew.below | exact (G6.out.drew.step (belowA _ _)).below⟩
       exact AllReadyH.nil
     exact AllReadyH.nil
   exact AllReadyH.nil
 · obtain rfl : ri = 3 := by rw [← hri]; rfl
   have hwk : IntKind.i64.wrap 2 = 2 := by rw [IntKind.wrap_i64]; omega
   have f0 : ¬ 9223372036854775807 < a6.length + 2 := by omega
   have f1 : ¬ 9223372036854775807 < a6.length + 2 + 5 := by omega
   have f2 : ¬ 9223372036854775807 < a6.length + 7 := by omega
   have f3 : ¬ 9223372036854775807 < a6.length + 7 + 1 := by omega
   have f4 : ¬ 9223372036854775807 < a6.length + 8 := by omega
   have f5 : ¬ 9223372036854775807 < a6.length + 8 + id.length := by omega
   have f6 : ¬ 9223372036854775807 < a6.length + (id.length + 8) := by omega
   have f7 : ¬ 9223372036854775807 < a6.length + (id.length + 8) + 1 := by omega
   go_wp2_with fail
   refine wp_region_held_drew (S := fun w' => w'.cell? ⟨w.heap.size, 0, none⟩ = some (vs id) ∧ w'.cell? ⟨w.heap.size, 1, none⟩ = some (.int .i64 3)) (by kernel_rfl) (by go_keep) (fun hHeld => ?_)
   refine wpAnyH_take (i := 0) (v := ?_) rfl (by kernel_rfl) (by kernel_rfl) (by kernel_rfl) (fun _ _ _ h => h) (Or.inl ⟨by rfl, ?_⟩) (by assumption) ?_
   rotate_left
   · (intro w hSw; (try dsimp only at hSw); go_simp; try with_reducible rfl)
   try simp only [Act.put, sia, sc0, scs]
   refine wpAnyH_take (i := 1) (v := ?_) rfl (by kernel_rfl) (by kernel_rfl) (by kernel_rfl) (fun _ _ _ h => h) (Or.inl ⟨by rfl, ?_⟩) (by assumption) ?_
   rotate_left
   · (intro w hSw; (try dsimp only at hSw); go_simp; try with_reducible rfl)
   try simp only [Act.put, sia, sc0, scs]
   refine wpAnyH_take (i := 3) (v := ?_) rfl (by kernel_rfl) (by kernel_rfl) (by kernel_rfl) (fun _ _ _ h => h) (Or.inl ⟨by rfl, ?_⟩) (by assumption) ?_
   rotate_left
   · (intro w hSw; (try dsimp only at hSw); go_simp; try with_reducible rfl)
   try simp only [Act.put, sia, sc0, scs]
   refine wpAnyH_take (i := 4) (v := ?_) rfl (by kernel_rfl) (by kernel_rfl) (by kernel_rfl) (fun _ _ _ h => h) (Or.inl ⟨by rfl, ?_⟩) (by assumption) ?_
   rotate_left
   · (intro w hSw; (try dsimp only at hSw); go_simp; try with_reducible rfl)
   try simp only [Act.put, sia, sc0, scs]
   refine wpAnyH_take (i := 5) (v := ?_) rfl (by kernel_rfl) (by kernel_rfl) (by kernel_rfl) (fun _ _ _ h => h) (Or.inl ⟨by rfl, ?_⟩) (by assumption) ?_
   rotate_left
   · (intro w hSw; (try dsimp only at hSw); go_simp; try with_reducible rfl)
   try simp only [Act.put, sia, sc0, scs]
   refine wpAnyH_take (i := 10) (v := ?_) rfl (by kernel_rfl) (by kernel_rfl) (by kernel_rfl) (fun _ _ _ h => h) (Or.inl ⟨by rfl, ?_⟩) (by assumption) ?_
   rotate_left
   · (intro w hSw; (try dsimp only at hSw); go_simp; try with_reducible rfl)
   try simp only [Act.put, sia, sc0, scs]
   refine wpAnyH_take (i := 11) (v := ?_) rfl (by kernel_rfl) (by kernel_rfl) (by kernel_rfl) (fun _ _ _ h => h) (Or.inl ⟨by rfl, ?_⟩) (by assumption) ?_
   rotate_left
   · (intro w hSw; (try dsimp only at hSw); go_simp; try with_reducible rfl)
   try simp only [Act.put, sia, sc0, scs]
   refine wpAnyH_ready (rs := [2]) (by kernel_rfl) (by simp) ?_
   refine AllReadyH.cons rfl (fun K hK => ?_) ?_
   · go_simp
     refine hK.out _ _ ?_ (fun hHeld => ?_)
     · (try dsimp only); go_keep
     clear hK K
     try simp only [Act.put, sia, sc0, scs]
     refine wpAnyH_take (i := 6) (v := ?_) rfl (by kernel_rfl) (by kernel_rfl) (by kernel_rfl) (fun _ _ _ h => h) (Or.inl ⟨by rfl, ?_⟩) (by assumption) ?_
     rotate_left
     · (intro w hSw; (try dsimp only at hSw); go_simp; try with_reducible rfl)
     try simp only [Act.put, sia, sc0, scs]
     refine wpAnyH_ready (rs := [7]) (by kernel_rfl) (by simp) ?_
     refine AllReadyH.cons rfl (fun K hK => ?_) ?_
     · go_simp
       refine hK.out _ _ ?_ (fun hHeld => ?_)
       · (try dsimp only); go_keep
       clear hK K
       try simp only [Act.put, sia, sc0, scs]
       refine wpAnyH_take (i := 8) (v := ?_) rfl (by kernel_rfl) (by kernel_rfl) (by kernel_rfl) (fun _ _ _ h => h) (Or.inl ⟨by rfl, ?_⟩) (by assumption) ?_
       rotate_left
       · (intro w hSw; (try dsimp only at hSw); go_simp; try with_reducible rfl)
       try simp only [Act.put, sia, sc0, scs]
       refine wpAnyH_take (i := 9) (v := ?_) rfl (by kernel_rfl) (by kernel_rfl) (by kernel_rfl) (fun _ _ _ h => h) (Or.inl ⟨by rfl, ?_⟩) (by assumption) ?_
       rotate_left
       · (intro w hSw; (try dsimp only at hSw); go_simp; try with_reducible rfl)
       try simp only [Act.put, sia, sc0, scs]
       refine wpAnyH_take (i := 12) (v := ?_) rfl (by kernel_rfl) (by kernel_rfl) (by kernel_rfl) (fun _ _ _ h => h) (Or.inl ⟨by rfl, ?_⟩) (by assumption) ?_
       rotate_left
       · (intro w hSw; (try dsimp only at hSw); go_simp; try with_reducible rfl)
       try simp only [Act.put, sia, sc0, scs]
       refine wpAnyH_take (i := 13) (v := ?_) rfl (by kernel_rfl) (by kernel_rfl) (by kernel_rfl) (fun _ _ _ h => h) (Or.inl ⟨by rfl, ?_⟩) (by assumption) ?_
       rotate_left
       · (intro w hSw; (try dsimp only at hSw); go_simp; try with_reducible rfl)
       try simp only [Act.put, sia, sc0, scs]
       refine wpAnyH_ready (rs := [14]) (by kernel_rfl) (by simp) ?_
       refine AllReadyH.cons rfl (fun K hK => ?_) ?_
       · go_simp
         refine (HSH.out _ _ (by rw [← HTE.out]; simp [So.ranksS])).mono ?_
         rintro e wz ⟨rfl, rfl⟩
         go_simp
         refine hK.out _ _ ?_ (fun hHeld => ?_)
         · (try dsimp only); go_keep
         clear hK K
         try simp only [Act.put, sia, sc0, scs]
         refine wpAnyH_take (i := 15) (v := ?_) rfl (by kernel_rfl) (by kernel_rfl) (by kernel_rfl) (fun _ _ _ h => h) (Or.inl ⟨by rfl, ?_⟩) (by assumption) ?_
         rotate_left
         · (intro w hSw; (try dsimp only at hSw); go_simp; try with_reducible rfl)
         try simp only [Act.put, sia, sc0, scs]
         refine wpAnyH_take (i := 16) (v := ?_) rfl (by kernel_rfl) (by kernel_rfl) (by kernel_rfl) (fun _ _ _ h => h) (Or.inl ⟨by rfl, ?_⟩) (by assumption) ?_
         rotate_left
         · (intro w hSw; (try dsimp only at hSw); go_simp; try with_reducible rfl)
         try simp only [Act.put, sia, sc0, scs]
         refine wpAnyH_take (i := 17) (v := ?_) rfl (by kernel_rfl) (by kernel_rfl) (by kernel_rfl) (fun _ _ _ h => h) (Or.inl ⟨by rfl, ?_⟩) (by assumption) ?_
         rotate_left
         · (intro w hSw; (try dsimp only at hSw); go_simp; try with_reducible rfl)
         try simp only [Act.put, sia, sc0, scs]
         refine wpAnyH_take (i := 18) (v := ?_) rfl (by kernel_rfl) (by kernel_rfl) (by kernel_rfl) (fun _ _ _ h => h) (Or.inl ⟨by rfl, ?_⟩) (by assumption) ?_
         rotate_left
         · (intro w hSw; (try dsimp only at hSw); go_simp; try with_reducible rfl)
         try simp only [Act.put, sia, sc0, scs]
         refine wpAnyH_done (by kernel_rfl) ?_ _
         simp [Act.put]
         go_wp2_with fail
         go_ret2
         exact ⟨rfl, by first | exact (G6.out.step (belowA _ _)).drew.below | exact (G6.out.drew.step (belowA _ _)).below⟩
       exact AllReadyH.nil
     exact AllReadyH.nil
   exact AllReadyH.nil
 · obtain rfl : ri = 4 := by rw [← hri]; rfl
   have hwk : IntKind.i64.wrap 3 = 3 := by rw [IntKind.wrap_i64]; omega
   have f0 : ¬ 9223372036854775807 < a6.length + 2 := by omega
   have f1 : ¬ 9223372036854775807 < a6.length + 2 + 4 := by omega
   have f2 : ¬ 9223372036854775807 < a6.length + 6 := by omega
   have f3 : ¬ 9223372036854775807 < a6.length + 6 + 1 := by omega
   have f4 : ¬ 9223372036854775807 < a6.length + 7 := by omega
   have f5 : ¬ 9223372036854775807 < a6.length + 7 + id.length := by omega
   have f6 : ¬ 9223372036854775807 < a6.length + (id.length + 7) := by omega
   have f7 : ¬ 9223372036854775807 < a6.length + (id.length + 7) + 1 := by omega
   go_wp2_with fail
   refine wp_region_held_drew (S := fun w' => w'.cell? ⟨w.heap.size, 0, none⟩ = some (vs id) ∧ w'.cell? ⟨w.heap.size, 1, none⟩ = some (.int .i64 4)) (by kernel_rfl) (by go_keep) (fun hHeld => ?_)
   refine wpAnyH_take (i := 0) (v := ?_) rfl (by kernel_rfl) (by kernel_rfl) (by kernel_rfl) (fun _ _ _ h => h) (Or.inl ⟨by rfl, ?_⟩) (by assumption) ?_
   rotate_left
   · (intro w hSw; (try dsimp only at hSw); go_simp; try with_reducible rfl)
   try simp only [Act.put, sia, sc0, scs]
   refine wpAnyH_take (i := 1) (v := ?_) rfl (by kernel_rfl) (by kernel_rfl) (by kernel_rfl) (fun _ _ _ h => h) (Or.inl ⟨by rfl, ?_⟩) (by assumption) ?_
   rotate_left
   · (intro w hSw; (try dsimp only at hSw); go_simp; try with_reducible rfl)
   try simp only [Act.put, sia, sc0, scs]
   refine wpAnyH_take (i := 3) (v := ?_) rfl (by kernel_rfl) (by kernel_rfl) (by kernel_rfl) (fun _ _ _ h => h) (Or.inl ⟨by rfl, ?_⟩) (by assumption) ?_
   rotate_left
   · (intro w hSw; (try dsimp only at hSw); go_simp; try with_reducible rfl)
   try simp only [Act.put, sia, sc0, scs]
   refine wpAnyH_take (i := 4) (v := ?_) rfl (by kernel_rfl) (by kernel_rfl) (by kernel_rfl) (fun _ _ _ h => h) (Or.inl ⟨by rfl, ?_⟩) (by assumption) ?_
   rotate_left
   · (intro w hSw; (try dsimp only at hSw); go_simp; try with_reducible rfl)
   try simp only [Act.put, sia, sc0, scs]
   refine wpAnyH_take (i := 5) (v := ?_) rfl (by kernel_rfl) (by kernel_rfl) (by kernel_rfl) (fun _ _ _ h => h) (Or.inl ⟨by rfl, ?_⟩) (by assumption) ?_
   rotate_left
   · (intro w hSw; (try dsimp only at hSw); go_simp; try with_reducible rfl)
   try simp only [Act.put, sia, sc0, scs]
   refine wpAnyH_take (i := 10) (v := ?_) rfl (by kernel_rfl) (by kernel_rfl) (by kernel_rfl) (fun _ _ _ h => h) (Or.inl ⟨by rfl, ?_⟩) (by assumption) ?_
   rotate_left
   · (intro w hSw; (try dsimp only at hSw); go_simp; try with_reducible rfl)
   try simp only [Act.put, sia, sc0, scs]
   refine wpAnyH_take (i := 11) (v := ?_) rfl (by kernel_rfl) (by kernel_rfl) (by kernel_rfl) (fun _ _ _ h => h) (Or.inl ⟨by rfl, ?_⟩) (by assumption) ?_
   rotate_left
   · (intro w hSw; (try dsimp only at hSw); go_simp; try with_reducible rfl)
   try simp only [Act.put, sia, sc0, scs]
   refine wpAnyH_ready (rs := [2]) (by kernel_rfl) (by simp) ?_
   refine AllReadyH.cons rfl (fun K hK => ?_) ?_
   · go_simp
     refine hK.out _ _ ?_ (fun hHeld => ?_)
     · (try dsimp only); go_keep
     clear hK K
     try simp only [Act.put, sia, sc0, scs]
     refine wpAnyH_take (i := 6) (v := ?_) rfl (by kernel_rfl) (by kernel_rfl) (by kernel_rfl) (fun _ _ _ h => h) (Or.inl ⟨by rfl, ?_⟩) (by assumption) ?_
     rotate_left
     · (intro w hSw; (try dsimp only at hSw); go_simp; try with_reducible rfl)
     try simp only [Act.put, sia, sc0, scs]
     refine wpAnyH_ready (rs := [7]) (by kernel_rfl) (by simp) ?_
     refine AllReadyH.cons rfl (fun K hK => ?_) ?_
     · go_simp
       refine hK.out _ _ ?_ (fun hHeld => ?_)
       · (try dsimp only); go_keep
       clear hK K
       try simp only [Act.put, sia, sc0, scs]
       refine wpAnyH_take (i := 8) (v := ?_) rfl (by kernel_rfl) (by kernel_rfl) (by kernel_rfl) (fun _ _ _ h => h) (Or.inl ⟨by rfl, ?_⟩) (by assumption) ?_
       rotate_left
       · (intro w hSw; (try dsimp only at hSw); go_simp; try with_reducible rfl)
       try simp only [Act.put, sia, sc0, scs]
       refine wpAnyH_take (i := 9) (v := ?_) rfl (by kernel_rfl) (by kernel_rfl) (by kernel_rfl) (fun _ _ _ h => h) (Or.inl ⟨by rfl, ?_⟩) (by assumption) ?_
       rotate_left
       · (intro w hSw; (try dsimp only at hSw); go_simp; try with_reducible rfl)
       try simp only [Act.put, sia, sc0, scs]
       refine wpAnyH_take (i := 12) (v := ?_) rfl (by kernel_rfl) (by kernel_rfl) (by kernel_rfl) (fun _ _ _ h => h) (Or.inl ⟨by rfl, ?_⟩) (by assumption) ?_
       rotate_left
       · (intro w hSw; (try dsimp only at hSw); go_simp; try with_reducible rfl)
       try simp only [Act.put, sia, sc0, scs]
       refine wpAnyH_take (i := 13) (v := ?_) rfl (by kernel_rfl) (by kernel_rfl) (by kernel_rfl) (fun _ _ _ h => h) (Or.inl ⟨by rfl, ?_⟩) (by assumption) ?_
       rotate_left
       · (intro w hSw; (try dsimp only at hSw); go_simp; try with_reducible rfl)
       try simp only [Act.put, sia, sc0, scs]
       refine wpAnyH_ready (rs := [14]) (by kernel_rfl) (by simp) ?_
       refine AllReadyH.cons rfl (fun K hK => ?_) ?_
       · go_simp
         refine (HSH.out _ _ (by rw [← HTE.out]; simp [So.ranksS])).mono ?_
         rintro e wz ⟨rfl, rfl⟩
         go_simp
         refine hK.out _ _ ?_ (fun hHeld => ?_)
         · (try dsimp only); go_keep
         clear hK K
         try simp only [Act.put, sia, sc0, scs]
         refine wpAnyH_take (i := 15) (v := ?_) rfl (by kernel_rfl) (by kernel_rfl) (by kernel_rfl) (fun _ _ _ h => h) (Or.inl ⟨by rfl, ?_⟩) (by assumption) ?_
         rotate_left
         · (intro w hSw; (try dsimp only at hSw); go_simp; try with_reducible rfl)
         try simp only [Act.put, sia, sc0, scs]
         refine wpAnyH_take (i := 16) (v := ?_) rfl (by kernel_rfl) (by kernel_rfl) (by kernel_rfl) (fun _ _ _ h => h) (Or.inl ⟨by rfl, ?_⟩) (by assumption) ?_
         rotate_left
         · (intro w hSw; (try dsimp only at hSw); go_simp; try with_reducible rfl)
         try simp only [Act.put, sia, sc0, scs]
         refine wpAnyH_take (i := 17) (v := ?_) rfl (by kernel_rfl) (by kernel_rfl) (by kernel_rfl) (fun _ _ _ h => h) (Or.inl ⟨by rfl, ?_⟩) (by assumption) ?_
         rotate_left
         · (intro w hSw; (try dsimp only at hSw); go_simp; try with_reducible rfl)
         try simp only [Act.put, sia, sc0, scs]
         refine wpAnyH_take (i := 18) (v := ?_) rfl (by kernel_rfl) (by kernel_rfl) (by kernel_rfl) (fun _ _ _ h => h) (Or.inl ⟨by rfl, ?_⟩) (by assumption) ?_
         rotate_left
         · (intro w hSw; (try dsimp only at hSw); go_simp; try with_reducible rfl)
         try simp only [Act.put, sia, sc0, scs]
         refine wpAnyH_done (by kernel_rfl) ?_ _
         simp [Act.put]
         go_wp2_with fail
         go_ret2
         exact ⟨rfl, by first | exact (G6.out.step (belowA _ _)).drew.below | exact (G6.out.drew.step (belowA _ _)).below⟩
       exact AllReadyH.nil
     exact AllReadyH.nil
   exact AllReadyH.nil
end Go.Proofs.YtbicmjmcdnkjhaaGreatDoor
