/- printer.South: a provision written. The reference's Name: is a string a name? -/
import Derived.Test.YtbicmjmcdnkjhaaGreatDoorJMM1
import Derived.Test.YtbicmjmcdnkjhaaGreatDoorJMM33
import Derived.Test.YtbicmjmcdnkjhaaGreatDoorJMM31
import Derived.Deep.CutRange
import Derived.StillTailTactics
import Derived.Deep.MidRow
import Derived.Deep.RegionHeld3
import Derived.Test.YtbicmjmcdnkjhaaGreatDoorJMM6
import Derived.Test.YtbicmjmcdnkjhaaGreatDoorJMM25
set_option linter.unusedVariables false
set_option linter.unusedSimpArgs false
set_option maxRecDepth 100000
set_option maxHeartbeats 16000000
namespace Go.Proofs.YtbicmjmcdnkjhaaGreatDoor
open Go.RowKit
attribute [local go_sem ↓] Go.wp_at_zero Go.wp_at_succ
@[local go_sem ↓ high] theorem loadVar_pv_foldS (a : Addr) : loadVar 30 a = loadPv a := by rw [loadPv]
theorem rank_wordS {r : Nat} (h : 1 ≤ r ∧ r ≤ 4) : ∃ s : Bytes, So.ranksS.getD (r - 1) [] = s ∧ ∀ w, (Instr.index 54 (.agg #[vs [], vs [99, 104, 97, 114, 116, 101, 114], vs [115, 116, 97, 116, 117, 116, 101], vs [111, 114, 100, 101, 114], vs [114, 117, 108, 101]]) (.int .i64 (r : Int))).run Tryz.prog w = .ok (vs s) w := by
 have : r = 1 ∨ r = 2 ∨ r = 3 ∨ r = 4 := by omega
 rcases this with rfl | rfl | rfl | rfl <;> exact ⟨_, rfl, fun _ => by kernel_rfl⟩
theorem wP_lenS {p : Prov} (hok : WrOk p) (hf : FewN p) : (So.wP p).length ≤ 10000 := by
 have a1 := So.wS_le p.beg
 have a2 := So.wS_le p.fin
 have a3 := So.wS_le p.aga
 have a4 := So.wF_le p.cond
 have a6 := hok.excL
 have := hf.cond
 have := hf.beg
 have := hf.fin
 have := hf.aga
 have b1 := part_le (p.cond.op != 1) So.wWhere (So.brW (So.wF p.cond))
 have b2 := part_le (p.beg.op != 1) So.wStarts (So.brW (So.wS p.beg))
 have b3 := part_le (p.fin.op != 2) So.wEnds (So.brW (So.wS p.fin))
 have b4 := part_le (p.aga.op != 2) So.wRet (So.brW (So.wS p.aga))
 rw [br_len] at b1 b2 b3 b4
 have b5 : (So.kindW p).length ≤ 4 := by unfold So.kindW; split <;> simp
 have b6 : (So.excW p.exc).length ≤ p.exc.length + 3 := by unfold So.excW; split <;> simp
 unfold So.wP So.tail0 So.tail1 So.tail2 So.tail3 So.endW
 simp only [List.length_append, List.length_cons, List.length_nil]
 omega
theorem south_end {p : Prov} {rw1 : Bytes} {kw fw fn L3 N3 L4 N4 L5 N5 : List Bytes} (hok : WrOk p) (hf : FewN p) (h1 : So.ranksS.getD (p.rank - 1) [] = rw1) (h2 : (if p.kind = 1 then [[116, 101, 114, 109], p.name] else [[113, 117, 101, 115, 116, 105, 111, 110], p.name, [103, 105, 118, 101, 115], dec p.value]) = kw)
 (h3 : (p.cond.op = 1 → fw = [] ∧ fn = []) ∧ (p.cond.op ≠ 1 → fw = So.wWhere :: So.brW (So.wF p.cond) ∧ fn = namesF p.cond)) (h4 : fw ++ kw = L3) (h5 : fn ++ [p.name] = N3) (h6 : L3 ++ So.excW p.exc = L4) (h7 : N3 ++ p.exc = N4)
 (h8 : L4 ++ (partW (p.beg.op != 1) So.wStarts (So.brW (So.wS p.beg)) ++ partW (p.fin.op != 2) So.wEnds (So.brW (So.wS p.fin)) ++ partW (p.aga.op != 2) So.wRet (So.brW (So.wS p.aga))) = L5) (h9 : N4 ++ (namesS p.beg ++ namesS p.fin ++ namesS p.aga) = N5) :
 L5 ++ [[91], rw1, p.id, [93]] = So.wP p ∧ (∀ s ∈ N5 ++ [p.id], s.length ≤ 1000000) ∧ (joinB (So.wP p)).length ≤ 1000000000 ∧ L5.length ≤ 100000 ∧ N5.length ≤ 100000 ∧ textA (setF So.keyWords) (N5 ++ [p.id]) (replF [40, 91] [41, 93] (joinB (So.wP p))) = southA (upP p) := by
 have hn : ∀ s, s ∈ N5 ++ [p.id] ↔ s ∈ namesP p := by
  intro s
  rw [← h9, ← h7, ← h5]
  have : s ∈ fn ↔ s ∈ namesF p.cond := by
   by_cases hop : p.cond.op = 1
   · rw [(h3.1 hop).2, form_triv' hok.cond hop]
   · rw [(h3.2 hop).2]
  unfold namesP
  simp only [List.mem_append, List.mem_cons, this, List.not_mem_nil, or_false]
  constructor
  · rintro ((((h | h) | h) | ((h | h) | h)) | h) <;> simp [h]
  · rintro (h | h | h | h | h | h | h) <;> simp [h]
 have hl : L5 ++ [[91], rw1, p.id, [93]] = So.wP p := by
  rw [← h8, ← h6, ← h4, ← h2, ← h1]
  unfold So.wP So.tail0 So.tail1 So.tail2 So.tail3 So.endW So.kindW
  have : fw = partW (p.cond.op != 1) So.wWhere (So.brW (So.wF p.cond)) := by
   by_cases hop : p.cond.op = 1
   · rw [(h3.1 hop).1, hop]; rfl
   · rw [(h3.2 hop).1]; unfold partW; rw [if_pos (by simpa using hop)]
  rw [this]
  simp only [List.append_assoc, List.cons_append, List.nil_append]
 have hsh : ∀ s ∈ namesP p, Sh s := fun s hs => hf.names s hs
 have hj := join_len (So.wP p) (So.sh_P hok hsh)
 have hw := wP_lenS hok hf
 refine ⟨hl, fun s hs => by have := hf.names s ((hn s).1 hs); omega, by omega, ?_, ?_, ?_⟩
 · have : (So.wP p).length = L5.length + 4 := by rw [← hl]; simp
   omega
 · have a1 := namesS_le p.beg
   have a2 := namesS_le p.fin
   have a3 := namesS_le p.aga
   have a4 := namesF_le p.cond
   have a5 := hok.excL
   have := hf.cond
   have := hf.beg
   have := hf.fin
   have := hf.aga
   have hfn : fn.length ≤ 300 := by
    by_cases hop : p.cond.op = 1
    · rw [(h3.1 hop).2]; simp
    · rw [(h3.2 hop).2]; omega
   rw [← h9, ← h7, ← h5]
   simp only [List.length_append, List.length_cons, List.length_nil]
   omega
 · refine textA_south hok (fun f => ?_)
   rw [Bool.eq_iff_iff, List.all_eq_true, List.all_eq_true]
   exact ⟨fun h s hs => h s ((hn s).2 hs), fun h s hs => h s ((hn s).1 hs)⟩
theorem psouth_ok (W0 w : World) (cs : List Value) (p : Prov) (hr : RdPX W0 cs (upP p)) (hb : Below W0.heap.size W0 w) (ht : Tabs W0) (hok : WrOk p) (hf : FewN p) (hwr : ∀ wx, Below W0.heap.size W0 wx → Calls Tryz.prog 26 #[.agg cs.toArray] wx fun e w' => e = .returned (.bool true) ∧ Below wx.heap.size wx w') :
 Calls Tryz.prog 14 #[.agg cs.toArray] w fun e w' => e = .returned (.tuple #[vs (southA (upP p)).1, .int .i64 ((southA (upP p)).2 : Nat)]) ∧ Below w.heap.size w w' := by
 obtain ⟨id, rank, kind, name, value, cond, exc, beg, fin, aga⟩ := p
 obtain ⟨cc, A, cap, cb, cf, ca, hcs, hcap, hcc, hex, hcb, hcf, hca⟩ := hr
 simp only [upP] at hcs hcap hcc hex hcb hcf hca
 have RC := Hi hcc
 have RB := Hi hcb
 have RD := Hi hcf
 have RG := Hi hca
 obtain ⟨oC, nC, dC, mC, ksC⟩ := cond
 rw [up] at hcc
 obtain ⟨KC, qC, rfl, -⟩ := hcc
 obtain ⟨oB, nB, dB, mB, ksB⟩ := beg
 rw [up] at hcb
 obtain ⟨KB, qB, rfl, -⟩ := hcb
 obtain ⟨oD, nD, dD, mD, ksD⟩ := fin
 rw [up] at hcf
 obtain ⟨KD, qD, rfl, -⟩ := hcf
 obtain ⟨oG, nG, dG, mG, ksG⟩ := aga
 rw [up] at hca
 obtain ⟨KG, qG, rfl, -⟩ := hca
 subst hcs
 obtain ⟨rw1, hrw1, hrk⟩ := rank_wordS hok.rank
 simp only at hrw1 hrk
 have hkind := hok.kind
 have hval := hok.value
 have hrank := hok.rank
 simp only at hkind hval hrank
 obtain ⟨kw, hkw⟩ : ∃ kw, (if kind = 1 then [[116, 101, 114, 109], name] else [[113, 117, 101, 115, 116, 105, 111, 110], name, [103, 105, 118, 101, 115], dec value]) = kw := ⟨_, rfl⟩
 have hok1 := hok.excL
 have hfwl : (So.wF (.mk oC nC dC mC ksC)).length ≤ 2000 := by have h1 := So.wF_le (.mk oC nC dC mC ksC); have h2 := hf.cond; simp only at h2; omega
 have hfnl : (namesF (.mk oC nC dC mC ksC)).length ≤ 300 := by have h1 := namesF_le (.mk oC nC dC mC ksC); have h2 := hf.cond; simp only at h2; omega
 have hkl : kw.length ≤ 4 := by rw [← hkw]; split <;> simp
 have HKW := Hi hkw
 obtain ⟨fw, hfw⟩ : ∃ fw, partW (oC != 1) So.wWhere (So.brW (So.wF (.mk oC nC dC mC ksC))) = fw := ⟨_, rfl⟩
 obtain ⟨fn, hfn⟩ : ∃ fn, namesF (.mk oC nC dC mC ksC) = fn := ⟨_, rfl⟩
 have HSC : Hid (shapeF (.mk oC nC dC mC ksC) = true ∧ (Tree.mk oC nC dC mC ksC).size ≤ 1000) := Hi ⟨hok.cond, by have := hf.cond; simp only at this; omega⟩
 have HFW : Hid ((oC = 1 → fw = [] ∧ fn = []) ∧ (oC ≠ 1 → fw = So.wWhere :: So.brW (So.wF (.mk oC nC dC mC ksC)) ∧ fn = namesF (.mk oC nC dC mC ksC))) := Hi (by
  refine ⟨fun e => ?_, fun e => ⟨?_, hfn.symm⟩⟩
  · subst e
    have h1 := HSC.out.1
    rw [shapeF] at h1
    simp only [Bool.and_eq_true] at h1
    have h2 : ksC = [] := by simpa using h1.1.2
    subst h2
    exact ⟨by rw [← hfw]; rfl, by rw [← hfn]; simp [namesF, namesFs]⟩
  · rw [← hfw]; unfold partW; rw [if_pos (by simpa using e)])
 have hfl : fw.length ≤ 2003 := by rw [← hfw]; unfold partW So.brW; split <;> simp; omega
 have hfnl2 : fn.length ≤ 300 := by rw [← hfn]; exact hfnl
 clear hkw hfw hfn hfnl hok1
 have HF := Hi hf
 have HOK := Hi hok
 have HT := Hi ht
 have HB := Hi hb
 have HEX := Hi hex
 have HRW := Hi hrw1
 have HWR := Hi hwr
 simp only [tcX, List.cons_append, List.nil_append] at HWR ⊢
 clear hf hok ht hb hex hrw1 hwr
 have hld := fun o : Unit => loadPv_run (w.alloc (.cells #[vs id, .int .i64 rank, .int .i64 kind, vs name, .int .i64 value, .int .i64 oC, vs nC, .int .i64 dC, .int .i64 mC, .slice KC (ups ksC).length qC, .slice A exc.length cap, .int .i64 oB, vs nB, .int .i64 mB, .slice KB (ups ksB).length qB, .int .i64 oD, vs nD, .int .i64 mD, .slice KD (ups ksD).length qD, .int .i64 oG, vs nG, .int .i64 mG, .slice KG (ups ksG).length qG] 30)) w.heap.size _ (heap_alloc_new w _) rfl
 have hld := hld ()
 go_enter Tryz.func14, Tryz.ntmps14
 go_wp2_with fail
 refine (HWR.out _ (HB.out.trans ((belowA w _).mono HB.out.size))).mono ?_
 rintro e W ⟨rfl, hB2⟩
 have hbx : W.heap[w.heap.size]? = some (.cells #[vs id, .int .i64 rank, .int .i64 kind, vs name, .int .i64 value, .int .i64 oC, vs nC, .int .i64 dC, .int .i64 mC, .slice KC (ups ksC).length qC, .slice A exc.length cap, .int .i64 oB, vs nB, .int .i64 mB, .slice KB (ups ksB).length qB, .int .i64 oD, vs nD, .int .i64 mD, .slice KD (ups ksD).length qD, .int .i64 oG, vs nG, .int .i64 mG, .slice KG (ups ksG).length qG] 30 (0, 0)) := (hB2.block _ (by simp)).trans (heap_alloc_new w _)
 have HBW : Hid (Below w.heap.size w W) := Hi ((belowA w _).trans (hB2.mono (by simp)))
 have hwW := lHp hbx
 obtain ⟨pb, hpb⟩ : ∃ pb, w.heap.size = pb := ⟨_, rfl⟩
 have HB2 : Hid (Below W0.heap.size W0 W) := Hi ((HB.out.trans ((belowA w _).mono HB.out.size)).trans (hB2.mono (by have := HB.out.size; simp; omega)))
 have HTW : Hid (Tabs W) := Hi (HT.out.below HB2.out)
 have HRC : Hid (RdX true W [.int .i64 oC, vs nC, .int .i64 dC, .int .i64 mC, .slice KC (ups ksC).length qC] (up (.mk oC nC dC mC ksC))) := Hi (RC.out.keep HB2.out)
 have HRB : Hid (RdX false W [.int .i64 oB, vs nB, .int .i64 mB, .slice KB (ups ksB).length qB] (up (.mk oB nB dB mB ksB))) := Hi (RB.out.keep HB2.out)
 have HRD : Hid (RdX false W [.int .i64 oD, vs nD, .int .i64 mD, .slice KD (ups ksD).length qD] (up (.mk oD nD dD mD ksD))) := Hi (RD.out.keep HB2.out)
 have HRG : Hid (RdX false W [.int .i64 oG, vs nG, .int .i64 mG, .slice KG (ups ksG).length qG] (up (.mk oG nG dG mG ksG))) := Hi (RG.out.keep HB2.out)
 rw [hpb] at HBW hwW hbx ⊢
 have HCL : Hid (∀ wx, Below W.heap.size W wx → wx.cell? ⟨pb, 0, none⟩ = some (vs id) ∧ wx.cell? ⟨pb, 1, none⟩ = some (.int .i64 rank) ∧ wx.cell? ⟨pb, 2, none⟩ = some (.int .i64 kind) ∧ wx.cell? ⟨pb, 3, none⟩ = some (vs name) ∧ wx.cell? ⟨pb, 4, none⟩ = some (.int .i64 value) ∧ wx.cell? ⟨pb, 5, none⟩ = some (.int .i64 oC) ∧ wx.cell? ⟨pb, 6, none⟩ = some (vs nC) ∧ wx.cell? ⟨pb, 7, none⟩ = some (.int .i64 dC) ∧ wx.cell? ⟨pb, 8, none⟩ = some (.int .i64 mC) ∧ wx.cell? ⟨pb, 9, none⟩ = some (.slice KC (ups ksC).length qC) ∧ wx.cell? ⟨pb, 10, none⟩ = some (.slice A exc.length cap) ∧ pb < wx.heap.size) := Hi (fun wx hx => by
  have hq := (hx.block pb hwW).trans hbx
  exact ⟨cOb (o := 0) hq rfl, cOb (o := 1) hq rfl, cOb (o := 2) hq rfl, cOb (o := 3) hq rfl, cOb (o := 4) hq rfl, cOb (o := 5) hq rfl, cOb (o := 6) hq rfl, cOb (o := 7) hq rfl, cOb (o := 8) hq rfl, cOb (o := 9) hq rfl, cOb (o := 10) hq rfl, lHp hq⟩)
 have HCM : Hid (∀ wx, Below W.heap.size W wx → wx.cell? ⟨pb, 11, none⟩ = some (.int .i64 oB) ∧ wx.cell? ⟨pb, 12, none⟩ = some (vs nB) ∧ wx.cell? ⟨pb, 13, none⟩ = some (.int .i64 mB) ∧ wx.cell? ⟨pb, 14, none⟩ = some (.slice KB (ups ksB).length qB) ∧ wx.cell? ⟨pb, 15, none⟩ = some (.int .i64 oD) ∧ wx.cell? ⟨pb, 16, none⟩ = some (vs nD) ∧ wx.cell? ⟨pb, 17, none⟩ = some (.int .i64 mD) ∧ wx.cell? ⟨pb, 18, none⟩ = some (.slice KD (ups ksD).length qD) ∧ wx.cell? ⟨pb, 19, none⟩ = some (.int .i64 oG) ∧ wx.cell? ⟨pb, 20, none⟩ = some (vs nG) ∧ wx.cell? ⟨pb, 21, none⟩ = some (.int .i64 mG) ∧ wx.cell? ⟨pb, 22, none⟩ = some (.slice KG (ups ksG).length qG) ∧ pb < wx.heap.size) := Hi (fun wx hx => by
  have hq := (hx.block pb hwW).trans hbx
  exact ⟨cOb (o := 11) hq rfl, cOb (o := 12) hq rfl, cOb (o := 13) hq rfl, cOb (o := 14) hq rfl, cOb (o := 15) hq rfl, cOb (o := 16) hq rfl, cOb (o := 17) hq rfl, cOb (o := 18) hq rfl, cOb (o := 19) hq rfl, cOb (o := 20) hq rfl, cOb (o := 21) hq rfl, cOb (o := 22) hq rfl, lHp hq⟩)
 have HBX := Hi hbx
 have HBP := Hi hpb
 clear hbx hB2 hld hpb
 go_upto_region 3 with fail
 go_cut [1, 4] from 0 (fun s1 s4 wc => s1 = .pointer (some ⟨pb, 0, none⟩) ∧ s4 = .pointer (some ⟨W.heap.size, 0, none⟩) ∧ St W wc W.heap.size 74 [] [])
 case first =>
  go_wp2_with fail
  go_meet
  case rel => exact ⟨rfl, rfl, St.start W _⟩
 case rest =>
  obtain ⟨rfl, rfl, hS⟩ := hcut
  have HS := Hi hS
  obtain ⟨c0, c1, c2, c3, c4, c5, c6, c7, c8, c9, c10, cl⟩ := HCL.out _ hS.below
  clear hS
  go_upto_if 17 with fail
  go_cut [1, 4] from 0 (fun s1 s4 wc => s1 = .pointer (some ⟨pb, 0, none⟩) ∧ s4 = .pointer (some ⟨W.heap.size, 0, none⟩) ∧ St W wc W.heap.size 74 fw fn)
  case first =>
   by_cases hop : oC = 1
   · subst hop
     go_wp2_with fail
     go_meet
     case rel => exact ⟨rfl, rfl, by have h1 := (HFW.out.1 (by first | rfl | trivial)); rw [h1.1, h1.2]; exact HS.out⟩
   · have h1 := HFW.out.2 hop
     have H1 := Hi h1
     have hop2 : ¬ ((oC : Int) = 1) := by omega
     clear h1
     go_wp2_with fail
     (refine (word2_s W _ _ _ _ _ _ _ _ (by simp) HS.out (by first | omega | (simp; omega) | simp)).mono ?_; rintro e w9 ⟨rfl, hS⟩; clear c0 c1 c2 c3 c4 c5 c6 c7 c8 c9 c10 cl; obtain ⟨c0, c1, c2, c3, c4, c5, c6, c7, c8, c9, c10, cl⟩ := HCL.out _ hS.below; have HS9 := Hi hS; clear HS hS; have HS := HS9; clear HS9)
     go_wp2_with fail
     (refine (scond_s W _ HTW.out _ _ _ _ _ _ HSC.out.1 HSC.out.2 (by first | omega | (simp; omega) | simp) (by simp) HRC.out HS.out).mono ?_; rintro e w9 ⟨rfl, hS⟩; clear c0 c1 c2 c3 c4 c5 c6 c7 c8 c9 c10 cl; obtain ⟨c0, c1, c2, c3, c4, c5, c6, c7, c8, c9, c10, cl⟩ := HCL.out _ hS.below; have HS9 := Hi hS; clear HS hS; have HS := HS9; clear HS9)
     go_wp2_with fail
     (refine (word_s W _ _ _ _ _ _ _ (by simp) HS.out (by first | omega | (simp; omega))).mono ?_; rintro e w9 ⟨rfl, hS⟩; clear c0 c1 c2 c3 c4 c5 c6 c7 c8 c9 c10 cl; obtain ⟨c0, c1, c2, c3, c4, c5, c6, c7, c8, c9, c10, cl⟩ := HCL.out _ hS.below; have HS9 := Hi hS; clear HS hS; have HS := HS9; clear HS9)
     go_wp2_with fail
     go_meet
     case rel => exact ⟨rfl, rfl, by rw [H1.out.1, H1.out.2]; have := HS.out; unfold So.brW; simpa using this⟩
  case rest =>
   obtain ⟨rfl, rfl, hS⟩ := hcut
   have HS := Hi hS
   obtain ⟨c0, c1, c2, c3, c4, c5, c6, c7, c8, c9, c10, cl⟩ := HCL.out _ hS.below
   clear hS
   go_upto_if 29 with fail
   go_cut [1, 4] from 0 (fun s1 s4 wc => s1 = .pointer (some ⟨pb, 0, none⟩) ∧ s4 = .pointer (some ⟨W.heap.size, 0, none⟩) ∧ St W wc W.heap.size 74 (fw ++ kw) (fn ++ [name]))
   case first =>
    rcases hkind with ⟨rfl, rfl⟩ | rfl
    all_goals
     go_wp2_with (first | (go_at_call 27; refine (word_s W _ _ _ _ _ _ _ (by simp) HS.out (by first | omega | (simp; omega))).mono ?_; rintro e w9 ⟨rfl, hS⟩; clear c0 c1 c2 c3 c4 c5 c6 c7 c8 c9 c10 cl; obtain ⟨c0, c1, c2, c3, c4, c5, c6, c7, c8, c9, c10, cl⟩ := HCL.out _ hS.below; have HS9 := Hi hS; clear HS hS; have HS := HS9; clear HS9) | (go_at_call 28; refine (name_s W _ _ _ _ _ _ HS.out (by first | omega | (simp; omega)) (by first | omega | (simp; omega))).mono ?_; rintro e w9 ⟨rfl, hS⟩; clear c0 c1 c2 c3 c4 c5 c6 c7 c8 c9 c10 cl; obtain ⟨c0, c1, c2, c3, c4, c5, c6, c7, c8, c9, c10, cl⟩ := HCL.out _ hS.below; have HS9 := Hi hS; clear HS hS; have HS := HS9; clear HS9) | (go_at_call 45; refine (many_s W _ _ _ _ _ _ _ HS.out hval (by first | omega | (simp; omega)) HTW.out).mono ?_; rintro e w9 ⟨rfl, hS⟩; clear c0 c1 c2 c3 c4 c5 c6 c7 c8 c9 c10 cl; obtain ⟨c0, c1, c2, c3, c4, c5, c6, c7, c8, c9, c10, cl⟩ := HCL.out _ hS.below; have HS9 := Hi hS; clear HS hS; have HS := HS9; clear HS9))
     go_meet
     case rel => exact ⟨rfl, rfl, by rw [← HKW.out]; have := HS.out; simpa using this⟩
   case rest =>
    obtain ⟨rfl, rfl, hS⟩ := hcut
    obtain ⟨L3, hL3⟩ : ∃ L3, fw ++ kw = L3 := ⟨_, rfl⟩
    obtain ⟨N3, hN3⟩ : ∃ N3, fn ++ [name] = N3 := ⟨_, rfl⟩
    have hL3l : L3.length ≤ 2900 := by rw [← hL3]; simp; omega
    have hN3l : N3.length ≤ 1000 := by rw [← hN3]; simp; omega
    rw [hL3, hN3] at hS
    have HL3 := Hi hL3
    have HN3 := Hi hN3
    have HS := Hi hS
    obtain ⟨c0, c1, c2, c3, c4, c5, c6, c7, c8, c9, c10, cl⟩ := HCL.out _ hS.below
    clear hS hL3 hN3
    have hexl : exc.length ≤ 20 := HOK.out.excL
    go_upto_if 50 with fail
    go_cut [1, 4] from 0 (fun s1 s4 wc => s1 = .pointer (some ⟨pb, 0, none⟩) ∧ s4 = .pointer (some ⟨W.heap.size, 0, none⟩) ∧ St W wc W.heap.size 74 (L3 ++ So.excW exc) (N3 ++ exc))
    case first =>
     by_cases hex0 : exc = []
     · subst hex0
       go_wp2_with fail
       go_meet
       case rel => exact ⟨rfl, rfl, by rw [show So.excW [] = [] from rfl, List.append_nil, List.append_nil]; exact HS.out⟩
     · have hep : (0 : Int) < (exc.length : Int) := by have := List.length_pos_iff.2 hex0; omega
       have HEX0 := Hi hex0
       clear hex0
       go_wp2_with fail
       (refine (word2_s W _ _ _ _ _ _ _ _ (by simp) HS.out (by first | omega | (simp; omega) | simp)).mono ?_; rintro e w9 ⟨rfl, hS⟩; clear c0 c1 c2 c3 c4 c5 c6 c7 c8 c9 c10 cl; obtain ⟨c0, c1, c2, c3, c4, c5, c6, c7, c8, c9, c10, cl⟩ := HCL.out _ hS.below; have HS9 := Hi hS; clear HS hS; have HS := HS9; clear HS9)
       go_wp2_with fail
       refine sloop1 _ W _ pb _ N3 A exc cap (HEX.out.below HB2.out) hexl (by simp; omega) hN3l HS.out _ _ _ _ _ _ _ _ _ _ _ _ _ _ _ _ _ _ _ _ _ _ _ _ _ _ _ _ _ _ _ _ _ _ _ _ _ _ _ _ _ _ _ _ _ _ _ _ _ _ _ _ _ _ _ _ _ _ _ _ _ _ _ _ _ _ _ _ _ _ _ _ _ _ _ _ _ _ _ _ _ _ _ _ _ _ _ _ _ _ _ _ _ _ _ _ _ _ _ _ _ _ _ _ _ _ _ _ _ _ _ _ _ _ _ _ _ _ _ ?_
       intro x6 x58 x59 x60 x61 x62 x63 x64 wx hS
       clear c0 c1 c2 c3 c4 c5 c6 c7 c8 c9 c10 cl HS
       have HS := Hi hS
       obtain ⟨c0, c1, c2, c3, c4, c5, c6, c7, c8, c9, c10, cl⟩ := HCL.out _ hS.below
       clear hS
       dsimp only
       go_wp2_with fail
       refine (word_s W _ _ _ _ _ _ _ (by simp) HS.out (by simp; omega)).mono ?_
       rintro e w9 ⟨rfl, hS⟩
       have HS9 := Hi hS
       clear hS c0 c1 c2 c3 c4 c5 c6 c7 c8 c9 c10 cl
       go_wp2_with fail
       go_meet
       case rel => exact ⟨rfl, rfl, by have := HS9.out; unfold So.excW; rw [if_neg HEX0.out]; simpa using this⟩
    case rest =>
     obtain ⟨rfl, rfl, hS⟩ := hcut
     have hxl : (So.excW exc).length ≤ exc.length + 3 := by unfold So.excW; split <;> simp
     obtain ⟨L4, hL4⟩ : ∃ L4, L3 ++ So.excW exc = L4 := ⟨_, rfl⟩
     obtain ⟨N4, hN4⟩ : ∃ N4, N3 ++ exc = N4 := ⟨_, rfl⟩
     have hL4l : L4.length ≤ 4000 := by rw [← hL4, List.length_append]; omega
     have hN4l : N4.length ≤ 2000 := by rw [← hN4, List.length_append]; omega
     rw [hL4, hN4] at hS
     clear c0 c1 c2 c3 c4 c5 c6 c7 c8 c9 c10 cl HS
     have HS := Hi hS
     obtain ⟨c11, c12, c13, c14, c15, c16, c17, c18, c19, c20, c21, c22, cm⟩ := HCM.out _ hS.below
     have HL4 := Hi hL4
     have HN4 := Hi hN4
     clear hS hL4 hN4 hxl hexl hL3l hN3l
     go_wp2_with fail
     have hZ := HF.out
     refine sloop2 _ W _ pb L4 N4 oB nB dB mB KB ksB qB oD nD dD mD KD ksD qD oG nG dG mG KG ksG qG _ (fun _ => by kernel_rfl) (fun _ => by kernel_rfl) (fun _ => by kernel_rfl) HTW.out HRB.out HOK.out.beg hZ.beg HRD.out HOK.out.fin hZ.fin HRG.out HOK.out.aga hZ.aga (by omega) hN4l HS.out _ _ _ _ _ _ _ _ _ _ _ _ _ _ _ _ _ _ _ _ _ _ _ _ _ _ _ _ _ _ _ _ _ _ _ _ _ _ _ _ _ _ _ _ _ _ _ _ _ _ _ _ _ _ _ _ _ _ _ _ _ _ _ _ _ _ _ _ _ _ _ _ _ _ _ _ _ _ _ _ _ _ _ _ _ _ _ _ _ _ _ _ _ _ _ _ _ _ _ _ _ _ _ _ _ _ _ _ _ _ _ _ _ _ _ _ _ _ _ _ ?_
     intro y7 y8 y9 y76 y77 y78 y79 y80 y81 y82 y83 y84 y85 y86 y87 y88 y89 y90 y91 y92 y93 y94 y95 y96 wy hS
     obtain ⟨L5, hL5⟩ : ∃ L5, L4 ++ (partW (oB != 1) So.wStarts (So.brW (So.wS (.mk oB nB dB mB ksB))) ++ partW (oD != 2) So.wEnds (So.brW (So.wS (.mk oD nD dD mD ksD))) ++ partW (oG != 2) So.wRet (So.brW (So.wS (.mk oG nG dG mG ksG)))) = L5 := ⟨_, rfl⟩
     obtain ⟨N5, hN5⟩ : ∃ N5, N4 ++ (namesS (.mk oB nB dB mB ksB) ++ namesS (.mk oD nD dD mD ksD) ++ namesS (.mk oG nG dG mG ksG)) = N5 := ⟨_, rfl⟩
     rw [hL5, hN5] at hS
     have HS5 := Hi hS
     have HEND := Hi (south_end (p := ⟨id, rank, kind, name, value, .mk oC nC dC mC ksC, exc, .mk oB nB dB mB ksB, .mk oD nD dD mD ksD, .mk oG nG dG mG ksG⟩) (rw1 := rw1) (kw := kw) (fw := fw) (fn := fn) HOK.out HF.out HRW.out HKW.out HFW.out HL3.out HN3.out HL4.out HN4.out hL5 hN5)
     clear hS hL5 hN5 HS c11 c12 c13 c14 c15 c16 c17 c18 c19 c20 c21 c22 cm
     dsimp only
     simp only [Exit.inBlock, Exit.then, if_true]
     refine (by assumption : ∀ (a : Act) (w : World), Code.wp Tryz.prog stail _ a w → _) _ _ ?_
     obtain ⟨e1, e2, e3, e4, e5, e6⟩ := HEND.out
     refine send _ W _ L5 N5 HTW.out e4 e5 _ rank id rw1 pb hrank hrk (fun wx hx => ⟨(HCL.out wx hx).1, (HCL.out wx hx).2.1, (HCM.out wx hx).2.2.2.2.2.2.2.2.2.2.2.2⟩) e1 e2 e3 HS5.out _ _ _ _ _ _ _ _ _ _ _ _ _ _ _ _ _ _ _ _ _ _ _ _ _ _ _ _ _ _ _ _ _ _ _ _ _ _ _ _ _ _ _ _ _ _ _ _ _ _ _ _ _ _ _ _ _ _ _ _ _ _ _ _ _ _ _ _ _ _ _ _ _ _ _ _ _ _ _ _ _ _ _ _ _ _ _ _ _ _ _ _ _ _ _ _ _ _ _ _ _ _ _ _ _ _ _ _ _ _ _ _ _ _ _ _ _ _ _ _ _ _ ?_
     intro z10 z97 z98 z99 z100 z101 z102 z103 z104 z105 z106 z107 z108 z109 z110 z111 z112 z113 z114 z115 z116 z117 z118 z119 z120 z121 z122 z123 wz hz
     dsimp only
     refine bodyPost_ret (v := .tuple #[vs (textA (setF So.keyWords) (N5 ++ [id]) (replF [40, 91] [41, 93] (joinB _))).1, .int .i64 ((textA (setF So.keyWords) (N5 ++ [id]) (replF [40, 91] [41, 93] (joinB _))).2 : Nat)]) (by simp [results, Tryz.results14, go_sem]; exact ⟨rfl, rfl⟩) rfl ⟨by rw [e6], ?_⟩
     rw [HBP.out]
     exact HBW.out.trans (hz.mono (by rw [← HBP.out]; exact HBW.out.size))
/- what cannot be written -/
theorem psouth_no (W0 w : World) (C : Array Value) (hr : C.size = 23) (hb : Below W0.heap.size W0 w) (hwr : ∀ wx, Below W0.heap.size W0 wx → Calls Tryz.prog 26 #[.agg C] wx fun e w' => e = .returned (.bool false) ∧ Below wx.heap.size wx w') :
 Calls Tryz.prog 14 #[.agg C] w fun e w' => e = .returned (.tuple #[vs [], .int .i64 1]) ∧ Below w.heap.size w w' := by
 have hld := loadPv_run (w.alloc (.cells C 30)) w.heap.size C (heap_alloc_new w _) hr
 have HWR := Hi hwr
 have HB := Hi hb
 clear hr hwr hb
 go_enter Tryz.func14, Tryz.ntmps14
 go_wp2_with fail
 refine (HWR.out _ (HB.out.trans ((belowA w _).mono HB.out.size))).mono ?_
 rintro e W ⟨rfl, hB2⟩
 have HB2 := Hi hB2
 clear hB2 hld
 go_wp2_with fail
 exact bodyPost_ret (v := .tuple #[vs [], .int .i64 1]) (by simp [results, Tryz.results14, go_sem]) rfl ⟨rfl, (belowA w _).trans (HB2.out.mono (by simp))⟩
/- printer.South -/
theorem south_p (W w : World) (cs : List Value) (P : ProvI) (hr : RdPX W cs P) (hb : Below W.heap.size W w) (ht : Tabs W) (hp : plainP P) (hf : FewP P) :
 Calls Tryz.prog 14 #[.agg cs.toArray] w fun e w' => e = .returned (.tuple #[vs (southA P).1, .int .i64 ((southA P).2 : Nat)]) ∧ Below w.heap.size w w' := by
 have hw := fun wx hx => writ_any W wx cs P hr hx (by have := hf.cond; omega) (fun t h => by
  simp only [List.mem_cons, List.not_mem_nil, or_false] at h
  have := hf.beg
  have := hf.fin
  have := hf.aga
  rcases h with rfl | rfl | rfl <;> omega) (by have := hf.exc; omega) (fun s hs => by have := hf.names s (by unfold namesI; simp [hs]); omega)
 cases he : writtenI P with
 | true =>
   obtain ⟨e, hok⟩ := written_down hp he
   have := psouth_ok W w cs (downP P) (by rw [← e]; exact hr) hb ht hok (hf.down e) (fun wx hx => by rw [← he]; exact hw wx hx)
   rw [← e] at this
   exact this
 | false =>
   rw [(ans_arg he).2]
   exact psouth_no W w _ (by rw [List.size_toArray]; exact hr.len) hb (fun wx hx => by rw [← he]; exact hw wx hx)
end Go.Proofs.YtbicmjmcdnkjhaaGreatDoor

set_option maxRecDepth 20000
set_option maxHeartbeats 4000000
namespace Go.Proofs.YtbicmjmcdnkjhaaGreatDoor
open Go.RowKit
def letN (n : Nat) : Bool := (decide (97 ≤ n) && decide (n ≤ 122)) || (decide (65 ≤ n) && decide (n ≤ 90))
def digN (n : Nat) : Bool := n == 95 || (decide (48 ≤ n) && decide (n ≤ 57))
theorem letterB_n (c : UInt8) : letterB c = letN c.toNat := by
 unfold letterB letN
 rw [Bool.eq_iff_iff]
 simp [UInt8.le_iff_toNat_le]
theorem wordB_n (c : UInt8) : wordB c = (letN c.toNat || digN c.toNat) := by
 unfold wordB
 rw [letterB_n]
 unfold digitB digN
 rw [Bool.eq_iff_iff]
 simp [UInt8.le_iff_toNat_le, ← UInt8.toNat_inj]
 constructor
 · rintro ((h | h) | h)
   · exact Or.inl h
   · exact Or.inr (Or.inr h)
   · exact Or.inr (Or.inl h)
 · rintro (h | h | h)
   · exact Or.inl (Or.inl h)
   · exact Or.inr h
   · exact Or.inl (Or.inr h)
/- what is left to be looked at from k on -/
def nmFrom (s : Bytes) (k : Nat) : Bool := if k = 0 then (match s with | [] => true | c :: r => letterB c && r.all wordB) else (s.drop k).all wordB
theorem nmFrom_end (s : Bytes) : nmFrom s s.length = true := by
 unfold nmFrom
 split
 · rename_i h
   have : s = [] := List.length_eq_zero_iff.1 h
   subst this
   rfl
 · simp
theorem nmFrom_zero {s : Bytes} {c : UInt8} (h : s[0]? = some c) : nmFrom s 0 = (letterB c && nmFrom s 1) := by
 cases s with
 | nil => cases h
 | cons a r =>
   cases h
   simp [nmFrom]
theorem nmFrom_succ {s : Bytes} {k : Nat} {c : UInt8} (hk : 0 < k) (h : s[k]? = some c) : nmFrom s k = (wordB c && nmFrom s (k + 1)) := by
 obtain ⟨h1, rfl⟩ := List.getElem?_eq_some_iff.1 h
 unfold nmFrom
 rw [if_neg (by omega), if_neg (by omega), List.drop_eq_getElem_cons h1, List.all_cons]
theorem nameB_from (s : Bytes) : nameB s = (nmFrom s 0 && (decide (0 < s.length) && decide (s.length ≤ 24))) := by
 unfold nameB nmFrom
 cases s with
 | nil => rfl
 | cons c r =>
   rw [Bool.eq_iff_iff]
   simp [wordB]
   intros
   rename_i h _
   exact Or.inl (Or.inl h)
theorem rName_any (s : Bytes) (w : World) (hs : s.length ≤ 1000000) : Calls Tryz.prog 74 #[vs s] w fun e w' => e = .returned (.bool (nameB s)) ∧ w = w' := by
 obtain ⟨B, hB⟩ : ∃ B, nameB s = B := ⟨_, rfl⟩
 have HB := Hi ((nameB_from s).symm.trans hB)
 rw [hB]
 clear hB
 go_enter Tryz.func74, Tryz.ntmps74
 go_wp2_with fail
 go_loop [3, 4] (fun v3 v4 => ∃ k : Nat, k ≤ s.length ∧ v3 = .int .i64 k ∧ (nmFrom s k && (decide (0 < s.length) && decide (s.length ≤ 24))) = B) (fun v3 _ => s.length - (intOf v3).toNat)
 case atStart => exact ⟨0, Nat.zero_le _, rfl, HB.out⟩
 case round =>
  obtain ⟨k, hk, rfl, heq⟩ := hrel
  have HEQ := Hi heq
  clear heq
  by_cases hlt : k < s.length
  · obtain ⟨c, hx⟩ := gLt hlt
    have hb := byte_at hx
    have hk1 : (k : Int) < s.length := by omega
    have hk0 : (0 : Int) ≤ k := by omega
    have HX := Hi hx
    have HL := Hi (letterB_n c)
    have HW := Hi (wordB_n c)
    clear hx
    obtain ⟨n, hn⟩ : ∃ n, c.toNat = n := ⟨_, rfl⟩
    rw [hn] at HL HW
    obtain ⟨V, hV⟩ : ∃ V, (if k = 0 then letterB c else wordB c) = V := ⟨_, rfl⟩
    have hP : V = true ↔ (97 ≤ n ∧ n ≤ 122) ∨ (65 ≤ n ∧ n ≤ 90) ∨ (k ≠ 0 ∧ (n = 95 ∨ (48 ≤ n ∧ n ≤ 57))) := by
     rw [← hV, HL.out, HW.out]
     unfold letN digN
     by_cases h0 : k = 0
     · rw [if_pos h0]; simp [h0]
     · rw [if_neg h0]; simp [h0, or_assoc]
    have hS : (V && nmFrom s (k + 1) && (decide (0 < s.length) && decide (s.length ≤ 24))) = B := by
     rw [← HEQ.out, ← hV]
     by_cases h0 : k = 0
     · subst h0; rw [if_pos rfl, nmFrom_zero HX.out]
     · rw [if_neg h0, nmFrom_succ (by omega) HX.out]
    have HS := Hi hS
    have HP := Hi hP
    clear hV hP hS HL HW HX HEQ
    cases V with
    | false =>
      have HF : Hid (B = false) := Hi (by rw [← HS.out]; rfl)
      have HP : Hid (¬ ((97 ≤ n ∧ n ≤ 122) ∨ (65 ≤ n ∧ n ≤ 90) ∨ (k ≠ 0 ∧ (n = 95 ∨ (48 ≤ n ∧ n ≤ 57))))) := Hi (fun h => by have := HP.out.2 h; cases this)
      by_cases j0 : k = 0 <;> by_cases i0 : (97 : Int) ≤ n <;> by_cases i1 : (n : Int) ≤ 122 <;> by_cases i2 : (65 : Int) ≤ n <;> by_cases i3 : (n : Int) ≤ 90 <;> by_cases i4 : (n : Int) < 48 <;> by_cases i5 : (57 : Int) < n
      all_goals try (exfalso; have := HP.out; omega)
      all_goals
       have j1 : ¬ (k = 0) → ((k : Int) == 0) = false := fun _ => by simp; omega
       have j2 : ¬ (k = 0) → ((n : Int) != 95) = true := fun _ => by simp; have := HP.out; omega
       have j3 : ¬ (k = 0) → ¬ ((n : Int) = 95) := fun _ => by have := HP.out; omega
       clear HP
       first
       | (subst j0; clear j1 j2 j3)
       | (have j1 := j1 j0; have j2 := j2 j0; have j3 := j3 j0)
       go_wp2_with fail
       go_ret
       exact ⟨by rw [HF.out]; rfl, rfl⟩
    | true =>
      have HP := Hi (HP.out.1 rfl)
      have HS : Hid ((nmFrom s (k + 1) && (decide (0 < s.length) && decide (s.length ≤ 24))) = B) := Hi (by rw [← HS.out, Bool.true_and])
      by_cases j6 : (n : Int) = 95
      · have j0 : ¬ (k = 0) := by have := HP.out; omega
        have j1 : ((k : Int) == 0) = false := by simp; omega
        obtain rfl : n = 95 := by omega
        go_wp2_with fail
        exact ⟨⟨k + 1, hlt, by go_num, HS.out⟩, by simp [intOf]; omega⟩
      by_cases i0 : (97 : Int) ≤ n <;> by_cases i1 : (n : Int) ≤ 122 <;> by_cases i2 : (65 : Int) ≤ n <;> by_cases i3 : (n : Int) ≤ 90 <;> by_cases i4 : (n : Int) < 48 <;> by_cases i5 : (57 : Int) < n
      all_goals try (exfalso; have := HP.out; omega)
      all_goals
       have j2 : ((n : Int) != 95) = true := by simp; omega
       have j1 : n ≤ 57 → ((k : Int) == 0) = false := fun _ => by simp; have := HP.out; omega
       first
       | (have j1 := j1 (by omega); clear HP)
       | clear j1 HP
       go_wp2_with fail
       exact ⟨⟨k + 1, hlt, by go_num, HS.out⟩, by simp [intOf]; omega⟩
  · have : k = s.length := by omega
    subst this
    have hk1 : ¬ ((s.length : Nat) : Int) < s.length := by omega
    rw [nmFrom_end, Bool.true_and] at HEQ
    rcases Nat.eq_zero_or_pos s.length with h0 | h0
    · have HF : Hid (B = false) := Hi (by rw [← HEQ.out, h0]; rfl)
      have h1 : ¬ (0 : Int) < s.length := by omega
      clear h0
      go_wp2_with fail
      go_ret
      exact ⟨by rw [HF.out]; rfl, rfl⟩
    · have h1 : (0 : Int) < s.length := by omega
      by_cases h2 : s.length ≤ 24
      · have HF : Hid (B = true) := Hi (by rw [← HEQ.out]; simp; omega)
        have h3 : (s.length : Int) ≤ 24 := by omega
        clear h0 h2
        go_wp2_with fail
        go_ret
        exact ⟨by rw [HF.out]; rfl, rfl⟩
      · have HF : Hid (B = false) := Hi (by rw [← HEQ.out]; simp; omega)
        have h3 : ¬ (s.length : Int) ≤ 24 := by omega
        clear h0 h2
        go_wp2_with fail
        go_ret
        exact ⟨by rw [HF.out]; rfl, rfl⟩
end Go.Proofs.YtbicmjmcdnkjhaaGreatDoor
