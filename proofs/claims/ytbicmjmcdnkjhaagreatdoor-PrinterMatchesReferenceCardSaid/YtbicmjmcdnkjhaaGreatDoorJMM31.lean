/- printer.North: a provision written. -/
import Derived.Test.YtbicmjmcdnkjhaaGreatDoorJMM1
import Derived.Test.YtbicmjmcdnkjhaaGreatDoorJMM29
import Derived.Test.YtbicmjmcdnkjhaaGreatDoorJMM6
import Derived.Test.YtbicmjmcdnkjhaaGreatDoorJMM30
import Derived.Deep.CutRange
import Derived.StillTailTactics
import Derived.Deep.MidRow
import Derived.Deep.RegionHeld3
set_option linter.unusedVariables false
set_option linter.unusedSimpArgs false
set_option maxRecDepth 100000
set_option maxHeartbeats 16000000
namespace Go.Proofs.YtbicmjmcdnkjhaaGreatDoor
open Go.RowKit
attribute [local go_sem ↓] Go.wp_at_zero Go.wp_at_succ
def loadPv (a : Addr) : Sem Value := loadVar 30 a
@[local go_sem ↓ high] theorem loadVar_pv_fold (a : Addr) : loadVar 30 a = loadPv a := by rw [loadPv]
theorem loadPv_run (w : World) (b : Nat) (C : Array Value) (h : w.heap[b]? = some (.cells C 30 (0, 0))) (hs : C.size = 23) : (loadPv ⟨b, 0, none⟩).run Tryz.prog w = .ok (.agg C) w := by
 have := run_loadVar_mid (P := Tryz.prog) w b 0 30 C.toList _ (fun j v hv => by rw [Nat.zero_add]; exact cOb h (by simpa using hv)) Tryz.underlying30 rfl (by rw [Array.length_toList, hs]; kernel_rfl)
 rwa [Array.toArray_toList] at this
structure FewN (p : Prov) : Prop where
 cond : p.cond.size ≤ 300
 beg : p.beg.size ≤ 300
 fin : p.fin.size ≤ 300
 aga : p.aga.size ≤ 300
 names : ∀ s ∈ namesP p, s.length ≤ 60
theorem rank_word {r : Nat} (h : 1 ≤ r ∧ r ≤ 4) : ∃ s : Bytes, ranksN.getD (r - 1) [] = s ∧ ∀ w, (Instr.index 54 (.agg #[vs [], vs [99, 111, 110, 115, 116, 105, 116, 117, 116, 105, 111, 110], vs [97, 99, 116], vs [114, 101, 103, 117, 108, 97, 116, 105, 111, 110], vs [98, 121, 108, 97, 119]]) (.int .i64 (r : Int))).run Tryz.prog w = .ok (vs s) w := by
 have : r = 1 ∨ r = 2 ∨ r = 3 ∨ r = 4 := by omega
 rcases this with rfl | rfl | rfl | rfl <;> exact ⟨_, rfl, fun _ => by kernel_rfl⟩
theorem form_triv' : ∀ {t : Tree}, shapeF t = true → t.op = 1 → namesF t = []
 | .mk o nm d m ks, h, ho => by
   simp only [Tree.op] at ho
   subst ho
   exact form_triv h
theorem wP_len {p : Prov} (hok : WrOk p) (hf : FewN p) : (wP p).length ≤ 10000 := by
 have a1 := wS_le p.beg
 have a2 := wS_le p.fin
 have a3 := wS_le p.aga
 have a4 := wF_le p.cond
 have a5 := excW_len p.exc
 have a6 := hok.excL
 have := hf.cond
 have := hf.beg
 have := hf.fin
 have := hf.aga
 have b1 := part_le (p.cond.op != 1) wIf (wF p.cond)
 have b2 := part_le (p.beg.op != 1) wFrom (wS p.beg)
 have b3 := part_le (p.fin.op != 2) wUntil (wS p.fin)
 have b4 := part_le (p.aga.op != 2) wAgain (wS p.aga)
 have b5 : (kindW p).length ≤ 4 := by unfold kindW; split <;> simp
 unfold wP tail0 tail1 tail2 tail3
 simp only [List.length_append, List.length_cons, List.length_nil]
 omega
theorem north_end {p : Prov} {rw1 : Bytes} {kw fw fn L3 N3 L4 N4 L5 N5 : List Bytes} (hok : WrOk p) (hf : FewN p) (h1 : ranksN.getD (p.rank - 1) [] = rw1) (h2 : (if p.kind = 1 then [[100, 101, 102, 105, 110, 101], p.name] else [[97, 110, 115, 119, 101, 114], p.name, [105, 115], dec p.value]) = kw)
 (h3 : (p.cond.op = 1 → fw = [] ∧ fn = []) ∧ (p.cond.op ≠ 1 → fw = wIf :: wF p.cond ∧ fn = namesF p.cond)) (h4 : [rw1, p.id, [58]] ++ kw ++ fw = L3) (h5 : [p.id, p.name] ++ fn = N3) (h6 : L3 ++ excW p.exc = L4) (h7 : N3 ++ p.exc = N4)
 (h8 : L4 ++ (partW (p.beg.op != 1) wFrom (wS p.beg) ++ partW (p.fin.op != 2) wUntil (wS p.fin) ++ partW (p.aga.op != 2) wAgain (wS p.aga)) = L5) (h9 : N4 ++ (namesS p.beg ++ namesS p.fin ++ namesS p.aga) = N5) :
 L5 ++ [[46]] = wP p ∧ (∀ s ∈ N5, s.length ≤ 1000000) ∧ (joinB (wP p)).length ≤ 1000000000 ∧ L5.length ≤ 900000 ∧ N5.length ≤ 900000 ∧ textA (setF keyWords) N5 (replF [40] [58, 44, 46, 41] (joinB (wP p))) = northA (upP p) := by
 have hn : ∀ s, s ∈ N5 ↔ s ∈ namesP p := by
  intro s
  rw [← h9, ← h7, ← h5]
  have : s ∈ fn ↔ s ∈ namesF p.cond := by
   by_cases hop : p.cond.op = 1
   · rw [(h3.1 hop).2, form_triv' hok.cond hop]
   · rw [(h3.2 hop).2]
  unfold namesP
  simp only [List.mem_append, List.mem_cons, this, List.not_mem_nil, or_false]
  constructor
  · rintro ((((h | h) | h) | h) | ((h | h) | h)) <;> simp [h]
  · rintro (h | h | h | h | h | h | h) <;> simp [h]
 have hl : L5 ++ [[46]] = wP p := by
  rw [← h8, ← h6, ← h4, ← h2, ← h1]
  unfold wP tail0 tail1 tail2 tail3 kindW
  have : fw = partW (p.cond.op != 1) wIf (wF p.cond) := by
   by_cases hop : p.cond.op = 1
   · rw [(h3.1 hop).1, hop]; rfl
   · rw [(h3.2 hop).1]; unfold partW; rw [if_pos (by simpa using hop)]
  rw [this]
  simp only [List.append_assoc, List.cons_append, List.nil_append]
 have hsh : ∀ s ∈ namesP p, Sh s := fun s hs => hf.names s hs
 have hj := join_len (wP p) (sh_P hok hsh)
 have hw := wP_len hok hf
 refine ⟨hl, fun s hs => by have := hf.names s ((hn s).1 hs); omega, by omega, ?_, ?_, ?_⟩
 · have : (wP p).length = L5.length + 1 := by rw [← hl]; simp
   omega
 · have a1 := namesS_le p.beg
   have a2 := namesS_le p.fin
   have a3 := namesS_le p.aga
   have a4 := namesF_le p.cond
   have a5 := hok.excL
   have := hf.cond
   have := hf.beg
   have := hf.fin
   have := hf.aga
   have hfn : fn.length ≤ 300 := by
    by_cases hop : p.cond.op = 1
    · rw [(h3.1 hop).2]; simp
    · rw [(h3.2 hop).2]; omega
   rw [← h9, ← h7, ← h5]
   simp only [List.length_append, List.length_cons, List.length_nil]
   omega
 · refine textA_north hok (fun f => ?_)
   rw [Bool.eq_iff_iff, List.all_eq_true, List.all_eq_true]
   exact ⟨fun h s hs => h s ((hn s).2 hs), fun h s hs => h s ((hn s).1 hs)⟩
theorem pnorth_ok (W0 w : World) (cs : List Value) (p : Prov) (hr : RdPX W0 cs (upP p)) (hb : Below W0.heap.size W0 w) (ht : Tabs W0) (hok : WrOk p) (hf : FewN p) (hwr : ∀ wx, Below W0.heap.size W0 wx → Calls Tryz.prog 26 #[.agg cs.toArray] wx fun e w' => e = .returned (.bool true) ∧ Below wx.heap.size wx w') :
 Calls Tryz.prog 12 #[.agg cs.toArray] w fun e w' => e = .returned (.tuple #[vs (northA (upP p)).1, .int .i64 ((northA (upP p)).2 : Nat)]) ∧ Below w.heap.size w w' := by
 obtain ⟨id, rank, kind, name, value, cond, exc, beg, fin, aga⟩ := p
 obtain ⟨cc, A, cap, cb, cf, ca, hcs, hcap, hcc, hex, hcb, hcf, hca⟩ := hr
 simp only [upP] at hcs hcap hcc hex hcb hcf hca
 have RC := Hi hcc
 have RB := Hi hcb
 have RD := Hi hcf
 have RG := Hi hca
 obtain ⟨oC, nC, dC, mC, ksC⟩ := cond
 rw [up] at hcc
 obtain ⟨KC, qC, rfl, -⟩ := hcc
 obtain ⟨oB, nB, dB, mB, ksB⟩ := beg
 rw [up] at hcb
 obtain ⟨KB, qB, rfl, -⟩ := hcb
 obtain ⟨oD, nD, dD, mD, ksD⟩ := fin
 rw [up] at hcf
 obtain ⟨KD, qD, rfl, -⟩ := hcf
 obtain ⟨oG, nG, dG, mG, ksG⟩ := aga
 rw [up] at hca
 obtain ⟨KG, qG, rfl, -⟩ := hca
 subst hcs
 obtain ⟨rw1, hrw1, hrk⟩ := rank_word hok.rank
 simp only at hrw1 hrk
 have hkind := hok.kind
 have hval := hok.value
 have hrank := hok.rank
 simp only at hkind hval hrank
 obtain ⟨kw, hkw⟩ : ∃ kw, (if kind = 1 then [[100, 101, 102, 105, 110, 101], name] else [[97, 110, 115, 119, 101, 114], name, [105, 115], dec value]) = kw := ⟨_, rfl⟩
 have hok1 := hok.excL
 have hfwl : (wF (.mk oC nC dC mC ksC)).length ≤ 2000 := by have h1 := wF_le (.mk oC nC dC mC ksC); have h2 := hf.cond; simp only at h2; omega
 have hfnl : (namesF (.mk oC nC dC mC ksC)).length ≤ 300 := by have h1 := namesF_le (.mk oC nC dC mC ksC); have h2 := hf.cond; simp only at h2; omega
 have hkl : kw.length ≤ 4 := by rw [← hkw]; split <;> simp
 have HKW := Hi hkw
 obtain ⟨fw, hfw⟩ : ∃ fw, partW (oC != 1) wIf (wF (.mk oC nC dC mC ksC)) = fw := ⟨_, rfl⟩
 obtain ⟨fn, hfn⟩ : ∃ fn, namesF (.mk oC nC dC mC ksC) = fn := ⟨_, rfl⟩
 have HSC : Hid (shapeF (.mk oC nC dC mC ksC) = true ∧ (Tree.mk oC nC dC mC ksC).size ≤ 1000) := Hi ⟨hok.cond, by have := hf.cond; simp only at this; omega⟩
 have HFW : Hid ((oC = 1 → fw = [] ∧ fn = []) ∧ (oC ≠ 1 → fw = wIf :: wF (.mk oC nC dC mC ksC) ∧ fn = namesF (.mk oC nC dC mC ksC))) := Hi (by
  refine ⟨fun e => ?_, fun e => ⟨?_, hfn.symm⟩⟩
  · subst e
    have h1 := HSC.out.1
    rw [shapeF] at h1
    simp only [Bool.and_eq_true] at h1
    have h2 : ksC = [] := by simpa using h1.1.2
    subst h2
    exact ⟨by rw [← hfw]; rfl, by rw [← hfn]; simp [namesF, namesFs]⟩
  · rw [← hfw]; unfold partW; rw [if_pos (by simpa using e)])
 have hfl : fw.length ≤ 2001 := by rw [← hfw]; unfold partW; split <;> simp; omega
 have hfnl2 : fn.length ≤ 300 := by rw [← hfn]; exact hfnl
 clear hkw hfw hfn hfwl hfnl hok1
 have HF := Hi hf
 have HOK := Hi hok
 have HT := Hi ht
 have HB := Hi hb
 have HEX := Hi hex
 have HRW := Hi hrw1
 have HWR := Hi hwr
 simp only [tcX, List.cons_append, List.nil_append] at HWR ⊢
 clear hf hok ht hb hex hrw1 hwr
 have hld := fun o : Unit => loadPv_run (w.alloc (.cells #[vs id, .int .i64 rank, .int .i64 kind, vs name, .int .i64 value, .int .i64 oC, vs nC, .int .i64 dC, .int .i64 mC, .slice KC (ups ksC).length qC, .slice A exc.length cap, .int .i64 oB, vs nB, .int .i64 mB, .slice KB (ups ksB).length qB, .int .i64 oD, vs nD, .int .i64 mD, .slice KD (ups ksD).length qD, .int .i64 oG, vs nG, .int .i64 mG, .slice KG (ups ksG).length qG] 30)) w.heap.size _ (heap_alloc_new w _) rfl
 have hld := hld ()
 go_enter Tryz.func12, Tryz.ntmps12
 go_wp2_with fail
 refine (HWR.out _ (HB.out.trans ((belowA w _).mono HB.out.size))).mono ?_
 rintro e W ⟨rfl, hB2⟩
 have hbx : W.heap[w.heap.size]? = some (.cells #[vs id, .int .i64 rank, .int .i64 kind, vs name, .int .i64 value, .int .i64 oC, vs nC, .int .i64 dC, .int .i64 mC, .slice KC (ups ksC).length qC, .slice A exc.length cap, .int .i64 oB, vs nB, .int .i64 mB, .slice KB (ups ksB).length qB, .int .i64 oD, vs nD, .int .i64 mD, .slice KD (ups ksD).length qD, .int .i64 oG, vs nG, .int .i64 mG, .slice KG (ups ksG).length qG] 30 (0, 0)) := (hB2.block _ (by simp)).trans (heap_alloc_new w _)
 have HBW : Hid (Below w.heap.size w W) := Hi ((belowA w _).trans (hB2.mono (by simp)))
 have hwW := lHp hbx
 obtain ⟨pb, hpb⟩ : ∃ pb, w.heap.size = pb := ⟨_, rfl⟩
 have HB2 : Hid (Below W0.heap.size W0 W) := Hi ((HB.out.trans ((belowA w _).mono HB.out.size)).trans (hB2.mono (by have := HB.out.size; simp; omega)))
 have HTW : Hid (Tabs W) := Hi (HT.out.below HB2.out)
 have HRC : Hid (RdX true W [.int .i64 oC, vs nC, .int .i64 dC, .int .i64 mC, .slice KC (ups ksC).length qC] (up (.mk oC nC dC mC ksC))) := Hi (RC.out.keep HB2.out)
 have HRB : Hid (RdX false W [.int .i64 oB, vs nB, .int .i64 mB, .slice KB (ups ksB).length qB] (up (.mk oB nB dB mB ksB))) := Hi (RB.out.keep HB2.out)
 have HRD : Hid (RdX false W [.int .i64 oD, vs nD, .int .i64 mD, .slice KD (ups ksD).length qD] (up (.mk oD nD dD mD ksD))) := Hi (RD.out.keep HB2.out)
 have HRG : Hid (RdX false W [.int .i64 oG, vs nG, .int .i64 mG, .slice KG (ups ksG).length qG] (up (.mk oG nG dG mG ksG))) := Hi (RG.out.keep HB2.out)
 rw [hpb] at HBW hwW hbx ⊢
 have HCL : Hid (∀ wx, Below W.heap.size W wx → wx.cell? ⟨pb, 0, none⟩ = some (vs id) ∧ wx.cell? ⟨pb, 1, none⟩ = some (.int .i64 rank) ∧ wx.cell? ⟨pb, 2, none⟩ = some (.int .i64 kind) ∧ wx.cell? ⟨pb, 3, none⟩ = some (vs name) ∧ wx.cell? ⟨pb, 4, none⟩ = some (.int .i64 value) ∧ wx.cell? ⟨pb, 5, none⟩ = some (.int .i64 oC) ∧ wx.cell? ⟨pb, 6, none⟩ = some (vs nC) ∧ wx.cell? ⟨pb, 7, none⟩ = some (.int .i64 dC) ∧ wx.cell? ⟨pb, 8, none⟩ = some (.int .i64 mC) ∧ wx.cell? ⟨pb, 9, none⟩ = some (.slice KC (ups ksC).length qC) ∧ wx.cell? ⟨pb, 10, none⟩ = some (.slice A exc.length cap) ∧ pb < wx.heap.size) := Hi (fun wx hx => by
  have hq := (hx.block pb hwW).trans hbx
  exact ⟨cOb (o := 0) hq rfl, cOb (o := 1) hq rfl, cOb (o := 2) hq rfl, cOb (o := 3) hq rfl, cOb (o := 4) hq rfl, cOb (o := 5) hq rfl, cOb (o := 6) hq rfl, cOb (o := 7) hq rfl, cOb (o := 8) hq rfl, cOb (o := 9) hq rfl, cOb (o := 10) hq rfl, lHp hq⟩)
 have HCM : Hid (∀ wx, Below W.heap.size W wx → wx.cell? ⟨pb, 11, none⟩ = some (.int .i64 oB) ∧ wx.cell? ⟨pb, 12, none⟩ = some (vs nB) ∧ wx.cell? ⟨pb, 13, none⟩ = some (.int .i64 mB) ∧ wx.cell? ⟨pb, 14, none⟩ = some (.slice KB (ups ksB).length qB) ∧ wx.cell? ⟨pb, 15, none⟩ = some (.int .i64 oD) ∧ wx.cell? ⟨pb, 16, none⟩ = some (vs nD) ∧ wx.cell? ⟨pb, 17, none⟩ = some (.int .i64 mD) ∧ wx.cell? ⟨pb, 18, none⟩ = some (.slice KD (ups ksD).length qD) ∧ wx.cell? ⟨pb, 19, none⟩ = some (.int .i64 oG) ∧ wx.cell? ⟨pb, 20, none⟩ = some (vs nG) ∧ wx.cell? ⟨pb, 21, none⟩ = some (.int .i64 mG) ∧ wx.cell? ⟨pb, 22, none⟩ = some (.slice KG (ups ksG).length qG) ∧ pb < wx.heap.size) := Hi (fun wx hx => by
  have hq := (hx.block pb hwW).trans hbx
  exact ⟨cOb (o := 11) hq rfl, cOb (o := 12) hq rfl, cOb (o := 13) hq rfl, cOb (o := 14) hq rfl, cOb (o := 15) hq rfl, cOb (o := 16) hq rfl, cOb (o := 17) hq rfl, cOb (o := 18) hq rfl, cOb (o := 19) hq rfl, cOb (o := 20) hq rfl, cOb (o := 21) hq rfl, cOb (o := 22) hq rfl, lHp hq⟩)
 have HBX := Hi hbx
 have HBP := Hi hpb
 clear hbx hB2 hld hpb
 go_upto_region 3 with fail
 go_cut [1, 4] from 0 (fun s1 s4 wc => s1 = .pointer (some ⟨pb, 0, none⟩) ∧ s4 = .pointer (some ⟨W.heap.size, 0, none⟩) ∧ St W wc W.heap.size 52 [] [])
 case first =>
  go_wp2_with fail
  go_meet
  case rel => exact ⟨rfl, rfl, St.start W _⟩
 case rest =>
  obtain ⟨rfl, rfl, hS⟩ := hcut
  have HS := Hi hS
  obtain ⟨c0, c1, c2, c3, c4, c5, c6, c7, c8, c9, c10, cl⟩ := HCL.out _ hS.below
  clear hS
  go_upto_region 4 with fail
  go_cut [1, 4] from 0 (fun s1 s4 wc => s1 = .pointer (some ⟨pb, 0, none⟩) ∧ s4 = .pointer (some ⟨W.heap.size, 0, none⟩) ∧ St W wc W.heap.size 52 [rw1] [])
  case first =>
   go_wp2_with (first | (go_at_call 27; refine (word_s W _ _ _ _ _ _ _ (by simp) HS.out (by simp)).mono ?_; rintro e w9 ⟨rfl, hS⟩; clear c0 c1 c2 c3 c4 c5 c6 c7 c8 c9 c10 cl; obtain ⟨c0, c1, c2, c3, c4, c5, c6, c7, c8, c9, c10, cl⟩ := HCL.out _ hS.below; have HS9 := Hi hS; clear HS hS; have HS := HS9; clear HS9) | (go_at_call 28; refine (name_s W _ _ _ _ _ _ HS.out (by simp) (by simp)).mono ?_; rintro e w9 ⟨rfl, hS⟩; clear c0 c1 c2 c3 c4 c5 c6 c7 c8 c9 c10 cl; obtain ⟨c0, c1, c2, c3, c4, c5, c6, c7, c8, c9, c10, cl⟩ := HCL.out _ hS.below; have HS9 := Hi hS; clear HS hS; have HS := HS9; clear HS9) | (go_at_call 29; refine (number_s W _ _ _ _ _ _ HS.out hval (by simp) HTW.out).mono ?_; rintro e w9 ⟨rfl, hS⟩; clear c0 c1 c2 c3 c4 c5 c6 c7 c8 c9 c10 cl; obtain ⟨c0, c1, c2, c3, c4, c5, c6, c7, c8, c9, c10, cl⟩ := HCL.out _ hS.below; have HS9 := Hi hS; clear HS hS; have HS := HS9; clear HS9))
   go_meet
   case rel => exact ⟨rfl, rfl, HS.out⟩
  case rest =>
   obtain ⟨rfl, rfl, hS⟩ := hcut
   have HS := Hi hS
   obtain ⟨c0, c1, c2, c3, c4, c5, c6, c7, c8, c9, c10, cl⟩ := HCL.out _ hS.below
   clear hS
   go_upto_if 30 with (first | (go_at_call 27; refine (word_s W _ _ _ _ _ _ _ (by simp) HS.out (by simp)).mono ?_; rintro e w9 ⟨rfl, hS⟩; clear c0 c1 c2 c3 c4 c5 c6 c7 c8 c9 c10 cl; obtain ⟨c0, c1, c2, c3, c4, c5, c6, c7, c8, c9, c10, cl⟩ := HCL.out _ hS.below; have HS9 := Hi hS; clear HS hS; have HS := HS9; clear HS9) | (go_at_call 28; refine (name_s W _ _ _ _ _ _ HS.out (by simp) (by simp)).mono ?_; rintro e w9 ⟨rfl, hS⟩; clear c0 c1 c2 c3 c4 c5 c6 c7 c8 c9 c10 cl; obtain ⟨c0, c1, c2, c3, c4, c5, c6, c7, c8, c9, c10, cl⟩ := HCL.out _ hS.below; have HS9 := Hi hS; clear HS hS; have HS := HS9; clear HS9) | (go_at_call 29; refine (number_s W _ _ _ _ _ _ HS.out hval (by simp) HTW.out).mono ?_; rintro e w9 ⟨rfl, hS⟩; clear c0 c1 c2 c3 c4 c5 c6 c7 c8 c9 c10 cl; obtain ⟨c0, c1, c2, c3, c4, c5, c6, c7, c8, c9, c10, cl⟩ := HCL.out _ hS.below; have HS9 := Hi hS; clear HS hS; have HS := HS9; clear HS9))
   go_cut [1, 4] from 0 (fun s1 s4 wc => s1 = .pointer (some ⟨pb, 0, none⟩) ∧ s4 = .pointer (some ⟨W.heap.size, 0, none⟩) ∧ St W wc W.heap.size 52 ([rw1, id, [58]] ++ kw) [id, name])
   case first =>
    rcases hkind with ⟨rfl, rfl⟩ | rfl
    all_goals
     go_wp2_with (first | (go_at_call 27; refine (word_s W _ _ _ _ _ _ _ (by simp) HS.out (by simp)).mono ?_; rintro e w9 ⟨rfl, hS⟩; clear c0 c1 c2 c3 c4 c5 c6 c7 c8 c9 c10 cl; obtain ⟨c0, c1, c2, c3, c4, c5, c6, c7, c8, c9, c10, cl⟩ := HCL.out _ hS.below; have HS9 := Hi hS; clear HS hS; have HS := HS9; clear HS9) | (go_at_call 28; refine (name_s W _ _ _ _ _ _ HS.out (by simp) (by simp)).mono ?_; rintro e w9 ⟨rfl, hS⟩; clear c0 c1 c2 c3 c4 c5 c6 c7 c8 c9 c10 cl; obtain ⟨c0, c1, c2, c3, c4, c5, c6, c7, c8, c9, c10, cl⟩ := HCL.out _ hS.below; have HS9 := Hi hS; clear HS hS; have HS := HS9; clear HS9) | (go_at_call 29; refine (number_s W _ _ _ _ _ _ HS.out hval (by simp) HTW.out).mono ?_; rintro e w9 ⟨rfl, hS⟩; clear c0 c1 c2 c3 c4 c5 c6 c7 c8 c9 c10 cl; obtain ⟨c0, c1, c2, c3, c4, c5, c6, c7, c8, c9, c10, cl⟩ := HCL.out _ hS.below; have HS9 := Hi hS; clear HS hS; have HS := HS9; clear HS9))
     go_meet
     case rel => exact ⟨rfl, rfl, by rw [← HKW.out]; exact HS.out⟩
   case rest =>
    obtain ⟨rfl, rfl, hS⟩ := hcut
    have HS := Hi hS
    obtain ⟨c0, c1, c2, c3, c4, c5, c6, c7, c8, c9, c10, cl⟩ := HCL.out _ hS.below
    clear hS
    go_upto_if 55 with fail
    go_cut [1, 4] from 0 (fun s1 s4 wc => s1 = .pointer (some ⟨pb, 0, none⟩) ∧ s4 = .pointer (some ⟨W.heap.size, 0, none⟩) ∧ St W wc W.heap.size 52 ([rw1, id, [58]] ++ kw ++ fw) ([id, name] ++ fn))
    case first =>
     by_cases hop : oC = 1
     · subst hop
       go_wp2_with fail
       go_meet
       case rel => exact ⟨rfl, rfl, by have h1 := (HFW.out.1 (by first | rfl | trivial)); rw [h1.1, h1.2, List.append_nil, List.append_nil]; exact HS.out⟩
     · have h1 := HFW.out.2 hop
       have H1 := Hi h1
       have hop2 : ¬ ((oC : Int) = 1) := by omega
       clear h1
       go_wp2_with (first | (go_at_call 27; refine (word_s W _ _ _ _ _ _ _ (by simp) HS.out (by first | omega | (simp; omega))).mono ?_; rintro e w9 ⟨rfl, hS⟩; clear c0 c1 c2 c3 c4 c5 c6 c7 c8 c9 c10 cl; obtain ⟨c0, c1, c2, c3, c4, c5, c6, c7, c8, c9, c10, cl⟩ := HCL.out _ hS.below; have HS9 := Hi hS; clear HS hS; have HS := HS9; clear HS9) | (go_at_call 30; refine (cond_s W _ HTW.out _ _ _ _ _ _ HSC.out.1 HSC.out.2 (by first | omega | (simp; omega)) (by simp) HRC.out HS.out).mono ?_; rintro e w9 ⟨rfl, hS⟩; clear c0 c1 c2 c3 c4 c5 c6 c7 c8 c9 c10 cl; obtain ⟨c0, c1, c2, c3, c4, c5, c6, c7, c8, c9, c10, cl⟩ := HCL.out _ hS.below; have HS9 := Hi hS; clear HS hS; have HS := HS9; clear HS9))
       go_meet
       case rel => exact ⟨rfl, rfl, by rw [H1.out.1, H1.out.2]; have := HS.out; simpa using this⟩
    case rest =>
     obtain ⟨rfl, rfl, hS⟩ := hcut
     obtain ⟨L3, hL3⟩ : ∃ L3, [rw1, id, [58]] ++ kw ++ fw = L3 := ⟨_, rfl⟩
     obtain ⟨N3, hN3⟩ : ∃ N3, [id, name] ++ fn = N3 := ⟨_, rfl⟩
     have hL3l : L3.length ≤ 3000 := by rw [← hL3]; simp; omega
     have hN3l : N3.length ≤ 1000 := by rw [← hN3]; simp; omega
     rw [hL3, hN3] at hS
     have HL3 := Hi hL3
     have HN3 := Hi hN3
     have HS := Hi hS
     obtain ⟨c0, c1, c2, c3, c4, c5, c6, c7, c8, c9, c10, cl⟩ := HCL.out _ hS.below
     clear hS hL3 hN3
     go_wp2_with fail
     refine nloop1 _ W _ pb L3 N3 A exc cap (HEX.out.below HB2.out) HOK.out.excL hL3l hN3l HS.out _ _ _ _ _ _ _ _ _ _ _ _ _ _ _ _ _ _ _ _ _ _ _ _ _ _ _ _ _ _ _ _ _ _ _ _ _ _ _ _ _ _ _ _ _ _ _ _ _ _ _ _ _ _ _ _ _ _ _ _ _ _ _ _ _ _ _ _ _ _ _ _ _ _ _ _ _ _ _ _ _ _ _ _ _ _ _ _ _ _ _ _ _ _ _ _ _ _ _ _ _ _ _ _ _ _ _ _ _ _ _ _ _ _ _ _ _ _ ?_
     intro x5 x6 x66 x67 x68 x69 x70 x71 x72 x73 x74 x75 x76 x77 x78 x79 x80 wx hS
     have hexl : exc.length ≤ 20 := HOK.out.excL
     have hxl := excW_len exc
     obtain ⟨L4, hL4⟩ : ∃ L4, L3 ++ excW exc = L4 := ⟨_, rfl⟩
     obtain ⟨N4, hN4⟩ : ∃ N4, N3 ++ exc = N4 := ⟨_, rfl⟩
     have hL4l : L4.length ≤ 4000 := by rw [← hL4, List.length_append]; omega
     have hN4l : N4.length ≤ 2000 := by rw [← hN4, List.length_append]; omega
     rw [hL4, hN4] at hS
     clear c0 c1 c2 c3 c4 c5 c6 c7 c8 c9 c10 cl HS
     have HS := Hi hS
     obtain ⟨c11, c12, c13, c14, c15, c16, c17, c18, c19, c20, c21, c22, cm⟩ := HCM.out _ hS.below
     have HL4 := Hi hL4
     have HN4 := Hi hN4
     clear hS hL4 hN4 hxl hexl hL3l hN3l
     dsimp only
     go_wp2_with fail
     have hZ := HF.out
     refine nloop2 _ W _ pb L4 N4 oB nB dB mB KB ksB qB oD nD dD mD KD ksD qD oG nG dG mG KG ksG qG _ (fun _ => by kernel_rfl) (fun _ => by kernel_rfl) (fun _ => by kernel_rfl) HTW.out HRB.out HOK.out.beg hZ.beg HRD.out HOK.out.fin hZ.fin HRG.out HOK.out.aga hZ.aga (by omega) hN4l HS.out _ _ _ _ _ _ _ _ _ _ _ _ _ _ _ _ _ _ _ _ _ _ _ _ _ _ _ _ _ _ _ _ _ _ _ _ _ _ _ _ _ _ _ _ _ _ _ _ _ _ _ _ _ _ _ _ _ _ _ _ _ _ _ _ _ _ _ _ _ _ _ _ _ _ _ _ _ _ _ _ _ _ _ _ _ _ _ _ _ _ _ _ _ _ _ _ _ _ _ _ _ _ _ _ _ _ _ _ _ _ _ _ _ _ _ _ _ _ _ ?_
     intro y7 y8 y9 y89 y90 y91 y92 y93 y94 y95 y96 y97 y98 y99 y100 y101 y102 y103 y104 y105 y106 wy hS
     obtain ⟨L5, hL5⟩ : ∃ L5, L4 ++ (partW (oB != 1) wFrom (wS (.mk oB nB dB mB ksB)) ++ partW (oD != 2) wUntil (wS (.mk oD nD dD mD ksD)) ++ partW (oG != 2) wAgain (wS (.mk oG nG dG mG ksG))) = L5 := ⟨_, rfl⟩
     obtain ⟨N5, hN5⟩ : ∃ N5, N4 ++ (namesS (.mk oB nB dB mB ksB) ++ namesS (.mk oD nD dD mD ksD) ++ namesS (.mk oG nG dG mG ksG)) = N5 := ⟨_, rfl⟩
     rw [hL5, hN5] at hS
     have HS5 := Hi hS
     have HEND := Hi (north_end (p := ⟨id, rank, kind, name, value, .mk oC nC dC mC ksC, exc, .mk oB nB dB mB ksB, .mk oD nD dD mD ksD, .mk oG nG dG mG ksG⟩) (rw1 := rw1) (kw := kw) (fw := fw) (fn := fn) HOK.out HF.out HRW.out HKW.out HFW.out HL3.out HN3.out HL4.out HN4.out hL5 hN5)
     clear hS hL5 hN5 HS c11 c12 c13 c14 c15 c16 c17 c18 c19 c20 c21 c22 cm
     dsimp only
     simp only [Exit.inBlock, Exit.then, if_true]
     refine (by assumption : ∀ (a : Act) (w : World), Code.wp Tryz.prog ntail _ a w → _) _ _ ?_
     obtain ⟨e1, e2, e3, e4, e5, e6⟩ := HEND.out
     refine nend _ W _ L5 N5 HTW.out e4 e5 e2 _ e1 e3 HS5.out _ _ _ _ _ _ _ _ _ _ _ _ _ _ _ _ _ _ _ _ _ _ _ _ _ _ _ _ _ _ _ _ _ _ _ _ _ _ _ _ _ _ _ _ _ _ _ _ _ _ _ _ _ _ _ _ _ _ _ _ _ _ _ _ _ _ _ _ _ _ _ _ _ _ _ _ _ _ _ _ _ _ _ _ _ _ _ _ _ _ _ _ _ _ _ _ _ _ _ _ _ _ _ _ _ _ _ _ _ _ _ _ _ _ _ _ _ _ _ _ _ _ ?_
     intro z10 z107 z108 z109 z110 z111 z112 z113 z114 z115 z116 z117 z118 z119 z120 z121 z122 wz hz
     dsimp only
     refine bodyPost_ret (v := .tuple #[vs (textA (setF keyWords) N5 (replF [40] [58, 44, 46, 41] (joinB _))).1, .int .i64 ((textA (setF keyWords) N5 (replF [40] [58, 44, 46, 41] (joinB _))).2 : Nat)]) (by simp [results, Tryz.results12, go_sem]; exact ⟨rfl, rfl⟩) rfl ⟨by rw [e6], ?_⟩
     rw [HBP.out]
     exact HBW.out.trans (hz.mono (by rw [← HBP.out]; exact HBW.out.size))
/- what cannot be written -/
theorem pnorth_no (W0 w : World) (C : Array Value) (hr : C.size = 23) (hb : Below W0.heap.size W0 w) (hwr : ∀ wx, Below W0.heap.size W0 wx → Calls Tryz.prog 26 #[.agg C] wx fun e w' => e = .returned (.bool false) ∧ Below wx.heap.size wx w') :
 Calls Tryz.prog 12 #[.agg C] w fun e w' => e = .returned (.tuple #[vs [], .int .i64 1]) ∧ Below w.heap.size w w' := by
 have hld := loadPv_run (w.alloc (.cells C 30)) w.heap.size C (heap_alloc_new w _) hr
 have HWR := Hi hwr
 have HB := Hi hb
 clear hr hwr hb
 go_enter Tryz.func12, Tryz.ntmps12
 go_wp2_with fail
 refine (HWR.out _ (HB.out.trans ((belowA w _).mono HB.out.size))).mono ?_
 rintro e W ⟨rfl, hB2⟩
 have HB2 := Hi hB2
 clear hB2 hld
 go_wp2_with fail
 exact bodyPost_ret (v := .tuple #[vs [], .int .i64 1]) (by simp [results, Tryz.results12, go_sem]) rfl ⟨rfl, (belowA w _).trans (HB2.out.mono (by simp))⟩
theorem FewP.down {P : ProvI} (h : FewP P) (e : P = upP (downP P)) : FewN (downP P) := by
 have h1 := h.cond
 have h2 := h.beg
 have h3 := h.fin
 have h4 := h.aga
 have h5 := h.names
 rw [e] at h1 h2 h3 h4 h5
 rw [namesI_up] at h5
 simp only [upP, size_up] at h1 h2 h3 h4
 exact ⟨h1, h2, h3, h4, h5⟩
/- printer.North -/
theorem north_p (W w : World) (cs : List Value) (P : ProvI) (hr : RdPX W cs P) (hb : Below W.heap.size W w) (ht : Tabs W) (hp : plainP P) (hf : FewP P) :
 Calls Tryz.prog 12 #[.agg cs.toArray] w fun e w' => e = .returned (.tuple #[vs (northA P).1, .int .i64 ((northA P).2 : Nat)]) ∧ Below w.heap.size w w' := by
 have hw := fun wx hx => writ_any W wx cs P hr hx (by have := hf.cond; omega) (fun t h => by
  simp only [List.mem_cons, List.not_mem_nil, or_false] at h
  have := hf.beg
  have := hf.fin
  have := hf.aga
  rcases h with rfl | rfl | rfl <;> omega) (by have := hf.exc; omega) (fun s hs => by have := hf.names s (by unfold namesI; simp [hs]); omega)
 cases he : writtenI P with
 | true =>
   obtain ⟨e, hok⟩ := written_down hp he
   have := pnorth_ok W w cs (downP P) (by rw [← e]; exact hr) hb ht hok (hf.down e) (fun wx hx => by rw [← he]; exact hw wx hx)
   rw [← e] at this
   exact this
 | false =>
   rw [(ans_arg he).1]
   exact pnorth_no W w _ (by rw [List.size_toArray]; exact hr.len) hb (fun wx hx => by rw [← he]; exact hw wx hx)
end Go.Proofs.YtbicmjmcdnkjhaaGreatDoor

