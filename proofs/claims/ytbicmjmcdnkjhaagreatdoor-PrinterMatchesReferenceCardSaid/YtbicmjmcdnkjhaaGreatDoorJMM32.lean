/- Few: pandectref10.Few. The southern writer: what each call adds to it. printer.South: a round of its second loop: one start is written. -/
import Derived.Test.YtbicmjmcdnkjhaaGreatDoorJMM1
import Derived.Test.YtbicmjmcdnkjhaaGreatDoorJMM10
import Derived.Test.YtbicmjmcdnkjhaaGreatDoorJMM31
import Derived.Test.YtbicmjmcdnkjhaaGreatDoorJMM18
import Derived.Test.YtbicmjmcdnkjhaaGreatDoorJMM29
import Derived.Test.YtbicmjmcdnkjhaaGreatDoorJMM30
import Derived.Deep.CutRange
import Derived.StillTailTactics
import Derived.Deep.MidRow
import Derived.Deep.RegionHeld3
set_option linter.unusedVariables false
set_option linter.unusedSimpArgs false
set_option maxRecDepth 100000
set_option maxHeartbeats 4000000
namespace Go.Proofs.YtbicmjmcdnkjhaaGreatDoor
open Go.RowKit
attribute [local go_sem ↓] Go.wp_at_zero Go.wp_at_succ
@[local go_sem ↓ high] theorem loadVar_pv_foldF (a : Addr) : loadVar 30 a = loadPv a := by rw [loadPv]
def shortL (L : List Bytes) : Bool := L.all fun s => decide (s.length ≤ 60)
theorem shortL_drop {L : List Bytes} {k : Nat} {s : Bytes} (h : L[k]? = some s) : shortL (L.drop k) = (decide (s.length ≤ 60) && shortL (L.drop (k + 1))) := by
 obtain ⟨h1, rfl⟩ := List.getElem?_eq_some_iff.1 h
 unfold shortL
 rw [List.drop_eq_getElem_cons h1, List.all_cons]
/- the box and what stands in it -/
def FewB (p : ProvI) : Prop := p.cond.size ≤ 300 ∧ p.beg.size ≤ 300 ∧ p.fin.size ≤ 300 ∧ p.aga.size ≤ 300 ∧ p.exc.length ≤ 30
structure BxSt (w wx : World) (C : Array Value) (T : TypeId) : Prop where
 below : Below w.heap.size w wx
 blk : wx.heap[w.heap.size]? = some (.cells C T (0, 0))
theorem BxSt.start (w : World) (C : Array Value) (T : TypeId) : BxSt w (w.alloc (.cells C T)) C T := ⟨belowA w _, heap_alloc_new w _⟩
theorem BxSt.step {w wx w' : World} {C : Array Value} {T : TypeId} (h : BxSt w wx C T) (hb : Below wx.heap.size wx w') : BxSt w w' C T := ⟨h.below.trans (hb.mono h.below.size), (hb.block _ (lHp h.blk)).trans h.blk⟩
theorem few_any (w : World) (cs : List Value) (p : ProvI) (hr : RdPX w cs p) (hm : p.exc.length ≤ maxLen) (b : Bool) (hb : fewI p = b) :
 Calls Tryz.prog 11 #[.agg cs.toArray] w fun e w' => e = .returned (.bool b) ∧ Below w.heap.size w w' := by
 have HNM : Hid (FewB p → ∀ wx, Below w.heap.size w wx → Calls Tryz.prog 25 #[.agg cs.toArray] wx fun e w' => ∃ v', e = .returned v' ∧ OwnS w' wx.heap.size v' (namesI p) ∧ Below wx.heap.size wx w') := Hi (fun hf wx hx => names_any wx cs p (hr.keep hx) (by have := hf.1; omega) (by have := hf.2.1; omega) (by have := hf.2.2.1; omega) (by have := hf.2.2.2.1; omega) (by have := hf.2.2.2.2; omega))
 obtain ⟨id, rank, kind, name, value, cond, exc, beg, fin, aga⟩ := p
 obtain ⟨cc, A, cap, cb, cf, ca, hcs, hcap, hcc, hex, hcb, hcf, hca⟩ := hr
 simp only at hcs hcap hcc hex hcb hcf hca hm
 obtain ⟨b1, hb1⟩ : ∃ x, decide (cntI cond 300 ≤ 300) = x := ⟨_, rfl⟩
 obtain ⟨nb, hnb⟩ : ∃ x, cntI beg 300 = x := ⟨_, rfl⟩
 obtain ⟨nd, hnd⟩ : ∃ x, cntI fin 300 = x := ⟨_, rfl⟩
 obtain ⟨ng, hng⟩ : ∃ x, cntI aga 300 = x := ⟨_, rfl⟩
 have HS1 : Hid (∀ wx, Below w.heap.size w wx → Calls Tryz.prog 23 #[.agg cc.toArray, .int .i64 300] wx fun e w' => e = .returned (.bool b1) ∧ Below wx.heap.size wx w') := Hi (fun wx hx => by rw [← hb1]; exact small_f cond cc 300 wx (by omega) (by omega) (hcc.keep hx))
 have HNB : Hid (∀ wx, Below w.heap.size w wx → Calls Tryz.prog 24 #[.agg cb.toArray, .int .i64 300] wx fun e w' => e = .returned (.int .i64 nb) ∧ Below wx.heap.size wx w') := Hi (fun wx hx => by rw [← hnb]; exact nodes_s _ beg cb 300 wx (lR _) (by omega) (by omega) (hcb.keep hx))
 have HND : Hid (∀ wx, Below w.heap.size w wx → Calls Tryz.prog 24 #[.agg cf.toArray, .int .i64 300] wx fun e w' => e = .returned (.int .i64 nd) ∧ Below wx.heap.size wx w') := Hi (fun wx hx => by rw [← hnd]; exact nodes_s _ fin cf 300 wx (lR _) (by omega) (by omega) (hcf.keep hx))
 have HNG : Hid (∀ wx, Below w.heap.size w wx → Calls Tryz.prog 24 #[.agg ca.toArray, .int .i64 300] wx fun e w' => e = .returned (.int .i64 ng) ∧ Below wx.heap.size wx w') := Hi (fun wx hx => by rw [← hng]; exact nodes_s _ aga ca 300 wx (lR _) (by omega) (by omega) (hca.keep hx))
 have HFW : Hid (b = (b1 && decide (nb ≤ 300) && decide (nd ≤ 300) && decide (ng ≤ 300) && decide (exc.length ≤ 30) && shortL (namesI ⟨id, rank, kind, name, value, cond, exc, beg, fin, aga⟩))) := Hi (by rw [← hb, ← hb1, ← hnb, ← hnd, ← hng]; rfl)
 have HSZ : Hid (b1 = true → nb ≤ 300 → nd ≤ 300 → ng ≤ 300 → exc.length ≤ 30 → FewB ⟨id, rank, kind, name, value, cond, exc, beg, fin, aga⟩) := Hi (fun k1 k2 k3 k4 k5 => by
  rw [← hb1, decide_eq_true_eq, cnt_le] at k1
  rw [← hnb, cnt_le] at k2
  rw [← hnd, cnt_le] at k3
  rw [← hng, cnt_le] at k4
  exact ⟨by simp only; omega, by simp only; omega, by simp only; omega, by simp only; omega, k5⟩)
 clear hb hb1 hnb hnd hng hex
 obtain ⟨LN, hLN⟩ : ∃ LN, namesI ⟨id, rank, kind, name, value, cond, exc, beg, fin, aga⟩ = LN := ⟨_, rfl⟩
 rw [hLN] at HNM HFW
 have HLL : Hid (FewB ⟨id, rank, kind, name, value, cond, exc, beg, fin, aga⟩ → LN.length ≤ 2000) := Hi (fun h => by
  have h1 := h.1
  have h2 := h.2.1
  have h3 := h.2.2.1
  have h4 := h.2.2.2.1
  have h5 := h.2.2.2.2
  simp only at h1 h2 h3 h4 h5
  have l1 := nmF_len cond
  have l2 := nmS_len beg
  have l3 := nmS_len fin
  have l4 := nmS_len aga
  rw [← hLN]
  unfold namesI
  simp only [List.length_cons, List.length_append]
  omega)
 clear hLN
 obtain ⟨oC, nC, dC, mC, ksC⟩ := cond
 obtain ⟨KC, qC, rfl, -⟩ := hcc
 obtain ⟨oB, nB, dB, mB, ksB⟩ := beg
 obtain ⟨KB, qB, rfl, -⟩ := hcb
 obtain ⟨oD, nD, dD, mD, ksD⟩ := fin
 obtain ⟨KD, qD, rfl, -⟩ := hcf
 obtain ⟨oG, nG, dG, mG, ksG⟩ := aga
 obtain ⟨KG, qG, rfl, -⟩ := hca
 subst hcs
 simp only [tcX, List.cons_append, List.nil_append] at HS1 HNB HND HNG HNM ⊢
 have HBX := Hi (BxSt.start w #[vs id, .int .i64 rank, .int .i64 kind, vs name, .int .i64 value, .int .i64 oC, vs nC, .int .i64 dC, .int .i64 mC, .slice KC ksC.length qC, .slice A exc.length cap, .int .i64 oB, vs nB, .int .i64 mB, .slice KB ksB.length qB, .int .i64 oD, vs nD, .int .i64 mD, .slice KD ksD.length qD, .int .i64 oG, vs nG, .int .i64 mG, .slice KG ksG.length qG] 30)
 have c5 : (w.alloc (.cells #[vs id, .int .i64 rank, .int .i64 kind, vs name, .int .i64 value, .int .i64 oC, vs nC, .int .i64 dC, .int .i64 mC, .slice KC ksC.length qC, .slice A exc.length cap, .int .i64 oB, vs nB, .int .i64 mB, .slice KB ksB.length qB, .int .i64 oD, vs nD, .int .i64 mD, .slice KD ksD.length qD, .int .i64 oG, vs nG, .int .i64 mG, .slice KG ksG.length qG] 30)).cell? ⟨w.heap.size, 5, none⟩ = some (.int .i64 oC) := cOb (o := 5) HBX.out.blk rfl; have c6 : (w.alloc (.cells #[vs id, .int .i64 rank, .int .i64 kind, vs name, .int .i64 value, .int .i64 oC, vs nC, .int .i64 dC, .int .i64 mC, .slice KC ksC.length qC, .slice A exc.length cap, .int .i64 oB, vs nB, .int .i64 mB, .slice KB ksB.length qB, .int .i64 oD, vs nD, .int .i64 mD, .slice KD ksD.length qD, .int .i64 oG, vs nG, .int .i64 mG, .slice KG ksG.length qG] 30)).cell? ⟨w.heap.size, 6, none⟩ = some (vs nC) := cOb (o := 6) HBX.out.blk rfl; have c7 : (w.alloc (.cells #[vs id, .int .i64 rank, .int .i64 kind, vs name, .int .i64 value, .int .i64 oC, vs nC, .int .i64 dC, .int .i64 mC, .slice KC ksC.length qC, .slice A exc.length cap, .int .i64 oB, vs nB, .int .i64 mB, .slice KB ksB.length qB, .int .i64 oD, vs nD, .int .i64 mD, .slice KD ksD.length qD, .int .i64 oG, vs nG, .int .i64 mG, .slice KG ksG.length qG] 30)).cell? ⟨w.heap.size, 7, none⟩ = some (.int .i64 dC) := cOb (o := 7) HBX.out.blk rfl; have c8 : (w.alloc (.cells #[vs id, .int .i64 rank, .int .i64 kind, vs name, .int .i64 value, .int .i64 oC, vs nC, .int .i64 dC, .int .i64 mC, .slice KC ksC.length qC, .slice A exc.length cap, .int .i64 oB, vs nB, .int .i64 mB, .slice KB ksB.length qB, .int .i64 oD, vs nD, .int .i64 mD, .slice KD ksD.length qD, .int .i64 oG, vs nG, .int .i64 mG, .slice KG ksG.length qG] 30)).cell? ⟨w.heap.size, 8, none⟩ = some (.int .i64 mC) := cOb (o := 8) HBX.out.blk rfl; have c9 : (w.alloc (.cells #[vs id, .int .i64 rank, .int .i64 kind, vs name, .int .i64 value, .int .i64 oC, vs nC, .int .i64 dC, .int .i64 mC, .slice KC ksC.length qC, .slice A exc.length cap, .int .i64 oB, vs nB, .int .i64 mB, .slice KB ksB.length qB, .int .i64 oD, vs nD, .int .i64 mD, .slice KD ksD.length qD, .int .i64 oG, vs nG, .int .i64 mG, .slice KG ksG.length qG] 30)).cell? ⟨w.heap.size, 9, none⟩ = some (.slice KC ksC.length qC) := cOb (o := 9) HBX.out.blk rfl; have cl := lHp HBX.out.blk
 unfold maxLen at hm
 go_enter Tryz.func11, Tryz.ntmps11
 go_wp2_with fail
 refine (HS1.out _ HBX.out.below).mono ?_
 rintro e x1 ⟨rfl, hb⟩
 have H1 := Hi (HBX.out.step hb)
 clear hb HS1 c5 c6 c7 c8 c9 cl
 have c11 : x1.cell? ⟨w.heap.size, 11, none⟩ = some (.int .i64 oB) := cOb (o := 11) H1.out.blk rfl; have c12 : x1.cell? ⟨w.heap.size, 12, none⟩ = some (vs nB) := cOb (o := 12) H1.out.blk rfl; have c13 : x1.cell? ⟨w.heap.size, 13, none⟩ = some (.int .i64 mB) := cOb (o := 13) H1.out.blk rfl; have c14 : x1.cell? ⟨w.heap.size, 14, none⟩ = some (.slice KB ksB.length qB) := cOb (o := 14) H1.out.blk rfl; have cl := lHp H1.out.blk
 cases b1 with
 | false =>
   go_wp2_with fail
   go_ret
   exact ⟨by rw [HFW.out]; rfl, H1.out.below⟩
 | true =>
 go_wp2_with fail
 refine (HNB.out _ H1.out.below).mono ?_
 rintro e x2 ⟨rfl, hb⟩
 have H2 := Hi (H1.out.step hb)
 clear hb HNB c11 c12 c13 c14 cl
 have c15 : x2.cell? ⟨w.heap.size, 15, none⟩ = some (.int .i64 oD) := cOb (o := 15) H2.out.blk rfl; have c16 : x2.cell? ⟨w.heap.size, 16, none⟩ = some (vs nD) := cOb (o := 16) H2.out.blk rfl; have c17 : x2.cell? ⟨w.heap.size, 17, none⟩ = some (.int .i64 mD) := cOb (o := 17) H2.out.blk rfl; have c18 : x2.cell? ⟨w.heap.size, 18, none⟩ = some (.slice KD ksD.length qD) := cOb (o := 18) H2.out.blk rfl; have cl := lHp H2.out.blk
 by_cases hnb : nb ≤ 300
 rotate_left
 · have hnb' : (300 : Int) < nb := by omega
   have HB0 : Hid (b = false) := Hi (by rw [HFW.out, decide_eq_false hnb]; simp)
   clear hnb
   go_wp2_with fail
   go_ret
   exact ⟨by rw [HB0.out]; rfl, H2.out.below⟩
 go_wp2_with fail
 refine (HND.out _ H2.out.below).mono ?_
 rintro e x3 ⟨rfl, hb⟩
 have H3 := Hi (H2.out.step hb)
 clear hb HND c15 c16 c17 c18 cl
 have c19 : x3.cell? ⟨w.heap.size, 19, none⟩ = some (.int .i64 oG) := cOb (o := 19) H3.out.blk rfl; have c20 : x3.cell? ⟨w.heap.size, 20, none⟩ = some (vs nG) := cOb (o := 20) H3.out.blk rfl; have c21 : x3.cell? ⟨w.heap.size, 21, none⟩ = some (.int .i64 mG) := cOb (o := 21) H3.out.blk rfl; have c22 : x3.cell? ⟨w.heap.size, 22, none⟩ = some (.slice KG ksG.length qG) := cOb (o := 22) H3.out.blk rfl; have cl := lHp H3.out.blk
 by_cases hnd : nd ≤ 300
 rotate_left
 · have hnd' : (300 : Int) < nd := by omega
   have HB0 : Hid (b = false) := Hi (by rw [HFW.out, decide_eq_false hnd]; simp)
   clear hnd
   go_wp2_with fail
   go_ret
   exact ⟨by rw [HB0.out]; rfl, H3.out.below⟩
 go_wp2_with fail
 refine (HNG.out _ H3.out.below).mono ?_
 rintro e x4 ⟨rfl, hb⟩
 have H4 := Hi (H3.out.step hb)
 clear hb HNG c19 c20 c21 c22 cl
 have c10 : x4.cell? ⟨w.heap.size, 10, none⟩ = some (.slice A exc.length cap) := cOb (o := 10) H4.out.blk rfl; have cl := lHp H4.out.blk
 by_cases hng : ng ≤ 300
 rotate_left
 · have hng' : (300 : Int) < ng := by omega
   have HB0 : Hid (b = false) := Hi (by rw [HFW.out, decide_eq_false hng]; simp)
   clear hng
   go_wp2_with fail
   go_ret
   exact ⟨by rw [HB0.out]; rfl, H4.out.below⟩
 by_cases hxl : exc.length ≤ 30
 rotate_left
 · have hxl' : (30 : Int) < (exc.length : Int) := by omega
   have HB0 : Hid (b = false) := Hi (by rw [HFW.out, decide_eq_false hxl]; simp)
   clear hxl
   go_wp2_with fail
   go_ret
   exact ⟨by rw [HB0.out]; rfl, H4.out.below⟩
 have hld := loadPv_run x4 w.heap.size _ H4.out.blk rfl
 have hfew := HSZ.out (by trivial) hnb hnd hng hxl
 have HN := Hi (HNM.out hfew)
 have HF2 : Hid (b = shortL LN) := Hi (by rw [HFW.out, decide_eq_true hnb, decide_eq_true hnd, decide_eq_true hng, decide_eq_true hxl]; rfl)
 clear HNM HFW HSZ
 have hxl' : (exc.length : Int) ≤ 30 := by omega
 go_wp2_with fail
 refine (HN.out _ H4.out.below).mono ?_
 rintro e x5 ⟨v5, rfl, ho, hb⟩
 obtain ⟨AL, cL, rfl, hcL, hrL, -⟩ := ho.form
 have H5 := Hi (H4.out.step hb)
 have HRL := Hi hrL
 have hln := HLL.out hfew
 clear hb ho hrL hld c10 cl HN HLL hfew
 go_wp2_with fail
 go_loopw [4] (fun v4 wr => ∃ k : Nat, k ≤ LN.length ∧ v4 = .int .i64 k ∧ shortL LN = shortL (LN.drop k) ∧ Below x5.heap.size x5 wr) (fun v4 _ => LN.length - (intOf v4).toNat)
 case atStart => exact ⟨0, Nat.zero_le _, rfl, rfl, Below.refl _ _⟩
 case round =>
  obtain ⟨k, hk, rfl, heq, hbw⟩ := hrel
  have HEQ := Hi heq
  have HBW := Hi hbw
  clear heq hbw
  by_cases hlt : k < LN.length
  · obtain ⟨s, hs⟩ := gLt hlt
    have HD := Hi (shortL_drop hs)
    obtain ⟨b0, o0, rfl, hbl, hc⟩ := HRL.out.item hs
    have z0 : wr.cell? ⟨b0, o0 + k, none⟩ = some (vs s) := (HBW.out.cell (p := ⟨b0, o0 + k, none⟩) hbl).trans hc
    have hk1 : (k : Int) < LN.length := by omega
    have hk0 : (0 : Int) ≤ k := by omega
    clear hc hs
    by_cases hsl : s.length ≤ 60
    · have hsl' : (s.length : Int) ≤ 60 := by omega
      have HS2 : Hid (shortL LN = shortL (LN.drop (k + 1))) := Hi (by rw [HEQ.out, HD.out, decide_eq_true hsl, Bool.true_and])
      clear hsl
      go_wp2_with fail
      exact ⟨⟨k + 1, by omega, by go_num, HS2.out, HBW.out⟩, by simp [intOf]; omega⟩
    · have hsl' : (60 : Int) < (s.length : Int) := by omega
      have HB0 : Hid (b = false) := Hi (by rw [HF2.out, HEQ.out, HD.out, decide_eq_false hsl, Bool.false_and])
      clear hsl
      go_wp2_with fail
      go_ret
      exact ⟨by rw [HB0.out]; rfl, H5.out.below.trans (HBW.out.mono H5.out.below.size)⟩
  · have hk' : k = LN.length := by omega
    subst hk'
    have hlt2 : ¬ ((LN.length : Nat) : Int) < LN.length := by omega
    have HB0 : Hid (b = true) := Hi (by rw [HF2.out, HEQ.out, List.drop_length]; rfl)
    go_wp2_with fail
    go_ret
    exact ⟨by rw [HB0.out]; rfl, H5.out.below.trans (HBW.out.mono H5.out.below.size)⟩
end Go.Proofs.YtbicmjmcdnkjhaaGreatDoor

namespace Go.Proofs.YtbicmjmcdnkjhaaGreatDoor
open Go.RowKit
theorem word2_s (W w : World) (p : Nat) (T : TypeId) (L N : List Bytes) (s u : Bytes) (g : Nat) (hg : g = w.heap.size) (h : St W w p T L N) (hlen : L.length ≤ 900000) :
 Calls Tryz.prog 27 #[.pointer (some ⟨p, 0, none⟩), .slice (some ⟨g, 0, none⟩) 2 2] (w.alloc (.cells #[vs s, vs u] 9)) (StPost W p T (L ++ [s, u]) N) := by
 obtain ⟨S, h⟩ := h.wr
 exact St.of' (word2_w W w p T S L N s u g hg h (by omega))
theorem many_s (W w : World) (p : Nat) (T : TypeId) (L N : List Bytes) (s : Bytes) (n : Nat) (h : St W w p T L N) (hn : n ≤ 1000000) (hlen : L.length ≤ 900000) (ht : Tabs W) :
 Calls Tryz.prog 45 #[.pointer (some ⟨p, 0, none⟩), vs s, .int .i64 (n : Int)] w (StPost W p T (L ++ [s, dec n]) N) := by
 obtain ⟨S, h⟩ := h.wr
 exact St.of (many_w W w p T S L N s n h (by omega) (by omega) ht)
theorem scond_s (W w : World) (ht : Tabs W) (t : Tree) (cs : List Value) (p : Nat) (T : TypeId) (L N : List Bytes) (hs : shapeF t = true) (hsz : t.size ≤ 1000) (h1 : L.length ≤ 100000) (h2 : N.length ≤ 100000) (hr : RdX true W cs (up t)) (h : St W w p T L N) :
 Calls Tryz.prog 44 #[.pointer (some ⟨p, 0, none⟩), .agg cs.toArray] w (StPost W p T (L ++ So.wF t) (N ++ namesF t)) := by
 obtain ⟨S, h⟩ := h.wr
 exact St.of (south_any W ht t.size t cs w p T S L N (lR _) hs (by omega) (by omega) hr h)
theorem sstart_s (W w : World) (ht : Tabs W) (t : Tree) (cs : List Value) (p : Nat) (T : TypeId) (L N : List Bytes) (hs : shapeS t = true) (hsz : t.size ≤ 1000) (h1 : L.length ≤ 100000) (h2 : N.length ≤ 100000) (hr : RdX false W cs (up t)) (h : St W w p T L N) :
 Calls Tryz.prog 46 #[.pointer (some ⟨p, 0, none⟩), .agg cs.toArray] w (StPost W p T (L ++ So.wS t) (N ++ namesS t)) := by
 obtain ⟨S, h⟩ := h.wr
 exact St.of (sstart_any W ht t.size t cs w p T S L N (lR _) hs (by omega) (by omega) hr h)
theorem word2_b (W w : World) (p : Nat) (T : TypeId) (L N : List Bytes) (s u : Bytes) (g b : Nat) (O : Obj) (hg : g = w.heap.size) (h : StB W w p T L N b O) (hlen : L.length ≤ 900000) :
 Calls Tryz.prog 27 #[.pointer (some ⟨p, 0, none⟩), .slice (some ⟨g, 0, none⟩) 2 2] (w.alloc (.cells #[vs s, vs u] 9)) fun e w' => e = .returned (.tuple #[]) ∧ StB W w' p T (L ++ [s, u]) N b O := by
 obtain ⟨S, hw, hn⟩ := h.wr
 refine (word2_w W w p T S L N s u g hg hw (by omega)).mono ?_
 rintro e w' ⟨rfl, S', hw', hf⟩
 obtain ⟨g1, g2⟩ := hf.box h.blk hn
 exact ⟨rfl, ⟨S', hw', g2⟩, g1⟩
end Go.Proofs.YtbicmjmcdnkjhaaGreatDoor
set_option maxRecDepth 100000
set_option maxHeartbeats 4000000
namespace Go.Proofs.YtbicmjmcdnkjhaaGreatDoor
open Go.RowKit
attribute [local go_sem ↓] Go.wp_at_zero Go.wp_at_succ
noncomputable def sbody (i : Nat) : Code := (Tryz.f14.body.bind fun c => (loopsOf c)[i]?).getD .skip
theorem br_len (l : List Bytes) : (So.brW l).length = l.length + 2 := by unfold So.brW; simp
/- which start: the number of the round, what is absent, the word ahead -/
def TurnS (k tri : Nat) (kw : Bytes) : Prop := k = 0 ∧ tri = 1 ∧ kw = So.wStarts ∨ k = 1 ∧ tri = 2 ∧ kw = So.wEnds ∨ k = 2 ∧ tri = 2 ∧ kw = So.wRet
theorem sround (Q : Exit → Act → World → Prop) (W wr : World) (pb : Nat) (L N : List Bytes) (k tri : Nat) (kw : Bytes) (o : Nat) (nm : Bytes) (d m : Nat) (K : Option Addr) (ks : List Tree) (q : Nat) (A : Array Value) (hk : TurnS k tri kw)
 (hix : ∀ w, (Instr.index 59 (.agg A) (.int .i64 k)).run Tryz.prog w = .ok (.agg #[.int .i64 o, vs nm, .int .i64 m, .slice K (ups ks).length q]) w) (ht : Tabs W)
 (hr : RdX false W [.int .i64 o, vs nm, .int .i64 m, .slice K (ups ks).length q] (up (.mk o nm d m ks))) (hs : shapeS (.mk o nm d m ks) = true) (hsz : (Tree.mk o nm d m ks).size ≤ 1000) (hL : L.length ≤ 12000) (hN : N.length ≤ 4000) (hS : St W wr W.heap.size 74 L N)
 (u0 u2 u3 u5 u6 u7 u8 u9 u10 u11 u12 u13 u14 u15 u16 u17 u18 u19 u20 u21 u22 u23 u24 u25 u26 u27 u28 u29 u30 u31 u32 u33 u34 u35 u36 u37 u38 u39 u40 u41 u42 u43 u44 u45 u46 u47 u48 u49 u50 u51 u52 u53 u54 u55 u56 u57 u58 u59 u60 u61 u62 u63 u64 u65 u66 u67 u68 u69 u70 u71 u72 u73 u76 u77 u78 u79 u80 u81 u82 u83 u84 u85 u86 u87 u88 u89 u90 u91 u92 u93 u94 u95 u96 u97 u98 u99 u100 u101 u102 u103 u104 u105 u106 u107 u108 u109 u110 u111 u112 u113 u114 u115 u116 u117 u118 u119 u120 u121 u122 u123 : Value)
 (hend : ∀ (v7 v8 v9 v76 v77 v78 v79 v80 v81 v82 v83 v84 v85 v86 v87 v88 v89 v90 v91 v92 v93 v94 v95 v96 : Value) (w' : World), St W w' W.heap.size 74 (L ++ partW (o != tri) kw (So.brW (So.wS (.mk o nm d m ks)))) (N ++ namesS (.mk o nm d m ks)) → Q .normal ⟨#[u0, .pointer (some ⟨pb, 0, none⟩), u2, u3, .pointer (some ⟨W.heap.size, 0, none⟩), u5, u6, v7, v8, v9, u10, u11, u12, u13, u14, u15, u16, u17, u18, u19, u20, u21, u22, u23, u24, u25, u26, u27, u28, u29, u30, u31, u32, u33, u34, u35, u36, u37, u38, u39, u40, u41, u42, u43, u44, u45, u46, u47, u48, u49, u50, u51, u52, u53, u54, u55, u56, u57, u58, u59, u60, u61, u62, u63, u64, u65, u66, u67, u68, u69, u70, u71, u72, u73, .agg A, .int .i64 (k + 1), v76, v77, v78, v79, v80, v81, v82, v83, v84, v85, v86, v87, v88, v89, v90, v91, v92, v93, v94, v95, v96, u97, u98, u99, u100, u101, u102, u103, u104, u105, u106, u107, u108, u109, u110, u111, u112, u113, u114, u115, u116, u117, u118, u119, u120, u121, u122, u123], []⟩ w') :
 Code.wp Tryz.prog (sbody 1) Q ⟨#[u0, .pointer (some ⟨pb, 0, none⟩), u2, u3, .pointer (some ⟨W.heap.size, 0, none⟩), u5, u6, u7, u8, u9, u10, u11, u12, u13, u14, u15, u16, u17, u18, u19, u20, u21, u22, u23, u24, u25, u26, u27, u28, u29, u30, u31, u32, u33, u34, u35, u36, u37, u38, u39, u40, u41, u42, u43, u44, u45, u46, u47, u48, u49, u50, u51, u52, u53, u54, u55, u56, u57, u58, u59, u60, u61, u62, u63, u64, u65, u66, u67, u68, u69, u70, u71, u72, u73, .agg A, .int .i64 k, u76, u77, u78, u79, u80, u81, u82, u83, u84, u85, u86, u87, u88, u89, u90, u91, u92, u93, u94, u95, u96, u97, u98, u99, u100, u101, u102, u103, u104, u105, u106, u107, u108, u109, u110, u111, u112, u113, u114, u115, u116, u117, u118, u119, u120, u121, u122, u123], []⟩ wr := by
 have HS := Hi hS
 have HE := Hi hend
 have HR := Hi hr
 have HT := Hi ht
 have HSH := Hi hs
 have HSZ := Hi hsz
 clear hS hend hr ht hs hsz
 conv => arg 2; whnf
 rcases hk with ⟨rfl, rfl, rfl⟩ | ⟨rfl, rfl, rfl⟩ | ⟨rfl, rfl, rfl⟩
 · rw [show ((0 : Nat) : Int) = (0 : Int) from rfl] at *
   go_upto_region 25 with fail
   have hSB := HS.out.box #[.int .i64 o, vs nm, .int .i64 m, .slice K (ups ks).length q] 28
   have d0 := cOb (o := 0) hSB.blk rfl
   have dl := lHp hSB.blk
   have HSB0 := Hi hSB
   clear hSB HS hix
   by_cases hop : o = 1
   · subst hop
     have HN0 := Hi (start_triv HSH.out (by decide))
     go_wp2_with fail
     exact HE.out _ _ _ _ _ _ _ _ _ _ _ _ _ _ _ _ _ _ _ _ _ _ _ _ _ (by rw [HN0.out]; have := HSB0.out.st; simpa [partW] using this)
   · have hop2 : ¬ ((o : Int) = 1) := by omega
     have HOP := Hi hop
     clear hop
     have hi3 : ∀ w, (Instr.index 60 (.agg #[vs [115, 116, 97, 114, 116, 115], vs [101, 110, 100, 115], vs [114, 101, 116, 117, 114, 110, 115]]) (.int .i64 0)).run Tryz.prog w = .ok (vs So.wStarts) w := fun _ => by kernel_rfl
     go_wp2_with fail
     refine (word2_b W _ _ _ _ _ _ _ _ _ _ (by simp) HSB0.out (by omega)).mono ?_
     rintro e w9 ⟨rfl, hSB⟩
     clear d0 dl
     have d0 := cOb (o := 0) hSB.blk rfl
     have d1 := cOb (o := 1) hSB.blk rfl
     have d2 := cOb (o := 2) hSB.blk rfl
     have d3 := cOb (o := 3) hSB.blk rfl
     have dl := lHp hSB.blk
     have HSB := Hi hSB
     clear hSB
     go_wp2_with fail
     refine (sstart_s W _ HT.out _ _ _ _ _ _ HSH.out HSZ.out (by simp; omega) (by omega) HR.out HSB.out.st).mono ?_
     rintro e w8 ⟨rfl, hS⟩
     have HS8 := Hi hS
     have hwl := So.wS_le (.mk o nm d m ks)
     have hsz := HSZ.out
     clear hS d0 d1 d2 d3 dl
     go_wp2_with fail
     refine (word_s W _ _ _ _ _ _ _ (by simp) HS8.out (by simp; omega)).mono ?_
     rintro e w7 ⟨rfl, hS⟩
     have HS7 := Hi hS
     clear hS hwl hsz
     go_wp2_with fail
     exact HE.out _ _ _ _ _ _ _ _ _ _ _ _ _ _ _ _ _ _ _ _ _ _ _ _ _ (by have := HS7.out; rw [show partW (o != 1) So.wStarts (So.brW (So.wS (.mk o nm d m ks))) = So.wStarts :: So.brW (So.wS (.mk o nm d m ks)) by unfold partW; rw [if_pos (by simpa using HOP.out)]]; unfold So.brW; simpa using this)
 · rw [show ((1 : Nat) : Int) = (1 : Int) from rfl] at *
   go_upto_region 25 with fail
   have hSB := HS.out.box #[.int .i64 o, vs nm, .int .i64 m, .slice K (ups ks).length q] 28
   have d0 := cOb (o := 0) hSB.blk rfl
   have dl := lHp hSB.blk
   have HSB0 := Hi hSB
   clear hSB HS hix
   by_cases hop : o = 2
   · subst hop
     have HN0 := Hi (start_triv HSH.out (by decide))
     go_wp2_with fail
     exact HE.out _ _ _ _ _ _ _ _ _ _ _ _ _ _ _ _ _ _ _ _ _ _ _ _ _ (by rw [HN0.out]; have := HSB0.out.st; simpa [partW] using this)
   · have hop2 : ¬ ((o : Int) = 2) := by omega
     have HOP := Hi hop
     clear hop
     have hi3 : ∀ w, (Instr.index 60 (.agg #[vs [115, 116, 97, 114, 116, 115], vs [101, 110, 100, 115], vs [114, 101, 116, 117, 114, 110, 115]]) (.int .i64 1)).run Tryz.prog w = .ok (vs So.wEnds) w := fun _ => by kernel_rfl
     go_wp2_with fail
     refine (word2_b W _ _ _ _ _ _ _ _ _ _ (by simp) HSB0.out (by omega)).mono ?_
     rintro e w9 ⟨rfl, hSB⟩
     clear d0 dl
     have d0 := cOb (o := 0) hSB.blk rfl
     have d1 := cOb (o := 1) hSB.blk rfl
     have d2 := cOb (o := 2) hSB.blk rfl
     have d3 := cOb (o := 3) hSB.blk rfl
     have dl := lHp hSB.blk
     have HSB := Hi hSB
     clear hSB
     go_wp2_with fail
     refine (sstart_s W _ HT.out _ _ _ _ _ _ HSH.out HSZ.out (by simp; omega) (by omega) HR.out HSB.out.st).mono ?_
     rintro e w8 ⟨rfl, hS⟩
     have HS8 := Hi hS
     have hwl := So.wS_le (.mk o nm d m ks)
     have hsz := HSZ.out
     clear hS d0 d1 d2 d3 dl
     go_wp2_with fail
     refine (word_s W _ _ _ _ _ _ _ (by simp) HS8.out (by simp; omega)).mono ?_
     rintro e w7 ⟨rfl, hS⟩
     have HS7 := Hi hS
     clear hS hwl hsz
     go_wp2_with fail
     exact HE.out _ _ _ _ _ _ _ _ _ _ _ _ _ _ _ _ _ _ _ _ _ _ _ _ _ (by have := HS7.out; rw [show partW (o != 2) So.wEnds (So.brW (So.wS (.mk o nm d m ks))) = So.wEnds :: So.brW (So.wS (.mk o nm d m ks)) by unfold partW; rw [if_pos (by simpa using HOP.out)]]; unfold So.brW; simpa using this)
 · rw [show ((2 : Nat) : Int) = (2 : Int) from rfl] at *
   go_upto_region 25 with fail
   have hSB := HS.out.box #[.int .i64 o, vs nm, .int .i64 m, .slice K (ups ks).length q] 28
   have d0 := cOb (o := 0) hSB.blk rfl
   have dl := lHp hSB.blk
   have HSB0 := Hi hSB
   clear hSB HS hix
   by_cases hop : o = 2
   · subst hop
     have HN0 := Hi (start_triv HSH.out (by decide))
     go_wp2_with fail
     exact HE.out _ _ _ _ _ _ _ _ _ _ _ _ _ _ _ _ _ _ _ _ _ _ _ _ _ (by rw [HN0.out]; have := HSB0.out.st; simpa [partW] using this)
   · have hop2 : ¬ ((o : Int) = 2) := by omega
     have HOP := Hi hop
     clear hop
     have hi3 : ∀ w, (Instr.index 60 (.agg #[vs [115, 116, 97, 114, 116, 115], vs [101, 110, 100, 115], vs [114, 101, 116, 117, 114, 110, 115]]) (.int .i64 2)).run Tryz.prog w = .ok (vs So.wRet) w := fun _ => by kernel_rfl
     go_wp2_with fail
     refine (word2_b W _ _ _ _ _ _ _ _ _ _ (by simp) HSB0.out (by omega)).mono ?_
     rintro e w9 ⟨rfl, hSB⟩
     clear d0 dl
     have d0 := cOb (o := 0) hSB.blk rfl
     have d1 := cOb (o := 1) hSB.blk rfl
     have d2 := cOb (o := 2) hSB.blk rfl
     have d3 := cOb (o := 3) hSB.blk rfl
     have dl := lHp hSB.blk
     have HSB := Hi hSB
     clear hSB
     go_wp2_with fail
     refine (sstart_s W _ HT.out _ _ _ _ _ _ HSH.out HSZ.out (by simp; omega) (by omega) HR.out HSB.out.st).mono ?_
     rintro e w8 ⟨rfl, hS⟩
     have HS8 := Hi hS
     have hwl := So.wS_le (.mk o nm d m ks)
     have hsz := HSZ.out
     clear hS d0 d1 d2 d3 dl
     go_wp2_with fail
     refine (word_s W _ _ _ _ _ _ _ (by simp) HS8.out (by simp; omega)).mono ?_
     rintro e w7 ⟨rfl, hS⟩
     have HS7 := Hi hS
     clear hS hwl hsz
     go_wp2_with fail
     exact HE.out _ _ _ _ _ _ _ _ _ _ _ _ _ _ _ _ _ _ _ _ _ _ _ _ _ (by have := HS7.out; rw [show partW (o != 2) So.wRet (So.brW (So.wS (.mk o nm d m ks))) = So.wRet :: So.brW (So.wS (.mk o nm d m ks)) by unfold partW; rw [if_pos (by simpa using HOP.out)]]; unfold So.brW; simpa using this)
/- the three rounds -/
theorem sloop2 (Q : Exit → Act → World → Prop) (W w : World) (pb : Nat) (L N : List Bytes) (oB : Nat) (nB : Bytes) (dB mB : Nat) (KB : Option Addr) (ksB : List Tree) (qB : Nat) (oD : Nat) (nD : Bytes) (dD mD : Nat) (KD : Option Addr) (ksD : List Tree) (qD : Nat) (oG : Nat) (nG : Bytes) (dG mG : Nat) (KG : Option Addr) (ksG : List Tree) (qG : Nat) (A : Array Value)
 (hx0 : ∀ w, (Instr.index 59 (.agg A) (.int .i64 0)).run Tryz.prog w = .ok (.agg #[.int .i64 oB, vs nB, .int .i64 mB, .slice KB (ups ksB).length qB]) w) (hx1 : ∀ w, (Instr.index 59 (.agg A) (.int .i64 1)).run Tryz.prog w = .ok (.agg #[.int .i64 oD, vs nD, .int .i64 mD, .slice KD (ups ksD).length qD]) w) (hx2 : ∀ w, (Instr.index 59 (.agg A) (.int .i64 2)).run Tryz.prog w = .ok (.agg #[.int .i64 oG, vs nG, .int .i64 mG, .slice KG (ups ksG).length qG]) w) (ht : Tabs W)
 (hrB : RdX false W [.int .i64 oB, vs nB, .int .i64 mB, .slice KB (ups ksB).length qB] (up (.mk oB nB dB mB ksB))) (hsB : shapeS (.mk oB nB dB mB ksB) = true) (hzB : (Tree.mk oB nB dB mB ksB).size ≤ 300) (hrD : RdX false W [.int .i64 oD, vs nD, .int .i64 mD, .slice KD (ups ksD).length qD] (up (.mk oD nD dD mD ksD))) (hsD : shapeS (.mk oD nD dD mD ksD) = true) (hzD : (Tree.mk oD nD dD mD ksD).size ≤ 300) (hrG : RdX false W [.int .i64 oG, vs nG, .int .i64 mG, .slice KG (ups ksG).length qG] (up (.mk oG nG dG mG ksG))) (hsG : shapeS (.mk oG nG dG mG ksG) = true) (hzG : (Tree.mk oG nG dG mG ksG).size ≤ 300) (hL : L.length ≤ 5000) (hN : N.length ≤ 2000) (hS : St W w W.heap.size 74 L N)
 (u0 u2 u3 u5 u6 u7 u8 u9 u10 u11 u12 u13 u14 u15 u16 u17 u18 u19 u20 u21 u22 u23 u24 u25 u26 u27 u28 u29 u30 u31 u32 u33 u34 u35 u36 u37 u38 u39 u40 u41 u42 u43 u44 u45 u46 u47 u48 u49 u50 u51 u52 u53 u54 u55 u56 u57 u58 u59 u60 u61 u62 u63 u64 u65 u66 u67 u68 u69 u70 u71 u72 u73 u76 u77 u78 u79 u80 u81 u82 u83 u84 u85 u86 u87 u88 u89 u90 u91 u92 u93 u94 u95 u96 u97 u98 u99 u100 u101 u102 u103 u104 u105 u106 u107 u108 u109 u110 u111 u112 u113 u114 u115 u116 u117 u118 u119 u120 u121 u122 u123 : Value)
 (hend : ∀ (v7 v8 v9 v76 v77 v78 v79 v80 v81 v82 v83 v84 v85 v86 v87 v88 v89 v90 v91 v92 v93 v94 v95 v96 : Value) (w' : World), St W w' W.heap.size 74 (L ++ (partW (oB != 1) So.wStarts (So.brW (So.wS (.mk oB nB dB mB ksB))) ++ partW (oD != 2) So.wEnds (So.brW (So.wS (.mk oD nD dD mD ksD))) ++ partW (oG != 2) So.wRet (So.brW (So.wS (.mk oG nG dG mG ksG))))) (N ++ (namesS (.mk oB nB dB mB ksB) ++ namesS (.mk oD nD dD mD ksD) ++ namesS (.mk oG nG dG mG ksG))) → Q (.exit 2) ⟨#[u0, .pointer (some ⟨pb, 0, none⟩), u2, u3, .pointer (some ⟨W.heap.size, 0, none⟩), u5, u6, v7, v8, v9, u10, u11, u12, u13, u14, u15, u16, u17, u18, u19, u20, u21, u22, u23, u24, u25, u26, u27, u28, u29, u30, u31, u32, u33, u34, u35, u36, u37, u38, u39, u40, u41, u42, u43, u44, u45, u46, u47, u48, u49, u50, u51, u52, u53, u54, u55, u56, u57, u58, u59, u60, u61, u62, u63, u64, u65, u66, u67, u68, u69, u70, u71, u72, u73, .agg A, .int .i64 3, v76, v77, v78, v79, v80, v81, v82, v83, v84, v85, v86, v87, v88, v89, v90, v91, v92, v93, v94, v95, v96, u97, u98, u99, u100, u101, u102, u103, u104, u105, u106, u107, u108, u109, u110, u111, u112, u113, u114, u115, u116, u117, u118, u119, u120, u121, u122, u123], []⟩ w') :
 Code.wp Tryz.prog (.loop (sbody 1)) Q ⟨#[u0, .pointer (some ⟨pb, 0, none⟩), u2, u3, .pointer (some ⟨W.heap.size, 0, none⟩), u5, u6, u7, u8, u9, u10, u11, u12, u13, u14, u15, u16, u17, u18, u19, u20, u21, u22, u23, u24, u25, u26, u27, u28, u29, u30, u31, u32, u33, u34, u35, u36, u37, u38, u39, u40, u41, u42, u43, u44, u45, u46, u47, u48, u49, u50, u51, u52, u53, u54, u55, u56, u57, u58, u59, u60, u61, u62, u63, u64, u65, u66, u67, u68, u69, u70, u71, u72, u73, .agg A, .int .i64 0, u76, u77, u78, u79, u80, u81, u82, u83, u84, u85, u86, u87, u88, u89, u90, u91, u92, u93, u94, u95, u96, u97, u98, u99, u100, u101, u102, u103, u104, u105, u106, u107, u108, u109, u110, u111, u112, u113, u114, u115, u116, u117, u118, u119, u120, u121, u122, u123], []⟩ w := by
 have pB : (partW (oB != 1) So.wStarts (So.brW (So.wS (.mk oB nB dB mB ksB)))).length ≤ 2000 := by
  have h1 := part_le (oB != 1) So.wStarts (So.brW (So.wS (.mk oB nB dB mB ksB)))
  have h2 := So.wS_le (.mk oB nB dB mB ksB)
  have h3 := br_len (So.wS (.mk oB nB dB mB ksB))
  omega
 have qB' : (namesS (.mk oB nB dB mB ksB)).length ≤ 300 := by
  have h2 := namesS_le (.mk oB nB dB mB ksB)
  omega
 have pD : (partW (oD != 2) So.wEnds (So.brW (So.wS (.mk oD nD dD mD ksD)))).length ≤ 2000 := by
  have h1 := part_le (oD != 2) So.wEnds (So.brW (So.wS (.mk oD nD dD mD ksD)))
  have h2 := So.wS_le (.mk oD nD dD mD ksD)
  have h3 := br_len (So.wS (.mk oD nD dD mD ksD))
  omega
 have qD' : (namesS (.mk oD nD dD mD ksD)).length ≤ 300 := by
  have h2 := namesS_le (.mk oD nD dD mD ksD)
  omega
 have pG : (partW (oG != 2) So.wRet (So.brW (So.wS (.mk oG nG dG mG ksG)))).length ≤ 2000 := by
  have h1 := part_le (oG != 2) So.wRet (So.brW (So.wS (.mk oG nG dG mG ksG)))
  have h2 := So.wS_le (.mk oG nG dG mG ksG)
  have h3 := br_len (So.wS (.mk oG nG dG mG ksG))
  omega
 have qG' : (namesS (.mk oG nG dG mG ksG)).length ≤ 300 := by
  have h2 := namesS_le (.mk oG nG dG mG ksG)
  omega
 have HX0 := Hi hx0
 have HX1 := Hi hx1
 have HX2 := Hi hx2
 refine wp_loop (fun a w' => ∃ (k : Nat) (v7 v8 v9 v76 v77 v78 v79 v80 v81 v82 v83 v84 v85 v86 v87 v88 v89 v90 v91 v92 v93 v94 v95 v96 : Value), k ≤ 3 ∧ St W w' W.heap.size 74 (L ++ ([partW (oB != 1) So.wStarts (So.brW (So.wS (.mk oB nB dB mB ksB))), partW (oD != 2) So.wEnds (So.brW (So.wS (.mk oD nD dD mD ksD))), partW (oG != 2) So.wRet (So.brW (So.wS (.mk oG nG dG mG ksG)))].take k).flatten) (N ++ ([namesS (.mk oB nB dB mB ksB), namesS (.mk oD nD dD mD ksD), namesS (.mk oG nG dG mG ksG)].take k).flatten) ∧ a = ⟨#[u0, .pointer (some ⟨pb, 0, none⟩), u2, u3, .pointer (some ⟨W.heap.size, 0, none⟩), u5, u6, v7, v8, v9, u10, u11, u12, u13, u14, u15, u16, u17, u18, u19, u20, u21, u22, u23, u24, u25, u26, u27, u28, u29, u30, u31, u32, u33, u34, u35, u36, u37, u38, u39, u40, u41, u42, u43, u44, u45, u46, u47, u48, u49, u50, u51, u52, u53, u54, u55, u56, u57, u58, u59, u60, u61, u62, u63, u64, u65, u66, u67, u68, u69, u70, u71, u72, u73, .agg A, .int .i64 k, v76, v77, v78, v79, v80, v81, v82, v83, v84, v85, v86, v87, v88, v89, v90, v91, v92, v93, v94, v95, v96, u97, u98, u99, u100, u101, u102, u103, u104, u105, u106, u107, u108, u109, u110, u111, u112, u113, u114, u115, u116, u117, u118, u119, u120, u121, u122, u123], []⟩) (fun a _ => 3 - (intOf (a.tmps.getD 75 undef)).toNat) ?_ ?_
 · exact ⟨0, u7, u8, u9, u76, u77, u78, u79, u80, u81, u82, u83, u84, u85, u86, u87, u88, u89, u90, u91, u92, u93, u94, u95, u96, by omega, by simpa using hS, rfl⟩
 · rintro a w' ⟨k, v7, v8, v9, v76, v77, v78, v79, v80, v81, v82, v83, v84, v85, v86, v87, v88, v89, v90, v91, v92, v93, v94, v95, v96, hk, hS', rfl⟩
   clear hS
   have hk4 : k = 0 ∨ k = 1 ∨ k = 2 ∨ k = 3 := by omega
   rcases hk4 with rfl | rfl | rfl | rfl
   · refine sround _ W w' pb _ _ 0 1 So.wStarts oB nB dB mB KB ksB qB A (Or.inl <| ⟨rfl, rfl, rfl⟩) HX0.out ht hrB hsB (by omega) ?_ ?_ hS' u0 u2 u3 u5 u6 v7 v8 v9 u10 u11 u12 u13 u14 u15 u16 u17 u18 u19 u20 u21 u22 u23 u24 u25 u26 u27 u28 u29 u30 u31 u32 u33 u34 u35 u36 u37 u38 u39 u40 u41 u42 u43 u44 u45 u46 u47 u48 u49 u50 u51 u52 u53 u54 u55 u56 u57 u58 u59 u60 u61 u62 u63 u64 u65 u66 u67 u68 u69 u70 u71 u72 u73 v76 v77 v78 v79 v80 v81 v82 v83 v84 v85 v86 v87 v88 v89 v90 v91 v92 v93 v94 v95 v96 u97 u98 u99 u100 u101 u102 u103 u104 u105 u106 u107 u108 u109 u110 u111 u112 u113 u114 u115 u116 u117 u118 u119 u120 u121 u122 u123 ?_
     · simp only [List.take_succ_cons, List.take_zero, List.flatten_cons, List.flatten_nil, List.length_append, List.length_nil]; omega
     · simp only [List.take_succ_cons, List.take_zero, List.flatten_cons, List.flatten_nil, List.length_append, List.length_nil]; omega
     · intro x7 x8 x9 x76 x77 x78 x79 x80 x81 x82 x83 x84 x85 x86 x87 x88 x89 x90 x91 x92 x93 x94 x95 x96 wy hy
       refine ⟨⟨1, x7, x8, x9, x76, x77, x78, x79, x80, x81, x82, x83, x84, x85, x86, x87, x88, x89, x90, x91, x92, x93, x94, x95, x96, by omega, by simpa using hy, rfl⟩, by simp [intOf]⟩
   · refine sround _ W w' pb _ _ 1 2 So.wEnds oD nD dD mD KD ksD qD A (Or.inr ∘ Or.inl <| ⟨rfl, rfl, rfl⟩) HX1.out ht hrD hsD (by omega) ?_ ?_ hS' u0 u2 u3 u5 u6 v7 v8 v9 u10 u11 u12 u13 u14 u15 u16 u17 u18 u19 u20 u21 u22 u23 u24 u25 u26 u27 u28 u29 u30 u31 u32 u33 u34 u35 u36 u37 u38 u39 u40 u41 u42 u43 u44 u45 u46 u47 u48 u49 u50 u51 u52 u53 u54 u55 u56 u57 u58 u59 u60 u61 u62 u63 u64 u65 u66 u67 u68 u69 u70 u71 u72 u73 v76 v77 v78 v79 v80 v81 v82 v83 v84 v85 v86 v87 v88 v89 v90 v91 v92 v93 v94 v95 v96 u97 u98 u99 u100 u101 u102 u103 u104 u105 u106 u107 u108 u109 u110 u111 u112 u113 u114 u115 u116 u117 u118 u119 u120 u121 u122 u123 ?_
     · simp only [List.take_succ_cons, List.take_zero, List.flatten_cons, List.flatten_nil, List.length_append, List.length_nil]; omega
     · simp only [List.take_succ_cons, List.take_zero, List.flatten_cons, List.flatten_nil, List.length_append, List.length_nil]; omega
     · intro x7 x8 x9 x76 x77 x78 x79 x80 x81 x82 x83 x84 x85 x86 x87 x88 x89 x90 x91 x92 x93 x94 x95 x96 wy hy
       refine ⟨⟨2, x7, x8, x9, x76, x77, x78, x79, x80, x81, x82, x83, x84, x85, x86, x87, x88, x89, x90, x91, x92, x93, x94, x95, x96, by omega, by simpa using hy, rfl⟩, by simp [intOf]⟩
   · refine sround _ W w' pb _ _ 2 2 So.wRet oG nG dG mG KG ksG qG A (Or.inr ∘ Or.inr <| ⟨rfl, rfl, rfl⟩) HX2.out ht hrG hsG (by omega) ?_ ?_ hS' u0 u2 u3 u5 u6 v7 v8 v9 u10 u11 u12 u13 u14 u15 u16 u17 u18 u19 u20 u21 u22 u23 u24 u25 u26 u27 u28 u29 u30 u31 u32 u33 u34 u35 u36 u37 u38 u39 u40 u41 u42 u43 u44 u45 u46 u47 u48 u49 u50 u51 u52 u53 u54 u55 u56 u57 u58 u59 u60 u61 u62 u63 u64 u65 u66 u67 u68 u69 u70 u71 u72 u73 v76 v77 v78 v79 v80 v81 v82 v83 v84 v85 v86 v87 v88 v89 v90 v91 v92 v93 v94 v95 v96 u97 u98 u99 u100 u101 u102 u103 u104 u105 u106 u107 u108 u109 u110 u111 u112 u113 u114 u115 u116 u117 u118 u119 u120 u121 u122 u123 ?_
     · simp only [List.take_succ_cons, List.take_zero, List.flatten_cons, List.flatten_nil, List.length_append, List.length_nil]; omega
     · simp only [List.take_succ_cons, List.take_zero, List.flatten_cons, List.flatten_nil, List.length_append, List.length_nil]; omega
     · intro x7 x8 x9 x76 x77 x78 x79 x80 x81 x82 x83 x84 x85 x86 x87 x88 x89 x90 x91 x92 x93 x94 x95 x96 wy hy
       refine ⟨⟨3, x7, x8, x9, x76, x77, x78, x79, x80, x81, x82, x83, x84, x85, x86, x87, x88, x89, x90, x91, x92, x93, x94, x95, x96, by omega, by simpa using hy, rfl⟩, by simp [intOf]⟩
   · have HS := Hi hS'
     have HE := Hi hend
     clear hS' hend hx0 hx1 hx2 HX0 HX1 HX2
     rw [show ((3 : Nat) : Int) = (3 : Int) from rfl] at *
     conv => arg 2; whnf
     go_wp2_with fail
     exact HE.out _ _ _ _ _ _ _ _ _ _ _ _ _ _ _ _ _ _ _ _ _ _ _ _ _ (by have := HS.out; simpa using this)
end Go.Proofs.YtbicmjmcdnkjhaaGreatDoor

