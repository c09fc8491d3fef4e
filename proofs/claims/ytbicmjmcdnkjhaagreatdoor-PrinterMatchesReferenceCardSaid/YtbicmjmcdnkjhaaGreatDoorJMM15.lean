/- A key added to a replacer's tree. A key added to a table of a replacer's tree. A key of two bytes added to a replacer's tree, at its root. -/
import Derived.Test.YtbicmjmcdnkjhaaGreatDoorJMM1
import Derived.Test.YtbicmjmcdnkjhaaGreatDoorJMM14
import Derived.Test.YtbicmjmcdnkjhaaGreatDoorJMM8
import Derived.Deep.CutRange
import Derived.StillTailTactics
import Derived.Deep.RegionHeld3
import Derived.Deep.DrawnRows
import Derived.Deep.OwnRows
import Derived.WalkSpells
set_option linter.unusedVariables false
set_option linter.unusedSimpArgs false
set_option maxRecDepth 100000
set_option maxHeartbeats 8000000
namespace Go.Proofs.YtbicmjmcdnkjhaaGreatDoor
open Go.RowKit
attribute [local go_sem ↓] Go.wp_at_zero Go.wp_at_succ
theorem NodeB.lt {w : World} {b : Nat} {val pre : Bytes} {q : Int} {nxt tab : Value} (h : NodeB w b val q pre nxt tab) : b < w.heap.size := lHp h
theorem NodeB.cells {w : World} {b : Nat} {val pre : Bytes} {q : Int} {nxt tab : Value} (h : NodeB w b val q pre nxt tab) : w.cell? ⟨b, 0, none⟩ = some (vs val) ∧ w.cell? ⟨b, 1, none⟩ = some (.int .i64 q) ∧ w.cell? ⟨b, 2, none⟩ = some (vs pre) ∧ w.cell? ⟨b, 3, none⟩ = some nxt ∧ w.cell? ⟨b, 4, none⟩ = some tab ∧ ∀ o, w.frozen? ⟨b, o, none⟩ = false :=
 ⟨cOb h rfl, cOb h rfl, cOb h rfl, cOb h rfl, cOb h rfl, fun o => fOb h⟩
theorem add_leaf (w : World) (b r : Nat) (pre val : Bytes) (q : Int) (nxt tab : Value) (h : NodeB w b [] 0 pre nxt tab) :
 Calls Tryz.prog 181 #[ptrB b, vs [], vs val, .int .i64 q, ptrB r] w fun e w' => e = .returned (.tuple #[]) ∧ NodeB w' b val q pre nxt tab ∧ Eff b w w' ∧ w'.heap.size = w.heap.size := by
 obtain ⟨c0, c1, -, -, -, f⟩ := h.cells
 have f0 := f 0
 have f1 := f 1
 have hlt := h.lt
 have HX : Hid (NodeB ((w.setCell ⟨b, 0, none⟩ (vs val)).setCell ⟨b, 1, none⟩ (.int .i64 q)) b val q pre nxt tab) := Hi (by
  unfold NodeB at *
  simp [World.setCell, Array.getElem?_modify, h])
 clear f h
 go_enter Tryz.func181, Tryz.ntmps181
 go_wp2_with fail
 refine bodyPost_ret (results_none rfl _ _ _) rfl ?_
 exact ⟨rfl, HX.out, ((Eff.refl b w).setCell _ (Or.inl rfl) _).setCell _ (Or.inl rfl) _, by simp⟩
theorem Eff.fresh {b n : Nat} {w x w' : World} (h : Eff b w x) (k : Eff n x w') (hn : w.heap.size ≤ n) : Eff b w w' :=
 ⟨k.os.trans h.os, k.tape.trans h.tape, k.output.trans h.output, Nat.le_trans h.size k.size, fun i hi hne => (k.block i (Nat.lt_of_lt_of_le hi h.size) (by omega)).trans (h.block i hi hne)⟩
theorem add_pre (w : World) (b r : Nat) (y : UInt8) (val : Bytes) (q : Int) (h : NodeB w b [] 0 [] nilP (.slice none 0 0)) :
 Calls Tryz.prog 181 #[ptrB b, vs [y], vs val, .int .i64 q, ptrB r] w fun e w' => e = .returned (.tuple #[]) ∧ ∃ l, w.heap.size ≤ l ∧ l < w'.heap.size ∧ NodeB w' b [] 0 [y] (ptrB l) (.slice none 0 0) ∧ LeafB w' l val q ∧ Eff b w w' := by
 obtain ⟨c0, c1, c2, c3, c4, f⟩ := h.cells
 have f2 := f 2
 have f3 := f 3
 have hlt := h.lt
 have H := Hi h
 clear f h
 go_enter Tryz.func181, Tryz.ntmps181
 go_wp2_with fail
 have hX1 : NodeB (((w.setCell ⟨b, 2, none⟩ (vs [y])).setCell ⟨b, 3, none⟩ (ptrB w.heap.size)).alloc (.cells #[vs [], .int .i64 0, vs [], nilP, .slice none 0 0] 252)) b [] 0 [y] (ptrB w.heap.size) (.slice none 0 0) := by
  have h := H.out
  unfold NodeB at *
  refine kept_at ?_
  simp [World.setCell, Array.getElem?_modify, h]
 have hX2 : Eff b w (((w.setCell ⟨b, 2, none⟩ (vs [y])).setCell ⟨b, 3, none⟩ (ptrB w.heap.size)).alloc (.cells #[vs [], .int .i64 0, vs [], nilP, .slice none 0 0] 252)) := (((Eff.refl b w).setCell _ (Or.inl rfl) _).setCell _ (Or.inl rfl) _).alloc _
 have hX3 : NodeB (((w.setCell ⟨b, 2, none⟩ (vs [y])).setCell ⟨b, 3, none⟩ (ptrB w.heap.size)).alloc (.cells #[vs [], .int .i64 0, vs [], nilP, .slice none 0 0] 252)) w.heap.size [] 0 [] nilP (.slice none 0 0) := new_at (by simp)
 have HX1 := Hi hX1
 have HX2 := Hi hX2
 have HL := Hi (add_leaf _ w.heap.size r [] val q nilP (.slice none 0 0) hX3)
 clear hX1 hX2 hX3 c0 c1 c2 c3 c4 f2 f3
 refine HL.out.mono ?_
 rintro e w1 ⟨rfl, h1, h2, h3⟩
 have H1 := Hi h1
 have H2 := Hi h2
 clear h1 h2 h3
 go_wp2_with fail
 go_end0
 refine ⟨rfl, w.heap.size, lR _, H1.out.lt, (H2.out.block b HX1.out.lt (by omega)).trans HX1.out, H1.out, HX2.out.fresh H2.out (lR _)⟩
@[go_sem] theorem byte1 (y : UInt8) (h : 0 < ({ data := #[y] } : ByteArray).size) : (({ data := #[y] } : ByteArray)[0]'h) = y := rfl
@[go_sem] theorem byte2 (x y : UInt8) (h : 0 < ({ data := #[x, y] } : ByteArray).size) : (({ data := #[x, y] } : ByteArray)[0]'h) = x := rfl
theorem run_mk (ts : Nat) (hts : ts ≤ 10) (w : World) : (Instr.makeSlice 250 (.int .i64 ts) (.int .i64 ts)).run Tryz.prog w = .ok (.slice (some ⟨w.heap.size, 0, none⟩) ts ts) (w.alloc (.cells (Array.replicate ts nilP) 249)) := by
 have h := run_make_row' (P := Tryz.prog) 250 249 nilP 8 Tryz.underlying250 (by kernel_rfl) rfl .i64 .i64 ts (by omega) (by omega) w
 have e : madeCells #[nilP] ts = Array.replicate ts nilP := by
  apply Array.ext'
  rw [toList_madeCells_one, Array.toList_replicate]
 rw [e] at h
 exact h
structure SP (mp : Nat → Nat) (ts : Nat) (w X : World) (b r tb t n : Nat) (y0 : UInt8) (l0 : Nat) (C : Array Value) : Prop where
 node : NodeB X b [] 0 [y0] (ptrB l0) (.slice (some ⟨t, 0, none⟩) ts ts)
 zero : NodeB X n [] 0 [] nilP (.slice none 0 0)
 tab : X.heap[t]? = some (.cells C 249 (0, 0))
 gr : GrB mp ts X r tb
 eff : Eff b w X
 nb : n ≠ b
 rb : r ≠ b
 nn : w.heap.size ≤ n
 nt : w.heap.size ≤ t
 rl : r < w.heap.size
 bl : b < w.heap.size
theorem SP.drew {mp : Nat → Nat} {ts : Nat} {w X : World} {b r tb t n : Nat} {y0 : UInt8} {l0 : Nat} {C : Array Value} (h : SP mp ts w X b r tb t n y0 l0 C) : SP mp ts w X.drew b r tb t n y0 l0 C :=
 ⟨h.node, h.zero, h.tab, h.gr.keep rfl, h.eff.trans (Eff.of_below (Below.refl _ _).drew), h.nb, h.rb, h.nn, h.nt, h.rl, h.bl⟩
theorem SP.set {mp : Nat → Nat} {ts : Nat} {w X : World} {b r tb t n : Nat} {y0 : UInt8} {l0 : Nat} {C : Array Value} (h : SP mp ts w X b r tb t n y0 l0 C) (k : Nat) (v : Value) : SP mp ts w (X.setCell ⟨t, k, none⟩ v) b r tb t n y0 l0 (C.setIfInBounds k v) := by
 have h1 := node_ne_tab h.node h.tab
 have h2 := node_ne_tab h.zero h.tab
 have h3 := h.rl
 have h4 := h.nt
 refine ⟨(Below.heap_setCell _ _ _ _ h1).trans h.node, (Below.heap_setCell _ _ _ _ h2).trans h.zero, rSc h.tab, h.gr.keep (Below.heap_setCell _ _ _ _ (by show r ≠ t; omega)), h.eff.setCell _ (Or.inr h.nt) _, h.nb, h.rb, h.nn, h.nt, h.rl, h.bl⟩
theorem SP.facts {mp : Nat → Nat} {ts : Nat} {w X : World} {b r tb t n : Nat} {y0 : UInt8} {l0 : Nat} {C : Array Value} (h : SP mp ts w X b r tb t n y0 l0 C) : X.cell? ⟨b, 2, none⟩ = some (vs [y0]) ∧ X.cell? ⟨b, 3, none⟩ = some (ptrB l0) ∧ X.cell? ⟨b, 4, none⟩ = some (.slice (some ⟨t, 0, none⟩) ts ts) ∧
 (∀ k v, C[k]? = some v → X.cell? ⟨t, k, none⟩ = some v) ∧ (∀ k, X.frozen? ⟨t, k, none⟩ = false) ∧ (∀ k, X.frozen? ⟨b, k, none⟩ = false) ∧ (∀ k, k < 256 → X.cell? ⟨r, 6 + k, none⟩ = some (.int .u8 (mp k))) ∧ b < X.heap.size ∧ t < X.heap.size ∧ r < X.heap.size ∧ n < X.heap.size := by
 obtain ⟨-, -, c2, c3, c4, f⟩ := h.node.cells
 exact ⟨c2, c3, c4, fun k v hv => cOb h.tab hv, fun k => fOb h.tab, f, h.gr.cells.2.2.2.2.2.2, h.node.lt, lHp h.tab, h.gr.lt, h.zero.lt⟩
theorem add_split (mp : Nat → Nat) (ts tb : Nat) (w : World) (b r l0 : Nat) (y0 y : UInt8) (val : Bytes) (q : Int) (h : NodeB w b [] 0 [y0] (ptrB l0) (.slice none 0 0)) (hg : GrB mp ts w r tb) (hy : y0 ≠ y) (h0 : mp y0.toNat < ts) (h1 : mp y.toNat < ts) (h2 : mp y0.toNat ≠ mp y.toNat) :
 Calls Tryz.prog 181 #[ptrB b, vs [y], vs val, .int .i64 q, ptrB r] w fun e w' => e = .returned (.tuple #[]) ∧ ∃ t l, w.heap.size ≤ l ∧ l < w'.heap.size ∧ w.heap.size ≤ t ∧ NodeB w' b [] 0 [] nilP (.slice (some ⟨t, 0, none⟩) ts ts) ∧ LeafB w' l val q ∧
  w'.heap[t]? = some (.cells (((Array.replicate ts nilP).setIfInBounds (mp y0.toNat) (ptrB l0)).setIfInBounds (mp y.toNat) (ptrB l)) 249 (0, 0)) ∧ Eff b w w' := by
 obtain ⟨c0, c1, c2, c3, c4, f⟩ := h.cells
 have hlt := h.lt
 have H := Hi h
 have HG := Hi hg
 have HY : Hid (((y0.toNat : Int) != (y.toNat : Int)) = true) := Hi (by
  simp
  intro e
  exact hy (UInt8.toNat_inj.1 (by omega)))
 have hyn := HY.out
 have hmk := run_mk ts hg.small
 obtain ⟨-, -, -, -, -, r5, rm⟩ := hg.cells
 have hrl := hg.lt
 have hrb : r ≠ b := by
  rintro rfl
  obtain ⟨C, e, -⟩ := hg.is
  unfold NodeB at h
  rw [e] at h
  simp at h
 have r0 := rm y0.toNat (UInt8.toNat_lt y0)
 have r1 := rm y.toNat (UInt8.toNat_lt y)
 have f2 := f 2
 have f3 := f 3
 have f4 := f 4
 have l1 : b < w.heap.size + 1 := by omega
 have l2 : b < w.heap.size + 1 + 1 := by omega
 have l3 : r < w.heap.size + 1 := by omega
 have l4 : r < w.heap.size + 1 + 1 := by omega
 clear f h hg hy rm
 go_enter Tryz.func181, Tryz.ntmps181
 go_wp2_with fail
 go_loopw [10] (fun v wr => v = .int .i64 0 ∧ w = wr) (fun _ _ => 0)
 case atStart => exact ⟨rfl, rfl⟩
 case round =>
  obtain ⟨rfl, rfl⟩ := hrel
  go_wp2_with fail
  go_quiet (fail)
  have HQ1 : Hid (NodeB (w.drewN nq) b [] 0 [y0] (ptrB l0) (.slice none 0 0)) := H
  have HQ2 : Hid (GrB mp ts (w.drewN nq) r tb) := Hi (HG.out.keep rfl)
  have HQ3 : Hid (Eff b w (w.drewN nq)) := Hi (Eff.of_below ⟨rfl, rfl, rfl, lR _, fun _ _ => rfl⟩)
  have hqs : w.heap.size = (w.drewN nq).heap.size := rfl
  generalize w.drewN nq = wq at HQ1 HQ2 HQ3 hqs ⊢
  clear c0 c1 c2 c3 c4 r5 hrl r0 r1 f2 f3 f4 l1 l2 l3 l4 hlt
  obtain ⟨c0, c1, c2, c3, c4, f⟩ := HQ1.out.cells
  have hlt := HQ1.out.lt
  obtain ⟨-, -, -, -, -, r5, rm⟩ := HQ2.out.cells
  have hrl := HQ2.out.lt
  have r0 := rm y0.toNat (UInt8.toNat_lt y0)
  have r1 := rm y.toNat (UInt8.toNat_lt y)
  have f2 := f 2
  have f3 := f 3
  have f4 := f 4
  have l1 : b < wq.heap.size + 1 := by omega
  have l2 : b < wq.heap.size + 1 + 1 := by omega
  have l3 : r < wq.heap.size + 1 := by omega
  have l4 : r < wq.heap.size + 1 + 1 := by omega
  have HQS := Hi hqs
  clear f rm hqs
  go_upto_region 18 with fail
  have hSP : SP mp ts w (((wq.setCell ⟨b, 4, none⟩ (.slice (some ⟨wq.heap.size + 1, 0, none⟩) ts ts)).alloc (.cells #[vs [], .int .i64 0, vs [], nilP, .slice none 0 0] 252)).alloc (.cells (Array.replicate ts nilP) 249)) b r tb (wq.heap.size + 1) wq.heap.size y0 l0 (Array.replicate ts nilP) := by
   have h1 := HQ1.out
   have hws := HQS.out
   refine ⟨?_, kept_at (new_at (by simp)), new_at (by simp), HQ2.out.keep ?_, HQ3.out.trans (((((Eff.refl b wq).setCell _ (Or.inl rfl) _).alloc _).alloc _)), by omega, hrb, by omega, by omega, by omega, by omega⟩
   · refine kept_at (kept_at ?_)
     unfold NodeB at h1
     simp [World.setCell, Array.getElem?_modify, h1]
   · rw [Below.heap_alloc _ _ _ (by simp; omega), Below.heap_alloc _ _ _ (by simp; omega)]
     exact Below.heap_setCell _ _ _ _ hrb
  have HS1 := Hi hSP.drew
  have HS0 := Hi hSP
  obtain ⟨X, hX⟩ : ∃ X, (((wq.setCell ⟨b, 4, none⟩ (.slice (some ⟨wq.heap.size + 1, 0, none⟩) ts ts)).alloc (.cells #[vs [], .int .i64 0, vs [], nilP, .slice none 0 0] 252)).alloc (.cells (Array.replicate ts nilP) 249)) = X := ⟨_, rfl⟩
  rw [hX] at hSP HS0 HS1 ⊢
  obtain ⟨t, ht⟩ : ∃ t, wq.heap.size + 1 = t := ⟨_, rfl⟩
  obtain ⟨n, hn⟩ : ∃ n, wq.heap.size = n := ⟨_, rfl⟩
  clear hX c0 c1 c2 c3 c4 r5 hrl r0 r1 f2 f3 f4 l1 l2 l3 l4 hlt HQ1 HQ2 HQ3 HQS
  rw [ht] at hSP HS0 HS1 ⊢
  rw [hn] at hSP HS0 HS1 ⊢
  clear ht hn wq
  obtain ⟨c2, c3, c4, ct, ft, fb, rm, l1, l2, l3, l4⟩ := hSP.facts
  have r0 := rm y0.toNat (UInt8.toNat_lt y0)
  have i0 : (0 : Int) ≤ (mp y0.toNat : Int) := by omega
  have j0 : (0 : Int) ≤ (y0.toNat : Int) := by omega
  have j1 : (y0.toNat : Int) < 256 := by have := UInt8.toNat_lt y0; omega
  have i1 : (mp y0.toNat : Int) < ts := by omega
  have hs0 : ∀ w, (Instr.index 9 (vs [y0]) (.int .i64 0)).run Tryz.prog w = .ok (.int .u8 (y0.toNat : Int)) w := fun _ => by kernel_rfl
  clear hSP ct ft fb rm
  go_still_tail 16, (by kernel_rfl)
  change wpList _ _ _ _ _ X.drew
  have ct0 : X.drew.cell? ⟨t, mp y0.toNat, none⟩ = some nilP := HS1.out.facts.2.2.2.1 _ _ (by simp [h0])
  have ft0 := HS1.out.facts.2.2.2.2.1 (mp y0.toNat)
  have l5 := HS1.out.facts.2.2.2.2.2.2.2.2.1
  go_upto_region 19 with fail
  have HS2 := Hi (HS0.out.set (mp y0.toNat) (ptrB l0)).drew
  have HS3 := Hi (HS0.out.set (mp y0.toNat) (ptrB l0)).drew.drew
  obtain ⟨X2, hX2⟩ : ∃ X2, (X.setCell ⟨t, mp y0.toNat, none⟩ (ptrB l0)).drew = X2 := ⟨_, rfl⟩
  rw [hX2] at HS2 HS3 ⊢
  clear hX2 HS0 HS1 c2 c3 c4 l1 l2 l3 l4 r0 i0 i1 j0 j1 hs0 ct0 ft0 l5
  obtain ⟨c2, c3, c4, ct, ft, fb, rm, l1, l2, l3, l4⟩ := HS2.out.facts
  have r0 := rm y.toNat (UInt8.toNat_lt y)
  have i0 : (0 : Int) ≤ (mp y.toNat : Int) := by omega
  have i1 : (mp y.toNat : Int) < ts := by omega
  have j0 : (0 : Int) ≤ (y.toNat : Int) := by omega
  have j1 : (y.toNat : Int) < 256 := by have := UInt8.toNat_lt y; omega
  have hs0 : ∀ w, (Instr.index 9 (vs [y]) (.int .i64 0)).run Tryz.prog w = .ok (.int .u8 (y.toNat : Int)) w := fun _ => by kernel_rfl
  clear ct ft fb rm
  go_still_tail 13, (by kernel_rfl)
  change wpList _ _ _ _ _ X2.drew
  have ct0 : X2.drew.cell? ⟨t, mp y.toNat, none⟩ = some nilP := HS3.out.facts.2.2.2.1 _ _ (by rw [Array.getElem?_setIfInBounds, if_neg h2]; simp [h1])
  have ft0 := HS3.out.facts.2.2.2.2.1 (mp y.toNat)
  have l5 := HS3.out.facts.2.2.2.2.2.2.2.2.1
  go_upto_region 20 with fail
  have HS4 := Hi (HS2.out.set (mp y.toNat) (ptrB n)).drew
  obtain ⟨X4, hX4⟩ : ∃ X4, (X2.setCell ⟨t, mp y.toNat, none⟩ (ptrB n)).drew = X4 := ⟨_, rfl⟩
  rw [hX4] at HS4 ⊢
  clear hX4 HS2 HS3 c2 c3 c4 l1 l2 l3 l4 r0 i0 i1 j0 j1 hs0 ct0 ft0 l5
  obtain ⟨c2, c3, c4, -, -, fb, -, l1, l2, l3, l4⟩ := HS4.out.facts
  have f2 := fb 2
  have f3 := fb 3
  clear fb
  go_wp2_with fail
  have hN := HS4.out.node
  have hY1 : NodeB ((X4.setCell ⟨b, 2, none⟩ (vs [])).setCell ⟨b, 3, none⟩ nilP) b [] 0 [] nilP (.slice (some ⟨t, 0, none⟩) ts ts) := by
   unfold NodeB at *
   simp [World.setCell, Array.getElem?_modify, hN]
  have hY2 : NodeB ((X4.setCell ⟨b, 2, none⟩ (vs [])).setCell ⟨b, 3, none⟩ nilP) n [] 0 [] nilP (.slice none 0 0) := (Below.heap_setCell _ _ _ _ HS4.out.nb).trans ((Below.heap_setCell _ _ _ _ HS4.out.nb).trans HS4.out.zero)
  have htb : t ≠ b := fun e => node_ne_tab HS4.out.node HS4.out.tab e.symm
  have htn : t ≠ n := fun e => node_ne_tab HS4.out.zero HS4.out.tab e.symm
  have hY3 := (Below.heap_setCell (X4.setCell ⟨b, 2, none⟩ (vs [])) ⟨b, 3, none⟩ nilP t htb).trans ((Below.heap_setCell X4 ⟨b, 2, none⟩ (vs []) t htb).trans HS4.out.tab)
  have HY1 := Hi hY1
  have HY3 := Hi hY3
  have HYE := Hi ((HS4.out.eff.setCell ⟨b, 2, none⟩ (Or.inl rfl) (vs [])).setCell ⟨b, 3, none⟩ (Or.inl rfl) nilP)
  have HL := Hi (add_leaf _ n r [] val q nilP (.slice none 0 0) hY2)
  have HNE := Hi (And.intro htn HS4.out.nb)
  have HNN := Hi (And.intro HS4.out.nn HS4.out.nt)
  clear hN hY1 hY2 hY3 htb htn c2 c3 c4 f2 f3
  refine HL.out.mono ?_
  rintro e w1 ⟨rfl, g1, g2, g3⟩
  have G1 := Hi g1
  have G2 := Hi g2
  clear g1 g2 g3
  go_wp2_with fail
  go_end0
  exact ⟨rfl, t, n, HNN.out.1, G1.out.lt, HNN.out.2, (G2.out.block b HY1.out.lt (fun e => HNE.out.2 e.symm)).trans HY1.out, G1.out, (G2.out.block t (lHp HY3.out) HNE.out.1).trans HY3.out, HYE.out.fresh G2.out HNN.out.1⟩
end Go.Proofs.YtbicmjmcdnkjhaaGreatDoor
set_option maxRecDepth 100000
set_option maxHeartbeats 8000000
namespace Go.Proofs.YtbicmjmcdnkjhaaGreatDoor
open Go.RowKit
attribute [local go_sem ↓] Go.wp_at_zero Go.wp_at_succ
def TabPost (w : World) (t m : Nat) (C : Array Value) (Q : World → Nat → Prop) (e : Ending) (w' : World) : Prop := e = .returned (.tuple #[]) ∧ ∃ l, w.heap.size ≤ l ∧ l < w'.heap.size ∧ w'.heap[t]? = some (.cells (C.setIfInBounds m (ptrB l)) 249 (0, 0)) ∧ Q w' l ∧ Eff t w w'
def UnitPost (R : World → Prop) (e : Ending) (w' : World) : Prop := e = .returned (.tuple #[]) ∧ R w'
theorem add_tab1 (mp : Nat → Nat) (ts tb : Nat) (w : World) (b r t : Nat) (C : Array Value) (y : UInt8) (val : Bytes) (q : Int) (c2 : w.cell? ⟨b, 2, none⟩ = some (vs [])) (c4 : w.cell? ⟨b, 4, none⟩ = some (.slice (some ⟨t, 0, none⟩) ts ts)) (ht : w.heap[t]? = some (.cells C 249 (0, 0)))
 (hC : C[mp y.toNat]? = some (nilP)) (hg : GrB mp ts w r tb) (hm : mp y.toNat < ts) (hbt : b ≠ t) :
 Calls Tryz.prog 181 #[ptrB b, vs [y], vs val, .int .i64 q, ptrB r] w (TabPost w t (mp y.toNat) C fun w' l => LeafB w' l val q) := by
 have hbl : b < w.heap.size := World.block_lt_of_cell? _ _ c2
 have hrl := hg.lt
 have r0 := hg.cells.2.2.2.2.2.2 y.toNat (UInt8.toNat_lt y)
 have hrt : r ≠ t := by
  rintro rfl
  obtain ⟨D, e, -⟩ := hg.is
  rw [e] at ht
  simp at ht
 have HT := Hi ht
 have i0 : (0 : Int) ≤ (mp y.toNat : Int) := by omega
 have i1 : (mp y.toNat : Int) < ts := by omega
 have j0 : (0 : Int) ≤ (y.toNat : Int) := by omega
 have j1 : (y.toNat : Int) < 256 := by have := UInt8.toNat_lt y; omega
 have hs0 : ∀ w, (Instr.index 9 (vs [y]) (.int .i64 0)).run Tryz.prog w = .ok (.int .u8 (y.toNat : Int)) w := fun _ => by kernel_rfl
 have ct := cOb ht hC
 have ft := fOb (o := mp y.toNat) ht
 have htl := lHp ht
 have HQ3 : Hid (∀ nq, Eff t w (w.drewN nq)) := Hi fun nq => Eff.of_below ⟨rfl, rfl, rfl, lR _, fun _ _ => rfl⟩
 clear hg ht hC
 go_enter Tryz.func181, Tryz.ntmps181
 go_upto_region 28 with fail
 go_quiet (fail)
 have HE := Hi (HQ3.out nq)
 have HT2 : Hid ((w.drewN nq).heap[t]? = some (.cells C 249 (0, 0))) := HT
 have c2' : (w.drewN nq).cell? ⟨b, 2, none⟩ = some (vs []) := c2
 have c4' : (w.drewN nq).cell? ⟨b, 4, none⟩ = some (.slice (some ⟨t, 0, none⟩) ts ts) := c4
 have ct' : (w.drewN nq).cell? ⟨t, mp y.toNat, none⟩ = some nilP := ct
 have ft' : (w.drewN nq).frozen? ⟨t, mp y.toNat, none⟩ = false := ft
 have hqs : w.heap.size = (w.drewN nq).heap.size := rfl
 generalize w.drewN nq = wq at HE HT2 c2' c4' ct' ft' hqs ⊢
 have HQS := Hi hqs
 have hbl' : b < wq.heap.size := by omega
 have htl' : t < wq.heap.size := by omega
 have h1l : b < wq.heap.size + 1 := by omega
 have h2l : t < wq.heap.size + 1 := by omega
 clear c2 c4 r0 ct ft hrl hbl htl hqs HT HQ3
 go_upto_region 31 with fail
 have HX1 : Hid (((wq.setCell ⟨t, mp y.toNat, none⟩ (ptrB wq.heap.size)).alloc (.cells #[vs [], .int .i64 0, vs [], nilP, .slice none 0 0] 252)).heap[t]? = some (.cells (C.setIfInBounds (mp y.toNat) (ptrB wq.heap.size)) 249 (0, 0))) := Hi (kept_at (rSc HT2.out))
 have HX2 : Hid (NodeB ((wq.setCell ⟨t, mp y.toNat, none⟩ (ptrB wq.heap.size)).alloc (.cells #[vs [], .int .i64 0, vs [], nilP, .slice none 0 0] 252)) wq.heap.size [] 0 [] nilP (.slice none 0 0)) := Hi (new_at (by simp))
 have HX3 : Hid (Eff t w ((wq.setCell ⟨t, mp y.toNat, none⟩ (ptrB wq.heap.size)).alloc (.cells #[vs [], .int .i64 0, vs [], nilP, .slice none 0 0] 252))) := Hi (HE.out.trans (((Eff.refl t wq).setCell _ (Or.inl rfl) _).alloc _))
 have hX4 : ((wq.setCell ⟨t, mp y.toNat, none⟩ (ptrB wq.heap.size)).alloc (.cells #[vs [], .int .i64 0, vs [], nilP, .slice none 0 0] 252)).cell? ⟨b, 4, none⟩ = some (.slice (some ⟨t, 0, none⟩) ts ts) := (cOh ((Below.heap_alloc _ _ _ (by simpa using hbl')).trans (Below.heap_setCell _ _ _ _ hbt)) 4).trans c4'
 have hcm : mp y.toNat < C.size := by
  have h1 : w.heap.size = w.heap.size := rfl
  simp [World.cell?, HT2.out] at ct'
  exact (Array.getElem?_eq_some_iff.1 ct').1
 obtain ⟨X, hX⟩ : ∃ X, ((wq.setCell ⟨t, mp y.toNat, none⟩ (ptrB wq.heap.size)).alloc (.cells #[vs [], .int .i64 0, vs [], nilP, .slice none 0 0] 252)) = X := ⟨_, rfl⟩
 obtain ⟨n, hn⟩ : ∃ n, wq.heap.size = n := ⟨_, rfl⟩
 rw [hX] at HX1 HX2 HX3 hX4 ⊢
 rw [hn] at HX1 HX2 ⊢
 have HN := Hi (And.intro (HQS.out.trans hn) (node_ne_tab HX2.out HX1.out))
 have x1 : X.cell? ⟨t, mp y.toNat, none⟩ = some (ptrB n) := cOb HX1.out (by rw [Array.getElem?_setIfInBounds, if_pos rfl, if_pos hcm])
 have x2 := lHp HX1.out
 have x3 : b < X.heap.size := World.block_lt_of_cell? _ _ hX4
 clear hX hn c2' c4' ct' ft' hbl' htl' h1l h2l HT2 HE HQS hcm
 go_still_tail 12, (by kernel_rfl)
 change wpList _ _ _ _ _ X.drew
 go_wp2_with fail
 refine (add_leaf X.drew n r [] val q nilP (.slice none 0 0) HX2.out).mono ?_
 rintro e w1 ⟨rfl, g1, g2, g3⟩
 have G1 := Hi g1
 have G2 := Hi ((Eff.of_below (Below.refl X.heap.size X).drew : Eff n X X.drew).trans g2)
 clear g1 g2 g3
 go_wp2_with fail
 go_end0
 exact ⟨rfl, n, by have := HN.out.1; omega, G1.out.lt, (G2.out.block t x2 (fun e => HN.out.2 e.symm)).trans HX1.out, G1.out, HX3.out.fresh G2.out (by have := HN.out.1; omega)⟩
theorem add_tab2 (mp : Nat → Nat) (ts tb : Nat) (w : World) (b r t : Nat) (C : Array Value) (y : UInt8) (z : UInt8) (val : Bytes) (q : Int) (c2 : w.cell? ⟨b, 2, none⟩ = some (vs [])) (c4 : w.cell? ⟨b, 4, none⟩ = some (.slice (some ⟨t, 0, none⟩) ts ts)) (ht : w.heap[t]? = some (.cells C 249 (0, 0)))
 (hC : C[mp y.toNat]? = some (nilP)) (hg : GrB mp ts w r tb) (hm : mp y.toNat < ts) (hbt : b ≠ t) :
 Calls Tryz.prog 181 #[ptrB b, vs [y, z], vs val, .int .i64 q, ptrB r] w (TabPost w t (mp y.toNat) C fun w' n => ∃ l, w.heap.size ≤ l ∧ l < w'.heap.size ∧ NodeB w' n [] 0 [z] (ptrB l) (.slice none 0 0) ∧ LeafB w' l val q) := by
 have hbl : b < w.heap.size := World.block_lt_of_cell? _ _ c2
 have hrl := hg.lt
 have r0 := hg.cells.2.2.2.2.2.2 y.toNat (UInt8.toNat_lt y)
 have hrt : r ≠ t := by
  rintro rfl
  obtain ⟨D, e, -⟩ := hg.is
  rw [e] at ht
  simp at ht
 have HT := Hi ht
 have i0 : (0 : Int) ≤ (mp y.toNat : Int) := by omega
 have i1 : (mp y.toNat : Int) < ts := by omega
 have j0 : (0 : Int) ≤ (y.toNat : Int) := by omega
 have j1 : (y.toNat : Int) < 256 := by have := UInt8.toNat_lt y; omega
 have hs0 : ∀ w, (Instr.index 9 (vs [y, z]) (.int .i64 0)).run Tryz.prog w = .ok (.int .u8 (y.toNat : Int)) w := fun _ => by kernel_rfl
 have ct := cOb ht hC
 have ft := fOb (o := mp y.toNat) ht
 have htl := lHp ht
 have HQ3 : Hid (∀ nq, Eff t w (w.drewN nq)) := Hi fun nq => Eff.of_below ⟨rfl, rfl, rfl, lR _, fun _ _ => rfl⟩
 clear hg ht hC
 go_enter Tryz.func181, Tryz.ntmps181
 go_upto_region 28 with fail
 go_quiet (fail)
 have HE := Hi (HQ3.out nq)
 have HT2 : Hid ((w.drewN nq).heap[t]? = some (.cells C 249 (0, 0))) := HT
 have c2' : (w.drewN nq).cell? ⟨b, 2, none⟩ = some (vs []) := c2
 have c4' : (w.drewN nq).cell? ⟨b, 4, none⟩ = some (.slice (some ⟨t, 0, none⟩) ts ts) := c4
 have ct' : (w.drewN nq).cell? ⟨t, mp y.toNat, none⟩ = some nilP := ct
 have ft' : (w.drewN nq).frozen? ⟨t, mp y.toNat, none⟩ = false := ft
 have hqs : w.heap.size = (w.drewN nq).heap.size := rfl
 generalize w.drewN nq = wq at HE HT2 c2' c4' ct' ft' hqs ⊢
 have HQS := Hi hqs
 have hbl' : b < wq.heap.size := by omega
 have htl' : t < wq.heap.size := by omega
 have h1l : b < wq.heap.size + 1 := by omega
 have h2l : t < wq.heap.size + 1 := by omega
 clear c2 c4 r0 ct ft hrl hbl htl hqs HT HQ3
 go_upto_region 31 with fail
 have HX1 : Hid (((wq.setCell ⟨t, mp y.toNat, none⟩ (ptrB wq.heap.size)).alloc (.cells #[vs [], .int .i64 0, vs [], nilP, .slice none 0 0] 252)).heap[t]? = some (.cells (C.setIfInBounds (mp y.toNat) (ptrB wq.heap.size)) 249 (0, 0))) := Hi (kept_at (rSc HT2.out))
 have HX2 : Hid (NodeB ((wq.setCell ⟨t, mp y.toNat, none⟩ (ptrB wq.heap.size)).alloc (.cells #[vs [], .int .i64 0, vs [], nilP, .slice none 0 0] 252)) wq.heap.size [] 0 [] nilP (.slice none 0 0)) := Hi (new_at (by simp))
 have HX3 : Hid (Eff t w ((wq.setCell ⟨t, mp y.toNat, none⟩ (ptrB wq.heap.size)).alloc (.cells #[vs [], .int .i64 0, vs [], nilP, .slice none 0 0] 252))) := Hi (HE.out.trans (((Eff.refl t wq).setCell _ (Or.inl rfl) _).alloc _))
 have hX4 : ((wq.setCell ⟨t, mp y.toNat, none⟩ (ptrB wq.heap.size)).alloc (.cells #[vs [], .int .i64 0, vs [], nilP, .slice none 0 0] 252)).cell? ⟨b, 4, none⟩ = some (.slice (some ⟨t, 0, none⟩) ts ts) := (cOh ((Below.heap_alloc _ _ _ (by simpa using hbl')).trans (Below.heap_setCell _ _ _ _ hbt)) 4).trans c4'
 have hcm : mp y.toNat < C.size := by
  have h1 : w.heap.size = w.heap.size := rfl
  simp [World.cell?, HT2.out] at ct'
  exact (Array.getElem?_eq_some_iff.1 ct').1
 obtain ⟨X, hX⟩ : ∃ X, ((wq.setCell ⟨t, mp y.toNat, none⟩ (ptrB wq.heap.size)).alloc (.cells #[vs [], .int .i64 0, vs [], nilP, .slice none 0 0] 252)) = X := ⟨_, rfl⟩
 obtain ⟨n, hn⟩ : ∃ n, wq.heap.size = n := ⟨_, rfl⟩
 rw [hX] at HX1 HX2 HX3 hX4 ⊢
 rw [hn] at HX1 HX2 ⊢
 have HN := Hi (And.intro (HQS.out.trans hn) (node_ne_tab HX2.out HX1.out))
 have x1 : X.cell? ⟨t, mp y.toNat, none⟩ = some (ptrB n) := cOb HX1.out (by rw [Array.getElem?_setIfInBounds, if_pos rfl, if_pos hcm])
 have x2 := lHp HX1.out
 have x3 : b < X.heap.size := World.block_lt_of_cell? _ _ hX4
 clear hX hn c2' c4' ct' ft' hbl' htl' h1l h2l HT2 HE HQS hcm
 go_still_tail 12, (by kernel_rfl)
 change wpList _ _ _ _ _ X.drew
 go_wp2_with fail
 refine (add_pre X.drew n r z val q HX2.out).mono ?_
 rintro e w1 ⟨rfl, l, g0, g1, g2, g3, g4⟩
 have G2 := Hi g2
 have G3 := Hi g3
 have G4 := Hi ((Eff.of_below (Below.refl X.heap.size X).drew : Eff n X X.drew).trans g4)
 have G0 := Hi (And.intro g0 g1)
 clear g0 g1 g2 g3 g4
 go_wp2_with fail
 go_end0
 have hxs : w.heap.size ≤ X.heap.size := HX3.out.size
 exact ⟨rfl, n, by have := HN.out.1; omega, G2.out.lt, (G4.out.block t x2 (fun e => HN.out.2 e.symm)).trans HX1.out, ⟨l, Nat.le_trans hxs G0.out.1, G0.out.2, G2.out, G3.out⟩, HX3.out.fresh G4.out (by have := HN.out.1; omega)⟩
theorem add_tabE (mp : Nat → Nat) (ts tb : Nat) (w : World) (b r t : Nat) (C : Array Value) (y : UInt8) (z : UInt8) (n : Nat) (R : World → Prop) (val : Bytes) (q : Int) (c2 : w.cell? ⟨b, 2, none⟩ = some (vs [])) (c4 : w.cell? ⟨b, 4, none⟩ = some (.slice (some ⟨t, 0, none⟩) ts ts)) (ht : w.heap[t]? = some (.cells C 249 (0, 0)))
 (hC : C[mp y.toNat]? = some (ptrB n)) (hg : GrB mp ts w r tb) (hm : mp y.toNat < ts) (hbt : b ≠ t) (hq : ∀ w1, w1.heap = w.heap → w1.os = w.os → w1.tape = w.tape → w1.output = w.output → Calls Tryz.prog 181 #[ptrB n, vs [z], vs val, .int .i64 q, ptrB r] w1 (UnitPost R)) :
 Calls Tryz.prog 181 #[ptrB b, vs [y, z], vs val, .int .i64 q, ptrB r] w (UnitPost R) := by
 have hbl : b < w.heap.size := World.block_lt_of_cell? _ _ c2
 have hrl := hg.lt
 have r0 := hg.cells.2.2.2.2.2.2 y.toNat (UInt8.toNat_lt y)
 have hrt : r ≠ t := by
  rintro rfl
  obtain ⟨D, e, -⟩ := hg.is
  rw [e] at ht
  simp at ht
 have HT := Hi ht
 have i0 : (0 : Int) ≤ (mp y.toNat : Int) := by omega
 have i1 : (mp y.toNat : Int) < ts := by omega
 have j0 : (0 : Int) ≤ (y.toNat : Int) := by omega
 have j1 : (y.toNat : Int) < 256 := by have := UInt8.toNat_lt y; omega
 have hs0 : ∀ w, (Instr.index 9 (vs [y, z]) (.int .i64 0)).run Tryz.prog w = .ok (.int .u8 (y.toNat : Int)) w := fun _ => by kernel_rfl
 have ct := cOb ht hC
 have ft := fOb (o := mp y.toNat) ht
 have htl := lHp ht
 have HQ3 : Hid (∀ nq, Eff t w (w.drewN nq)) := Hi fun nq => Eff.of_below ⟨rfl, rfl, rfl, lR _, fun _ _ => rfl⟩
 have HQC := Hi hq
 clear hg ht hC hq
 go_enter Tryz.func181, Tryz.ntmps181
 go_upto_region 28 with fail
 go_quiet (fail)
 have HQD := Hi (HQC.out (w.drewN nq).drew rfl rfl rfl rfl)
 have c4' : (w.drewN nq).cell? ⟨b, 4, none⟩ = some (.slice (some ⟨t, 0, none⟩) ts ts) := c4
 have ct' : (w.drewN nq).cell? ⟨t, mp y.toNat, none⟩ = some (ptrB n) := ct
 have hbl' : b < (w.drewN nq).heap.size := hbl
 have htl' : t < (w.drewN nq).heap.size := htl
 generalize w.drewN nq = wq at HQD c4' ct' hbl' htl' ⊢
 clear c2 c4 r0 ct ft hrl hbl htl HT HQ3
 go_upto_region 31 with fail
 go_still_tail 12, (by kernel_rfl)
 change wpList _ _ _ _ _ wq.drew
 go_wp2_with fail
 refine HQD.out.mono ?_
 rintro e w1 ⟨rfl, h1⟩
 have H1 := Hi h1
 clear h1
 go_wp2_with fail
 go_end0
 exact ⟨rfl, H1.out⟩
end Go.Proofs.YtbicmjmcdnkjhaaGreatDoor
namespace Go.Proofs.YtbicmjmcdnkjhaaGreatDoor
open Go.RowKit
theorem eff_heap {t : Nat} {w w1 w' : World} (h : w1.heap = w.heap) (ho : w1.os = w.os) (ht : w1.tape = w.tape) (hp : w1.output = w.output) (he : Eff t w1 w') : Eff t w w' :=
 ⟨he.os.trans ho, he.tape.trans ht, he.output.trans hp, by rw [← h]; exact he.size, fun k hk hn => by rw [← h] at hk ⊢; exact he.block k hk hn⟩
theorem root_add (mp : Nat → Nat) (ts B : Nat) (w : World) (r tb : Nat) (st : Nat → Sub) (h : Trie mp ts B w r tb st) (x y : UInt8) (val : Bytes) (q : Int) (hx : mp x.toNat < ts) (hy : mp y.toNat < ts) (hf : freshSub mp (st (mp x.toNat)) y) (hp : ∀ y0 v0 q0, st (mp x.toNat) = .pre y0 v0 q0 → mp y0.toNat < ts) :
 Calls Tryz.prog 181 #[ptrB r, vs [x, y], vs val, .int .i64 q, ptrB r] w (UnitPost fun w' => Trie mp ts B w' r tb (setAt st (mp x.toNat) (addSub (st (mp x.toNat)) y val q)) ∧ Below B w w') := by
 have hgr := h.gr
 have hlo := h.lo
 obtain ⟨-, -, c2, -, c4, -, -⟩ := hgr.cells
 obtain ⟨D, h1, h2, F, h3, h4, h5⟩ := h.root
 have hrl := hgr.lt
 have htl := lHp h1
 have hBs : B ≤ w.heap.size := by omega
 have hrt : r ≠ tb := by
  rintro rfl
  obtain ⟨C, e, -⟩ := hgr.is
  rw [e] at h1
  simp at h1
 obtain ⟨pv, hpv, hsub⟩ := h5 _ hx
 have hms : mp x.toNat < D.size := by omega
 cases hst : st (mp x.toNat) with
 | no =>
   rw [hst] at hsub
   have e : pv = nilP := hsub
   subst e
   refine (add_tab2 mp ts tb w r r tb D x y val q c2 c4 h1 hpv hgr hx hrt).mono ?_
   rintro e w' ⟨rfl, n, g1, g2, g3, ⟨l, g4, g5, g6, g7⟩, g8⟩
   refine ⟨rfl, ?_, g8.below hlo.2 hBs⟩
   refine Trie.change (G := fun b => b = n ∨ b = l) hgr hlo h1 h2 h3 h4 h5 g8.size (fun b hb hne _ => g8.block b hb hne) hBs g3 (by simpa using h2) (fun j hj => by rw [Array.getElem?_setIfInBounds, if_neg (fun e => hj e.symm)]) (by rw [Array.getElem?_setIfInBounds, if_pos rfl, if_pos hms]) (fun b hb => ?_) ?_
   · rcases hb with rfl | rfl
     · exact Or.inr ⟨g1, g2⟩
     · exact Or.inr ⟨g4, g5⟩
   · exact ⟨n, l, rfl, Or.inl rfl, Or.inr rfl, g6, g7⟩
 | pre y0 v0 q0 =>
   rw [hst] at hsub hf
   obtain ⟨n, l0, rfl, f1, f2, f3, f4⟩ := hsub
   obtain ⟨hne, hmne⟩ := hf
   have hn := h3 _ _ f1
   have hl0 := h3 _ _ f2
   have hnl : n ≠ l0 := by
    rintro rfl
    unfold LeafB NodeB at *
    rw [f3] at f4
    simp at f4
   have hy0 := hp y0 v0 q0 hst
   refine (add_tabE mp ts tb w r r tb D x y n (fun w' => Trie mp ts B w' r tb (setAt st (mp x.toNat) (addSub (.pre y0 v0 q0) y val q)) ∧ Below B w w') val q c2 c4 h1 hpv hgr hx hrt (fun w1 e1 e2 e3 e4 => ?_)).mono (fun e w' h => h)
   have f3' : NodeB w1 n [] 0 [y0] (ptrB l0) (.slice none 0 0) := by unfold NodeB; rw [e1]; exact f3
   refine (add_split mp ts tb w1 n r l0 y0 y val q f3' (hgr.keep (by rw [e1])) hne hy0 hy hmne).mono ?_
   rintro e w' ⟨rfl, t, l, g1, g2, g3, g4, g5, g6, g7⟩
   rw [e1] at g1 g3
   have g8 := eff_heap e1 e2 e3 e4 g7
   refine ⟨rfl, ?_, g8.below hn.2.2.2 hBs⟩
   refine Trie.change (G := fun b => b = n ∨ b = l0 ∨ b = l ∨ b = t) (pv' := ptrB n) hgr hlo h1 h2 h3 h4 h5 g8.size (fun b hb _ hnf => g8.block b hb (fun e => hnf (e ▸ f1))) hBs ((g8.block tb htl (fun e => hn.2.1 e.symm)).trans h1) h2 (fun j _ => rfl) hpv (fun b hb => ?_) ?_
   · rcases hb with rfl | rfl | rfl | rfl
     · exact Or.inl f1
     · exact Or.inl f2
     · exact Or.inr ⟨g1, g2⟩
     · exact Or.inr ⟨g3, lHp g6⟩
   · refine ⟨n, t, _, rfl, Or.inl rfl, Or.inr (Or.inr (Or.inr rfl)), g4, g6, by simp, fun m hm => ?_⟩
     by_cases hm1 : mp y.toNat = m
     · refine ⟨ptrB l, by rw [Array.getElem?_setIfInBounds, if_pos hm1, if_pos (by simpa using hm1 ▸ hm)], Or.inl ⟨y, val, q, l, by simp, hm1, rfl, Or.inr (Or.inr (Or.inl rfl)), g5⟩⟩
     · by_cases hm0 : mp y0.toNat = m
       · refine ⟨ptrB l0, by rw [Array.getElem?_setIfInBounds, if_neg hm1, Array.getElem?_setIfInBounds, if_pos hm0, if_pos (by simpa using hm0 ▸ hm)], Or.inl ⟨y0, v0, q0, l0, by simp, hm0, rfl, Or.inr (Or.inl rfl), ?_⟩⟩
         exact f4.keep (g8.block l0 hl0.2.2.1 (fun e => hnl e.symm))
       · refine ⟨nilP, by rw [Array.getElem?_setIfInBounds, if_neg hm1, Array.getElem?_setIfInBounds, if_neg hm0]; simp [hm], Or.inr ⟨rfl, fun y' v' q' hmem => ?_⟩⟩
         simp at hmem
         rcases hmem with ⟨rfl, -⟩ | ⟨rfl, -⟩
         · exact hm0
         · exact hm1
 | tab L =>
   rw [hst] at hsub hf
   obtain ⟨n, t, C, rfl, f1, f2, f3, f4, f5, f6⟩ := hsub
   have hn := h3 _ _ f1
   have htt := h3 _ _ f2
   have hnt := node_ne_tab f3 f4
   obtain ⟨pv2, hpv2, ht2⟩ := f6 _ hy
   have hnil : pv2 = nilP := by
    rcases ht2 with ⟨y', v', q', l', a, b, -⟩ | ⟨a, -⟩
    · exact absurd b (hf y' v' q' a)
    · exact a
   subst hnil
   refine (add_tabE mp ts tb w r r tb D x y n (fun w' => Trie mp ts B w' r tb (setAt st (mp x.toNat) (addSub (.tab L) y val q)) ∧ Below B w w') val q c2 c4 h1 hpv hgr hx hrt (fun w1 e1 e2 e3 e4 => ?_)).mono (fun e w' h => h)
   have f3' : NodeB w1 n [] 0 [] nilP (.slice (some ⟨t, 0, none⟩) ts ts) := by unfold NodeB; rw [e1]; exact f3
   have f4' : w1.heap[t]? = some (.cells C 249 (0, 0)) := by rw [e1]; exact f4
   refine (add_tab1 mp ts tb w1 n r t C y val q f3'.cells.2.2.1 f3'.cells.2.2.2.2.1 f4' hpv2 (hgr.keep (by rw [e1])) hy hnt).mono ?_
   rintro e w' ⟨rfl, l, g1, g2, g3, g5, g7⟩
   rw [e1] at g1
   have g8 := eff_heap e1 e2 e3 e4 g7
   have hcs : mp y.toNat < C.size := by omega
   refine ⟨rfl, ?_, g8.below htt.2.2.2 hBs⟩
   refine Trie.change (G := fun b => F (mp x.toNat) b ∨ b = l) (pv' := ptrB n) hgr hlo h1 h2 h3 h4 h5 g8.size (fun b hb _ hnf => g8.block b hb (fun e => hnf (e ▸ f2))) hBs ((g8.block tb htl (fun e => htt.2.1 e.symm)).trans h1) h2 (fun j _ => rfl) hpv (fun b hb => ?_) ?_
   · rcases hb with hb | rfl
     · exact Or.inl hb
     · exact Or.inr ⟨g1, g2⟩
   · refine ⟨n, t, _, rfl, Or.inl f1, Or.inl f2, (g8.block n hn.2.2.1 hnt).trans f3, g3, by simpa using f5, fun m hm => ?_⟩
     by_cases hm1 : mp y.toNat = m
     · exact ⟨ptrB l, by rw [Array.getElem?_setIfInBounds, if_pos hm1, if_pos hcs], Or.inl ⟨y, val, q, l, by simp, hm1, rfl, Or.inr rfl, g5⟩⟩
     · obtain ⟨pv3, a, b⟩ := f6 m hm
       refine ⟨pv3, by rw [Array.getElem?_setIfInBounds, if_neg hm1]; exact a, ?_⟩
       rcases b with ⟨y', v', q', l', b1, b2, b3, b4, b5⟩ | ⟨b1, b2⟩
       · refine Or.inl ⟨y', v', q', l', by simp [b1], b2, b3, Or.inl b4, b5.keep (g8.block l' (h3 _ _ b4).2.2.1 ?_)⟩
         exact node_ne_tab b5 f4
       · refine Or.inr ⟨b1, fun y' v' q' hmem => ?_⟩
         simp at hmem
         rcases hmem with hmem | ⟨rfl, -⟩
         · exact b2 y' v' q' hmem
         · exact hm1
end Go.Proofs.YtbicmjmcdnkjhaaGreatDoor
