/- The statements' check of the chapter's example: pandectlaw10.head. The law PrinterEqual. The law PrinterWords. The reference's named: are all names of a provision names, and none a key word? -/
import Derived.Test.YtbicmjmcdnkjhaaGreatDoorJMM1
import Derived.Test.YtbicmjmcdnkjhaaGreatDoorJMM34
import Derived.Test.YtbicmjmcdnkjhaaGreatDoorJMM36
import Derived.Deep.CutRange
import Derived.Test.YtbicmjmcdnkjhaaGreatDoorJMM32
import Derived.Test.YtbicmjmcdnkjhaaGreatDoorJMM18
import Derived.Test.YtbicmjmcdnkjhaaGreatDoorJMM4
import Derived.Deep.QuietTactic
import Derived.BigQuiet
set_option linter.unusedVariables false
set_option linter.unusedSimpArgs false
set_option maxHeartbeats 4000000
namespace Go.Proofs.YtbicmjmcdnkjhaaGreatDoor
open Go.RowKit
theorem ex_few (id : Bytes) (h : id.length ≤ 60) : FewP (upP (exP id)) where
 cond := by rw [ex_up]; simp [exI, TreeI.size, sizesI]
 beg := by rw [ex_up]; simp [exI, TreeI.size, sizesI]
 fin := by rw [ex_up]; simp [exI, TreeI.size, sizesI]
 aga := by rw [ex_up]; simp [exI, TreeI.size, sizesI]
 exc := by rw [ex_up]; simp [exI]
 names := by
  rw [namesI_up, ex_names]
  intro s hs
  simp only [List.mem_cons, List.not_mem_nil, or_false] at hs
  rcases hs with rfl | rfl | rfl | rfl | rfl | rfl | rfl <;> first | exact h | decide
theorem five_few (id : Bytes) (h : id.length ≤ 60) : FewP { upP (exP id) with rank := 5 } := by
 obtain ⟨h1, h2, h3, h4, h5, h6⟩ := ex_few id h
 exact ⟨h1, h2, h3, h4, h5, h6⟩
theorem five_plain (id : Bytes) : plainP { upP (exP id) with rank := 5 } := ex_plain id
theorem rdpx_at {w : World} {cs : List Value} {p : ProvI} (h : RdPX w cs p) : cs[0]? = some (vs p.id) ∧ cs[1]? = some (.int .i64 p.rank) ∧ cs[2]? = some (.int .i64 p.kind) ∧ cs[3]? = some (vs p.name) ∧ cs[4]? = some (.int .i64 p.value) := by
 obtain ⟨cc, A, cap, cb, cf, ca, rfl, -⟩ := h
 exact ⟨rfl, rfl, rfl, rfl, rfl⟩
theorem rdpx_id {w : World} {cs : List Value} {p : ProvI} (h : RdPX w cs p) (a : Bytes) : RdPX w (cs.set 0 (vs a)) { p with id := a } := by
 obtain ⟨cc, A, cap, cb, cf, ca, rfl, h2⟩ := h
 exact ⟨cc, A, cap, cb, cf, ca, rfl, h2⟩
theorem rdpx_rank {w : World} {cs : List Value} {p : ProvI} (h : RdPX w cs p) (a : Int) : RdPX w (cs.set 1 (.int .i64 a)) { p with rank := a } := by
 obtain ⟨cc, A, cap, cb, cf, ca, rfl, h2⟩ := h
 exact ⟨cc, A, cap, cb, cf, ca, rfl, h2⟩
theorem rdpx_one {w : World} {cs : List Value} {p : ProvI} (h : RdPX w cs p) : allOne cs = true := by
 obtain ⟨id, rank, kind, name, value, ⟨o3, n3, c3, m3, k3⟩, exc, ⟨o5, n5, c5, m5, k5⟩, ⟨o6, n6, c6, m6, k6⟩, ⟨o7, n7, c7, m7, k7⟩⟩ := p
 obtain ⟨cc, A, cap, cb, cf, ca, rfl, -, ⟨A3, q3, rfl, -⟩, -, ⟨A5, q5, rfl, -⟩, ⟨A6, q6, rfl, -⟩, ⟨A7, q7, rfl, -⟩⟩ := h
 rfl
/- whole loads and stores of a provision that reads as p -/
theorem rdpx_io {w : World} {cs : List Value} {p : ProvI} (h : RdPX w cs p) : (∀ W b D t, D.size = 23 → rowStore W b cs.toArray (some (.cells D t (0, 0))) = .ok () (W.setRow b cs.toArray)) ∧ (∀ W b t fr, rowLoadP W b (some (.cells cs.toArray t fr)) = .ok (.agg cs.toArray) W) :=
 ⟨fun W b D t hD => rowStore_cells W b cs D t hD (by rw [List.size_toArray, h.len]) (rdpx_one h), fun W b t fr => rowLoadP_cells W b cs t fr (by rw [List.size_toArray, h.len])⟩
theorem blk_set {w : World} {b i : Nat} {l : List Value} {T : TypeId} {v : Value} (h : w.blk b = some (.cells l.toArray T (0, 0))) : (w.setCell ⟨b, i, none⟩ v).blk b = some (.cells (l.set i v).toArray T (0, 0)) := by
 have := set_block (o := i) (v := v) h
 rw [List.setIfInBounds_toArray] at this
 exact this
set_option maxRecDepth 100000
theorem head_any (w : World) (ht : Tabs w) : Calls Tryz.prog 10 #[] w fun e w' => e = .returned (.bool true) ∧ Below w.heap.size w w' := by
 have HT := Hi ht
 clear ht
 go_enter Tryz.func10, Tryz.ntmps10
 go_wp2_with fail
 refine (example_any w).mono ?_
 rintro e w1 ⟨cs, rfl, hr, hb⟩
 obtain ⟨st1, ld1⟩ := rdpx_io hr
 have HR := Hi hr
 have HB := Hi hb
 have HT1 : Hid (Tabs w1) := Hi (HT.out.below hb)
 clear hr hb
 go_wp2_with fail
 refine (north_p w1 _ cs _ HR.out (belowA _ _) HT1.out (ex_plain _) (ex_few _ (by decide))).mono ?_
 rintro e w2 ⟨rfl, hb2⟩
 rw [ex_north]
 have k1 : w2.blk w1.heap.size = some (.cells cs.toArray 30 (0, 0)) := (hb2.block _ (by simp)).trans (heap_alloc_new w1 _)
 have HB2 : Hid (Below w1.heap.size w1 w2) := Hi ((belowA w1 _).trans (hb2.mono (by simp)))
 have z1 : w1.heap.size < w2.heap.size := lHp k1
 have HK1 := Hi k1
 clear hb2
 go_wp2_with fail
 refine (south_p w1 _ cs _ HR.out HB2.out HT1.out (ex_plain _) (ex_few _ (by decide))).mono ?_
 rintro e w3 ⟨rfl, hb3⟩
 rw [ex_south]
 clear k1 z1
 have k1 : w3.blk w1.heap.size = some (.cells cs.toArray 30 (0, 0)) := (hb3.block _ (lHp HK1.out)).trans HK1.out
 have HB3 : Hid (Below w1.heap.size w1 w3) := Hi (HB2.out.trans (hb3.mono HB2.out.size))
 have z1 : w1.heap.size < w3.heap.size := lHp k1
 have HK3 := Hi k1
 clear hb3 HB2 HK1
 obtain ⟨d0, d1, -⟩ := rdpx_at HR.out
 have hnew := heap_alloc_new w3 (.cells cs.toArray 30)
 have c0 : (w3.alloc (.cells cs.toArray 30)).cell? ⟨w3.heap.size, 0, none⟩ = some (vs [112, 49]) := cOb hnew (by rw [List.getElem?_toArray]; exact d0)
 have f0 := fOb (o := 0) hnew
 clear hnew
 go_upto_region 6 with fail
 obtain ⟨ds, hds⟩ : ∃ ds, cs.set 0 (vs exW) = ds := ⟨_, rfl⟩
 have hq : RdPX w1 ds (upP (exP exW)) := by rw [← hds]; exact rdpx_id HR.out exW
 rw [show cs.set 0 (Value.string { data := #[119, 104, 101, 114, 101] }) = ds from hds]
 clear c0 f0 d0 d1 hds
 obtain ⟨st2, ld2⟩ := rdpx_io hq
 have HQ := Hi hq
 clear hq
 go_wp2_with fail
 refine (north_p w1 _ ds _ HQ.out (HB3.out.trans ((belowA w3 _).mono HB3.out.size)) HT1.out (ex_plain _) (ex_few _ (by decide))).mono ?_
 rintro e w4 ⟨rfl, hb4⟩
 rw [ex_where.1]
 have k6 : w4.blk w3.heap.size = some (.cells ds.toArray 30 (0, 0)) := (hb4.block _ (by simp)).trans (heap_alloc_new w3 _)
 have HB4 : Hid (Below w3.heap.size w3 w4) := Hi ((belowA w3 _).trans (hb4.mono (by simp)))
 have z6 : w3.heap.size < w4.heap.size := lHp k6
 have HK6 := Hi k6
 clear hb4 k1 z1
 go_wp2_with fail
 refine (south_p w1 _ ds _ HQ.out (HB3.out.trans (HB4.out.mono HB3.out.size)) HT1.out (ex_plain _) (ex_few _ (by decide))).mono ?_
 rintro e w5 ⟨rfl, hb5⟩
 rw [ex_where.2]
 clear k6 z6
 have k6 : w5.blk w3.heap.size = some (.cells ds.toArray 30 (0, 0)) := (hb5.block _ (lHp HK6.out)).trans HK6.out
 have HB5 : Hid (Below w3.heap.size w3 w5) := Hi (HB4.out.trans (hb5.mono HB4.out.size))
 have z6 : w3.heap.size < w5.heap.size := lHp k6
 obtain ⟨d0, d1, -⟩ := rdpx_at HQ.out
 have c1 : w5.cell? ⟨w3.heap.size, 1, none⟩ = some (.int .i64 2) := cOb k6 (by rw [List.getElem?_toArray]; exact d1)
 have f1 := fOb (o := 1) k6
 have k7 := blk_set (i := 1) (v := .int .i64 5) k6
 obtain ⟨es, hes⟩ : ∃ es, ds.set 1 (.int .i64 5) = es := ⟨_, rfl⟩
 have hq : RdPX w1 es { upP (exP exW) with rank := 5 } := by rw [← hes]; exact rdpx_rank HQ.out 5
 rw [hes] at k7
 obtain ⟨st3, ld3⟩ := rdpx_io hq
 have HE := Hi hq
 clear hb5 hq hes d0 d1 k6
 go_wp2_with fail
 refine (north_p w1 _ es _ HE.out ((HB3.out.trans (HB5.out.mono HB3.out.size)).setCell HB3.out.size _) HT1.out (five_plain _) (five_few _ (by decide))).mono ?_
 rintro e w6 ⟨rfl, hb6⟩
 rw [(ex_five rfl).1]
 have HB6 : Hid (Below w.heap.size w w6) := Hi (HB.out.trans (((HB3.out.trans (HB5.out.mono HB3.out.size)).setCell HB3.out.size _).trans (hb6.mono (by simp; have := HB5.out.size; have := HB3.out.size; omega)) |>.mono HB.out.size))
 clear hb6 k7 c1 f1 z6 st1 st2 st3 ld1 ld2 ld3
 go_wp2_with fail
 go_ret
 exact ⟨rfl, HB6.out⟩
/- two boxes of the law: provisions that came in -/
set_option maxRecDepth 100000
end Go.Proofs.YtbicmjmcdnkjhaaGreatDoor
set_option maxRecDepth 20000
namespace Go.Proofs.YtbicmjmcdnkjhaaGreatDoor
open Go.RowKit
theorem rds_row {w : World} {b : Nat} {l : List Bytes} {T : TypeId} (h : w.heap[b]? = some (.cells (l.map vs).toArray T (0, 0))) : RdS w (some ⟨b, 0, none⟩) l := by
 intro _
 refine ⟨b, 0, rfl, lHp h, fun k x hx j v hv => ?_⟩
 cases j with
 | succ j => simp at hv
 | zero =>
   simp at hv
   subst hv
   refine cOb h ?_
   simp [hx]
def WordsP (kw : List Bytes) (n : Nat) (w : World) (e : Ending) (w' : World) : Prop := ∃ g, e = .returned (.slice (some ⟨g, 0, none⟩) n n) ∧ RdS w' (some ⟨g, 0, none⟩) kw ∧ Below w.heap.size w w'
theorem nwords_any (w : World) : Calls Tryz.prog 17 #[] w (WordsP keyWords 24 w) := by
 go_enter Tryz.func17, Tryz.ntmps17
 go_wp2_with fail
 go_ret
 exact ⟨w.heap.size, rfl, rds_row (T := 9) (heap_alloc_new w _), belowA w _⟩
theorem swords_any (w : World) : Calls Tryz.prog 18 #[] w (WordsP So.keyWords 31 w) := by
 go_enter Tryz.func18, Tryz.ntmps18
 go_wp2_with fail
 go_ret
 exact ⟨w.heap.size, rfl, rds_row (T := 9) (heap_alloc_new w _), belowA w _⟩
theorem in_words (l : List Bytes) (g n : Nat) (s : Bytes) (w : World) (b : Bool) (hn : l.length = n) (hb : l.contains s = b) (hr : RdS w (some ⟨g, 0, none⟩) l) (hl : n ≤ 1000000) :
 Calls Tryz.prog 19 #[.slice (some ⟨g, 0, none⟩) n n, vs s] w fun e w' => e = .returned (.bool b) ∧ Below w.heap.size w w' := by
 subst hn hb
 exact in_any l _ _ s w hr hl
structure Bx1 (w wx : World) (C : Array Value) (T : TypeId) : Prop where
 below : Below w.heap.size w wx
 blk : wx.blk w.heap.size = some (.cells C T (0, 0))
theorem Bx1.start (w : World) (C : Array Value) (T : TypeId) : Bx1 w (w.alloc (.cells C T)) C T := ⟨belowA w _, heap_alloc_new w _⟩
theorem Bx1.step {w wx w' : World} {C : Array Value} {T : TypeId} (h : Bx1 w wx C T) (hb : Below wx.heap.size wx w') : Bx1 w w' C T := ⟨h.below.trans (hb.mono h.below.size), (hb.block _ (lHp h.blk)).trans h.blk⟩
theorem Bx1.drew {w wx : World} {C : Array Value} {T : TypeId} (h : Bx1 w wx C T) : Bx1 w wx.drew C T := ⟨h.below.drew, h.blk⟩
set_option maxRecDepth 100000
end Go.Proofs.YtbicmjmcdnkjhaaGreatDoor
set_option maxRecDepth 100000
set_option maxHeartbeats 4000000
namespace Go.Proofs.YtbicmjmcdnkjhaaGreatDoor
open Go.RowKit
attribute [local go_sem ↓] Go.wp_at_zero Go.wp_at_succ
theorem namedR_drop {words L : List Bytes} {k : Nat} {s : Bytes} (h : L[k]? = some s) : namedR words (L.drop k) = (nameB s && !words.contains s && namedR words (L.drop (k + 1))) := by
 obtain ⟨h1, rfl⟩ := List.getElem?_eq_some_iff.1 h
 unfold namedR
 rw [List.drop_eq_getElem_cons h1, List.all_cons]
theorem rnamed_any (w : World) (cs : List Value) (p : ProvI) (words : List Bytes) (n g : Nat) (hr : RdPX w cs p) (hf : FewP p) (hn : words.length = n) (hwl : n ≤ 1000) (hw : RdS w (some ⟨g, 0, none⟩) words) :
 Calls Tryz.prog 38 #[.agg cs.toArray, .slice (some ⟨g, 0, none⟩) n n] w fun e w' => e = .returned (.bool (namedR words (namesI p))) ∧ Below w.heap.size w w' := by
 obtain ⟨-, ld1⟩ := rdpx_io hr
 have HX := Hi (Bx1.start w cs.toArray 30)
 have HNM : Hid (∀ wx, Below w.heap.size w wx → Calls Tryz.prog 25 #[.agg cs.toArray] wx fun e w' => ∃ v', e = .returned v' ∧ OwnS w' wx.heap.size v' (namesI p) ∧ Below wx.heap.size wx w') := Hi (fun wx hx => names_any wx cs p (hr.keep hx) (by have := hf.cond; omega) (by have := hf.beg; omega) (by have := hf.fin; omega) (by have := hf.aga; omega) (by have := hf.exc; omega))
 have HIN : Hid (∀ (s : Bytes) (b : Bool), words.contains s = b → ∀ wx, Below w.heap.size w wx → Calls Tryz.prog 19 #[.slice (some ⟨g, 0, none⟩) n n, vs s] wx fun e w' => e = .returned (.bool b) ∧ Below wx.heap.size wx w') := Hi (fun s b hb wx hx => in_words words g n s wx b hn hb (hw.below hx) (by omega))
 have HSH := Hi hf.names
 have hln : (namesI p).length ≤ 2000 := by
  have h1 := hf.cond
  have h2 := hf.beg
  have h3 := hf.fin
  have h4 := hf.aga
  have h5 := hf.exc
  have l1 := nmF_len p.cond
  have l2 := nmS_len p.beg
  have l3 := nmS_len p.fin
  have l4 := nmS_len p.aga
  unfold namesI
  simp only [List.length_cons, List.length_append]
  omega
 obtain ⟨LN, hLN⟩ : ∃ LN, namesI p = LN := ⟨_, rfl⟩
 rw [hLN] at HNM HSH hln ⊢
 obtain ⟨B, hB⟩ : ∃ B, namedR words LN = B := ⟨_, rfl⟩
 rw [hB]
 have HB := Hi hB
 clear hr hf hw hLN hB hn
 go_enter Tryz.func38, Tryz.ntmps38
 have k1 := HX.out.blk
 have l1 := lHp k1
 go_wp2_with fail
 refine (HNM.out _ HX.out.below).mono ?_
 rintro e x5 ⟨v5, rfl, ho, hb⟩
 obtain ⟨AL, cL, rfl, hcL, hrL, -⟩ := ho.form
 have H5 := Hi (HX.out.step hb)
 have HRL := Hi hrL
 clear hb ho hrL k1 l1 ld1 HX HNM
 go_wp2_with fail
 go_loopw [6] (fun v6 wr => ∃ k : Nat, k ≤ LN.length ∧ v6 = .int .i64 k ∧ namedR words (LN.drop k) = B ∧ Below x5.heap.size x5 wr) (fun v6 _ => LN.length - (intOf v6).toNat)
 case atStart => exact ⟨0, Nat.zero_le _, rfl, HB.out, Below.refl _ _⟩
 case round =>
  obtain ⟨k, hk, rfl, heq, hbw⟩ := hrel
  have HEQ := Hi heq
  have HBW := Hi hbw
  have HBX := Hi (H5.out.below.trans (hbw.mono H5.out.below.size))
  clear heq hbw
  by_cases hlt : k < LN.length
  · obtain ⟨s, hs⟩ := gLt hlt
    have HD := Hi (namedR_drop (words := words) hs)
    have hsl := HSH.out s (List.mem_of_getElem? hs)
    obtain ⟨b0, o0, rfl, hbl, hc⟩ := HRL.out.item hs
    have z0 : wr.cell? ⟨b0, o0 + k, none⟩ = some (vs s) := (HBW.out.cell (p := ⟨b0, o0 + k, none⟩) hbl).trans hc
    have hk1 : (k : Int) < LN.length := by omega
    have hk0 : (0 : Int) ≤ k := by omega
    obtain ⟨b1, hb1⟩ : ∃ b, nameB s = b := ⟨_, rfl⟩
    obtain ⟨b2, hb2⟩ : ∃ b, words.contains s = b := ⟨_, rfl⟩
    have hC1 := fun wx => rName_any s wx (by omega)
    rw [hb1] at hC1
    have HC1 := Hi hC1
    have HC2 := Hi (HIN.out s b2 hb2)
    have HS : Hid ((b1 && !b2 && namedR words (LN.drop (k + 1))) = B) := Hi (by rw [← HEQ.out, HD.out, hb1, hb2])
    clear hc hs hb1 hb2 hC1 hsl
    cases b1 with
    | false =>
      have HF : Hid (B = false) := Hi (by rw [← HS.out]; rfl)
      go_wp2_with fail
      refine (HC1.out _).mono ?_
      rintro e w' ⟨rfl, rfl⟩
      go_wp2_with fail
      go_ret
      exact ⟨by rw [HF.out]; rfl, HBX.out⟩
    | true =>
      go_wp2_with fail
      refine (HC1.out _).mono ?_
      rintro e w' ⟨rfl, rfl⟩
      go_wp2_with fail
      refine (HC2.out _ HBX.out).mono ?_
      rintro e w2 ⟨rfl, hb⟩
      have HB2 := Hi (HBW.out.trans (hb.mono HBW.out.size))
      have HBX2 := Hi (HBX.out.trans (hb.mono HBX.out.size))
      clear hb z0
      cases b2 with
      | true =>
        have HF : Hid (B = false) := Hi (by rw [← HS.out]; rfl)
        go_wp2_with fail
        go_ret
        exact ⟨by rw [HF.out]; rfl, HBX2.out⟩
      | false =>
        have HT : Hid (namedR words (LN.drop (k + 1)) = B) := Hi (by rw [← HS.out]; rfl)
        go_wp2_with fail
        exact ⟨⟨k + 1, by omega, by go_num, HT.out, HB2.out⟩, by simp [intOf]; omega⟩
  · have hk' : k = LN.length := by omega
    subst hk'
    have hlt2 : ¬ ((LN.length : Nat) : Int) < LN.length := by omega
    have HF : Hid (B = true) := Hi (by rw [← HEQ.out, List.drop_length]; rfl)
    go_wp2_with fail
    go_ret
    exact ⟨by rw [HF.out]; rfl, HBX.out⟩
end Go.Proofs.YtbicmjmcdnkjhaaGreatDoor
