/- The law of the form. -/
import Derived.Test.YtcekampdldkjlaaDoorSFrm
import Derived.Test.YtcekampdldkjlaaDoorNGrew
import Derived.BigQuiet
set_option linter.unusedVariables false
set_option linter.unusedSimpArgs false
namespace Go.Proofs.YtcekampdldkjlaaDoor
open Go.RowKit
theorem exc_at {l : List (List UInt8)} (h : ExcOk l) {k : Nat} {x : List UInt8} (hx : l[k]? = some x) : goodName x = true ∧ ixS (l.take k) x = none := by
  obtain ⟨h1, h2, h3⟩ := h
  refine ⟨h2 x (List.mem_of_getElem? hx), ?_⟩
  have := h3 k x hx
  cases hi : ixS (l.take k) x with
  | none => rfl
  | some i =>
    exfalso
    have hc := ix_contains (l.take k) x
    rw [hi] at hc
    exact this (by simpa using hc)
theorem RdS.take {w : World} {A : Option Addr} {l : List (List UInt8)} (h : RdS w A l) (k : Nat) : RdS w A (l.take k) := by
  intro hne
  obtain ⟨b, o, hA, hb, hc⟩ := h (by rintro rfl; simp at hne)
  refine ⟨b, o, hA, hb, fun j x hx => hc j x ?_⟩
  rw [List.getElem?_take] at hx
  split at hx
  · exact hx
  · cases hx
theorem index_take {w : World} {A : Option Addr} {l : List (List UInt8)} {k c : Nat} {s : List UInt8} (h : RdS w A l) (hk : k ≤ l.length) (hl : l.length ≤ 20) (hi : ixS (l.take k) s = none) : Calls Tryd.prog 16 #[.slice A k c, vs s] w fun e w' => e = .returned (.int .i64 (-1)) ∧ Below w.heap.size w w' := by
  have hlen : (l.take k).length = k := by simp; omega
  have := index_any (l.take k) A c s w (RdS.take h k) (by omega)
  rw [hlen, hi] at this
  exact this.mono fun e w' ⟨h1, h2⟩ => ⟨h1, h2 ▸ Below.refl _ _⟩
set_option maxRecDepth 100000 in
set_option maxHeartbeats 4000000 in
theorem form_no (l : List UInt8) (w : World) (m : Int) (hm : w.cell? ⟨2, 0, none⟩ = some (.int .i64 m)) (hno : 3000 < l.length ∨ outE l ≠ 0) :
    Calls Tryd.prog 7 #[vs l] w fun e w' => e = .returned (.bool true) ∧ Below w.heap.size w w' := by
  have HM := Lib.hid hm
  have HNO := Lib.hid hno
  clear hm hno
  go_enter Tryd.func7, Tryd.ntmps7
  go_wp2_with fail
  refine (head_any w m HM.out).mono ?_
  rintro e w1 ⟨rfl, hb1⟩
  have HB1 := Lib.hid hb1
  clear hb1
  by_cases hl : 3000 < l.length
  · have hl' : (3000 : Int) < l.length := by omega
    go_wp2_with fail
    go_ret
    exact ⟨rfl, HB1.out⟩
  have h0 : outE l ≠ 0 := HNO.out.resolve_left hl
  have hl' : ¬ (3000 : Int) < l.length := by omega
  obtain ⟨hz, hcase⟩ := out_at h0
  go_wp2_with fail
  refine (parse_out l _ m (maxc_below HM.out HB1.out)).mono ?_
  rintro e w2 ⟨hb2, c1, rfl, hr1⟩
  obtain ⟨st1, -⟩ := prov_io hr1
  rw [hz] at hr1
  have HB2 : Hid (Below w.heap.size w w2) := Lib.hid (HB1.out.trans (hb2.mono HB1.out.size))
  obtain ⟨cc, B, cap, cb, cf, ca, hcs, -⟩ := hr1
  have x0 : (w2.alloc (.cells c1.toArray 35 (0, 0))).cell? ⟨w2.heap.size, 0, none⟩ = some (vs []) := by
    refine cell_of_blk (o := 0) (heap_alloc_new w2 _) ?_
    rw [hcs]; rfl
  have x1 : (w2.alloc (.cells c1.toArray 35 (0, 0))).cell? ⟨w2.heap.size, 1, none⟩ = some (.int .i64 0) := by
    refine cell_of_blk (o := 1) (heap_alloc_new w2 _) ?_
    rw [hcs]; rfl
  have h0' : ¬ (outE l : Int) = 0 := by omega
  clear hcs hz hb2 h0
  go_wp2_with fail
  go_ret
  exact ⟨rfl, HB2.out.alloc HB2.out.size _⟩
set_option maxRecDepth 100000 in
set_option maxHeartbeats 8000000 in
theorem form_yes (l : List UInt8) (w : World) (m : Int) (hm : w.cell? ⟨2, 0, none⟩ = some (.int .i64 m)) (hl : l.length ≤ 3000) (h0 : outE l = 0) :
    Calls Tryd.prog 7 #[vs l] w fun e w' => e = .returned (.bool true) ∧ Below w.heap.size w w' := by
  have HM := Lib.hid hm
  have HG := Lib.hid (out_good h0)
  have HE := Lib.hid h0
  have HA := Lib.hid (out_a0 h0)
  clear hm h0
  go_enter Tryd.func7, Tryd.ntmps7
  go_wp2_with fail
  refine (head_any w m HM.out).mono ?_
  rintro e w1 ⟨rfl, hb1⟩
  have HB1 := Lib.hid hb1
  clear hb1
  have hl' : ¬ (3000 : Int) < l.length := by omega
  go_wp2_with fail
  refine (parse_out l _ m (maxc_below HM.out HB1.out)).mono ?_
  rintro e w2 ⟨hb2, c1, rfl, hr1⟩
  obtain ⟨st1, -⟩ := prov_io hr1
  rw [HE.out, HA.out]
  go_upto_region 7 with fail
  have hal : Below w2.heap.size w2 (w2.alloc (.cells c1.toArray 35 (0, 0))) := (Below.refl _ _).alloc (Nat.le_refl _) _
  have HB3 : Hid (Below w.heap.size w (w2.alloc (.cells c1.toArray 35 (0, 0)))) := Lib.hid (HB1.out.trans ((hb2.trans (hal.mono hb2.size)).mono HB1.out.size))
  have HR := Lib.hid (hr1.below (n := 0) hal)
  have HX3 := Lib.hid (heap_alloc_new w2 (.cells c1.toArray 35 (0, 0)))
  generalize hW : w2.alloc (.cells c1.toArray 35 (0, 0)) = w3 at *
  clear hb2 hr1 hal st1 hW
  generalize outP l = P at HR HG
  obtain ⟨id, rank, kind, name, value, cond, exc, beg, fin, aga⟩ := P
  obtain ⟨cc, A, p, cb, cf, ca, rfl, hep, hcc, hex, hcb, hcf, hca⟩ := HR.out
  obtain ⟨g1, g2, g3, g4, g5, g6, g7, g8⟩ := HG.out
  simp only at *
  have HTC := Lib.hid (hcc.keep (S' := fun _ => True) (Nat.le_refl _) (fun b _ _ => ⟨trivial, rfl⟩))
  obtain ⟨oC, nC, dC, mC, ksC⟩ := cond
  obtain ⟨KC, qC, rfl, -, -⟩ := hcc
  obtain ⟨oB, nB, dB, mB, ksB⟩ := beg
  obtain ⟨KB, qB, rfl, -, -⟩ := hcb
  obtain ⟨oD, nD, dD, mD, ksD⟩ := fin
  obtain ⟨KD, qD, rfl, -, -⟩ := hcf
  obtain ⟨oG, nG, dG, mG, ksG⟩ := aga
  obtain ⟨KG, qG, rfl, -, -⟩ := hca
  have EX := Lib.hid hex.1
  simp only [tcs, List.cons_append, List.nil_append] at HX3
  have hx : w3.heap[w2.heap.size]? = some (.cells #[vs id, .int .i64 rank, .int .i64 kind, vs name, .int .i64 value, .int .i64 oC, vs nC, .int .i64 dC, .int .i64 mC, .slice KC ksC.length qC, .slice A exc.length p, .int .i64 oB, vs nB, .int .i64 mB, .slice KB ksB.length qB, .int .i64 oD, vs nD, .int .i64 mD, .slice KD ksD.length qD, .int .i64 oG, vs nG, .int .i64 mG, .slice KG ksG.length qG] 35 (0, 0)) := HX3.out
  have HX3 : Hid (w3.heap[w2.heap.size]? = some (.cells #[vs id, .int .i64 rank, .int .i64 kind, vs name, .int .i64 value, .int .i64 oC, vs nC, .int .i64 dC, .int .i64 mC, .slice KC ksC.length qC, .slice A exc.length p, .int .i64 oB, vs nB, .int .i64 mB, .slice KB ksB.length qB, .int .i64 oD, vs nD, .int .i64 mD, .slice KD ksD.length qD, .int .i64 oG, vs nG, .int .i64 mG, .slice KG ksG.length qG] 35 (0, 0))) := Lib.hid hx
  have HBW3 : Hid (Below w3.heap.size w3 w3) := Lib.hid (Below.refl _ _)
  have HCO := Lib.hid g7
  obtain ⟨sC, hsC⟩ : ∃ n, (Tree.mk oC nC dC mC ksC).size = n := ⟨_, rfl⟩
  rw [hsC] at g8
  have HSC := Lib.hid hsC
  clear hsC
  have HEO := Lib.hid g6
  have hel := g6.1
  have HKD := Lib.hid g2
  have HID := Lib.hid g3
  have HNM := Lib.hid g4
  have HEP := Lib.hid hep
  have i1 : ¬ (rank : Int) < 1 := by omega
  have i2 : ¬ (4 : Int) < rank := by omega
  have i3 : (0 : Int) ≤ value := by omega
  have i4 : (value : Int) ≤ 1000000 := by omega
  have i5 : ¬ (20 : Int) < exc.length := by omega
  have i6 : (sC : Int) ≤ 200 := by omega
  clear hex g1 g2 g3 g4 g5 g6 g7 g8 hep HR HG hx
  rcases HKD.out with ⟨hk, hv⟩ | hk
  · subst hk
    subst hv
    clear i3 i4
    go_wp2_with fail
    go_loopw [7] (fun v7 wr => ∃ k : Nat, k ≤ exc.length ∧ v7 = .int .i64 k ∧ Below w3.heap.size w3 wr) (fun v7 _ => exc.length - (intOf v7).toNat)
    case atStart => exact ⟨0, Nat.zero_le _, rfl, Below.refl _ _⟩
    case round =>
      obtain ⟨k, hkl, rfl, hb⟩ := hrel
      have HBR := Lib.hid hb
      have HXR : Hid (wr.heap[w2.heap.size]? = some (.cells #[vs id, .int .i64 rank, .int .i64 (1 : Nat), vs name, .int .i64 (0 : Nat), .int .i64 oC, vs nC, .int .i64 dC, .int .i64 mC, .slice KC ksC.length qC, .slice A exc.length p, .int .i64 oB, vs nB, .int .i64 mB, .slice KB ksB.length qB, .int .i64 oD, vs nD, .int .i64 mD, .slice KD ksD.length qD, .int .i64 oG, vs nG, .int .i64 mG, .slice KG ksG.length qG] 35 (0, 0))) := Lib.hid ((hb.block _ (lt_of_heap' HX3.out)).trans HX3.out)
      have hx := HXR.out
      have u10 := cell_of_blk (o := 10) hx rfl
      have hlx := lt_of_heap' hx
      clear hb hx
      by_cases hlt : k < exc.length
      · obtain ⟨x, hx⟩ := get_of_lt hlt
        obtain ⟨hgx, hix⟩ := exc_at HEO.out hx
        obtain ⟨b, o, rfl, hbs, c0⟩ := EX.out.item hx
        have cx : wr.cell? ⟨b, o + k, none⟩ = some (vs x) := (HBR.out.cell (p := ⟨b, o + k, none⟩) hbs).trans c0
        have hbl : b < wr.heap.size := Nat.lt_of_lt_of_le hbs HBR.out.size
        have HN : ∀ y, Hid (Calls Tryd.prog 15 #[vs x] (World.grew wr y) fun e w' => e = .returned (.bool false) ∧ Below (World.grew wr y).heap.size (World.grew wr y) w') := fun y => Lib.hid (key_no x _ hgx)
        have HI : ∀ y, Hid (Calls Tryd.prog 16 #[.slice (some ⟨b, o, none⟩) k p, vs x] (World.grew wr y) fun e w' => e = .returned (.int .i64 (-1)) ∧ Below (World.grew wr y).heap.size (World.grew wr y) w') := fun y => Lib.hid (index_take (EX.out.below (HBR.out.trans ((grew_below wr y).mono HBR.out.size))) hkl hel hix)
        have hk1 : (k : Int) < exc.length := by omega
        have hk0 : (0 : Int) ≤ k := by omega
        have hk2 : (k : Int) ≤ p := by have := HEP.out; omega
        clear hx hgx hix c0
        go_wp2_with fail
        refine wp_region_grew (by kernel_rfl) (by as_aux_lemma => kernel_rfl) ?_
        repeat (go_big_quiet_step ((first | exact Calls_grew (HN _).out | exact Calls_grew (HI _).out)))
        refine wpQuiet_nil ?_
        rintro _ ⟨y, rfl⟩
        go_wp2_with fail
        exact ⟨⟨k + 1, by omega, by go_num, HBR.out.trans ((grew_below wr y).mono HBR.out.size)⟩, by simp [intOf]; omega⟩
      · obtain rfl : k = exc.length := by omega
        have hk1 : ¬ ((exc.length : Nat) : Int) < exc.length := by omega
        have hx := HXR.out
        have u0 := cell_of_blk (o := 0) hx rfl
        have u1 := cell_of_blk (o := 1) hx rfl
        have u2 := cell_of_blk (o := 2) hx rfl
        have u3 := cell_of_blk (o := 3) hx rfl
        have u4 := cell_of_blk (o := 4) hx rfl
        clear hx
        go_wp2_with fail
        refine (key_no id _ HID.out).mono ?_
        rintro e w4 ⟨rfl, hb4⟩
        clear u0 u1 u2 u3 u4 u10 hlx
        have HX4 : Hid (w4.heap[w2.heap.size]? = some (.cells #[vs id, .int .i64 rank, .int .i64 (1 : Nat), vs name, .int .i64 (0 : Nat), .int .i64 oC, vs nC, .int .i64 dC, .int .i64 mC, .slice KC ksC.length qC, .slice A exc.length p, .int .i64 oB, vs nB, .int .i64 mB, .slice KB ksB.length qB, .int .i64 oD, vs nD, .int .i64 mD, .slice KD ksD.length qD, .int .i64 oG, vs nG, .int .i64 mG, .slice KG ksG.length qG] 35 (0, 0))) := Lib.hid ((hb4.block _ (lt_of_heap' HXR.out)).trans HXR.out)
        have HBW4 : Hid (Below w3.heap.size w3 w4) := Lib.hid (HBR.out.trans (hb4.mono HBR.out.size))
        clear hb4
        have hx := HX4.out
        have u0 := cell_of_blk (o := 0) hx rfl
        have u1 := cell_of_blk (o := 1) hx rfl
        have u2 := cell_of_blk (o := 2) hx rfl
        have u3 := cell_of_blk (o := 3) hx rfl
        have u4 := cell_of_blk (o := 4) hx rfl
        have u10 := cell_of_blk (o := 10) hx rfl
        have hlx := lt_of_heap' hx
        clear hx
        go_wp2_with fail
        refine (key_no name _ HNM.out).mono ?_
        rintro e w5 ⟨rfl, hb5⟩
        clear u0 u1 u2 u3 u4 u10 hlx
        have HX5 : Hid (w5.heap[w2.heap.size]? = some (.cells #[vs id, .int .i64 rank, .int .i64 (1 : Nat), vs name, .int .i64 (0 : Nat), .int .i64 oC, vs nC, .int .i64 dC, .int .i64 mC, .slice KC ksC.length qC, .slice A exc.length p, .int .i64 oB, vs nB, .int .i64 mB, .slice KB ksB.length qB, .int .i64 oD, vs nD, .int .i64 mD, .slice KD ksD.length qD, .int .i64 oG, vs nG, .int .i64 mG, .slice KG ksG.length qG] 35 (0, 0))) := Lib.hid ((hb5.block _ (lt_of_heap' HX4.out)).trans HX4.out)
        have HBW5 : Hid (Below w3.heap.size w3 w5) := Lib.hid (HBW4.out.trans (hb5.mono HBW4.out.size))
        clear hb5
        have hx := HX5.out
        have u0 := cell_of_blk (o := 0) hx rfl
        have u1 := cell_of_blk (o := 1) hx rfl
        have u2 := cell_of_blk (o := 2) hx rfl
        have u3 := cell_of_blk (o := 3) hx rfl
        have u4 := cell_of_blk (o := 4) hx rfl
        have u5 := cell_of_blk (o := 5) hx rfl
        have u6 := cell_of_blk (o := 6) hx rfl
        have u7 := cell_of_blk (o := 7) hx rfl
        have u8 := cell_of_blk (o := 8) hx rfl
        have u9 := cell_of_blk (o := 9) hx rfl
        have u10 := cell_of_blk (o := 10) hx rfl
        have hlx := lt_of_heap' hx
        clear hx
        go_wp2_with fail
        refine (form_any _ (.mk oC nC dC mC ksC) (tcs true oC nC dC mC (.slice KC ksC.length qC)) 20 w5 (Nat.le_refl _) (by rw [HSC.out]; omega) (by have := HCO.out.2; omega) (by omega) HCO.out.1 (HTC.out.keep HBW5.out.size (fun b _ hlt => ⟨trivial, HBW5.out.block b hlt⟩))).mono ?_
        rintro e w6 ⟨rfl, hb6⟩
        rw [HSC.out]
        have HB6 := Lib.hid (HB3.out.trans ((HBW5.out.trans (hb6.mono HBW5.out.size)).mono HB3.out.size))
        clear hb6 u0 u1 u2 u3 u4 u5 u6 u7 u8 u9 u10 hlx
        go_wp2_with fail
        go_ret
        exact ⟨rfl, HB6.out⟩
  · subst hk
    go_wp2_with fail
    go_loopw [7] (fun v7 wr => ∃ k : Nat, k ≤ exc.length ∧ v7 = .int .i64 k ∧ Below w3.heap.size w3 wr) (fun v7 _ => exc.length - (intOf v7).toNat)
    case atStart => exact ⟨0, Nat.zero_le _, rfl, Below.refl _ _⟩
    case round =>
      obtain ⟨k, hkl, rfl, hb⟩ := hrel
      have HBR := Lib.hid hb
      have HXR : Hid (wr.heap[w2.heap.size]? = some (.cells #[vs id, .int .i64 rank, .int .i64 (2 : Nat), vs name, .int .i64 value, .int .i64 oC, vs nC, .int .i64 dC, .int .i64 mC, .slice KC ksC.length qC, .slice A exc.length p, .int .i64 oB, vs nB, .int .i64 mB, .slice KB ksB.length qB, .int .i64 oD, vs nD, .int .i64 mD, .slice KD ksD.length qD, .int .i64 oG, vs nG, .int .i64 mG, .slice KG ksG.length qG] 35 (0, 0))) := Lib.hid ((hb.block _ (lt_of_heap' HX3.out)).trans HX3.out)
      have hx := HXR.out
      have u10 := cell_of_blk (o := 10) hx rfl
      have hlx := lt_of_heap' hx
      clear hb hx
      by_cases hlt : k < exc.length
      · obtain ⟨x, hx⟩ := get_of_lt hlt
        obtain ⟨hgx, hix⟩ := exc_at HEO.out hx
        obtain ⟨b, o, rfl, hbs, c0⟩ := EX.out.item hx
        have cx : wr.cell? ⟨b, o + k, none⟩ = some (vs x) := (HBR.out.cell (p := ⟨b, o + k, none⟩) hbs).trans c0
        have hbl : b < wr.heap.size := Nat.lt_of_lt_of_le hbs HBR.out.size
        have HN : ∀ y, Hid (Calls Tryd.prog 15 #[vs x] (World.grew wr y) fun e w' => e = .returned (.bool false) ∧ Below (World.grew wr y).heap.size (World.grew wr y) w') := fun y => Lib.hid (key_no x _ hgx)
        have HI : ∀ y, Hid (Calls Tryd.prog 16 #[.slice (some ⟨b, o, none⟩) k p, vs x] (World.grew wr y) fun e w' => e = .returned (.int .i64 (-1)) ∧ Below (World.grew wr y).heap.size (World.grew wr y) w') := fun y => Lib.hid (index_take (EX.out.below (HBR.out.trans ((grew_below wr y).mono HBR.out.size))) hkl hel hix)
        have hk1 : (k : Int) < exc.length := by omega
        have hk0 : (0 : Int) ≤ k := by omega
        have hk2 : (k : Int) ≤ p := by have := HEP.out; omega
        clear hx hgx hix c0
        go_wp2_with fail
        refine wp_region_grew (by kernel_rfl) (by as_aux_lemma => kernel_rfl) ?_
        repeat (go_big_quiet_step ((first | exact Calls_grew (HN _).out | exact Calls_grew (HI _).out)))
        refine wpQuiet_nil ?_
        rintro _ ⟨y, rfl⟩
        go_wp2_with fail
        exact ⟨⟨k + 1, by omega, by go_num, HBR.out.trans ((grew_below wr y).mono HBR.out.size)⟩, by simp [intOf]; omega⟩
      · obtain rfl : k = exc.length := by omega
        have hk1 : ¬ ((exc.length : Nat) : Int) < exc.length := by omega
        have hx := HXR.out
        have u0 := cell_of_blk (o := 0) hx rfl
        have u1 := cell_of_blk (o := 1) hx rfl
        have u2 := cell_of_blk (o := 2) hx rfl
        have u3 := cell_of_blk (o := 3) hx rfl
        have u4 := cell_of_blk (o := 4) hx rfl
        clear hx
        go_wp2_with fail
        refine (key_no id _ HID.out).mono ?_
        rintro e w4 ⟨rfl, hb4⟩
        clear u0 u1 u2 u3 u4 u10 hlx
        have HX4 : Hid (w4.heap[w2.heap.size]? = some (.cells #[vs id, .int .i64 rank, .int .i64 (2 : Nat), vs name, .int .i64 value, .int .i64 oC, vs nC, .int .i64 dC, .int .i64 mC, .slice KC ksC.length qC, .slice A exc.length p, .int .i64 oB, vs nB, .int .i64 mB, .slice KB ksB.length qB, .int .i64 oD, vs nD, .int .i64 mD, .slice KD ksD.length qD, .int .i64 oG, vs nG, .int .i64 mG, .slice KG ksG.length qG] 35 (0, 0))) := Lib.hid ((hb4.block _ (lt_of_heap' HXR.out)).trans HXR.out)
        have HBW4 : Hid (Below w3.heap.size w3 w4) := Lib.hid (HBR.out.trans (hb4.mono HBR.out.size))
        clear hb4
        have hx := HX4.out
        have u0 := cell_of_blk (o := 0) hx rfl
        have u1 := cell_of_blk (o := 1) hx rfl
        have u2 := cell_of_blk (o := 2) hx rfl
        have u3 := cell_of_blk (o := 3) hx rfl
        have u4 := cell_of_blk (o := 4) hx rfl
        have u10 := cell_of_blk (o := 10) hx rfl
        have hlx := lt_of_heap' hx
        clear hx
        go_wp2_with fail
        refine (key_no name _ HNM.out).mono ?_
        rintro e w5 ⟨rfl, hb5⟩
        clear u0 u1 u2 u3 u4 u10 hlx
        have HX5 : Hid (w5.heap[w2.heap.size]? = some (.cells #[vs id, .int .i64 rank, .int .i64 (2 : Nat), vs name, .int .i64 value, .int .i64 oC, vs nC, .int .i64 dC, .int .i64 mC, .slice KC ksC.length qC, .slice A exc.length p, .int .i64 oB, vs nB, .int .i64 mB, .slice KB ksB.length qB, .int .i64 oD, vs nD, .int .i64 mD, .slice KD ksD.length qD, .int .i64 oG, vs nG, .int .i64 mG, .slice KG ksG.length qG] 35 (0, 0))) := Lib.hid ((hb5.block _ (lt_of_heap' HX4.out)).trans HX4.out)
        have HBW5 : Hid (Below w3.heap.size w3 w5) := Lib.hid (HBW4.out.trans (hb5.mono HBW4.out.size))
        clear hb5
        have hx := HX5.out
        have u0 := cell_of_blk (o := 0) hx rfl
        have u1 := cell_of_blk (o := 1) hx rfl
        have u2 := cell_of_blk (o := 2) hx rfl
        have u3 := cell_of_blk (o := 3) hx rfl
        have u4 := cell_of_blk (o := 4) hx rfl
        have u5 := cell_of_blk (o := 5) hx rfl
        have u6 := cell_of_blk (o := 6) hx rfl
        have u7 := cell_of_blk (o := 7) hx rfl
        have u8 := cell_of_blk (o := 8) hx rfl
        have u9 := cell_of_blk (o := 9) hx rfl
        have u10 := cell_of_blk (o := 10) hx rfl
        have hlx := lt_of_heap' hx
        clear hx
        go_wp2_with fail
        refine (form_any _ (.mk oC nC dC mC ksC) (tcs true oC nC dC mC (.slice KC ksC.length qC)) 20 w5 (Nat.le_refl _) (by rw [HSC.out]; omega) (by have := HCO.out.2; omega) (by omega) HCO.out.1 (HTC.out.keep HBW5.out.size (fun b _ hlt => ⟨trivial, HBW5.out.block b hlt⟩))).mono ?_
        rintro e w6 ⟨rfl, hb6⟩
        rw [HSC.out]
        have HB6 := Lib.hid (HB3.out.trans ((HBW5.out.trans (hb6.mono HBW5.out.size)).mono HB3.out.size))
        clear hb6 u0 u1 u2 u3 u4 u5 u6 u7 u8 u9 u10 hlx
        go_wp2_with fail
        go_ret
        exact ⟨rfl, HB6.out⟩
theorem form_law (l : List UInt8) (w : World) (m : Int) (hm : w.cell? ⟨2, 0, none⟩ = some (.int .i64 m)) :
    Calls Tryd.prog 7 #[vs l] w fun e w' => e = .returned (.bool true) ∧ Below w.heap.size w w' := by
  by_cases hl : 3000 < l.length
  · exact form_no l w m hm (.inl hl)
  by_cases h0 : outE l = 0
  · exact form_yes l w m hm (by omega) h0
  · exact form_no l w m hm (.inr h0)
end Go.Proofs.YtcekampdldkjlaaDoor
