/- The law of results. -/
import Derived.Test.YtpagkakplmeokaaDoorNForm
import Derived.Test.YtpagkakplmeokaaDoorNJoinsW
import Derived.Test.YtpagkakplmeokaaDoorNGrew
set_option linter.unusedVariables false
set_option linter.unusedSimpArgs false
namespace Go.Proofs.YtpagkakplmeokaaDoor
open Go.RowKit
theorem out_at {l : List UInt8} (h : outE l ≠ 0) : outP l = zeroP ∧ (0 ≤ outA l ∧ outA l ≤ l.length ∨ outA l = -1 ∧ outE l = 2) := by
  unfold outE at h
  unfold outE outA outP
  cases hp : parseF l with
  | ok p => rw [hp] at h; exact absurd rfl h
  | error v => obtain ⟨e, a⟩ := v; exact ⟨rfl, parseF_err_at hp⟩
theorem out_a0 {l : List UInt8} (h : outE l = 0) : outA l = 0 := by
  unfold outA
  rw [out_zero h]
theorem bound_le {t : Tree} (h : boundC t = 0) : t.size ≤ 200 ∧ t.deep ≤ 20 := by
  unfold boundC at h
  split at h
  · cases h
  · omega
theorem size_f' (t : Tree) (sz dp : Nat) (cs : List Value) (w : World) (h1 : t.size = sz) (h2 : t.deep = dp) (hs : sz ≤ 1000000) (hrt : RdTree true (fun _ => True) w cs t) :
    Calls Tryd.prog 21 #[.agg cs.toArray] w fun e w' => e = .returned (.tuple #[.int .i64 (sz : Int), .int .i64 (dp : Int)]) ∧ Below w.heap.size w w' := by
  subst h1 h2
  exact size_f _ t cs w (Nat.le_refl _) hs hrt
theorem size_s' (t : Tree) (sz dp : Nat) (cs : List Value) (w : World) (h1 : t.size = sz) (h2 : t.deep = dp) (hs : sz ≤ 1000000) (hrt : RdTree false (fun _ => True) w cs t) :
    Calls Tryd.prog 22 #[.agg cs.toArray] w fun e w' => e = .returned (.tuple #[.int .i64 (sz : Int), .int .i64 (dp : Int)]) ∧ Below w.heap.size w w' := by
  subst h1 h2
  exact size_s _ t cs w (Nat.le_refl _) hs hrt
theorem three_rd {S : Nat → Prop} {Y : World} {b : Nat} {csa csb csc : List Value} {ta tb tc : Tree} {ty : TypeId} (h : Y.heap[b]? = some (.cells (csa ++ (csb ++ csc)).toArray ty (0, 0))) (ha : RdTree false S Y csa ta) (hb : RdTree false S Y csb tb) (hc : RdTree false S Y csc tc) : RdKids false S Y b 0 [ta, tb, tc] := by
  refine kids_of_row (css := [csa, csb, csc]) rfl (fun i c t h1 h2 => ?_) (fun j v hv => ?_)
  · cases i with
    | zero => simp at h1 h2; subst h1 h2; exact ha
    | succ i => cases i with
      | zero => simp at h1 h2; subst h1 h2; exact hb
      | succ i => cases i with
        | zero => simp at h1 h2; subst h1 h2; exact hc
        | succ i => simp at h1
  · rw [Nat.zero_add]; exact cell_of_blk h (by simpa using hv)
theorem three_get {a b c : Tree} {k : Nat} (HBO : BegT a ∧ boundC a = 0) (HDO : BegT b ∧ boundC b = 0) (HGO : BegT c ∧ boundC c = 0) (h : k < 3) : ∃ t, [a, b, c][k]? = some t ∧ BegT t ∧ boundC t = 0 := by
  obtain rfl | rfl | rfl : k = 0 ∨ k = 1 ∨ k = 2 := by omega
  · exact ⟨a, rfl, HBO⟩
  · exact ⟨b, rfl, HDO⟩
  · exact ⟨c, rfl, HGO⟩
theorem exc_at {l : List (List UInt8)} (h : ExcOk l) {k : Nat} {x : List UInt8} (hx : l[k]? = some x) : goodName x = true ∧ ixS (l.take k) x = none := by
  obtain ⟨h1, h2, h3⟩ := h
  refine ⟨h2 x (List.mem_of_getElem? hx), ?_⟩
  have := h3 k x hx
  cases hi : ixS (l.take k) x with
  | none => rfl
  | some i =>
    exfalso
    have hc := ix_contains (l.take k) x
    rw [hi] at hc
    exact this (by simpa using hc)
theorem RdS.take {w : World} {A : Option Addr} {l : List (List UInt8)} (h : RdS w A l) (k : Nat) : RdS w A (l.take k) := by
  intro hne
  obtain ⟨b, o, hA, hb, hc⟩ := h (by rintro rfl; simp at hne)
  refine ⟨b, o, hA, hb, fun j x hx => hc j x ?_⟩
  rw [List.getElem?_take] at hx
  split at hx
  · exact hx
  · cases hx
theorem in_take {w : World} {A : Option Addr} {l : List (List UInt8)} {k c : Nat} {s : List UInt8} (h : RdS w A l) (hk : k ≤ l.length) (hl : l.length ≤ 20) (hi : ixS (l.take k) s = none) : Calls Tryd.prog 20 #[.slice A k c, vs s] w fun e w' => e = .returned (.int .i64 (-1)) ∧ Below w.heap.size w w' := by
  have hlen : (l.take k).length = k := by simp; omega
  have := in_any (l.take k) A c s w (RdS.take h k) (by omega)
  rw [hlen, hi] at this
  exact this.mono fun e w' ⟨h1, h2⟩ => ⟨h1, h2 ▸ Below.refl _ _⟩
set_option maxRecDepth 100000 in
set_option maxHeartbeats 4000000 in
theorem results_no (l : List UInt8) (w : World) (m : Int) (hm : w.cell? ⟨2, 0, none⟩ = some (.int .i64 m)) (hno : 25000 < l.length ∨ outE l ≠ 0) :
    Calls Tryd.prog 7 #[vs l] w fun e w' => e = .returned (.bool true) ∧ Below w.heap.size w w' := by
  have HM := Lib.hid hm
  have HNO := Lib.hid hno
  clear hm hno
  go_enter Tryd.func7, Tryd.ntmps7
  go_wp2_with fail
  refine (head_any w m HM.out).mono ?_
  rintro e w1 ⟨rfl, hb1⟩
  have HB1 := Lib.hid hb1
  clear hb1
  by_cases hl : 25000 < l.length
  · have hl' : (25000 : Int) < l.length := by omega
    go_wp2_with fail
    go_ret
    exact ⟨rfl, HB1.out⟩
  have h0 : outE l ≠ 0 := HNO.out.resolve_left hl
  have hl' : ¬ (25000 : Int) < l.length := by omega
  obtain ⟨hz, hcase⟩ := out_at h0
  have HZ := Lib.hid hz
  have HCASE := Lib.hid hcase
  clear hz hcase
  go_wp2_with fail
  refine (parse_out l _ m (maxc_below HM.out HB1.out)).mono ?_
  rintro e w2 ⟨hb2, c1, rfl, hr1⟩
  obtain ⟨st1, ld1⟩ := prov_io hr1
  rw [HZ.out] at hr1
  have hal : Below w2.heap.size w2 (w2.alloc (.cells c1.toArray 35 (0, 0))) := (Below.refl _ _).alloc (Nat.le_refl _) _
  have HB3 : Hid (Below w.heap.size w (w2.alloc (.cells c1.toArray 35 (0, 0)))) := Lib.hid (HB1.out.trans ((hb2.trans (hal.mono hb2.size)).mono HB1.out.size))
  have HR := Lib.hid (hr1.below (n := 0) hal)
  have k1 : (w2.alloc (.cells c1.toArray 35 (0, 0))).blk w2.heap.size = some (.cells c1.toArray 35 (0, 0)) := heap_alloc_new w2 _
  have h0' : ¬ (outE l : Int) = 0 := by omega
  clear hb2 hr1 hal
  go_wp2_with fail
  refine (same_any zeroP _ zeroL _ _ _ HR.out (zero_rd 0 _) (by decide) (by decide) (by decide) (by decide) (by decide)).mono ?_
  rintro e w4 ⟨rfl, hb4⟩
  have HB4 := Lib.hid (HB3.out.trans (hb4.mono HB3.out.size))
  clear hb4 k1 st1 ld1
  rcases HCASE.out with ⟨a1, a2⟩ | ⟨a1, a2⟩
  · go_wp2_with fail
    go_ret
    exact ⟨rfl, HB4.out⟩
  · rw [a1, a2]
    go_wp2_with fail
    go_ret
    exact ⟨rfl, HB4.out⟩
set_option maxRecDepth 100000 in
set_option maxHeartbeats 8000000 in
theorem results_yes (l : List UInt8) (w : World) (m : Int) (hm : w.cell? ⟨2, 0, none⟩ = some (.int .i64 m)) (hl : l.length ≤ 25000) (h0 : outE l = 0) :
    Calls Tryd.prog 7 #[vs l] w fun e w' => e = .returned (.bool true) ∧ Below w.heap.size w w' := by
  have HM := Lib.hid hm
  have HG := Lib.hid (parseF_good (out_zero h0))
  have HE := Lib.hid h0
  have HA := Lib.hid (out_a0 h0)
  clear hm h0
  go_enter Tryd.func7, Tryd.ntmps7
  go_wp2_with fail
  refine (head_any w m HM.out).mono ?_
  rintro e w1 ⟨rfl, hb1⟩
  have HB1 := Lib.hid hb1
  clear hb1
  have hl' : ¬ (25000 : Int) < l.length := by omega
  go_wp2_with fail
  refine (parse_out l _ m (maxc_below HM.out HB1.out)).mono ?_
  rintro e w2 ⟨hb2, c1, rfl, hr1⟩
  obtain ⟨st1, -⟩ := prov_io hr1
  rw [HE.out, HA.out]
  go_upto_region 5 with fail
  have hal : Below w2.heap.size w2 (w2.alloc (.cells c1.toArray 35 (0, 0))) := (Below.refl _ _).alloc (Nat.le_refl _) _
  have HB3 : Hid (Below w.heap.size w (w2.alloc (.cells c1.toArray 35 (0, 0)))) := Lib.hid (HB1.out.trans ((hb2.trans (hal.mono hb2.size)).mono HB1.out.size))
  have HR := Lib.hid (hr1.below (n := 0) hal)
  have HX3 := Lib.hid (heap_alloc_new w2 (.cells c1.toArray 35 (0, 0)))
  generalize hW : w2.alloc (.cells c1.toArray 35 (0, 0)) = w3 at *
  clear hb2 hr1 hal st1 hW
  generalize outP l = P at HR HG
  obtain ⟨id, rank, kind, name, value, cond, exc, beg, fin, aga⟩ := P
  obtain ⟨cc, A, p, cb, cf, ca, rfl, hep, hcc, hex, hcb, hcf, hca⟩ := HR.out
  obtain ⟨g1, g2, g3, g4, g5, g6, g7, g8, g9, g10⟩ := HG.out
  simp only at *
  have HTC := Lib.hid (hcc.keep (S' := fun _ => True) (Nat.le_refl _) (fun b _ _ => ⟨trivial, rfl⟩))
  have HTB := Lib.hid (hcb.keep (S' := fun _ => True) (Nat.le_refl _) (fun b _ _ => ⟨trivial, rfl⟩))
  have HTD := Lib.hid (hcf.keep (S' := fun _ => True) (Nat.le_refl _) (fun b _ _ => ⟨trivial, rfl⟩))
  have HTG := Lib.hid (hca.keep (S' := fun _ => True) (Nat.le_refl _) (fun b _ _ => ⟨trivial, rfl⟩))
  obtain ⟨oC, nC, dC, mC, ksC⟩ := cond
  obtain ⟨KC, qC, rfl, -, -⟩ := hcc
  obtain ⟨oB, nB, dB, mB, ksB⟩ := beg
  obtain ⟨KB, qB, rfl, -, -⟩ := hcb
  obtain ⟨oD, nD, dD, mD, ksD⟩ := fin
  obtain ⟨KD, qD, rfl, -, -⟩ := hcf
  obtain ⟨oG, nG, dG, mG, ksG⟩ := aga
  obtain ⟨KG, qG, rfl, -, -⟩ := hca
  have EX := Lib.hid hex.1
  simp only [tcs, List.cons_append, List.nil_append] at HX3
  have hx : w3.heap[w2.heap.size]? = some (.cells #[vs id, .int .i64 rank, .int .i64 kind, vs name, .int .i64 value, .int .i64 oC, vs nC, .int .i64 dC, .int .i64 mC, .slice KC ksC.length qC, .slice A exc.length p, .int .i64 oB, vs nB, .int .i64 mB, .slice KB ksB.length qB, .int .i64 oD, vs nD, .int .i64 mD, .slice KD ksD.length qD, .int .i64 oG, vs nG, .int .i64 mG, .slice KG ksG.length qG] 35 (0, 0)) := HX3.out
  have HX3 : Hid (w3.heap[w2.heap.size]? = some (.cells #[vs id, .int .i64 rank, .int .i64 kind, vs name, .int .i64 value, .int .i64 oC, vs nC, .int .i64 dC, .int .i64 mC, .slice KC ksC.length qC, .slice A exc.length p, .int .i64 oB, vs nB, .int .i64 mB, .slice KB ksB.length qB, .int .i64 oD, vs nD, .int .i64 mD, .slice KD ksD.length qD, .int .i64 oG, vs nG, .int .i64 mG, .slice KG ksG.length qG] 35 (0, 0))) := Lib.hid hx
  have HBW3 : Hid (Below w3.heap.size w3 w3) := Lib.hid (Below.refl _ _)
  have HCO := Lib.hid g7
  obtain ⟨sC, hsC⟩ : ∃ n, (Tree.mk oC nC dC mC ksC).size = n := ⟨_, rfl⟩
  obtain ⟨eC, heC⟩ : ∃ n, (Tree.mk oC nC dC mC ksC).deep = n := ⟨_, rfl⟩
  have hbC := bound_le g7.2
  rw [hsC, heC] at hbC
  obtain ⟨hbC1, hbC2⟩ := hbC
  have HSC := Lib.hid hsC
  have HEC := Lib.hid heC
  clear hsC heC
  have HBO := Lib.hid g8
  have HDO := Lib.hid g9
  have HGO := Lib.hid g10
  have HEO := Lib.hid g6
  have hel := g6.1
  have HKD := Lib.hid g2
  have HID := Lib.hid g3
  have HNM := Lib.hid g4
  have HEP := Lib.hid hep
  have i1 : ¬ (rank : Int) < 1 := by omega
  have i2 : ¬ (4 : Int) < rank := by omega
  have i3 : ¬ (value : Int) < 0 := by omega
  have i4 : ¬ (1000000 : Int) < value := by omega
  have i5 : ¬ (20 : Int) < exc.length := by omega
  clear hex g1 g2 g3 g4 g5 g6 g7 g8 g9 g10 hep HR HG
  have u0 := cell_of_blk (o := 0) hx rfl
  have u1 := cell_of_blk (o := 1) hx rfl
  have u2 := cell_of_blk (o := 2) hx rfl
  have u3 := cell_of_blk (o := 3) hx rfl
  have u4 := cell_of_blk (o := 4) hx rfl
  have u10 := cell_of_blk (o := 10) hx rfl
  have hlx := lt_of_heap' hx
  clear hx
  rcases HKD.out with ⟨hk, hv⟩ | hk
  · subst hk
    subst hv
    go_wp2_with fail
    refine (nameR_yes id _ HID.out).mono ?_
    rintro e w4 ⟨rfl, hb4⟩
    clear u0 u1 u2 u3 u4 u10 hlx
    have HX4 : Hid (w4.heap[w2.heap.size]? = some (.cells #[vs id, .int .i64 rank, .int .i64 (1 : Nat), vs name, .int .i64 (0 : Nat), .int .i64 oC, vs nC, .int .i64 dC, .int .i64 mC, .slice KC ksC.length qC, .slice A exc.length p, .int .i64 oB, vs nB, .int .i64 mB, .slice KB ksB.length qB, .int .i64 oD, vs nD, .int .i64 mD, .slice KD ksD.length qD, .int .i64 oG, vs nG, .int .i64 mG, .slice KG ksG.length qG] 35 (0, 0))) := Lib.hid ((hb4.block _ (lt_of_heap' HX3.out)).trans HX3.out)
    have HBW4 : Hid (Below w3.heap.size w3 w4) := Lib.hid (HBW3.out.trans (hb4.mono HBW3.out.size))
    clear hb4
    have hx := HX4.out
    have u0 := cell_of_blk (o := 0) hx rfl
    have u1 := cell_of_blk (o := 1) hx rfl
    have u2 := cell_of_blk (o := 2) hx rfl
    have u3 := cell_of_blk (o := 3) hx rfl
    have u4 := cell_of_blk (o := 4) hx rfl
    have u10 := cell_of_blk (o := 10) hx rfl
    have hlx := lt_of_heap' hx
    clear hx
    go_wp2_with fail
    refine (nameR_yes name _ HNM.out).mono ?_
    rintro e w5 ⟨rfl, hb5⟩
    clear u0 u1 u2 u3 u4 u10 hlx
    have HX5 : Hid (w5.heap[w2.heap.size]? = some (.cells #[vs id, .int .i64 rank, .int .i64 (1 : Nat), vs name, .int .i64 (0 : Nat), .int .i64 oC, vs nC, .int .i64 dC, .int .i64 mC, .slice KC ksC.length qC, .slice A exc.length p, .int .i64 oB, vs nB, .int .i64 mB, .slice KB ksB.length qB, .int .i64 oD, vs nD, .int .i64 mD, .slice KD ksD.length qD, .int .i64 oG, vs nG, .int .i64 mG, .slice KG ksG.length qG] 35 (0, 0))) := Lib.hid ((hb5.block _ (lt_of_heap' HX4.out)).trans HX4.out)
    have HBW5 : Hid (Below w3.heap.size w3 w5) := Lib.hid (HBW4.out.trans (hb5.mono HBW4.out.size))
    clear hb5
    have hx := HX5.out
    have u0 := cell_of_blk (o := 0) hx rfl
    have u1 := cell_of_blk (o := 1) hx rfl
    have u2 := cell_of_blk (o := 2) hx rfl
    have u3 := cell_of_blk (o := 3) hx rfl
    have u4 := cell_of_blk (o := 4) hx rfl
    have u10 := cell_of_blk (o := 10) hx rfl
    have hlx := lt_of_heap' hx
    clear hx
    go_wp2_with fail
    clear u0 u1 u2 u3 u4 u10 hlx i1 i2 i3 i4 i5
    go_loopw [7] (fun v7 wr => ∃ k : Nat, k ≤ exc.length ∧ v7 = .int .i64 k ∧ Below w5.heap.size w5 wr) (fun v7 _ => exc.length - (intOf v7).toNat)
    case atStart => exact ⟨0, Nat.zero_le _, rfl, Below.refl _ _⟩
    case round =>
      obtain ⟨k, hkl, rfl, hb⟩ := hrel
      have HBR := Lib.hid hb
      have HXR : Hid (wr.heap[w2.heap.size]? = some (.cells #[vs id, .int .i64 rank, .int .i64 (1 : Nat), vs name, .int .i64 (0 : Nat), .int .i64 oC, vs nC, .int .i64 dC, .int .i64 mC, .slice KC ksC.length qC, .slice A exc.length p, .int .i64 oB, vs nB, .int .i64 mB, .slice KB ksB.length qB, .int .i64 oD, vs nD, .int .i64 mD, .slice KD ksD.length qD, .int .i64 oG, vs nG, .int .i64 mG, .slice KG ksG.length qG] 35 (0, 0))) := Lib.hid ((hb.block _ (lt_of_heap' HX5.out)).trans HX5.out)
      have HBWR : Hid (Below w3.heap.size w3 wr) := Lib.hid (HBW5.out.trans (hb.mono HBW5.out.size))
      have hx := HXR.out
      have u10 := cell_of_blk (o := 10) hx rfl
      have hlx := lt_of_heap' hx
      clear hb hx
      by_cases hlt : k < exc.length
      · obtain ⟨x, hx⟩ := get_of_lt hlt
        obtain ⟨hgx, hix⟩ := exc_at HEO.out hx
        obtain ⟨b, o, rfl, hbs, c0⟩ := EX.out.item hx
        have cx : wr.cell? ⟨b, o + k, none⟩ = some (vs x) := (HBWR.out.cell (p := ⟨b, o + k, none⟩) hbs).trans c0
        have hbl : b < wr.heap.size := Nat.lt_of_lt_of_le hbs HBWR.out.size
        have HN : ∀ y, Hid (Calls Tryd.prog 19 #[vs x] (World.grew wr y) fun e w' => e = .returned (.bool true) ∧ Below (World.grew wr y).heap.size (World.grew wr y) w') := fun y => Lib.hid (nameR_yes x _ hgx)
        have HI : ∀ y, Hid (Calls Tryd.prog 20 #[.slice (some ⟨b, o, none⟩) k p, vs x] (World.grew wr y) fun e w' => e = .returned (.int .i64 (-1)) ∧ Below (World.grew wr y).heap.size (World.grew wr y) w') := fun y => Lib.hid (in_take (EX.out.below (HBWR.out.trans ((grew_below wr y).mono HBWR.out.size))) hkl hel hix)
        have hk1 : (k : Int) < exc.length := by omega
        have hk0 : (0 : Int) ≤ k := by omega
        have hk2 : (k : Int) ≤ p := by have := HEP.out; omega
        clear hx hgx hix c0
        go_wp2_with fail
        refine wp_region_grew (by kernel_rfl) (by as_aux_lemma => kernel_rfl) ?_
        repeat (go_big_quiet_step ((first | exact Calls_grew (HN _).out | exact Calls_grew (HI _).out)))
        refine wpQuiet_nil ?_
        rintro _ ⟨y, rfl⟩
        go_wp2_with fail
        exact ⟨⟨k + 1, by omega, by go_num, HBR.out.trans ((grew_below wr y).mono HBR.out.size)⟩, by simp [intOf]; omega⟩
      · obtain rfl : k = exc.length := by omega
        have hk1 : ¬ ((exc.length : Nat) : Int) < exc.length := by omega
        have hx := HXR.out
        have u5 := cell_of_blk (o := 5) hx rfl
        have u6 := cell_of_blk (o := 6) hx rfl
        have u7 := cell_of_blk (o := 7) hx rfl
        have u8 := cell_of_blk (o := 8) hx rfl
        have u9 := cell_of_blk (o := 9) hx rfl
        clear hx
        go_wp2_with fail
        refine (size_f' (.mk oC nC dC mC ksC) sC eC (tcs true oC nC dC mC (.slice KC ksC.length qC)) wr HSC.out HEC.out (by omega) (HTC.out.keep HBWR.out.size (fun b _ hlt => ⟨trivial, HBWR.out.block b hlt⟩))).mono ?_
        rintro e w7 ⟨rfl, hb7⟩
        have HX7 : Hid (w7.heap[w2.heap.size]? = some (.cells #[vs id, .int .i64 rank, .int .i64 (1 : Nat), vs name, .int .i64 (0 : Nat), .int .i64 oC, vs nC, .int .i64 dC, .int .i64 mC, .slice KC ksC.length qC, .slice A exc.length p, .int .i64 oB, vs nB, .int .i64 mB, .slice KB ksB.length qB, .int .i64 oD, vs nD, .int .i64 mD, .slice KD ksD.length qD, .int .i64 oG, vs nG, .int .i64 mG, .slice KG ksG.length qG] 35 (0, 0))) := Lib.hid ((hb7.block _ (lt_of_heap' HXR.out)).trans HXR.out)
        have HBW7 : Hid (Below w3.heap.size w3 w7) := Lib.hid (HBWR.out.trans (hb7.mono HBWR.out.size))
        have hx := HX7.out
        clear hb7 u5 u6 u7 u8 u9 hlx
        have u11 := cell_of_blk (o := 11) hx rfl
        have u12 := cell_of_blk (o := 12) hx rfl
        have u13 := cell_of_blk (o := 13) hx rfl
        have u14 := cell_of_blk (o := 14) hx rfl
        have u15 := cell_of_blk (o := 15) hx rfl
        have u16 := cell_of_blk (o := 16) hx rfl
        have u17 := cell_of_blk (o := 17) hx rfl
        have u18 := cell_of_blk (o := 18) hx rfl
        have u19 := cell_of_blk (o := 19) hx rfl
        have u20 := cell_of_blk (o := 20) hx rfl
        have u21 := cell_of_blk (o := 21) hx rfl
        have u22 := cell_of_blk (o := 22) hx rfl
        have hlx := lt_of_heap' hx
        clear hx
        go_upto_region 16 with fail
        have hal : Below w7.heap.size w7 (w7.alloc (.cells #[.int .i64 oB, vs nB, .int .i64 mB, .slice KB ksB.length qB, .int .i64 oD, vs nD, .int .i64 mD, .slice KD ksD.length qD, .int .i64 oG, vs nG, .int .i64 mG, .slice KG ksG.length qG] 33 (0, 0))) := (Below.refl _ _).alloc (Nat.le_refl _) _
        have HK8 := Lib.hid (heap_alloc_new w7 (.cells #[.int .i64 oB, vs nB, .int .i64 mB, .slice KB ksB.length qB, .int .i64 oD, vs nD, .int .i64 mD, .slice KD ksD.length qD, .int .i64 oG, vs nG, .int .i64 mG, .slice KG ksG.length qG] 33 (0, 0)))
        have HBW8 : Hid (Below w3.heap.size w3 (w7.alloc (.cells #[.int .i64 oB, vs nB, .int .i64 mB, .slice KB ksB.length qB, .int .i64 oD, vs nD, .int .i64 mD, .slice KD ksD.length qD, .int .i64 oG, vs nG, .int .i64 mG, .slice KG ksG.length qG] 33 (0, 0)))) := Lib.hid (HBW7.out.trans (hal.mono HBW7.out.size))
        have HX8 := Lib.hid ((hal.block _ (lt_of_heap' HX7.out)).trans HX7.out)
        have hz8 : w7.heap.size < (w7.alloc (.cells #[.int .i64 oB, vs nB, .int .i64 mB, .slice KB ksB.length qB, .int .i64 oD, vs nD, .int .i64 mD, .slice KD ksD.length qD, .int .i64 oG, vs nG, .int .i64 mG, .slice KG ksG.length qG] 33 (0, 0))).heap.size := by simp
        generalize hW : World.alloc w7 _ = w8
        rw [hW] at HK8 HBW8 HX8 hz8
        clear hW hal u11 u12 u13 u14 u15 u16 u17 u18 u19 u20 u21 u22 hlx
        have HKD8 : Hid (RdKids false (fun _ => True) w8 w7.heap.size 0 [.mk oB nB dB mB ksB, .mk oD nD dD mD ksD, .mk oG nG dG mG ksG]) := Lib.hid (three_rd HK8.out (HTB.out.keep HBW8.out.size (fun b _ hlt => ⟨trivial, HBW8.out.block b hlt⟩)) (HTD.out.keep HBW8.out.size (fun b _ hlt => ⟨trivial, HBW8.out.block b hlt⟩)) (HTG.out.keep HBW8.out.size (fun b _ hlt => ⟨trivial, HBW8.out.block b hlt⟩)))
        go_wp2_with fail
        go_loopw [11] (fun v11 wr => ∃ k : Nat, k ≤ 3 ∧ v11 = .int .i64 k ∧ Below w8.heap.size w8 wr) (fun v11 _ => 3 - (intOf v11).toNat)
        case atStart => exact ⟨0, by omega, rfl, Below.refl _ _⟩
        case round =>
          obtain ⟨k, hkl, rfl, hb⟩ := hrel
          have HBS := Lib.hid hb
          have HXS : Hid (wr.heap[w2.heap.size]? = some (.cells #[vs id, .int .i64 rank, .int .i64 (1 : Nat), vs name, .int .i64 (0 : Nat), .int .i64 oC, vs nC, .int .i64 dC, .int .i64 mC, .slice KC ksC.length qC, .slice A exc.length p, .int .i64 oB, vs nB, .int .i64 mB, .slice KB ksB.length qB, .int .i64 oD, vs nD, .int .i64 mD, .slice KD ksD.length qD, .int .i64 oG, vs nG, .int .i64 mG, .slice KG ksG.length qG] 35 (0, 0))) := Lib.hid ((hb.block _ (lt_of_heap' HX8.out)).trans HX8.out)
          have HBWS : Hid (Below w3.heap.size w3 wr) := Lib.hid (HBW8.out.trans (hb.mono HBW8.out.size))
          clear hb
          by_cases hlt : k < 3
          · obtain ⟨t, ht, htb, htc⟩ := three_get (HBO := HBO.out) (HDO := HDO.out) (HGO := HGO.out) hlt
            obtain ⟨cs, hcs, hrt⟩ := HKD8.out.get ht
            have hrt := hrt.keep (S' := fun _ => True) HBS.out.size (fun b _ hlt => ⟨trivial, HBS.out.block b hlt⟩)
            have HRTK := Lib.hid hrt
            have HTB2 := Lib.hid htb
            obtain ⟨st, hst⟩ : ∃ n, t.size = n := ⟨_, rfl⟩
            obtain ⟨et, het⟩ : ∃ n, t.deep = n := ⟨_, rfl⟩
            have hbt := bound_le htc
            rw [hst, het] at hbt
            obtain ⟨hbt1, hbt2⟩ := hbt
            have HST := Lib.hid hst
            have HET := Lib.hid het
            obtain ⟨o', n', d', m', ks'⟩ := t
            obtain ⟨A', cap', rfl, -, -⟩ := hrt
            have hbl : w7.heap.size < wr.heap.size := Nat.lt_of_lt_of_le hz8 HBS.out.size
            have e0 : wr.cell? ⟨w7.heap.size, k * 4, none⟩ = some (.int .i64 o') := (HBS.out.cell (p := ⟨w7.heap.size, k * 4, none⟩) hz8).trans (by have := hcs 0 _ rfl; rwa [Nat.zero_add] at this)
            have e1 : wr.cell? ⟨w7.heap.size, k * 4 + 1, none⟩ = some (vs n') := (HBS.out.cell (p := ⟨w7.heap.size, k * 4 + 1, none⟩) hz8).trans (by have := hcs 1 _ rfl; rwa [Nat.zero_add] at this)
            have e2 : wr.cell? ⟨w7.heap.size, k * 4 + 2, none⟩ = some (.int .i64 m') := (HBS.out.cell (p := ⟨w7.heap.size, k * 4 + 2, none⟩) hz8).trans (by have := hcs 2 _ rfl; rwa [Nat.zero_add] at this)
            have e3 : wr.cell? ⟨w7.heap.size, k * 4 + 3, none⟩ = some (.slice A' ks'.length cap') := (HBS.out.cell (p := ⟨w7.heap.size, k * 4 + 3, none⟩) hz8).trans (by have := hcs 3 _ rfl; rwa [Nat.zero_add] at this)
            have hk1 : (k : Int) < 3 := by omega
            clear ht htb htc hst het hcs
            go_wp2_with fail
            refine (size_s' (.mk o' n' d' m' ks') st et (tcs false o' n' d' m' (.slice A' ks'.length cap')) wr HST.out HET.out (by omega) HRTK.out).mono ?_
            rintro e w9 ⟨rfl, hb9⟩
            have HB9 := Lib.hid hb9
            have f0 := (hb9.cell (p := ⟨w7.heap.size, k * 4, none⟩) hbl).trans e0
            have f1 := (hb9.cell (p := ⟨w7.heap.size, k * 4 + 1, none⟩) hbl).trans e1
            have f2 := (hb9.cell (p := ⟨w7.heap.size, k * 4 + 2, none⟩) hbl).trans e2
            have f3 := (hb9.cell (p := ⟨w7.heap.size, k * 4 + 3, none⟩) hbl).trans e3
            have hbl9 : w7.heap.size < w9.heap.size := Nat.lt_of_lt_of_le hbl hb9.size
            have z1 : ¬ (200 : Int) < st := by omega
            have z2 : ¬ (20 : Int) < et := by omega
            clear hb9 e0 e1 e2 e3
            go_wp2_with fail
            refine (form_s _ (.mk o' n' d' m' ks') (tcs false o' n' d' m' (.slice A' ks'.length cap')) w9 (Nat.le_refl _) (by rw [HST.out]; omega) HTB2.out (HRTK.out.keep HB9.out.size (fun b _ hlt => ⟨trivial, HB9.out.block b hlt⟩))).mono ?_
            rintro e wA ⟨rfl, hbA⟩
            have HBA := Lib.hid (HBS.out.trans ((HB9.out.trans (hbA.mono HB9.out.size)).mono HBS.out.size))
            clear hbA f0 f1 f2 f3 z1 z2
            go_wp2_with fail
            exact ⟨⟨k + 1, by omega, by go_num, HBA.out⟩, by simp [intOf]; omega⟩
          · obtain rfl : k = 3 := by omega
            have hx := HXS.out
            have u5 := cell_of_blk (o := 5) hx rfl
            have u6 := cell_of_blk (o := 6) hx rfl
            have u7 := cell_of_blk (o := 7) hx rfl
            have u8 := cell_of_blk (o := 8) hx rfl
            have u9 := cell_of_blk (o := 9) hx rfl
            have hlx := lt_of_heap' hx
            have z1 : (sC : Int) ≤ 200 := by omega
            have z2 : (eC : Int) ≤ 20 := by omega
            clear hx
            go_wp2_with fail
            refine (form_f _ (.mk oC nC dC mC ksC) (tcs true oC nC dC mC (.slice KC ksC.length qC)) wr (Nat.le_refl _) (by rw [HSC.out]; omega) HCO.out.1 (HTC.out.keep HBWS.out.size (fun b _ hlt => ⟨trivial, HBWS.out.block b hlt⟩))).mono ?_
            rintro e wA ⟨rfl, hbA⟩
            have HBA := Lib.hid (HB3.out.trans ((HBWS.out.trans (hbA.mono HBWS.out.size)).mono HB3.out.size))
            clear hbA
            go_wp2_with fail
            go_ret
            exact ⟨rfl, HBA.out⟩
  · subst hk
    go_wp2_with fail
    refine (nameR_yes id _ HID.out).mono ?_
    rintro e w4 ⟨rfl, hb4⟩
    clear u0 u1 u2 u3 u4 u10 hlx
    have HX4 : Hid (w4.heap[w2.heap.size]? = some (.cells #[vs id, .int .i64 rank, .int .i64 (2 : Nat), vs name, .int .i64 value, .int .i64 oC, vs nC, .int .i64 dC, .int .i64 mC, .slice KC ksC.length qC, .slice A exc.length p, .int .i64 oB, vs nB, .int .i64 mB, .slice KB ksB.length qB, .int .i64 oD, vs nD, .int .i64 mD, .slice KD ksD.length qD, .int .i64 oG, vs nG, .int .i64 mG, .slice KG ksG.length qG] 35 (0, 0))) := Lib.hid ((hb4.block _ (lt_of_heap' HX3.out)).trans HX3.out)
    have HBW4 : Hid (Below w3.heap.size w3 w4) := Lib.hid (HBW3.out.trans (hb4.mono HBW3.out.size))
    clear hb4
    have hx := HX4.out
    have u0 := cell_of_blk (o := 0) hx rfl
    have u1 := cell_of_blk (o := 1) hx rfl
    have u2 := cell_of_blk (o := 2) hx rfl
    have u3 := cell_of_blk (o := 3) hx rfl
    have u4 := cell_of_blk (o := 4) hx rfl
    have u10 := cell_of_blk (o := 10) hx rfl
    have hlx := lt_of_heap' hx
    clear hx
    go_wp2_with fail
    refine (nameR_yes name _ HNM.out).mono ?_
    rintro e w5 ⟨rfl, hb5⟩
    clear u0 u1 u2 u3 u4 u10 hlx
    have HX5 : Hid (w5.heap[w2.heap.size]? = some (.cells #[vs id, .int .i64 rank, .int .i64 (2 : Nat), vs name, .int .i64 value, .int .i64 oC, vs nC, .int .i64 dC, .int .i64 mC, .slice KC ksC.length qC, .slice A exc.length p, .int .i64 oB, vs nB, .int .i64 mB, .slice KB ksB.length qB, .int .i64 oD, vs nD, .int .i64 mD, .slice KD ksD.length qD, .int .i64 oG, vs nG, .int .i64 mG, .slice KG ksG.length qG] 35 (0, 0))) := Lib.hid ((hb5.block _ (lt_of_heap' HX4.out)).trans HX4.out)
    have HBW5 : Hid (Below w3.heap.size w3 w5) := Lib.hid (HBW4.out.trans (hb5.mono HBW4.out.size))
    clear hb5
    have hx := HX5.out
    have u0 := cell_of_blk (o := 0) hx rfl
    have u1 := cell_of_blk (o := 1) hx rfl
    have u2 := cell_of_blk (o := 2) hx rfl
    have u3 := cell_of_blk (o := 3) hx rfl
    have u4 := cell_of_blk (o := 4) hx rfl
    have u10 := cell_of_blk (o := 10) hx rfl
    have hlx := lt_of_heap' hx
    clear hx
    go_wp2_with fail
    clear u0 u1 u2 u3 u4 u10 hlx i1 i2 i3 i4 i5
    go_loopw [7] (fun v7 wr => ∃ k : Nat, k ≤ exc.length ∧ v7 = .int .i64 k ∧ Below w5.heap.size w5 wr) (fun v7 _ => exc.length - (intOf v7).toNat)
    case atStart => exact ⟨0, Nat.zero_le _, rfl, Below.refl _ _⟩
    case round =>
      obtain ⟨k, hkl, rfl, hb⟩ := hrel
      have HBR := Lib.hid hb
      have HXR : Hid (wr.heap[w2.heap.size]? = some (.cells #[vs id, .int .i64 rank, .int .i64 (2 : Nat), vs name, .int .i64 value, .int .i64 oC, vs nC, .int .i64 dC, .int .i64 mC, .slice KC ksC.length qC, .slice A exc.length p, .int .i64 oB, vs nB, .int .i64 mB, .slice KB ksB.length qB, .int .i64 oD, vs nD, .int .i64 mD, .slice KD ksD.length qD, .int .i64 oG, vs nG, .int .i64 mG, .slice KG ksG.length qG] 35 (0, 0))) := Lib.hid ((hb.block _ (lt_of_heap' HX5.out)).trans HX5.out)
      have HBWR : Hid (Below w3.heap.size w3 wr) := Lib.hid (HBW5.out.trans (hb.mono HBW5.out.size))
      have hx := HXR.out
      have u10 := cell_of_blk (o := 10) hx rfl
      have hlx := lt_of_heap' hx
      clear hb hx
      by_cases hlt : k < exc.length
      · obtain ⟨x, hx⟩ := get_of_lt hlt
        obtain ⟨hgx, hix⟩ := exc_at HEO.out hx
        obtain ⟨b, o, rfl, hbs, c0⟩ := EX.out.item hx
        have cx : wr.cell? ⟨b, o + k, none⟩ = some (vs x) := (HBWR.out.cell (p := ⟨b, o + k, none⟩) hbs).trans c0
        have hbl : b < wr.heap.size := Nat.lt_of_lt_of_le hbs HBWR.out.size
        have HN : ∀ y, Hid (Calls Tryd.prog 19 #[vs x] (World.grew wr y) fun e w' => e = .returned (.bool true) ∧ Below (World.grew wr y).heap.size (World.grew wr y) w') := fun y => Lib.hid (nameR_yes x _ hgx)
        have HI : ∀ y, Hid (Calls Tryd.prog 20 #[.slice (some ⟨b, o, none⟩) k p, vs x] (World.grew wr y) fun e w' => e = .returned (.int .i64 (-1)) ∧ Below (World.grew wr y).heap.size (World.grew wr y) w') := fun y => Lib.hid (in_take (EX.out.below (HBWR.out.trans ((grew_below wr y).mono HBWR.out.size))) hkl hel hix)
        have hk1 : (k : Int) < exc.length := by omega
        have hk0 : (0 : Int) ≤ k := by omega
        have hk2 : (k : Int) ≤ p := by have := HEP.out; omega
        clear hx hgx hix c0
        go_wp2_with fail
        refine wp_region_grew (by kernel_rfl) (by as_aux_lemma => kernel_rfl) ?_
        repeat (go_big_quiet_step ((first | exact Calls_grew (HN _).out | exact Calls_grew (HI _).out)))
        refine wpQuiet_nil ?_
        rintro _ ⟨y, rfl⟩
        go_wp2_with fail
        exact ⟨⟨k + 1, by omega, by go_num, HBR.out.trans ((grew_below wr y).mono HBR.out.size)⟩, by simp [intOf]; omega⟩
      · obtain rfl : k = exc.length := by omega
        have hk1 : ¬ ((exc.length : Nat) : Int) < exc.length := by omega
        have hx := HXR.out
        have u5 := cell_of_blk (o := 5) hx rfl
        have u6 := cell_of_blk (o := 6) hx rfl
        have u7 := cell_of_blk (o := 7) hx rfl
        have u8 := cell_of_blk (o := 8) hx rfl
        have u9 := cell_of_blk (o := 9) hx rfl
        clear hx
        go_wp2_with fail
        refine (size_f' (.mk oC nC dC mC ksC) sC eC (tcs true oC nC dC mC (.slice KC ksC.length qC)) wr HSC.out HEC.out (by omega) (HTC.out.keep HBWR.out.size (fun b _ hlt => ⟨trivial, HBWR.out.block b hlt⟩))).mono ?_
        rintro e w7 ⟨rfl, hb7⟩
        have HX7 : Hid (w7.heap[w2.heap.size]? = some (.cells #[vs id, .int .i64 rank, .int .i64 (2 : Nat), vs name, .int .i64 value, .int .i64 oC, vs nC, .int .i64 dC, .int .i64 mC, .slice KC ksC.length qC, .slice A exc.length p, .int .i64 oB, vs nB, .int .i64 mB, .slice KB ksB.length qB, .int .i64 oD, vs nD, .int .i64 mD, .slice KD ksD.length qD, .int .i64 oG, vs nG, .int .i64 mG, .slice KG ksG.length qG] 35 (0, 0))) := Lib.hid ((hb7.block _ (lt_of_heap' HXR.out)).trans HXR.out)
        have HBW7 : Hid (Below w3.heap.size w3 w7) := Lib.hid (HBWR.out.trans (hb7.mono HBWR.out.size))
        have hx := HX7.out
        clear hb7 u5 u6 u7 u8 u9 hlx
        have u11 := cell_of_blk (o := 11) hx rfl
        have u12 := cell_of_blk (o := 12) hx rfl
        have u13 := cell_of_blk (o := 13) hx rfl
        have u14 := cell_of_blk (o := 14) hx rfl
        have u15 := cell_of_blk (o := 15) hx rfl
        have u16 := cell_of_blk (o := 16) hx rfl
        have u17 := cell_of_blk (o := 17) hx rfl
        have u18 := cell_of_blk (o := 18) hx rfl
        have u19 := cell_of_blk (o := 19) hx rfl
        have u20 := cell_of_blk (o := 20) hx rfl
        have u21 := cell_of_blk (o := 21) hx rfl
        have u22 := cell_of_blk (o := 22) hx rfl
        have hlx := lt_of_heap' hx
        clear hx
        go_upto_region 16 with fail
        have hal : Below w7.heap.size w7 (w7.alloc (.cells #[.int .i64 oB, vs nB, .int .i64 mB, .slice KB ksB.length qB, .int .i64 oD, vs nD, .int .i64 mD, .slice KD ksD.length qD, .int .i64 oG, vs nG, .int .i64 mG, .slice KG ksG.length qG] 33 (0, 0))) := (Below.refl _ _).alloc (Nat.le_refl _) _
        have HK8 := Lib.hid (heap_alloc_new w7 (.cells #[.int .i64 oB, vs nB, .int .i64 mB, .slice KB ksB.length qB, .int .i64 oD, vs nD, .int .i64 mD, .slice KD ksD.length qD, .int .i64 oG, vs nG, .int .i64 mG, .slice KG ksG.length qG] 33 (0, 0)))
        have HBW8 : Hid (Below w3.heap.size w3 (w7.alloc (.cells #[.int .i64 oB, vs nB, .int .i64 mB, .slice KB ksB.length qB, .int .i64 oD, vs nD, .int .i64 mD, .slice KD ksD.length qD, .int .i64 oG, vs nG, .int .i64 mG, .slice KG ksG.length qG] 33 (0, 0)))) := Lib.hid (HBW7.out.trans (hal.mono HBW7.out.size))
        have HX8 := Lib.hid ((hal.block _ (lt_of_heap' HX7.out)).trans HX7.out)
        have hz8 : w7.heap.size < (w7.alloc (.cells #[.int .i64 oB, vs nB, .int .i64 mB, .slice KB ksB.length qB, .int .i64 oD, vs nD, .int .i64 mD, .slice KD ksD.length qD, .int .i64 oG, vs nG, .int .i64 mG, .slice KG ksG.length qG] 33 (0, 0))).heap.size := by simp
        generalize hW : World.alloc w7 _ = w8
        rw [hW] at HK8 HBW8 HX8 hz8
        clear hW hal u11 u12 u13 u14 u15 u16 u17 u18 u19 u20 u21 u22 hlx
        have HKD8 : Hid (RdKids false (fun _ => True) w8 w7.heap.size 0 [.mk oB nB dB mB ksB, .mk oD nD dD mD ksD, .mk oG nG dG mG ksG]) := Lib.hid (three_rd HK8.out (HTB.out.keep HBW8.out.size (fun b _ hlt => ⟨trivial, HBW8.out.block b hlt⟩)) (HTD.out.keep HBW8.out.size (fun b _ hlt => ⟨trivial, HBW8.out.block b hlt⟩)) (HTG.out.keep HBW8.out.size (fun b _ hlt => ⟨trivial, HBW8.out.block b hlt⟩)))
        go_wp2_with fail
        go_loopw [11] (fun v11 wr => ∃ k : Nat, k ≤ 3 ∧ v11 = .int .i64 k ∧ Below w8.heap.size w8 wr) (fun v11 _ => 3 - (intOf v11).toNat)
        case atStart => exact ⟨0, by omega, rfl, Below.refl _ _⟩
        case round =>
          obtain ⟨k, hkl, rfl, hb⟩ := hrel
          have HBS := Lib.hid hb
          have HXS : Hid (wr.heap[w2.heap.size]? = some (.cells #[vs id, .int .i64 rank, .int .i64 (2 : Nat), vs name, .int .i64 value, .int .i64 oC, vs nC, .int .i64 dC, .int .i64 mC, .slice KC ksC.length qC, .slice A exc.length p, .int .i64 oB, vs nB, .int .i64 mB, .slice KB ksB.length qB, .int .i64 oD, vs nD, .int .i64 mD, .slice KD ksD.length qD, .int .i64 oG, vs nG, .int .i64 mG, .slice KG ksG.length qG] 35 (0, 0))) := Lib.hid ((hb.block _ (lt_of_heap' HX8.out)).trans HX8.out)
          have HBWS : Hid (Below w3.heap.size w3 wr) := Lib.hid (HBW8.out.trans (hb.mono HBW8.out.size))
          clear hb
          by_cases hlt : k < 3
          · obtain ⟨t, ht, htb, htc⟩ := three_get (HBO := HBO.out) (HDO := HDO.out) (HGO := HGO.out) hlt
            obtain ⟨cs, hcs, hrt⟩ := HKD8.out.get ht
            have hrt := hrt.keep (S' := fun _ => True) HBS.out.size (fun b _ hlt => ⟨trivial, HBS.out.block b hlt⟩)
            have HRTK := Lib.hid hrt
            have HTB2 := Lib.hid htb
            obtain ⟨st, hst⟩ : ∃ n, t.size = n := ⟨_, rfl⟩
            obtain ⟨et, het⟩ : ∃ n, t.deep = n := ⟨_, rfl⟩
            have hbt := bound_le htc
            rw [hst, het] at hbt
            obtain ⟨hbt1, hbt2⟩ := hbt
            have HST := Lib.hid hst
            have HET := Lib.hid het
            obtain ⟨o', n', d', m', ks'⟩ := t
            obtain ⟨A', cap', rfl, -, -⟩ := hrt
            have hbl : w7.heap.size < wr.heap.size := Nat.lt_of_lt_of_le hz8 HBS.out.size
            have e0 : wr.cell? ⟨w7.heap.size, k * 4, none⟩ = some (.int .i64 o') := (HBS.out.cell (p := ⟨w7.heap.size, k * 4, none⟩) hz8).trans (by have := hcs 0 _ rfl; rwa [Nat.zero_add] at this)
            have e1 : wr.cell? ⟨w7.heap.size, k * 4 + 1, none⟩ = some (vs n') := (HBS.out.cell (p := ⟨w7.heap.size, k * 4 + 1, none⟩) hz8).trans (by have := hcs 1 _ rfl; rwa [Nat.zero_add] at this)
            have e2 : wr.cell? ⟨w7.heap.size, k * 4 + 2, none⟩ = some (.int .i64 m') := (HBS.out.cell (p := ⟨w7.heap.size, k * 4 + 2, none⟩) hz8).trans (by have := hcs 2 _ rfl; rwa [Nat.zero_add] at this)
            have e3 : wr.cell? ⟨w7.heap.size, k * 4 + 3, none⟩ = some (.slice A' ks'.length cap') := (HBS.out.cell (p := ⟨w7.heap.size, k * 4 + 3, none⟩) hz8).trans (by have := hcs 3 _ rfl; rwa [Nat.zero_add] at this)
            have hk1 : (k : Int) < 3 := by omega
            clear ht htb htc hst het hcs
            go_wp2_with fail
            refine (size_s' (.mk o' n' d' m' ks') st et (tcs false o' n' d' m' (.slice A' ks'.length cap')) wr HST.out HET.out (by omega) HRTK.out).mono ?_
            rintro e w9 ⟨rfl, hb9⟩
            have HB9 := Lib.hid hb9
            have f0 := (hb9.cell (p := ⟨w7.heap.size, k * 4, none⟩) hbl).trans e0
            have f1 := (hb9.cell (p := ⟨w7.heap.size, k * 4 + 1, none⟩) hbl).trans e1
            have f2 := (hb9.cell (p := ⟨w7.heap.size, k * 4 + 2, none⟩) hbl).trans e2
            have f3 := (hb9.cell (p := ⟨w7.heap.size, k * 4 + 3, none⟩) hbl).trans e3
            have hbl9 : w7.heap.size < w9.heap.size := Nat.lt_of_lt_of_le hbl hb9.size
            have z1 : ¬ (200 : Int) < st := by omega
            have z2 : ¬ (20 : Int) < et := by omega
            clear hb9 e0 e1 e2 e3
            go_wp2_with fail
            refine (form_s _ (.mk o' n' d' m' ks') (tcs false o' n' d' m' (.slice A' ks'.length cap')) w9 (Nat.le_refl _) (by rw [HST.out]; omega) HTB2.out (HRTK.out.keep HB9.out.size (fun b _ hlt => ⟨trivial, HB9.out.block b hlt⟩))).mono ?_
            rintro e wA ⟨rfl, hbA⟩
            have HBA := Lib.hid (HBS.out.trans ((HB9.out.trans (hbA.mono HB9.out.size)).mono HBS.out.size))
            clear hbA f0 f1 f2 f3 z1 z2
            go_wp2_with fail
            exact ⟨⟨k + 1, by omega, by go_num, HBA.out⟩, by simp [intOf]; omega⟩
          · obtain rfl : k = 3 := by omega
            have hx := HXS.out
            have u5 := cell_of_blk (o := 5) hx rfl
            have u6 := cell_of_blk (o := 6) hx rfl
            have u7 := cell_of_blk (o := 7) hx rfl
            have u8 := cell_of_blk (o := 8) hx rfl
            have u9 := cell_of_blk (o := 9) hx rfl
            have hlx := lt_of_heap' hx
            have z1 : (sC : Int) ≤ 200 := by omega
            have z2 : (eC : Int) ≤ 20 := by omega
            clear hx
            go_wp2_with fail
            refine (form_f _ (.mk oC nC dC mC ksC) (tcs true oC nC dC mC (.slice KC ksC.length qC)) wr (Nat.le_refl _) (by rw [HSC.out]; omega) HCO.out.1 (HTC.out.keep HBWS.out.size (fun b _ hlt => ⟨trivial, HBWS.out.block b hlt⟩))).mono ?_
            rintro e wA ⟨rfl, hbA⟩
            have HBA := Lib.hid (HB3.out.trans ((HBWS.out.trans (hbA.mono HBWS.out.size)).mono HB3.out.size))
            clear hbA
            go_wp2_with fail
            go_ret
            exact ⟨rfl, HBA.out⟩
theorem results_any (l : List UInt8) (w : World) (m : Int) (hm : w.cell? ⟨2, 0, none⟩ = some (.int .i64 m)) :
    Calls Tryd.prog 7 #[vs l] w fun e w' => e = .returned (.bool true) ∧ Below w.heap.size w w' := by
  by_cases hl : 25000 < l.length
  · exact results_no l w m hm (.inl hl)
  by_cases h0 : outE l = 0
  · exact results_yes l w m hm (by omega) h0
  · exact results_no l w m hm (.inr h0)
end Go.Proofs.YtpagkakplmeokaaDoor
