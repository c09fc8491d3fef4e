/- SameFormula, SameStart, Same at what is equal. -/
import Derived.Test.YtcekampdldkjlaaGreatDoorNGrew
import Derived.Test.YtcekampdldkjlaaGreatDoorSParse
set_option linter.unusedVariables false
set_option linter.unusedSimpArgs false
namespace Go.Proofs.YtcekampdldkjlaaGreatDoor
open Go.RowKit
theorem kids_le : ∀ (ks : List Tree), ks.length ≤ sizes ks
  | [] => Nat.le_refl _
  | t :: r => by
    have h1 := kids_le r
    have h2 : 1 ≤ t.size := by cases t; simp [Tree.size]
    simp [sizes]
    omega
theorem mem_size : ∀ {ks : List Tree} {k : Nat} {x : Tree}, ks[k]? = some x → x.size ≤ sizes ks
  | [], k, x, h => by simp at h
  | t :: r, 0, x, h => by
    simp at h
    subst h
    simp [sizes]
  | t :: r, k + 1, x, h => by
    have := mem_size (ks := r) (k := k) (by simpa using h)
    simp [sizes]
    omega
set_option maxRecDepth 20000 in
set_option maxHeartbeats 2000000 in
theorem same_f : ∀ (N : Nat) (t : Tree) (cs1 cs2 : List Value) (w : World), t.size ≤ N → t.size ≤ 1000000 → RdTree true (fun _ => True) w cs1 t → RdTree true (fun _ => True) w cs2 t →
    Calls Tryz.prog 22 #[.agg cs1.toArray, .agg cs2.toArray] w fun e w' => e = .returned (.bool true) ∧ Below w.heap.size w w' := by
  intro N
  induction N with
  | zero =>
    intro t cs1 cs2 w hN
    cases t
    simp [Tree.size] at hN
  | succ N ih =>
    intro t cs1 cs2 w hN hs hr1 hr2
    have IH := Lib.hid ih
    obtain ⟨op, name, cm, m, ks⟩ := t
    have HR1 := Lib.hid hr1
    have HR2 := Lib.hid hr2
    obtain ⟨A1, p1, rfl, -, hk1⟩ := hr1
    obtain ⟨A2, p2, rfl, -, hk2⟩ := hr2
    have HK1 := Lib.hid hk1
    have HK2 := Lib.hid hk2
    simp only [Tree.size] at hN hs
    have hkl := kids_le ks
    simp only [tcs]
    clear ih hk1 hk2
    go_enter Tryz.func22, Tryz.ntmps22
    go_wp2_with fail
    go_loopw [5] (fun v wr => ∃ k : Nat, k ≤ ks.length ∧ v = .int .i64 k ∧ Below (((w.alloc (.cells #[.int .i64 op, vs name, .int .i64 cm, .int .i64 m, .slice A1 ks.length p1] 25)).alloc (.cells #[.int .i64 op, vs name, .int .i64 cm, .int .i64 m, .slice A2 ks.length p2] 25))).heap.size ((w.alloc (.cells #[.int .i64 op, vs name, .int .i64 cm, .int .i64 m, .slice A1 ks.length p1] 25)).alloc (.cells #[.int .i64 op, vs name, .int .i64 cm, .int .i64 m, .slice A2 ks.length p2] 25)) wr) (fun v _ => ks.length - (intOf v).toNat)
    case atStart => exact ⟨0, Nat.zero_le _, rfl, Below.refl _ _⟩
    case round =>
      obtain ⟨k, hk, rfl, hb⟩ := hrel
      have e1 : wr.heap[w.heap.size]? = some (.cells #[.int .i64 op, vs name, .int .i64 cm, .int .i64 m, .slice A1 ks.length p1] 25 (0, 0)) := (hb.block _ (by simp; omega)).trans (old_at (alloc_at rfl))
      have e2 : wr.heap[w.heap.size + 1]? = some (.cells #[.int .i64 op, vs name, .int .i64 cm, .int .i64 m, .slice A2 ks.length p2] 25 (0, 0)) := (hb.block _ (by simp)).trans (alloc_at (by simp))
      have c1 : wr.cell? ⟨w.heap.size, 4, none⟩ = some (.slice A1 ks.length p1) := cell_of_blk (o := 4) e1 rfl
      have c2 : wr.cell? ⟨w.heap.size + 1, 4, none⟩ = some (.slice A2 ks.length p2) := cell_of_blk (o := 4) e2 rfl
      have l2 := lt_of_heap' e2
      have l1 : w.heap.size < wr.heap.size := by omega
      have hbw : Below w.heap.size w wr := ((Below.refl _ _).alloc (Nat.le_refl _) _ |>.alloc (by simp) _).trans (hb.mono (by simp; omega))
      have HB := Lib.hid hb
      have HBW := Lib.hid hbw
      clear hb e1 e2 hbw
      by_cases hlt : k < ks.length
      · obtain ⟨x0, hx⟩ := get_of_lt hlt
        have hxs := mem_size hx
        have hne : ks ≠ [] := by rintro rfl; simp at hlt
        obtain ⟨b1, o1, rfl, -, hb1, hkd1⟩ := HK1.out.resolve_left hne
        obtain ⟨b2, o2, rfl, -, hb2, hkd2⟩ := HK2.out.resolve_left hne
        obtain ⟨xs1, hc1, ht1⟩ := hkd1.get hx
        obtain ⟨xs2, hc2, ht2⟩ := hkd2.get hx
        have HT1 := Lib.hid ht1
        have HT2 := Lib.hid ht2
        obtain ⟨o0, n0, d0, m0, ks0⟩ := x0
        obtain ⟨B1, q1, rfl, -, -⟩ := ht1
        obtain ⟨B2, q2, rfl, -, -⟩ := ht2
        have z10 : wr.cell? ⟨b1, o1 + k * 5, none⟩ = some (.int .i64 o0) := (HBW.out.cell (p := ⟨b1, o1 + k * 5, none⟩) hb1).trans (hc1 0 _ rfl)
        have z11 : wr.cell? ⟨b1, o1 + k * 5 + 1, none⟩ = some (vs n0) := (HBW.out.cell (p := ⟨b1, o1 + k * 5 + 1, none⟩) hb1).trans (hc1 1 _ rfl)
        have z12 : wr.cell? ⟨b1, o1 + k * 5 + 2, none⟩ = some (.int .i64 d0) := (HBW.out.cell (p := ⟨b1, o1 + k * 5 + 2, none⟩) hb1).trans (hc1 2 _ rfl)
        have z13 : wr.cell? ⟨b1, o1 + k * 5 + 3, none⟩ = some (.int .i64 m0) := (HBW.out.cell (p := ⟨b1, o1 + k * 5 + 3, none⟩) hb1).trans (hc1 3 _ rfl)
        have z14 : wr.cell? ⟨b1, o1 + k * 5 + 4, none⟩ = some (.slice B1 ks0.length q1) := (HBW.out.cell (p := ⟨b1, o1 + k * 5 + 4, none⟩) hb1).trans (hc1 4 _ rfl)
        have z20 : wr.cell? ⟨b2, o2 + k * 5, none⟩ = some (.int .i64 o0) := (HBW.out.cell (p := ⟨b2, o2 + k * 5, none⟩) hb2).trans (hc2 0 _ rfl)
        have z21 : wr.cell? ⟨b2, o2 + k * 5 + 1, none⟩ = some (vs n0) := (HBW.out.cell (p := ⟨b2, o2 + k * 5 + 1, none⟩) hb2).trans (hc2 1 _ rfl)
        have z22 : wr.cell? ⟨b2, o2 + k * 5 + 2, none⟩ = some (.int .i64 d0) := (HBW.out.cell (p := ⟨b2, o2 + k * 5 + 2, none⟩) hb2).trans (hc2 2 _ rfl)
        have z23 : wr.cell? ⟨b2, o2 + k * 5 + 3, none⟩ = some (.int .i64 m0) := (HBW.out.cell (p := ⟨b2, o2 + k * 5 + 3, none⟩) hb2).trans (hc2 3 _ rfl)
        have z24 : wr.cell? ⟨b2, o2 + k * 5 + 4, none⟩ = some (.slice B2 ks0.length q2) := (HBW.out.cell (p := ⟨b2, o2 + k * 5 + 4, none⟩) hb2).trans (hc2 4 _ rfl)
        have hb1' : b1 < wr.heap.size := by have := HBW.out.size; omega
        have hb2' : b2 < wr.heap.size := by have := HBW.out.size; omega
        have hk1 : (k : Int) < ks.length := by omega
        have hk0 : (0 : Int) ≤ k := by omega
        have HI : ∀ y, Hid (Calls Tryz.prog 22 #[.agg #[.int .i64 o0, vs n0, .int .i64 d0, .int .i64 m0, .slice B1 ks0.length q1], .agg #[.int .i64 o0, vs n0, .int .i64 d0, .int .i64 m0, .slice B2 ks0.length q2]] (World.grew wr y) fun e w' => e = .returned (.bool true) ∧ Below (World.grew wr y).heap.size (World.grew wr y) w') := fun y => Lib.hid (by
          have hb' : Below w.heap.size w (World.grew wr y) := HBW.out.trans ((grew_below wr y).mono (by have := HBW.out.size; omega))
          exact IH.out (.mk o0 n0 d0 m0 ks0) _ _ _ (by omega) (by omega) (HT1.out.keep hb'.size (fun b _ h => ⟨trivial, hb'.block b h⟩)) (HT2.out.keep hb'.size (fun b _ h => ⟨trivial, hb'.block b h⟩)))
        clear hc1 hc2 hkd1 hkd2 hx hxs hne
        go_wp2_with fail
        refine wp_region_grew (by kernel_rfl) (by as_aux_lemma => kernel_rfl) ?_
        repeat (go_big_quiet_step ((exact Calls_grew (HI _).out)))
        refine wpQuiet_nil ?_
        rintro _ ⟨y, rfl⟩
        go_wp2_with fail
        exact ⟨⟨k + 1, by omega, by go_num, HB.out.trans ((grew_below wr y).mono HB.out.size)⟩, by simp [intOf]; omega⟩
      · have hk' : k = ks.length := by omega
        subst hk'
        have hlt2 : ¬ ((ks.length : Nat) : Int) < ks.length := by omega
        go_wp2_with fail
        go_ret
        exact ⟨rfl, HBW.out⟩
set_option maxRecDepth 20000 in
set_option maxHeartbeats 2000000 in
theorem same_s : ∀ (N : Nat) (t : Tree) (cs1 cs2 : List Value) (w : World), t.size ≤ N → t.size ≤ 1000000 → RdTree false (fun _ => True) w cs1 t → RdTree false (fun _ => True) w cs2 t →
    Calls Tryz.prog 23 #[.agg cs1.toArray, .agg cs2.toArray] w fun e w' => e = .returned (.bool true) ∧ Below w.heap.size w w' := by
  intro N
  induction N with
  | zero =>
    intro t cs1 cs2 w hN
    cases t
    simp [Tree.size] at hN
  | succ N ih =>
    intro t cs1 cs2 w hN hs hr1 hr2
    have IH := Lib.hid ih
    obtain ⟨op, name, cm, m, ks⟩ := t
    have HR1 := Lib.hid hr1
    have HR2 := Lib.hid hr2
    obtain ⟨A1, p1, rfl, -, hk1⟩ := hr1
    obtain ⟨A2, p2, rfl, -, hk2⟩ := hr2
    have HK1 := Lib.hid hk1
    have HK2 := Lib.hid hk2
    simp only [Tree.size] at hN hs
    have hkl := kids_le ks
    simp only [tcs]
    clear ih hk1 hk2
    go_enter Tryz.func23, Tryz.ntmps23
    go_wp2_with fail
    go_loopw [5] (fun v wr => ∃ k : Nat, k ≤ ks.length ∧ v = .int .i64 k ∧ Below (((w.alloc (.cells #[.int .i64 op, vs name, .int .i64 m, .slice A1 ks.length p1] 29)).alloc (.cells #[.int .i64 op, vs name, .int .i64 m, .slice A2 ks.length p2] 29))).heap.size ((w.alloc (.cells #[.int .i64 op, vs name, .int .i64 m, .slice A1 ks.length p1] 29)).alloc (.cells #[.int .i64 op, vs name, .int .i64 m, .slice A2 ks.length p2] 29)) wr) (fun v _ => ks.length - (intOf v).toNat)
    case atStart => exact ⟨0, Nat.zero_le _, rfl, Below.refl _ _⟩
    case round =>
      obtain ⟨k, hk, rfl, hb⟩ := hrel
      have e1 : wr.heap[w.heap.size]? = some (.cells #[.int .i64 op, vs name, .int .i64 m, .slice A1 ks.length p1] 29 (0, 0)) := (hb.block _ (by simp; omega)).trans (old_at (alloc_at rfl))
      have e2 : wr.heap[w.heap.size + 1]? = some (.cells #[.int .i64 op, vs name, .int .i64 m, .slice A2 ks.length p2] 29 (0, 0)) := (hb.block _ (by simp)).trans (alloc_at (by simp))
      have c1 : wr.cell? ⟨w.heap.size, 3, none⟩ = some (.slice A1 ks.length p1) := cell_of_blk (o := 3) e1 rfl
      have c2 : wr.cell? ⟨w.heap.size + 1, 3, none⟩ = some (.slice A2 ks.length p2) := cell_of_blk (o := 3) e2 rfl
      have l2 := lt_of_heap' e2
      have l1 : w.heap.size < wr.heap.size := by omega
      have hbw : Below w.heap.size w wr := ((Below.refl _ _).alloc (Nat.le_refl _) _ |>.alloc (by simp) _).trans (hb.mono (by simp; omega))
      have HB := Lib.hid hb
      have HBW := Lib.hid hbw
      clear hb e1 e2 hbw
      by_cases hlt : k < ks.length
      · obtain ⟨x0, hx⟩ := get_of_lt hlt
        have hxs := mem_size hx
        have hne : ks ≠ [] := by rintro rfl; simp at hlt
        obtain ⟨b1, o1, rfl, -, hb1, hkd1⟩ := HK1.out.resolve_left hne
        obtain ⟨b2, o2, rfl, -, hb2, hkd2⟩ := HK2.out.resolve_left hne
        obtain ⟨xs1, hc1, ht1⟩ := hkd1.get hx
        obtain ⟨xs2, hc2, ht2⟩ := hkd2.get hx
        have HT1 := Lib.hid ht1
        have HT2 := Lib.hid ht2
        obtain ⟨o0, n0, d0, m0, ks0⟩ := x0
        obtain ⟨B1, q1, rfl, -, -⟩ := ht1
        obtain ⟨B2, q2, rfl, -, -⟩ := ht2
        have z10 : wr.cell? ⟨b1, o1 + k * 4, none⟩ = some (.int .i64 o0) := (HBW.out.cell (p := ⟨b1, o1 + k * 4, none⟩) hb1).trans (hc1 0 _ rfl)
        have z11 : wr.cell? ⟨b1, o1 + k * 4 + 1, none⟩ = some (vs n0) := (HBW.out.cell (p := ⟨b1, o1 + k * 4 + 1, none⟩) hb1).trans (hc1 1 _ rfl)
        have z12 : wr.cell? ⟨b1, o1 + k * 4 + 2, none⟩ = some (.int .i64 m0) := (HBW.out.cell (p := ⟨b1, o1 + k * 4 + 2, none⟩) hb1).trans (hc1 2 _ rfl)
        have z13 : wr.cell? ⟨b1, o1 + k * 4 + 3, none⟩ = some (.slice B1 ks0.length q1) := (HBW.out.cell (p := ⟨b1, o1 + k * 4 + 3, none⟩) hb1).trans (hc1 3 _ rfl)
        have z20 : wr.cell? ⟨b2, o2 + k * 4, none⟩ = some (.int .i64 o0) := (HBW.out.cell (p := ⟨b2, o2 + k * 4, none⟩) hb2).trans (hc2 0 _ rfl)
        have z21 : wr.cell? ⟨b2, o2 + k * 4 + 1, none⟩ = some (vs n0) := (HBW.out.cell (p := ⟨b2, o2 + k * 4 + 1, none⟩) hb2).trans (hc2 1 _ rfl)
        have z22 : wr.cell? ⟨b2, o2 + k * 4 + 2, none⟩ = some (.int .i64 m0) := (HBW.out.cell (p := ⟨b2, o2 + k * 4 + 2, none⟩) hb2).trans (hc2 2 _ rfl)
        have z23 : wr.cell? ⟨b2, o2 + k * 4 + 3, none⟩ = some (.slice B2 ks0.length q2) := (HBW.out.cell (p := ⟨b2, o2 + k * 4 + 3, none⟩) hb2).trans (hc2 3 _ rfl)
        have hb1' : b1 < wr.heap.size := by have := HBW.out.size; omega
        have hb2' : b2 < wr.heap.size := by have := HBW.out.size; omega
        have hk1 : (k : Int) < ks.length := by omega
        have hk0 : (0 : Int) ≤ k := by omega
        have HI : ∀ y, Hid (Calls Tryz.prog 23 #[.agg #[.int .i64 o0, vs n0, .int .i64 m0, .slice B1 ks0.length q1], .agg #[.int .i64 o0, vs n0, .int .i64 m0, .slice B2 ks0.length q2]] (World.grew wr y) fun e w' => e = .returned (.bool true) ∧ Below (World.grew wr y).heap.size (World.grew wr y) w') := fun y => Lib.hid (by
          have hb' : Below w.heap.size w (World.grew wr y) := HBW.out.trans ((grew_below wr y).mono (by have := HBW.out.size; omega))
          exact IH.out (.mk o0 n0 d0 m0 ks0) _ _ _ (by omega) (by omega) (HT1.out.keep hb'.size (fun b _ h => ⟨trivial, hb'.block b h⟩)) (HT2.out.keep hb'.size (fun b _ h => ⟨trivial, hb'.block b h⟩)))
        clear hc1 hc2 hkd1 hkd2 hx hxs hne
        go_wp2_with fail
        refine wp_region_grew (by kernel_rfl) (by as_aux_lemma => kernel_rfl) ?_
        repeat (go_big_quiet_step ((exact Calls_grew (HI _).out)))
        refine wpQuiet_nil ?_
        rintro _ ⟨y, rfl⟩
        go_wp2_with fail
        exact ⟨⟨k + 1, by omega, by go_num, HB.out.trans ((grew_below wr y).mono HB.out.size)⟩, by simp [intOf]; omega⟩
      · have hk' : k = ks.length := by omega
        subst hk'
        have hlt2 : ¬ ((ks.length : Nat) : Int) < ks.length := by omega
        go_wp2_with fail
        go_ret
        exact ⟨rfl, HBW.out⟩
set_option maxRecDepth 20000 in
set_option maxHeartbeats 4000000 in
theorem same_any (P : Prov) (cs1 cs2 : List Value) (w : World) (b1 b2 : Nat) (h1 : RdProv b1 w cs1 P) (h2 : RdProv b2 w cs2 P) (hsC : P.cond.size ≤ 1000000) (hsB : P.beg.size ≤ 1000000) (hsD : P.fin.size ≤ 1000000) (hsG : P.aga.size ≤ 1000000) (hse : P.exc.length ≤ 1000000) :
    Calls Tryz.prog 7 #[.agg cs1.toArray, .agg cs2.toArray] w fun e w' => e = .returned (.bool true) ∧ Below w.heap.size w w' := by
  obtain ⟨id, rank, kind, name, value, cond, exc, beg, fin, aga⟩ := P
  obtain ⟨cc1, A1, p1, cb1, cf1, ca1, rfl, -, hcc1, hex1, hcb1, hcf1, hca1⟩ := h1
  obtain ⟨cc2, A2, p2, cb2, cf2, ca2, rfl, -, hcc2, hex2, hcb2, hcf2, hca2⟩ := h2
  simp only at *
  have TC1 := Lib.hid (hcc1.keep (S' := fun _ => True) (Nat.le_refl _) (fun b _ _ => ⟨trivial, rfl⟩))
  have TC2 := Lib.hid (hcc2.keep (S' := fun _ => True) (Nat.le_refl _) (fun b _ _ => ⟨trivial, rfl⟩))
  have TB1 := Lib.hid (hcb1.keep (S' := fun _ => True) (Nat.le_refl _) (fun b _ _ => ⟨trivial, rfl⟩))
  have TB2 := Lib.hid (hcb2.keep (S' := fun _ => True) (Nat.le_refl _) (fun b _ _ => ⟨trivial, rfl⟩))
  have TD1 := Lib.hid (hcf1.keep (S' := fun _ => True) (Nat.le_refl _) (fun b _ _ => ⟨trivial, rfl⟩))
  have TD2 := Lib.hid (hcf2.keep (S' := fun _ => True) (Nat.le_refl _) (fun b _ _ => ⟨trivial, rfl⟩))
  have TG1 := Lib.hid (hca1.keep (S' := fun _ => True) (Nat.le_refl _) (fun b _ _ => ⟨trivial, rfl⟩))
  have TG2 := Lib.hid (hca2.keep (S' := fun _ => True) (Nat.le_refl _) (fun b _ _ => ⟨trivial, rfl⟩))
  obtain ⟨oC, nC, dC, mC, ksC⟩ := cond
  obtain ⟨KC1, qC1, rfl, -, -⟩ := hcc1
  obtain ⟨KC2, qC2, rfl, -, -⟩ := hcc2
  obtain ⟨oB, nB, dB, mB, ksB⟩ := beg
  obtain ⟨KB1, qB1, rfl, -, -⟩ := hcb1
  obtain ⟨KB2, qB2, rfl, -, -⟩ := hcb2
  obtain ⟨oD, nD, dD, mD, ksD⟩ := fin
  obtain ⟨KD1, qD1, rfl, -, -⟩ := hcf1
  obtain ⟨KD2, qD2, rfl, -, -⟩ := hcf2
  obtain ⟨oG, nG, dG, mG, ksG⟩ := aga
  obtain ⟨KG1, qG1, rfl, -, -⟩ := hca1
  obtain ⟨KG2, qG2, rfl, -, -⟩ := hca2
  have E1 := Lib.hid hex1.1
  have E2 := Lib.hid hex2.1
  simp only [tcs, List.cons_append, List.nil_append]
  clear hex1 hex2
  go_enter Tryz.func7, Tryz.ntmps7
  go_wp2_with fail
  go_loopw [5] (fun v wr => ∃ k : Nat, k ≤ exc.length ∧ v = .int .i64 k ∧ Below (((w.alloc (.cells #[vs id, .int .i64 rank, .int .i64 kind, vs name, .int .i64 value, .int .i64 oC, vs nC, .int .i64 dC, .int .i64 mC, .slice KC1 ksC.length qC1, .slice A1 exc.length p1, .int .i64 oB, vs nB, .int .i64 mB, .slice KB1 ksB.length qB1, .int .i64 oD, vs nD, .int .i64 mD, .slice KD1 ksD.length qD1, .int .i64 oG, vs nG, .int .i64 mG, .slice KG1 ksG.length qG1] 31)).alloc (.cells #[vs id, .int .i64 rank, .int .i64 kind, vs name, .int .i64 value, .int .i64 oC, vs nC, .int .i64 dC, .int .i64 mC, .slice KC2 ksC.length qC2, .slice A2 exc.length p2, .int .i64 oB, vs nB, .int .i64 mB, .slice KB2 ksB.length qB2, .int .i64 oD, vs nD, .int .i64 mD, .slice KD2 ksD.length qD2, .int .i64 oG, vs nG, .int .i64 mG, .slice KG2 ksG.length qG2] 31))).heap.size ((w.alloc (.cells #[vs id, .int .i64 rank, .int .i64 kind, vs name, .int .i64 value, .int .i64 oC, vs nC, .int .i64 dC, .int .i64 mC, .slice KC1 ksC.length qC1, .slice A1 exc.length p1, .int .i64 oB, vs nB, .int .i64 mB, .slice KB1 ksB.length qB1, .int .i64 oD, vs nD, .int .i64 mD, .slice KD1 ksD.length qD1, .int .i64 oG, vs nG, .int .i64 mG, .slice KG1 ksG.length qG1] 31)).alloc (.cells #[vs id, .int .i64 rank, .int .i64 kind, vs name, .int .i64 value, .int .i64 oC, vs nC, .int .i64 dC, .int .i64 mC, .slice KC2 ksC.length qC2, .slice A2 exc.length p2, .int .i64 oB, vs nB, .int .i64 mB, .slice KB2 ksB.length qB2, .int .i64 oD, vs nD, .int .i64 mD, .slice KD2 ksD.length qD2, .int .i64 oG, vs nG, .int .i64 mG, .slice KG2 ksG.length qG2] 31)) wr) (fun v _ => exc.length - (intOf v).toNat)
  case atStart => exact ⟨0, Nat.zero_le _, rfl, Below.refl _ _⟩
  case round =>
    obtain ⟨k, hk, rfl, hb⟩ := hrel
    have e1 : wr.heap[w.heap.size]? = some (.cells #[vs id, .int .i64 rank, .int .i64 kind, vs name, .int .i64 value, .int .i64 oC, vs nC, .int .i64 dC, .int .i64 mC, .slice KC1 ksC.length qC1, .slice A1 exc.length p1, .int .i64 oB, vs nB, .int .i64 mB, .slice KB1 ksB.length qB1, .int .i64 oD, vs nD, .int .i64 mD, .slice KD1 ksD.length qD1, .int .i64 oG, vs nG, .int .i64 mG, .slice KG1 ksG.length qG1] 31 (0, 0)) := (hb.block _ (by simp; omega)).trans (old_at (alloc_at rfl))
    have e2 : wr.heap[w.heap.size + 1]? = some (.cells #[vs id, .int .i64 rank, .int .i64 kind, vs name, .int .i64 value, .int .i64 oC, vs nC, .int .i64 dC, .int .i64 mC, .slice KC2 ksC.length qC2, .slice A2 exc.length p2, .int .i64 oB, vs nB, .int .i64 mB, .slice KB2 ksB.length qB2, .int .i64 oD, vs nD, .int .i64 mD, .slice KD2 ksD.length qD2, .int .i64 oG, vs nG, .int .i64 mG, .slice KG2 ksG.length qG2] 31 (0, 0)) := (hb.block _ (by simp)).trans (alloc_at (by simp))
    have hbw : Below w.heap.size w wr := ((Below.refl _ _).alloc (Nat.le_refl _) _ |>.alloc (by simp) _).trans (hb.mono (by simp; omega))
    have HB := Lib.hid hb
    have HWwr := Lib.hid hbw
    have HX1wr := Lib.hid e1
    have HX2wr := Lib.hid e2
    have u10 := cell_of_blk (o := 10) e1 rfl
    have v10 := cell_of_blk (o := 10) e2 rfl
    have l1 := lt_of_heap' e1
    have l2 := lt_of_heap' e2
    clear hb hbw
    by_cases hlt : k < exc.length
    · obtain ⟨x, hx⟩ := get_of_lt hlt
      obtain ⟨g1, r1, rfl, hg1, hc1⟩ := E1.out.item hx
      obtain ⟨g2, r2, rfl, hg2, hc2⟩ := E2.out.item hx
      have z1 : wr.cell? ⟨g1, r1 + k, none⟩ = some (vs x) := (HWwr.out.cell (p := ⟨g1, r1 + k, none⟩) hg1).trans hc1
      have z2 : wr.cell? ⟨g2, r2 + k, none⟩ = some (vs x) := (HWwr.out.cell (p := ⟨g2, r2 + k, none⟩) hg2).trans hc2
      have hk1 : (k : Int) < exc.length := by omega
      have hk0 : (0 : Int) ≤ k := by omega
      clear hc1 hc2 hx e1 e2
      go_wp2_with fail
      go_quiet (fail)
      go_wp2_with fail
      exact ⟨⟨k + 1, by omega, by go_num, ⟨HB.out.os, HB.out.tape, HB.out.output, HB.out.size, HB.out.block⟩⟩, by simp [intOf]; omega⟩
    · have hk' : k = exc.length := by omega
      subst hk'
      have hlt2 : ¬ ((exc.length : Nat) : Int) < exc.length := by omega
      have u5 := cell_of_blk (o := 5) e1 rfl
      have v5 := cell_of_blk (o := 5) e2 rfl
      have u6 := cell_of_blk (o := 6) e1 rfl
      have v6 := cell_of_blk (o := 6) e2 rfl
      have u7 := cell_of_blk (o := 7) e1 rfl
      have v7 := cell_of_blk (o := 7) e2 rfl
      have u8 := cell_of_blk (o := 8) e1 rfl
      have v8 := cell_of_blk (o := 8) e2 rfl
      have u9 := cell_of_blk (o := 9) e1 rfl
      have v9 := cell_of_blk (o := 9) e2 rfl
      clear e1 e2
      go_wp2_with fail
      refine (same_f _ (.mk oC nC dC mC ksC) _ _ _ (Nat.le_refl _) hsC (TC1.out.keep (HWwr.out.size) (fun b _ h => ⟨trivial, HWwr.out.block b h⟩)) (TC2.out.keep (HWwr.out.size) (fun b _ h => ⟨trivial, HWwr.out.block b h⟩))).mono ?_
      rintro e w3 ⟨rfl, hbw3⟩
      have HWw3 := Lib.hid (HWwr.out.trans (hbw3.mono HWwr.out.size))
      have hx1w3 := (hbw3.block _ (lt_of_heap' HX1wr.out)).trans HX1wr.out
      have hx2w3 := (hbw3.block _ (lt_of_heap' HX2wr.out)).trans HX2wr.out
      have u11 := cell_of_blk (o := 11) hx1w3 rfl
      have v11 := cell_of_blk (o := 11) hx2w3 rfl
      have u12 := cell_of_blk (o := 12) hx1w3 rfl
      have v12 := cell_of_blk (o := 12) hx2w3 rfl
      have u13 := cell_of_blk (o := 13) hx1w3 rfl
      have v13 := cell_of_blk (o := 13) hx2w3 rfl
      have u14 := cell_of_blk (o := 14) hx1w3 rfl
      have v14 := cell_of_blk (o := 14) hx2w3 rfl
      have l1w3 := lt_of_heap' hx1w3
      have l2w3 := lt_of_heap' hx2w3
      have HX1w3 := Lib.hid hx1w3
      have HX2w3 := Lib.hid hx2w3
      clear hbw3 hx1w3 hx2w3
      go_wp2_with fail
      refine (same_s _ (.mk oB nB dB mB ksB) _ _ _ (Nat.le_refl _) hsB (TB1.out.keep (HWw3.out.size) (fun b _ h => ⟨trivial, HWw3.out.block b h⟩)) (TB2.out.keep (HWw3.out.size) (fun b _ h => ⟨trivial, HWw3.out.block b h⟩))).mono ?_
      rintro e w4 ⟨rfl, hbw4⟩
      have HWw4 := Lib.hid (HWw3.out.trans (hbw4.mono HWw3.out.size))
      have hx1w4 := (hbw4.block _ (lt_of_heap' HX1w3.out)).trans HX1w3.out
      have hx2w4 := (hbw4.block _ (lt_of_heap' HX2w3.out)).trans HX2w3.out
      have u15 := cell_of_blk (o := 15) hx1w4 rfl
      have v15 := cell_of_blk (o := 15) hx2w4 rfl
      have u16 := cell_of_blk (o := 16) hx1w4 rfl
      have v16 := cell_of_blk (o := 16) hx2w4 rfl
      have u17 := cell_of_blk (o := 17) hx1w4 rfl
      have v17 := cell_of_blk (o := 17) hx2w4 rfl
      have u18 := cell_of_blk (o := 18) hx1w4 rfl
      have v18 := cell_of_blk (o := 18) hx2w4 rfl
      have l1w4 := lt_of_heap' hx1w4
      have l2w4 := lt_of_heap' hx2w4
      have HX1w4 := Lib.hid hx1w4
      have HX2w4 := Lib.hid hx2w4
      clear hbw4 hx1w4 hx2w4
      go_wp2_with fail
      refine (same_s _ (.mk oD nD dD mD ksD) _ _ _ (Nat.le_refl _) hsD (TD1.out.keep (HWw4.out.size) (fun b _ h => ⟨trivial, HWw4.out.block b h⟩)) (TD2.out.keep (HWw4.out.size) (fun b _ h => ⟨trivial, HWw4.out.block b h⟩))).mono ?_
      rintro e w5 ⟨rfl, hbw5⟩
      have HWw5 := Lib.hid (HWw4.out.trans (hbw5.mono HWw4.out.size))
      have hx1w5 := (hbw5.block _ (lt_of_heap' HX1w4.out)).trans HX1w4.out
      have hx2w5 := (hbw5.block _ (lt_of_heap' HX2w4.out)).trans HX2w4.out
      have u19 := cell_of_blk (o := 19) hx1w5 rfl
      have v19 := cell_of_blk (o := 19) hx2w5 rfl
      have u20 := cell_of_blk (o := 20) hx1w5 rfl
      have v20 := cell_of_blk (o := 20) hx2w5 rfl
      have u21 := cell_of_blk (o := 21) hx1w5 rfl
      have v21 := cell_of_blk (o := 21) hx2w5 rfl
      have u22 := cell_of_blk (o := 22) hx1w5 rfl
      have v22 := cell_of_blk (o := 22) hx2w5 rfl
      have l1w5 := lt_of_heap' hx1w5
      have l2w5 := lt_of_heap' hx2w5
      have HX1w5 := Lib.hid hx1w5
      have HX2w5 := Lib.hid hx2w5
      clear hbw5 hx1w5 hx2w5
      go_wp2_with fail
      refine (same_s _ (.mk oG nG dG mG ksG) _ _ _ (Nat.le_refl _) hsG (TG1.out.keep (HWw5.out.size) (fun b _ h => ⟨trivial, HWw5.out.block b h⟩)) (TG2.out.keep (HWw5.out.size) (fun b _ h => ⟨trivial, HWw5.out.block b h⟩))).mono ?_
      rintro e w6 ⟨rfl, hbw6⟩
      have HWw6 := Lib.hid (HWw5.out.trans (hbw6.mono HWw5.out.size))
      have hx1w6 := (hbw6.block _ (lt_of_heap' HX1w5.out)).trans HX1w5.out
      have hx2w6 := (hbw6.block _ (lt_of_heap' HX2w5.out)).trans HX2w5.out
      have l1w6 := lt_of_heap' hx1w6
      have l2w6 := lt_of_heap' hx2w6
      have HX1w6 := Lib.hid hx1w6
      have HX2w6 := Lib.hid hx2w6
      clear hbw6 hx1w6 hx2w6
      go_wp2_with fail
      go_ret
      exact ⟨rfl, HWw6.out⟩
end Go.Proofs.YtcekampdldkjlaaGreatDoor
