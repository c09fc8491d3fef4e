/- formed and begun at what the parser answers. -/
import Derived.Test.YtpagkakplmeokaaDoorNNmR
import Derived.Test.YtpagkakplmeokaaDoorNSzR
set_option linter.unusedVariables false
set_option linter.unusedSimpArgs false
namespace Go.Proofs.YtpagkakplmeokaaDoor
open Go.RowKit
theorem mem_f : ∀ {ks : List Tree} {k : Nat} {x : Tree}, FormL ks → ks[k]? = some x → FormT x
  | [], k, x, _, h => by simp at h
  | t :: r, 0, x, h, hx => by simp at hx; subst hx; exact h.1
  | t :: r, k + 1, x, h, hx => mem_f h.2 (by simpa using hx)
theorem mem_s : ∀ {ks : List Tree} {k : Nat} {x : Tree}, BegL ks → ks[k]? = some x → BegT x
  | [], k, x, _, h => by simp at h
  | t :: r, 0, x, h, hx => by simp at hx; subst hx; exact h.1
  | t :: r, k + 1, x, h, hx => mem_s h.2 (by simpa using hx)
set_option maxRecDepth 20000 in
set_option maxHeartbeats 2000000 in
theorem form_f : ∀ (N : Nat) (t : Tree) (cs : List Value) (w : World), t.size ≤ N → t.size ≤ 1000000 → FormT t → RdTree true (fun _ => True) w cs t →
    Calls Tryd.prog 24 #[.agg cs.toArray] w fun e w' => e = .returned (.bool true) ∧ Below w.heap.size w w' := by
  intro N
  induction N with
  | zero =>
    intro t cs w hN
    cases t
    simp [Tree.size] at hN
  | succ N ih =>
    intro t cs w hN hs hf hrt
    have IH := Lib.hid ih
    obtain ⟨op, name, cm, m, ks⟩ := t
    obtain ⟨A, cap, rfl, hcap, hkids⟩ := hrt
    have HKIDS := Lib.hid hkids
    simp only [Tree.size] at hN hs
    have hln := len_le_sizes ks
    obtain ⟨hm, hfl, hf⟩ := hf
    have HM : Hid (m ≤ 1000000) := Lib.hid hm
    have HFL := Lib.hid hfl
    have HF := Lib.hid hf
    simp only [tcs]
    have j1 : ¬ (m : Int) < 0 := by omega
    have j2 : ¬ (1000000 : Int) < m := by omega
    clear ih hkids hcap hm hfl hf
    go_enter Tryd.func24, Tryd.ntmps24
    go_wp2_with fail
    have HE0 : Hid ((w.alloc (.cells #[.int .i64 op, vs name, .int .i64 cm, .int .i64 m, .slice A ks.length cap] 29 (0, 0))).heap[w.heap.size]? = some (.cells #[.int .i64 op, vs name, .int .i64 cm, .int .i64 m, .slice A ks.length cap] 29 (0, 0))) := Lib.hid (alloc_at rfl)
    have HB0 : Hid (Below w.heap.size w (w.alloc (.cells #[.int .i64 op, vs name, .int .i64 cm, .int .i64 m, .slice A ks.length cap] 29 (0, 0)))) := Lib.hid ((Below.refl _ _).alloc (Nat.le_refl _) _)
    generalize (w.alloc (.cells #[.int .i64 op, vs name, .int .i64 cm, .int .i64 m, .slice A ks.length cap] 29 (0, 0))) = w0 at *
    go_loopw [3] (fun v3 wr => ∃ k : Nat, k ≤ ks.length ∧ v3 = .int .i64 k ∧ Below w0.heap.size w0 wr) (fun v3 _ => ks.length - (intOf v3).toNat)
    case atStart => exact ⟨0, Nat.zero_le _, rfl, Below.refl _ _⟩
    case round =>
      obtain ⟨k, hkl, rfl, hb⟩ := hrel
      have e1 : wr.heap[w.heap.size]? = some (.cells #[.int .i64 op, vs name, .int .i64 cm, .int .i64 m, .slice A ks.length cap] 29 (0, 0)) := (hb.block _ (lt_of_heap' HE0.out)).trans HE0.out
      have c0 := cell_of_blk (o := 0) e1 rfl
      have c1 := cell_of_blk (o := 1) e1 rfl
      have c2 := cell_of_blk (o := 2) e1 rfl
      have c3 := cell_of_blk (o := 3) e1 rfl
      have c4 := cell_of_blk (o := 4) e1 rfl
      have l1 := lt_of_heap' e1
      have HE1 := Lib.hid e1
      have HB := Lib.hid hb
      have HBW := Lib.hid (HB0.out.trans (hb.mono HB0.out.size))
      clear hb e1
      by_cases hlt : k < ks.length
      · obtain ⟨t, ht⟩ := get_of_lt hlt
        have hst2 := size_of_mem ht
        have HT := Lib.hid ht
        obtain h0 | ⟨b, off, rfl, -, hbs, hkd⟩ := HKIDS.out
        · rw [h0] at hlt; simp at hlt
        obtain ⟨cs, hcs, hrt⟩ := hkd.get ht
        have HRTK := Lib.hid hrt
        obtain ⟨op', nm', cm', m', ks'⟩ := t
        obtain ⟨A', cap', rfl, -, -⟩ := hrt
        have hbw : b < wr.heap.size := Nat.lt_of_lt_of_le hbs HBW.out.size
        have e0 : wr.cell? ⟨b, off + k * 5, none⟩ = some (.int .i64 op') := (HBW.out.cell (p := ⟨b, off + k * 5, none⟩) hbs).trans (hcs 0 _ rfl)
        have e1 : wr.cell? ⟨b, off + k * 5 + 1, none⟩ = some (vs nm') := (HBW.out.cell (p := ⟨b, off + k * 5 + 1, none⟩) hbs).trans (hcs 1 _ rfl)
        have e2 : wr.cell? ⟨b, off + k * 5 + 2, none⟩ = some (.int .i64 cm') := (HBW.out.cell (p := ⟨b, off + k * 5 + 2, none⟩) hbs).trans (hcs 2 _ rfl)
        have e3 : wr.cell? ⟨b, off + k * 5 + 3, none⟩ = some (.int .i64 m') := (HBW.out.cell (p := ⟨b, off + k * 5 + 3, none⟩) hbs).trans (hcs 3 _ rfl)
        have e4 : wr.cell? ⟨b, off + k * 5 + 4, none⟩ = some (.slice A' ks'.length cap') := (HBW.out.cell (p := ⟨b, off + k * 5 + 4, none⟩) hbs).trans (hcs 4 _ rfl)
        have hk1 : (k : Int) < ks.length := by omega
        clear ht hkd hcs
        go_wp2_with fail
        refine (IH.out (.mk op' nm' cm' m' ks') (tcs true op' nm' cm' m' (.slice A' ks'.length cap')) _ (by omega) (by omega) (mem_f HFL.out HT.out) (HRTK.out.keep HBW.out.size (fun b _ hlt => ⟨trivial, HBW.out.block _ hlt⟩))).mono ?_
        rintro e w3 ⟨rfl, hb3⟩
        have HB3 := Lib.hid hb3
        clear hb3 hst2 c0 c1 c2 c3 c4
        go_wp2_with fail
        exact ⟨⟨k + 1, hlt, by go_num, HB.out.trans (HB3.out.mono HB.out.size)⟩, by simp [intOf]; omega⟩
      · have : k = ks.length := by omega
        subst this
        have hk1 : ¬ ((ks.length : Nat) : Int) < ks.length := by omega
        rcases HF.out with ⟨rfl | rfl, rfl, rfl, rfl, rfl⟩ | ⟨rfl, hg, h1, h2, rfl⟩ | ⟨rfl, hg, rfl, rfl, rfl⟩ | ⟨rfl, rfl, rfl, rfl, h1⟩ | ⟨rfl | rfl, rfl, rfl, rfl, h1⟩
        · go_wp2_with fail
          go_ret
          exact ⟨rfl, HBW.out⟩
        · go_wp2_with fail
          go_ret
          exact ⟨rfl, HBW.out⟩
        · have HGN := Lib.hid hg
          have i1 : (1 : Int) ≤ cm := by omega
          have i2 : (cm : Int) ≤ 6 := by omega
          clear hg
          go_wp2_with fail
          refine (nameR_yes name _ HGN.out).mono ?_
          rintro e w5 ⟨rfl, hb5⟩
          have hq1 := (hb5.block _ (lt_of_heap' HE1.out)).trans HE1.out
          have d0 := cell_of_blk (o := 0) hq1 rfl
          have d1 := cell_of_blk (o := 1) hq1 rfl
          have d2 := cell_of_blk (o := 2) hq1 rfl
          have d3 := cell_of_blk (o := 3) hq1 rfl
          have d4 := cell_of_blk (o := 4) hq1 rfl
          have dl := lt_of_heap' hq1
          have HB5 := Lib.hid (HBW.out.trans (hb5.mono HBW.out.size))
          clear hb5 hq1
          go_wp2_with fail
          go_ret
          exact ⟨rfl, HB5.out⟩
        · have HGN := Lib.hid hg
          clear hg
          go_wp2_with fail
          refine (nameR_yes name _ HGN.out).mono ?_
          rintro e w5 ⟨rfl, hb5⟩
          have hq1 := (hb5.block _ (lt_of_heap' HE1.out)).trans HE1.out
          have d0 := cell_of_blk (o := 0) hq1 rfl
          have d1 := cell_of_blk (o := 1) hq1 rfl
          have d2 := cell_of_blk (o := 2) hq1 rfl
          have d3 := cell_of_blk (o := 3) hq1 rfl
          have d4 := cell_of_blk (o := 4) hq1 rfl
          have dl := lt_of_heap' hq1
          have HB5 := Lib.hid (HBW.out.trans (hb5.mono HBW.out.size))
          clear hb5 hq1
          go_wp2_with fail
          go_ret
          exact ⟨rfl, HB5.out⟩
        · have i1 : ((ks.length : Int) == 1) = true := by simp; omega
          go_wp2_with fail
          go_ret
          exact ⟨rfl, HBW.out⟩
        · have i1 : (2 : Int) ≤ ks.length := by omega
          go_wp2_with fail
          go_ret
          exact ⟨rfl, HBW.out⟩
        · have i1 : (2 : Int) ≤ ks.length := by omega
          go_wp2_with fail
          go_ret
          exact ⟨rfl, HBW.out⟩
set_option maxRecDepth 20000 in
set_option maxHeartbeats 2000000 in
theorem form_s : ∀ (N : Nat) (t : Tree) (cs : List Value) (w : World), t.size ≤ N → t.size ≤ 1000000 → BegT t → RdTree false (fun _ => True) w cs t →
    Calls Tryd.prog 23 #[.agg cs.toArray] w fun e w' => e = .returned (.bool true) ∧ Below w.heap.size w w' := by
  intro N
  induction N with
  | zero =>
    intro t cs w hN
    cases t
    simp [Tree.size] at hN
  | succ N ih =>
    intro t cs w hN hs hf hrt
    have IH := Lib.hid ih
    obtain ⟨op, name, cm, m, ks⟩ := t
    obtain ⟨A, cap, rfl, hcap, hkids⟩ := hrt
    have HKIDS := Lib.hid hkids
    simp only [Tree.size] at hN hs
    have hln := len_le_sizes ks
    obtain ⟨hm, hfl, hf⟩ := hf
    have HM : Hid (m ≤ 1000000) := Lib.hid hm
    have HFL := Lib.hid hfl
    have HF := Lib.hid hf
    simp only [tcs]
    have j1 : ¬ (m : Int) < 0 := by omega
    have j2 : ¬ (1000000 : Int) < m := by omega
    clear ih hkids hcap hm hfl hf
    go_enter Tryd.func23, Tryd.ntmps23
    go_wp2_with fail
    have HE0 : Hid ((w.alloc (.cells #[.int .i64 op, vs name, .int .i64 m, .slice A ks.length cap] 33 (0, 0))).heap[w.heap.size]? = some (.cells #[.int .i64 op, vs name, .int .i64 m, .slice A ks.length cap] 33 (0, 0))) := Lib.hid (alloc_at rfl)
    have HB0 : Hid (Below w.heap.size w (w.alloc (.cells #[.int .i64 op, vs name, .int .i64 m, .slice A ks.length cap] 33 (0, 0)))) := Lib.hid ((Below.refl _ _).alloc (Nat.le_refl _) _)
    generalize (w.alloc (.cells #[.int .i64 op, vs name, .int .i64 m, .slice A ks.length cap] 33 (0, 0))) = w0 at *
    go_loopw [3] (fun v3 wr => ∃ k : Nat, k ≤ ks.length ∧ v3 = .int .i64 k ∧ Below w0.heap.size w0 wr) (fun v3 _ => ks.length - (intOf v3).toNat)
    case atStart => exact ⟨0, Nat.zero_le _, rfl, Below.refl _ _⟩
    case round =>
      obtain ⟨k, hkl, rfl, hb⟩ := hrel
      have e1 : wr.heap[w.heap.size]? = some (.cells #[.int .i64 op, vs name, .int .i64 m, .slice A ks.length cap] 33 (0, 0)) := (hb.block _ (lt_of_heap' HE0.out)).trans HE0.out
      have c0 := cell_of_blk (o := 0) e1 rfl
      have c1 := cell_of_blk (o := 1) e1 rfl
      have c2 := cell_of_blk (o := 2) e1 rfl
      have c3 := cell_of_blk (o := 3) e1 rfl
      have l1 := lt_of_heap' e1
      have HE1 := Lib.hid e1
      have HB := Lib.hid hb
      have HBW := Lib.hid (HB0.out.trans (hb.mono HB0.out.size))
      clear hb e1
      by_cases hlt : k < ks.length
      · obtain ⟨t, ht⟩ := get_of_lt hlt
        have hst2 := size_of_mem ht
        have HT := Lib.hid ht
        obtain h0 | ⟨b, off, rfl, -, hbs, hkd⟩ := HKIDS.out
        · rw [h0] at hlt; simp at hlt
        obtain ⟨cs, hcs, hrt⟩ := hkd.get ht
        have HRTK := Lib.hid hrt
        obtain ⟨op', nm', cm', m', ks'⟩ := t
        obtain ⟨A', cap', rfl, -, -⟩ := hrt
        have hbw : b < wr.heap.size := Nat.lt_of_lt_of_le hbs HBW.out.size
        have e0 : wr.cell? ⟨b, off + k * 4, none⟩ = some (.int .i64 op') := (HBW.out.cell (p := ⟨b, off + k * 4, none⟩) hbs).trans (hcs 0 _ rfl)
        have e1 : wr.cell? ⟨b, off + k * 4 + 1, none⟩ = some (vs nm') := (HBW.out.cell (p := ⟨b, off + k * 4 + 1, none⟩) hbs).trans (hcs 1 _ rfl)
        have e2 : wr.cell? ⟨b, off + k * 4 + 2, none⟩ = some (.int .i64 m') := (HBW.out.cell (p := ⟨b, off + k * 4 + 2, none⟩) hbs).trans (hcs 2 _ rfl)
        have e3 : wr.cell? ⟨b, off + k * 4 + 3, none⟩ = some (.slice A' ks'.length cap') := (HBW.out.cell (p := ⟨b, off + k * 4 + 3, none⟩) hbs).trans (hcs 3 _ rfl)
        have hk1 : (k : Int) < ks.length := by omega
        clear ht hkd hcs
        go_wp2_with fail
        refine (IH.out (.mk op' nm' cm' m' ks') (tcs false op' nm' cm' m' (.slice A' ks'.length cap')) _ (by omega) (by omega) (mem_s HFL.out HT.out) (HRTK.out.keep HBW.out.size (fun b _ hlt => ⟨trivial, HBW.out.block _ hlt⟩))).mono ?_
        rintro e w3 ⟨rfl, hb3⟩
        have HB3 := Lib.hid hb3
        clear hb3 hst2 c0 c1 c2 c3
        go_wp2_with fail
        exact ⟨⟨k + 1, hlt, by go_num, HB.out.trans (HB3.out.mono HB.out.size)⟩, by simp [intOf]; omega⟩
      · have : k = ks.length := by omega
        subst this
        have hk1 : ¬ ((ks.length : Nat) : Int) < ks.length := by omega
        rcases HF.out with ⟨rfl | rfl, rfl, rfl, rfl⟩ | ⟨rfl, rfl, rfl⟩ | ⟨rfl | rfl | rfl | rfl, hg, rfl, rfl⟩ | ⟨rfl | rfl, rfl, rfl, h1⟩
        · go_wp2_with fail
          go_ret
          exact ⟨rfl, HBW.out⟩
        · go_wp2_with fail
          go_ret
          exact ⟨rfl, HBW.out⟩
        · have i1 : (0 : Int) ≤ m := by omega
          have i2 : (m : Int) ≤ 1000000 := by have := HM.out; omega
          go_wp2_with fail
          go_ret
          exact ⟨rfl, HBW.out⟩
        · have HGN := Lib.hid hg
          clear hg
          go_wp2_with fail
          refine (nameR_yes name _ HGN.out).mono ?_
          rintro e w5 ⟨rfl, hb5⟩
          have hq1 := (hb5.block _ (lt_of_heap' HE1.out)).trans HE1.out
          have d0 := cell_of_blk (o := 0) hq1 rfl
          have d1 := cell_of_blk (o := 1) hq1 rfl
          have d2 := cell_of_blk (o := 2) hq1 rfl
          have d3 := cell_of_blk (o := 3) hq1 rfl
          have dl := lt_of_heap' hq1
          have HB5 := Lib.hid (HBW.out.trans (hb5.mono HBW.out.size))
          clear hb5 hq1
          go_wp2_with fail
          go_ret
          exact ⟨rfl, HB5.out⟩
        · have HGN := Lib.hid hg
          clear hg
          go_wp2_with fail
          refine (nameR_yes name _ HGN.out).mono ?_
          rintro e w5 ⟨rfl, hb5⟩
          have hq1 := (hb5.block _ (lt_of_heap' HE1.out)).trans HE1.out
          have d0 := cell_of_blk (o := 0) hq1 rfl
          have d1 := cell_of_blk (o := 1) hq1 rfl
          have d2 := cell_of_blk (o := 2) hq1 rfl
          have d3 := cell_of_blk (o := 3) hq1 rfl
          have dl := lt_of_heap' hq1
          have HB5 := Lib.hid (HBW.out.trans (hb5.mono HBW.out.size))
          clear hb5 hq1
          go_wp2_with fail
          go_ret
          exact ⟨rfl, HB5.out⟩
        · have HGN := Lib.hid hg
          clear hg
          go_wp2_with fail
          refine (nameR_yes name _ HGN.out).mono ?_
          rintro e w5 ⟨rfl, hb5⟩
          have hq1 := (hb5.block _ (lt_of_heap' HE1.out)).trans HE1.out
          have d0 := cell_of_blk (o := 0) hq1 rfl
          have d1 := cell_of_blk (o := 1) hq1 rfl
          have d2 := cell_of_blk (o := 2) hq1 rfl
          have d3 := cell_of_blk (o := 3) hq1 rfl
          have dl := lt_of_heap' hq1
          have HB5 := Lib.hid (HBW.out.trans (hb5.mono HBW.out.size))
          clear hb5 hq1
          go_wp2_with fail
          go_ret
          exact ⟨rfl, HB5.out⟩
        · have HGN := Lib.hid hg
          clear hg
          go_wp2_with fail
          refine (nameR_yes name _ HGN.out).mono ?_
          rintro e w5 ⟨rfl, hb5⟩
          have hq1 := (hb5.block _ (lt_of_heap' HE1.out)).trans HE1.out
          have d0 := cell_of_blk (o := 0) hq1 rfl
          have d1 := cell_of_blk (o := 1) hq1 rfl
          have d2 := cell_of_blk (o := 2) hq1 rfl
          have d3 := cell_of_blk (o := 3) hq1 rfl
          have dl := lt_of_heap' hq1
          have HB5 := Lib.hid (HBW.out.trans (hb5.mono HBW.out.size))
          clear hb5 hq1
          go_wp2_with fail
          go_ret
          exact ⟨rfl, HB5.out⟩
        · have i1 : (2 : Int) ≤ ks.length := by omega
          go_wp2_with fail
          go_ret
          exact ⟨rfl, HBW.out⟩
        · have i1 : (2 : Int) ≤ ks.length := by omega
          go_wp2_with fail
          go_ret
          exact ⟨rfl, HBW.out⟩
end Go.Proofs.YtpagkakplmeokaaDoor
