/- The reference's sizes and depths. -/
import Derived.Test.YtpagkakplmeokaaDoorNHead
set_option linter.unusedVariables false
set_option linter.unusedSimpArgs false
namespace Go.Proofs.YtpagkakplmeokaaDoor
open Go.RowKit
theorem szr_ret (op : Nat) (name : List UInt8) (cm m : Nat) (ks : List Tree) : Ending.returned (.tuple #[.int .i64 ((1 : Int) + (sizes ks : Int)), .int .i64 ((deeps ks : Int) + 1)]) = .returned (.tuple #[.int .i64 ((Tree.mk op name cm m ks).size : Int), .int .i64 ((Tree.mk op name cm m ks).deep : Int)]) := by simp [Tree.deep, Tree.size]
set_option maxRecDepth 20000 in
set_option maxHeartbeats 800000 in
theorem size_f : ∀ (N : Nat) (t : Tree) (cs : List Value) (w : World), t.size ≤ N → t.size ≤ 1000000 → RdTree true (fun _ => True) w cs t →
    Calls Tryd.prog 21 #[.agg cs.toArray] w fun e w' => e = .returned (.tuple #[.int .i64 (t.size : Int), .int .i64 (t.deep : Int)]) ∧ Below w.heap.size w w' := by
  intro N
  induction N with
  | zero =>
    intro t cs w hN
    cases t
    simp [Tree.size] at hN
  | succ N ih =>
    intro t cs w hN hs hrt
    have IH := Lib.hid ih
    obtain ⟨op, name, cm, m, ks⟩ := t
    obtain ⟨A, cap, rfl, hcap, hkids⟩ := hrt
    have HKIDS := Lib.hid hkids
    simp only [Tree.size] at hN hs
    simp only [tcs]
    clear ih hkids hcap
    go_enter Tryd.func21, Tryd.ntmps21
    go_wp2_with fail
    have HE0 : Hid ((w.alloc (.cells #[.int .i64 op, vs name, .int .i64 cm, .int .i64 m, .slice A ks.length cap] 29 (0, 0))).heap[w.heap.size]? = some (.cells #[.int .i64 op, vs name, .int .i64 cm, .int .i64 m, .slice A ks.length cap] 29 (0, 0))) := Lib.hid (alloc_at rfl)
    have HB0 : Hid (Below w.heap.size w (w.alloc (.cells #[.int .i64 op, vs name, .int .i64 cm, .int .i64 m, .slice A ks.length cap] 29 (0, 0)))) := Lib.hid ((Below.refl _ _).alloc (Nat.le_refl _) _)
    generalize (w.alloc (.cells #[.int .i64 op, vs name, .int .i64 cm, .int .i64 m, .slice A ks.length cap] 29 (0, 0))) = w0 at *
    go_loopw [4, 5, 6] (fun v4 v5 v6 wr => ∃ k : Nat, k ≤ ks.length ∧ v6 = .int .i64 k ∧ v4 = .int .i64 ((1 + sizes (ks.take k) : Nat) : Int) ∧ v5 = .int .i64 (deeps (ks.take k)) ∧ Below w0.heap.size w0 wr) (fun v4 v5 v6 _ => ks.length - (intOf v6).toNat)
    case atStart => exact ⟨0, Nat.zero_le _, rfl, rfl, rfl, Below.refl _ _⟩
    case round =>
      obtain ⟨k, hkl, rfl, rfl, rfl, hb⟩ := hrel
      have hsz := sizes_take_le ks k
      have hdz := deeps_le_sizes (ks.take k)
      have hln := len_le_sizes ks
      have e1 : wr.heap[w.heap.size]? = some (.cells #[.int .i64 op, vs name, .int .i64 cm, .int .i64 m, .slice A ks.length cap] 29 (0, 0)) := (hb.block _ (lt_of_heap' HE0.out)).trans HE0.out
      have c4 : wr.cell? ⟨w.heap.size, 4, none⟩ = some (.slice A ks.length cap) := cell_of_blk (o := 4) e1 rfl
      have l1 := lt_of_heap' e1
      have HB := Lib.hid hb
      have HBW := Lib.hid (HB0.out.trans (hb.mono HB0.out.size))
      clear hb e1
      by_cases hlt : k < ks.length
      · obtain ⟨t, ht⟩ := get_of_lt hlt
        have HST := Lib.hid (sizes_take ht)
        have HDT := Lib.hid (deeps_take ht)
        have hst2 := size_of_mem ht
        have hst3 := sizes_take_le ks (k + 1)
        rw [HST.out] at hst3
        have hdt := deep_le_size t
        obtain h0 | ⟨b, off, rfl, -, hbs, hkd⟩ := HKIDS.out
        · rw [h0] at hlt; simp at hlt
        obtain ⟨cs, hcs, hrt⟩ := hkd.get ht
        have HRTK := Lib.hid hrt
        obtain ⟨op', nm', cm', m', ks'⟩ := t
        obtain ⟨A', cap', rfl, -, -⟩ := hrt
        have hbw : b < wr.heap.size := Nat.lt_of_lt_of_le hbs HBW.out.size
        have e0 : wr.cell? ⟨b, off + k * 5, none⟩ = some (.int .i64 op') := (HBW.out.cell (p := ⟨b, off + k * 5, none⟩) hbs).trans (hcs 0 _ rfl)
        have e1 : wr.cell? ⟨b, off + k * 5 + 1, none⟩ = some (vs nm') := (HBW.out.cell (p := ⟨b, off + k * 5 + 1, none⟩) hbs).trans (hcs 1 _ rfl)
        have e2 : wr.cell? ⟨b, off + k * 5 + 2, none⟩ = some (.int .i64 cm') := (HBW.out.cell (p := ⟨b, off + k * 5 + 2, none⟩) hbs).trans (hcs 2 _ rfl)
        have e3 : wr.cell? ⟨b, off + k * 5 + 3, none⟩ = some (.int .i64 m') := (HBW.out.cell (p := ⟨b, off + k * 5 + 3, none⟩) hbs).trans (hcs 3 _ rfl)
        have e4 : wr.cell? ⟨b, off + k * 5 + 4, none⟩ = some (.slice A' ks'.length cap') := (HBW.out.cell (p := ⟨b, off + k * 5 + 4, none⟩) hbs).trans (hcs 4 _ rfl)
        have hk1 : (k : Int) < ks.length := by omega
        have hwk := wrap64_nat (k := k) (by omega)
        have hs1 : wrap64 ((1 : Int) + (sizes (ks.take k) : Int) + ((Tree.mk op' nm' cm' m' ks').size : Int)) = ((1 + sizes (ks.take (k + 1)) : Nat) : Int) := by rw [HST.out]; unfold wrap64; omega
        have HS1 := Lib.hid hs1
        have HWK := Lib.hid hwk
        clear ht hkd hcs hwk hs1 hsz hdz hln
        go_wp2_with fail
        refine (IH.out (.mk op' nm' cm' m' ks') (tcs true op' nm' cm' m' (.slice A' ks'.length cap')) _ (by omega) (by omega) (HRTK.out.keep HBW.out.size (fun b _ hlt => ⟨trivial, HBW.out.block _ hlt⟩))).mono ?_
        rintro e w3 ⟨rfl, hb3⟩
        have HB3 := Lib.hid hb3
        clear hb3 hst2 hst3 hdt c4
        go_wp2_with fail
        have hmx : (Value.int .i64 (max (deeps (ks.take k) : Int) ((Tree.mk op' nm' cm' m' ks').deep : Int))) = .int .i64 (deeps (ks.take (k + 1)) : Int) := by rw [HDT.out, max_cast]
        rw [HWK.out, HS1.out]
        exact ⟨⟨k + 1, hlt, rfl, rfl, hmx, HB.out.trans (HB3.out.mono HB.out.size)⟩, Nat.sub_lt_sub_left hlt (Nat.lt_succ_self k)⟩
      · have : k = ks.length := by omega
        subst this
        simp only [List.take_length]
        have hdk := deeps_le_sizes ks
        simp only [List.take_length] at hdz hsz
        have hk1 : ¬ ((ks.length : Nat) : Int) < ks.length := by omega
        go_wp2_with fail
        go_ret2
        exact ⟨szr_ret op name cm m ks, HBW.out⟩
set_option maxRecDepth 20000 in
set_option maxHeartbeats 800000 in
theorem size_s : ∀ (N : Nat) (t : Tree) (cs : List Value) (w : World), t.size ≤ N → t.size ≤ 1000000 → RdTree false (fun _ => True) w cs t →
    Calls Tryd.prog 22 #[.agg cs.toArray] w fun e w' => e = .returned (.tuple #[.int .i64 (t.size : Int), .int .i64 (t.deep : Int)]) ∧ Below w.heap.size w w' := by
  intro N
  induction N with
  | zero =>
    intro t cs w hN
    cases t
    simp [Tree.size] at hN
  | succ N ih =>
    intro t cs w hN hs hrt
    have IH := Lib.hid ih
    obtain ⟨op, name, cm, m, ks⟩ := t
    obtain ⟨A, cap, rfl, hcap, hkids⟩ := hrt
    have HKIDS := Lib.hid hkids
    simp only [Tree.size] at hN hs
    simp only [tcs]
    clear ih hkids hcap
    go_enter Tryd.func22, Tryd.ntmps22
    go_wp2_with fail
    have HE0 : Hid ((w.alloc (.cells #[.int .i64 op, vs name, .int .i64 m, .slice A ks.length cap] 33 (0, 0))).heap[w.heap.size]? = some (.cells #[.int .i64 op, vs name, .int .i64 m, .slice A ks.length cap] 33 (0, 0))) := Lib.hid (alloc_at rfl)
    have HB0 : Hid (Below w.heap.size w (w.alloc (.cells #[.int .i64 op, vs name, .int .i64 m, .slice A ks.length cap] 33 (0, 0)))) := Lib.hid ((Below.refl _ _).alloc (Nat.le_refl _) _)
    generalize (w.alloc (.cells #[.int .i64 op, vs name, .int .i64 m, .slice A ks.length cap] 33 (0, 0))) = w0 at *
    go_loopw [4, 5, 6] (fun v4 v5 v6 wr => ∃ k : Nat, k ≤ ks.length ∧ v6 = .int .i64 k ∧ v4 = .int .i64 ((1 + sizes (ks.take k) : Nat) : Int) ∧ v5 = .int .i64 (deeps (ks.take k)) ∧ Below w0.heap.size w0 wr) (fun v4 v5 v6 _ => ks.length - (intOf v6).toNat)
    case atStart => exact ⟨0, Nat.zero_le _, rfl, rfl, rfl, Below.refl _ _⟩
    case round =>
      obtain ⟨k, hkl, rfl, rfl, rfl, hb⟩ := hrel
      have hsz := sizes_take_le ks k
      have hdz := deeps_le_sizes (ks.take k)
      have hln := len_le_sizes ks
      have e1 : wr.heap[w.heap.size]? = some (.cells #[.int .i64 op, vs name, .int .i64 m, .slice A ks.length cap] 33 (0, 0)) := (hb.block _ (lt_of_heap' HE0.out)).trans HE0.out
      have c4 : wr.cell? ⟨w.heap.size, 3, none⟩ = some (.slice A ks.length cap) := cell_of_blk (o := 3) e1 rfl
      have l1 := lt_of_heap' e1
      have HB := Lib.hid hb
      have HBW := Lib.hid (HB0.out.trans (hb.mono HB0.out.size))
      clear hb e1
      by_cases hlt : k < ks.length
      · obtain ⟨t, ht⟩ := get_of_lt hlt
        have HST := Lib.hid (sizes_take ht)
        have HDT := Lib.hid (deeps_take ht)
        have hst2 := size_of_mem ht
        have hst3 := sizes_take_le ks (k + 1)
        rw [HST.out] at hst3
        have hdt := deep_le_size t
        obtain h0 | ⟨b, off, rfl, -, hbs, hkd⟩ := HKIDS.out
        · rw [h0] at hlt; simp at hlt
        obtain ⟨cs, hcs, hrt⟩ := hkd.get ht
        have HRTK := Lib.hid hrt
        obtain ⟨op', nm', cm', m', ks'⟩ := t
        obtain ⟨A', cap', rfl, -, -⟩ := hrt
        have hbw : b < wr.heap.size := Nat.lt_of_lt_of_le hbs HBW.out.size
        have e0 : wr.cell? ⟨b, off + k * 4, none⟩ = some (.int .i64 op') := (HBW.out.cell (p := ⟨b, off + k * 4, none⟩) hbs).trans (hcs 0 _ rfl)
        have e1 : wr.cell? ⟨b, off + k * 4 + 1, none⟩ = some (vs nm') := (HBW.out.cell (p := ⟨b, off + k * 4 + 1, none⟩) hbs).trans (hcs 1 _ rfl)
        have e2 : wr.cell? ⟨b, off + k * 4 + 2, none⟩ = some (.int .i64 m') := (HBW.out.cell (p := ⟨b, off + k * 4 + 2, none⟩) hbs).trans (hcs 2 _ rfl)
        have e3 : wr.cell? ⟨b, off + k * 4 + 3, none⟩ = some (.slice A' ks'.length cap') := (HBW.out.cell (p := ⟨b, off + k * 4 + 3, none⟩) hbs).trans (hcs 3 _ rfl)
        have hk1 : (k : Int) < ks.length := by omega
        have hwk := wrap64_nat (k := k) (by omega)
        have hs1 : wrap64 ((1 : Int) + (sizes (ks.take k) : Int) + ((Tree.mk op' nm' cm' m' ks').size : Int)) = ((1 + sizes (ks.take (k + 1)) : Nat) : Int) := by rw [HST.out]; unfold wrap64; omega
        have HS1 := Lib.hid hs1
        have HWK := Lib.hid hwk
        clear ht hkd hcs hwk hs1 hsz hdz hln
        go_wp2_with fail
        refine (IH.out (.mk op' nm' cm' m' ks') (tcs false op' nm' cm' m' (.slice A' ks'.length cap')) _ (by omega) (by omega) (HRTK.out.keep HBW.out.size (fun b _ hlt => ⟨trivial, HBW.out.block _ hlt⟩))).mono ?_
        rintro e w3 ⟨rfl, hb3⟩
        have HB3 := Lib.hid hb3
        clear hb3 hst2 hst3 hdt c4
        go_wp2_with fail
        have hmx : (Value.int .i64 (max (deeps (ks.take k) : Int) ((Tree.mk op' nm' cm' m' ks').deep : Int))) = .int .i64 (deeps (ks.take (k + 1)) : Int) := by rw [HDT.out, max_cast]
        rw [HWK.out, HS1.out]
        exact ⟨⟨k + 1, hlt, rfl, rfl, hmx, HB.out.trans (HB3.out.mono HB.out.size)⟩, Nat.sub_lt_sub_left hlt (Nat.lt_succ_self k)⟩
      · have : k = ks.length := by omega
        subst this
        simp only [List.take_length]
        have hdk := deeps_le_sizes ks
        simp only [List.take_length] at hdz hsz
        have hk1 : ¬ ((ks.length : Nat) : Int) < ks.length := by omega
        go_wp2_with fail
        go_ret2
        exact ⟨szr_ret op name cm m ks, HBW.out⟩
end Go.Proofs.YtpagkakplmeokaaDoor
