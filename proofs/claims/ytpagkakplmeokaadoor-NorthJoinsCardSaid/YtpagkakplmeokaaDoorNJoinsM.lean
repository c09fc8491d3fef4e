/- The law of joins: made. -/
import Derived.Test.YtpagkakplmeokaaDoorNJoinsW
set_option linter.unusedVariables false
set_option linter.unusedSimpArgs false
namespace Go.Proofs.YtpagkakplmeokaaDoor
open Go.RowKit
theorem made_out {l : List UInt8} {t : Tree} {p : Prov} (h : parseF l = if boundC t = 0 then .ok p else .error (2, 26)) : boundC t = 0 ∧ outE l = 0 ∧ outP l = p ∨ boundC t ≠ 0 ∧ outE l = 2 ∧ outA l = 26 := by
  unfold outE outA outP
  by_cases hb : boundC t = 0
  · rw [if_pos hb] at h; simp only [h]; exact .inl ⟨hb, trivial, trivial⟩
  · rw [if_neg hb] at h; simp only [h]; exact .inr ⟨hb, trivial, trivial⟩
theorem bound_cases (t : Tree) : boundC t = 0 ∧ t.deep ≤ 20 ∧ t.size ≤ 200 ∨ boundC t ≠ 0 ∧ 200 < t.size ∨ boundC t ≠ 0 ∧ t.size ≤ 200 ∧ 20 < t.deep := by
  unfold boundC
  split <;> rename_i h <;> omega
set_option maxRecDepth 100000 in
set_option maxHeartbeats 4000000 in
theorem made_any (x : List UInt8) (t : Tree) (p : Prov) (cs : List Value) (w : World) (m : Int) (hm : w.cell? ⟨2, 0, none⟩ = some (.int .i64 m)) (hl : x.length ≤ 10000) (hs : t.size ≤ 1000000)
    (hrt : RdTree true (fun _ => True) w cs t) (hmk : parseF (ruleB x) = if boundC t = 0 then .ok p else .error (2, 26)) (hp : p.cond = t) :
    Calls Tryd.prog 16 #[vs x, .agg cs.toArray] w fun e w' => e = .returned (.bool true) ∧ Below w.heap.size w w' := by
  have HM := Lib.hid hm
  have HMK := Lib.hid (made_out hmk)
  have HP := Lib.hid hp
  have HRT := Lib.hid hrt
  have HS := Lib.hid hs
  have HBC := Lib.hid (bound_cases t)
  have hdt := deep_le_size t
  have HSZ := Lib.hid (size_f t.size t)
  generalize hts : t.size = sz at *
  generalize htd : t.deep = dp at *
  have HTS := Lib.hid hts
  have HTD := Lib.hid htd
  clear hm hmk hp hs hts htd
  obtain ⟨op, name, cm, n, ks⟩ := t
  obtain ⟨A, cap, rfl, -, -⟩ := hrt
  simp only [tcs]
  go_enter Tryd.func16, Tryd.ntmps16
  go_wp2_with fail
  have HK0 := Lib.hid (heap_alloc_new w (.cells #[.int .i64 op, vs name, .int .i64 cm, .int .i64 n, .slice A ks.length cap] 29 (0, 0)))
  generalize hw0 : w.alloc (.cells #[.int .i64 op, vs name, .int .i64 cm, .int .i64 n, .slice A ks.length cap] 29 (0, 0)) = w0 at *
  have hb0 : Below w.heap.size w w0 := hw0 ▸ (Below.refl _ _).alloc (Nat.le_refl _) _
  clear hw0
  refine (rule_any x _ (by omega)).mono ?_
  rintro e w1 ⟨rfl, rfl⟩
  go_wp2_with fail
  refine (parse_out (ruleB x) _ m (maxc_below HM.out hb0)).mono ?_
  rintro e w1 ⟨hb1, c1, rfl, hr1⟩
  obtain ⟨st1, -⟩ := prov_io hr1
  have hal : Below w1.heap.size w1 (w1.alloc (.cells c1.toArray 35 (0, 0))) := (Below.refl _ _).alloc (Nat.le_refl _) _
  have hb02 := hb1.trans (hal.mono hb1.size)
  have HB2 : Hid (Below w.heap.size w (w1.alloc (.cells c1.toArray 35 (0, 0)))) := Lib.hid (hb0.trans (hb02.mono hb0.size))
  have hk2 := (hb02.block _ (lt_of_heap' HK0.out)).trans HK0.out
  have HK2 := Lib.hid hk2
  have HA2 := Lib.hid (heap_alloc_new w1 (.cells c1.toArray 35 (0, 0)))
  have HC2 : Hid (∃ cc, RdTree true (fun _ => True) (w1.alloc (.cells c1.toArray 35 (0, 0))) cc (outP (ruleB x)).cond ∧ ∀ (j : Nat) v, cc[j]? = some v → c1.toArray[5 + j]? = some v) := Lib.hid (by
    obtain ⟨cc, h1, h2⟩ := cond_cells hr1
    exact ⟨cc, h1.keep hal.size (fun b _ hlt => ⟨trivial, hal.block _ hlt⟩), h2⟩)
  have d0 := cell_of_blk (o := 0) hk2 rfl
  have d1 := cell_of_blk (o := 1) hk2 rfl
  have d2 := cell_of_blk (o := 2) hk2 rfl
  have d3 := cell_of_blk (o := 3) hk2 rfl
  have d4 := cell_of_blk (o := 4) hk2 rfl
  have dl := lt_of_heap' hk2
  clear hb0 hb1 hr1 hal hb02 hk2 HK0
  go_upto_region 2 with fail
  generalize hw2 : w1.alloc (.cells c1.toArray 35 (0, 0)) = w2 at *
  clear hw2
  go_wp2_with fail
  refine (HSZ.out (tcs true op name cm n (.slice A ks.length cap)) w2 (Nat.le_refl _) HS.out (HRT.out.keep HB2.out.size (fun b _ hlt => ⟨trivial, HB2.out.block _ hlt⟩))).mono ?_
  rintro e w3 ⟨rfl, hb3⟩
  have HB3 : Hid (Below w.heap.size w w3) := Lib.hid (HB2.out.trans (hb3.mono HB2.out.size))
  have hk3 := (hb3.block _ (lt_of_heap' HK2.out)).trans HK2.out
  have ha3 := (hb3.block _ (lt_of_heap' HA2.out)).trans HA2.out
  obtain ⟨cc, hcr, hcc⟩ := HC2.out
  have HCR : Hid (RdTree true (fun _ => True) w3 cc (outP (ruleB x)).cond) := Lib.hid (hcr.keep hb3.size (fun b _ hlt => ⟨trivial, hb3.block _ hlt⟩))
  have HRT3 : Hid (RdTree true (fun _ => True) w3 (tcs true op name cm n (.slice A ks.length cap)) (.mk op name cm n ks)) := Lib.hid (HRT.out.keep HB3.out.size (fun b _ hlt => ⟨trivial, HB3.out.block _ hlt⟩))
  clear hb3 d0 d1 d2 d3 d4 dl hcr
  have hsz := HS.out
  rcases HBC.out with ⟨b1, b2, b3⟩ | ⟨b1, b2⟩ | ⟨b1, b2, b3⟩
  · rcases HMK.out with ⟨-, m1, m2⟩ | ⟨m1, -⟩
    case inr => exact absurd b1 m1
    have hcd : (outP (ruleB x)).cond = .mk op name cm n ks := by rw [m2]; exact HP.out
    rw [hcd] at HCR
    obtain ⟨A', cap', rfl, -, -⟩ := HCR.out
    have e1 : ¬ (200 : Int) < sz := by omega
    have e2 : ¬ (20 : Int) < dp := by omega
    have u5 := cell_of_blk (o := 5) ha3 (hcc 0 _ rfl)
    have u6 := cell_of_blk (o := 6) ha3 (hcc 1 _ rfl)
    have u7 := cell_of_blk (o := 7) ha3 (hcc 2 _ rfl)
    have u8 := cell_of_blk (o := 8) ha3 (hcc 3 _ rfl)
    have u9 := cell_of_blk (o := 9) ha3 (hcc 4 _ rfl)
    have d0 := cell_of_blk (o := 0) hk3 rfl
    have d1 := cell_of_blk (o := 1) hk3 rfl
    have d2 := cell_of_blk (o := 2) hk3 rfl
    have d3 := cell_of_blk (o := 3) hk3 rfl
    have d4 := cell_of_blk (o := 4) hk3 rfl
    have dl := lt_of_heap' hk3
    have el := lt_of_heap' ha3
    rw [m1]
    clear b1 b2 b3 m1 m2 hcd hcc hk3 ha3
    go_wp2_with fail
    refine (same_f sz (.mk op name cm n ks) (tcs true op name cm n (.slice A' ks.length cap')) (tcs true op name cm n (.slice A ks.length cap)) w3 (by rw [HTS.out]; exact Nat.le_refl _) (by rw [HTS.out]; exact HS.out) HCR.out HRT3.out).mono ?_
    rintro e w4 ⟨rfl, hb4⟩
    have HB4 := Lib.hid (HB3.out.trans (hb4.mono HB3.out.size))
    clear hb4
    go_wp2_with fail
    go_ret
    exact ⟨rfl, HB4.out⟩
  · rcases HMK.out with ⟨m1, -⟩ | ⟨-, m1, m2⟩
    case inl => exact absurd m1 b1
    have e1 : (200 : Int) < sz := by omega
    rw [m1, m2]
    clear b1 b2 m1 m2 hcc hk3 ha3
    go_wp2_with fail
    go_ret
    exact ⟨rfl, HB3.out⟩
  · rcases HMK.out with ⟨m1, -⟩ | ⟨-, m1, m2⟩
    case inl => exact absurd m1 b1
    have e1 : ¬ (200 : Int) < sz := by omega
    have e2 : (20 : Int) < dp := by omega
    rw [m1, m2]
    clear b1 b2 b3 m1 m2 hcc hk3 ha3
    go_wp2_with fail
    go_ret
    exact ⟨rfl, HB3.out⟩
end Go.Proofs.YtpagkakplmeokaaDoor
