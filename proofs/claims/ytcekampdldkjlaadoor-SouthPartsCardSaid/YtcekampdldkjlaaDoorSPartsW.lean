/- The law of parts. -/
import Derived.Test.YtcekampdldkjlaaDoorSPrv
import Derived.Deep.CutRange
set_option linter.unusedVariables false
set_option linter.unusedSimpArgs false
namespace Go.Proofs.YtcekampdldkjlaaDoor
open Go.RowKit
set_option maxRecDepth 100000 in
set_option maxHeartbeats 4000000 in
theorem parts_no (a x s e g : List UInt8) (w : World) (m : Int) (hm : w.cell? ⟨2, 0, none⟩ = some (.int .i64 m)) (hno : 500 < a.length ∨ 500 < x.length ∨ 500 < s.length ∨ 500 < e.length ∨ 500 < g.length ∨ [a, x, s, e, g].all plainB = false) :
    Calls Tryd.prog 6 #[vs a, vs x, vs s, vs e, vs g] w fun e w' => e = .returned (.bool true) ∧ Below w.heap.size w w' := by
  have HM := Lib.hid hm
  clear hm
  go_enter Tryd.func6, Tryd.ntmps6
  go_wp2_with fail
  refine (head_any w m HM.out).mono ?_
  rintro e1 w1 ⟨rfl, hb1⟩
  have HB1 := Lib.hid hb1
  clear hb1
  by_cases ha : 500 < a.length
  · have ha' : (500 : Int) < a.length := by omega
    go_wp2_with fail
    go_ret
    exact ⟨rfl, HB1.out⟩
  have ha' : ¬ (500 : Int) < a.length := by omega
  by_cases hx : 500 < x.length
  · have hx' : (500 : Int) < x.length := by omega
    go_wp2_with fail
    go_ret
    exact ⟨rfl, HB1.out⟩
  have hx' : ¬ (500 : Int) < x.length := by omega
  by_cases hs : 500 < s.length
  · have hs' : (500 : Int) < s.length := by omega
    go_wp2_with fail
    go_ret
    exact ⟨rfl, HB1.out⟩
  have hs' : ¬ (500 : Int) < s.length := by omega
  by_cases he : 500 < e.length
  · have he' : (500 : Int) < e.length := by omega
    go_wp2_with fail
    go_ret
    exact ⟨rfl, HB1.out⟩
  have he' : ¬ (500 : Int) < e.length := by omega
  by_cases hg : 500 < g.length
  · have hg' : (500 : Int) < g.length := by omega
    go_wp2_with fail
    go_ret
    exact ⟨rfl, HB1.out⟩
  have hg' : ¬ (500 : Int) < g.length := by omega
  have HP : Hid ([a, x, s, e, g].all plainB = false) := Lib.hid (by
    rcases hno with h | h | h | h | h | h
    · omega
    · omega
    · omega
    · omega
    · omega
    · exact h)
  have hla : ∀ y ∈ [a, x, s, e, g], y.length ≤ 1000 := by
    intro y hy
    simp at hy
    rcases hy with rfl | rfl | rfl | rfl | rfl <;> omega
  have HLA := Lib.hid hla
  clear hno hla
  go_wp2_with fail
  refine (plain_any [a, x, s, e, g] _ 5 _ (row_rd (heap_alloc_new w1 _) rfl) (by simp) HLA.out).mono ?_
  rintro e2 w2 ⟨rfl, rfl⟩
  rw [HP.out]
  go_wp2_with fail
  go_ret
  exact ⟨rfl, HB1.out.alloc HB1.out.size _⟩
set_option maxRecDepth 100000 in
set_option maxHeartbeats 8000000 in
theorem parts_yes (a x s e g : List UInt8) (w : World) (m : Int) (hm : w.cell? ⟨2, 0, none⟩ = some (.int .i64 m)) (la : a.length ≤ 500) (lx : x.length ≤ 500) (ls : s.length ≤ 500) (le : e.length ≤ 500) (lg : g.length ≤ 500) (hp : [a, x, s, e, g].all plainB = true) :
    Calls Tryd.prog 6 #[vs a, vs x, vs s, vs e, vs g] w fun e w' => e = .returned (.bool true) ∧ Below w.heap.size w w' := by
  have HM := Lib.hid hm
  have HP := Lib.hid hp
  have hls : ∀ y ∈ [a, x, s, e, g], y.length ≤ 1000 := by
    intro y hy
    simp at hy
    rcases hy with rfl | rfl | rfl | rfl | rfl <;> omega
  have HLS := Lib.hid hls
  have ha' : ¬ (500 : Int) < a.length := by omega
  have hx' : ¬ (500 : Int) < x.length := by omega
  have hs' : ¬ (500 : Int) < s.length := by omega
  have he' : ¬ (500 : Int) < e.length := by omega
  have hg' : ¬ (500 : Int) < g.length := by omega
  clear hm hp hls
  go_enter Tryd.func6, Tryd.ntmps6
  go_wp2_with fail
  refine (head_any w m HM.out).mono ?_
  rintro e1 w1 ⟨rfl, hb1⟩
  have HB1 := Lib.hid hb1
  clear hb1
  go_wp2_with fail
  refine (plain_any [a, x, s, e, g] _ 5 _ (row_rd (heap_alloc_new w1 _) rfl) (by simp) HLS.out).mono ?_
  rintro e2 w2 ⟨rfl, rfl⟩
  rw [HP.out]
  go_upto_region 4 with fail
  have HB2 : Hid (Below w.heap.size w (w1.alloc (.cells #[vs a, vs x, vs s, vs e, vs g] 9 (0, 0)))) := Lib.hid (HB1.out.alloc HB1.out.size _)
  generalize w1.alloc (.cells #[vs a, vs x, vs s, vs e, vs g] 9 (0, 0)) = w2 at *
  clear ha' hx' hs' he' hg' HB1
  have q0 : ¬ 9223372036854775807 < 7 + a.length := by omega
  have q1 : ¬ 9223372036854775807 < 7 + a.length + 3 := by omega
  have q2 : ¬ 9223372036854775807 < 12 + x.length := by omega
  have q3 : ¬ 9223372036854775807 < 12 + x.length + 2 := by omega
  have q4 : ¬ 9223372036854775807 < 9 + s.length := by omega
  have q5 : ¬ 9223372036854775807 < 9 + s.length + 2 := by omega
  have q6 : ¬ 9223372036854775807 < 7 + e.length := by omega
  have q7 : ¬ 9223372036854775807 < 7 + e.length + 2 := by omega
  have q8 : ¬ 9223372036854775807 < 10 + g.length := by omega
  have q9 : ¬ 9223372036854775807 < 10 + g.length + 2 := by omega
  have q10 : ¬ 9223372036854775807 < 7 + a.length + 3 + 18 := by omega
  have q11 : ¬ 9223372036854775807 < 7 + a.length + 3 + 18 + 12 := by omega
  have q12 : ¬ 9223372036854775807 < 18 + (12 + x.length + 2) := by omega
  have q13 : ¬ 9223372036854775807 < 18 + (12 + x.length + 2) + 12 := by omega
  have q14 : ¬ 9223372036854775807 < 18 + (9 + s.length + 2) := by omega
  have q15 : ¬ 9223372036854775807 < 18 + (9 + s.length + 2) + 12 := by omega
  have q16 : ¬ 9223372036854775807 < 18 + (7 + e.length + 2) := by omega
  have q17 : ¬ 9223372036854775807 < 18 + (7 + e.length + 2) + 12 := by omega
  have q18 : ¬ 9223372036854775807 < 18 + (10 + g.length + 2) := by omega
  have q19 : ¬ 9223372036854775807 < 18 + (10 + g.length + 2) + 12 := by omega
  have q20 : ¬ 9223372036854775807 < 7 + a.length + 3 + 18 + (12 + x.length + 2) := by omega
  have q21 : ¬ 9223372036854775807 < 7 + a.length + 3 + 18 + (12 + x.length + 2) + (9 + s.length + 2) := by omega
  have q22 : ¬ 9223372036854775807 < 7 + a.length + 3 + 18 + (12 + x.length + 2) + (9 + s.length + 2) + (7 + e.length + 2) := by omega
  have q23 : ¬ 9223372036854775807 < 7 + a.length + 3 + 18 + (12 + x.length + 2) + (9 + s.length + 2) + (7 + e.length + 2) + (10 + g.length + 2) := by omega
  have q24 : ¬ 9223372036854775807 < 7 + a.length + 3 + 18 + (12 + x.length + 2) + (9 + s.length + 2) + (7 + e.length + 2) + (10 + g.length + 2) + 12 := by omega
  have LEN := Lib.hid (And.intro la (And.intro lx (And.intro ls (And.intro le lg))))
  clear la lx ls le lg
  go_wp2_with fail
  refine (parse_eq (textW a) _ _ m (maxc_below HM.out HB2.out) (by simp [textW])).mono ?_
  rintro e x3 ⟨hb3, c3, rfl, hr3⟩
  obtain ⟨st3, -⟩ := prov_io hr3
  have hx3 := prv_new hr3
  have hbb3 : Below w2.heap.size w2 (x3.alloc (.cells c3.toArray 35 (0, 0))) := hb3.alloc hb3.size _
  have hz3 := hb3.size
  clear hb3 hr3
  go_upto_region 7 with fail
  clear st3
  have HB3 : Hid (Below w.heap.size w (x3.alloc (.cells c3.toArray 35 (0, 0)))) := Lib.hid (HB2.out.trans (hbb3.mono HB2.out.size))
  have HX3_3 := Lib.hid hx3
  clear hx3 hbb3
  generalize hb3d : x3.heap.size = b3 at *
  generalize x3.alloc (.cells c3.toArray 35 (0, 0)) = w3 at *
  clear hb3d
  go_wp2_with fail
  refine (parse_eq (textX x) _ _ m (maxc_below HM.out HB3.out) (by simp [textX])).mono ?_
  rintro e x4 ⟨hb4, c4, rfl, hr4⟩
  obtain ⟨st4, -⟩ := prov_io hr4
  have hx4 := prv_new hr4
  have hbb4 : Below w3.heap.size w3 (x4.alloc (.cells c4.toArray 35 (0, 0))) := hb4.alloc hb4.size _
  have hz4 := hb4.size
  clear hb4 hr4
  go_upto_region 8 with fail
  clear st4
  have HB4 : Hid (Below w.heap.size w (x4.alloc (.cells c4.toArray 35 (0, 0)))) := Lib.hid (HB3.out.trans (hbb4.mono HB3.out.size))
  have HX3_4 := Lib.hid (HX3_3.out.below hbb4)
  have HX4_4 := Lib.hid hx4
  clear hx4 hbb4
  generalize hb4d : x4.heap.size = b4 at *
  generalize x4.alloc (.cells c4.toArray 35 (0, 0)) = w4 at *
  clear hb4d
  go_wp2_with fail
  refine (parse_eq (textS s) _ _ m (maxc_below HM.out HB4.out) (by simp [textS])).mono ?_
  rintro e x5 ⟨hb5, c5, rfl, hr5⟩
  obtain ⟨st5, -⟩ := prov_io hr5
  have hx5 := prv_new hr5
  have hbb5 : Below w4.heap.size w4 (x5.alloc (.cells c5.toArray 35 (0, 0))) := hb5.alloc hb5.size _
  have hz5 := hb5.size
  clear hb5 hr5
  go_upto_region 9 with fail
  clear st5
  have HB5 : Hid (Below w.heap.size w (x5.alloc (.cells c5.toArray 35 (0, 0)))) := Lib.hid (HB4.out.trans (hbb5.mono HB4.out.size))
  have HX3_5 := Lib.hid (HX3_4.out.below hbb5)
  have HX4_5 := Lib.hid (HX4_4.out.below hbb5)
  have HX5_5 := Lib.hid hx5
  clear hx5 hbb5
  generalize hb5d : x5.heap.size = b5 at *
  generalize x5.alloc (.cells c5.toArray 35 (0, 0)) = w5 at *
  clear hb5d
  go_wp2_with fail
  refine (parse_eq (textE e) _ _ m (maxc_below HM.out HB5.out) (by simp [textE])).mono ?_
  rintro e x6 ⟨hb6, c6, rfl, hr6⟩
  obtain ⟨st6, -⟩ := prov_io hr6
  have hx6 := prv_new hr6
  have hbb6 : Below w5.heap.size w5 (x6.alloc (.cells c6.toArray 35 (0, 0))) := hb6.alloc hb6.size _
  have hz6 := hb6.size
  clear hb6 hr6
  go_upto_region 10 with fail
  clear st6
  have HB6 : Hid (Below w.heap.size w (x6.alloc (.cells c6.toArray 35 (0, 0)))) := Lib.hid (HB5.out.trans (hbb6.mono HB5.out.size))
  have HX3_6 := Lib.hid (HX3_5.out.below hbb6)
  have HX4_6 := Lib.hid (HX4_5.out.below hbb6)
  have HX5_6 := Lib.hid (HX5_5.out.below hbb6)
  have HX6_6 := Lib.hid hx6
  clear hx6 hbb6
  generalize hb6d : x6.heap.size = b6 at *
  generalize x6.alloc (.cells c6.toArray 35 (0, 0)) = w6 at *
  clear hb6d
  go_wp2_with fail
  refine (parse_eq (textR g) _ _ m (maxc_below HM.out HB6.out) (by simp [textR])).mono ?_
  rintro e x7 ⟨hb7, c7, rfl, hr7⟩
  obtain ⟨st7, -⟩ := prov_io hr7
  have hx7 := prv_new hr7
  have hbb7 : Below w6.heap.size w6 (x7.alloc (.cells c7.toArray 35 (0, 0))) := hb7.alloc hb7.size _
  have hz7 := hb7.size
  clear hb7 hr7
  go_upto_region 11 with fail
  clear st7
  have HB7 : Hid (Below w.heap.size w (x7.alloc (.cells c7.toArray 35 (0, 0)))) := Lib.hid (HB6.out.trans (hbb7.mono HB6.out.size))
  have HX3_7 := Lib.hid (HX3_6.out.below hbb7)
  have HX4_7 := Lib.hid (HX4_6.out.below hbb7)
  have HX5_7 := Lib.hid (HX5_6.out.below hbb7)
  have HX6_7 := Lib.hid (HX6_6.out.below hbb7)
  have HX7_7 := Lib.hid hx7
  clear hx7 hbb7
  generalize hb7d : x7.heap.size = b7 at *
  generalize x7.alloc (.cells c7.toArray 35 (0, 0)) = w7 at *
  clear hb7d
  by_cases h1 : outE (textW a) = 0
  case neg =>
    have h1' : ¬ (outE (textW a) : Int) = 0 := by omega
    go_wp2_with fail
    go_ret
    exact ⟨rfl, HB7.out⟩
  by_cases h2 : outE (textX x) = 0
  case neg =>
    have h2' : ¬ (outE (textX x) : Int) = 0 := by omega
    rw [h1]
    go_wp2_with fail
    go_ret
    exact ⟨rfl, HB7.out⟩
  by_cases h3 : outE (textS s) = 0
  case neg =>
    have h3' : ¬ (outE (textS s) : Int) = 0 := by omega
    rw [h1, h2]
    go_wp2_with fail
    go_ret
    exact ⟨rfl, HB7.out⟩
  by_cases h4 : outE (textE e) = 0
  case neg =>
    have h4' : ¬ (outE (textE e) : Int) = 0 := by omega
    rw [h1, h2, h3]
    go_wp2_with fail
    go_ret
    exact ⟨rfl, HB7.out⟩
  by_cases h5 : outE (textR g) = 0
  case neg =>
    have h5' : ¬ (outE (textR g) : Int) = 0 := by omega
    rw [h1, h2, h3, h4]
    go_wp2_with fail
    go_ret
    exact ⟨rfl, HB7.out⟩
  have hpl := HP.out
  simp only [List.all_cons, List.all_nil, Bool.and_true, Bool.and_eq_true] at hpl
  obtain ⟨p1, p2, p3, p4, p5⟩ := hpl
  obtain ⟨la, lx, ls, le, lg⟩ := LEN.out
  obtain ⟨k0, kP⟩ := parts_law la lx ls le lg (plain_125 p1) (plain_41 p2) (plain_125 p3) (plain_125 p4) (plain_125 p5) h1 h2 h3 h4 h5
  have K0 := Lib.hid k0
  have KP := Lib.hid kP
  have KS := Lib.hid (out_small (textA a x s e g))
  rw [h1, h2, h3, h4, h5]
  clear h1 h2 h3 h4 h5 k0 kP p1 p2 p3 p4 p5 la lx ls le lg
  go_wp2_with fail
  refine (parse_eq (textA a x s e g) _ _ m (maxc_below HM.out HB7.out) (by simp [textA])).mono ?_
  rintro e x8 ⟨hb8, c8, rfl, hr8⟩
  obtain ⟨st8, -⟩ := prov_io hr8
  have hx8 := prv_new hr8
  have hbb8 : Below w7.heap.size w7 (x8.alloc (.cells c8.toArray 35 (0, 0))) := hb8.alloc hb8.size _
  have hz8 := hb8.size
  clear hb8 hr8
  go_upto_region 14 with fail
  clear st8
  have HB8 : Hid (Below w.heap.size w (x8.alloc (.cells c8.toArray 35 (0, 0)))) := Lib.hid (HB7.out.trans (hbb8.mono HB7.out.size))
  have HX3_8 := Lib.hid (HX3_7.out.below hbb8)
  have HX4_8 := Lib.hid (HX4_7.out.below hbb8)
  have HX5_8 := Lib.hid (HX5_7.out.below hbb8)
  have HX6_8 := Lib.hid (HX6_7.out.below hbb8)
  have HX7_8 := Lib.hid (HX7_7.out.below hbb8)
  have HX8_8 := Lib.hid hx8
  clear hx8 hbb8
  generalize hb8d : x8.heap.size = b8 at *
  generalize x8.alloc (.cells c8.toArray 35 (0, 0)) = w8 at *
  clear hb8d
  have hks := KS.out
  have hka := HX8_8.out
  rw [KP.out] at hks hka
  rw [K0.out]
  clear KS HX8_8 KP K0
  simp only at hks
  have KS := Lib.hid hks
  have HX8_8 := Lib.hid hka
  clear hks hka
  generalize outP (textW a) = PW at *
  generalize outP (textX x) = PX at *
  generalize outP (textS s) = PS' at *
  generalize outP (textE e) = PE at *
  generalize outP (textR g) = PR at *
  obtain ⟨id1, rank1, kind1, name1, value1, cond1, exc1, beg1, fin1, aga1⟩ := PW
  obtain ⟨id2, rank2, kind2, name2, value2, cond2, exc2, beg2, fin2, aga2⟩ := PX
  obtain ⟨id3, rank3, kind3, name3, value3, cond3, exc3, beg3, fin3, aga3⟩ := PS'
  obtain ⟨id4, rank4, kind4, name4, value4, cond4, exc4, beg4, fin4, aga4⟩ := PE
  obtain ⟨id5, rank5, kind5, name5, value5, cond5, exc5, beg5, fin5, aga5⟩ := PR
  simp only at *
  obtain ⟨oC, nC, dC, mC, ksC⟩ := cond1
  obtain ⟨oB, nB, dB, mB, ksB⟩ := beg3
  obtain ⟨oD, nD, dD, mD, ksD⟩ := fin4
  obtain ⟨oG, nG, dG, mG, ksG⟩ := aga5
  obtain ⟨KC, qC, ⟨u0, u1, u2, u3, u4⟩, ul, ut⟩ := HX3_8.out.cond rfl
  obtain ⟨A, cap, v0, vl, vcap, vt⟩ := HX4_8.out.exc
  obtain ⟨KB, qB, ⟨b0, b1, b2, b3⟩, bl, bt⟩ := HX5_8.out.beg rfl
  obtain ⟨KD, qD, ⟨d0, d1, d2, d3⟩, dl, dt⟩ := HX6_8.out.fin rfl
  obtain ⟨KG, qG, ⟨g0, g1, g2, g3⟩, gl, gt⟩ := HX7_8.out.aga rfl
  obtain ⟨cs8, hc8, hr8⟩ := HX8_8.out
  have hr9 : RdProv 0 w8 [vs [112], .int .i64 (1 : Nat), .int .i64 (2 : Nat), vs [113], .int .i64 (7 : Nat), .int .i64 (oC : Nat), vs nC, .int .i64 (dC : Nat), .int .i64 (mC : Nat), .slice KC ksC.length qC, .slice A exc2.length cap, .int .i64 (oB : Nat), vs nB, .int .i64 (mB : Nat), .slice KB ksB.length qB, .int .i64 (oD : Nat), vs nD, .int .i64 (mD : Nat), .slice KD ksD.length qD, .int .i64 (oG : Nat), vs nG, .int .i64 (mG : Nat), .slice KG ksG.length qG] ⟨[112], 1, 2, [113], 7, .mk oC nC dC mC ksC, exc2, .mk oB nB dB mB ksB, .mk oD nD dD mD ksD, .mk oG nG dG mG ksG⟩ :=
    ⟨tcs true oC nC dC mC (.slice KC ksC.length qC), A, cap, tcs false oB nB dB mB (.slice KB ksB.length qB), tcs false oD nD dD mD (.slice KD ksD.length qD), tcs false oG nG dG mG (.slice KG ksG.length qG), rfl, vcap, ut.keep (Nat.le_refl _) (fun _ _ _ => ⟨Nat.zero_le _, rfl⟩), vt, bt.keep (Nat.le_refl _) (fun _ _ _ => ⟨Nat.zero_le _, rfl⟩), dt.keep (Nat.le_refl _) (fun _ _ _ => ⟨Nat.zero_le _, rfl⟩), gt.keep (Nat.le_refl _) (fun _ _ _ => ⟨Nat.zero_le _, rfl⟩)⟩
  have HR8 := Lib.hid hr8
  have HR9 := Lib.hid hr9
  have K8 : w8.blk b8 = some (.cells cs8.toArray 35 (0, 0)) := hc8
  have k8l := lt_of_heap' hc8
  obtain ⟨-, ld8⟩ := prov_io hr8
  have st9 : ∀ (W : World) (b : Nat), rowStore W b #[.string ⟨#[112]⟩, .int .i64 1, .int .i64 2, .string ⟨#[113]⟩, .int .i64 7, .int .i64 (oC : Nat), vs nC, .int .i64 (dC : Nat), .int .i64 (mC : Nat), .slice KC ksC.length qC, .slice A exc2.length cap, .int .i64 (oB : Nat), vs nB, .int .i64 (mB : Nat), .slice KB ksB.length qB, .int .i64 (oD : Nat), vs nD, .int .i64 (mD : Nat), .slice KD ksD.length qD, .int .i64 (oG : Nat), vs nG, .int .i64 (mG : Nat), .slice KG ksG.length qG] (some (.cells zeroA 35 (0, 0))) = .ok () (W.setRow b #[.string ⟨#[112]⟩, .int .i64 1, .int .i64 2, .string ⟨#[113]⟩, .int .i64 7, .int .i64 (oC : Nat), vs nC, .int .i64 (dC : Nat), .int .i64 (mC : Nat), .slice KC ksC.length qC, .slice A exc2.length cap, .int .i64 (oB : Nat), vs nB, .int .i64 (mB : Nat), .slice KB ksB.length qB, .int .i64 (oD : Nat), vs nD, .int .i64 (mD : Nat), .slice KD ksD.length qD, .int .i64 (oG : Nat), vs nG, .int .i64 (mG : Nat), .slice KG ksG.length qG]) := (prov_io hr9).1
  have ld9 : ∀ (W : World) (b : Nat) (t : TypeId) (fr : Nat × Nat), rowLoadP W b (some (.cells #[.string ⟨#[112]⟩, .int .i64 1, .int .i64 2, .string ⟨#[113]⟩, .int .i64 7, .int .i64 (oC : Nat), vs nC, .int .i64 (dC : Nat), .int .i64 (mC : Nat), .slice KC ksC.length qC, .slice A exc2.length cap, .int .i64 (oB : Nat), vs nB, .int .i64 (mB : Nat), .slice KB ksB.length qB, .int .i64 (oD : Nat), vs nD, .int .i64 (mD : Nat), .slice KD ksD.length qD, .int .i64 (oG : Nat), vs nG, .int .i64 (mG : Nat), .slice KG ksG.length qG] t fr)) = .ok (.agg #[.string ⟨#[112]⟩, .int .i64 1, .int .i64 2, .string ⟨#[113]⟩, .int .i64 7, .int .i64 (oC : Nat), vs nC, .int .i64 (dC : Nat), .int .i64 (mC : Nat), .slice KC ksC.length qC, .slice A exc2.length cap, .int .i64 (oB : Nat), vs nB, .int .i64 (mB : Nat), .slice KB ksB.length qB, .int .i64 (oD : Nat), vs nD, .int .i64 (mD : Nat), .slice KD ksD.length qD, .int .i64 (oG : Nat), vs nG, .int .i64 (mG : Nat), .slice KG ksG.length qG]) W := (prov_io hr9).2
  clear ut vt bt dt gt hr8 hr9 vcap hc8
  have HB9 : Hid (Below w.heap.size w (w8.alloc (.cells #[.string ⟨#[112]⟩, .int .i64 1, .int .i64 2, .string ⟨#[113]⟩, .int .i64 7, .int .i64 (oC : Nat), vs nC, .int .i64 (dC : Nat), .int .i64 (mC : Nat), .slice KC ksC.length qC, .slice A exc2.length cap, .int .i64 (oB : Nat), vs nB, .int .i64 (mB : Nat), .slice KB ksB.length qB, .int .i64 (oD : Nat), vs nD, .int .i64 (mD : Nat), .slice KD ksD.length qD, .int .i64 (oG : Nat), vs nG, .int .i64 (mG : Nat), .slice KG ksG.length qG] 35 (0, 0)))) := Lib.hid (HB8.out.alloc HB8.out.size _)
  have hal : Below w8.heap.size w8 (w8.alloc (.cells #[.string ⟨#[112]⟩, .int .i64 1, .int .i64 2, .string ⟨#[113]⟩, .int .i64 7, .int .i64 (oC : Nat), vs nC, .int .i64 (dC : Nat), .int .i64 (mC : Nat), .slice KC ksC.length qC, .slice A exc2.length cap, .int .i64 (oB : Nat), vs nB, .int .i64 (mB : Nat), .slice KB ksB.length qB, .int .i64 (oD : Nat), vs nD, .int .i64 (mD : Nat), .slice KD ksD.length qD, .int .i64 (oG : Nat), vs nG, .int .i64 (mG : Nat), .slice KG ksG.length qG] 35 (0, 0))) := (Below.refl _ _).alloc (Nat.le_refl _) _
  have HRA := Lib.hid (HR8.out.below (n := 0) hal)
  have HRB := Lib.hid (HR9.out.below (n := 0) hal)
  clear hal
  go_wp2_with fail
  obtain ⟨s1, s2, s3, s4, s5⟩ := KS.out
  refine (same_any _ _ _ _ _ _ HRA.out HRB.out s1 s2 s3 s4 s5).mono ?_
  rintro e3 wA ⟨rfl, hbA⟩
  have HBA : Hid (Below w.heap.size w wA) := Lib.hid (HB9.out.trans (hbA.mono HB9.out.size))
  clear hbA
  go_wp2_with fail
  go_ret
  exact ⟨rfl, HBA.out⟩
theorem parts_law_any (a x s e g : List UInt8) (w : World) (m : Int) (hm : w.cell? ⟨2, 0, none⟩ = some (.int .i64 m)) :
    Calls Tryd.prog 6 #[vs a, vs x, vs s, vs e, vs g] w fun e w' => e = .returned (.bool true) ∧ Below w.heap.size w w' := by
  by_cases la : 500 < a.length
  · exact parts_no a x s e g w m hm (.inl la)
  by_cases lx : 500 < x.length
  · exact parts_no a x s e g w m hm (.inr (.inl lx))
  by_cases ls : 500 < s.length
  · exact parts_no a x s e g w m hm (.inr (.inr (.inl ls)))
  by_cases le : 500 < e.length
  · exact parts_no a x s e g w m hm (.inr (.inr (.inr (.inl le))))
  by_cases lg : 500 < g.length
  · exact parts_no a x s e g w m hm (.inr (.inr (.inr (.inr (.inl lg)))))
  cases hp : [a, x, s, e, g].all plainB with
  | false => exact parts_no a x s e g w m hm (.inr (.inr (.inr (.inr (.inr hp)))))
  | true => exact parts_yes a x s e g w m hm (by omega) (by omega) (by omega) (by omega) (by omega) hp
end Go.Proofs.YtcekampdldkjlaaDoor
