/- The law of postfix. -/
import Derived.Test.YtcekampdldkjlaaDoorSPrv
import Derived.Deep.CutRange
set_option linter.unusedVariables false
set_option linter.unusedSimpArgs false
namespace Go.Proofs.YtcekampdldkjlaaDoor
open Go.RowKit
set_option maxRecDepth 100000 in
set_option maxHeartbeats 4000000 in
theorem post_no (a b : List UInt8) (w : World) (m : Int) (hm : w.cell? ⟨2, 0, none⟩ = some (.int .i64 m)) (hno : 900 < a.length ∨ 900 < b.length ∨ a.length ≤ 900 ∧ b.length ≤ 900 ∧ [a, b].all plainB = false) :
    Calls Tryd.prog 5 #[vs a, vs b] w fun e w' => e = .returned (.bool true) ∧ Below w.heap.size w w' := by
  have HM := Lib.hid hm
  clear hm
  go_enter Tryd.func5, Tryd.ntmps5
  go_wp2_with fail
  refine (head_any w m HM.out).mono ?_
  rintro e w1 ⟨rfl, hb1⟩
  have HB1 := Lib.hid hb1
  clear hb1
  by_cases ha : 900 < a.length
  · have ha' : (900 : Int) < a.length := by omega
    go_wp2_with fail
    go_ret
    exact ⟨rfl, HB1.out⟩
  have ha' : ¬ (900 : Int) < a.length := by omega
  by_cases hb : 900 < b.length
  · have hb' : (900 : Int) < b.length := by omega
    go_wp2_with fail
    go_ret
    exact ⟨rfl, HB1.out⟩
  have hb' : ¬ (900 : Int) < b.length := by omega
  have HP : Hid ([a, b].all plainB = false) := Lib.hid (by
    rcases hno with h | h | h
    · omega
    · omega
    · exact h.2.2)
  have hla : ∀ s ∈ [a, b], s.length ≤ 1000 := by
    intro s hs
    simp at hs
    rcases hs with rfl | rfl <;> omega
  have HLA := Lib.hid hla
  clear hno hla
  go_wp2_with fail
  refine (plain_any [a, b] _ 2 _ (row_rd (heap_alloc_new w1 _) rfl) (by simp) HLA.out).mono ?_
  rintro e w2 ⟨rfl, rfl⟩
  rw [HP.out]
  go_wp2_with fail
  go_ret
  exact ⟨rfl, HB1.out.alloc HB1.out.size _⟩
theorem cond_small (l : List UInt8) : (outP l).cond.size ≤ 200 := by
  unfold outP
  split
  · rename_i p h
    obtain ⟨ts, -, hp⟩ := parse_prov h
    exact (prov_small hp).1
  · decide
set_option maxRecDepth 100000 in
set_option maxHeartbeats 8000000 in
theorem post_yes (a b : List UInt8) (w : World) (m : Int) (hm : w.cell? ⟨2, 0, none⟩ = some (.int .i64 m)) (hla : a.length ≤ 900) (hlb : b.length ≤ 900) (hp : [a, b].all plainB = true) :
    Calls Tryd.prog 5 #[vs a, vs b] w fun e w' => e = .returned (.bool true) ∧ Below w.heap.size w w' := by
  have HM := Lib.hid hm
  have HP := Lib.hid hp
  have HLA := Lib.hid hla
  have HLB := Lib.hid hlb
  have hls : ∀ s ∈ [a, b], s.length ≤ 1000 := by
    intro s hs
    simp at hs
    rcases hs with rfl | rfl <;> omega
  have HLS := Lib.hid hls
  have ha' : ¬ (900 : Int) < a.length := by omega
  have hb' : ¬ (900 : Int) < b.length := by omega
  clear hm hp hls
  go_enter Tryd.func5, Tryd.ntmps5
  go_wp2_with fail
  refine (head_any w m HM.out).mono ?_
  rintro e w1 ⟨rfl, hb1⟩
  have HB1 := Lib.hid hb1
  clear hb1
  go_wp2_with fail
  refine (plain_any [a, b] _ 2 _ (row_rd (heap_alloc_new w1 _) rfl) (by simp) HLS.out).mono ?_
  rintro e w2 ⟨rfl, rfl⟩
  rw [HP.out]
  go_upto_region 5 with fail
  have HB2 : Hid (Below w.heap.size w (w1.alloc (.cells #[vs a, vs b] 9 (0, 0)))) := Lib.hid (HB1.out.alloc HB1.out.size _)
  generalize w1.alloc (.cells #[vs a, vs b] 9 (0, 0)) = w2 at *
  clear ha' hb' HB1
  have q1 : ¬ 9223372036854775807 < 7 + a.length := by omega
  have q2 : ¬ 9223372036854775807 < 7 + a.length + 18 := by omega
  have q3 : ¬ 9223372036854775807 < 7 + b.length := by omega
  have q4 : ¬ 9223372036854775807 < 7 + b.length + 18 := by omega
  have q5 : ¬ 9223372036854775807 < 7 + a.length + 1 := by omega
  have q6 : ¬ 9223372036854775807 < 7 + a.length + 1 + b.length := by omega
  have q7 : ¬ 9223372036854775807 < 7 + a.length + 1 + b.length + 6 := by omega
  have q8 : ¬ 9223372036854775807 < 7 + a.length + 1 + b.length + 6 + 18 := by omega
  have q9 : ¬ 9223372036854775807 < 7 + a.length + 8 := by omega
  have q10 : ¬ 9223372036854775807 < 7 + a.length + 8 + 18 := by omega
  clear hla hlb
  go_wp2_with fail
  refine (parse_eq (textP a) _ _ m (maxc_below HM.out HB2.out) (by simp [textP])).mono ?_
  rintro e x3 ⟨hb3, c3, rfl, hr3⟩
  obtain ⟨st3, -⟩ := prov_io hr3
  have hx3 := prv_new hr3
  have hbb3 : Below w2.heap.size w2 (x3.alloc (.cells c3.toArray 35 (0, 0))) := hb3.alloc hb3.size _
  have hz3 := hb3.size
  clear hb3 hr3
  go_upto_region 6 with fail
  clear st3
  have HB3 : Hid (Below w.heap.size w (x3.alloc (.cells c3.toArray 35 (0, 0)))) := Lib.hid (HB2.out.trans (hbb3.mono HB2.out.size))
  have HX3_3 := Lib.hid hx3
  clear hx3 hbb3
  generalize hb3d : x3.heap.size = b3 at *
  generalize x3.alloc (.cells c3.toArray 35 (0, 0)) = w3 at *
  clear hb3d
  go_wp2_with fail
  refine (parse_eq (textP b) _ _ m (maxc_below HM.out HB3.out) (by simp [textP])).mono ?_
  rintro e x4 ⟨hb4, c4, rfl, hr4⟩
  obtain ⟨st4, -⟩ := prov_io hr4
  have hx4 := prv_new hr4
  have hbb4 : Below w3.heap.size w3 (x4.alloc (.cells c4.toArray 35 (0, 0))) := hb4.alloc hb4.size _
  have hz4 := hb4.size
  clear hb4 hr4
  go_upto_region 7 with fail
  clear st4
  have HB4 : Hid (Below w.heap.size w (x4.alloc (.cells c4.toArray 35 (0, 0)))) := Lib.hid (HB3.out.trans (hbb4.mono HB3.out.size))
  have HX3_4 := Lib.hid (HX3_3.out.below hbb4)
  have HX4_4 := Lib.hid hx4
  clear hx4 hbb4
  generalize hb4d : x4.heap.size = b4 at *
  generalize x4.alloc (.cells c4.toArray 35 (0, 0)) = w4 at *
  clear hb4d
  by_cases h1 : outE (textP a) = 0
  case neg =>
    have h1' : ¬ (outE (textP a) : Int) = 0 := by omega
    go_wp2_with fail
    go_ret
    exact ⟨rfl, HB4.out⟩
  by_cases h2 : outE (textP b) = 0
  case neg =>
    have h2' : ¬ (outE (textP b) : Int) = 0 := by omega
    rw [h1]
    go_wp2_with fail
    go_ret
    exact ⟨rfl, HB4.out⟩
  have hpl := HP.out
  simp only [List.all_cons, List.all_nil, Bool.and_true, Bool.and_eq_true] at hpl
  have HLAW := Lib.hid (post_law HLA.out HLB.out (plain_125 hpl.1) (plain_125 hpl.2) h1 h2)
  have HNOT := Lib.hid (post_not HLA.out (plain_125 hpl.1) h1)
  rw [h1, h2]
  clear h1 h2 hpl
  go_wp2_with fail
  refine (parse_eq (textQ a b bAll) _ _ m (maxc_below HM.out HB4.out) (by simp [textQ])).mono ?_
  rintro e x5 ⟨hb5, c5, rfl, hr5⟩
  obtain ⟨st5, -⟩ := prov_io hr5
  have hx5 := prv_new hr5
  have hbb5 : Below w4.heap.size w4 (x5.alloc (.cells c5.toArray 35 (0, 0))) := hb5.alloc hb5.size _
  have hz5 := hb5.size
  clear hb5 hr5
  go_upto_region 10 with fail
  clear st5
  have HB5 : Hid (Below w.heap.size w (x5.alloc (.cells c5.toArray 35 (0, 0)))) := Lib.hid (HB4.out.trans (hbb5.mono HB4.out.size))
  have HX3_5 := Lib.hid (HX3_4.out.below hbb5)
  have HX4_5 := Lib.hid (HX4_4.out.below hbb5)
  have HX5_5 := Lib.hid hx5
  clear hx5 hbb5
  generalize hb5d : x5.heap.size = b5 at *
  generalize x5.alloc (.cells c5.toArray 35 (0, 0)) = w5 at *
  clear hb5d
  go_wp2_with fail
  refine (parse_eq (textQ a b bAny) _ _ m (maxc_below HM.out HB5.out) (by simp [textQ])).mono ?_
  rintro e x6 ⟨hb6, c6, rfl, hr6⟩
  obtain ⟨st6, -⟩ := prov_io hr6
  have hx6 := prv_new hr6
  have hbb6 : Below w5.heap.size w5 (x6.alloc (.cells c6.toArray 35 (0, 0))) := hb6.alloc hb6.size _
  have hz6 := hb6.size
  clear hb6 hr6
  go_upto_region 11 with fail
  clear st6
  have HB6 : Hid (Below w.heap.size w (x6.alloc (.cells c6.toArray 35 (0, 0)))) := Lib.hid (HB5.out.trans (hbb6.mono HB5.out.size))
  have HX3_6 := Lib.hid (HX3_5.out.below hbb6)
  have HX4_6 := Lib.hid (HX4_5.out.below hbb6)
  have HX5_6 := Lib.hid (HX5_5.out.below hbb6)
  have HX6_6 := Lib.hid hx6
  clear hx6 hbb6
  generalize hb6d : x6.heap.size = b6 at *
  generalize x6.alloc (.cells c6.toArray 35 (0, 0)) = w6 at *
  clear hb6d
  go_wp2_with fail
  refine (parse_eq (textN a) _ _ m (maxc_below HM.out HB6.out) (by simp [textN])).mono ?_
  rintro e x7 ⟨hb7, c7, rfl, hr7⟩
  obtain ⟨st7, -⟩ := prov_io hr7
  have hx7 := prv_new hr7
  have hbb7 : Below w6.heap.size w6 (x7.alloc (.cells c7.toArray 35 (0, 0))) := hb7.alloc hb7.size _
  have hz7 := hb7.size
  clear hb7 hr7
  go_upto_region 12 with fail
  clear st7
  have HB7 : Hid (Below w.heap.size w (x7.alloc (.cells c7.toArray 35 (0, 0)))) := Lib.hid (HB6.out.trans (hbb7.mono HB6.out.size))
  have HX3_7 := Lib.hid (HX3_6.out.below hbb7)
  have HX4_7 := Lib.hid (HX4_6.out.below hbb7)
  have HX5_7 := Lib.hid (HX5_6.out.below hbb7)
  have HX6_7 := Lib.hid (HX6_6.out.below hbb7)
  have HX7_7 := Lib.hid hx7
  clear hx7 hbb7
  generalize hb7d : x7.heap.size = b7 at *
  generalize x7.alloc (.cells c7.toArray 35 (0, 0)) = w7 at *
  clear hb7d
  have HS : Hid (∀ t : List UInt8, (outP t).cond.size ≤ 200) := Lib.hid cond_small
  generalize outE (textQ a b bAll) = E1 at *
  generalize outE (textQ a b bAny) = E2 at *
  generalize outE (textN a) = E3 at *
  have hSX := HS.out (textP a)
  have hSY := HS.out (textP b)
  generalize hX : (outP (textP a)).cond = X at *
  generalize hY : (outP (textP b)).cond = Y at *
  obtain ⟨oX, nX, dX, mX, ksX⟩ := X
  obtain ⟨oY, nY, dY, mY, ksY⟩ := Y
  rcases HLAW.out with hlaw | hlaw
  · rcases HNOT.out with ⟨rfl, hc5⟩ | rfl
    · obtain ⟨rfl, rfl, hc6, hc7⟩ := hlaw
      obtain ⟨Kx, qx, ⟨x0, x1, x2, x3, x4⟩, xl, xt⟩ := HX3_7.out.cond hX
      obtain ⟨Ky, qy, ⟨y0, y1, y2, y3, y4⟩, yl, yt⟩ := HX4_7.out.cond hY
      have XT := Lib.hid xt
      have YT := Lib.hid yt
      have HC6 := Lib.hid hc6
      have HC7 := Lib.hid hc7
      have HXX := Lib.hid hX
      clear xt yt hc6 hc7 hX hY
      have HC5 := Lib.hid hc5
      clear hc5
      go_upto_region 16 with fail
      clear x0 x1 x2 x3 x4 y0 y1 y2 y3 y4
      have hal : Below w7.heap.size w7 (w7.alloc (.cells #[.int .i64 (oX : Nat), vs nX, .int .i64 (dX : Nat), .int .i64 (mX : Nat), .slice Kx ksX.length qx, .int .i64 (oY : Nat), vs nY, .int .i64 (dY : Nat), .int .i64 (mY : Nat), .slice Ky ksY.length qy] 29 (0, 0))) := (Below.refl _ _).alloc (Nat.le_refl _) _
      have HK := Lib.hid (heap_alloc_new w7 (.cells #[.int .i64 (oX : Nat), vs nX, .int .i64 (dX : Nat), .int .i64 (mX : Nat), .slice Kx ksX.length qx, .int .i64 (oY : Nat), vs nY, .int .i64 (dY : Nat), .int .i64 (mY : Nat), .slice Ky ksY.length qy] 29 (0, 0)))
      have HB8 : Hid (Below w.heap.size w (w7.alloc (.cells #[.int .i64 (oX : Nat), vs nX, .int .i64 (dX : Nat), .int .i64 (mX : Nat), .slice Kx ksX.length qx, .int .i64 (oY : Nat), vs nY, .int .i64 (dY : Nat), .int .i64 (mY : Nat), .slice Ky ksY.length qy] 29 (0, 0)))) := Lib.hid (HB7.out.alloc HB7.out.size _)
      have hz8 : w7.heap.size < (w7.alloc (.cells #[.int .i64 (oX : Nat), vs nX, .int .i64 (dX : Nat), .int .i64 (mX : Nat), .slice Kx ksX.length qx, .int .i64 (oY : Nat), vs nY, .int .i64 (dY : Nat), .int .i64 (mY : Nat), .slice Ky ksY.length qy] 29 (0, 0))).heap.size := by simp
      have HX3_8 := Lib.hid (HX3_7.out.below hal)
      have HX5_8 := Lib.hid (HX5_7.out.below hal)
      have HX6_8 := Lib.hid (HX6_7.out.below hal)
      have HX7_8 := Lib.hid (HX7_7.out.below hal)
      have XT8 := Lib.hid (XT.out.down hal)
      have YT8 := Lib.hid (YT.out.down hal)
      clear hal XT YT
      generalize hbk : w7.heap.size = bk at *
      generalize w7.alloc (.cells #[.int .i64 (oX : Nat), vs nX, .int .i64 (dX : Nat), .int .i64 (mX : Nat), .slice Kx ksX.length qx, .int .i64 (oY : Nat), vs nY, .int .i64 (dY : Nat), .int .i64 (mY : Nat), .slice Ky ksY.length qy] 29 (0, 0)) = w8 at *
      have HKD := Lib.hid (two_rd (csa := tcs true oX nX dX mX (.slice Kx ksX.length qx)) (csb := tcs true oY nY dY mY (.slice Ky ksY.length qy)) HK.out XT8.out YT8.out)
      clear HK hbk
      obtain ⟨K6, q6, ⟨s0, s1, s2, s3, s4⟩, sl, st⟩ := HX5_8.out.cond HC6.out
      have ST := Lib.hid st
      clear st
      go_wp2_with fail
      refine (same_f _ (.mk 6 [] 0 0 [.mk oX nX dX mX ksX, .mk oY nY dY mY ksY]) (tcs true 6 [] 0 0 (.slice K6 2 q6)) (tcs true 6 [] 0 0 (.slice (some ⟨bk, 0, none⟩) 2 2)) w8 (Nat.le_refl _) (by simp only [Tree.size, sizes] at hSX hSY ⊢; omega) ST.out (made_rd rfl hz8 HKD.out)).mono ?_
      rintro e w9 ⟨rfl, hb9⟩
      have HB9 : Hid (Below w.heap.size w w9) := Lib.hid (HB8.out.trans (hb9.mono HB8.out.size))
      have HX3_9 := Lib.hid (HX3_8.out.below hb9)
      have HX6_9 := Lib.hid (HX6_8.out.below hb9)
      have HX7_9 := Lib.hid (HX7_8.out.below hb9)
      have HKD9 : Hid (RdTree true (fun _ => True) w9 (tcs true 7 [] 0 0 (.slice (some ⟨bk, 0, none⟩) 2 2)) (.mk 7 [] 0 0 [.mk oX nX dX mX ksX, .mk oY nY dY mY ksY])) := Lib.hid ((made_rd rfl hz8 HKD.out).down hb9)
      clear hb9 s0 s1 s2 s3 s4 sl ST HKD
      obtain ⟨K7, q7, ⟨s0, s1, s2, s3, s4⟩, sl, st⟩ := HX6_9.out.cond HC7.out
      have ST := Lib.hid st
      clear st
      go_wp2_with fail
      refine (same_f _ (.mk 7 [] 0 0 [.mk oX nX dX mX ksX, .mk oY nY dY mY ksY]) (tcs true 7 [] 0 0 (.slice K7 2 q7)) (tcs true 7 [] 0 0 (.slice (some ⟨bk, 0, none⟩) 2 2)) w9 (Nat.le_refl _) (by simp only [Tree.size, sizes] at hSX hSY ⊢; omega) ST.out HKD9.out).mono ?_
      rintro e wA ⟨rfl, hbA⟩
      have HBA : Hid (Below w.heap.size w wA) := Lib.hid (HB9.out.trans (hbA.mono HB9.out.size))
      have HX3_A := Lib.hid (HX3_9.out.below hbA)
      have HX7_A := Lib.hid (HX7_9.out.below hbA)
      clear hbA s0 s1 s2 s3 s4 sl ST HKD9
      obtain ⟨Kx, qx, ⟨x0, x1, x2, x3, x4⟩, xl, xt⟩ := HX3_A.out.cond HXX.out
      obtain ⟨Kn, qn, ⟨n0, n1, n2, n3, n4⟩, nl, nt⟩ := HX7_A.out.cond HC5.out
      have hal : Below wA.heap.size wA (wA.alloc (.cells #[.int .i64 (oX : Nat), vs nX, .int .i64 (dX : Nat), .int .i64 (mX : Nat), .slice Kx ksX.length qx] 29 (0, 0))) := (Below.refl _ _).alloc (Nat.le_refl _) _
      have HBC : Hid (Below w.heap.size w (wA.alloc (.cells #[.int .i64 (oX : Nat), vs nX, .int .i64 (dX : Nat), .int .i64 (mX : Nat), .slice Kx ksX.length qx] 29 (0, 0)))) := Lib.hid (HBA.out.alloc HBA.out.size _)
      have HKD : Hid (RdTree true (fun _ => True) (wA.alloc (.cells #[.int .i64 (oX : Nat), vs nX, .int .i64 (dX : Nat), .int .i64 (mX : Nat), .slice Kx ksX.length qx] 29 (0, 0))) (tcs true 5 [] 0 0 (.slice (some ⟨wA.heap.size, 0, none⟩) 1 1)) (.mk 5 [] 0 0 [.mk oX nX dX mX ksX])) := Lib.hid (made_rd rfl (by simp) (one_rd (csa := tcs true oX nX dX mX (.slice Kx ksX.length qx)) (heap_alloc_new wA _) (xt.down hal)))
      have NT := Lib.hid (nt.down hal)
      clear xt nt hal
      go_wp2_with fail
      refine (same_f _ (.mk 5 [] 0 0 [.mk oX nX dX mX ksX]) (tcs true 5 [] 0 0 (.slice Kn 1 qn)) (tcs true 5 [] 0 0 (.slice (some ⟨wA.heap.size, 0, none⟩) 1 1)) _ (Nat.le_refl _) (by simp only [Tree.size, sizes] at hSX ⊢; omega) NT.out HKD.out).mono ?_
      rintro e wC ⟨rfl, hbC⟩
      have HBD : Hid (Below w.heap.size w wC) := Lib.hid (HBC.out.trans (hbC.mono HBC.out.size))
      clear hbC x0 x1 x2 x3 x4 n0 n1 n2 n3 n4
      go_wp2_with fail
      go_ret
      exact ⟨rfl, HBD.out⟩
    · obtain ⟨rfl, rfl, hc6, hc7⟩ := hlaw
      obtain ⟨Kx, qx, ⟨x0, x1, x2, x3, x4⟩, xl, xt⟩ := HX3_7.out.cond hX
      obtain ⟨Ky, qy, ⟨y0, y1, y2, y3, y4⟩, yl, yt⟩ := HX4_7.out.cond hY
      have XT := Lib.hid xt
      have YT := Lib.hid yt
      have HC6 := Lib.hid hc6
      have HC7 := Lib.hid hc7
      have HXX := Lib.hid hX
      clear xt yt hc6 hc7 hX hY
      go_upto_region 16 with fail
      clear x0 x1 x2 x3 x4 y0 y1 y2 y3 y4
      have hal : Below w7.heap.size w7 (w7.alloc (.cells #[.int .i64 (oX : Nat), vs nX, .int .i64 (dX : Nat), .int .i64 (mX : Nat), .slice Kx ksX.length qx, .int .i64 (oY : Nat), vs nY, .int .i64 (dY : Nat), .int .i64 (mY : Nat), .slice Ky ksY.length qy] 29 (0, 0))) := (Below.refl _ _).alloc (Nat.le_refl _) _
      have HK := Lib.hid (heap_alloc_new w7 (.cells #[.int .i64 (oX : Nat), vs nX, .int .i64 (dX : Nat), .int .i64 (mX : Nat), .slice Kx ksX.length qx, .int .i64 (oY : Nat), vs nY, .int .i64 (dY : Nat), .int .i64 (mY : Nat), .slice Ky ksY.length qy] 29 (0, 0)))
      have HB8 : Hid (Below w.heap.size w (w7.alloc (.cells #[.int .i64 (oX : Nat), vs nX, .int .i64 (dX : Nat), .int .i64 (mX : Nat), .slice Kx ksX.length qx, .int .i64 (oY : Nat), vs nY, .int .i64 (dY : Nat), .int .i64 (mY : Nat), .slice Ky ksY.length qy] 29 (0, 0)))) := Lib.hid (HB7.out.alloc HB7.out.size _)
      have hz8 : w7.heap.size < (w7.alloc (.cells #[.int .i64 (oX : Nat), vs nX, .int .i64 (dX : Nat), .int .i64 (mX : Nat), .slice Kx ksX.length qx, .int .i64 (oY : Nat), vs nY, .int .i64 (dY : Nat), .int .i64 (mY : Nat), .slice Ky ksY.length qy] 29 (0, 0))).heap.size := by simp
      have HX3_8 := Lib.hid (HX3_7.out.below hal)
      have HX5_8 := Lib.hid (HX5_7.out.below hal)
      have HX6_8 := Lib.hid (HX6_7.out.below hal)
      have HX7_8 := Lib.hid (HX7_7.out.below hal)
      have XT8 := Lib.hid (XT.out.down hal)
      have YT8 := Lib.hid (YT.out.down hal)
      clear hal XT YT
      generalize hbk : w7.heap.size = bk at *
      generalize w7.alloc (.cells #[.int .i64 (oX : Nat), vs nX, .int .i64 (dX : Nat), .int .i64 (mX : Nat), .slice Kx ksX.length qx, .int .i64 (oY : Nat), vs nY, .int .i64 (dY : Nat), .int .i64 (mY : Nat), .slice Ky ksY.length qy] 29 (0, 0)) = w8 at *
      have HKD := Lib.hid (two_rd (csa := tcs true oX nX dX mX (.slice Kx ksX.length qx)) (csb := tcs true oY nY dY mY (.slice Ky ksY.length qy)) HK.out XT8.out YT8.out)
      clear HK hbk
      obtain ⟨K6, q6, ⟨s0, s1, s2, s3, s4⟩, sl, st⟩ := HX5_8.out.cond HC6.out
      have ST := Lib.hid st
      clear st
      go_wp2_with fail
      refine (same_f _ (.mk 6 [] 0 0 [.mk oX nX dX mX ksX, .mk oY nY dY mY ksY]) (tcs true 6 [] 0 0 (.slice K6 2 q6)) (tcs true 6 [] 0 0 (.slice (some ⟨bk, 0, none⟩) 2 2)) w8 (Nat.le_refl _) (by simp only [Tree.size, sizes] at hSX hSY ⊢; omega) ST.out (made_rd rfl hz8 HKD.out)).mono ?_
      rintro e w9 ⟨rfl, hb9⟩
      have HB9 : Hid (Below w.heap.size w w9) := Lib.hid (HB8.out.trans (hb9.mono HB8.out.size))
      have HX3_9 := Lib.hid (HX3_8.out.below hb9)
      have HX6_9 := Lib.hid (HX6_8.out.below hb9)
      have HX7_9 := Lib.hid (HX7_8.out.below hb9)
      have HKD9 : Hid (RdTree true (fun _ => True) w9 (tcs true 7 [] 0 0 (.slice (some ⟨bk, 0, none⟩) 2 2)) (.mk 7 [] 0 0 [.mk oX nX dX mX ksX, .mk oY nY dY mY ksY])) := Lib.hid ((made_rd rfl hz8 HKD.out).down hb9)
      clear hb9 s0 s1 s2 s3 s4 sl ST HKD
      obtain ⟨K7, q7, ⟨s0, s1, s2, s3, s4⟩, sl, st⟩ := HX6_9.out.cond HC7.out
      have ST := Lib.hid st
      clear st
      go_wp2_with fail
      refine (same_f _ (.mk 7 [] 0 0 [.mk oX nX dX mX ksX, .mk oY nY dY mY ksY]) (tcs true 7 [] 0 0 (.slice K7 2 q7)) (tcs true 7 [] 0 0 (.slice (some ⟨bk, 0, none⟩) 2 2)) w9 (Nat.le_refl _) (by simp only [Tree.size, sizes] at hSX hSY ⊢; omega) ST.out HKD9.out).mono ?_
      rintro e wA ⟨rfl, hbA⟩
      have HBA : Hid (Below w.heap.size w wA) := Lib.hid (HB9.out.trans (hbA.mono HB9.out.size))
      have HX3_A := Lib.hid (HX3_9.out.below hbA)
      have HX7_A := Lib.hid (HX7_9.out.below hbA)
      clear hbA s0 s1 s2 s3 s4 sl ST HKD9
      go_wp2_with fail
      go_ret
      exact ⟨rfl, HBA.out⟩
  · rcases HNOT.out with ⟨rfl, hc5⟩ | rfl
    · obtain ⟨rfl, rfl⟩ := hlaw
      have HC5 := Lib.hid hc5
      have HXX := Lib.hid hX
      clear hc5 hX hY
      obtain ⟨Kx, qx, ⟨x0, x1, x2, x3, x4⟩, xl, xt⟩ := HX3_7.out.cond HXX.out
      obtain ⟨Kn, qn, ⟨n0, n1, n2, n3, n4⟩, nl, nt⟩ := HX7_7.out.cond HC5.out
      have hal : Below w7.heap.size w7 (w7.alloc (.cells #[.int .i64 (oX : Nat), vs nX, .int .i64 (dX : Nat), .int .i64 (mX : Nat), .slice Kx ksX.length qx] 29 (0, 0))) := (Below.refl _ _).alloc (Nat.le_refl _) _
      have HBC : Hid (Below w.heap.size w (w7.alloc (.cells #[.int .i64 (oX : Nat), vs nX, .int .i64 (dX : Nat), .int .i64 (mX : Nat), .slice Kx ksX.length qx] 29 (0, 0)))) := Lib.hid (HB7.out.alloc HB7.out.size _)
      have HKD : Hid (RdTree true (fun _ => True) (w7.alloc (.cells #[.int .i64 (oX : Nat), vs nX, .int .i64 (dX : Nat), .int .i64 (mX : Nat), .slice Kx ksX.length qx] 29 (0, 0))) (tcs true 5 [] 0 0 (.slice (some ⟨w7.heap.size, 0, none⟩) 1 1)) (.mk 5 [] 0 0 [.mk oX nX dX mX ksX])) := Lib.hid (made_rd rfl (by simp) (one_rd (csa := tcs true oX nX dX mX (.slice Kx ksX.length qx)) (heap_alloc_new w7 _) (xt.down hal)))
      have NT := Lib.hid (nt.down hal)
      clear xt nt hal
      go_wp2_with fail
      refine (same_f _ (.mk 5 [] 0 0 [.mk oX nX dX mX ksX]) (tcs true 5 [] 0 0 (.slice Kn 1 qn)) (tcs true 5 [] 0 0 (.slice (some ⟨w7.heap.size, 0, none⟩) 1 1)) _ (Nat.le_refl _) (by simp only [Tree.size, sizes] at hSX ⊢; omega) NT.out HKD.out).mono ?_
      rintro e wC ⟨rfl, hbC⟩
      have HBD : Hid (Below w.heap.size w wC) := Lib.hid (HBC.out.trans (hbC.mono HBC.out.size))
      clear hbC x0 x1 x2 x3 x4 n0 n1 n2 n3 n4
      go_wp2_with fail
      go_ret
      exact ⟨rfl, HBD.out⟩
    · obtain ⟨rfl, rfl⟩ := hlaw
      clear hX hY
      go_wp2_with fail
      go_ret
      exact ⟨rfl, HB7.out⟩
theorem postfix_law (a b : List UInt8) (w : World) (m : Int) (hm : w.cell? ⟨2, 0, none⟩ = some (.int .i64 m)) :
    Calls Tryd.prog 5 #[vs a, vs b] w fun e w' => e = .returned (.bool true) ∧ Below w.heap.size w w' := by
  by_cases ha : 900 < a.length
  · exact post_no a b w m hm (.inl ha)
  by_cases hb : 900 < b.length
  · exact post_no a b w m hm (.inr (.inl hb))
  cases hp : [a, b].all plainB with
  | false => exact post_no a b w m hm (.inr (.inr ⟨by omega, by omega, hp⟩))
  | true => exact post_yes a b w m hm (by omega) (by omega) hp
end Go.Proofs.YtcekampdldkjlaaDoor
