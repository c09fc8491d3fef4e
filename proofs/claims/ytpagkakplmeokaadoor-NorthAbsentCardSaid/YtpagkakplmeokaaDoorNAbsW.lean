/- The law of absent parts. -/
import Derived.Test.YtpagkakplmeokaaDoorNFree
set_option linter.unusedVariables false
set_option linter.unusedSimpArgs false
namespace Go.Proofs.YtpagkakplmeokaaDoor
open Go.RowKit
theorem ansF_out (l : List UInt8) : outE l = (ansF l).1 ∧ outP l = ((ansF l).2).getD zeroP := by
  unfold ansF outE outP
  cases h : parseF l with
  | ok p => exact ⟨rfl, rfl⟩
  | error v => exact ⟨rfl, rfl⟩
theorem ans_out {a b : List UInt8} (h : ansF a = ansF b) : outE a = outE b ∧ outP a = outP b := by
  rw [(ansF_out a).1, (ansF_out a).2, (ansF_out b).1, (ansF_out b).2, h]; exact ⟨rfl, rfl⟩
theorem part_len {w o text : List UInt8} {out : Bool} (h : text.length ≤ 1500) (hw : w.length ≤ 10) (ho : o.length ≤ 10) : (partB w o text out).length ≤ 1600 := by
  unfold partB
  split
  · simp; omega
  · split
    · simp
    · simp; omega
theorem act_text (a b c d : List UInt8) : (({ data := #[97, 99, 116, 32, 97, 58, 32, 100, 101, 102, 105, 110, 101, 32, 98] } : ByteArray) ++ { data := a.toArray } ++ { data := b.toArray } ++ { data := c.toArray } ++ { data := d.toArray } ++ { data := #[46] }) = ⟨([97, 99, 116, 32, 97, 58, 32, 100, 101, 102, 105, 110, 101, 32, 98] ++ (a ++ (b ++ (c ++ (d ++ [46]))))).toArray⟩ := by
  rw [show ({ data := #[97, 99, 116, 32, 97, 58, 32, 100, 101, 102, 105, 110, 101, 32, 98] } : ByteArray) = ⟨([97, 99, 116, 32, 97, 58, 32, 100, 101, 102, 105, 110, 101, 32, 98] : List UInt8).toArray⟩ from rfl, show ({ data := #[46] } : ByteArray) = ⟨([46] : List UInt8).toArray⟩ from rfl]
  simp only [text_app, List.append_assoc]
set_option maxRecDepth 100000 in
set_option maxHeartbeats 4000000 in
theorem absent_any (x1 x2 x3 x4 : List UInt8) (w : World) (m : Int) (hm : w.cell? ⟨2, 0, none⟩ = some (.int .i64 m)) :
    Calls Tryd.prog 6 #[vs x1, vs x2, vs x3, vs x4] w fun e w' => e = .returned (.bool true) ∧ Below w.heap.size w w' := by
  have HM := Lib.hid hm
  clear hm
  go_enter Tryd.func6, Tryd.ntmps6
  go_wp2_with fail
  refine (head_any w m HM.out).mono ?_
  rintro e w1 ⟨rfl, hb1⟩
  have HB1 := Lib.hid hb1
  clear hb1
  go_wp2_with fail
  refine (free_any x1 _).mono ?_
  rintro e w2 ⟨rfl, hb⟩
  have HB2 : Hid (Below w.heap.size w w2) := Lib.hid (HB1.out.trans (hb.mono HB1.out.size))
  clear hb
  by_cases hf1 : freeF x1 = true
  case neg =>
    rw [Bool.eq_false_iff.2 hf1]
    go_wp2_with fail
    go_ret
    exact ⟨rfl, HB2.out⟩
  rw [hf1]
  go_wp2_with fail
  refine (free_any x2 _).mono ?_
  rintro e w3 ⟨rfl, hb⟩
  have HB3 : Hid (Below w.heap.size w w3) := Lib.hid (HB2.out.trans (hb.mono HB2.out.size))
  clear hb
  by_cases hf2 : freeF x2 = true
  case neg =>
    rw [Bool.eq_false_iff.2 hf2]
    go_wp2_with fail
    go_ret
    exact ⟨rfl, HB3.out⟩
  rw [hf2]
  go_wp2_with fail
  refine (free_any x3 _).mono ?_
  rintro e w4 ⟨rfl, hb⟩
  have HB4 : Hid (Below w.heap.size w w4) := Lib.hid (HB3.out.trans (hb.mono HB3.out.size))
  clear hb
  by_cases hf3 : freeF x3 = true
  case neg =>
    rw [Bool.eq_false_iff.2 hf3]
    go_wp2_with fail
    go_ret
    exact ⟨rfl, HB4.out⟩
  rw [hf3]
  go_wp2_with fail
  refine (free_any x4 _).mono ?_
  rintro e w5 ⟨rfl, hb⟩
  have HB5 : Hid (Below w.heap.size w w5) := Lib.hid (HB4.out.trans (hb.mono HB4.out.size))
  clear hb
  by_cases hf4 : freeF x4 = true
  case neg =>
    rw [Bool.eq_false_iff.2 hf4]
    go_wp2_with fail
    go_ret
    exact ⟨rfl, HB5.out⟩
  rw [hf4]
  have HAN := Lib.hid (ans_out (absent_plain hf1 hf2 hf3 hf4))
  have hl1 := (freeF_ok hf1).1
  have hl2 := (freeF_ok hf2).1
  have hl3 := (freeF_ok hf3).1
  have hl4 := (freeF_ok hf4).1
  clear hf1 hf2 hf3 hf4
  have Ps1 : ∀ w, Calls Tryd.prog 18 #[vs [105, 102], vs x1, vs [116, 114, 117, 101], .bool true] w fun e w' => e = .returned (vs (partB [105, 102] [116, 114, 117, 101] x1 true)) ∧ w = w' := fun w => part_any _ _ _ _ w (by decide) (by omega) (by decide)
  have hzs1 : (partB [105, 102] [116, 114, 117, 101] x1 true).length ≤ 1600 := part_len hl1 (by decide) (by decide)
  have Ps2 : ∀ w, Calls Tryd.prog 18 #[vs [102, 114, 111, 109], vs x2, vs [97, 108, 119, 97, 121, 115], .bool true] w fun e w' => e = .returned (vs (partB [102, 114, 111, 109] [97, 108, 119, 97, 121, 115] x2 true)) ∧ w = w' := fun w => part_any _ _ _ _ w (by decide) (by omega) (by decide)
  have hzs2 : (partB [102, 114, 111, 109] [97, 108, 119, 97, 121, 115] x2 true).length ≤ 1600 := part_len hl2 (by decide) (by decide)
  have Ps3 : ∀ w, Calls Tryd.prog 18 #[vs [117, 110, 116, 105, 108], vs x3, vs [110, 101, 118, 101, 114], .bool true] w fun e w' => e = .returned (vs (partB [117, 110, 116, 105, 108] [110, 101, 118, 101, 114] x3 true)) ∧ w = w' := fun w => part_any _ _ _ _ w (by decide) (by omega) (by decide)
  have hzs3 : (partB [117, 110, 116, 105, 108] [110, 101, 118, 101, 114] x3 true).length ≤ 1600 := part_len hl3 (by decide) (by decide)
  have Ps4 : ∀ w, Calls Tryd.prog 18 #[vs [97, 103, 97, 105, 110], vs x4, vs [110, 101, 118, 101, 114], .bool true] w fun e w' => e = .returned (vs (partB [97, 103, 97, 105, 110] [110, 101, 118, 101, 114] x4 true)) ∧ w = w' := fun w => part_any _ _ _ _ w (by decide) (by omega) (by decide)
  have hzs4 : (partB [97, 103, 97, 105, 110] [110, 101, 118, 101, 114] x4 true).length ≤ 1600 := part_len hl4 (by decide) (by decide)
  have Pl1 : ∀ w, Calls Tryd.prog 18 #[vs [105, 102], vs x1, vs [116, 114, 117, 101], .bool false] w fun e w' => e = .returned (vs (partB [105, 102] [116, 114, 117, 101] x1 false)) ∧ w = w' := fun w => part_any _ _ _ _ w (by decide) (by omega) (by decide)
  have hzl1 : (partB [105, 102] [116, 114, 117, 101] x1 false).length ≤ 1600 := part_len hl1 (by decide) (by decide)
  have Pl2 : ∀ w, Calls Tryd.prog 18 #[vs [102, 114, 111, 109], vs x2, vs [97, 108, 119, 97, 121, 115], .bool false] w fun e w' => e = .returned (vs (partB [102, 114, 111, 109] [97, 108, 119, 97, 121, 115] x2 false)) ∧ w = w' := fun w => part_any _ _ _ _ w (by decide) (by omega) (by decide)
  have hzl2 : (partB [102, 114, 111, 109] [97, 108, 119, 97, 121, 115] x2 false).length ≤ 1600 := part_len hl2 (by decide) (by decide)
  have Pl3 : ∀ w, Calls Tryd.prog 18 #[vs [117, 110, 116, 105, 108], vs x3, vs [110, 101, 118, 101, 114], .bool false] w fun e w' => e = .returned (vs (partB [117, 110, 116, 105, 108] [110, 101, 118, 101, 114] x3 false)) ∧ w = w' := fun w => part_any _ _ _ _ w (by decide) (by omega) (by decide)
  have hzl3 : (partB [117, 110, 116, 105, 108] [110, 101, 118, 101, 114] x3 false).length ≤ 1600 := part_len hl3 (by decide) (by decide)
  have Pl4 : ∀ w, Calls Tryd.prog 18 #[vs [97, 103, 97, 105, 110], vs x4, vs [110, 101, 118, 101, 114], .bool false] w fun e w' => e = .returned (vs (partB [97, 103, 97, 105, 110] [110, 101, 118, 101, 114] x4 false)) ∧ w = w' := fun w => part_any _ _ _ _ w (by decide) (by omega) (by decide)
  have hzl4 : (partB [97, 103, 97, 105, 110] [110, 101, 118, 101, 114] x4 false).length ≤ 1600 := part_len hl4 (by decide) (by decide)
  have HAN2 : Hid (∀ b, [97, 99, 116, 32, 97, 58, 32, 100, 101, 102, 105, 110, 101, 32, 98] ++ (partB [105, 102] [116, 114, 117, 101] x1 b ++ (partB [102, 114, 111, 109] [97, 108, 119, 97, 121, 115] x2 b ++ (partB [117, 110, 116, 105, 108] [110, 101, 118, 101, 114] x3 b ++ (partB [97, 103, 97, 105, 110] [110, 101, 118, 101, 114] x4 b ++ [46])))) = shortB x1 x2 x3 x4 b) := Lib.hid fun _ => rfl
  have HEs1 : Hid (partB [105, 102] [116, 114, 117, 101] x1 true = partB [105, 102] [116, 114, 117, 101] x1 true) := Lib.hid rfl
  have HEs2 : Hid (partB [102, 114, 111, 109] [97, 108, 119, 97, 121, 115] x2 true = partB [102, 114, 111, 109] [97, 108, 119, 97, 121, 115] x2 true) := Lib.hid rfl
  have HEs3 : Hid (partB [117, 110, 116, 105, 108] [110, 101, 118, 101, 114] x3 true = partB [117, 110, 116, 105, 108] [110, 101, 118, 101, 114] x3 true) := Lib.hid rfl
  have HEs4 : Hid (partB [97, 103, 97, 105, 110] [110, 101, 118, 101, 114] x4 true = partB [97, 103, 97, 105, 110] [110, 101, 118, 101, 114] x4 true) := Lib.hid rfl
  have HEl1 : Hid (partB [105, 102] [116, 114, 117, 101] x1 false = partB [105, 102] [116, 114, 117, 101] x1 false) := Lib.hid rfl
  have HEl2 : Hid (partB [102, 114, 111, 109] [97, 108, 119, 97, 121, 115] x2 false = partB [102, 114, 111, 109] [97, 108, 119, 97, 121, 115] x2 false) := Lib.hid rfl
  have HEl3 : Hid (partB [117, 110, 116, 105, 108] [110, 101, 118, 101, 114] x3 false = partB [117, 110, 116, 105, 108] [110, 101, 118, 101, 114] x3 false) := Lib.hid rfl
  have HEl4 : Hid (partB [97, 103, 97, 105, 110] [110, 101, 118, 101, 114] x4 false = partB [97, 103, 97, 105, 110] [110, 101, 118, 101, 114] x4 false) := Lib.hid rfl
  generalize hg : partB [105, 102] [116, 114, 117, 101] x1 true = s1 at Ps1 hzs1
  have HGs1 := Lib.hid hg
  clear hg HEs1
  generalize hg : partB [102, 114, 111, 109] [97, 108, 119, 97, 121, 115] x2 true = s2 at Ps2 hzs2
  have HGs2 := Lib.hid hg
  clear hg HEs2
  generalize hg : partB [117, 110, 116, 105, 108] [110, 101, 118, 101, 114] x3 true = s3 at Ps3 hzs3
  have HGs3 := Lib.hid hg
  clear hg HEs3
  generalize hg : partB [97, 103, 97, 105, 110] [110, 101, 118, 101, 114] x4 true = s4 at Ps4 hzs4
  have HGs4 := Lib.hid hg
  clear hg HEs4
  generalize hg : partB [105, 102] [116, 114, 117, 101] x1 false = l1 at Pl1 hzl1
  have HGl1 := Lib.hid hg
  clear hg HEl1
  generalize hg : partB [102, 114, 111, 109] [97, 108, 119, 97, 121, 115] x2 false = l2 at Pl2 hzl2
  have HGl2 := Lib.hid hg
  clear hg HEl2
  generalize hg : partB [117, 110, 116, 105, 108] [110, 101, 118, 101, 114] x3 false = l3 at Pl3 hzl3
  have HGl3 := Lib.hid hg
  clear hg HEl3
  generalize hg : partB [97, 103, 97, 105, 110] [110, 101, 118, 101, 114] x4 false = l4 at Pl4 hzl4
  have HGl4 := Lib.hid hg
  clear hg HEl4
  have qs1 : ¬ 9223372036854775807 < 15 + s1.length := by omega
  have qs2 : ¬ 9223372036854775807 < 15 + s1.length + s2.length := by omega
  have qs3 : ¬ 9223372036854775807 < 15 + s1.length + s2.length + s3.length := by omega
  have qs4 : ¬ 9223372036854775807 < 15 + s1.length + s2.length + s3.length + s4.length := by omega
  have qs5 : ¬ 9223372036854775807 < 15 + s1.length + s2.length + s3.length + s4.length + 1 := by omega
  have ql1 : ¬ 9223372036854775807 < 15 + l1.length := by omega
  have ql2 : ¬ 9223372036854775807 < 15 + l1.length + l2.length := by omega
  have ql3 : ¬ 9223372036854775807 < 15 + l1.length + l2.length + l3.length := by omega
  have ql4 : ¬ 9223372036854775807 < 15 + l1.length + l2.length + l3.length + l4.length := by omega
  have ql5 : ¬ 9223372036854775807 < 15 + l1.length + l2.length + l3.length + l4.length + 1 := by omega
  go_wp2_with fail
  refine (Ps1 _).mono ?_
  rintro e w' ⟨rfl, rfl⟩
  go_wp2_with fail
  refine (Ps2 _).mono ?_
  rintro e w' ⟨rfl, rfl⟩
  go_wp2_with fail
  refine (Ps3 _).mono ?_
  rintro e w' ⟨rfl, rfl⟩
  go_wp2_with fail
  refine (Ps4 _).mono ?_
  rintro e w' ⟨rfl, rfl⟩
  go_wp2_with fail
  refine (Pl1 _).mono ?_
  rintro e w' ⟨rfl, rfl⟩
  go_wp2_with fail
  refine (Pl2 _).mono ?_
  rintro e w' ⟨rfl, rfl⟩
  go_wp2_with fail
  refine (Pl3 _).mono ?_
  rintro e w' ⟨rfl, rfl⟩
  go_wp2_with fail
  refine (Pl4 _).mono ?_
  rintro e w' ⟨rfl, rfl⟩
  go_wp2_with fail
  rw [act_text, act_text]
  have hS : [97, 99, 116, 32, 97, 58, 32, 100, 101, 102, 105, 110, 101, 32, 98] ++ (s1 ++ (s2 ++ (s3 ++ (s4 ++ [46])))) = shortB x1 x2 x3 x4 true := by rw [← HGs1.out, ← HGs2.out, ← HGs3.out, ← HGs4.out]; exact HAN2.out true
  have hL : [97, 99, 116, 32, 97, 58, 32, 100, 101, 102, 105, 110, 101, 32, 98] ++ (l1 ++ (l2 ++ (l3 ++ (l4 ++ [46])))) = shortB x1 x2 x3 x4 false := by rw [← HGl1.out, ← HGl2.out, ← HGl3.out, ← HGl4.out]; exact HAN2.out false
  rw [hS, hL]
  clear hS hL qs1 qs2 qs3 qs4 qs5 ql1 ql2 ql3 ql4 ql5 HAN2 HGs1 HGs2 HGs3 HGs4 HGl1 HGl2 HGl3 HGl4
  generalize shortB x1 x2 x3 x4 true = S at HAN ⊢
  generalize shortB x1 x2 x3 x4 false = L at HAN ⊢
  refine (parse_out S _ m (maxc_below HM.out HB5.out)).mono ?_
  rintro e w6 ⟨hb6, cs1, rfl, hr1⟩
  obtain ⟨st1, ld1⟩ := prov_io hr1
  have hal : Below w6.heap.size w6 (w6.alloc (.cells cs1.toArray 35 (0, 0))) := (Below.refl _ _).alloc (Nat.le_refl _) _
  have hb67 := hb6.trans (hal.mono hb6.size)
  have HB7 : Hid (Below w.heap.size w (w6.alloc (.cells cs1.toArray 35 (0, 0)))) := Lib.hid (HB5.out.trans (hb67.mono HB5.out.size))
  have K1 : Hid ((w6.alloc (.cells cs1.toArray 35 (0, 0))).blk w6.heap.size = some (.cells cs1.toArray 35 (0, 0))) := Lib.hid (heap_alloc_new w6 _)
  have HR1 := Lib.hid (hr1.below (n := 0) hal)
  clear hb6 hr1 hal hb67
  go_wp2_with fail
  generalize hW : World.alloc w6 _ = w7
  rw [hW] at HB7 K1 HR1
  clear hW
  refine (parse_out L _ m (maxc_below HM.out HB7.out)).mono ?_
  rintro e w8 ⟨hb8, cs2, rfl, hr2⟩
  obtain ⟨st2, ld2⟩ := prov_io hr2
  obtain ⟨hE, hP⟩ := HAN.out
  rw [hE]
  rw [hP] at HR1
  have hal : Below w8.heap.size w8 (w8.alloc (.cells cs2.toArray 35 (0, 0))) := (Below.refl _ _).alloc (Nat.le_refl _) _
  have hbb : Below w7.heap.size w7 (w8.alloc (.cells cs2.toArray 35 (0, 0))) := hb8.trans (hal.mono hb8.size)
  have k1 : (w8.alloc (.cells cs2.toArray 35 (0, 0))).blk w6.heap.size = some (.cells cs1.toArray 35 (0, 0)) := (hbb.block _ (lt_of_heap' K1.out)).trans K1.out
  have HRA := Lib.hid (HR1.out.below (n := 0) hbb)
  have HRB := Lib.hid (hr2.below (n := 0) hal)
  have HB9 : Hid (Below w.heap.size w (w8.alloc (.cells cs2.toArray 35 (0, 0)))) := Lib.hid (HB7.out.trans (hbb.mono HB7.out.size))
  clear hal hbb hr2 hb8 hE hP HAN HR1
  go_wp2_with fail
  obtain ⟨z1, z2, z3, z4, z5⟩ := out_small L
  refine (same_any (outP L) _ _ _ _ _ HRA.out HRB.out z1 z2 z3 z4 z5).mono ?_
  rintro e wA ⟨rfl, hbA⟩
  have HBA : Hid (Below w.heap.size w wA) := Lib.hid (HB9.out.trans (hbA.mono HB9.out.size))
  clear hbA k1 st1 ld1 st2 ld2 z1 z2 z3 z4 z5
  go_wp2_with fail
  go_ret
  exact ⟨rfl, HBA.out⟩
end Go.Proofs.YtpagkakplmeokaaDoor
