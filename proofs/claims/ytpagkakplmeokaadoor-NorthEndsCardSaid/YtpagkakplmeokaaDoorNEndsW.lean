/- The law of ends. -/
import Derived.Test.YtpagkakplmeokaaDoorNEnds
import Derived.Deep.CutRange
set_option linter.unusedVariables false
set_option linter.unusedSimpArgs false
namespace Go.Proofs.YtpagkakplmeokaaDoor
open Go.RowKit
theorem text_from (l : List UInt8) (i n : Nat) (h : n = l.length) : ({ data := l.toArray } : ByteArray).extract i n = ⟨(l.drop i).toArray⟩ := by
  subst h
  rw [text_slice, ← List.length_drop, List.take_length]
theorem gapsX_any (l : List UInt8) (k : Nat) (w : World) (hg : Gp (l.drop k)) (hl : l.length ≤ 20000) : Calls Tryd.prog 25 #[.string (({ data := l.toArray } : ByteArray).extract k l.length)] w fun e w' => e = .returned (.bool true) ∧ w' = w := by
  rw [text_from l k _ rfl]
  exact gapsR_any _ w hg (by rw [List.length_drop]; omega)
theorem outA_le (l : List UInt8) : outA l ≤ l.length := by
  unfold outA
  split
  · omega
  · rename_i e a h
    rcases parseF_err_at h with h | h <;> omega
set_option maxRecDepth 100000 in
set_option maxHeartbeats 4000000 in
theorem ends_any (l o : List UInt8) (w : World) (m : Int) (hm : w.cell? ⟨2, 0, none⟩ = some (.int .i64 m)) :
    Calls Tryd.prog 8 #[vs l, vs o] w fun e w' => e = .returned (.bool true) ∧ Below w.heap.size w w' := by
  have HM := Lib.hid hm
  clear hm
  go_enter Tryd.func8, Tryd.ntmps8
  go_wp2_with fail
  refine (head_any w m HM.out).mono ?_
  rintro e w1 ⟨rfl, hb1⟩
  have HB1 := Lib.hid hb1
  clear hb1
  by_cases hl : 6000 < l.length
  · have hl' : (6000 : Int) < l.length := by omega
    go_wp2_with fail
    go_ret
    exact ⟨rfl, HB1.out⟩
  have hl' : ¬ (6000 : Int) < l.length := by omega
  by_cases ho : 6000 < o.length
  · have ho' : (6000 : Int) < o.length := by omega
    go_wp2_with fail
    go_ret
    exact ⟨rfl, HB1.out⟩
  have ho' : ¬ (6000 : Int) < o.length := by omega
  go_wp2_with fail
  have HO := Lib.hid ho
  have HL := Lib.hid hl
  clear hl' ho' hl ho
  refine (parse_out l _ m (maxc_below HM.out HB1.out)).mono ?_
  rintro e w2 ⟨hb2, c1, rfl, hr1⟩
  obtain ⟨st1, -⟩ := prov_io hr1
  have HB2 : Hid (Below w.heap.size w w2) := Lib.hid (HB1.out.trans (hb2.mono HB1.out.size))
  clear hb2 hr1
  go_wp2_with fail
  refine (lex_out l _).mono ?_
  rintro e w3 ⟨hb3, A, c, rfl, hrt, hc1, hc2⟩
  have HB3 : Hid (Below w.heap.size w w3) := Lib.hid ((HB2.out.alloc HB2.out.size _).trans (hb3.mono (by have := HB2.out.size; simp; omega)))
  clear hb3 st1
  by_cases h0 : outE l = 0
  case neg =>
    have h0' : ¬ (outE l : Int) = 0 := by omega
    go_wp2_with fail
    go_ret
    exact ⟨rfl, HB3.out⟩
  obtain ⟨hlx, u, dot, hts, hdl, hs1, hs2, hgp, hmore⟩ := ends_out (o := o) h0
  have hlen := lexT_len l
  rw [h0, hlx]
  rw [hts] at hrt hc1 hlen ⊢
  obtain ⟨b, off, rfl, hbl, hg⟩ := hrt (by simp)
  have hq : (u ++ [dot]).length = u.length + 1 := by simp
  have hdot : w3.cell? ⟨b, off + u.length * 4 + 3, none⟩ = some (.int .i64 dot.pos) := (tok_get hg (by simp)).1
  have HDOT := Lib.hid hdot
  have HMORE := Lib.hid hmore
  have HGP := Lib.hid hgp
  have HC := Lib.hid hc1
  rw [hq] at hlen ⊢
  clear h0 hlx hts hg hrt hmore hgp hc1 hq
  go_wp2_with fail
  rw [text_take]
  generalize l.take dot.pos = sh at hs1 hs2 ⊢
  refine (parse_out sh _ m (maxc_below HM.out HB3.out)).mono ?_
  rintro e w4 ⟨hb4, c2, rfl, hr2⟩
  obtain ⟨st2, -⟩ := prov_io hr2
  have HB4 : Hid (Below w.heap.size w w4) := Lib.hid (HB3.out.trans (hb4.mono HB3.out.size))
  have HW4 := Lib.hid hb4
  rw [hs1, hs2]
  have q1 : ¬ 9223372036854775807 < l.length + 1 := by have := HL.out; omega
  have q2 : ¬ 9223372036854775807 < l.length + 1 + o.length := by have := HL.out; have := HO.out; omega
  clear hr2 hb4 hs1 hs2
  go_wp2_with fail
  refine (lex_out o _).mono ?_
  rintro e w5 ⟨hb5, A5, c5, rfl, hrt5, hc5, hc5'⟩
  have HB5 : Hid (Below w.heap.size w w5) := Lib.hid ((HB4.out.alloc HB4.out.size _).trans (hb5.mono (by have := HB4.out.size; simp; omega)))
  have HW5 : Hid (Below w3.heap.size w3 w5) := Lib.hid ((HW4.out.alloc HW4.out.size _).trans (hb5.mono (by have := HW4.out.size; simp; omega)))
  have HRT5 := Lib.hid hrt5
  clear hb5 st2 hrt5
  go_wp2_with fail
  have htx : (({ data := l.toArray } : ByteArray) ++ { data := #[10] } ++ { data := o.toArray }) = ⟨(l ++ 10 :: o).toArray⟩ := by
    rw [show ({ data := #[10] } : ByteArray) = ⟨([10] : List UInt8).toArray⟩ from rfl, text_app, text_app, List.append_assoc]; rfl
  have HTX := Lib.hid htx
  rw [htx]
  clear htx
  refine (lex_out (l ++ 10 :: o) _).mono ?_
  rintro e w6 ⟨hb6, A6, c6, rfl, -, -, -⟩
  have HB6 : Hid (Below w.heap.size w w6) := Lib.hid (HB5.out.trans (hb6.mono HB5.out.size))
  have HW6 : Hid (Below w3.heap.size w3 w6) := Lib.hid (HW5.out.trans (hb6.mono HW5.out.size))
  have HRT6 := Lib.hid (HRT5.out.below hb6)
  clear hb6 HRT5
  by_cases z1 : lexE o = 0
  case neg =>
    have z1' : ¬ (lexE o : Int) = 0 := by omega
    have z1'' : ((lexE o : Int) == 0) = false := by simp; omega
    go_wp2_with fail
    go_ret
    exact ⟨rfl, HB6.out⟩
  by_cases z2 : lexE (l ++ 10 :: o) = 0
  case neg =>
    have z2' : ¬ (lexE (l ++ 10 :: o) : Int) = 0 := by omega
    rw [z1]
    go_wp2_with fail
    go_ret
    exact ⟨rfl, HB6.out⟩
  rw [z1, z2]
  by_cases z3 : lexT o = []
  · rw [z3]
    go_wp2_with fail
    go_ret
    exact ⟨rfl, HB6.out⟩
  obtain ⟨m0, r, hm0, he5, hea⟩ := HMORE.out z1 z2 z3
  have hol := lexT_len o
  rw [hm0] at HRT6 hc5 hol ⊢
  obtain ⟨b5, off5, rfl, hbl5, hg5⟩ := HRT6.out (by simp)
  have hq : (m0 :: r).length = r.length + 1 := rfl
  rw [hq] at hc5 hol ⊢
  have HG5 := Lib.hid hg5
  clear hg5 z1 z2 z3 hm0 hq
  have y0 : ¬ (r.length : Int) + 1 = 0 := by omega
  go_wp2_with fail
  rw [HTX.out]
  refine (parse_out (l ++ 10 :: o) _ m (maxc_below HM.out HB6.out)).mono ?_
  rintro e w7 ⟨hb7, c7, rfl, hr7⟩
  obtain ⟨st7, -⟩ := prov_io hr7
  rw [he5, hea]
  have hb8 : Below w6.heap.size w6 (w7.alloc (.cells c7.toArray 35 (0, 0))) := hb7.alloc hb7.size _
  have g0 : (w7.alloc (.cells c7.toArray 35 (0, 0))).cell? ⟨b5, off5 + 3, none⟩ = some (.int .i64 m0.pos) := (hb8.cell (p := ⟨b5, off5 + 3, none⟩) hbl5).trans (HG5.out 0 m0 rfl 3 _ rfl)
  have gd : (w7.alloc (.cells c7.toArray 35 (0, 0))).cell? ⟨b, off + u.length * 4 + 3, none⟩ = some (.int .i64 dot.pos) := ((HW6.out.trans (hb8.mono HW6.out.size)).cell (p := ⟨b, _, none⟩) hbl).trans HDOT.out
  have HB8 : Hid (Below w.heap.size w (w7.alloc (.cells c7.toArray 35 (0, 0)))) := Lib.hid (HB6.out.trans (hb8.mono HB6.out.size))
  have G0 := Lib.hid g0
  have GD := Lib.hid gd
  clear g0 gd hr7 hb7 hb8
  go_upto_region 20 with fail
  generalize w7.alloc (.cells c7.toArray 35 (0, 0)) = w8 at *

  clear st7
  have hgp := HGP.out
  have gx := fun w : World => gapsX_any l (dot.pos + 1) w hgp (by have := HL.out; omega)
  have i6 : (dot.pos : Int) + 1 ≤ l.length := by omega
  have i9 : (m0.pos : Int) ≤ 6000 := by have h1 := outA_le (l ++ 10 :: o); rw [hea] at h1; simp at h1; have := HO.out; omega
  have i0 : (l.length : Int) ≤ 6000 := by have := HL.out; omega
  have g0 := G0.out
  have gd := GD.out
  clear he5 hea hdl q1 q2 y0 hgp
  go_wp2_with fail
  refine (gx _).mono ?_
  rintro e w9 ⟨rfl, rfl⟩
  go_wp2_with fail
  go_ret
  exact ⟨rfl, HB8.out⟩
end Go.Proofs.YtpagkakplmeokaaDoor
