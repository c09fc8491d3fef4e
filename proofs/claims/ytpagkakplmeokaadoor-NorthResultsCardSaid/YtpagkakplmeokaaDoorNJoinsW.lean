/- The law of joins: rule, pure, made. -/
import Derived.Test.YtpagkakplmeokaaDoorNSzR
import Derived.Test.YtpagkakplmeokaaDoorNFirst
import Derived.Test.YtpagkakplmeokaaDoorNGaps
import Derived.Deep.CutRange
import Derived.Outline
set_option linter.unusedVariables false
set_option linter.unusedSimpArgs false
namespace Go.Proofs.YtpagkakplmeokaaDoor
open Go.RowKit
theorem rule_len (x : List UInt8) : (ruleB x).length = x.length + 28 := by simp [ruleB, preW]
theorem rule_any (x : List UInt8) (w : World) (hl : x.length ≤ 100000) : Calls Tryd.prog 14 #[vs x] w fun e w' => e = .returned (vs (ruleB x)) ∧ w = w' := by
  have q1 : ¬ 9223372036854775807 < 26 + x.length := by omega
  have q2 : ¬ 9223372036854775807 < 26 + x.length + 2 := by omega
  go_enter Tryd.func14, Tryd.ntmps14
  go_wp2_with fail
  go_ret
  refine ⟨?_, rfl⟩
  have : ∀ (pre post : List UInt8), Ending.returned (.string ((⟨pre.toArray⟩ : ByteArray) ++ ⟨x.toArray⟩ ++ ⟨post.toArray⟩)) = Ending.returned (vs (pre ++ x ++ post)) := fun pre post => by rw [text_app, text_app]
  refine (this [98, 121, 108, 97, 119, 32, 112, 58, 32, 97, 110, 115, 119, 101, 114, 32, 113, 32, 105, 115, 32, 49, 32, 105, 102, 32] [10, 46]).trans ?_
  simp [ruleB, preW]
def purB (x : List UInt8) : Bool := decide (x.length ≤ 2000) && outE (ruleB x) == 0 && outE (ruleB (parB x)) == 0
theorem out_zero {l : List UInt8} (h : outE l = 0) : parseF l = .ok (outP l) := by
  unfold outE at h
  unfold outP
  split at h
  · rename_i p hp; simp only [hp]
  · rename_i e a hp
    subst h
    unfold parseF at hp
    split at hp
    · rename_i e hl
      have := lexF_err_ne (hl.trans (congrArg Except.error (Except.error.inj hp)))
      exact absurd rfl this
    · rename_i ts hl
      split at hp
      · rename_i e s hq
        have := Except.error.inj hp
        obtain ⟨h0, -, -, -⟩ := pr_sane (lexF_ok hl).2.1 hq
        exact absurd (Prod.ext_iff.1 this).1 h0
      · cases hp
theorem purB_some {x : List UInt8} (h : purB x = true) : pureF x = some (outP (ruleB x)).cond := by
  unfold purB at h
  simp only [Bool.and_eq_true, decide_eq_true_eq, beq_iff_eq] at h
  obtain ⟨⟨h1, h2⟩, h3⟩ := h
  unfold pureF
  rw [if_neg (by omega), out_zero h2, out_zero h3]
theorem cond_cells {base : Nat} {W : World} {cs : List Value} {P : Prov} (h : RdProv base W cs P) : ∃ cc, RdTree true (fun k => base ≤ k) W cc P.cond ∧ ∀ (j : Nat) v, cc[j]? = some v → cs.toArray[5 + j]? = some v := by
  obtain ⟨cc, A, cap, cb, cf, ca, rfl, -, h1, -, -, -, -⟩ := h
  refine ⟨cc, h1, fun j v hv => ?_⟩
  have hj := (List.getElem?_eq_some_iff.1 hv).1
  simp only [List.getElem?_toArray]
  rw [List.getElem?_append_right (by simp), List.getElem?_append_left (by simp; omega)]
  simpa using hv
theorem pure_end {x : List UInt8} {b : Bool} {w w4 w5 : World} {cs : List Value} {t : Tree} (hp : purB x = b) (hb : Below w.heap.size w w4) (hrt : RdTree true (fun k => w.heap.size + 1 ≤ k) w4 cs t) (ht : (outP (ruleB x)).cond = t) (ho : Off w.heap.size w4 w5) :
    Below w.heap.size w w5 ∧ ∃ cs' t', Ending.returned (.tuple #[.agg cs.toArray, .bool b]) = .returned (.tuple #[.agg cs'.toArray, .bool (purB x)]) ∧ RdTree true (fun _ => True) w5 cs' t' ∧ (purB x = true → t' = (outP (ruleB x)).cond) := by
  refine ⟨⟨ho.os.trans hb.os, ho.tape.trans hb.tape, ho.output.trans hb.output, by rw [ho.size]; exact hb.size, fun k hk => (ho.block k (by omega)).trans (hb.block k hk)⟩, cs, t, by rw [hp], hrt.keep (by rw [ho.size]; exact Nat.le_refl _) (fun k hk _ => ⟨trivial, ho.block k (by omega)⟩), fun _ => ht.symm⟩
set_option maxRecDepth 100000 in
set_option maxHeartbeats 4000000 in
theorem pure_any (x : List UInt8) (w : World) (m : Int) (hm : w.cell? ⟨2, 0, none⟩ = some (.int .i64 m)) :
    Calls Tryd.prog 13 #[vs x] w fun e w' => Below w.heap.size w w' ∧ ∃ cs t, e = .returned (.tuple #[.agg cs.toArray, .bool (purB x)]) ∧ RdTree true (fun _ => True) w' cs t ∧ (purB x = true → t = (outP (ruleB x)).cond) := by
  have HM := Lib.hid hm
  clear hm
  go_enter Tryd.func13, Tryd.ntmps13
  by_cases hl : 2000 < x.length
  · have hl' : (2000 : Int) < x.length := by omega
    go_wp2_with fail
    have hp : purB x = false := by unfold purB; rw [decide_eq_false (by omega)]; rfl
    refine bodyPost_ret (v := .tuple #[.agg (tcs true 0 [] 0 0 (.slice none 0 0)).toArray, .bool false]) (by simp [results, Tryd.results13, go_sem, tcs]) rfl ?_
    refine ⟨?_, _, .mk 0 [] 0 0 [], by rw [hp], RdTree.leaf _ _ _ _ _ _, fun h => by rw [hp] at h; cases h⟩
    exact (Below.refl _ _).alloc (Nat.le_refl _) _
  have hl' : ¬ (2000 : Int) < x.length := by omega
  go_wp2_with fail
  have HK0 := Lib.hid (heap_alloc_new w (.cells #[.int .i64 0, .string ⟨#[]⟩, .int .i64 0, .int .i64 0, .slice none 0 0] 29 (0, 0)))
  generalize hw0 : w.alloc (.cells #[.int .i64 0, .string ⟨#[]⟩, .int .i64 0, .int .i64 0, .slice none 0 0] 29 (0, 0)) = w0 at *
  have hb0 : Below w.heap.size w w0 := hw0 ▸ (Below.refl _ _).alloc (Nat.le_refl _) _
  have hz0 : w0.heap.size = w.heap.size + 1 := by rw [← hw0]; simp
  have HZ0 := Lib.hid hz0
  clear hw0 hz0
  refine (rule_any x _ (by omega)).mono ?_
  rintro e w1 ⟨rfl, rfl⟩
  go_wp2_with fail
  refine (parse_out (ruleB x) _ m (maxc_below HM.out hb0)).mono ?_
  rintro e w1 ⟨hb1, c1, rfl, hr1⟩
  obtain ⟨st1, -⟩ := prov_io hr1
  have HB1 : Hid (Below w.heap.size w w1) := Lib.hid (hb0.trans (hb1.mono hb0.size))
  have HC1 : Hid (∃ cc, RdTree true (fun k => w.heap.size + 1 ≤ k) w1 cc (outP (ruleB x)).cond ∧ ∀ (j : Nat) v, cc[j]? = some v → c1.toArray[5 + j]? = some v) := Lib.hid (by have := cond_cells hr1; rw [HZ0.out] at this; exact this)
  have HB01 := Lib.hid hb1
  clear hr1 hb1 hb0
  have q1 : ¬ 9223372036854775807 < 1 + x.length := by omega
  have q2 : ¬ 9223372036854775807 < 1 + x.length + 2 := by omega
  go_wp2_with fail
  have htx : (({ data := #[40] } : ByteArray) ++ { data := x.toArray } ++ { data := #[10, 41] }) = ⟨(parB x).toArray⟩ := by
    rw [show ({ data := #[40] } : ByteArray) = ⟨([40] : List UInt8).toArray⟩ from rfl, show ({ data := #[10, 41] } : ByteArray) = ⟨([10, 41] : List UInt8).toArray⟩ from rfl, text_app, text_app]; simp [parB]
  rw [htx]
  clear htx
  have HB2 := Lib.hid (HB1.out.alloc HB1.out.size (.cells c1.toArray 35 (0, 0)))
  have HB13 : Hid (Below w0.heap.size w0 (w1.alloc (.cells c1.toArray 35 (0, 0)))) := Lib.hid (HB01.out.alloc HB01.out.size _)
  have HA1 := Lib.hid (heap_alloc_new w1 (.cells c1.toArray 35 (0, 0)))
  refine (rule_any (parB x) _ (by simp [parB]; omega)).mono ?_
  rintro e w2 ⟨rfl, rfl⟩
  go_wp2_with fail
  refine (parse_out (ruleB (parB x)) _ m (maxc_below HM.out HB2.out)).mono ?_
  rintro e w3 ⟨hb3, c3, rfl, hr3⟩
  obtain ⟨st3, -⟩ := prov_io hr3
  have HB3 : Hid (Below w.heap.size w w3) := Lib.hid (HB2.out.trans (hb3.mono HB2.out.size))
  have hk1 : w3.heap[w1.heap.size]? = some (.cells c1.toArray 35 (0, 0)) := (hb3.block _ (by simp)).trans HA1.out
  have hal : Below w3.heap.size w3 (w3.alloc (.cells c3.toArray 35 (0, 0))) := (Below.refl _ _).alloc (Nat.le_refl _) _
  have hk4 := (hal.block _ (lt_of_heap' hk1)).trans hk1
  have hk0 : (w3.alloc (.cells c3.toArray 35 (0, 0))).heap[w.heap.size]? = some (.cells #[.int .i64 0, .string ⟨#[]⟩, .int .i64 0, .int .i64 0, .slice none 0 0] 29 (0, 0)) :=
    (hal.block _ (Nat.lt_of_lt_of_le (lt_of_heap' HK0.out) (Nat.le_trans HB13.out.size hb3.size))).trans ((hb3.block _ (Nat.lt_of_lt_of_le (lt_of_heap' HK0.out) HB13.out.size)).trans ((HB13.out.block _ (lt_of_heap' HK0.out)).trans HK0.out))
  obtain ⟨cc, hrt, hcc⟩ := HC1.out
  have HB4 : Hid (Below w.heap.size w (w3.alloc (.cells c3.toArray 35 (0, 0)))) := Lib.hid (HB3.out.trans (hal.mono HB3.out.size))
  have HRT : Hid (RdTree true (fun k => w.heap.size + 1 ≤ k) (w3.alloc (.cells c3.toArray 35 (0, 0))) cc (outP (ruleB x)).cond) := Lib.hid (hrt.keep (Nat.le_trans (by simp) (hb3.trans (hal.mono hb3.size)).size) (fun b hb hlt => ⟨hb, ((hb3.trans (hal.mono hb3.size)).block _ (by simp; omega)).trans (Below.heap_alloc _ _ _ hlt)⟩))
  clear HC1 hb3
  have HT : Hid (purB x = true → (outP (ruleB x)).cond = (outP (ruleB x)).cond) := Lib.hid fun _ => rfl
  generalize hgt : (outP (ruleB x)).cond = t at hrt HRT
  have HGT := Lib.hid hgt
  clear hgt
  obtain ⟨op, name, cm, n, ks⟩ := t
  obtain ⟨A, cap, rfl, -, -⟩ := hrt
  have u5 := cell_of_blk (o := 5) hk4 (hcc 0 _ rfl)
  have u6 := cell_of_blk (o := 6) hk4 (hcc 1 _ rfl)
  have u7 := cell_of_blk (o := 7) hk4 (hcc 2 _ rfl)
  have u8 := cell_of_blk (o := 8) hk4 (hcc 3 _ rfl)
  have u9 := cell_of_blk (o := 9) hk4 (hcc 4 _ rfl)
  have d0 := cell_of_blk (o := 0) hk0 rfl
  have d1 := cell_of_blk (o := 1) hk0 rfl
  have d2 := cell_of_blk (o := 2) hk0 rfl
  have d3 := cell_of_blk (o := 3) hk0 rfl
  have d4 := cell_of_blk (o := 4) hk0 rfl
  have f0 := frozen_of_blk (o := 0) hk0
  have f1 := frozen_of_blk (o := 1) hk0
  have f2 := frozen_of_blk (o := 2) hk0
  have f3 := frozen_of_blk (o := 3) hk0
  have f4 := frozen_of_blk (o := 4) hk0
  have dl := lt_of_heap' hk0
  have el := lt_of_heap' hk4
  clear hk0 hk1 hk4 hcc hal HK0 HB13 q1 q2
  go_upto_region 5 with fail
  generalize w3.alloc (.cells c3.toArray 35 (0, 0)) = w4 at *
  by_cases z1 : outE (ruleB x) = 0
  · by_cases z2 : outE (ruleB (parB x)) = 0
    · have HPB : Hid (purB x = true) := Lib.hid (by unfold purB; rw [z1, z2, decide_eq_true (by omega)]; rfl)
      rw [z1, z2]
      go_wp2_with fail
      refine bodyPost_ret (v := .tuple #[.agg (tcs true op name cm n (.slice A ks.length cap)).toArray, .bool true]) (by simp [results, Tryd.results13, go_sem, tcs, *]) rfl ?_
      exact pure_end HPB.out HB4.out HRT.out HGT.out (((((Off.refl w.heap.size w4).set (o := 0) _).set (o := 1) _).set (o := 2) _ |>.set (o := 3) _) |>.set (o := 4) _)
    · have HPB : Hid (purB x = false) := Lib.hid (by unfold purB; simp [z2])
      rw [z1]
      have z2' : ¬ (outE (ruleB (parB x)) : Int) = 0 := by omega
      go_wp2_with fail
      refine bodyPost_ret (v := .tuple #[.agg (tcs true op name cm n (.slice A ks.length cap)).toArray, .bool false]) (by simp [results, Tryd.results13, go_sem, tcs, *]) rfl ?_
      exact pure_end HPB.out HB4.out HRT.out HGT.out (((((Off.refl w.heap.size w4).set (o := 0) _).set (o := 1) _).set (o := 2) _ |>.set (o := 3) _) |>.set (o := 4) _)
  · have HPB : Hid (purB x = false) := Lib.hid (by unfold purB; simp [z1])
    have z1' : ¬ (outE (ruleB x) : Int) = 0 := by omega
    go_wp2_with fail
    refine bodyPost_ret (v := .tuple #[.agg (tcs true op name cm n (.slice A ks.length cap)).toArray, .bool false]) (by simp [results, Tryd.results13, go_sem, tcs, *]) rfl ?_
    exact pure_end HPB.out HB4.out HRT.out HGT.out (((((Off.refl w.heap.size w4).set (o := 0) _).set (o := 1) _).set (o := 2) _ |>.set (o := 3) _) |>.set (o := 4) _)
end Go.Proofs.YtpagkakplmeokaaDoor
