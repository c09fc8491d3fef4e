/- The kids of a condition; bounded: a condition whose size and depth are limited. -/
import Derived.Test.YtpagkakplmeokaaDoorNDeep
import Derived.Laws.EntriesVeiled
set_option linter.unusedVariables false
set_option linter.unusedSimpArgs false
namespace Go.Proofs.YtpagkakplmeokaaDoor
open Go.RowKit
theorem kids_enters_f : Enters 43 := fun _ _ => by kernel_rfl
set_option maxRecDepth 20000 in
set_option maxHeartbeats 400000 in
theorem kids_f : KidsT true 43 := by
  refine ⟨fun op name cmp n A m c w => ?_⟩
  simp only [tcs]
  go_enter Tryd.func43, Tryd.ntmps43
  go_wp2_with fail
  go_ret
  exact ⟨rfl, (Below.refl _ _).alloc (Nat.le_refl _) _⟩
theorem kids_enters_s : Enters 63 := fun _ _ => by kernel_rfl
set_option maxRecDepth 20000 in
set_option maxHeartbeats 400000 in
theorem kids_s : KidsT false 63 := by
  refine ⟨fun op name cmp n A m c w => ?_⟩
  simp only [tcs]
  go_enter Tryd.func63, Tryd.ntmps63
  go_wp2_with fail
  go_ret
  exact ⟨rfl, (Below.refl _ _).alloc (Nat.le_refl _) _⟩
theorem boxes_new {w2 : World} {fk fd : FuncId} {kb : Nat} {t1 t2 t3 : TypeId} {TB : Obj} (hk : w2.heap[kb]? = some (.cells #[.func (.func fk) #[] #[]] t1 (0, 0))) :
    Boxes (((w2.alloc TB).alloc (.cells #[.int .i64 0] t2 (0, 0))).alloc (.cells #[.func (.func fd) #[] #[.pointer (some ⟨w2.heap.size + 1, 0, none⟩), .pointer (some ⟨kb, 0, none⟩), .pointer (some ⟨w2.heap.size + 1 + 1, 0, none⟩)]] t3 (0, 0))) fk fd (w2.heap.size + 1) kb (w2.heap.size + 1 + 1) 0 := by
  have h := lt_of_heap' hk
  exact ⟨⟨t2, old_at (alloc_at (by simp))⟩, ⟨t1, old_at (old_at (old_at hk))⟩, ⟨t3, alloc_at (by simp)⟩, by omega, by omega⟩
theorem Eff.weak {p b : Nat} {w x w' : World} (h : Eff p w x) (k : Eff b x w') (hb : w.heap.size ≤ b) : Eff p w w' :=
  ⟨k.os.trans h.os, k.tape.trans h.tape, k.output.trans h.output, Nat.le_trans h.size k.size, fun i hi hn => (k.block i (Nat.lt_of_lt_of_le hi h.size) (by omega)).trans (h.block i hi hn)⟩
theorem bounded_ok {one : List Tok → R Tree} {l r : List Tok} {t : Tree} (h : one l = .ok (t, r)) (h1 : ¬ 20 < t.deep) (h2 : ¬ 200 < t.size) : boundedF one l = .ok (t, r) := by
  simp only [boundedF, h, bindR, boundC, h1, h2, or_self, if_false, guardR, if_true]
theorem bounded_no {one : List Tok → R Tree} {l r : List Tok} {t : Tree} (h : one l = .ok (t, r)) (h1 : 20 < t.deep ∨ 200 < t.size) : boundedF one l = .error (2, l) := by
  simp only [boundedF, h, bindR, boundC, h1, if_true, guardR]
  rfl
theorem next_any (p fin : Nat) (l : List Tok) (w : World) (hp : PS w p fin l) :
    Calls Tryd.prog 53 #[.pointer (some ⟨p, 0, none⟩)] w fun e w' => e = .returned (headT fin l).agg ∧ Below w.heap.size w w' := by
  cases l with
  | nil => exact next_nil p fin w hp
  | cons t r => exact next_cons p fin t r w hp
theorem headT_pos (fin : Nat) (l : List Tok) : (headT fin l).pos = posAt fin l := by cases l <;> rfl
theorem reads_enters_f : Enters 42 := fun _ _ => by kernel_rfl
set_option maxRecDepth 20000 in
set_option maxHeartbeats 800000 in
theorem bounded_f (f1 : FuncId) (one : List Tok → R Tree) (n p fin : Nat) (hone : ReadsT true f1 p fin n one) (hsz : Siz one) (hf1 : Enters f1) (l : List Tok) (w : World) (hp : PS w p fin l) (hl : l.length < n) (hn : n ≤ 6001) :
    Calls Tryd.prog 41 #[.pointer (some ⟨p, 0, none⟩), .func (.func f1) #[.pointer (some ⟨p, 0, none⟩)] #[], .func (.func 43) #[] #[]] w (OutR p fin w (boundedF one l) (TreeV true w)) := by
  have HONE := Lib.hid hone
  have HSZ := Lib.hid hsz
  have HF1 := Lib.hid hf1
  have HP := Lib.hid hp
  have hpl := hp.lt
  clear hone hsz hf1 hp
  go_enter Tryd.func41, Tryd.ntmps41
  go_wp2_with fail
  refine (next_any p fin l _ (fits_alloc (fits_alloc HP.out _) _)).mono ?_
  rintro e w1 ⟨rfl, hb1⟩
  have hp1 := (fits_alloc (fits_alloc HP.out _) _).below hb1
  have HP1 := Lib.hid hp1
  have HE1 := Lib.hid ((eff_alloc p w _).trans ((eff_alloc p _ _).trans (Eff.of_below hb1)))
  have HKB := Lib.hid ((hb1.block w.heap.size (by simp; omega)).trans (old_at (alloc_at rfl)))
  have HRB := Lib.hid ((hb1.block (w.heap.size + 1) (by simp)).trans (alloc_at (by simp)))
  clear hp1 hb1
  simp only [Tok.agg]
  go_wp2_with fail
  rw [HF1.out, Oper.upon_enter]
  refine HONE.out.call HP1.out hl ?_ ?_
  case refine_2 =>
    intro c s w2 hq he2
    have HQ := Lib.hid hq
    clear hq
    go_wp2_with fail
    refine ⟨rfl, ?_⟩
    rw [show boundedF one l = .error (c, s) by simp only [boundedF, HQ.out, bindR]]
    exact ⟨rfl, HE1.out.trans he2⟩
  case refine_1 =>
    intro t r v w2 hq hv hp2 he2 hr
    have hts := HSZ.out l t r hq
    obtain ⟨cs, rfl, hrt⟩ := hv
    have HRT := Lib.hid hrt
    obtain ⟨T, hT⟩ : ∃ T, T = t := ⟨t, rfl⟩
    obtain ⟨o1, name, cm, m, ks⟩ := t
    obtain ⟨A, cap, rfl, -, -⟩ := hrt
    simp only [tcs]
    have HQ := Lib.hid hq
    have HP2 := Lib.hid hp2
    have HE2 := Lib.hid (HE1.out.trans he2)
    have hs := he2.size
    have hkb := (he2.block w.heap.size (lt_of_heap' HKB.out) (by omega)).trans HKB.out
    have hrb := (he2.block (w.heap.size + 1) (lt_of_heap' HRB.out) (by omega)).trans HRB.out
    have z1 := lt_of_heap' HRB.out
    have z2 := lt_of_heap' hrb
    have HK2 := Lib.hid hkb
    have HR2 := Lib.hid hrb
    have HTS := Lib.hid hts
    clear hq hp2 he2 hkb hrb hts HKB HRB
    go_wp2_with fail
    have h4 := HTS.out
    refine (deep_f 43 kids_f kids_enters_f (w2.heap.size + 1) w.heap.size (w2.heap.size + 1 + 1) _ (.mk o1 name cm m ks) 0 (tcs true o1 name cm m (.slice A ks.length cap)) _ (Nat.le_refl _) (by omega) (boxes_new HK2.out) (HRT.out.keep (by simp; omega) (fun k hk hlt => ⟨by omega, (Below.heap_alloc _ _ _ (by simp; omega)).trans ((Below.heap_alloc _ _ _ (by simp; omega)).trans (Below.heap_alloc _ _ _ hlt))⟩))).mono ?_
    rintro e w4 ⟨rfl, hbx4, he4⟩
    have hs4 := he4.size
    simp only [World.size_alloc] at hs4
    have HE4 := Lib.hid (Eff.weak (HE2.out.trans ((eff_alloc p _ _).trans ((eff_alloc p _ _).trans (eff_alloc p _ _)))) he4 (by omega))
    have HP4 := Lib.hid (PS.keep (fits_alloc (fits_alloc (fits_alloc HP2.out _) _) _) he4.size (fun k hk => he4.block k (by simp; omega) (by omega)))
    obtain ⟨⟨ts, hsz4⟩, -, -, -, -⟩ := hbx4
    simp only [Nat.zero_add] at hsz4
    have q0 := cell_of_blk (o := 0) hsz4 rfl
    have ql := lt_of_heap' hsz4
    have hr4 := (he4.block (w.heap.size + 1) (by simp; omega) (by omega)).trans (old_at (old_at (old_at HR2.out)))
    have ht4 := (he4.block w2.heap.size (by simp; omega) (by omega)).trans (old_at (old_at (alloc_at rfl)))
    have HRT4 := Lib.hid (HRT.out.keep (S' := fun k => w.heap.size + 1 + 1 ≤ k) (w' := w4) (by omega) (fun k hk hlt => ⟨by omega, (he4.block k (by simp; omega) (by omega)).trans ((Below.heap_alloc _ _ _ (by simp; omega)).trans ((Below.heap_alloc _ _ _ (by simp; omega)).trans (Below.heap_alloc _ _ _ hlt)))⟩))
    obtain ⟨dp, hdp⟩ : ∃ dp, dp = (Tree.mk o1 name cm m ks).deep := ⟨_, rfl⟩
    obtain ⟨sz, hsz⟩ : ∃ sz, sz = (Tree.mk o1 name cm m ks).size := ⟨_, rfl⟩
    rw [← hdp]
    rw [← hsz] at q0
    have HDP := Lib.hid hdp
    have HSZE := Lib.hid hsz
    have n1 : ¬ w2.heap.size = w.heap.size + 1 := by omega
    have n2 : ¬ w.heap.size + 1 = w2.heap.size := by omega
    have e0 := cell_of_blk (o := 0) ht4 rfl
    have e1 := cell_of_blk (o := 1) ht4 rfl
    have e2 := cell_of_blk (o := 2) ht4 rfl
    have e3 := cell_of_blk (o := 3) ht4 rfl
    have e4 := cell_of_blk (o := 4) ht4 rfl
    have tl := lt_of_heap' ht4
    have c0 := cell_of_blk (o := 0) hr4 rfl
    have c1 := cell_of_blk (o := 1) hr4 rfl
    have c2 := cell_of_blk (o := 2) hr4 rfl
    have c3 := cell_of_blk (o := 3) hr4 rfl
    have c4 := cell_of_blk (o := 4) hr4 rfl
    have f0 := frozen_of_blk (o := 0) hr4
    have f1 := frozen_of_blk (o := 1) hr4
    have f2 := frozen_of_blk (o := 2) hr4
    have f3 := frozen_of_blk (o := 3) hr4
    have f4 := frozen_of_blk (o := 4) hr4
    have dl := lt_of_heap' hr4
    clear hdp hsz hsz4 hr4 ht4 he4 HR2 HK2 h4
    by_cases h20 : 20 < dp
    · have y1 : (20 : Int) < dp := by omega
      go_wp2_with fail
      refine ⟨rfl, ?_⟩
      rw [bounded_no HQ.out (.inl (by rw [← HDP.out]; exact h20))]
      refine ⟨?_, HE4.out⟩
      rw [← headT_pos]
      rfl
    · have y1 : ¬ (20 : Int) < dp := by omega
      by_cases h200 : 200 < sz
      · have y2 : (200 : Int) < sz := by omega
        go_wp2_with fail
        refine ⟨rfl, ?_⟩
        rw [bounded_no HQ.out (.inr (by rw [← HSZE.out]; exact h200))]
        refine ⟨?_, HE4.out⟩
        rw [← headT_pos]
        rfl
      · have y2 : ¬ (200 : Int) < sz := by omega
        go_wp2_with fail
        refine bodyPost_ret (v := .agg (tcs true o1 name cm m (.slice A ks.length cap)).toArray) (by simp [results, Tryd.results41, go_sem, tcs, *]) rfl ?_
        exact boxed (b := w.heap.size + 1) (by omega) HRT4.out HP4.out HE4.out ((((Off.refl (w.heap.size + 1) w4).set (o := 0) _).set (o := 1) _).set (o := 2) _ |>.set (o := 3) _ |>.set (o := 4) _) (by omega) (bounded_ok HQ.out (by rw [← HDP.out]; exact h20) (by rw [← HSZE.out]; exact h200))
theorem reads_enters_s : Enters 62 := fun _ _ => by kernel_rfl
set_option maxRecDepth 20000 in
set_option maxHeartbeats 800000 in
theorem bounded_s (f1 : FuncId) (one : List Tok → R Tree) (n p fin : Nat) (hone : ReadsT false f1 p fin n one) (hsz : Siz one) (hf1 : Enters f1) (l : List Tok) (w : World) (hp : PS w p fin l) (hl : l.length < n) (hn : n ≤ 6001) :
    Calls Tryd.prog 61 #[.pointer (some ⟨p, 0, none⟩), .func (.func f1) #[.pointer (some ⟨p, 0, none⟩)] #[], .func (.func 63) #[] #[]] w (OutR p fin w (boundedF one l) (TreeV false w)) := by
  have HONE := Lib.hid hone
  have HSZ := Lib.hid hsz
  have HF1 := Lib.hid hf1
  have HP := Lib.hid hp
  have hpl := hp.lt
  clear hone hsz hf1 hp
  go_enter Tryd.func61, Tryd.ntmps61
  go_wp2_with fail
  refine (next_any p fin l _ (fits_alloc (fits_alloc HP.out _) _)).mono ?_
  rintro e w1 ⟨rfl, hb1⟩
  have hp1 := (fits_alloc (fits_alloc HP.out _) _).below hb1
  have HP1 := Lib.hid hp1
  have HE1 := Lib.hid ((eff_alloc p w _).trans ((eff_alloc p _ _).trans (Eff.of_below hb1)))
  have HKB := Lib.hid ((hb1.block w.heap.size (by simp; omega)).trans (old_at (alloc_at rfl)))
  have HRB := Lib.hid ((hb1.block (w.heap.size + 1) (by simp)).trans (alloc_at (by simp)))
  clear hp1 hb1
  simp only [Tok.agg]
  go_wp2_with fail
  rw [HF1.out, Oper.upon_enter]
  refine HONE.out.call HP1.out hl ?_ ?_
  case refine_2 =>
    intro c s w2 hq he2
    have HQ := Lib.hid hq
    clear hq
    go_wp2_with fail
    refine ⟨rfl, ?_⟩
    rw [show boundedF one l = .error (c, s) by simp only [boundedF, HQ.out, bindR]]
    exact ⟨rfl, HE1.out.trans he2⟩
  case refine_1 =>
    intro t r v w2 hq hv hp2 he2 hr
    have hts := HSZ.out l t r hq
    obtain ⟨cs, rfl, hrt⟩ := hv
    have HRT := Lib.hid hrt
    obtain ⟨T, hT⟩ : ∃ T, T = t := ⟨t, rfl⟩
    obtain ⟨o1, name, cm, m, ks⟩ := t
    obtain ⟨A, cap, rfl, -, -⟩ := hrt
    simp only [tcs]
    have HQ := Lib.hid hq
    have HP2 := Lib.hid hp2
    have HE2 := Lib.hid (HE1.out.trans he2)
    have hs := he2.size
    have hkb := (he2.block w.heap.size (lt_of_heap' HKB.out) (by omega)).trans HKB.out
    have hrb := (he2.block (w.heap.size + 1) (lt_of_heap' HRB.out) (by omega)).trans HRB.out
    have z1 := lt_of_heap' HRB.out
    have z2 := lt_of_heap' hrb
    have HK2 := Lib.hid hkb
    have HR2 := Lib.hid hrb
    have HTS := Lib.hid hts
    clear hq hp2 he2 hkb hrb hts HKB HRB
    go_wp2_with fail
    have h4 := HTS.out
    refine (deep_s 63 kids_s kids_enters_s (w2.heap.size + 1) w.heap.size (w2.heap.size + 1 + 1) _ (.mk o1 name cm m ks) 0 (tcs false o1 name cm m (.slice A ks.length cap)) _ (Nat.le_refl _) (by omega) (boxes_new HK2.out) (HRT.out.keep (by simp; omega) (fun k hk hlt => ⟨by omega, (Below.heap_alloc _ _ _ (by simp; omega)).trans ((Below.heap_alloc _ _ _ (by simp; omega)).trans (Below.heap_alloc _ _ _ hlt))⟩))).mono ?_
    rintro e w4 ⟨rfl, hbx4, he4⟩
    have hs4 := he4.size
    simp only [World.size_alloc] at hs4
    have HE4 := Lib.hid (Eff.weak (HE2.out.trans ((eff_alloc p _ _).trans ((eff_alloc p _ _).trans (eff_alloc p _ _)))) he4 (by omega))
    have HP4 := Lib.hid (PS.keep (fits_alloc (fits_alloc (fits_alloc HP2.out _) _) _) he4.size (fun k hk => he4.block k (by simp; omega) (by omega)))
    obtain ⟨⟨ts, hsz4⟩, -, -, -, -⟩ := hbx4
    simp only [Nat.zero_add] at hsz4
    have q0 := cell_of_blk (o := 0) hsz4 rfl
    have ql := lt_of_heap' hsz4
    have hr4 := (he4.block (w.heap.size + 1) (by simp; omega) (by omega)).trans (old_at (old_at (old_at HR2.out)))
    have ht4 := (he4.block w2.heap.size (by simp; omega) (by omega)).trans (old_at (old_at (alloc_at rfl)))
    have HRT4 := Lib.hid (HRT.out.keep (S' := fun k => w.heap.size + 1 + 1 ≤ k) (w' := w4) (by omega) (fun k hk hlt => ⟨by omega, (he4.block k (by simp; omega) (by omega)).trans ((Below.heap_alloc _ _ _ (by simp; omega)).trans ((Below.heap_alloc _ _ _ (by simp; omega)).trans (Below.heap_alloc _ _ _ hlt)))⟩))
    obtain ⟨dp, hdp⟩ : ∃ dp, dp = (Tree.mk o1 name cm m ks).deep := ⟨_, rfl⟩
    obtain ⟨sz, hsz⟩ : ∃ sz, sz = (Tree.mk o1 name cm m ks).size := ⟨_, rfl⟩
    rw [← hdp]
    rw [← hsz] at q0
    have HDP := Lib.hid hdp
    have HSZE := Lib.hid hsz
    have n1 : ¬ w2.heap.size = w.heap.size + 1 := by omega
    have n2 : ¬ w.heap.size + 1 = w2.heap.size := by omega
    have e0 := cell_of_blk (o := 0) ht4 rfl
    have e1 := cell_of_blk (o := 1) ht4 rfl
    have e2 := cell_of_blk (o := 2) ht4 rfl
    have e3 := cell_of_blk (o := 3) ht4 rfl
    have tl := lt_of_heap' ht4
    have c0 := cell_of_blk (o := 0) hr4 rfl
    have c1 := cell_of_blk (o := 1) hr4 rfl
    have c2 := cell_of_blk (o := 2) hr4 rfl
    have c3 := cell_of_blk (o := 3) hr4 rfl
    have f0 := frozen_of_blk (o := 0) hr4
    have f1 := frozen_of_blk (o := 1) hr4
    have f2 := frozen_of_blk (o := 2) hr4
    have f3 := frozen_of_blk (o := 3) hr4
    have dl := lt_of_heap' hr4
    clear hdp hsz hsz4 hr4 ht4 he4 HR2 HK2 h4
    by_cases h20 : 20 < dp
    · have y1 : (20 : Int) < dp := by omega
      go_wp2_with fail
      refine ⟨rfl, ?_⟩
      rw [bounded_no HQ.out (.inl (by rw [← HDP.out]; exact h20))]
      refine ⟨?_, HE4.out⟩
      rw [← headT_pos]
      rfl
    · have y1 : ¬ (20 : Int) < dp := by omega
      by_cases h200 : 200 < sz
      · have y2 : (200 : Int) < sz := by omega
        go_wp2_with fail
        refine ⟨rfl, ?_⟩
        rw [bounded_no HQ.out (.inr (by rw [← HSZE.out]; exact h200))]
        refine ⟨?_, HE4.out⟩
        rw [← headT_pos]
        rfl
      · have y2 : ¬ (200 : Int) < sz := by omega
        go_wp2_with fail
        refine bodyPost_ret (v := .agg (tcs false o1 name cm m (.slice A ks.length cap)).toArray) (by simp [results, Tryd.results61, go_sem, tcs, *]) rfl ?_
        exact boxed (b := w.heap.size + 1) (by omega) HRT4.out HP4.out HE4.out ((((Off.refl (w.heap.size + 1) w4).set (o := 0) _).set (o := 1) _).set (o := 2) _ |>.set (o := 3) _) (by omega) (bounded_ok HQ.out (by rw [← HDP.out]; exact h20) (by rw [← HSZE.out]; exact h200))
end Go.Proofs.YtpagkakplmeokaaDoor
