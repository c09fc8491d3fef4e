/- The kids of a condition; bounded: a condition whose size and depth are limited. when: a part with a condition of commencement, if its word is next. except: the names of provisions. except: the loop. What all rows of the Printer ask: the listed variables at the door, the library's cell, the builder that hands on the world's shape. -/
import Derived.Test.YtbicmjmcdnkjhaaGreatDoorJNN28
import Derived.Laws.EntriesVeiled
import Derived.Test.YtbicmjmcdnkjhaaGreatDoorJNN1
import Derived.Test.YtbicmjmcdnkjhaaGreatDoorJNN12
import Derived.LaidSub
import Derived.MakeChecks
import Derived.Lib.LaidTab
import Derived.ProofKit
import Derived.LaidMore
import Derived.OpenShut
import Derived.Stop.Joined
import Derived.HandedShaped
import Derived.SevenTiedAt
import Derived.Shelf.Vars
import Derived.ChangeSame
set_option linter.unusedVariables false
set_option linter.unusedSimpArgs false
set_option maxRecDepth 20000
set_option maxHeartbeats 800000
namespace Go.Proofs.YtbicmjmcdnkjhaaGreatDoor
open Go.RowKit
theorem kids_enters_f : Enters 84 := fun _ _ => by kernel_rfl
theorem kids_f : KidsT true 84 := by
 refine ⟨fun op name cmp n A m c w => ?_⟩
 simp only [tcs]
 go_enter Tryz.func84, Tryz.ntmps84
 go_wp2_with fail
 go_ret
 exact ⟨rfl, (Below.refl _ _).alloc (Nat.le_refl _) _⟩
theorem kids_enters_s : Enters 128 := fun _ _ => by kernel_rfl
theorem kids_s : KidsT false 128 := by
 refine ⟨fun op name cmp n A m c w => ?_⟩
 simp only [tcs]
 go_enter Tryz.func128, Tryz.ntmps128
 go_wp2_with fail
 go_ret
 exact ⟨rfl, (Below.refl _ _).alloc (Nat.le_refl _) _⟩
theorem boxes_new {w2 : World} {fk fd : FuncId} {kb : Nat} {t1 t2 t3 : TypeId} {TB : Obj} (hk : w2.heap[kb]? = some (.cells #[.func (.func fk) #[] #[]] t1 (0, 0))) :
 Boxes (((w2.alloc TB).alloc (.cells #[.int .i64 0] t2 (0, 0))).alloc (.cells #[.func (.func fd) #[] #[.pointer (some ⟨w2.heap.size + 1, 0, none⟩), .pointer (some ⟨kb, 0, none⟩), .pointer (some ⟨w2.heap.size + 1 + 1, 0, none⟩)]] t3 (0, 0))) fk fd (w2.heap.size + 1) kb (w2.heap.size + 1 + 1) 0 := by
 have h := lt_of_heap' hk
 exact ⟨⟨t2, old_at (alloc_at (by simp))⟩, ⟨t1, old_at (old_at (old_at hk))⟩, ⟨t3, alloc_at (by simp)⟩, by omega, by omega⟩
theorem Eff.weak {p b : Nat} {w x w' : World} (h : Eff p w x) (k : Eff b x w') (hb : w.heap.size ≤ b) : Eff p w w' :=
 ⟨k.os.trans h.os, k.tape.trans h.tape, k.output.trans h.output, Nat.le_trans h.size k.size, fun i hi hn => (k.block i (Nat.lt_of_lt_of_le hi h.size) (by omega)).trans (h.block i hi hn)⟩
theorem bounded_ok {one : List Tok → R Tree} {l r : List Tok} {t : Tree} (h : one l = .ok (t, r)) (h1 : ¬ 20 < t.deep) (h2 : ¬ 200 < t.size) : boundedF one l = .ok (t, r) := by
 simp only [boundedF, h, bindR, boundC, h1, h2, or_self, if_false, guardR, if_true]
theorem bounded_no {one : List Tok → R Tree} {l r : List Tok} {t : Tree} (h : one l = .ok (t, r)) (h1 : 20 < t.deep ∨ 200 < t.size) : boundedF one l = .error (2, l) := by
 simp only [boundedF, h, bindR, boundC, h1, if_true, guardR]
 rfl
theorem next_any (p fin : Nat) (l : List Tok) (w : World) (hp : PS w p fin l) :
 Calls Tryz.prog 118 #[.pointer (some ⟨p, 0, none⟩)] w fun e w' => e = .returned (headT fin l).agg ∧ Below w.heap.size w w' := by
 cases l with
 | nil => exact next_nil p fin w hp
 | cons t r => exact next_cons p fin t r w hp
theorem headT_pos (fin : Nat) (l : List Tok) : (headT fin l).pos = posAt fin l := by cases l <;> rfl
theorem reads_enters_f : Enters 83 := fun _ _ => by kernel_rfl
theorem bounded_f (f1 : FuncId) (one : List Tok → R Tree) (n p fin : Nat) (hone : ReadsT true f1 p fin n one) (hsz : Siz one) (hf1 : Enters f1) (l : List Tok) (w : World) (hp : PS w p fin l) (hl : l.length < n) (hn : n ≤ 6001) :
 Calls Tryz.prog 82 #[.pointer (some ⟨p, 0, none⟩), .func (.func f1) #[.pointer (some ⟨p, 0, none⟩)] #[], .func (.func 84) #[] #[]] w (OutR p fin w (boundedF one l) (TreeV true w)) := by
 have HONE := Lib.hid hone
 have HSZ := Lib.hid hsz
 have HF1 := Lib.hid hf1
 have HP := Lib.hid hp
 have hpl := hp.lt
 clear hone hsz hf1 hp
 go_enter Tryz.func82, Tryz.ntmps82
 go_wp2_with fail
 refine (next_any p fin l _ (fits_alloc (fits_alloc HP.out _) _)).mono ?_
 rintro e w1 ⟨rfl, hb1⟩
 have hp1 := (fits_alloc (fits_alloc HP.out _) _).below hb1
 have HP1 := Lib.hid hp1
 have HE1 := Lib.hid ((eff_alloc p w _).trans ((eff_alloc p _ _).trans (Eff.of_below hb1)))
 have HKB := Lib.hid ((hb1.block w.heap.size (by simp; omega)).trans (old_at (alloc_at rfl)))
 have HRB := Lib.hid ((hb1.block (w.heap.size + 1) (by simp)).trans (alloc_at (by simp)))
 clear hp1 hb1
 simp only [Tok.agg]
 go_wp2_with fail
 rw [HF1.out, Oper.upon_enter]
 refine HONE.out.call HP1.out hl ?_ ?_
 case refine_2 =>
  intro c s w2 hq he2
  have HQ := Lib.hid hq
  clear hq
  go_wp2_with fail
  refine ⟨rfl, ?_⟩
  rw [show boundedF one l = .error (c, s) by simp only [boundedF, HQ.out, bindR]]
  exact ⟨rfl, HE1.out.trans he2⟩
 case refine_1 =>
  intro t r v w2 hq hv hp2 he2 hr
  have hts := HSZ.out l t r hq
  obtain ⟨cs, rfl, hrt⟩ := hv
  have HRT := Lib.hid hrt
  obtain ⟨T, hT⟩ : ∃ T, T = t := ⟨t, rfl⟩
  obtain ⟨o1, name, cm, m, ks⟩ := t
  obtain ⟨A, cap, rfl, -, -⟩ := hrt
  simp only [tcs]
  have HQ := Lib.hid hq
  have HP2 := Lib.hid hp2
  have HE2 := Lib.hid (HE1.out.trans he2)
  have hs := he2.size
  have hkb := (he2.block w.heap.size (lt_of_heap' HKB.out) (by omega)).trans HKB.out
  have hrb := (he2.block (w.heap.size + 1) (lt_of_heap' HRB.out) (by omega)).trans HRB.out
  have z1 := lt_of_heap' HRB.out
  have z2 := lt_of_heap' hrb
  have HK2 := Lib.hid hkb
  have HR2 := Lib.hid hrb
  have HTS := Lib.hid hts
  clear hq hp2 he2 hkb hrb hts HKB HRB
  go_wp2_with fail
  have h4 := HTS.out
  refine (deep_f 84 kids_f kids_enters_f (w2.heap.size + 1) w.heap.size (w2.heap.size + 1 + 1) _ (.mk o1 name cm m ks) 0 (tcs true o1 name cm m (.slice A ks.length cap)) _ (Nat.le_refl _) (by omega) (boxes_new HK2.out) (HRT.out.keep (by simp; omega) (fun k hk hlt => ⟨by omega, (Below.heap_alloc _ _ _ (by simp; omega)).trans ((Below.heap_alloc _ _ _ (by simp; omega)).trans (Below.heap_alloc _ _ _ hlt))⟩))).mono ?_
  rintro e w4 ⟨rfl, hbx4, he4⟩
  have hs4 := he4.size
  simp only [World.size_alloc] at hs4
  have HE4 := Lib.hid (Eff.weak (HE2.out.trans ((eff_alloc p _ _).trans ((eff_alloc p _ _).trans (eff_alloc p _ _)))) he4 (by omega))
  have HP4 := Lib.hid (PS.keep (fits_alloc (fits_alloc (fits_alloc HP2.out _) _) _) he4.size (fun k hk => he4.block k (by simp; omega) (by omega)))
  obtain ⟨⟨ts, hsz4⟩, -, -, -, -⟩ := hbx4
  simp only [Nat.zero_add] at hsz4
  have q0 := cell_of_blk (o := 0) hsz4 rfl
  have ql := lt_of_heap' hsz4
  have hr4 := (he4.block (w.heap.size + 1) (by simp; omega) (by omega)).trans (old_at (old_at (old_at HR2.out)))
  have ht4 := (he4.block w2.heap.size (by simp; omega) (by omega)).trans (old_at (old_at (alloc_at rfl)))
  have HRT4 := Lib.hid (HRT.out.keep (S' := fun k => w.heap.size + 1 + 1 ≤ k) (w' := w4) (by omega) (fun k hk hlt => ⟨by omega, (he4.block k (by simp; omega) (by omega)).trans ((Below.heap_alloc _ _ _ (by simp; omega)).trans ((Below.heap_alloc _ _ _ (by simp; omega)).trans (Below.heap_alloc _ _ _ hlt)))⟩))
  obtain ⟨dp, hdp⟩ : ∃ dp, dp = (Tree.mk o1 name cm m ks).deep := ⟨_, rfl⟩
  obtain ⟨sz, hsz⟩ : ∃ sz, sz = (Tree.mk o1 name cm m ks).size := ⟨_, rfl⟩
  rw [← hdp]
  rw [← hsz] at q0
  have HDP := Lib.hid hdp
  have HSZE := Lib.hid hsz
  have n1 : ¬ w2.heap.size = w.heap.size + 1 := by omega
  have n2 : ¬ w.heap.size + 1 = w2.heap.size := by omega
  have e0 := cell_of_blk (o := 0) ht4 rfl
  have e1 := cell_of_blk (o := 1) ht4 rfl
  have e2 := cell_of_blk (o := 2) ht4 rfl
  have e3 := cell_of_blk (o := 3) ht4 rfl
  have e4 := cell_of_blk (o := 4) ht4 rfl
  have tl := lt_of_heap' ht4
  have c0 := cell_of_blk (o := 0) hr4 rfl
  have c1 := cell_of_blk (o := 1) hr4 rfl
  have c2 := cell_of_blk (o := 2) hr4 rfl
  have c3 := cell_of_blk (o := 3) hr4 rfl
  have c4 := cell_of_blk (o := 4) hr4 rfl
  have f0 := frozen_of_blk (o := 0) hr4
  have f1 := frozen_of_blk (o := 1) hr4
  have f2 := frozen_of_blk (o := 2) hr4
  have f3 := frozen_of_blk (o := 3) hr4
  have f4 := frozen_of_blk (o := 4) hr4
  have dl := lt_of_heap' hr4
  clear hdp hsz hsz4 hr4 ht4 he4 HR2 HK2 h4
  by_cases h20 : 20 < dp
  · have y1 : (20 : Int) < dp := by omega
    go_wp2_with fail
    refine ⟨rfl, ?_⟩
    rw [bounded_no HQ.out (.inl (by rw [← HDP.out]; exact h20))]
    refine ⟨?_, HE4.out⟩
    rw [← headT_pos]
    rfl
  · have y1 : ¬ (20 : Int) < dp := by omega
    by_cases h200 : 200 < sz
    · have y2 : (200 : Int) < sz := by omega
      go_wp2_with fail
      refine ⟨rfl, ?_⟩
      rw [bounded_no HQ.out (.inr (by rw [← HSZE.out]; exact h200))]
      refine ⟨?_, HE4.out⟩
      rw [← headT_pos]
      rfl
    · have y2 : ¬ (200 : Int) < sz := by omega
      go_wp2_with fail
      refine bodyPost_ret (v := .agg (tcs true o1 name cm m (.slice A ks.length cap)).toArray) (by simp [results, Tryz.results82, go_sem, tcs, *]) rfl ?_
      exact boxed (b := w.heap.size + 1) (by omega) HRT4.out HP4.out HE4.out ((((Off.refl (w.heap.size + 1) w4).set (o := 0) _).set (o := 1) _).set (o := 2) _ |>.set (o := 3) _ |>.set (o := 4) _) (by omega) (bounded_ok HQ.out (by rw [← HDP.out]; exact h20) (by rw [← HSZE.out]; exact h200))
theorem reads_enters_s : Enters 127 := fun _ _ => by kernel_rfl
theorem bounded_s (f1 : FuncId) (one : List Tok → R Tree) (n p fin : Nat) (hone : ReadsT false f1 p fin n one) (hsz : Siz one) (hf1 : Enters f1) (l : List Tok) (w : World) (hp : PS w p fin l) (hl : l.length < n) (hn : n ≤ 6001) :
 Calls Tryz.prog 126 #[.pointer (some ⟨p, 0, none⟩), .func (.func f1) #[.pointer (some ⟨p, 0, none⟩)] #[], .func (.func 128) #[] #[]] w (OutR p fin w (boundedF one l) (TreeV false w)) := by
 have HONE := Lib.hid hone
 have HSZ := Lib.hid hsz
 have HF1 := Lib.hid hf1
 have HP := Lib.hid hp
 have hpl := hp.lt
 clear hone hsz hf1 hp
 go_enter Tryz.func126, Tryz.ntmps126
 go_wp2_with fail
 refine (next_any p fin l _ (fits_alloc (fits_alloc HP.out _) _)).mono ?_
 rintro e w1 ⟨rfl, hb1⟩
 have hp1 := (fits_alloc (fits_alloc HP.out _) _).below hb1
 have HP1 := Lib.hid hp1
 have HE1 := Lib.hid ((eff_alloc p w _).trans ((eff_alloc p _ _).trans (Eff.of_below hb1)))
 have HKB := Lib.hid ((hb1.block w.heap.size (by simp; omega)).trans (old_at (alloc_at rfl)))
 have HRB := Lib.hid ((hb1.block (w.heap.size + 1) (by simp)).trans (alloc_at (by simp)))
 clear hp1 hb1
 simp only [Tok.agg]
 go_wp2_with fail
 rw [HF1.out, Oper.upon_enter]
 refine HONE.out.call HP1.out hl ?_ ?_
 case refine_2 =>
  intro c s w2 hq he2
  have HQ := Lib.hid hq
  clear hq
  go_wp2_with fail
  refine ⟨rfl, ?_⟩
  rw [show boundedF one l = .error (c, s) by simp only [boundedF, HQ.out, bindR]]
  exact ⟨rfl, HE1.out.trans he2⟩
 case refine_1 =>
  intro t r v w2 hq hv hp2 he2 hr
  have hts := HSZ.out l t r hq
  obtain ⟨cs, rfl, hrt⟩ := hv
  have HRT := Lib.hid hrt
  obtain ⟨T, hT⟩ : ∃ T, T = t := ⟨t, rfl⟩
  obtain ⟨o1, name, cm, m, ks⟩ := t
  obtain ⟨A, cap, rfl, -, -⟩ := hrt
  simp only [tcs]
  have HQ := Lib.hid hq
  have HP2 := Lib.hid hp2
  have HE2 := Lib.hid (HE1.out.trans he2)
  have hs := he2.size
  have hkb := (he2.block w.heap.size (lt_of_heap' HKB.out) (by omega)).trans HKB.out
  have hrb := (he2.block (w.heap.size + 1) (lt_of_heap' HRB.out) (by omega)).trans HRB.out
  have z1 := lt_of_heap' HRB.out
  have z2 := lt_of_heap' hrb
  have HK2 := Lib.hid hkb
  have HR2 := Lib.hid hrb
  have HTS := Lib.hid hts
  clear hq hp2 he2 hkb hrb hts HKB HRB
  go_wp2_with fail
  have h4 := HTS.out
  refine (deep_s 128 kids_s kids_enters_s (w2.heap.size + 1) w.heap.size (w2.heap.size + 1 + 1) _ (.mk o1 name cm m ks) 0 (tcs false o1 name cm m (.slice A ks.length cap)) _ (Nat.le_refl _) (by omega) (boxes_new HK2.out) (HRT.out.keep (by simp; omega) (fun k hk hlt => ⟨by omega, (Below.heap_alloc _ _ _ (by simp; omega)).trans ((Below.heap_alloc _ _ _ (by simp; omega)).trans (Below.heap_alloc _ _ _ hlt))⟩))).mono ?_
  rintro e w4 ⟨rfl, hbx4, he4⟩
  have hs4 := he4.size
  simp only [World.size_alloc] at hs4
  have HE4 := Lib.hid (Eff.weak (HE2.out.trans ((eff_alloc p _ _).trans ((eff_alloc p _ _).trans (eff_alloc p _ _)))) he4 (by omega))
  have HP4 := Lib.hid (PS.keep (fits_alloc (fits_alloc (fits_alloc HP2.out _) _) _) he4.size (fun k hk => he4.block k (by simp; omega) (by omega)))
  obtain ⟨⟨ts, hsz4⟩, -, -, -, -⟩ := hbx4
  simp only [Nat.zero_add] at hsz4
  have q0 := cell_of_blk (o := 0) hsz4 rfl
  have ql := lt_of_heap' hsz4
  have hr4 := (he4.block (w.heap.size + 1) (by simp; omega) (by omega)).trans (old_at (old_at (old_at HR2.out)))
  have ht4 := (he4.block w2.heap.size (by simp; omega) (by omega)).trans (old_at (old_at (alloc_at rfl)))
  have HRT4 := Lib.hid (HRT.out.keep (S' := fun k => w.heap.size + 1 + 1 ≤ k) (w' := w4) (by omega) (fun k hk hlt => ⟨by omega, (he4.block k (by simp; omega) (by omega)).trans ((Below.heap_alloc _ _ _ (by simp; omega)).trans ((Below.heap_alloc _ _ _ (by simp; omega)).trans (Below.heap_alloc _ _ _ hlt)))⟩))
  obtain ⟨dp, hdp⟩ : ∃ dp, dp = (Tree.mk o1 name cm m ks).deep := ⟨_, rfl⟩
  obtain ⟨sz, hsz⟩ : ∃ sz, sz = (Tree.mk o1 name cm m ks).size := ⟨_, rfl⟩
  rw [← hdp]
  rw [← hsz] at q0
  have HDP := Lib.hid hdp
  have HSZE := Lib.hid hsz
  have n1 : ¬ w2.heap.size = w.heap.size + 1 := by omega
  have n2 : ¬ w.heap.size + 1 = w2.heap.size := by omega
  have e0 := cell_of_blk (o := 0) ht4 rfl
  have e1 := cell_of_blk (o := 1) ht4 rfl
  have e2 := cell_of_blk (o := 2) ht4 rfl
  have e3 := cell_of_blk (o := 3) ht4 rfl
  have tl := lt_of_heap' ht4
  have c0 := cell_of_blk (o := 0) hr4 rfl
  have c1 := cell_of_blk (o := 1) hr4 rfl
  have c2 := cell_of_blk (o := 2) hr4 rfl
  have c3 := cell_of_blk (o := 3) hr4 rfl
  have f0 := frozen_of_blk (o := 0) hr4
  have f1 := frozen_of_blk (o := 1) hr4
  have f2 := frozen_of_blk (o := 2) hr4
  have f3 := frozen_of_blk (o := 3) hr4
  have dl := lt_of_heap' hr4
  clear hdp hsz hsz4 hr4 ht4 he4 HR2 HK2 h4
  by_cases h20 : 20 < dp
  · have y1 : (20 : Int) < dp := by omega
    go_wp2_with fail
    refine ⟨rfl, ?_⟩
    rw [bounded_no HQ.out (.inl (by rw [← HDP.out]; exact h20))]
    refine ⟨?_, HE4.out⟩
    rw [← headT_pos]
    rfl
  · have y1 : ¬ (20 : Int) < dp := by omega
    by_cases h200 : 200 < sz
    · have y2 : (200 : Int) < sz := by omega
      go_wp2_with fail
      refine ⟨rfl, ?_⟩
      rw [bounded_no HQ.out (.inr (by rw [← HSZE.out]; exact h200))]
      refine ⟨?_, HE4.out⟩
      rw [← headT_pos]
      rfl
    · have y2 : ¬ (200 : Int) < sz := by omega
      go_wp2_with fail
      refine bodyPost_ret (v := .agg (tcs false o1 name cm m (.slice A ks.length cap)).toArray) (by simp [results, Tryz.results126, go_sem, tcs, *]) rfl ?_
      exact boxed (b := w.heap.size + 1) (by omega) HRT4.out HP4.out HE4.out ((((Off.refl (w.heap.size + 1) w4).set (o := 0) _).set (o := 1) _).set (o := 2) _ |>.set (o := 3) _) (by omega) (bounded_ok HQ.out (by rw [← HDP.out]; exact h20) (by rw [← HSZE.out]; exact h200))
end Go.Proofs.YtbicmjmcdnkjhaaGreatDoor
set_option maxRecDepth 20000
set_option maxHeartbeats 800000
namespace Go.Proofs.YtbicmjmcdnkjhaaGreatDoor
open Go.RowKit
theorem when_any (W : List UInt8) (op n p fin : Nat) (l : List Tok) (w : World) (hp : PS w p fin l) (hl : l.length < n) (hn : n ≤ 6001) :
 Calls Tryz.prog 86 #[.pointer (some ⟨p, 0, none⟩), vs W, .int .i64 op] w (OutR p fin w (whenF n W op l) (TreeV false w)) := by
 have HP := Lib.hid hp
 have hpl := hp.lt
 clear hp
 go_enter Tryz.func86, Tryz.ntmps86
 go_wp2_with fail
 refine take_out [W] _ 1 rfl 1 p fin l _ (fits_alloc (fits_alloc HP.out _) _) (RdS.new (alloc_at (by simp))) (by omega) ?_ ?_
 case refine_1 =>
  intro w1 ht hp1 he1
  have HT := Lib.hid ht
  have HP1 := Lib.hid hp1
  have HE := Lib.hid ((eff_alloc p w _).trans ((eff_alloc p _ _).trans he1))
  have hres := (he1.block w.heap.size (by simp; omega) (by omega)).trans (old_at (alloc_at rfl))
  have c0 := cell_of_blk (o := 0) hres rfl
  have c1 := cell_of_blk (o := 1) hres rfl
  have c2 := cell_of_blk (o := 2) hres rfl
  have c3 := cell_of_blk (o := 3) hres rfl
  have f0 := frozen_of_blk (o := 0) hres
  have f1 := frozen_of_blk (o := 1) hres
  have f2 := frozen_of_blk (o := 2) hres
  have f3 := frozen_of_blk (o := 3) hres
  have dl := lt_of_heap' hres
  clear ht hp1 he1 hres
  go_wp2_with fail
  refine bodyPost_ret (v := .agg (tcs false op [] 0 0 (.slice none 0 0)).toArray) (by simp [results, Tryz.results86, go_sem, tcs, *]) rfl ?_
  exact boxed (Nat.le_refl _) (RdTree.leaf op [] 0 0 none 0) HP1.out HE.out ((((Off.refl w.heap.size w1).set (o := 0) _).set (o := 1) _).set (o := 2) _ |>.set (o := 3) _) hpl (show whenF n W op l = .ok (.mk op [] 0 0 [], l) by simp only [whenF, optF, HT.out])
 case refine_2 =>
  intro i r w1 ht hi hr hp1 he1
  have HT := Lib.hid ht
  have HP1 := Lib.hid hp1
  have HE := Lib.hid ((eff_alloc p w _).trans ((eff_alloc p _ _).trans he1))
  have HRES := Lib.hid ((he1.block w.heap.size (by simp; omega) (by omega)).trans (old_at (alloc_at rfl)))
  have hi0 : decide ((i : Int) < 0) = false := idx_neg i
  have hi1 : ¬ (i : Int) < 0 := by omega
  clear ht hp1 he1
  go_wp2_with fail
  refine calls_out (bounded_s 127 (startF n) n p fin (startF_any n hn) (startF_size n) reads_enters_s r _ HP1.out (by omega) hn) ?_ ?_
  case refine_2 =>
   intro c s w2 hq he2
   have HQ := Lib.hid hq
   clear hq
   go_wp2_with fail
   refine ⟨rfl, ?_⟩
   rw [show whenF n W op l = .error (c, s) by simp only [whenF, optF, HT.out, HQ.out]]
   exact ⟨rfl, HE.out.trans he2⟩
  case refine_1 =>
   intro t r2 v w2 hq hv hp2 he2
   obtain ⟨cs, rfl, hrt⟩ := hv
   have HRT := Lib.hid hrt
   obtain ⟨o1, name, cm, m, ks⟩ := t
   obtain ⟨A, cap, rfl, -, -⟩ := hrt
   simp only [tcs]
   have HQ := Lib.hid hq
   have HP2 := Lib.hid hp2
   have HE2 := Lib.hid (HE.out.trans he2)
   have hz := lt_of_heap' HRES.out
   have hres := (he2.block w.heap.size hz (by omega)).trans HRES.out
   have c0 := cell_of_blk (o := 0) hres rfl
   have c1 := cell_of_blk (o := 1) hres rfl
   have c2 := cell_of_blk (o := 2) hres rfl
   have c3 := cell_of_blk (o := 3) hres rfl
   have f0 := frozen_of_blk (o := 0) hres
   have f1 := frozen_of_blk (o := 1) hres
   have f2 := frozen_of_blk (o := 2) hres
   have f3 := frozen_of_blk (o := 3) hres
   have dl := lt_of_heap' hres
   clear hq hp2 he2 hres
   go_wp2_with fail
   refine bodyPost_ret (v := .agg (tcs false o1 name cm m (.slice A ks.length cap)).toArray) (by simp [results, Tryz.results86, go_sem, tcs, *]) rfl ?_
   exact boxed (Nat.le_refl _) (HRT.out.keep (Nat.le_refl _) (fun b hb _ => ⟨by omega, rfl⟩)) HP2.out HE2.out ((((Off.refl w.heap.size w2).set (o := 0) _).set (o := 1) _).set (o := 2) _ |>.set (o := 3) _) hpl (show whenF n W op l = .ok (.mk o1 name cm m ks, r2) by simp only [whenF, optF, HT.out, HQ.out])
end Go.Proofs.YtbicmjmcdnkjhaaGreatDoor
set_option maxRecDepth 20000
set_option maxHeartbeats 400000
namespace Go.Proofs.YtbicmjmcdnkjhaaGreatDoor
open Go.RowKit
theorem ixS_neg {l : List (List UInt8)} {s : List UInt8} (h : l.contains s = false) : ixS l s = none := by
 unfold ixS
 rw [List.findIdx?_eq_none_iff]
 intro x hx
 cases hb : (s == x) with
 | false => rfl
 | true =>
   have : s = x := by simpa using hb
   subst this
   simp at h
   exact absurd hx h
theorem ixS_pos {l : List (List UInt8)} {s : List UInt8} (h : l.contains s = true) : ∃ i, ixS l s = some i := by
 cases hi : ixS l s with
 | some i => exact ⟨i, rfl⟩
 | none =>
   unfold ixS at hi
   rw [List.findIdx?_eq_none_iff] at hi
   simp at h
   have := hi s h
   simp at this
theorem containsS_any (l : List (List UInt8)) (A : Option Addr) (c : Nat) (s : List UInt8) (w : World) (hr : RdS w A l) (hl : l.length ≤ 1000) :
 Calls Tryz.prog 125 #[.slice A l.length c, vs s] w fun e w' => e = .returned (.bool (l.contains s)) ∧ w = w' := by
 have HR := Lib.hid hr
 clear hr
 cases hc : l.contains s with
 | true =>
   obtain ⟨i, hi⟩ := ixS_pos hc
   have HI := Lib.hid hi
   have h0 : (0 : Int) ≤ i := by omega
   clear hi hc
   go_enter Tryz.func125, Tryz.ntmps125
   go_wp2_with fail
   refine (indexS_any l A c s _ HR.out (by unfold maxLen; omega)).mono ?_
   rintro e w1 ⟨rfl, rfl⟩
   rw [HI.out]
   go_wp2_with fail
   go_ret
   exact ⟨rfl, rfl⟩
 | false =>
   have HI := Lib.hid (ixS_neg hc)
   clear hc
   go_enter Tryz.func125, Tryz.ntmps125
   go_wp2_with fail
   refine (indexS_any l A c s _ HR.out (by unfold maxLen; omega)).mono ?_
   rintro e w1 ⟨rfl, rfl⟩
   rw [HI.out]
   go_wp2_with fail
   go_ret
   exact ⟨rfl, rfl⟩
/- a row of strings that the call owns -/
end Go.Proofs.YtbicmjmcdnkjhaaGreatDoor
set_option maxRecDepth 20000
set_option maxHeartbeats 800000
namespace Go.Proofs.YtbicmjmcdnkjhaaGreatDoor
open Go.RowKit
abbrev StrV (w : World) (l : List (List UInt8)) (v : Value) (w' : World) : Prop := ∃ A cap, v = .slice A l.length cap ∧ l.length ≤ cap ∧ RdS w' A l ∧ ∀ b o, A = some ⟨b, o, none⟩ → w.heap.size ≤ b ∧ b < w'.heap.size
theorem exceptF_eq (n : Nat) (out : List (List UInt8)) (l : List Tok) : exceptF (n + 1) out l = bindR (nameF l) fun s r =>
 guardR l (excC out s) <| optF [[44]] r (fun _ r' => exceptF n (out ++ [s]) r') (fun r' => .ok (out ++ [s], r')) := rfl
theorem except_any (p fin : Nat) (l : List Tok) (w : World) (hp : PS w p fin l) :
 Calls Tryz.prog 85 #[.pointer (some ⟨p, 0, none⟩)] w (OutR p fin w (exceptF 22 [] l) (StrV w)) := by
 have HP := Lib.hid hp
 have hpl := hp.lt
 clear hp
 go_enter Tryz.func85, Tryz.ntmps85
 go_wp2_with fail
 go_loopw [3] (fun v wr => ∃ (k : Nat) (acc : List (List UInt8)) (r : List Tok), acc.length + (k + 1) = 22 ∧ acc.length ≤ 20 ∧ exceptF 22 [] l = exceptF (k + 1) acc r ∧ PS wr p fin r ∧ Eff p w wr ∧ OwnS wr w.heap.size v acc) (fun _ wr => plen p wr)
 case atStart => exact ⟨21, [], l, rfl, by simp, rfl, HP.out, Eff.refl p w, OwnS.nil⟩
 case round =>
  obtain ⟨k, acc, r, hk, h20, hexc, hps, hef, hown⟩ := hrel
  obtain ⟨A, cap, rfl, hcap, hrd, hA⟩ := hown.form
  have HOWN := Lib.hid hown
  have HRD := Lib.hid hrd
  have HEX := Lib.hid hexc
  have HPS := Lib.hid hps
  have HEF := Lib.hid hef
  have HA := Lib.hid hA
  have hws := hef.size
  clear hown hrd hexc hps hef hA HP
  go_wp2_with fail
  refine (next_any p fin r _ HPS.out).mono ?_
  rintro e w1 ⟨rfl, hb1⟩
  have HB1 := Lib.hid hb1
  have HP1 := Lib.hid (HPS.out.below hb1)
  clear hb1
  simp only [Tok.agg]
  go_wp2_with fail
  refine calls_out (name_any p fin r _ HP1.out) ?_ ?_
  case refine_2 =>
   intro c s w2 hq he2
   have HQ := Lib.hid hq
   clear hq
   go_wp2_with fail
   refine ⟨rfl, ?_⟩
   rw [show exceptF 22 [] l = .error (c, s) by rw [HEX.out, exceptF_eq, HQ.out]; rfl]
   exact ⟨rfl, HEF.out.trans ((Eff.of_below HB1.out).trans he2)⟩
  case refine_1 =>
   intro s r2 v w2 hq hv hp2 he2
   subst hv
   have HQ := Lib.hid hq
   have HP2 := Lib.hid hp2
   have HE2 := Lib.hid ((Eff.of_below HB1.out).trans he2)
   have HO2 := Lib.hid (HOWN.out.eff ((Eff.of_below HB1.out).trans he2) hpl)
   clear hq hp2 he2
   go_wp2_with fail
   obtain ⟨A2, cap2, hv2, -, hrd2, -⟩ := HO2.out.form
   cases hv2
   refine (containsS_any acc A cap s _ hrd2 (by omega)).mono ?_
   rintro e w3 ⟨rfl, rfl⟩
   clear hrd2
   cases hc : acc.contains s with
   | true =>
     have HC := Lib.hid hc
     clear hc
     go_wp2_with fail
     refine ⟨rfl, ?_⟩
     rw [show exceptF 22 [] l = .error (9, r) by rw [HEX.out, exceptF_eq, HQ.out]; simp only [bindR, excC, HC.out, if_true, guardR]; rfl]
     refine ⟨?_, HEF.out.trans HE2.out⟩
     rw [← headT_pos]
     rfl
   | false =>
     have HC := Lib.hid hc
     clear hc
     by_cases h2 : acc.length = 20
     · have y1 : ((acc.length : Int) == 20) = true := by simp; omega
       have H2 := Lib.hid h2
       clear h2
       go_wp2_with fail
       refine ⟨rfl, ?_⟩
       rw [show exceptF 22 [] l = .error (2, r) by rw [HEX.out, exceptF_eq, HQ.out]; simp only [bindR, excC, HC.out, H2.out, if_true, guardR]; rfl]
       refine ⟨?_, HEF.out.trans HE2.out⟩
       rw [← headT_pos]
       rfl
     · have y1 : ((acc.length : Int) == 20) = false := by simp; omega
       have H2 := Lib.hid h2
       have hs2 := HE2.out.size
       have hcell : (w2.alloc (.cells #[vs s] 9 (0, 0))).cell? ⟨w2.heap.size, 0, none⟩ = some (vs s) := cell_of_blk (heap_alloc_new w2 _) rfl
       have HCELL := Lib.hid hcell
       have HO3 := Lib.hid (HO2.out.eff (eff_alloc p w2 (.cells #[vs s] 9 (0, 0))) hpl)
       have hsz3 : w.heap.size ≤ (w2.alloc (.cells #[vs s] 9 (0, 0))).heap.size := by simp; omega
       have HSZ3 := Lib.hid hsz3
       clear h2 hcell hsz3
       go_wp2_with (at_builtin; refine wpList_append_str rfl (.tmp 25) (.tmp 27) rfl w.heap.size (.slice A acc.length cap) acc w2.heap.size s rfl rfl HO3.out HCELL.out (by omega) HSZ3.out ?_; intro v' w3 ho hg)
       have hown' := HO3.out.own
       have HP3 := Lib.hid ((fits_alloc HP2.out (.cells #[vs s] 9 (0, 0))).grown hg (fun b hb => by have := (hown' b hb).1; omega))
       have HE3 := Lib.hid (((HEF.out.trans HE2.out).trans (eff_alloc p w2 (.cells #[vs s] 9 (0, 0)))).grown hg (fun b hb => (hown' b hb).1))
       have HOW := Lib.hid ho
       have hnl := nameF_len HQ.out
       have HNX := Lib.hid (show exceptF (k + 1) acc r = optF [[44]] r2 (fun _ r' => exceptF k (acc ++ [s]) r') (fun r' => .ok (acc ++ [s], r')) by rw [exceptF_eq, HQ.out]; simp only [bindR, excC, HC.out, H2.out, if_false, Bool.false_eq_true, guardR, if_true])
       clear hg ho
       refine take_out [[44]] _ 1 rfl 1 p fin r2 _ (fits_alloc HP3.out _) (RdS.new (alloc_at rfl)) (by omega) ?_ ?_
       case refine_1 =>
        intro w4 ht hp4 he4
        have HT := Lib.hid ht
        have HP4 := Lib.hid hp4
        have HE4 := Lib.hid ((eff_alloc p w3 _).trans he4)
        clear ht hp4 he4
        go_wp2_with fail
        go_ret
        rw [show exceptF 22 [] l = .ok (acc ++ [s], r2) by rw [HEX.out, HNX.out]; simp only [optF, HT.out]]
        exact ⟨_, rfl, (HOW.out.eff HE4.out hpl).form, HP4.out, HE3.out.trans HE4.out⟩
       case refine_2 =>
        intro i r3 w4 ht hi hr3 hp4 he4
        have HT := Lib.hid ht
        have HP4 := Lib.hid hp4
        have HE4 := Lib.hid ((eff_alloc p w3 _).trans he4)
        have hi0 : decide ((i : Int) < 0) = false := idx_neg i
        have hi1 : ¬ (i : Int) < 0 := by omega
        obtain ⟨k', rfl⟩ : ∃ k', k = k' + 1 := ⟨k - 1, by omega⟩
        clear ht hp4 he4
        go_wp2_with fail
        have h2 := H2.out
        refine ⟨⟨k', acc ++ [s], r3, by simp; omega, by simp; omega, ?_, HP4.out, HE3.out.trans HE4.out, HOW.out.eff HE4.out hpl⟩, ?_⟩
        · rw [HEX.out, HNX.out]; simp only [optF, HT.out]
        · rw [HP4.out.plen, HPS.out.plen]; omega
end Go.Proofs.YtbicmjmcdnkjhaaGreatDoor
namespace Go.Proofs.YtbicmjmcdnkjhaaGreatDoor
open Go.ChangeShapes Go.WideShapes Go.ChangeAt Go.RowKit
theorem Tryz.own : ownKnob Tryz.prog.godebug = none := by kernel_rfl
theorem Tryz.laidOut : laidOutB Tryz.prog = true := by kernel_rfl
theorem maxLen_cell (W : World) (h : W.ShapedOpen Tryz.prog) : ∃ m, W.cell? ⟨2, 0, none⟩ = some (.int .i64 m) :=
 cell_of_shapedOpen_int (t := 3) (zero := #[.int .i64 0]) h (of_decide_eq_true (by kernel_rfl)) (by kernel_rfl) rfl (by kernel_rfl) (by kernel_rfl) Tryz.underlying3
theorem door_met (os : Os) (args : Array Value) : laidMetH Tryz.prog Rows.printerEqualRow.laid ((World.doorLaid Tryz.prog 400 os).forCall (fun _ _ => 0) ⟨#[], args, []⟩).memory :=
 laidMetH_of_parts3 (fuel := 8) (laidMet_of_run' 8 (by kernel_rfl) (by kernel_rfl)) (by kernel_rfl) (by kernel_rfl)
/- the tables that the library reads, off the row's list -/
theorem tabs_of (W : World) (h : laidMetH Tryz.prog Rows.printerEqualRow.laid W) : Tabs W := by
 refine Tabs.mk' ?_ ?_
 · have h1 := h.filter (fun x => x.1 == "strings.asciiSpace")
   have e : (Rows.printerEqualRow.laid.filter (fun x => x.1 == "strings.asciiSpace") : List (String × DataW Unit)) = [("strings.asciiSpace", Lib.tabData .u8 Lib.asciiSpaceTab)] := by kernel_rfl
   rw [e, Go.MakeChecks.laidMetH_plain _ _ _ (by kernel_rfl)] at h1
   exact Lib.tabIs_of_head (g := 0) (rest := []) (by kernel_rfl) (by kernel_rfl) Tryz.underlying157 Tryz.underlying5 (by kernel_rfl) (by kernel_rfl) h1
 · have h1 := h.filter (fun x => x.1 == "internal/strconv.uint64pow10")
   have e : (Rows.printerEqualRow.laid.filter (fun x => x.1 == "internal/strconv.uint64pow10") : List (String × DataW Unit)) = [("internal/strconv.uint64pow10", Lib.tabData .u64 Lib.pow10Tab)] := by kernel_rfl
   rw [e, Go.MakeChecks.laidMetH_plain _ _ _ (by kernel_rfl)] at h1
   exact Lib.tabIs_of_head (g := 3) (rest := []) (by kernel_rfl) (by kernel_rfl) Tryz.underlying264 Tryz.underlying137 (by kernel_rfl) (by kernel_rfl) h1
/- 'returnsInHanded_of_change_and' with the world's shape handed on -/
theorem change_shaped_and {H : Type} {enc : TypeId × Value → H} {a : Assume} {C : Checked} {os : Os} {f : FuncId} {fn : Func} {s : ChangeSpec} {conds : List PathCond} {apart fresh handsOn again : Bool} {X : World → Array Value → Prop}
 (hX : ∀ (w w' : World) (args : Array Value), w.heap = w'.heap → X w args → X w' args)
 (own : ownKnob C.prog.godebug = none) (started : os.Started) (noInit : C.prog.inits.idxOf? f = none) (hfn : C.prog.funcs[f]? = some fn)
 (witness : ∃ (w : World) (tape : Tape) (i : Input), w.os = os ∧ (w.forCall tape i).Shaped C.prog ∧ i.vars = [] ∧ Input.okWide C.prog (w.forCall tape i) .any w.heap.size f i ∧
   ((s.pre enc C.prog fn conds apart (w.forCall tape i).memory i.args ∧ X (w.forCall tape i).memory i.args) ∧ sizedMet enc C.prog fn (OpenSpec.ofChange s) apart (w.forCall tape i).memory i.args) ∧ a.holds C.prog (lone (Frame.enter C.prog f i.args .normal) [] (w.forCall tape i)))
 (contract : ∀ (W : World) (base : Nat) (args : Array Value) (ds gs : List (DataW H)) (before : List MemPlace),
   (∀ (j : Nat) t v, fn.params[j]? = some t → args[j]? = some v → Value.okWide C.prog W .any base t v) →
   DataW.Whole enc C.prog fn.params.toList s.vars apart W args.toList ds gs before →
   conds.all (PathCond.test C.prog ⟨fn.params.toList, ds, s.plain.varTypes C.prog, gs⟩) = true →
   (DataW.weightsEach C.prog (fn.params.toList ++ s.plain.varTypes C.prog) (ds ++ gs)).all (· ≤ reachBytes) = true → X W args → W.ShapedOpen C.prog →
   a.holds C.prog (lone (Frame.enter C.prog f args .normal) [] W) →
   Calls C.prog f args W fun e W' => ∃ v, e = .returned v ∧ s.post enc C.prog fn apart fresh handsOn again W args v W') :
 ReturnsInHanded a C os f .any (fun w args => (s.pre enc C.prog fn conds apart w args ∧ X w args) ∧ sizedMet enc C.prog fn (OpenSpec.ofChange s) apart w args) (s.post enc C.prog fn apart fresh handsOn again) := by
 refine returnsInHanded_of_calls own started noInit witness ?_
 intro w tape i _ hsh _ hok hpre hholds
 obtain ⟨_, _, _, fn', hfn', _, _, _, _, hval⟩ := hok
 have e : fn' = fn := Option.some.inj (hfn'.symm.trans hfn)
 subst e
 obtain ⟨⟨⟨ds, gs, before, hw, hc⟩, hx⟩, hz⟩ := hpre
 have hw' := DataW.Whole.of_heap (w' := w.forCall tape i) (by rfl) hw
 refine (contract (w.forCall tape i) w.heap.size i.args ds gs before hval hw' hc (hz.weights hw) (hX _ _ _ (by rfl) hx) hsh hholds).mono fun e W' ⟨v, he, hp⟩ => ?_
 subst he
 exact ChangeSpec.post_blind hp
end Go.Proofs.YtbicmjmcdnkjhaaGreatDoor
