/- when: a part with a condition of commencement, if its word is next. -/
import Derived.Test.YtpagkakplmeokaaDoorNBound
set_option linter.unusedVariables false
set_option linter.unusedSimpArgs false
namespace Go.Proofs.YtpagkakplmeokaaDoor
open Go.RowKit
set_option maxRecDepth 20000 in
set_option maxHeartbeats 800000 in
theorem when_any (W : List UInt8) (op n p fin : Nat) (l : List Tok) (w : World) (hp : PS w p fin l) (hl : l.length < n) (hn : n ≤ 6001) :
    Calls Tryd.prog 45 #[.pointer (some ⟨p, 0, none⟩), vs W, .int .i64 op] w (OutR p fin w (whenF n W op l) (TreeV false w)) := by
  have HP := Lib.hid hp
  have hpl := hp.lt
  clear hp
  go_enter Tryd.func45, Tryd.ntmps45
  go_wp2_with fail
  refine take_out [W] _ 1 rfl 1 p fin l _ (fits_alloc (fits_alloc HP.out _) _) (RdS.new (alloc_at (by simp))) (by omega) ?_ ?_
  case refine_1 =>
    intro w1 ht hp1 he1
    have HT := Lib.hid ht
    have HP1 := Lib.hid hp1
    have HE := Lib.hid ((eff_alloc p w _).trans ((eff_alloc p _ _).trans he1))
    have hres := (he1.block w.heap.size (by simp; omega) (by omega)).trans (old_at (alloc_at rfl))
    have c0 := cell_of_blk (o := 0) hres rfl
    have c1 := cell_of_blk (o := 1) hres rfl
    have c2 := cell_of_blk (o := 2) hres rfl
    have c3 := cell_of_blk (o := 3) hres rfl
    have f0 := frozen_of_blk (o := 0) hres
    have f1 := frozen_of_blk (o := 1) hres
    have f2 := frozen_of_blk (o := 2) hres
    have f3 := frozen_of_blk (o := 3) hres
    have dl := lt_of_heap' hres
    clear ht hp1 he1 hres
    go_wp2_with fail
    refine bodyPost_ret (v := .agg (tcs false op [] 0 0 (.slice none 0 0)).toArray) (by simp [results, Tryd.results45, go_sem, tcs, *]) rfl ?_
    exact boxed (Nat.le_refl _) (RdTree.leaf op [] 0 0 none 0) HP1.out HE.out ((((Off.refl w.heap.size w1).set (o := 0) _).set (o := 1) _).set (o := 2) _ |>.set (o := 3) _) hpl (show whenF n W op l = .ok (.mk op [] 0 0 [], l) by simp only [whenF, optF, HT.out])
  case refine_2 =>
    intro i r w1 ht hi hr hp1 he1
    have HT := Lib.hid ht
    have HP1 := Lib.hid hp1
    have HE := Lib.hid ((eff_alloc p w _).trans ((eff_alloc p _ _).trans he1))
    have HRES := Lib.hid ((he1.block w.heap.size (by simp; omega) (by omega)).trans (old_at (alloc_at rfl)))
    have hi0 : decide ((i : Int) < 0) = false := idx_neg i
    have hi1 : ¬ (i : Int) < 0 := by omega
    clear ht hp1 he1
    go_wp2_with fail
    refine calls_out (bounded_s 62 (startF n) n p fin (startF_any n hn) (startF_size n) reads_enters_s r _ HP1.out (by omega) hn) ?_ ?_
    case refine_2 =>
      intro c s w2 hq he2
      have HQ := Lib.hid hq
      clear hq
      go_wp2_with fail
      refine ⟨rfl, ?_⟩
      rw [show whenF n W op l = .error (c, s) by simp only [whenF, optF, HT.out, HQ.out]]
      exact ⟨rfl, HE.out.trans he2⟩
    case refine_1 =>
      intro t r2 v w2 hq hv hp2 he2
      obtain ⟨cs, rfl, hrt⟩ := hv
      have HRT := Lib.hid hrt
      obtain ⟨o1, name, cm, m, ks⟩ := t
      obtain ⟨A, cap, rfl, -, -⟩ := hrt
      simp only [tcs]
      have HQ := Lib.hid hq
      have HP2 := Lib.hid hp2
      have HE2 := Lib.hid (HE.out.trans he2)
      have hz := lt_of_heap' HRES.out
      have hres := (he2.block w.heap.size hz (by omega)).trans HRES.out
      have c0 := cell_of_blk (o := 0) hres rfl
      have c1 := cell_of_blk (o := 1) hres rfl
      have c2 := cell_of_blk (o := 2) hres rfl
      have c3 := cell_of_blk (o := 3) hres rfl
      have f0 := frozen_of_blk (o := 0) hres
      have f1 := frozen_of_blk (o := 1) hres
      have f2 := frozen_of_blk (o := 2) hres
      have f3 := frozen_of_blk (o := 3) hres
      have dl := lt_of_heap' hres
      clear hq hp2 he2 hres
      go_wp2_with fail
      refine bodyPost_ret (v := .agg (tcs false o1 name cm m (.slice A ks.length cap)).toArray) (by simp [results, Tryd.results45, go_sem, tcs, *]) rfl ?_
      exact boxed (Nat.le_refl _) (HRT.out.keep (Nat.le_refl _) (fun b hb _ => ⟨by omega, rfl⟩)) HP2.out HE2.out ((((Off.refl w.heap.size w2).set (o := 0) _).set (o := 1) _).set (o := 2) _ |>.set (o := 3) _) hpl (show whenF n W op l = .ok (.mk o1 name cm m ks, r2) by simp only [whenF, optF, HT.out, HQ.out])
end Go.Proofs.YtpagkakplmeokaaDoor
