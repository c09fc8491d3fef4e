/- and, cond, all, start: several of one, joined. -/
import Derived.Test.YtpagkakplmeokaaDoorNSev2
set_option linter.unusedVariables false
set_option linter.unusedSimpArgs false
namespace Go.Proofs.YtpagkakplmeokaaDoor
open Go.RowKit
theorem OutR.elim {α : Type} {p fin : Nat} {w w' : World} {res : R α} {V : α → Value → World → Prop} {e : Ending} {K : Ending → World → Prop} (h : OutR p fin w res V e w') (hk : ∀ x r v, res = .ok (x, r) → V x v w' → PS w' p fin r → Eff p w w' → K (.returned v) w') (he : ∀ c s, res = .error (c, s) → Eff p w w' → K (stopE c (posAt fin s)) w') : K e w' := by
  cases hq : res with
  | error x =>
    obtain ⟨c, s⟩ := x
    rw [hq] at h
    obtain ⟨rfl, h2⟩ := h
    exact he c s hq h2
  | ok x =>
    obtain ⟨t, r⟩ := x
    rw [hq] at h
    obtain ⟨v, rfl, h1, h2, h3⟩ := h
    exact hk t r v hq h1 h2 h3
theorem calls_out {α : Type} {f : FuncId} {args : Array Value} {p fin : Nat} {w w0 : World} {res : R α} {V : α → Value → World → Prop} {K : Ending → World → Prop} (h : Calls Tryd.prog f args w (OutR p fin w0 res V)) (hk : ∀ x r v w', res = .ok (x, r) → V x v w' → PS w' p fin r → Eff p w0 w' → K (.returned v) w') (he : ∀ c s w', res = .error (c, s) → Eff p w0 w' → K (stopE c (posAt fin s)) w') : Calls Tryd.prog f args w K :=
  h.mono fun e w' ho => ho.elim (fun x r v => hk x r v w') (fun c s => he c s w')
theorem boxed {fm : Bool} {p fin b : Nat} {w w1 w2 : World} {cs : List Value} {t : Tree} {r : List Tok} {res : R Tree} (hb : w.heap.size ≤ b) (hv : RdTree fm (fun k => b + 1 ≤ k) w1 cs t) (hp : PS w1 p fin r) (he : Eff p w w1) (ho : Off b w1 w2) (hpl : p < b) (hr : res = .ok (t, r)) : OutR p fin w res (TreeV fm w) (.returned (.agg cs.toArray)) w2 := by
  rw [hr]
  exact ⟨_, rfl, ⟨_, rfl, hv.off ho (Nat.lt_succ_self _) (by omega)⟩, hp.off ho hpl, he.off ho hb⟩
theorem fits_alloc {p fin : Nat} {l : List Tok} {w : World} (hp : PS w p fin l) (o : Obj) : PS (w.alloc o) p fin l := hp.below ((Below.refl _ _).alloc (Nat.le_refl _) _)
theorem eff_alloc (p : Nat) (w : World) (o : Obj) : Eff p w (w.alloc o) := Eff.of_below ((Below.refl _ _).alloc (Nat.le_refl _) _)
set_option maxRecDepth 20000 in
set_option maxHeartbeats 400000 in
theorem and_joins : JoinsT true 73 6 := by
  refine ⟨fun A n c w => ?_⟩
  go_enter Tryd.func73, Tryd.ntmps73
  go_wp2_with fail
  refine bodyPost_ret (v := .agg #[.int .i64 6, vs [], .int .i64 0, .int .i64 0, .slice A n c]) (by simp [results, Tryd.results73, go_sem]) rfl ⟨rfl, ?_⟩
  exact (Below.refl _ _).alloc (Nat.le_refl _) _
set_option maxRecDepth 20000 in
set_option maxHeartbeats 400000 in
theorem cond_joins : JoinsT true 59 7 := by
  refine ⟨fun A n c w => ?_⟩
  go_enter Tryd.func59, Tryd.ntmps59
  go_wp2_with fail
  refine bodyPost_ret (v := .agg #[.int .i64 7, vs [], .int .i64 0, .int .i64 0, .slice A n c]) (by simp [results, Tryd.results59, go_sem]) rfl ⟨rfl, ?_⟩
  exact (Below.refl _ _).alloc (Nat.le_refl _) _
set_option maxRecDepth 20000 in
set_option maxHeartbeats 400000 in
theorem all_joins : JoinsT false 85 8 := by
  refine ⟨fun A n c w => ?_⟩
  go_enter Tryd.func85, Tryd.ntmps85
  go_wp2_with fail
  refine bodyPost_ret (v := .agg #[.int .i64 8, vs [], .int .i64 0, .slice A n c]) (by simp [results, Tryd.results85, go_sem]) rfl ⟨rfl, ?_⟩
  exact (Below.refl _ _).alloc (Nat.le_refl _) _
set_option maxRecDepth 20000 in
set_option maxHeartbeats 400000 in
theorem start_joins : JoinsT false 77 9 := by
  refine ⟨fun A n c w => ?_⟩
  go_enter Tryd.func77, Tryd.ntmps77
  go_wp2_with fail
  refine bodyPost_ret (v := .agg #[.int .i64 9, vs [], .int .i64 0, .slice A n c]) (by simp [results, Tryd.results77, go_sem]) rfl ⟨rfl, ?_⟩
  exact (Below.refl _ _).alloc (Nat.le_refl _) _
theorem and_enters : Enters 73 := fun _ _ => by kernel_rfl
theorem and_one_enters : Enters 72 := fun _ _ => by kernel_rfl
set_option maxRecDepth 20000 in
set_option maxHeartbeats 400000 in
theorem and_any {p fin n : Nat} {one : List Tok → R Tree} (hone : ReadsT true 72 p fin n one) (hn : n ≤ 6001) : ReadsT true 58 p fin n (severalF one [97, 110, 100] 6 n) := by
  refine ⟨fun l w hp hl => ?_, hone.sane.severalF _⟩
  have hpl := hp.lt
  have HC := Lib.hid (several_f _ _ 6 [97, 110, 100] one n p fin hone and_joins and_one_enters and_enters l _ (fits_alloc hp (.cells #[.int .i64 0, .string ⟨#[]⟩, .int .i64 0, .int .i64 0, .slice none 0 0] 29 (0, 0))) hl (by omega))
  clear hone hp
  go_enter Tryd.func58, Tryd.ntmps58
  go_wp2_with fail
  refine calls_out HC.out ?_ ?_
  case refine_2 =>
    intro c s w1 hq he
    have HQ := Lib.hid hq
    clear hq
    go_wp2_with fail
    refine ⟨rfl, ?_⟩
    rw [HQ.out]
    exact ⟨rfl, (eff_alloc p w _).trans he⟩
  case refine_1 =>
    intro t r v w1 hq hv hp1 he
    obtain ⟨cs, rfl, hrt⟩ := hv
    have HRT := Lib.hid hrt
    obtain ⟨o1, name, cm, m, ks⟩ := t
    obtain ⟨A, cap, rfl, -, -⟩ := hrt
    simp only [tcs]
    have hres : w1.heap[w.heap.size]? = some (.cells #[.int .i64 0, .string ⟨#[]⟩, .int .i64 0, .int .i64 0, .slice none 0 0] 29 (0, 0)) := by
      rw [he.block _ (by simp) (by omega)]; exact heap_alloc_new w _
    have c0 := cell_of_blk (o := 0) hres rfl
    have c1 := cell_of_blk (o := 1) hres rfl
    have c2 := cell_of_blk (o := 2) hres rfl
    have c3 := cell_of_blk (o := 3) hres rfl
    have c4 := cell_of_blk (o := 4) hres rfl
    have f0 := frozen_of_blk (o := 0) hres
    have f1 := frozen_of_blk (o := 1) hres
    have f2 := frozen_of_blk (o := 2) hres
    have f3 := frozen_of_blk (o := 3) hres
    have f4 := frozen_of_blk (o := 4) hres
    have dl := lt_of_heap' hres
    have HP1 := Lib.hid hp1
    have HE := Lib.hid he
    have HQ := Lib.hid hq
    clear hres hp1 he hq
    go_wp2_with fail
    refine bodyPost_ret (v := .agg (tcs true o1 name cm m (.slice A ks.length cap)).toArray) (by simp [results, Tryd.results58, go_sem, tcs, *]) rfl ?_
    exact boxed (Nat.le_refl _) (HRT.out.keep (Nat.le_refl _) (fun b hb _ => ⟨by simpa using hb, rfl⟩)) HP1.out ((eff_alloc p w _).trans HE.out) (((((Off.refl w.heap.size w1).set (o := 0) (.int .i64 o1)).set (o := 1) (vs name)).set (o := 2) (.int .i64 cm)).set (o := 3) (.int .i64 m) |>.set (o := 4) (.slice A ks.length cap)) hpl HQ.out
theorem cond_enters : Enters 59 := fun _ _ => by kernel_rfl
theorem cond_one_enters : Enters 58 := fun _ _ => by kernel_rfl
set_option maxRecDepth 20000 in
set_option maxHeartbeats 400000 in
theorem cond_any {p fin n : Nat} {one : List Tok → R Tree} (hone : ReadsT true 58 p fin n one) (hn : n ≤ 6001) : ReadsT true 42 p fin n (severalF one [111, 114] 7 n) := by
  refine ⟨fun l w hp hl => ?_, hone.sane.severalF _⟩
  have hpl := hp.lt
  have HC := Lib.hid (several_f _ _ 7 [111, 114] one n p fin hone cond_joins cond_one_enters cond_enters l _ (fits_alloc hp (.cells #[.int .i64 0, .string ⟨#[]⟩, .int .i64 0, .int .i64 0, .slice none 0 0] 29 (0, 0))) hl (by omega))
  clear hone hp
  go_enter Tryd.func42, Tryd.ntmps42
  go_wp2_with fail
  refine calls_out HC.out ?_ ?_
  case refine_2 =>
    intro c s w1 hq he
    have HQ := Lib.hid hq
    clear hq
    go_wp2_with fail
    refine ⟨rfl, ?_⟩
    rw [HQ.out]
    exact ⟨rfl, (eff_alloc p w _).trans he⟩
  case refine_1 =>
    intro t r v w1 hq hv hp1 he
    obtain ⟨cs, rfl, hrt⟩ := hv
    have HRT := Lib.hid hrt
    obtain ⟨o1, name, cm, m, ks⟩ := t
    obtain ⟨A, cap, rfl, -, -⟩ := hrt
    simp only [tcs]
    have hres : w1.heap[w.heap.size]? = some (.cells #[.int .i64 0, .string ⟨#[]⟩, .int .i64 0, .int .i64 0, .slice none 0 0] 29 (0, 0)) := by
      rw [he.block _ (by simp) (by omega)]; exact heap_alloc_new w _
    have c0 := cell_of_blk (o := 0) hres rfl
    have c1 := cell_of_blk (o := 1) hres rfl
    have c2 := cell_of_blk (o := 2) hres rfl
    have c3 := cell_of_blk (o := 3) hres rfl
    have c4 := cell_of_blk (o := 4) hres rfl
    have f0 := frozen_of_blk (o := 0) hres
    have f1 := frozen_of_blk (o := 1) hres
    have f2 := frozen_of_blk (o := 2) hres
    have f3 := frozen_of_blk (o := 3) hres
    have f4 := frozen_of_blk (o := 4) hres
    have dl := lt_of_heap' hres
    have HP1 := Lib.hid hp1
    have HE := Lib.hid he
    have HQ := Lib.hid hq
    clear hres hp1 he hq
    go_wp2_with fail
    refine bodyPost_ret (v := .agg (tcs true o1 name cm m (.slice A ks.length cap)).toArray) (by simp [results, Tryd.results42, go_sem, tcs, *]) rfl ?_
    exact boxed (Nat.le_refl _) (HRT.out.keep (Nat.le_refl _) (fun b hb _ => ⟨by simpa using hb, rfl⟩)) HP1.out ((eff_alloc p w _).trans HE.out) (((((Off.refl w.heap.size w1).set (o := 0) (.int .i64 o1)).set (o := 1) (vs name)).set (o := 2) (.int .i64 cm)).set (o := 3) (.int .i64 m) |>.set (o := 4) (.slice A ks.length cap)) hpl HQ.out
theorem all_enters : Enters 85 := fun _ _ => by kernel_rfl
theorem all_one_enters : Enters 84 := fun _ _ => by kernel_rfl
set_option maxRecDepth 20000 in
set_option maxHeartbeats 400000 in
theorem all_any {p fin n : Nat} {one : List Tok → R Tree} (hone : ReadsT false 84 p fin n one) (hn : n ≤ 6001) : ReadsT false 76 p fin n (severalF one [97, 110, 100] 8 n) := by
  refine ⟨fun l w hp hl => ?_, hone.sane.severalF _⟩
  have hpl := hp.lt
  have HC := Lib.hid (several_s _ _ 8 [97, 110, 100] one n p fin hone all_joins all_one_enters all_enters l _ (fits_alloc hp (.cells #[.int .i64 0, .string ⟨#[]⟩, .int .i64 0, .slice none 0 0] 33 (0, 0))) hl (by omega))
  clear hone hp
  go_enter Tryd.func76, Tryd.ntmps76
  go_wp2_with fail
  refine calls_out HC.out ?_ ?_
  case refine_2 =>
    intro c s w1 hq he
    have HQ := Lib.hid hq
    clear hq
    go_wp2_with fail
    refine ⟨rfl, ?_⟩
    rw [HQ.out]
    exact ⟨rfl, (eff_alloc p w _).trans he⟩
  case refine_1 =>
    intro t r v w1 hq hv hp1 he
    obtain ⟨cs, rfl, hrt⟩ := hv
    have HRT := Lib.hid hrt
    obtain ⟨o1, name, cm, m, ks⟩ := t
    obtain ⟨A, cap, rfl, -, -⟩ := hrt
    simp only [tcs]
    have hres : w1.heap[w.heap.size]? = some (.cells #[.int .i64 0, .string ⟨#[]⟩, .int .i64 0, .slice none 0 0] 33 (0, 0)) := by
      rw [he.block _ (by simp) (by omega)]; exact heap_alloc_new w _
    have c0 := cell_of_blk (o := 0) hres rfl
    have c1 := cell_of_blk (o := 1) hres rfl
    have c2 := cell_of_blk (o := 2) hres rfl
    have c3 := cell_of_blk (o := 3) hres rfl
    have f0 := frozen_of_blk (o := 0) hres
    have f1 := frozen_of_blk (o := 1) hres
    have f2 := frozen_of_blk (o := 2) hres
    have f3 := frozen_of_blk (o := 3) hres
    have dl := lt_of_heap' hres
    have HP1 := Lib.hid hp1
    have HE := Lib.hid he
    have HQ := Lib.hid hq
    clear hres hp1 he hq
    go_wp2_with fail
    refine bodyPost_ret (v := .agg (tcs false o1 name cm m (.slice A ks.length cap)).toArray) (by simp [results, Tryd.results76, go_sem, tcs, *]) rfl ?_
    exact boxed (Nat.le_refl _) (HRT.out.keep (Nat.le_refl _) (fun b hb _ => ⟨by simpa using hb, rfl⟩)) HP1.out ((eff_alloc p w _).trans HE.out) ((((Off.refl w.heap.size w1).set (o := 0) (.int .i64 o1)).set (o := 1) (vs name)).set (o := 2) (.int .i64 m) |>.set (o := 3) (.slice A ks.length cap)) hpl HQ.out
theorem start_enters : Enters 77 := fun _ _ => by kernel_rfl
theorem start_one_enters : Enters 76 := fun _ _ => by kernel_rfl
set_option maxRecDepth 20000 in
set_option maxHeartbeats 400000 in
theorem start_any {p fin n : Nat} {one : List Tok → R Tree} (hone : ReadsT false 76 p fin n one) (hn : n ≤ 6001) : ReadsT false 62 p fin n (severalF one [111, 114] 9 n) := by
  refine ⟨fun l w hp hl => ?_, hone.sane.severalF _⟩
  have hpl := hp.lt
  have HC := Lib.hid (several_s _ _ 9 [111, 114] one n p fin hone start_joins start_one_enters start_enters l _ (fits_alloc hp (.cells #[.int .i64 0, .string ⟨#[]⟩, .int .i64 0, .slice none 0 0] 33 (0, 0))) hl (by omega))
  clear hone hp
  go_enter Tryd.func62, Tryd.ntmps62
  go_wp2_with fail
  refine calls_out HC.out ?_ ?_
  case refine_2 =>
    intro c s w1 hq he
    have HQ := Lib.hid hq
    clear hq
    go_wp2_with fail
    refine ⟨rfl, ?_⟩
    rw [HQ.out]
    exact ⟨rfl, (eff_alloc p w _).trans he⟩
  case refine_1 =>
    intro t r v w1 hq hv hp1 he
    obtain ⟨cs, rfl, hrt⟩ := hv
    have HRT := Lib.hid hrt
    obtain ⟨o1, name, cm, m, ks⟩ := t
    obtain ⟨A, cap, rfl, -, -⟩ := hrt
    simp only [tcs]
    have hres : w1.heap[w.heap.size]? = some (.cells #[.int .i64 0, .string ⟨#[]⟩, .int .i64 0, .slice none 0 0] 33 (0, 0)) := by
      rw [he.block _ (by simp) (by omega)]; exact heap_alloc_new w _
    have c0 := cell_of_blk (o := 0) hres rfl
    have c1 := cell_of_blk (o := 1) hres rfl
    have c2 := cell_of_blk (o := 2) hres rfl
    have c3 := cell_of_blk (o := 3) hres rfl
    have f0 := frozen_of_blk (o := 0) hres
    have f1 := frozen_of_blk (o := 1) hres
    have f2 := frozen_of_blk (o := 2) hres
    have f3 := frozen_of_blk (o := 3) hres
    have dl := lt_of_heap' hres
    have HP1 := Lib.hid hp1
    have HE := Lib.hid he
    have HQ := Lib.hid hq
    clear hres hp1 he hq
    go_wp2_with fail
    refine bodyPost_ret (v := .agg (tcs false o1 name cm m (.slice A ks.length cap)).toArray) (by simp [results, Tryd.results62, go_sem, tcs, *]) rfl ?_
    exact boxed (Nat.le_refl _) (HRT.out.keep (Nat.le_refl _) (fun b hb _ => ⟨by simpa using hb, rfl⟩)) HP1.out ((eff_alloc p w _).trans HE.out) ((((Off.refl w.heap.size w1).set (o := 0) (.int .i64 o1)).set (o := 1) (vs name)).set (o := 2) (.int .i64 m) |>.set (o := 3) (.slice A ks.length cap)) hpl HQ.out
end Go.Proofs.YtpagkakplmeokaaDoor
