/- and, cond, all, start: several of one, joined. atom: a condition's least part; it holds conditions in brackets, so by induction on the fuel. -/
import Derived.Test.YtbicmjmcdnkjhaaGreatDoorJNN26
set_option linter.unusedVariables false
set_option linter.unusedSimpArgs false
set_option maxRecDepth 20000
set_option maxHeartbeats 400000
namespace Go.Proofs.YtbicmjmcdnkjhaaGreatDoor
open Go.RowKit
theorem OutR.elim {α : Type} {p fin : Nat} {w w' : World} {res : R α} {V : α → Value → World → Prop} {e : Ending} {K : Ending → World → Prop} (h : OutR p fin w res V e w') (hk : ∀ x r v, res = .ok (x, r) → V x v w' → PS w' p fin r → Eff p w w' → K (.returned v) w') (he : ∀ c s, res = .error (c, s) → Eff p w w' → K (stopE c (posAt fin s)) w') : K e w' := by
 cases hq : res with
 | error x =>
   obtain ⟨c, s⟩ := x
   rw [hq] at h
   obtain ⟨rfl, h2⟩ := h
   exact he c s hq h2
 | ok x =>
   obtain ⟨t, r⟩ := x
   rw [hq] at h
   obtain ⟨v, rfl, h1, h2, h3⟩ := h
   exact hk t r v hq h1 h2 h3
theorem calls_out {α : Type} {f : FuncId} {args : Array Value} {p fin : Nat} {w w0 : World} {res : R α} {V : α → Value → World → Prop} {K : Ending → World → Prop} (h : Calls Tryz.prog f args w (OutR p fin w0 res V)) (hk : ∀ x r v w', res = .ok (x, r) → V x v w' → PS w' p fin r → Eff p w0 w' → K (.returned v) w') (he : ∀ c s w', res = .error (c, s) → Eff p w0 w' → K (stopE c (posAt fin s)) w') : Calls Tryz.prog f args w K :=
 h.mono fun e w' ho => ho.elim (fun x r v => hk x r v w') (fun c s => he c s w')
theorem boxed {fm : Bool} {p fin b : Nat} {w w1 w2 : World} {cs : List Value} {t : Tree} {r : List Tok} {res : R Tree} (hb : w.heap.size ≤ b) (hv : RdTree fm (fun k => b + 1 ≤ k) w1 cs t) (hp : PS w1 p fin r) (he : Eff p w w1) (ho : Off b w1 w2) (hpl : p < b) (hr : res = .ok (t, r)) : OutR p fin w res (TreeV fm w) (.returned (.agg cs.toArray)) w2 := by
 rw [hr]
 exact ⟨_, rfl, ⟨_, rfl, hv.off ho (Nat.lt_succ_self _) (by omega)⟩, hp.off ho hpl, he.off ho hb⟩
theorem fits_alloc {p fin : Nat} {l : List Tok} {w : World} (hp : PS w p fin l) (o : Obj) : PS (w.alloc o) p fin l := hp.below ((Below.refl _ _).alloc (Nat.le_refl _) _)
theorem eff_alloc (p : Nat) (w : World) (o : Obj) : Eff p w (w.alloc o) := Eff.of_below ((Below.refl _ _).alloc (Nat.le_refl _) _)
theorem and_joins : JoinsT true 164 6 := by
 refine ⟨fun A n c w => ?_⟩
 go_enter Tryz.func164, Tryz.ntmps164
 go_wp2_with fail
 refine bodyPost_ret (v := .agg #[.int .i64 6, vs [], .int .i64 0, .int .i64 0, .slice A n c]) (by simp [results, Tryz.results164, go_sem]) rfl ⟨rfl, ?_⟩
 exact (Below.refl _ _).alloc (Nat.le_refl _) _
theorem cond_joins : JoinsT true 124 7 := by
 refine ⟨fun A n c w => ?_⟩
 go_enter Tryz.func124, Tryz.ntmps124
 go_wp2_with fail
 refine bodyPost_ret (v := .agg #[.int .i64 7, vs [], .int .i64 0, .int .i64 0, .slice A n c]) (by simp [results, Tryz.results124, go_sem]) rfl ⟨rfl, ?_⟩
 exact (Below.refl _ _).alloc (Nat.le_refl _) _
theorem all_joins : JoinsT false 190 8 := by
 refine ⟨fun A n c w => ?_⟩
 go_enter Tryz.func190, Tryz.ntmps190
 go_wp2_with fail
 refine bodyPost_ret (v := .agg #[.int .i64 8, vs [], .int .i64 0, .slice A n c]) (by simp [results, Tryz.results190, go_sem]) rfl ⟨rfl, ?_⟩
 exact (Below.refl _ _).alloc (Nat.le_refl _) _
theorem start_joins : JoinsT false 168 9 := by
 refine ⟨fun A n c w => ?_⟩
 go_enter Tryz.func168, Tryz.ntmps168
 go_wp2_with fail
 refine bodyPost_ret (v := .agg #[.int .i64 9, vs [], .int .i64 0, .slice A n c]) (by simp [results, Tryz.results168, go_sem]) rfl ⟨rfl, ?_⟩
 exact (Below.refl _ _).alloc (Nat.le_refl _) _
theorem and_enters : Enters 164 := fun _ _ => by kernel_rfl
theorem and_one_enters : Enters 163 := fun _ _ => by kernel_rfl
theorem and_any {p fin n : Nat} {one : List Tok → R Tree} (hone : ReadsT true 163 p fin n one) (hn : n ≤ 6001) : ReadsT true 123 p fin n (severalF one [97, 110, 100] 6 n) := by
 refine ⟨fun l w hp hl => ?_, hone.sane.severalF _⟩
 have hpl := hp.lt
 have HC := Lib.hid (several_f _ _ 6 [97, 110, 100] one n p fin hone and_joins and_one_enters and_enters l _ (fits_alloc hp (.cells #[.int .i64 0, .string ⟨#[]⟩, .int .i64 0, .int .i64 0, .slice none 0 0] 24 (0, 0))) hl (by omega))
 clear hone hp
 go_enter Tryz.func123, Tryz.ntmps123
 go_wp2_with fail
 refine calls_out HC.out ?_ ?_
 case refine_2 =>
  intro c s w1 hq he
  have HQ := Lib.hid hq
  clear hq
  go_wp2_with fail
  refine ⟨rfl, ?_⟩
  rw [HQ.out]
  exact ⟨rfl, (eff_alloc p w _).trans he⟩
 case refine_1 =>
  intro t r v w1 hq hv hp1 he
  obtain ⟨cs, rfl, hrt⟩ := hv
  have HRT := Lib.hid hrt
  obtain ⟨o1, name, cm, m, ks⟩ := t
  obtain ⟨A, cap, rfl, -, -⟩ := hrt
  simp only [tcs]
  have hres : w1.heap[w.heap.size]? = some (.cells #[.int .i64 0, .string ⟨#[]⟩, .int .i64 0, .int .i64 0, .slice none 0 0] 24 (0, 0)) := by
   rw [he.block _ (by simp) (by omega)]; exact heap_alloc_new w _
  have c0 := cell_of_blk (o := 0) hres rfl
  have c1 := cell_of_blk (o := 1) hres rfl
  have c2 := cell_of_blk (o := 2) hres rfl
  have c3 := cell_of_blk (o := 3) hres rfl
  have c4 := cell_of_blk (o := 4) hres rfl
  have f0 := frozen_of_blk (o := 0) hres
  have f1 := frozen_of_blk (o := 1) hres
  have f2 := frozen_of_blk (o := 2) hres
  have f3 := frozen_of_blk (o := 3) hres
  have f4 := frozen_of_blk (o := 4) hres
  have dl := lt_of_heap' hres
  have HP1 := Lib.hid hp1
  have HE := Lib.hid he
  have HQ := Lib.hid hq
  clear hres hp1 he hq
  go_wp2_with fail
  refine bodyPost_ret (v := .agg (tcs true o1 name cm m (.slice A ks.length cap)).toArray) (by simp [results, Tryz.results123, go_sem, tcs, *]) rfl ?_
  exact boxed (Nat.le_refl _) (HRT.out.keep (Nat.le_refl _) (fun b hb _ => ⟨by simpa using hb, rfl⟩)) HP1.out ((eff_alloc p w _).trans HE.out) (((((Off.refl w.heap.size w1).set (o := 0) (.int .i64 o1)).set (o := 1) (vs name)).set (o := 2) (.int .i64 cm)).set (o := 3) (.int .i64 m) |>.set (o := 4) (.slice A ks.length cap)) hpl HQ.out
theorem cond_enters : Enters 124 := fun _ _ => by kernel_rfl
theorem cond_one_enters : Enters 123 := fun _ _ => by kernel_rfl
theorem cond_any {p fin n : Nat} {one : List Tok → R Tree} (hone : ReadsT true 123 p fin n one) (hn : n ≤ 6001) : ReadsT true 83 p fin n (severalF one [111, 114] 7 n) := by
 refine ⟨fun l w hp hl => ?_, hone.sane.severalF _⟩
 have hpl := hp.lt
 have HC := Lib.hid (several_f _ _ 7 [111, 114] one n p fin hone cond_joins cond_one_enters cond_enters l _ (fits_alloc hp (.cells #[.int .i64 0, .string ⟨#[]⟩, .int .i64 0, .int .i64 0, .slice none 0 0] 24 (0, 0))) hl (by omega))
 clear hone hp
 go_enter Tryz.func83, Tryz.ntmps83
 go_wp2_with fail
 refine calls_out HC.out ?_ ?_
 case refine_2 =>
  intro c s w1 hq he
  have HQ := Lib.hid hq
  clear hq
  go_wp2_with fail
  refine ⟨rfl, ?_⟩
  rw [HQ.out]
  exact ⟨rfl, (eff_alloc p w _).trans he⟩
 case refine_1 =>
  intro t r v w1 hq hv hp1 he
  obtain ⟨cs, rfl, hrt⟩ := hv
  have HRT := Lib.hid hrt
  obtain ⟨o1, name, cm, m, ks⟩ := t
  obtain ⟨A, cap, rfl, -, -⟩ := hrt
  simp only [tcs]
  have hres : w1.heap[w.heap.size]? = some (.cells #[.int .i64 0, .string ⟨#[]⟩, .int .i64 0, .int .i64 0, .slice none 0 0] 24 (0, 0)) := by
   rw [he.block _ (by simp) (by omega)]; exact heap_alloc_new w _
  have c0 := cell_of_blk (o := 0) hres rfl
  have c1 := cell_of_blk (o := 1) hres rfl
  have c2 := cell_of_blk (o := 2) hres rfl
  have c3 := cell_of_blk (o := 3) hres rfl
  have c4 := cell_of_blk (o := 4) hres rfl
  have f0 := frozen_of_blk (o := 0) hres
  have f1 := frozen_of_blk (o := 1) hres
  have f2 := frozen_of_blk (o := 2) hres
  have f3 := frozen_of_blk (o := 3) hres
  have f4 := frozen_of_blk (o := 4) hres
  have dl := lt_of_heap' hres
  have HP1 := Lib.hid hp1
  have HE := Lib.hid he
  have HQ := Lib.hid hq
  clear hres hp1 he hq
  go_wp2_with fail
  refine bodyPost_ret (v := .agg (tcs true o1 name cm m (.slice A ks.length cap)).toArray) (by simp [results, Tryz.results83, go_sem, tcs, *]) rfl ?_
  exact boxed (Nat.le_refl _) (HRT.out.keep (Nat.le_refl _) (fun b hb _ => ⟨by simpa using hb, rfl⟩)) HP1.out ((eff_alloc p w _).trans HE.out) (((((Off.refl w.heap.size w1).set (o := 0) (.int .i64 o1)).set (o := 1) (vs name)).set (o := 2) (.int .i64 cm)).set (o := 3) (.int .i64 m) |>.set (o := 4) (.slice A ks.length cap)) hpl HQ.out
theorem all_enters : Enters 190 := fun _ _ => by kernel_rfl
theorem all_one_enters : Enters 189 := fun _ _ => by kernel_rfl
theorem all_any {p fin n : Nat} {one : List Tok → R Tree} (hone : ReadsT false 189 p fin n one) (hn : n ≤ 6001) : ReadsT false 167 p fin n (severalF one [97, 110, 100] 8 n) := by
 refine ⟨fun l w hp hl => ?_, hone.sane.severalF _⟩
 have hpl := hp.lt
 have HC := Lib.hid (several_s _ _ 8 [97, 110, 100] one n p fin hone all_joins all_one_enters all_enters l _ (fits_alloc hp (.cells #[.int .i64 0, .string ⟨#[]⟩, .int .i64 0, .slice none 0 0] 28 (0, 0))) hl (by omega))
 clear hone hp
 go_enter Tryz.func167, Tryz.ntmps167
 go_wp2_with fail
 refine calls_out HC.out ?_ ?_
 case refine_2 =>
  intro c s w1 hq he
  have HQ := Lib.hid hq
  clear hq
  go_wp2_with fail
  refine ⟨rfl, ?_⟩
  rw [HQ.out]
  exact ⟨rfl, (eff_alloc p w _).trans he⟩
 case refine_1 =>
  intro t r v w1 hq hv hp1 he
  obtain ⟨cs, rfl, hrt⟩ := hv
  have HRT := Lib.hid hrt
  obtain ⟨o1, name, cm, m, ks⟩ := t
  obtain ⟨A, cap, rfl, -, -⟩ := hrt
  simp only [tcs]
  have hres : w1.heap[w.heap.size]? = some (.cells #[.int .i64 0, .string ⟨#[]⟩, .int .i64 0, .slice none 0 0] 28 (0, 0)) := by
   rw [he.block _ (by simp) (by omega)]; exact heap_alloc_new w _
  have c0 := cell_of_blk (o := 0) hres rfl
  have c1 := cell_of_blk (o := 1) hres rfl
  have c2 := cell_of_blk (o := 2) hres rfl
  have c3 := cell_of_blk (o := 3) hres rfl
  have f0 := frozen_of_blk (o := 0) hres
  have f1 := frozen_of_blk (o := 1) hres
  have f2 := frozen_of_blk (o := 2) hres
  have f3 := frozen_of_blk (o := 3) hres
  have dl := lt_of_heap' hres
  have HP1 := Lib.hid hp1
  have HE := Lib.hid he
  have HQ := Lib.hid hq
  clear hres hp1 he hq
  go_wp2_with fail
  refine bodyPost_ret (v := .agg (tcs false o1 name cm m (.slice A ks.length cap)).toArray) (by simp [results, Tryz.results167, go_sem, tcs, *]) rfl ?_
  exact boxed (Nat.le_refl _) (HRT.out.keep (Nat.le_refl _) (fun b hb _ => ⟨by simpa using hb, rfl⟩)) HP1.out ((eff_alloc p w _).trans HE.out) ((((Off.refl w.heap.size w1).set (o := 0) (.int .i64 o1)).set (o := 1) (vs name)).set (o := 2) (.int .i64 m) |>.set (o := 3) (.slice A ks.length cap)) hpl HQ.out
theorem start_enters : Enters 168 := fun _ _ => by kernel_rfl
theorem start_one_enters : Enters 167 := fun _ _ => by kernel_rfl
theorem start_any {p fin n : Nat} {one : List Tok → R Tree} (hone : ReadsT false 167 p fin n one) (hn : n ≤ 6001) : ReadsT false 127 p fin n (severalF one [111, 114] 9 n) := by
 refine ⟨fun l w hp hl => ?_, hone.sane.severalF _⟩
 have hpl := hp.lt
 have HC := Lib.hid (several_s _ _ 9 [111, 114] one n p fin hone start_joins start_one_enters start_enters l _ (fits_alloc hp (.cells #[.int .i64 0, .string ⟨#[]⟩, .int .i64 0, .slice none 0 0] 28 (0, 0))) hl (by omega))
 clear hone hp
 go_enter Tryz.func127, Tryz.ntmps127
 go_wp2_with fail
 refine calls_out HC.out ?_ ?_
 case refine_2 =>
  intro c s w1 hq he
  have HQ := Lib.hid hq
  clear hq
  go_wp2_with fail
  refine ⟨rfl, ?_⟩
  rw [HQ.out]
  exact ⟨rfl, (eff_alloc p w _).trans he⟩
 case refine_1 =>
  intro t r v w1 hq hv hp1 he
  obtain ⟨cs, rfl, hrt⟩ := hv
  have HRT := Lib.hid hrt
  obtain ⟨o1, name, cm, m, ks⟩ := t
  obtain ⟨A, cap, rfl, -, -⟩ := hrt
  simp only [tcs]
  have hres : w1.heap[w.heap.size]? = some (.cells #[.int .i64 0, .string ⟨#[]⟩, .int .i64 0, .slice none 0 0] 28 (0, 0)) := by
   rw [he.block _ (by simp) (by omega)]; exact heap_alloc_new w _
  have c0 := cell_of_blk (o := 0) hres rfl
  have c1 := cell_of_blk (o := 1) hres rfl
  have c2 := cell_of_blk (o := 2) hres rfl
  have c3 := cell_of_blk (o := 3) hres rfl
  have f0 := frozen_of_blk (o := 0) hres
  have f1 := frozen_of_blk (o := 1) hres
  have f2 := frozen_of_blk (o := 2) hres
  have f3 := frozen_of_blk (o := 3) hres
  have dl := lt_of_heap' hres
  have HP1 := Lib.hid hp1
  have HE := Lib.hid he
  have HQ := Lib.hid hq
  clear hres hp1 he hq
  go_wp2_with fail
  refine bodyPost_ret (v := .agg (tcs false o1 name cm m (.slice A ks.length cap)).toArray) (by simp [results, Tryz.results127, go_sem, tcs, *]) rfl ?_
  exact boxed (Nat.le_refl _) (HRT.out.keep (Nat.le_refl _) (fun b hb _ => ⟨by simpa using hb, rfl⟩)) HP1.out ((eff_alloc p w _).trans HE.out) ((((Off.refl w.heap.size w1).set (o := 0) (.int .i64 o1)).set (o := 1) (vs name)).set (o := 2) (.int .i64 m) |>.set (o := 3) (.slice A ks.length cap)) hpl HQ.out
end Go.Proofs.YtbicmjmcdnkjhaaGreatDoor
set_option maxRecDepth 20000
set_option maxHeartbeats 800000
namespace Go.Proofs.YtbicmjmcdnkjhaaGreatDoor
open Go.RowKit
theorem idx_lt {ws : List (List UInt8)} {x : List UInt8} {i : Nat} (h : ws.idxOf? x = some i) : i < ws.length := by
 unfold List.idxOf? at h
 rw [List.findIdx?_eq_some_iff_getElem] at h
 exact h.1
theorem take_out (ws : List (List UInt8)) (W : Option Addr) (n : Nat) (hn : ws.length = n) (cw : Nat) (p fin : Nat) (l : List Tok) (w : World) (hp : PS w p fin l) (hr : RdS w W ws) (hl : n ≤ 100) {K : Ending → World → Prop}
 (hno : ∀ w', takeF ws l = (none, l) → PS w' p fin l → Eff p w w' → K (.returned (.int .i64 (-1))) w')
 (hyes : ∀ i r w', takeF ws l = (some i, r) → i < n → r.length < l.length → PS w' p fin r → Eff p w w' → K (.returned (.int .i64 i)) w') :
 Calls Tryz.prog 81 #[.pointer (some ⟨p, 0, none⟩), .slice W n cw] w K := by
 subst hn
 rcases takeF_cases ws l with ht | ⟨t, r, i, rfl, ht, -, hi⟩
 · refine (take_no ws W cw p fin l w hp hr hl ht).mono ?_
   rintro e w' ⟨rfl, hb⟩
   exact hno w' ht (hp.below hb) (Eff.of_below hb)
 · refine (take_some ws W cw p fin t r w hp hr hl i ht).mono ?_
   rintro e w' ⟨rfl, h1, h2⟩
   exact hyes i r w' ht (idx_lt hi) (by simp) h1 h2
theorem alloc_at {w : World} {b : Nat} {o : Obj} (h : b = w.heap.size) : (w.alloc o).heap[b]? = some o := h ▸ heap_alloc_new w o
theorem old_at {w : World} {b : Nat} {o x : Obj} (h : w.heap[b]? = some x) : (w.alloc o).heap[b]? = some x := (Below.heap_alloc _ _ _ (lt_of_heap' h)).trans h
/- a condition with one kid -/
theorem kid_one {fm : Bool} {base g : Nat} {w : World} {cs : List Value} {t : Tree} {ty : TypeId} (op : Nat) (name : List UInt8) (cmp n : Nat) (hg : g = w.heap.size) (hb : base ≤ g) (h : RdTree fm (fun k => base ≤ k) w cs t) : RdTree fm (fun k => base ≤ k) (w.alloc (.cells cs.toArray ty (0, 0))) (tcs fm op name cmp n (.slice (some ⟨g, 0, none⟩) 1 1)) (.mk op name cmp n [t]) := by
 subst hg
 refine ⟨_, _, rfl, Nat.le_refl _, .inr ⟨_, 0, rfl, hb, by simp, ⟨⟨cs, fun j v hv => ?_, h.keep (by simp) (fun b hb hlt => ⟨hb, Below.heap_alloc _ _ _ hlt⟩)⟩, trivial⟩⟩⟩
 rw [Nat.zero_add]
 exact cell_of_blk (heap_alloc_new w _) (by simpa using hv)
theorem atom_step {p fin n : Nat} (hn : n ≤ 6000) (ih : ReadsT true 163 p fin n (atomF n)) : ReadsT true 163 p fin (n + 1) (atomF (n + 1)) := by
 refine ⟨fun l w hp hl => ?_, atom_sane (n + 1)⟩
 have hpl := hp.lt
 have HA := Lib.hid ih
 have HC := Lib.hid (cond_any (and_any ih (by omega)) (by omega))
 have HP := Lib.hid hp
 clear ih hp
 go_enter Tryz.func163, Tryz.ntmps163
 go_wp2_with fail
 refine take_out [[110, 111, 116], [40], [116, 114, 117, 101], [102, 97, 108, 115, 101]] _ 4 rfl 4 p fin l _ (fits_alloc (fits_alloc HP.out _) _) (RdS.new (alloc_at (by simp))) (by omega) ?_ ?_
 case refine_1 =>
  intro w1 ht hp1 he1
  have HT := Lib.hid ht
  have HP1 := Lib.hid hp1
  have he := (eff_alloc p w _).trans ((eff_alloc p _ _).trans he1)
  have hres := (he1.block w.heap.size (by simp; omega) (by omega)).trans (old_at (alloc_at rfl))
  have HRES := Lib.hid hres
  have HE := Lib.hid he
  clear ht hp1 he1 he hres
  go_wp2_with fail
  refine calls_out (name_any p fin l _ HP1.out) ?_ ?_
  case refine_2 =>
   intro c s w2 hq he2
   have HQ := Lib.hid hq
   clear hq
   go_wp2_with fail
   refine ⟨rfl, ?_⟩
   rw [show atomF (n + 1) l = .error (c, s) by simp only [atomF, optF, HT.out, HQ.out, bindR]]
   exact ⟨rfl, HE.out.trans he2⟩
  case refine_1 =>
   intro s r v w2 hq hv hp2 he2
   subst hv
   have HQ := Lib.hid hq
   have HP2 := Lib.hid hp2
   have z2 : w.heap.size < w2.heap.size := Nat.lt_of_lt_of_le (lt_of_heap' HRES.out) he2.size
   have hres := (he2.block w.heap.size (lt_of_heap' HRES.out) (by omega)).trans HRES.out
   have he := HE.out.trans he2
   have HRES2 := Lib.hid hres
   have HE2 := Lib.hid he
   clear hq hp2 he2 hres he HRES HE
   go_wp2_with fail
   refine take_out [[61], [33, 61], [60], [60, 61], [62], [62, 61]] _ 6 rfl 6 p fin r _ (fits_alloc (fits_alloc HP2.out _) _) (RdS.new (alloc_at (by simp))) (by omega) ?_ ?_
   case refine_1 =>
    intro w3 ht2 hp3 he3
    have HT2 := Lib.hid ht2
    have HP3 := Lib.hid hp3
    have h1 : ¬ w.heap.size = w2.heap.size := by omega
    have h2 : ¬ w2.heap.size = w.heap.size := by omega
    have hf := (he3.block w2.heap.size (by simp; omega) (by omega)).trans (old_at (alloc_at rfl))
    have hres := (he3.block w.heap.size (by simp; omega) (by omega)).trans (old_at (old_at HRES2.out))
    have HE3 := Lib.hid (HE2.out.trans ((eff_alloc p _ _).trans ((eff_alloc p _ _).trans he3)))
    have e0 := cell_of_blk (o := 0) hf rfl
    have e1 := cell_of_blk (o := 1) hf rfl
    have e2 := cell_of_blk (o := 2) hf rfl
    have e3 := cell_of_blk (o := 3) hf rfl
    have e4 := cell_of_blk (o := 4) hf rfl
    have fl := lt_of_heap' hf
    have c0 := cell_of_blk (o := 0) hres rfl
    have c1 := cell_of_blk (o := 1) hres rfl
    have c2 := cell_of_blk (o := 2) hres rfl
    have c3 := cell_of_blk (o := 3) hres rfl
    have c4 := cell_of_blk (o := 4) hres rfl
    have f0 := frozen_of_blk (o := 0) hres
    have f1 := frozen_of_blk (o := 1) hres
    have f2 := frozen_of_blk (o := 2) hres
    have f3 := frozen_of_blk (o := 3) hres
    have f4 := frozen_of_blk (o := 4) hres
    have dl := lt_of_heap' hres
    clear ht2 hp3 he3 hf hres
    go_wp2_with fail
    refine bodyPost_ret (v := .agg (tcs true 4 s 0 0 (.slice none 0 0)).toArray) (by simp [results, Tryz.results163, go_sem, tcs, *]) rfl ?_
    exact boxed (Nat.le_refl _) (RdTree.leaf 4 s 0 0 none 0) HP3.out HE3.out (((((Off.refl w.heap.size w3).set (o := 0) (.int .i64 (4 : Nat))).set (o := 1) (vs s)).set (o := 2) (.int .i64 (0 : Nat))).set (o := 3) (.int .i64 (0 : Nat)) |>.set (o := 4) (.slice none 0 0)) hpl (show atomF (n + 1) l = .ok (.mk 4 s 0 0 [], r) by simp only [atomF, optF, HT.out, HQ.out, HT2.out, bindR])
   case refine_2 =>
    intro i r2 w3 ht2 hi6 hr2 hp3 he3
    have HT2 := Lib.hid ht2
    have HP3 := Lib.hid hp3
    have h0 : (0 : Int) ≤ i := by omega
    have hf := (he3.block w2.heap.size (by simp; omega) (by omega)).trans (old_at (alloc_at rfl))
    have hres := (he3.block w.heap.size (by simp; omega) (by omega)).trans (old_at (old_at HRES2.out))
    have HF := Lib.hid hf
    have HRES3 := Lib.hid hres
    have HE3 := Lib.hid (HE2.out.trans ((eff_alloc p _ _).trans ((eff_alloc p _ _).trans he3)))
    have z3 : w2.heap.size < w3.heap.size := lt_of_heap' hf
    clear ht2 hp3 he3 hf hres HRES2 HE2
    go_wp2_with fail
    refine calls_out (number_any 1000000 p fin r2 _ HP3.out) ?_ ?_
    case refine_2 =>
     intro c s2 w4 hq4 he4
     have HQ4 := Lib.hid hq4
     clear hq4
     go_wp2_with fail
     refine ⟨rfl, ?_⟩
     rw [show atomF (n + 1) l = .error (c, s2) by simp only [atomF, optF, HT.out, HQ.out, HT2.out, HQ4.out, bindR]]
     exact ⟨rfl, HE3.out.trans he4⟩
    case refine_1 =>
     intro m r3 v w4 hq4 hv hp4 he4
     subst hv
     have HQ4 := Lib.hid hq4
     have HP4 := Lib.hid hp4
     have h1 : ¬ w.heap.size = w2.heap.size := by omega
     have h2 : ¬ w2.heap.size = w.heap.size := by omega
     have hf := (he4.block w2.heap.size z3 (by omega)).trans HF.out
     have hres := (he4.block w.heap.size (by omega) (by omega)).trans HRES3.out
     have HE4 := Lib.hid (HE3.out.trans he4)
     have e0 := cell_of_blk (o := 0) hf rfl
     have e1 := cell_of_blk (o := 1) hf rfl
     have e2 := cell_of_blk (o := 2) hf rfl
     have e3 := cell_of_blk (o := 3) hf rfl
     have e4 := cell_of_blk (o := 4) hf rfl
     have ef0 := frozen_of_blk (o := 0) hf
     have ef1 := frozen_of_blk (o := 1) hf
     have ef2 := frozen_of_blk (o := 2) hf
     have ef3 := frozen_of_blk (o := 3) hf
     have ef4 := frozen_of_blk (o := 4) hf
     have fl := lt_of_heap' hf
     have c0 := cell_of_blk (o := 0) hres rfl
     have c1 := cell_of_blk (o := 1) hres rfl
     have c2 := cell_of_blk (o := 2) hres rfl
     have c3 := cell_of_blk (o := 3) hres rfl
     have c4 := cell_of_blk (o := 4) hres rfl
     have f0 := frozen_of_blk (o := 0) hres
     have f1 := frozen_of_blk (o := 1) hres
     have f2 := frozen_of_blk (o := 2) hres
     have f3 := frozen_of_blk (o := 3) hres
     have f4 := frozen_of_blk (o := 4) hres
     have dl := lt_of_heap' hres
     clear hq4 hp4 he4 hf hres
     go_wp2_with fail
     refine bodyPost_ret (v := .agg (tcs true 3 s (1 + i) m (.slice none 0 0)).toArray) (by simp [results, Tryz.results163, go_sem, tcs, *]) rfl ?_
     have hx := (((Off.refl w2.heap.size w4).set (o := 0) (.int .i64 3)).set (o := 2) (.int .i64 (1 + i))).set (o := 3) (.int .i64 m)
     exact boxed (Nat.le_refl _) (RdTree.leaf 3 s (1 + i) m none 0) (HP4.out.off hx (by omega)) (HE4.out.off hx (by omega)) (((((Off.refl w.heap.size _).set (o := 0) (.int .i64 (3 : Nat))).set (o := 1) (vs s)).set (o := 2) (.int .i64 (1 + i : Nat))).set (o := 3) (.int .i64 m) |>.set (o := 4) (.slice none 0 0)) hpl (show atomF (n + 1) l = .ok (.mk 3 s (1 + i) m [], r3) by simp only [atomF, optF, HT.out, HQ.out, HT2.out, HQ4.out, bindR])
 case refine_2 =>
  intro i r w1 ht hi4 hr hp1 he1
  have HT := Lib.hid ht
  have HP1 := Lib.hid hp1
  have he := (eff_alloc p w _).trans ((eff_alloc p _ _).trans he1)
  have hres := (he1.block w.heap.size (by simp; omega) (by omega)).trans (old_at (alloc_at rfl))
  have HRES := Lib.hid hres
  have HE := Lib.hid he
  clear ht hp1 he1 he hres
  obtain rfl | rfl | rfl | rfl : i = 0 ∨ i = 1 ∨ i = 2 ∨ i = 3 := by omega
  · go_wp2_with fail
    refine HA.out.call HP1.out (by omega) ?_ ?_
    case refine_2 =>
     intro c s w2 hq he2
     have HQ := Lib.hid hq
     clear hq
     go_wp2_with fail
     refine ⟨rfl, ?_⟩
     rw [show atomF (n + 1) l = .error (c, s) by simp only [atomF, optF, HT.out, HQ.out, bindR]]
     exact ⟨rfl, HE.out.trans he2⟩
    case refine_1 =>
     intro t r2 v w2 hq hv hp2 he2 hr2
     obtain ⟨cs, rfl, hrt⟩ := hv
     have HRT := Lib.hid hrt
     obtain ⟨o1, name, cm, m, ks⟩ := t
     obtain ⟨A, cap, rfl, -, -⟩ := hrt
     simp only [tcs]
     have HQ := Lib.hid hq
     have HP2 := Lib.hid hp2
     have HE2 := Lib.hid (HE.out.trans he2)
     have hs := he2.size
     have hres := (he2.block w.heap.size (lt_of_heap' HRES.out) (by omega)).trans HRES.out
     have z2 := lt_of_heap' hres
     have h1 : ¬ w.heap.size = w2.heap.size := by omega
     have h2 : ¬ w2.heap.size = w.heap.size := by omega
     have c0 := cell_of_blk (o := 0) hres rfl
     have c1 := cell_of_blk (o := 1) hres rfl
     have c2 := cell_of_blk (o := 2) hres rfl
     have c3 := cell_of_blk (o := 3) hres rfl
     have c4 := cell_of_blk (o := 4) hres rfl
     have f0 := frozen_of_blk (o := 0) hres
     have f1 := frozen_of_blk (o := 1) hres
     have f2 := frozen_of_blk (o := 2) hres
     have f3 := frozen_of_blk (o := 3) hres
     have f4 := frozen_of_blk (o := 4) hres
     have dl := lt_of_heap' hres
     clear hq hp2 he2 hres
     go_wp2_with fail
     refine bodyPost_ret (v := .agg (tcs true 5 [] 0 0 (.slice (some ⟨w2.heap.size, 0, none⟩) 1 1)).toArray) (by simp [results, Tryz.results163, go_sem, tcs, *]) rfl ?_
     have ho := ((((Off.refl w.heap.size w2).set (o := 0) (.int .i64 (5 : Nat))).set (o := 1) (vs [])).set (o := 2) (.int .i64 (0 : Nat))).set (o := 3) (.int .i64 (0 : Nat)) |>.set (o := 4) (.slice (some ⟨w2.heap.size, 0, none⟩) 1 1)
     have hz1 := lt_of_heap' HRES.out
     exact boxed (Nat.le_refl _) (kid_one (cs := tcs true o1 name cm m (.slice A ks.length cap)) (ty := 24) 5 [] 0 0 (by rw [ho.size]) (by omega) (HRT.out.off (base' := w.heap.size + 1) ho (by omega) (by omega))) (fits_alloc (HP2.out.off ho hpl) _) ((HE2.out.off ho (Nat.le_refl _)).trans (eff_alloc p _ _)) (Off.refl _ _) hpl (show atomF (n + 1) l = .ok (.mk 5 [] 0 0 [.mk o1 name cm m ks], r2) by simp only [atomF, optF, HT.out, HQ.out, bindR])
  · go_wp2_with fail
    refine HC.out.call HP1.out (by omega) ?_ ?_
    case refine_2 =>
     intro c s w2 hq he2
     have HQ := Lib.hid hq
     clear hq
     go_wp2_with fail
     refine ⟨rfl, ?_⟩
     rw [show atomF (n + 1) l = .error (c, s) by simp only [atomF, optF, HT.out, orF, andF, HQ.out, bindR]]
     exact ⟨rfl, HE.out.trans he2⟩
    case refine_1 =>
     intro t r2 v w2 hq hv hp2 he2 hr2
     obtain ⟨cs, rfl, hrt⟩ := hv
     have HRT := Lib.hid hrt
     obtain ⟨o1, name, cm, m, ks⟩ := t
     obtain ⟨A, cap, rfl, -, -⟩ := hrt
     simp only [tcs]
     have HQ := Lib.hid hq
     have HP2 := Lib.hid hp2
     have HE2 := Lib.hid (HE.out.trans he2)
     have hs := he2.size
     have hres := (he2.block w.heap.size (lt_of_heap' HRES.out) (by omega)).trans HRES.out
     have z2 := lt_of_heap' hres
     have HRES2 := Lib.hid hres
     clear hq hp2 he2 hres
     go_wp2_with fail
     refine calls_out (must_any [[41]] _ 1 p fin r2 _ (fits_alloc (fits_alloc HP2.out _) _) (RdS.new (alloc_at (by simp))) (by simp)) ?_ ?_
     case refine_2 =>
      intro c s w3 hq3 he3
      have HQ3 := Lib.hid hq3
      clear hq3
      go_wp2_with fail
      refine ⟨rfl, ?_⟩
      rw [show atomF (n + 1) l = .error (c, s) by simp only [atomF, optF, HT.out, orF, andF, HQ.out, HQ3.out, bindR]]
      exact ⟨rfl, HE2.out.trans ((eff_alloc p _ _).trans ((eff_alloc p _ _).trans he3))⟩
     case refine_1 =>
      intro i3 r3 v w3 hq3 hv hp3 he3
      subst hv
      have HQ3 := Lib.hid hq3
      have HP3 := Lib.hid hp3
      have h1 : ¬ w.heap.size = w2.heap.size := by omega
      have h2 : ¬ w2.heap.size = w.heap.size := by omega
      have hf := (he3.block w2.heap.size (by simp; omega) (by omega)).trans (old_at (alloc_at rfl))
      have hres := (he3.block w.heap.size (by simp; omega) (by omega)).trans (old_at (old_at HRES2.out))
      have HE3 := Lib.hid (HE2.out.trans ((eff_alloc p _ _).trans ((eff_alloc p _ _).trans he3)))
      have hz1 := lt_of_heap' HRES.out
      have HRT3 := Lib.hid ((HRT.out.eff (eff_alloc p _ (.cells #[.int .i64 o1, vs name, .int .i64 cm, .int .i64 m, .slice A ks.length cap] 24 (0, 0))) (by omega)).eff ((eff_alloc p _ _).trans he3) (by omega))
      have e0 := cell_of_blk (o := 0) hf rfl
      have e1 := cell_of_blk (o := 1) hf rfl
      have e2 := cell_of_blk (o := 2) hf rfl
      have e3 := cell_of_blk (o := 3) hf rfl
      have e4 := cell_of_blk (o := 4) hf rfl
      have fl := lt_of_heap' hf
      have c0 := cell_of_blk (o := 0) hres rfl
      have c1 := cell_of_blk (o := 1) hres rfl
      have c2 := cell_of_blk (o := 2) hres rfl
      have c3 := cell_of_blk (o := 3) hres rfl
      have c4 := cell_of_blk (o := 4) hres rfl
      have f0 := frozen_of_blk (o := 0) hres
      have f1 := frozen_of_blk (o := 1) hres
      have f2 := frozen_of_blk (o := 2) hres
      have f3 := frozen_of_blk (o := 3) hres
      have f4 := frozen_of_blk (o := 4) hres
      have dl := lt_of_heap' hres
      clear hq3 hp3 he3 hf hres
      go_wp2_with fail
      refine bodyPost_ret (v := .agg (tcs true o1 name cm m (.slice A ks.length cap)).toArray) (by simp [results, Tryz.results163, go_sem, tcs, *]) rfl ?_
      exact boxed (Nat.le_refl _) (HRT3.out.keep (Nat.le_refl _) (fun b hb _ => ⟨by omega, rfl⟩)) HP3.out HE3.out (((((Off.refl w.heap.size w3).set (o := 0) (.int .i64 o1)).set (o := 1) (vs name)).set (o := 2) (.int .i64 cm)).set (o := 3) (.int .i64 m) |>.set (o := 4) (.slice A ks.length cap)) hpl (show atomF (n + 1) l = .ok (.mk o1 name cm m ks, r3) by simp only [atomF, optF, HT.out, orF, andF, HQ.out, HQ3.out, bindR])
  · have hres := HRES.out
    have c0 := cell_of_blk (o := 0) hres rfl
    have c1 := cell_of_blk (o := 1) hres rfl
    have c2 := cell_of_blk (o := 2) hres rfl
    have c3 := cell_of_blk (o := 3) hres rfl
    have c4 := cell_of_blk (o := 4) hres rfl
    have f0 := frozen_of_blk (o := 0) hres
    have f1 := frozen_of_blk (o := 1) hres
    have f2 := frozen_of_blk (o := 2) hres
    have f3 := frozen_of_blk (o := 3) hres
    have f4 := frozen_of_blk (o := 4) hres
    have dl := lt_of_heap' hres
    clear hres
    go_wp2_with fail
    refine bodyPost_ret (v := .agg (tcs true 1 [] 0 0 (.slice none 0 0)).toArray) (by simp [results, Tryz.results163, go_sem, tcs, *]) rfl ?_
    exact boxed (Nat.le_refl _) (RdTree.leaf 1 [] 0 0 none 0) HP1.out HE.out (((((Off.refl w.heap.size w1).set (o := 0) (.int .i64 (1 : Nat))).set (o := 1) (vs [])).set (o := 2) (.int .i64 (0 : Nat))).set (o := 3) (.int .i64 (0 : Nat)) |>.set (o := 4) (.slice none 0 0)) hpl (show atomF (n + 1) l = .ok (.mk 1 [] 0 0 [], r) by simp only [atomF, optF, HT.out])
  · have hres := HRES.out
    have c0 := cell_of_blk (o := 0) hres rfl
    have c1 := cell_of_blk (o := 1) hres rfl
    have c2 := cell_of_blk (o := 2) hres rfl
    have c3 := cell_of_blk (o := 3) hres rfl
    have c4 := cell_of_blk (o := 4) hres rfl
    have f0 := frozen_of_blk (o := 0) hres
    have f1 := frozen_of_blk (o := 1) hres
    have f2 := frozen_of_blk (o := 2) hres
    have f3 := frozen_of_blk (o := 3) hres
    have f4 := frozen_of_blk (o := 4) hres
    have dl := lt_of_heap' hres
    clear hres
    go_wp2_with fail
    refine bodyPost_ret (v := .agg (tcs true 2 [] 0 0 (.slice none 0 0)).toArray) (by simp [results, Tryz.results163, go_sem, tcs, *]) rfl ?_
    exact boxed (Nat.le_refl _) (RdTree.leaf 2 [] 0 0 none 0) HP1.out HE.out (((((Off.refl w.heap.size w1).set (o := 0) (.int .i64 (2 : Nat))).set (o := 1) (vs [])).set (o := 2) (.int .i64 (0 : Nat))).set (o := 3) (.int .i64 (0 : Nat)) |>.set (o := 4) (.slice none 0 0)) hpl (show atomF (n + 1) l = .ok (.mk 2 [] 0 0 [], r) by simp only [atomF, optF, HT.out])
theorem atom_any {p fin : Nat} : ∀ n, n ≤ 6001 → ReadsT true 163 p fin n (atomF n)
 | 0, _ => ⟨fun l w _ h => absurd h (Nat.not_lt_zero _), sane_zero⟩
 | n + 1, h => atom_step (by omega) (atom_any n (by omega))
theorem condF_any {p fin : Nat} (n : Nat) (hn : n ≤ 6001) : ReadsT true 83 p fin n (condF n) := cond_any (and_any (atom_any n hn) hn) hn
end Go.Proofs.YtbicmjmcdnkjhaaGreatDoor
