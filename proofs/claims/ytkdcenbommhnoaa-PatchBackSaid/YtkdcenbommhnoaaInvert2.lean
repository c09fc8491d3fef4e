/- patch.Invert: the kinds that change one field. -/
import Derived.Test.YtkdcenbommhnoaaInvert
set_option linter.unusedVariables false
set_option linter.unusedSimpArgs false
namespace Go.Proofs.Ytkdcenbommhnoaa
open Go.RowKit
theorem cell_of_blk {w : World} {b o : Nat} {C : Array Value} {t : TypeId} {fr : Nat × Nat} {v : Value} (h : w.blk b = some (.cells C t fr)) (hv : C[o]? = some v) : w.cell? ⟨b, o, none⟩ = some v := (cell_of_row _ _ _ _ _ _ h).trans hv
theorem frozen_of_blk {w : World} {b o : Nat} {C : Array Value} {t : TypeId} (h : w.blk b = some (.cells C t (0, 0))) : w.frozen? ⟨b, o, none⟩ = false := by
  unfold World.blk at h
  simp [World.frozen?, h]
theorem results_pat {X : World} {tmps : Array Value} {q : Patch} {er : Int} {b : Nat} (hp : tmps.getD 4 undef = .pointer (some ⟨b, 0, none⟩)) (he : tmps.getD 5 undef = .int .i64 er) (hb : X.blk b = some (.cells (patCs q) 28 (0, 0))) :
    (results Try.f22 tmps).run Try.prog X = .ok (.tuple #[q.agg, .int .i64 er]) X := by
  have hl : (loadVar 28 ⟨b, 0, none⟩).run Try.prog X = .ok q.agg X := by
    rw [loadVar_row X 28 b 0 15 Try.underlying28 rfl (by kernel_rfl), hb]
    exact rowLoad_cells _ _ _ _ _ _ _ rfl
  rw [results_cell_tmp Try.results22, hp, he]
  simp only [asAddr, Sem.run_pure, Result.andThen_ok, hl]
theorem inv_found {l : List Item} {p : Patch} (h : (applyF l p).2 = 0) (h1 : p.kind ≠ 1) : walkB l = true ∧ ∃ (k : Nat) (y : Item), findI l p.id = k ∧ l[k]? = some y ∧ itemF l p.id = y := by
  have hv : walkB l = true := by
    cases hv : walkB l with
    | false => simp [applyF, hv] at h
    | true => rfl
  have hg := good_of hv
  refine ⟨hv, ?_⟩
  rcases hg.look p.id with ⟨e1, e2, e3⟩ | ⟨a, x, o, r, b, e1, e2, e3, e4, e5⟩
  · exfalso
    unfold applyF at h
    by_cases hx : walkB l = false ∨ formedF p = false
    · rw [if_pos hx] at h; simp at h
    · rw [if_neg hx, if_neg h1, e2, if_pos (.inl (show noItem.kind = 0 from rfl))] at h; simp at h
  · have he := e2.eq
    exact ⟨a.length, x, e3, by rw [hg.items he]; simp, e4⟩
set_option maxRecDepth 20000 in
set_option maxHeartbeats 4000000 in
theorem inv_1 (l : List Item) (A : Option Addr) (c : Nat) (p : Patch) (w : World) (hr : RdI w A l) (hl : l.length ≤ 100000) (hlc : l.length ≤ c) (hsh : ∀ x ∈ l, x.Short) (hps : p.item.Short) (hpn : p.num.length ≤ maxLen)
    (m : Int) (hg : w.cell? ⟨0, 0, none⟩ = some (.int .i64 m)) (htt : p.to.length ≤ 1000000) (he : (applyF l p).2 = 0) (hk : p.kind = 1) : Inverts l A c p w := by
  have hk1 : (p.kind == 1) = true := by simp [hk]
  have hk2 : (p.kind == 2) = false := by simp [hk]
  have hk3 : (p.kind == 3) = false := by simp [hk]
  have hk4 : (p.kind == 4) = false := by simp [hk]
  have hk5 : (p.kind == 5) = false := by simp [hk]
  have hk6 : (p.kind == 6) = false := by simp [hk]
  have hk7 : (p.kind == 7) = false := by simp [hk]
  have hi : invertF l p = (zeroP, 12) := by unfold invertF backF; rw [if_pos he, if_pos hk]
  clear hk
  unfold Inverts
  rw [hi]
  clear hi
  obtain ⟨d, hd⟩ : ∃ d, (applyF l p).1 = d := ⟨_, rfl⟩
  have hb0 := (((Below.refl w.heap.size w).alloc (Nat.le_refl _) (.cells #[.slice A l.length c] 24)).alloc (by simp) (.cells (patCs p) 28)).alloc (by simp; omega) (.cells (patCs zeroP) 28)
  have HB0 := Lib.hid hb0; clear hb0
  have HR := Lib.hid hr; clear hr
  have HG := Lib.hid hg; clear hg
  have HD := Lib.hid hd; clear hd
  have HE := Lib.hid he; clear he
  go_enter Try.func22, Try.ntmps22
  go_wp2_with fail
  have hap := apply_any l A c p _ (HR.out.below HB0.out) (by omega) hlc hsh hps hpn m (step_cell HB0.out HG.out) htt
  unfold Applies at hap
  rw [HD.out, HE.out] at hap
  refine hap.mono ?_
  rintro e w4 ⟨v, rfl, ⟨A', c', rfl, hr', hlc', hA'⟩, hb2⟩
  clear hap
  obtain ⟨hc, hf⟩ := bcell hb2
  have hblk := bblk hb2
  simp at hc hf hblk
  have hz4 := hb2.size
  simp at hz4
  have HB4 := Lib.hid hb2; clear hb2
  have hX : ((w4.alloc (.cells #[.slice A' d.length c'] 24)).alloc (.cells (patCs (bare p)) 28)).blk (w.heap.size + 1 + 1) = some (.cells (patCs zeroP) 28 (0, 0)) := (blk_alloc_lt (by simp; omega)).trans ((blk_alloc_lt (by omega)).trans ((hblk _ (by omega)).trans (by simp [go_sem])))
  have hrow := blk_setRow_at (D := patCs zeroP) hX
  have HX := Lib.hid hX
  have HROW := Lib.hid hrow
  have z1 : w.heap.size < w4.heap.size := by omega
  have z2 : w.heap.size + 1 < w4.heap.size := by omega
  clear hX hrow
  go_wp2_with (refine wpList_store_pat rfl (.tmp 4) (.tmp 34) rfl (w.heap.size + 1 + 1) zeroP zeroP rfl rfl HX.out ?_)
  refine bodyPost_ret (v := .tuple #[zeroP.agg, .int .i64 12]) (results_pat rfl rfl HROW.out) rfl ⟨rfl, ?_⟩
  exact below_setRow (HB0.out.trans (((HB4.out.alloc HB4.out.size _).alloc (by have := HB4.out.size; simp at this ⊢; omega) _).mono HB0.out.size)) (by omega) _
set_option maxRecDepth 20000 in
set_option maxHeartbeats 4000000 in
theorem inv_3 (l : List Item) (A : Option Addr) (c : Nat) (p : Patch) (w : World) (hr : RdI w A l) (hl : l.length ≤ 100000) (hlc : l.length ≤ c) (hsh : ∀ x ∈ l, x.Short) (hps : p.item.Short) (hpn : p.num.length ≤ maxLen)
    (m : Int) (hg : w.cell? ⟨0, 0, none⟩ = some (.int .i64 m)) (htt : p.to.length ≤ 1000000) (he : (applyF l p).2 = 0) (hk : p.kind = 3) : Inverts l A c p w := by
  have hk1 : (p.kind == 1) = false := by simp [hk]
  have hk2 : (p.kind == 2) = false := by simp [hk]
  have hk3 : (p.kind == 3) = true := by simp [hk]
  have hk4 : (p.kind == 4) = false := by simp [hk]
  have hk5 : (p.kind == 5) = false := by simp [hk]
  have hk6 : (p.kind == 6) = false := by simp [hk]
  have hk7 : (p.kind == 7) = false := by simp [hk]
  obtain ⟨hwb, k, y, hf1, hf2, hf3⟩ := inv_found he (by omega)
  have hi : invertF l p = ({ bare p with num := y.num }, 0) := by unfold invertF backF; rw [if_pos he]; simp [hk, hf3]
  clear hk hf3 hwb
  unfold Inverts
  rw [hi]
  clear hi
  obtain ⟨d, hd⟩ : ∃ d, (applyF l p).1 = d := ⟨_, rfl⟩
  have HF := Lib.hid hf1; clear hf1
  have HY := Lib.hid hf2; clear hf2
  have hb0 := (((Below.refl w.heap.size w).alloc (Nat.le_refl _) (.cells #[.slice A l.length c] 24)).alloc (by simp) (.cells (patCs p) 28)).alloc (by simp; omega) (.cells (patCs zeroP) 28)
  have HB0 := Lib.hid hb0; clear hb0
  have HR := Lib.hid hr; clear hr
  have HG := Lib.hid hg; clear hg
  have HD := Lib.hid hd; clear hd
  have HE := Lib.hid he; clear he
  go_enter Try.func22, Try.ntmps22
  go_wp2_with fail
  have hap := apply_any l A c p _ (HR.out.below HB0.out) (by omega) hlc hsh hps hpn m (step_cell HB0.out HG.out) htt
  unfold Applies at hap
  rw [HD.out, HE.out] at hap
  refine hap.mono ?_
  rintro e w4 ⟨v, rfl, ⟨A', c', rfl, hr', hlc', hA'⟩, hb2⟩
  clear hap
  obtain ⟨hc, hf⟩ := bcell hb2
  have hblk := bblk hb2
  simp at hc hf hblk
  have hz4 := hb2.size
  simp at hz4
  have HB4 := Lib.hid hb2; clear hb2
  have HR4 := Lib.hid ((HR.out.below HB0.out).below HB4.out)
  have HR' := Lib.hid hr'; clear hr'
  have z1 : w.heap.size < w4.heap.size := by omega
  have z2 : w.heap.size + 1 < w4.heap.size := by omega
  have z3 : w.heap.size + 1 + 1 < w4.heap.size := by omega
  go_wp2_with fail
  refine (find_any l A c p.id _ (HR4.out.below (((Below.refl _ _).alloc (Nat.le_refl _) _).alloc (by simp) _)) (le_maxLen (by omega))).mono ?_
  rintro e w5 ⟨rfl, hb5⟩
  rw [HF.out]
  have hz5 := hb5.size
  simp at hz5
  have F2 : w5.cell? ⟨w.heap.size, 0, none⟩ = some (.slice A l.length c) := (hb5.cell (p := ⟨w.heap.size, 0, none⟩) (by simp; omega)).trans (by simp [go_sem, z1, hc])
  have F3 : w5.blk (w.heap.size + 1) = some (.cells (patCs p) 28 (0, 0)) := (hb5.block _ (by simp; omega)).trans ((blk_alloc_lt (by simp; omega)).trans ((blk_alloc_lt (by omega)).trans ((hblk _ (by omega)).trans (by simp [go_sem]))))
  have F4 : w5.blk (w.heap.size + 1 + 1) = some (.cells (patCs zeroP) 28 (0, 0)) := (hb5.block _ (by simp; omega)).trans ((blk_alloc_lt (by simp; omega)).trans ((blk_alloc_lt (by omega)).trans ((hblk _ (by omega)).trans (by simp [go_sem]))))
  have F6 : w5.cell? ⟨w4.heap.size, 0, none⟩ = some (.slice A' d.length c') := (hb5.cell (p := ⟨w4.heap.size, 0, none⟩) (by simp; omega)).trans (by simp [go_sem])
  have F8 : w5.blk (w4.heap.size + 1) = some (.cells (patCs (bare p)) 28 (0, 0)) := (hb5.block _ (by simp)).trans (blk_alloc_at (by simp))
  have HB5 : Hid (Below w.heap.size w w5) := Lib.hid (HB0.out.trans ((((HB4.out.alloc HB4.out.size _).alloc (by have := HB4.out.size; simp at this ⊢; omega) _).trans (hb5.mono (by have := HB4.out.size; simp at this ⊢; omega))).mono HB0.out.size))
  have HR5 := Lib.hid (HR.out.below HB5.out)
  have HD5 := Lib.hid (HR'.out.below ((((Below.refl _ _).alloc (Nat.le_refl _) (.cells #[.slice A' d.length c'] 24)).alloc (by simp) (.cells (patCs (bare p)) 28)).trans (hb5.mono (by simp; omega))))
  clear hb5 hc hf hblk HB4 HR4 HB0 HR'
  have w1 : w.heap.size < w5.heap.size := by omega
  have w2 : w.heap.size + 1 < w5.heap.size := by omega
  have w3 : w.heap.size + 1 + 1 < w5.heap.size := by omega
  have w6 : w4.heap.size < w5.heap.size := by omega
  have w8 : w4.heap.size + 1 < w5.heap.size := by omega
  obtain ⟨b1, o1, rfl, hbs1, c0, c1, c2, c3, c4, c5, c6⟩ := HR5.out.item HY.out
  have hi0 : (0 : Int) ≤ k := by omega
  have hi1 : (k : Int) < l.length := by have := (List.getElem?_eq_some_iff.1 HY.out).1; omega
  have P0 : w5.cell? ⟨w.heap.size + 1, 0, none⟩ = some (.int .i64 p.kind) := cell_of_blk F3 rfl
  have B0 : w5.cell? ⟨w4.heap.size + 1, 4, none⟩ = some (vs []) := cell_of_blk F8 rfl
  have B1 : w5.frozen? ⟨w4.heap.size + 1, 4, none⟩ = false := frozen_of_blk F8
  have S8 : (w5.setCell ⟨w4.heap.size + 1, 4, none⟩ (vs y.num)).blk (w4.heap.size + 1) = some (.cells (patCs ({ bare p with num := y.num })) 28 (0, 0)) := blk_setCell_at F8
  have S4 : ((w5.setCell ⟨w4.heap.size + 1, 4, none⟩ (vs y.num)).alloc (.cells #[.int .i64 y.kind, vs y.id, vs y.par, vs y.num, vs y.no, vs y.so, .bool y.gone] 26)).blk (w.heap.size + 1 + 1) = some (.cells (patCs zeroP) 28 (0, 0)) := (blk_alloc_lt (by simp; omega)).trans ((blk_setCell (by show _ ≠ w4.heap.size + 1; omega)).trans F4)
  have HBW : Hid (Below w.heap.size w ((w5.setCell ⟨w4.heap.size + 1, 4, none⟩ (vs y.num)).alloc (.cells #[.int .i64 y.kind, vs y.id, vs y.par, vs y.num, vs y.no, vs y.so, .bool y.gone] 26))) := Lib.hid ((HB5.out.setCell (show w.heap.size ≤ w4.heap.size + 1 by omega) _).alloc (by have := HB5.out.size; simp; omega) _)
  have HS4 := Lib.hid S4
  have HROW := Lib.hid (blk_setRow_at (D := patCs ({ bare p with num := y.num })) S4)
  clear S4
  go_wp2_with (refine wpList_store_pat rfl (.tmp 4) (.tmp 128) rfl (w.heap.size + 1 + 1) ({ bare p with num := y.num }) zeroP rfl rfl HS4.out ?_)
  refine bodyPost_ret (v := .tuple #[({ bare p with num := y.num } : Patch).agg, .int .i64 0]) (results_pat rfl rfl HROW.out) rfl ⟨rfl, ?_⟩
  exact below_setRow HBW.out (by omega) _
set_option maxRecDepth 20000 in
set_option maxHeartbeats 4000000 in
theorem inv_5 (l : List Item) (A : Option Addr) (c : Nat) (p : Patch) (w : World) (hr : RdI w A l) (hl : l.length ≤ 100000) (hlc : l.length ≤ c) (hsh : ∀ x ∈ l, x.Short) (hps : p.item.Short) (hpn : p.num.length ≤ maxLen)
    (m : Int) (hg : w.cell? ⟨0, 0, none⟩ = some (.int .i64 m)) (htt : p.to.length ≤ 1000000) (he : (applyF l p).2 = 0) (hk : p.kind = 5) : Inverts l A c p w := by
  have hk1 : (p.kind == 1) = false := by simp [hk]
  have hk2 : (p.kind == 2) = false := by simp [hk]
  have hk3 : (p.kind == 3) = false := by simp [hk]
  have hk4 : (p.kind == 4) = false := by simp [hk]
  have hk5 : (p.kind == 5) = true := by simp [hk]
  have hk6 : (p.kind == 6) = false := by simp [hk]
  have hk7 : (p.kind == 7) = false := by simp [hk]
  obtain ⟨hwb, k, y, hf1, hf2, hf3⟩ := inv_found he (by omega)
  have hi : invertF l p = ({ bare p with kind := 6 }, 0) := by unfold invertF backF; rw [if_pos he]; simp [hk, hf3]
  clear hk hf3 hwb
  unfold Inverts
  rw [hi]
  clear hi
  obtain ⟨d, hd⟩ : ∃ d, (applyF l p).1 = d := ⟨_, rfl⟩
  have HF := Lib.hid hf1; clear hf1
  have HY := Lib.hid hf2; clear hf2
  have hb0 := (((Below.refl w.heap.size w).alloc (Nat.le_refl _) (.cells #[.slice A l.length c] 24)).alloc (by simp) (.cells (patCs p) 28)).alloc (by simp; omega) (.cells (patCs zeroP) 28)
  have HB0 := Lib.hid hb0; clear hb0
  have HR := Lib.hid hr; clear hr
  have HG := Lib.hid hg; clear hg
  have HD := Lib.hid hd; clear hd
  have HE := Lib.hid he; clear he
  go_enter Try.func22, Try.ntmps22
  go_wp2_with fail
  have hap := apply_any l A c p _ (HR.out.below HB0.out) (by omega) hlc hsh hps hpn m (step_cell HB0.out HG.out) htt
  unfold Applies at hap
  rw [HD.out, HE.out] at hap
  refine hap.mono ?_
  rintro e w4 ⟨v, rfl, ⟨A', c', rfl, hr', hlc', hA'⟩, hb2⟩
  clear hap
  obtain ⟨hc, hf⟩ := bcell hb2
  have hblk := bblk hb2
  simp at hc hf hblk
  have hz4 := hb2.size
  simp at hz4
  have HB4 := Lib.hid hb2; clear hb2
  have HR4 := Lib.hid ((HR.out.below HB0.out).below HB4.out)
  have HR' := Lib.hid hr'; clear hr'
  have z1 : w.heap.size < w4.heap.size := by omega
  have z2 : w.heap.size + 1 < w4.heap.size := by omega
  have z3 : w.heap.size + 1 + 1 < w4.heap.size := by omega
  go_wp2_with fail
  refine (find_any l A c p.id _ (HR4.out.below (((Below.refl _ _).alloc (Nat.le_refl _) _).alloc (by simp) _)) (le_maxLen (by omega))).mono ?_
  rintro e w5 ⟨rfl, hb5⟩
  rw [HF.out]
  have hz5 := hb5.size
  simp at hz5
  have F2 : w5.cell? ⟨w.heap.size, 0, none⟩ = some (.slice A l.length c) := (hb5.cell (p := ⟨w.heap.size, 0, none⟩) (by simp; omega)).trans (by simp [go_sem, z1, hc])
  have F3 : w5.blk (w.heap.size + 1) = some (.cells (patCs p) 28 (0, 0)) := (hb5.block _ (by simp; omega)).trans ((blk_alloc_lt (by simp; omega)).trans ((blk_alloc_lt (by omega)).trans ((hblk _ (by omega)).trans (by simp [go_sem]))))
  have F4 : w5.blk (w.heap.size + 1 + 1) = some (.cells (patCs zeroP) 28 (0, 0)) := (hb5.block _ (by simp; omega)).trans ((blk_alloc_lt (by simp; omega)).trans ((blk_alloc_lt (by omega)).trans ((hblk _ (by omega)).trans (by simp [go_sem]))))
  have F6 : w5.cell? ⟨w4.heap.size, 0, none⟩ = some (.slice A' d.length c') := (hb5.cell (p := ⟨w4.heap.size, 0, none⟩) (by simp; omega)).trans (by simp [go_sem])
  have F8 : w5.blk (w4.heap.size + 1) = some (.cells (patCs (bare p)) 28 (0, 0)) := (hb5.block _ (by simp)).trans (blk_alloc_at (by simp))
  have HB5 : Hid (Below w.heap.size w w5) := Lib.hid (HB0.out.trans ((((HB4.out.alloc HB4.out.size _).alloc (by have := HB4.out.size; simp at this ⊢; omega) _).trans (hb5.mono (by have := HB4.out.size; simp at this ⊢; omega))).mono HB0.out.size))
  have HR5 := Lib.hid (HR.out.below HB5.out)
  have HD5 := Lib.hid (HR'.out.below ((((Below.refl _ _).alloc (Nat.le_refl _) (.cells #[.slice A' d.length c'] 24)).alloc (by simp) (.cells (patCs (bare p)) 28)).trans (hb5.mono (by simp; omega))))
  clear hb5 hc hf hblk HB4 HR4 HB0 HR'
  have w1 : w.heap.size < w5.heap.size := by omega
  have w2 : w.heap.size + 1 < w5.heap.size := by omega
  have w3 : w.heap.size + 1 + 1 < w5.heap.size := by omega
  have w6 : w4.heap.size < w5.heap.size := by omega
  have w8 : w4.heap.size + 1 < w5.heap.size := by omega
  obtain ⟨b1, o1, rfl, hbs1, c0, c1, c2, c3, c4, c5, c6⟩ := HR5.out.item HY.out
  have hi0 : (0 : Int) ≤ k := by omega
  have hi1 : (k : Int) < l.length := by have := (List.getElem?_eq_some_iff.1 HY.out).1; omega
  have P0 : w5.cell? ⟨w.heap.size + 1, 0, none⟩ = some (.int .i64 p.kind) := cell_of_blk F3 rfl
  have B0 : w5.cell? ⟨w4.heap.size + 1, 0, none⟩ = some (.int .i64 p.kind) := cell_of_blk F8 rfl
  have B1 : w5.frozen? ⟨w4.heap.size + 1, 0, none⟩ = false := frozen_of_blk F8
  have S8 : (w5.setCell ⟨w4.heap.size + 1, 0, none⟩ (.int .i64 6)).blk (w4.heap.size + 1) = some (.cells (patCs ({ bare p with kind := 6 })) 28 (0, 0)) := blk_setCell_at F8
  have S4 : ((w5.setCell ⟨w4.heap.size + 1, 0, none⟩ (.int .i64 6)).alloc (.cells #[.int .i64 y.kind, vs y.id, vs y.par, vs y.num, vs y.no, vs y.so, .bool y.gone] 26)).blk (w.heap.size + 1 + 1) = some (.cells (patCs zeroP) 28 (0, 0)) := (blk_alloc_lt (by simp; omega)).trans ((blk_setCell (by show _ ≠ w4.heap.size + 1; omega)).trans F4)
  have HBW : Hid (Below w.heap.size w ((w5.setCell ⟨w4.heap.size + 1, 0, none⟩ (.int .i64 6)).alloc (.cells #[.int .i64 y.kind, vs y.id, vs y.par, vs y.num, vs y.no, vs y.so, .bool y.gone] 26))) := Lib.hid ((HB5.out.setCell (show w.heap.size ≤ w4.heap.size + 1 by omega) _).alloc (by have := HB5.out.size; simp; omega) _)
  have HS4 := Lib.hid S4
  have HROW := Lib.hid (blk_setRow_at (D := patCs ({ bare p with kind := 6 })) S4)
  clear S4
  go_wp2_with (refine wpList_store_pat rfl (.tmp 4) (.tmp 128) rfl (w.heap.size + 1 + 1) ({ bare p with kind := 6 }) zeroP rfl rfl HS4.out ?_)
  refine bodyPost_ret (v := .tuple #[({ bare p with kind := 6 } : Patch).agg, .int .i64 0]) (results_pat rfl rfl HROW.out) rfl ⟨rfl, ?_⟩
  exact below_setRow HBW.out (by omega) _
set_option maxRecDepth 20000 in
set_option maxHeartbeats 4000000 in
theorem inv_6 (l : List Item) (A : Option Addr) (c : Nat) (p : Patch) (w : World) (hr : RdI w A l) (hl : l.length ≤ 100000) (hlc : l.length ≤ c) (hsh : ∀ x ∈ l, x.Short) (hps : p.item.Short) (hpn : p.num.length ≤ maxLen)
    (m : Int) (hg : w.cell? ⟨0, 0, none⟩ = some (.int .i64 m)) (htt : p.to.length ≤ 1000000) (he : (applyF l p).2 = 0) (hk : p.kind = 6) : Inverts l A c p w := by
  have hk1 : (p.kind == 1) = false := by simp [hk]
  have hk2 : (p.kind == 2) = false := by simp [hk]
  have hk3 : (p.kind == 3) = false := by simp [hk]
  have hk4 : (p.kind == 4) = false := by simp [hk]
  have hk5 : (p.kind == 5) = false := by simp [hk]
  have hk6 : (p.kind == 6) = true := by simp [hk]
  have hk7 : (p.kind == 7) = false := by simp [hk]
  obtain ⟨hwb, k, y, hf1, hf2, hf3⟩ := inv_found he (by omega)
  have hi : invertF l p = ({ bare p with kind := 5 }, 0) := by unfold invertF backF; rw [if_pos he]; simp [hk, hf3]
  clear hk hf3 hwb
  unfold Inverts
  rw [hi]
  clear hi
  obtain ⟨d, hd⟩ : ∃ d, (applyF l p).1 = d := ⟨_, rfl⟩
  have HF := Lib.hid hf1; clear hf1
  have HY := Lib.hid hf2; clear hf2
  have hb0 := (((Below.refl w.heap.size w).alloc (Nat.le_refl _) (.cells #[.slice A l.length c] 24)).alloc (by simp) (.cells (patCs p) 28)).alloc (by simp; omega) (.cells (patCs zeroP) 28)
  have HB0 := Lib.hid hb0; clear hb0
  have HR := Lib.hid hr; clear hr
  have HG := Lib.hid hg; clear hg
  have HD := Lib.hid hd; clear hd
  have HE := Lib.hid he; clear he
  go_enter Try.func22, Try.ntmps22
  go_wp2_with fail
  have hap := apply_any l A c p _ (HR.out.below HB0.out) (by omega) hlc hsh hps hpn m (step_cell HB0.out HG.out) htt
  unfold Applies at hap
  rw [HD.out, HE.out] at hap
  refine hap.mono ?_
  rintro e w4 ⟨v, rfl, ⟨A', c', rfl, hr', hlc', hA'⟩, hb2⟩
  clear hap
  obtain ⟨hc, hf⟩ := bcell hb2
  have hblk := bblk hb2
  simp at hc hf hblk
  have hz4 := hb2.size
  simp at hz4
  have HB4 := Lib.hid hb2; clear hb2
  have HR4 := Lib.hid ((HR.out.below HB0.out).below HB4.out)
  have HR' := Lib.hid hr'; clear hr'
  have z1 : w.heap.size < w4.heap.size := by omega
  have z2 : w.heap.size + 1 < w4.heap.size := by omega
  have z3 : w.heap.size + 1 + 1 < w4.heap.size := by omega
  go_wp2_with fail
  refine (find_any l A c p.id _ (HR4.out.below (((Below.refl _ _).alloc (Nat.le_refl _) _).alloc (by simp) _)) (le_maxLen (by omega))).mono ?_
  rintro e w5 ⟨rfl, hb5⟩
  rw [HF.out]
  have hz5 := hb5.size
  simp at hz5
  have F2 : w5.cell? ⟨w.heap.size, 0, none⟩ = some (.slice A l.length c) := (hb5.cell (p := ⟨w.heap.size, 0, none⟩) (by simp; omega)).trans (by simp [go_sem, z1, hc])
  have F3 : w5.blk (w.heap.size + 1) = some (.cells (patCs p) 28 (0, 0)) := (hb5.block _ (by simp; omega)).trans ((blk_alloc_lt (by simp; omega)).trans ((blk_alloc_lt (by omega)).trans ((hblk _ (by omega)).trans (by simp [go_sem]))))
  have F4 : w5.blk (w.heap.size + 1 + 1) = some (.cells (patCs zeroP) 28 (0, 0)) := (hb5.block _ (by simp; omega)).trans ((blk_alloc_lt (by simp; omega)).trans ((blk_alloc_lt (by omega)).trans ((hblk _ (by omega)).trans (by simp [go_sem]))))
  have F6 : w5.cell? ⟨w4.heap.size, 0, none⟩ = some (.slice A' d.length c') := (hb5.cell (p := ⟨w4.heap.size, 0, none⟩) (by simp; omega)).trans (by simp [go_sem])
  have F8 : w5.blk (w4.heap.size + 1) = some (.cells (patCs (bare p)) 28 (0, 0)) := (hb5.block _ (by simp)).trans (blk_alloc_at (by simp))
  have HB5 : Hid (Below w.heap.size w w5) := Lib.hid (HB0.out.trans ((((HB4.out.alloc HB4.out.size _).alloc (by have := HB4.out.size; simp at this ⊢; omega) _).trans (hb5.mono (by have := HB4.out.size; simp at this ⊢; omega))).mono HB0.out.size))
  have HR5 := Lib.hid (HR.out.below HB5.out)
  have HD5 := Lib.hid (HR'.out.below ((((Below.refl _ _).alloc (Nat.le_refl _) (.cells #[.slice A' d.length c'] 24)).alloc (by simp) (.cells (patCs (bare p)) 28)).trans (hb5.mono (by simp; omega))))
  clear hb5 hc hf hblk HB4 HR4 HB0 HR'
  have w1 : w.heap.size < w5.heap.size := by omega
  have w2 : w.heap.size + 1 < w5.heap.size := by omega
  have w3 : w.heap.size + 1 + 1 < w5.heap.size := by omega
  have w6 : w4.heap.size < w5.heap.size := by omega
  have w8 : w4.heap.size + 1 < w5.heap.size := by omega
  obtain ⟨b1, o1, rfl, hbs1, c0, c1, c2, c3, c4, c5, c6⟩ := HR5.out.item HY.out
  have hi0 : (0 : Int) ≤ k := by omega
  have hi1 : (k : Int) < l.length := by have := (List.getElem?_eq_some_iff.1 HY.out).1; omega
  have P0 : w5.cell? ⟨w.heap.size + 1, 0, none⟩ = some (.int .i64 p.kind) := cell_of_blk F3 rfl
  have B0 : w5.cell? ⟨w4.heap.size + 1, 0, none⟩ = some (.int .i64 p.kind) := cell_of_blk F8 rfl
  have B1 : w5.frozen? ⟨w4.heap.size + 1, 0, none⟩ = false := frozen_of_blk F8
  have S8 : (w5.setCell ⟨w4.heap.size + 1, 0, none⟩ (.int .i64 5)).blk (w4.heap.size + 1) = some (.cells (patCs ({ bare p with kind := 5 })) 28 (0, 0)) := blk_setCell_at F8
  have S4 : ((w5.setCell ⟨w4.heap.size + 1, 0, none⟩ (.int .i64 5)).alloc (.cells #[.int .i64 y.kind, vs y.id, vs y.par, vs y.num, vs y.no, vs y.so, .bool y.gone] 26)).blk (w.heap.size + 1 + 1) = some (.cells (patCs zeroP) 28 (0, 0)) := (blk_alloc_lt (by simp; omega)).trans ((blk_setCell (by show _ ≠ w4.heap.size + 1; omega)).trans F4)
  have HBW : Hid (Below w.heap.size w ((w5.setCell ⟨w4.heap.size + 1, 0, none⟩ (.int .i64 5)).alloc (.cells #[.int .i64 y.kind, vs y.id, vs y.par, vs y.num, vs y.no, vs y.so, .bool y.gone] 26))) := Lib.hid ((HB5.out.setCell (show w.heap.size ≤ w4.heap.size + 1 by omega) _).alloc (by have := HB5.out.size; simp; omega) _)
  have HS4 := Lib.hid S4
  have HROW := Lib.hid (blk_setRow_at (D := patCs ({ bare p with kind := 5 })) S4)
  clear S4
  go_wp2_with (refine wpList_store_pat rfl (.tmp 4) (.tmp 128) rfl (w.heap.size + 1 + 1) ({ bare p with kind := 5 }) zeroP rfl rfl HS4.out ?_)
  refine bodyPost_ret (v := .tuple #[({ bare p with kind := 5 } : Patch).agg, .int .i64 0]) (results_pat rfl rfl HROW.out) rfl ⟨rfl, ?_⟩
  exact below_setRow HBW.out (by omega) _
end Go.Proofs.Ytkdcenbommhnoaa
