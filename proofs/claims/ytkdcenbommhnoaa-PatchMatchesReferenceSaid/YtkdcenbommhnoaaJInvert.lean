/- patch.Invert. patch.Invert: the kinds that change one field. patch.Invert: PatchReplace. -/
import Derived.Test.YtkdcenbommhnoaaCommon
import Derived.Test.YtkdcenbommhnoaaLaw
import Derived.Laws.ResultCell
set_option linter.unusedVariables false
set_option linter.unusedSimpArgs false
namespace Go.Proofs.Ytkdcenbommhnoaa
open Go.RowKit
theorem size28 : (Try.prog.info? 28).map (·.size) = some 15 := by kernel_rfl
theorem patCs_one (q : Patch) : ∀ v ∈ (patCs q).toList, v.oneCell' = true := by
  intro v hv
  simp at hv
  rcases hv with rfl | rfl | rfl | rfl | rfl | rfl | rfl | rfl | rfl | rfl | rfl | rfl | rfl | rfl | rfl <;> rfl
theorem wpList_store_pat {ops : Array Oper} {rest : List Oper} {op : Oper} {a : Act} {w : World} {Q : Exit → Act → World → Prop} (hgd : op.guard = none) (x y : Operand) (ho : op.op = .store 28 x y)
    (g : Nat) (q cur : Patch) (hx : a.eval x = .pointer (some ⟨g, 0, none⟩)) (hy : a.eval y = .agg (patCs q)) (hg : w.blk g = some (.cells (patCs cur) 28 (0, 0)))
    (h : wpList Try.prog ops Q rest (a.put op.dst undef) (w.setRow g (patCs q))) : wpList Try.prog ops Q (op :: rest) a w := by
  refine wpList_store_row hgd 28 x y ho g 0 (patCs q).toList (patCs cur).toList 28 hx hy hg (by simp) size28 (patCs_one q) ?_
  simpa using h
theorem blk_setCell_at {w : World} {b k : Nat} {v : Value} {C : Array Value} {t : TypeId} {fr : Nat × Nat} (h : w.blk b = some (.cells C t fr)) : (w.setCell ⟨b, k, none⟩ v).blk b = some (.cells (C.setIfInBounds k v) t fr) := by
  unfold World.blk at h ⊢
  simp [World.setCell, Array.getElem?_modify, h]
theorem blk_setRow_at {w : World} {b : Nat} {C D : Array Value} {t : TypeId} {fr : Nat × Nat} (h : w.blk b = some (.cells C t fr)) : (w.setRow b D).blk b = some (.cells D t fr) := setRow_heap _ _ _ _ _ _ h
def Inverts (l : List Item) (A : Option Addr) (c : Nat) (p : Patch) (w : World) : Prop :=
  Calls Try.prog 22 #[.agg #[.slice A l.length c], p.agg] w fun e w' => e = .returned (.tuple #[(invertF l p).1.agg, .int .i64 (invertF l p).2]) ∧ Below w.heap.size w w'
set_option maxRecDepth 20000 in
set_option maxHeartbeats 4000000 in
theorem inv_err (l : List Item) (A : Option Addr) (c : Nat) (p : Patch) (w : World) (hr : RdI w A l) (hl : l.length ≤ 100000) (hlc : l.length ≤ c) (hsh : ∀ x ∈ l, x.Short) (hps : p.item.Short) (hpn : p.num.length ≤ maxLen)
    (m : Int) (hg : w.cell? ⟨0, 0, none⟩ = some (.int .i64 m)) (htt : p.to.length ≤ 1000000) (he : (applyF l p).2 ≠ 0) : Inverts l A c p w := by
  have hd := apply_err he
  obtain ⟨er, her⟩ : ∃ er, (applyF l p).2 = er := ⟨_, rfl⟩
  have h0e : (er != 0) = true := by rw [← her]; simpa using he
  have hi : invertF l p = (zeroP, er) := by unfold invertF; rw [if_neg he, her]
  unfold Inverts
  rw [hi]
  clear hi he
  have hb0 := (((Below.refl w.heap.size w).alloc (Nat.le_refl _) (.cells #[.slice A l.length c] 24)).alloc (by simp) (.cells (patCs p) 28)).alloc (by simp; omega) (.cells (patCs zeroP) 28)
  have HB0 := Lib.hid hb0; clear hb0
  have HR := Lib.hid hr; clear hr
  have HG := Lib.hid hg; clear hg
  have HD := Lib.hid hd; clear hd
  have HE := Lib.hid her; clear her
  go_enter Try.func22, Try.ntmps22
  go_wp2_with fail
  have hap := apply_any l A c p _ (HR.out.below HB0.out) (by omega) hlc hsh hps hpn m (step_cell HB0.out HG.out) htt
  unfold Applies at hap
  rw [HD.out, HE.out] at hap
  refine hap.mono ?_
  rintro e w4 ⟨v, rfl, ⟨A', c', rfl, hr', hlc', hA'⟩, hb2⟩
  clear hap
  obtain ⟨hc, hf⟩ := bcell hb2
  have hblk := bblk hb2
  simp at hc hf hblk
  have hz4 := hb2.size
  simp at hz4
  have HB4 := Lib.hid hb2; clear hb2
  have hX : (w4.alloc (.cells #[.slice A' 0 c'] 24)).blk (w.heap.size + 1 + 1) = some (.cells (patCs zeroP) 28 (0, 0)) := (blk_alloc_lt (by omega)).trans ((hblk _ (by omega)).trans (by simp [go_sem]))
  have hrow := blk_setRow_at (D := patCs zeroP) hX
  have HX := Lib.hid hX
  have HROW := Lib.hid hrow
  clear hX hrow hblk
  go_wp2_with (refine wpList_store_pat rfl (.tmp 4) (.tmp 24) rfl (w.heap.size + 1 + 1) zeroP zeroP rfl rfl HX.out ?_)
  refine bodyPost_ret (v := .tuple #[zeroP.agg, .int .i64 er]) (by rw [results_cell_tmp Try.results22]; simp [go_sem, HROW.out]) rfl ⟨rfl, ?_⟩
  exact below_setRow (HB0.out.trans ((HB4.out.alloc HB4.out.size _).mono HB0.out.size)) (by omega) _
end Go.Proofs.Ytkdcenbommhnoaa
namespace Go.Proofs.Ytkdcenbommhnoaa
open Go.RowKit
theorem cell_of_blk {w : World} {b o : Nat} {C : Array Value} {t : TypeId} {fr : Nat × Nat} {v : Value} (h : w.blk b = some (.cells C t fr)) (hv : C[o]? = some v) : w.cell? ⟨b, o, none⟩ = some v := (cell_of_row _ _ _ _ _ _ h).trans hv
theorem frozen_of_blk {w : World} {b o : Nat} {C : Array Value} {t : TypeId} (h : w.blk b = some (.cells C t (0, 0))) : w.frozen? ⟨b, o, none⟩ = false := by
  unfold World.blk at h
  simp [World.frozen?, h]
theorem results_pat {X : World} {tmps : Array Value} {q : Patch} {er : Int} {b : Nat} (hp : tmps.getD 4 undef = .pointer (some ⟨b, 0, none⟩)) (he : tmps.getD 5 undef = .int .i64 er) (hb : X.blk b = some (.cells (patCs q) 28 (0, 0))) :
    (results Try.f22 tmps).run Try.prog X = .ok (.tuple #[q.agg, .int .i64 er]) X := by
  have hl : (loadVar 28 ⟨b, 0, none⟩).run Try.prog X = .ok q.agg X := by
    rw [loadVar_row X 28 b 0 15 Try.underlying28 rfl (by kernel_rfl), hb]
    exact rowLoad_cells _ _ _ _ _ _ _ rfl
  rw [results_cell_tmp Try.results22, hp, he]
  simp only [asAddr, Sem.run_pure, Result.andThen_ok, hl]
theorem inv_found {l : List Item} {p : Patch} (h : (applyF l p).2 = 0) (h1 : p.kind ≠ 1) : walkB l = true ∧ ∃ (k : Nat) (y : Item), findI l p.id = k ∧ l[k]? = some y ∧ itemF l p.id = y := by
  have hv : walkB l = true := by
    cases hv : walkB l with
    | false => simp [applyF, hv] at h
    | true => rfl
  have hg := good_of hv
  refine ⟨hv, ?_⟩
  rcases hg.look p.id with ⟨e1, e2, e3⟩ | ⟨a, x, o, r, b, e1, e2, e3, e4, e5⟩
  · exfalso
    unfold applyF at h
    by_cases hx : walkB l = false ∨ formedF p = false
    · rw [if_pos hx] at h; simp at h
    · rw [if_neg hx, if_neg h1, e2, if_pos (.inl (show noItem.kind = 0 from rfl))] at h; simp at h
  · have he := e2.eq
    exact ⟨a.length, x, e3, by rw [hg.items he]; simp, e4⟩
set_option maxRecDepth 20000 in
set_option maxHeartbeats 4000000 in
theorem inv_1 (l : List Item) (A : Option Addr) (c : Nat) (p : Patch) (w : World) (hr : RdI w A l) (hl : l.length ≤ 100000) (hlc : l.length ≤ c) (hsh : ∀ x ∈ l, x.Short) (hps : p.item.Short) (hpn : p.num.length ≤ maxLen)
    (m : Int) (hg : w.cell? ⟨0, 0, none⟩ = some (.int .i64 m)) (htt : p.to.length ≤ 1000000) (he : (applyF l p).2 = 0) (hk : p.kind = 1) : Inverts l A c p w := by
  have hk1 : (p.kind == 1) = true := by simp [hk]
  have hk2 : (p.kind == 2) = false := by simp [hk]
  have hk3 : (p.kind == 3) = false := by simp [hk]
  have hk4 : (p.kind == 4) = false := by simp [hk]
  have hk5 : (p.kind == 5) = false := by simp [hk]
  have hk6 : (p.kind == 6) = false := by simp [hk]
  have hk7 : (p.kind == 7) = false := by simp [hk]
  have hi : invertF l p = (zeroP, 12) := by unfold invertF backF; rw [if_pos he, if_pos hk]
  clear hk
  unfold Inverts
  rw [hi]
  clear hi
  obtain ⟨d, hd⟩ : ∃ d, (applyF l p).1 = d := ⟨_, rfl⟩
  have hb0 := (((Below.refl w.heap.size w).alloc (Nat.le_refl _) (.cells #[.slice A l.length c] 24)).alloc (by simp) (.cells (patCs p) 28)).alloc (by simp; omega) (.cells (patCs zeroP) 28)
  have HB0 := Lib.hid hb0; clear hb0
  have HR := Lib.hid hr; clear hr
  have HG := Lib.hid hg; clear hg
  have HD := Lib.hid hd; clear hd
  have HE := Lib.hid he; clear he
  go_enter Try.func22, Try.ntmps22
  go_wp2_with fail
  have hap := apply_any l A c p _ (HR.out.below HB0.out) (by omega) hlc hsh hps hpn m (step_cell HB0.out HG.out) htt
  unfold Applies at hap
  rw [HD.out, HE.out] at hap
  refine hap.mono ?_
  rintro e w4 ⟨v, rfl, ⟨A', c', rfl, hr', hlc', hA'⟩, hb2⟩
  clear hap
  obtain ⟨hc, hf⟩ := bcell hb2
  have hblk := bblk hb2
  simp at hc hf hblk
  have hz4 := hb2.size
  simp at hz4
  have HB4 := Lib.hid hb2; clear hb2
  have hX : ((w4.alloc (.cells #[.slice A' d.length c'] 24)).alloc (.cells (patCs (bare p)) 28)).blk (w.heap.size + 1 + 1) = some (.cells (patCs zeroP) 28 (0, 0)) := (blk_alloc_lt (by simp; omega)).trans ((blk_alloc_lt (by omega)).trans ((hblk _ (by omega)).trans (by simp [go_sem])))
  have hrow := blk_setRow_at (D := patCs zeroP) hX
  have HX := Lib.hid hX
  have HROW := Lib.hid hrow
  have z1 : w.heap.size < w4.heap.size := by omega
  have z2 : w.heap.size + 1 < w4.heap.size := by omega
  clear hX hrow
  go_wp2_with (refine wpList_store_pat rfl (.tmp 4) (.tmp 34) rfl (w.heap.size + 1 + 1) zeroP zeroP rfl rfl HX.out ?_)
  refine bodyPost_ret (v := .tuple #[zeroP.agg, .int .i64 12]) (results_pat rfl rfl HROW.out) rfl ⟨rfl, ?_⟩
  exact below_setRow (HB0.out.trans (((HB4.out.alloc HB4.out.size _).alloc (by have := HB4.out.size; simp at this ⊢; omega) _).mono HB0.out.size)) (by omega) _
set_option maxRecDepth 20000 in
set_option maxHeartbeats 4000000 in
theorem inv_3 (l : List Item) (A : Option Addr) (c : Nat) (p : Patch) (w : World) (hr : RdI w A l) (hl : l.length ≤ 100000) (hlc : l.length ≤ c) (hsh : ∀ x ∈ l, x.Short) (hps : p.item.Short) (hpn : p.num.length ≤ maxLen)
    (m : Int) (hg : w.cell? ⟨0, 0, none⟩ = some (.int .i64 m)) (htt : p.to.length ≤ 1000000) (he : (applyF l p).2 = 0) (hk : p.kind = 3) : Inverts l A c p w := by
  have hk1 : (p.kind == 1) = false := by simp [hk]
  have hk2 : (p.kind == 2) = false := by simp [hk]
  have hk3 : (p.kind == 3) = true := by simp [hk]
  have hk4 : (p.kind == 4) = false := by simp [hk]
  have hk5 : (p.kind == 5) = false := by simp [hk]
  have hk6 : (p.kind == 6) = false := by simp [hk]
  have hk7 : (p.kind == 7) = false := by simp [hk]
  obtain ⟨hwb, k, y, hf1, hf2, hf3⟩ := inv_found he (by omega)
  have hi : invertF l p = ({ bare p with num := y.num }, 0) := by unfold invertF backF; rw [if_pos he]; simp [hk, hf3]
  clear hk hf3 hwb
  unfold Inverts
  rw [hi]
  clear hi
  obtain ⟨d, hd⟩ : ∃ d, (applyF l p).1 = d := ⟨_, rfl⟩
  have HF := Lib.hid hf1; clear hf1
  have HY := Lib.hid hf2; clear hf2
  have hb0 := (((Below.refl w.heap.size w).alloc (Nat.le_refl _) (.cells #[.slice A l.length c] 24)).alloc (by simp) (.cells (patCs p) 28)).alloc (by simp; omega) (.cells (patCs zeroP) 28)
  have HB0 := Lib.hid hb0; clear hb0
  have HR := Lib.hid hr; clear hr
  have HG := Lib.hid hg; clear hg
  have HD := Lib.hid hd; clear hd
  have HE := Lib.hid he; clear he
  go_enter Try.func22, Try.ntmps22
  go_wp2_with fail
  have hap := apply_any l A c p _ (HR.out.below HB0.out) (by omega) hlc hsh hps hpn m (step_cell HB0.out HG.out) htt
  unfold Applies at hap
  rw [HD.out, HE.out] at hap
  refine hap.mono ?_
  rintro e w4 ⟨v, rfl, ⟨A', c', rfl, hr', hlc', hA'⟩, hb2⟩
  clear hap
  obtain ⟨hc, hf⟩ := bcell hb2
  have hblk := bblk hb2
  simp at hc hf hblk
  have hz4 := hb2.size
  simp at hz4
  have HB4 := Lib.hid hb2; clear hb2
  have HR4 := Lib.hid ((HR.out.below HB0.out).below HB4.out)
  have HR' := Lib.hid hr'; clear hr'
  have z1 : w.heap.size < w4.heap.size := by omega
  have z2 : w.heap.size + 1 < w4.heap.size := by omega
  have z3 : w.heap.size + 1 + 1 < w4.heap.size := by omega
  go_wp2_with fail
  refine (find_any l A c p.id _ (HR4.out.below (((Below.refl _ _).alloc (Nat.le_refl _) _).alloc (by simp) _)) (le_maxLen (by omega))).mono ?_
  rintro e w5 ⟨rfl, hb5⟩
  rw [HF.out]
  have hz5 := hb5.size
  simp at hz5
  have F2 : w5.cell? ⟨w.heap.size, 0, none⟩ = some (.slice A l.length c) := (hb5.cell (p := ⟨w.heap.size, 0, none⟩) (by simp; omega)).trans (by simp [go_sem, z1, hc])
  have F3 : w5.blk (w.heap.size + 1) = some (.cells (patCs p) 28 (0, 0)) := (hb5.block _ (by simp; omega)).trans ((blk_alloc_lt (by simp; omega)).trans ((blk_alloc_lt (by omega)).trans ((hblk _ (by omega)).trans (by simp [go_sem]))))
  have F4 : w5.blk (w.heap.size + 1 + 1) = some (.cells (patCs zeroP) 28 (0, 0)) := (hb5.block _ (by simp; omega)).trans ((blk_alloc_lt (by simp; omega)).trans ((blk_alloc_lt (by omega)).trans ((hblk _ (by omega)).trans (by simp [go_sem]))))
  have F6 : w5.cell? ⟨w4.heap.size, 0, none⟩ = some (.slice A' d.length c') := (hb5.cell (p := ⟨w4.heap.size, 0, none⟩) (by simp; omega)).trans (by simp [go_sem])
  have F8 : w5.blk (w4.heap.size + 1) = some (.cells (patCs (bare p)) 28 (0, 0)) := (hb5.block _ (by simp)).trans (blk_alloc_at (by simp))
  have HB5 : Hid (Below w.heap.size w w5) := Lib.hid (HB0.out.trans ((((HB4.out.alloc HB4.out.size _).alloc (by have := HB4.out.size; simp at this ⊢; omega) _).trans (hb5.mono (by have := HB4.out.size; simp at this ⊢; omega))).mono HB0.out.size))
  have HR5 := Lib.hid (HR.out.below HB5.out)
  have HD5 := Lib.hid (HR'.out.below ((((Below.refl _ _).alloc (Nat.le_refl _) (.cells #[.slice A' d.length c'] 24)).alloc (by simp) (.cells (patCs (bare p)) 28)).trans (hb5.mono (by simp; omega))))
  clear hb5 hc hf hblk HB4 HR4 HB0 HR'
  have w1 : w.heap.size < w5.heap.size := by omega
  have w2 : w.heap.size + 1 < w5.heap.size := by omega
  have w3 : w.heap.size + 1 + 1 < w5.heap.size := by omega
  have w6 : w4.heap.size < w5.heap.size := by omega
  have w8 : w4.heap.size + 1 < w5.heap.size := by omega
  obtain ⟨b1, o1, rfl, hbs1, c0, c1, c2, c3, c4, c5, c6⟩ := HR5.out.item HY.out
  have hi0 : (0 : Int) ≤ k := by omega
  have hi1 : (k : Int) < l.length := by have := (List.getElem?_eq_some_iff.1 HY.out).1; omega
  have P0 : w5.cell? ⟨w.heap.size + 1, 0, none⟩ = some (.int .i64 p.kind) := cell_of_blk F3 rfl
  have B0 : w5.cell? ⟨w4.heap.size + 1, 4, none⟩ = some (vs []) := cell_of_blk F8 rfl
  have B1 : w5.frozen? ⟨w4.heap.size + 1, 4, none⟩ = false := frozen_of_blk F8
  have S8 : (w5.setCell ⟨w4.heap.size + 1, 4, none⟩ (vs y.num)).blk (w4.heap.size + 1) = some (.cells (patCs ({ bare p with num := y.num })) 28 (0, 0)) := blk_setCell_at F8
  have S4 : ((w5.setCell ⟨w4.heap.size + 1, 4, none⟩ (vs y.num)).alloc (.cells #[.int .i64 y.kind, vs y.id, vs y.par, vs y.num, vs y.no, vs y.so, .bool y.gone] 26)).blk (w.heap.size + 1 + 1) = some (.cells (patCs zeroP) 28 (0, 0)) := (blk_alloc_lt (by simp; omega)).trans ((blk_setCell (by show _ ≠ w4.heap.size + 1; omega)).trans F4)
  have HBW : Hid (Below w.heap.size w ((w5.setCell ⟨w4.heap.size + 1, 4, none⟩ (vs y.num)).alloc (.cells #[.int .i64 y.kind, vs y.id, vs y.par, vs y.num, vs y.no, vs y.so, .bool y.gone] 26))) := Lib.hid ((HB5.out.setCell (show w.heap.size ≤ w4.heap.size + 1 by omega) _).alloc (by have := HB5.out.size; simp; omega) _)
  have HS4 := Lib.hid S4
  have HROW := Lib.hid (blk_setRow_at (D := patCs ({ bare p with num := y.num })) S4)
  clear S4
  go_wp2_with (refine wpList_store_pat rfl (.tmp 4) (.tmp 128) rfl (w.heap.size + 1 + 1) ({ bare p with num := y.num }) zeroP rfl rfl HS4.out ?_)
  refine bodyPost_ret (v := .tuple #[({ bare p with num := y.num } : Patch).agg, .int .i64 0]) (results_pat rfl rfl HROW.out) rfl ⟨rfl, ?_⟩
  exact below_setRow HBW.out (by omega) _
set_option maxRecDepth 20000 in
set_option maxHeartbeats 4000000 in
theorem inv_5 (l : List Item) (A : Option Addr) (c : Nat) (p : Patch) (w : World) (hr : RdI w A l) (hl : l.length ≤ 100000) (hlc : l.length ≤ c) (hsh : ∀ x ∈ l, x.Short) (hps : p.item.Short) (hpn : p.num.length ≤ maxLen)
    (m : Int) (hg : w.cell? ⟨0, 0, none⟩ = some (.int .i64 m)) (htt : p.to.length ≤ 1000000) (he : (applyF l p).2 = 0) (hk : p.kind = 5) : Inverts l A c p w := by
  have hk1 : (p.kind == 1) = false := by simp [hk]
  have hk2 : (p.kind == 2) = false := by simp [hk]
  have hk3 : (p.kind == 3) = false := by simp [hk]
  have hk4 : (p.kind == 4) = false := by simp [hk]
  have hk5 : (p.kind == 5) = true := by simp [hk]
  have hk6 : (p.kind == 6) = false := by simp [hk]
  have hk7 : (p.kind == 7) = false := by simp [hk]
  obtain ⟨hwb, k, y, hf1, hf2, hf3⟩ := inv_found he (by omega)
  have hi : invertF l p = ({ bare p with kind := 6 }, 0) := by unfold invertF backF; rw [if_pos he]; simp [hk, hf3]
  clear hk hf3 hwb
  unfold Inverts
  rw [hi]
  clear hi
  obtain ⟨d, hd⟩ : ∃ d, (applyF l p).1 = d := ⟨_, rfl⟩
  have HF := Lib.hid hf1; clear hf1
  have HY := Lib.hid hf2; clear hf2
  have hb0 := (((Below.refl w.heap.size w).alloc (Nat.le_refl _) (.cells #[.slice A l.length c] 24)).alloc (by simp) (.cells (patCs p) 28)).alloc (by simp; omega) (.cells (patCs zeroP) 28)
  have HB0 := Lib.hid hb0; clear hb0
  have HR := Lib.hid hr; clear hr
  have HG := Lib.hid hg; clear hg
  have HD := Lib.hid hd; clear hd
  have HE := Lib.hid he; clear he
  go_enter Try.func22, Try.ntmps22
  go_wp2_with fail
  have hap := apply_any l A c p _ (HR.out.below HB0.out) (by omega) hlc hsh hps hpn m (step_cell HB0.out HG.out) htt
  unfold Applies at hap
  rw [HD.out, HE.out] at hap
  refine hap.mono ?_
  rintro e w4 ⟨v, rfl, ⟨A', c', rfl, hr', hlc', hA'⟩, hb2⟩
  clear hap
  obtain ⟨hc, hf⟩ := bcell hb2
  have hblk := bblk hb2
  simp at hc hf hblk
  have hz4 := hb2.size
  simp at hz4
  have HB4 := Lib.hid hb2; clear hb2
  have HR4 := Lib.hid ((HR.out.below HB0.out).below HB4.out)
  have HR' := Lib.hid hr'; clear hr'
  have z1 : w.heap.size < w4.heap.size := by omega
  have z2 : w.heap.size + 1 < w4.heap.size := by omega
  have z3 : w.heap.size + 1 + 1 < w4.heap.size := by omega
  go_wp2_with fail
  refine (find_any l A c p.id _ (HR4.out.below (((Below.refl _ _).alloc (Nat.le_refl _) _).alloc (by simp) _)) (le_maxLen (by omega))).mono ?_
  rintro e w5 ⟨rfl, hb5⟩
  rw [HF.out]
  have hz5 := hb5.size
  simp at hz5
  have F2 : w5.cell? ⟨w.heap.size, 0, none⟩ = some (.slice A l.length c) := (hb5.cell (p := ⟨w.heap.size, 0, none⟩) (by simp; omega)).trans (by simp [go_sem, z1, hc])
  have F3 : w5.blk (w.heap.size + 1) = some (.cells (patCs p) 28 (0, 0)) := (hb5.block _ (by simp; omega)).trans ((blk_alloc_lt (by simp; omega)).trans ((blk_alloc_lt (by omega)).trans ((hblk _ (by omega)).trans (by simp [go_sem]))))
  have F4 : w5.blk (w.heap.size + 1 + 1) = some (.cells (patCs zeroP) 28 (0, 0)) := (hb5.block _ (by simp; omega)).trans ((blk_alloc_lt (by simp; omega)).trans ((blk_alloc_lt (by omega)).trans ((hblk _ (by omega)).trans (by simp [go_sem]))))
  have F6 : w5.cell? ⟨w4.heap.size, 0, none⟩ = some (.slice A' d.length c') := (hb5.cell (p := ⟨w4.heap.size, 0, none⟩) (by simp; omega)).trans (by simp [go_sem])
  have F8 : w5.blk (w4.heap.size + 1) = some (.cells (patCs (bare p)) 28 (0, 0)) := (hb5.block _ (by simp)).trans (blk_alloc_at (by simp))
  have HB5 : Hid (Below w.heap.size w w5) := Lib.hid (HB0.out.trans ((((HB4.out.alloc HB4.out.size _).alloc (by have := HB4.out.size; simp at this ⊢; omega) _).trans (hb5.mono (by have := HB4.out.size; simp at this ⊢; omega))).mono HB0.out.size))
  have HR5 := Lib.hid (HR.out.below HB5.out)
  have HD5 := Lib.hid (HR'.out.below ((((Below.refl _ _).alloc (Nat.le_refl _) (.cells #[.slice A' d.length c'] 24)).alloc (by simp) (.cells (patCs (bare p)) 28)).trans (hb5.mono (by simp; omega))))
  clear hb5 hc hf hblk HB4 HR4 HB0 HR'
  have w1 : w.heap.size < w5.heap.size := by omega
  have w2 : w.heap.size + 1 < w5.heap.size := by omega
  have w3 : w.heap.size + 1 + 1 < w5.heap.size := by omega
  have w6 : w4.heap.size < w5.heap.size := by omega
  have w8 : w4.heap.size + 1 < w5.heap.size := by omega
  obtain ⟨b1, o1, rfl, hbs1, c0, c1, c2, c3, c4, c5, c6⟩ := HR5.out.item HY.out
  have hi0 : (0 : Int) ≤ k := by omega
  have hi1 : (k : Int) < l.length := by have := (List.getElem?_eq_some_iff.1 HY.out).1; omega
  have P0 : w5.cell? ⟨w.heap.size + 1, 0, none⟩ = some (.int .i64 p.kind) := cell_of_blk F3 rfl
  have B0 : w5.cell? ⟨w4.heap.size + 1, 0, none⟩ = some (.int .i64 p.kind) := cell_of_blk F8 rfl
  have B1 : w5.frozen? ⟨w4.heap.size + 1, 0, none⟩ = false := frozen_of_blk F8
  have S8 : (w5.setCell ⟨w4.heap.size + 1, 0, none⟩ (.int .i64 6)).blk (w4.heap.size + 1) = some (.cells (patCs ({ bare p with kind := 6 })) 28 (0, 0)) := blk_setCell_at F8
  have S4 : ((w5.setCell ⟨w4.heap.size + 1, 0, none⟩ (.int .i64 6)).alloc (.cells #[.int .i64 y.kind, vs y.id, vs y.par, vs y.num, vs y.no, vs y.so, .bool y.gone] 26)).blk (w.heap.size + 1 + 1) = some (.cells (patCs zeroP) 28 (0, 0)) := (blk_alloc_lt (by simp; omega)).trans ((blk_setCell (by show _ ≠ w4.heap.size + 1; omega)).trans F4)
  have HBW : Hid (Below w.heap.size w ((w5.setCell ⟨w4.heap.size + 1, 0, none⟩ (.int .i64 6)).alloc (.cells #[.int .i64 y.kind, vs y.id, vs y.par, vs y.num, vs y.no, vs y.so, .bool y.gone] 26))) := Lib.hid ((HB5.out.setCell (show w.heap.size ≤ w4.heap.size + 1 by omega) _).alloc (by have := HB5.out.size; simp; omega) _)
  have HS4 := Lib.hid S4
  have HROW := Lib.hid (blk_setRow_at (D := patCs ({ bare p with kind := 6 })) S4)
  clear S4
  go_wp2_with (refine wpList_store_pat rfl (.tmp 4) (.tmp 128) rfl (w.heap.size + 1 + 1) ({ bare p with kind := 6 }) zeroP rfl rfl HS4.out ?_)
  refine bodyPost_ret (v := .tuple #[({ bare p with kind := 6 } : Patch).agg, .int .i64 0]) (results_pat rfl rfl HROW.out) rfl ⟨rfl, ?_⟩
  exact below_setRow HBW.out (by omega) _
set_option maxRecDepth 20000 in
set_option maxHeartbeats 4000000 in
theorem inv_6 (l : List Item) (A : Option Addr) (c : Nat) (p : Patch) (w : World) (hr : RdI w A l) (hl : l.length ≤ 100000) (hlc : l.length ≤ c) (hsh : ∀ x ∈ l, x.Short) (hps : p.item.Short) (hpn : p.num.length ≤ maxLen)
    (m : Int) (hg : w.cell? ⟨0, 0, none⟩ = some (.int .i64 m)) (htt : p.to.length ≤ 1000000) (he : (applyF l p).2 = 0) (hk : p.kind = 6) : Inverts l A c p w := by
  have hk1 : (p.kind == 1) = false := by simp [hk]
  have hk2 : (p.kind == 2) = false := by simp [hk]
  have hk3 : (p.kind == 3) = false := by simp [hk]
  have hk4 : (p.kind == 4) = false := by simp [hk]
  have hk5 : (p.kind == 5) = false := by simp [hk]
  have hk6 : (p.kind == 6) = true := by simp [hk]
  have hk7 : (p.kind == 7) = false := by simp [hk]
  obtain ⟨hwb, k, y, hf1, hf2, hf3⟩ := inv_found he (by omega)
  have hi : invertF l p = ({ bare p with kind := 5 }, 0) := by unfold invertF backF; rw [if_pos he]; simp [hk, hf3]
  clear hk hf3 hwb
  unfold Inverts
  rw [hi]
  clear hi
  obtain ⟨d, hd⟩ : ∃ d, (applyF l p).1 = d := ⟨_, rfl⟩
  have HF := Lib.hid hf1; clear hf1
  have HY := Lib.hid hf2; clear hf2
  have hb0 := (((Below.refl w.heap.size w).alloc (Nat.le_refl _) (.cells #[.slice A l.length c] 24)).alloc (by simp) (.cells (patCs p) 28)).alloc (by simp; omega) (.cells (patCs zeroP) 28)
  have HB0 := Lib.hid hb0; clear hb0
  have HR := Lib.hid hr; clear hr
  have HG := Lib.hid hg; clear hg
  have HD := Lib.hid hd; clear hd
  have HE := Lib.hid he; clear he
  go_enter Try.func22, Try.ntmps22
  go_wp2_with fail
  have hap := apply_any l A c p _ (HR.out.below HB0.out) (by omega) hlc hsh hps hpn m (step_cell HB0.out HG.out) htt
  unfold Applies at hap
  rw [HD.out, HE.out] at hap
  refine hap.mono ?_
  rintro e w4 ⟨v, rfl, ⟨A', c', rfl, hr', hlc', hA'⟩, hb2⟩
  clear hap
  obtain ⟨hc, hf⟩ := bcell hb2
  have hblk := bblk hb2
  simp at hc hf hblk
  have hz4 := hb2.size
  simp at hz4
  have HB4 := Lib.hid hb2; clear hb2
  have HR4 := Lib.hid ((HR.out.below HB0.out).below HB4.out)
  have HR' := Lib.hid hr'; clear hr'
  have z1 : w.heap.size < w4.heap.size := by omega
  have z2 : w.heap.size + 1 < w4.heap.size := by omega
  have z3 : w.heap.size + 1 + 1 < w4.heap.size := by omega
  go_wp2_with fail
  refine (find_any l A c p.id _ (HR4.out.below (((Below.refl _ _).alloc (Nat.le_refl _) _).alloc (by simp) _)) (le_maxLen (by omega))).mono ?_
  rintro e w5 ⟨rfl, hb5⟩
  rw [HF.out]
  have hz5 := hb5.size
  simp at hz5
  have F2 : w5.cell? ⟨w.heap.size, 0, none⟩ = some (.slice A l.length c) := (hb5.cell (p := ⟨w.heap.size, 0, none⟩) (by simp; omega)).trans (by simp [go_sem, z1, hc])
  have F3 : w5.blk (w.heap.size + 1) = some (.cells (patCs p) 28 (0, 0)) := (hb5.block _ (by simp; omega)).trans ((blk_alloc_lt (by simp; omega)).trans ((blk_alloc_lt (by omega)).trans ((hblk _ (by omega)).trans (by simp [go_sem]))))
  have F4 : w5.blk (w.heap.size + 1 + 1) = some (.cells (patCs zeroP) 28 (0, 0)) := (hb5.block _ (by simp; omega)).trans ((blk_alloc_lt (by simp; omega)).trans ((blk_alloc_lt (by omega)).trans ((hblk _ (by omega)).trans (by simp [go_sem]))))
  have F6 : w5.cell? ⟨w4.heap.size, 0, none⟩ = some (.slice A' d.length c') := (hb5.cell (p := ⟨w4.heap.size, 0, none⟩) (by simp; omega)).trans (by simp [go_sem])
  have F8 : w5.blk (w4.heap.size + 1) = some (.cells (patCs (bare p)) 28 (0, 0)) := (hb5.block _ (by simp)).trans (blk_alloc_at (by simp))
  have HB5 : Hid (Below w.heap.size w w5) := Lib.hid (HB0.out.trans ((((HB4.out.alloc HB4.out.size _).alloc (by have := HB4.out.size; simp at this ⊢; omega) _).trans (hb5.mono (by have := HB4.out.size; simp at this ⊢; omega))).mono HB0.out.size))
  have HR5 := Lib.hid (HR.out.below HB5.out)
  have HD5 := Lib.hid (HR'.out.below ((((Below.refl _ _).alloc (Nat.le_refl _) (.cells #[.slice A' d.length c'] 24)).alloc (by simp) (.cells (patCs (bare p)) 28)).trans (hb5.mono (by simp; omega))))
  clear hb5 hc hf hblk HB4 HR4 HB0 HR'
  have w1 : w.heap.size < w5.heap.size := by omega
  have w2 : w.heap.size + 1 < w5.heap.size := by omega
  have w3 : w.heap.size + 1 + 1 < w5.heap.size := by omega
  have w6 : w4.heap.size < w5.heap.size := by omega
  have w8 : w4.heap.size + 1 < w5.heap.size := by omega
  obtain ⟨b1, o1, rfl, hbs1, c0, c1, c2, c3, c4, c5, c6⟩ := HR5.out.item HY.out
  have hi0 : (0 : Int) ≤ k := by omega
  have hi1 : (k : Int) < l.length := by have := (List.getElem?_eq_some_iff.1 HY.out).1; omega
  have P0 : w5.cell? ⟨w.heap.size + 1, 0, none⟩ = some (.int .i64 p.kind) := cell_of_blk F3 rfl
  have B0 : w5.cell? ⟨w4.heap.size + 1, 0, none⟩ = some (.int .i64 p.kind) := cell_of_blk F8 rfl
  have B1 : w5.frozen? ⟨w4.heap.size + 1, 0, none⟩ = false := frozen_of_blk F8
  have S8 : (w5.setCell ⟨w4.heap.size + 1, 0, none⟩ (.int .i64 5)).blk (w4.heap.size + 1) = some (.cells (patCs ({ bare p with kind := 5 })) 28 (0, 0)) := blk_setCell_at F8
  have S4 : ((w5.setCell ⟨w4.heap.size + 1, 0, none⟩ (.int .i64 5)).alloc (.cells #[.int .i64 y.kind, vs y.id, vs y.par, vs y.num, vs y.no, vs y.so, .bool y.gone] 26)).blk (w.heap.size + 1 + 1) = some (.cells (patCs zeroP) 28 (0, 0)) := (blk_alloc_lt (by simp; omega)).trans ((blk_setCell (by show _ ≠ w4.heap.size + 1; omega)).trans F4)
  have HBW : Hid (Below w.heap.size w ((w5.setCell ⟨w4.heap.size + 1, 0, none⟩ (.int .i64 5)).alloc (.cells #[.int .i64 y.kind, vs y.id, vs y.par, vs y.num, vs y.no, vs y.so, .bool y.gone] 26))) := Lib.hid ((HB5.out.setCell (show w.heap.size ≤ w4.heap.size + 1 by omega) _).alloc (by have := HB5.out.size; simp; omega) _)
  have HS4 := Lib.hid S4
  have HROW := Lib.hid (blk_setRow_at (D := patCs ({ bare p with kind := 5 })) S4)
  clear S4
  go_wp2_with (refine wpList_store_pat rfl (.tmp 4) (.tmp 128) rfl (w.heap.size + 1 + 1) ({ bare p with kind := 5 }) zeroP rfl rfl HS4.out ?_)
  refine bodyPost_ret (v := .tuple #[({ bare p with kind := 5 } : Patch).agg, .int .i64 0]) (results_pat rfl rfl HROW.out) rfl ⟨rfl, ?_⟩
  exact below_setRow HBW.out (by omega) _
end Go.Proofs.Ytkdcenbommhnoaa
namespace Go.Proofs.Ytkdcenbommhnoaa
open Go.RowKit
set_option maxRecDepth 20000 in
set_option maxHeartbeats 4000000 in
theorem inv_7 (l : List Item) (A : Option Addr) (c : Nat) (p : Patch) (w : World) (hr : RdI w A l) (hl : l.length ≤ 100000) (hlc : l.length ≤ c) (hsh : ∀ x ∈ l, x.Short) (hps : p.item.Short) (hpn : p.num.length ≤ maxLen)
    (m : Int) (hg : w.cell? ⟨0, 0, none⟩ = some (.int .i64 m)) (htt : p.to.length ≤ 1000000) (he : (applyF l p).2 = 0) (hk : p.kind = 7) : Inverts l A c p w := by
  have hk1 : (p.kind == 1) = false := by simp [hk]
  have hk2 : (p.kind == 2) = false := by simp [hk]
  have hk3 : (p.kind == 3) = false := by simp [hk]
  have hk4 : (p.kind == 4) = false := by simp [hk]
  have hk5 : (p.kind == 5) = false := by simp [hk]
  have hk6 : (p.kind == 6) = false := by simp [hk]
  have hk7 : (p.kind == 7) = true := by simp [hk]
  obtain ⟨hwb, k, y, hf1, hf2, hf3⟩ := inv_found he (by omega)
  have hi : invertF l p = ({ bare p with item := { noItem with no := y.no, so := y.so } }, 0) := by unfold invertF backF; rw [if_pos he]; simp [hk, hf3]
  clear hk hf3 hwb
  unfold Inverts
  rw [hi]
  clear hi
  obtain ⟨d, hd⟩ : ∃ d, (applyF l p).1 = d := ⟨_, rfl⟩
  have HF := Lib.hid hf1; clear hf1
  have HY := Lib.hid hf2; clear hf2
  have hb0 := (((Below.refl w.heap.size w).alloc (Nat.le_refl _) (.cells #[.slice A l.length c] 24)).alloc (by simp) (.cells (patCs p) 28)).alloc (by simp; omega) (.cells (patCs zeroP) 28)
  have HB0 := Lib.hid hb0; clear hb0
  have HR := Lib.hid hr; clear hr
  have HG := Lib.hid hg; clear hg
  have HD := Lib.hid hd; clear hd
  have HE := Lib.hid he; clear he
  go_enter Try.func22, Try.ntmps22
  go_wp2_with fail
  have hap := apply_any l A c p _ (HR.out.below HB0.out) (by omega) hlc hsh hps hpn m (step_cell HB0.out HG.out) htt
  unfold Applies at hap
  rw [HD.out, HE.out] at hap
  refine hap.mono ?_
  rintro e w4 ⟨v, rfl, ⟨A', c', rfl, hr', hlc', hA'⟩, hb2⟩
  clear hap
  obtain ⟨hc, hf⟩ := bcell hb2
  have hblk := bblk hb2
  simp at hc hf hblk
  have hz4 := hb2.size
  simp at hz4
  have HB4 := Lib.hid hb2; clear hb2
  have HR4 := Lib.hid ((HR.out.below HB0.out).below HB4.out)
  have HR' := Lib.hid hr'; clear hr'
  have z1 : w.heap.size < w4.heap.size := by omega
  have z2 : w.heap.size + 1 < w4.heap.size := by omega
  have z3 : w.heap.size + 1 + 1 < w4.heap.size := by omega
  go_wp2_with fail
  refine (find_any l A c p.id _ (HR4.out.below (((Below.refl _ _).alloc (Nat.le_refl _) _).alloc (by simp) _)) (le_maxLen (by omega))).mono ?_
  rintro e w5 ⟨rfl, hb5⟩
  rw [HF.out]
  have hz5 := hb5.size
  simp at hz5
  have F2 : w5.cell? ⟨w.heap.size, 0, none⟩ = some (.slice A l.length c) := (hb5.cell (p := ⟨w.heap.size, 0, none⟩) (by simp; omega)).trans (by simp [go_sem, z1, hc])
  have F3 : w5.blk (w.heap.size + 1) = some (.cells (patCs p) 28 (0, 0)) := (hb5.block _ (by simp; omega)).trans ((blk_alloc_lt (by simp; omega)).trans ((blk_alloc_lt (by omega)).trans ((hblk _ (by omega)).trans (by simp [go_sem]))))
  have F4 : w5.blk (w.heap.size + 1 + 1) = some (.cells (patCs zeroP) 28 (0, 0)) := (hb5.block _ (by simp; omega)).trans ((blk_alloc_lt (by simp; omega)).trans ((blk_alloc_lt (by omega)).trans ((hblk _ (by omega)).trans (by simp [go_sem]))))
  have F6 : w5.cell? ⟨w4.heap.size, 0, none⟩ = some (.slice A' d.length c') := (hb5.cell (p := ⟨w4.heap.size, 0, none⟩) (by simp; omega)).trans (by simp [go_sem])
  have F8 : w5.blk (w4.heap.size + 1) = some (.cells (patCs (bare p)) 28 (0, 0)) := (hb5.block _ (by simp)).trans (blk_alloc_at (by simp))
  have HB5 : Hid (Below w.heap.size w w5) := Lib.hid (HB0.out.trans ((((HB4.out.alloc HB4.out.size _).alloc (by have := HB4.out.size; simp at this ⊢; omega) _).trans (hb5.mono (by have := HB4.out.size; simp at this ⊢; omega))).mono HB0.out.size))
  have HR5 := Lib.hid (HR.out.below HB5.out)
  have HD5 := Lib.hid (HR'.out.below ((((Below.refl _ _).alloc (Nat.le_refl _) (.cells #[.slice A' d.length c'] 24)).alloc (by simp) (.cells (patCs (bare p)) 28)).trans (hb5.mono (by simp; omega))))
  clear hb5 hc hf hblk HB4 HR4 HB0 HR'
  have w1 : w.heap.size < w5.heap.size := by omega
  have w2 : w.heap.size + 1 < w5.heap.size := by omega
  have w3 : w.heap.size + 1 + 1 < w5.heap.size := by omega
  have w6 : w4.heap.size < w5.heap.size := by omega
  have w8 : w4.heap.size + 1 < w5.heap.size := by omega
  obtain ⟨b1, o1, rfl, hbs1, c0, c1, c2, c3, c4, c5, c6⟩ := HR5.out.item HY.out
  have hi0 : (0 : Int) ≤ k := by omega
  have hi1 : (k : Int) < l.length := by have := (List.getElem?_eq_some_iff.1 HY.out).1; omega
  have P0 : w5.cell? ⟨w.heap.size + 1, 0, none⟩ = some (.int .i64 p.kind) := cell_of_blk F3 rfl
  have B0 : w5.cell? ⟨w4.heap.size + 1, 5 + 4, none⟩ = some (vs []) := cell_of_blk F8 rfl
  have B1 : w5.frozen? ⟨w4.heap.size + 1, 5 + 4, none⟩ = false := frozen_of_blk F8
  have B2 : w5.cell? ⟨w4.heap.size + 1, 5 + 5, none⟩ = some (vs []) := cell_of_blk F8 rfl
  have B3 : w5.frozen? ⟨w4.heap.size + 1, 5 + 5, none⟩ = false := frozen_of_blk F8
  simp at B0 B1 B2 B3
  have S8 : ((w5.setCell ⟨w4.heap.size + 1, 9, none⟩ (vs y.no)).setCell ⟨w4.heap.size + 1, 10, none⟩ (vs y.so)).blk (w4.heap.size + 1) = some (.cells (patCs ({ bare p with item := { noItem with no := y.no, so := y.so } })) 28 (0, 0)) := blk_setCell_at (blk_setCell_at F8)
  have S4 : ((((w5.setCell ⟨w4.heap.size + 1, 9, none⟩ (vs y.no)).setCell ⟨w4.heap.size + 1, 10, none⟩ (vs y.so)).alloc (.cells #[.int .i64 y.kind, vs y.id, vs y.par, vs y.num, vs y.no, vs y.so, .bool y.gone] 26)).drew).blk (w.heap.size + 1 + 1) = some (.cells (patCs zeroP) 28 (0, 0)) := (blk_alloc_lt (by simp; omega)).trans ((blk_setCell (by show _ ≠ w4.heap.size + 1; omega)).trans ((blk_setCell (by show _ ≠ w4.heap.size + 1; omega)).trans (F4)))
  have HBW : Hid (Below w.heap.size w ((((w5.setCell ⟨w4.heap.size + 1, 9, none⟩ (vs y.no)).setCell ⟨w4.heap.size + 1, 10, none⟩ (vs y.so)).alloc (.cells #[.int .i64 y.kind, vs y.id, vs y.par, vs y.num, vs y.no, vs y.so, .bool y.gone] 26)).drew)) := Lib.hid (((((HB5.out).setCell (show w.heap.size ≤ w4.heap.size + 1 by omega) _).setCell (show w.heap.size ≤ w4.heap.size + 1 by omega) _).alloc (by have := HB5.out.size; simp; omega) _).drew)
  have HS4 := Lib.hid S4
  have HROW := Lib.hid (blk_setRow_at (D := patCs ({ bare p with item := { noItem with no := y.no, so := y.so } })) S4)
  clear S4
  go_wp2_with fail
  go_region
  go_wp2_with (refine wpList_store_pat rfl (.tmp 4) (.tmp 128) rfl (w.heap.size + 1 + 1) ({ bare p with item := { noItem with no := y.no, so := y.so } }) zeroP rfl rfl HS4.out ?_)
  refine bodyPost_ret (v := .tuple #[({ bare p with item := { noItem with no := y.no, so := y.so } } : Patch).agg, .int .i64 0]) (results_pat rfl rfl HROW.out) rfl ⟨rfl, ?_⟩
  exact below_setRow HBW.out (by omega) _
theorem proper_len {x : Item} (h : properB x = true) : x.no.length ≤ 400 ∧ x.so.length ≤ 400 := by
  unfold properB at h
  split at h
  · simp at h; simp [h]
  · split at h
    · simp at h; omega
    · cases h
theorem inv_words {l : List Item} {p : Patch} {k : Nat} (h : (applyF l p).2 = 0) (hk : p.kind = 2) (hf : findI l p.id = k) :
    ∃ z, (applyF l p).1[k]? = some z ∧ itemF (applyF l p).1 p.id = z ∧ (p.lang = 1 ∨ p.lang = 2) ∧ z.no.length ≤ 400 ∧ z.so.length ≤ 400 := by
  obtain ⟨R, hg, hfm, hD⟩ := apply_done h
  generalize (applyF l p).1 = d at hD
  have hl : p.lang = 1 ∨ p.lang = 2 := by
    unfold formedF at hfm
    simp [hk] at hfm
    exact hfm.2.2
  rcases hD with ⟨a, b, o, hI⟩ | ⟨a, c, x, o, hC⟩ | ⟨a, x, o, r, b, a', b', o', hM⟩
  · have := hI.kind; omega
  · have h1 := (hg.find hC.eq).1
    rw [hC.id, hf] at h1
    have h2 := hC.good.find rfl
    rw [(chgF_id p x).1, hC.id] at h2
    have h3 := hC.good.items rfl
    refine ⟨chgF p x, ?_, h2.2, hl, proper_len (hC.good.pr _ (by rw [h3]; simp))⟩
    have e : k = a.length := by omega
    rw [h3, e]
    simp
  · have := hM.kind; omega
set_option maxRecDepth 20000 in
set_option maxHeartbeats 4000000 in
theorem inv_2a1 (l : List Item) (A : Option Addr) (c : Nat) (p : Patch) (w : World) (hr : RdI w A l) (hl : l.length ≤ 100000) (hlc : l.length ≤ c) (hsh : ∀ x ∈ l, x.Short) (hps : p.item.Short) (hpn : p.num.length ≤ maxLen)
    (m : Int) (hg : w.cell? ⟨0, 0, none⟩ = some (.int .i64 m)) (htt : p.to.length ≤ 1000000) (he : (applyF l p).2 = 0) (hk : p.kind = 2) (k : Nat) (y z : Item) (hf1 : findI l p.id = k) (hf2 : l[k]? = some y) (hz1 : (applyF l p).1[k]? = some z) (hz2 : itemF (applyF l p).1 p.id = z) (hz3 : z.no.length ≤ 400) (hz4 : z.so.length ≤ 400) (hla : p.lang = 1) (ho : onceIs z.no p.to = false) : Inverts l A c p w := by
  have hk1 : (p.kind == 1) = false := by simp [hk]
  have hk2 : (p.kind == 2) = true := by simp [hk]
  have hk3 : (p.kind == 3) = false := by simp [hk]
  have hk4 : (p.kind == 4) = false := by simp [hk]
  have hk5 : (p.kind == 5) = false := by simp [hk]
  have hk6 : (p.kind == 6) = false := by simp [hk]
  have hk7 : (p.kind == 7) = false := by simp [hk]
  have hl2 : (p.lang == 2) = false := by simp [hla]
  have hi : invertF l p = (zeroP, 15) := by
    unfold invertF backF
    rw [if_pos he, if_neg (by omega), if_pos hk, hz2]
    unfold wordsText
    rw [if_pos hla, if_pos (.inl ho)]
  clear hk hla hz2
  unfold Inverts
  rw [hi]
  clear hi
  obtain ⟨d, hd⟩ : ∃ d, (applyF l p).1 = d := ⟨_, rfl⟩
  rw [hd] at hz1
  have HZ := Lib.hid hz1; clear hz1
  have HO := Lib.hid ho; clear ho
  have HF := Lib.hid hf1; clear hf1
  have HY := Lib.hid hf2; clear hf2
  have hb0 := (((Below.refl w.heap.size w).alloc (Nat.le_refl _) (.cells #[.slice A l.length c] 24)).alloc (by simp) (.cells (patCs p) 28)).alloc (by simp; omega) (.cells (patCs zeroP) 28)
  have HB0 := Lib.hid hb0; clear hb0
  have HR := Lib.hid hr; clear hr
  have HG := Lib.hid hg; clear hg
  have HD := Lib.hid hd; clear hd
  have HE := Lib.hid he; clear he
  go_enter Try.func22, Try.ntmps22
  go_wp2_with fail
  have hap := apply_any l A c p _ (HR.out.below HB0.out) (by omega) hlc hsh hps hpn m (step_cell HB0.out HG.out) htt
  unfold Applies at hap
  rw [HD.out, HE.out] at hap
  refine hap.mono ?_
  rintro e w4 ⟨v, rfl, ⟨A', c', rfl, hr', hlc', hA'⟩, hb2⟩
  clear hap
  obtain ⟨hc, hf⟩ := bcell hb2
  have hblk := bblk hb2
  simp at hc hf hblk
  have hz4 := hb2.size
  simp at hz4
  have HB4 := Lib.hid hb2; clear hb2
  have HR4 := Lib.hid ((HR.out.below HB0.out).below HB4.out)
  have HR' := Lib.hid hr'; clear hr'
  have z1 : w.heap.size < w4.heap.size := by omega
  have z2 : w.heap.size + 1 < w4.heap.size := by omega
  have z3 : w.heap.size + 1 + 1 < w4.heap.size := by omega
  go_wp2_with fail
  refine (find_any l A c p.id _ (HR4.out.below (((Below.refl _ _).alloc (Nat.le_refl _) _).alloc (by simp) _)) (le_maxLen (by omega))).mono ?_
  rintro e w5 ⟨rfl, hb5⟩
  rw [HF.out]
  have hz5 := hb5.size
  simp at hz5
  have F2 : w5.cell? ⟨w.heap.size, 0, none⟩ = some (.slice A l.length c) := (hb5.cell (p := ⟨w.heap.size, 0, none⟩) (by simp; omega)).trans (by simp [go_sem, z1, hc])
  have F3 : w5.blk (w.heap.size + 1) = some (.cells (patCs p) 28 (0, 0)) := (hb5.block _ (by simp; omega)).trans ((blk_alloc_lt (by simp; omega)).trans ((blk_alloc_lt (by omega)).trans ((hblk _ (by omega)).trans (by simp [go_sem]))))
  have F4 : w5.blk (w.heap.size + 1 + 1) = some (.cells (patCs zeroP) 28 (0, 0)) := (hb5.block _ (by simp; omega)).trans ((blk_alloc_lt (by simp; omega)).trans ((blk_alloc_lt (by omega)).trans ((hblk _ (by omega)).trans (by simp [go_sem]))))
  have F6 : w5.cell? ⟨w4.heap.size, 0, none⟩ = some (.slice A' d.length c') := (hb5.cell (p := ⟨w4.heap.size, 0, none⟩) (by simp; omega)).trans (by simp [go_sem])
  have F8 : w5.blk (w4.heap.size + 1) = some (.cells (patCs (bare p)) 28 (0, 0)) := (hb5.block _ (by simp)).trans (blk_alloc_at (by simp))
  have HB5 : Hid (Below w.heap.size w w5) := Lib.hid (HB0.out.trans ((((HB4.out.alloc HB4.out.size _).alloc (by have := HB4.out.size; simp at this ⊢; omega) _).trans (hb5.mono (by have := HB4.out.size; simp at this ⊢; omega))).mono HB0.out.size))
  have HR5 := Lib.hid (HR.out.below HB5.out)
  have HD5 := Lib.hid (HR'.out.below ((((Below.refl _ _).alloc (Nat.le_refl _) (.cells #[.slice A' d.length c'] 24)).alloc (by simp) (.cells (patCs (bare p)) 28)).trans (hb5.mono (by simp; omega))))
  clear hb5 hc hf hblk HB4 HR4 HB0 HR'
  have w1 : w.heap.size < w5.heap.size := by omega
  have w2 : w.heap.size + 1 < w5.heap.size := by omega
  have w3 : w.heap.size + 1 + 1 < w5.heap.size := by omega
  have w6 : w4.heap.size < w5.heap.size := by omega
  have w8 : w4.heap.size + 1 < w5.heap.size := by omega
  obtain ⟨b1, o1, rfl, hbs1, c0, c1, c2, c3, c4, c5, c6⟩ := HR5.out.item HY.out
  have hi0 : (0 : Int) ≤ k := by omega
  have hi1 : (k : Int) < l.length := by have := (List.getElem?_eq_some_iff.1 HY.out).1; omega
  have P0 : w5.cell? ⟨w.heap.size + 1, 0, none⟩ = some (.int .i64 p.kind) := cell_of_blk F3 rfl
  have P6 : w5.cell? ⟨w.heap.size + 1, 12, none⟩ = some (.int .i64 p.lang) := cell_of_blk F3 rfl
  have P7 : w5.cell? ⟨w.heap.size + 1, 13, none⟩ = some (vs p.fr) := cell_of_blk F3 rfl
  have P8 : w5.cell? ⟨w.heap.size + 1, 14, none⟩ = some (vs p.to) := cell_of_blk F3 rfl
  have HG5 := Lib.hid (step_cell (HB5.out.alloc HB5.out.size (.cells #[.int .i64 y.kind, vs y.id, vs y.par, vs y.num, vs y.no, vs y.so, .bool y.gone] 26)) HG.out)
  obtain ⟨b2, o2, rfl, hbs2, d0, d1, d2, d3, d4, d5, d6⟩ := HD5.out.item HZ.out
  have hi2 : (k : Int) < d.length := by have := (List.getElem?_eq_some_iff.1 HZ.out).1; omega
  go_wp2_with fail
  refine (once_any z.no p.to m _ (by omega) HG5.out).mono ?_
  rintro e w7 ⟨rfl, rfl⟩
  rw [HO.out]
  have S4 : (w5.alloc (.cells #[.int .i64 y.kind, vs y.id, vs y.par, vs y.num, vs y.no, vs y.so, .bool y.gone] 26)).blk (w.heap.size + 1 + 1) = some (.cells (patCs zeroP) 28 (0, 0)) := (blk_alloc_lt w3).trans F4
  have HBW := Lib.hid (HB5.out.alloc HB5.out.size (.cells #[.int .i64 y.kind, vs y.id, vs y.par, vs y.num, vs y.no, vs y.so, .bool y.gone] 26))
  have HS4 := Lib.hid S4
  have HROW := Lib.hid (blk_setRow_at (D := patCs zeroP) S4)
  clear S4
  go_wp2_with (refine wpList_store_pat rfl (.tmp 4) (.tmp 77) rfl (w.heap.size + 1 + 1) zeroP zeroP rfl rfl HS4.out ?_)
  refine bodyPost_ret (v := .tuple #[zeroP.agg, .int .i64 15]) (results_pat rfl rfl HROW.out) rfl ⟨rfl, ?_⟩
  exact below_setRow HBW.out (by omega) _
set_option maxRecDepth 20000 in
set_option maxHeartbeats 4000000 in
theorem inv_2b1 (l : List Item) (A : Option Addr) (c : Nat) (p : Patch) (w : World) (hr : RdI w A l) (hl : l.length ≤ 100000) (hlc : l.length ≤ c) (hsh : ∀ x ∈ l, x.Short) (hps : p.item.Short) (hpn : p.num.length ≤ maxLen)
    (m : Int) (hg : w.cell? ⟨0, 0, none⟩ = some (.int .i64 m)) (htt : p.to.length ≤ 1000000) (he : (applyF l p).2 = 0) (hk : p.kind = 2) (k : Nat) (y z : Item) (hf1 : findI l p.id = k) (hf2 : l[k]? = some y) (hz1 : (applyF l p).1[k]? = some z) (hz2 : itemF (applyF l p).1 p.id = z) (hz3 : z.no.length ≤ 400) (hz4 : z.so.length ≤ 400) (hla : p.lang = 1) (ho : onceIs z.no p.to = true) (hto : p.to = []) : Inverts l A c p w := by
  have hk1 : (p.kind == 1) = false := by simp [hk]
  have hk2 : (p.kind == 2) = true := by simp [hk]
  have hk3 : (p.kind == 3) = false := by simp [hk]
  have hk4 : (p.kind == 4) = false := by simp [hk]
  have hk5 : (p.kind == 5) = false := by simp [hk]
  have hk6 : (p.kind == 6) = false := by simp [hk]
  have hk7 : (p.kind == 7) = false := by simp [hk]
  have hl2 : (p.lang == 2) = false := by simp [hla]
  have hi : invertF l p = (zeroP, 15) := by
    unfold invertF backF
    rw [if_pos he, if_neg (by omega), if_pos hk, hz2]
    unfold wordsText
    rw [if_pos hla, if_pos (.inr hto)]
  clear hk hla hz2
  obtain ⟨n1, n2, n3⟩ : (p.to == []) = true ∧ (p.to != []) = false ∧ p.to.isEmpty = true := by rw [hto]; exact ⟨rfl, rfl, rfl⟩
  clear hto
  unfold Inverts
  rw [hi]
  clear hi
  obtain ⟨d, hd⟩ : ∃ d, (applyF l p).1 = d := ⟨_, rfl⟩
  rw [hd] at hz1
  have HZ := Lib.hid hz1; clear hz1
  have HO := Lib.hid ho; clear ho
  have HF := Lib.hid hf1; clear hf1
  have HY := Lib.hid hf2; clear hf2
  have hb0 := (((Below.refl w.heap.size w).alloc (Nat.le_refl _) (.cells #[.slice A l.length c] 24)).alloc (by simp) (.cells (patCs p) 28)).alloc (by simp; omega) (.cells (patCs zeroP) 28)
  have HB0 := Lib.hid hb0; clear hb0
  have HR := Lib.hid hr; clear hr
  have HG := Lib.hid hg; clear hg
  have HD := Lib.hid hd; clear hd
  have HE := Lib.hid he; clear he
  go_enter Try.func22, Try.ntmps22
  go_wp2_with fail
  have hap := apply_any l A c p _ (HR.out.below HB0.out) (by omega) hlc hsh hps hpn m (step_cell HB0.out HG.out) htt
  unfold Applies at hap
  rw [HD.out, HE.out] at hap
  refine hap.mono ?_
  rintro e w4 ⟨v, rfl, ⟨A', c', rfl, hr', hlc', hA'⟩, hb2⟩
  clear hap
  obtain ⟨hc, hf⟩ := bcell hb2
  have hblk := bblk hb2
  simp at hc hf hblk
  have hz4 := hb2.size
  simp at hz4
  have HB4 := Lib.hid hb2; clear hb2
  have HR4 := Lib.hid ((HR.out.below HB0.out).below HB4.out)
  have HR' := Lib.hid hr'; clear hr'
  have z1 : w.heap.size < w4.heap.size := by omega
  have z2 : w.heap.size + 1 < w4.heap.size := by omega
  have z3 : w.heap.size + 1 + 1 < w4.heap.size := by omega
  go_wp2_with fail
  refine (find_any l A c p.id _ (HR4.out.below (((Below.refl _ _).alloc (Nat.le_refl _) _).alloc (by simp) _)) (le_maxLen (by omega))).mono ?_
  rintro e w5 ⟨rfl, hb5⟩
  rw [HF.out]
  have hz5 := hb5.size
  simp at hz5
  have F2 : w5.cell? ⟨w.heap.size, 0, none⟩ = some (.slice A l.length c) := (hb5.cell (p := ⟨w.heap.size, 0, none⟩) (by simp; omega)).trans (by simp [go_sem, z1, hc])
  have F3 : w5.blk (w.heap.size + 1) = some (.cells (patCs p) 28 (0, 0)) := (hb5.block _ (by simp; omega)).trans ((blk_alloc_lt (by simp; omega)).trans ((blk_alloc_lt (by omega)).trans ((hblk _ (by omega)).trans (by simp [go_sem]))))
  have F4 : w5.blk (w.heap.size + 1 + 1) = some (.cells (patCs zeroP) 28 (0, 0)) := (hb5.block _ (by simp; omega)).trans ((blk_alloc_lt (by simp; omega)).trans ((blk_alloc_lt (by omega)).trans ((hblk _ (by omega)).trans (by simp [go_sem]))))
  have F6 : w5.cell? ⟨w4.heap.size, 0, none⟩ = some (.slice A' d.length c') := (hb5.cell (p := ⟨w4.heap.size, 0, none⟩) (by simp; omega)).trans (by simp [go_sem])
  have F8 : w5.blk (w4.heap.size + 1) = some (.cells (patCs (bare p)) 28 (0, 0)) := (hb5.block _ (by simp)).trans (blk_alloc_at (by simp))
  have HB5 : Hid (Below w.heap.size w w5) := Lib.hid (HB0.out.trans ((((HB4.out.alloc HB4.out.size _).alloc (by have := HB4.out.size; simp at this ⊢; omega) _).trans (hb5.mono (by have := HB4.out.size; simp at this ⊢; omega))).mono HB0.out.size))
  have HR5 := Lib.hid (HR.out.below HB5.out)
  have HD5 := Lib.hid (HR'.out.below ((((Below.refl _ _).alloc (Nat.le_refl _) (.cells #[.slice A' d.length c'] 24)).alloc (by simp) (.cells (patCs (bare p)) 28)).trans (hb5.mono (by simp; omega))))
  clear hb5 hc hf hblk HB4 HR4 HB0 HR'
  have w1 : w.heap.size < w5.heap.size := by omega
  have w2 : w.heap.size + 1 < w5.heap.size := by omega
  have w3 : w.heap.size + 1 + 1 < w5.heap.size := by omega
  have w6 : w4.heap.size < w5.heap.size := by omega
  have w8 : w4.heap.size + 1 < w5.heap.size := by omega
  obtain ⟨b1, o1, rfl, hbs1, c0, c1, c2, c3, c4, c5, c6⟩ := HR5.out.item HY.out
  have hi0 : (0 : Int) ≤ k := by omega
  have hi1 : (k : Int) < l.length := by have := (List.getElem?_eq_some_iff.1 HY.out).1; omega
  have P0 : w5.cell? ⟨w.heap.size + 1, 0, none⟩ = some (.int .i64 p.kind) := cell_of_blk F3 rfl
  have P6 : w5.cell? ⟨w.heap.size + 1, 12, none⟩ = some (.int .i64 p.lang) := cell_of_blk F3 rfl
  have P7 : w5.cell? ⟨w.heap.size + 1, 13, none⟩ = some (vs p.fr) := cell_of_blk F3 rfl
  have P8 : w5.cell? ⟨w.heap.size + 1, 14, none⟩ = some (vs p.to) := cell_of_blk F3 rfl
  have HG5 := Lib.hid (step_cell (HB5.out.alloc HB5.out.size (.cells #[.int .i64 y.kind, vs y.id, vs y.par, vs y.num, vs y.no, vs y.so, .bool y.gone] 26)) HG.out)
  obtain ⟨b2, o2, rfl, hbs2, d0, d1, d2, d3, d4, d5, d6⟩ := HD5.out.item HZ.out
  have hi2 : (k : Int) < d.length := by have := (List.getElem?_eq_some_iff.1 HZ.out).1; omega
  go_wp2_with fail
  refine (once_any z.no p.to m _ (by omega) HG5.out).mono ?_
  rintro e w7 ⟨rfl, rfl⟩
  rw [HO.out]
  have S4 : (w5.alloc (.cells #[.int .i64 y.kind, vs y.id, vs y.par, vs y.num, vs y.no, vs y.so, .bool y.gone] 26)).blk (w.heap.size + 1 + 1) = some (.cells (patCs zeroP) 28 (0, 0)) := (blk_alloc_lt w3).trans F4
  have HBW := Lib.hid (HB5.out.alloc HB5.out.size (.cells #[.int .i64 y.kind, vs y.id, vs y.par, vs y.num, vs y.no, vs y.so, .bool y.gone] 26))
  have HS4 := Lib.hid S4
  have HROW := Lib.hid (blk_setRow_at (D := patCs zeroP) S4)
  clear S4
  go_wp2_with (refine wpList_store_pat rfl (.tmp 4) (.tmp 77) rfl (w.heap.size + 1 + 1) zeroP zeroP rfl rfl HS4.out ?_)
  refine bodyPost_ret (v := .tuple #[zeroP.agg, .int .i64 15]) (results_pat rfl rfl HROW.out) rfl ⟨rfl, ?_⟩
  exact below_setRow HBW.out (by omega) _
set_option maxRecDepth 20000 in
set_option maxHeartbeats 4000000 in
theorem inv_2c1 (l : List Item) (A : Option Addr) (c : Nat) (p : Patch) (w : World) (hr : RdI w A l) (hl : l.length ≤ 100000) (hlc : l.length ≤ c) (hsh : ∀ x ∈ l, x.Short) (hps : p.item.Short) (hpn : p.num.length ≤ maxLen)
    (m : Int) (hg : w.cell? ⟨0, 0, none⟩ = some (.int .i64 m)) (htt : p.to.length ≤ 1000000) (he : (applyF l p).2 = 0) (hk : p.kind = 2) (k : Nat) (y z : Item) (hf1 : findI l p.id = k) (hf2 : l[k]? = some y) (hz1 : (applyF l p).1[k]? = some z) (hz2 : itemF (applyF l p).1 p.id = z) (hz3 : z.no.length ≤ 400) (hz4 : z.so.length ≤ 400) (hla : p.lang = 1) (ho : onceIs z.no p.to = true) (hto : p.to ≠ []) : Inverts l A c p w := by
  have hk1 : (p.kind == 1) = false := by simp [hk]
  have hk2 : (p.kind == 2) = true := by simp [hk]
  have hk3 : (p.kind == 3) = false := by simp [hk]
  have hk4 : (p.kind == 4) = false := by simp [hk]
  have hk5 : (p.kind == 5) = false := by simp [hk]
  have hk6 : (p.kind == 6) = false := by simp [hk]
  have hk7 : (p.kind == 7) = false := by simp [hk]
  have hl2 : (p.lang == 2) = false := by simp [hla]
  have hi : invertF l p = (⟨p.kind, p.id, [], [], [], noItem, p.lang, p.to, p.fr⟩, 0) := by
    unfold invertF backF
    rw [if_pos he, if_neg (by omega), if_pos hk, hz2]
    unfold wordsText
    rw [if_pos hla, if_neg (by simp [ho, hto])]; rfl
  clear hk hla hz2
  obtain ⟨n1, n2, n3⟩ : (p.to == []) = false ∧ (p.to != []) = true ∧ p.to.isEmpty = false := ⟨by simpa using hto, by simpa using hto, by simpa using hto⟩
  clear hto
  unfold Inverts
  rw [hi]
  clear hi
  obtain ⟨d, hd⟩ : ∃ d, (applyF l p).1 = d := ⟨_, rfl⟩
  rw [hd] at hz1
  have HZ := Lib.hid hz1; clear hz1
  have HO := Lib.hid ho; clear ho
  have HF := Lib.hid hf1; clear hf1
  have HY := Lib.hid hf2; clear hf2
  have hb0 := (((Below.refl w.heap.size w).alloc (Nat.le_refl _) (.cells #[.slice A l.length c] 24)).alloc (by simp) (.cells (patCs p) 28)).alloc (by simp; omega) (.cells (patCs zeroP) 28)
  have HB0 := Lib.hid hb0; clear hb0
  have HR := Lib.hid hr; clear hr
  have HG := Lib.hid hg; clear hg
  have HD := Lib.hid hd; clear hd
  have HE := Lib.hid he; clear he
  go_enter Try.func22, Try.ntmps22
  go_wp2_with fail
  have hap := apply_any l A c p _ (HR.out.below HB0.out) (by omega) hlc hsh hps hpn m (step_cell HB0.out HG.out) htt
  unfold Applies at hap
  rw [HD.out, HE.out] at hap
  refine hap.mono ?_
  rintro e w4 ⟨v, rfl, ⟨A', c', rfl, hr', hlc', hA'⟩, hb2⟩
  clear hap
  obtain ⟨hc, hf⟩ := bcell hb2
  have hblk := bblk hb2
  simp at hc hf hblk
  have hz4 := hb2.size
  simp at hz4
  have HB4 := Lib.hid hb2; clear hb2
  have HR4 := Lib.hid ((HR.out.below HB0.out).below HB4.out)
  have HR' := Lib.hid hr'; clear hr'
  have z1 : w.heap.size < w4.heap.size := by omega
  have z2 : w.heap.size + 1 < w4.heap.size := by omega
  have z3 : w.heap.size + 1 + 1 < w4.heap.size := by omega
  go_wp2_with fail
  refine (find_any l A c p.id _ (HR4.out.below (((Below.refl _ _).alloc (Nat.le_refl _) _).alloc (by simp) _)) (le_maxLen (by omega))).mono ?_
  rintro e w5 ⟨rfl, hb5⟩
  rw [HF.out]
  have hz5 := hb5.size
  simp at hz5
  have F2 : w5.cell? ⟨w.heap.size, 0, none⟩ = some (.slice A l.length c) := (hb5.cell (p := ⟨w.heap.size, 0, none⟩) (by simp; omega)).trans (by simp [go_sem, z1, hc])
  have F3 : w5.blk (w.heap.size + 1) = some (.cells (patCs p) 28 (0, 0)) := (hb5.block _ (by simp; omega)).trans ((blk_alloc_lt (by simp; omega)).trans ((blk_alloc_lt (by omega)).trans ((hblk _ (by omega)).trans (by simp [go_sem]))))
  have F4 : w5.blk (w.heap.size + 1 + 1) = some (.cells (patCs zeroP) 28 (0, 0)) := (hb5.block _ (by simp; omega)).trans ((blk_alloc_lt (by simp; omega)).trans ((blk_alloc_lt (by omega)).trans ((hblk _ (by omega)).trans (by simp [go_sem]))))
  have F6 : w5.cell? ⟨w4.heap.size, 0, none⟩ = some (.slice A' d.length c') := (hb5.cell (p := ⟨w4.heap.size, 0, none⟩) (by simp; omega)).trans (by simp [go_sem])
  have F8 : w5.blk (w4.heap.size + 1) = some (.cells (patCs (bare p)) 28 (0, 0)) := (hb5.block _ (by simp)).trans (blk_alloc_at (by simp))
  have HB5 : Hid (Below w.heap.size w w5) := Lib.hid (HB0.out.trans ((((HB4.out.alloc HB4.out.size _).alloc (by have := HB4.out.size; simp at this ⊢; omega) _).trans (hb5.mono (by have := HB4.out.size; simp at this ⊢; omega))).mono HB0.out.size))
  have HR5 := Lib.hid (HR.out.below HB5.out)
  have HD5 := Lib.hid (HR'.out.below ((((Below.refl _ _).alloc (Nat.le_refl _) (.cells #[.slice A' d.length c'] 24)).alloc (by simp) (.cells (patCs (bare p)) 28)).trans (hb5.mono (by simp; omega))))
  clear hb5 hc hf hblk HB4 HR4 HB0 HR'
  have w1 : w.heap.size < w5.heap.size := by omega
  have w2 : w.heap.size + 1 < w5.heap.size := by omega
  have w3 : w.heap.size + 1 + 1 < w5.heap.size := by omega
  have w6 : w4.heap.size < w5.heap.size := by omega
  have w8 : w4.heap.size + 1 < w5.heap.size := by omega
  obtain ⟨b1, o1, rfl, hbs1, c0, c1, c2, c3, c4, c5, c6⟩ := HR5.out.item HY.out
  have hi0 : (0 : Int) ≤ k := by omega
  have hi1 : (k : Int) < l.length := by have := (List.getElem?_eq_some_iff.1 HY.out).1; omega
  have P0 : w5.cell? ⟨w.heap.size + 1, 0, none⟩ = some (.int .i64 p.kind) := cell_of_blk F3 rfl
  have P6 : w5.cell? ⟨w.heap.size + 1, 12, none⟩ = some (.int .i64 p.lang) := cell_of_blk F3 rfl
  have P7 : w5.cell? ⟨w.heap.size + 1, 13, none⟩ = some (vs p.fr) := cell_of_blk F3 rfl
  have P8 : w5.cell? ⟨w.heap.size + 1, 14, none⟩ = some (vs p.to) := cell_of_blk F3 rfl
  have HG5 := Lib.hid (step_cell (HB5.out.alloc HB5.out.size (.cells #[.int .i64 y.kind, vs y.id, vs y.par, vs y.num, vs y.no, vs y.so, .bool y.gone] 26)) HG.out)
  obtain ⟨b2, o2, rfl, hbs2, d0, d1, d2, d3, d4, d5, d6⟩ := HD5.out.item HZ.out
  have hi2 : (k : Int) < d.length := by have := (List.getElem?_eq_some_iff.1 HZ.out).1; omega
  go_wp2_with fail
  refine (once_any z.no p.to m _ (by omega) HG5.out).mono ?_
  rintro e w7 ⟨rfl, rfl⟩
  rw [HO.out]
  have B0 : w5.cell? ⟨w4.heap.size + 1, 12, none⟩ = some (.int .i64 0) := cell_of_blk F8 rfl
  have B1 : w5.frozen? ⟨w4.heap.size + 1, 12, none⟩ = false := frozen_of_blk F8
  have B2 : w5.cell? ⟨w4.heap.size + 1, 13, none⟩ = some (vs []) := cell_of_blk F8 rfl
  have B3 : w5.frozen? ⟨w4.heap.size + 1, 13, none⟩ = false := frozen_of_blk F8
  have B4 : w5.cell? ⟨w4.heap.size + 1, 14, none⟩ = some (vs []) := cell_of_blk F8 rfl
  have B5 : w5.frozen? ⟨w4.heap.size + 1, 14, none⟩ = false := frozen_of_blk F8
  have S8 : (((w5.setCell ⟨w4.heap.size + 1, 12, none⟩ (.int .i64 p.lang)).setCell ⟨w4.heap.size + 1, 13, none⟩ (vs p.to)).setCell ⟨w4.heap.size + 1, 14, none⟩ (vs p.fr)).blk (w4.heap.size + 1) = some (.cells (patCs (⟨p.kind, p.id, [], [], [], noItem, p.lang, p.to, p.fr⟩)) 28 (0, 0)) := blk_setCell_at (blk_setCell_at (blk_setCell_at F8))
  have S4 : (((((w5.setCell ⟨w4.heap.size + 1, 12, none⟩ (.int .i64 p.lang)).setCell ⟨w4.heap.size + 1, 13, none⟩ (vs p.to)).setCell ⟨w4.heap.size + 1, 14, none⟩ (vs p.fr)).alloc (.cells #[.int .i64 y.kind, vs y.id, vs y.par, vs y.num, vs y.no, vs y.so, .bool y.gone] 26)).drew).blk (w.heap.size + 1 + 1) = some (.cells (patCs zeroP) 28 (0, 0)) := (blk_alloc_lt (by simp; omega)).trans ((blk_setCell (by show _ ≠ w4.heap.size + 1; omega)).trans ((blk_setCell (by show _ ≠ w4.heap.size + 1; omega)).trans ((blk_setCell (by show _ ≠ w4.heap.size + 1; omega)).trans (F4))))
  have HBW : Hid (Below w.heap.size w (((((w5.setCell ⟨w4.heap.size + 1, 12, none⟩ (.int .i64 p.lang)).setCell ⟨w4.heap.size + 1, 13, none⟩ (vs p.to)).setCell ⟨w4.heap.size + 1, 14, none⟩ (vs p.fr)).alloc (.cells #[.int .i64 y.kind, vs y.id, vs y.par, vs y.num, vs y.no, vs y.so, .bool y.gone] 26)).drew)) := Lib.hid ((((((HB5.out).setCell (show w.heap.size ≤ w4.heap.size + 1 by omega) _).setCell (show w.heap.size ≤ w4.heap.size + 1 by omega) _).setCell (show w.heap.size ≤ w4.heap.size + 1 by omega) _).alloc (by have := HB5.out.size; simp; omega) _).drew)
  have HS4 := Lib.hid S4
  have HROW := Lib.hid (blk_setRow_at (D := patCs (⟨p.kind, p.id, [], [], [], noItem, p.lang, p.to, p.fr⟩)) S4)
  clear S4
  go_wp2_with fail
  go_region
  go_wp2_with (refine wpList_store_pat rfl (.tmp 4) (.tmp 128) rfl (w.heap.size + 1 + 1) (⟨p.kind, p.id, [], [], [], noItem, p.lang, p.to, p.fr⟩) zeroP rfl rfl HS4.out ?_)
  refine bodyPost_ret (v := .tuple #[(⟨p.kind, p.id, [], [], [], noItem, p.lang, p.to, p.fr⟩ : Patch).agg, .int .i64 0]) (results_pat rfl rfl HROW.out) rfl ⟨rfl, ?_⟩
  exact below_setRow HBW.out (by omega) _
set_option maxRecDepth 20000 in
set_option maxHeartbeats 4000000 in
theorem inv_2a2 (l : List Item) (A : Option Addr) (c : Nat) (p : Patch) (w : World) (hr : RdI w A l) (hl : l.length ≤ 100000) (hlc : l.length ≤ c) (hsh : ∀ x ∈ l, x.Short) (hps : p.item.Short) (hpn : p.num.length ≤ maxLen)
    (m : Int) (hg : w.cell? ⟨0, 0, none⟩ = some (.int .i64 m)) (htt : p.to.length ≤ 1000000) (he : (applyF l p).2 = 0) (hk : p.kind = 2) (k : Nat) (y z : Item) (hf1 : findI l p.id = k) (hf2 : l[k]? = some y) (hz1 : (applyF l p).1[k]? = some z) (hz2 : itemF (applyF l p).1 p.id = z) (hz3 : z.no.length ≤ 400) (hz4 : z.so.length ≤ 400) (hla : p.lang = 2) (ho : onceIs z.so p.to = false) : Inverts l A c p w := by
  have hk1 : (p.kind == 1) = false := by simp [hk]
  have hk2 : (p.kind == 2) = true := by simp [hk]
  have hk3 : (p.kind == 3) = false := by simp [hk]
  have hk4 : (p.kind == 4) = false := by simp [hk]
  have hk5 : (p.kind == 5) = false := by simp [hk]
  have hk6 : (p.kind == 6) = false := by simp [hk]
  have hk7 : (p.kind == 7) = false := by simp [hk]
  have hl2 : (p.lang == 2) = true := by simp [hla]
  have hi : invertF l p = (zeroP, 15) := by
    unfold invertF backF
    rw [if_pos he, if_neg (by omega), if_pos hk, hz2]
    unfold wordsText
    rw [if_neg (show ¬ p.lang = 1 by omega), if_pos (.inl ho)]
  clear hk hla hz2
  unfold Inverts
  rw [hi]
  clear hi
  obtain ⟨d, hd⟩ : ∃ d, (applyF l p).1 = d := ⟨_, rfl⟩
  rw [hd] at hz1
  have HZ := Lib.hid hz1; clear hz1
  have HO := Lib.hid ho; clear ho
  have HF := Lib.hid hf1; clear hf1
  have HY := Lib.hid hf2; clear hf2
  have hb0 := (((Below.refl w.heap.size w).alloc (Nat.le_refl _) (.cells #[.slice A l.length c] 24)).alloc (by simp) (.cells (patCs p) 28)).alloc (by simp; omega) (.cells (patCs zeroP) 28)
  have HB0 := Lib.hid hb0; clear hb0
  have HR := Lib.hid hr; clear hr
  have HG := Lib.hid hg; clear hg
  have HD := Lib.hid hd; clear hd
  have HE := Lib.hid he; clear he
  go_enter Try.func22, Try.ntmps22
  go_wp2_with fail
  have hap := apply_any l A c p _ (HR.out.below HB0.out) (by omega) hlc hsh hps hpn m (step_cell HB0.out HG.out) htt
  unfold Applies at hap
  rw [HD.out, HE.out] at hap
  refine hap.mono ?_
  rintro e w4 ⟨v, rfl, ⟨A', c', rfl, hr', hlc', hA'⟩, hb2⟩
  clear hap
  obtain ⟨hc, hf⟩ := bcell hb2
  have hblk := bblk hb2
  simp at hc hf hblk
  have hz4 := hb2.size
  simp at hz4
  have HB4 := Lib.hid hb2; clear hb2
  have HR4 := Lib.hid ((HR.out.below HB0.out).below HB4.out)
  have HR' := Lib.hid hr'; clear hr'
  have z1 : w.heap.size < w4.heap.size := by omega
  have z2 : w.heap.size + 1 < w4.heap.size := by omega
  have z3 : w.heap.size + 1 + 1 < w4.heap.size := by omega
  go_wp2_with fail
  refine (find_any l A c p.id _ (HR4.out.below (((Below.refl _ _).alloc (Nat.le_refl _) _).alloc (by simp) _)) (le_maxLen (by omega))).mono ?_
  rintro e w5 ⟨rfl, hb5⟩
  rw [HF.out]
  have hz5 := hb5.size
  simp at hz5
  have F2 : w5.cell? ⟨w.heap.size, 0, none⟩ = some (.slice A l.length c) := (hb5.cell (p := ⟨w.heap.size, 0, none⟩) (by simp; omega)).trans (by simp [go_sem, z1, hc])
  have F3 : w5.blk (w.heap.size + 1) = some (.cells (patCs p) 28 (0, 0)) := (hb5.block _ (by simp; omega)).trans ((blk_alloc_lt (by simp; omega)).trans ((blk_alloc_lt (by omega)).trans ((hblk _ (by omega)).trans (by simp [go_sem]))))
  have F4 : w5.blk (w.heap.size + 1 + 1) = some (.cells (patCs zeroP) 28 (0, 0)) := (hb5.block _ (by simp; omega)).trans ((blk_alloc_lt (by simp; omega)).trans ((blk_alloc_lt (by omega)).trans ((hblk _ (by omega)).trans (by simp [go_sem]))))
  have F6 : w5.cell? ⟨w4.heap.size, 0, none⟩ = some (.slice A' d.length c') := (hb5.cell (p := ⟨w4.heap.size, 0, none⟩) (by simp; omega)).trans (by simp [go_sem])
  have F8 : w5.blk (w4.heap.size + 1) = some (.cells (patCs (bare p)) 28 (0, 0)) := (hb5.block _ (by simp)).trans (blk_alloc_at (by simp))
  have HB5 : Hid (Below w.heap.size w w5) := Lib.hid (HB0.out.trans ((((HB4.out.alloc HB4.out.size _).alloc (by have := HB4.out.size; simp at this ⊢; omega) _).trans (hb5.mono (by have := HB4.out.size; simp at this ⊢; omega))).mono HB0.out.size))
  have HR5 := Lib.hid (HR.out.below HB5.out)
  have HD5 := Lib.hid (HR'.out.below ((((Below.refl _ _).alloc (Nat.le_refl _) (.cells #[.slice A' d.length c'] 24)).alloc (by simp) (.cells (patCs (bare p)) 28)).trans (hb5.mono (by simp; omega))))
  clear hb5 hc hf hblk HB4 HR4 HB0 HR'
  have w1 : w.heap.size < w5.heap.size := by omega
  have w2 : w.heap.size + 1 < w5.heap.size := by omega
  have w3 : w.heap.size + 1 + 1 < w5.heap.size := by omega
  have w6 : w4.heap.size < w5.heap.size := by omega
  have w8 : w4.heap.size + 1 < w5.heap.size := by omega
  obtain ⟨b1, o1, rfl, hbs1, c0, c1, c2, c3, c4, c5, c6⟩ := HR5.out.item HY.out
  have hi0 : (0 : Int) ≤ k := by omega
  have hi1 : (k : Int) < l.length := by have := (List.getElem?_eq_some_iff.1 HY.out).1; omega
  have P0 : w5.cell? ⟨w.heap.size + 1, 0, none⟩ = some (.int .i64 p.kind) := cell_of_blk F3 rfl
  have P6 : w5.cell? ⟨w.heap.size + 1, 12, none⟩ = some (.int .i64 p.lang) := cell_of_blk F3 rfl
  have P7 : w5.cell? ⟨w.heap.size + 1, 13, none⟩ = some (vs p.fr) := cell_of_blk F3 rfl
  have P8 : w5.cell? ⟨w.heap.size + 1, 14, none⟩ = some (vs p.to) := cell_of_blk F3 rfl
  have HG5 := Lib.hid (step_cell (HB5.out.alloc HB5.out.size (.cells #[.int .i64 y.kind, vs y.id, vs y.par, vs y.num, vs y.no, vs y.so, .bool y.gone] 26)) HG.out)
  obtain ⟨b2, o2, rfl, hbs2, d0, d1, d2, d3, d4, d5, d6⟩ := HD5.out.item HZ.out
  have hi2 : (k : Int) < d.length := by have := (List.getElem?_eq_some_iff.1 HZ.out).1; omega
  go_wp2_with fail
  refine (once_any z.so p.to m _ (by omega) HG5.out).mono ?_
  rintro e w7 ⟨rfl, rfl⟩
  rw [HO.out]
  have S4 : (w5.alloc (.cells #[.int .i64 y.kind, vs y.id, vs y.par, vs y.num, vs y.no, vs y.so, .bool y.gone] 26)).blk (w.heap.size + 1 + 1) = some (.cells (patCs zeroP) 28 (0, 0)) := (blk_alloc_lt w3).trans F4
  have HBW := Lib.hid (HB5.out.alloc HB5.out.size (.cells #[.int .i64 y.kind, vs y.id, vs y.par, vs y.num, vs y.no, vs y.so, .bool y.gone] 26))
  have HS4 := Lib.hid S4
  have HROW := Lib.hid (blk_setRow_at (D := patCs zeroP) S4)
  clear S4
  go_wp2_with (refine wpList_store_pat rfl (.tmp 4) (.tmp 77) rfl (w.heap.size + 1 + 1) zeroP zeroP rfl rfl HS4.out ?_)
  refine bodyPost_ret (v := .tuple #[zeroP.agg, .int .i64 15]) (results_pat rfl rfl HROW.out) rfl ⟨rfl, ?_⟩
  exact below_setRow HBW.out (by omega) _
set_option maxRecDepth 20000 in
set_option maxHeartbeats 4000000 in
theorem inv_2b2 (l : List Item) (A : Option Addr) (c : Nat) (p : Patch) (w : World) (hr : RdI w A l) (hl : l.length ≤ 100000) (hlc : l.length ≤ c) (hsh : ∀ x ∈ l, x.Short) (hps : p.item.Short) (hpn : p.num.length ≤ maxLen)
    (m : Int) (hg : w.cell? ⟨0, 0, none⟩ = some (.int .i64 m)) (htt : p.to.length ≤ 1000000) (he : (applyF l p).2 = 0) (hk : p.kind = 2) (k : Nat) (y z : Item) (hf1 : findI l p.id = k) (hf2 : l[k]? = some y) (hz1 : (applyF l p).1[k]? = some z) (hz2 : itemF (applyF l p).1 p.id = z) (hz3 : z.no.length ≤ 400) (hz4 : z.so.length ≤ 400) (hla : p.lang = 2) (ho : onceIs z.so p.to = true) (hto : p.to = []) : Inverts l A c p w := by
  have hk1 : (p.kind == 1) = false := by simp [hk]
  have hk2 : (p.kind == 2) = true := by simp [hk]
  have hk3 : (p.kind == 3) = false := by simp [hk]
  have hk4 : (p.kind == 4) = false := by simp [hk]
  have hk5 : (p.kind == 5) = false := by simp [hk]
  have hk6 : (p.kind == 6) = false := by simp [hk]
  have hk7 : (p.kind == 7) = false := by simp [hk]
  have hl2 : (p.lang == 2) = true := by simp [hla]
  have hi : invertF l p = (zeroP, 15) := by
    unfold invertF backF
    rw [if_pos he, if_neg (by omega), if_pos hk, hz2]
    unfold wordsText
    rw [if_neg (show ¬ p.lang = 1 by omega), if_pos (.inr hto)]
  clear hk hla hz2
  obtain ⟨n1, n2, n3⟩ : (p.to == []) = true ∧ (p.to != []) = false ∧ p.to.isEmpty = true := by rw [hto]; exact ⟨rfl, rfl, rfl⟩
  clear hto
  unfold Inverts
  rw [hi]
  clear hi
  obtain ⟨d, hd⟩ : ∃ d, (applyF l p).1 = d := ⟨_, rfl⟩
  rw [hd] at hz1
  have HZ := Lib.hid hz1; clear hz1
  have HO := Lib.hid ho; clear ho
  have HF := Lib.hid hf1; clear hf1
  have HY := Lib.hid hf2; clear hf2
  have hb0 := (((Below.refl w.heap.size w).alloc (Nat.le_refl _) (.cells #[.slice A l.length c] 24)).alloc (by simp) (.cells (patCs p) 28)).alloc (by simp; omega) (.cells (patCs zeroP) 28)
  have HB0 := Lib.hid hb0; clear hb0
  have HR := Lib.hid hr; clear hr
  have HG := Lib.hid hg; clear hg
  have HD := Lib.hid hd; clear hd
  have HE := Lib.hid he; clear he
  go_enter Try.func22, Try.ntmps22
  go_wp2_with fail
  have hap := apply_any l A c p _ (HR.out.below HB0.out) (by omega) hlc hsh hps hpn m (step_cell HB0.out HG.out) htt
  unfold Applies at hap
  rw [HD.out, HE.out] at hap
  refine hap.mono ?_
  rintro e w4 ⟨v, rfl, ⟨A', c', rfl, hr', hlc', hA'⟩, hb2⟩
  clear hap
  obtain ⟨hc, hf⟩ := bcell hb2
  have hblk := bblk hb2
  simp at hc hf hblk
  have hz4 := hb2.size
  simp at hz4
  have HB4 := Lib.hid hb2; clear hb2
  have HR4 := Lib.hid ((HR.out.below HB0.out).below HB4.out)
  have HR' := Lib.hid hr'; clear hr'
  have z1 : w.heap.size < w4.heap.size := by omega
  have z2 : w.heap.size + 1 < w4.heap.size := by omega
  have z3 : w.heap.size + 1 + 1 < w4.heap.size := by omega
  go_wp2_with fail
  refine (find_any l A c p.id _ (HR4.out.below (((Below.refl _ _).alloc (Nat.le_refl _) _).alloc (by simp) _)) (le_maxLen (by omega))).mono ?_
  rintro e w5 ⟨rfl, hb5⟩
  rw [HF.out]
  have hz5 := hb5.size
  simp at hz5
  have F2 : w5.cell? ⟨w.heap.size, 0, none⟩ = some (.slice A l.length c) := (hb5.cell (p := ⟨w.heap.size, 0, none⟩) (by simp; omega)).trans (by simp [go_sem, z1, hc])
  have F3 : w5.blk (w.heap.size + 1) = some (.cells (patCs p) 28 (0, 0)) := (hb5.block _ (by simp; omega)).trans ((blk_alloc_lt (by simp; omega)).trans ((blk_alloc_lt (by omega)).trans ((hblk _ (by omega)).trans (by simp [go_sem]))))
  have F4 : w5.blk (w.heap.size + 1 + 1) = some (.cells (patCs zeroP) 28 (0, 0)) := (hb5.block _ (by simp; omega)).trans ((blk_alloc_lt (by simp; omega)).trans ((blk_alloc_lt (by omega)).trans ((hblk _ (by omega)).trans (by simp [go_sem]))))
  have F6 : w5.cell? ⟨w4.heap.size, 0, none⟩ = some (.slice A' d.length c') := (hb5.cell (p := ⟨w4.heap.size, 0, none⟩) (by simp; omega)).trans (by simp [go_sem])
  have F8 : w5.blk (w4.heap.size + 1) = some (.cells (patCs (bare p)) 28 (0, 0)) := (hb5.block _ (by simp)).trans (blk_alloc_at (by simp))
  have HB5 : Hid (Below w.heap.size w w5) := Lib.hid (HB0.out.trans ((((HB4.out.alloc HB4.out.size _).alloc (by have := HB4.out.size; simp at this ⊢; omega) _).trans (hb5.mono (by have := HB4.out.size; simp at this ⊢; omega))).mono HB0.out.size))
  have HR5 := Lib.hid (HR.out.below HB5.out)
  have HD5 := Lib.hid (HR'.out.below ((((Below.refl _ _).alloc (Nat.le_refl _) (.cells #[.slice A' d.length c'] 24)).alloc (by simp) (.cells (patCs (bare p)) 28)).trans (hb5.mono (by simp; omega))))
  clear hb5 hc hf hblk HB4 HR4 HB0 HR'
  have w1 : w.heap.size < w5.heap.size := by omega
  have w2 : w.heap.size + 1 < w5.heap.size := by omega
  have w3 : w.heap.size + 1 + 1 < w5.heap.size := by omega
  have w6 : w4.heap.size < w5.heap.size := by omega
  have w8 : w4.heap.size + 1 < w5.heap.size := by omega
  obtain ⟨b1, o1, rfl, hbs1, c0, c1, c2, c3, c4, c5, c6⟩ := HR5.out.item HY.out
  have hi0 : (0 : Int) ≤ k := by omega
  have hi1 : (k : Int) < l.length := by have := (List.getElem?_eq_some_iff.1 HY.out).1; omega
  have P0 : w5.cell? ⟨w.heap.size + 1, 0, none⟩ = some (.int .i64 p.kind) := cell_of_blk F3 rfl
  have P6 : w5.cell? ⟨w.heap.size + 1, 12, none⟩ = some (.int .i64 p.lang) := cell_of_blk F3 rfl
  have P7 : w5.cell? ⟨w.heap.size + 1, 13, none⟩ = some (vs p.fr) := cell_of_blk F3 rfl
  have P8 : w5.cell? ⟨w.heap.size + 1, 14, none⟩ = some (vs p.to) := cell_of_blk F3 rfl
  have HG5 := Lib.hid (step_cell (HB5.out.alloc HB5.out.size (.cells #[.int .i64 y.kind, vs y.id, vs y.par, vs y.num, vs y.no, vs y.so, .bool y.gone] 26)) HG.out)
  obtain ⟨b2, o2, rfl, hbs2, d0, d1, d2, d3, d4, d5, d6⟩ := HD5.out.item HZ.out
  have hi2 : (k : Int) < d.length := by have := (List.getElem?_eq_some_iff.1 HZ.out).1; omega
  go_wp2_with fail
  refine (once_any z.so p.to m _ (by omega) HG5.out).mono ?_
  rintro e w7 ⟨rfl, rfl⟩
  rw [HO.out]
  have S4 : (w5.alloc (.cells #[.int .i64 y.kind, vs y.id, vs y.par, vs y.num, vs y.no, vs y.so, .bool y.gone] 26)).blk (w.heap.size + 1 + 1) = some (.cells (patCs zeroP) 28 (0, 0)) := (blk_alloc_lt w3).trans F4
  have HBW := Lib.hid (HB5.out.alloc HB5.out.size (.cells #[.int .i64 y.kind, vs y.id, vs y.par, vs y.num, vs y.no, vs y.so, .bool y.gone] 26))
  have HS4 := Lib.hid S4
  have HROW := Lib.hid (blk_setRow_at (D := patCs zeroP) S4)
  clear S4
  go_wp2_with (refine wpList_store_pat rfl (.tmp 4) (.tmp 77) rfl (w.heap.size + 1 + 1) zeroP zeroP rfl rfl HS4.out ?_)
  refine bodyPost_ret (v := .tuple #[zeroP.agg, .int .i64 15]) (results_pat rfl rfl HROW.out) rfl ⟨rfl, ?_⟩
  exact below_setRow HBW.out (by omega) _
set_option maxRecDepth 20000 in
set_option maxHeartbeats 4000000 in
theorem inv_2c2 (l : List Item) (A : Option Addr) (c : Nat) (p : Patch) (w : World) (hr : RdI w A l) (hl : l.length ≤ 100000) (hlc : l.length ≤ c) (hsh : ∀ x ∈ l, x.Short) (hps : p.item.Short) (hpn : p.num.length ≤ maxLen)
    (m : Int) (hg : w.cell? ⟨0, 0, none⟩ = some (.int .i64 m)) (htt : p.to.length ≤ 1000000) (he : (applyF l p).2 = 0) (hk : p.kind = 2) (k : Nat) (y z : Item) (hf1 : findI l p.id = k) (hf2 : l[k]? = some y) (hz1 : (applyF l p).1[k]? = some z) (hz2 : itemF (applyF l p).1 p.id = z) (hz3 : z.no.length ≤ 400) (hz4 : z.so.length ≤ 400) (hla : p.lang = 2) (ho : onceIs z.so p.to = true) (hto : p.to ≠ []) : Inverts l A c p w := by
  have hk1 : (p.kind == 1) = false := by simp [hk]
  have hk2 : (p.kind == 2) = true := by simp [hk]
  have hk3 : (p.kind == 3) = false := by simp [hk]
  have hk4 : (p.kind == 4) = false := by simp [hk]
  have hk5 : (p.kind == 5) = false := by simp [hk]
  have hk6 : (p.kind == 6) = false := by simp [hk]
  have hk7 : (p.kind == 7) = false := by simp [hk]
  have hl2 : (p.lang == 2) = true := by simp [hla]
  have hi : invertF l p = (⟨p.kind, p.id, [], [], [], noItem, p.lang, p.to, p.fr⟩, 0) := by
    unfold invertF backF
    rw [if_pos he, if_neg (by omega), if_pos hk, hz2]
    unfold wordsText
    rw [if_neg (show ¬ p.lang = 1 by omega), if_neg (by simp [ho, hto])]; rfl
  clear hk hla hz2
  obtain ⟨n1, n2, n3⟩ : (p.to == []) = false ∧ (p.to != []) = true ∧ p.to.isEmpty = false := ⟨by simpa using hto, by simpa using hto, by simpa using hto⟩
  clear hto
  unfold Inverts
  rw [hi]
  clear hi
  obtain ⟨d, hd⟩ : ∃ d, (applyF l p).1 = d := ⟨_, rfl⟩
  rw [hd] at hz1
  have HZ := Lib.hid hz1; clear hz1
  have HO := Lib.hid ho; clear ho
  have HF := Lib.hid hf1; clear hf1
  have HY := Lib.hid hf2; clear hf2
  have hb0 := (((Below.refl w.heap.size w).alloc (Nat.le_refl _) (.cells #[.slice A l.length c] 24)).alloc (by simp) (.cells (patCs p) 28)).alloc (by simp; omega) (.cells (patCs zeroP) 28)
  have HB0 := Lib.hid hb0; clear hb0
  have HR := Lib.hid hr; clear hr
  have HG := Lib.hid hg; clear hg
  have HD := Lib.hid hd; clear hd
  have HE := Lib.hid he; clear he
  go_enter Try.func22, Try.ntmps22
  go_wp2_with fail
  have hap := apply_any l A c p _ (HR.out.below HB0.out) (by omega) hlc hsh hps hpn m (step_cell HB0.out HG.out) htt
  unfold Applies at hap
  rw [HD.out, HE.out] at hap
  refine hap.mono ?_
  rintro e w4 ⟨v, rfl, ⟨A', c', rfl, hr', hlc', hA'⟩, hb2⟩
  clear hap
  obtain ⟨hc, hf⟩ := bcell hb2
  have hblk := bblk hb2
  simp at hc hf hblk
  have hz4 := hb2.size
  simp at hz4
  have HB4 := Lib.hid hb2; clear hb2
  have HR4 := Lib.hid ((HR.out.below HB0.out).below HB4.out)
  have HR' := Lib.hid hr'; clear hr'
  have z1 : w.heap.size < w4.heap.size := by omega
  have z2 : w.heap.size + 1 < w4.heap.size := by omega
  have z3 : w.heap.size + 1 + 1 < w4.heap.size := by omega
  go_wp2_with fail
  refine (find_any l A c p.id _ (HR4.out.below (((Below.refl _ _).alloc (Nat.le_refl _) _).alloc (by simp) _)) (le_maxLen (by omega))).mono ?_
  rintro e w5 ⟨rfl, hb5⟩
  rw [HF.out]
  have hz5 := hb5.size
  simp at hz5
  have F2 : w5.cell? ⟨w.heap.size, 0, none⟩ = some (.slice A l.length c) := (hb5.cell (p := ⟨w.heap.size, 0, none⟩) (by simp; omega)).trans (by simp [go_sem, z1, hc])
  have F3 : w5.blk (w.heap.size + 1) = some (.cells (patCs p) 28 (0, 0)) := (hb5.block _ (by simp; omega)).trans ((blk_alloc_lt (by simp; omega)).trans ((blk_alloc_lt (by omega)).trans ((hblk _ (by omega)).trans (by simp [go_sem]))))
  have F4 : w5.blk (w.heap.size + 1 + 1) = some (.cells (patCs zeroP) 28 (0, 0)) := (hb5.block _ (by simp; omega)).trans ((blk_alloc_lt (by simp; omega)).trans ((blk_alloc_lt (by omega)).trans ((hblk _ (by omega)).trans (by simp [go_sem]))))
  have F6 : w5.cell? ⟨w4.heap.size, 0, none⟩ = some (.slice A' d.length c') := (hb5.cell (p := ⟨w4.heap.size, 0, none⟩) (by simp; omega)).trans (by simp [go_sem])
  have F8 : w5.blk (w4.heap.size + 1) = some (.cells (patCs (bare p)) 28 (0, 0)) := (hb5.block _ (by simp)).trans (blk_alloc_at (by simp))
  have HB5 : Hid (Below w.heap.size w w5) := Lib.hid (HB0.out.trans ((((HB4.out.alloc HB4.out.size _).alloc (by have := HB4.out.size; simp at this ⊢; omega) _).trans (hb5.mono (by have := HB4.out.size; simp at this ⊢; omega))).mono HB0.out.size))
  have HR5 := Lib.hid (HR.out.below HB5.out)
  have HD5 := Lib.hid (HR'.out.below ((((Below.refl _ _).alloc (Nat.le_refl _) (.cells #[.slice A' d.length c'] 24)).alloc (by simp) (.cells (patCs (bare p)) 28)).trans (hb5.mono (by simp; omega))))
  clear hb5 hc hf hblk HB4 HR4 HB0 HR'
  have w1 : w.heap.size < w5.heap.size := by omega
  have w2 : w.heap.size + 1 < w5.heap.size := by omega
  have w3 : w.heap.size + 1 + 1 < w5.heap.size := by omega
  have w6 : w4.heap.size < w5.heap.size := by omega
  have w8 : w4.heap.size + 1 < w5.heap.size := by omega
  obtain ⟨b1, o1, rfl, hbs1, c0, c1, c2, c3, c4, c5, c6⟩ := HR5.out.item HY.out
  have hi0 : (0 : Int) ≤ k := by omega
  have hi1 : (k : Int) < l.length := by have := (List.getElem?_eq_some_iff.1 HY.out).1; omega
  have P0 : w5.cell? ⟨w.heap.size + 1, 0, none⟩ = some (.int .i64 p.kind) := cell_of_blk F3 rfl
  have P6 : w5.cell? ⟨w.heap.size + 1, 12, none⟩ = some (.int .i64 p.lang) := cell_of_blk F3 rfl
  have P7 : w5.cell? ⟨w.heap.size + 1, 13, none⟩ = some (vs p.fr) := cell_of_blk F3 rfl
  have P8 : w5.cell? ⟨w.heap.size + 1, 14, none⟩ = some (vs p.to) := cell_of_blk F3 rfl
  have HG5 := Lib.hid (step_cell (HB5.out.alloc HB5.out.size (.cells #[.int .i64 y.kind, vs y.id, vs y.par, vs y.num, vs y.no, vs y.so, .bool y.gone] 26)) HG.out)
  obtain ⟨b2, o2, rfl, hbs2, d0, d1, d2, d3, d4, d5, d6⟩ := HD5.out.item HZ.out
  have hi2 : (k : Int) < d.length := by have := (List.getElem?_eq_some_iff.1 HZ.out).1; omega
  go_wp2_with fail
  refine (once_any z.so p.to m _ (by omega) HG5.out).mono ?_
  rintro e w7 ⟨rfl, rfl⟩
  rw [HO.out]
  have B0 : w5.cell? ⟨w4.heap.size + 1, 12, none⟩ = some (.int .i64 0) := cell_of_blk F8 rfl
  have B1 : w5.frozen? ⟨w4.heap.size + 1, 12, none⟩ = false := frozen_of_blk F8
  have B2 : w5.cell? ⟨w4.heap.size + 1, 13, none⟩ = some (vs []) := cell_of_blk F8 rfl
  have B3 : w5.frozen? ⟨w4.heap.size + 1, 13, none⟩ = false := frozen_of_blk F8
  have B4 : w5.cell? ⟨w4.heap.size + 1, 14, none⟩ = some (vs []) := cell_of_blk F8 rfl
  have B5 : w5.frozen? ⟨w4.heap.size + 1, 14, none⟩ = false := frozen_of_blk F8
  have S8 : (((w5.setCell ⟨w4.heap.size + 1, 12, none⟩ (.int .i64 p.lang)).setCell ⟨w4.heap.size + 1, 13, none⟩ (vs p.to)).setCell ⟨w4.heap.size + 1, 14, none⟩ (vs p.fr)).blk (w4.heap.size + 1) = some (.cells (patCs (⟨p.kind, p.id, [], [], [], noItem, p.lang, p.to, p.fr⟩)) 28 (0, 0)) := blk_setCell_at (blk_setCell_at (blk_setCell_at F8))
  have S4 : (((((w5.setCell ⟨w4.heap.size + 1, 12, none⟩ (.int .i64 p.lang)).setCell ⟨w4.heap.size + 1, 13, none⟩ (vs p.to)).setCell ⟨w4.heap.size + 1, 14, none⟩ (vs p.fr)).alloc (.cells #[.int .i64 y.kind, vs y.id, vs y.par, vs y.num, vs y.no, vs y.so, .bool y.gone] 26)).drew).blk (w.heap.size + 1 + 1) = some (.cells (patCs zeroP) 28 (0, 0)) := (blk_alloc_lt (by simp; omega)).trans ((blk_setCell (by show _ ≠ w4.heap.size + 1; omega)).trans ((blk_setCell (by show _ ≠ w4.heap.size + 1; omega)).trans ((blk_setCell (by show _ ≠ w4.heap.size + 1; omega)).trans (F4))))
  have HBW : Hid (Below w.heap.size w (((((w5.setCell ⟨w4.heap.size + 1, 12, none⟩ (.int .i64 p.lang)).setCell ⟨w4.heap.size + 1, 13, none⟩ (vs p.to)).setCell ⟨w4.heap.size + 1, 14, none⟩ (vs p.fr)).alloc (.cells #[.int .i64 y.kind, vs y.id, vs y.par, vs y.num, vs y.no, vs y.so, .bool y.gone] 26)).drew)) := Lib.hid ((((((HB5.out).setCell (show w.heap.size ≤ w4.heap.size + 1 by omega) _).setCell (show w.heap.size ≤ w4.heap.size + 1 by omega) _).setCell (show w.heap.size ≤ w4.heap.size + 1 by omega) _).alloc (by have := HB5.out.size; simp; omega) _).drew)
  have HS4 := Lib.hid S4
  have HROW := Lib.hid (blk_setRow_at (D := patCs (⟨p.kind, p.id, [], [], [], noItem, p.lang, p.to, p.fr⟩)) S4)
  clear S4
  go_wp2_with fail
  go_region
  go_wp2_with (refine wpList_store_pat rfl (.tmp 4) (.tmp 128) rfl (w.heap.size + 1 + 1) (⟨p.kind, p.id, [], [], [], noItem, p.lang, p.to, p.fr⟩) zeroP rfl rfl HS4.out ?_)
  refine bodyPost_ret (v := .tuple #[(⟨p.kind, p.id, [], [], [], noItem, p.lang, p.to, p.fr⟩ : Patch).agg, .int .i64 0]) (results_pat rfl rfl HROW.out) rfl ⟨rfl, ?_⟩
  exact below_setRow HBW.out (by omega) _
end Go.Proofs.Ytkdcenbommhnoaa
