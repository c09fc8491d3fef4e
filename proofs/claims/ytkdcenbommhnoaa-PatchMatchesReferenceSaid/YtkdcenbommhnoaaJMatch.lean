/- pandectlaw19.PatchMatchesReference returns true for every code, patch and list of patches, and leaves them as they were. No condition. The reference: Invert; the law; the row. -/
import Derived.Test.YtkdcenbommhnoaaJAll
import Derived.Test.YtkdcenbommhnoaaJBack
import Derived.Test.YtkdcenbommhnoaaSame
import Derived.Test.YtkdcenbommhnoaaOpen
set_option linter.unusedVariables false
set_option linter.unusedSimpArgs false
namespace Go.Proofs.Ytkdcenbommhnoaa
open Go.RowKit
def RInverts (l : List Item) (A : Option Addr) (c : Nat) (p : Patch) (w : World) : Prop :=
  Calls Try.prog 26 #[.agg #[.slice A l.length c], p.agg] w fun e w' => e = .returned (.tuple #[(invertF l p).1.agg, .int .i64 (invertF l p).2]) ∧ Below w.heap.size w w'
theorem rresults_pat {X : World} {tmps : Array Value} {q : Patch} {er : Int} {b : Nat} (hp : tmps.getD 4 undef = .pointer (some ⟨b, 0, none⟩)) (he : tmps.getD 5 undef = .int .i64 er) (hb : X.blk b = some (.cells (patCs q) 28 (0, 0))) :
    (results Try.f26 tmps).run Try.prog X = .ok (.tuple #[q.agg, .int .i64 er]) X := by
  have hl : (loadVar 28 ⟨b, 0, none⟩).run Try.prog X = .ok q.agg X := by
    rw [loadVar_row X 28 b 0 15 Try.underlying28 rfl (by kernel_rfl), hb]
    exact rowLoad_cells _ _ _ _ _ _ _ rfl
  rw [results_cell_tmp Try.results26, hp, he]
  simp only [asAddr, Sem.run_pure, Result.andThen_ok, hl]
set_option maxRecDepth 20000 in
set_option maxHeartbeats 4000000 in
theorem rinv_err (l : List Item) (A : Option Addr) (c : Nat) (p : Patch) (w : World) (hr : RdI w A l) (hl : l.length ≤ 100000) (hlc : l.length ≤ c) (hsh : ∀ x ∈ l, x.Short) (hrd : p.RReady) (he0 : (applyF l p).2 ≠ 0) : RInverts l A c p w := by
  have hd0 := apply_err he0
  obtain ⟨er, he⟩ : ∃ er, (applyF l p).2 = er := ⟨_, rfl⟩
  have h0e : (er != 0) = true := by rw [← he]; simpa using he0
  have hi : invertF l p = (zeroP, er) := by unfold invertF; rw [if_neg he0, he]
  clear he0
  unfold RInverts
  rw [hi]
  clear hi
  obtain ⟨d, hd⟩ : ∃ d, (applyF l p).1 = d := ⟨_, rfl⟩
  have hb0 := (((Below.refl w.heap.size w).alloc (Nat.le_refl _) (.cells #[.slice A l.length c] 24)).alloc (by simp) (.cells (patCs p) 28)).alloc (by simp; omega) (.cells (patCs zeroP) 28)
  have HB0 := Lib.hid hb0; clear hb0
  have HR := Lib.hid hr; clear hr
  have HD := Lib.hid hd; clear hd
  have HE := Lib.hid he; clear he
  go_enter Try.func26, Try.ntmps26
  go_wp2_with fail
  refine (rapply_lit HD.out HE.out A c _ (HR.out.below HB0.out) (by omega) hlc hsh hrd).mono ?_
  rintro e w4 ⟨v, rfl, ⟨A', c', rfl, hr', hlc', hA'⟩, hb2⟩
  obtain ⟨hc, hf⟩ := bcell hb2
  have hblk := bblk hb2
  simp at hc hf hblk
  have hz4 := hb2.size
  simp at hz4
  have HB4 := Lib.hid hb2; clear hb2
  have hd1 : d = [] := by rw [← HD.out]; exact hd0
  subst hd1
  have hX : (w4.alloc (.cells #[.slice A' 0 c'] 24)).blk (w.heap.size + 1 + 1) = some (.cells (patCs zeroP) 28 (0, 0)) := (blk_alloc_lt (by omega)).trans ((hblk _ (by omega)).trans (by simp [go_sem]))
  have hrow := blk_setRow_at (D := patCs zeroP) hX
  have HX := Lib.hid hX
  have HROW := Lib.hid hrow
  clear hX hrow hblk
  go_wp2_with (refine wpList_store_pat rfl (.tmp 4) (.tmp 20) rfl (w.heap.size + 1 + 1) zeroP zeroP rfl rfl HX.out ?_)
  refine bodyPost_ret (v := .tuple #[zeroP.agg, .int .i64 er]) (rresults_pat rfl rfl HROW.out) rfl ⟨rfl, ?_⟩
  exact below_setRow (HB0.out.trans ((HB4.out.alloc HB4.out.size _).mono HB0.out.size)) (by omega) _
set_option maxRecDepth 20000 in
set_option maxHeartbeats 4000000 in
theorem rinv_1 (l : List Item) (A : Option Addr) (c : Nat) (p : Patch) (w : World) (hr : RdI w A l) (hl : l.length ≤ 100000) (hlc : l.length ≤ c) (hsh : ∀ x ∈ l, x.Short) (hrd : p.RReady) (he : (applyF l p).2 = 0) (hk : p.kind = 1) : RInverts l A c p w := by
  have hk1 : (p.kind == 1) = true := by simp [hk]
  have hk2 : (p.kind == 2) = false := by simp [hk]
  have hk3 : (p.kind == 3) = false := by simp [hk]
  have hk4 : (p.kind == 4) = false := by simp [hk]
  have hk5 : (p.kind == 5) = false := by simp [hk]
  have hk6 : (p.kind == 6) = false := by simp [hk]
  have hk7 : (p.kind == 7) = false := by simp [hk]
  have hi : invertF l p = (zeroP, 12) := by unfold invertF backF; rw [if_pos he, if_pos hk]
  clear hk
  unfold RInverts
  rw [hi]
  clear hi
  obtain ⟨d, hd⟩ : ∃ d, (applyF l p).1 = d := ⟨_, rfl⟩
  have hb0 := (((Below.refl w.heap.size w).alloc (Nat.le_refl _) (.cells #[.slice A l.length c] 24)).alloc (by simp) (.cells (patCs p) 28)).alloc (by simp; omega) (.cells (patCs zeroP) 28)
  have HB0 := Lib.hid hb0; clear hb0
  have HR := Lib.hid hr; clear hr
  have HD := Lib.hid hd; clear hd
  have HE := Lib.hid he; clear he
  go_enter Try.func26, Try.ntmps26
  go_wp2_with fail
  refine (rapply_lit HD.out HE.out A c _ (HR.out.below HB0.out) (by omega) hlc hsh hrd).mono ?_
  rintro e w4 ⟨v, rfl, ⟨A', c', rfl, hr', hlc', hA'⟩, hb2⟩
  obtain ⟨hc, hf⟩ := bcell hb2
  have hblk := bblk hb2
  simp at hc hf hblk
  have hz4 := hb2.size
  simp at hz4
  have HB4 := Lib.hid hb2; clear hb2
  have hX : (w4.alloc (.cells #[.slice A' d.length c'] 24)).blk (w.heap.size + 1 + 1) = some (.cells (patCs zeroP) 28 (0, 0)) := (blk_alloc_lt (by omega)).trans ((hblk _ (by omega)).trans (by simp [go_sem]))
  have hrow := blk_setRow_at (D := patCs zeroP) hX
  have HX := Lib.hid hX
  have HROW := Lib.hid hrow
  have z1 : w.heap.size < w4.heap.size := by omega
  have z2 : w.heap.size + 1 < w4.heap.size := by omega
  have F3 : w4.blk (w.heap.size + 1) = some (.cells (patCs p) 28 (0, 0)) := (hblk _ (by omega)).trans (by simp [go_sem])
  have P0 : w4.cell? ⟨w.heap.size + 1, 0, none⟩ = some (.int .i64 p.kind) := cell_of_blk F3 rfl
  clear hX hrow hblk
  go_wp2_with (refine wpList_store_pat rfl (.tmp 4) (.tmp 25) rfl (w.heap.size + 1 + 1) zeroP zeroP rfl rfl HX.out ?_)
  refine bodyPost_ret (v := .tuple #[zeroP.agg, .int .i64 12]) (rresults_pat rfl rfl HROW.out) rfl ⟨rfl, ?_⟩
  exact below_setRow (HB0.out.trans ((HB4.out.alloc HB4.out.size _).mono HB0.out.size)) (by omega) _
set_option maxRecDepth 20000 in
set_option maxHeartbeats 4000000 in
theorem rinv_3 (l : List Item) (A : Option Addr) (c : Nat) (p : Patch) (w : World) (hr : RdI w A l) (hl : l.length ≤ 100000) (hlc : l.length ≤ c) (hsh : ∀ x ∈ l, x.Short) (hrd : p.RReady) (he : (applyF l p).2 = 0) (hk : p.kind = 3) : RInverts l A c p w := by
  have hk1 : (p.kind == 1) = false := by simp [hk]
  have hk2 : (p.kind == 2) = false := by simp [hk]
  have hk3 : (p.kind == 3) = true := by simp [hk]
  have hk4 : (p.kind == 4) = false := by simp [hk]
  have hk5 : (p.kind == 5) = false := by simp [hk]
  have hk6 : (p.kind == 6) = false := by simp [hk]
  have hk7 : (p.kind == 7) = false := by simp [hk]
  obtain ⟨hwb, k, y, hf1, hf2, hf3⟩ := inv_found he (by omega)
  have hi : invertF l p = ({ bare p with num := y.num }, 0) := by unfold invertF backF; rw [if_pos he]; simp [hk, hf3]
  clear hk hf3 hwb
  unfold RInverts
  rw [hi]
  clear hi
  obtain ⟨d, hd⟩ : ∃ d, (applyF l p).1 = d := ⟨_, rfl⟩
  have HF := Lib.hid hf1; clear hf1
  have HY := Lib.hid hf2; clear hf2
  have hb0 := (((Below.refl w.heap.size w).alloc (Nat.le_refl _) (.cells #[.slice A l.length c] 24)).alloc (by simp) (.cells (patCs p) 28)).alloc (by simp; omega) (.cells (patCs zeroP) 28)
  have HB0 := Lib.hid hb0; clear hb0
  have HR := Lib.hid hr; clear hr
  have HD := Lib.hid hd; clear hd
  have HE := Lib.hid he; clear he
  go_enter Try.func26, Try.ntmps26
  go_wp2_with fail
  refine (rapply_lit HD.out HE.out A c _ (HR.out.below HB0.out) (by omega) hlc hsh hrd).mono ?_
  rintro e w4 ⟨v, rfl, ⟨A', c', rfl, hr', hlc', hA'⟩, hb2⟩
  obtain ⟨hc, hf⟩ := bcell hb2
  have hblk := bblk hb2
  simp at hc hf hblk
  have hz4 := hb2.size
  simp at hz4
  have HB4 := Lib.hid hb2; clear hb2
  have HR4 := Lib.hid ((HR.out.below HB0.out).below HB4.out)
  have HR' := Lib.hid hr'; clear hr'
  have z1 : w.heap.size < w4.heap.size := by omega
  have z2 : w.heap.size + 1 < w4.heap.size := by omega
  have z3 : w.heap.size + 1 + 1 < w4.heap.size := by omega
  go_wp2_with fail
  refine (rfind_at HF.out A c _ (HR4.out.below ((Below.refl _ _).alloc (Nat.le_refl _) _)) (le_maxLen (by omega))).mono ?_
  rintro e w5 ⟨rfl, hb5⟩
  have hz5 := hb5.size
  simp at hz5
  have F2 : w5.cell? ⟨w.heap.size, 0, none⟩ = some (.slice A l.length c) := (hb5.cell (p := ⟨w.heap.size, 0, none⟩) (by simp; omega)).trans (by simp [go_sem, z1, hc])
  have F3 : w5.blk (w.heap.size + 1) = some (.cells (patCs p) 28 (0, 0)) := (hb5.block _ (by simp; omega)).trans ((blk_alloc_lt (by omega)).trans ((hblk _ (by omega)).trans (by simp [go_sem])))
  have F4 : w5.blk (w.heap.size + 1 + 1) = some (.cells (patCs zeroP) 28 (0, 0)) := (hb5.block _ (by simp; omega)).trans ((blk_alloc_lt (by omega)).trans ((hblk _ (by omega)).trans (by simp [go_sem])))
  have F6 : w5.cell? ⟨w4.heap.size, 0, none⟩ = some (.slice A' d.length c') := (hb5.cell (p := ⟨w4.heap.size, 0, none⟩) (by simp)).trans (by simp [go_sem])
  have HB5 : Hid (Below w.heap.size w w5) := Lib.hid (HB0.out.trans (((HB4.out.alloc HB4.out.size _).trans (hb5.mono (by have := HB4.out.size; simp at this ⊢; omega))).mono HB0.out.size))
  have HR5 := Lib.hid (HR.out.below HB5.out)
  have HD5 := Lib.hid (HR'.out.below (((Below.refl _ _).alloc (Nat.le_refl _) (.cells #[.slice A' d.length c'] 24)).trans (hb5.mono (by simp))))
  clear hb5 hc hf hblk HB4 HR4 HB0 HR'
  have w1 : w.heap.size < w5.heap.size := by omega
  have w2 : w.heap.size + 1 < w5.heap.size := by omega
  have w3 : w.heap.size + 1 + 1 < w5.heap.size := by omega
  have w6 : w4.heap.size < w5.heap.size := by omega
  obtain ⟨b1, o1, rfl, hbs1, c0, c1, c2, c3, c4, c5, c6⟩ := HR5.out.item HY.out
  have hi0 : (0 : Int) ≤ k := by omega
  have hi1 : (k : Int) < l.length := by have := (List.getElem?_eq_some_iff.1 HY.out).1; omega
  have P0 : w5.cell? ⟨w.heap.size + 1, 0, none⟩ = some (.int .i64 p.kind) := cell_of_blk F3 rfl
  have P1 : w5.cell? ⟨w.heap.size + 1, 1, none⟩ = some (vs p.id) := cell_of_blk F3 rfl
  have S8 : ((w5.alloc (.cells #[.int .i64 y.kind, vs y.id, vs y.par, vs y.num, vs y.no, vs y.so, .bool y.gone] 26)).alloc (.cells (patCs ({ bare p with num := y.num })) 28)).blk (w5.heap.size + 1) = some (.cells (patCs ({ bare p with num := y.num })) 28 (0, 0)) := blk_alloc_at (by simp)
  have S4 : ((w5.alloc (.cells #[.int .i64 y.kind, vs y.id, vs y.par, vs y.num, vs y.no, vs y.so, .bool y.gone] 26)).alloc (.cells (patCs ({ bare p with num := y.num })) 28)).blk (w.heap.size + 1 + 1) = some (.cells (patCs zeroP) 28 (0, 0)) := (blk_alloc_lt (by simp; omega)).trans ((blk_alloc_lt (by omega)).trans F4)
  have HBW : Hid (Below w.heap.size w ((w5.alloc (.cells #[.int .i64 y.kind, vs y.id, vs y.par, vs y.num, vs y.no, vs y.so, .bool y.gone] 26)).alloc (.cells (patCs ({ bare p with num := y.num })) 28))) := Lib.hid ((HB5.out.alloc HB5.out.size _).alloc (by have := HB5.out.size; simp; omega) _)
  have HS4 := Lib.hid S4
  have HROW := Lib.hid (blk_setRow_at (D := patCs ({ bare p with num := y.num })) S4)
  clear S4
  simp only [patCs, bare] at S8
  go_wp2_with (refine wpList_store_pat rfl (.tmp 4) (.tmp 116) rfl (w.heap.size + 1 + 1) ({ bare p with num := y.num }) zeroP rfl rfl HS4.out ?_)
  refine bodyPost_ret (v := .tuple #[({ bare p with num := y.num } : Patch).agg, .int .i64 0]) (rresults_pat rfl rfl HROW.out) rfl ⟨rfl, ?_⟩
  exact below_setRow HBW.out (by omega) _
set_option maxRecDepth 20000 in
set_option maxHeartbeats 4000000 in
theorem rinv_5 (l : List Item) (A : Option Addr) (c : Nat) (p : Patch) (w : World) (hr : RdI w A l) (hl : l.length ≤ 100000) (hlc : l.length ≤ c) (hsh : ∀ x ∈ l, x.Short) (hrd : p.RReady) (he : (applyF l p).2 = 0) (hk : p.kind = 5) : RInverts l A c p w := by
  have hk1 : (p.kind == 1) = false := by simp [hk]
  have hk2 : (p.kind == 2) = false := by simp [hk]
  have hk3 : (p.kind == 3) = false := by simp [hk]
  have hk4 : (p.kind == 4) = false := by simp [hk]
  have hk5 : (p.kind == 5) = true := by simp [hk]
  have hk6 : (p.kind == 6) = false := by simp [hk]
  have hk7 : (p.kind == 7) = false := by simp [hk]
  obtain ⟨hwb, k, y, hf1, hf2, hf3⟩ := inv_found he (by omega)
  have hi : invertF l p = ({ bare p with kind := 6 }, 0) := by unfold invertF backF; rw [if_pos he]; simp [hk, hf3]
  clear hk hf3 hwb
  unfold RInverts
  rw [hi]
  clear hi
  obtain ⟨d, hd⟩ : ∃ d, (applyF l p).1 = d := ⟨_, rfl⟩
  have HF := Lib.hid hf1; clear hf1
  have HY := Lib.hid hf2; clear hf2
  have hb0 := (((Below.refl w.heap.size w).alloc (Nat.le_refl _) (.cells #[.slice A l.length c] 24)).alloc (by simp) (.cells (patCs p) 28)).alloc (by simp; omega) (.cells (patCs zeroP) 28)
  have HB0 := Lib.hid hb0; clear hb0
  have HR := Lib.hid hr; clear hr
  have HD := Lib.hid hd; clear hd
  have HE := Lib.hid he; clear he
  go_enter Try.func26, Try.ntmps26
  go_wp2_with fail
  refine (rapply_lit HD.out HE.out A c _ (HR.out.below HB0.out) (by omega) hlc hsh hrd).mono ?_
  rintro e w4 ⟨v, rfl, ⟨A', c', rfl, hr', hlc', hA'⟩, hb2⟩
  obtain ⟨hc, hf⟩ := bcell hb2
  have hblk := bblk hb2
  simp at hc hf hblk
  have hz4 := hb2.size
  simp at hz4
  have HB4 := Lib.hid hb2; clear hb2
  have HR4 := Lib.hid ((HR.out.below HB0.out).below HB4.out)
  have HR' := Lib.hid hr'; clear hr'
  have z1 : w.heap.size < w4.heap.size := by omega
  have z2 : w.heap.size + 1 < w4.heap.size := by omega
  have z3 : w.heap.size + 1 + 1 < w4.heap.size := by omega
  go_wp2_with fail
  refine (rfind_at HF.out A c _ (HR4.out.below ((Below.refl _ _).alloc (Nat.le_refl _) _)) (le_maxLen (by omega))).mono ?_
  rintro e w5 ⟨rfl, hb5⟩
  have hz5 := hb5.size
  simp at hz5
  have F2 : w5.cell? ⟨w.heap.size, 0, none⟩ = some (.slice A l.length c) := (hb5.cell (p := ⟨w.heap.size, 0, none⟩) (by simp; omega)).trans (by simp [go_sem, z1, hc])
  have F3 : w5.blk (w.heap.size + 1) = some (.cells (patCs p) 28 (0, 0)) := (hb5.block _ (by simp; omega)).trans ((blk_alloc_lt (by omega)).trans ((hblk _ (by omega)).trans (by simp [go_sem])))
  have F4 : w5.blk (w.heap.size + 1 + 1) = some (.cells (patCs zeroP) 28 (0, 0)) := (hb5.block _ (by simp; omega)).trans ((blk_alloc_lt (by omega)).trans ((hblk _ (by omega)).trans (by simp [go_sem])))
  have F6 : w5.cell? ⟨w4.heap.size, 0, none⟩ = some (.slice A' d.length c') := (hb5.cell (p := ⟨w4.heap.size, 0, none⟩) (by simp)).trans (by simp [go_sem])
  have HB5 : Hid (Below w.heap.size w w5) := Lib.hid (HB0.out.trans (((HB4.out.alloc HB4.out.size _).trans (hb5.mono (by have := HB4.out.size; simp at this ⊢; omega))).mono HB0.out.size))
  have HR5 := Lib.hid (HR.out.below HB5.out)
  have HD5 := Lib.hid (HR'.out.below (((Below.refl _ _).alloc (Nat.le_refl _) (.cells #[.slice A' d.length c'] 24)).trans (hb5.mono (by simp))))
  clear hb5 hc hf hblk HB4 HR4 HB0 HR'
  have w1 : w.heap.size < w5.heap.size := by omega
  have w2 : w.heap.size + 1 < w5.heap.size := by omega
  have w3 : w.heap.size + 1 + 1 < w5.heap.size := by omega
  have w6 : w4.heap.size < w5.heap.size := by omega
  obtain ⟨b1, o1, rfl, hbs1, c0, c1, c2, c3, c4, c5, c6⟩ := HR5.out.item HY.out
  have hi0 : (0 : Int) ≤ k := by omega
  have hi1 : (k : Int) < l.length := by have := (List.getElem?_eq_some_iff.1 HY.out).1; omega
  have P0 : w5.cell? ⟨w.heap.size + 1, 0, none⟩ = some (.int .i64 p.kind) := cell_of_blk F3 rfl
  have P1 : w5.cell? ⟨w.heap.size + 1, 1, none⟩ = some (vs p.id) := cell_of_blk F3 rfl
  have S8 : ((w5.alloc (.cells #[.int .i64 y.kind, vs y.id, vs y.par, vs y.num, vs y.no, vs y.so, .bool y.gone] 26)).alloc (.cells (patCs ({ bare p with kind := 6 })) 28)).blk (w5.heap.size + 1) = some (.cells (patCs ({ bare p with kind := 6 })) 28 (0, 0)) := blk_alloc_at (by simp)
  have S4 : ((w5.alloc (.cells #[.int .i64 y.kind, vs y.id, vs y.par, vs y.num, vs y.no, vs y.so, .bool y.gone] 26)).alloc (.cells (patCs ({ bare p with kind := 6 })) 28)).blk (w.heap.size + 1 + 1) = some (.cells (patCs zeroP) 28 (0, 0)) := (blk_alloc_lt (by simp; omega)).trans ((blk_alloc_lt (by omega)).trans F4)
  have HBW : Hid (Below w.heap.size w ((w5.alloc (.cells #[.int .i64 y.kind, vs y.id, vs y.par, vs y.num, vs y.no, vs y.so, .bool y.gone] 26)).alloc (.cells (patCs ({ bare p with kind := 6 })) 28))) := Lib.hid ((HB5.out.alloc HB5.out.size _).alloc (by have := HB5.out.size; simp; omega) _)
  have HS4 := Lib.hid S4
  have HROW := Lib.hid (blk_setRow_at (D := patCs ({ bare p with kind := 6 })) S4)
  clear S4
  simp only [patCs, bare] at S8
  go_wp2_with (refine wpList_store_pat rfl (.tmp 4) (.tmp 116) rfl (w.heap.size + 1 + 1) ({ bare p with kind := 6 }) zeroP rfl rfl HS4.out ?_)
  refine bodyPost_ret (v := .tuple #[({ bare p with kind := 6 } : Patch).agg, .int .i64 0]) (rresults_pat rfl rfl HROW.out) rfl ⟨rfl, ?_⟩
  exact below_setRow HBW.out (by omega) _
set_option maxRecDepth 20000 in
set_option maxHeartbeats 4000000 in
theorem rinv_6 (l : List Item) (A : Option Addr) (c : Nat) (p : Patch) (w : World) (hr : RdI w A l) (hl : l.length ≤ 100000) (hlc : l.length ≤ c) (hsh : ∀ x ∈ l, x.Short) (hrd : p.RReady) (he : (applyF l p).2 = 0) (hk : p.kind = 6) : RInverts l A c p w := by
  have hk1 : (p.kind == 1) = false := by simp [hk]
  have hk2 : (p.kind == 2) = false := by simp [hk]
  have hk3 : (p.kind == 3) = false := by simp [hk]
  have hk4 : (p.kind == 4) = false := by simp [hk]
  have hk5 : (p.kind == 5) = false := by simp [hk]
  have hk6 : (p.kind == 6) = true := by simp [hk]
  have hk7 : (p.kind == 7) = false := by simp [hk]
  obtain ⟨hwb, k, y, hf1, hf2, hf3⟩ := inv_found he (by omega)
  have hi : invertF l p = ({ bare p with kind := 5 }, 0) := by unfold invertF backF; rw [if_pos he]; simp [hk, hf3]
  clear hk hf3 hwb
  unfold RInverts
  rw [hi]
  clear hi
  obtain ⟨d, hd⟩ : ∃ d, (applyF l p).1 = d := ⟨_, rfl⟩
  have HF := Lib.hid hf1; clear hf1
  have HY := Lib.hid hf2; clear hf2
  have hb0 := (((Below.refl w.heap.size w).alloc (Nat.le_refl _) (.cells #[.slice A l.length c] 24)).alloc (by simp) (.cells (patCs p) 28)).alloc (by simp; omega) (.cells (patCs zeroP) 28)
  have HB0 := Lib.hid hb0; clear hb0
  have HR := Lib.hid hr; clear hr
  have HD := Lib.hid hd; clear hd
  have HE := Lib.hid he; clear he
  go_enter Try.func26, Try.ntmps26
  go_wp2_with fail
  refine (rapply_lit HD.out HE.out A c _ (HR.out.below HB0.out) (by omega) hlc hsh hrd).mono ?_
  rintro e w4 ⟨v, rfl, ⟨A', c', rfl, hr', hlc', hA'⟩, hb2⟩
  obtain ⟨hc, hf⟩ := bcell hb2
  have hblk := bblk hb2
  simp at hc hf hblk
  have hz4 := hb2.size
  simp at hz4
  have HB4 := Lib.hid hb2; clear hb2
  have HR4 := Lib.hid ((HR.out.below HB0.out).below HB4.out)
  have HR' := Lib.hid hr'; clear hr'
  have z1 : w.heap.size < w4.heap.size := by omega
  have z2 : w.heap.size + 1 < w4.heap.size := by omega
  have z3 : w.heap.size + 1 + 1 < w4.heap.size := by omega
  go_wp2_with fail
  refine (rfind_at HF.out A c _ (HR4.out.below ((Below.refl _ _).alloc (Nat.le_refl _) _)) (le_maxLen (by omega))).mono ?_
  rintro e w5 ⟨rfl, hb5⟩
  have hz5 := hb5.size
  simp at hz5
  have F2 : w5.cell? ⟨w.heap.size, 0, none⟩ = some (.slice A l.length c) := (hb5.cell (p := ⟨w.heap.size, 0, none⟩) (by simp; omega)).trans (by simp [go_sem, z1, hc])
  have F3 : w5.blk (w.heap.size + 1) = some (.cells (patCs p) 28 (0, 0)) := (hb5.block _ (by simp; omega)).trans ((blk_alloc_lt (by omega)).trans ((hblk _ (by omega)).trans (by simp [go_sem])))
  have F4 : w5.blk (w.heap.size + 1 + 1) = some (.cells (patCs zeroP) 28 (0, 0)) := (hb5.block _ (by simp; omega)).trans ((blk_alloc_lt (by omega)).trans ((hblk _ (by omega)).trans (by simp [go_sem])))
  have F6 : w5.cell? ⟨w4.heap.size, 0, none⟩ = some (.slice A' d.length c') := (hb5.cell (p := ⟨w4.heap.size, 0, none⟩) (by simp)).trans (by simp [go_sem])
  have HB5 : Hid (Below w.heap.size w w5) := Lib.hid (HB0.out.trans (((HB4.out.alloc HB4.out.size _).trans (hb5.mono (by have := HB4.out.size; simp at this ⊢; omega))).mono HB0.out.size))
  have HR5 := Lib.hid (HR.out.below HB5.out)
  have HD5 := Lib.hid (HR'.out.below (((Below.refl _ _).alloc (Nat.le_refl _) (.cells #[.slice A' d.length c'] 24)).trans (hb5.mono (by simp))))
  clear hb5 hc hf hblk HB4 HR4 HB0 HR'
  have w1 : w.heap.size < w5.heap.size := by omega
  have w2 : w.heap.size + 1 < w5.heap.size := by omega
  have w3 : w.heap.size + 1 + 1 < w5.heap.size := by omega
  have w6 : w4.heap.size < w5.heap.size := by omega
  obtain ⟨b1, o1, rfl, hbs1, c0, c1, c2, c3, c4, c5, c6⟩ := HR5.out.item HY.out
  have hi0 : (0 : Int) ≤ k := by omega
  have hi1 : (k : Int) < l.length := by have := (List.getElem?_eq_some_iff.1 HY.out).1; omega
  have P0 : w5.cell? ⟨w.heap.size + 1, 0, none⟩ = some (.int .i64 p.kind) := cell_of_blk F3 rfl
  have P1 : w5.cell? ⟨w.heap.size + 1, 1, none⟩ = some (vs p.id) := cell_of_blk F3 rfl
  have S8 : ((w5.alloc (.cells #[.int .i64 y.kind, vs y.id, vs y.par, vs y.num, vs y.no, vs y.so, .bool y.gone] 26)).alloc (.cells (patCs ({ bare p with kind := 5 })) 28)).blk (w5.heap.size + 1) = some (.cells (patCs ({ bare p with kind := 5 })) 28 (0, 0)) := blk_alloc_at (by simp)
  have S4 : ((w5.alloc (.cells #[.int .i64 y.kind, vs y.id, vs y.par, vs y.num, vs y.no, vs y.so, .bool y.gone] 26)).alloc (.cells (patCs ({ bare p with kind := 5 })) 28)).blk (w.heap.size + 1 + 1) = some (.cells (patCs zeroP) 28 (0, 0)) := (blk_alloc_lt (by simp; omega)).trans ((blk_alloc_lt (by omega)).trans F4)
  have HBW : Hid (Below w.heap.size w ((w5.alloc (.cells #[.int .i64 y.kind, vs y.id, vs y.par, vs y.num, vs y.no, vs y.so, .bool y.gone] 26)).alloc (.cells (patCs ({ bare p with kind := 5 })) 28))) := Lib.hid ((HB5.out.alloc HB5.out.size _).alloc (by have := HB5.out.size; simp; omega) _)
  have HS4 := Lib.hid S4
  have HROW := Lib.hid (blk_setRow_at (D := patCs ({ bare p with kind := 5 })) S4)
  clear S4
  simp only [patCs, bare] at S8
  go_wp2_with (refine wpList_store_pat rfl (.tmp 4) (.tmp 116) rfl (w.heap.size + 1 + 1) ({ bare p with kind := 5 }) zeroP rfl rfl HS4.out ?_)
  refine bodyPost_ret (v := .tuple #[({ bare p with kind := 5 } : Patch).agg, .int .i64 0]) (rresults_pat rfl rfl HROW.out) rfl ⟨rfl, ?_⟩
  exact below_setRow HBW.out (by omega) _
set_option maxRecDepth 20000 in
set_option maxHeartbeats 4000000 in
theorem rinv_7 (l : List Item) (A : Option Addr) (c : Nat) (p : Patch) (w : World) (hr : RdI w A l) (hl : l.length ≤ 100000) (hlc : l.length ≤ c) (hsh : ∀ x ∈ l, x.Short) (hrd : p.RReady) (he : (applyF l p).2 = 0) (hk : p.kind = 7) : RInverts l A c p w := by
  have hk1 : (p.kind == 1) = false := by simp [hk]
  have hk2 : (p.kind == 2) = false := by simp [hk]
  have hk3 : (p.kind == 3) = false := by simp [hk]
  have hk4 : (p.kind == 4) = false := by simp [hk]
  have hk5 : (p.kind == 5) = false := by simp [hk]
  have hk6 : (p.kind == 6) = false := by simp [hk]
  have hk7 : (p.kind == 7) = true := by simp [hk]
  obtain ⟨hwb, k, y, hf1, hf2, hf3⟩ := inv_found he (by omega)
  have hi : invertF l p = ({ bare p with item := { noItem with no := y.no, so := y.so } }, 0) := by unfold invertF backF; rw [if_pos he]; simp [hk, hf3]
  clear hk hf3 hwb
  unfold RInverts
  rw [hi]
  clear hi
  obtain ⟨d, hd⟩ : ∃ d, (applyF l p).1 = d := ⟨_, rfl⟩
  have HF := Lib.hid hf1; clear hf1
  have HY := Lib.hid hf2; clear hf2
  have hb0 := (((Below.refl w.heap.size w).alloc (Nat.le_refl _) (.cells #[.slice A l.length c] 24)).alloc (by simp) (.cells (patCs p) 28)).alloc (by simp; omega) (.cells (patCs zeroP) 28)
  have HB0 := Lib.hid hb0; clear hb0
  have HR := Lib.hid hr; clear hr
  have HD := Lib.hid hd; clear hd
  have HE := Lib.hid he; clear he
  go_enter Try.func26, Try.ntmps26
  go_wp2_with fail
  refine (rapply_lit HD.out HE.out A c _ (HR.out.below HB0.out) (by omega) hlc hsh hrd).mono ?_
  rintro e w4 ⟨v, rfl, ⟨A', c', rfl, hr', hlc', hA'⟩, hb2⟩
  obtain ⟨hc, hf⟩ := bcell hb2
  have hblk := bblk hb2
  simp at hc hf hblk
  have hz4 := hb2.size
  simp at hz4
  have HB4 := Lib.hid hb2; clear hb2
  have HR4 := Lib.hid ((HR.out.below HB0.out).below HB4.out)
  have HR' := Lib.hid hr'; clear hr'
  have z1 : w.heap.size < w4.heap.size := by omega
  have z2 : w.heap.size + 1 < w4.heap.size := by omega
  have z3 : w.heap.size + 1 + 1 < w4.heap.size := by omega
  go_wp2_with fail
  refine (rfind_at HF.out A c _ (HR4.out.below ((Below.refl _ _).alloc (Nat.le_refl _) _)) (le_maxLen (by omega))).mono ?_
  rintro e w5 ⟨rfl, hb5⟩
  have hz5 := hb5.size
  simp at hz5
  have F2 : w5.cell? ⟨w.heap.size, 0, none⟩ = some (.slice A l.length c) := (hb5.cell (p := ⟨w.heap.size, 0, none⟩) (by simp; omega)).trans (by simp [go_sem, z1, hc])
  have F3 : w5.blk (w.heap.size + 1) = some (.cells (patCs p) 28 (0, 0)) := (hb5.block _ (by simp; omega)).trans ((blk_alloc_lt (by omega)).trans ((hblk _ (by omega)).trans (by simp [go_sem])))
  have F4 : w5.blk (w.heap.size + 1 + 1) = some (.cells (patCs zeroP) 28 (0, 0)) := (hb5.block _ (by simp; omega)).trans ((blk_alloc_lt (by omega)).trans ((hblk _ (by omega)).trans (by simp [go_sem])))
  have F6 : w5.cell? ⟨w4.heap.size, 0, none⟩ = some (.slice A' d.length c') := (hb5.cell (p := ⟨w4.heap.size, 0, none⟩) (by simp)).trans (by simp [go_sem])
  have HB5 : Hid (Below w.heap.size w w5) := Lib.hid (HB0.out.trans (((HB4.out.alloc HB4.out.size _).trans (hb5.mono (by have := HB4.out.size; simp at this ⊢; omega))).mono HB0.out.size))
  have HR5 := Lib.hid (HR.out.below HB5.out)
  have HD5 := Lib.hid (HR'.out.below (((Below.refl _ _).alloc (Nat.le_refl _) (.cells #[.slice A' d.length c'] 24)).trans (hb5.mono (by simp))))
  clear hb5 hc hf hblk HB4 HR4 HB0 HR'
  have w1 : w.heap.size < w5.heap.size := by omega
  have w2 : w.heap.size + 1 < w5.heap.size := by omega
  have w3 : w.heap.size + 1 + 1 < w5.heap.size := by omega
  have w6 : w4.heap.size < w5.heap.size := by omega
  obtain ⟨b1, o1, rfl, hbs1, c0, c1, c2, c3, c4, c5, c6⟩ := HR5.out.item HY.out
  have hi0 : (0 : Int) ≤ k := by omega
  have hi1 : (k : Int) < l.length := by have := (List.getElem?_eq_some_iff.1 HY.out).1; omega
  have P0 : w5.cell? ⟨w.heap.size + 1, 0, none⟩ = some (.int .i64 p.kind) := cell_of_blk F3 rfl
  have P1 : w5.cell? ⟨w.heap.size + 1, 1, none⟩ = some (vs p.id) := cell_of_blk F3 rfl
  have S8 : ((w5.alloc (.cells #[.int .i64 y.kind, vs y.id, vs y.par, vs y.num, vs y.no, vs y.so, .bool y.gone] 26)).alloc (.cells (patCs ({ bare p with item := { noItem with no := y.no, so := y.so } })) 28)).blk (w5.heap.size + 1) = some (.cells (patCs ({ bare p with item := { noItem with no := y.no, so := y.so } })) 28 (0, 0)) := blk_alloc_at (by simp)
  have S4 : ((w5.alloc (.cells #[.int .i64 y.kind, vs y.id, vs y.par, vs y.num, vs y.no, vs y.so, .bool y.gone] 26)).alloc (.cells (patCs ({ bare p with item := { noItem with no := y.no, so := y.so } })) 28)).blk (w.heap.size + 1 + 1) = some (.cells (patCs zeroP) 28 (0, 0)) := (blk_alloc_lt (by simp; omega)).trans ((blk_alloc_lt (by omega)).trans F4)
  have HBW : Hid (Below w.heap.size w ((w5.alloc (.cells #[.int .i64 y.kind, vs y.id, vs y.par, vs y.num, vs y.no, vs y.so, .bool y.gone] 26)).alloc (.cells (patCs ({ bare p with item := { noItem with no := y.no, so := y.so } })) 28))) := Lib.hid ((HB5.out.alloc HB5.out.size _).alloc (by have := HB5.out.size; simp; omega) _)
  have HS4 := Lib.hid S4
  have HROW := Lib.hid (blk_setRow_at (D := patCs ({ bare p with item := { noItem with no := y.no, so := y.so } })) S4)
  clear S4
  simp only [patCs, bare] at S8
  go_wp2_with (refine wpList_store_pat rfl (.tmp 4) (.tmp 116) rfl (w.heap.size + 1 + 1) ({ bare p with item := { noItem with no := y.no, so := y.so } }) zeroP rfl rfl HS4.out ?_)
  refine bodyPost_ret (v := .tuple #[({ bare p with item := { noItem with no := y.no, so := y.so } } : Patch).agg, .int .i64 0]) (rresults_pat rfl rfl HROW.out) rfl ⟨rfl, ?_⟩
  exact below_setRow HBW.out (by omega) _
end Go.Proofs.Ytkdcenbommhnoaa
namespace Go.Proofs.Ytkdcenbommhnoaa
open Go.RowKit
set_option maxRecDepth 20000 in
set_option maxHeartbeats 4000000 in
theorem rinv_2a1 (l : List Item) (A : Option Addr) (c : Nat) (p : Patch) (w : World) (hr : RdI w A l) (hl : l.length ≤ 100000) (hlc : l.length ≤ c) (hsh : ∀ x ∈ l, x.Short) (hrd : p.RReady) (he : (applyF l p).2 = 0) (hk : p.kind = 2) (k : Nat) (y z : Item) (hf1 : findI l p.id = k) (hf2 : l[k]? = some y) (hz1 : (applyF l p).1[k]? = some z) (hz2 : itemF (applyF l p).1 p.id = z) (hz3 : z.no.length ≤ 400) (hz4 : z.so.length ≤ 400) (hla : p.lang = 1) (ho : onceIs z.no p.to = false) (hto : p.to ≠ []) : RInverts l A c p w := by
  have hk1 : (p.kind == 1) = false := by simp [hk]
  have hk2 : (p.kind == 2) = true := by simp [hk]
  have hk3 : (p.kind == 3) = false := by simp [hk]
  have hk4 : (p.kind == 4) = false := by simp [hk]
  have hk5 : (p.kind == 5) = false := by simp [hk]
  have hk6 : (p.kind == 6) = false := by simp [hk]
  have hk7 : (p.kind == 7) = false := by simp [hk]
  have hi : invertF l p = (zeroP, 15) := by
    unfold invertF backF
    rw [if_pos he, if_neg (by omega), if_pos hk, hz2]
    unfold wordsText
    rw [if_pos hla, if_pos (.inl ho)]
  have htx := Lib.hid (show (if p.lang = 1 then z.no else z.so) = z.no by rw [if_pos hla])
  clear hk hla hz2
  obtain ⟨n1, n2, n3⟩ : (p.to == []) = false ∧ (p.to != []) = true ∧ p.to.isEmpty = false := ⟨by simpa using hto, by simpa using hto, by simpa using hto⟩
  clear hto
  have hti : Hid (((timesL z.no p.to : Int) != 1) = true) := Lib.hid (by have := once_times z.no p.to; rw [ho] at this; have := this.symm; simp at this ⊢; omega)
  unfold RInverts
  rw [hi]
  clear hi
  obtain ⟨d, hd⟩ : ∃ d, (applyF l p).1 = d := ⟨_, rfl⟩
  rw [hd] at hz1
  have HZ := Lib.hid hz1; clear hz1
  clear ho
  have HF := Lib.hid hf1; clear hf1
  have HY := Lib.hid hf2; clear hf2
  have hb0 := (((Below.refl w.heap.size w).alloc (Nat.le_refl _) (.cells #[.slice A l.length c] 24)).alloc (by simp) (.cells (patCs p) 28)).alloc (by simp; omega) (.cells (patCs zeroP) 28)
  have HB0 := Lib.hid hb0; clear hb0
  have HR := Lib.hid hr; clear hr
  have HD := Lib.hid hd; clear hd
  have HE := Lib.hid he; clear he
  go_enter Try.func26, Try.ntmps26
  go_wp2_with fail
  refine (rapply_lit HD.out HE.out A c _ (HR.out.below HB0.out) (by omega) hlc hsh hrd).mono ?_
  rintro e w4 ⟨v, rfl, ⟨A', c', rfl, hr', hlc', hA'⟩, hb2⟩
  obtain ⟨hc, hf⟩ := bcell hb2
  have hblk := bblk hb2
  simp at hc hf hblk
  have hz4 := hb2.size
  simp at hz4
  have HB4 := Lib.hid hb2; clear hb2
  have HR4 := Lib.hid ((HR.out.below HB0.out).below HB4.out)
  have HR' := Lib.hid hr'; clear hr'
  have z1 : w.heap.size < w4.heap.size := by omega
  have z2 : w.heap.size + 1 < w4.heap.size := by omega
  have z3 : w.heap.size + 1 + 1 < w4.heap.size := by omega
  go_wp2_with fail
  refine (rfind_at HF.out A c _ (HR4.out.below ((Below.refl _ _).alloc (Nat.le_refl _) _)) (le_maxLen (by omega))).mono ?_
  rintro e w5 ⟨rfl, hb5⟩
  have hz5 := hb5.size
  simp at hz5
  have F2 : w5.cell? ⟨w.heap.size, 0, none⟩ = some (.slice A l.length c) := (hb5.cell (p := ⟨w.heap.size, 0, none⟩) (by simp; omega)).trans (by simp [go_sem, z1, hc])
  have F3 : w5.blk (w.heap.size + 1) = some (.cells (patCs p) 28 (0, 0)) := (hb5.block _ (by simp; omega)).trans ((blk_alloc_lt (by omega)).trans ((hblk _ (by omega)).trans (by simp [go_sem])))
  have F4 : w5.blk (w.heap.size + 1 + 1) = some (.cells (patCs zeroP) 28 (0, 0)) := (hb5.block _ (by simp; omega)).trans ((blk_alloc_lt (by omega)).trans ((hblk _ (by omega)).trans (by simp [go_sem])))
  have F6 : w5.cell? ⟨w4.heap.size, 0, none⟩ = some (.slice A' d.length c') := (hb5.cell (p := ⟨w4.heap.size, 0, none⟩) (by simp)).trans (by simp [go_sem])
  have HB5 : Hid (Below w.heap.size w w5) := Lib.hid (HB0.out.trans (((HB4.out.alloc HB4.out.size _).trans (hb5.mono (by have := HB4.out.size; simp at this ⊢; omega))).mono HB0.out.size))
  have HR5 := Lib.hid (HR.out.below HB5.out)
  have HD5 := Lib.hid (HR'.out.below (((Below.refl _ _).alloc (Nat.le_refl _) (.cells #[.slice A' d.length c'] 24)).trans (hb5.mono (by simp))))
  clear hb5 hc hf hblk HB4 HR4 HB0 HR'
  have w1 : w.heap.size < w5.heap.size := by omega
  have w2 : w.heap.size + 1 < w5.heap.size := by omega
  have w3 : w.heap.size + 1 + 1 < w5.heap.size := by omega
  have w6 : w4.heap.size < w5.heap.size := by omega
  obtain ⟨b1, o1, rfl, hbs1, c0, c1, c2, c3, c4, c5, c6⟩ := HR5.out.item HY.out
  have hi0 : (0 : Int) ≤ k := by omega
  have hi1 : (k : Int) < l.length := by have := (List.getElem?_eq_some_iff.1 HY.out).1; omega
  have P0 : w5.cell? ⟨w.heap.size + 1, 0, none⟩ = some (.int .i64 p.kind) := cell_of_blk F3 rfl
  have P1 : w5.cell? ⟨w.heap.size + 1, 1, none⟩ = some (vs p.id) := cell_of_blk F3 rfl
  have P6 : w5.cell? ⟨w.heap.size + 1, 12, none⟩ = some (.int .i64 p.lang) := cell_of_blk F3 rfl
  have P7 : w5.cell? ⟨w.heap.size + 1, 13, none⟩ = some (vs p.fr) := cell_of_blk F3 rfl
  have P8 : w5.cell? ⟨w.heap.size + 1, 14, none⟩ = some (vs p.to) := cell_of_blk F3 rfl
  obtain ⟨b2, o2, rfl, hbs2, d0, d1, d2, d3, d4, d5, d6⟩ := HD5.out.item HZ.out
  have hi2 : (k : Int) < d.length := by have := (List.getElem?_eq_some_iff.1 HZ.out).1; omega
  have S8 : ((w5.alloc (.cells #[.int .i64 y.kind, vs y.id, vs y.par, vs y.num, vs y.no, vs y.so, .bool y.gone] 26)).alloc (.cells (patCs (⟨p.kind, p.id, [], [], [], noItem, p.lang, p.to, p.fr⟩)) 28)).blk (w5.heap.size + 1) = some (.cells (patCs (⟨p.kind, p.id, [], [], [], noItem, p.lang, p.to, p.fr⟩)) 28 (0, 0)) := blk_alloc_at (by simp)
  have S4 : ((w5.alloc (.cells #[.int .i64 y.kind, vs y.id, vs y.par, vs y.num, vs y.no, vs y.so, .bool y.gone] 26)).alloc (.cells (patCs (⟨p.kind, p.id, [], [], [], noItem, p.lang, p.to, p.fr⟩)) 28)).blk (w.heap.size + 1 + 1) = some (.cells (patCs zeroP) 28 (0, 0)) := (blk_alloc_lt (by simp; omega)).trans ((blk_alloc_lt (by omega)).trans F4)
  have HBW : Hid (Below w.heap.size w ((w5.alloc (.cells #[.int .i64 y.kind, vs y.id, vs y.par, vs y.num, vs y.no, vs y.so, .bool y.gone] 26)).alloc (.cells (patCs (⟨p.kind, p.id, [], [], [], noItem, p.lang, p.to, p.fr⟩)) 28))) := Lib.hid ((HB5.out.alloc HB5.out.size _).alloc (by have := HB5.out.size; simp; omega) _)
  have HS4 := Lib.hid S4
  have HS8 := Lib.hid S8
  clear S4 S8
  have x6 : w4.heap.size < w5.heap.size + 1 + 1 := by omega
  have x2 : b2 < w5.heap.size + 1 + 1 := by omega
  have x3 : w.heap.size + 1 < w5.heap.size + 1 + 1 := by omega
  go_wp2_with fail
  refine wp_region_grew (by kernel_rfl) (by as_aux_lemma => kernel_rfl) ?_
  repeat (go_big_quiet_step ((first | exact Calls_grew (rtext_at htx.out _) | exact Calls_grew ((rtimes_any z.no p.to _ (by omega) (by have := hrd.tlen; omega)).mono (fun e w' h => ⟨h.1, by rw [h.2]; exact Below.refl _ _⟩)))))
  refine wpQuiet_nil ?_
  rintro _ ⟨wx, rfl⟩
  generalize hX : World.grew _ wx = X
  have hg : Below ((w5.alloc (.cells #[.int .i64 y.kind, vs y.id, vs y.par, vs y.num, vs y.no, vs y.so, .bool y.gone] 26)).alloc (.cells (patCs (⟨p.kind, p.id, [], [], [], noItem, p.lang, p.to, p.fr⟩)) 28)).heap.size ((w5.alloc (.cells #[.int .i64 y.kind, vs y.id, vs y.par, vs y.num, vs y.no, vs y.so, .bool y.gone] 26)).alloc (.cells (patCs (⟨p.kind, p.id, [], [], [], noItem, p.lang, p.to, p.fr⟩)) 28)) X := by rw [← hX]; exact grew_below ((w5.alloc (.cells #[.int .i64 y.kind, vs y.id, vs y.par, vs y.num, vs y.no, vs y.so, .bool y.gone] 26)).alloc (.cells (patCs (⟨p.kind, p.id, [], [], [], noItem, p.lang, p.to, p.fr⟩)) 28)) wx
  clear hX
  have S4 : X.blk (w.heap.size + 1 + 1) = some (.cells (patCs zeroP) 28 (0, 0)) := (hg.block _ (by simp; omega)).trans HS4.out
  have HBG := Lib.hid (HBW.out.trans (hg.mono HBW.out.size))
  have HROW := Lib.hid (blk_setRow_at (D := patCs zeroP) S4)
  have HG4 := Lib.hid S4
  clear S4 hg
  have hti := hti.out
  go_wp2_with (refine wpList_store_pat rfl (.tmp 4) (.tmp 78) rfl (w.heap.size + 1 + 1) zeroP zeroP rfl rfl HG4.out ?_)
  refine bodyPost_ret (v := .tuple #[zeroP.agg, .int .i64 15]) (rresults_pat rfl rfl HROW.out) rfl ⟨rfl, ?_⟩
  exact below_setRow HBG.out (by omega) _
set_option maxRecDepth 20000 in
set_option maxHeartbeats 4000000 in
theorem rinv_2b1 (l : List Item) (A : Option Addr) (c : Nat) (p : Patch) (w : World) (hr : RdI w A l) (hl : l.length ≤ 100000) (hlc : l.length ≤ c) (hsh : ∀ x ∈ l, x.Short) (hrd : p.RReady) (he : (applyF l p).2 = 0) (hk : p.kind = 2) (k : Nat) (y z : Item) (hf1 : findI l p.id = k) (hf2 : l[k]? = some y) (hz1 : (applyF l p).1[k]? = some z) (hz2 : itemF (applyF l p).1 p.id = z) (hz3 : z.no.length ≤ 400) (hz4 : z.so.length ≤ 400) (hla : p.lang = 1) (hto : p.to = []) : RInverts l A c p w := by
  have hk1 : (p.kind == 1) = false := by simp [hk]
  have hk2 : (p.kind == 2) = true := by simp [hk]
  have hk3 : (p.kind == 3) = false := by simp [hk]
  have hk4 : (p.kind == 4) = false := by simp [hk]
  have hk5 : (p.kind == 5) = false := by simp [hk]
  have hk6 : (p.kind == 6) = false := by simp [hk]
  have hk7 : (p.kind == 7) = false := by simp [hk]
  have hi : invertF l p = (zeroP, 15) := by
    unfold invertF backF
    rw [if_pos he, if_neg (by omega), if_pos hk, hz2]
    unfold wordsText
    rw [if_pos (.inr hto)]
  have htx := Lib.hid (show (if p.lang = 1 then z.no else z.so) = z.no by rw [if_pos hla])
  clear hk hla hz2
  obtain ⟨n1, n2, n3⟩ : (p.to == []) = true ∧ (p.to != []) = false ∧ p.to.isEmpty = true := by rw [hto]; exact ⟨rfl, rfl, rfl⟩
  clear hto
  unfold RInverts
  rw [hi]
  clear hi
  obtain ⟨d, hd⟩ : ∃ d, (applyF l p).1 = d := ⟨_, rfl⟩
  rw [hd] at hz1
  have HZ := Lib.hid hz1; clear hz1
  have HF := Lib.hid hf1; clear hf1
  have HY := Lib.hid hf2; clear hf2
  have hb0 := (((Below.refl w.heap.size w).alloc (Nat.le_refl _) (.cells #[.slice A l.length c] 24)).alloc (by simp) (.cells (patCs p) 28)).alloc (by simp; omega) (.cells (patCs zeroP) 28)
  have HB0 := Lib.hid hb0; clear hb0
  have HR := Lib.hid hr; clear hr
  have HD := Lib.hid hd; clear hd
  have HE := Lib.hid he; clear he
  go_enter Try.func26, Try.ntmps26
  go_wp2_with fail
  refine (rapply_lit HD.out HE.out A c _ (HR.out.below HB0.out) (by omega) hlc hsh hrd).mono ?_
  rintro e w4 ⟨v, rfl, ⟨A', c', rfl, hr', hlc', hA'⟩, hb2⟩
  obtain ⟨hc, hf⟩ := bcell hb2
  have hblk := bblk hb2
  simp at hc hf hblk
  have hz4 := hb2.size
  simp at hz4
  have HB4 := Lib.hid hb2; clear hb2
  have HR4 := Lib.hid ((HR.out.below HB0.out).below HB4.out)
  have HR' := Lib.hid hr'; clear hr'
  have z1 : w.heap.size < w4.heap.size := by omega
  have z2 : w.heap.size + 1 < w4.heap.size := by omega
  have z3 : w.heap.size + 1 + 1 < w4.heap.size := by omega
  go_wp2_with fail
  refine (rfind_at HF.out A c _ (HR4.out.below ((Below.refl _ _).alloc (Nat.le_refl _) _)) (le_maxLen (by omega))).mono ?_
  rintro e w5 ⟨rfl, hb5⟩
  have hz5 := hb5.size
  simp at hz5
  have F2 : w5.cell? ⟨w.heap.size, 0, none⟩ = some (.slice A l.length c) := (hb5.cell (p := ⟨w.heap.size, 0, none⟩) (by simp; omega)).trans (by simp [go_sem, z1, hc])
  have F3 : w5.blk (w.heap.size + 1) = some (.cells (patCs p) 28 (0, 0)) := (hb5.block _ (by simp; omega)).trans ((blk_alloc_lt (by omega)).trans ((hblk _ (by omega)).trans (by simp [go_sem])))
  have F4 : w5.blk (w.heap.size + 1 + 1) = some (.cells (patCs zeroP) 28 (0, 0)) := (hb5.block _ (by simp; omega)).trans ((blk_alloc_lt (by omega)).trans ((hblk _ (by omega)).trans (by simp [go_sem])))
  have F6 : w5.cell? ⟨w4.heap.size, 0, none⟩ = some (.slice A' d.length c') := (hb5.cell (p := ⟨w4.heap.size, 0, none⟩) (by simp)).trans (by simp [go_sem])
  have HB5 : Hid (Below w.heap.size w w5) := Lib.hid (HB0.out.trans (((HB4.out.alloc HB4.out.size _).trans (hb5.mono (by have := HB4.out.size; simp at this ⊢; omega))).mono HB0.out.size))
  have HR5 := Lib.hid (HR.out.below HB5.out)
  have HD5 := Lib.hid (HR'.out.below (((Below.refl _ _).alloc (Nat.le_refl _) (.cells #[.slice A' d.length c'] 24)).trans (hb5.mono (by simp))))
  clear hb5 hc hf hblk HB4 HR4 HB0 HR'
  have w1 : w.heap.size < w5.heap.size := by omega
  have w2 : w.heap.size + 1 < w5.heap.size := by omega
  have w3 : w.heap.size + 1 + 1 < w5.heap.size := by omega
  have w6 : w4.heap.size < w5.heap.size := by omega
  obtain ⟨b1, o1, rfl, hbs1, c0, c1, c2, c3, c4, c5, c6⟩ := HR5.out.item HY.out
  have hi0 : (0 : Int) ≤ k := by omega
  have hi1 : (k : Int) < l.length := by have := (List.getElem?_eq_some_iff.1 HY.out).1; omega
  have P0 : w5.cell? ⟨w.heap.size + 1, 0, none⟩ = some (.int .i64 p.kind) := cell_of_blk F3 rfl
  have P1 : w5.cell? ⟨w.heap.size + 1, 1, none⟩ = some (vs p.id) := cell_of_blk F3 rfl
  have P6 : w5.cell? ⟨w.heap.size + 1, 12, none⟩ = some (.int .i64 p.lang) := cell_of_blk F3 rfl
  have P7 : w5.cell? ⟨w.heap.size + 1, 13, none⟩ = some (vs p.fr) := cell_of_blk F3 rfl
  have P8 : w5.cell? ⟨w.heap.size + 1, 14, none⟩ = some (vs p.to) := cell_of_blk F3 rfl
  obtain ⟨b2, o2, rfl, hbs2, d0, d1, d2, d3, d4, d5, d6⟩ := HD5.out.item HZ.out
  have hi2 : (k : Int) < d.length := by have := (List.getElem?_eq_some_iff.1 HZ.out).1; omega
  have S8 : ((w5.alloc (.cells #[.int .i64 y.kind, vs y.id, vs y.par, vs y.num, vs y.no, vs y.so, .bool y.gone] 26)).alloc (.cells (patCs (⟨p.kind, p.id, [], [], [], noItem, p.lang, p.to, p.fr⟩)) 28)).blk (w5.heap.size + 1) = some (.cells (patCs (⟨p.kind, p.id, [], [], [], noItem, p.lang, p.to, p.fr⟩)) 28 (0, 0)) := blk_alloc_at (by simp)
  have S4 : ((w5.alloc (.cells #[.int .i64 y.kind, vs y.id, vs y.par, vs y.num, vs y.no, vs y.so, .bool y.gone] 26)).alloc (.cells (patCs (⟨p.kind, p.id, [], [], [], noItem, p.lang, p.to, p.fr⟩)) 28)).blk (w.heap.size + 1 + 1) = some (.cells (patCs zeroP) 28 (0, 0)) := (blk_alloc_lt (by simp; omega)).trans ((blk_alloc_lt (by omega)).trans F4)
  have HBW : Hid (Below w.heap.size w ((w5.alloc (.cells #[.int .i64 y.kind, vs y.id, vs y.par, vs y.num, vs y.no, vs y.so, .bool y.gone] 26)).alloc (.cells (patCs (⟨p.kind, p.id, [], [], [], noItem, p.lang, p.to, p.fr⟩)) 28))) := Lib.hid ((HB5.out.alloc HB5.out.size _).alloc (by have := HB5.out.size; simp; omega) _)
  have HS4 := Lib.hid S4
  have HS8 := Lib.hid S8
  clear S4 S8
  have x6 : w4.heap.size < w5.heap.size + 1 + 1 := by omega
  have x2 : b2 < w5.heap.size + 1 + 1 := by omega
  have x3 : w.heap.size + 1 < w5.heap.size + 1 + 1 := by omega
  go_wp2_with fail
  refine wp_region_grew (by kernel_rfl) (by as_aux_lemma => kernel_rfl) ?_
  repeat (go_big_quiet_step ((first | exact Calls_grew (rtext_at htx.out _) | exact Calls_grew ((rtimes_any z.no p.to _ (by omega) (by have := hrd.tlen; omega)).mono (fun e w' h => ⟨h.1, by rw [h.2]; exact Below.refl _ _⟩)))))
  refine wpQuiet_nil ?_
  rintro _ ⟨wx, rfl⟩
  generalize hX : World.grew _ wx = X
  have hg : Below ((w5.alloc (.cells #[.int .i64 y.kind, vs y.id, vs y.par, vs y.num, vs y.no, vs y.so, .bool y.gone] 26)).alloc (.cells (patCs (⟨p.kind, p.id, [], [], [], noItem, p.lang, p.to, p.fr⟩)) 28)).heap.size ((w5.alloc (.cells #[.int .i64 y.kind, vs y.id, vs y.par, vs y.num, vs y.no, vs y.so, .bool y.gone] 26)).alloc (.cells (patCs (⟨p.kind, p.id, [], [], [], noItem, p.lang, p.to, p.fr⟩)) 28)) X := by rw [← hX]; exact grew_below ((w5.alloc (.cells #[.int .i64 y.kind, vs y.id, vs y.par, vs y.num, vs y.no, vs y.so, .bool y.gone] 26)).alloc (.cells (patCs (⟨p.kind, p.id, [], [], [], noItem, p.lang, p.to, p.fr⟩)) 28)) wx
  clear hX
  have S4 : X.blk (w.heap.size + 1 + 1) = some (.cells (patCs zeroP) 28 (0, 0)) := (hg.block _ (by simp; omega)).trans HS4.out
  have HBG := Lib.hid (HBW.out.trans (hg.mono HBW.out.size))
  have HROW := Lib.hid (blk_setRow_at (D := patCs zeroP) S4)
  have HG4 := Lib.hid S4
  clear S4 hg
  skip
  go_wp2_with (refine wpList_store_pat rfl (.tmp 4) (.tmp 78) rfl (w.heap.size + 1 + 1) zeroP zeroP rfl rfl HG4.out ?_)
  refine bodyPost_ret (v := .tuple #[zeroP.agg, .int .i64 15]) (rresults_pat rfl rfl HROW.out) rfl ⟨rfl, ?_⟩
  exact below_setRow HBG.out (by omega) _
set_option maxRecDepth 20000 in
set_option maxHeartbeats 4000000 in
theorem rinv_2c1 (l : List Item) (A : Option Addr) (c : Nat) (p : Patch) (w : World) (hr : RdI w A l) (hl : l.length ≤ 100000) (hlc : l.length ≤ c) (hsh : ∀ x ∈ l, x.Short) (hrd : p.RReady) (he : (applyF l p).2 = 0) (hk : p.kind = 2) (k : Nat) (y z : Item) (hf1 : findI l p.id = k) (hf2 : l[k]? = some y) (hz1 : (applyF l p).1[k]? = some z) (hz2 : itemF (applyF l p).1 p.id = z) (hz3 : z.no.length ≤ 400) (hz4 : z.so.length ≤ 400) (hla : p.lang = 1) (ho : onceIs z.no p.to = true) (hto : p.to ≠ []) : RInverts l A c p w := by
  have hk1 : (p.kind == 1) = false := by simp [hk]
  have hk2 : (p.kind == 2) = true := by simp [hk]
  have hk3 : (p.kind == 3) = false := by simp [hk]
  have hk4 : (p.kind == 4) = false := by simp [hk]
  have hk5 : (p.kind == 5) = false := by simp [hk]
  have hk6 : (p.kind == 6) = false := by simp [hk]
  have hk7 : (p.kind == 7) = false := by simp [hk]
  have hi : invertF l p = (⟨p.kind, p.id, [], [], [], noItem, p.lang, p.to, p.fr⟩, 0) := by
    unfold invertF backF
    rw [if_pos he, if_neg (by omega), if_pos hk, hz2]
    unfold wordsText
    rw [if_pos hla, if_neg (by simp [ho, hto])]; rfl
  have htx := Lib.hid (show (if p.lang = 1 then z.no else z.so) = z.no by rw [if_pos hla])
  clear hk hla hz2
  obtain ⟨n1, n2, n3⟩ : (p.to == []) = false ∧ (p.to != []) = true ∧ p.to.isEmpty = false := ⟨by simpa using hto, by simpa using hto, by simpa using hto⟩
  clear hto
  have hti : Hid (((timesL z.no p.to : Int) != 1) = false) := Lib.hid (by have := once_times z.no p.to; rw [ho] at this; have := this.symm; simp at this ⊢; omega)
  unfold RInverts
  rw [hi]
  clear hi
  obtain ⟨d, hd⟩ : ∃ d, (applyF l p).1 = d := ⟨_, rfl⟩
  rw [hd] at hz1
  have HZ := Lib.hid hz1; clear hz1
  clear ho
  have HF := Lib.hid hf1; clear hf1
  have HY := Lib.hid hf2; clear hf2
  have hb0 := (((Below.refl w.heap.size w).alloc (Nat.le_refl _) (.cells #[.slice A l.length c] 24)).alloc (by simp) (.cells (patCs p) 28)).alloc (by simp; omega) (.cells (patCs zeroP) 28)
  have HB0 := Lib.hid hb0; clear hb0
  have HR := Lib.hid hr; clear hr
  have HD := Lib.hid hd; clear hd
  have HE := Lib.hid he; clear he
  go_enter Try.func26, Try.ntmps26
  go_wp2_with fail
  refine (rapply_lit HD.out HE.out A c _ (HR.out.below HB0.out) (by omega) hlc hsh hrd).mono ?_
  rintro e w4 ⟨v, rfl, ⟨A', c', rfl, hr', hlc', hA'⟩, hb2⟩
  obtain ⟨hc, hf⟩ := bcell hb2
  have hblk := bblk hb2
  simp at hc hf hblk
  have hz4 := hb2.size
  simp at hz4
  have HB4 := Lib.hid hb2; clear hb2
  have HR4 := Lib.hid ((HR.out.below HB0.out).below HB4.out)
  have HR' := Lib.hid hr'; clear hr'
  have z1 : w.heap.size < w4.heap.size := by omega
  have z2 : w.heap.size + 1 < w4.heap.size := by omega
  have z3 : w.heap.size + 1 + 1 < w4.heap.size := by omega
  go_wp2_with fail
  refine (rfind_at HF.out A c _ (HR4.out.below ((Below.refl _ _).alloc (Nat.le_refl _) _)) (le_maxLen (by omega))).mono ?_
  rintro e w5 ⟨rfl, hb5⟩
  have hz5 := hb5.size
  simp at hz5
  have F2 : w5.cell? ⟨w.heap.size, 0, none⟩ = some (.slice A l.length c) := (hb5.cell (p := ⟨w.heap.size, 0, none⟩) (by simp; omega)).trans (by simp [go_sem, z1, hc])
  have F3 : w5.blk (w.heap.size + 1) = some (.cells (patCs p) 28 (0, 0)) := (hb5.block _ (by simp; omega)).trans ((blk_alloc_lt (by omega)).trans ((hblk _ (by omega)).trans (by simp [go_sem])))
  have F4 : w5.blk (w.heap.size + 1 + 1) = some (.cells (patCs zeroP) 28 (0, 0)) := (hb5.block _ (by simp; omega)).trans ((blk_alloc_lt (by omega)).trans ((hblk _ (by omega)).trans (by simp [go_sem])))
  have F6 : w5.cell? ⟨w4.heap.size, 0, none⟩ = some (.slice A' d.length c') := (hb5.cell (p := ⟨w4.heap.size, 0, none⟩) (by simp)).trans (by simp [go_sem])
  have HB5 : Hid (Below w.heap.size w w5) := Lib.hid (HB0.out.trans (((HB4.out.alloc HB4.out.size _).trans (hb5.mono (by have := HB4.out.size; simp at this ⊢; omega))).mono HB0.out.size))
  have HR5 := Lib.hid (HR.out.below HB5.out)
  have HD5 := Lib.hid (HR'.out.below (((Below.refl _ _).alloc (Nat.le_refl _) (.cells #[.slice A' d.length c'] 24)).trans (hb5.mono (by simp))))
  clear hb5 hc hf hblk HB4 HR4 HB0 HR'
  have w1 : w.heap.size < w5.heap.size := by omega
  have w2 : w.heap.size + 1 < w5.heap.size := by omega
  have w3 : w.heap.size + 1 + 1 < w5.heap.size := by omega
  have w6 : w4.heap.size < w5.heap.size := by omega
  obtain ⟨b1, o1, rfl, hbs1, c0, c1, c2, c3, c4, c5, c6⟩ := HR5.out.item HY.out
  have hi0 : (0 : Int) ≤ k := by omega
  have hi1 : (k : Int) < l.length := by have := (List.getElem?_eq_some_iff.1 HY.out).1; omega
  have P0 : w5.cell? ⟨w.heap.size + 1, 0, none⟩ = some (.int .i64 p.kind) := cell_of_blk F3 rfl
  have P1 : w5.cell? ⟨w.heap.size + 1, 1, none⟩ = some (vs p.id) := cell_of_blk F3 rfl
  have P6 : w5.cell? ⟨w.heap.size + 1, 12, none⟩ = some (.int .i64 p.lang) := cell_of_blk F3 rfl
  have P7 : w5.cell? ⟨w.heap.size + 1, 13, none⟩ = some (vs p.fr) := cell_of_blk F3 rfl
  have P8 : w5.cell? ⟨w.heap.size + 1, 14, none⟩ = some (vs p.to) := cell_of_blk F3 rfl
  obtain ⟨b2, o2, rfl, hbs2, d0, d1, d2, d3, d4, d5, d6⟩ := HD5.out.item HZ.out
  have hi2 : (k : Int) < d.length := by have := (List.getElem?_eq_some_iff.1 HZ.out).1; omega
  have S8 : ((w5.alloc (.cells #[.int .i64 y.kind, vs y.id, vs y.par, vs y.num, vs y.no, vs y.so, .bool y.gone] 26)).alloc (.cells (patCs (⟨p.kind, p.id, [], [], [], noItem, p.lang, p.to, p.fr⟩)) 28)).blk (w5.heap.size + 1) = some (.cells (patCs (⟨p.kind, p.id, [], [], [], noItem, p.lang, p.to, p.fr⟩)) 28 (0, 0)) := blk_alloc_at (by simp)
  have S4 : ((w5.alloc (.cells #[.int .i64 y.kind, vs y.id, vs y.par, vs y.num, vs y.no, vs y.so, .bool y.gone] 26)).alloc (.cells (patCs (⟨p.kind, p.id, [], [], [], noItem, p.lang, p.to, p.fr⟩)) 28)).blk (w.heap.size + 1 + 1) = some (.cells (patCs zeroP) 28 (0, 0)) := (blk_alloc_lt (by simp; omega)).trans ((blk_alloc_lt (by omega)).trans F4)
  have HBW : Hid (Below w.heap.size w ((w5.alloc (.cells #[.int .i64 y.kind, vs y.id, vs y.par, vs y.num, vs y.no, vs y.so, .bool y.gone] 26)).alloc (.cells (patCs (⟨p.kind, p.id, [], [], [], noItem, p.lang, p.to, p.fr⟩)) 28))) := Lib.hid ((HB5.out.alloc HB5.out.size _).alloc (by have := HB5.out.size; simp; omega) _)
  have HS4 := Lib.hid S4
  have HS8 := Lib.hid S8
  clear S4 S8
  have x6 : w4.heap.size < w5.heap.size + 1 + 1 := by omega
  have x2 : b2 < w5.heap.size + 1 + 1 := by omega
  have x3 : w.heap.size + 1 < w5.heap.size + 1 + 1 := by omega
  go_wp2_with fail
  refine wp_region_grew (by kernel_rfl) (by as_aux_lemma => kernel_rfl) ?_
  repeat (go_big_quiet_step ((first | exact Calls_grew (rtext_at htx.out _) | exact Calls_grew ((rtimes_any z.no p.to _ (by omega) (by have := hrd.tlen; omega)).mono (fun e w' h => ⟨h.1, by rw [h.2]; exact Below.refl _ _⟩)))))
  refine wpQuiet_nil ?_
  rintro _ ⟨wx, rfl⟩
  generalize hX : World.grew _ wx = X
  have hg : Below ((w5.alloc (.cells #[.int .i64 y.kind, vs y.id, vs y.par, vs y.num, vs y.no, vs y.so, .bool y.gone] 26)).alloc (.cells (patCs (⟨p.kind, p.id, [], [], [], noItem, p.lang, p.to, p.fr⟩)) 28)).heap.size ((w5.alloc (.cells #[.int .i64 y.kind, vs y.id, vs y.par, vs y.num, vs y.no, vs y.so, .bool y.gone] 26)).alloc (.cells (patCs (⟨p.kind, p.id, [], [], [], noItem, p.lang, p.to, p.fr⟩)) 28)) X := by rw [← hX]; exact grew_below ((w5.alloc (.cells #[.int .i64 y.kind, vs y.id, vs y.par, vs y.num, vs y.no, vs y.so, .bool y.gone] 26)).alloc (.cells (patCs (⟨p.kind, p.id, [], [], [], noItem, p.lang, p.to, p.fr⟩)) 28)) wx
  clear hX
  have S8 : X.blk (w5.heap.size + 1) = some (.cells (patCs (⟨p.kind, p.id, [], [], [], noItem, p.lang, p.to, p.fr⟩)) 28 (0, 0)) := (hg.block _ (by simp)).trans HS8.out
  have S4 : X.blk (w.heap.size + 1 + 1) = some (.cells (patCs zeroP) 28 (0, 0)) := (hg.block _ (by simp; omega)).trans HS4.out
  have HBG := Lib.hid (HBW.out.trans (hg.mono HBW.out.size))
  have HROW := Lib.hid (blk_setRow_at (D := patCs (⟨p.kind, p.id, [], [], [], noItem, p.lang, p.to, p.fr⟩)) S4)
  have HG4 := Lib.hid S4
  clear S4 hg
  have hti := hti.out
  go_wp2_with (refine wpList_store_pat rfl (.tmp 4) (.tmp 116) rfl (w.heap.size + 1 + 1) (⟨p.kind, p.id, [], [], [], noItem, p.lang, p.to, p.fr⟩) zeroP rfl rfl HG4.out ?_)
  refine bodyPost_ret (v := .tuple #[(⟨p.kind, p.id, [], [], [], noItem, p.lang, p.to, p.fr⟩ : Patch).agg, .int .i64 0]) (rresults_pat rfl rfl HROW.out) rfl ⟨rfl, ?_⟩
  exact below_setRow HBG.out (by omega) _
set_option maxRecDepth 20000 in
set_option maxHeartbeats 4000000 in
theorem rinv_2a2 (l : List Item) (A : Option Addr) (c : Nat) (p : Patch) (w : World) (hr : RdI w A l) (hl : l.length ≤ 100000) (hlc : l.length ≤ c) (hsh : ∀ x ∈ l, x.Short) (hrd : p.RReady) (he : (applyF l p).2 = 0) (hk : p.kind = 2) (k : Nat) (y z : Item) (hf1 : findI l p.id = k) (hf2 : l[k]? = some y) (hz1 : (applyF l p).1[k]? = some z) (hz2 : itemF (applyF l p).1 p.id = z) (hz3 : z.no.length ≤ 400) (hz4 : z.so.length ≤ 400) (hla : p.lang = 2) (ho : onceIs z.so p.to = false) (hto : p.to ≠ []) : RInverts l A c p w := by
  have hk1 : (p.kind == 1) = false := by simp [hk]
  have hk2 : (p.kind == 2) = true := by simp [hk]
  have hk3 : (p.kind == 3) = false := by simp [hk]
  have hk4 : (p.kind == 4) = false := by simp [hk]
  have hk5 : (p.kind == 5) = false := by simp [hk]
  have hk6 : (p.kind == 6) = false := by simp [hk]
  have hk7 : (p.kind == 7) = false := by simp [hk]
  have hi : invertF l p = (zeroP, 15) := by
    unfold invertF backF
    rw [if_pos he, if_neg (by omega), if_pos hk, hz2]
    unfold wordsText
    rw [if_neg (show ¬ p.lang = 1 by omega), if_pos (.inl ho)]
  have htx := Lib.hid (show (if p.lang = 1 then z.no else z.so) = z.so by rw [if_neg (by omega)])
  clear hk hla hz2
  obtain ⟨n1, n2, n3⟩ : (p.to == []) = false ∧ (p.to != []) = true ∧ p.to.isEmpty = false := ⟨by simpa using hto, by simpa using hto, by simpa using hto⟩
  clear hto
  have hti : Hid (((timesL z.so p.to : Int) != 1) = true) := Lib.hid (by have := once_times z.so p.to; rw [ho] at this; have := this.symm; simp at this ⊢; omega)
  unfold RInverts
  rw [hi]
  clear hi
  obtain ⟨d, hd⟩ : ∃ d, (applyF l p).1 = d := ⟨_, rfl⟩
  rw [hd] at hz1
  have HZ := Lib.hid hz1; clear hz1
  clear ho
  have HF := Lib.hid hf1; clear hf1
  have HY := Lib.hid hf2; clear hf2
  have hb0 := (((Below.refl w.heap.size w).alloc (Nat.le_refl _) (.cells #[.slice A l.length c] 24)).alloc (by simp) (.cells (patCs p) 28)).alloc (by simp; omega) (.cells (patCs zeroP) 28)
  have HB0 := Lib.hid hb0; clear hb0
  have HR := Lib.hid hr; clear hr
  have HD := Lib.hid hd; clear hd
  have HE := Lib.hid he; clear he
  go_enter Try.func26, Try.ntmps26
  go_wp2_with fail
  refine (rapply_lit HD.out HE.out A c _ (HR.out.below HB0.out) (by omega) hlc hsh hrd).mono ?_
  rintro e w4 ⟨v, rfl, ⟨A', c', rfl, hr', hlc', hA'⟩, hb2⟩
  obtain ⟨hc, hf⟩ := bcell hb2
  have hblk := bblk hb2
  simp at hc hf hblk
  have hz4 := hb2.size
  simp at hz4
  have HB4 := Lib.hid hb2; clear hb2
  have HR4 := Lib.hid ((HR.out.below HB0.out).below HB4.out)
  have HR' := Lib.hid hr'; clear hr'
  have z1 : w.heap.size < w4.heap.size := by omega
  have z2 : w.heap.size + 1 < w4.heap.size := by omega
  have z3 : w.heap.size + 1 + 1 < w4.heap.size := by omega
  go_wp2_with fail
  refine (rfind_at HF.out A c _ (HR4.out.below ((Below.refl _ _).alloc (Nat.le_refl _) _)) (le_maxLen (by omega))).mono ?_
  rintro e w5 ⟨rfl, hb5⟩
  have hz5 := hb5.size
  simp at hz5
  have F2 : w5.cell? ⟨w.heap.size, 0, none⟩ = some (.slice A l.length c) := (hb5.cell (p := ⟨w.heap.size, 0, none⟩) (by simp; omega)).trans (by simp [go_sem, z1, hc])
  have F3 : w5.blk (w.heap.size + 1) = some (.cells (patCs p) 28 (0, 0)) := (hb5.block _ (by simp; omega)).trans ((blk_alloc_lt (by omega)).trans ((hblk _ (by omega)).trans (by simp [go_sem])))
  have F4 : w5.blk (w.heap.size + 1 + 1) = some (.cells (patCs zeroP) 28 (0, 0)) := (hb5.block _ (by simp; omega)).trans ((blk_alloc_lt (by omega)).trans ((hblk _ (by omega)).trans (by simp [go_sem])))
  have F6 : w5.cell? ⟨w4.heap.size, 0, none⟩ = some (.slice A' d.length c') := (hb5.cell (p := ⟨w4.heap.size, 0, none⟩) (by simp)).trans (by simp [go_sem])
  have HB5 : Hid (Below w.heap.size w w5) := Lib.hid (HB0.out.trans (((HB4.out.alloc HB4.out.size _).trans (hb5.mono (by have := HB4.out.size; simp at this ⊢; omega))).mono HB0.out.size))
  have HR5 := Lib.hid (HR.out.below HB5.out)
  have HD5 := Lib.hid (HR'.out.below (((Below.refl _ _).alloc (Nat.le_refl _) (.cells #[.slice A' d.length c'] 24)).trans (hb5.mono (by simp))))
  clear hb5 hc hf hblk HB4 HR4 HB0 HR'
  have w1 : w.heap.size < w5.heap.size := by omega
  have w2 : w.heap.size + 1 < w5.heap.size := by omega
  have w3 : w.heap.size + 1 + 1 < w5.heap.size := by omega
  have w6 : w4.heap.size < w5.heap.size := by omega
  obtain ⟨b1, o1, rfl, hbs1, c0, c1, c2, c3, c4, c5, c6⟩ := HR5.out.item HY.out
  have hi0 : (0 : Int) ≤ k := by omega
  have hi1 : (k : Int) < l.length := by have := (List.getElem?_eq_some_iff.1 HY.out).1; omega
  have P0 : w5.cell? ⟨w.heap.size + 1, 0, none⟩ = some (.int .i64 p.kind) := cell_of_blk F3 rfl
  have P1 : w5.cell? ⟨w.heap.size + 1, 1, none⟩ = some (vs p.id) := cell_of_blk F3 rfl
  have P6 : w5.cell? ⟨w.heap.size + 1, 12, none⟩ = some (.int .i64 p.lang) := cell_of_blk F3 rfl
  have P7 : w5.cell? ⟨w.heap.size + 1, 13, none⟩ = some (vs p.fr) := cell_of_blk F3 rfl
  have P8 : w5.cell? ⟨w.heap.size + 1, 14, none⟩ = some (vs p.to) := cell_of_blk F3 rfl
  obtain ⟨b2, o2, rfl, hbs2, d0, d1, d2, d3, d4, d5, d6⟩ := HD5.out.item HZ.out
  have hi2 : (k : Int) < d.length := by have := (List.getElem?_eq_some_iff.1 HZ.out).1; omega
  have S8 : ((w5.alloc (.cells #[.int .i64 y.kind, vs y.id, vs y.par, vs y.num, vs y.no, vs y.so, .bool y.gone] 26)).alloc (.cells (patCs (⟨p.kind, p.id, [], [], [], noItem, p.lang, p.to, p.fr⟩)) 28)).blk (w5.heap.size + 1) = some (.cells (patCs (⟨p.kind, p.id, [], [], [], noItem, p.lang, p.to, p.fr⟩)) 28 (0, 0)) := blk_alloc_at (by simp)
  have S4 : ((w5.alloc (.cells #[.int .i64 y.kind, vs y.id, vs y.par, vs y.num, vs y.no, vs y.so, .bool y.gone] 26)).alloc (.cells (patCs (⟨p.kind, p.id, [], [], [], noItem, p.lang, p.to, p.fr⟩)) 28)).blk (w.heap.size + 1 + 1) = some (.cells (patCs zeroP) 28 (0, 0)) := (blk_alloc_lt (by simp; omega)).trans ((blk_alloc_lt (by omega)).trans F4)
  have HBW : Hid (Below w.heap.size w ((w5.alloc (.cells #[.int .i64 y.kind, vs y.id, vs y.par, vs y.num, vs y.no, vs y.so, .bool y.gone] 26)).alloc (.cells (patCs (⟨p.kind, p.id, [], [], [], noItem, p.lang, p.to, p.fr⟩)) 28))) := Lib.hid ((HB5.out.alloc HB5.out.size _).alloc (by have := HB5.out.size; simp; omega) _)
  have HS4 := Lib.hid S4
  have HS8 := Lib.hid S8
  clear S4 S8
  have x6 : w4.heap.size < w5.heap.size + 1 + 1 := by omega
  have x2 : b2 < w5.heap.size + 1 + 1 := by omega
  have x3 : w.heap.size + 1 < w5.heap.size + 1 + 1 := by omega
  go_wp2_with fail
  refine wp_region_grew (by kernel_rfl) (by as_aux_lemma => kernel_rfl) ?_
  repeat (go_big_quiet_step ((first | exact Calls_grew (rtext_at htx.out _) | exact Calls_grew ((rtimes_any z.so p.to _ (by omega) (by have := hrd.tlen; omega)).mono (fun e w' h => ⟨h.1, by rw [h.2]; exact Below.refl _ _⟩)))))
  refine wpQuiet_nil ?_
  rintro _ ⟨wx, rfl⟩
  generalize hX : World.grew _ wx = X
  have hg : Below ((w5.alloc (.cells #[.int .i64 y.kind, vs y.id, vs y.par, vs y.num, vs y.no, vs y.so, .bool y.gone] 26)).alloc (.cells (patCs (⟨p.kind, p.id, [], [], [], noItem, p.lang, p.to, p.fr⟩)) 28)).heap.size ((w5.alloc (.cells #[.int .i64 y.kind, vs y.id, vs y.par, vs y.num, vs y.no, vs y.so, .bool y.gone] 26)).alloc (.cells (patCs (⟨p.kind, p.id, [], [], [], noItem, p.lang, p.to, p.fr⟩)) 28)) X := by rw [← hX]; exact grew_below ((w5.alloc (.cells #[.int .i64 y.kind, vs y.id, vs y.par, vs y.num, vs y.no, vs y.so, .bool y.gone] 26)).alloc (.cells (patCs (⟨p.kind, p.id, [], [], [], noItem, p.lang, p.to, p.fr⟩)) 28)) wx
  clear hX
  have S4 : X.blk (w.heap.size + 1 + 1) = some (.cells (patCs zeroP) 28 (0, 0)) := (hg.block _ (by simp; omega)).trans HS4.out
  have HBG := Lib.hid (HBW.out.trans (hg.mono HBW.out.size))
  have HROW := Lib.hid (blk_setRow_at (D := patCs zeroP) S4)
  have HG4 := Lib.hid S4
  clear S4 hg
  have hti := hti.out
  go_wp2_with (refine wpList_store_pat rfl (.tmp 4) (.tmp 78) rfl (w.heap.size + 1 + 1) zeroP zeroP rfl rfl HG4.out ?_)
  refine bodyPost_ret (v := .tuple #[zeroP.agg, .int .i64 15]) (rresults_pat rfl rfl HROW.out) rfl ⟨rfl, ?_⟩
  exact below_setRow HBG.out (by omega) _
set_option maxRecDepth 20000 in
set_option maxHeartbeats 4000000 in
theorem rinv_2b2 (l : List Item) (A : Option Addr) (c : Nat) (p : Patch) (w : World) (hr : RdI w A l) (hl : l.length ≤ 100000) (hlc : l.length ≤ c) (hsh : ∀ x ∈ l, x.Short) (hrd : p.RReady) (he : (applyF l p).2 = 0) (hk : p.kind = 2) (k : Nat) (y z : Item) (hf1 : findI l p.id = k) (hf2 : l[k]? = some y) (hz1 : (applyF l p).1[k]? = some z) (hz2 : itemF (applyF l p).1 p.id = z) (hz3 : z.no.length ≤ 400) (hz4 : z.so.length ≤ 400) (hla : p.lang = 2) (hto : p.to = []) : RInverts l A c p w := by
  have hk1 : (p.kind == 1) = false := by simp [hk]
  have hk2 : (p.kind == 2) = true := by simp [hk]
  have hk3 : (p.kind == 3) = false := by simp [hk]
  have hk4 : (p.kind == 4) = false := by simp [hk]
  have hk5 : (p.kind == 5) = false := by simp [hk]
  have hk6 : (p.kind == 6) = false := by simp [hk]
  have hk7 : (p.kind == 7) = false := by simp [hk]
  have hi : invertF l p = (zeroP, 15) := by
    unfold invertF backF
    rw [if_pos he, if_neg (by omega), if_pos hk, hz2]
    unfold wordsText
    rw [if_pos (.inr hto)]
  have htx := Lib.hid (show (if p.lang = 1 then z.no else z.so) = z.so by rw [if_neg (by omega)])
  clear hk hla hz2
  obtain ⟨n1, n2, n3⟩ : (p.to == []) = true ∧ (p.to != []) = false ∧ p.to.isEmpty = true := by rw [hto]; exact ⟨rfl, rfl, rfl⟩
  clear hto
  unfold RInverts
  rw [hi]
  clear hi
  obtain ⟨d, hd⟩ : ∃ d, (applyF l p).1 = d := ⟨_, rfl⟩
  rw [hd] at hz1
  have HZ := Lib.hid hz1; clear hz1
  have HF := Lib.hid hf1; clear hf1
  have HY := Lib.hid hf2; clear hf2
  have hb0 := (((Below.refl w.heap.size w).alloc (Nat.le_refl _) (.cells #[.slice A l.length c] 24)).alloc (by simp) (.cells (patCs p) 28)).alloc (by simp; omega) (.cells (patCs zeroP) 28)
  have HB0 := Lib.hid hb0; clear hb0
  have HR := Lib.hid hr; clear hr
  have HD := Lib.hid hd; clear hd
  have HE := Lib.hid he; clear he
  go_enter Try.func26, Try.ntmps26
  go_wp2_with fail
  refine (rapply_lit HD.out HE.out A c _ (HR.out.below HB0.out) (by omega) hlc hsh hrd).mono ?_
  rintro e w4 ⟨v, rfl, ⟨A', c', rfl, hr', hlc', hA'⟩, hb2⟩
  obtain ⟨hc, hf⟩ := bcell hb2
  have hblk := bblk hb2
  simp at hc hf hblk
  have hz4 := hb2.size
  simp at hz4
  have HB4 := Lib.hid hb2; clear hb2
  have HR4 := Lib.hid ((HR.out.below HB0.out).below HB4.out)
  have HR' := Lib.hid hr'; clear hr'
  have z1 : w.heap.size < w4.heap.size := by omega
  have z2 : w.heap.size + 1 < w4.heap.size := by omega
  have z3 : w.heap.size + 1 + 1 < w4.heap.size := by omega
  go_wp2_with fail
  refine (rfind_at HF.out A c _ (HR4.out.below ((Below.refl _ _).alloc (Nat.le_refl _) _)) (le_maxLen (by omega))).mono ?_
  rintro e w5 ⟨rfl, hb5⟩
  have hz5 := hb5.size
  simp at hz5
  have F2 : w5.cell? ⟨w.heap.size, 0, none⟩ = some (.slice A l.length c) := (hb5.cell (p := ⟨w.heap.size, 0, none⟩) (by simp; omega)).trans (by simp [go_sem, z1, hc])
  have F3 : w5.blk (w.heap.size + 1) = some (.cells (patCs p) 28 (0, 0)) := (hb5.block _ (by simp; omega)).trans ((blk_alloc_lt (by omega)).trans ((hblk _ (by omega)).trans (by simp [go_sem])))
  have F4 : w5.blk (w.heap.size + 1 + 1) = some (.cells (patCs zeroP) 28 (0, 0)) := (hb5.block _ (by simp; omega)).trans ((blk_alloc_lt (by omega)).trans ((hblk _ (by omega)).trans (by simp [go_sem])))
  have F6 : w5.cell? ⟨w4.heap.size, 0, none⟩ = some (.slice A' d.length c') := (hb5.cell (p := ⟨w4.heap.size, 0, none⟩) (by simp)).trans (by simp [go_sem])
  have HB5 : Hid (Below w.heap.size w w5) := Lib.hid (HB0.out.trans (((HB4.out.alloc HB4.out.size _).trans (hb5.mono (by have := HB4.out.size; simp at this ⊢; omega))).mono HB0.out.size))
  have HR5 := Lib.hid (HR.out.below HB5.out)
  have HD5 := Lib.hid (HR'.out.below (((Below.refl _ _).alloc (Nat.le_refl _) (.cells #[.slice A' d.length c'] 24)).trans (hb5.mono (by simp))))
  clear hb5 hc hf hblk HB4 HR4 HB0 HR'
  have w1 : w.heap.size < w5.heap.size := by omega
  have w2 : w.heap.size + 1 < w5.heap.size := by omega
  have w3 : w.heap.size + 1 + 1 < w5.heap.size := by omega
  have w6 : w4.heap.size < w5.heap.size := by omega
  obtain ⟨b1, o1, rfl, hbs1, c0, c1, c2, c3, c4, c5, c6⟩ := HR5.out.item HY.out
  have hi0 : (0 : Int) ≤ k := by omega
  have hi1 : (k : Int) < l.length := by have := (List.getElem?_eq_some_iff.1 HY.out).1; omega
  have P0 : w5.cell? ⟨w.heap.size + 1, 0, none⟩ = some (.int .i64 p.kind) := cell_of_blk F3 rfl
  have P1 : w5.cell? ⟨w.heap.size + 1, 1, none⟩ = some (vs p.id) := cell_of_blk F3 rfl
  have P6 : w5.cell? ⟨w.heap.size + 1, 12, none⟩ = some (.int .i64 p.lang) := cell_of_blk F3 rfl
  have P7 : w5.cell? ⟨w.heap.size + 1, 13, none⟩ = some (vs p.fr) := cell_of_blk F3 rfl
  have P8 : w5.cell? ⟨w.heap.size + 1, 14, none⟩ = some (vs p.to) := cell_of_blk F3 rfl
  obtain ⟨b2, o2, rfl, hbs2, d0, d1, d2, d3, d4, d5, d6⟩ := HD5.out.item HZ.out
  have hi2 : (k : Int) < d.length := by have := (List.getElem?_eq_some_iff.1 HZ.out).1; omega
  have S8 : ((w5.alloc (.cells #[.int .i64 y.kind, vs y.id, vs y.par, vs y.num, vs y.no, vs y.so, .bool y.gone] 26)).alloc (.cells (patCs (⟨p.kind, p.id, [], [], [], noItem, p.lang, p.to, p.fr⟩)) 28)).blk (w5.heap.size + 1) = some (.cells (patCs (⟨p.kind, p.id, [], [], [], noItem, p.lang, p.to, p.fr⟩)) 28 (0, 0)) := blk_alloc_at (by simp)
  have S4 : ((w5.alloc (.cells #[.int .i64 y.kind, vs y.id, vs y.par, vs y.num, vs y.no, vs y.so, .bool y.gone] 26)).alloc (.cells (patCs (⟨p.kind, p.id, [], [], [], noItem, p.lang, p.to, p.fr⟩)) 28)).blk (w.heap.size + 1 + 1) = some (.cells (patCs zeroP) 28 (0, 0)) := (blk_alloc_lt (by simp; omega)).trans ((blk_alloc_lt (by omega)).trans F4)
  have HBW : Hid (Below w.heap.size w ((w5.alloc (.cells #[.int .i64 y.kind, vs y.id, vs y.par, vs y.num, vs y.no, vs y.so, .bool y.gone] 26)).alloc (.cells (patCs (⟨p.kind, p.id, [], [], [], noItem, p.lang, p.to, p.fr⟩)) 28))) := Lib.hid ((HB5.out.alloc HB5.out.size _).alloc (by have := HB5.out.size; simp; omega) _)
  have HS4 := Lib.hid S4
  have HS8 := Lib.hid S8
  clear S4 S8
  have x6 : w4.heap.size < w5.heap.size + 1 + 1 := by omega
  have x2 : b2 < w5.heap.size + 1 + 1 := by omega
  have x3 : w.heap.size + 1 < w5.heap.size + 1 + 1 := by omega
  go_wp2_with fail
  refine wp_region_grew (by kernel_rfl) (by as_aux_lemma => kernel_rfl) ?_
  repeat (go_big_quiet_step ((first | exact Calls_grew (rtext_at htx.out _) | exact Calls_grew ((rtimes_any z.so p.to _ (by omega) (by have := hrd.tlen; omega)).mono (fun e w' h => ⟨h.1, by rw [h.2]; exact Below.refl _ _⟩)))))
  refine wpQuiet_nil ?_
  rintro _ ⟨wx, rfl⟩
  generalize hX : World.grew _ wx = X
  have hg : Below ((w5.alloc (.cells #[.int .i64 y.kind, vs y.id, vs y.par, vs y.num, vs y.no, vs y.so, .bool y.gone] 26)).alloc (.cells (patCs (⟨p.kind, p.id, [], [], [], noItem, p.lang, p.to, p.fr⟩)) 28)).heap.size ((w5.alloc (.cells #[.int .i64 y.kind, vs y.id, vs y.par, vs y.num, vs y.no, vs y.so, .bool y.gone] 26)).alloc (.cells (patCs (⟨p.kind, p.id, [], [], [], noItem, p.lang, p.to, p.fr⟩)) 28)) X := by rw [← hX]; exact grew_below ((w5.alloc (.cells #[.int .i64 y.kind, vs y.id, vs y.par, vs y.num, vs y.no, vs y.so, .bool y.gone] 26)).alloc (.cells (patCs (⟨p.kind, p.id, [], [], [], noItem, p.lang, p.to, p.fr⟩)) 28)) wx
  clear hX
  have S4 : X.blk (w.heap.size + 1 + 1) = some (.cells (patCs zeroP) 28 (0, 0)) := (hg.block _ (by simp; omega)).trans HS4.out
  have HBG := Lib.hid (HBW.out.trans (hg.mono HBW.out.size))
  have HROW := Lib.hid (blk_setRow_at (D := patCs zeroP) S4)
  have HG4 := Lib.hid S4
  clear S4 hg
  skip
  go_wp2_with (refine wpList_store_pat rfl (.tmp 4) (.tmp 78) rfl (w.heap.size + 1 + 1) zeroP zeroP rfl rfl HG4.out ?_)
  refine bodyPost_ret (v := .tuple #[zeroP.agg, .int .i64 15]) (rresults_pat rfl rfl HROW.out) rfl ⟨rfl, ?_⟩
  exact below_setRow HBG.out (by omega) _
set_option maxRecDepth 20000 in
set_option maxHeartbeats 4000000 in
theorem rinv_2c2 (l : List Item) (A : Option Addr) (c : Nat) (p : Patch) (w : World) (hr : RdI w A l) (hl : l.length ≤ 100000) (hlc : l.length ≤ c) (hsh : ∀ x ∈ l, x.Short) (hrd : p.RReady) (he : (applyF l p).2 = 0) (hk : p.kind = 2) (k : Nat) (y z : Item) (hf1 : findI l p.id = k) (hf2 : l[k]? = some y) (hz1 : (applyF l p).1[k]? = some z) (hz2 : itemF (applyF l p).1 p.id = z) (hz3 : z.no.length ≤ 400) (hz4 : z.so.length ≤ 400) (hla : p.lang = 2) (ho : onceIs z.so p.to = true) (hto : p.to ≠ []) : RInverts l A c p w := by
  have hk1 : (p.kind == 1) = false := by simp [hk]
  have hk2 : (p.kind == 2) = true := by simp [hk]
  have hk3 : (p.kind == 3) = false := by simp [hk]
  have hk4 : (p.kind == 4) = false := by simp [hk]
  have hk5 : (p.kind == 5) = false := by simp [hk]
  have hk6 : (p.kind == 6) = false := by simp [hk]
  have hk7 : (p.kind == 7) = false := by simp [hk]
  have hi : invertF l p = (⟨p.kind, p.id, [], [], [], noItem, p.lang, p.to, p.fr⟩, 0) := by
    unfold invertF backF
    rw [if_pos he, if_neg (by omega), if_pos hk, hz2]
    unfold wordsText
    rw [if_neg (show ¬ p.lang = 1 by omega), if_neg (by simp [ho, hto])]; rfl
  have htx := Lib.hid (show (if p.lang = 1 then z.no else z.so) = z.so by rw [if_neg (by omega)])
  clear hk hla hz2
  obtain ⟨n1, n2, n3⟩ : (p.to == []) = false ∧ (p.to != []) = true ∧ p.to.isEmpty = false := ⟨by simpa using hto, by simpa using hto, by simpa using hto⟩
  clear hto
  have hti : Hid (((timesL z.so p.to : Int) != 1) = false) := Lib.hid (by have := once_times z.so p.to; rw [ho] at this; have := this.symm; simp at this ⊢; omega)
  unfold RInverts
  rw [hi]
  clear hi
  obtain ⟨d, hd⟩ : ∃ d, (applyF l p).1 = d := ⟨_, rfl⟩
  rw [hd] at hz1
  have HZ := Lib.hid hz1; clear hz1
  clear ho
  have HF := Lib.hid hf1; clear hf1
  have HY := Lib.hid hf2; clear hf2
  have hb0 := (((Below.refl w.heap.size w).alloc (Nat.le_refl _) (.cells #[.slice A l.length c] 24)).alloc (by simp) (.cells (patCs p) 28)).alloc (by simp; omega) (.cells (patCs zeroP) 28)
  have HB0 := Lib.hid hb0; clear hb0
  have HR := Lib.hid hr; clear hr
  have HD := Lib.hid hd; clear hd
  have HE := Lib.hid he; clear he
  go_enter Try.func26, Try.ntmps26
  go_wp2_with fail
  refine (rapply_lit HD.out HE.out A c _ (HR.out.below HB0.out) (by omega) hlc hsh hrd).mono ?_
  rintro e w4 ⟨v, rfl, ⟨A', c', rfl, hr', hlc', hA'⟩, hb2⟩
  obtain ⟨hc, hf⟩ := bcell hb2
  have hblk := bblk hb2
  simp at hc hf hblk
  have hz4 := hb2.size
  simp at hz4
  have HB4 := Lib.hid hb2; clear hb2
  have HR4 := Lib.hid ((HR.out.below HB0.out).below HB4.out)
  have HR' := Lib.hid hr'; clear hr'
  have z1 : w.heap.size < w4.heap.size := by omega
  have z2 : w.heap.size + 1 < w4.heap.size := by omega
  have z3 : w.heap.size + 1 + 1 < w4.heap.size := by omega
  go_wp2_with fail
  refine (rfind_at HF.out A c _ (HR4.out.below ((Below.refl _ _).alloc (Nat.le_refl _) _)) (le_maxLen (by omega))).mono ?_
  rintro e w5 ⟨rfl, hb5⟩
  have hz5 := hb5.size
  simp at hz5
  have F2 : w5.cell? ⟨w.heap.size, 0, none⟩ = some (.slice A l.length c) := (hb5.cell (p := ⟨w.heap.size, 0, none⟩) (by simp; omega)).trans (by simp [go_sem, z1, hc])
  have F3 : w5.blk (w.heap.size + 1) = some (.cells (patCs p) 28 (0, 0)) := (hb5.block _ (by simp; omega)).trans ((blk_alloc_lt (by omega)).trans ((hblk _ (by omega)).trans (by simp [go_sem])))
  have F4 : w5.blk (w.heap.size + 1 + 1) = some (.cells (patCs zeroP) 28 (0, 0)) := (hb5.block _ (by simp; omega)).trans ((blk_alloc_lt (by omega)).trans ((hblk _ (by omega)).trans (by simp [go_sem])))
  have F6 : w5.cell? ⟨w4.heap.size, 0, none⟩ = some (.slice A' d.length c') := (hb5.cell (p := ⟨w4.heap.size, 0, none⟩) (by simp)).trans (by simp [go_sem])
  have HB5 : Hid (Below w.heap.size w w5) := Lib.hid (HB0.out.trans (((HB4.out.alloc HB4.out.size _).trans (hb5.mono (by have := HB4.out.size; simp at this ⊢; omega))).mono HB0.out.size))
  have HR5 := Lib.hid (HR.out.below HB5.out)
  have HD5 := Lib.hid (HR'.out.below (((Below.refl _ _).alloc (Nat.le_refl _) (.cells #[.slice A' d.length c'] 24)).trans (hb5.mono (by simp))))
  clear hb5 hc hf hblk HB4 HR4 HB0 HR'
  have w1 : w.heap.size < w5.heap.size := by omega
  have w2 : w.heap.size + 1 < w5.heap.size := by omega
  have w3 : w.heap.size + 1 + 1 < w5.heap.size := by omega
  have w6 : w4.heap.size < w5.heap.size := by omega
  obtain ⟨b1, o1, rfl, hbs1, c0, c1, c2, c3, c4, c5, c6⟩ := HR5.out.item HY.out
  have hi0 : (0 : Int) ≤ k := by omega
  have hi1 : (k : Int) < l.length := by have := (List.getElem?_eq_some_iff.1 HY.out).1; omega
  have P0 : w5.cell? ⟨w.heap.size + 1, 0, none⟩ = some (.int .i64 p.kind) := cell_of_blk F3 rfl
  have P1 : w5.cell? ⟨w.heap.size + 1, 1, none⟩ = some (vs p.id) := cell_of_blk F3 rfl
  have P6 : w5.cell? ⟨w.heap.size + 1, 12, none⟩ = some (.int .i64 p.lang) := cell_of_blk F3 rfl
  have P7 : w5.cell? ⟨w.heap.size + 1, 13, none⟩ = some (vs p.fr) := cell_of_blk F3 rfl
  have P8 : w5.cell? ⟨w.heap.size + 1, 14, none⟩ = some (vs p.to) := cell_of_blk F3 rfl
  obtain ⟨b2, o2, rfl, hbs2, d0, d1, d2, d3, d4, d5, d6⟩ := HD5.out.item HZ.out
  have hi2 : (k : Int) < d.length := by have := (List.getElem?_eq_some_iff.1 HZ.out).1; omega
  have S8 : ((w5.alloc (.cells #[.int .i64 y.kind, vs y.id, vs y.par, vs y.num, vs y.no, vs y.so, .bool y.gone] 26)).alloc (.cells (patCs (⟨p.kind, p.id, [], [], [], noItem, p.lang, p.to, p.fr⟩)) 28)).blk (w5.heap.size + 1) = some (.cells (patCs (⟨p.kind, p.id, [], [], [], noItem, p.lang, p.to, p.fr⟩)) 28 (0, 0)) := blk_alloc_at (by simp)
  have S4 : ((w5.alloc (.cells #[.int .i64 y.kind, vs y.id, vs y.par, vs y.num, vs y.no, vs y.so, .bool y.gone] 26)).alloc (.cells (patCs (⟨p.kind, p.id, [], [], [], noItem, p.lang, p.to, p.fr⟩)) 28)).blk (w.heap.size + 1 + 1) = some (.cells (patCs zeroP) 28 (0, 0)) := (blk_alloc_lt (by simp; omega)).trans ((blk_alloc_lt (by omega)).trans F4)
  have HBW : Hid (Below w.heap.size w ((w5.alloc (.cells #[.int .i64 y.kind, vs y.id, vs y.par, vs y.num, vs y.no, vs y.so, .bool y.gone] 26)).alloc (.cells (patCs (⟨p.kind, p.id, [], [], [], noItem, p.lang, p.to, p.fr⟩)) 28))) := Lib.hid ((HB5.out.alloc HB5.out.size _).alloc (by have := HB5.out.size; simp; omega) _)
  have HS4 := Lib.hid S4
  have HS8 := Lib.hid S8
  clear S4 S8
  have x6 : w4.heap.size < w5.heap.size + 1 + 1 := by omega
  have x2 : b2 < w5.heap.size + 1 + 1 := by omega
  have x3 : w.heap.size + 1 < w5.heap.size + 1 + 1 := by omega
  go_wp2_with fail
  refine wp_region_grew (by kernel_rfl) (by as_aux_lemma => kernel_rfl) ?_
  repeat (go_big_quiet_step ((first | exact Calls_grew (rtext_at htx.out _) | exact Calls_grew ((rtimes_any z.so p.to _ (by omega) (by have := hrd.tlen; omega)).mono (fun e w' h => ⟨h.1, by rw [h.2]; exact Below.refl _ _⟩)))))
  refine wpQuiet_nil ?_
  rintro _ ⟨wx, rfl⟩
  generalize hX : World.grew _ wx = X
  have hg : Below ((w5.alloc (.cells #[.int .i64 y.kind, vs y.id, vs y.par, vs y.num, vs y.no, vs y.so, .bool y.gone] 26)).alloc (.cells (patCs (⟨p.kind, p.id, [], [], [], noItem, p.lang, p.to, p.fr⟩)) 28)).heap.size ((w5.alloc (.cells #[.int .i64 y.kind, vs y.id, vs y.par, vs y.num, vs y.no, vs y.so, .bool y.gone] 26)).alloc (.cells (patCs (⟨p.kind, p.id, [], [], [], noItem, p.lang, p.to, p.fr⟩)) 28)) X := by rw [← hX]; exact grew_below ((w5.alloc (.cells #[.int .i64 y.kind, vs y.id, vs y.par, vs y.num, vs y.no, vs y.so, .bool y.gone] 26)).alloc (.cells (patCs (⟨p.kind, p.id, [], [], [], noItem, p.lang, p.to, p.fr⟩)) 28)) wx
  clear hX
  have S8 : X.blk (w5.heap.size + 1) = some (.cells (patCs (⟨p.kind, p.id, [], [], [], noItem, p.lang, p.to, p.fr⟩)) 28 (0, 0)) := (hg.block _ (by simp)).trans HS8.out
  have S4 : X.blk (w.heap.size + 1 + 1) = some (.cells (patCs zeroP) 28 (0, 0)) := (hg.block _ (by simp; omega)).trans HS4.out
  have HBG := Lib.hid (HBW.out.trans (hg.mono HBW.out.size))
  have HROW := Lib.hid (blk_setRow_at (D := patCs (⟨p.kind, p.id, [], [], [], noItem, p.lang, p.to, p.fr⟩)) S4)
  have HG4 := Lib.hid S4
  clear S4 hg
  have hti := hti.out
  go_wp2_with (refine wpList_store_pat rfl (.tmp 4) (.tmp 116) rfl (w.heap.size + 1 + 1) (⟨p.kind, p.id, [], [], [], noItem, p.lang, p.to, p.fr⟩) zeroP rfl rfl HG4.out ?_)
  refine bodyPost_ret (v := .tuple #[(⟨p.kind, p.id, [], [], [], noItem, p.lang, p.to, p.fr⟩ : Patch).agg, .int .i64 0]) (rresults_pat rfl rfl HROW.out) rfl ⟨rfl, ?_⟩
  exact below_setRow HBG.out (by omega) _
end Go.Proofs.Ytkdcenbommhnoaa
namespace Go.Proofs.Ytkdcenbommhnoaa
open Go.RowKit
theorem lastSib_next {l : List Item} {j : Nat} {x : Item} (hx : l[j]? = some x) (par : Str) : lastSib (l.take (j + 1)) par = if x.par == par then x.id else lastSib (l.take j) par := by
  obtain ⟨hj, rfl⟩ := List.getElem?_eq_some_iff.1 hx
  rw [List.take_succ_eq_append_getElem hj]
  unfold lastSib
  rw [List.foldl_append]
  rfl
set_option maxRecDepth 20000 in
set_option maxHeartbeats 4000000 in
theorem rinv_4 (l : List Item) (A : Option Addr) (c : Nat) (p : Patch) (w : World) (hr : RdI w A l) (hl : l.length ≤ 100000) (hlc : l.length ≤ c) (hsh : ∀ x ∈ l, x.Short) (hrd : p.RReady) (he : (applyF l p).2 = 0) (hk : p.kind = 4) : RInverts l A c p w := by
  have hk1 : (p.kind == 1) = false := by simp [hk]
  have hk2 : (p.kind == 2) = false := by simp [hk]
  have hk3 : (p.kind == 3) = false := by simp [hk]
  have hk4 : (p.kind == 4) = true := by simp [hk]
  have hk5 : (p.kind == 5) = false := by simp [hk]
  have hk6 : (p.kind == 6) = false := by simp [hk]
  have hk7 : (p.kind == 7) = false := by simp [hk]
  obtain ⟨hwb, k, y, hf1, hf2, hf3⟩ := inv_found he (by omega)
  have hi : invertF l p = ({ bare p with par := y.par, aft := lastSib (l.take k) y.par }, 0) := by unfold invertF backF; rw [if_pos he]; simp [hk, hf3, hf1]
  clear hk hf3 hwb
  unfold RInverts
  rw [hi]
  clear hi
  obtain ⟨d, hd⟩ : ∃ d, (applyF l p).1 = d := ⟨_, rfl⟩
  have HF := Lib.hid hf1; clear hf1
  have HY := Lib.hid hf2; clear hf2
  have hb0 := (((Below.refl w.heap.size w).alloc (Nat.le_refl _) (.cells #[.slice A l.length c] 24)).alloc (by simp) (.cells (patCs p) 28)).alloc (by simp; omega) (.cells (patCs zeroP) 28)
  have HB0 := Lib.hid hb0; clear hb0
  have HR := Lib.hid hr; clear hr
  have HD := Lib.hid hd; clear hd
  have HE := Lib.hid he; clear he
  go_enter Try.func26, Try.ntmps26
  go_wp2_with fail
  refine (rapply_lit HD.out HE.out A c _ (HR.out.below HB0.out) (by omega) hlc hsh hrd).mono ?_
  rintro e w4 ⟨v, rfl, ⟨A', c', rfl, hr', hlc', hA'⟩, hb2⟩
  obtain ⟨hc, hf⟩ := bcell hb2
  have hblk := bblk hb2
  simp at hc hf hblk
  have hz4 := hb2.size
  simp at hz4
  have HB4 := Lib.hid hb2; clear hb2
  have HR4 := Lib.hid ((HR.out.below HB0.out).below HB4.out)
  have HR' := Lib.hid hr'; clear hr'
  have z1 : w.heap.size < w4.heap.size := by omega
  have z2 : w.heap.size + 1 < w4.heap.size := by omega
  have z3 : w.heap.size + 1 + 1 < w4.heap.size := by omega
  go_wp2_with fail
  refine (rfind_at HF.out A c _ (HR4.out.below ((Below.refl _ _).alloc (Nat.le_refl _) _)) (le_maxLen (by omega))).mono ?_
  rintro e w5 ⟨rfl, hb5⟩
  have hz5 := hb5.size
  simp at hz5
  have F2 : w5.cell? ⟨w.heap.size, 0, none⟩ = some (.slice A l.length c) := (hb5.cell (p := ⟨w.heap.size, 0, none⟩) (by simp; omega)).trans (by simp [go_sem, z1, hc])
  have F3 : w5.blk (w.heap.size + 1) = some (.cells (patCs p) 28 (0, 0)) := (hb5.block _ (by simp; omega)).trans ((blk_alloc_lt (by omega)).trans ((hblk _ (by omega)).trans (by simp [go_sem])))
  have F4 : w5.blk (w.heap.size + 1 + 1) = some (.cells (patCs zeroP) 28 (0, 0)) := (hb5.block _ (by simp; omega)).trans ((blk_alloc_lt (by omega)).trans ((hblk _ (by omega)).trans (by simp [go_sem])))
  have F6 : w5.cell? ⟨w4.heap.size, 0, none⟩ = some (.slice A' d.length c') := (hb5.cell (p := ⟨w4.heap.size, 0, none⟩) (by simp)).trans (by simp [go_sem])
  have HB5 : Hid (Below w.heap.size w w5) := Lib.hid (HB0.out.trans (((HB4.out.alloc HB4.out.size _).trans (hb5.mono (by have := HB4.out.size; simp at this ⊢; omega))).mono HB0.out.size))
  have HR5 := Lib.hid (HR.out.below HB5.out)
  have HD5 := Lib.hid (HR'.out.below (((Below.refl _ _).alloc (Nat.le_refl _) (.cells #[.slice A' d.length c'] 24)).trans (hb5.mono (by simp))))
  clear hb5 hc hf hblk HB4 HR4 HB0 HR'
  have w1 : w.heap.size < w5.heap.size := by omega
  have w2 : w.heap.size + 1 < w5.heap.size := by omega
  have w3 : w.heap.size + 1 + 1 < w5.heap.size := by omega
  have w6 : w4.heap.size < w5.heap.size := by omega
  obtain ⟨b1, o1, rfl, hbs1, c0, c1, c2, c3, c4, c5, c6⟩ := HR5.out.item HY.out
  have hi0 : (0 : Int) ≤ k := by omega
  have hi1 : (k : Int) < l.length := by have := (List.getElem?_eq_some_iff.1 HY.out).1; omega
  have P0 : w5.cell? ⟨w.heap.size + 1, 0, none⟩ = some (.int .i64 p.kind) := cell_of_blk F3 rfl
  have P1 : w5.cell? ⟨w.heap.size + 1, 1, none⟩ = some (vs p.id) := cell_of_blk F3 rfl
  have HF2 := Lib.hid F2
  have HF4 := Lib.hid F4
  go_wp2_with fail
  go_loopw [11] (fun i wr => ∃ j : Nat, j ≤ k ∧ i = .int .i64 j ∧ wr.blk (w5.heap.size + 1) = some (.cells (patCs ({ bare p with par := y.par, aft := lastSib (l.take j) y.par })) 28 (0, 0)) ∧ wr.blk (w.heap.size + 1 + 1) = some (.cells (patCs zeroP) 28 (0, 0)) ∧ wr.blk w5.heap.size = some (.cells #[.int .i64 y.kind, vs y.id, vs y.par, vs y.num, vs y.no, vs y.so, .bool y.gone] 26 (0, 0)) ∧
    wr.cell? ⟨w.heap.size, 0, none⟩ = some (.slice (some ⟨b1, o1, none⟩) l.length c) ∧ Below w.heap.size w wr) (fun i _ => k - (intOf i).toNat)
  case atStart =>
    refine ⟨0, Nat.zero_le _, rfl, ?_, ?_, ?_, ?_, ?_⟩
    · exact blk_alloc_at (by simp)
    · exact (blk_alloc_lt (by simp; omega)).trans ((blk_alloc_lt (by omega)).trans HF4.out)
    · exact (blk_alloc_lt (by simp)).trans (blk_alloc_at rfl)
    · simp [go_sem, HF2.out, w1]
    · exact (HB5.out.alloc HB5.out.size _).alloc (by have := HB5.out.size; simp; omega) _
  case round =>
    obtain ⟨j, hj, rfl, g8, g4, gy, g2, hB⟩ := hrel
    have HBB := Lib.hid hB; clear hB
    have HG8 := Lib.hid g8
    have HG4 := Lib.hid g4
    have HGY := Lib.hid gy
    have HG2 := Lib.hid g2
    by_cases hlt : j < k
    · have hjl : j < l.length := by omega
      obtain ⟨x, hx⟩ := get_of_lt hjl
      have hj0 : (0 : Int) ≤ j := by omega
      have hj1 : (j : Int) < l.length := by omega
      have Y2 : wr.cell? ⟨w5.heap.size, 2, none⟩ = some (vs y.par) := cell_of_blk gy rfl
      have E1 : wr.cell? ⟨w5.heap.size + 1, 3, none⟩ = some (vs (lastSib (l.take j) y.par)) := cell_of_blk g8 rfl
      have E2 : wr.frozen? ⟨w5.heap.size + 1, 3, none⟩ = false := frozen_of_blk g8
      have lt8 : w5.heap.size + 1 < wr.heap.size := lt_of_heap g8
      obtain ⟨b9, o9, hA9, hbs9, e0, e1, e2, e3, e4, e5, e6⟩ := (HR.out.below HBB.out).item hx
      cases hA9
      have HX := Lib.hid hx; clear hx
      clear g8 g4 gy
      cases hp : (x.par == y.par)
      all_goals
        have HP := Lib.hid hp
        go_wp2_with fail
        go_quiet (fail)
        go_wp2_with fail
      · refine ⟨⟨j + 1, by omega, by go_num, ?_, HG4.out, HGY.out, HG2.out, Below.drewN' _ HBB.out⟩, by simp [intOf]; omega⟩
        rw [lastSib_next HX.out, HP.out]
        exact HG8.out
      · refine ⟨⟨j + 1, by omega, by go_num, ?_, ?_, ?_, ?_, ?_⟩, by simp [intOf]; omega⟩
        · rw [lastSib_next HX.out, HP.out]
          exact blk_setCell_at (k := 3) (v := vs x.id) HG8.out
        · exact (blk_setCell (by show _ ≠ w5.heap.size + 1; omega)).trans HG4.out
        · exact (blk_setCell (by show _ ≠ w5.heap.size + 1; omega)).trans HGY.out
        · exact (World.cell?_of_block (Below.heap_setCell _ _ _ _ (by show w.heap.size ≠ w5.heap.size + 1; omega))).trans HG2.out
        · exact (Below.drewN' _ HBB.out).setCell (show w.heap.size ≤ w5.heap.size + 1 by omega) _
    · have : j = k := by omega
      subst this
      have HROW := Lib.hid (blk_setRow_at (D := patCs ({ bare p with par := y.par, aft := lastSib (l.take j) y.par })) g4)
      clear g4 gy
      have g8' := g8
      simp only [patCs, bare] at g8'
      clear g8
      go_wp2_with (refine wpList_store_pat rfl (.tmp 4) (.tmp 116) rfl (w.heap.size + 1 + 1) ({ bare p with par := y.par, aft := lastSib (l.take j) y.par }) zeroP rfl rfl HG4.out ?_)
      refine bodyPost_ret (v := .tuple #[({ bare p with par := y.par, aft := lastSib (l.take j) y.par } : Patch).agg, .int .i64 0]) (rresults_pat rfl rfl HROW.out) rfl ⟨rfl, ?_⟩
      exact below_setRow HBB.out (by omega) _
theorem rinvert_any (l : List Item) (A : Option Addr) (c : Nat) (p : Patch) (w : World) (hr : RdI w A l) (hl : l.length ≤ 100000) (hlc : l.length ≤ c) (hsh : ∀ x ∈ l, x.Short) (hrd : p.RReady) : RInverts l A c p w := by
  by_cases he : (applyF l p).2 = 0
  · obtain ⟨R, hg, hf, -⟩ := apply_done he
    have hkk := formed_kind hf
    have hks : p.kind = 1 ∨ p.kind = 2 ∨ p.kind = 3 ∨ p.kind = 4 ∨ p.kind = 5 ∨ p.kind = 6 ∨ p.kind = 7 := by omega
    rcases hks with hk | hk | hk | hk | hk | hk | hk
    · exact rinv_1 l A c p w hr hl hlc hsh hrd he hk
    · obtain ⟨hwb, k, y, hf1, hf2, hf3⟩ := inv_found he (by omega)
      obtain ⟨z, hz1, hz2, hla, hz3, hz4⟩ := inv_words he hk hf1
      by_cases hto : p.to = []
      · rcases hla with hla | hla
        · exact rinv_2b1 l A c p w hr hl hlc hsh hrd he hk k y z hf1 hf2 hz1 hz2 hz3 hz4 hla hto
        · exact rinv_2b2 l A c p w hr hl hlc hsh hrd he hk k y z hf1 hf2 hz1 hz2 hz3 hz4 hla hto
      · rcases hla with hla | hla
        · cases ho : onceIs z.no p.to with
          | false => exact rinv_2a1 l A c p w hr hl hlc hsh hrd he hk k y z hf1 hf2 hz1 hz2 hz3 hz4 hla ho hto
          | true => exact rinv_2c1 l A c p w hr hl hlc hsh hrd he hk k y z hf1 hf2 hz1 hz2 hz3 hz4 hla ho hto
        · cases ho : onceIs z.so p.to with
          | false => exact rinv_2a2 l A c p w hr hl hlc hsh hrd he hk k y z hf1 hf2 hz1 hz2 hz3 hz4 hla ho hto
          | true => exact rinv_2c2 l A c p w hr hl hlc hsh hrd he hk k y z hf1 hf2 hz1 hz2 hz3 hz4 hla ho hto
    · exact rinv_3 l A c p w hr hl hlc hsh hrd he hk
    · exact rinv_4 l A c p w hr hl hlc hsh hrd he hk
    · exact rinv_5 l A c p w hr hl hlc hsh hrd he hk
    · exact rinv_6 l A c p w hr hl hlc hsh hrd he hk
    · exact rinv_7 l A c p w hr hl hlc hsh hrd he hk
  · exact rinv_err l A c p w hr hl hlc hsh hrd he
end Go.Proofs.Ytkdcenbommhnoaa
namespace Go.Proofs.Ytkdcenbommhnoaa
open Go.RowKit
theorem few_rready {p : Patch} (h : fewB p = true) : p.RReady := by
  obtain ⟨a, b, d⟩ := few_facts h
  refine ⟨a, b, ?_, d⟩
  unfold fewB few1 few2 few3 at h
  simp only [Bool.and_eq_true, decide_eq_true_eq] at h
  omega
theorem few_ready {p : Patch} (h : fewB p = true) : p.Ready := by
  obtain ⟨a, b, d⟩ := few_facts h
  exact ⟨a, b, d⟩
theorem apply_len (l : List Item) (p : Patch) (h : l.length ≤ 30) : (applyF l p).1.length ≤ 100000 := by
  by_cases h0 : (applyF l p).2 = 0
  · have := len_of_good ((kept_law h0).good); omega
  · rw [apply_err h0]; simp
theorem all_len : ∀ (ps : List Patch) (l : List Item) (i : Nat), l.length ≤ 100000 → (allF l ps i).1.length ≤ 100000
  | [], l, i, h => h
  | p :: r, l, i, h => by
    unfold allF
    by_cases h0 : (applyF l p).2 = 0
    · rw [if_pos h0]
      refine all_len r _ _ ?_
      have := len_of_good ((kept_law h0).good); omega
    · rw [if_neg h0]; simp
theorem allR_len (l : List Item) (ps : List Patch) (h : l.length ≤ 30) : (allR l ps).1.length ≤ 100000 := by
  unfold allR
  split
  · exact all_len ps l 0 (by omega)
  · simp
theorem gcell {W w : World} {m : Int} (hb : Below w.heap.size w W) (h : w.cell? ⟨0, 0, none⟩ = some (.int .i64 m)) : W.cell? ⟨0, 0, none⟩ = some (.int .i64 m) := step_cell hb h
set_option maxRecDepth 20000 in
set_option maxHeartbeats 8000000 in
theorem pmatch_a (l : List Item) (A : Option Addr) (c : Nat) (p : Patch) (ps : List Patch) (B : Option Addr) (dc : Nat) (w : World) (m : Int) (hr : RdI w A l) (hs : RdP w B ps) (hl : l.length ≤ maxLen) (hlc : l.length ≤ c) (hm : ps.length ≤ maxLen) (hfit : ∀ x ∈ l, x.Fits) (hpf : p.Fits) (hfp : ∀ q ∈ ps, q.Fits) (hg : w.cell? ⟨0, 0, none⟩ = some (.int .i64 m)) (hli : lightB l ps = false) : Calls Try.prog 9 #[.agg #[.slice A l.length c], p.agg, .slice B ps.length dc] w fun e w' => e = .returned (.bool true) ∧ Below w.heap.size w w' := by
  have hb0 := ((Below.refl w.heap.size w).alloc (Nat.le_refl _) (.cells #[.slice A l.length c] 24)).alloc (by simp) (.cells (patCs p) 28)
  have HB0 := Lib.hid hb0; clear hb0
  have HR := Lib.hid hr; clear hr
  have HS := Lib.hid hs; clear hs
  have HG := Lib.hid hg; clear hg
  have HFI := Lib.hid hfit; clear hfit
  have HFP := Lib.hid hfp; clear hfp
  have HPF := Lib.hid hpf; clear hpf
  have HLI := Lib.hid hli; clear hli
  have C0 : ((w.alloc (.cells #[.slice A l.length c] 24)).alloc (.cells (patCs p) 28)).cell? ⟨w.heap.size, 0, none⟩ = some (.slice A l.length c) := by simp [go_sem]
  have P0 : ((w.alloc (.cells #[.slice A l.length c] 24)).alloc (.cells (patCs p) 28)).blk (w.heap.size + 1) = some (.cells (patCs p) 28 (0, 0)) := by simp [go_sem]
  go_enter Try.func9, Try.ntmps9
  go_wp2_with fail
  refine (head_any _ m (step_cell HB0.out HG.out)).mono ?_
  rintro e w1 ⟨rfl, hb1⟩
  have C1 := keepw hb1 C0
  have P1 := rkeepk hb1 P0
  have HB1 := Lib.hid (HB0.out.trans (hb1.mono HB0.out.size))
  have y1 : w.heap.size < w1.heap.size := World.block_lt_of_cell? _ _ C1
  have z1 : w.heap.size + 1 < w1.heap.size := lt_of_heap P1
  clear hb1 C0 P0
  go_wp2_with fail
  refine (light_any l ps A B c dc _ (HR.out.below HB1.out) (HS.out.below HB1.out) hl hm HFI.out HFP.out).mono ?_
  rintro e w2 ⟨rfl, hb2⟩
  rw [HLI.out]
  have C2 := keepw hb2 C1
  have P2 := rkeepk hb2 P1
  have HB2 := Lib.hid (HB1.out.trans (hb2.mono HB1.out.size))
  have y2 : w.heap.size < w2.heap.size := World.block_lt_of_cell? _ _ C2
  have z2 : w.heap.size + 1 < w2.heap.size := lt_of_heap P2
  clear hb2 C1 P1 y1 z1 HB1 HB0
  go_wp2_with fail
  go_ret
  exact ⟨rfl, HB2.out⟩
set_option maxRecDepth 20000 in
set_option maxHeartbeats 8000000 in
theorem pmatch_b (l : List Item) (A : Option Addr) (c : Nat) (p : Patch) (ps : List Patch) (B : Option Addr) (dc : Nat) (w : World) (m : Int) (hr : RdI w A l) (hs : RdP w B ps) (hl : l.length ≤ maxLen) (hlc : l.length ≤ c) (hm : ps.length ≤ maxLen) (hfit : ∀ x ∈ l, x.Fits) (hpf : p.Fits) (hfp : ∀ q ∈ ps, q.Fits) (hg : w.cell? ⟨0, 0, none⟩ = some (.int .i64 m)) (hli : lightB l ps = true) (hfe : fewB p = false) : Calls Try.prog 9 #[.agg #[.slice A l.length c], p.agg, .slice B ps.length dc] w fun e w' => e = .returned (.bool true) ∧ Below w.heap.size w w' := by
  have HFE := Lib.hid hfe; clear hfe
  have hb0 := ((Below.refl w.heap.size w).alloc (Nat.le_refl _) (.cells #[.slice A l.length c] 24)).alloc (by simp) (.cells (patCs p) 28)
  have HB0 := Lib.hid hb0; clear hb0
  have HR := Lib.hid hr; clear hr
  have HS := Lib.hid hs; clear hs
  have HG := Lib.hid hg; clear hg
  have HFI := Lib.hid hfit; clear hfit
  have HFP := Lib.hid hfp; clear hfp
  have HPF := Lib.hid hpf; clear hpf
  have HLI := Lib.hid hli; clear hli
  have C0 : ((w.alloc (.cells #[.slice A l.length c] 24)).alloc (.cells (patCs p) 28)).cell? ⟨w.heap.size, 0, none⟩ = some (.slice A l.length c) := by simp [go_sem]
  have P0 : ((w.alloc (.cells #[.slice A l.length c] 24)).alloc (.cells (patCs p) 28)).blk (w.heap.size + 1) = some (.cells (patCs p) 28 (0, 0)) := by simp [go_sem]
  go_enter Try.func9, Try.ntmps9
  go_wp2_with fail
  refine (head_any _ m (step_cell HB0.out HG.out)).mono ?_
  rintro e w1 ⟨rfl, hb1⟩
  have C1 := keepw hb1 C0
  have P1 := rkeepk hb1 P0
  have HB1 := Lib.hid (HB0.out.trans (hb1.mono HB0.out.size))
  have y1 : w.heap.size < w1.heap.size := World.block_lt_of_cell? _ _ C1
  have z1 : w.heap.size + 1 < w1.heap.size := lt_of_heap P1
  clear hb1 C0 P0
  go_wp2_with fail
  refine (light_any l ps A B c dc _ (HR.out.below HB1.out) (HS.out.below HB1.out) hl hm HFI.out HFP.out).mono ?_
  rintro e w2 ⟨rfl, hb2⟩
  rw [HLI.out]
  have C2 := keepw hb2 C1
  have P2 := rkeepk hb2 P1
  have HB2 := Lib.hid (HB1.out.trans (hb2.mono HB1.out.size))
  have y2 : w.heap.size < w2.heap.size := World.block_lt_of_cell? _ _ C2
  have z2 : w.heap.size + 1 < w2.heap.size := lt_of_heap P2
  clear hb2 C1 P1 y1 z1 HB1 HB0
  go_wp2_with fail
  refine (few_any p _ HPF.out).mono ?_
  rintro e w3 ⟨rfl, hb3⟩
  rw [HFE.out]
  have C3 := keepw hb3 C2
  have P3 := rkeepk hb3 P2
  have HB3 := Lib.hid (HB2.out.trans (hb3.mono HB2.out.size))
  have y3 : w.heap.size < w3.heap.size := World.block_lt_of_cell? _ _ C3
  have z3 : w.heap.size + 1 < w3.heap.size := lt_of_heap P3
  clear hb3 C2 P2 y2 z2 HB2
  go_wp2_with fail
  go_ret
  exact ⟨rfl, HB3.out⟩
theorem rall_lit {l : List Item} {ps : List Patch} {r : List Item} {i e : Int} (h : allR l ps = (r, i, e)) (A B : Option Addr) (c d : Nat) (w : World) (hr : RdI w A l) (hs : RdP w B ps) (hl : l.length ≤ 100000) (hlc : l.length ≤ c) (hsh : ∀ x ∈ l, x.Short) (hps : ps.length ≤ 1000000) (hrd : ∀ p ∈ ps, p.RReady) :
    Calls Try.prog 25 #[.agg #[.slice A l.length c], .slice B ps.length d] w fun en w' => ∃ A' c', en = .returned (.tuple #[.agg #[.slice A' r.length c'], .int .i64 i, .int .i64 e]) ∧ RdI w' A' r ∧ r.length ≤ c' ∧ Below w.heap.size w w' := by
  have := rall_any l ps A B c d w hr hs hl hlc hsh hps hrd
  unfold RAlls at this
  rw [h] at this
  exact this
theorem all_lit {l : List Item} {ps : List Patch} {r : List Item} {i e : Int} (h : allR l ps = (r, i, e)) (A B : Option Addr) (n c d : Nat) (w : World) (hn : n = ps.length) (hr : RdI w A l) (hs : RdP w B ps) (hl : l.length ≤ 100000) (hlc : l.length ≤ c) (hsh : ∀ x ∈ l, x.Short) (hps : ps.length ≤ 1000000) (hrd : ∀ p ∈ ps, p.Ready) (m : Int) (hg : w.cell? ⟨0, 0, none⟩ = some (.int .i64 m)) :
    Calls Try.prog 21 #[.agg #[.slice A l.length c], .slice B n d] w fun en w' => ∃ v, en = .returned (.tuple #[v, .int .i64 i, .int .i64 e]) ∧ ResC w.heap.size w' v r ∧ Below w.heap.size w w' := by
  subst hn
  have := all_any l ps A B c d w hr hs hl hlc hsh hps hrd m hg
  unfold Alls at this
  rw [h] at this
  exact this
theorem apply_lit {l : List Item} {p : Patch} {r : List Item} {e : Int} (h1 : (applyF l p).1 = r) (h2 : (applyF l p).2 = e) (A : Option Addr) (c : Nat) (w : World) (hr : RdI w A l) (hl : l.length ≤ 100000) (hlc : l.length ≤ c) (hsh : ∀ x ∈ l, x.Short) (hrd : p.Ready) (m : Int) (hg : w.cell? ⟨0, 0, none⟩ = some (.int .i64 m)) :
    Calls Try.prog 13 #[.agg #[.slice A l.length c], p.agg] w fun en w' => ∃ v, en = .returned (.tuple #[v, .int .i64 e]) ∧ ResC w.heap.size w' v r ∧ Below w.heap.size w w' := by
  have := apply_any l A c p w hr hl hlc hsh hrd.item hrd.num m hg hrd.tlen
  unfold Applies at this
  rw [h1, h2] at this
  exact this
theorem invert_lit {l : List Item} {p q : Patch} {e : Int} (h : invertF l p = (q, e)) (A : Option Addr) (c : Nat) (w : World) (hr : RdI w A l) (hl : l.length ≤ 100000) (hlc : l.length ≤ c) (hsh : ∀ x ∈ l, x.Short) (hrd : p.Ready) (m : Int) (hg : w.cell? ⟨0, 0, none⟩ = some (.int .i64 m)) :
    Calls Try.prog 22 #[.agg #[.slice A l.length c], p.agg] w fun en w' => en = .returned (.tuple #[q.agg, .int .i64 e]) ∧ Below w.heap.size w w' := by
  have := invert_any l A c p w hr hl hlc hsh hrd.item hrd.num m hg hrd.tlen
  unfold Inverts at this
  rw [h] at this
  exact this
theorem rinvert_lit {l : List Item} {p q : Patch} {e : Int} (h : invertF l p = (q, e)) (A : Option Addr) (c : Nat) (w : World) (hr : RdI w A l) (hl : l.length ≤ 100000) (hlc : l.length ≤ c) (hsh : ∀ x ∈ l, x.Short) (hrd : p.RReady) :
    Calls Try.prog 26 #[.agg #[.slice A l.length c], p.agg] w fun en w' => en = .returned (.tuple #[q.agg, .int .i64 e]) ∧ Below w.heap.size w w' := by
  have := rinvert_any l A c p w hr hl hlc hsh hrd
  unfold RInverts at this
  rw [h] at this
  exact this
set_option maxRecDepth 20000 in
set_option maxHeartbeats 8000000 in
theorem pmatch_c (l : List Item) (A : Option Addr) (c : Nat) (p : Patch) (ps : List Patch) (B : Option Addr) (dc : Nat) (w : World) (m : Int) (hr : RdI w A l) (hs : RdP w B ps) (hl : l.length ≤ maxLen) (hlc : l.length ≤ c) (hm : ps.length ≤ maxLen) (hfit : ∀ x ∈ l, x.Fits) (hpf : p.Fits) (hfp : ∀ q ∈ ps, q.Fits) (hg : w.cell? ⟨0, 0, none⟩ = some (.int .i64 m)) (hli : lightB l ps = true) (hfe : fewB p = true) : Calls Try.prog 9 #[.agg #[.slice A l.length c], p.agg, .slice B ps.length dc] w fun e w' => e = .returned (.bool true) ∧ Below w.heap.size w w' := by
  have HL := Lib.hid (light_facts hli)
  have HLP := Lib.hid (light_pats hli)
  have HRY := Lib.hid (few_ready hfe)
  have HRR := Lib.hid (few_rready hfe)
  have HRYS := Lib.hid (fun q hq => few_ready ((light_pats hli).2 q hq))
  have HRRS := Lib.hid (fun q hq => few_rready ((light_pats hli).2 q hq))
  have hl30 : l.length ≤ 30 := HL.out.1
  have hp12 : ps.length ≤ 12 := HLP.out.1
  obtain ⟨al, ha1⟩ : ∃ al, (applyF l p).1 = al := ⟨_, rfl⟩
  obtain ⟨er, ha2⟩ : ∃ er, (applyF l p).2 = er := ⟨_, rfl⟩
  obtain ⟨xl, xn, xe, hal⟩ : ∃ xl xn xe, allR l ps = (xl, xn, xe) := ⟨_, _, _, rfl⟩
  obtain ⟨u, ue, hiv⟩ : ∃ u ue, invertF l p = (u, ue) := ⟨_, _, rfl⟩
  have hal1 : al.length ≤ 100000 := by rw [← ha1]; exact apply_len l p hl30
  have hal2 : xl.length ≤ 100000 := by have := allR_len l ps hl30; rw [hal] at this; exact this
  have HA1 := Lib.hid ha1; clear ha1
  have HA2 := Lib.hid ha2; clear ha2
  have HAL := Lib.hid hal; clear hal
  have HI := Lib.hid hiv; clear hiv
  have t1 : (er == er) = true := by simp
  have t2 : (xn == xn) = true := by simp
  have t3 : (xe == xe) = true := by simp
  have t4 : (ue == ue) = true := by simp
  have HFE := Lib.hid hfe; clear hfe
  have hb0 := ((Below.refl w.heap.size w).alloc (Nat.le_refl _) (.cells #[.slice A l.length c] 24)).alloc (by simp) (.cells (patCs p) 28)
  have HB0 := Lib.hid hb0; clear hb0
  have HR := Lib.hid hr; clear hr
  have HS := Lib.hid hs; clear hs
  have HG := Lib.hid hg; clear hg
  have HFI := Lib.hid hfit; clear hfit
  have HFP := Lib.hid hfp; clear hfp
  have HPF := Lib.hid hpf; clear hpf
  have HLI := Lib.hid hli; clear hli
  have C0 : ((w.alloc (.cells #[.slice A l.length c] 24)).alloc (.cells (patCs p) 28)).cell? ⟨w.heap.size, 0, none⟩ = some (.slice A l.length c) := by simp [go_sem]
  have P0 : ((w.alloc (.cells #[.slice A l.length c] 24)).alloc (.cells (patCs p) 28)).blk (w.heap.size + 1) = some (.cells (patCs p) 28 (0, 0)) := by simp [go_sem]
  go_enter Try.func9, Try.ntmps9
  go_wp2_with fail
  refine (head_any _ m (step_cell HB0.out HG.out)).mono ?_
  rintro e w1 ⟨rfl, hb1⟩
  have C1 := keepw hb1 C0
  have P1 := rkeepk hb1 P0
  have HB1 := Lib.hid (HB0.out.trans (hb1.mono HB0.out.size))
  have y1 : w.heap.size < w1.heap.size := World.block_lt_of_cell? _ _ C1
  have z1 : w.heap.size + 1 < w1.heap.size := lt_of_heap P1
  clear hb1 C0 P0
  go_wp2_with fail
  refine (light_any l ps A B c dc _ (HR.out.below HB1.out) (HS.out.below HB1.out) hl hm HFI.out HFP.out).mono ?_
  rintro e w2 ⟨rfl, hb2⟩
  rw [HLI.out]
  have C2 := keepw hb2 C1
  have P2 := rkeepk hb2 P1
  have HB2 := Lib.hid (HB1.out.trans (hb2.mono HB1.out.size))
  have y2 : w.heap.size < w2.heap.size := World.block_lt_of_cell? _ _ C2
  have z2 : w.heap.size + 1 < w2.heap.size := lt_of_heap P2
  clear hb2 C1 P1 y1 z1 HB1 HB0
  go_wp2_with fail
  refine (few_any p _ HPF.out).mono ?_
  rintro e w3 ⟨rfl, hb3⟩
  rw [HFE.out]
  have C3 := keepw hb3 C2
  have P3 := rkeepk hb3 P2
  have HB3 := Lib.hid (HB2.out.trans (hb3.mono HB2.out.size))
  have y3 : w.heap.size < w3.heap.size := World.block_lt_of_cell? _ _ C3
  have z3 : w.heap.size + 1 < w3.heap.size := lt_of_heap P3
  clear hb3 C2 P2 y2 z2 HB2
  go_wp2_with fail
  refine (apply_lit HA1.out HA2.out A c _ (HR.out.below HB3.out) (by omega) hlc HL.out.2 HRY.out m (gcell HB3.out HG.out)).mono ?_
  rintro e w4 ⟨va, rfl, ⟨Aa, ca, rfl, hra, hlca, -⟩, hb4⟩
  have hx4 := hb4
  have C4 := keepw hx4 C3
  have qC4 := World.block_lt_of_cell? _ _ C4
  have P4 := rkeepk hx4 P3
  have qP4 := lt_of_heap P4
  have HB4 := Lib.hid (HB3.out.trans (hx4.mono HB3.out.size))
  have HX4 := Lib.hid hx4
  clear hx4 hb4 C3 P3 y3 z3
  have HRa := Lib.hid hra; clear hra
  go_wp2_with fail
  refine (rapply_lit HA1.out HA2.out A c _ (HR.out.below (HB4.out.trans (((Below.refl _ _).alloc (Nat.le_refl _) _).mono HB4.out.size))) (by omega) hlc HL.out.2 HRR.out).mono ?_
  rintro e w5 ⟨vb, rfl, ⟨Ab, cb, rfl, hrb, hlcb, -⟩, hb5⟩
  have hx5 : Below w4.heap.size w4 w5 := ((Below.refl _ _).alloc (Nat.le_refl _) _).trans (hb5.mono (by simp))
  have C5 := keepw hx5 C4
  have qC5 := World.block_lt_of_cell? _ _ C5
  have P5 := rkeepk hx5 P4
  have qP5 := lt_of_heap P5
  have Ka5 : w5.cell? ⟨w4.heap.size, 0, none⟩ = some (.slice Aa al.length ca) := (hb5.cell (p := ⟨w4.heap.size, 0, none⟩) (by simp)).trans (by simp [go_sem])
  have qKa5 := World.block_lt_of_cell? _ _ Ka5
  have HB5 := Lib.hid (HB4.out.trans (hx5.mono HB4.out.size))
  have HX5 := Lib.hid hx5
  clear hx5 hb5 C4 qC4 P4 qP4
  have HRa5 := Lib.hid (HRa.out.below HX5.out)
  have HRb := Lib.hid hrb; clear hrb HRa
  go_wp2_with fail
  refine (all_lit HAL.out A B ps.length c dc _ rfl (HR.out.below (HB5.out.trans (((Below.refl _ _).alloc (Nat.le_refl _) _).mono HB5.out.size))) (HS.out.below (HB5.out.trans (((Below.refl _ _).alloc (Nat.le_refl _) _).mono HB5.out.size))) (by omega) hlc HL.out.2 (by omega) HRYS.out m (gcell (HB5.out.trans (((Below.refl _ _).alloc (Nat.le_refl _) _).mono HB5.out.size)) HG.out)).mono ?_
  rintro e w6 ⟨vx, rfl, ⟨Ax, cx, rfl, hrx, hlcx, -⟩, hb6⟩
  have hx6 : Below w5.heap.size w5 w6 := ((Below.refl _ _).alloc (Nat.le_refl _) _).trans (hb6.mono (by simp))
  have C6 := keepw hx6 C5
  have qC6 := World.block_lt_of_cell? _ _ C6
  have P6 := rkeepk hx6 P5
  have qP6 := lt_of_heap P6
  have Ka6 := keepw hx6 Ka5
  have qKa6 := World.block_lt_of_cell? _ _ Ka6
  have Kb6 : w6.cell? ⟨w5.heap.size, 0, none⟩ = some (.slice Ab al.length cb) := (hb6.cell (p := ⟨w5.heap.size, 0, none⟩) (by simp)).trans (by simp [go_sem])
  have qKb6 := World.block_lt_of_cell? _ _ Kb6
  have HB6 := Lib.hid (HB5.out.trans (hx6.mono HB5.out.size))
  have HX6 := Lib.hid hx6
  clear hx6 hb6 C5 qC5 P5 qP5 Ka5 qKa5
  have HRa6 := Lib.hid (HRa5.out.below HX6.out)
  have HRb6 := Lib.hid (HRb.out.below HX6.out)
  have HRx := Lib.hid hrx; clear hrx HRa5 HRb
  go_wp2_with fail
  refine (rall_lit HAL.out A B c dc _ (HR.out.below (HB6.out.trans (((Below.refl _ _).alloc (Nat.le_refl _) _).mono HB6.out.size))) (HS.out.below (HB6.out.trans (((Below.refl _ _).alloc (Nat.le_refl _) _).mono HB6.out.size))) (by omega) hlc HL.out.2 (by omega) HRRS.out).mono ?_
  rintro e w7 ⟨Ay, cy, rfl, hry, hlcy, hb7⟩
  have hx7 : Below w6.heap.size w6 w7 := ((Below.refl _ _).alloc (Nat.le_refl _) _).trans (hb7.mono (by simp))
  have C7 := keepw hx7 C6
  have qC7 := World.block_lt_of_cell? _ _ C7
  have P7 := rkeepk hx7 P6
  have qP7 := lt_of_heap P7
  have Ka7 := keepw hx7 Ka6
  have qKa7 := World.block_lt_of_cell? _ _ Ka7
  have Kb7 := keepw hx7 Kb6
  have qKb7 := World.block_lt_of_cell? _ _ Kb7
  have Kx7 : w7.cell? ⟨w6.heap.size, 0, none⟩ = some (.slice Ax xl.length cx) := (hb7.cell (p := ⟨w6.heap.size, 0, none⟩) (by simp)).trans (by simp [go_sem])
  have qKx7 := World.block_lt_of_cell? _ _ Kx7
  have HB7 := Lib.hid (HB6.out.trans (hx7.mono HB6.out.size))
  have HX7 := Lib.hid hx7
  clear hx7 hb7 C6 qC6 P6 qP6 Ka6 qKa6 Kb6 qKb6
  have HRa7 := Lib.hid (HRa6.out.below HX7.out)
  have HRb7 := Lib.hid (HRb6.out.below HX7.out)
  have HRx7 := Lib.hid (HRx.out.below HX7.out)
  have HRy := Lib.hid hry; clear hry HRa6 HRb6 HRx
  go_wp2_with fail
  refine (invert_lit HI.out A c _ (HR.out.below (HB7.out.trans (((Below.refl _ _).alloc (Nat.le_refl _) _).mono HB7.out.size))) (by omega) hlc HL.out.2 HRY.out m (gcell (HB7.out.trans (((Below.refl _ _).alloc (Nat.le_refl _) _).mono HB7.out.size)) HG.out)).mono ?_
  rintro e w8 ⟨rfl, hb8⟩
  have hx8 : Below w7.heap.size w7 w8 := ((Below.refl _ _).alloc (Nat.le_refl _) _).trans (hb8.mono (by simp))
  have C8 := keepw hx8 C7
  have qC8 := World.block_lt_of_cell? _ _ C8
  have P8 := rkeepk hx8 P7
  have qP8 := lt_of_heap P8
  have Ka8 := keepw hx8 Ka7
  have qKa8 := World.block_lt_of_cell? _ _ Ka8
  have Kb8 := keepw hx8 Kb7
  have qKb8 := World.block_lt_of_cell? _ _ Kb8
  have Kx8 := keepw hx8 Kx7
  have qKx8 := World.block_lt_of_cell? _ _ Kx8
  have Ky8 : w8.cell? ⟨w7.heap.size, 0, none⟩ = some (.slice Ay xl.length cy) := (hb8.cell (p := ⟨w7.heap.size, 0, none⟩) (by simp)).trans (by simp [go_sem])
  have qKy8 := World.block_lt_of_cell? _ _ Ky8
  have HB8 := Lib.hid (HB7.out.trans (hx8.mono HB7.out.size))
  have HX8 := Lib.hid hx8
  clear hx8 hb8 C7 qC7 P7 qP7 Ka7 qKa7 Kb7 qKb7 Kx7 qKx7
  have HRa8 := Lib.hid (HRa7.out.below HX8.out)
  have HRb8 := Lib.hid (HRb7.out.below HX8.out)
  have HRx8 := Lib.hid (HRx7.out.below HX8.out)
  have HRy8 := Lib.hid (HRy.out.below HX8.out)
  clear HRa7 HRb7 HRx7 HRy
  go_wp2_with fail
  refine (rinvert_lit HI.out A c _ (HR.out.below (HB8.out.trans (((Below.refl _ _).alloc (Nat.le_refl _) _).mono HB8.out.size))) (by omega) hlc HL.out.2 HRR.out).mono ?_
  rintro e w9 ⟨rfl, hb9⟩
  have hx9 : Below w8.heap.size w8 w9 := ((Below.refl _ _).alloc (Nat.le_refl _) _).trans (hb9.mono (by simp))
  have C9 := keepw hx9 C8
  have qC9 := World.block_lt_of_cell? _ _ C9
  have P9 := rkeepk hx9 P8
  have qP9 := lt_of_heap P9
  have Ka9 := keepw hx9 Ka8
  have qKa9 := World.block_lt_of_cell? _ _ Ka9
  have Kb9 := keepw hx9 Kb8
  have qKb9 := World.block_lt_of_cell? _ _ Kb9
  have Kx9 := keepw hx9 Kx8
  have qKx9 := World.block_lt_of_cell? _ _ Kx9
  have Ky9 := keepw hx9 Ky8
  have qKy9 := World.block_lt_of_cell? _ _ Ky9
  have Ku9 : w9.blk w8.heap.size = some (.cells (patCs u) 28 (0, 0)) := (hb9.block _ (by simp)).trans (blk_alloc_at rfl)
  have qKu9 := lt_of_heap Ku9
  have HB9 := Lib.hid (HB8.out.trans (hx9.mono HB8.out.size))
  have HX9 := Lib.hid hx9
  clear hx9 hb9 C8 qC8 P8 qP8 Ka8 qKa8 Kb8 qKb8 Kx8 qKx8 Ky8 qKy8
  have HRa9 := Lib.hid (HRa8.out.below HX9.out)
  have HRb9 := Lib.hid (HRb8.out.below HX9.out)
  have HRx9 := Lib.hid (HRx8.out.below HX9.out)
  have HRy9 := Lib.hid (HRy8.out.below HX9.out)
  clear HRa8 HRb8 HRx8 HRy8
  go_wp2_with fail
  refine (same_refl al Aa Ab ca cb _ (HRa9.out.below ((Below.refl _ _).alloc (Nat.le_refl _) _)) (HRb9.out.below ((Below.refl _ _).alloc (Nat.le_refl _) _)) (le_maxLen (by omega))).mono ?_
  rintro e w10 ⟨rfl, hb10⟩
  have hx10 : Below w9.heap.size w9 w10 := ((Below.refl _ _).alloc (Nat.le_refl _) _).trans (hb10.mono (by simp))
  have C10 := keepw hx10 C9
  have qC10 := World.block_lt_of_cell? _ _ C10
  have P10 := rkeepk hx10 P9
  have qP10 := lt_of_heap P10
  have Ka10 := keepw hx10 Ka9
  have qKa10 := World.block_lt_of_cell? _ _ Ka10
  have Kb10 := keepw hx10 Kb9
  have qKb10 := World.block_lt_of_cell? _ _ Kb10
  have Kx10 := keepw hx10 Kx9
  have qKx10 := World.block_lt_of_cell? _ _ Kx10
  have Ky10 := keepw hx10 Ky9
  have qKy10 := World.block_lt_of_cell? _ _ Ky10
  have Ku10 := rkeepk hx10 Ku9
  have qKu10 := lt_of_heap Ku10
  have Kv10 : w10.blk w9.heap.size = some (.cells (patCs u) 28 (0, 0)) := (hb10.block _ (by simp)).trans (blk_alloc_at rfl)
  have qKv10 := lt_of_heap Kv10
  have HB10 := Lib.hid (HB9.out.trans (hx10.mono HB9.out.size))
  have HX10 := Lib.hid hx10
  clear hx10 hb10 C9 qC9 P9 qP9 Ka9 qKa9 Kb9 qKb9 Kx9 qKx9 Ky9 qKy9 Ku9 qKu9
  have HRx10 := Lib.hid (HRx9.out.below HX10.out)
  have HRy10 := Lib.hid (HRy9.out.below HX10.out)
  go_wp2_with fail
  refine (same_refl xl Ax Ay cx cy _ HRx10.out HRy10.out (le_maxLen (by omega))).mono ?_
  rintro e w11 ⟨rfl, hb11⟩
  have hx11 := hb11
  have C11 := keepw hx11 C10
  have qC11 := World.block_lt_of_cell? _ _ C11
  have P11 := rkeepk hx11 P10
  have qP11 := lt_of_heap P11
  have Ka11 := keepw hx11 Ka10
  have qKa11 := World.block_lt_of_cell? _ _ Ka11
  have Kb11 := keepw hx11 Kb10
  have qKb11 := World.block_lt_of_cell? _ _ Kb11
  have Kx11 := keepw hx11 Kx10
  have qKx11 := World.block_lt_of_cell? _ _ Kx11
  have Ky11 := keepw hx11 Ky10
  have qKy11 := World.block_lt_of_cell? _ _ Ky11
  have Ku11 := rkeepk hx11 Ku10
  have qKu11 := lt_of_heap Ku11
  have Kv11 := rkeepk hx11 Kv10
  have qKv11 := lt_of_heap Kv11
  have HB11 := Lib.hid (HB10.out.trans (hx11.mono HB10.out.size))
  have HX11 := Lib.hid hx11
  clear hx11 hb11 C10 qC10 P10 qP10 Ka10 qKa10 Kb10 qKb10 Kx10 qKx10 Ky10 qKy10 Ku10 qKu10 Kv10 qKv10
  go_wp2_with fail
  refine (samePatch_refl u _).mono ?_
  rintro e w12 ⟨rfl, hb12⟩
  have HB12 := Lib.hid (HB11.out.trans (hb12.mono HB11.out.size))
  clear hb12
  go_wp2_with fail
  go_ret
  exact ⟨rfl, HB12.out⟩
theorem pmatch_any (l : List Item) (A : Option Addr) (c : Nat) (p : Patch) (ps : List Patch) (B : Option Addr) (dc : Nat) (w : World) (m : Int) (hr : RdI w A l) (hs : RdP w B ps) (hl : l.length ≤ maxLen) (hlc : l.length ≤ c) (hm : ps.length ≤ maxLen) (hfit : ∀ x ∈ l, x.Fits) (hpf : p.Fits) (hfp : ∀ q ∈ ps, q.Fits) (hg : w.cell? ⟨0, 0, none⟩ = some (.int .i64 m)) : Calls Try.prog 9 #[.agg #[.slice A l.length c], p.agg, .slice B ps.length dc] w fun e w' => e = .returned (.bool true) ∧ Below w.heap.size w w' := by
  cases hli : lightB l ps with
  | false => exact pmatch_a l A c p ps B dc w m hr hs hl hlc hm hfit hpf hfp hg hli
  | true =>
    cases hfe : fewB p with
    | false => exact pmatch_b l A c p ps B dc w m hr hs hl hlc hm hfit hpf hfp hg hli hfe
    | true => exact pmatch_c l A c p ps B dc w m hr hs hl hlc hm hfit hpf hfp hg hli hfe
end Go.Proofs.Ytkdcenbommhnoaa
namespace Go.Proofs.Ytkdcenbommhnoaa
open Go.ChangeShapes Go.WideShapes Go.ChangeAt Go.RowKit
theorem Try.own : ownKnob Try.prog.godebug = none := by kernel_rfl
theorem Try.laidOut : laidOutB Try.prog = true := by kernel_rfl
theorem maxLen_cell (W : World) (h : W.ShapedOpen Try.prog) : ∃ m, W.cell? ⟨0, 0, none⟩ = some (.int .i64 m) :=
  cell_of_shapedOpen_int (t := 3) (zero := #[.int .i64 0]) h (of_decide_eq_true (by kernel_rfl)) (by kernel_rfl) rfl (by kernel_rfl) (by kernel_rfl) Try.underlying3
section
variable {H : Type} {enc : TypeId × Value → H} {w : World} {base : Nat} {spare : Nat → Bool} {held : Bool}
theorem cells_pats : Try.prog.cellsOf 44 = 1 := by kernel_rfl
set_option maxRecDepth 100000 in
theorem open_pats {v : Value} {b0 : Nat} {d : DataW H} {p : List MemPlace} (hv : Value.okWide Try.prog w .any b0 44 v) (h : DataW.Trod enc Try.prog w base spare held 44 v d p) :
    ∃ (l : List Patch) (A : Option Addr) (c : Nat), v = .slice A l.length c ∧ RdP w A l ∧ l.length ≤ c ∧ c ≤ maxLen ∧ ((l = [] ∧ d = .nil) ∨ ∃ sp, d = .slice (l.map patD) sp) := by
  obtain ⟨a, n, m, rfl⟩ := okWide_slice Try.underlying44 hv
  obtain ⟨fuel, hf⟩ := h
  exact open_list (cs := Patch.cells) (D := patD) (s := 15) (by omega) Try.underlying44 cells_patch (fun x => rfl) open_patC hf
theorem pats_fits {ts : List TypeId} {ds : List (DataW H)} (hsz : (DataW.weightsEach Try.prog ts ds).all (· ≤ reachBytes) = true) {j : Nat} {d : DataW H} {l : List Patch} (ht : ts[j]? = some 44) (hd : ds[j]? = some d) (hc : (l = [] ∧ d = .nil) ∨ ∃ sp, d = .slice (l.map patD) sp) : ∀ x ∈ l, x.Fits := by
  intro x hx
  rcases hc with ⟨h1, _⟩ | ⟨sp, rfl⟩
  · subst h1; simp at hx
  refine fits_pat (H := H) (fun n hn => ?_)
  have := List.all_eq_true.1 hsz n (DataW.weights_mem_each ht hd n ?_)
  · simpa using this
  · simp only [DataW.weights, Try.underlying44]
    refine List.mem_cons_of_mem _ (List.mem_append_left _ (weightsAll_mem (List.mem_map_of_mem hx) hn))
end
set_option maxRecDepth 100000 in
theorem patchMatchesReference_lifted (os : Os) (started : os.Started) (H : Type) (enc : TypeId × Value → H) :
    ReturnsInHanded {} Try.checked os 9 .any (Rows.patchMatchesReferenceSpec.pre6 enc Try.prog Try.f9 Rows.patchMatchesReferenceRow.domain false) (Rows.patchMatchesReferenceSpec.post enc Try.prog Try.f9 false true false false) := by
  refine returnsInHanded_of_change_shaped (C := Try.checked) Try.own started (by kernel_rfl) Try.func9
    (ChangeSpec.witness6 (enc := enc) (C := Try.checked) false ⟨#[], #[.agg #[.slice none 0 0], .agg #[.int .i64 0, .string ⟨#[]⟩, .string ⟨#[]⟩, .string ⟨#[]⟩, .string ⟨#[]⟩, .int .i64 0, .string ⟨#[]⟩, .string ⟨#[]⟩, .string ⟨#[]⟩, .string ⟨#[]⟩, .string ⟨#[]⟩, .bool false, .int .i64 0, .string ⟨#[]⟩, .string ⟨#[]⟩], .slice none 0 0], []⟩ 8 (by kernel_rfl) (by kernel_rfl) (by kernel_rfl) (by kernel_rfl)) ?_
  intro W base args ds gs before hval0 hW hcnd0 hsz0 hsh _
  have hval : ∀ (j : Nat) t v, Try.f9.params[j]? = some t → args[j]? = some v → Value.okWide Try.prog W .any base t v := hval0
  have hsz : (DataW.weightsEach Try.prog (Try.f9.params.toList ++ Rows.patchMatchesReferenceSpec.plain.varTypes Try.prog) (ds ++ gs)).all (· ≤ reachBytes) = true := hsz0
  have hW' := hW
  obtain ⟨p, q, hA0, hV, rfl, hfz, hnd⟩ := hW
  have hA : DataW.TrodAll enc Try.prog W 0 (fun _ => true) true Try.f9.params.toList args.toList ds p := hA0
  rw [Try.params9] at hA hval hsz
  obtain ⟨v0, v1, v2, d0, d1, d2, p0, p1, p2, rfl, rfl, rfl, h0, h1, h2⟩ := trodAll_three hA
  obtain ⟨rfl, rfl⟩ := trodVars_none hV
  obtain ⟨l, A, c, rfl, hr, hlc, hl, hcd⟩ := open_code (hval 0 24 v0 rfl rfl) h0
  obtain ⟨pt, rfl, rfl⟩ := open_patch (hval 1 28 v1 rfl rfl) h1
  obtain ⟨ps, B, dc, rfl, hs, hmc, hdm, hpd⟩ := open_pats (hval 2 44 v2 rfl rfl) h2
  clear hA0 hval0
  simp only [List.append_nil] at hW'
  have hfit := code_fits hsz (j := 0) rfl rfl hcd
  have hpt := patch_fits hsz (j := 1) rfl rfl
  have hpf := pats_fits hsz (j := 2) rfl rfl hpd
  obtain ⟨m, hm⟩ := maxLen_cell W hsh
  have hlt : ∀ x ∈ p0 ++ (p1 ++ p2), x.block < W.heap.size := fun x hx => by simpa using hW'.lt x (by simpa using hx)
  refine (pmatch_any l A c pt ps B dc W m hr hs hl hlc (by omega) hfit hpt hpf hm).mono fun e W' ⟨he, bel⟩ => ?_
  subst he
  refine ⟨_, rfl, _, _, _, [], p0 ++ p1 ++ p2, [], hW', trodAll_mk1 (shut_bool Try.underlying4 _), ?_, rfl, bel.frame _, fun h => by cases h⟩
  have h3 := trodAll_mk3 (Below.trod Try.laidOut (by kernel_rfl) (of_decide_eq_true (by kernel_rfl)) h0 bel (fun x hx => hlt x (List.mem_append_left _ hx))) (Below.trod Try.laidOut (by kernel_rfl) (of_decide_eq_true (by kernel_rfl)) h1 bel (fun x hx => hlt x (List.mem_append_right _ (List.mem_append_left _ hx)))) (Below.trod Try.laidOut (by kernel_rfl) (of_decide_eq_true (by kernel_rfl)) h2 bel (fun x hx => hlt x (List.mem_append_right _ (List.mem_append_right _ hx))))
  rw [List.append_assoc]
  exact h3
theorem patchMatchesReference_holds : Rows.PatchMatchesReferenceSaid :=
  OpenClaim.holds_of_wide 9 Try.f9 rfl rfl rfl rfl rfl rfl rfl ⟨rfl, rfl, rfl, rfl, rfl⟩ rfl rfl rfl rfl rfl (by kernel_rfl) Try.func9 (by kernel_rfl)
    (of_decide_eq_true (by kernel_rfl)) (by unfold Func.isWrapper; rw [if_neg (of_decide_eq_false (by kernel_rfl))]; exact ⟨rfl, rfl⟩)
    (fun os started H enc _ => patchMatchesReference_lifted os started H enc)
#print axioms patchMatchesReference_holds
end Go.Proofs.Ytkdcenbommhnoaa
