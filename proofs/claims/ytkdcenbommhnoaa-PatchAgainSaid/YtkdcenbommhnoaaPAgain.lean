/- The law PatchAgain. -/
import Derived.Test.YtkdcenbommhnoaaCommon
set_option linter.unusedVariables false
set_option linter.unusedSimpArgs false
namespace Go.Proofs.Ytkdcenbommhnoaa
open Go.RowKit
set_option maxRecDepth 20000 in
set_option maxHeartbeats 2000000 in
theorem pagain_a (l : List Item) (A : Option Addr) (c : Nat) (p : Patch) (w : World) (m : Int) (hr : RdI w A l) (hl : l.length ≤ maxLen) (hlc : l.length ≤ c) (hfit : ∀ x ∈ l, x.Fits) (hpf : p.Fits) (hg : w.cell? ⟨0, 0, none⟩ = some (.int .i64 m)) (hli : lightB l [] = false) :
    Calls Try.prog 6 #[.agg #[.slice A l.length c], p.agg] w fun e w' => e = .returned (.bool true) ∧ Below w.heap.size w w' := by
  have hsz0 : 0 < w.heap.size := World.block_lt_of_cell? w _ hg
  have hb0 := ((Below.refl w.heap.size w).alloc (Nat.le_refl _) (.cells #[.slice A l.length c] 24)).alloc (by simp) (.cells (patCs p) 28)
  have HB0 := Lib.hid hb0; clear hb0
  have HR := Lib.hid hr; clear hr
  have HG := Lib.hid hg; clear hg
  have HFI := Lib.hid hfit; clear hfit
  have HPF := Lib.hid hpf; clear hpf
  have HLI := Lib.hid hli; clear hli
  go_enter Try.func6, Try.ntmps6
  go_wp2_with fail
  refine (head_any _ m (step_cell HB0.out HG.out)).mono ?_
  rintro e w1 ⟨rfl, hb1⟩
  obtain ⟨hc, hf⟩ := bcell hb1
  have hblk := bblk hb1
  have HB1 := Lib.hid hb1; clear hb1
  go_wp2_with fail
  refine (light_any l [] A none c 0 _ ((HR.out.below HB0.out).below HB1.out) Sl.nil hl (by simp) HFI.out (by simp)).mono ?_
  rintro e w2 ⟨rfl, hb2⟩
  rw [HLI.out]
  have hb3 := HB1.out.trans (hb2.mono HB1.out.size)
  clear hc hf hblk hb2 HB1
  obtain ⟨hc, hf⟩ := bcell hb3
  have hblk := bblk hb3
  have HB2 := Lib.hid hb3; clear hb3
  go_wp2_with fail
  go_ret
  exact ⟨rfl, HB0.out.trans (HB2.out.mono HB0.out.size)⟩
set_option maxRecDepth 20000 in
set_option maxHeartbeats 2000000 in
theorem pagain_b (l : List Item) (A : Option Addr) (c : Nat) (p : Patch) (w : World) (m : Int) (hr : RdI w A l) (hl : l.length ≤ maxLen) (hlc : l.length ≤ c) (hfit : ∀ x ∈ l, x.Fits) (hpf : p.Fits) (hg : w.cell? ⟨0, 0, none⟩ = some (.int .i64 m)) (hli : lightB l [] = true) (hfe : fewB p = false) :
    Calls Try.prog 6 #[.agg #[.slice A l.length c], p.agg] w fun e w' => e = .returned (.bool true) ∧ Below w.heap.size w w' := by
  have hsz0 : 0 < w.heap.size := World.block_lt_of_cell? w _ hg
  have hb0 := ((Below.refl w.heap.size w).alloc (Nat.le_refl _) (.cells #[.slice A l.length c] 24)).alloc (by simp) (.cells (patCs p) 28)
  have HB0 := Lib.hid hb0; clear hb0
  have HR := Lib.hid hr; clear hr
  have HG := Lib.hid hg; clear hg
  have HFI := Lib.hid hfit; clear hfit
  have HPF := Lib.hid hpf; clear hpf
  have HLI := Lib.hid hli; clear hli
  have HFE := Lib.hid hfe; clear hfe
  go_enter Try.func6, Try.ntmps6
  go_wp2_with fail
  refine (head_any _ m (step_cell HB0.out HG.out)).mono ?_
  rintro e w1 ⟨rfl, hb1⟩
  obtain ⟨hc, hf⟩ := bcell hb1
  have hblk := bblk hb1
  have HB1 := Lib.hid hb1; clear hb1
  go_wp2_with fail
  refine (light_any l [] A none c 0 _ ((HR.out.below HB0.out).below HB1.out) Sl.nil hl (by simp) HFI.out (by simp)).mono ?_
  rintro e w2 ⟨rfl, hb2⟩
  rw [HLI.out]
  have hb3 := HB1.out.trans (hb2.mono HB1.out.size)
  clear hc hf hblk hb2 HB1
  obtain ⟨hc, hf⟩ := bcell hb3
  have hblk := bblk hb3
  have HB2 := Lib.hid hb3; clear hb3
  go_wp2_with fail
  refine (few_any p _ HPF.out).mono ?_
  rintro e w3 ⟨rfl, hb2⟩
  rw [HFE.out]
  have hb3 := HB2.out.trans (hb2.mono HB2.out.size)
  clear hc hf hblk hb2 HB2
  obtain ⟨hc, hf⟩ := bcell hb3
  have hblk := bblk hb3
  have HB3 := Lib.hid hb3; clear hb3
  go_wp2_with fail
  go_ret
  exact ⟨rfl, HB0.out.trans (HB3.out.mono HB0.out.size)⟩
set_option maxRecDepth 20000 in
set_option maxHeartbeats 2000000 in
theorem pagain_c (l : List Item) (A : Option Addr) (c : Nat) (p : Patch) (w : World) (m : Int) (hr : RdI w A l) (hl : l.length ≤ maxLen) (hlc : l.length ≤ c) (hfit : ∀ x ∈ l, x.Fits) (hpf : p.Fits) (hg : w.cell? ⟨0, 0, none⟩ = some (.int .i64 m)) (hli : lightB l [] = true) (hfe : fewB p = true) (er : Int) (hd : (applyF l p).1 = []) (her : (applyF l p).2 = er) (h0 : er ≠ 0) :
    Calls Try.prog 6 #[.agg #[.slice A l.length c], p.agg] w fun e w' => e = .returned (.bool true) ∧ Below w.heap.size w w' := by
  have h0e : (er != 0) = true := by simpa using h0
  clear h0
  have hsz0 : 0 < w.heap.size := World.block_lt_of_cell? w _ hg
  have hb0 := ((Below.refl w.heap.size w).alloc (Nat.le_refl _) (.cells #[.slice A l.length c] 24)).alloc (by simp) (.cells (patCs p) 28)
  have HB0 := Lib.hid hb0; clear hb0
  have HR := Lib.hid hr; clear hr
  have HG := Lib.hid hg; clear hg
  have HFI := Lib.hid hfit; clear hfit
  have HPF := Lib.hid hpf; clear hpf
  have HLI := Lib.hid hli; clear hli
  have HFE := Lib.hid hfe; clear hfe
  go_enter Try.func6, Try.ntmps6
  go_wp2_with fail
  refine (head_any _ m (step_cell HB0.out HG.out)).mono ?_
  rintro e w1 ⟨rfl, hb1⟩
  obtain ⟨hc, hf⟩ := bcell hb1
  have hblk := bblk hb1
  have HB1 := Lib.hid hb1; clear hb1
  go_wp2_with fail
  refine (light_any l [] A none c 0 _ ((HR.out.below HB0.out).below HB1.out) Sl.nil hl (by simp) HFI.out (by simp)).mono ?_
  rintro e w2 ⟨rfl, hb2⟩
  rw [HLI.out]
  have hb3 := HB1.out.trans (hb2.mono HB1.out.size)
  clear hc hf hblk hb2 HB1
  obtain ⟨hc, hf⟩ := bcell hb3
  have hblk := bblk hb3
  have HB2 := Lib.hid hb3; clear hb3
  go_wp2_with fail
  refine (few_any p _ HPF.out).mono ?_
  rintro e w3 ⟨rfl, hb2⟩
  rw [HFE.out]
  have hb3 := HB2.out.trans (hb2.mono HB2.out.size)
  clear hc hf hblk hb2 HB2
  obtain ⟨hc, hf⟩ := bcell hb3
  have hblk := bblk hb3
  have HB3 := Lib.hid hb3; clear hb3
  go_wp2_with fail
  have HL := Lib.hid (light_facts HLI.out)
  have HFF := Lib.hid (few_facts HFE.out)
  have hap := apply_any l A c p w3 ((HR.out.below HB0.out).below HB3.out) (by have := HL.out.1; omega) hlc HL.out.2 HFF.out.1 HFF.out.2.1 m (step_cell (HB0.out.trans (HB3.out.mono HB0.out.size)) HG.out) HFF.out.2.2
  unfold Applies at hap
  rw [hd, her] at hap
  refine hap.mono ?_
  rintro e w4 ⟨v, rfl, ⟨A', c', rfl, hr', hlc', hA'⟩, hb2⟩
  have hb3 := HB3.out.trans (hb2.mono HB3.out.size)
  clear hc hf hblk hb2 HB3 hap
  obtain ⟨hc, hf⟩ := bcell hb3
  have hblk := bblk hb3
  have HB4 := Lib.hid hb3; clear hb3
  have HR' := Lib.hid hr'; clear hr'
  go_wp2_with fail
  go_ret
  exact ⟨rfl, HB0.out.trans ((HB4.out.alloc (by have := HB4.out.size; simp at this ⊢; omega) _).mono HB0.out.size)⟩
set_option maxRecDepth 20000 in
set_option maxHeartbeats 2000000 in
theorem pagain_1 (l : List Item) (A : Option Addr) (c : Nat) (p : Patch) (w : World) (m : Int) (hr : RdI w A l) (hl : l.length ≤ maxLen) (hlc : l.length ≤ c) (hfit : ∀ x ∈ l, x.Fits) (hpf : p.Fits) (hg : w.cell? ⟨0, 0, none⟩ = some (.int .i64 m)) (hli : lightB l [] = true) (hfe : fewB p = true) (d : List Item) (hd : (applyF l p).1 = d) (her : (applyF l p).2 = 0) (hk : p.kind = 1) (h2 : (applyF d p).2 = 9) :
    Calls Try.prog 6 #[.agg #[.slice A l.length c], p.agg] w fun e w' => e = .returned (.bool true) ∧ Below w.heap.size w w' := by
  have hK := kept_law her
  rw [hd] at hK
  have hvd := hK.good
  have HD := Lib.hid hd
  have HE := Lib.hid her
  have HV := Lib.hid hvd; clear hvd
  have hk1 : (p.kind == 1) = true := by simp [hk]
  have hk5 : (p.kind == 5) = false := by simp [hk]
  have hk6 : (p.kind == 6) = false := by simp [hk]
  have hk3 : (p.kind == 3) = false := by simp [hk]
  have hk4 : (p.kind == 4) = false := by simp [hk]
  have hk7 : (p.kind == 7) = false := by simp [hk]
  have H2 := Lib.hid h2; clear h2 hk
  have HK := Lib.hid hK; clear hK
  have hsz0 : 0 < w.heap.size := World.block_lt_of_cell? w _ hg
  have hb0 := ((Below.refl w.heap.size w).alloc (Nat.le_refl _) (.cells #[.slice A l.length c] 24)).alloc (by simp) (.cells (patCs p) 28)
  have HB0 := Lib.hid hb0; clear hb0
  have HR := Lib.hid hr; clear hr
  have HG := Lib.hid hg; clear hg
  have HFI := Lib.hid hfit; clear hfit
  have HPF := Lib.hid hpf; clear hpf
  have HLI := Lib.hid hli; clear hli
  have HFE := Lib.hid hfe; clear hfe
  clear hd her
  go_enter Try.func6, Try.ntmps6
  go_wp2_with fail
  refine (head_any _ m (step_cell HB0.out HG.out)).mono ?_
  rintro e w1 ⟨rfl, hb1⟩
  obtain ⟨hc, hf⟩ := bcell hb1
  have hblk := bblk hb1
  have HB1 := Lib.hid hb1; clear hb1
  go_wp2_with fail
  refine (light_any l [] A none c 0 _ ((HR.out.below HB0.out).below HB1.out) Sl.nil hl (by simp) HFI.out (by simp)).mono ?_
  rintro e w2 ⟨rfl, hb2⟩
  rw [HLI.out]
  have hb3 := HB1.out.trans (hb2.mono HB1.out.size)
  clear hc hf hblk hb2 HB1
  obtain ⟨hc, hf⟩ := bcell hb3
  have hblk := bblk hb3
  have HB2 := Lib.hid hb3; clear hb3
  go_wp2_with fail
  refine (few_any p _ HPF.out).mono ?_
  rintro e w3 ⟨rfl, hb2⟩
  rw [HFE.out]
  have hb3 := HB2.out.trans (hb2.mono HB2.out.size)
  clear hc hf hblk hb2 HB2
  obtain ⟨hc, hf⟩ := bcell hb3
  have hblk := bblk hb3
  have HB3 := Lib.hid hb3; clear hb3
  go_wp2_with fail
  have HL := Lib.hid (light_facts HLI.out)
  have HFF := Lib.hid (few_facts HFE.out)
  have hap := apply_any l A c p w3 ((HR.out.below HB0.out).below HB3.out) (by have := HL.out.1; omega) hlc HL.out.2 HFF.out.1 HFF.out.2.1 m (step_cell (HB0.out.trans (HB3.out.mono HB0.out.size)) HG.out) HFF.out.2.2
  unfold Applies at hap
  rw [HD.out, HE.out] at hap
  refine hap.mono ?_
  rintro e w4 ⟨v, rfl, ⟨A', c', rfl, hr', hlc', hA'⟩, hb2⟩
  have hb3 := HB3.out.trans (hb2.mono HB3.out.size)
  clear hc hf hblk hb2 HB3 hap
  obtain ⟨hc, hf⟩ := bcell hb3
  have hblk := bblk hb3
  have HB4 := Lib.hid hb3; clear hb3
  have HR' := Lib.hid hr'; clear hr'
  have hz4 := HB4.out.size
  simp at hz4
  have z1 : w.heap.size < w4.heap.size := by omega
  have z2 : w.heap.size + 1 < w4.heap.size := by omega
  go_wp2_with fail
  have hdl2 : d.length ≤ 2000 := len_of_good HV.out
  have HDS := Lib.hid (short_of_good HV.out)
  have HG4 := Lib.hid (step_cell (HB0.out.trans (HB4.out.mono HB0.out.size)) HG.out)
  have hap2 := apply_any d A' c' p _ (HR'.out.below ((Below.refl _ _).alloc (Nat.le_refl _) (.cells #[.slice A' d.length c'] 24))) (by omega) hlc' HDS.out HFF.out.1 HFF.out.2.1 m (step_cell ((Below.refl _ _).alloc (Nat.le_refl _) _) HG4.out) HFF.out.2.2
  unfold Applies at hap2
  rw [H2.out] at hap2
  refine hap2.mono ?_
  rintro e w6 ⟨v, rfl, ⟨A2, c2, rfl, hr2, hlc2, -⟩, hb6⟩
  have K6 := step_box hb6
  have zb6 := World.block_lt_of_cell? _ _ K6
  have HR6 := Lib.hid (HR'.out.below (step_below hb6))
  have HR2 := Lib.hid hr2; clear hr2 hap2
  have hb7 := HB4.out.trans ((step_below hb6).mono (by simp; omega))
  clear hc hf hblk hb6
  obtain ⟨hc, hf⟩ := bcell hb7
  have hblk := bblk hb7
  have HB6 := Lib.hid hb7; clear hb7
  have hz6 := HB6.out.size
  simp at hz6
  have z3 : w.heap.size < w6.heap.size := by omega
  have z4 : w.heap.size + 1 < w6.heap.size := by omega
  go_wp2_with fail
  go_ret
  exact ⟨rfl, HB0.out.trans ((HB6.out.alloc (by simp; omega) _).mono HB0.out.size)⟩
set_option maxRecDepth 20000 in
set_option maxHeartbeats 2000000 in
theorem pagain_5 (l : List Item) (A : Option Addr) (c : Nat) (p : Patch) (w : World) (m : Int) (hr : RdI w A l) (hl : l.length ≤ maxLen) (hlc : l.length ≤ c) (hfit : ∀ x ∈ l, x.Fits) (hpf : p.Fits) (hg : w.cell? ⟨0, 0, none⟩ = some (.int .i64 m)) (hli : lightB l [] = true) (hfe : fewB p = true) (d : List Item) (hd : (applyF l p).1 = d) (her : (applyF l p).2 = 0) (hk : p.kind = 5) (h2 : (applyF d p).2 = 16) :
    Calls Try.prog 6 #[.agg #[.slice A l.length c], p.agg] w fun e w' => e = .returned (.bool true) ∧ Below w.heap.size w w' := by
  have hK := kept_law her
  rw [hd] at hK
  have hvd := hK.good
  have HD := Lib.hid hd
  have HE := Lib.hid her
  have HV := Lib.hid hvd; clear hvd
  have hk1 : (p.kind == 1) = false := by simp [hk]
  have hk5 : (p.kind == 5) = true := by simp [hk]
  have hk6 : (p.kind == 6) = false := by simp [hk]
  have hk3 : (p.kind == 3) = false := by simp [hk]
  have hk4 : (p.kind == 4) = false := by simp [hk]
  have hk7 : (p.kind == 7) = false := by simp [hk]
  have H2 := Lib.hid h2; clear h2 hk
  have HK := Lib.hid hK; clear hK
  have hsz0 : 0 < w.heap.size := World.block_lt_of_cell? w _ hg
  have hb0 := ((Below.refl w.heap.size w).alloc (Nat.le_refl _) (.cells #[.slice A l.length c] 24)).alloc (by simp) (.cells (patCs p) 28)
  have HB0 := Lib.hid hb0; clear hb0
  have HR := Lib.hid hr; clear hr
  have HG := Lib.hid hg; clear hg
  have HFI := Lib.hid hfit; clear hfit
  have HPF := Lib.hid hpf; clear hpf
  have HLI := Lib.hid hli; clear hli
  have HFE := Lib.hid hfe; clear hfe
  clear hd her
  go_enter Try.func6, Try.ntmps6
  go_wp2_with fail
  refine (head_any _ m (step_cell HB0.out HG.out)).mono ?_
  rintro e w1 ⟨rfl, hb1⟩
  obtain ⟨hc, hf⟩ := bcell hb1
  have hblk := bblk hb1
  have HB1 := Lib.hid hb1; clear hb1
  go_wp2_with fail
  refine (light_any l [] A none c 0 _ ((HR.out.below HB0.out).below HB1.out) Sl.nil hl (by simp) HFI.out (by simp)).mono ?_
  rintro e w2 ⟨rfl, hb2⟩
  rw [HLI.out]
  have hb3 := HB1.out.trans (hb2.mono HB1.out.size)
  clear hc hf hblk hb2 HB1
  obtain ⟨hc, hf⟩ := bcell hb3
  have hblk := bblk hb3
  have HB2 := Lib.hid hb3; clear hb3
  go_wp2_with fail
  refine (few_any p _ HPF.out).mono ?_
  rintro e w3 ⟨rfl, hb2⟩
  rw [HFE.out]
  have hb3 := HB2.out.trans (hb2.mono HB2.out.size)
  clear hc hf hblk hb2 HB2
  obtain ⟨hc, hf⟩ := bcell hb3
  have hblk := bblk hb3
  have HB3 := Lib.hid hb3; clear hb3
  go_wp2_with fail
  have HL := Lib.hid (light_facts HLI.out)
  have HFF := Lib.hid (few_facts HFE.out)
  have hap := apply_any l A c p w3 ((HR.out.below HB0.out).below HB3.out) (by have := HL.out.1; omega) hlc HL.out.2 HFF.out.1 HFF.out.2.1 m (step_cell (HB0.out.trans (HB3.out.mono HB0.out.size)) HG.out) HFF.out.2.2
  unfold Applies at hap
  rw [HD.out, HE.out] at hap
  refine hap.mono ?_
  rintro e w4 ⟨v, rfl, ⟨A', c', rfl, hr', hlc', hA'⟩, hb2⟩
  have hb3 := HB3.out.trans (hb2.mono HB3.out.size)
  clear hc hf hblk hb2 HB3 hap
  obtain ⟨hc, hf⟩ := bcell hb3
  have hblk := bblk hb3
  have HB4 := Lib.hid hb3; clear hb3
  have HR' := Lib.hid hr'; clear hr'
  have hz4 := HB4.out.size
  simp at hz4
  have z1 : w.heap.size < w4.heap.size := by omega
  have z2 : w.heap.size + 1 < w4.heap.size := by omega
  go_wp2_with fail
  have hdl2 : d.length ≤ 2000 := len_of_good HV.out
  have HDS := Lib.hid (short_of_good HV.out)
  have HG4 := Lib.hid (step_cell (HB0.out.trans (HB4.out.mono HB0.out.size)) HG.out)
  have hap2 := apply_any d A' c' p _ (HR'.out.below ((Below.refl _ _).alloc (Nat.le_refl _) (.cells #[.slice A' d.length c'] 24))) (by omega) hlc' HDS.out HFF.out.1 HFF.out.2.1 m (step_cell ((Below.refl _ _).alloc (Nat.le_refl _) _) HG4.out) HFF.out.2.2
  unfold Applies at hap2
  rw [H2.out] at hap2
  refine hap2.mono ?_
  rintro e w6 ⟨v, rfl, ⟨A2, c2, rfl, hr2, hlc2, -⟩, hb6⟩
  have K6 := step_box hb6
  have zb6 := World.block_lt_of_cell? _ _ K6
  have HR6 := Lib.hid (HR'.out.below (step_below hb6))
  have HR2 := Lib.hid hr2; clear hr2 hap2
  have hb7 := HB4.out.trans ((step_below hb6).mono (by simp; omega))
  clear hc hf hblk hb6
  obtain ⟨hc, hf⟩ := bcell hb7
  have hblk := bblk hb7
  have HB6 := Lib.hid hb7; clear hb7
  have hz6 := HB6.out.size
  simp at hz6
  have z3 : w.heap.size < w6.heap.size := by omega
  have z4 : w.heap.size + 1 < w6.heap.size := by omega
  go_wp2_with fail
  go_ret
  exact ⟨rfl, HB0.out.trans ((HB6.out.alloc (by simp; omega) _).mono HB0.out.size)⟩
set_option maxRecDepth 20000 in
set_option maxHeartbeats 2000000 in
theorem pagain_6 (l : List Item) (A : Option Addr) (c : Nat) (p : Patch) (w : World) (m : Int) (hr : RdI w A l) (hl : l.length ≤ maxLen) (hlc : l.length ≤ c) (hfit : ∀ x ∈ l, x.Fits) (hpf : p.Fits) (hg : w.cell? ⟨0, 0, none⟩ = some (.int .i64 m)) (hli : lightB l [] = true) (hfe : fewB p = true) (d : List Item) (hd : (applyF l p).1 = d) (her : (applyF l p).2 = 0) (hk : p.kind = 6) (h2 : (applyF d p).2 = 12) :
    Calls Try.prog 6 #[.agg #[.slice A l.length c], p.agg] w fun e w' => e = .returned (.bool true) ∧ Below w.heap.size w w' := by
  have hK := kept_law her
  rw [hd] at hK
  have hvd := hK.good
  have HD := Lib.hid hd
  have HE := Lib.hid her
  have HV := Lib.hid hvd; clear hvd
  have hk1 : (p.kind == 1) = false := by simp [hk]
  have hk5 : (p.kind == 5) = false := by simp [hk]
  have hk6 : (p.kind == 6) = true := by simp [hk]
  have hk3 : (p.kind == 3) = false := by simp [hk]
  have hk4 : (p.kind == 4) = false := by simp [hk]
  have hk7 : (p.kind == 7) = false := by simp [hk]
  have H2 := Lib.hid h2; clear h2 hk
  have HK := Lib.hid hK; clear hK
  have hsz0 : 0 < w.heap.size := World.block_lt_of_cell? w _ hg
  have hb0 := ((Below.refl w.heap.size w).alloc (Nat.le_refl _) (.cells #[.slice A l.length c] 24)).alloc (by simp) (.cells (patCs p) 28)
  have HB0 := Lib.hid hb0; clear hb0
  have HR := Lib.hid hr; clear hr
  have HG := Lib.hid hg; clear hg
  have HFI := Lib.hid hfit; clear hfit
  have HPF := Lib.hid hpf; clear hpf
  have HLI := Lib.hid hli; clear hli
  have HFE := Lib.hid hfe; clear hfe
  clear hd her
  go_enter Try.func6, Try.ntmps6
  go_wp2_with fail
  refine (head_any _ m (step_cell HB0.out HG.out)).mono ?_
  rintro e w1 ⟨rfl, hb1⟩
  obtain ⟨hc, hf⟩ := bcell hb1
  have hblk := bblk hb1
  have HB1 := Lib.hid hb1; clear hb1
  go_wp2_with fail
  refine (light_any l [] A none c 0 _ ((HR.out.below HB0.out).below HB1.out) Sl.nil hl (by simp) HFI.out (by simp)).mono ?_
  rintro e w2 ⟨rfl, hb2⟩
  rw [HLI.out]
  have hb3 := HB1.out.trans (hb2.mono HB1.out.size)
  clear hc hf hblk hb2 HB1
  obtain ⟨hc, hf⟩ := bcell hb3
  have hblk := bblk hb3
  have HB2 := Lib.hid hb3; clear hb3
  go_wp2_with fail
  refine (few_any p _ HPF.out).mono ?_
  rintro e w3 ⟨rfl, hb2⟩
  rw [HFE.out]
  have hb3 := HB2.out.trans (hb2.mono HB2.out.size)
  clear hc hf hblk hb2 HB2
  obtain ⟨hc, hf⟩ := bcell hb3
  have hblk := bblk hb3
  have HB3 := Lib.hid hb3; clear hb3
  go_wp2_with fail
  have HL := Lib.hid (light_facts HLI.out)
  have HFF := Lib.hid (few_facts HFE.out)
  have hap := apply_any l A c p w3 ((HR.out.below HB0.out).below HB3.out) (by have := HL.out.1; omega) hlc HL.out.2 HFF.out.1 HFF.out.2.1 m (step_cell (HB0.out.trans (HB3.out.mono HB0.out.size)) HG.out) HFF.out.2.2
  unfold Applies at hap
  rw [HD.out, HE.out] at hap
  refine hap.mono ?_
  rintro e w4 ⟨v, rfl, ⟨A', c', rfl, hr', hlc', hA'⟩, hb2⟩
  have hb3 := HB3.out.trans (hb2.mono HB3.out.size)
  clear hc hf hblk hb2 HB3 hap
  obtain ⟨hc, hf⟩ := bcell hb3
  have hblk := bblk hb3
  have HB4 := Lib.hid hb3; clear hb3
  have HR' := Lib.hid hr'; clear hr'
  have hz4 := HB4.out.size
  simp at hz4
  have z1 : w.heap.size < w4.heap.size := by omega
  have z2 : w.heap.size + 1 < w4.heap.size := by omega
  go_wp2_with fail
  have hdl2 : d.length ≤ 2000 := len_of_good HV.out
  have HDS := Lib.hid (short_of_good HV.out)
  have HG4 := Lib.hid (step_cell (HB0.out.trans (HB4.out.mono HB0.out.size)) HG.out)
  have hap2 := apply_any d A' c' p _ (HR'.out.below ((Below.refl _ _).alloc (Nat.le_refl _) (.cells #[.slice A' d.length c'] 24))) (by omega) hlc' HDS.out HFF.out.1 HFF.out.2.1 m (step_cell ((Below.refl _ _).alloc (Nat.le_refl _) _) HG4.out) HFF.out.2.2
  unfold Applies at hap2
  rw [H2.out] at hap2
  refine hap2.mono ?_
  rintro e w6 ⟨v, rfl, ⟨A2, c2, rfl, hr2, hlc2, -⟩, hb6⟩
  have K6 := step_box hb6
  have zb6 := World.block_lt_of_cell? _ _ K6
  have HR6 := Lib.hid (HR'.out.below (step_below hb6))
  have HR2 := Lib.hid hr2; clear hr2 hap2
  have hb7 := HB4.out.trans ((step_below hb6).mono (by simp; omega))
  clear hc hf hblk hb6
  obtain ⟨hc, hf⟩ := bcell hb7
  have hblk := bblk hb7
  have HB6 := Lib.hid hb7; clear hb7
  have hz6 := HB6.out.size
  simp at hz6
  have z3 : w.heap.size < w6.heap.size := by omega
  have z4 : w.heap.size + 1 < w6.heap.size := by omega
  go_wp2_with fail
  go_ret
  exact ⟨rfl, HB0.out.trans ((HB6.out.alloc (by simp; omega) _).mono HB0.out.size)⟩
set_option maxRecDepth 20000 in
set_option maxHeartbeats 2000000 in
theorem pagain_2 (l : List Item) (A : Option Addr) (c : Nat) (p : Patch) (w : World) (m : Int) (hr : RdI w A l) (hl : l.length ≤ maxLen) (hlc : l.length ≤ c) (hfit : ∀ x ∈ l, x.Fits) (hpf : p.Fits) (hg : w.cell? ⟨0, 0, none⟩ = some (.int .i64 m)) (hli : lightB l [] = true) (hfe : fewB p = true) (d : List Item) (hd : (applyF l p).1 = d) (her : (applyF l p).2 = 0) (hk : p.kind = 2) (er2 : Int) (h2 : (applyF d p).2 = er2) :
    Calls Try.prog 6 #[.agg #[.slice A l.length c], p.agg] w fun e w' => e = .returned (.bool true) ∧ Below w.heap.size w w' := by
  have hK := kept_law her
  rw [hd] at hK
  have hvd := hK.good
  have HD := Lib.hid hd
  have HE := Lib.hid her
  have HV := Lib.hid hvd; clear hvd
  have hk1 : (p.kind == 1) = false := by simp [hk]
  have hk5 : (p.kind == 5) = false := by simp [hk]
  have hk6 : (p.kind == 6) = false := by simp [hk]
  have hk3 : (p.kind == 3) = false := by simp [hk]
  have hk4 : (p.kind == 4) = false := by simp [hk]
  have hk7 : (p.kind == 7) = false := by simp [hk]
  have H2 := Lib.hid h2; clear h2 hk
  have HK := Lib.hid hK; clear hK
  have hsz0 : 0 < w.heap.size := World.block_lt_of_cell? w _ hg
  have hb0 := ((Below.refl w.heap.size w).alloc (Nat.le_refl _) (.cells #[.slice A l.length c] 24)).alloc (by simp) (.cells (patCs p) 28)
  have HB0 := Lib.hid hb0; clear hb0
  have HR := Lib.hid hr; clear hr
  have HG := Lib.hid hg; clear hg
  have HFI := Lib.hid hfit; clear hfit
  have HPF := Lib.hid hpf; clear hpf
  have HLI := Lib.hid hli; clear hli
  have HFE := Lib.hid hfe; clear hfe
  clear hd her
  go_enter Try.func6, Try.ntmps6
  go_wp2_with fail
  refine (head_any _ m (step_cell HB0.out HG.out)).mono ?_
  rintro e w1 ⟨rfl, hb1⟩
  obtain ⟨hc, hf⟩ := bcell hb1
  have hblk := bblk hb1
  have HB1 := Lib.hid hb1; clear hb1
  go_wp2_with fail
  refine (light_any l [] A none c 0 _ ((HR.out.below HB0.out).below HB1.out) Sl.nil hl (by simp) HFI.out (by simp)).mono ?_
  rintro e w2 ⟨rfl, hb2⟩
  rw [HLI.out]
  have hb3 := HB1.out.trans (hb2.mono HB1.out.size)
  clear hc hf hblk hb2 HB1
  obtain ⟨hc, hf⟩ := bcell hb3
  have hblk := bblk hb3
  have HB2 := Lib.hid hb3; clear hb3
  go_wp2_with fail
  refine (few_any p _ HPF.out).mono ?_
  rintro e w3 ⟨rfl, hb2⟩
  rw [HFE.out]
  have hb3 := HB2.out.trans (hb2.mono HB2.out.size)
  clear hc hf hblk hb2 HB2
  obtain ⟨hc, hf⟩ := bcell hb3
  have hblk := bblk hb3
  have HB3 := Lib.hid hb3; clear hb3
  go_wp2_with fail
  have HL := Lib.hid (light_facts HLI.out)
  have HFF := Lib.hid (few_facts HFE.out)
  have hap := apply_any l A c p w3 ((HR.out.below HB0.out).below HB3.out) (by have := HL.out.1; omega) hlc HL.out.2 HFF.out.1 HFF.out.2.1 m (step_cell (HB0.out.trans (HB3.out.mono HB0.out.size)) HG.out) HFF.out.2.2
  unfold Applies at hap
  rw [HD.out, HE.out] at hap
  refine hap.mono ?_
  rintro e w4 ⟨v, rfl, ⟨A', c', rfl, hr', hlc', hA'⟩, hb2⟩
  have hb3 := HB3.out.trans (hb2.mono HB3.out.size)
  clear hc hf hblk hb2 HB3 hap
  obtain ⟨hc, hf⟩ := bcell hb3
  have hblk := bblk hb3
  have HB4 := Lib.hid hb3; clear hb3
  have HR' := Lib.hid hr'; clear hr'
  have hz4 := HB4.out.size
  simp at hz4
  have z1 : w.heap.size < w4.heap.size := by omega
  have z2 : w.heap.size + 1 < w4.heap.size := by omega
  go_wp2_with fail
  have hdl2 : d.length ≤ 2000 := len_of_good HV.out
  have HDS := Lib.hid (short_of_good HV.out)
  have HG4 := Lib.hid (step_cell (HB0.out.trans (HB4.out.mono HB0.out.size)) HG.out)
  have hap2 := apply_any d A' c' p _ (HR'.out.below ((Below.refl _ _).alloc (Nat.le_refl _) (.cells #[.slice A' d.length c'] 24))) (by omega) hlc' HDS.out HFF.out.1 HFF.out.2.1 m (step_cell ((Below.refl _ _).alloc (Nat.le_refl _) _) HG4.out) HFF.out.2.2
  unfold Applies at hap2
  rw [H2.out] at hap2
  refine hap2.mono ?_
  rintro e w6 ⟨v, rfl, ⟨A2, c2, rfl, hr2, hlc2, -⟩, hb6⟩
  have K6 := step_box hb6
  have zb6 := World.block_lt_of_cell? _ _ K6
  have HR6 := Lib.hid (HR'.out.below (step_below hb6))
  have HR2 := Lib.hid hr2; clear hr2 hap2
  have hb7 := HB4.out.trans ((step_below hb6).mono (by simp; omega))
  clear hc hf hblk hb6
  obtain ⟨hc, hf⟩ := bcell hb7
  have hblk := bblk hb7
  have HB6 := Lib.hid hb7; clear hb7
  have hz6 := HB6.out.size
  simp at hz6
  have z3 : w.heap.size < w6.heap.size := by omega
  have z4 : w.heap.size + 1 < w6.heap.size := by omega
  go_wp2_with fail
  go_ret
  exact ⟨rfl, HB0.out.trans ((HB6.out.alloc (by simp; omega) _).mono HB0.out.size)⟩
set_option maxRecDepth 20000 in
set_option maxHeartbeats 2000000 in
theorem pagain_3 (l : List Item) (A : Option Addr) (c : Nat) (p : Patch) (w : World) (m : Int) (hr : RdI w A l) (hl : l.length ≤ maxLen) (hlc : l.length ≤ c) (hfit : ∀ x ∈ l, x.Fits) (hpf : p.Fits) (hg : w.cell? ⟨0, 0, none⟩ = some (.int .i64 m)) (hli : lightB l [] = true) (hfe : fewB p = true) (d : List Item) (hd : (applyF l p).1 = d) (her : (applyF l p).2 = 0) (hk : p.kind = 3) (h2 : applyF d p = (d, 0)) :
    Calls Try.prog 6 #[.agg #[.slice A l.length c], p.agg] w fun e w' => e = .returned (.bool true) ∧ Below w.heap.size w w' := by
  have hK := kept_law her
  rw [hd] at hK
  have hvd := hK.good
  have HD := Lib.hid hd
  have HE := Lib.hid her
  have HV := Lib.hid hvd; clear hvd
  have hk1 : (p.kind == 1) = false := by simp [hk]
  have hk5 : (p.kind == 5) = false := by simp [hk]
  have hk6 : (p.kind == 6) = false := by simp [hk]
  have hk3 : (p.kind == 3) = true := by simp [hk]
  have hk4 : (p.kind == 4) = false := by simp [hk]
  have hk7 : (p.kind == 7) = false := by simp [hk]
  have H2 := Lib.hid h2; clear h2 hk
  have HK := Lib.hid hK; clear hK
  have hsz0 : 0 < w.heap.size := World.block_lt_of_cell? w _ hg
  have hb0 := ((Below.refl w.heap.size w).alloc (Nat.le_refl _) (.cells #[.slice A l.length c] 24)).alloc (by simp) (.cells (patCs p) 28)
  have HB0 := Lib.hid hb0; clear hb0
  have HR := Lib.hid hr; clear hr
  have HG := Lib.hid hg; clear hg
  have HFI := Lib.hid hfit; clear hfit
  have HPF := Lib.hid hpf; clear hpf
  have HLI := Lib.hid hli; clear hli
  have HFE := Lib.hid hfe; clear hfe
  clear hd her
  go_enter Try.func6, Try.ntmps6
  go_wp2_with fail
  refine (head_any _ m (step_cell HB0.out HG.out)).mono ?_
  rintro e w1 ⟨rfl, hb1⟩
  obtain ⟨hc, hf⟩ := bcell hb1
  have hblk := bblk hb1
  have HB1 := Lib.hid hb1; clear hb1
  go_wp2_with fail
  refine (light_any l [] A none c 0 _ ((HR.out.below HB0.out).below HB1.out) Sl.nil hl (by simp) HFI.out (by simp)).mono ?_
  rintro e w2 ⟨rfl, hb2⟩
  rw [HLI.out]
  have hb3 := HB1.out.trans (hb2.mono HB1.out.size)
  clear hc hf hblk hb2 HB1
  obtain ⟨hc, hf⟩ := bcell hb3
  have hblk := bblk hb3
  have HB2 := Lib.hid hb3; clear hb3
  go_wp2_with fail
  refine (few_any p _ HPF.out).mono ?_
  rintro e w3 ⟨rfl, hb2⟩
  rw [HFE.out]
  have hb3 := HB2.out.trans (hb2.mono HB2.out.size)
  clear hc hf hblk hb2 HB2
  obtain ⟨hc, hf⟩ := bcell hb3
  have hblk := bblk hb3
  have HB3 := Lib.hid hb3; clear hb3
  go_wp2_with fail
  have HL := Lib.hid (light_facts HLI.out)
  have HFF := Lib.hid (few_facts HFE.out)
  have hap := apply_any l A c p w3 ((HR.out.below HB0.out).below HB3.out) (by have := HL.out.1; omega) hlc HL.out.2 HFF.out.1 HFF.out.2.1 m (step_cell (HB0.out.trans (HB3.out.mono HB0.out.size)) HG.out) HFF.out.2.2
  unfold Applies at hap
  rw [HD.out, HE.out] at hap
  refine hap.mono ?_
  rintro e w4 ⟨v, rfl, ⟨A', c', rfl, hr', hlc', hA'⟩, hb2⟩
  have hb3 := HB3.out.trans (hb2.mono HB3.out.size)
  clear hc hf hblk hb2 HB3 hap
  obtain ⟨hc, hf⟩ := bcell hb3
  have hblk := bblk hb3
  have HB4 := Lib.hid hb3; clear hb3
  have HR' := Lib.hid hr'; clear hr'
  have hz4 := HB4.out.size
  simp at hz4
  have z1 : w.heap.size < w4.heap.size := by omega
  have z2 : w.heap.size + 1 < w4.heap.size := by omega
  go_wp2_with fail
  have hdl2 : d.length ≤ 2000 := len_of_good HV.out
  have HDS := Lib.hid (short_of_good HV.out)
  have HG4 := Lib.hid (step_cell (HB0.out.trans (HB4.out.mono HB0.out.size)) HG.out)
  have hap2 := apply_any d A' c' p _ (HR'.out.below ((Below.refl _ _).alloc (Nat.le_refl _) (.cells #[.slice A' d.length c'] 24))) (by omega) hlc' HDS.out HFF.out.1 HFF.out.2.1 m (step_cell ((Below.refl _ _).alloc (Nat.le_refl _) _) HG4.out) HFF.out.2.2
  unfold Applies at hap2
  rw [H2.out] at hap2
  refine hap2.mono ?_
  rintro e w6 ⟨v, rfl, ⟨A2, c2, rfl, hr2, hlc2, -⟩, hb6⟩
  have K6 := step_box hb6
  have zb6 := World.block_lt_of_cell? _ _ K6
  have HR6 := Lib.hid (HR'.out.below (step_below hb6))
  have HR2 := Lib.hid hr2; clear hr2 hap2
  have hb7 := HB4.out.trans ((step_below hb6).mono (by simp; omega))
  clear hc hf hblk hb6
  obtain ⟨hc, hf⟩ := bcell hb7
  have hblk := bblk hb7
  have HB6 := Lib.hid hb7; clear hb7
  have hz6 := HB6.out.size
  simp at hz6
  have z3 : w.heap.size < w6.heap.size := by omega
  have z4 : w.heap.size + 1 < w6.heap.size := by omega
  go_wp2_with fail
  refine (same_refl d A2 A' c2 c' _ (HR2.out.below ((Below.refl _ _).alloc (Nat.le_refl _) _)) (HR6.out.below ((Below.refl _ _).alloc (Nat.le_refl _) _)) (le_maxLen (by omega))).mono ?_
  rintro e w8 ⟨rfl, hb8⟩
  have HB8 := Lib.hid (HB6.out.trans ((step_below hb8).mono HB6.out.size)); clear hb8
  go_wp2_with fail
  go_ret
  exact ⟨rfl, HB0.out.trans (HB8.out.mono HB0.out.size)⟩
set_option maxRecDepth 20000 in
set_option maxHeartbeats 2000000 in
theorem pagain_4 (l : List Item) (A : Option Addr) (c : Nat) (p : Patch) (w : World) (m : Int) (hr : RdI w A l) (hl : l.length ≤ maxLen) (hlc : l.length ≤ c) (hfit : ∀ x ∈ l, x.Fits) (hpf : p.Fits) (hg : w.cell? ⟨0, 0, none⟩ = some (.int .i64 m)) (hli : lightB l [] = true) (hfe : fewB p = true) (d : List Item) (hd : (applyF l p).1 = d) (her : (applyF l p).2 = 0) (hk : p.kind = 4) (h2 : applyF d p = (d, 0)) :
    Calls Try.prog 6 #[.agg #[.slice A l.length c], p.agg] w fun e w' => e = .returned (.bool true) ∧ Below w.heap.size w w' := by
  have hK := kept_law her
  rw [hd] at hK
  have hvd := hK.good
  have HD := Lib.hid hd
  have HE := Lib.hid her
  have HV := Lib.hid hvd; clear hvd
  have hk1 : (p.kind == 1) = false := by simp [hk]
  have hk5 : (p.kind == 5) = false := by simp [hk]
  have hk6 : (p.kind == 6) = false := by simp [hk]
  have hk3 : (p.kind == 3) = false := by simp [hk]
  have hk4 : (p.kind == 4) = true := by simp [hk]
  have hk7 : (p.kind == 7) = false := by simp [hk]
  have H2 := Lib.hid h2; clear h2 hk
  have HK := Lib.hid hK; clear hK
  have hsz0 : 0 < w.heap.size := World.block_lt_of_cell? w _ hg
  have hb0 := ((Below.refl w.heap.size w).alloc (Nat.le_refl _) (.cells #[.slice A l.length c] 24)).alloc (by simp) (.cells (patCs p) 28)
  have HB0 := Lib.hid hb0; clear hb0
  have HR := Lib.hid hr; clear hr
  have HG := Lib.hid hg; clear hg
  have HFI := Lib.hid hfit; clear hfit
  have HPF := Lib.hid hpf; clear hpf
  have HLI := Lib.hid hli; clear hli
  have HFE := Lib.hid hfe; clear hfe
  clear hd her
  go_enter Try.func6, Try.ntmps6
  go_wp2_with fail
  refine (head_any _ m (step_cell HB0.out HG.out)).mono ?_
  rintro e w1 ⟨rfl, hb1⟩
  obtain ⟨hc, hf⟩ := bcell hb1
  have hblk := bblk hb1
  have HB1 := Lib.hid hb1; clear hb1
  go_wp2_with fail
  refine (light_any l [] A none c 0 _ ((HR.out.below HB0.out).below HB1.out) Sl.nil hl (by simp) HFI.out (by simp)).mono ?_
  rintro e w2 ⟨rfl, hb2⟩
  rw [HLI.out]
  have hb3 := HB1.out.trans (hb2.mono HB1.out.size)
  clear hc hf hblk hb2 HB1
  obtain ⟨hc, hf⟩ := bcell hb3
  have hblk := bblk hb3
  have HB2 := Lib.hid hb3; clear hb3
  go_wp2_with fail
  refine (few_any p _ HPF.out).mono ?_
  rintro e w3 ⟨rfl, hb2⟩
  rw [HFE.out]
  have hb3 := HB2.out.trans (hb2.mono HB2.out.size)
  clear hc hf hblk hb2 HB2
  obtain ⟨hc, hf⟩ := bcell hb3
  have hblk := bblk hb3
  have HB3 := Lib.hid hb3; clear hb3
  go_wp2_with fail
  have HL := Lib.hid (light_facts HLI.out)
  have HFF := Lib.hid (few_facts HFE.out)
  have hap := apply_any l A c p w3 ((HR.out.below HB0.out).below HB3.out) (by have := HL.out.1; omega) hlc HL.out.2 HFF.out.1 HFF.out.2.1 m (step_cell (HB0.out.trans (HB3.out.mono HB0.out.size)) HG.out) HFF.out.2.2
  unfold Applies at hap
  rw [HD.out, HE.out] at hap
  refine hap.mono ?_
  rintro e w4 ⟨v, rfl, ⟨A', c', rfl, hr', hlc', hA'⟩, hb2⟩
  have hb3 := HB3.out.trans (hb2.mono HB3.out.size)
  clear hc hf hblk hb2 HB3 hap
  obtain ⟨hc, hf⟩ := bcell hb3
  have hblk := bblk hb3
  have HB4 := Lib.hid hb3; clear hb3
  have HR' := Lib.hid hr'; clear hr'
  have hz4 := HB4.out.size
  simp at hz4
  have z1 : w.heap.size < w4.heap.size := by omega
  have z2 : w.heap.size + 1 < w4.heap.size := by omega
  go_wp2_with fail
  have hdl2 : d.length ≤ 2000 := len_of_good HV.out
  have HDS := Lib.hid (short_of_good HV.out)
  have HG4 := Lib.hid (step_cell (HB0.out.trans (HB4.out.mono HB0.out.size)) HG.out)
  have hap2 := apply_any d A' c' p _ (HR'.out.below ((Below.refl _ _).alloc (Nat.le_refl _) (.cells #[.slice A' d.length c'] 24))) (by omega) hlc' HDS.out HFF.out.1 HFF.out.2.1 m (step_cell ((Below.refl _ _).alloc (Nat.le_refl _) _) HG4.out) HFF.out.2.2
  unfold Applies at hap2
  rw [H2.out] at hap2
  refine hap2.mono ?_
  rintro e w6 ⟨v, rfl, ⟨A2, c2, rfl, hr2, hlc2, -⟩, hb6⟩
  have K6 := step_box hb6
  have zb6 := World.block_lt_of_cell? _ _ K6
  have HR6 := Lib.hid (HR'.out.below (step_below hb6))
  have HR2 := Lib.hid hr2; clear hr2 hap2
  have hb7 := HB4.out.trans ((step_below hb6).mono (by simp; omega))
  clear hc hf hblk hb6
  obtain ⟨hc, hf⟩ := bcell hb7
  have hblk := bblk hb7
  have HB6 := Lib.hid hb7; clear hb7
  have hz6 := HB6.out.size
  simp at hz6
  have z3 : w.heap.size < w6.heap.size := by omega
  have z4 : w.heap.size + 1 < w6.heap.size := by omega
  go_wp2_with fail
  refine (same_refl d A2 A' c2 c' _ (HR2.out.below ((Below.refl _ _).alloc (Nat.le_refl _) _)) (HR6.out.below ((Below.refl _ _).alloc (Nat.le_refl _) _)) (le_maxLen (by omega))).mono ?_
  rintro e w8 ⟨rfl, hb8⟩
  have HB8 := Lib.hid (HB6.out.trans ((step_below hb8).mono HB6.out.size)); clear hb8
  go_wp2_with fail
  go_ret
  exact ⟨rfl, HB0.out.trans (HB8.out.mono HB0.out.size)⟩
set_option maxRecDepth 20000 in
set_option maxHeartbeats 2000000 in
theorem pagain_7 (l : List Item) (A : Option Addr) (c : Nat) (p : Patch) (w : World) (m : Int) (hr : RdI w A l) (hl : l.length ≤ maxLen) (hlc : l.length ≤ c) (hfit : ∀ x ∈ l, x.Fits) (hpf : p.Fits) (hg : w.cell? ⟨0, 0, none⟩ = some (.int .i64 m)) (hli : lightB l [] = true) (hfe : fewB p = true) (d : List Item) (hd : (applyF l p).1 = d) (her : (applyF l p).2 = 0) (hk : p.kind = 7) (h2 : applyF d p = (d, 0)) :
    Calls Try.prog 6 #[.agg #[.slice A l.length c], p.agg] w fun e w' => e = .returned (.bool true) ∧ Below w.heap.size w w' := by
  have hK := kept_law her
  rw [hd] at hK
  have hvd := hK.good
  have HD := Lib.hid hd
  have HE := Lib.hid her
  have HV := Lib.hid hvd; clear hvd
  have hk1 : (p.kind == 1) = false := by simp [hk]
  have hk5 : (p.kind == 5) = false := by simp [hk]
  have hk6 : (p.kind == 6) = false := by simp [hk]
  have hk3 : (p.kind == 3) = false := by simp [hk]
  have hk4 : (p.kind == 4) = false := by simp [hk]
  have hk7 : (p.kind == 7) = true := by simp [hk]
  have H2 := Lib.hid h2; clear h2 hk
  have HK := Lib.hid hK; clear hK
  have hsz0 : 0 < w.heap.size := World.block_lt_of_cell? w _ hg
  have hb0 := ((Below.refl w.heap.size w).alloc (Nat.le_refl _) (.cells #[.slice A l.length c] 24)).alloc (by simp) (.cells (patCs p) 28)
  have HB0 := Lib.hid hb0; clear hb0
  have HR := Lib.hid hr; clear hr
  have HG := Lib.hid hg; clear hg
  have HFI := Lib.hid hfit; clear hfit
  have HPF := Lib.hid hpf; clear hpf
  have HLI := Lib.hid hli; clear hli
  have HFE := Lib.hid hfe; clear hfe
  clear hd her
  go_enter Try.func6, Try.ntmps6
  go_wp2_with fail
  refine (head_any _ m (step_cell HB0.out HG.out)).mono ?_
  rintro e w1 ⟨rfl, hb1⟩
  obtain ⟨hc, hf⟩ := bcell hb1
  have hblk := bblk hb1
  have HB1 := Lib.hid hb1; clear hb1
  go_wp2_with fail
  refine (light_any l [] A none c 0 _ ((HR.out.below HB0.out).below HB1.out) Sl.nil hl (by simp) HFI.out (by simp)).mono ?_
  rintro e w2 ⟨rfl, hb2⟩
  rw [HLI.out]
  have hb3 := HB1.out.trans (hb2.mono HB1.out.size)
  clear hc hf hblk hb2 HB1
  obtain ⟨hc, hf⟩ := bcell hb3
  have hblk := bblk hb3
  have HB2 := Lib.hid hb3; clear hb3
  go_wp2_with fail
  refine (few_any p _ HPF.out).mono ?_
  rintro e w3 ⟨rfl, hb2⟩
  rw [HFE.out]
  have hb3 := HB2.out.trans (hb2.mono HB2.out.size)
  clear hc hf hblk hb2 HB2
  obtain ⟨hc, hf⟩ := bcell hb3
  have hblk := bblk hb3
  have HB3 := Lib.hid hb3; clear hb3
  go_wp2_with fail
  have HL := Lib.hid (light_facts HLI.out)
  have HFF := Lib.hid (few_facts HFE.out)
  have hap := apply_any l A c p w3 ((HR.out.below HB0.out).below HB3.out) (by have := HL.out.1; omega) hlc HL.out.2 HFF.out.1 HFF.out.2.1 m (step_cell (HB0.out.trans (HB3.out.mono HB0.out.size)) HG.out) HFF.out.2.2
  unfold Applies at hap
  rw [HD.out, HE.out] at hap
  refine hap.mono ?_
  rintro e w4 ⟨v, rfl, ⟨A', c', rfl, hr', hlc', hA'⟩, hb2⟩
  have hb3 := HB3.out.trans (hb2.mono HB3.out.size)
  clear hc hf hblk hb2 HB3 hap
  obtain ⟨hc, hf⟩ := bcell hb3
  have hblk := bblk hb3
  have HB4 := Lib.hid hb3; clear hb3
  have HR' := Lib.hid hr'; clear hr'
  have hz4 := HB4.out.size
  simp at hz4
  have z1 : w.heap.size < w4.heap.size := by omega
  have z2 : w.heap.size + 1 < w4.heap.size := by omega
  go_wp2_with fail
  have hdl2 : d.length ≤ 2000 := len_of_good HV.out
  have HDS := Lib.hid (short_of_good HV.out)
  have HG4 := Lib.hid (step_cell (HB0.out.trans (HB4.out.mono HB0.out.size)) HG.out)
  have hap2 := apply_any d A' c' p _ (HR'.out.below ((Below.refl _ _).alloc (Nat.le_refl _) (.cells #[.slice A' d.length c'] 24))) (by omega) hlc' HDS.out HFF.out.1 HFF.out.2.1 m (step_cell ((Below.refl _ _).alloc (Nat.le_refl _) _) HG4.out) HFF.out.2.2
  unfold Applies at hap2
  rw [H2.out] at hap2
  refine hap2.mono ?_
  rintro e w6 ⟨v, rfl, ⟨A2, c2, rfl, hr2, hlc2, -⟩, hb6⟩
  have K6 := step_box hb6
  have zb6 := World.block_lt_of_cell? _ _ K6
  have HR6 := Lib.hid (HR'.out.below (step_below hb6))
  have HR2 := Lib.hid hr2; clear hr2 hap2
  have hb7 := HB4.out.trans ((step_below hb6).mono (by simp; omega))
  clear hc hf hblk hb6
  obtain ⟨hc, hf⟩ := bcell hb7
  have hblk := bblk hb7
  have HB6 := Lib.hid hb7; clear hb7
  have hz6 := HB6.out.size
  simp at hz6
  have z3 : w.heap.size < w6.heap.size := by omega
  have z4 : w.heap.size + 1 < w6.heap.size := by omega
  go_wp2_with fail
  refine (same_refl d A2 A' c2 c' _ (HR2.out.below ((Below.refl _ _).alloc (Nat.le_refl _) _)) (HR6.out.below ((Below.refl _ _).alloc (Nat.le_refl _) _)) (le_maxLen (by omega))).mono ?_
  rintro e w8 ⟨rfl, hb8⟩
  have HB8 := Lib.hid (HB6.out.trans ((step_below hb8).mono HB6.out.size)); clear hb8
  go_wp2_with fail
  go_ret
  exact ⟨rfl, HB0.out.trans (HB8.out.mono HB0.out.size)⟩
theorem pagain_any (l : List Item) (A : Option Addr) (c : Nat) (p : Patch) (w : World) (m : Int) (hr : RdI w A l) (hl : l.length ≤ maxLen) (hlc : l.length ≤ c) (hfit : ∀ x ∈ l, x.Fits) (hpf : p.Fits) (hg : w.cell? ⟨0, 0, none⟩ = some (.int .i64 m)) : Calls Try.prog 6 #[.agg #[.slice A l.length c], p.agg] w fun e w' => e = .returned (.bool true) ∧ Below w.heap.size w w' := by
  cases hli : lightB l [] with
  | false => exact pagain_a l A c p w m hr hl hlc hfit hpf hg hli
  | true =>
    cases hfe : fewB p with
    | false => exact pagain_b l A c p w m hr hl hlc hfit hpf hg hli hfe
    | true =>
      by_cases h0 : (applyF l p).2 = 0
      · obtain ⟨h1, h5, h6, h347⟩ := again_law h0
        obtain ⟨R, hG, hf, _⟩ := apply_done h0
        have hkk := formed_kind hf
        have hks : p.kind = 1 ∨ p.kind = 2 ∨ p.kind = 3 ∨ p.kind = 4 ∨ p.kind = 5 ∨ p.kind = 6 ∨ p.kind = 7 := by omega
        rcases hks with hk | hk | hk | hk | hk | hk | hk
        · exact pagain_1 l A c p w m hr hl hlc hfit hpf hg hli hfe _ rfl h0 hk (h1 hk)
        · exact pagain_2 l A c p w m hr hl hlc hfit hpf hg hli hfe _ rfl h0 hk _ rfl
        · exact pagain_3 l A c p w m hr hl hlc hfit hpf hg hli hfe _ rfl h0 hk (h347 (.inl hk))
        · exact pagain_4 l A c p w m hr hl hlc hfit hpf hg hli hfe _ rfl h0 hk (h347 (.inr (.inl hk)))
        · exact pagain_5 l A c p w m hr hl hlc hfit hpf hg hli hfe _ rfl h0 hk (h5 hk)
        · exact pagain_6 l A c p w m hr hl hlc hfit hpf hg hli hfe _ rfl h0 hk (h6 hk)
        · exact pagain_7 l A c p w m hr hl hlc hfit hpf hg hli hfe _ rfl h0 hk (h347 (.inr (.inr hk)))
      · exact pagain_c l A c p w m hr hl hlc hfit hpf hg hli hfe _ (apply_err h0) rfl h0
end Go.Proofs.Ytkdcenbommhnoaa
