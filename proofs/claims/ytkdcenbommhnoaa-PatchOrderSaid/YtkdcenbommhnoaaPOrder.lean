/- The law PatchOrder. -/
import Derived.Test.YtkdcenbommhnoaaOrdHelp
import Derived.Deep.RegionHeld3
import Derived.Deep.DeepCutAuto
set_option linter.unusedVariables false
set_option linter.unusedSimpArgs false
namespace Go.Proofs.Ytkdcenbommhnoaa
open Go.RowKit
set_option maxRecDepth 20000 in
set_option maxHeartbeats 2000000 in
theorem porder_a (l : List Item) (A : Option Addr) (c : Nat) (p : Patch) (w : World) (m : Int) (hr : RdI w A l) (hl : l.length ≤ maxLen) (hlc : l.length ≤ c) (hfit : ∀ x ∈ l, x.Fits) (hpf : p.Fits) (hg : w.cell? ⟨0, 0, none⟩ = some (.int .i64 m)) (hli : lightB l [] = false) :
    Calls Try.prog 5 #[.agg #[.slice A l.length c], p.agg] w fun e w' => e = .returned (.bool true) ∧ Below w.heap.size w w' := by
  have hsz0 : 0 < w.heap.size := World.block_lt_of_cell? w _ hg
  have hb0 := ((Below.refl w.heap.size w).alloc (Nat.le_refl _) (.cells #[.slice A l.length c] 24)).alloc (by simp) (.cells (patCs p) 28)
  have HB0 := Lib.hid hb0; clear hb0
  have HR := Lib.hid hr; clear hr
  have HG := Lib.hid hg; clear hg
  have HFI := Lib.hid hfit; clear hfit
  have HPF := Lib.hid hpf; clear hpf
  have HLI := Lib.hid hli; clear hli
  go_enter Try.func5, Try.ntmps5
  go_wp2_with fail
  refine (head_any _ m (step_cell HB0.out HG.out)).mono ?_
  rintro e w1 ⟨rfl, hb1⟩
  obtain ⟨hc, hf⟩ := bcell hb1
  have hblk := bblk hb1
  have HB1 := Lib.hid hb1; clear hb1
  go_wp2_with fail
  refine (light_any l [] A none c 0 _ ((HR.out.below HB0.out).below HB1.out) Sl.nil hl (by simp) HFI.out (by simp)).mono ?_
  rintro e w2 ⟨rfl, hb2⟩
  rw [HLI.out]
  have hb3 := HB1.out.trans (hb2.mono HB1.out.size)
  clear hc hf hblk hb2 HB1
  obtain ⟨hc, hf⟩ := bcell hb3
  have hblk := bblk hb3
  have HB2 := Lib.hid hb3; clear hb3
  go_wp2_with fail
  go_ret
  exact ⟨rfl, HB0.out.trans (HB2.out.mono HB0.out.size)⟩
set_option maxRecDepth 20000 in
set_option maxHeartbeats 2000000 in
theorem porder_b (l : List Item) (A : Option Addr) (c : Nat) (p : Patch) (w : World) (m : Int) (hr : RdI w A l) (hl : l.length ≤ maxLen) (hlc : l.length ≤ c) (hfit : ∀ x ∈ l, x.Fits) (hpf : p.Fits) (hg : w.cell? ⟨0, 0, none⟩ = some (.int .i64 m)) (hli : lightB l [] = true) (hfe : fewB p = false) :
    Calls Try.prog 5 #[.agg #[.slice A l.length c], p.agg] w fun e w' => e = .returned (.bool true) ∧ Below w.heap.size w w' := by
  have hsz0 : 0 < w.heap.size := World.block_lt_of_cell? w _ hg
  have hb0 := ((Below.refl w.heap.size w).alloc (Nat.le_refl _) (.cells #[.slice A l.length c] 24)).alloc (by simp) (.cells (patCs p) 28)
  have HB0 := Lib.hid hb0; clear hb0
  have HR := Lib.hid hr; clear hr
  have HG := Lib.hid hg; clear hg
  have HFI := Lib.hid hfit; clear hfit
  have HPF := Lib.hid hpf; clear hpf
  have HLI := Lib.hid hli; clear hli
  have HFE := Lib.hid hfe; clear hfe
  go_enter Try.func5, Try.ntmps5
  go_wp2_with fail
  refine (head_any _ m (step_cell HB0.out HG.out)).mono ?_
  rintro e w1 ⟨rfl, hb1⟩
  obtain ⟨hc, hf⟩ := bcell hb1
  have hblk := bblk hb1
  have HB1 := Lib.hid hb1; clear hb1
  go_wp2_with fail
  refine (light_any l [] A none c 0 _ ((HR.out.below HB0.out).below HB1.out) Sl.nil hl (by simp) HFI.out (by simp)).mono ?_
  rintro e w2 ⟨rfl, hb2⟩
  rw [HLI.out]
  have hb3 := HB1.out.trans (hb2.mono HB1.out.size)
  clear hc hf hblk hb2 HB1
  obtain ⟨hc, hf⟩ := bcell hb3
  have hblk := bblk hb3
  have HB2 := Lib.hid hb3; clear hb3
  go_wp2_with fail
  refine (few_any p _ HPF.out).mono ?_
  rintro e w3 ⟨rfl, hb2⟩
  rw [HFE.out]
  have hb3 := HB2.out.trans (hb2.mono HB2.out.size)
  clear hc hf hblk hb2 HB2
  obtain ⟨hc, hf⟩ := bcell hb3
  have hblk := bblk hb3
  have HB3 := Lib.hid hb3; clear hb3
  go_wp2_with fail
  go_ret
  exact ⟨rfl, HB0.out.trans (HB3.out.mono HB0.out.size)⟩
set_option maxRecDepth 20000 in
set_option maxHeartbeats 2000000 in
theorem porder_k (l : List Item) (A : Option Addr) (c : Nat) (p : Patch) (w : World) (m : Int) (hr : RdI w A l) (hl : l.length ≤ maxLen) (hlc : l.length ≤ c) (hfit : ∀ x ∈ l, x.Fits) (hpf : p.Fits) (hg : w.cell? ⟨0, 0, none⟩ = some (.int .i64 m)) (hli : lightB l [] = true) (hfe : fewB p = true) (hk : p.kind ≠ 4 ∧ p.kind ≠ 1) :
    Calls Try.prog 5 #[.agg #[.slice A l.length c], p.agg] w fun e w' => e = .returned (.bool true) ∧ Below w.heap.size w w' := by
  have hk4 : (p.kind != 4) = true := by simpa using hk.1
  have hk1 : (p.kind != 1) = true := by simpa using hk.2
  clear hk
  have hsz0 : 0 < w.heap.size := World.block_lt_of_cell? w _ hg
  have hb0 := ((Below.refl w.heap.size w).alloc (Nat.le_refl _) (.cells #[.slice A l.length c] 24)).alloc (by simp) (.cells (patCs p) 28)
  have HB0 := Lib.hid hb0; clear hb0
  have HR := Lib.hid hr; clear hr
  have HG := Lib.hid hg; clear hg
  have HFI := Lib.hid hfit; clear hfit
  have HPF := Lib.hid hpf; clear hpf
  have HLI := Lib.hid hli; clear hli
  have HFE := Lib.hid hfe; clear hfe
  go_enter Try.func5, Try.ntmps5
  go_wp2_with fail
  refine (head_any _ m (step_cell HB0.out HG.out)).mono ?_
  rintro e w1 ⟨rfl, hb1⟩
  obtain ⟨hc, hf⟩ := bcell hb1
  have hblk := bblk hb1
  have HB1 := Lib.hid hb1; clear hb1
  go_wp2_with fail
  refine (light_any l [] A none c 0 _ ((HR.out.below HB0.out).below HB1.out) Sl.nil hl (by simp) HFI.out (by simp)).mono ?_
  rintro e w2 ⟨rfl, hb2⟩
  rw [HLI.out]
  have hb3 := HB1.out.trans (hb2.mono HB1.out.size)
  clear hc hf hblk hb2 HB1
  obtain ⟨hc, hf⟩ := bcell hb3
  have hblk := bblk hb3
  have HB2 := Lib.hid hb3; clear hb3
  go_wp2_with fail
  refine (few_any p _ HPF.out).mono ?_
  rintro e w3 ⟨rfl, hb2⟩
  rw [HFE.out]
  have hb3 := HB2.out.trans (hb2.mono HB2.out.size)
  clear hc hf hblk hb2 HB2
  obtain ⟨hc, hf⟩ := bcell hb3
  have hblk := bblk hb3
  have HB3 := Lib.hid hb3; clear hb3
  go_wp2_with fail
  go_ret
  exact ⟨rfl, HB0.out.trans (HB3.out.mono HB0.out.size)⟩
set_option maxRecDepth 20000 in
set_option maxHeartbeats 2000000 in
theorem porder_c4 (l : List Item) (A : Option Addr) (c : Nat) (p : Patch) (w : World) (m : Int) (hr : RdI w A l) (hl : l.length ≤ maxLen) (hlc : l.length ≤ c) (hfit : ∀ x ∈ l, x.Fits) (hpf : p.Fits) (hg : w.cell? ⟨0, 0, none⟩ = some (.int .i64 m)) (hli : lightB l [] = true) (hfe : fewB p = true) (hk : p.kind = 4) (er : Int) (hd : (applyF l p).1 = []) (her : (applyF l p).2 = er) (h0 : er ≠ 0) :
    Calls Try.prog 5 #[.agg #[.slice A l.length c], p.agg] w fun e w' => e = .returned (.bool true) ∧ Below w.heap.size w w' := by
  have hk4 : (p.kind != 4) = false := by simp [hk]
  have hk1 : (p.kind != 1) = true := by simp [hk]
  clear hk
  have h0e : (er != 0) = true := by simpa using h0
  clear h0
  have hsz0 : 0 < w.heap.size := World.block_lt_of_cell? w _ hg
  have hb0 := ((Below.refl w.heap.size w).alloc (Nat.le_refl _) (.cells #[.slice A l.length c] 24)).alloc (by simp) (.cells (patCs p) 28)
  have HB0 := Lib.hid hb0; clear hb0
  have HR := Lib.hid hr; clear hr
  have HG := Lib.hid hg; clear hg
  have HFI := Lib.hid hfit; clear hfit
  have HPF := Lib.hid hpf; clear hpf
  have HLI := Lib.hid hli; clear hli
  have HFE := Lib.hid hfe; clear hfe
  go_enter Try.func5, Try.ntmps5
  go_wp2_with fail
  refine (head_any _ m (step_cell HB0.out HG.out)).mono ?_
  rintro e w1 ⟨rfl, hb1⟩
  obtain ⟨hc, hf⟩ := bcell hb1
  have hblk := bblk hb1
  have HB1 := Lib.hid hb1; clear hb1
  go_wp2_with fail
  refine (light_any l [] A none c 0 _ ((HR.out.below HB0.out).below HB1.out) Sl.nil hl (by simp) HFI.out (by simp)).mono ?_
  rintro e w2 ⟨rfl, hb2⟩
  rw [HLI.out]
  have hb3 := HB1.out.trans (hb2.mono HB1.out.size)
  clear hc hf hblk hb2 HB1
  obtain ⟨hc, hf⟩ := bcell hb3
  have hblk := bblk hb3
  have HB2 := Lib.hid hb3; clear hb3
  go_wp2_with fail
  refine (few_any p _ HPF.out).mono ?_
  rintro e w3 ⟨rfl, hb2⟩
  rw [HFE.out]
  have hb3 := HB2.out.trans (hb2.mono HB2.out.size)
  clear hc hf hblk hb2 HB2
  obtain ⟨hc, hf⟩ := bcell hb3
  have hblk := bblk hb3
  have HB3 := Lib.hid hb3; clear hb3
  go_wp2_with fail
  have HL := Lib.hid (light_facts HLI.out)
  have HFF := Lib.hid (few_facts HFE.out)
  have hap := apply_any l A c p w3 ((HR.out.below HB0.out).below HB3.out) (by have := HL.out.1; omega) hlc HL.out.2 HFF.out.1 HFF.out.2.1 m (step_cell (HB0.out.trans (HB3.out.mono HB0.out.size)) HG.out) HFF.out.2.2
  unfold Applies at hap
  rw [hd, her] at hap
  refine hap.mono ?_
  rintro e w4 ⟨v, rfl, ⟨A', c', rfl, hr', hlc', hA'⟩, hb2⟩
  have hb3 := HB3.out.trans (hb2.mono HB3.out.size)
  clear hc hf hblk hb2 HB3 hap
  obtain ⟨hc, hf⟩ := bcell hb3
  have hblk := bblk hb3
  have HB4 := Lib.hid hb3; clear hb3
  have HR' := Lib.hid hr'; clear hr'
  go_wp2_with fail
  go_ret
  exact ⟨rfl, HB0.out.trans ((HB4.out.alloc (by have := HB4.out.size; simp at this ⊢; omega) _).mono HB0.out.size)⟩
set_option maxRecDepth 20000 in
set_option maxHeartbeats 2000000 in
theorem porder_c1 (l : List Item) (A : Option Addr) (c : Nat) (p : Patch) (w : World) (m : Int) (hr : RdI w A l) (hl : l.length ≤ maxLen) (hlc : l.length ≤ c) (hfit : ∀ x ∈ l, x.Fits) (hpf : p.Fits) (hg : w.cell? ⟨0, 0, none⟩ = some (.int .i64 m)) (hli : lightB l [] = true) (hfe : fewB p = true) (hk : p.kind = 1) (er : Int) (hd : (applyF l p).1 = []) (her : (applyF l p).2 = er) (h0 : er ≠ 0) :
    Calls Try.prog 5 #[.agg #[.slice A l.length c], p.agg] w fun e w' => e = .returned (.bool true) ∧ Below w.heap.size w w' := by
  have hk4 : (p.kind != 4) = true := by simp [hk]
  have hk1 : (p.kind != 1) = false := by simp [hk]
  clear hk
  have h0e : (er != 0) = true := by simpa using h0
  clear h0
  have hsz0 : 0 < w.heap.size := World.block_lt_of_cell? w _ hg
  have hb0 := ((Below.refl w.heap.size w).alloc (Nat.le_refl _) (.cells #[.slice A l.length c] 24)).alloc (by simp) (.cells (patCs p) 28)
  have HB0 := Lib.hid hb0; clear hb0
  have HR := Lib.hid hr; clear hr
  have HG := Lib.hid hg; clear hg
  have HFI := Lib.hid hfit; clear hfit
  have HPF := Lib.hid hpf; clear hpf
  have HLI := Lib.hid hli; clear hli
  have HFE := Lib.hid hfe; clear hfe
  go_enter Try.func5, Try.ntmps5
  go_wp2_with fail
  refine (head_any _ m (step_cell HB0.out HG.out)).mono ?_
  rintro e w1 ⟨rfl, hb1⟩
  obtain ⟨hc, hf⟩ := bcell hb1
  have hblk := bblk hb1
  have HB1 := Lib.hid hb1; clear hb1
  go_wp2_with fail
  refine (light_any l [] A none c 0 _ ((HR.out.below HB0.out).below HB1.out) Sl.nil hl (by simp) HFI.out (by simp)).mono ?_
  rintro e w2 ⟨rfl, hb2⟩
  rw [HLI.out]
  have hb3 := HB1.out.trans (hb2.mono HB1.out.size)
  clear hc hf hblk hb2 HB1
  obtain ⟨hc, hf⟩ := bcell hb3
  have hblk := bblk hb3
  have HB2 := Lib.hid hb3; clear hb3
  go_wp2_with fail
  refine (few_any p _ HPF.out).mono ?_
  rintro e w3 ⟨rfl, hb2⟩
  rw [HFE.out]
  have hb3 := HB2.out.trans (hb2.mono HB2.out.size)
  clear hc hf hblk hb2 HB2
  obtain ⟨hc, hf⟩ := bcell hb3
  have hblk := bblk hb3
  have HB3 := Lib.hid hb3; clear hb3
  go_wp2_with fail
  have HL := Lib.hid (light_facts HLI.out)
  have HFF := Lib.hid (few_facts HFE.out)
  have hap := apply_any l A c p w3 ((HR.out.below HB0.out).below HB3.out) (by have := HL.out.1; omega) hlc HL.out.2 HFF.out.1 HFF.out.2.1 m (step_cell (HB0.out.trans (HB3.out.mono HB0.out.size)) HG.out) HFF.out.2.2
  unfold Applies at hap
  rw [hd, her] at hap
  refine hap.mono ?_
  rintro e w4 ⟨v, rfl, ⟨A', c', rfl, hr', hlc', hA'⟩, hb2⟩
  have hb3 := HB3.out.trans (hb2.mono HB3.out.size)
  clear hc hf hblk hb2 HB3 hap
  obtain ⟨hc, hf⟩ := bcell hb3
  have hblk := bblk hb3
  have HB4 := Lib.hid hb3; clear hb3
  have HR' := Lib.hid hr'; clear hr'
  go_wp2_with fail
  go_ret
  exact ⟨rfl, HB0.out.trans ((HB4.out.alloc (by have := HB4.out.size; simp at this ⊢; omega) _).mono HB0.out.size)⟩
set_option maxRecDepth 20000 in
set_option maxHeartbeats 2000000 in
theorem porder_4 (l : List Item) (A : Option Addr) (c : Nat) (p : Patch) (w : World) (m : Int) (hr : RdI w A l) (hl : l.length ≤ maxLen) (hlc : l.length ≤ c) (hfit : ∀ x ∈ l, x.Fits) (hpf : p.Fits) (hg : w.cell? ⟨0, 0, none⟩ = some (.int .i64 m)) (hli : lightB l [] = true) (hfe : fewB p = true) (d : List Item) (hd : (applyF l p).1 = d) (her : (applyF l p).2 = 0) (hk : p.kind = 4) (at_ : Nat) (hO : OrderOk l d p at_) :
    Calls Try.prog 5 #[.agg #[.slice A l.length c], p.agg] w fun e w' => e = .returned (.bool true) ∧ Below w.heap.size w w' := by
  have hK := kept_law her
  rw [hd] at hK
  have hvd := hK.good
  have HD := Lib.hid hd
  have HE := Lib.hid her
  have HV := Lib.hid hvd; clear hvd
  have hk4 : (p.kind != 4) = false := by simp [hk]
  have hk1 : (p.kind != 1) = true := by simp [hk]
  clear hk
  have HO := Lib.hid hO; clear hO
  have HK := Lib.hid hK; clear hK
  have hsz0 : 0 < w.heap.size := World.block_lt_of_cell? w _ hg
  have hb0 := ((Below.refl w.heap.size w).alloc (Nat.le_refl _) (.cells #[.slice A l.length c] 24)).alloc (by simp) (.cells (patCs p) 28)
  have HB0 := Lib.hid hb0; clear hb0
  have HR := Lib.hid hr; clear hr
  have HG := Lib.hid hg; clear hg
  have HFI := Lib.hid hfit; clear hfit
  have HPF := Lib.hid hpf; clear hpf
  have HLI := Lib.hid hli; clear hli
  have HFE := Lib.hid hfe; clear hfe
  clear hd her
  go_enter Try.func5, Try.ntmps5
  go_wp2_with fail
  refine (head_any _ m (step_cell HB0.out HG.out)).mono ?_
  rintro e w1 ⟨rfl, hb1⟩
  obtain ⟨hc, hf⟩ := bcell hb1
  have hblk := bblk hb1
  have HB1 := Lib.hid hb1; clear hb1
  go_wp2_with fail
  refine (light_any l [] A none c 0 _ ((HR.out.below HB0.out).below HB1.out) Sl.nil hl (by simp) HFI.out (by simp)).mono ?_
  rintro e w2 ⟨rfl, hb2⟩
  rw [HLI.out]
  have hb3 := HB1.out.trans (hb2.mono HB1.out.size)
  clear hc hf hblk hb2 HB1
  obtain ⟨hc, hf⟩ := bcell hb3
  have hblk := bblk hb3
  have HB2 := Lib.hid hb3; clear hb3
  go_wp2_with fail
  refine (few_any p _ HPF.out).mono ?_
  rintro e w3 ⟨rfl, hb2⟩
  rw [HFE.out]
  have hb3 := HB2.out.trans (hb2.mono HB2.out.size)
  clear hc hf hblk hb2 HB2
  obtain ⟨hc, hf⟩ := bcell hb3
  have hblk := bblk hb3
  have HB3 := Lib.hid hb3; clear hb3
  go_wp2_with fail
  have HL := Lib.hid (light_facts HLI.out)
  have HFF := Lib.hid (few_facts HFE.out)
  have hap := apply_any l A c p w3 ((HR.out.below HB0.out).below HB3.out) (by have := HL.out.1; omega) hlc HL.out.2 HFF.out.1 HFF.out.2.1 m (step_cell (HB0.out.trans (HB3.out.mono HB0.out.size)) HG.out) HFF.out.2.2
  unfold Applies at hap
  rw [HD.out, HE.out] at hap
  refine hap.mono ?_
  rintro e w4 ⟨v, rfl, ⟨A', c', rfl, hr', hlc', hA'⟩, hb2⟩
  have hb3 := HB3.out.trans (hb2.mono HB3.out.size)
  clear hc hf hblk hb2 HB3 hap
  obtain ⟨hc, hf⟩ := bcell hb3
  have hblk := bblk hb3
  have HB4 := Lib.hid hb3; clear hb3
  have HR' := Lib.hid hr'; clear hr'
  have hz4 := HB4.out.size
  simp at hz4
  have z1 : w.heap.size < w4.heap.size := by omega
  have z2 : w.heap.size + 1 < w4.heap.size := by omega
  go_wp2_with fail
  have hdl2 : d.length ≤ 2000 := len_of_good HV.out
  have HDS := Lib.hid (short_of_good HV.out)
  have HG4 := Lib.hid (step_cell (HB0.out.trans (HB4.out.mono HB0.out.size)) HG.out)
  have hb5 := HB4.out.alloc (by simp; omega) (.cells #[.slice A' d.length c'] 24)
  have K6a : (w4.alloc (.cells #[.slice A' d.length c'] 24)).cell? ⟨w4.heap.size, 0, none⟩ = some (.slice A' d.length c') := by simp [go_sem]
  have HDa := Lib.hid (HR'.out.below ((Below.refl w4.heap.size w4).alloc (Nat.le_refl _) (.cells #[.slice A' d.length c'] 24)))
  generalize (w4.alloc (.cells #[.slice A' d.length c'] 24)) = W4 at *
  have hp2 : w.heap.size < ((w.alloc (.cells #[.slice A l.length c] 24)).alloc (.cells (patCs p) 28)).heap.size := by simp; omega
  have hp3 : w.heap.size + 1 < ((w.alloc (.cells #[.slice A l.length c] 24)).alloc (.cells (patCs p) 28)).heap.size := by simp
  have K2a : W4.cell? ⟨w.heap.size, 0, none⟩ = some (.slice A l.length c) := (hb5.cell (p := ⟨w.heap.size, 0, none⟩) hp2).trans (by simp [go_sem])
  have K31a : W4.cell? ⟨w.heap.size + 1, 1, none⟩ = some (vs p.id) := (hb5.cell (p := ⟨w.heap.size + 1, 1, none⟩) hp3).trans (by simp [go_sem, patCs])
  have K32a : W4.cell? ⟨w.heap.size + 1, 2, none⟩ = some (vs p.par) := (hb5.cell (p := ⟨w.heap.size + 1, 2, none⟩) hp3).trans (by simp [go_sem, patCs])
  have K33a : W4.cell? ⟨w.heap.size + 1, 3, none⟩ = some (vs p.aft) := (hb5.cell (p := ⟨w.heap.size + 1, 3, none⟩) hp3).trans (by simp [go_sem, patCs])
  have HWa := Lib.hid (HB0.out.trans (hb5.mono HB0.out.size))
  have y2a : w.heap.size < W4.heap.size := World.block_lt_of_cell? _ _ K2a
  have y3a : w.heap.size + 1 < W4.heap.size := World.block_lt_of_cell? _ _ K31a
  have y6a : w4.heap.size < W4.heap.size := World.block_lt_of_cell? _ _ K6a
  have HLa := Lib.hid (HR.out.below HWa.out)
  have HLB : Hid ((belowL l p.id).length ≤ 1000000) := Lib.hid (by have := belowL_le l p.id; have := HL.out.1; omega)
  obtain ⟨M, hM⟩ : ∃ M, M = p.id :: belowL l p.id := ⟨_, rfl⟩
  have hML : M.length = 1 + (belowL l p.id).length := by rw [hM, List.length_cons, Nat.add_comm]
  have hm31 : M.length ≤ 31 := by have := belowL_le l p.id; have := HL.out.1; omega
  have hm1 : 1 ≤ M.length := by omega
  have hroom : at_ + M.length ≤ d.length := by have := HO.out.room; omega
  have HIDS : Hid (idsL ((d.drop at_).take M.length) = M) := Lib.hid (by have := HO.out.ids; rw [← hML, ← hM] at this; exact this)
  have HREST : Hid (restL M l l.length = keptL at_ (at_ + M.length) d d.length) := Lib.hid (by have := HO.out.rest; rw [← hML, ← hM] at this; rw [restL_all, keptL_all]; exact this)
  have HSIB := Lib.hid HO.out.sib
  have HML := Lib.hid hML; clear hML
  have HM := Lib.hid hM; clear hM
  have hl30 := HL.out.1
  clear hb5 hc hf hblk HB4 HR' HR HB0 hp2 hp3 z1 z2 hz4 HG4 hsz0 HFI HPF HLI HFE HD HE HV
  go_cut [8] (fun v8 wc => ∃ (O : Option Addr) (cc : Nat), v8 = .slice O M.length cc ∧ RdS wc O M ∧ Below W4.heap.size W4 wc)
  case first =>
    go_region_held3 (fun X => X.cell? ⟨w.heap.size, 0, none⟩ = some (.slice A l.length c) ∧ X.cell? ⟨w.heap.size + 1, 1, none⟩ = some (vs p.id)) ((go_split_ands; refine ⟨?_, ?_⟩ <;> (first | assumption | go_keep | (simp [go_sem, *]; done))))
      (first
        | (go_at_call 16; refine (below_any l A c p.id _ (by first | exact HLa.out.below (Below.refl _ _).drew | exact HLa.out.below ((Below.refl _ _).drew.alloc (Nat.le_refl _) _)) (by have := HL.out.1; omega) HL.out.2).mono ?_; rintro e w5 ⟨O, cc, rfl, hrs, hO, hb5⟩; obtain ⟨hc, hf⟩ := bcell hb5; have hblk := bblk hb5; simp at hc hf hblk; have hz5 := hb5.size; simp at hz5; have x1 : w.heap.size < w5.heap.size := (by omega); have x2 : w.heap.size + 1 < w5.heap.size := (by omega))
        | (refine step_append_strs rfl (.tmp 47) (.tmp 51) rfl rfl W4.heap.size p.id O (belowL l p.id) cc rfl rfl ((hb5.block _ (by simp)).trans (heap_alloc_new _ _)) hrs HLB.out ?_; intro O' c' w6 hrd6 hgr; have hB6 := po_A hb5 hgr; have h61 := keepc hB6 K2a; have h62 := keepc hB6 K31a)
        | (refine step_append_strs rfl (.tmp 47) (.tmp 51) rfl rfl w5.heap.size p.id O (belowL l p.id) cc rfl rfl (heap_alloc_new _ _) (hrs.below ((Below.refl _ _).alloc (Nat.le_refl _) _)) HLB.out ?_; intro O' c' w6 hrd6 hgr; have hB6 := po_B hb5 hgr; have h61 := keepc hB6 K2a; have h62 := keepc hB6 K31a))
    all_goals
      go_wp2_with fail
      go_meet
      case rel => exact ⟨O', c', by rw [HML.out], by rw [HM.out]; exact hrd6, hB6⟩
  case' rest =>
    obtain ⟨O, cc, rfl, hrm, hbw⟩ := hcut
    have HBc := Lib.hid hbw; clear hbw
    have HRMc := Lib.hid hrm; clear hrm
    have K2c := keepc HBc.out K2a
    have K31c := keepc HBc.out K31a
    have K32c := keepc HBc.out K32a
    have K33c := keepc HBc.out K33a
    have K6c := keepc HBc.out K6a
    have y2c := keepb HBc.out y2a
    have y3c := keepb HBc.out y3a
    have y6c := keepb HBc.out y6a
    have HLc := Lib.hid (HLa.out.below HBc.out)
    have HDc := Lib.hid (HDa.out.below HBc.out)
    have HWc := Lib.hid (HWa.out.trans (HBc.out.mono HWa.out.size))
    clear K2a K31a K32a K33a K6a y2a y3a y6a HLa HDa HWa
    go_wp2_with fail
    refine (find_any d A' c' p.id _ HDc.out (le_maxLen (by omega))).mono ?_
    rintro e w5 ⟨rfl, hb⟩
    rw [HO.out.find]
    have HBd := Lib.hid hb; clear hb
    have HRMd := Lib.hid (HRMc.out.below HBd.out); clear HRMc
    have K2d := keepc HBd.out K2c
    have K31d := keepc HBd.out K31c
    have K32d := keepc HBd.out K32c
    have K33d := keepc HBd.out K33c
    have K6d := keepc HBd.out K6c
    have y2d := keepb HBd.out y2c
    have y3d := keepb HBd.out y3c
    have y6d := keepb HBd.out y6c
    have HLd := Lib.hid (HLc.out.below HBd.out)
    have HDd := Lib.hid (HDc.out.below HBd.out)
    have HWd := Lib.hid (HWc.out.trans (HBd.out.mono HWc.out.size))
    clear K2c K31c K32c K33c K6c y2c y3c y6c HLc HDc HWc
    obtain ⟨y, hy, hyp⟩ := HO.out.par
    obtain ⟨bd, od, rfl, hbsd, e0, e1, e2, e3, e4, e5, e6⟩ := HDd.out.item hy
    rw [hyp] at e2
    clear e0 e1 e3 e4 e5 e6 hyp
    have HY := Lib.hid hy; clear hy
    have hq0 : (0 : Int) ≤ at_ := by omega
    have hq1 : decide ((at_ : Int) < 0) = false := by simp
    have hq2 : IntKind.i64.wrap ((at_ : Int) + (M.length : Int)) = (at_ : Int) + (M.length : Int) := wrap_small _ (by omega) (by omega)
    have hq3 : decide ((d.length : Int) < (at_ : Int) + (M.length : Int)) = false := by simp; omega
    have hq4 : (p.par != p.par) = false := by simp
    have hq5 : (at_ : Int) < d.length := by omega
    have hq6 : (0 : Int) ≤ (at_ : Int) + (M.length : Int) := by omega
    have hq7 : (at_ : Int) + (M.length : Int) ≤ c' := by omega
    have hq8 : (at_ : Int) ≤ (at_ : Int) + (M.length : Int) := by omega
    have hq9 : ¬ c' = at_ := by omega
    have hq10 : ((at_ : Int) + (M.length : Int)).toNat = at_ + M.length := by omega
    have HSd := Lib.hid ((HDd.out.drop at_).take M.length)
    go_wp2_with fail
    go_region_held3 (fun X => X.cell? ⟨w4.heap.size, 0, none⟩ = some (.slice (some ⟨bd, od, none⟩) d.length c') ∧ X.cell? ⟨w.heap.size + 1, 2, none⟩ = some (vs p.par) ∧ X.cell? ⟨bd, od + at_ * 7 + 2, none⟩ = some (vs p.par)) ((go_split_ands; refine ⟨?_, ?_, ?_⟩ <;> (first | assumption | go_keep | (simp [go_sem, *]; done))))
      (first
        | (go_at_call 18; refine (ids_lit HIDS.out _ _ _ _ (by first | (simp; done) | (simp; omega)) (HSd.out.below (Below.refl _ _).drew) (by simp; omega)).mono ?_; rintro e w6 ⟨O2, cc2, rfl, hr2, hb6⟩; have hB6 : Below w5.heap.size w5 w6 := (Below.refl _ _).drew.trans (hb6.mono (by simp)); have q1 := keepc hB6 K6d; have q2 := keepc hB6 K32d; have q3 := keepc hB6 e2)
        | (go_at_call 17; refine (names_same rfl O2 O cc2 cc _ _ rfl rfl _ hr2 (HRMd.out.below hB6) (le_maxLen (by omega)) (le_maxLen (by omega))).mono ?_; rintro e w7 ⟨rfl, hb7⟩; have hB7 := hB6.trans (hb7.mono hB6.size); have q4 := keepc hB7 K6d; have q5 := keepc hB7 K32d; have q6 := keepc hB7 e2))
    go_wp2_with fail
    have HBe := Lib.hid hB7
    have HRMe := Lib.hid (HRMd.out.below HBe.out)
    clear hr2 hb6 hb7 hB6 hB7 q1 q2 q3 q4 q5 q6 e2 HSd HRMd
    have K2e := keepc HBe.out K2d
    have K31e := keepc HBe.out K31d
    have K32e := keepc HBe.out K32d
    have K33e := keepc HBe.out K33d
    have K6e := keepc HBe.out K6d
    have y2e := keepb HBe.out y2d
    have y3e := keepb HBe.out y3d
    have y6e := keepb HBe.out y6d
    have HLe := Lib.hid (HLd.out.below HBe.out)
    have HDe := Lib.hid (HDd.out.below HBe.out)
    have HWe := Lib.hid (HWd.out.trans (HBe.out.mono HWd.out.size))
    clear K2d K31d K32d K33d K6d y2d y3d y6d HLd HDd HWd
    go_loopw [10, 11] (fun b i wr => ∃ k : Nat, k ≤ at_ ∧ b = vs (lastSib (d.take k) p.par) ∧ i = .int .i64 k ∧ Below w7.heap.size w7 wr) (fun _ i _ => at_ - (intOf i).toNat)
    case atStart => exact ⟨0, Nat.zero_le _, rfl, rfl, Below.refl _ _⟩
    case round =>
      obtain ⟨k, hk, rfl, rfl, hb⟩ := hrel
      have HBf := Lib.hid hb; clear hb
      have HRMf := Lib.hid (HRMe.out.below HBf.out)
      have K2f := keepc HBf.out K2e
      have K31f := keepc HBf.out K31e
      have K32f := keepc HBf.out K32e
      have K33f := keepc HBf.out K33e
      have K6f := keepc HBf.out K6e
      have y2f := keepb HBf.out y2e
      have y3f := keepb HBf.out y3e
      have y6f := keepb HBf.out y6e
      have HLf := Lib.hid (HLe.out.below HBf.out)
      have HDf := Lib.hid (HDe.out.below HBf.out)
      have HWf := Lib.hid (HWe.out.trans (HBf.out.mono HWe.out.size))
      by_cases hlt : k < at_
      · obtain ⟨x, hx⟩ := get_of_lt (l := d) (k := k) (by omega)
        obtain ⟨b2, o2, hA2, hbs2, d0, d1, d2, d3, d4, d5, d6⟩ := HDf.out.item hx
        cases hA2
        have hi0 : (0 : Int) ≤ k := by omega
        have hi1 : (k : Int) < at_ := by omega
        have hi2 : (k : Int) < d.length := by omega
        have HS1 := Lib.hid (lastSib_succ (par := p.par) hx)
        clear hx
        cases hp : (x.par == p.par)
        all_goals
          have HP := Lib.hid hp
          go_wp2_with fail
          go_quiet (fail)
          go_wp2_with fail
          refine ⟨⟨k + 1, by omega, by rw [HS1.out, HP.out]; rfl, by go_num, Below.drewN' _ HBf.out⟩, by simp [intOf]; omega⟩
      · obtain rfl : at_ = k := by omega
        rw [HSIB.out]
        clear hlt hk
        obtain ⟨wA, hwA⟩ : ∃ x, x = wr := ⟨_, rfl⟩
        subst hwA
        obtain ⟨i0, hi0, hz0, hz1, hz2⟩ := info_parts info9
        have Hi0 := Lib.hid hi0; clear hi0
        have Hz0 := Lib.hid hz0; clear hz0
        have Hz1 := Lib.hid hz1; clear hz1
        have Hz2 := Lib.hid hz2; clear hz2
        go_wp2_with fail
        go_loopw [12, 14] (fun v i wr => ∃ k : Nat, k ≤ l.length ∧ i = .int .i64 k ∧ wr.ownsRow wA.heap.size 9 1 v (restL M l k).length ((restL M l k).map vs) ∧ Below wA.heap.size wA wr) (fun _ i _ => l.length - (intOf i).toNat)
        case atStart => exact ⟨0, Nat.zero_le _, rfl, World.ownsRow_nil _ _ _ _, Below.refl _ _⟩
        case round =>
          obtain ⟨k, hk, rfl, hown, hb⟩ := hrel
          have HBg := Lib.hid hb; clear hb
          have HOWN := Lib.hid hown; clear hown
          have HRMg := Lib.hid (HRMf.out.below HBg.out)
          have hzg := HBg.out.size
          have K2g := keepc HBg.out K2f
          have K31g := keepc HBg.out K31f
          have K32g := keepc HBg.out K32f
          have K33g := keepc HBg.out K33f
          have K6g := keepc HBg.out K6f
          have y2g := keepb HBg.out y2f
          have y3g := keepb HBg.out y3f
          have y6g := keepb HBg.out y6f
          have HLg := Lib.hid (HLf.out.below HBg.out)
          have HDg := Lib.hid (HDf.out.below HBg.out)
          have HWg := Lib.hid (HWf.out.trans (HBg.out.mono HWf.out.size))
          clear K2f K31f K32f K33f K6f
          by_cases hlt : k < l.length
          · obtain ⟨x, hx⟩ := get_of_lt hlt
            obtain ⟨b1, o1, rfl, hbs1, d0, d1, d2, d3, d4, d5, d6⟩ := HLg.out.item hx
            have hi0 : (0 : Int) ≤ k := by omega
            have hi2 : (k : Int) < l.length := by omega
            have hrl := restL_le M l k
            have HX := Lib.hid hx; clear hx
            cases hin : hasS M x.id
            · have HIN := Lib.hid hin; clear hin
              go_wp2_with fail
              refine (in_any M O cc x.id _ HRMg.out (le_maxLen (by omega))).mono ?_
              rintro e w8 ⟨rfl, rfl⟩
              rw [HIN.out]
              go_wp2_with (at_builtin; refine wpList_append_own _ rfl (.tmp 131) (.tmp 138) _ rfl wA.heap.size 9 i0 (.string ⟨#[]⟩) 1 16 Try.underlying38 Hi0.out Hz0.out Hz1.out Hz2.out rfl (by decide) u12 (restL M l k).length ((restL M l k).map vs) rfl (HOWN.out.alloc _) ⟨wr.heap.size, 0, none⟩ 1 1 [vs x.id] rfl rfl (World.news_of_block (cs := #[vs x.id]) (t := 9) (fr := (0, 0)) (heap_alloc_new wr _)) one_cell (le_maxLen (by omega)) (by omega) (by simp; omega) ?_; intro v' w1 hown1 hgr _)
              refine ⟨⟨k + 1, by omega, by go_num, ?_, ?_⟩, by simp [intOf]; omega⟩
              · rw [restL_out HX.out HIN.out, List.length_append, List.map_append]; exact hown1
              · exact (HBg.out.alloc (by omega) _).grown hgr (by simp; omega) (fun b hb => (own_ge HOWN.out b hb).1)
            · have HIN := Lib.hid hin; clear hin
              go_wp2_with fail
              refine (in_any M O cc x.id _ HRMg.out (le_maxLen (by omega))).mono ?_
              rintro e w8 ⟨rfl, rfl⟩
              rw [HIN.out]
              go_wp2_with fail
              refine ⟨⟨k + 1, by omega, by go_num, by rw [restL_in HX.out HIN.out]; exact HOWN.out, HBg.out⟩, by simp [intOf]; omega⟩
          · have : k = l.length := by omega
            subst this
            obtain ⟨O3, cc3, hvv, hrd, -⟩ := own_slice HOWN.out
            subst hvv
            have HR3 := Lib.hid hrd; clear hrd
            have hr3 := restL_le M l l.length
            generalize restL M l l.length = RL at *
            clear hlt hk
            obtain ⟨wB, hwB⟩ : ∃ x, x = wr := ⟨_, rfl⟩
            subst hwB
            go_wp2_with fail
            go_loopw [13, 15] (fun v i wr => ∃ k : Nat, k ≤ d.length ∧ i = .int .i64 k ∧ wr.ownsRow wB.heap.size 9 1 v (keptL at_ (at_ + M.length) d k).length ((keptL at_ (at_ + M.length) d k).map vs) ∧ Below wB.heap.size wB wr) (fun _ i _ => d.length - (intOf i).toNat)
            case atStart => exact ⟨0, Nat.zero_le _, rfl, by rw [show keptL at_ (at_ + M.length) d 0 = [] by simp [keptL]]; exact World.ownsRow_nil _ _ _ _, Below.refl _ _⟩
            case round =>
              obtain ⟨k, hk, rfl, hown, hb⟩ := hrel
              have HBh := Lib.hid hb; clear hb
              have HOWN2 := Lib.hid hown; clear hown
              have hzh := HBh.out.size
              have K2h := keepc HBh.out K2g
              have K31h := keepc HBh.out K31g
              have K32h := keepc HBh.out K32g
              have K33h := keepc HBh.out K33g
              have K6h := keepc HBh.out K6g
              have y2h := keepb HBh.out y2g
              have y3h := keepb HBh.out y3g
              have y6h := keepb HBh.out y6g
              have HLh := Lib.hid (HLg.out.below HBh.out)
              have HDh := Lib.hid (HDg.out.below HBh.out)
              have HWh := Lib.hid (HWg.out.trans (HBh.out.mono HWg.out.size))
              clear K2g K31g K32g K33g K6g
              have hkl := keptL_le at_ (at_ + M.length) d k
              by_cases hlt : k < d.length
              · obtain ⟨x, hx⟩ := get_of_lt hlt
                obtain ⟨b2, o2, hA2, hbs2, d0, d1, d2, d3, d4, d5, d6⟩ := HDh.out.item hx
                cases hA2
                have hi0 : (0 : Int) ≤ k := by omega
                have hi2 : (k : Int) < d.length := by omega
                have HX := Lib.hid hx; clear hx
                by_cases h1 : k < at_
                · have HKL := Lib.hid (keptL_lo (b := at_ + M.length) HX.out h1 (by omega))
                  have hi3 : decide ((k : Int) < (at_ : Int)) = true := by simp; omega
                  go_wp2_with (at_builtin; refine wpList_append_own _ rfl (.tmp 158) (.tmp 165) _ rfl wB.heap.size 9 i0 (.string ⟨#[]⟩) 1 16 Try.underlying38 Hi0.out Hz0.out Hz1.out Hz2.out rfl (by decide) u13 (keptL at_ (at_ + M.length) d k).length ((keptL at_ (at_ + M.length) d k).map vs) rfl (HOWN2.out.alloc _) ⟨wr.heap.size, 0, none⟩ 1 1 [vs x.id] rfl rfl (World.news_of_block (cs := #[vs x.id]) (t := 9) (fr := (0, 0)) (heap_alloc_new wr _)) one_cell (le_maxLen (by omega)) (by omega) (by simp; omega) ?_; intro v' w1 hown1 hgr _)
                  refine ⟨⟨k + 1, by omega, by go_num, ?_, ?_⟩, by simp [intOf]; omega⟩
                  · rw [HKL.out, List.length_append, List.map_append]; exact hown1
                  · exact (HBh.out.alloc (by omega) _).grown hgr (by simp; omega) (fun b hb => (own_ge HOWN2.out b hb).1)
                · by_cases h2 : k < at_ + M.length
                  · have HKL := Lib.hid (keptL_mid (d := d) (show at_ ≤ k by omega) h2)
                    have hi3 : decide ((k : Int) < (at_ : Int)) = false := by simp; omega
                    have hi4 : decide ((at_ : Int) + (M.length : Int) ≤ k) = false := by simp; omega
                    go_wp2_with fail
                    refine ⟨⟨k + 1, by omega, by go_num, by rw [HKL.out]; exact HOWN2.out, HBh.out⟩, by simp [intOf]; omega⟩
                  · have HKL := Lib.hid (keptL_hi (a := at_) HX.out (show at_ ≤ at_ + M.length by omega) (show at_ + M.length ≤ k by omega))
                    have hi3 : decide ((k : Int) < (at_ : Int)) = false := by simp; omega
                    have hi4 : decide ((at_ : Int) + (M.length : Int) ≤ k) = true := by simp; omega
                    go_wp2_with (at_builtin; refine wpList_append_own _ rfl (.tmp 158) (.tmp 165) _ rfl wB.heap.size 9 i0 (.string ⟨#[]⟩) 1 16 Try.underlying38 Hi0.out Hz0.out Hz1.out Hz2.out rfl (by decide) u13 (keptL at_ (at_ + M.length) d k).length ((keptL at_ (at_ + M.length) d k).map vs) rfl (HOWN2.out.alloc _) ⟨wr.heap.size, 0, none⟩ 1 1 [vs x.id] rfl rfl (World.news_of_block (cs := #[vs x.id]) (t := 9) (fr := (0, 0)) (heap_alloc_new wr _)) one_cell (le_maxLen (by omega)) (by omega) (by simp; omega) ?_; intro v' w1 hown1 hgr _)
                    refine ⟨⟨k + 1, by omega, by go_num, ?_, ?_⟩, by simp [intOf]; omega⟩
                    · rw [HKL.out, List.length_append, List.map_append]; exact hown1
                    · exact (HBh.out.alloc (by omega) _).grown hgr (by simp; omega) (fun b hb => (own_ge HOWN2.out b hb).1)
              · have : k = d.length := by omega
                subst this
                obtain ⟨O4, cc4, hvv, hrd, -⟩ := own_slice HOWN2.out
                subst hvv
                have HR4 := Lib.hid hrd; clear hrd
                have hpp : (p.aft == p.aft) = true := by simp
                have HRE : Hid (RL = keptL at_ (at_ + M.length) d d.length) := Lib.hid HREST.out
                go_wp2_with fail
                refine (names_same HRE.out O3 O4 _ _ _ _ rfl rfl _ (HR3.out.below HBh.out) HR4.out (le_maxLen (by omega)) (le_maxLen (by omega))).mono ?_
                rintro e w9 ⟨rfl, hb9⟩
                go_wp2_with fail
                go_ret
                exact ⟨rfl, HWh.out.trans (hb9.mono HWh.out.size)⟩
set_option maxRecDepth 20000 in
set_option maxHeartbeats 2000000 in
theorem porder_1 (l : List Item) (A : Option Addr) (c : Nat) (p : Patch) (w : World) (m : Int) (hr : RdI w A l) (hl : l.length ≤ maxLen) (hlc : l.length ≤ c) (hfit : ∀ x ∈ l, x.Fits) (hpf : p.Fits) (hg : w.cell? ⟨0, 0, none⟩ = some (.int .i64 m)) (hli : lightB l [] = true) (hfe : fewB p = true) (d : List Item) (hd : (applyF l p).1 = d) (her : (applyF l p).2 = 0) (hk : p.kind = 1) (at_ : Nat) (hO : OrderOk l d p at_) :
    Calls Try.prog 5 #[.agg #[.slice A l.length c], p.agg] w fun e w' => e = .returned (.bool true) ∧ Below w.heap.size w w' := by
  have hK := kept_law her
  rw [hd] at hK
  have hvd := hK.good
  have HD := Lib.hid hd
  have HE := Lib.hid her
  have HV := Lib.hid hvd; clear hvd
  have hk4 : (p.kind != 4) = true := by simp [hk]
  have hk1 : (p.kind != 1) = false := by simp [hk]
  clear hk
  have HO := Lib.hid hO; clear hO
  have HK := Lib.hid hK; clear hK
  have hsz0 : 0 < w.heap.size := World.block_lt_of_cell? w _ hg
  have hb0 := ((Below.refl w.heap.size w).alloc (Nat.le_refl _) (.cells #[.slice A l.length c] 24)).alloc (by simp) (.cells (patCs p) 28)
  have HB0 := Lib.hid hb0; clear hb0
  have HR := Lib.hid hr; clear hr
  have HG := Lib.hid hg; clear hg
  have HFI := Lib.hid hfit; clear hfit
  have HPF := Lib.hid hpf; clear hpf
  have HLI := Lib.hid hli; clear hli
  have HFE := Lib.hid hfe; clear hfe
  clear hd her
  go_enter Try.func5, Try.ntmps5
  go_wp2_with fail
  refine (head_any _ m (step_cell HB0.out HG.out)).mono ?_
  rintro e w1 ⟨rfl, hb1⟩
  obtain ⟨hc, hf⟩ := bcell hb1
  have hblk := bblk hb1
  have HB1 := Lib.hid hb1; clear hb1
  go_wp2_with fail
  refine (light_any l [] A none c 0 _ ((HR.out.below HB0.out).below HB1.out) Sl.nil hl (by simp) HFI.out (by simp)).mono ?_
  rintro e w2 ⟨rfl, hb2⟩
  rw [HLI.out]
  have hb3 := HB1.out.trans (hb2.mono HB1.out.size)
  clear hc hf hblk hb2 HB1
  obtain ⟨hc, hf⟩ := bcell hb3
  have hblk := bblk hb3
  have HB2 := Lib.hid hb3; clear hb3
  go_wp2_with fail
  refine (few_any p _ HPF.out).mono ?_
  rintro e w3 ⟨rfl, hb2⟩
  rw [HFE.out]
  have hb3 := HB2.out.trans (hb2.mono HB2.out.size)
  clear hc hf hblk hb2 HB2
  obtain ⟨hc, hf⟩ := bcell hb3
  have hblk := bblk hb3
  have HB3 := Lib.hid hb3; clear hb3
  go_wp2_with fail
  have HL := Lib.hid (light_facts HLI.out)
  have HFF := Lib.hid (few_facts HFE.out)
  have hap := apply_any l A c p w3 ((HR.out.below HB0.out).below HB3.out) (by have := HL.out.1; omega) hlc HL.out.2 HFF.out.1 HFF.out.2.1 m (step_cell (HB0.out.trans (HB3.out.mono HB0.out.size)) HG.out) HFF.out.2.2
  unfold Applies at hap
  rw [HD.out, HE.out] at hap
  refine hap.mono ?_
  rintro e w4 ⟨v, rfl, ⟨A', c', rfl, hr', hlc', hA'⟩, hb2⟩
  have hb3 := HB3.out.trans (hb2.mono HB3.out.size)
  clear hc hf hblk hb2 HB3 hap
  obtain ⟨hc, hf⟩ := bcell hb3
  have hblk := bblk hb3
  have HB4 := Lib.hid hb3; clear hb3
  have HR' := Lib.hid hr'; clear hr'
  have hz4 := HB4.out.size
  simp at hz4
  have z1 : w.heap.size < w4.heap.size := by omega
  have z2 : w.heap.size + 1 < w4.heap.size := by omega
  go_wp2_with fail
  have hdl2 : d.length ≤ 2000 := len_of_good HV.out
  have HDS := Lib.hid (short_of_good HV.out)
  have HG4 := Lib.hid (step_cell (HB0.out.trans (HB4.out.mono HB0.out.size)) HG.out)
  have hb5 := HB4.out.alloc (by simp; omega) (.cells #[.slice A' d.length c'] 24)
  have K6a : (w4.alloc (.cells #[.slice A' d.length c'] 24)).cell? ⟨w4.heap.size, 0, none⟩ = some (.slice A' d.length c') := by simp [go_sem]
  have HDa := Lib.hid (HR'.out.below ((Below.refl w4.heap.size w4).alloc (Nat.le_refl _) (.cells #[.slice A' d.length c'] 24)))
  generalize (w4.alloc (.cells #[.slice A' d.length c'] 24)) = W4 at *
  have hp2 : w.heap.size < ((w.alloc (.cells #[.slice A l.length c] 24)).alloc (.cells (patCs p) 28)).heap.size := by simp; omega
  have hp3 : w.heap.size + 1 < ((w.alloc (.cells #[.slice A l.length c] 24)).alloc (.cells (patCs p) 28)).heap.size := by simp
  have K2a : W4.cell? ⟨w.heap.size, 0, none⟩ = some (.slice A l.length c) := (hb5.cell (p := ⟨w.heap.size, 0, none⟩) hp2).trans (by simp [go_sem])
  have K31a : W4.cell? ⟨w.heap.size + 1, 1, none⟩ = some (vs p.id) := (hb5.cell (p := ⟨w.heap.size + 1, 1, none⟩) hp3).trans (by simp [go_sem, patCs])
  have K32a : W4.cell? ⟨w.heap.size + 1, 2, none⟩ = some (vs p.par) := (hb5.cell (p := ⟨w.heap.size + 1, 2, none⟩) hp3).trans (by simp [go_sem, patCs])
  have K33a : W4.cell? ⟨w.heap.size + 1, 3, none⟩ = some (vs p.aft) := (hb5.cell (p := ⟨w.heap.size + 1, 3, none⟩) hp3).trans (by simp [go_sem, patCs])
  have HWa := Lib.hid (HB0.out.trans (hb5.mono HB0.out.size))
  have y2a : w.heap.size < W4.heap.size := World.block_lt_of_cell? _ _ K2a
  have y3a : w.heap.size + 1 < W4.heap.size := World.block_lt_of_cell? _ _ K31a
  have y6a : w4.heap.size < W4.heap.size := World.block_lt_of_cell? _ _ K6a
  have HLa := Lib.hid (HR.out.below HWa.out)
  have HLB : Hid ((belowL l p.id).length ≤ 1000000) := Lib.hid (by have := belowL_le l p.id; have := HL.out.1; omega)
  obtain ⟨M, hM⟩ : ∃ M, M = p.id :: belowL l p.id := ⟨_, rfl⟩
  have hML : M.length = 1 + (belowL l p.id).length := by rw [hM, List.length_cons, Nat.add_comm]
  have hm31 : M.length ≤ 31 := by have := belowL_le l p.id; have := HL.out.1; omega
  have hm1 : 1 ≤ M.length := by omega
  have hroom : at_ + M.length ≤ d.length := by have := HO.out.room; omega
  have HIDS : Hid (idsL ((d.drop at_).take M.length) = M) := Lib.hid (by have := HO.out.ids; rw [← hML, ← hM] at this; exact this)
  have HREST : Hid (restL M l l.length = keptL at_ (at_ + M.length) d d.length) := Lib.hid (by have := HO.out.rest; rw [← hML, ← hM] at this; rw [restL_all, keptL_all]; exact this)
  have HSIB := Lib.hid HO.out.sib
  have HML := Lib.hid hML; clear hML
  have HM := Lib.hid hM; clear hM
  have hl30 := HL.out.1
  clear hb5 hc hf hblk HB4 HR' HR HB0 hp2 hp3 z1 z2 hz4 HG4 hsz0 HFI HPF HLI HFE HD HE HV
  go_cut [8] (fun v8 wc => ∃ (O : Option Addr) (cc : Nat), v8 = .slice O M.length cc ∧ RdS wc O M ∧ Below W4.heap.size W4 wc)
  case first =>
    go_region_held3 (fun X => X.cell? ⟨w.heap.size, 0, none⟩ = some (.slice A l.length c) ∧ X.cell? ⟨w.heap.size + 1, 1, none⟩ = some (vs p.id)) ((go_split_ands; refine ⟨?_, ?_⟩ <;> (first | assumption | go_keep | (simp [go_sem, *]; done))))
      (first
        | (go_at_call 16; refine (below_any l A c p.id _ (by first | exact HLa.out.below (Below.refl _ _).drew | exact HLa.out.below ((Below.refl _ _).drew.alloc (Nat.le_refl _) _)) (by have := HL.out.1; omega) HL.out.2).mono ?_; rintro e w5 ⟨O, cc, rfl, hrs, hO, hb5⟩; obtain ⟨hc, hf⟩ := bcell hb5; have hblk := bblk hb5; simp at hc hf hblk; have hz5 := hb5.size; simp at hz5; have x1 : w.heap.size < w5.heap.size := (by omega); have x2 : w.heap.size + 1 < w5.heap.size := (by omega))
        | (refine step_append_strs rfl (.tmp 47) (.tmp 51) rfl rfl W4.heap.size p.id O (belowL l p.id) cc rfl rfl ((hb5.block _ (by simp)).trans (heap_alloc_new _ _)) hrs HLB.out ?_; intro O' c' w6 hrd6 hgr; have hB6 := po_A hb5 hgr; have h61 := keepc hB6 K2a; have h62 := keepc hB6 K31a)
        | (refine step_append_strs rfl (.tmp 47) (.tmp 51) rfl rfl w5.heap.size p.id O (belowL l p.id) cc rfl rfl (heap_alloc_new _ _) (hrs.below ((Below.refl _ _).alloc (Nat.le_refl _) _)) HLB.out ?_; intro O' c' w6 hrd6 hgr; have hB6 := po_B hb5 hgr; have h61 := keepc hB6 K2a; have h62 := keepc hB6 K31a))
    all_goals
      go_wp2_with fail
      go_meet
      case rel => exact ⟨O', c', by rw [HML.out], by rw [HM.out]; exact hrd6, hB6⟩
  case' rest =>
    obtain ⟨O, cc, rfl, hrm, hbw⟩ := hcut
    have HBc := Lib.hid hbw; clear hbw
    have HRMc := Lib.hid hrm; clear hrm
    have K2c := keepc HBc.out K2a
    have K31c := keepc HBc.out K31a
    have K32c := keepc HBc.out K32a
    have K33c := keepc HBc.out K33a
    have K6c := keepc HBc.out K6a
    have y2c := keepb HBc.out y2a
    have y3c := keepb HBc.out y3a
    have y6c := keepb HBc.out y6a
    have HLc := Lib.hid (HLa.out.below HBc.out)
    have HDc := Lib.hid (HDa.out.below HBc.out)
    have HWc := Lib.hid (HWa.out.trans (HBc.out.mono HWa.out.size))
    clear K2a K31a K32a K33a K6a y2a y3a y6a HLa HDa HWa
    go_wp2_with fail
    refine (find_any d A' c' p.id _ HDc.out (le_maxLen (by omega))).mono ?_
    rintro e w5 ⟨rfl, hb⟩
    rw [HO.out.find]
    have HBd := Lib.hid hb; clear hb
    have HRMd := Lib.hid (HRMc.out.below HBd.out); clear HRMc
    have K2d := keepc HBd.out K2c
    have K31d := keepc HBd.out K31c
    have K32d := keepc HBd.out K32c
    have K33d := keepc HBd.out K33c
    have K6d := keepc HBd.out K6c
    have y2d := keepb HBd.out y2c
    have y3d := keepb HBd.out y3c
    have y6d := keepb HBd.out y6c
    have HLd := Lib.hid (HLc.out.below HBd.out)
    have HDd := Lib.hid (HDc.out.below HBd.out)
    have HWd := Lib.hid (HWc.out.trans (HBd.out.mono HWc.out.size))
    clear K2c K31c K32c K33c K6c y2c y3c y6c HLc HDc HWc
    obtain ⟨y, hy, hyp⟩ := HO.out.par
    obtain ⟨bd, od, rfl, hbsd, e0, e1, e2, e3, e4, e5, e6⟩ := HDd.out.item hy
    rw [hyp] at e2
    clear e0 e1 e3 e4 e5 e6 hyp
    have HY := Lib.hid hy; clear hy
    have hq0 : (0 : Int) ≤ at_ := by omega
    have hq1 : decide ((at_ : Int) < 0) = false := by simp
    have hq2 : IntKind.i64.wrap ((at_ : Int) + (M.length : Int)) = (at_ : Int) + (M.length : Int) := wrap_small _ (by omega) (by omega)
    have hq3 : decide ((d.length : Int) < (at_ : Int) + (M.length : Int)) = false := by simp; omega
    have hq4 : (p.par != p.par) = false := by simp
    have hq5 : (at_ : Int) < d.length := by omega
    have hq6 : (0 : Int) ≤ (at_ : Int) + (M.length : Int) := by omega
    have hq7 : (at_ : Int) + (M.length : Int) ≤ c' := by omega
    have hq8 : (at_ : Int) ≤ (at_ : Int) + (M.length : Int) := by omega
    have hq9 : ¬ c' = at_ := by omega
    have hq10 : ((at_ : Int) + (M.length : Int)).toNat = at_ + M.length := by omega
    have HSd := Lib.hid ((HDd.out.drop at_).take M.length)
    go_wp2_with fail
    go_region_held3 (fun X => X.cell? ⟨w4.heap.size, 0, none⟩ = some (.slice (some ⟨bd, od, none⟩) d.length c') ∧ X.cell? ⟨w.heap.size + 1, 2, none⟩ = some (vs p.par) ∧ X.cell? ⟨bd, od + at_ * 7 + 2, none⟩ = some (vs p.par)) ((go_split_ands; refine ⟨?_, ?_, ?_⟩ <;> (first | assumption | go_keep | (simp [go_sem, *]; done))))
      (first
        | (go_at_call 18; refine (ids_lit HIDS.out _ _ _ _ (by first | (simp; done) | (simp; omega)) (HSd.out.below (Below.refl _ _).drew) (by simp; omega)).mono ?_; rintro e w6 ⟨O2, cc2, rfl, hr2, hb6⟩; have hB6 : Below w5.heap.size w5 w6 := (Below.refl _ _).drew.trans (hb6.mono (by simp)); have q1 := keepc hB6 K6d; have q2 := keepc hB6 K32d; have q3 := keepc hB6 e2)
        | (go_at_call 17; refine (names_same rfl O2 O cc2 cc _ _ rfl rfl _ hr2 (HRMd.out.below hB6) (le_maxLen (by omega)) (le_maxLen (by omega))).mono ?_; rintro e w7 ⟨rfl, hb7⟩; have hB7 := hB6.trans (hb7.mono hB6.size); have q4 := keepc hB7 K6d; have q5 := keepc hB7 K32d; have q6 := keepc hB7 e2))
    go_wp2_with fail
    have HBe := Lib.hid hB7
    have HRMe := Lib.hid (HRMd.out.below HBe.out)
    clear hr2 hb6 hb7 hB6 hB7 q1 q2 q3 q4 q5 q6 e2 HSd HRMd
    have K2e := keepc HBe.out K2d
    have K31e := keepc HBe.out K31d
    have K32e := keepc HBe.out K32d
    have K33e := keepc HBe.out K33d
    have K6e := keepc HBe.out K6d
    have y2e := keepb HBe.out y2d
    have y3e := keepb HBe.out y3d
    have y6e := keepb HBe.out y6d
    have HLe := Lib.hid (HLd.out.below HBe.out)
    have HDe := Lib.hid (HDd.out.below HBe.out)
    have HWe := Lib.hid (HWd.out.trans (HBe.out.mono HWd.out.size))
    clear K2d K31d K32d K33d K6d y2d y3d y6d HLd HDd HWd
    go_loopw [10, 11] (fun b i wr => ∃ k : Nat, k ≤ at_ ∧ b = vs (lastSib (d.take k) p.par) ∧ i = .int .i64 k ∧ Below w7.heap.size w7 wr) (fun _ i _ => at_ - (intOf i).toNat)
    case atStart => exact ⟨0, Nat.zero_le _, rfl, rfl, Below.refl _ _⟩
    case round =>
      obtain ⟨k, hk, rfl, rfl, hb⟩ := hrel
      have HBf := Lib.hid hb; clear hb
      have HRMf := Lib.hid (HRMe.out.below HBf.out)
      have K2f := keepc HBf.out K2e
      have K31f := keepc HBf.out K31e
      have K32f := keepc HBf.out K32e
      have K33f := keepc HBf.out K33e
      have K6f := keepc HBf.out K6e
      have y2f := keepb HBf.out y2e
      have y3f := keepb HBf.out y3e
      have y6f := keepb HBf.out y6e
      have HLf := Lib.hid (HLe.out.below HBf.out)
      have HDf := Lib.hid (HDe.out.below HBf.out)
      have HWf := Lib.hid (HWe.out.trans (HBf.out.mono HWe.out.size))
      by_cases hlt : k < at_
      · obtain ⟨x, hx⟩ := get_of_lt (l := d) (k := k) (by omega)
        obtain ⟨b2, o2, hA2, hbs2, d0, d1, d2, d3, d4, d5, d6⟩ := HDf.out.item hx
        cases hA2
        have hi0 : (0 : Int) ≤ k := by omega
        have hi1 : (k : Int) < at_ := by omega
        have hi2 : (k : Int) < d.length := by omega
        have HS1 := Lib.hid (lastSib_succ (par := p.par) hx)
        clear hx
        cases hp : (x.par == p.par)
        all_goals
          have HP := Lib.hid hp
          go_wp2_with fail
          go_quiet (fail)
          go_wp2_with fail
          refine ⟨⟨k + 1, by omega, by rw [HS1.out, HP.out]; rfl, by go_num, Below.drewN' _ HBf.out⟩, by simp [intOf]; omega⟩
      · obtain rfl : at_ = k := by omega
        rw [HSIB.out]
        clear hlt hk
        obtain ⟨wA, hwA⟩ : ∃ x, x = wr := ⟨_, rfl⟩
        subst hwA
        obtain ⟨i0, hi0, hz0, hz1, hz2⟩ := info_parts info9
        have Hi0 := Lib.hid hi0; clear hi0
        have Hz0 := Lib.hid hz0; clear hz0
        have Hz1 := Lib.hid hz1; clear hz1
        have Hz2 := Lib.hid hz2; clear hz2
        go_wp2_with fail
        go_loopw [12, 14] (fun v i wr => ∃ k : Nat, k ≤ l.length ∧ i = .int .i64 k ∧ wr.ownsRow wA.heap.size 9 1 v (restL M l k).length ((restL M l k).map vs) ∧ Below wA.heap.size wA wr) (fun _ i _ => l.length - (intOf i).toNat)
        case atStart => exact ⟨0, Nat.zero_le _, rfl, World.ownsRow_nil _ _ _ _, Below.refl _ _⟩
        case round =>
          obtain ⟨k, hk, rfl, hown, hb⟩ := hrel
          have HBg := Lib.hid hb; clear hb
          have HOWN := Lib.hid hown; clear hown
          have HRMg := Lib.hid (HRMf.out.below HBg.out)
          have hzg := HBg.out.size
          have K2g := keepc HBg.out K2f
          have K31g := keepc HBg.out K31f
          have K32g := keepc HBg.out K32f
          have K33g := keepc HBg.out K33f
          have K6g := keepc HBg.out K6f
          have y2g := keepb HBg.out y2f
          have y3g := keepb HBg.out y3f
          have y6g := keepb HBg.out y6f
          have HLg := Lib.hid (HLf.out.below HBg.out)
          have HDg := Lib.hid (HDf.out.below HBg.out)
          have HWg := Lib.hid (HWf.out.trans (HBg.out.mono HWf.out.size))
          clear K2f K31f K32f K33f K6f
          by_cases hlt : k < l.length
          · obtain ⟨x, hx⟩ := get_of_lt hlt
            obtain ⟨b1, o1, rfl, hbs1, d0, d1, d2, d3, d4, d5, d6⟩ := HLg.out.item hx
            have hi0 : (0 : Int) ≤ k := by omega
            have hi2 : (k : Int) < l.length := by omega
            have hrl := restL_le M l k
            have HX := Lib.hid hx; clear hx
            cases hin : hasS M x.id
            · have HIN := Lib.hid hin; clear hin
              go_wp2_with fail
              refine (in_any M O cc x.id _ HRMg.out (le_maxLen (by omega))).mono ?_
              rintro e w8 ⟨rfl, rfl⟩
              rw [HIN.out]
              go_wp2_with (at_builtin; refine wpList_append_own _ rfl (.tmp 131) (.tmp 138) _ rfl wA.heap.size 9 i0 (.string ⟨#[]⟩) 1 16 Try.underlying38 Hi0.out Hz0.out Hz1.out Hz2.out rfl (by decide) u12 (restL M l k).length ((restL M l k).map vs) rfl (HOWN.out.alloc _) ⟨wr.heap.size, 0, none⟩ 1 1 [vs x.id] rfl rfl (World.news_of_block (cs := #[vs x.id]) (t := 9) (fr := (0, 0)) (heap_alloc_new wr _)) one_cell (le_maxLen (by omega)) (by omega) (by simp; omega) ?_; intro v' w1 hown1 hgr _)
              refine ⟨⟨k + 1, by omega, by go_num, ?_, ?_⟩, by simp [intOf]; omega⟩
              · rw [restL_out HX.out HIN.out, List.length_append, List.map_append]; exact hown1
              · exact (HBg.out.alloc (by omega) _).grown hgr (by simp; omega) (fun b hb => (own_ge HOWN.out b hb).1)
            · have HIN := Lib.hid hin; clear hin
              go_wp2_with fail
              refine (in_any M O cc x.id _ HRMg.out (le_maxLen (by omega))).mono ?_
              rintro e w8 ⟨rfl, rfl⟩
              rw [HIN.out]
              go_wp2_with fail
              refine ⟨⟨k + 1, by omega, by go_num, by rw [restL_in HX.out HIN.out]; exact HOWN.out, HBg.out⟩, by simp [intOf]; omega⟩
          · have : k = l.length := by omega
            subst this
            obtain ⟨O3, cc3, hvv, hrd, -⟩ := own_slice HOWN.out
            subst hvv
            have HR3 := Lib.hid hrd; clear hrd
            have hr3 := restL_le M l l.length
            generalize restL M l l.length = RL at *
            clear hlt hk
            obtain ⟨wB, hwB⟩ : ∃ x, x = wr := ⟨_, rfl⟩
            subst hwB
            go_wp2_with fail
            go_loopw [13, 15] (fun v i wr => ∃ k : Nat, k ≤ d.length ∧ i = .int .i64 k ∧ wr.ownsRow wB.heap.size 9 1 v (keptL at_ (at_ + M.length) d k).length ((keptL at_ (at_ + M.length) d k).map vs) ∧ Below wB.heap.size wB wr) (fun _ i _ => d.length - (intOf i).toNat)
            case atStart => exact ⟨0, Nat.zero_le _, rfl, by rw [show keptL at_ (at_ + M.length) d 0 = [] by simp [keptL]]; exact World.ownsRow_nil _ _ _ _, Below.refl _ _⟩
            case round =>
              obtain ⟨k, hk, rfl, hown, hb⟩ := hrel
              have HBh := Lib.hid hb; clear hb
              have HOWN2 := Lib.hid hown; clear hown
              have hzh := HBh.out.size
              have K2h := keepc HBh.out K2g
              have K31h := keepc HBh.out K31g
              have K32h := keepc HBh.out K32g
              have K33h := keepc HBh.out K33g
              have K6h := keepc HBh.out K6g
              have y2h := keepb HBh.out y2g
              have y3h := keepb HBh.out y3g
              have y6h := keepb HBh.out y6g
              have HLh := Lib.hid (HLg.out.below HBh.out)
              have HDh := Lib.hid (HDg.out.below HBh.out)
              have HWh := Lib.hid (HWg.out.trans (HBh.out.mono HWg.out.size))
              clear K2g K31g K32g K33g K6g
              have hkl := keptL_le at_ (at_ + M.length) d k
              by_cases hlt : k < d.length
              · obtain ⟨x, hx⟩ := get_of_lt hlt
                obtain ⟨b2, o2, hA2, hbs2, d0, d1, d2, d3, d4, d5, d6⟩ := HDh.out.item hx
                cases hA2
                have hi0 : (0 : Int) ≤ k := by omega
                have hi2 : (k : Int) < d.length := by omega
                have HX := Lib.hid hx; clear hx
                by_cases h1 : k < at_
                · have HKL := Lib.hid (keptL_lo (b := at_ + M.length) HX.out h1 (by omega))
                  have hi3 : decide ((k : Int) < (at_ : Int)) = true := by simp; omega
                  go_wp2_with (at_builtin; refine wpList_append_own _ rfl (.tmp 158) (.tmp 165) _ rfl wB.heap.size 9 i0 (.string ⟨#[]⟩) 1 16 Try.underlying38 Hi0.out Hz0.out Hz1.out Hz2.out rfl (by decide) u13 (keptL at_ (at_ + M.length) d k).length ((keptL at_ (at_ + M.length) d k).map vs) rfl (HOWN2.out.alloc _) ⟨wr.heap.size, 0, none⟩ 1 1 [vs x.id] rfl rfl (World.news_of_block (cs := #[vs x.id]) (t := 9) (fr := (0, 0)) (heap_alloc_new wr _)) one_cell (le_maxLen (by omega)) (by omega) (by simp; omega) ?_; intro v' w1 hown1 hgr _)
                  refine ⟨⟨k + 1, by omega, by go_num, ?_, ?_⟩, by simp [intOf]; omega⟩
                  · rw [HKL.out, List.length_append, List.map_append]; exact hown1
                  · exact (HBh.out.alloc (by omega) _).grown hgr (by simp; omega) (fun b hb => (own_ge HOWN2.out b hb).1)
                · by_cases h2 : k < at_ + M.length
                  · have HKL := Lib.hid (keptL_mid (d := d) (show at_ ≤ k by omega) h2)
                    have hi3 : decide ((k : Int) < (at_ : Int)) = false := by simp; omega
                    have hi4 : decide ((at_ : Int) + (M.length : Int) ≤ k) = false := by simp; omega
                    go_wp2_with fail
                    refine ⟨⟨k + 1, by omega, by go_num, by rw [HKL.out]; exact HOWN2.out, HBh.out⟩, by simp [intOf]; omega⟩
                  · have HKL := Lib.hid (keptL_hi (a := at_) HX.out (show at_ ≤ at_ + M.length by omega) (show at_ + M.length ≤ k by omega))
                    have hi3 : decide ((k : Int) < (at_ : Int)) = false := by simp; omega
                    have hi4 : decide ((at_ : Int) + (M.length : Int) ≤ k) = true := by simp; omega
                    go_wp2_with (at_builtin; refine wpList_append_own _ rfl (.tmp 158) (.tmp 165) _ rfl wB.heap.size 9 i0 (.string ⟨#[]⟩) 1 16 Try.underlying38 Hi0.out Hz0.out Hz1.out Hz2.out rfl (by decide) u13 (keptL at_ (at_ + M.length) d k).length ((keptL at_ (at_ + M.length) d k).map vs) rfl (HOWN2.out.alloc _) ⟨wr.heap.size, 0, none⟩ 1 1 [vs x.id] rfl rfl (World.news_of_block (cs := #[vs x.id]) (t := 9) (fr := (0, 0)) (heap_alloc_new wr _)) one_cell (le_maxLen (by omega)) (by omega) (by simp; omega) ?_; intro v' w1 hown1 hgr _)
                    refine ⟨⟨k + 1, by omega, by go_num, ?_, ?_⟩, by simp [intOf]; omega⟩
                    · rw [HKL.out, List.length_append, List.map_append]; exact hown1
                    · exact (HBh.out.alloc (by omega) _).grown hgr (by simp; omega) (fun b hb => (own_ge HOWN2.out b hb).1)
              · have : k = d.length := by omega
                subst this
                obtain ⟨O4, cc4, hvv, hrd, -⟩ := own_slice HOWN2.out
                subst hvv
                have HR4 := Lib.hid hrd; clear hrd
                have hpp : (p.aft == p.aft) = true := by simp
                have HRE : Hid (RL = keptL at_ (at_ + M.length) d d.length) := Lib.hid HREST.out
                go_wp2_with fail
                refine (names_same HRE.out O3 O4 _ _ _ _ rfl rfl _ (HR3.out.below HBh.out) HR4.out (le_maxLen (by omega)) (le_maxLen (by omega))).mono ?_
                rintro e w9 ⟨rfl, hb9⟩
                go_wp2_with fail
                go_ret
                exact ⟨rfl, HWh.out.trans (hb9.mono HWh.out.size)⟩
theorem porder_any (l : List Item) (A : Option Addr) (c : Nat) (p : Patch) (w : World) (m : Int) (hr : RdI w A l) (hl : l.length ≤ maxLen) (hlc : l.length ≤ c) (hfit : ∀ x ∈ l, x.Fits) (hpf : p.Fits) (hg : w.cell? ⟨0, 0, none⟩ = some (.int .i64 m)) : Calls Try.prog 5 #[.agg #[.slice A l.length c], p.agg] w fun e w' => e = .returned (.bool true) ∧ Below w.heap.size w w' := by
  cases hli : lightB l [] with
  | false => exact porder_a l A c p w m hr hl hlc hfit hpf hg hli
  | true =>
    cases hfe : fewB p with
    | false => exact porder_b l A c p w m hr hl hlc hfit hpf hg hli hfe
    | true =>
      by_cases hk4 : p.kind = 4
      · by_cases h0 : (applyF l p).2 = 0
        · obtain ⟨k, hO⟩ := order_law h0 (.inl hk4)
          exact porder_4 l A c p w m hr hl hlc hfit hpf hg hli hfe _ rfl h0 hk4 k hO
        · exact porder_c4 l A c p w m hr hl hlc hfit hpf hg hli hfe hk4 _ (apply_err h0) rfl h0
      · by_cases hk1 : p.kind = 1
        · by_cases h0 : (applyF l p).2 = 0
          · obtain ⟨k, hO⟩ := order_law h0 (.inr hk1)
            exact porder_1 l A c p w m hr hl hlc hfit hpf hg hli hfe _ rfl h0 hk1 k hO
          · exact porder_c1 l A c p w m hr hl hlc hfit hpf hg hli hfe hk1 _ (apply_err h0) rfl h0
        · exact porder_k l A c p w m hr hl hlc hfit hpf hg hli hfe ⟨hk4, hk1⟩
end Go.Proofs.Ytkdcenbommhnoaa
