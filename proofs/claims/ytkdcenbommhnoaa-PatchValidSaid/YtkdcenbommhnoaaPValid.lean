/- The law PatchValid. -/
import Derived.Test.YtkdcenbommhnoaaCommon
set_option linter.unusedVariables false
set_option linter.unusedSimpArgs false
namespace Go.Proofs.Ytkdcenbommhnoaa
open Go.RowKit
set_option maxRecDepth 20000 in
set_option maxHeartbeats 2000000 in
theorem pvalid_a (l : List Item) (A : Option Addr) (c : Nat) (p : Patch) (w : World) (m : Int) (hr : RdI w A l) (hl : l.length ≤ maxLen) (hlc : l.length ≤ c) (hfit : ∀ x ∈ l, x.Fits) (hpf : p.Fits) (hg : w.cell? ⟨0, 0, none⟩ = some (.int .i64 m)) (hli : lightB l [] = false) :
    Calls Try.prog 3 #[.agg #[.slice A l.length c], p.agg] w fun e w' => e = .returned (.bool true) ∧ Below w.heap.size w w' := by
  have hsz0 : 0 < w.heap.size := World.block_lt_of_cell? w _ hg
  have hb0 := ((Below.refl w.heap.size w).alloc (Nat.le_refl _) (.cells #[.slice A l.length c] 24)).alloc (by simp) (.cells (patCs p) 28)
  have HB0 := Lib.hid hb0; clear hb0
  have HR := Lib.hid hr; clear hr
  have HG := Lib.hid hg; clear hg
  have HFI := Lib.hid hfit; clear hfit
  have HPF := Lib.hid hpf; clear hpf
  have HLI := Lib.hid hli; clear hli
  go_enter Try.func3, Try.ntmps3
  go_wp2_with fail
  refine (head_any _ m (step_cell HB0.out HG.out)).mono ?_
  rintro e w1 ⟨rfl, hb1⟩
  obtain ⟨hc, hf⟩ := bcell hb1
  have hblk := bblk hb1
  have HB1 := Lib.hid hb1; clear hb1
  go_wp2_with fail
  refine (light_any l [] A none c 0 _ ((HR.out.below HB0.out).below HB1.out) Sl.nil hl (by simp) HFI.out (by simp)).mono ?_
  rintro e w2 ⟨rfl, hb2⟩
  rw [HLI.out]
  have hb3 := HB1.out.trans (hb2.mono HB1.out.size)
  clear hc hf hblk hb2 HB1
  obtain ⟨hc, hf⟩ := bcell hb3
  have hblk := bblk hb3
  have HB2 := Lib.hid hb3; clear hb3
  go_wp2_with fail
  go_ret
  exact ⟨rfl, HB0.out.trans (HB2.out.mono HB0.out.size)⟩
set_option maxRecDepth 20000 in
set_option maxHeartbeats 2000000 in
theorem pvalid_b (l : List Item) (A : Option Addr) (c : Nat) (p : Patch) (w : World) (m : Int) (hr : RdI w A l) (hl : l.length ≤ maxLen) (hlc : l.length ≤ c) (hfit : ∀ x ∈ l, x.Fits) (hpf : p.Fits) (hg : w.cell? ⟨0, 0, none⟩ = some (.int .i64 m)) (hli : lightB l [] = true) (hfe : fewB p = false) :
    Calls Try.prog 3 #[.agg #[.slice A l.length c], p.agg] w fun e w' => e = .returned (.bool true) ∧ Below w.heap.size w w' := by
  have hsz0 : 0 < w.heap.size := World.block_lt_of_cell? w _ hg
  have hb0 := ((Below.refl w.heap.size w).alloc (Nat.le_refl _) (.cells #[.slice A l.length c] 24)).alloc (by simp) (.cells (patCs p) 28)
  have HB0 := Lib.hid hb0; clear hb0
  have HR := Lib.hid hr; clear hr
  have HG := Lib.hid hg; clear hg
  have HFI := Lib.hid hfit; clear hfit
  have HPF := Lib.hid hpf; clear hpf
  have HLI := Lib.hid hli; clear hli
  have HFE := Lib.hid hfe; clear hfe
  go_enter Try.func3, Try.ntmps3
  go_wp2_with fail
  refine (head_any _ m (step_cell HB0.out HG.out)).mono ?_
  rintro e w1 ⟨rfl, hb1⟩
  obtain ⟨hc, hf⟩ := bcell hb1
  have hblk := bblk hb1
  have HB1 := Lib.hid hb1; clear hb1
  go_wp2_with fail
  refine (light_any l [] A none c 0 _ ((HR.out.below HB0.out).below HB1.out) Sl.nil hl (by simp) HFI.out (by simp)).mono ?_
  rintro e w2 ⟨rfl, hb2⟩
  rw [HLI.out]
  have hb3 := HB1.out.trans (hb2.mono HB1.out.size)
  clear hc hf hblk hb2 HB1
  obtain ⟨hc, hf⟩ := bcell hb3
  have hblk := bblk hb3
  have HB2 := Lib.hid hb3; clear hb3
  go_wp2_with fail
  refine (few_any p _ HPF.out).mono ?_
  rintro e w3 ⟨rfl, hb2⟩
  rw [HFE.out]
  have hb3 := HB2.out.trans (hb2.mono HB2.out.size)
  clear hc hf hblk hb2 HB2
  obtain ⟨hc, hf⟩ := bcell hb3
  have hblk := bblk hb3
  have HB3 := Lib.hid hb3; clear hb3
  go_wp2_with fail
  go_ret
  exact ⟨rfl, HB0.out.trans (HB3.out.mono HB0.out.size)⟩
set_option maxRecDepth 20000 in
set_option maxHeartbeats 2000000 in
theorem pvalid_c (l : List Item) (A : Option Addr) (c : Nat) (p : Patch) (w : World) (m : Int) (hr : RdI w A l) (hl : l.length ≤ maxLen) (hlc : l.length ≤ c) (hfit : ∀ x ∈ l, x.Fits) (hpf : p.Fits) (hg : w.cell? ⟨0, 0, none⟩ = some (.int .i64 m)) (hli : lightB l [] = true) (hfe : fewB p = true) (er : Int) (hd : (applyF l p).1 = []) (her : (applyF l p).2 = er) (h0 : er ≠ 0) :
    Calls Try.prog 3 #[.agg #[.slice A l.length c], p.agg] w fun e w' => e = .returned (.bool true) ∧ Below w.heap.size w w' := by
  have h0e : (er != 0) = true := by simpa using h0
  clear h0
  have hsz0 : 0 < w.heap.size := World.block_lt_of_cell? w _ hg
  have hb0 := ((Below.refl w.heap.size w).alloc (Nat.le_refl _) (.cells #[.slice A l.length c] 24)).alloc (by simp) (.cells (patCs p) 28)
  have HB0 := Lib.hid hb0; clear hb0
  have HR := Lib.hid hr; clear hr
  have HG := Lib.hid hg; clear hg
  have HFI := Lib.hid hfit; clear hfit
  have HPF := Lib.hid hpf; clear hpf
  have HLI := Lib.hid hli; clear hli
  have HFE := Lib.hid hfe; clear hfe
  go_enter Try.func3, Try.ntmps3
  go_wp2_with fail
  refine (head_any _ m (step_cell HB0.out HG.out)).mono ?_
  rintro e w1 ⟨rfl, hb1⟩
  obtain ⟨hc, hf⟩ := bcell hb1
  have hblk := bblk hb1
  have HB1 := Lib.hid hb1; clear hb1
  go_wp2_with fail
  refine (light_any l [] A none c 0 _ ((HR.out.below HB0.out).below HB1.out) Sl.nil hl (by simp) HFI.out (by simp)).mono ?_
  rintro e w2 ⟨rfl, hb2⟩
  rw [HLI.out]
  have hb3 := HB1.out.trans (hb2.mono HB1.out.size)
  clear hc hf hblk hb2 HB1
  obtain ⟨hc, hf⟩ := bcell hb3
  have hblk := bblk hb3
  have HB2 := Lib.hid hb3; clear hb3
  go_wp2_with fail
  refine (few_any p _ HPF.out).mono ?_
  rintro e w3 ⟨rfl, hb2⟩
  rw [HFE.out]
  have hb3 := HB2.out.trans (hb2.mono HB2.out.size)
  clear hc hf hblk hb2 HB2
  obtain ⟨hc, hf⟩ := bcell hb3
  have hblk := bblk hb3
  have HB3 := Lib.hid hb3; clear hb3
  go_wp2_with fail
  have HL := Lib.hid (light_facts HLI.out)
  have HFF := Lib.hid (few_facts HFE.out)
  have hap := apply_any l A c p w3 ((HR.out.below HB0.out).below HB3.out) (by have := HL.out.1; omega) hlc HL.out.2 HFF.out.1 HFF.out.2.1 m (step_cell (HB0.out.trans (HB3.out.mono HB0.out.size)) HG.out) HFF.out.2.2
  unfold Applies at hap
  rw [hd, her] at hap
  refine hap.mono ?_
  rintro e w4 ⟨v, rfl, ⟨A', c', rfl, hr', hlc', hA'⟩, hb2⟩
  have hb3 := HB3.out.trans (hb2.mono HB3.out.size)
  clear hc hf hblk hb2 HB3 hap
  obtain ⟨hc, hf⟩ := bcell hb3
  have hblk := bblk hb3
  have HB4 := Lib.hid hb3; clear hb3
  have HR' := Lib.hid hr'; clear hr'
  go_wp2_with fail
  go_ret
  exact ⟨rfl, HB0.out.trans ((HB4.out.alloc (by have := HB4.out.size; simp at this ⊢; omega) _).mono HB0.out.size)⟩
set_option maxRecDepth 20000 in
set_option maxHeartbeats 2000000 in
theorem pvalid_d (l : List Item) (A : Option Addr) (c : Nat) (p : Patch) (w : World) (m : Int) (hr : RdI w A l) (hl : l.length ≤ maxLen) (hlc : l.length ≤ c) (hfit : ∀ x ∈ l, x.Fits) (hpf : p.Fits) (hg : w.cell? ⟨0, 0, none⟩ = some (.int .i64 m)) (hli : lightB l [] = true) (hfe : fewB p = true) (d : List Item) (hd : (applyF l p).1 = d) (her : (applyF l p).2 = 0) (hk : p.kind ≠ 1) :
    Calls Try.prog 3 #[.agg #[.slice A l.length c], p.agg] w fun e w' => e = .returned (.bool true) ∧ Below w.heap.size w w' := by
  have hK := kept_law her
  rw [hd] at hK
  have hvd := hK.good
  have hfd := fun x hx => (hK.find x hx)
  have hlen := hK.len
  have hone := hK.one
  have hk1 : (p.kind == 1) = false := by simpa using hk
  have hdl : d.length = l.length + 0 := by rw [hlen]; simp [hk]
  have HD := Lib.hid hd
  have HE := Lib.hid her
  have HV := Lib.hid hvd; clear hvd
  have HFD := Lib.hid hfd; clear hfd
  have HDL := Lib.hid hdl; clear hdl hlen
  clear hk hone hK
  have hsz0 : 0 < w.heap.size := World.block_lt_of_cell? w _ hg
  have hb0 := ((Below.refl w.heap.size w).alloc (Nat.le_refl _) (.cells #[.slice A l.length c] 24)).alloc (by simp) (.cells (patCs p) 28)
  have HB0 := Lib.hid hb0; clear hb0
  have HR := Lib.hid hr; clear hr
  have HG := Lib.hid hg; clear hg
  have HFI := Lib.hid hfit; clear hfit
  have HPF := Lib.hid hpf; clear hpf
  have HLI := Lib.hid hli; clear hli
  have HFE := Lib.hid hfe; clear hfe
  clear hd her
  go_enter Try.func3, Try.ntmps3
  go_wp2_with fail
  refine (head_any _ m (step_cell HB0.out HG.out)).mono ?_
  rintro e w1 ⟨rfl, hb1⟩
  obtain ⟨hc, hf⟩ := bcell hb1
  have hblk := bblk hb1
  have HB1 := Lib.hid hb1; clear hb1
  go_wp2_with fail
  refine (light_any l [] A none c 0 _ ((HR.out.below HB0.out).below HB1.out) Sl.nil hl (by simp) HFI.out (by simp)).mono ?_
  rintro e w2 ⟨rfl, hb2⟩
  rw [HLI.out]
  have hb3 := HB1.out.trans (hb2.mono HB1.out.size)
  clear hc hf hblk hb2 HB1
  obtain ⟨hc, hf⟩ := bcell hb3
  have hblk := bblk hb3
  have HB2 := Lib.hid hb3; clear hb3
  go_wp2_with fail
  refine (few_any p _ HPF.out).mono ?_
  rintro e w3 ⟨rfl, hb2⟩
  rw [HFE.out]
  have hb3 := HB2.out.trans (hb2.mono HB2.out.size)
  clear hc hf hblk hb2 HB2
  obtain ⟨hc, hf⟩ := bcell hb3
  have hblk := bblk hb3
  have HB3 := Lib.hid hb3; clear hb3
  go_wp2_with fail
  have HL := Lib.hid (light_facts HLI.out)
  have HFF := Lib.hid (few_facts HFE.out)
  have hap := apply_any l A c p w3 ((HR.out.below HB0.out).below HB3.out) (by have := HL.out.1; omega) hlc HL.out.2 HFF.out.1 HFF.out.2.1 m (step_cell (HB0.out.trans (HB3.out.mono HB0.out.size)) HG.out) HFF.out.2.2
  unfold Applies at hap
  rw [HD.out, HE.out] at hap
  refine hap.mono ?_
  rintro e w4 ⟨v, rfl, ⟨A', c', rfl, hr', hlc', hA'⟩, hb2⟩
  have hb3 := HB3.out.trans (hb2.mono HB3.out.size)
  clear hc hf hblk hb2 HB3 hap
  obtain ⟨hc, hf⟩ := bcell hb3
  have hblk := bblk hb3
  have HB4 := Lib.hid hb3; clear hb3
  have HR' := Lib.hid hr'; clear hr'
  go_wp2_with fail
  have hz4 := HB4.out.size
  simp at hz4
  have hb5 := HB4.out.alloc (by simp; omega) (.cells #[.slice A' d.length c'] 24)
  have HB5 := Lib.hid hb5; clear hb5
  have hds : ∀ x ∈ d, x.Short := short_of_good HV.out
  have hdl2 : d.length ≤ 2000 := len_of_good HV.out
  have HDS := Lib.hid hds; clear hds
  refine (valid_any d A' c' _ (HR'.out.below ((Below.refl _ _).alloc (Nat.le_refl _) _)) (by omega) HDS.out).mono ?_
  rintro e w6 ⟨rfl, hb6⟩
  rw [HV.out]
  have K6 := step_box hb6
  have zb6 := World.block_lt_of_cell? _ _ K6
  have HR6 := Lib.hid (HR'.out.below (step_below hb6))
  have hb7 := HB4.out.trans ((step_below hb6).mono (by simp; omega))
  clear hc hf hblk hb6 HB5
  obtain ⟨hc, hf⟩ := bcell hb7
  have hblk := bblk hb7
  have HB6 := Lib.hid hb7; clear hb7
  go_wp2_with fail
  go_loopw [9] (fun i wr => ∃ k : Nat, k ≤ l.length ∧ i = .int .i64 k ∧ Below w6.heap.size w6 wr) (fun i _ => l.length - (intOf i).toNat)
  case atStart => exact ⟨0, Nat.zero_le _, rfl, Below.refl _ _⟩
  case round =>
    obtain ⟨k, hk, rfl, hb⟩ := hrel
    have K8 := step_cell hb K6
    have zb8 := World.block_lt_of_cell? _ _ K8
    have HR8 := Lib.hid (HR6.out.below hb)
    have hb8 := HB6.out.trans (hb.mono HB6.out.size)
    have HBR := Lib.hid hb
    clear hc hf hblk hb
    obtain ⟨hc, hf⟩ := bcell hb8
    have hsz8 := hb8.size
    simp at hsz8
    have z1 : w.heap.size < wr.heap.size := by omega
    have HB8 := Lib.hid hb8; clear hb8
    by_cases hlt : k < l.length
    · obtain ⟨x, hx⟩ := get_of_lt hlt
      have hi1 : (k : Int) < l.length := by omega
      have hi0 : (0 : Int) ≤ k := by omega
      have hlm : (l.length : Int) ≤ 9223372036854775807 := by unfold maxLen at hl; omega
      obtain ⟨b1, o1, rfl, hbs1, c0, c1, c2, c3, c4, c5, c6⟩ := ((HR.out.below HB0.out).below HB8.out).item hx
      obtain ⟨kk, y, e1, _⟩ := HFD.out x (List.mem_of_getElem? hx)
      have hq : decide (findI d x.id < 0) = false := by rw [e1]; simp
      have HX := Lib.hid hx; clear hx e1
      clear hc hf
      have hc1 : wr.cell? ⟨w.heap.size, 0, none⟩ = some (.slice (some ⟨b1, o1, none⟩) l.length c) := by
        rw [HB8.out.cell (p := ⟨w.heap.size, 0, none⟩) (by simp; omega)]; simp [go_sem]
      go_wp2_with fail
      refine wp_region_grew (by kernel_rfl) (by as_aux_lemma => kernel_rfl) ?_
      repeat (go_big_quiet_step ((exact Calls_grew (find_any d A' c' x.id _ (HR8.out.below (grew_below _ _)) (le_maxLen (by omega))))))
      refine wpQuiet_nil ?_
      rintro _ ⟨W, rfl⟩
      go_wp2_with fail
      exact ⟨⟨k + 1, by omega, by go_num, HBR.out.trans ((grew_below _ _).mono HBR.out.size)⟩, by simp [intOf]; omega⟩
    · have : k = l.length := by omega
      subst this
      have hql : ((d.length : Int) == (l.length : Int)) = true := by rw [HDL.out]; simp
      have hlm : (l.length : Int) ≤ 2000 := by have := HDL.out; omega
      go_wp2_with fail
      go_ret
      exact ⟨rfl, HB0.out.trans (HB8.out.mono HB0.out.size)⟩
set_option maxRecDepth 20000 in
set_option maxHeartbeats 2000000 in
theorem pvalid_e (l : List Item) (A : Option Addr) (c : Nat) (p : Patch) (w : World) (m : Int) (hr : RdI w A l) (hl : l.length ≤ maxLen) (hlc : l.length ≤ c) (hfit : ∀ x ∈ l, x.Fits) (hpf : p.Fits) (hg : w.cell? ⟨0, 0, none⟩ = some (.int .i64 m)) (hli : lightB l [] = true) (hfe : fewB p = true) (d : List Item) (hd : (applyF l p).1 = d) (her : (applyF l p).2 = 0) (hk : p.kind = 1) :
    Calls Try.prog 3 #[.agg #[.slice A l.length c], p.agg] w fun e w' => e = .returned (.bool true) ∧ Below w.heap.size w w' := by
  have hK := kept_law her
  rw [hd] at hK
  have hvd := hK.good
  have hfd := fun x hx => (hK.find x hx)
  have hlen := hK.len
  have hone := hK.one
  have hk1 : (p.kind == 1) = true := by simp [hk]
  have hdl : d.length = l.length + 1 := by rw [hlen]; simp [hk]
  have HD := Lib.hid hd
  have HE := Lib.hid her
  have HV := Lib.hid hvd; clear hvd
  have HFD := Lib.hid hfd; clear hfd
  have HDL := Lib.hid hdl; clear hdl hlen
  have hon := hone hk
  have hq1 : decide (findI d p.id < 0) = false := by simpa using hon.1
  have hq2 : decide (0 ≤ findI l p.id) = false := by simpa using hon.2
  clear hon
  clear hk hone hK
  have hsz0 : 0 < w.heap.size := World.block_lt_of_cell? w _ hg
  have hb0 := ((Below.refl w.heap.size w).alloc (Nat.le_refl _) (.cells #[.slice A l.length c] 24)).alloc (by simp) (.cells (patCs p) 28)
  have HB0 := Lib.hid hb0; clear hb0
  have HR := Lib.hid hr; clear hr
  have HG := Lib.hid hg; clear hg
  have HFI := Lib.hid hfit; clear hfit
  have HPF := Lib.hid hpf; clear hpf
  have HLI := Lib.hid hli; clear hli
  have HFE := Lib.hid hfe; clear hfe
  clear hd her
  go_enter Try.func3, Try.ntmps3
  go_wp2_with fail
  refine (head_any _ m (step_cell HB0.out HG.out)).mono ?_
  rintro e w1 ⟨rfl, hb1⟩
  obtain ⟨hc, hf⟩ := bcell hb1
  have hblk := bblk hb1
  have HB1 := Lib.hid hb1; clear hb1
  go_wp2_with fail
  refine (light_any l [] A none c 0 _ ((HR.out.below HB0.out).below HB1.out) Sl.nil hl (by simp) HFI.out (by simp)).mono ?_
  rintro e w2 ⟨rfl, hb2⟩
  rw [HLI.out]
  have hb3 := HB1.out.trans (hb2.mono HB1.out.size)
  clear hc hf hblk hb2 HB1
  obtain ⟨hc, hf⟩ := bcell hb3
  have hblk := bblk hb3
  have HB2 := Lib.hid hb3; clear hb3
  go_wp2_with fail
  refine (few_any p _ HPF.out).mono ?_
  rintro e w3 ⟨rfl, hb2⟩
  rw [HFE.out]
  have hb3 := HB2.out.trans (hb2.mono HB2.out.size)
  clear hc hf hblk hb2 HB2
  obtain ⟨hc, hf⟩ := bcell hb3
  have hblk := bblk hb3
  have HB3 := Lib.hid hb3; clear hb3
  go_wp2_with fail
  have HL := Lib.hid (light_facts HLI.out)
  have HFF := Lib.hid (few_facts HFE.out)
  have hap := apply_any l A c p w3 ((HR.out.below HB0.out).below HB3.out) (by have := HL.out.1; omega) hlc HL.out.2 HFF.out.1 HFF.out.2.1 m (step_cell (HB0.out.trans (HB3.out.mono HB0.out.size)) HG.out) HFF.out.2.2
  unfold Applies at hap
  rw [HD.out, HE.out] at hap
  refine hap.mono ?_
  rintro e w4 ⟨v, rfl, ⟨A', c', rfl, hr', hlc', hA'⟩, hb2⟩
  have hb3 := HB3.out.trans (hb2.mono HB3.out.size)
  clear hc hf hblk hb2 HB3 hap
  obtain ⟨hc, hf⟩ := bcell hb3
  have hblk := bblk hb3
  have HB4 := Lib.hid hb3; clear hb3
  have HR' := Lib.hid hr'; clear hr'
  go_wp2_with fail
  have hz4 := HB4.out.size
  simp at hz4
  have hb5 := HB4.out.alloc (by simp; omega) (.cells #[.slice A' d.length c'] 24)
  have HB5 := Lib.hid hb5; clear hb5
  have hds : ∀ x ∈ d, x.Short := short_of_good HV.out
  have hdl2 : d.length ≤ 2000 := len_of_good HV.out
  have HDS := Lib.hid hds; clear hds
  refine (valid_any d A' c' _ (HR'.out.below ((Below.refl _ _).alloc (Nat.le_refl _) _)) (by omega) HDS.out).mono ?_
  rintro e w6 ⟨rfl, hb6⟩
  rw [HV.out]
  have K6 := step_box hb6
  have zb6 := World.block_lt_of_cell? _ _ K6
  have HR6 := Lib.hid (HR'.out.below (step_below hb6))
  have hb7 := HB4.out.trans ((step_below hb6).mono (by simp; omega))
  clear hc hf hblk hb6 HB5
  obtain ⟨hc, hf⟩ := bcell hb7
  have hblk := bblk hb7
  have HB6 := Lib.hid hb7; clear hb7
  go_wp2_with fail
  refine (find_any d A' c' p.id _ HR6.out (le_maxLen (by omega))).mono ?_
  rintro e w7 ⟨rfl, hb6⟩
  have K7 := step_cell hb6 K6
  have zb7 := World.block_lt_of_cell? _ _ K7
  have HR7 := Lib.hid (HR6.out.below hb6)
  have hb7 := HB6.out.trans (hb6.mono HB6.out.size)
  clear hc hf hblk hb6 HB6 K6 zb6 HR6
  obtain ⟨hc, hf⟩ := bcell hb7
  have hblk := bblk hb7
  have HB6 := Lib.hid hb7; clear hb7
  go_wp2_with fail
  refine (find_any l A c p.id _ ((HR.out.below HB0.out).below HB6.out) hl).mono ?_
  rintro e w8 ⟨rfl, hb6⟩
  have K6 := step_cell hb6 K7
  have zb6 := World.block_lt_of_cell? _ _ K6
  have HR6 := Lib.hid (HR7.out.below hb6)
  have hb7 := HB6.out.trans (hb6.mono HB6.out.size)
  clear hc hf hblk hb6 HB6 K7 zb7 HR7
  obtain ⟨hc, hf⟩ := bcell hb7
  have hblk := bblk hb7
  have HB6 := Lib.hid hb7; clear hb7
  go_wp2_with fail
  go_loopw [9] (fun i wr => ∃ k : Nat, k ≤ l.length ∧ i = .int .i64 k ∧ Below w8.heap.size w8 wr) (fun i _ => l.length - (intOf i).toNat)
  case atStart => exact ⟨0, Nat.zero_le _, rfl, Below.refl _ _⟩
  case round =>
    obtain ⟨k, hk, rfl, hb⟩ := hrel
    have K8 := step_cell hb K6
    have zb8 := World.block_lt_of_cell? _ _ K8
    have HR8 := Lib.hid (HR6.out.below hb)
    have hb8 := HB6.out.trans (hb.mono HB6.out.size)
    have HBR := Lib.hid hb
    clear hc hf hblk hb
    obtain ⟨hc, hf⟩ := bcell hb8
    have hsz8 := hb8.size
    simp at hsz8
    have z1 : w.heap.size < wr.heap.size := by omega
    have HB8 := Lib.hid hb8; clear hb8
    by_cases hlt : k < l.length
    · obtain ⟨x, hx⟩ := get_of_lt hlt
      have hi1 : (k : Int) < l.length := by omega
      have hi0 : (0 : Int) ≤ k := by omega
      have hlm : (l.length : Int) ≤ 9223372036854775807 := by unfold maxLen at hl; omega
      obtain ⟨b1, o1, rfl, hbs1, c0, c1, c2, c3, c4, c5, c6⟩ := ((HR.out.below HB0.out).below HB8.out).item hx
      obtain ⟨kk, y, e1, _⟩ := HFD.out x (List.mem_of_getElem? hx)
      have hq : decide (findI d x.id < 0) = false := by rw [e1]; simp
      have HX := Lib.hid hx; clear hx e1
      clear hc hf
      have hc1 : wr.cell? ⟨w.heap.size, 0, none⟩ = some (.slice (some ⟨b1, o1, none⟩) l.length c) := by
        rw [HB8.out.cell (p := ⟨w.heap.size, 0, none⟩) (by simp; omega)]; simp [go_sem]
      go_wp2_with fail
      refine wp_region_grew (by kernel_rfl) (by as_aux_lemma => kernel_rfl) ?_
      repeat (go_big_quiet_step ((exact Calls_grew (find_any d A' c' x.id _ (HR8.out.below (grew_below _ _)) (le_maxLen (by omega))))))
      refine wpQuiet_nil ?_
      rintro _ ⟨W, rfl⟩
      go_wp2_with fail
      exact ⟨⟨k + 1, by omega, by go_num, HBR.out.trans ((grew_below _ _).mono HBR.out.size)⟩, by simp [intOf]; omega⟩
    · have : k = l.length := by omega
      subst this
      have hql : ((d.length : Int) == (l.length : Int) + 1) = true := by rw [HDL.out]; simp
      have hlm : (l.length : Int) ≤ 2000 := by have := HDL.out; omega
      go_wp2_with fail
      go_ret
      exact ⟨rfl, HB0.out.trans (HB8.out.mono HB0.out.size)⟩
theorem pvalid_any (l : List Item) (A : Option Addr) (c : Nat) (p : Patch) (w : World) (m : Int) (hr : RdI w A l) (hl : l.length ≤ maxLen) (hlc : l.length ≤ c) (hfit : ∀ x ∈ l, x.Fits) (hpf : p.Fits) (hg : w.cell? ⟨0, 0, none⟩ = some (.int .i64 m)) : Calls Try.prog 3 #[.agg #[.slice A l.length c], p.agg] w fun e w' => e = .returned (.bool true) ∧ Below w.heap.size w w' := by
  cases hli : lightB l [] with
  | false => exact pvalid_a l A c p w m hr hl hlc hfit hpf hg hli
  | true =>
    cases hfe : fewB p with
    | false => exact pvalid_b l A c p w m hr hl hlc hfit hpf hg hli hfe
    | true =>
      by_cases h0 : (applyF l p).2 = 0
      · by_cases hk : p.kind = 1
        · exact pvalid_e l A c p w m hr hl hlc hfit hpf hg hli hfe _ rfl h0 hk
        · exact pvalid_d l A c p w m hr hl hlc hfit hpf hg hli hfe _ rfl h0 hk
      · exact pvalid_c l A c p w m hr hl hlc hfit hpf hg hli hfe _ (apply_err h0) rfl h0
end Go.Proofs.Ytkdcenbommhnoaa
