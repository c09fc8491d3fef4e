/- The law PatchBack. -/
import Derived.Test.YtkdcenbommhnoaaBack2
import Derived.Test.YtkdcenbommhnoaaSame
set_option linter.unusedVariables false
set_option linter.unusedSimpArgs false
namespace Go.Proofs.Ytkdcenbommhnoaa
open Go.RowKit
theorem keepk {wp wn : World} {b : Nat} {x : Obj} (hb : Below wp.heap.size wp wn) (h : wp.blk b = some x) : wn.blk b = some x := (hb.block b (lt_of_heap h)).trans h
theorem item_short {l : List Item} {id : Str} (hs : ∀ x ∈ l, x.Short) : (itemF l id).Short := by
  unfold itemF
  cases h : l.find? (fun x => x.id == id) with
  | none => exact ⟨Nat.zero_le _, Nat.zero_le _, Nat.zero_le _, Nat.zero_le _, Nat.zero_le _⟩
  | some x => exact hs x (List.mem_of_find?_eq_some h)
theorem zero_short : noItem.Short := ⟨Nat.zero_le _, Nat.zero_le _, Nat.zero_le _, Nat.zero_le _, Nat.zero_le _⟩
theorem back_bounds {l d : List Item} {p : Patch} (hs : ∀ x ∈ l, x.Short) (hf : p.fr.length ≤ 1000000) : (backF l d p).1.item.Short ∧ (backF l d p).1.num.length ≤ maxLen ∧ (backF l d p).1.to.length ≤ 1000000 := by
  have h := item_short (id := p.id) hs
  have h0 : ([] : Str).length ≤ maxLen := Nat.zero_le _
  have h1 : ([] : Str).length ≤ 1000000 := Nat.zero_le _
  unfold backF
  repeat' split
  all_goals first
    | exact ⟨zero_short, h0, h1⟩
    | exact ⟨zero_short, h0, hf⟩
    | exact ⟨zero_short, h.num, h1⟩
    | exact ⟨⟨h0, h0, h0, h.no, h.so⟩, h0, h1⟩
theorem few_fr {p : Patch} (h : fewB p = true) : p.fr.length ≤ 1000000 := by
  unfold fewB few1 few2 few3 at h
  simp only [Bool.and_eq_true, decide_eq_true_eq] at h
  omega
set_option maxRecDepth 20000 in
set_option maxHeartbeats 2000000 in
theorem pback_a (l : List Item) (A : Option Addr) (c : Nat) (p : Patch) (w : World) (m : Int) (hr : RdI w A l) (hl : l.length ≤ maxLen) (hlc : l.length ≤ c) (hfit : ∀ x ∈ l, x.Fits) (hpf : p.Fits) (hg : w.cell? ⟨0, 0, none⟩ = some (.int .i64 m)) (hli : lightB l [] = false) :
    Calls Try.prog 8 #[.agg #[.slice A l.length c], p.agg] w fun e w' => e = .returned (.bool true) ∧ Below w.heap.size w w' := by
  have hsz0 : 0 < w.heap.size := World.block_lt_of_cell? w _ hg
  have hb0 := ((Below.refl w.heap.size w).alloc (Nat.le_refl _) (.cells #[.slice A l.length c] 24)).alloc (by simp) (.cells (patCs p) 28)
  have HB0 := Lib.hid hb0; clear hb0
  have HR := Lib.hid hr; clear hr
  have HG := Lib.hid hg; clear hg
  have HFI := Lib.hid hfit; clear hfit
  have HPF := Lib.hid hpf; clear hpf
  have HLI := Lib.hid hli; clear hli
  go_enter Try.func8, Try.ntmps8
  go_wp2_with fail
  refine (head_any _ m (step_cell HB0.out HG.out)).mono ?_
  rintro e w1 ⟨rfl, hb1⟩
  obtain ⟨hc, hf⟩ := bcell hb1
  have hblk := bblk hb1
  have HB1 := Lib.hid hb1; clear hb1
  go_wp2_with fail
  refine (light_any l [] A none c 0 _ ((HR.out.below HB0.out).below HB1.out) Sl.nil hl (by simp) HFI.out (by simp)).mono ?_
  rintro e w2 ⟨rfl, hb2⟩
  rw [HLI.out]
  have hb3 := HB1.out.trans (hb2.mono HB1.out.size)
  clear hc hf hblk hb2 HB1
  obtain ⟨hc, hf⟩ := bcell hb3
  have hblk := bblk hb3
  have HB2 := Lib.hid hb3; clear hb3
  go_wp2_with fail
  go_ret
  exact ⟨rfl, HB0.out.trans (HB2.out.mono HB0.out.size)⟩
set_option maxRecDepth 20000 in
set_option maxHeartbeats 2000000 in
theorem pback_b (l : List Item) (A : Option Addr) (c : Nat) (p : Patch) (w : World) (m : Int) (hr : RdI w A l) (hl : l.length ≤ maxLen) (hlc : l.length ≤ c) (hfit : ∀ x ∈ l, x.Fits) (hpf : p.Fits) (hg : w.cell? ⟨0, 0, none⟩ = some (.int .i64 m)) (hli : lightB l [] = true) (hfe : fewB p = false) :
    Calls Try.prog 8 #[.agg #[.slice A l.length c], p.agg] w fun e w' => e = .returned (.bool true) ∧ Below w.heap.size w w' := by
  have hsz0 : 0 < w.heap.size := World.block_lt_of_cell? w _ hg
  have hb0 := ((Below.refl w.heap.size w).alloc (Nat.le_refl _) (.cells #[.slice A l.length c] 24)).alloc (by simp) (.cells (patCs p) 28)
  have HB0 := Lib.hid hb0; clear hb0
  have HR := Lib.hid hr; clear hr
  have HG := Lib.hid hg; clear hg
  have HFI := Lib.hid hfit; clear hfit
  have HPF := Lib.hid hpf; clear hpf
  have HLI := Lib.hid hli; clear hli
  have HFE := Lib.hid hfe; clear hfe
  go_enter Try.func8, Try.ntmps8
  go_wp2_with fail
  refine (head_any _ m (step_cell HB0.out HG.out)).mono ?_
  rintro e w1 ⟨rfl, hb1⟩
  obtain ⟨hc, hf⟩ := bcell hb1
  have hblk := bblk hb1
  have HB1 := Lib.hid hb1; clear hb1
  go_wp2_with fail
  refine (light_any l [] A none c 0 _ ((HR.out.below HB0.out).below HB1.out) Sl.nil hl (by simp) HFI.out (by simp)).mono ?_
  rintro e w2 ⟨rfl, hb2⟩
  rw [HLI.out]
  have hb3 := HB1.out.trans (hb2.mono HB1.out.size)
  clear hc hf hblk hb2 HB1
  obtain ⟨hc, hf⟩ := bcell hb3
  have hblk := bblk hb3
  have HB2 := Lib.hid hb3; clear hb3
  go_wp2_with fail
  refine (few_any p _ HPF.out).mono ?_
  rintro e w3 ⟨rfl, hb2⟩
  rw [HFE.out]
  have hb3 := HB2.out.trans (hb2.mono HB2.out.size)
  clear hc hf hblk hb2 HB2
  obtain ⟨hc, hf⟩ := bcell hb3
  have hblk := bblk hb3
  have HB3 := Lib.hid hb3; clear hb3
  go_wp2_with fail
  go_ret
  exact ⟨rfl, HB0.out.trans (HB3.out.mono HB0.out.size)⟩
set_option maxRecDepth 20000 in
set_option maxHeartbeats 2000000 in
theorem pback_c (l : List Item) (A : Option Addr) (c : Nat) (p : Patch) (w : World) (m : Int) (hr : RdI w A l) (hl : l.length ≤ maxLen) (hlc : l.length ≤ c) (hfit : ∀ x ∈ l, x.Fits) (hpf : p.Fits) (hg : w.cell? ⟨0, 0, none⟩ = some (.int .i64 m)) (hli : lightB l [] = true) (hfe : fewB p = true) (er : Int) (hd : (applyF l p).1 = []) (her : (applyF l p).2 = er) (h0 : er ≠ 0) :
    Calls Try.prog 8 #[.agg #[.slice A l.length c], p.agg] w fun e w' => e = .returned (.bool true) ∧ Below w.heap.size w w' := by
  have h0e : (er != 0) = true := by simpa using h0
  have hi : invertF l p = (zeroP, er) := by unfold invertF; rw [her, if_neg h0]
  have HI := Lib.hid hi; clear hi h0
  have hsz0 : 0 < w.heap.size := World.block_lt_of_cell? w _ hg
  have hb0 := ((Below.refl w.heap.size w).alloc (Nat.le_refl _) (.cells #[.slice A l.length c] 24)).alloc (by simp) (.cells (patCs p) 28)
  have HB0 := Lib.hid hb0; clear hb0
  have HR := Lib.hid hr; clear hr
  have HG := Lib.hid hg; clear hg
  have HFI := Lib.hid hfit; clear hfit
  have HPF := Lib.hid hpf; clear hpf
  have HLI := Lib.hid hli; clear hli
  have HFE := Lib.hid hfe; clear hfe
  go_enter Try.func8, Try.ntmps8
  go_wp2_with fail
  refine (head_any _ m (step_cell HB0.out HG.out)).mono ?_
  rintro e w1 ⟨rfl, hb1⟩
  obtain ⟨hc, hf⟩ := bcell hb1
  have hblk := bblk hb1
  have HB1 := Lib.hid hb1; clear hb1
  go_wp2_with fail
  refine (light_any l [] A none c 0 _ ((HR.out.below HB0.out).below HB1.out) Sl.nil hl (by simp) HFI.out (by simp)).mono ?_
  rintro e w2 ⟨rfl, hb2⟩
  rw [HLI.out]
  have hb3 := HB1.out.trans (hb2.mono HB1.out.size)
  clear hc hf hblk hb2 HB1
  obtain ⟨hc, hf⟩ := bcell hb3
  have hblk := bblk hb3
  have HB2 := Lib.hid hb3; clear hb3
  go_wp2_with fail
  refine (few_any p _ HPF.out).mono ?_
  rintro e w3 ⟨rfl, hb2⟩
  rw [HFE.out]
  have hb3 := HB2.out.trans (hb2.mono HB2.out.size)
  clear hc hf hblk hb2 HB2
  obtain ⟨hc, hf⟩ := bcell hb3
  have hblk := bblk hb3
  have HB3 := Lib.hid hb3; clear hb3
  go_wp2_with fail
  have HL := Lib.hid (light_facts HLI.out)
  have HFF := Lib.hid (few_facts HFE.out)
  have hap := apply_any l A c p w3 ((HR.out.below HB0.out).below HB3.out) (by have := HL.out.1; omega) hlc HL.out.2 HFF.out.1 HFF.out.2.1 m (step_cell (HB0.out.trans (HB3.out.mono HB0.out.size)) HG.out) HFF.out.2.2
  unfold Applies at hap
  rw [hd, her] at hap
  refine hap.mono ?_
  rintro e w4 ⟨v, rfl, ⟨A', c', rfl, hr', hlc', hA'⟩, hb2⟩
  have hb3 := HB3.out.trans (hb2.mono HB3.out.size)
  clear hc hf hblk hb2 HB3 hap
  obtain ⟨hc, hf⟩ := bcell hb3
  have hblk := bblk hb3
  have HB4 := Lib.hid hb3; clear hb3
  have HR' := Lib.hid hr'; clear hr'
  have hz4 := HB4.out.size
  simp at hz4
  have z1 : w.heap.size < w4.heap.size := by omega
  have z2 : w.heap.size + 1 < w4.heap.size := by omega
  have HW4 := Lib.hid ((HB4.out.alloc HB4.out.size (.cells #[.slice A' 0 c'] 24)))
  have HR4 := Lib.hid ((HR.out.below HB0.out).below HW4.out)
  have HG4 := Lib.hid (step_cell (HB0.out.trans (HW4.out.mono HB0.out.size)) HG.out)
  go_wp2_with fail
  have hinv := invert_any l A c p _ HR4.out (by have := HL.out.1; omega) hlc HL.out.2 HFF.out.1 HFF.out.2.1 m HG4.out HFF.out.2.2
  unfold Inverts at hinv
  rw [HI.out] at hinv
  refine hinv.mono ?_
  rintro e w6 ⟨rfl, hb6⟩
  have HB6 := Lib.hid (HB0.out.trans ((HW4.out.trans (hb6.mono HW4.out.size)).mono HB0.out.size))
  have hee : (er == er) = true := by simp
  clear hinv hb6 hc hf hblk
  go_wp2_with fail
  go_ret
  exact ⟨rfl, HB6.out.alloc HB6.out.size _⟩
set_option maxRecDepth 20000 in
set_option maxHeartbeats 2000000 in
theorem pback_f1 (l : List Item) (A : Option Addr) (c : Nat) (p : Patch) (w : World) (m : Int) (hr : RdI w A l) (hl : l.length ≤ maxLen) (hlc : l.length ≤ c) (hfit : ∀ x ∈ l, x.Fits) (hpf : p.Fits) (hg : w.cell? ⟨0, 0, none⟩ = some (.int .i64 m)) (hli : lightB l [] = true) (hfe : fewB p = true) (d : List Item) (hd : (applyF l p).1 = d) (her : (applyF l p).2 = 0) (q : Patch) (hq : backF l d p = (q, 12)) (hk : p.kind = 1) :
    Calls Try.prog 8 #[.agg #[.slice A l.length c], p.agg] w fun e w' => e = .returned (.bool true) ∧ Below w.heap.size w w' := by
  have hK := kept_law her
  rw [hd] at hK
  have hvd := hK.good
  have HD := Lib.hid hd
  have HE := Lib.hid her
  have HV := Lib.hid hvd; clear hvd
  have hi : invertF l p = (q, 12) := by unfold invertF; rw [if_pos her, hd, hq]
  have HI := Lib.hid hi; clear hi hq
  have hk1 : (p.kind == 1) = true := by simp [hk]
  have hk2 : (p.kind == 2) = false := by simp [hk]
  clear hk
  have HK := Lib.hid hK; clear hK
  have hsz0 : 0 < w.heap.size := World.block_lt_of_cell? w _ hg
  have hb0 := ((Below.refl w.heap.size w).alloc (Nat.le_refl _) (.cells #[.slice A l.length c] 24)).alloc (by simp) (.cells (patCs p) 28)
  have HB0 := Lib.hid hb0; clear hb0
  have HR := Lib.hid hr; clear hr
  have HG := Lib.hid hg; clear hg
  have HFI := Lib.hid hfit; clear hfit
  have HPF := Lib.hid hpf; clear hpf
  have HLI := Lib.hid hli; clear hli
  have HFE := Lib.hid hfe; clear hfe
  clear hd her
  go_enter Try.func8, Try.ntmps8
  go_wp2_with fail
  refine (head_any _ m (step_cell HB0.out HG.out)).mono ?_
  rintro e w1 ⟨rfl, hb1⟩
  obtain ⟨hc, hf⟩ := bcell hb1
  have hblk := bblk hb1
  have HB1 := Lib.hid hb1; clear hb1
  go_wp2_with fail
  refine (light_any l [] A none c 0 _ ((HR.out.below HB0.out).below HB1.out) Sl.nil hl (by simp) HFI.out (by simp)).mono ?_
  rintro e w2 ⟨rfl, hb2⟩
  rw [HLI.out]
  have hb3 := HB1.out.trans (hb2.mono HB1.out.size)
  clear hc hf hblk hb2 HB1
  obtain ⟨hc, hf⟩ := bcell hb3
  have hblk := bblk hb3
  have HB2 := Lib.hid hb3; clear hb3
  go_wp2_with fail
  refine (few_any p _ HPF.out).mono ?_
  rintro e w3 ⟨rfl, hb2⟩
  rw [HFE.out]
  have hb3 := HB2.out.trans (hb2.mono HB2.out.size)
  clear hc hf hblk hb2 HB2
  obtain ⟨hc, hf⟩ := bcell hb3
  have hblk := bblk hb3
  have HB3 := Lib.hid hb3; clear hb3
  go_wp2_with fail
  have HL := Lib.hid (light_facts HLI.out)
  have HFF := Lib.hid (few_facts HFE.out)
  have hap := apply_any l A c p w3 ((HR.out.below HB0.out).below HB3.out) (by have := HL.out.1; omega) hlc HL.out.2 HFF.out.1 HFF.out.2.1 m (step_cell (HB0.out.trans (HB3.out.mono HB0.out.size)) HG.out) HFF.out.2.2
  unfold Applies at hap
  rw [HD.out, HE.out] at hap
  refine hap.mono ?_
  rintro e w4 ⟨v, rfl, ⟨A', c', rfl, hr', hlc', hA'⟩, hb2⟩
  have hb3 := HB3.out.trans (hb2.mono HB3.out.size)
  clear hc hf hblk hb2 HB3 hap
  obtain ⟨hc, hf⟩ := bcell hb3
  have hblk := bblk hb3
  have HB4 := Lib.hid hb3; clear hb3
  have HR' := Lib.hid hr'; clear hr'
  have hz4 := HB4.out.size
  simp at hz4
  have z1 : w.heap.size < w4.heap.size := by omega
  have z2 : w.heap.size + 1 < w4.heap.size := by omega
  have HW4 := Lib.hid ((HB4.out.alloc HB4.out.size (.cells #[.slice A' d.length c'] 24)))
  have HR4 := Lib.hid ((HR.out.below HB0.out).below HW4.out)
  have HGW := Lib.hid (step_cell (HB0.out.trans (HW4.out.mono HB0.out.size)) HG.out)
  go_wp2_with fail
  have hdl2 : d.length ≤ 2000 := len_of_good HV.out
  have HDS := Lib.hid (short_of_good HV.out)
  have HG4 := Lib.hid (step_cell (HB0.out.trans (HB4.out.mono HB0.out.size)) HG.out)
  have hinv := invert_any l A c p _ HR4.out (by have := HL.out.1; omega) hlc HL.out.2 HFF.out.1 HFF.out.2.1 m HGW.out HFF.out.2.2
  unfold Inverts at hinv
  rw [HI.out] at hinv
  refine hinv.mono ?_
  rintro e w6 ⟨rfl, hb6⟩
  clear hinv
  have HB6 := Lib.hid (HB0.out.trans ((HW4.out.trans (hb6.mono HW4.out.size)).mono HB0.out.size))
  have C30 : w6.cell? ⟨w.heap.size + 1, 0, none⟩ = some (.int .i64 p.kind) := by
    rw [hb6.cell (p := ⟨w.heap.size + 1, 0, none⟩) (by simp; omega)]
    simp [go_sem, z2, hc]
  have z6 : w.heap.size + 1 < w6.heap.size := World.block_lt_of_cell? _ _ C30
  clear hb6 hc hf hblk
  go_wp2_with fail
  go_ret
  exact ⟨rfl, HB6.out.alloc HB6.out.size _⟩
set_option maxRecDepth 20000 in
set_option maxHeartbeats 2000000 in
theorem pback_f2 (l : List Item) (A : Option Addr) (c : Nat) (p : Patch) (w : World) (m : Int) (hr : RdI w A l) (hl : l.length ≤ maxLen) (hlc : l.length ≤ c) (hfit : ∀ x ∈ l, x.Fits) (hpf : p.Fits) (hg : w.cell? ⟨0, 0, none⟩ = some (.int .i64 m)) (hli : lightB l [] = true) (hfe : fewB p = true) (d : List Item) (hd : (applyF l p).1 = d) (her : (applyF l p).2 = 0) (q : Patch) (hq : backF l d p = (q, 15)) (hk : p.kind = 2) :
    Calls Try.prog 8 #[.agg #[.slice A l.length c], p.agg] w fun e w' => e = .returned (.bool true) ∧ Below w.heap.size w w' := by
  have hK := kept_law her
  rw [hd] at hK
  have hvd := hK.good
  have HD := Lib.hid hd
  have HE := Lib.hid her
  have HV := Lib.hid hvd; clear hvd
  have hi : invertF l p = (q, 15) := by unfold invertF; rw [if_pos her, hd, hq]
  have HI := Lib.hid hi; clear hi hq
  have hk1 : (p.kind == 1) = false := by simp [hk]
  have hk2 : (p.kind == 2) = true := by simp [hk]
  clear hk
  have HK := Lib.hid hK; clear hK
  have hsz0 : 0 < w.heap.size := World.block_lt_of_cell? w _ hg
  have hb0 := ((Below.refl w.heap.size w).alloc (Nat.le_refl _) (.cells #[.slice A l.length c] 24)).alloc (by simp) (.cells (patCs p) 28)
  have HB0 := Lib.hid hb0; clear hb0
  have HR := Lib.hid hr; clear hr
  have HG := Lib.hid hg; clear hg
  have HFI := Lib.hid hfit; clear hfit
  have HPF := Lib.hid hpf; clear hpf
  have HLI := Lib.hid hli; clear hli
  have HFE := Lib.hid hfe; clear hfe
  clear hd her
  go_enter Try.func8, Try.ntmps8
  go_wp2_with fail
  refine (head_any _ m (step_cell HB0.out HG.out)).mono ?_
  rintro e w1 ⟨rfl, hb1⟩
  obtain ⟨hc, hf⟩ := bcell hb1
  have hblk := bblk hb1
  have HB1 := Lib.hid hb1; clear hb1
  go_wp2_with fail
  refine (light_any l [] A none c 0 _ ((HR.out.below HB0.out).below HB1.out) Sl.nil hl (by simp) HFI.out (by simp)).mono ?_
  rintro e w2 ⟨rfl, hb2⟩
  rw [HLI.out]
  have hb3 := HB1.out.trans (hb2.mono HB1.out.size)
  clear hc hf hblk hb2 HB1
  obtain ⟨hc, hf⟩ := bcell hb3
  have hblk := bblk hb3
  have HB2 := Lib.hid hb3; clear hb3
  go_wp2_with fail
  refine (few_any p _ HPF.out).mono ?_
  rintro e w3 ⟨rfl, hb2⟩
  rw [HFE.out]
  have hb3 := HB2.out.trans (hb2.mono HB2.out.size)
  clear hc hf hblk hb2 HB2
  obtain ⟨hc, hf⟩ := bcell hb3
  have hblk := bblk hb3
  have HB3 := Lib.hid hb3; clear hb3
  go_wp2_with fail
  have HL := Lib.hid (light_facts HLI.out)
  have HFF := Lib.hid (few_facts HFE.out)
  have hap := apply_any l A c p w3 ((HR.out.below HB0.out).below HB3.out) (by have := HL.out.1; omega) hlc HL.out.2 HFF.out.1 HFF.out.2.1 m (step_cell (HB0.out.trans (HB3.out.mono HB0.out.size)) HG.out) HFF.out.2.2
  unfold Applies at hap
  rw [HD.out, HE.out] at hap
  refine hap.mono ?_
  rintro e w4 ⟨v, rfl, ⟨A', c', rfl, hr', hlc', hA'⟩, hb2⟩
  have hb3 := HB3.out.trans (hb2.mono HB3.out.size)
  clear hc hf hblk hb2 HB3 hap
  obtain ⟨hc, hf⟩ := bcell hb3
  have hblk := bblk hb3
  have HB4 := Lib.hid hb3; clear hb3
  have HR' := Lib.hid hr'; clear hr'
  have hz4 := HB4.out.size
  simp at hz4
  have z1 : w.heap.size < w4.heap.size := by omega
  have z2 : w.heap.size + 1 < w4.heap.size := by omega
  have HW4 := Lib.hid ((HB4.out.alloc HB4.out.size (.cells #[.slice A' d.length c'] 24)))
  have HR4 := Lib.hid ((HR.out.below HB0.out).below HW4.out)
  have HGW := Lib.hid (step_cell (HB0.out.trans (HW4.out.mono HB0.out.size)) HG.out)
  go_wp2_with fail
  have hdl2 : d.length ≤ 2000 := len_of_good HV.out
  have HDS := Lib.hid (short_of_good HV.out)
  have HG4 := Lib.hid (step_cell (HB0.out.trans (HB4.out.mono HB0.out.size)) HG.out)
  have hinv := invert_any l A c p _ HR4.out (by have := HL.out.1; omega) hlc HL.out.2 HFF.out.1 HFF.out.2.1 m HGW.out HFF.out.2.2
  unfold Inverts at hinv
  rw [HI.out] at hinv
  refine hinv.mono ?_
  rintro e w6 ⟨rfl, hb6⟩
  clear hinv
  have HB6 := Lib.hid (HB0.out.trans ((HW4.out.trans (hb6.mono HW4.out.size)).mono HB0.out.size))
  have C30 : w6.cell? ⟨w.heap.size + 1, 0, none⟩ = some (.int .i64 p.kind) := by
    rw [hb6.cell (p := ⟨w.heap.size + 1, 0, none⟩) (by simp; omega)]
    simp [go_sem, z2, hc]
  have z6 : w.heap.size + 1 < w6.heap.size := World.block_lt_of_cell? _ _ C30
  clear hb6 hc hf hblk
  go_wp2_with fail
  go_ret
  exact ⟨rfl, HB6.out.alloc HB6.out.size _⟩
set_option maxRecDepth 20000 in
set_option maxHeartbeats 2000000 in
theorem pback_4 (l : List Item) (A : Option Addr) (c : Nat) (p : Patch) (w : World) (m : Int) (hr : RdI w A l) (hl : l.length ≤ maxLen) (hlc : l.length ≤ c) (hfit : ∀ x ∈ l, x.Fits) (hpf : p.Fits) (hg : w.cell? ⟨0, 0, none⟩ = some (.int .i64 m)) (hli : lightB l [] = true) (hfe : fewB p = true) (d : List Item) (hd : (applyF l p).1 = d) (her : (applyF l p).2 = 0) (q : Patch) (hq : backF l d p = (q, 0)) (hok : BackOk l d p q) (hk : p.kind = 4) :
    Calls Try.prog 8 #[.agg #[.slice A l.length c], p.agg] w fun e w' => e = .returned (.bool true) ∧ Below w.heap.size w w' := by
  have hK := kept_law her
  rw [hd] at hK
  have hvd := hK.good
  have HD := Lib.hid hd
  have HE := Lib.hid her
  have HV := Lib.hid hvd; clear hvd
  have hi : invertF l p = (q, 0) := by unfold invertF; rw [if_pos her, hd, hq]
  have hqb := back_bounds (l := l) (d := d) (light_facts hli).2 (few_fr hfe)
  rw [hq] at hqb
  have HQB := Lib.hid hqb; clear hqb
  have HI := Lib.hid hi; clear hi hq
  have hk4 : (p.kind == 4) = true := by simp [hk]
  have hk1 : (p.kind == 1) = false := by simp [hk]
  clear hk
  obtain ⟨r, hh, hi2⟩ : ∃ r hh, invertF d q = (r, hh) := ⟨_, _, rfl⟩
  have HWAS := Lib.hid hok.was
  clear hok
  have HI2 := Lib.hid hi2; clear hi2
  have HK := Lib.hid hK; clear hK
  have hsz0 : 0 < w.heap.size := World.block_lt_of_cell? w _ hg
  have hb0 := ((Below.refl w.heap.size w).alloc (Nat.le_refl _) (.cells #[.slice A l.length c] 24)).alloc (by simp) (.cells (patCs p) 28)
  have HB0 := Lib.hid hb0; clear hb0
  have HR := Lib.hid hr; clear hr
  have HG := Lib.hid hg; clear hg
  have HFI := Lib.hid hfit; clear hfit
  have HPF := Lib.hid hpf; clear hpf
  have HLI := Lib.hid hli; clear hli
  have HFE := Lib.hid hfe; clear hfe
  clear hd her
  go_enter Try.func8, Try.ntmps8
  go_wp2_with fail
  refine (head_any _ m (step_cell HB0.out HG.out)).mono ?_
  rintro e w1 ⟨rfl, hb1⟩
  obtain ⟨hc, hf⟩ := bcell hb1
  have hblk := bblk hb1
  have HB1 := Lib.hid hb1; clear hb1
  go_wp2_with fail
  refine (light_any l [] A none c 0 _ ((HR.out.below HB0.out).below HB1.out) Sl.nil hl (by simp) HFI.out (by simp)).mono ?_
  rintro e w2 ⟨rfl, hb2⟩
  rw [HLI.out]
  have hb3 := HB1.out.trans (hb2.mono HB1.out.size)
  clear hc hf hblk hb2 HB1
  obtain ⟨hc, hf⟩ := bcell hb3
  have hblk := bblk hb3
  have HB2 := Lib.hid hb3; clear hb3
  go_wp2_with fail
  refine (few_any p _ HPF.out).mono ?_
  rintro e w3 ⟨rfl, hb2⟩
  rw [HFE.out]
  have hb3 := HB2.out.trans (hb2.mono HB2.out.size)
  clear hc hf hblk hb2 HB2
  obtain ⟨hc, hf⟩ := bcell hb3
  have hblk := bblk hb3
  have HB3 := Lib.hid hb3; clear hb3
  go_wp2_with fail
  have HL := Lib.hid (light_facts HLI.out)
  have HFF := Lib.hid (few_facts HFE.out)
  have hap := apply_any l A c p w3 ((HR.out.below HB0.out).below HB3.out) (by have := HL.out.1; omega) hlc HL.out.2 HFF.out.1 HFF.out.2.1 m (step_cell (HB0.out.trans (HB3.out.mono HB0.out.size)) HG.out) HFF.out.2.2
  unfold Applies at hap
  rw [HD.out, HE.out] at hap
  refine hap.mono ?_
  rintro e w4 ⟨v, rfl, ⟨A', c', rfl, hr', hlc', hA'⟩, hb2⟩
  have hb3 := HB3.out.trans (hb2.mono HB3.out.size)
  clear hc hf hblk hb2 HB3 hap
  obtain ⟨hc, hf⟩ := bcell hb3
  have hblk := bblk hb3
  have HB4 := Lib.hid hb3; clear hb3
  have HR' := Lib.hid hr'; clear hr'
  have hz4 := HB4.out.size
  simp at hz4
  have z1 : w.heap.size < w4.heap.size := by omega
  have z2 : w.heap.size + 1 < w4.heap.size := by omega
  have HW4 := Lib.hid ((HB4.out.alloc HB4.out.size (.cells #[.slice A' d.length c'] 24)))
  have HR4 := Lib.hid ((HR.out.below HB0.out).below HW4.out)
  have HGW := Lib.hid (step_cell (HB0.out.trans (HW4.out.mono HB0.out.size)) HG.out)
  go_wp2_with fail
  have hdl2 : d.length ≤ 2000 := len_of_good HV.out
  have HDS := Lib.hid (short_of_good HV.out)
  have HG4 := Lib.hid (step_cell (HB0.out.trans (HB4.out.mono HB0.out.size)) HG.out)
  have hinv := invert_any l A c p _ HR4.out (by have := HL.out.1; omega) hlc HL.out.2 HFF.out.1 HFF.out.2.1 m HGW.out HFF.out.2.2
  unfold Inverts at hinv
  rw [HI.out] at hinv
  refine hinv.mono ?_
  rintro e w6 ⟨rfl, hb6⟩
  clear hinv
  have hp2 : w.heap.size < ((w.alloc (.cells #[.slice A l.length c] 24)).alloc (.cells (patCs p) 28)).heap.size := by simp; omega
  have hp3 : w.heap.size + 1 < ((w.alloc (.cells #[.slice A l.length c] 24)).alloc (.cells (patCs p) 28)).heap.size := by simp
  have HWx := Lib.hid (HW4.out.trans (hb6.mono HW4.out.size))
  have C2x : w6.cell? ⟨w.heap.size, 0, none⟩ = some (.slice A l.length c) := (HWx.out.cell (p := ⟨w.heap.size, 0, none⟩) hp2).trans (by simp [go_sem])
  have P3x : w6.blk (w.heap.size + 1) = some (.cells (patCs p) 28 (0, 0)) := (HWx.out.block _ hp3).trans (blk_alloc_at (by simp))
  have C6x : w6.cell? ⟨w4.heap.size, 0, none⟩ = some (.slice A' d.length c') := (hb6.cell (p := ⟨w4.heap.size, 0, none⟩) (by simp)).trans (by simp [go_sem])
  have HDx := Lib.hid (HR'.out.below (((Below.refl _ _).alloc (Nat.le_refl _) (.cells #[.slice A' d.length c'] 24)).trans (hb6.mono (by simp))))
  have HLx := Lib.hid ((HR.out.below HB0.out).below HWx.out)
  have HG0x := Lib.hid (step_cell (HB0.out.trans (HWx.out.mono HB0.out.size)) HG.out)
  have HWw := Lib.hid (HB0.out.trans (HWx.out.mono HB0.out.size))
  have y2x : w.heap.size < w6.heap.size := World.block_lt_of_cell? _ _ C2x
  have y3x : w.heap.size + 1 < w6.heap.size := lt_of_heap P3x
  have y6x : w4.heap.size < w6.heap.size := World.block_lt_of_cell? _ _ C6x
  have C30x : w6.cell? ⟨w.heap.size + 1, 0, none⟩ = some (.int .i64 p.kind) := cell_of_blk P3x rfl
  clear hb6 hc hf hblk HB4 HW4 HWx HR4 HGW HR' hp2 hp3 z1 z2 hz4 HR HB0 HG
  go_wp2_with fail
  have hbq := (Below.refl w6.heap.size w6).alloc (Nat.le_refl _) (.cells (patCs q) 28)
  have HBQ := Lib.hid hbq
  have C2a := keepc HBQ.out C2x
  have P3a := keepk HBQ.out P3x
  have C30a := keepc HBQ.out C30x
  have C6a := keepc HBQ.out C6x
  have P8a : (w6.alloc (.cells (patCs q) 28)).blk w6.heap.size = some (.cells (patCs q) 28 (0, 0)) := blk_alloc_at rfl
  have y2a := keepb HBQ.out y2x
  have y3a := keepb HBQ.out y3x
  have y6a := keepb HBQ.out y6x
  have y8a : w6.heap.size < (w6.alloc (.cells (patCs q) 28)).heap.size := by simp
  have HLa := Lib.hid (HLx.out.below HBQ.out)
  have HDa := Lib.hid (HDx.out.below HBQ.out)
  have HWa := Lib.hid (HWw.out.trans (HBQ.out.mono HWw.out.size))
  have HGa := Lib.hid (step_cell HBQ.out HG0x.out)
  clear HLx HDx HG0x HWw C2x P3x C6x C30x y2x y3x y6x HBQ hbq
  have hap2 := apply_any d A' c' q _ HDa.out (by omega) hlc' HDS.out HQB.out.1 HQB.out.2.1 m HGa.out HQB.out.2.2
  unfold Applies at hap2
  rw [HWAS.out] at hap2
  refine hap2.mono ?_
  rintro e w7 ⟨v, rfl, ⟨A2, c2, rfl, hr2, hlc2, hA2⟩, hb7⟩
  have HBb := Lib.hid hb7
  have HR2b := Lib.hid hr2
  clear hap2 hb7 hr2 hA2
  have C2b := keepc HBb.out C2a
  have C30b := keepc HBb.out C30a
  have P3b := keepk HBb.out P3a
  have C6b := keepc HBb.out C6a
  have P8b := keepk HBb.out P8a
  have y2b := keepb HBb.out y2a
  have y3b := keepb HBb.out y3a
  have y6b := keepb HBb.out y6a
  have y8b := keepb HBb.out y8a
  have HLb := Lib.hid (HLa.out.below HBb.out)
  have HDb := Lib.hid (HDa.out.below HBb.out)
  have HWb := Lib.hid (HWa.out.trans (HBb.out.mono HWa.out.size))
  have HGb := Lib.hid (step_cell HBb.out HGa.out)
  clear C2a C30a P3a C6a P8a y2a y3a y6a y8a HLa HDa HWa HGa
  go_wp2_with fail
  have hbq := (Below.refl w7.heap.size w7).alloc (Nat.le_refl _) (.cells #[.slice A2 l.length c2] 24)
  have HBc := Lib.hid hbq; clear hbq
  have C2c := keepc HBc.out C2b
  have C30c := keepc HBc.out C30b
  have P3c := keepk HBc.out P3b
  have C6c := keepc HBc.out C6b
  have P8c := keepk HBc.out P8b
  have y2c := keepb HBc.out y2b
  have y3c := keepb HBc.out y3b
  have y6c := keepb HBc.out y6b
  have y8c := keepb HBc.out y8b
  have HLc := Lib.hid (HLb.out.below HBc.out)
  have HDc := Lib.hid (HDb.out.below HBc.out)
  have HWc := Lib.hid (HWb.out.trans (HBc.out.mono HWb.out.size))
  have HGc := Lib.hid (step_cell HBc.out HGb.out)
  clear C2b C30b P3b C6b P8b y2b y3b y6b y8b HLb HDb HWb HGb
  have C10c : (w7.alloc (.cells #[.slice A2 l.length c2] 24)).cell? ⟨w7.heap.size, 0, none⟩ = some (.slice A2 l.length c2) := by simp [go_sem]
  have HR2c := Lib.hid (HR2b.out.below HBc.out)
  clear HR2b HBc
  have hinv2 := invert_any d A' c' q _ HDc.out (by omega) hlc' HDS.out HQB.out.1 HQB.out.2.1 m HGc.out HQB.out.2.2
  unfold Inverts at hinv2
  rw [HI2.out] at hinv2
  refine hinv2.mono ?_
  rintro e w8 ⟨rfl, hb8⟩
  have HBd := Lib.hid hb8
  have C10d := keepc HBd.out C10c
  have y10d : w7.heap.size < w8.heap.size := World.block_lt_of_cell? _ _ C10d
  have HR2d := Lib.hid (HR2c.out.below HBd.out)
  clear hinv2 hb8 C10c HR2c
  have C2d := keepc HBd.out C2c
  have C30d := keepc HBd.out C30c
  have P3d := keepk HBd.out P3c
  have C6d := keepc HBd.out C6c
  have P8d := keepk HBd.out P8c
  have y2d := keepb HBd.out y2c
  have y3d := keepb HBd.out y3c
  have y6d := keepb HBd.out y6c
  have y8d := keepb HBd.out y8c
  have HLd := Lib.hid (HLc.out.below HBd.out)
  have HDd := Lib.hid (HDc.out.below HBd.out)
  have HWd := Lib.hid (HWc.out.trans (HBd.out.mono HWc.out.size))
  have HGd := Lib.hid (step_cell HBd.out HGc.out)
  clear C2c C30c P3c C6c P8c y2c y3c y6c y8c HLc HDc HWc HGc
  have hle := HL.out.1
  go_wp2_with fail
  have HBe := Lib.hid ((Below.refl w8.heap.size w8).alloc (Nat.le_refl _) (.cells (patCs r) 28))
  refine (same_refl l A2 A c2 c _ (HR2d.out.below HBe.out) (HLd.out.below HBe.out) (le_maxLen (by omega))).mono ?_
  rintro e w9 ⟨rfl, hb9⟩
  have HBf := Lib.hid hb9; clear hb9
  have C2e := keepc HBe.out C2d
  have C30e := keepc HBe.out C30d
  have P3e := keepk HBe.out P3d
  have C6e := keepc HBe.out C6d
  have P8e := keepk HBe.out P8d
  have y2e := keepb HBe.out y2d
  have y3e := keepb HBe.out y3d
  have y6e := keepb HBe.out y6d
  have y8e := keepb HBe.out y8d
  have HLe := Lib.hid (HLd.out.below HBe.out)
  have HDe := Lib.hid (HDd.out.below HBe.out)
  have HWe := Lib.hid (HWd.out.trans (HBe.out.mono HWd.out.size))
  have HGe := Lib.hid (step_cell HBe.out HGd.out)
  clear C2d C30d P3d C6d P8d y2d y3d y6d y8d HLd HDd HWd HGd
  have C2f := keepc HBf.out C2e
  have C30f := keepc HBf.out C30e
  have P3f := keepk HBf.out P3e
  have C6f := keepc HBf.out C6e
  have P8f := keepk HBf.out P8e
  have y2f := keepb HBf.out y2e
  have y3f := keepb HBf.out y3e
  have y6f := keepb HBf.out y6e
  have y8f := keepb HBf.out y8e
  have HLf := Lib.hid (HLe.out.below HBf.out)
  have HDf := Lib.hid (HDe.out.below HBf.out)
  have HWf := Lib.hid (HWe.out.trans (HBf.out.mono HWe.out.size))
  have HGf := Lib.hid (step_cell HBf.out HGe.out)
  clear C2e C30e P3e C6e P8e y2e y3e y6e y8e HLe HDe HWe HGe
  have P12f : w9.blk w8.heap.size = some (.cells (patCs r) 28 (0, 0)) := keepk HBf.out (blk_alloc_at rfl)
  have y12f : w8.heap.size < w9.heap.size := lt_of_heap P12f
  go_wp2_with fail
  go_ret
  exact ⟨rfl, HWf.out⟩
set_option maxRecDepth 20000 in
set_option maxHeartbeats 2000000 in
theorem pback_o (l : List Item) (A : Option Addr) (c : Nat) (p : Patch) (w : World) (m : Int) (hr : RdI w A l) (hl : l.length ≤ maxLen) (hlc : l.length ≤ c) (hfit : ∀ x ∈ l, x.Fits) (hpf : p.Fits) (hg : w.cell? ⟨0, 0, none⟩ = some (.int .i64 m)) (hli : lightB l [] = true) (hfe : fewB p = true) (d : List Item) (hd : (applyF l p).1 = d) (her : (applyF l p).2 = 0) (q : Patch) (hq : backF l d p = (q, 0)) (hok : BackOk l d p q) (hk : p.kind ≠ 4) :
    Calls Try.prog 8 #[.agg #[.slice A l.length c], p.agg] w fun e w' => e = .returned (.bool true) ∧ Below w.heap.size w w' := by
  have hK := kept_law her
  rw [hd] at hK
  have hvd := hK.good
  have HD := Lib.hid hd
  have HE := Lib.hid her
  have HV := Lib.hid hvd; clear hvd
  have hi : invertF l p = (q, 0) := by unfold invertF; rw [if_pos her, hd, hq]
  have hqb := back_bounds (l := l) (d := d) (light_facts hli).2 (few_fr hfe)
  rw [hq] at hqb
  have HQB := Lib.hid hqb; clear hqb
  have HI := Lib.hid hi; clear hi hq
  have hk4 : (p.kind == 4) = false := by simpa using hk
  have hk1 : (p.kind == 1) = false := by simpa using hok.kind
  have hi2 : invertF d q = (p, 0) := by
    unfold invertF
    rw [hok.was, if_pos rfl]
    exact hok.again.resolve_left hk
  clear hk
  have HWAS := Lib.hid hok.was
  clear hok
  have HI2 := Lib.hid hi2; clear hi2
  have HK := Lib.hid hK; clear hK
  have hsz0 : 0 < w.heap.size := World.block_lt_of_cell? w _ hg
  have hb0 := ((Below.refl w.heap.size w).alloc (Nat.le_refl _) (.cells #[.slice A l.length c] 24)).alloc (by simp) (.cells (patCs p) 28)
  have HB0 := Lib.hid hb0; clear hb0
  have HR := Lib.hid hr; clear hr
  have HG := Lib.hid hg; clear hg
  have HFI := Lib.hid hfit; clear hfit
  have HPF := Lib.hid hpf; clear hpf
  have HLI := Lib.hid hli; clear hli
  have HFE := Lib.hid hfe; clear hfe
  clear hd her
  go_enter Try.func8, Try.ntmps8
  go_wp2_with fail
  refine (head_any _ m (step_cell HB0.out HG.out)).mono ?_
  rintro e w1 ⟨rfl, hb1⟩
  obtain ⟨hc, hf⟩ := bcell hb1
  have hblk := bblk hb1
  have HB1 := Lib.hid hb1; clear hb1
  go_wp2_with fail
  refine (light_any l [] A none c 0 _ ((HR.out.below HB0.out).below HB1.out) Sl.nil hl (by simp) HFI.out (by simp)).mono ?_
  rintro e w2 ⟨rfl, hb2⟩
  rw [HLI.out]
  have hb3 := HB1.out.trans (hb2.mono HB1.out.size)
  clear hc hf hblk hb2 HB1
  obtain ⟨hc, hf⟩ := bcell hb3
  have hblk := bblk hb3
  have HB2 := Lib.hid hb3; clear hb3
  go_wp2_with fail
  refine (few_any p _ HPF.out).mono ?_
  rintro e w3 ⟨rfl, hb2⟩
  rw [HFE.out]
  have hb3 := HB2.out.trans (hb2.mono HB2.out.size)
  clear hc hf hblk hb2 HB2
  obtain ⟨hc, hf⟩ := bcell hb3
  have hblk := bblk hb3
  have HB3 := Lib.hid hb3; clear hb3
  go_wp2_with fail
  have HL := Lib.hid (light_facts HLI.out)
  have HFF := Lib.hid (few_facts HFE.out)
  have hap := apply_any l A c p w3 ((HR.out.below HB0.out).below HB3.out) (by have := HL.out.1; omega) hlc HL.out.2 HFF.out.1 HFF.out.2.1 m (step_cell (HB0.out.trans (HB3.out.mono HB0.out.size)) HG.out) HFF.out.2.2
  unfold Applies at hap
  rw [HD.out, HE.out] at hap
  refine hap.mono ?_
  rintro e w4 ⟨v, rfl, ⟨A', c', rfl, hr', hlc', hA'⟩, hb2⟩
  have hb3 := HB3.out.trans (hb2.mono HB3.out.size)
  clear hc hf hblk hb2 HB3 hap
  obtain ⟨hc, hf⟩ := bcell hb3
  have hblk := bblk hb3
  have HB4 := Lib.hid hb3; clear hb3
  have HR' := Lib.hid hr'; clear hr'
  have hz4 := HB4.out.size
  simp at hz4
  have z1 : w.heap.size < w4.heap.size := by omega
  have z2 : w.heap.size + 1 < w4.heap.size := by omega
  have HW4 := Lib.hid ((HB4.out.alloc HB4.out.size (.cells #[.slice A' d.length c'] 24)))
  have HR4 := Lib.hid ((HR.out.below HB0.out).below HW4.out)
  have HGW := Lib.hid (step_cell (HB0.out.trans (HW4.out.mono HB0.out.size)) HG.out)
  go_wp2_with fail
  have hdl2 : d.length ≤ 2000 := len_of_good HV.out
  have HDS := Lib.hid (short_of_good HV.out)
  have HG4 := Lib.hid (step_cell (HB0.out.trans (HB4.out.mono HB0.out.size)) HG.out)
  have hinv := invert_any l A c p _ HR4.out (by have := HL.out.1; omega) hlc HL.out.2 HFF.out.1 HFF.out.2.1 m HGW.out HFF.out.2.2
  unfold Inverts at hinv
  rw [HI.out] at hinv
  refine hinv.mono ?_
  rintro e w6 ⟨rfl, hb6⟩
  clear hinv
  have hp2 : w.heap.size < ((w.alloc (.cells #[.slice A l.length c] 24)).alloc (.cells (patCs p) 28)).heap.size := by simp; omega
  have hp3 : w.heap.size + 1 < ((w.alloc (.cells #[.slice A l.length c] 24)).alloc (.cells (patCs p) 28)).heap.size := by simp
  have HWx := Lib.hid (HW4.out.trans (hb6.mono HW4.out.size))
  have C2x : w6.cell? ⟨w.heap.size, 0, none⟩ = some (.slice A l.length c) := (HWx.out.cell (p := ⟨w.heap.size, 0, none⟩) hp2).trans (by simp [go_sem])
  have P3x : w6.blk (w.heap.size + 1) = some (.cells (patCs p) 28 (0, 0)) := (HWx.out.block _ hp3).trans (blk_alloc_at (by simp))
  have C6x : w6.cell? ⟨w4.heap.size, 0, none⟩ = some (.slice A' d.length c') := (hb6.cell (p := ⟨w4.heap.size, 0, none⟩) (by simp)).trans (by simp [go_sem])
  have HDx := Lib.hid (HR'.out.below (((Below.refl _ _).alloc (Nat.le_refl _) (.cells #[.slice A' d.length c'] 24)).trans (hb6.mono (by simp))))
  have HLx := Lib.hid ((HR.out.below HB0.out).below HWx.out)
  have HG0x := Lib.hid (step_cell (HB0.out.trans (HWx.out.mono HB0.out.size)) HG.out)
  have HWw := Lib.hid (HB0.out.trans (HWx.out.mono HB0.out.size))
  have y2x : w.heap.size < w6.heap.size := World.block_lt_of_cell? _ _ C2x
  have y3x : w.heap.size + 1 < w6.heap.size := lt_of_heap P3x
  have y6x : w4.heap.size < w6.heap.size := World.block_lt_of_cell? _ _ C6x
  have C30x : w6.cell? ⟨w.heap.size + 1, 0, none⟩ = some (.int .i64 p.kind) := cell_of_blk P3x rfl
  clear hb6 hc hf hblk HB4 HW4 HWx HR4 HGW HR' hp2 hp3 z1 z2 hz4 HR HB0 HG
  go_wp2_with fail
  have hbq := (Below.refl w6.heap.size w6).alloc (Nat.le_refl _) (.cells (patCs q) 28)
  have HBQ := Lib.hid hbq
  have C2a := keepc HBQ.out C2x
  have P3a := keepk HBQ.out P3x
  have C30a := keepc HBQ.out C30x
  have C6a := keepc HBQ.out C6x
  have P8a : (w6.alloc (.cells (patCs q) 28)).blk w6.heap.size = some (.cells (patCs q) 28 (0, 0)) := blk_alloc_at rfl
  have y2a := keepb HBQ.out y2x
  have y3a := keepb HBQ.out y3x
  have y6a := keepb HBQ.out y6x
  have y8a : w6.heap.size < (w6.alloc (.cells (patCs q) 28)).heap.size := by simp
  have HLa := Lib.hid (HLx.out.below HBQ.out)
  have HDa := Lib.hid (HDx.out.below HBQ.out)
  have HWa := Lib.hid (HWw.out.trans (HBQ.out.mono HWw.out.size))
  have HGa := Lib.hid (step_cell HBQ.out HG0x.out)
  clear HLx HDx HG0x HWw C2x P3x C6x C30x y2x y3x y6x HBQ hbq
  have hap2 := apply_any d A' c' q _ HDa.out (by omega) hlc' HDS.out HQB.out.1 HQB.out.2.1 m HGa.out HQB.out.2.2
  unfold Applies at hap2
  rw [HWAS.out] at hap2
  refine hap2.mono ?_
  rintro e w7 ⟨v, rfl, ⟨A2, c2, rfl, hr2, hlc2, hA2⟩, hb7⟩
  have HBb := Lib.hid hb7
  have HR2b := Lib.hid hr2
  clear hap2 hb7 hr2 hA2
  have C2b := keepc HBb.out C2a
  have C30b := keepc HBb.out C30a
  have P3b := keepk HBb.out P3a
  have C6b := keepc HBb.out C6a
  have P8b := keepk HBb.out P8a
  have y2b := keepb HBb.out y2a
  have y3b := keepb HBb.out y3a
  have y6b := keepb HBb.out y6a
  have y8b := keepb HBb.out y8a
  have HLb := Lib.hid (HLa.out.below HBb.out)
  have HDb := Lib.hid (HDa.out.below HBb.out)
  have HWb := Lib.hid (HWa.out.trans (HBb.out.mono HWa.out.size))
  have HGb := Lib.hid (step_cell HBb.out HGa.out)
  clear C2a C30a P3a C6a P8a y2a y3a y6a y8a HLa HDa HWa HGa
  go_wp2_with fail
  have hbq := (Below.refl w7.heap.size w7).alloc (Nat.le_refl _) (.cells #[.slice A2 l.length c2] 24)
  have HBc := Lib.hid hbq; clear hbq
  have C2c := keepc HBc.out C2b
  have C30c := keepc HBc.out C30b
  have P3c := keepk HBc.out P3b
  have C6c := keepc HBc.out C6b
  have P8c := keepk HBc.out P8b
  have y2c := keepb HBc.out y2b
  have y3c := keepb HBc.out y3b
  have y6c := keepb HBc.out y6b
  have y8c := keepb HBc.out y8b
  have HLc := Lib.hid (HLb.out.below HBc.out)
  have HDc := Lib.hid (HDb.out.below HBc.out)
  have HWc := Lib.hid (HWb.out.trans (HBc.out.mono HWb.out.size))
  have HGc := Lib.hid (step_cell HBc.out HGb.out)
  clear C2b C30b P3b C6b P8b y2b y3b y6b y8b HLb HDb HWb HGb
  have C10c : (w7.alloc (.cells #[.slice A2 l.length c2] 24)).cell? ⟨w7.heap.size, 0, none⟩ = some (.slice A2 l.length c2) := by simp [go_sem]
  have HR2c := Lib.hid (HR2b.out.below HBc.out)
  clear HR2b HBc
  have hinv2 := invert_any d A' c' q _ HDc.out (by omega) hlc' HDS.out HQB.out.1 HQB.out.2.1 m HGc.out HQB.out.2.2
  unfold Inverts at hinv2
  rw [HI2.out] at hinv2
  refine hinv2.mono ?_
  rintro e w8 ⟨rfl, hb8⟩
  have HBd := Lib.hid hb8
  have C10d := keepc HBd.out C10c
  have y10d : w7.heap.size < w8.heap.size := World.block_lt_of_cell? _ _ C10d
  have HR2d := Lib.hid (HR2c.out.below HBd.out)
  clear hinv2 hb8 C10c HR2c
  have C2d := keepc HBd.out C2c
  have C30d := keepc HBd.out C30c
  have P3d := keepk HBd.out P3c
  have C6d := keepc HBd.out C6c
  have P8d := keepk HBd.out P8c
  have y2d := keepb HBd.out y2c
  have y3d := keepb HBd.out y3c
  have y6d := keepb HBd.out y6c
  have y8d := keepb HBd.out y8c
  have HLd := Lib.hid (HLc.out.below HBd.out)
  have HDd := Lib.hid (HDc.out.below HBd.out)
  have HWd := Lib.hid (HWc.out.trans (HBd.out.mono HWc.out.size))
  have HGd := Lib.hid (step_cell HBd.out HGc.out)
  clear C2c C30c P3c C6c P8c y2c y3c y6c y8c HLc HDc HWc HGc
  have hle := HL.out.1
  go_wp2_with fail
  have HBe := Lib.hid ((Below.refl w8.heap.size w8).alloc (Nat.le_refl _) (.cells (patCs p) 28))
  refine (same_refl l A2 A c2 c _ (HR2d.out.below HBe.out) (HLd.out.below HBe.out) (le_maxLen (by omega))).mono ?_
  rintro e w9 ⟨rfl, hb9⟩
  have HBf := Lib.hid hb9; clear hb9
  have C2e := keepc HBe.out C2d
  have C30e := keepc HBe.out C30d
  have P3e := keepk HBe.out P3d
  have C6e := keepc HBe.out C6d
  have P8e := keepk HBe.out P8d
  have y2e := keepb HBe.out y2d
  have y3e := keepb HBe.out y3d
  have y6e := keepb HBe.out y6d
  have y8e := keepb HBe.out y8d
  have HLe := Lib.hid (HLd.out.below HBe.out)
  have HDe := Lib.hid (HDd.out.below HBe.out)
  have HWe := Lib.hid (HWd.out.trans (HBe.out.mono HWd.out.size))
  have HGe := Lib.hid (step_cell HBe.out HGd.out)
  clear C2d C30d P3d C6d P8d y2d y3d y6d y8d HLd HDd HWd HGd
  have C2f := keepc HBf.out C2e
  have C30f := keepc HBf.out C30e
  have P3f := keepk HBf.out P3e
  have C6f := keepc HBf.out C6e
  have P8f := keepk HBf.out P8e
  have y2f := keepb HBf.out y2e
  have y3f := keepb HBf.out y3e
  have y6f := keepb HBf.out y6e
  have y8f := keepb HBf.out y8e
  have HLf := Lib.hid (HLe.out.below HBf.out)
  have HDf := Lib.hid (HDe.out.below HBf.out)
  have HWf := Lib.hid (HWe.out.trans (HBf.out.mono HWe.out.size))
  have HGf := Lib.hid (step_cell HBf.out HGe.out)
  clear C2e C30e P3e C6e P8e y2e y3e y6e y8e HLe HDe HWe HGe
  have P12f : w9.blk w8.heap.size = some (.cells (patCs p) 28 (0, 0)) := keepk HBf.out (blk_alloc_at rfl)
  have y12f : w8.heap.size < w9.heap.size := lt_of_heap P12f
  go_wp2_with fail
  refine (samePatch_refl p _).mono ?_
  rintro e w10 ⟨rfl, hb10⟩
  go_wp2_with fail
  go_ret
  exact ⟨rfl, HWf.out.trans (hb10.mono HWf.out.size)⟩
theorem pback_any (l : List Item) (A : Option Addr) (c : Nat) (p : Patch) (w : World) (m : Int) (hr : RdI w A l) (hl : l.length ≤ maxLen) (hlc : l.length ≤ c) (hfit : ∀ x ∈ l, x.Fits) (hpf : p.Fits) (hg : w.cell? ⟨0, 0, none⟩ = some (.int .i64 m)) : Calls Try.prog 8 #[.agg #[.slice A l.length c], p.agg] w fun e w' => e = .returned (.bool true) ∧ Below w.heap.size w w' := by
  cases hli : lightB l [] with
  | false => exact pback_a l A c p w m hr hl hlc hfit hpf hg hli
  | true =>
    cases hfe : fewB p with
    | false => exact pback_b l A c p w m hr hl hlc hfit hpf hg hli hfe
    | true =>
      by_cases h0 : (applyF l p).2 = 0
      · obtain ⟨b1, b2⟩ := back_law h0
        obtain ⟨⟨q, er⟩, hq⟩ : ∃ x, backF l (applyF l p).1 p = x := ⟨_, rfl⟩
        rw [hq] at b1 b2
        by_cases he : er = 0
        · subst he
          have hok := b2 rfl
          by_cases hk : p.kind = 4
          · exact pback_4 l A c p w m hr hl hlc hfit hpf hg hli hfe _ rfl h0 q hq hok hk
          · exact pback_o l A c p w m hr hl hlc hfit hpf hg hli hfe _ rfl h0 q hq hok hk
        · rcases b1 he with ⟨h1, h2⟩ | ⟨h1, h2⟩
          · have h1 : er = 12 := h1
            subst h1
            exact pback_f1 l A c p w m hr hl hlc hfit hpf hg hli hfe _ rfl h0 q hq h2
          · have h1 : er = 15 := h1
            subst h1
            exact pback_f2 l A c p w m hr hl hlc hfit hpf hg hli hfe _ rfl h0 q hq h2
      · exact pback_c l A c p w m hr hl hlc hfit hpf hg hli hfe _ (apply_err h0) rfl h0
end Go.Proofs.Ytkdcenbommhnoaa
