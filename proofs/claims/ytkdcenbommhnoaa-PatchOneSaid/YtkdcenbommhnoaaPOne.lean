/- The law PatchOne. -/
import Derived.Test.YtkdcenbommhnoaaCommon
set_option linter.unusedVariables false
set_option linter.unusedSimpArgs false
namespace Go.Proofs.Ytkdcenbommhnoaa
open Go.RowKit
def lastOne (l d : List Item) : Nat → Int
  | 0 => -1
  | k + 1 => (l[k]?).elim (-1) fun x => findI d x.id
theorem lastOne_succ {l d : List Item} {k : Nat} {x : Item} (h : l[k]? = some x) : lastOne l d (k + 1) = findI d x.id := by
  show ((l[k]?).elim (-1) fun x => findI d x.id) = _
  rw [h]; rfl
theorem lastOne_lt {l d : List Item} {p : Patch} (hK : Kept l d p) (h4 : p.kind ≠ 4) {k : Nat} {x : Item} (hx : l[k]? = some x) : lastOne l d k < findI d x.id := by
  cases k with
  | zero =>
    obtain ⟨kk, y, e, _⟩ := hK.find x (List.mem_of_getElem? hx)
    rw [e]
    show (-1 : Int) < kk
    omega
  | succ k =>
    have hk : k < l.length := by have := (List.getElem?_eq_some_iff.1 hx).1; omega
    rw [lastOne_succ (List.getElem?_eq_getElem hk)]
    exact hK.order h4 k _ x (List.getElem?_eq_getElem hk) hx
set_option maxRecDepth 20000 in
set_option maxHeartbeats 2000000 in
theorem pone_a (l : List Item) (A : Option Addr) (c : Nat) (p : Patch) (w : World) (m : Int) (hr : RdI w A l) (hl : l.length ≤ maxLen) (hlc : l.length ≤ c) (hfit : ∀ x ∈ l, x.Fits) (hpf : p.Fits) (hg : w.cell? ⟨0, 0, none⟩ = some (.int .i64 m)) (hli : lightB l [] = false) :
    Calls Try.prog 4 #[.agg #[.slice A l.length c], p.agg] w fun e w' => e = .returned (.bool true) ∧ Below w.heap.size w w' := by
  have hsz0 : 0 < w.heap.size := World.block_lt_of_cell? w _ hg
  have hb0 := ((Below.refl w.heap.size w).alloc (Nat.le_refl _) (.cells #[.slice A l.length c] 24)).alloc (by simp) (.cells (patCs p) 28)
  have HB0 := Lib.hid hb0; clear hb0
  have HR := Lib.hid hr; clear hr
  have HG := Lib.hid hg; clear hg
  have HFI := Lib.hid hfit; clear hfit
  have HPF := Lib.hid hpf; clear hpf
  have HLI := Lib.hid hli; clear hli
  go_enter Try.func4, Try.ntmps4
  go_wp2_with fail
  refine (head_any _ m (step_cell HB0.out HG.out)).mono ?_
  rintro e w1 ⟨rfl, hb1⟩
  obtain ⟨hc, hf⟩ := bcell hb1
  have hblk := bblk hb1
  have HB1 := Lib.hid hb1; clear hb1
  go_wp2_with fail
  refine (light_any l [] A none c 0 _ ((HR.out.below HB0.out).below HB1.out) Sl.nil hl (by simp) HFI.out (by simp)).mono ?_
  rintro e w2 ⟨rfl, hb2⟩
  rw [HLI.out]
  have hb3 := HB1.out.trans (hb2.mono HB1.out.size)
  clear hc hf hblk hb2 HB1
  obtain ⟨hc, hf⟩ := bcell hb3
  have hblk := bblk hb3
  have HB2 := Lib.hid hb3; clear hb3
  go_wp2_with fail
  go_ret
  exact ⟨rfl, HB0.out.trans (HB2.out.mono HB0.out.size)⟩
set_option maxRecDepth 20000 in
set_option maxHeartbeats 2000000 in
theorem pone_b (l : List Item) (A : Option Addr) (c : Nat) (p : Patch) (w : World) (m : Int) (hr : RdI w A l) (hl : l.length ≤ maxLen) (hlc : l.length ≤ c) (hfit : ∀ x ∈ l, x.Fits) (hpf : p.Fits) (hg : w.cell? ⟨0, 0, none⟩ = some (.int .i64 m)) (hli : lightB l [] = true) (hfe : fewB p = false) :
    Calls Try.prog 4 #[.agg #[.slice A l.length c], p.agg] w fun e w' => e = .returned (.bool true) ∧ Below w.heap.size w w' := by
  have hsz0 : 0 < w.heap.size := World.block_lt_of_cell? w _ hg
  have hb0 := ((Below.refl w.heap.size w).alloc (Nat.le_refl _) (.cells #[.slice A l.length c] 24)).alloc (by simp) (.cells (patCs p) 28)
  have HB0 := Lib.hid hb0; clear hb0
  have HR := Lib.hid hr; clear hr
  have HG := Lib.hid hg; clear hg
  have HFI := Lib.hid hfit; clear hfit
  have HPF := Lib.hid hpf; clear hpf
  have HLI := Lib.hid hli; clear hli
  have HFE := Lib.hid hfe; clear hfe
  go_enter Try.func4, Try.ntmps4
  go_wp2_with fail
  refine (head_any _ m (step_cell HB0.out HG.out)).mono ?_
  rintro e w1 ⟨rfl, hb1⟩
  obtain ⟨hc, hf⟩ := bcell hb1
  have hblk := bblk hb1
  have HB1 := Lib.hid hb1; clear hb1
  go_wp2_with fail
  refine (light_any l [] A none c 0 _ ((HR.out.below HB0.out).below HB1.out) Sl.nil hl (by simp) HFI.out (by simp)).mono ?_
  rintro e w2 ⟨rfl, hb2⟩
  rw [HLI.out]
  have hb3 := HB1.out.trans (hb2.mono HB1.out.size)
  clear hc hf hblk hb2 HB1
  obtain ⟨hc, hf⟩ := bcell hb3
  have hblk := bblk hb3
  have HB2 := Lib.hid hb3; clear hb3
  go_wp2_with fail
  refine (few_any p _ HPF.out).mono ?_
  rintro e w3 ⟨rfl, hb2⟩
  rw [HFE.out]
  have hb3 := HB2.out.trans (hb2.mono HB2.out.size)
  clear hc hf hblk hb2 HB2
  obtain ⟨hc, hf⟩ := bcell hb3
  have hblk := bblk hb3
  have HB3 := Lib.hid hb3; clear hb3
  go_wp2_with fail
  go_ret
  exact ⟨rfl, HB0.out.trans (HB3.out.mono HB0.out.size)⟩
set_option maxRecDepth 20000 in
set_option maxHeartbeats 2000000 in
theorem pone_c (l : List Item) (A : Option Addr) (c : Nat) (p : Patch) (w : World) (m : Int) (hr : RdI w A l) (hl : l.length ≤ maxLen) (hlc : l.length ≤ c) (hfit : ∀ x ∈ l, x.Fits) (hpf : p.Fits) (hg : w.cell? ⟨0, 0, none⟩ = some (.int .i64 m)) (hli : lightB l [] = true) (hfe : fewB p = true) (er : Int) (hd : (applyF l p).1 = []) (her : (applyF l p).2 = er) (h0 : er ≠ 0) :
    Calls Try.prog 4 #[.agg #[.slice A l.length c], p.agg] w fun e w' => e = .returned (.bool true) ∧ Below w.heap.size w w' := by
  have h0e : (er != 0) = true := by simpa using h0
  clear h0
  have hsz0 : 0 < w.heap.size := World.block_lt_of_cell? w _ hg
  have hb0 := ((Below.refl w.heap.size w).alloc (Nat.le_refl _) (.cells #[.slice A l.length c] 24)).alloc (by simp) (.cells (patCs p) 28)
  have HB0 := Lib.hid hb0; clear hb0
  have HR := Lib.hid hr; clear hr
  have HG := Lib.hid hg; clear hg
  have HFI := Lib.hid hfit; clear hfit
  have HPF := Lib.hid hpf; clear hpf
  have HLI := Lib.hid hli; clear hli
  have HFE := Lib.hid hfe; clear hfe
  go_enter Try.func4, Try.ntmps4
  go_wp2_with fail
  refine (head_any _ m (step_cell HB0.out HG.out)).mono ?_
  rintro e w1 ⟨rfl, hb1⟩
  obtain ⟨hc, hf⟩ := bcell hb1
  have hblk := bblk hb1
  have HB1 := Lib.hid hb1; clear hb1
  go_wp2_with fail
  refine (light_any l [] A none c 0 _ ((HR.out.below HB0.out).below HB1.out) Sl.nil hl (by simp) HFI.out (by simp)).mono ?_
  rintro e w2 ⟨rfl, hb2⟩
  rw [HLI.out]
  have hb3 := HB1.out.trans (hb2.mono HB1.out.size)
  clear hc hf hblk hb2 HB1
  obtain ⟨hc, hf⟩ := bcell hb3
  have hblk := bblk hb3
  have HB2 := Lib.hid hb3; clear hb3
  go_wp2_with fail
  refine (few_any p _ HPF.out).mono ?_
  rintro e w3 ⟨rfl, hb2⟩
  rw [HFE.out]
  have hb3 := HB2.out.trans (hb2.mono HB2.out.size)
  clear hc hf hblk hb2 HB2
  obtain ⟨hc, hf⟩ := bcell hb3
  have hblk := bblk hb3
  have HB3 := Lib.hid hb3; clear hb3
  go_wp2_with fail
  have HL := Lib.hid (light_facts HLI.out)
  have HFF := Lib.hid (few_facts HFE.out)
  have hap := apply_any l A c p w3 ((HR.out.below HB0.out).below HB3.out) (by have := HL.out.1; omega) hlc HL.out.2 HFF.out.1 HFF.out.2.1 m (step_cell (HB0.out.trans (HB3.out.mono HB0.out.size)) HG.out) HFF.out.2.2
  unfold Applies at hap
  rw [hd, her] at hap
  refine hap.mono ?_
  rintro e w4 ⟨v, rfl, ⟨A', c', rfl, hr', hlc', hA'⟩, hb2⟩
  have hb3 := HB3.out.trans (hb2.mono HB3.out.size)
  clear hc hf hblk hb2 HB3 hap
  obtain ⟨hc, hf⟩ := bcell hb3
  have hblk := bblk hb3
  have HB4 := Lib.hid hb3; clear hb3
  have HR' := Lib.hid hr'; clear hr'
  go_wp2_with fail
  go_ret
  exact ⟨rfl, HB0.out.trans ((HB4.out.alloc (by have := HB4.out.size; simp at this ⊢; omega) _).mono HB0.out.size)⟩
set_option maxRecDepth 20000 in
set_option maxHeartbeats 2000000 in
theorem pone_d (l : List Item) (A : Option Addr) (c : Nat) (p : Patch) (w : World) (m : Int) (hr : RdI w A l) (hl : l.length ≤ maxLen) (hlc : l.length ≤ c) (hfit : ∀ x ∈ l, x.Fits) (hpf : p.Fits) (hg : w.cell? ⟨0, 0, none⟩ = some (.int .i64 m)) (hli : lightB l [] = true) (hfe : fewB p = true) (d : List Item) (hd : (applyF l p).1 = d) (her : (applyF l p).2 = 0) (hk : p.kind ≠ 4) :
    Calls Try.prog 4 #[.agg #[.slice A l.length c], p.agg] w fun e w' => e = .returned (.bool true) ∧ Below w.heap.size w w' := by
  have hK := kept_law her
  rw [hd] at hK
  have hvd := hK.good
  have HD := Lib.hid hd
  have HE := Lib.hid her
  have HV := Lib.hid hvd; clear hvd
  have hk4 : (p.kind != 4) = true := by simpa using hk
  have Hk := Lib.hid hk; clear hk
  have HK := Lib.hid hK; clear hK
  have hsz0 : 0 < w.heap.size := World.block_lt_of_cell? w _ hg
  have hb0 := ((Below.refl w.heap.size w).alloc (Nat.le_refl _) (.cells #[.slice A l.length c] 24)).alloc (by simp) (.cells (patCs p) 28)
  have HB0 := Lib.hid hb0; clear hb0
  have HR := Lib.hid hr; clear hr
  have HG := Lib.hid hg; clear hg
  have HFI := Lib.hid hfit; clear hfit
  have HPF := Lib.hid hpf; clear hpf
  have HLI := Lib.hid hli; clear hli
  have HFE := Lib.hid hfe; clear hfe
  clear hd her
  go_enter Try.func4, Try.ntmps4
  go_wp2_with fail
  refine (head_any _ m (step_cell HB0.out HG.out)).mono ?_
  rintro e w1 ⟨rfl, hb1⟩
  obtain ⟨hc, hf⟩ := bcell hb1
  have hblk := bblk hb1
  have HB1 := Lib.hid hb1; clear hb1
  go_wp2_with fail
  refine (light_any l [] A none c 0 _ ((HR.out.below HB0.out).below HB1.out) Sl.nil hl (by simp) HFI.out (by simp)).mono ?_
  rintro e w2 ⟨rfl, hb2⟩
  rw [HLI.out]
  have hb3 := HB1.out.trans (hb2.mono HB1.out.size)
  clear hc hf hblk hb2 HB1
  obtain ⟨hc, hf⟩ := bcell hb3
  have hblk := bblk hb3
  have HB2 := Lib.hid hb3; clear hb3
  go_wp2_with fail
  refine (few_any p _ HPF.out).mono ?_
  rintro e w3 ⟨rfl, hb2⟩
  rw [HFE.out]
  have hb3 := HB2.out.trans (hb2.mono HB2.out.size)
  clear hc hf hblk hb2 HB2
  obtain ⟨hc, hf⟩ := bcell hb3
  have hblk := bblk hb3
  have HB3 := Lib.hid hb3; clear hb3
  go_wp2_with fail
  have HL := Lib.hid (light_facts HLI.out)
  have HFF := Lib.hid (few_facts HFE.out)
  have hap := apply_any l A c p w3 ((HR.out.below HB0.out).below HB3.out) (by have := HL.out.1; omega) hlc HL.out.2 HFF.out.1 HFF.out.2.1 m (step_cell (HB0.out.trans (HB3.out.mono HB0.out.size)) HG.out) HFF.out.2.2
  unfold Applies at hap
  rw [HD.out, HE.out] at hap
  refine hap.mono ?_
  rintro e w4 ⟨v, rfl, ⟨A', c', rfl, hr', hlc', hA'⟩, hb2⟩
  have hb3 := HB3.out.trans (hb2.mono HB3.out.size)
  clear hc hf hblk hb2 HB3 hap
  obtain ⟨hc, hf⟩ := bcell hb3
  have hblk := bblk hb3
  have HB4 := Lib.hid hb3; clear hb3
  have HR' := Lib.hid hr'; clear hr'
  have hz4 := HB4.out.size
  simp at hz4
  have z1 : w.heap.size < w4.heap.size := by omega
  have z2 : w.heap.size + 1 < w4.heap.size := by omega
  go_wp2_with fail
  have hdl2 : d.length ≤ 2000 := len_of_good HV.out
  have HDS := Lib.hid (short_of_good HV.out)
  have HG4 := Lib.hid (step_cell (HB0.out.trans (HB4.out.mono HB0.out.size)) HG.out)
  have hb5 := HB4.out.alloc (by simp; omega) (.cells #[.slice A' d.length c'] 24)
  have HB6 := Lib.hid hb5; clear hb5 hc hf hblk
  have HR6 := Lib.hid (HR'.out.below ((Below.refl w4.heap.size w4).alloc (Nat.le_refl _) (.cells #[.slice A' d.length c'] 24)))
  have K6 : (w4.alloc (.cells #[.slice A' d.length c'] 24)).cell? ⟨w4.heap.size, 0, none⟩ = some (.slice A' d.length c') := by simp [go_sem]
  generalize (w4.alloc (.cells #[.slice A' d.length c'] 24)) = w6 at *
  go_loopw [8, 9] (fun q i wr => ∃ k : Nat, k ≤ l.length ∧ q = .int .i64 (lastOne l d k) ∧ i = .int .i64 k ∧ Below w6.heap.size w6 wr) (fun _ i _ => l.length - (intOf i).toNat)
  case atStart => exact ⟨0, Nat.zero_le _, rfl, rfl, Below.refl _ _⟩
  case round =>
    obtain ⟨k, hk, rfl, rfl, hb⟩ := hrel
    have K8 := step_cell hb K6
    have zb8 := World.block_lt_of_cell? _ _ K8
    have HR8 := Lib.hid (HR6.out.below hb)
    have hb8 := HB6.out.trans (hb.mono HB6.out.size)
    have HBR := Lib.hid hb
    clear hb
    have hsz8 := hb8.size
    simp at hsz8
    have z1 : w.heap.size < wr.heap.size := by omega
    have z2 : w.heap.size + 1 < wr.heap.size := by omega
    have HB8 := Lib.hid hb8; clear hb8
    by_cases hlt : k < l.length
    · obtain ⟨x, hx⟩ := get_of_lt hlt
      have hi1 : (k : Int) < l.length := by omega
      have hi0 : (0 : Int) ≤ k := by omega
      have hlm : (l.length : Int) ≤ 9223372036854775807 := by unfold maxLen at hl; omega
      obtain ⟨b1, o1, rfl, hbs1, c0, c1, c2, c3, c4, c5, c6⟩ := ((HR.out.below HB0.out).below HB8.out).item hx
      obtain ⟨kk, y, e1, e2, e3, e4, e5⟩ := HK.out.find x (List.mem_of_getElem? hx)
      have hkd : kk < d.length := (List.getElem?_eq_some_iff.1 e2).1
      obtain ⟨b2, o2, rfl, hbs2, d0, d1, d2, d3, d4, d5, d6⟩ := HR8.out.item e2
      have hq0 : decide ((kk : Int) < 0) = false := by simp
      have hq1 : decide ((d.length : Int) ≤ kk) = false := by simp; omega
      have hj0 : (0 : Int) ≤ kk := by omega
      have hj1 : (kk : Int) < d.length := by omega
      have hjm : (d.length : Int) ≤ 2000 := by omega
      have hql : decide ((kk : Int) ≤ lastOne l d k) = false := by
        have := lastOne_lt HK.out Hk.out hx
        rw [e1] at this
        simp; omega
      have hc1 : wr.cell? ⟨w.heap.size, 0, none⟩ = some (.slice (some ⟨b1, o1, none⟩) l.length c) := by
        rw [HB8.out.cell (p := ⟨w.heap.size, 0, none⟩) (by simp; omega)]; simp [go_sem]
      have hc2 : wr.cell? ⟨w.heap.size + 1, 1, none⟩ = some (vs p.id) := by
        rw [HB8.out.cell (p := ⟨w.heap.size + 1, 1, none⟩) (by simp)]; simp [go_sem]
      have hc3 : wr.cell? ⟨w.heap.size + 1, 0, none⟩ = some (.int .i64 p.kind) := by
        rw [HB8.out.cell (p := ⟨w.heap.size + 1, 0, none⟩) (by simp)]; simp [go_sem]
      have hkx : (x.kind != y.kind) = false := by simp [e4]
      have hfnd := fun W h => find_any d (some ⟨b2, o2, none⟩) c' x.id W h (le_maxLen (by omega))
      rw [e1] at hfnd
      have HFN := Lib.hid hfnd
      have HX := Lib.hid hx; clear hx hfnd
      have E1 := Lib.hid e1; clear e1 e2 e5
      have E3 := Lib.hid e3; clear e3
      have E4 := Lib.hid e4; clear e4
      cases hid : (x.id == p.id) with
      | false =>
        have hne : (x.id != p.id) = true := by simp [bne, hid]
        obtain rfl : y = x := E3.out (by simpa using hid)
        go_wp2_with fail
        refine wp_region_grew (by kernel_rfl) (by as_aux_lemma => kernel_rfl) ?_
        repeat (go_big_quiet_step ((exact Calls_grew (HFN.out _ (HR8.out.below (grew_below _ _))))))
        refine wpQuiet_nil ?_
        rintro _ ⟨W, rfl⟩
        go_wp2_with fail
        go_quiet (fail)
        go_wp2_with fail
        refine ⟨⟨k + 1, by omega, by rw [lastOne_succ HX.out, E1.out], by go_num, Below.drewN' _ (HBR.out.trans ((grew_below _ _).mono HBR.out.size))⟩, by simp [intOf]; omega⟩
      | true =>
        have hne : (x.id != p.id) = false := by simp [bne, hid]
        go_wp2_with fail
        refine wp_region_grew (by kernel_rfl) (by as_aux_lemma => kernel_rfl) ?_
        repeat (go_big_quiet_step ((exact Calls_grew (HFN.out _ (HR8.out.below (grew_below _ _))))))
        refine wpQuiet_nil ?_
        rintro _ ⟨W, rfl⟩
        go_wp2_with fail
        go_quiet (fail)
        go_wp2_with fail
        refine ⟨⟨k + 1, by omega, by rw [lastOne_succ HX.out, E1.out], by go_num, Below.drewN' _ (HBR.out.trans ((grew_below _ _).mono HBR.out.size))⟩, by simp [intOf]; omega⟩
    · have : k = l.length := by omega
      subst this
      have hc1 : wr.cell? ⟨w.heap.size, 0, none⟩ = some (.slice A l.length c) := by
        rw [HB8.out.cell (p := ⟨w.heap.size, 0, none⟩) (by simp; omega)]; simp [go_sem]
      go_wp2_with fail
      go_ret
      exact ⟨rfl, HB0.out.trans (HB8.out.mono HB0.out.size)⟩
set_option maxRecDepth 20000 in
set_option maxHeartbeats 2000000 in
theorem pone_e (l : List Item) (A : Option Addr) (c : Nat) (p : Patch) (w : World) (m : Int) (hr : RdI w A l) (hl : l.length ≤ maxLen) (hlc : l.length ≤ c) (hfit : ∀ x ∈ l, x.Fits) (hpf : p.Fits) (hg : w.cell? ⟨0, 0, none⟩ = some (.int .i64 m)) (hli : lightB l [] = true) (hfe : fewB p = true) (d : List Item) (hd : (applyF l p).1 = d) (her : (applyF l p).2 = 0) (hk : p.kind = 4) :
    Calls Try.prog 4 #[.agg #[.slice A l.length c], p.agg] w fun e w' => e = .returned (.bool true) ∧ Below w.heap.size w w' := by
  have hK := kept_law her
  rw [hd] at hK
  have hvd := hK.good
  have HD := Lib.hid hd
  have HE := Lib.hid her
  have HV := Lib.hid hvd; clear hvd
  have hk4 : (p.kind != 4) = false := by simp [hk]
  have Hk := Lib.hid hk; clear hk
  have HK := Lib.hid hK; clear hK
  have hsz0 : 0 < w.heap.size := World.block_lt_of_cell? w _ hg
  have hb0 := ((Below.refl w.heap.size w).alloc (Nat.le_refl _) (.cells #[.slice A l.length c] 24)).alloc (by simp) (.cells (patCs p) 28)
  have HB0 := Lib.hid hb0; clear hb0
  have HR := Lib.hid hr; clear hr
  have HG := Lib.hid hg; clear hg
  have HFI := Lib.hid hfit; clear hfit
  have HPF := Lib.hid hpf; clear hpf
  have HLI := Lib.hid hli; clear hli
  have HFE := Lib.hid hfe; clear hfe
  clear hd her
  go_enter Try.func4, Try.ntmps4
  go_wp2_with fail
  refine (head_any _ m (step_cell HB0.out HG.out)).mono ?_
  rintro e w1 ⟨rfl, hb1⟩
  obtain ⟨hc, hf⟩ := bcell hb1
  have hblk := bblk hb1
  have HB1 := Lib.hid hb1; clear hb1
  go_wp2_with fail
  refine (light_any l [] A none c 0 _ ((HR.out.below HB0.out).below HB1.out) Sl.nil hl (by simp) HFI.out (by simp)).mono ?_
  rintro e w2 ⟨rfl, hb2⟩
  rw [HLI.out]
  have hb3 := HB1.out.trans (hb2.mono HB1.out.size)
  clear hc hf hblk hb2 HB1
  obtain ⟨hc, hf⟩ := bcell hb3
  have hblk := bblk hb3
  have HB2 := Lib.hid hb3; clear hb3
  go_wp2_with fail
  refine (few_any p _ HPF.out).mono ?_
  rintro e w3 ⟨rfl, hb2⟩
  rw [HFE.out]
  have hb3 := HB2.out.trans (hb2.mono HB2.out.size)
  clear hc hf hblk hb2 HB2
  obtain ⟨hc, hf⟩ := bcell hb3
  have hblk := bblk hb3
  have HB3 := Lib.hid hb3; clear hb3
  go_wp2_with fail
  have HL := Lib.hid (light_facts HLI.out)
  have HFF := Lib.hid (few_facts HFE.out)
  have hap := apply_any l A c p w3 ((HR.out.below HB0.out).below HB3.out) (by have := HL.out.1; omega) hlc HL.out.2 HFF.out.1 HFF.out.2.1 m (step_cell (HB0.out.trans (HB3.out.mono HB0.out.size)) HG.out) HFF.out.2.2
  unfold Applies at hap
  rw [HD.out, HE.out] at hap
  refine hap.mono ?_
  rintro e w4 ⟨v, rfl, ⟨A', c', rfl, hr', hlc', hA'⟩, hb2⟩
  have hb3 := HB3.out.trans (hb2.mono HB3.out.size)
  clear hc hf hblk hb2 HB3 hap
  obtain ⟨hc, hf⟩ := bcell hb3
  have hblk := bblk hb3
  have HB4 := Lib.hid hb3; clear hb3
  have HR' := Lib.hid hr'; clear hr'
  have hz4 := HB4.out.size
  simp at hz4
  have z1 : w.heap.size < w4.heap.size := by omega
  have z2 : w.heap.size + 1 < w4.heap.size := by omega
  go_wp2_with fail
  have hdl2 : d.length ≤ 2000 := len_of_good HV.out
  have HDS := Lib.hid (short_of_good HV.out)
  have HG4 := Lib.hid (step_cell (HB0.out.trans (HB4.out.mono HB0.out.size)) HG.out)
  have hb5 := HB4.out.alloc (by simp; omega) (.cells #[.slice A' d.length c'] 24)
  have HB6 := Lib.hid hb5; clear hb5 hc hf hblk
  have HR6 := Lib.hid (HR'.out.below ((Below.refl w4.heap.size w4).alloc (Nat.le_refl _) (.cells #[.slice A' d.length c'] 24)))
  have K6 : (w4.alloc (.cells #[.slice A' d.length c'] 24)).cell? ⟨w4.heap.size, 0, none⟩ = some (.slice A' d.length c') := by simp [go_sem]
  generalize (w4.alloc (.cells #[.slice A' d.length c'] 24)) = w6 at *
  go_loopw [8, 9] (fun q i wr => ∃ k : Nat, k ≤ l.length ∧ q = .int .i64 (lastOne l d k) ∧ i = .int .i64 k ∧ Below w6.heap.size w6 wr) (fun _ i _ => l.length - (intOf i).toNat)
  case atStart => exact ⟨0, Nat.zero_le _, rfl, rfl, Below.refl _ _⟩
  case round =>
    obtain ⟨k, hk, rfl, rfl, hb⟩ := hrel
    have K8 := step_cell hb K6
    have zb8 := World.block_lt_of_cell? _ _ K8
    have HR8 := Lib.hid (HR6.out.below hb)
    have hb8 := HB6.out.trans (hb.mono HB6.out.size)
    have HBR := Lib.hid hb
    clear hb
    have hsz8 := hb8.size
    simp at hsz8
    have z1 : w.heap.size < wr.heap.size := by omega
    have z2 : w.heap.size + 1 < wr.heap.size := by omega
    have HB8 := Lib.hid hb8; clear hb8
    by_cases hlt : k < l.length
    · obtain ⟨x, hx⟩ := get_of_lt hlt
      have hi1 : (k : Int) < l.length := by omega
      have hi0 : (0 : Int) ≤ k := by omega
      have hlm : (l.length : Int) ≤ 9223372036854775807 := by unfold maxLen at hl; omega
      obtain ⟨b1, o1, rfl, hbs1, c0, c1, c2, c3, c4, c5, c6⟩ := ((HR.out.below HB0.out).below HB8.out).item hx
      obtain ⟨kk, y, e1, e2, e3, e4, e5⟩ := HK.out.find x (List.mem_of_getElem? hx)
      have hkd : kk < d.length := (List.getElem?_eq_some_iff.1 e2).1
      obtain ⟨b2, o2, rfl, hbs2, d0, d1, d2, d3, d4, d5, d6⟩ := HR8.out.item e2
      have hq0 : decide ((kk : Int) < 0) = false := by simp
      have hq1 : decide ((d.length : Int) ≤ kk) = false := by simp; omega
      have hj0 : (0 : Int) ≤ kk := by omega
      have hj1 : (kk : Int) < d.length := by omega
      have hjm : (d.length : Int) ≤ 2000 := by omega
      have hc1 : wr.cell? ⟨w.heap.size, 0, none⟩ = some (.slice (some ⟨b1, o1, none⟩) l.length c) := by
        rw [HB8.out.cell (p := ⟨w.heap.size, 0, none⟩) (by simp; omega)]; simp [go_sem]
      have hc2 : wr.cell? ⟨w.heap.size + 1, 1, none⟩ = some (vs p.id) := by
        rw [HB8.out.cell (p := ⟨w.heap.size + 1, 1, none⟩) (by simp)]; simp [go_sem]
      have hc3 : wr.cell? ⟨w.heap.size + 1, 0, none⟩ = some (.int .i64 p.kind) := by
        rw [HB8.out.cell (p := ⟨w.heap.size + 1, 0, none⟩) (by simp)]; simp [go_sem]
      have hkx : (x.kind != y.kind) = false := by simp [e4]
      have hfnd := fun W h => find_any d (some ⟨b2, o2, none⟩) c' x.id W h (le_maxLen (by omega))
      rw [e1] at hfnd
      have HFN := Lib.hid hfnd
      have HX := Lib.hid hx; clear hx hfnd
      have E1 := Lib.hid e1; clear e1 e2 e5
      have E3 := Lib.hid e3; clear e3
      have E4 := Lib.hid e4; clear e4
      cases hid : (x.id == p.id) with
      | false =>
        have hne : (x.id != p.id) = true := by simp [bne, hid]
        obtain rfl : y = x := E3.out (by simpa using hid)
        go_wp2_with fail
        refine wp_region_grew (by kernel_rfl) (by as_aux_lemma => kernel_rfl) ?_
        repeat (go_big_quiet_step ((exact Calls_grew (HFN.out _ (HR8.out.below (grew_below _ _))))))
        refine wpQuiet_nil ?_
        rintro _ ⟨W, rfl⟩
        go_wp2_with fail
        go_quiet (fail)
        go_wp2_with fail
        refine ⟨⟨k + 1, by omega, by rw [lastOne_succ HX.out, E1.out], by go_num, Below.drewN' _ (HBR.out.trans ((grew_below _ _).mono HBR.out.size))⟩, by simp [intOf]; omega⟩
      | true =>
        have hne : (x.id != p.id) = false := by simp [bne, hid]
        go_wp2_with fail
        refine wp_region_grew (by kernel_rfl) (by as_aux_lemma => kernel_rfl) ?_
        repeat (go_big_quiet_step ((exact Calls_grew (HFN.out _ (HR8.out.below (grew_below _ _))))))
        refine wpQuiet_nil ?_
        rintro _ ⟨W, rfl⟩
        go_wp2_with fail
        go_quiet (fail)
        go_wp2_with fail
        refine ⟨⟨k + 1, by omega, by rw [lastOne_succ HX.out, E1.out], by go_num, Below.drewN' _ (HBR.out.trans ((grew_below _ _).mono HBR.out.size))⟩, by simp [intOf]; omega⟩
    · have : k = l.length := by omega
      subst this
      have hc1 : wr.cell? ⟨w.heap.size, 0, none⟩ = some (.slice A l.length c) := by
        rw [HB8.out.cell (p := ⟨w.heap.size, 0, none⟩) (by simp; omega)]; simp [go_sem]
      go_wp2_with fail
      go_ret
      exact ⟨rfl, HB0.out.trans (HB8.out.mono HB0.out.size)⟩
theorem pone_any (l : List Item) (A : Option Addr) (c : Nat) (p : Patch) (w : World) (m : Int) (hr : RdI w A l) (hl : l.length ≤ maxLen) (hlc : l.length ≤ c) (hfit : ∀ x ∈ l, x.Fits) (hpf : p.Fits) (hg : w.cell? ⟨0, 0, none⟩ = some (.int .i64 m)) : Calls Try.prog 4 #[.agg #[.slice A l.length c], p.agg] w fun e w' => e = .returned (.bool true) ∧ Below w.heap.size w w' := by
  cases hli : lightB l [] with
  | false => exact pone_a l A c p w m hr hl hlc hfit hpf hg hli
  | true =>
    cases hfe : fewB p with
    | false => exact pone_b l A c p w m hr hl hlc hfit hpf hg hli hfe
    | true =>
      by_cases h0 : (applyF l p).2 = 0
      · by_cases hk : p.kind = 4
        · exact pone_e l A c p w m hr hl hlc hfit hpf hg hli hfe _ rfl h0 hk
        · exact pone_d l A c p w m hr hl hlc hfit hpf hg hli hfe _ rfl h0 hk
      · exact pone_c l A c p w m hr hl hlc hfit hpf hg hli hfe _ (apply_err h0) rfl h0
end Go.Proofs.Ytkdcenbommhnoaa
