/- The reference's failure. -/
import Derived.Test.YtfolcjkednmkoaaGreatJPut
set_option linter.unusedVariables false
set_option linter.unusedSimpArgs false
set_option maxRecDepth 20000
set_option maxHeartbeats 8000000
namespace Go.Proofs.YtfolcjkednmkoaaGreat
open Go.RowKit
theorem two_up (w : World) (A : Option Addr) (l : List Item) (c : Nat) (p : Patch) : Below w.heap.size w ((w.alloc (.cells #[.slice A l.length c] 24)).alloc (.cells (patCs p) 29)) := ((Below.refl w.heap.size w).alloc (Nat.le_refl _) (.cells #[.slice A l.length c] 24)).alloc (by simp) (.cells (patCs p) 29)
theorem after2 {w w0 w1 : World} {o1 o2 : Obj} (h : Hid (Below ((w.alloc o1).alloc o2).heap.size ((w.alloc o1).alloc o2) w0)) (hbN : Below w0.heap.size w0 w1) :
 Hid (Below ((w.alloc o1).alloc o2).heap.size ((w.alloc o1).alloc o2) w1) ∧ (∀ b o, b < w.heap.size + 1 + 1 → w1.cell? ⟨b, o, none⟩ = ((w.alloc o1).alloc o2).cell? ⟨b, o, none⟩) ∧ (∀ b o, b < w.heap.size + 1 + 1 → w1.frozen? ⟨b, o, none⟩ = ((w.alloc o1).alloc o2).frozen? ⟨b, o, none⟩) ∧ (∀ k, k < w.heap.size + 1 + 1 → w1.blk k = ((w.alloc o1).alloc o2).blk k) ∧ w.heap.size < w1.heap.size ∧ w.heap.size + 1 < w1.heap.size := by
 have hb3 := h.out.trans (hbN.mono h.out.size)
 obtain ⟨hc, hf⟩ := bcell hb3
 have hblk := bblk hb3
 simp at hc hf hblk
 have hzc := hb3.size
 simp at hzc
 exact ⟨Lib.hid hb3, hc, hf, hblk, by omega, by omega⟩
theorem bself (w : World) : Below w.heap.size w w := Below.refl _ _
theorem rex_eq {l : List Item} (hv : walkB l = true) (par aft : Str) : rexB l par aft = existsF l par aft := by
 have hg := good_of hv
 unfold rexB existsF
 congr 1
 · congr 1
   rcases find_case l par with ⟨h1, h2⟩ | ⟨k, y, h1, h2, h3⟩
   · rw [h1, h2]; rfl
   · rw [h1]; simp
 · congr 1
   rcases find_case l aft with ⟨h1, h2⟩ | ⟨k, y, h1, h2, h3⟩
   · rw [h1, h2]; rfl
   · have hk := proper_kind (hg.pr y (List.mem_of_getElem? h2))
     have : (y.kind != 0) = true := by simp; omega
     rw [h1, h3, this]
     simp
theorem rtext_at {x : Item} {g : Int} {s : Str} (h : (if g = 1 then x.no else x.so) = s) (w : World) :
 Calls Tryz.prog 92 #[x.agg, .int .i64 g] w fun e w' => e = .returned (vs s) ∧ Below w.heap.size w w' := by
 rw [← h]; exact rtext_any x g w
theorem swap_len {t f u : Str} (h : onceIs t f = true) : ((swap t f u (onceAt t f).toNat).length : Int) = t.length - f.length + u.length := by
 obtain ⟨i, h1, h2⟩ := once_room h
 rw [h1]
 unfold swap
 simp
 omega
theorem rfail_v (l : List Item) (A : Option Addr) (c : Nat) (p : Patch) (w : World) (hr : RdI w A l) (hl : l.length ≤ 1000000) (hsh : ∀ x ∈ l, x.Short) (hps : p.item.Short) (hpn : p.num.length ≤ maxLen) (hfr : p.fr.length ≤ 1000000) (htt : p.to.length ≤ 1000000) (hv0 : walkB l = false) : Calls Tryz.prog 58 #[.agg #[.slice A l.length c], p.agg] w fun e w' => e = .returned (.int .i64 (applyF l p).2) ∧ Below w.heap.size w w' := by
 have hb0 := two_up w A l c p
 have HB0 := Lib.hid hb0; clear hb0
 have HBc := Lib.hid (bself ((w.alloc (.cells #[.slice A l.length c] 24)).alloc (.cells (patCs p) 29)))
 have HR0 := Lib.hid (hr.below HB0.out)
 have HSH := Lib.hid hsh; clear hsh
 have HPS := Lib.hid hps; clear hps
 have HPN := Lib.hid hpn; clear hpn
 have HWB := Lib.hid hv0
 have hv : (applyF l p).2 = 1 := by unfold applyF; rw [if_pos (.inl hv0)]
 have HV := Lib.hid hv; clear hv
 clear hv0
 rw [HV.out]
 go_enter Tryz.func58, Tryz.ntmps58
 go_wp2_with fail
 refine (rvalid_any l A c _ (HR0.out.below HBc.out) hl HSH.out).mono ?_
 rintro e w1 ⟨rfl, hbN⟩
 rw [HWB.out]
 have hb3 := after2 HBc hbN
 clear hbN HBc
 obtain ⟨HBc, hc, hf, hblk, zc0, zc1⟩ := hb3
 go_wp2_with fail
 go_ret
 exact ⟨rfl, HB0.out.trans (HBc.out.mono HB0.out.size)⟩
theorem rfail_f (l : List Item) (A : Option Addr) (c : Nat) (p : Patch) (w : World) (hr : RdI w A l) (hl : l.length ≤ 1000000) (hsh : ∀ x ∈ l, x.Short) (hps : p.item.Short) (hpn : p.num.length ≤ maxLen) (hfr : p.fr.length ≤ 1000000) (htt : p.to.length ≤ 1000000) (hv0 : walkB l = true) (hf0 : rformB p = false) : Calls Tryz.prog 58 #[.agg #[.slice A l.length c], p.agg] w fun e w' => e = .returned (.int .i64 (applyF l p).2) ∧ Below w.heap.size w w' := by
 have hb0 := two_up w A l c p
 have HB0 := Lib.hid hb0; clear hb0
 have HBc := Lib.hid (bself ((w.alloc (.cells #[.slice A l.length c] 24)).alloc (.cells (patCs p) 29)))
 have HR0 := Lib.hid (hr.below HB0.out)
 have HSH := Lib.hid hsh; clear hsh
 have HPS := Lib.hid hps; clear hps
 have HPN := Lib.hid hpn; clear hpn
 have HWB := Lib.hid hv0
 have HFO := Lib.hid hf0
 have hv : (applyF l p).2 = 1 := by unfold applyF; rw [if_pos (.inr (by rw [rform_eq]; exact hf0))]
 have HV := Lib.hid hv; clear hv
 clear hv0 hf0
 rw [HV.out]
 go_enter Tryz.func58, Tryz.ntmps58
 go_wp2_with fail
 refine (rvalid_any l A c _ (HR0.out.below HBc.out) hl HSH.out).mono ?_
 rintro e w1 ⟨rfl, hbN⟩
 rw [HWB.out]
 have hb3 := after2 HBc hbN
 clear hbN HBc
 obtain ⟨HBc, hc, hf, hblk, zc0, zc1⟩ := hb3
 go_wp2_with fail
 refine (rformed_any p _ HPS.out HPN.out).mono ?_
 rintro e w2 ⟨rfl, hbN⟩
 rw [HFO.out]
 have hb3 := after2 HBc hbN
 clear hbN HBc hc hf hblk zc0 zc1
 obtain ⟨HBc, hc, hf, hblk, zc0, zc1⟩ := hb3
 go_wp2_with fail
 go_ret
 exact ⟨rfl, HB0.out.trans (HBc.out.mono HB0.out.size)⟩
theorem rfail_1t (l : List Item) (A : Option Addr) (c : Nat) (p : Patch) (w : World) (hr : RdI w A l) (hl : l.length ≤ 1000000) (hsh : ∀ x ∈ l, x.Short) (hps : p.item.Short) (hpn : p.num.length ≤ maxLen) (hfr : p.fr.length ≤ 1000000) (htt : p.to.length ≤ 1000000) (hv0 : walkB l = true) (hf0 : rformB p = true) (hk : p.kind = 1) (k : Nat) (hfi : findI l p.id = k) : Calls Tryz.prog 58 #[.agg #[.slice A l.length c], p.agg] w fun e w' => e = .returned (.int .i64 (applyF l p).2) ∧ Below w.heap.size w w' := by
 have hb0 := two_up w A l c p
 have HB0 := Lib.hid hb0; clear hb0
 have HBc := Lib.hid (bself ((w.alloc (.cells #[.slice A l.length c] 24)).alloc (.cells (patCs p) 29)))
 have HR0 := Lib.hid (hr.below HB0.out)
 have HSH := Lib.hid hsh; clear hsh
 have HPS := Lib.hid hps; clear hps
 have HPN := Lib.hid hpn; clear hpn
 have HWB := Lib.hid hv0
 have HFO := Lib.hid hf0
 have hnf : ¬ (walkB l = false ∨ formedF p = false) := by rw [rform_eq, hv0, hf0]; simp
 have k1 : (p.kind == 1) = true := by simp [hk]
 have HFI := Lib.hid hfi
 have hk0 : (0 : Int) ≤ k := by omega
 have hv : (applyF l p).2 = 9 := by unfold applyF; rw [if_neg hnf, if_pos hk]; unfold insertF; rw [if_pos (by rw [hfi]; omega)]
 have HV := Lib.hid hv; clear hv
 clear hv0 hf0 hnf
 clear hk hfi
 rw [HV.out]
 go_enter Tryz.func58, Tryz.ntmps58
 go_wp2_with fail
 refine (rvalid_any l A c _ (HR0.out.below HBc.out) hl HSH.out).mono ?_
 rintro e w1 ⟨rfl, hbN⟩
 rw [HWB.out]
 have hb3 := after2 HBc hbN
 clear hbN HBc
 obtain ⟨HBc, hc, hf, hblk, zc0, zc1⟩ := hb3
 go_wp2_with fail
 refine (rformed_any p _ HPS.out HPN.out).mono ?_
 rintro e w2 ⟨rfl, hbN⟩
 rw [HFO.out]
 have hb3 := after2 HBc hbN
 clear hbN HBc hc hf hblk zc0 zc1
 obtain ⟨HBc, hc, hf, hblk, zc0, zc1⟩ := hb3
 go_wp2_with fail
 refine (rfind_any l A c p.id _ (HR0.out.below HBc.out) (le_maxLen (by omega))).mono ?_
 rintro e w3 ⟨rfl, hbN⟩
 rw [HFI.out]
 have hb3 := after2 HBc hbN
 clear hbN HBc hc hf hblk zc0 zc1
 obtain ⟨HBc, hc, hf, hblk, zc0, zc1⟩ := hb3
 go_wp2_with fail
 go_ret
 exact ⟨rfl, HB0.out.trans (HBc.out.mono HB0.out.size)⟩
theorem rfail_1p (l : List Item) (A : Option Addr) (c : Nat) (p : Patch) (w : World) (hr : RdI w A l) (hl : l.length ≤ 1000000) (hsh : ∀ x ∈ l, x.Short) (hps : p.item.Short) (hpn : p.num.length ≤ maxLen) (hfr : p.fr.length ≤ 1000000) (htt : p.to.length ≤ 1000000) (hv0 : walkB l = true) (hf0 : rformB p = true) (hk : p.kind = 1) (hfi : findI l p.id = -1) (hex : rexB l p.par p.aft = false) : Calls Tryz.prog 58 #[.agg #[.slice A l.length c], p.agg] w fun e w' => e = .returned (.int .i64 (applyF l p).2) ∧ Below w.heap.size w w' := by
 have hb0 := two_up w A l c p
 have HB0 := Lib.hid hb0; clear hb0
 have HBc := Lib.hid (bself ((w.alloc (.cells #[.slice A l.length c] 24)).alloc (.cells (patCs p) 29)))
 have HR0 := Lib.hid (hr.below HB0.out)
 have HSH := Lib.hid hsh; clear hsh
 have HPS := Lib.hid hps; clear hps
 have HPN := Lib.hid hpn; clear hpn
 have HWB := Lib.hid hv0
 have HFO := Lib.hid hf0
 have hnf : ¬ (walkB l = false ∨ formedF p = false) := by rw [rform_eq, hv0, hf0]; simp
 have k1 : (p.kind == 1) = true := by simp [hk]
 have HFI := Lib.hid hfi
 have HEX := Lib.hid hex
 rw [rex_eq hv0] at hex
 have hv : (applyF l p).2 = 14 := by unfold applyF; rw [if_neg hnf, if_pos hk]; unfold insertF; rw [if_neg (by rw [hfi]; omega)]; rw [if_pos hex]
 have HV := Lib.hid hv; clear hv
 clear hv0 hf0 hnf
 clear hk hfi hex
 rw [HV.out]
 go_enter Tryz.func58, Tryz.ntmps58
 go_wp2_with fail
 refine (rvalid_any l A c _ (HR0.out.below HBc.out) hl HSH.out).mono ?_
 rintro e w1 ⟨rfl, hbN⟩
 rw [HWB.out]
 have hb3 := after2 HBc hbN
 clear hbN HBc
 obtain ⟨HBc, hc, hf, hblk, zc0, zc1⟩ := hb3
 go_wp2_with fail
 refine (rformed_any p _ HPS.out HPN.out).mono ?_
 rintro e w2 ⟨rfl, hbN⟩
 rw [HFO.out]
 have hb3 := after2 HBc hbN
 clear hbN HBc hc hf hblk zc0 zc1
 obtain ⟨HBc, hc, hf, hblk, zc0, zc1⟩ := hb3
 go_wp2_with fail
 refine (rfind_any l A c p.id _ (HR0.out.below HBc.out) (le_maxLen (by omega))).mono ?_
 rintro e w3 ⟨rfl, hbN⟩
 rw [HFI.out]
 have hb3 := after2 HBc hbN
 clear hbN HBc hc hf hblk zc0 zc1
 obtain ⟨HBc, hc, hf, hblk, zc0, zc1⟩ := hb3
 go_wp2_with fail
 refine (rexists_any l A c p.par p.aft _ (HR0.out.below HBc.out) hl).mono ?_
 rintro e w4 ⟨rfl, hbN⟩
 rw [HEX.out]
 have hb3 := after2 HBc hbN
 clear hbN HBc hc hf hblk zc0 zc1
 obtain ⟨HBc, hc, hf, hblk, zc0, zc1⟩ := hb3
 go_wp2_with fail
 go_ret
 exact ⟨rfl, HB0.out.trans (HBc.out.mono HB0.out.size)⟩
theorem rfail_1l (l : List Item) (A : Option Addr) (c : Nat) (p : Patch) (w : World) (hr : RdI w A l) (hl : l.length ≤ 1000000) (hsh : ∀ x ∈ l, x.Short) (hps : p.item.Short) (hpn : p.num.length ≤ maxLen) (hfr : p.fr.length ≤ 1000000) (htt : p.to.length ≤ 1000000) (hv0 : walkB l = true) (hf0 : rformB p = true) (hk : p.kind = 1) (hfi : findI l p.id = -1) (hex : rexB l p.par p.aft = true) (hln : 2000 ≤ l.length) : Calls Tryz.prog 58 #[.agg #[.slice A l.length c], p.agg] w fun e w' => e = .returned (.int .i64 (applyF l p).2) ∧ Below w.heap.size w w' := by
 have hb0 := two_up w A l c p
 have HB0 := Lib.hid hb0; clear hb0
 have HBc := Lib.hid (bself ((w.alloc (.cells #[.slice A l.length c] 24)).alloc (.cells (patCs p) 29)))
 have HR0 := Lib.hid (hr.below HB0.out)
 have HSH := Lib.hid hsh; clear hsh
 have HPS := Lib.hid hps; clear hps
 have HPN := Lib.hid hpn; clear hpn
 have HWB := Lib.hid hv0
 have HFO := Lib.hid hf0
 have hnf : ¬ (walkB l = false ∨ formedF p = false) := by rw [rform_eq, hv0, hf0]; simp
 have k1 : (p.kind == 1) = true := by simp [hk]
 have HFI := Lib.hid hfi
 have HEX := Lib.hid hex
 rw [rex_eq hv0] at hex
 have hd : decide ((2000 : Int) ≤ l.length) = true := by simp; omega
 have hln2 : (2000 : Int) ≤ l.length := by omega
 have hv : (applyF l p).2 = 2 := by unfold applyF; rw [if_neg hnf, if_pos hk]; unfold insertF; rw [if_neg (by rw [hfi]; omega)]; rw [if_neg (by rw [hex]; simp), if_pos hln]
 have HV := Lib.hid hv; clear hv
 clear hv0 hf0 hnf
 clear hk hfi hex hln
 rw [HV.out]
 go_enter Tryz.func58, Tryz.ntmps58
 go_wp2_with fail
 refine (rvalid_any l A c _ (HR0.out.below HBc.out) hl HSH.out).mono ?_
 rintro e w1 ⟨rfl, hbN⟩
 rw [HWB.out]
 have hb3 := after2 HBc hbN
 clear hbN HBc
 obtain ⟨HBc, hc, hf, hblk, zc0, zc1⟩ := hb3
 go_wp2_with fail
 refine (rformed_any p _ HPS.out HPN.out).mono ?_
 rintro e w2 ⟨rfl, hbN⟩
 rw [HFO.out]
 have hb3 := after2 HBc hbN
 clear hbN HBc hc hf hblk zc0 zc1
 obtain ⟨HBc, hc, hf, hblk, zc0, zc1⟩ := hb3
 go_wp2_with fail
 refine (rfind_any l A c p.id _ (HR0.out.below HBc.out) (le_maxLen (by omega))).mono ?_
 rintro e w3 ⟨rfl, hbN⟩
 rw [HFI.out]
 have hb3 := after2 HBc hbN
 clear hbN HBc hc hf hblk zc0 zc1
 obtain ⟨HBc, hc, hf, hblk, zc0, zc1⟩ := hb3
 go_wp2_with fail
 refine (rexists_any l A c p.par p.aft _ (HR0.out.below HBc.out) hl).mono ?_
 rintro e w4 ⟨rfl, hbN⟩
 rw [HEX.out]
 have hb3 := after2 HBc hbN
 clear hbN HBc hc hf hblk zc0 zc1
 obtain ⟨HBc, hc, hf, hblk, zc0, zc1⟩ := hb3
 go_wp2_with fail
 go_ret
 exact ⟨rfl, HB0.out.trans (HBc.out.mono HB0.out.size)⟩
theorem rfail_1o (l : List Item) (A : Option Addr) (c : Nat) (p : Patch) (w : World) (hr : RdI w A l) (hl : l.length ≤ 1000000) (hsh : ∀ x ∈ l, x.Short) (hps : p.item.Short) (hpn : p.num.length ≤ maxLen) (hfr : p.fr.length ≤ 1000000) (htt : p.to.length ≤ 1000000) (hv0 : walkB l = true) (hf0 : rformB p = true) (hk : p.kind = 1) (hfi : findI l p.id = -1) (hex : rexB l p.par p.aft = true) (hln : ¬ 2000 ≤ l.length) : Calls Tryz.prog 58 #[.agg #[.slice A l.length c], p.agg] w fun e w' => e = .returned (.int .i64 (applyF l p).2) ∧ Below w.heap.size w w' := by
 have hb0 := two_up w A l c p
 have HB0 := Lib.hid hb0; clear hb0
 have HBc := Lib.hid (bself ((w.alloc (.cells #[.slice A l.length c] 24)).alloc (.cells (patCs p) 29)))
 have HR0 := Lib.hid (hr.below HB0.out)
 have HSH := Lib.hid hsh; clear hsh
 have HPS := Lib.hid hps; clear hps
 have HPN := Lib.hid hpn; clear hpn
 have HWB := Lib.hid hv0
 have HFO := Lib.hid hf0
 have hnf : ¬ (walkB l = false ∨ formedF p = false) := by rw [rform_eq, hv0, hf0]; simp
 have k1 : (p.kind == 1) = true := by simp [hk]
 have HFI := Lib.hid hfi
 have HEX := Lib.hid hex
 rw [rex_eq hv0] at hex
 have hd : decide ((2000 : Int) ≤ l.length) = false := by simp; omega
 have hln2 : (l.length : Int) < 2000 := by omega
 have hv : (applyF l p).2 = 0 := by unfold applyF; rw [if_neg hnf, if_pos hk]; unfold insertF; rw [if_neg (by rw [hfi]; omega)]; rw [if_neg (by rw [hex]; simp), if_neg hln]
 have HV := Lib.hid hv; clear hv
 clear hv0 hf0 hnf
 clear hk hfi hex hln
 rw [HV.out]
 go_enter Tryz.func58, Tryz.ntmps58
 go_wp2_with fail
 refine (rvalid_any l A c _ (HR0.out.below HBc.out) hl HSH.out).mono ?_
 rintro e w1 ⟨rfl, hbN⟩
 rw [HWB.out]
 have hb3 := after2 HBc hbN
 clear hbN HBc
 obtain ⟨HBc, hc, hf, hblk, zc0, zc1⟩ := hb3
 go_wp2_with fail
 refine (rformed_any p _ HPS.out HPN.out).mono ?_
 rintro e w2 ⟨rfl, hbN⟩
 rw [HFO.out]
 have hb3 := after2 HBc hbN
 clear hbN HBc hc hf hblk zc0 zc1
 obtain ⟨HBc, hc, hf, hblk, zc0, zc1⟩ := hb3
 go_wp2_with fail
 refine (rfind_any l A c p.id _ (HR0.out.below HBc.out) (le_maxLen (by omega))).mono ?_
 rintro e w3 ⟨rfl, hbN⟩
 rw [HFI.out]
 have hb3 := after2 HBc hbN
 clear hbN HBc hc hf hblk zc0 zc1
 obtain ⟨HBc, hc, hf, hblk, zc0, zc1⟩ := hb3
 go_wp2_with fail
 refine (rexists_any l A c p.par p.aft _ (HR0.out.below HBc.out) hl).mono ?_
 rintro e w4 ⟨rfl, hbN⟩
 rw [HEX.out]
 have hb3 := after2 HBc hbN
 clear hbN HBc hc hf hblk zc0 zc1
 obtain ⟨HBc, hc, hf, hblk, zc0, zc1⟩ := hb3
 go_wp2_with fail
 go_ret
 exact ⟨rfl, HB0.out.trans (HBc.out.mono HB0.out.size)⟩
theorem rfail_n (l : List Item) (A : Option Addr) (c : Nat) (p : Patch) (w : World) (hr : RdI w A l) (hl : l.length ≤ 1000000) (hsh : ∀ x ∈ l, x.Short) (hps : p.item.Short) (hpn : p.num.length ≤ maxLen) (hfr : p.fr.length ≤ 1000000) (htt : p.to.length ≤ 1000000) (hv0 : walkB l = true) (hf0 : rformB p = true) (hk : p.kind ≠ 1) (hfi : findI l p.id = -1) (hit : itemF l p.id = noItem) : Calls Tryz.prog 58 #[.agg #[.slice A l.length c], p.agg] w fun e w' => e = .returned (.int .i64 (applyF l p).2) ∧ Below w.heap.size w w' := by
 have hb0 := two_up w A l c p
 have HB0 := Lib.hid hb0; clear hb0
 have HBc := Lib.hid (bself ((w.alloc (.cells #[.slice A l.length c] 24)).alloc (.cells (patCs p) 29)))
 have HR0 := Lib.hid (hr.below HB0.out)
 have HSH := Lib.hid hsh; clear hsh
 have HPS := Lib.hid hps; clear hps
 have HPN := Lib.hid hpn; clear hpn
 have HWB := Lib.hid hv0
 have HFO := Lib.hid hf0
 have hnf : ¬ (walkB l = false ∨ formedF p = false) := by rw [rform_eq, hv0, hf0]; simp
 have k1 : (p.kind == 1) = false := by simpa using hk
 have HFI := Lib.hid hfi
 have hv : (applyF l p).2 = 11 := by unfold applyF; rw [if_neg hnf, if_neg hk, hit, if_pos (.inl rfl)]
 have HV := Lib.hid hv; clear hv
 clear hv0 hf0 hnf
 clear hk hfi hit
 rw [HV.out]
 go_enter Tryz.func58, Tryz.ntmps58
 go_wp2_with fail
 refine (rvalid_any l A c _ (HR0.out.below HBc.out) hl HSH.out).mono ?_
 rintro e w1 ⟨rfl, hbN⟩
 rw [HWB.out]
 have hb3 := after2 HBc hbN
 clear hbN HBc
 obtain ⟨HBc, hc, hf, hblk, zc0, zc1⟩ := hb3
 go_wp2_with fail
 refine (rformed_any p _ HPS.out HPN.out).mono ?_
 rintro e w2 ⟨rfl, hbN⟩
 rw [HFO.out]
 have hb3 := after2 HBc hbN
 clear hbN HBc hc hf hblk zc0 zc1
 obtain ⟨HBc, hc, hf, hblk, zc0, zc1⟩ := hb3
 go_wp2_with fail
 refine (rfind_any l A c p.id _ (HR0.out.below HBc.out) (le_maxLen (by omega))).mono ?_
 rintro e w3 ⟨rfl, hbN⟩
 rw [HFI.out]
 have hb3 := after2 HBc hbN
 clear hbN HBc hc hf hblk zc0 zc1
 obtain ⟨HBc, hc, hf, hblk, zc0, zc1⟩ := hb3
 go_wp2_with fail
 go_ret
 exact ⟨rfl, HB0.out.trans (HBc.out.mono HB0.out.size)⟩
theorem rfail_2d (l : List Item) (A : Option Addr) (c : Nat) (p : Patch) (w : World) (hr : RdI w A l) (hl : l.length ≤ 1000000) (hsh : ∀ x ∈ l, x.Short) (hps : p.item.Short) (hpn : p.num.length ≤ maxLen) (hfr : p.fr.length ≤ 1000000) (htt : p.to.length ≤ 1000000) (hv0 : walkB l = true) (hf0 : rformB p = true) (hk : p.kind = 2) (k : Nat) (y : Item) (hfi : findI l p.id = k) (hy : l[k]? = some y) (hit : itemF l p.id = y) (hyk : y.kind = 1) : Calls Tryz.prog 58 #[.agg #[.slice A l.length c], p.agg] w fun e w' => e = .returned (.int .i64 (applyF l p).2) ∧ Below w.heap.size w w' := by
 have hb0 := two_up w A l c p
 have HB0 := Lib.hid hb0; clear hb0
 have HBc := Lib.hid (bself ((w.alloc (.cells #[.slice A l.length c] 24)).alloc (.cells (patCs p) 29)))
 have HR0 := Lib.hid (hr.below HB0.out)
 have HSH := Lib.hid hsh; clear hsh
 have HPS := Lib.hid hps; clear hps
 have HPN := Lib.hid hpn; clear hpn
 have HWB := Lib.hid hv0
 have HFO := Lib.hid hf0
 have hnf : ¬ (walkB l = false ∨ formedF p = false) := by rw [rform_eq, hv0, hf0]; simp
 obtain ⟨b1, o1, hA, hbs1, c0, c1, c2, c3, c4, c5, c6⟩ := hr.item hy
 have hkl : k < l.length := (List.getElem?_eq_some_iff.1 hy).1
 have hi0 : (0 : Int) ≤ k := by omega
 have hi1 : (k : Int) < l.length := by omega
 have hi2 : decide ((k : Int) < 0) = false := by simp
 have q0 : b1 < w.heap.size + 1 := by omega
 have q1 : b1 < w.heap.size + 1 + 1 := by omega
 have HFI := Lib.hid hfi
 subst hA
 have kb1 : (p.kind == 1) = false := by simp [hk]
 have kn1 : (p.kind != 1) = true := by simp [hk]
 have kb2 : (p.kind == 2) = true := by simp [hk]
 have kn2 : (p.kind != 2) = false := by simp [hk]
 have kb3 : (p.kind == 3) = false := by simp [hk]
 have kn3 : (p.kind != 3) = true := by simp [hk]
 have kb4 : (p.kind == 4) = false := by simp [hk]
 have kn4 : (p.kind != 4) = true := by simp [hk]
 have kb5 : (p.kind == 5) = false := by simp [hk]
 have kn5 : (p.kind != 5) = true := by simp [hk]
 have kb6 : (p.kind == 6) = false := by simp [hk]
 have kn6 : (p.kind != 6) = true := by simp [hk]
 have kb7 : (p.kind == 7) = false := by simp [hk]
 have kn7 : (p.kind != 7) = true := by simp [hk]
 have yk : (y.kind == 1) = true := by simp [hyk]
 have hv : (applyF l p).2 = 11 := by unfold applyF; rw [if_neg hnf, if_neg (show ¬ p.kind = 1 by omega), hit]; rw [if_pos (.inr ⟨hyk, by omega, by omega⟩)]
 have HV := Lib.hid hv; clear hv
 clear hv0 hf0 hnf
 clear hk hfi hit hy hr hyk
 rw [HV.out]
 go_enter Tryz.func58, Tryz.ntmps58
 go_wp2_with fail
 refine (rvalid_any l _ c _ (HR0.out.below HBc.out) hl HSH.out).mono ?_
 rintro e w1 ⟨rfl, hbN⟩
 rw [HWB.out]
 have hb3 := after2 HBc hbN
 clear hbN HBc
 obtain ⟨HBc, hc, hf, hblk, zc0, zc1⟩ := hb3
 go_wp2_with fail
 refine (rformed_any p _ HPS.out HPN.out).mono ?_
 rintro e w2 ⟨rfl, hbN⟩
 rw [HFO.out]
 have hb3 := after2 HBc hbN
 clear hbN HBc hc hf hblk zc0 zc1
 obtain ⟨HBc, hc, hf, hblk, zc0, zc1⟩ := hb3
 go_wp2_with fail
 refine (rfind_any l _ c p.id _ (HR0.out.below HBc.out) (le_maxLen (by omega))).mono ?_
 rintro e w3 ⟨rfl, hbN⟩
 rw [HFI.out]
 have hb3 := after2 HBc hbN
 clear hbN HBc hc hf hblk zc0 zc1
 obtain ⟨HBc, hc, hf, hblk, zc0, zc1⟩ := hb3
 go_wp2_with fail
 go_ret
 exact ⟨rfl, HB0.out.trans (HBc.out.mono HB0.out.size)⟩
theorem rfail_5d (l : List Item) (A : Option Addr) (c : Nat) (p : Patch) (w : World) (hr : RdI w A l) (hl : l.length ≤ 1000000) (hsh : ∀ x ∈ l, x.Short) (hps : p.item.Short) (hpn : p.num.length ≤ maxLen) (hfr : p.fr.length ≤ 1000000) (htt : p.to.length ≤ 1000000) (hv0 : walkB l = true) (hf0 : rformB p = true) (hk : p.kind = 5) (k : Nat) (y : Item) (hfi : findI l p.id = k) (hy : l[k]? = some y) (hit : itemF l p.id = y) (hyk : y.kind = 1) : Calls Tryz.prog 58 #[.agg #[.slice A l.length c], p.agg] w fun e w' => e = .returned (.int .i64 (applyF l p).2) ∧ Below w.heap.size w w' := by
 have hb0 := two_up w A l c p
 have HB0 := Lib.hid hb0; clear hb0
 have HBc := Lib.hid (bself ((w.alloc (.cells #[.slice A l.length c] 24)).alloc (.cells (patCs p) 29)))
 have HR0 := Lib.hid (hr.below HB0.out)
 have HSH := Lib.hid hsh; clear hsh
 have HPS := Lib.hid hps; clear hps
 have HPN := Lib.hid hpn; clear hpn
 have HWB := Lib.hid hv0
 have HFO := Lib.hid hf0
 have hnf : ¬ (walkB l = false ∨ formedF p = false) := by rw [rform_eq, hv0, hf0]; simp
 obtain ⟨b1, o1, hA, hbs1, c0, c1, c2, c3, c4, c5, c6⟩ := hr.item hy
 have hkl : k < l.length := (List.getElem?_eq_some_iff.1 hy).1
 have hi0 : (0 : Int) ≤ k := by omega
 have hi1 : (k : Int) < l.length := by omega
 have hi2 : decide ((k : Int) < 0) = false := by simp
 have q0 : b1 < w.heap.size + 1 := by omega
 have q1 : b1 < w.heap.size + 1 + 1 := by omega
 have HFI := Lib.hid hfi
 subst hA
 have kb1 : (p.kind == 1) = false := by simp [hk]
 have kn1 : (p.kind != 1) = true := by simp [hk]
 have kb2 : (p.kind == 2) = false := by simp [hk]
 have kn2 : (p.kind != 2) = true := by simp [hk]
 have kb3 : (p.kind == 3) = false := by simp [hk]
 have kn3 : (p.kind != 3) = true := by simp [hk]
 have kb4 : (p.kind == 4) = false := by simp [hk]
 have kn4 : (p.kind != 4) = true := by simp [hk]
 have kb5 : (p.kind == 5) = true := by simp [hk]
 have kn5 : (p.kind != 5) = false := by simp [hk]
 have kb6 : (p.kind == 6) = false := by simp [hk]
 have kn6 : (p.kind != 6) = true := by simp [hk]
 have kb7 : (p.kind == 7) = false := by simp [hk]
 have kn7 : (p.kind != 7) = true := by simp [hk]
 have yk : (y.kind == 1) = true := by simp [hyk]
 have hv : (applyF l p).2 = 11 := by unfold applyF; rw [if_neg hnf, if_neg (show ¬ p.kind = 1 by omega), hit]; rw [if_pos (.inr ⟨hyk, by omega, by omega⟩)]
 have HV := Lib.hid hv; clear hv
 clear hv0 hf0 hnf
 clear hk hfi hit hy hr hyk
 rw [HV.out]
 go_enter Tryz.func58, Tryz.ntmps58
 go_wp2_with fail
 refine (rvalid_any l _ c _ (HR0.out.below HBc.out) hl HSH.out).mono ?_
 rintro e w1 ⟨rfl, hbN⟩
 rw [HWB.out]
 have hb3 := after2 HBc hbN
 clear hbN HBc
 obtain ⟨HBc, hc, hf, hblk, zc0, zc1⟩ := hb3
 go_wp2_with fail
 refine (rformed_any p _ HPS.out HPN.out).mono ?_
 rintro e w2 ⟨rfl, hbN⟩
 rw [HFO.out]
 have hb3 := after2 HBc hbN
 clear hbN HBc hc hf hblk zc0 zc1
 obtain ⟨HBc, hc, hf, hblk, zc0, zc1⟩ := hb3
 go_wp2_with fail
 refine (rfind_any l _ c p.id _ (HR0.out.below HBc.out) (le_maxLen (by omega))).mono ?_
 rintro e w3 ⟨rfl, hbN⟩
 rw [HFI.out]
 have hb3 := after2 HBc hbN
 clear hbN HBc hc hf hblk zc0 zc1
 obtain ⟨HBc, hc, hf, hblk, zc0, zc1⟩ := hb3
 go_wp2_with fail
 go_ret
 exact ⟨rfl, HB0.out.trans (HBc.out.mono HB0.out.size)⟩
theorem rfail_6d (l : List Item) (A : Option Addr) (c : Nat) (p : Patch) (w : World) (hr : RdI w A l) (hl : l.length ≤ 1000000) (hsh : ∀ x ∈ l, x.Short) (hps : p.item.Short) (hpn : p.num.length ≤ maxLen) (hfr : p.fr.length ≤ 1000000) (htt : p.to.length ≤ 1000000) (hv0 : walkB l = true) (hf0 : rformB p = true) (hk : p.kind = 6) (k : Nat) (y : Item) (hfi : findI l p.id = k) (hy : l[k]? = some y) (hit : itemF l p.id = y) (hyk : y.kind = 1) : Calls Tryz.prog 58 #[.agg #[.slice A l.length c], p.agg] w fun e w' => e = .returned (.int .i64 (applyF l p).2) ∧ Below w.heap.size w w' := by
 have hb0 := two_up w A l c p
 have HB0 := Lib.hid hb0; clear hb0
 have HBc := Lib.hid (bself ((w.alloc (.cells #[.slice A l.length c] 24)).alloc (.cells (patCs p) 29)))
 have HR0 := Lib.hid (hr.below HB0.out)
 have HSH := Lib.hid hsh; clear hsh
 have HPS := Lib.hid hps; clear hps
 have HPN := Lib.hid hpn; clear hpn
 have HWB := Lib.hid hv0
 have HFO := Lib.hid hf0
 have hnf : ¬ (walkB l = false ∨ formedF p = false) := by rw [rform_eq, hv0, hf0]; simp
 obtain ⟨b1, o1, hA, hbs1, c0, c1, c2, c3, c4, c5, c6⟩ := hr.item hy
 have hkl : k < l.length := (List.getElem?_eq_some_iff.1 hy).1
 have hi0 : (0 : Int) ≤ k := by omega
 have hi1 : (k : Int) < l.length := by omega
 have hi2 : decide ((k : Int) < 0) = false := by simp
 have q0 : b1 < w.heap.size + 1 := by omega
 have q1 : b1 < w.heap.size + 1 + 1 := by omega
 have HFI := Lib.hid hfi
 subst hA
 have kb1 : (p.kind == 1) = false := by simp [hk]
 have kn1 : (p.kind != 1) = true := by simp [hk]
 have kb2 : (p.kind == 2) = false := by simp [hk]
 have kn2 : (p.kind != 2) = true := by simp [hk]
 have kb3 : (p.kind == 3) = false := by simp [hk]
 have kn3 : (p.kind != 3) = true := by simp [hk]
 have kb4 : (p.kind == 4) = false := by simp [hk]
 have kn4 : (p.kind != 4) = true := by simp [hk]
 have kb5 : (p.kind == 5) = false := by simp [hk]
 have kn5 : (p.kind != 5) = true := by simp [hk]
 have kb6 : (p.kind == 6) = true := by simp [hk]
 have kn6 : (p.kind != 6) = false := by simp [hk]
 have kb7 : (p.kind == 7) = false := by simp [hk]
 have kn7 : (p.kind != 7) = true := by simp [hk]
 have yk : (y.kind == 1) = true := by simp [hyk]
 have hv : (applyF l p).2 = 11 := by unfold applyF; rw [if_neg hnf, if_neg (show ¬ p.kind = 1 by omega), hit]; rw [if_pos (.inr ⟨hyk, by omega, by omega⟩)]
 have HV := Lib.hid hv; clear hv
 clear hv0 hf0 hnf
 clear hk hfi hit hy hr hyk
 rw [HV.out]
 go_enter Tryz.func58, Tryz.ntmps58
 go_wp2_with fail
 refine (rvalid_any l _ c _ (HR0.out.below HBc.out) hl HSH.out).mono ?_
 rintro e w1 ⟨rfl, hbN⟩
 rw [HWB.out]
 have hb3 := after2 HBc hbN
 clear hbN HBc
 obtain ⟨HBc, hc, hf, hblk, zc0, zc1⟩ := hb3
 go_wp2_with fail
 refine (rformed_any p _ HPS.out HPN.out).mono ?_
 rintro e w2 ⟨rfl, hbN⟩
 rw [HFO.out]
 have hb3 := after2 HBc hbN
 clear hbN HBc hc hf hblk zc0 zc1
 obtain ⟨HBc, hc, hf, hblk, zc0, zc1⟩ := hb3
 go_wp2_with fail
 refine (rfind_any l _ c p.id _ (HR0.out.below HBc.out) (le_maxLen (by omega))).mono ?_
 rintro e w3 ⟨rfl, hbN⟩
 rw [HFI.out]
 have hb3 := after2 HBc hbN
 clear hbN HBc hc hf hblk zc0 zc1
 obtain ⟨HBc, hc, hf, hblk, zc0, zc1⟩ := hb3
 go_wp2_with fail
 go_ret
 exact ⟨rfl, HB0.out.trans (HBc.out.mono HB0.out.size)⟩
theorem rfail_7d (l : List Item) (A : Option Addr) (c : Nat) (p : Patch) (w : World) (hr : RdI w A l) (hl : l.length ≤ 1000000) (hsh : ∀ x ∈ l, x.Short) (hps : p.item.Short) (hpn : p.num.length ≤ maxLen) (hfr : p.fr.length ≤ 1000000) (htt : p.to.length ≤ 1000000) (hv0 : walkB l = true) (hf0 : rformB p = true) (hk : p.kind = 7) (k : Nat) (y : Item) (hfi : findI l p.id = k) (hy : l[k]? = some y) (hit : itemF l p.id = y) (hyk : y.kind = 1) : Calls Tryz.prog 58 #[.agg #[.slice A l.length c], p.agg] w fun e w' => e = .returned (.int .i64 (applyF l p).2) ∧ Below w.heap.size w w' := by
 have hb0 := two_up w A l c p
 have HB0 := Lib.hid hb0; clear hb0
 have HBc := Lib.hid (bself ((w.alloc (.cells #[.slice A l.length c] 24)).alloc (.cells (patCs p) 29)))
 have HR0 := Lib.hid (hr.below HB0.out)
 have HSH := Lib.hid hsh; clear hsh
 have HPS := Lib.hid hps; clear hps
 have HPN := Lib.hid hpn; clear hpn
 have HWB := Lib.hid hv0
 have HFO := Lib.hid hf0
 have hnf : ¬ (walkB l = false ∨ formedF p = false) := by rw [rform_eq, hv0, hf0]; simp
 obtain ⟨b1, o1, hA, hbs1, c0, c1, c2, c3, c4, c5, c6⟩ := hr.item hy
 have hkl : k < l.length := (List.getElem?_eq_some_iff.1 hy).1
 have hi0 : (0 : Int) ≤ k := by omega
 have hi1 : (k : Int) < l.length := by omega
 have hi2 : decide ((k : Int) < 0) = false := by simp
 have q0 : b1 < w.heap.size + 1 := by omega
 have q1 : b1 < w.heap.size + 1 + 1 := by omega
 have HFI := Lib.hid hfi
 subst hA
 have kb1 : (p.kind == 1) = false := by simp [hk]
 have kn1 : (p.kind != 1) = true := by simp [hk]
 have kb2 : (p.kind == 2) = false := by simp [hk]
 have kn2 : (p.kind != 2) = true := by simp [hk]
 have kb3 : (p.kind == 3) = false := by simp [hk]
 have kn3 : (p.kind != 3) = true := by simp [hk]
 have kb4 : (p.kind == 4) = false := by simp [hk]
 have kn4 : (p.kind != 4) = true := by simp [hk]
 have kb5 : (p.kind == 5) = false := by simp [hk]
 have kn5 : (p.kind != 5) = true := by simp [hk]
 have kb6 : (p.kind == 6) = false := by simp [hk]
 have kn6 : (p.kind != 6) = true := by simp [hk]
 have kb7 : (p.kind == 7) = true := by simp [hk]
 have kn7 : (p.kind != 7) = false := by simp [hk]
 have yk : (y.kind == 1) = true := by simp [hyk]
 have hv : (applyF l p).2 = 11 := by unfold applyF; rw [if_neg hnf, if_neg (show ¬ p.kind = 1 by omega), hit]; rw [if_pos (.inr ⟨hyk, by omega, by omega⟩)]
 have HV := Lib.hid hv; clear hv
 clear hv0 hf0 hnf
 clear hk hfi hit hy hr hyk
 rw [HV.out]
 go_enter Tryz.func58, Tryz.ntmps58
 go_wp2_with fail
 refine (rvalid_any l _ c _ (HR0.out.below HBc.out) hl HSH.out).mono ?_
 rintro e w1 ⟨rfl, hbN⟩
 rw [HWB.out]
 have hb3 := after2 HBc hbN
 clear hbN HBc
 obtain ⟨HBc, hc, hf, hblk, zc0, zc1⟩ := hb3
 go_wp2_with fail
 refine (rformed_any p _ HPS.out HPN.out).mono ?_
 rintro e w2 ⟨rfl, hbN⟩
 rw [HFO.out]
 have hb3 := after2 HBc hbN
 clear hbN HBc hc hf hblk zc0 zc1
 obtain ⟨HBc, hc, hf, hblk, zc0, zc1⟩ := hb3
 go_wp2_with fail
 refine (rfind_any l _ c p.id _ (HR0.out.below HBc.out) (le_maxLen (by omega))).mono ?_
 rintro e w3 ⟨rfl, hbN⟩
 rw [HFI.out]
 have hb3 := after2 HBc hbN
 clear hbN HBc hc hf hblk zc0 zc1
 obtain ⟨HBc, hc, hf, hblk, zc0, zc1⟩ := hb3
 go_wp2_with fail
 go_ret
 exact ⟨rfl, HB0.out.trans (HBc.out.mono HB0.out.size)⟩
theorem rfail_2g (l : List Item) (A : Option Addr) (c : Nat) (p : Patch) (w : World) (hr : RdI w A l) (hl : l.length ≤ 1000000) (hsh : ∀ x ∈ l, x.Short) (hps : p.item.Short) (hpn : p.num.length ≤ maxLen) (hfr : p.fr.length ≤ 1000000) (htt : p.to.length ≤ 1000000) (hv0 : walkB l = true) (hf0 : rformB p = true) (hk : p.kind = 2) (k : Nat) (y : Item) (hfi : findI l p.id = k) (hy : l[k]? = some y) (hit : itemF l p.id = y) (hyk : y.kind = 2) (hgo : y.gone = true) : Calls Tryz.prog 58 #[.agg #[.slice A l.length c], p.agg] w fun e w' => e = .returned (.int .i64 (applyF l p).2) ∧ Below w.heap.size w w' := by
 have hb0 := two_up w A l c p
 have HB0 := Lib.hid hb0; clear hb0
 have HBc := Lib.hid (bself ((w.alloc (.cells #[.slice A l.length c] 24)).alloc (.cells (patCs p) 29)))
 have HR0 := Lib.hid (hr.below HB0.out)
 have HSH := Lib.hid hsh; clear hsh
 have HPS := Lib.hid hps; clear hps
 have HPN := Lib.hid hpn; clear hpn
 have HWB := Lib.hid hv0
 have HFO := Lib.hid hf0
 have hnf : ¬ (walkB l = false ∨ formedF p = false) := by rw [rform_eq, hv0, hf0]; simp
 obtain ⟨b1, o1, hA, hbs1, c0, c1, c2, c3, c4, c5, c6⟩ := hr.item hy
 have hkl : k < l.length := (List.getElem?_eq_some_iff.1 hy).1
 have hi0 : (0 : Int) ≤ k := by omega
 have hi1 : (k : Int) < l.length := by omega
 have hi2 : decide ((k : Int) < 0) = false := by simp
 have q0 : b1 < w.heap.size + 1 := by omega
 have q1 : b1 < w.heap.size + 1 + 1 := by omega
 have HFI := Lib.hid hfi
 subst hA
 have kb1 : (p.kind == 1) = false := by simp [hk]
 have kn1 : (p.kind != 1) = true := by simp [hk]
 have kb2 : (p.kind == 2) = true := by simp [hk]
 have kn2 : (p.kind != 2) = false := by simp [hk]
 have kb3 : (p.kind == 3) = false := by simp [hk]
 have kn3 : (p.kind != 3) = true := by simp [hk]
 have kb4 : (p.kind == 4) = false := by simp [hk]
 have kn4 : (p.kind != 4) = true := by simp [hk]
 have kb5 : (p.kind == 5) = false := by simp [hk]
 have kn5 : (p.kind != 5) = true := by simp [hk]
 have kb6 : (p.kind == 6) = false := by simp [hk]
 have kn6 : (p.kind != 6) = true := by simp [hk]
 have kb7 : (p.kind == 7) = false := by simp [hk]
 have kn7 : (p.kind != 7) = true := by simp [hk]
 have yk : (y.kind == 1) = false := by simp [hyk]
 have hv : (applyF l p).2 = 16 := by unfold applyF; rw [if_neg hnf, if_neg (show ¬ p.kind = 1 by omega), hit]; rw [if_neg (show ¬ (y.kind = 0 ∨ (y.kind = 1 ∧ p.kind ≠ 3 ∧ p.kind ≠ 4)) by omega), if_neg (by omega), if_pos ⟨by omega, hgo⟩]
 have HV := Lib.hid hv; clear hv
 clear hv0 hf0 hnf
 clear hk hfi hit hy hr hyk
 rw [HV.out]
 go_enter Tryz.func58, Tryz.ntmps58
 go_wp2_with fail
 refine (rvalid_any l _ c _ (HR0.out.below HBc.out) hl HSH.out).mono ?_
 rintro e w1 ⟨rfl, hbN⟩
 rw [HWB.out]
 have hb3 := after2 HBc hbN
 clear hbN HBc
 obtain ⟨HBc, hc, hf, hblk, zc0, zc1⟩ := hb3
 go_wp2_with fail
 refine (rformed_any p _ HPS.out HPN.out).mono ?_
 rintro e w2 ⟨rfl, hbN⟩
 rw [HFO.out]
 have hb3 := after2 HBc hbN
 clear hbN HBc hc hf hblk zc0 zc1
 obtain ⟨HBc, hc, hf, hblk, zc0, zc1⟩ := hb3
 go_wp2_with fail
 refine (rfind_any l _ c p.id _ (HR0.out.below HBc.out) (le_maxLen (by omega))).mono ?_
 rintro e w3 ⟨rfl, hbN⟩
 rw [HFI.out]
 have hb3 := after2 HBc hbN
 clear hbN HBc hc hf hblk zc0 zc1
 obtain ⟨HBc, hc, hf, hblk, zc0, zc1⟩ := hb3
 go_wp2_with fail
 go_ret
 exact ⟨rfl, HB0.out.trans ((HBc.out.alloc HBc.out.size _).mono HB0.out.size)⟩
theorem rfail_3gt (l : List Item) (A : Option Addr) (c : Nat) (p : Patch) (w : World) (hr : RdI w A l) (hl : l.length ≤ 1000000) (hsh : ∀ x ∈ l, x.Short) (hps : p.item.Short) (hpn : p.num.length ≤ maxLen) (hfr : p.fr.length ≤ 1000000) (htt : p.to.length ≤ 1000000) (hv0 : walkB l = true) (hf0 : rformB p = true) (hk : p.kind = 3) (k : Nat) (y : Item) (hfi : findI l p.id = k) (hy : l[k]? = some y) (hit : itemF l p.id = y) (hyk : y.kind = 1 ∨ y.kind = 2) (yk : (y.kind == 1) = true) (hgo : y.gone = true) : Calls Tryz.prog 58 #[.agg #[.slice A l.length c], p.agg] w fun e w' => e = .returned (.int .i64 (applyF l p).2) ∧ Below w.heap.size w w' := by
 have hb0 := two_up w A l c p
 have HB0 := Lib.hid hb0; clear hb0
 have HBc := Lib.hid (bself ((w.alloc (.cells #[.slice A l.length c] 24)).alloc (.cells (patCs p) 29)))
 have HR0 := Lib.hid (hr.below HB0.out)
 have HSH := Lib.hid hsh; clear hsh
 have HPS := Lib.hid hps; clear hps
 have HPN := Lib.hid hpn; clear hpn
 have HWB := Lib.hid hv0
 have HFO := Lib.hid hf0
 have hnf : ¬ (walkB l = false ∨ formedF p = false) := by rw [rform_eq, hv0, hf0]; simp
 obtain ⟨b1, o1, hA, hbs1, c0, c1, c2, c3, c4, c5, c6⟩ := hr.item hy
 have hkl : k < l.length := (List.getElem?_eq_some_iff.1 hy).1
 have hi0 : (0 : Int) ≤ k := by omega
 have hi1 : (k : Int) < l.length := by omega
 have hi2 : decide ((k : Int) < 0) = false := by simp
 have q0 : b1 < w.heap.size + 1 := by omega
 have q1 : b1 < w.heap.size + 1 + 1 := by omega
 have HFI := Lib.hid hfi
 subst hA
 have kb1 : (p.kind == 1) = false := by simp [hk]
 have kn1 : (p.kind != 1) = true := by simp [hk]
 have kb2 : (p.kind == 2) = false := by simp [hk]
 have kn2 : (p.kind != 2) = true := by simp [hk]
 have kb3 : (p.kind == 3) = true := by simp [hk]
 have kn3 : (p.kind != 3) = false := by simp [hk]
 have kb4 : (p.kind == 4) = false := by simp [hk]
 have kn4 : (p.kind != 4) = true := by simp [hk]
 have kb5 : (p.kind == 5) = false := by simp [hk]
 have kn5 : (p.kind != 5) = true := by simp [hk]
 have kb6 : (p.kind == 6) = false := by simp [hk]
 have kn6 : (p.kind != 6) = true := by simp [hk]
 have kb7 : (p.kind == 7) = false := by simp [hk]
 have kn7 : (p.kind != 7) = true := by simp [hk]
 have hv : (applyF l p).2 = 16 := by unfold applyF; rw [if_neg hnf, if_neg (show ¬ p.kind = 1 by omega), hit]; rw [if_neg (show ¬ (y.kind = 0 ∨ (y.kind = 1 ∧ p.kind ≠ 3 ∧ p.kind ≠ 4)) by omega), if_neg (by omega), if_pos ⟨by omega, hgo⟩]
 have HV := Lib.hid hv; clear hv
 clear hv0 hf0 hnf
 clear hk hfi hit hy hr hyk
 rw [HV.out]
 go_enter Tryz.func58, Tryz.ntmps58
 go_wp2_with fail
 refine (rvalid_any l _ c _ (HR0.out.below HBc.out) hl HSH.out).mono ?_
 rintro e w1 ⟨rfl, hbN⟩
 rw [HWB.out]
 have hb3 := after2 HBc hbN
 clear hbN HBc
 obtain ⟨HBc, hc, hf, hblk, zc0, zc1⟩ := hb3
 go_wp2_with fail
 refine (rformed_any p _ HPS.out HPN.out).mono ?_
 rintro e w2 ⟨rfl, hbN⟩
 rw [HFO.out]
 have hb3 := after2 HBc hbN
 clear hbN HBc hc hf hblk zc0 zc1
 obtain ⟨HBc, hc, hf, hblk, zc0, zc1⟩ := hb3
 go_wp2_with fail
 refine (rfind_any l _ c p.id _ (HR0.out.below HBc.out) (le_maxLen (by omega))).mono ?_
 rintro e w3 ⟨rfl, hbN⟩
 rw [HFI.out]
 have hb3 := after2 HBc hbN
 clear hbN HBc hc hf hblk zc0 zc1
 obtain ⟨HBc, hc, hf, hblk, zc0, zc1⟩ := hb3
 go_wp2_with fail
 go_ret
 exact ⟨rfl, HB0.out.trans ((HBc.out.alloc HBc.out.size _).mono HB0.out.size)⟩
theorem rfail_3gf (l : List Item) (A : Option Addr) (c : Nat) (p : Patch) (w : World) (hr : RdI w A l) (hl : l.length ≤ 1000000) (hsh : ∀ x ∈ l, x.Short) (hps : p.item.Short) (hpn : p.num.length ≤ maxLen) (hfr : p.fr.length ≤ 1000000) (htt : p.to.length ≤ 1000000) (hv0 : walkB l = true) (hf0 : rformB p = true) (hk : p.kind = 3) (k : Nat) (y : Item) (hfi : findI l p.id = k) (hy : l[k]? = some y) (hit : itemF l p.id = y) (hyk : y.kind = 1 ∨ y.kind = 2) (yk : (y.kind == 1) = false) (hgo : y.gone = true) : Calls Tryz.prog 58 #[.agg #[.slice A l.length c], p.agg] w fun e w' => e = .returned (.int .i64 (applyF l p).2) ∧ Below w.heap.size w w' := by
 have hb0 := two_up w A l c p
 have HB0 := Lib.hid hb0; clear hb0
 have HBc := Lib.hid (bself ((w.alloc (.cells #[.slice A l.length c] 24)).alloc (.cells (patCs p) 29)))
 have HR0 := Lib.hid (hr.below HB0.out)
 have HSH := Lib.hid hsh; clear hsh
 have HPS := Lib.hid hps; clear hps
 have HPN := Lib.hid hpn; clear hpn
 have HWB := Lib.hid hv0
 have HFO := Lib.hid hf0
 have hnf : ¬ (walkB l = false ∨ formedF p = false) := by rw [rform_eq, hv0, hf0]; simp
 obtain ⟨b1, o1, hA, hbs1, c0, c1, c2, c3, c4, c5, c6⟩ := hr.item hy
 have hkl : k < l.length := (List.getElem?_eq_some_iff.1 hy).1
 have hi0 : (0 : Int) ≤ k := by omega
 have hi1 : (k : Int) < l.length := by omega
 have hi2 : decide ((k : Int) < 0) = false := by simp
 have q0 : b1 < w.heap.size + 1 := by omega
 have q1 : b1 < w.heap.size + 1 + 1 := by omega
 have HFI := Lib.hid hfi
 subst hA
 have kb1 : (p.kind == 1) = false := by simp [hk]
 have kn1 : (p.kind != 1) = true := by simp [hk]
 have kb2 : (p.kind == 2) = false := by simp [hk]
 have kn2 : (p.kind != 2) = true := by simp [hk]
 have kb3 : (p.kind == 3) = true := by simp [hk]
 have kn3 : (p.kind != 3) = false := by simp [hk]
 have kb4 : (p.kind == 4) = false := by simp [hk]
 have kn4 : (p.kind != 4) = true := by simp [hk]
 have kb5 : (p.kind == 5) = false := by simp [hk]
 have kn5 : (p.kind != 5) = true := by simp [hk]
 have kb6 : (p.kind == 6) = false := by simp [hk]
 have kn6 : (p.kind != 6) = true := by simp [hk]
 have kb7 : (p.kind == 7) = false := by simp [hk]
 have kn7 : (p.kind != 7) = true := by simp [hk]
 have hv : (applyF l p).2 = 16 := by unfold applyF; rw [if_neg hnf, if_neg (show ¬ p.kind = 1 by omega), hit]; rw [if_neg (show ¬ (y.kind = 0 ∨ (y.kind = 1 ∧ p.kind ≠ 3 ∧ p.kind ≠ 4)) by omega), if_neg (by omega), if_pos ⟨by omega, hgo⟩]
 have HV := Lib.hid hv; clear hv
 clear hv0 hf0 hnf
 clear hk hfi hit hy hr hyk
 rw [HV.out]
 go_enter Tryz.func58, Tryz.ntmps58
 go_wp2_with fail
 refine (rvalid_any l _ c _ (HR0.out.below HBc.out) hl HSH.out).mono ?_
 rintro e w1 ⟨rfl, hbN⟩
 rw [HWB.out]
 have hb3 := after2 HBc hbN
 clear hbN HBc
 obtain ⟨HBc, hc, hf, hblk, zc0, zc1⟩ := hb3
 go_wp2_with fail
 refine (rformed_any p _ HPS.out HPN.out).mono ?_
 rintro e w2 ⟨rfl, hbN⟩
 rw [HFO.out]
 have hb3 := after2 HBc hbN
 clear hbN HBc hc hf hblk zc0 zc1
 obtain ⟨HBc, hc, hf, hblk, zc0, zc1⟩ := hb3
 go_wp2_with fail
 refine (rfind_any l _ c p.id _ (HR0.out.below HBc.out) (le_maxLen (by omega))).mono ?_
 rintro e w3 ⟨rfl, hbN⟩
 rw [HFI.out]
 have hb3 := after2 HBc hbN
 clear hbN HBc hc hf hblk zc0 zc1
 obtain ⟨HBc, hc, hf, hblk, zc0, zc1⟩ := hb3
 go_wp2_with fail
 go_ret
 exact ⟨rfl, HB0.out.trans ((HBc.out.alloc HBc.out.size _).mono HB0.out.size)⟩
theorem rfail_4gt (l : List Item) (A : Option Addr) (c : Nat) (p : Patch) (w : World) (hr : RdI w A l) (hl : l.length ≤ 1000000) (hsh : ∀ x ∈ l, x.Short) (hps : p.item.Short) (hpn : p.num.length ≤ maxLen) (hfr : p.fr.length ≤ 1000000) (htt : p.to.length ≤ 1000000) (hv0 : walkB l = true) (hf0 : rformB p = true) (hk : p.kind = 4) (k : Nat) (y : Item) (hfi : findI l p.id = k) (hy : l[k]? = some y) (hit : itemF l p.id = y) (hyk : y.kind = 1 ∨ y.kind = 2) (yk : (y.kind == 1) = true) (hgo : y.gone = true) : Calls Tryz.prog 58 #[.agg #[.slice A l.length c], p.agg] w fun e w' => e = .returned (.int .i64 (applyF l p).2) ∧ Below w.heap.size w w' := by
 have hb0 := two_up w A l c p
 have HB0 := Lib.hid hb0; clear hb0
 have HBc := Lib.hid (bself ((w.alloc (.cells #[.slice A l.length c] 24)).alloc (.cells (patCs p) 29)))
 have HR0 := Lib.hid (hr.below HB0.out)
 have HSH := Lib.hid hsh; clear hsh
 have HPS := Lib.hid hps; clear hps
 have HPN := Lib.hid hpn; clear hpn
 have HWB := Lib.hid hv0
 have HFO := Lib.hid hf0
 have hnf : ¬ (walkB l = false ∨ formedF p = false) := by rw [rform_eq, hv0, hf0]; simp
 obtain ⟨b1, o1, hA, hbs1, c0, c1, c2, c3, c4, c5, c6⟩ := hr.item hy
 have hkl : k < l.length := (List.getElem?_eq_some_iff.1 hy).1
 have hi0 : (0 : Int) ≤ k := by omega
 have hi1 : (k : Int) < l.length := by omega
 have hi2 : decide ((k : Int) < 0) = false := by simp
 have q0 : b1 < w.heap.size + 1 := by omega
 have q1 : b1 < w.heap.size + 1 + 1 := by omega
 have HFI := Lib.hid hfi
 subst hA
 have kb1 : (p.kind == 1) = false := by simp [hk]
 have kn1 : (p.kind != 1) = true := by simp [hk]
 have kb2 : (p.kind == 2) = false := by simp [hk]
 have kn2 : (p.kind != 2) = true := by simp [hk]
 have kb3 : (p.kind == 3) = false := by simp [hk]
 have kn3 : (p.kind != 3) = true := by simp [hk]
 have kb4 : (p.kind == 4) = true := by simp [hk]
 have kn4 : (p.kind != 4) = false := by simp [hk]
 have kb5 : (p.kind == 5) = false := by simp [hk]
 have kn5 : (p.kind != 5) = true := by simp [hk]
 have kb6 : (p.kind == 6) = false := by simp [hk]
 have kn6 : (p.kind != 6) = true := by simp [hk]
 have kb7 : (p.kind == 7) = false := by simp [hk]
 have kn7 : (p.kind != 7) = true := by simp [hk]
 have hv : (applyF l p).2 = 16 := by unfold applyF; rw [if_neg hnf, if_neg (show ¬ p.kind = 1 by omega), hit]; rw [if_neg (show ¬ (y.kind = 0 ∨ (y.kind = 1 ∧ p.kind ≠ 3 ∧ p.kind ≠ 4)) by omega), if_neg (by omega), if_pos ⟨by omega, hgo⟩]
 have HV := Lib.hid hv; clear hv
 clear hv0 hf0 hnf
 clear hk hfi hit hy hr hyk
 rw [HV.out]
 go_enter Tryz.func58, Tryz.ntmps58
 go_wp2_with fail
 refine (rvalid_any l _ c _ (HR0.out.below HBc.out) hl HSH.out).mono ?_
 rintro e w1 ⟨rfl, hbN⟩
 rw [HWB.out]
 have hb3 := after2 HBc hbN
 clear hbN HBc
 obtain ⟨HBc, hc, hf, hblk, zc0, zc1⟩ := hb3
 go_wp2_with fail
 refine (rformed_any p _ HPS.out HPN.out).mono ?_
 rintro e w2 ⟨rfl, hbN⟩
 rw [HFO.out]
 have hb3 := after2 HBc hbN
 clear hbN HBc hc hf hblk zc0 zc1
 obtain ⟨HBc, hc, hf, hblk, zc0, zc1⟩ := hb3
 go_wp2_with fail
 refine (rfind_any l _ c p.id _ (HR0.out.below HBc.out) (le_maxLen (by omega))).mono ?_
 rintro e w3 ⟨rfl, hbN⟩
 rw [HFI.out]
 have hb3 := after2 HBc hbN
 clear hbN HBc hc hf hblk zc0 zc1
 obtain ⟨HBc, hc, hf, hblk, zc0, zc1⟩ := hb3
 go_wp2_with fail
 go_ret
 exact ⟨rfl, HB0.out.trans ((HBc.out.alloc HBc.out.size _).mono HB0.out.size)⟩
theorem rfail_4gf (l : List Item) (A : Option Addr) (c : Nat) (p : Patch) (w : World) (hr : RdI w A l) (hl : l.length ≤ 1000000) (hsh : ∀ x ∈ l, x.Short) (hps : p.item.Short) (hpn : p.num.length ≤ maxLen) (hfr : p.fr.length ≤ 1000000) (htt : p.to.length ≤ 1000000) (hv0 : walkB l = true) (hf0 : rformB p = true) (hk : p.kind = 4) (k : Nat) (y : Item) (hfi : findI l p.id = k) (hy : l[k]? = some y) (hit : itemF l p.id = y) (hyk : y.kind = 1 ∨ y.kind = 2) (yk : (y.kind == 1) = false) (hgo : y.gone = true) : Calls Tryz.prog 58 #[.agg #[.slice A l.length c], p.agg] w fun e w' => e = .returned (.int .i64 (applyF l p).2) ∧ Below w.heap.size w w' := by
 have hb0 := two_up w A l c p
 have HB0 := Lib.hid hb0; clear hb0
 have HBc := Lib.hid (bself ((w.alloc (.cells #[.slice A l.length c] 24)).alloc (.cells (patCs p) 29)))
 have HR0 := Lib.hid (hr.below HB0.out)
 have HSH := Lib.hid hsh; clear hsh
 have HPS := Lib.hid hps; clear hps
 have HPN := Lib.hid hpn; clear hpn
 have HWB := Lib.hid hv0
 have HFO := Lib.hid hf0
 have hnf : ¬ (walkB l = false ∨ formedF p = false) := by rw [rform_eq, hv0, hf0]; simp
 obtain ⟨b1, o1, hA, hbs1, c0, c1, c2, c3, c4, c5, c6⟩ := hr.item hy
 have hkl : k < l.length := (List.getElem?_eq_some_iff.1 hy).1
 have hi0 : (0 : Int) ≤ k := by omega
 have hi1 : (k : Int) < l.length := by omega
 have hi2 : decide ((k : Int) < 0) = false := by simp
 have q0 : b1 < w.heap.size + 1 := by omega
 have q1 : b1 < w.heap.size + 1 + 1 := by omega
 have HFI := Lib.hid hfi
 subst hA
 have kb1 : (p.kind == 1) = false := by simp [hk]
 have kn1 : (p.kind != 1) = true := by simp [hk]
 have kb2 : (p.kind == 2) = false := by simp [hk]
 have kn2 : (p.kind != 2) = true := by simp [hk]
 have kb3 : (p.kind == 3) = false := by simp [hk]
 have kn3 : (p.kind != 3) = true := by simp [hk]
 have kb4 : (p.kind == 4) = true := by simp [hk]
 have kn4 : (p.kind != 4) = false := by simp [hk]
 have kb5 : (p.kind == 5) = false := by simp [hk]
 have kn5 : (p.kind != 5) = true := by simp [hk]
 have kb6 : (p.kind == 6) = false := by simp [hk]
 have kn6 : (p.kind != 6) = true := by simp [hk]
 have kb7 : (p.kind == 7) = false := by simp [hk]
 have kn7 : (p.kind != 7) = true := by simp [hk]
 have hv : (applyF l p).2 = 16 := by unfold applyF; rw [if_neg hnf, if_neg (show ¬ p.kind = 1 by omega), hit]; rw [if_neg (show ¬ (y.kind = 0 ∨ (y.kind = 1 ∧ p.kind ≠ 3 ∧ p.kind ≠ 4)) by omega), if_neg (by omega), if_pos ⟨by omega, hgo⟩]
 have HV := Lib.hid hv; clear hv
 clear hv0 hf0 hnf
 clear hk hfi hit hy hr hyk
 rw [HV.out]
 go_enter Tryz.func58, Tryz.ntmps58
 go_wp2_with fail
 refine (rvalid_any l _ c _ (HR0.out.below HBc.out) hl HSH.out).mono ?_
 rintro e w1 ⟨rfl, hbN⟩
 rw [HWB.out]
 have hb3 := after2 HBc hbN
 clear hbN HBc
 obtain ⟨HBc, hc, hf, hblk, zc0, zc1⟩ := hb3
 go_wp2_with fail
 refine (rformed_any p _ HPS.out HPN.out).mono ?_
 rintro e w2 ⟨rfl, hbN⟩
 rw [HFO.out]
 have hb3 := after2 HBc hbN
 clear hbN HBc hc hf hblk zc0 zc1
 obtain ⟨HBc, hc, hf, hblk, zc0, zc1⟩ := hb3
 go_wp2_with fail
 refine (rfind_any l _ c p.id _ (HR0.out.below HBc.out) (le_maxLen (by omega))).mono ?_
 rintro e w3 ⟨rfl, hbN⟩
 rw [HFI.out]
 have hb3 := after2 HBc hbN
 clear hbN HBc hc hf hblk zc0 zc1
 obtain ⟨HBc, hc, hf, hblk, zc0, zc1⟩ := hb3
 go_wp2_with fail
 go_ret
 exact ⟨rfl, HB0.out.trans ((HBc.out.alloc HBc.out.size _).mono HB0.out.size)⟩
theorem rfail_5g (l : List Item) (A : Option Addr) (c : Nat) (p : Patch) (w : World) (hr : RdI w A l) (hl : l.length ≤ 1000000) (hsh : ∀ x ∈ l, x.Short) (hps : p.item.Short) (hpn : p.num.length ≤ maxLen) (hfr : p.fr.length ≤ 1000000) (htt : p.to.length ≤ 1000000) (hv0 : walkB l = true) (hf0 : rformB p = true) (hk : p.kind = 5) (k : Nat) (y : Item) (hfi : findI l p.id = k) (hy : l[k]? = some y) (hit : itemF l p.id = y) (hyk : y.kind = 2) (hgo : y.gone = true) : Calls Tryz.prog 58 #[.agg #[.slice A l.length c], p.agg] w fun e w' => e = .returned (.int .i64 (applyF l p).2) ∧ Below w.heap.size w w' := by
 have hb0 := two_up w A l c p
 have HB0 := Lib.hid hb0; clear hb0
 have HBc := Lib.hid (bself ((w.alloc (.cells #[.slice A l.length c] 24)).alloc (.cells (patCs p) 29)))
 have HR0 := Lib.hid (hr.below HB0.out)
 have HSH := Lib.hid hsh; clear hsh
 have HPS := Lib.hid hps; clear hps
 have HPN := Lib.hid hpn; clear hpn
 have HWB := Lib.hid hv0
 have HFO := Lib.hid hf0
 have hnf : ¬ (walkB l = false ∨ formedF p = false) := by rw [rform_eq, hv0, hf0]; simp
 obtain ⟨b1, o1, hA, hbs1, c0, c1, c2, c3, c4, c5, c6⟩ := hr.item hy
 have hkl : k < l.length := (List.getElem?_eq_some_iff.1 hy).1
 have hi0 : (0 : Int) ≤ k := by omega
 have hi1 : (k : Int) < l.length := by omega
 have hi2 : decide ((k : Int) < 0) = false := by simp
 have q0 : b1 < w.heap.size + 1 := by omega
 have q1 : b1 < w.heap.size + 1 + 1 := by omega
 have HFI := Lib.hid hfi
 subst hA
 have kb1 : (p.kind == 1) = false := by simp [hk]
 have kn1 : (p.kind != 1) = true := by simp [hk]
 have kb2 : (p.kind == 2) = false := by simp [hk]
 have kn2 : (p.kind != 2) = true := by simp [hk]
 have kb3 : (p.kind == 3) = false := by simp [hk]
 have kn3 : (p.kind != 3) = true := by simp [hk]
 have kb4 : (p.kind == 4) = false := by simp [hk]
 have kn4 : (p.kind != 4) = true := by simp [hk]
 have kb5 : (p.kind == 5) = true := by simp [hk]
 have kn5 : (p.kind != 5) = false := by simp [hk]
 have kb6 : (p.kind == 6) = false := by simp [hk]
 have kn6 : (p.kind != 6) = true := by simp [hk]
 have kb7 : (p.kind == 7) = false := by simp [hk]
 have kn7 : (p.kind != 7) = true := by simp [hk]
 have yk : (y.kind == 1) = false := by simp [hyk]
 have hv : (applyF l p).2 = 16 := by unfold applyF; rw [if_neg hnf, if_neg (show ¬ p.kind = 1 by omega), hit]; rw [if_neg (show ¬ (y.kind = 0 ∨ (y.kind = 1 ∧ p.kind ≠ 3 ∧ p.kind ≠ 4)) by omega), if_neg (by omega), if_pos ⟨by omega, hgo⟩]
 have HV := Lib.hid hv; clear hv
 clear hv0 hf0 hnf
 clear hk hfi hit hy hr hyk
 rw [HV.out]
 go_enter Tryz.func58, Tryz.ntmps58
 go_wp2_with fail
 refine (rvalid_any l _ c _ (HR0.out.below HBc.out) hl HSH.out).mono ?_
 rintro e w1 ⟨rfl, hbN⟩
 rw [HWB.out]
 have hb3 := after2 HBc hbN
 clear hbN HBc
 obtain ⟨HBc, hc, hf, hblk, zc0, zc1⟩ := hb3
 go_wp2_with fail
 refine (rformed_any p _ HPS.out HPN.out).mono ?_
 rintro e w2 ⟨rfl, hbN⟩
 rw [HFO.out]
 have hb3 := after2 HBc hbN
 clear hbN HBc hc hf hblk zc0 zc1
 obtain ⟨HBc, hc, hf, hblk, zc0, zc1⟩ := hb3
 go_wp2_with fail
 refine (rfind_any l _ c p.id _ (HR0.out.below HBc.out) (le_maxLen (by omega))).mono ?_
 rintro e w3 ⟨rfl, hbN⟩
 rw [HFI.out]
 have hb3 := after2 HBc hbN
 clear hbN HBc hc hf hblk zc0 zc1
 obtain ⟨HBc, hc, hf, hblk, zc0, zc1⟩ := hb3
 go_wp2_with fail
 go_ret
 exact ⟨rfl, HB0.out.trans ((HBc.out.alloc HBc.out.size _).mono HB0.out.size)⟩
theorem rfail_7g (l : List Item) (A : Option Addr) (c : Nat) (p : Patch) (w : World) (hr : RdI w A l) (hl : l.length ≤ 1000000) (hsh : ∀ x ∈ l, x.Short) (hps : p.item.Short) (hpn : p.num.length ≤ maxLen) (hfr : p.fr.length ≤ 1000000) (htt : p.to.length ≤ 1000000) (hv0 : walkB l = true) (hf0 : rformB p = true) (hk : p.kind = 7) (k : Nat) (y : Item) (hfi : findI l p.id = k) (hy : l[k]? = some y) (hit : itemF l p.id = y) (hyk : y.kind = 2) (hgo : y.gone = true) : Calls Tryz.prog 58 #[.agg #[.slice A l.length c], p.agg] w fun e w' => e = .returned (.int .i64 (applyF l p).2) ∧ Below w.heap.size w w' := by
 have hb0 := two_up w A l c p
 have HB0 := Lib.hid hb0; clear hb0
 have HBc := Lib.hid (bself ((w.alloc (.cells #[.slice A l.length c] 24)).alloc (.cells (patCs p) 29)))
 have HR0 := Lib.hid (hr.below HB0.out)
 have HSH := Lib.hid hsh; clear hsh
 have HPS := Lib.hid hps; clear hps
 have HPN := Lib.hid hpn; clear hpn
 have HWB := Lib.hid hv0
 have HFO := Lib.hid hf0
 have hnf : ¬ (walkB l = false ∨ formedF p = false) := by rw [rform_eq, hv0, hf0]; simp
 obtain ⟨b1, o1, hA, hbs1, c0, c1, c2, c3, c4, c5, c6⟩ := hr.item hy
 have hkl : k < l.length := (List.getElem?_eq_some_iff.1 hy).1
 have hi0 : (0 : Int) ≤ k := by omega
 have hi1 : (k : Int) < l.length := by omega
 have hi2 : decide ((k : Int) < 0) = false := by simp
 have q0 : b1 < w.heap.size + 1 := by omega
 have q1 : b1 < w.heap.size + 1 + 1 := by omega
 have HFI := Lib.hid hfi
 subst hA
 have kb1 : (p.kind == 1) = false := by simp [hk]
 have kn1 : (p.kind != 1) = true := by simp [hk]
 have kb2 : (p.kind == 2) = false := by simp [hk]
 have kn2 : (p.kind != 2) = true := by simp [hk]
 have kb3 : (p.kind == 3) = false := by simp [hk]
 have kn3 : (p.kind != 3) = true := by simp [hk]
 have kb4 : (p.kind == 4) = false := by simp [hk]
 have kn4 : (p.kind != 4) = true := by simp [hk]
 have kb5 : (p.kind == 5) = false := by simp [hk]
 have kn5 : (p.kind != 5) = true := by simp [hk]
 have kb6 : (p.kind == 6) = false := by simp [hk]
 have kn6 : (p.kind != 6) = true := by simp [hk]
 have kb7 : (p.kind == 7) = true := by simp [hk]
 have kn7 : (p.kind != 7) = false := by simp [hk]
 have yk : (y.kind == 1) = false := by simp [hyk]
 have hv : (applyF l p).2 = 16 := by unfold applyF; rw [if_neg hnf, if_neg (show ¬ p.kind = 1 by omega), hit]; rw [if_neg (show ¬ (y.kind = 0 ∨ (y.kind = 1 ∧ p.kind ≠ 3 ∧ p.kind ≠ 4)) by omega), if_neg (by omega), if_pos ⟨by omega, hgo⟩]
 have HV := Lib.hid hv; clear hv
 clear hv0 hf0 hnf
 clear hk hfi hit hy hr hyk
 rw [HV.out]
 go_enter Tryz.func58, Tryz.ntmps58
 go_wp2_with fail
 refine (rvalid_any l _ c _ (HR0.out.below HBc.out) hl HSH.out).mono ?_
 rintro e w1 ⟨rfl, hbN⟩
 rw [HWB.out]
 have hb3 := after2 HBc hbN
 clear hbN HBc
 obtain ⟨HBc, hc, hf, hblk, zc0, zc1⟩ := hb3
 go_wp2_with fail
 refine (rformed_any p _ HPS.out HPN.out).mono ?_
 rintro e w2 ⟨rfl, hbN⟩
 rw [HFO.out]
 have hb3 := after2 HBc hbN
 clear hbN HBc hc hf hblk zc0 zc1
 obtain ⟨HBc, hc, hf, hblk, zc0, zc1⟩ := hb3
 go_wp2_with fail
 refine (rfind_any l _ c p.id _ (HR0.out.below HBc.out) (le_maxLen (by omega))).mono ?_
 rintro e w3 ⟨rfl, hbN⟩
 rw [HFI.out]
 have hb3 := after2 HBc hbN
 clear hbN HBc hc hf hblk zc0 zc1
 obtain ⟨HBc, hc, hf, hblk, zc0, zc1⟩ := hb3
 go_wp2_with fail
 go_ret
 exact ⟨rfl, HB0.out.trans ((HBc.out.alloc HBc.out.size _).mono HB0.out.size)⟩
theorem rfail_6n (l : List Item) (A : Option Addr) (c : Nat) (p : Patch) (w : World) (hr : RdI w A l) (hl : l.length ≤ 1000000) (hsh : ∀ x ∈ l, x.Short) (hps : p.item.Short) (hpn : p.num.length ≤ maxLen) (hfr : p.fr.length ≤ 1000000) (htt : p.to.length ≤ 1000000) (hv0 : walkB l = true) (hf0 : rformB p = true) (hk : p.kind = 6) (k : Nat) (y : Item) (hfi : findI l p.id = k) (hy : l[k]? = some y) (hit : itemF l p.id = y) (hyk : y.kind = 2) (hgo : y.gone = false) : Calls Tryz.prog 58 #[.agg #[.slice A l.length c], p.agg] w fun e w' => e = .returned (.int .i64 (applyF l p).2) ∧ Below w.heap.size w w' := by
 have hb0 := two_up w A l c p
 have HB0 := Lib.hid hb0; clear hb0
 have HBc := Lib.hid (bself ((w.alloc (.cells #[.slice A l.length c] 24)).alloc (.cells (patCs p) 29)))
 have HR0 := Lib.hid (hr.below HB0.out)
 have HSH := Lib.hid hsh; clear hsh
 have HPS := Lib.hid hps; clear hps
 have HPN := Lib.hid hpn; clear hpn
 have HWB := Lib.hid hv0
 have HFO := Lib.hid hf0
 have hnf : ¬ (walkB l = false ∨ formedF p = false) := by rw [rform_eq, hv0, hf0]; simp
 obtain ⟨b1, o1, hA, hbs1, c0, c1, c2, c3, c4, c5, c6⟩ := hr.item hy
 have hkl : k < l.length := (List.getElem?_eq_some_iff.1 hy).1
 have hi0 : (0 : Int) ≤ k := by omega
 have hi1 : (k : Int) < l.length := by omega
 have hi2 : decide ((k : Int) < 0) = false := by simp
 have q0 : b1 < w.heap.size + 1 := by omega
 have q1 : b1 < w.heap.size + 1 + 1 := by omega
 have HFI := Lib.hid hfi
 subst hA
 have kb1 : (p.kind == 1) = false := by simp [hk]
 have kn1 : (p.kind != 1) = true := by simp [hk]
 have kb2 : (p.kind == 2) = false := by simp [hk]
 have kn2 : (p.kind != 2) = true := by simp [hk]
 have kb3 : (p.kind == 3) = false := by simp [hk]
 have kn3 : (p.kind != 3) = true := by simp [hk]
 have kb4 : (p.kind == 4) = false := by simp [hk]
 have kn4 : (p.kind != 4) = true := by simp [hk]
 have kb5 : (p.kind == 5) = false := by simp [hk]
 have kn5 : (p.kind != 5) = true := by simp [hk]
 have kb6 : (p.kind == 6) = true := by simp [hk]
 have kn6 : (p.kind != 6) = false := by simp [hk]
 have kb7 : (p.kind == 7) = false := by simp [hk]
 have kn7 : (p.kind != 7) = true := by simp [hk]
 have yk : (y.kind == 1) = false := by simp [hyk]
 have hv : (applyF l p).2 = 12 := by unfold applyF; rw [if_neg hnf, if_neg (show ¬ p.kind = 1 by omega), hit]; rw [if_neg (show ¬ (y.kind = 0 ∨ (y.kind = 1 ∧ p.kind ≠ 3 ∧ p.kind ≠ 4)) by omega), if_pos ⟨hk, hgo⟩]
 have HV := Lib.hid hv; clear hv
 clear hv0 hf0 hnf
 clear hk hfi hit hy hr hyk
 rw [HV.out]
 go_enter Tryz.func58, Tryz.ntmps58
 go_wp2_with fail
 refine (rvalid_any l _ c _ (HR0.out.below HBc.out) hl HSH.out).mono ?_
 rintro e w1 ⟨rfl, hbN⟩
 rw [HWB.out]
 have hb3 := after2 HBc hbN
 clear hbN HBc
 obtain ⟨HBc, hc, hf, hblk, zc0, zc1⟩ := hb3
 go_wp2_with fail
 refine (rformed_any p _ HPS.out HPN.out).mono ?_
 rintro e w2 ⟨rfl, hbN⟩
 rw [HFO.out]
 have hb3 := after2 HBc hbN
 clear hbN HBc hc hf hblk zc0 zc1
 obtain ⟨HBc, hc, hf, hblk, zc0, zc1⟩ := hb3
 go_wp2_with fail
 refine (rfind_any l _ c p.id _ (HR0.out.below HBc.out) (le_maxLen (by omega))).mono ?_
 rintro e w3 ⟨rfl, hbN⟩
 rw [HFI.out]
 have hb3 := after2 HBc hbN
 clear hbN HBc hc hf hblk zc0 zc1
 obtain ⟨HBc, hc, hf, hblk, zc0, zc1⟩ := hb3
 go_wp2_with fail
 go_ret
 exact ⟨rfl, HB0.out.trans ((HBc.out.alloc HBc.out.size _).mono HB0.out.size)⟩
theorem rfail_6o (l : List Item) (A : Option Addr) (c : Nat) (p : Patch) (w : World) (hr : RdI w A l) (hl : l.length ≤ 1000000) (hsh : ∀ x ∈ l, x.Short) (hps : p.item.Short) (hpn : p.num.length ≤ maxLen) (hfr : p.fr.length ≤ 1000000) (htt : p.to.length ≤ 1000000) (hv0 : walkB l = true) (hf0 : rformB p = true) (hk : p.kind = 6) (k : Nat) (y : Item) (hfi : findI l p.id = k) (hy : l[k]? = some y) (hit : itemF l p.id = y) (hyk : y.kind = 2) (hgo : y.gone = true) : Calls Tryz.prog 58 #[.agg #[.slice A l.length c], p.agg] w fun e w' => e = .returned (.int .i64 (applyF l p).2) ∧ Below w.heap.size w w' := by
 have hb0 := two_up w A l c p
 have HB0 := Lib.hid hb0; clear hb0
 have HBc := Lib.hid (bself ((w.alloc (.cells #[.slice A l.length c] 24)).alloc (.cells (patCs p) 29)))
 have HR0 := Lib.hid (hr.below HB0.out)
 have HSH := Lib.hid hsh; clear hsh
 have HPS := Lib.hid hps; clear hps
 have HPN := Lib.hid hpn; clear hpn
 have HWB := Lib.hid hv0
 have HFO := Lib.hid hf0
 have hnf : ¬ (walkB l = false ∨ formedF p = false) := by rw [rform_eq, hv0, hf0]; simp
 obtain ⟨b1, o1, hA, hbs1, c0, c1, c2, c3, c4, c5, c6⟩ := hr.item hy
 have hkl : k < l.length := (List.getElem?_eq_some_iff.1 hy).1
 have hi0 : (0 : Int) ≤ k := by omega
 have hi1 : (k : Int) < l.length := by omega
 have hi2 : decide ((k : Int) < 0) = false := by simp
 have q0 : b1 < w.heap.size + 1 := by omega
 have q1 : b1 < w.heap.size + 1 + 1 := by omega
 have HFI := Lib.hid hfi
 subst hA
 have kb1 : (p.kind == 1) = false := by simp [hk]
 have kn1 : (p.kind != 1) = true := by simp [hk]
 have kb2 : (p.kind == 2) = false := by simp [hk]
 have kn2 : (p.kind != 2) = true := by simp [hk]
 have kb3 : (p.kind == 3) = false := by simp [hk]
 have kn3 : (p.kind != 3) = true := by simp [hk]
 have kb4 : (p.kind == 4) = false := by simp [hk]
 have kn4 : (p.kind != 4) = true := by simp [hk]
 have kb5 : (p.kind == 5) = false := by simp [hk]
 have kn5 : (p.kind != 5) = true := by simp [hk]
 have kb6 : (p.kind == 6) = true := by simp [hk]
 have kn6 : (p.kind != 6) = false := by simp [hk]
 have kb7 : (p.kind == 7) = false := by simp [hk]
 have kn7 : (p.kind != 7) = true := by simp [hk]
 have yk : (y.kind == 1) = false := by simp [hyk]
 have hv : (applyF l p).2 = 0 := by unfold applyF; rw [if_neg hnf, if_neg (show ¬ p.kind = 1 by omega), hit]; rw [if_neg (show ¬ (y.kind = 0 ∨ (y.kind = 1 ∧ p.kind ≠ 3 ∧ p.kind ≠ 4)) by omega), if_neg (by rw [hgo]; simp), if_neg (by omega), if_neg (by omega), if_neg (by omega), if_neg (by omega), if_neg (by omega)]
 have HV := Lib.hid hv; clear hv
 clear hv0 hf0 hnf
 clear hk hfi hit hy hr hyk
 rw [HV.out]
 go_enter Tryz.func58, Tryz.ntmps58
 go_wp2_with fail
 refine (rvalid_any l _ c _ (HR0.out.below HBc.out) hl HSH.out).mono ?_
 rintro e w1 ⟨rfl, hbN⟩
 rw [HWB.out]
 have hb3 := after2 HBc hbN
 clear hbN HBc
 obtain ⟨HBc, hc, hf, hblk, zc0, zc1⟩ := hb3
 go_wp2_with fail
 refine (rformed_any p _ HPS.out HPN.out).mono ?_
 rintro e w2 ⟨rfl, hbN⟩
 rw [HFO.out]
 have hb3 := after2 HBc hbN
 clear hbN HBc hc hf hblk zc0 zc1
 obtain ⟨HBc, hc, hf, hblk, zc0, zc1⟩ := hb3
 go_wp2_with fail
 refine (rfind_any l _ c p.id _ (HR0.out.below HBc.out) (le_maxLen (by omega))).mono ?_
 rintro e w3 ⟨rfl, hbN⟩
 rw [HFI.out]
 have hb3 := after2 HBc hbN
 clear hbN HBc hc hf hblk zc0 zc1
 obtain ⟨HBc, hc, hf, hblk, zc0, zc1⟩ := hb3
 go_wp2_with fail
 go_ret
 exact ⟨rfl, HB0.out.trans ((HBc.out.alloc HBc.out.size _).mono HB0.out.size)⟩
theorem rfail_5o (l : List Item) (A : Option Addr) (c : Nat) (p : Patch) (w : World) (hr : RdI w A l) (hl : l.length ≤ 1000000) (hsh : ∀ x ∈ l, x.Short) (hps : p.item.Short) (hpn : p.num.length ≤ maxLen) (hfr : p.fr.length ≤ 1000000) (htt : p.to.length ≤ 1000000) (hv0 : walkB l = true) (hf0 : rformB p = true) (hk : p.kind = 5) (k : Nat) (y : Item) (hfi : findI l p.id = k) (hy : l[k]? = some y) (hit : itemF l p.id = y) (hyk : y.kind = 2) (hgo : y.gone = false) : Calls Tryz.prog 58 #[.agg #[.slice A l.length c], p.agg] w fun e w' => e = .returned (.int .i64 (applyF l p).2) ∧ Below w.heap.size w w' := by
 have hb0 := two_up w A l c p
 have HB0 := Lib.hid hb0; clear hb0
 have HBc := Lib.hid (bself ((w.alloc (.cells #[.slice A l.length c] 24)).alloc (.cells (patCs p) 29)))
 have HR0 := Lib.hid (hr.below HB0.out)
 have HSH := Lib.hid hsh; clear hsh
 have HPS := Lib.hid hps; clear hps
 have HPN := Lib.hid hpn; clear hpn
 have HWB := Lib.hid hv0
 have HFO := Lib.hid hf0
 have hnf : ¬ (walkB l = false ∨ formedF p = false) := by rw [rform_eq, hv0, hf0]; simp
 obtain ⟨b1, o1, hA, hbs1, c0, c1, c2, c3, c4, c5, c6⟩ := hr.item hy
 have hkl : k < l.length := (List.getElem?_eq_some_iff.1 hy).1
 have hi0 : (0 : Int) ≤ k := by omega
 have hi1 : (k : Int) < l.length := by omega
 have hi2 : decide ((k : Int) < 0) = false := by simp
 have q0 : b1 < w.heap.size + 1 := by omega
 have q1 : b1 < w.heap.size + 1 + 1 := by omega
 have HFI := Lib.hid hfi
 subst hA
 have kb1 : (p.kind == 1) = false := by simp [hk]
 have kn1 : (p.kind != 1) = true := by simp [hk]
 have kb2 : (p.kind == 2) = false := by simp [hk]
 have kn2 : (p.kind != 2) = true := by simp [hk]
 have kb3 : (p.kind == 3) = false := by simp [hk]
 have kn3 : (p.kind != 3) = true := by simp [hk]
 have kb4 : (p.kind == 4) = false := by simp [hk]
 have kn4 : (p.kind != 4) = true := by simp [hk]
 have kb5 : (p.kind == 5) = true := by simp [hk]
 have kn5 : (p.kind != 5) = false := by simp [hk]
 have kb6 : (p.kind == 6) = false := by simp [hk]
 have kn6 : (p.kind != 6) = true := by simp [hk]
 have kb7 : (p.kind == 7) = false := by simp [hk]
 have kn7 : (p.kind != 7) = true := by simp [hk]
 have yk : (y.kind == 1) = false := by simp [hyk]
 have hv : (applyF l p).2 = 0 := by unfold applyF; rw [if_neg hnf, if_neg (show ¬ p.kind = 1 by omega), hit]; rw [if_neg (show ¬ (y.kind = 0 ∨ (y.kind = 1 ∧ p.kind ≠ 3 ∧ p.kind ≠ 4)) by omega), if_neg (show ¬ (p.kind = 6 ∧ y.gone = false) by omega), if_neg (show ¬ (p.kind ≠ 6 ∧ y.gone = true) by rw [hgo]; simp), if_neg (by omega), if_neg (by omega), if_neg (by omega), if_neg (by omega)]
 have HV := Lib.hid hv; clear hv
 clear hv0 hf0 hnf
 clear hk hfi hit hy hr hyk
 rw [HV.out]
 go_enter Tryz.func58, Tryz.ntmps58
 go_wp2_with fail
 refine (rvalid_any l _ c _ (HR0.out.below HBc.out) hl HSH.out).mono ?_
 rintro e w1 ⟨rfl, hbN⟩
 rw [HWB.out]
 have hb3 := after2 HBc hbN
 clear hbN HBc
 obtain ⟨HBc, hc, hf, hblk, zc0, zc1⟩ := hb3
 go_wp2_with fail
 refine (rformed_any p _ HPS.out HPN.out).mono ?_
 rintro e w2 ⟨rfl, hbN⟩
 rw [HFO.out]
 have hb3 := after2 HBc hbN
 clear hbN HBc hc hf hblk zc0 zc1
 obtain ⟨HBc, hc, hf, hblk, zc0, zc1⟩ := hb3
 go_wp2_with fail
 refine (rfind_any l _ c p.id _ (HR0.out.below HBc.out) (le_maxLen (by omega))).mono ?_
 rintro e w3 ⟨rfl, hbN⟩
 rw [HFI.out]
 have hb3 := after2 HBc hbN
 clear hbN HBc hc hf hblk zc0 zc1
 obtain ⟨HBc, hc, hf, hblk, zc0, zc1⟩ := hb3
 go_wp2_with fail
 go_ret
 exact ⟨rfl, HB0.out.trans ((HBc.out.alloc HBc.out.size _).mono HB0.out.size)⟩
theorem rfail_3ot (l : List Item) (A : Option Addr) (c : Nat) (p : Patch) (w : World) (hr : RdI w A l) (hl : l.length ≤ 1000000) (hsh : ∀ x ∈ l, x.Short) (hps : p.item.Short) (hpn : p.num.length ≤ maxLen) (hfr : p.fr.length ≤ 1000000) (htt : p.to.length ≤ 1000000) (hv0 : walkB l = true) (hf0 : rformB p = true) (hk : p.kind = 3) (k : Nat) (y : Item) (hfi : findI l p.id = k) (hy : l[k]? = some y) (hit : itemF l p.id = y) (hyk : y.kind = 1 ∨ y.kind = 2) (yk : (y.kind == 1) = true) (hgo : y.gone = false) : Calls Tryz.prog 58 #[.agg #[.slice A l.length c], p.agg] w fun e w' => e = .returned (.int .i64 (applyF l p).2) ∧ Below w.heap.size w w' := by
 have hb0 := two_up w A l c p
 have HB0 := Lib.hid hb0; clear hb0
 have HBc := Lib.hid (bself ((w.alloc (.cells #[.slice A l.length c] 24)).alloc (.cells (patCs p) 29)))
 have HR0 := Lib.hid (hr.below HB0.out)
 have HSH := Lib.hid hsh; clear hsh
 have HPS := Lib.hid hps; clear hps
 have HPN := Lib.hid hpn; clear hpn
 have HWB := Lib.hid hv0
 have HFO := Lib.hid hf0
 have hnf : ¬ (walkB l = false ∨ formedF p = false) := by rw [rform_eq, hv0, hf0]; simp
 obtain ⟨b1, o1, hA, hbs1, c0, c1, c2, c3, c4, c5, c6⟩ := hr.item hy
 have hkl : k < l.length := (List.getElem?_eq_some_iff.1 hy).1
 have hi0 : (0 : Int) ≤ k := by omega
 have hi1 : (k : Int) < l.length := by omega
 have hi2 : decide ((k : Int) < 0) = false := by simp
 have q0 : b1 < w.heap.size + 1 := by omega
 have q1 : b1 < w.heap.size + 1 + 1 := by omega
 have HFI := Lib.hid hfi
 subst hA
 have kb1 : (p.kind == 1) = false := by simp [hk]
 have kn1 : (p.kind != 1) = true := by simp [hk]
 have kb2 : (p.kind == 2) = false := by simp [hk]
 have kn2 : (p.kind != 2) = true := by simp [hk]
 have kb3 : (p.kind == 3) = true := by simp [hk]
 have kn3 : (p.kind != 3) = false := by simp [hk]
 have kb4 : (p.kind == 4) = false := by simp [hk]
 have kn4 : (p.kind != 4) = true := by simp [hk]
 have kb5 : (p.kind == 5) = false := by simp [hk]
 have kn5 : (p.kind != 5) = true := by simp [hk]
 have kb6 : (p.kind == 6) = false := by simp [hk]
 have kn6 : (p.kind != 6) = true := by simp [hk]
 have kb7 : (p.kind == 7) = false := by simp [hk]
 have kn7 : (p.kind != 7) = true := by simp [hk]
 have hv : (applyF l p).2 = 0 := by unfold applyF; rw [if_neg hnf, if_neg (show ¬ p.kind = 1 by omega), hit]; rw [if_neg (show ¬ (y.kind = 0 ∨ (y.kind = 1 ∧ p.kind ≠ 3 ∧ p.kind ≠ 4)) by omega), if_neg (show ¬ (p.kind = 6 ∧ y.gone = false) by omega), if_neg (show ¬ (p.kind ≠ 6 ∧ y.gone = true) by rw [hgo]; simp), if_neg (by omega), if_pos hk]
 have HV := Lib.hid hv; clear hv
 clear hv0 hf0 hnf
 clear hk hfi hit hy hr hyk
 rw [HV.out]
 go_enter Tryz.func58, Tryz.ntmps58
 go_wp2_with fail
 refine (rvalid_any l _ c _ (HR0.out.below HBc.out) hl HSH.out).mono ?_
 rintro e w1 ⟨rfl, hbN⟩
 rw [HWB.out]
 have hb3 := after2 HBc hbN
 clear hbN HBc
 obtain ⟨HBc, hc, hf, hblk, zc0, zc1⟩ := hb3
 go_wp2_with fail
 refine (rformed_any p _ HPS.out HPN.out).mono ?_
 rintro e w2 ⟨rfl, hbN⟩
 rw [HFO.out]
 have hb3 := after2 HBc hbN
 clear hbN HBc hc hf hblk zc0 zc1
 obtain ⟨HBc, hc, hf, hblk, zc0, zc1⟩ := hb3
 go_wp2_with fail
 refine (rfind_any l _ c p.id _ (HR0.out.below HBc.out) (le_maxLen (by omega))).mono ?_
 rintro e w3 ⟨rfl, hbN⟩
 rw [HFI.out]
 have hb3 := after2 HBc hbN
 clear hbN HBc hc hf hblk zc0 zc1
 obtain ⟨HBc, hc, hf, hblk, zc0, zc1⟩ := hb3
 go_wp2_with fail
 go_ret
 exact ⟨rfl, HB0.out.trans ((HBc.out.alloc HBc.out.size _).mono HB0.out.size)⟩
theorem rfail_3of (l : List Item) (A : Option Addr) (c : Nat) (p : Patch) (w : World) (hr : RdI w A l) (hl : l.length ≤ 1000000) (hsh : ∀ x ∈ l, x.Short) (hps : p.item.Short) (hpn : p.num.length ≤ maxLen) (hfr : p.fr.length ≤ 1000000) (htt : p.to.length ≤ 1000000) (hv0 : walkB l = true) (hf0 : rformB p = true) (hk : p.kind = 3) (k : Nat) (y : Item) (hfi : findI l p.id = k) (hy : l[k]? = some y) (hit : itemF l p.id = y) (hyk : y.kind = 1 ∨ y.kind = 2) (yk : (y.kind == 1) = false) (hgo : y.gone = false) : Calls Tryz.prog 58 #[.agg #[.slice A l.length c], p.agg] w fun e w' => e = .returned (.int .i64 (applyF l p).2) ∧ Below w.heap.size w w' := by
 have hb0 := two_up w A l c p
 have HB0 := Lib.hid hb0; clear hb0
 have HBc := Lib.hid (bself ((w.alloc (.cells #[.slice A l.length c] 24)).alloc (.cells (patCs p) 29)))
 have HR0 := Lib.hid (hr.below HB0.out)
 have HSH := Lib.hid hsh; clear hsh
 have HPS := Lib.hid hps; clear hps
 have HPN := Lib.hid hpn; clear hpn
 have HWB := Lib.hid hv0
 have HFO := Lib.hid hf0
 have hnf : ¬ (walkB l = false ∨ formedF p = false) := by rw [rform_eq, hv0, hf0]; simp
 obtain ⟨b1, o1, hA, hbs1, c0, c1, c2, c3, c4, c5, c6⟩ := hr.item hy
 have hkl : k < l.length := (List.getElem?_eq_some_iff.1 hy).1
 have hi0 : (0 : Int) ≤ k := by omega
 have hi1 : (k : Int) < l.length := by omega
 have hi2 : decide ((k : Int) < 0) = false := by simp
 have q0 : b1 < w.heap.size + 1 := by omega
 have q1 : b1 < w.heap.size + 1 + 1 := by omega
 have HFI := Lib.hid hfi
 subst hA
 have kb1 : (p.kind == 1) = false := by simp [hk]
 have kn1 : (p.kind != 1) = true := by simp [hk]
 have kb2 : (p.kind == 2) = false := by simp [hk]
 have kn2 : (p.kind != 2) = true := by simp [hk]
 have kb3 : (p.kind == 3) = true := by simp [hk]
 have kn3 : (p.kind != 3) = false := by simp [hk]
 have kb4 : (p.kind == 4) = false := by simp [hk]
 have kn4 : (p.kind != 4) = true := by simp [hk]
 have kb5 : (p.kind == 5) = false := by simp [hk]
 have kn5 : (p.kind != 5) = true := by simp [hk]
 have kb6 : (p.kind == 6) = false := by simp [hk]
 have kn6 : (p.kind != 6) = true := by simp [hk]
 have kb7 : (p.kind == 7) = false := by simp [hk]
 have kn7 : (p.kind != 7) = true := by simp [hk]
 have hv : (applyF l p).2 = 0 := by unfold applyF; rw [if_neg hnf, if_neg (show ¬ p.kind = 1 by omega), hit]; rw [if_neg (show ¬ (y.kind = 0 ∨ (y.kind = 1 ∧ p.kind ≠ 3 ∧ p.kind ≠ 4)) by omega), if_neg (show ¬ (p.kind = 6 ∧ y.gone = false) by omega), if_neg (show ¬ (p.kind ≠ 6 ∧ y.gone = true) by rw [hgo]; simp), if_neg (by omega), if_pos hk]
 have HV := Lib.hid hv; clear hv
 clear hv0 hf0 hnf
 clear hk hfi hit hy hr hyk
 rw [HV.out]
 go_enter Tryz.func58, Tryz.ntmps58
 go_wp2_with fail
 refine (rvalid_any l _ c _ (HR0.out.below HBc.out) hl HSH.out).mono ?_
 rintro e w1 ⟨rfl, hbN⟩
 rw [HWB.out]
 have hb3 := after2 HBc hbN
 clear hbN HBc
 obtain ⟨HBc, hc, hf, hblk, zc0, zc1⟩ := hb3
 go_wp2_with fail
 refine (rformed_any p _ HPS.out HPN.out).mono ?_
 rintro e w2 ⟨rfl, hbN⟩
 rw [HFO.out]
 have hb3 := after2 HBc hbN
 clear hbN HBc hc hf hblk zc0 zc1
 obtain ⟨HBc, hc, hf, hblk, zc0, zc1⟩ := hb3
 go_wp2_with fail
 refine (rfind_any l _ c p.id _ (HR0.out.below HBc.out) (le_maxLen (by omega))).mono ?_
 rintro e w3 ⟨rfl, hbN⟩
 rw [HFI.out]
 have hb3 := after2 HBc hbN
 clear hbN HBc hc hf hblk zc0 zc1
 obtain ⟨HBc, hc, hf, hblk, zc0, zc1⟩ := hb3
 go_wp2_with fail
 go_ret
 exact ⟨rfl, HB0.out.trans ((HBc.out.alloc HBc.out.size _).mono HB0.out.size)⟩
theorem rfail_7a (l : List Item) (A : Option Addr) (c : Nat) (p : Patch) (w : World) (hr : RdI w A l) (hl : l.length ≤ 1000000) (hsh : ∀ x ∈ l, x.Short) (hps : p.item.Short) (hpn : p.num.length ≤ maxLen) (hfr : p.fr.length ≤ 1000000) (htt : p.to.length ≤ 1000000) (hv0 : walkB l = true) (hf0 : rformB p = true) (hk : p.kind = 7) (k : Nat) (y : Item) (hfi : findI l p.id = k) (hy : l[k]? = some y) (hit : itemF l p.id = y) (hyk : y.kind = 2) (hgo : y.gone = false) (h1 : 400 < p.item.no.length) : Calls Tryz.prog 58 #[.agg #[.slice A l.length c], p.agg] w fun e w' => e = .returned (.int .i64 (applyF l p).2) ∧ Below w.heap.size w w' := by
 have hb0 := two_up w A l c p
 have HB0 := Lib.hid hb0; clear hb0
 have HBc := Lib.hid (bself ((w.alloc (.cells #[.slice A l.length c] 24)).alloc (.cells (patCs p) 29)))
 have HR0 := Lib.hid (hr.below HB0.out)
 have HSH := Lib.hid hsh; clear hsh
 have HPS := Lib.hid hps; clear hps
 have HPN := Lib.hid hpn; clear hpn
 have HWB := Lib.hid hv0
 have HFO := Lib.hid hf0
 have hnf : ¬ (walkB l = false ∨ formedF p = false) := by rw [rform_eq, hv0, hf0]; simp
 obtain ⟨b1, o1, hA, hbs1, c0, c1, c2, c3, c4, c5, c6⟩ := hr.item hy
 have hkl : k < l.length := (List.getElem?_eq_some_iff.1 hy).1
 have hi0 : (0 : Int) ≤ k := by omega
 have hi1 : (k : Int) < l.length := by omega
 have hi2 : decide ((k : Int) < 0) = false := by simp
 have q0 : b1 < w.heap.size + 1 := by omega
 have q1 : b1 < w.heap.size + 1 + 1 := by omega
 have HFI := Lib.hid hfi
 subst hA
 have kb1 : (p.kind == 1) = false := by simp [hk]
 have kn1 : (p.kind != 1) = true := by simp [hk]
 have kb2 : (p.kind == 2) = false := by simp [hk]
 have kn2 : (p.kind != 2) = true := by simp [hk]
 have kb3 : (p.kind == 3) = false := by simp [hk]
 have kn3 : (p.kind != 3) = true := by simp [hk]
 have kb4 : (p.kind == 4) = false := by simp [hk]
 have kn4 : (p.kind != 4) = true := by simp [hk]
 have kb5 : (p.kind == 5) = false := by simp [hk]
 have kn5 : (p.kind != 5) = true := by simp [hk]
 have kb6 : (p.kind == 6) = false := by simp [hk]
 have kn6 : (p.kind != 6) = true := by simp [hk]
 have kb7 : (p.kind == 7) = true := by simp [hk]
 have kn7 : (p.kind != 7) = false := by simp [hk]
 have yk : (y.kind == 1) = false := by simp [hyk]
 have l1 : decide ((400 : Int) < p.item.no.length) = true := by simp; omega
 have hv : (applyF l p).2 = 2 := by unfold applyF; rw [if_neg hnf, if_neg (show ¬ p.kind = 1 by omega), hit]; rw [if_neg (show ¬ (y.kind = 0 ∨ (y.kind = 1 ∧ p.kind ≠ 3 ∧ p.kind ≠ 4)) by omega), if_neg (show ¬ (p.kind = 6 ∧ y.gone = false) by omega), if_neg (show ¬ (p.kind ≠ 6 ∧ y.gone = true) by rw [hgo]; simp), if_neg (by omega), if_neg (by omega), if_neg (by omega), if_pos hk]; unfold replaceF; rw [if_pos (by omega)]
 have HV := Lib.hid hv; clear hv
 clear hv0 hf0 hnf
 clear hk hfi hit hy hr hyk
 rw [HV.out]
 go_enter Tryz.func58, Tryz.ntmps58
 go_wp2_with fail
 refine (rvalid_any l _ c _ (HR0.out.below HBc.out) hl HSH.out).mono ?_
 rintro e w1 ⟨rfl, hbN⟩
 rw [HWB.out]
 have hb3 := after2 HBc hbN
 clear hbN HBc
 obtain ⟨HBc, hc, hf, hblk, zc0, zc1⟩ := hb3
 go_wp2_with fail
 refine (rformed_any p _ HPS.out HPN.out).mono ?_
 rintro e w2 ⟨rfl, hbN⟩
 rw [HFO.out]
 have hb3 := after2 HBc hbN
 clear hbN HBc hc hf hblk zc0 zc1
 obtain ⟨HBc, hc, hf, hblk, zc0, zc1⟩ := hb3
 go_wp2_with fail
 refine (rfind_any l _ c p.id _ (HR0.out.below HBc.out) (le_maxLen (by omega))).mono ?_
 rintro e w3 ⟨rfl, hbN⟩
 rw [HFI.out]
 have hb3 := after2 HBc hbN
 clear hbN HBc hc hf hblk zc0 zc1
 obtain ⟨HBc, hc, hf, hblk, zc0, zc1⟩ := hb3
 go_wp2_with fail
 go_ret
 exact ⟨rfl, HB0.out.trans ((HBc.out.alloc HBc.out.size _).mono HB0.out.size)⟩
theorem rfail_7b (l : List Item) (A : Option Addr) (c : Nat) (p : Patch) (w : World) (hr : RdI w A l) (hl : l.length ≤ 1000000) (hsh : ∀ x ∈ l, x.Short) (hps : p.item.Short) (hpn : p.num.length ≤ maxLen) (hfr : p.fr.length ≤ 1000000) (htt : p.to.length ≤ 1000000) (hv0 : walkB l = true) (hf0 : rformB p = true) (hk : p.kind = 7) (k : Nat) (y : Item) (hfi : findI l p.id = k) (hy : l[k]? = some y) (hit : itemF l p.id = y) (hyk : y.kind = 2) (hgo : y.gone = false) (h1 : p.item.no.length ≤ 400) (h2 : 400 < p.item.so.length) : Calls Tryz.prog 58 #[.agg #[.slice A l.length c], p.agg] w fun e w' => e = .returned (.int .i64 (applyF l p).2) ∧ Below w.heap.size w w' := by
 have hb0 := two_up w A l c p
 have HB0 := Lib.hid hb0; clear hb0
 have HBc := Lib.hid (bself ((w.alloc (.cells #[.slice A l.length c] 24)).alloc (.cells (patCs p) 29)))
 have HR0 := Lib.hid (hr.below HB0.out)
 have HSH := Lib.hid hsh; clear hsh
 have HPS := Lib.hid hps; clear hps
 have HPN := Lib.hid hpn; clear hpn
 have HWB := Lib.hid hv0
 have HFO := Lib.hid hf0
 have hnf : ¬ (walkB l = false ∨ formedF p = false) := by rw [rform_eq, hv0, hf0]; simp
 obtain ⟨b1, o1, hA, hbs1, c0, c1, c2, c3, c4, c5, c6⟩ := hr.item hy
 have hkl : k < l.length := (List.getElem?_eq_some_iff.1 hy).1
 have hi0 : (0 : Int) ≤ k := by omega
 have hi1 : (k : Int) < l.length := by omega
 have hi2 : decide ((k : Int) < 0) = false := by simp
 have q0 : b1 < w.heap.size + 1 := by omega
 have q1 : b1 < w.heap.size + 1 + 1 := by omega
 have HFI := Lib.hid hfi
 subst hA
 have kb1 : (p.kind == 1) = false := by simp [hk]
 have kn1 : (p.kind != 1) = true := by simp [hk]
 have kb2 : (p.kind == 2) = false := by simp [hk]
 have kn2 : (p.kind != 2) = true := by simp [hk]
 have kb3 : (p.kind == 3) = false := by simp [hk]
 have kn3 : (p.kind != 3) = true := by simp [hk]
 have kb4 : (p.kind == 4) = false := by simp [hk]
 have kn4 : (p.kind != 4) = true := by simp [hk]
 have kb5 : (p.kind == 5) = false := by simp [hk]
 have kn5 : (p.kind != 5) = true := by simp [hk]
 have kb6 : (p.kind == 6) = false := by simp [hk]
 have kn6 : (p.kind != 6) = true := by simp [hk]
 have kb7 : (p.kind == 7) = true := by simp [hk]
 have kn7 : (p.kind != 7) = false := by simp [hk]
 have yk : (y.kind == 1) = false := by simp [hyk]
 have l1 : decide ((400 : Int) < p.item.no.length) = false := by simp; omega
 have l2 : decide ((400 : Int) < p.item.so.length) = true := by simp; omega
 have hv : (applyF l p).2 = 2 := by unfold applyF; rw [if_neg hnf, if_neg (show ¬ p.kind = 1 by omega), hit]; rw [if_neg (show ¬ (y.kind = 0 ∨ (y.kind = 1 ∧ p.kind ≠ 3 ∧ p.kind ≠ 4)) by omega), if_neg (show ¬ (p.kind = 6 ∧ y.gone = false) by omega), if_neg (show ¬ (p.kind ≠ 6 ∧ y.gone = true) by rw [hgo]; simp), if_neg (by omega), if_neg (by omega), if_neg (by omega), if_pos hk]; unfold replaceF; rw [if_pos (by omega)]
 have HV := Lib.hid hv; clear hv
 clear hv0 hf0 hnf
 clear hk hfi hit hy hr hyk
 rw [HV.out]
 go_enter Tryz.func58, Tryz.ntmps58
 go_wp2_with fail
 refine (rvalid_any l _ c _ (HR0.out.below HBc.out) hl HSH.out).mono ?_
 rintro e w1 ⟨rfl, hbN⟩
 rw [HWB.out]
 have hb3 := after2 HBc hbN
 clear hbN HBc
 obtain ⟨HBc, hc, hf, hblk, zc0, zc1⟩ := hb3
 go_wp2_with fail
 refine (rformed_any p _ HPS.out HPN.out).mono ?_
 rintro e w2 ⟨rfl, hbN⟩
 rw [HFO.out]
 have hb3 := after2 HBc hbN
 clear hbN HBc hc hf hblk zc0 zc1
 obtain ⟨HBc, hc, hf, hblk, zc0, zc1⟩ := hb3
 go_wp2_with fail
 refine (rfind_any l _ c p.id _ (HR0.out.below HBc.out) (le_maxLen (by omega))).mono ?_
 rintro e w3 ⟨rfl, hbN⟩
 rw [HFI.out]
 have hb3 := after2 HBc hbN
 clear hbN HBc hc hf hblk zc0 zc1
 obtain ⟨HBc, hc, hf, hblk, zc0, zc1⟩ := hb3
 go_wp2_with fail
 go_ret
 exact ⟨rfl, HB0.out.trans ((HBc.out.alloc HBc.out.size _).mono HB0.out.size)⟩
theorem rfail_7c (l : List Item) (A : Option Addr) (c : Nat) (p : Patch) (w : World) (hr : RdI w A l) (hl : l.length ≤ 1000000) (hsh : ∀ x ∈ l, x.Short) (hps : p.item.Short) (hpn : p.num.length ≤ maxLen) (hfr : p.fr.length ≤ 1000000) (htt : p.to.length ≤ 1000000) (hv0 : walkB l = true) (hf0 : rformB p = true) (hk : p.kind = 7) (k : Nat) (y : Item) (hfi : findI l p.id = k) (hy : l[k]? = some y) (hit : itemF l p.id = y) (hyk : y.kind = 2) (hgo : y.gone = false) (h1 : p.item.no.length ≤ 400) (h2 : p.item.so.length ≤ 400) : Calls Tryz.prog 58 #[.agg #[.slice A l.length c], p.agg] w fun e w' => e = .returned (.int .i64 (applyF l p).2) ∧ Below w.heap.size w w' := by
 have hb0 := two_up w A l c p
 have HB0 := Lib.hid hb0; clear hb0
 have HBc := Lib.hid (bself ((w.alloc (.cells #[.slice A l.length c] 24)).alloc (.cells (patCs p) 29)))
 have HR0 := Lib.hid (hr.below HB0.out)
 have HSH := Lib.hid hsh; clear hsh
 have HPS := Lib.hid hps; clear hps
 have HPN := Lib.hid hpn; clear hpn
 have HWB := Lib.hid hv0
 have HFO := Lib.hid hf0
 have hnf : ¬ (walkB l = false ∨ formedF p = false) := by rw [rform_eq, hv0, hf0]; simp
 obtain ⟨b1, o1, hA, hbs1, c0, c1, c2, c3, c4, c5, c6⟩ := hr.item hy
 have hkl : k < l.length := (List.getElem?_eq_some_iff.1 hy).1
 have hi0 : (0 : Int) ≤ k := by omega
 have hi1 : (k : Int) < l.length := by omega
 have hi2 : decide ((k : Int) < 0) = false := by simp
 have q0 : b1 < w.heap.size + 1 := by omega
 have q1 : b1 < w.heap.size + 1 + 1 := by omega
 have HFI := Lib.hid hfi
 subst hA
 have kb1 : (p.kind == 1) = false := by simp [hk]
 have kn1 : (p.kind != 1) = true := by simp [hk]
 have kb2 : (p.kind == 2) = false := by simp [hk]
 have kn2 : (p.kind != 2) = true := by simp [hk]
 have kb3 : (p.kind == 3) = false := by simp [hk]
 have kn3 : (p.kind != 3) = true := by simp [hk]
 have kb4 : (p.kind == 4) = false := by simp [hk]
 have kn4 : (p.kind != 4) = true := by simp [hk]
 have kb5 : (p.kind == 5) = false := by simp [hk]
 have kn5 : (p.kind != 5) = true := by simp [hk]
 have kb6 : (p.kind == 6) = false := by simp [hk]
 have kn6 : (p.kind != 6) = true := by simp [hk]
 have kb7 : (p.kind == 7) = true := by simp [hk]
 have kn7 : (p.kind != 7) = false := by simp [hk]
 have yk : (y.kind == 1) = false := by simp [hyk]
 have l1 : decide ((400 : Int) < p.item.no.length) = false := by simp; omega
 have l2 : decide ((400 : Int) < p.item.so.length) = false := by simp; omega
 have hv : (applyF l p).2 = 0 := by unfold applyF; rw [if_neg hnf, if_neg (show ¬ p.kind = 1 by omega), hit]; rw [if_neg (show ¬ (y.kind = 0 ∨ (y.kind = 1 ∧ p.kind ≠ 3 ∧ p.kind ≠ 4)) by omega), if_neg (show ¬ (p.kind = 6 ∧ y.gone = false) by omega), if_neg (show ¬ (p.kind ≠ 6 ∧ y.gone = true) by rw [hgo]; simp), if_neg (by omega), if_neg (by omega), if_neg (by omega), if_pos hk]; unfold replaceF; rw [if_neg (by omega)]
 have HV := Lib.hid hv; clear hv
 clear hv0 hf0 hnf
 clear hk hfi hit hy hr hyk
 rw [HV.out]
 go_enter Tryz.func58, Tryz.ntmps58
 go_wp2_with fail
 refine (rvalid_any l _ c _ (HR0.out.below HBc.out) hl HSH.out).mono ?_
 rintro e w1 ⟨rfl, hbN⟩
 rw [HWB.out]
 have hb3 := after2 HBc hbN
 clear hbN HBc
 obtain ⟨HBc, hc, hf, hblk, zc0, zc1⟩ := hb3
 go_wp2_with fail
 refine (rformed_any p _ HPS.out HPN.out).mono ?_
 rintro e w2 ⟨rfl, hbN⟩
 rw [HFO.out]
 have hb3 := after2 HBc hbN
 clear hbN HBc hc hf hblk zc0 zc1
 obtain ⟨HBc, hc, hf, hblk, zc0, zc1⟩ := hb3
 go_wp2_with fail
 refine (rfind_any l _ c p.id _ (HR0.out.below HBc.out) (le_maxLen (by omega))).mono ?_
 rintro e w3 ⟨rfl, hbN⟩
 rw [HFI.out]
 have hb3 := after2 HBc hbN
 clear hbN HBc hc hf hblk zc0 zc1
 obtain ⟨HBc, hc, hf, hblk, zc0, zc1⟩ := hb3
 go_wp2_with fail
 go_ret
 exact ⟨rfl, HB0.out.trans ((HBc.out.alloc HBc.out.size _).mono HB0.out.size)⟩
end Go.Proofs.YtfolcjkednmkoaaGreat
