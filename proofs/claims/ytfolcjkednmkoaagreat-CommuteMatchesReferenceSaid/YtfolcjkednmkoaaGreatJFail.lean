/- The reference's failure: part 2. The reference's failure: part 3. The reference's failure: the whole. -/
import Derived.Test.YtfolcjkednmkoaaGreatRFail
set_option linter.unusedVariables false
set_option linter.unusedSimpArgs false
set_option maxRecDepth 20000
set_option maxHeartbeats 8000000
namespace Go.Proofs.YtfolcjkednmkoaaGreat
open Go.RowKit
theorem rfail_2a1 (l : List Item) (A : Option Addr) (c : Nat) (p : Patch) (w : World) (hr : RdI w A l) (hl : l.length ≤ 1000000) (hsh : ∀ x ∈ l, x.Short) (hps : p.item.Short) (hpn : p.num.length ≤ maxLen) (hfr : p.fr.length ≤ 1000000) (htt : p.to.length ≤ 1000000) (hv0 : walkB l = true) (hf0 : rformB p = true) (hk : p.kind = 2) (k : Nat) (y : Item) (hfi : findI l p.id = k) (hy : l[k]? = some y) (hit : itemF l p.id = y) (hyk : y.kind = 2) (hgo : y.gone = false) (hla : p.lang = 1) (hno : y.no.length ≤ 400) (hso : y.so.length ≤ 400) (ho : onceIs (wordsText p y) p.fr = false) : Calls Tryz.prog 58 #[.agg #[.slice A l.length c], p.agg] w fun e w' => e = .returned (.int .i64 (applyF l p).2) ∧ Below w.heap.size w w' := by
 have hb0 := two_up w A l c p
 have HB0 := Lib.hid hb0; clear hb0
 have HBc := Lib.hid (bself ((w.alloc (.cells #[.slice A l.length c] 24)).alloc (.cells (patCs p) 29)))
 have HR0 := Lib.hid (hr.below HB0.out)
 have HSH := Lib.hid hsh; clear hsh
 have HPS := Lib.hid hps; clear hps
 have HPN := Lib.hid hpn; clear hpn
 have HWB := Lib.hid hv0
 have HFO := Lib.hid hf0
 have hnf : ¬ (walkB l = false ∨ formedF p = false) := by rw [rform_eq, hv0, hf0]; simp
 obtain ⟨b1, o1, hA, hbs1, c0, c1, c2, c3, c4, c5, c6⟩ := hr.item hy
 have hkl : k < l.length := (List.getElem?_eq_some_iff.1 hy).1
 have hi0 : (0 : Int) ≤ k := by omega
 have hi1 : (k : Int) < l.length := by omega
 have hi2 : decide ((k : Int) < 0) = false := by simp
 have q0 : b1 < w.heap.size + 1 := by omega
 have q1 : b1 < w.heap.size + 1 + 1 := by omega
 have HFI := Lib.hid hfi
 subst hA
 have kb1 : (p.kind == 1) = false := by simp [hk]
 have kn1 : (p.kind != 1) = true := by simp [hk]
 have kb2 : (p.kind == 2) = true := by simp [hk]
 have kn2 : (p.kind != 2) = false := by simp [hk]
 have kb3 : (p.kind == 3) = false := by simp [hk]
 have kn3 : (p.kind != 3) = true := by simp [hk]
 have kb4 : (p.kind == 4) = false := by simp [hk]
 have kn4 : (p.kind != 4) = true := by simp [hk]
 have kb5 : (p.kind == 5) = false := by simp [hk]
 have kn5 : (p.kind != 5) = true := by simp [hk]
 have kb6 : (p.kind == 6) = false := by simp [hk]
 have kn6 : (p.kind != 6) = true := by simp [hk]
 have kb7 : (p.kind == 7) = false := by simp [hk]
 have kn7 : (p.kind != 7) = true := by simp [hk]
 have yk : (y.kind == 1) = false := by simp [hyk]
 obtain ⟨s, hs⟩ : ∃ s, s = y.no := ⟨_, rfl⟩
 have hsl : s.length ≤ 400 := by rw [hs]; assumption
 have htx : (if p.lang = 1 then y.no else y.so) = s := by rw [hs]; rw [if_pos hla]
 have HTX := Lib.hid htx
 have hwt : wordsText p y = s := htx
 rw [hwt] at ho
 obtain ⟨tm, htm⟩ : ∃ tm : Nat, timesL s p.fr = tm := ⟨_, rfl⟩
 have HTM := Lib.hid htm
 have tmb : ((tm : Int) != 1) = true := by rw [once_times, htm] at ho; simp at ho ⊢; omega
 have hv : (applyF l p).2 = 15 := by unfold applyF; rw [if_neg hnf, if_neg (show ¬ p.kind = 1 by omega), hit]; rw [if_neg (show ¬ (y.kind = 0 ∨ (y.kind = 1 ∧ p.kind ≠ 3 ∧ p.kind ≠ 4)) by omega), if_neg (show ¬ (p.kind = 6 ∧ y.gone = false) by omega), if_neg (show ¬ (p.kind ≠ 6 ∧ y.gone = true) by rw [hgo]; simp), if_pos hk]; unfold wordsF; rw [hwt]; rw [if_pos ho]
 have HV := Lib.hid hv; clear hv
 clear hv0 hf0 hnf
 clear hk hfi hit hy hr hyk hs htx hwt ho hla htm
 rw [HV.out]
 go_enter Tryz.func58, Tryz.ntmps58
 go_wp2_with fail
 refine (rvalid_any l _ c _ (HR0.out.below HBc.out) hl HSH.out).mono ?_
 rintro e w1 ⟨rfl, hbN⟩
 rw [HWB.out]
 have hb3 := after2 HBc hbN
 clear hbN HBc
 obtain ⟨HBc, hc, hf, hblk, zc0, zc1⟩ := hb3
 go_wp2_with fail
 refine (rformed_any p _ HPS.out HPN.out).mono ?_
 rintro e w2 ⟨rfl, hbN⟩
 rw [HFO.out]
 have hb3 := after2 HBc hbN
 clear hbN HBc hc hf hblk zc0 zc1
 obtain ⟨HBc, hc, hf, hblk, zc0, zc1⟩ := hb3
 go_wp2_with fail
 refine (rfind_any l _ c p.id _ (HR0.out.below HBc.out) (le_maxLen (by omega))).mono ?_
 rintro e w3 ⟨rfl, hbN⟩
 rw [HFI.out]
 have hb3 := after2 HBc hbN
 clear hbN HBc hc hf hblk zc0 zc1
 obtain ⟨HBc, hc, hf, hblk, zc0, zc1⟩ := hb3
 have HBc := Lib.hid (HBc.out.alloc HBc.out.size (.cells #[.int .i64 y.kind, vs y.id, vs y.par, vs y.num, vs y.no, vs y.so, .bool false] 27))
 go_wp2_with fail
 refine (rtext_at (x := { y with gone := false }) (g := p.lang) (s := s) HTX.out _).mono ?_
 rintro e w4 ⟨rfl, hbN⟩
 have hb3 := after2 HBc hbN
 clear hbN HBc hc hf hblk zc0 zc1
 obtain ⟨HBc, hc, hf, hblk, zc0, zc1⟩ := hb3
 go_wp2_with fail
 refine (rtimes_any s p.fr _ (by omega) (by omega)).mono ?_
 rintro e w9 ⟨rfl, rfl⟩
 rw [HTM.out]
 go_wp2_with fail
 go_ret
 exact ⟨rfl, HB0.out.trans (HBc.out.mono HB0.out.size)⟩
theorem rfail_2b1 (l : List Item) (A : Option Addr) (c : Nat) (p : Patch) (w : World) (hr : RdI w A l) (hl : l.length ≤ 1000000) (hsh : ∀ x ∈ l, x.Short) (hps : p.item.Short) (hpn : p.num.length ≤ maxLen) (hfr : p.fr.length ≤ 1000000) (htt : p.to.length ≤ 1000000) (hv0 : walkB l = true) (hf0 : rformB p = true) (hk : p.kind = 2) (k : Nat) (y : Item) (hfi : findI l p.id = k) (hy : l[k]? = some y) (hit : itemF l p.id = y) (hyk : y.kind = 2) (hgo : y.gone = false) (hla : p.lang = 1) (hno : y.no.length ≤ 400) (hso : y.so.length ≤ 400) (ho : onceIs (wordsText p y) p.fr = true) (hln : 400 < (wordsNew p y).length) : Calls Tryz.prog 58 #[.agg #[.slice A l.length c], p.agg] w fun e w' => e = .returned (.int .i64 (applyF l p).2) ∧ Below w.heap.size w w' := by
 have hb0 := two_up w A l c p
 have HB0 := Lib.hid hb0; clear hb0
 have HBc := Lib.hid (bself ((w.alloc (.cells #[.slice A l.length c] 24)).alloc (.cells (patCs p) 29)))
 have HR0 := Lib.hid (hr.below HB0.out)
 have HSH := Lib.hid hsh; clear hsh
 have HPS := Lib.hid hps; clear hps
 have HPN := Lib.hid hpn; clear hpn
 have HWB := Lib.hid hv0
 have HFO := Lib.hid hf0
 have hnf : ¬ (walkB l = false ∨ formedF p = false) := by rw [rform_eq, hv0, hf0]; simp
 obtain ⟨b1, o1, hA, hbs1, c0, c1, c2, c3, c4, c5, c6⟩ := hr.item hy
 have hkl : k < l.length := (List.getElem?_eq_some_iff.1 hy).1
 have hi0 : (0 : Int) ≤ k := by omega
 have hi1 : (k : Int) < l.length := by omega
 have hi2 : decide ((k : Int) < 0) = false := by simp
 have q0 : b1 < w.heap.size + 1 := by omega
 have q1 : b1 < w.heap.size + 1 + 1 := by omega
 have HFI := Lib.hid hfi
 subst hA
 have kb1 : (p.kind == 1) = false := by simp [hk]
 have kn1 : (p.kind != 1) = true := by simp [hk]
 have kb2 : (p.kind == 2) = true := by simp [hk]
 have kn2 : (p.kind != 2) = false := by simp [hk]
 have kb3 : (p.kind == 3) = false := by simp [hk]
 have kn3 : (p.kind != 3) = true := by simp [hk]
 have kb4 : (p.kind == 4) = false := by simp [hk]
 have kn4 : (p.kind != 4) = true := by simp [hk]
 have kb5 : (p.kind == 5) = false := by simp [hk]
 have kn5 : (p.kind != 5) = true := by simp [hk]
 have kb6 : (p.kind == 6) = false := by simp [hk]
 have kn6 : (p.kind != 6) = true := by simp [hk]
 have kb7 : (p.kind == 7) = false := by simp [hk]
 have kn7 : (p.kind != 7) = true := by simp [hk]
 have yk : (y.kind == 1) = false := by simp [hyk]
 obtain ⟨s, hs⟩ : ∃ s, s = y.no := ⟨_, rfl⟩
 have hsl : s.length ≤ 400 := by rw [hs]; assumption
 have htx : (if p.lang = 1 then y.no else y.so) = s := by rw [hs]; rw [if_pos hla]
 have HTX := Lib.hid htx
 have hwt : wordsText p y = s := htx
 rw [hwt] at ho
 obtain ⟨tm, htm⟩ : ∃ tm : Nat, timesL s p.fr = tm := ⟨_, rfl⟩
 have HTM := Lib.hid htm
 have tmb : ((tm : Int) != 1) = false := by rw [once_times, htm] at ho; simp at ho ⊢; omega
 have hsw := swap_len (u := p.to) ho
 have hwn : (wordsNew p y).length = (swap s p.fr p.to (onceAt s p.fr).toNat).length := by unfold wordsNew; rw [hwt]
 obtain ⟨ri, hr1, hr2⟩ := once_room ho
 have hq : decide ((400 : Int) < (s.length : Int) - p.fr.length + p.to.length) = true := by simp; omega
 have hq2 : (400 : Int) < (s.length : Int) - p.fr.length + p.to.length := by omega
 have hq3 : (0 : Int) ≤ (s.length : Int) - p.fr.length := by omega
 have hv : (applyF l p).2 = 2 := by unfold applyF; rw [if_neg hnf, if_neg (show ¬ p.kind = 1 by omega), hit]; rw [if_neg (show ¬ (y.kind = 0 ∨ (y.kind = 1 ∧ p.kind ≠ 3 ∧ p.kind ≠ 4)) by omega), if_neg (show ¬ (p.kind = 6 ∧ y.gone = false) by omega), if_neg (show ¬ (p.kind ≠ 6 ∧ y.gone = true) by rw [hgo]; simp), if_pos hk]; unfold wordsF; rw [hwt]; rw [if_neg (by rw [ho]; simp), if_pos hln]
 have HV := Lib.hid hv; clear hv
 clear hv0 hf0 hnf
 clear hk hfi hit hy hr hyk hs htx hwt ho hla htm hln hsw hwn hr1 hr2
 rw [HV.out]
 go_enter Tryz.func58, Tryz.ntmps58
 go_wp2_with fail
 refine (rvalid_any l _ c _ (HR0.out.below HBc.out) hl HSH.out).mono ?_
 rintro e w1 ⟨rfl, hbN⟩
 rw [HWB.out]
 have hb3 := after2 HBc hbN
 clear hbN HBc
 obtain ⟨HBc, hc, hf, hblk, zc0, zc1⟩ := hb3
 go_wp2_with fail
 refine (rformed_any p _ HPS.out HPN.out).mono ?_
 rintro e w2 ⟨rfl, hbN⟩
 rw [HFO.out]
 have hb3 := after2 HBc hbN
 clear hbN HBc hc hf hblk zc0 zc1
 obtain ⟨HBc, hc, hf, hblk, zc0, zc1⟩ := hb3
 go_wp2_with fail
 refine (rfind_any l _ c p.id _ (HR0.out.below HBc.out) (le_maxLen (by omega))).mono ?_
 rintro e w3 ⟨rfl, hbN⟩
 rw [HFI.out]
 have hb3 := after2 HBc hbN
 clear hbN HBc hc hf hblk zc0 zc1
 obtain ⟨HBc, hc, hf, hblk, zc0, zc1⟩ := hb3
 have HBc := Lib.hid (HBc.out.alloc HBc.out.size (.cells #[.int .i64 y.kind, vs y.id, vs y.par, vs y.num, vs y.no, vs y.so, .bool false] 27))
 go_wp2_with fail
 refine (rtext_at (x := { y with gone := false }) (g := p.lang) (s := s) HTX.out _).mono ?_
 rintro e w4 ⟨rfl, hbN⟩
 have hb3 := after2 HBc hbN
 clear hbN HBc hc hf hblk zc0 zc1
 obtain ⟨HBc, hc, hf, hblk, zc0, zc1⟩ := hb3
 go_wp2_with fail
 refine (rtimes_any s p.fr _ (by omega) (by omega)).mono ?_
 rintro e w9 ⟨rfl, rfl⟩
 rw [HTM.out]
 go_wp2_with fail
 go_ret
 exact ⟨rfl, HB0.out.trans (HBc.out.mono HB0.out.size)⟩
theorem rfail_2c1 (l : List Item) (A : Option Addr) (c : Nat) (p : Patch) (w : World) (hr : RdI w A l) (hl : l.length ≤ 1000000) (hsh : ∀ x ∈ l, x.Short) (hps : p.item.Short) (hpn : p.num.length ≤ maxLen) (hfr : p.fr.length ≤ 1000000) (htt : p.to.length ≤ 1000000) (hv0 : walkB l = true) (hf0 : rformB p = true) (hk : p.kind = 2) (k : Nat) (y : Item) (hfi : findI l p.id = k) (hy : l[k]? = some y) (hit : itemF l p.id = y) (hyk : y.kind = 2) (hgo : y.gone = false) (hla : p.lang = 1) (hno : y.no.length ≤ 400) (hso : y.so.length ≤ 400) (ho : onceIs (wordsText p y) p.fr = true) (hln : (wordsNew p y).length ≤ 400) : Calls Tryz.prog 58 #[.agg #[.slice A l.length c], p.agg] w fun e w' => e = .returned (.int .i64 (applyF l p).2) ∧ Below w.heap.size w w' := by
 have hb0 := two_up w A l c p
 have HB0 := Lib.hid hb0; clear hb0
 have HBc := Lib.hid (bself ((w.alloc (.cells #[.slice A l.length c] 24)).alloc (.cells (patCs p) 29)))
 have HR0 := Lib.hid (hr.below HB0.out)
 have HSH := Lib.hid hsh; clear hsh
 have HPS := Lib.hid hps; clear hps
 have HPN := Lib.hid hpn; clear hpn
 have HWB := Lib.hid hv0
 have HFO := Lib.hid hf0
 have hnf : ¬ (walkB l = false ∨ formedF p = false) := by rw [rform_eq, hv0, hf0]; simp
 obtain ⟨b1, o1, hA, hbs1, c0, c1, c2, c3, c4, c5, c6⟩ := hr.item hy
 have hkl : k < l.length := (List.getElem?_eq_some_iff.1 hy).1
 have hi0 : (0 : Int) ≤ k := by omega
 have hi1 : (k : Int) < l.length := by omega
 have hi2 : decide ((k : Int) < 0) = false := by simp
 have q0 : b1 < w.heap.size + 1 := by omega
 have q1 : b1 < w.heap.size + 1 + 1 := by omega
 have HFI := Lib.hid hfi
 subst hA
 have kb1 : (p.kind == 1) = false := by simp [hk]
 have kn1 : (p.kind != 1) = true := by simp [hk]
 have kb2 : (p.kind == 2) = true := by simp [hk]
 have kn2 : (p.kind != 2) = false := by simp [hk]
 have kb3 : (p.kind == 3) = false := by simp [hk]
 have kn3 : (p.kind != 3) = true := by simp [hk]
 have kb4 : (p.kind == 4) = false := by simp [hk]
 have kn4 : (p.kind != 4) = true := by simp [hk]
 have kb5 : (p.kind == 5) = false := by simp [hk]
 have kn5 : (p.kind != 5) = true := by simp [hk]
 have kb6 : (p.kind == 6) = false := by simp [hk]
 have kn6 : (p.kind != 6) = true := by simp [hk]
 have kb7 : (p.kind == 7) = false := by simp [hk]
 have kn7 : (p.kind != 7) = true := by simp [hk]
 have yk : (y.kind == 1) = false := by simp [hyk]
 obtain ⟨s, hs⟩ : ∃ s, s = y.no := ⟨_, rfl⟩
 have hsl : s.length ≤ 400 := by rw [hs]; assumption
 have htx : (if p.lang = 1 then y.no else y.so) = s := by rw [hs]; rw [if_pos hla]
 have HTX := Lib.hid htx
 have hwt : wordsText p y = s := htx
 rw [hwt] at ho
 obtain ⟨tm, htm⟩ : ∃ tm : Nat, timesL s p.fr = tm := ⟨_, rfl⟩
 have HTM := Lib.hid htm
 have tmb : ((tm : Int) != 1) = false := by rw [once_times, htm] at ho; simp at ho ⊢; omega
 have hsw := swap_len (u := p.to) ho
 have hwn : (wordsNew p y).length = (swap s p.fr p.to (onceAt s p.fr).toNat).length := by unfold wordsNew; rw [hwt]
 obtain ⟨ri, hr1, hr2⟩ := once_room ho
 have hq : decide ((400 : Int) < (s.length : Int) - p.fr.length + p.to.length) = false := by simp; omega
 have hq2 : (s.length : Int) - p.fr.length + p.to.length ≤ 400 := by omega
 have hq3 : (0 : Int) ≤ (s.length : Int) - p.fr.length := by omega
 have hv : (applyF l p).2 = 0 := by unfold applyF; rw [if_neg hnf, if_neg (show ¬ p.kind = 1 by omega), hit]; rw [if_neg (show ¬ (y.kind = 0 ∨ (y.kind = 1 ∧ p.kind ≠ 3 ∧ p.kind ≠ 4)) by omega), if_neg (show ¬ (p.kind = 6 ∧ y.gone = false) by omega), if_neg (show ¬ (p.kind ≠ 6 ∧ y.gone = true) by rw [hgo]; simp), if_pos hk]; unfold wordsF; rw [hwt]; rw [if_neg (by rw [ho]; simp), if_neg (by omega)]
 have HV := Lib.hid hv; clear hv
 clear hv0 hf0 hnf
 clear hk hfi hit hy hr hyk hs htx hwt ho hla htm hln hsw hwn hr1 hr2
 rw [HV.out]
 go_enter Tryz.func58, Tryz.ntmps58
 go_wp2_with fail
 refine (rvalid_any l _ c _ (HR0.out.below HBc.out) hl HSH.out).mono ?_
 rintro e w1 ⟨rfl, hbN⟩
 rw [HWB.out]
 have hb3 := after2 HBc hbN
 clear hbN HBc
 obtain ⟨HBc, hc, hf, hblk, zc0, zc1⟩ := hb3
 go_wp2_with fail
 refine (rformed_any p _ HPS.out HPN.out).mono ?_
 rintro e w2 ⟨rfl, hbN⟩
 rw [HFO.out]
 have hb3 := after2 HBc hbN
 clear hbN HBc hc hf hblk zc0 zc1
 obtain ⟨HBc, hc, hf, hblk, zc0, zc1⟩ := hb3
 go_wp2_with fail
 refine (rfind_any l _ c p.id _ (HR0.out.below HBc.out) (le_maxLen (by omega))).mono ?_
 rintro e w3 ⟨rfl, hbN⟩
 rw [HFI.out]
 have hb3 := after2 HBc hbN
 clear hbN HBc hc hf hblk zc0 zc1
 obtain ⟨HBc, hc, hf, hblk, zc0, zc1⟩ := hb3
 have HBc := Lib.hid (HBc.out.alloc HBc.out.size (.cells #[.int .i64 y.kind, vs y.id, vs y.par, vs y.num, vs y.no, vs y.so, .bool false] 27))
 go_wp2_with fail
 refine (rtext_at (x := { y with gone := false }) (g := p.lang) (s := s) HTX.out _).mono ?_
 rintro e w4 ⟨rfl, hbN⟩
 have hb3 := after2 HBc hbN
 clear hbN HBc hc hf hblk zc0 zc1
 obtain ⟨HBc, hc, hf, hblk, zc0, zc1⟩ := hb3
 go_wp2_with fail
 refine (rtimes_any s p.fr _ (by omega) (by omega)).mono ?_
 rintro e w9 ⟨rfl, rfl⟩
 rw [HTM.out]
 go_wp2_with fail
 go_ret
 exact ⟨rfl, HB0.out.trans (HBc.out.mono HB0.out.size)⟩
theorem rfail_2a2 (l : List Item) (A : Option Addr) (c : Nat) (p : Patch) (w : World) (hr : RdI w A l) (hl : l.length ≤ 1000000) (hsh : ∀ x ∈ l, x.Short) (hps : p.item.Short) (hpn : p.num.length ≤ maxLen) (hfr : p.fr.length ≤ 1000000) (htt : p.to.length ≤ 1000000) (hv0 : walkB l = true) (hf0 : rformB p = true) (hk : p.kind = 2) (k : Nat) (y : Item) (hfi : findI l p.id = k) (hy : l[k]? = some y) (hit : itemF l p.id = y) (hyk : y.kind = 2) (hgo : y.gone = false) (hla : p.lang = 2) (hno : y.no.length ≤ 400) (hso : y.so.length ≤ 400) (ho : onceIs (wordsText p y) p.fr = false) : Calls Tryz.prog 58 #[.agg #[.slice A l.length c], p.agg] w fun e w' => e = .returned (.int .i64 (applyF l p).2) ∧ Below w.heap.size w w' := by
 have hb0 := two_up w A l c p
 have HB0 := Lib.hid hb0; clear hb0
 have HBc := Lib.hid (bself ((w.alloc (.cells #[.slice A l.length c] 24)).alloc (.cells (patCs p) 29)))
 have HR0 := Lib.hid (hr.below HB0.out)
 have HSH := Lib.hid hsh; clear hsh
 have HPS := Lib.hid hps; clear hps
 have HPN := Lib.hid hpn; clear hpn
 have HWB := Lib.hid hv0
 have HFO := Lib.hid hf0
 have hnf : ¬ (walkB l = false ∨ formedF p = false) := by rw [rform_eq, hv0, hf0]; simp
 obtain ⟨b1, o1, hA, hbs1, c0, c1, c2, c3, c4, c5, c6⟩ := hr.item hy
 have hkl : k < l.length := (List.getElem?_eq_some_iff.1 hy).1
 have hi0 : (0 : Int) ≤ k := by omega
 have hi1 : (k : Int) < l.length := by omega
 have hi2 : decide ((k : Int) < 0) = false := by simp
 have q0 : b1 < w.heap.size + 1 := by omega
 have q1 : b1 < w.heap.size + 1 + 1 := by omega
 have HFI := Lib.hid hfi
 subst hA
 have kb1 : (p.kind == 1) = false := by simp [hk]
 have kn1 : (p.kind != 1) = true := by simp [hk]
 have kb2 : (p.kind == 2) = true := by simp [hk]
 have kn2 : (p.kind != 2) = false := by simp [hk]
 have kb3 : (p.kind == 3) = false := by simp [hk]
 have kn3 : (p.kind != 3) = true := by simp [hk]
 have kb4 : (p.kind == 4) = false := by simp [hk]
 have kn4 : (p.kind != 4) = true := by simp [hk]
 have kb5 : (p.kind == 5) = false := by simp [hk]
 have kn5 : (p.kind != 5) = true := by simp [hk]
 have kb6 : (p.kind == 6) = false := by simp [hk]
 have kn6 : (p.kind != 6) = true := by simp [hk]
 have kb7 : (p.kind == 7) = false := by simp [hk]
 have kn7 : (p.kind != 7) = true := by simp [hk]
 have yk : (y.kind == 1) = false := by simp [hyk]
 obtain ⟨s, hs⟩ : ∃ s, s = y.so := ⟨_, rfl⟩
 have hsl : s.length ≤ 400 := by rw [hs]; assumption
 have htx : (if p.lang = 1 then y.no else y.so) = s := by rw [hs]; rw [if_neg (by omega)]
 have HTX := Lib.hid htx
 have hwt : wordsText p y = s := htx
 rw [hwt] at ho
 obtain ⟨tm, htm⟩ : ∃ tm : Nat, timesL s p.fr = tm := ⟨_, rfl⟩
 have HTM := Lib.hid htm
 have tmb : ((tm : Int) != 1) = true := by rw [once_times, htm] at ho; simp at ho ⊢; omega
 have hv : (applyF l p).2 = 15 := by unfold applyF; rw [if_neg hnf, if_neg (show ¬ p.kind = 1 by omega), hit]; rw [if_neg (show ¬ (y.kind = 0 ∨ (y.kind = 1 ∧ p.kind ≠ 3 ∧ p.kind ≠ 4)) by omega), if_neg (show ¬ (p.kind = 6 ∧ y.gone = false) by omega), if_neg (show ¬ (p.kind ≠ 6 ∧ y.gone = true) by rw [hgo]; simp), if_pos hk]; unfold wordsF; rw [hwt]; rw [if_pos ho]
 have HV := Lib.hid hv; clear hv
 clear hv0 hf0 hnf
 clear hk hfi hit hy hr hyk hs htx hwt ho hla htm
 rw [HV.out]
 go_enter Tryz.func58, Tryz.ntmps58
 go_wp2_with fail
 refine (rvalid_any l _ c _ (HR0.out.below HBc.out) hl HSH.out).mono ?_
 rintro e w1 ⟨rfl, hbN⟩
 rw [HWB.out]
 have hb3 := after2 HBc hbN
 clear hbN HBc
 obtain ⟨HBc, hc, hf, hblk, zc0, zc1⟩ := hb3
 go_wp2_with fail
 refine (rformed_any p _ HPS.out HPN.out).mono ?_
 rintro e w2 ⟨rfl, hbN⟩
 rw [HFO.out]
 have hb3 := after2 HBc hbN
 clear hbN HBc hc hf hblk zc0 zc1
 obtain ⟨HBc, hc, hf, hblk, zc0, zc1⟩ := hb3
 go_wp2_with fail
 refine (rfind_any l _ c p.id _ (HR0.out.below HBc.out) (le_maxLen (by omega))).mono ?_
 rintro e w3 ⟨rfl, hbN⟩
 rw [HFI.out]
 have hb3 := after2 HBc hbN
 clear hbN HBc hc hf hblk zc0 zc1
 obtain ⟨HBc, hc, hf, hblk, zc0, zc1⟩ := hb3
 have HBc := Lib.hid (HBc.out.alloc HBc.out.size (.cells #[.int .i64 y.kind, vs y.id, vs y.par, vs y.num, vs y.no, vs y.so, .bool false] 27))
 go_wp2_with fail
 refine (rtext_at (x := { y with gone := false }) (g := p.lang) (s := s) HTX.out _).mono ?_
 rintro e w4 ⟨rfl, hbN⟩
 have hb3 := after2 HBc hbN
 clear hbN HBc hc hf hblk zc0 zc1
 obtain ⟨HBc, hc, hf, hblk, zc0, zc1⟩ := hb3
 go_wp2_with fail
 refine (rtimes_any s p.fr _ (by omega) (by omega)).mono ?_
 rintro e w9 ⟨rfl, rfl⟩
 rw [HTM.out]
 go_wp2_with fail
 go_ret
 exact ⟨rfl, HB0.out.trans (HBc.out.mono HB0.out.size)⟩
theorem rfail_2b2 (l : List Item) (A : Option Addr) (c : Nat) (p : Patch) (w : World) (hr : RdI w A l) (hl : l.length ≤ 1000000) (hsh : ∀ x ∈ l, x.Short) (hps : p.item.Short) (hpn : p.num.length ≤ maxLen) (hfr : p.fr.length ≤ 1000000) (htt : p.to.length ≤ 1000000) (hv0 : walkB l = true) (hf0 : rformB p = true) (hk : p.kind = 2) (k : Nat) (y : Item) (hfi : findI l p.id = k) (hy : l[k]? = some y) (hit : itemF l p.id = y) (hyk : y.kind = 2) (hgo : y.gone = false) (hla : p.lang = 2) (hno : y.no.length ≤ 400) (hso : y.so.length ≤ 400) (ho : onceIs (wordsText p y) p.fr = true) (hln : 400 < (wordsNew p y).length) : Calls Tryz.prog 58 #[.agg #[.slice A l.length c], p.agg] w fun e w' => e = .returned (.int .i64 (applyF l p).2) ∧ Below w.heap.size w w' := by
 have hb0 := two_up w A l c p
 have HB0 := Lib.hid hb0; clear hb0
 have HBc := Lib.hid (bself ((w.alloc (.cells #[.slice A l.length c] 24)).alloc (.cells (patCs p) 29)))
 have HR0 := Lib.hid (hr.below HB0.out)
 have HSH := Lib.hid hsh; clear hsh
 have HPS := Lib.hid hps; clear hps
 have HPN := Lib.hid hpn; clear hpn
 have HWB := Lib.hid hv0
 have HFO := Lib.hid hf0
 have hnf : ¬ (walkB l = false ∨ formedF p = false) := by rw [rform_eq, hv0, hf0]; simp
 obtain ⟨b1, o1, hA, hbs1, c0, c1, c2, c3, c4, c5, c6⟩ := hr.item hy
 have hkl : k < l.length := (List.getElem?_eq_some_iff.1 hy).1
 have hi0 : (0 : Int) ≤ k := by omega
 have hi1 : (k : Int) < l.length := by omega
 have hi2 : decide ((k : Int) < 0) = false := by simp
 have q0 : b1 < w.heap.size + 1 := by omega
 have q1 : b1 < w.heap.size + 1 + 1 := by omega
 have HFI := Lib.hid hfi
 subst hA
 have kb1 : (p.kind == 1) = false := by simp [hk]
 have kn1 : (p.kind != 1) = true := by simp [hk]
 have kb2 : (p.kind == 2) = true := by simp [hk]
 have kn2 : (p.kind != 2) = false := by simp [hk]
 have kb3 : (p.kind == 3) = false := by simp [hk]
 have kn3 : (p.kind != 3) = true := by simp [hk]
 have kb4 : (p.kind == 4) = false := by simp [hk]
 have kn4 : (p.kind != 4) = true := by simp [hk]
 have kb5 : (p.kind == 5) = false := by simp [hk]
 have kn5 : (p.kind != 5) = true := by simp [hk]
 have kb6 : (p.kind == 6) = false := by simp [hk]
 have kn6 : (p.kind != 6) = true := by simp [hk]
 have kb7 : (p.kind == 7) = false := by simp [hk]
 have kn7 : (p.kind != 7) = true := by simp [hk]
 have yk : (y.kind == 1) = false := by simp [hyk]
 obtain ⟨s, hs⟩ : ∃ s, s = y.so := ⟨_, rfl⟩
 have hsl : s.length ≤ 400 := by rw [hs]; assumption
 have htx : (if p.lang = 1 then y.no else y.so) = s := by rw [hs]; rw [if_neg (by omega)]
 have HTX := Lib.hid htx
 have hwt : wordsText p y = s := htx
 rw [hwt] at ho
 obtain ⟨tm, htm⟩ : ∃ tm : Nat, timesL s p.fr = tm := ⟨_, rfl⟩
 have HTM := Lib.hid htm
 have tmb : ((tm : Int) != 1) = false := by rw [once_times, htm] at ho; simp at ho ⊢; omega
 have hsw := swap_len (u := p.to) ho
 have hwn : (wordsNew p y).length = (swap s p.fr p.to (onceAt s p.fr).toNat).length := by unfold wordsNew; rw [hwt]
 obtain ⟨ri, hr1, hr2⟩ := once_room ho
 have hq : decide ((400 : Int) < (s.length : Int) - p.fr.length + p.to.length) = true := by simp; omega
 have hq2 : (400 : Int) < (s.length : Int) - p.fr.length + p.to.length := by omega
 have hq3 : (0 : Int) ≤ (s.length : Int) - p.fr.length := by omega
 have hv : (applyF l p).2 = 2 := by unfold applyF; rw [if_neg hnf, if_neg (show ¬ p.kind = 1 by omega), hit]; rw [if_neg (show ¬ (y.kind = 0 ∨ (y.kind = 1 ∧ p.kind ≠ 3 ∧ p.kind ≠ 4)) by omega), if_neg (show ¬ (p.kind = 6 ∧ y.gone = false) by omega), if_neg (show ¬ (p.kind ≠ 6 ∧ y.gone = true) by rw [hgo]; simp), if_pos hk]; unfold wordsF; rw [hwt]; rw [if_neg (by rw [ho]; simp), if_pos hln]
 have HV := Lib.hid hv; clear hv
 clear hv0 hf0 hnf
 clear hk hfi hit hy hr hyk hs htx hwt ho hla htm hln hsw hwn hr1 hr2
 rw [HV.out]
 go_enter Tryz.func58, Tryz.ntmps58
 go_wp2_with fail
 refine (rvalid_any l _ c _ (HR0.out.below HBc.out) hl HSH.out).mono ?_
 rintro e w1 ⟨rfl, hbN⟩
 rw [HWB.out]
 have hb3 := after2 HBc hbN
 clear hbN HBc
 obtain ⟨HBc, hc, hf, hblk, zc0, zc1⟩ := hb3
 go_wp2_with fail
 refine (rformed_any p _ HPS.out HPN.out).mono ?_
 rintro e w2 ⟨rfl, hbN⟩
 rw [HFO.out]
 have hb3 := after2 HBc hbN
 clear hbN HBc hc hf hblk zc0 zc1
 obtain ⟨HBc, hc, hf, hblk, zc0, zc1⟩ := hb3
 go_wp2_with fail
 refine (rfind_any l _ c p.id _ (HR0.out.below HBc.out) (le_maxLen (by omega))).mono ?_
 rintro e w3 ⟨rfl, hbN⟩
 rw [HFI.out]
 have hb3 := after2 HBc hbN
 clear hbN HBc hc hf hblk zc0 zc1
 obtain ⟨HBc, hc, hf, hblk, zc0, zc1⟩ := hb3
 have HBc := Lib.hid (HBc.out.alloc HBc.out.size (.cells #[.int .i64 y.kind, vs y.id, vs y.par, vs y.num, vs y.no, vs y.so, .bool false] 27))
 go_wp2_with fail
 refine (rtext_at (x := { y with gone := false }) (g := p.lang) (s := s) HTX.out _).mono ?_
 rintro e w4 ⟨rfl, hbN⟩
 have hb3 := after2 HBc hbN
 clear hbN HBc hc hf hblk zc0 zc1
 obtain ⟨HBc, hc, hf, hblk, zc0, zc1⟩ := hb3
 go_wp2_with fail
 refine (rtimes_any s p.fr _ (by omega) (by omega)).mono ?_
 rintro e w9 ⟨rfl, rfl⟩
 rw [HTM.out]
 go_wp2_with fail
 go_ret
 exact ⟨rfl, HB0.out.trans (HBc.out.mono HB0.out.size)⟩
theorem rfail_2c2 (l : List Item) (A : Option Addr) (c : Nat) (p : Patch) (w : World) (hr : RdI w A l) (hl : l.length ≤ 1000000) (hsh : ∀ x ∈ l, x.Short) (hps : p.item.Short) (hpn : p.num.length ≤ maxLen) (hfr : p.fr.length ≤ 1000000) (htt : p.to.length ≤ 1000000) (hv0 : walkB l = true) (hf0 : rformB p = true) (hk : p.kind = 2) (k : Nat) (y : Item) (hfi : findI l p.id = k) (hy : l[k]? = some y) (hit : itemF l p.id = y) (hyk : y.kind = 2) (hgo : y.gone = false) (hla : p.lang = 2) (hno : y.no.length ≤ 400) (hso : y.so.length ≤ 400) (ho : onceIs (wordsText p y) p.fr = true) (hln : (wordsNew p y).length ≤ 400) : Calls Tryz.prog 58 #[.agg #[.slice A l.length c], p.agg] w fun e w' => e = .returned (.int .i64 (applyF l p).2) ∧ Below w.heap.size w w' := by
 have hb0 := two_up w A l c p
 have HB0 := Lib.hid hb0; clear hb0
 have HBc := Lib.hid (bself ((w.alloc (.cells #[.slice A l.length c] 24)).alloc (.cells (patCs p) 29)))
 have HR0 := Lib.hid (hr.below HB0.out)
 have HSH := Lib.hid hsh; clear hsh
 have HPS := Lib.hid hps; clear hps
 have HPN := Lib.hid hpn; clear hpn
 have HWB := Lib.hid hv0
 have HFO := Lib.hid hf0
 have hnf : ¬ (walkB l = false ∨ formedF p = false) := by rw [rform_eq, hv0, hf0]; simp
 obtain ⟨b1, o1, hA, hbs1, c0, c1, c2, c3, c4, c5, c6⟩ := hr.item hy
 have hkl : k < l.length := (List.getElem?_eq_some_iff.1 hy).1
 have hi0 : (0 : Int) ≤ k := by omega
 have hi1 : (k : Int) < l.length := by omega
 have hi2 : decide ((k : Int) < 0) = false := by simp
 have q0 : b1 < w.heap.size + 1 := by omega
 have q1 : b1 < w.heap.size + 1 + 1 := by omega
 have HFI := Lib.hid hfi
 subst hA
 have kb1 : (p.kind == 1) = false := by simp [hk]
 have kn1 : (p.kind != 1) = true := by simp [hk]
 have kb2 : (p.kind == 2) = true := by simp [hk]
 have kn2 : (p.kind != 2) = false := by simp [hk]
 have kb3 : (p.kind == 3) = false := by simp [hk]
 have kn3 : (p.kind != 3) = true := by simp [hk]
 have kb4 : (p.kind == 4) = false := by simp [hk]
 have kn4 : (p.kind != 4) = true := by simp [hk]
 have kb5 : (p.kind == 5) = false := by simp [hk]
 have kn5 : (p.kind != 5) = true := by simp [hk]
 have kb6 : (p.kind == 6) = false := by simp [hk]
 have kn6 : (p.kind != 6) = true := by simp [hk]
 have kb7 : (p.kind == 7) = false := by simp [hk]
 have kn7 : (p.kind != 7) = true := by simp [hk]
 have yk : (y.kind == 1) = false := by simp [hyk]
 obtain ⟨s, hs⟩ : ∃ s, s = y.so := ⟨_, rfl⟩
 have hsl : s.length ≤ 400 := by rw [hs]; assumption
 have htx : (if p.lang = 1 then y.no else y.so) = s := by rw [hs]; rw [if_neg (by omega)]
 have HTX := Lib.hid htx
 have hwt : wordsText p y = s := htx
 rw [hwt] at ho
 obtain ⟨tm, htm⟩ : ∃ tm : Nat, timesL s p.fr = tm := ⟨_, rfl⟩
 have HTM := Lib.hid htm
 have tmb : ((tm : Int) != 1) = false := by rw [once_times, htm] at ho; simp at ho ⊢; omega
 have hsw := swap_len (u := p.to) ho
 have hwn : (wordsNew p y).length = (swap s p.fr p.to (onceAt s p.fr).toNat).length := by unfold wordsNew; rw [hwt]
 obtain ⟨ri, hr1, hr2⟩ := once_room ho
 have hq : decide ((400 : Int) < (s.length : Int) - p.fr.length + p.to.length) = false := by simp; omega
 have hq2 : (s.length : Int) - p.fr.length + p.to.length ≤ 400 := by omega
 have hq3 : (0 : Int) ≤ (s.length : Int) - p.fr.length := by omega
 have hv : (applyF l p).2 = 0 := by unfold applyF; rw [if_neg hnf, if_neg (show ¬ p.kind = 1 by omega), hit]; rw [if_neg (show ¬ (y.kind = 0 ∨ (y.kind = 1 ∧ p.kind ≠ 3 ∧ p.kind ≠ 4)) by omega), if_neg (show ¬ (p.kind = 6 ∧ y.gone = false) by omega), if_neg (show ¬ (p.kind ≠ 6 ∧ y.gone = true) by rw [hgo]; simp), if_pos hk]; unfold wordsF; rw [hwt]; rw [if_neg (by rw [ho]; simp), if_neg (by omega)]
 have HV := Lib.hid hv; clear hv
 clear hv0 hf0 hnf
 clear hk hfi hit hy hr hyk hs htx hwt ho hla htm hln hsw hwn hr1 hr2
 rw [HV.out]
 go_enter Tryz.func58, Tryz.ntmps58
 go_wp2_with fail
 refine (rvalid_any l _ c _ (HR0.out.below HBc.out) hl HSH.out).mono ?_
 rintro e w1 ⟨rfl, hbN⟩
 rw [HWB.out]
 have hb3 := after2 HBc hbN
 clear hbN HBc
 obtain ⟨HBc, hc, hf, hblk, zc0, zc1⟩ := hb3
 go_wp2_with fail
 refine (rformed_any p _ HPS.out HPN.out).mono ?_
 rintro e w2 ⟨rfl, hbN⟩
 rw [HFO.out]
 have hb3 := after2 HBc hbN
 clear hbN HBc hc hf hblk zc0 zc1
 obtain ⟨HBc, hc, hf, hblk, zc0, zc1⟩ := hb3
 go_wp2_with fail
 refine (rfind_any l _ c p.id _ (HR0.out.below HBc.out) (le_maxLen (by omega))).mono ?_
 rintro e w3 ⟨rfl, hbN⟩
 rw [HFI.out]
 have hb3 := after2 HBc hbN
 clear hbN HBc hc hf hblk zc0 zc1
 obtain ⟨HBc, hc, hf, hblk, zc0, zc1⟩ := hb3
 have HBc := Lib.hid (HBc.out.alloc HBc.out.size (.cells #[.int .i64 y.kind, vs y.id, vs y.par, vs y.num, vs y.no, vs y.so, .bool false] 27))
 go_wp2_with fail
 refine (rtext_at (x := { y with gone := false }) (g := p.lang) (s := s) HTX.out _).mono ?_
 rintro e w4 ⟨rfl, hbN⟩
 have hb3 := after2 HBc hbN
 clear hbN HBc hc hf hblk zc0 zc1
 obtain ⟨HBc, hc, hf, hblk, zc0, zc1⟩ := hb3
 go_wp2_with fail
 refine (rtimes_any s p.fr _ (by omega) (by omega)).mono ?_
 rintro e w9 ⟨rfl, rfl⟩
 rw [HTM.out]
 go_wp2_with fail
 go_ret
 exact ⟨rfl, HB0.out.trans (HBc.out.mono HB0.out.size)⟩
end Go.Proofs.YtfolcjkednmkoaaGreat
set_option maxRecDepth 20000
set_option maxHeartbeats 8000000
namespace Go.Proofs.YtfolcjkednmkoaaGreat
open Go.RowKit
theorem rfail_4at (l : List Item) (A : Option Addr) (c : Nat) (p : Patch) (w : World) (hr : RdI w A l) (hl : l.length ≤ 1000000) (hsh : ∀ x ∈ l, x.Short) (hps : p.item.Short) (hpn : p.num.length ≤ maxLen) (hfr : p.fr.length ≤ 1000000) (htt : p.to.length ≤ 1000000) (hv0 : walkB l = true) (hf0 : rformB p = true) (hk : p.kind = 4) (k : Nat) (y : Item) (hfi : findI l p.id = k) (hy : l[k]? = some y) (hit : itemF l p.id = y) (hyk : y.kind = 1 ∨ y.kind = 2) (yk : (y.kind == 1) = true) (hgo : y.gone = false) (hex : rexB l p.par p.aft = false) : Calls Tryz.prog 58 #[.agg #[.slice A l.length c], p.agg] w fun e w' => e = .returned (.int .i64 (applyF l p).2) ∧ Below w.heap.size w w' := by
 have hb0 := two_up w A l c p
 have HB0 := Lib.hid hb0; clear hb0
 have HBc := Lib.hid (bself ((w.alloc (.cells #[.slice A l.length c] 24)).alloc (.cells (patCs p) 29)))
 have HR0 := Lib.hid (hr.below HB0.out)
 have HSH := Lib.hid hsh; clear hsh
 have HPS := Lib.hid hps; clear hps
 have HPN := Lib.hid hpn; clear hpn
 have HWB := Lib.hid hv0
 have HFO := Lib.hid hf0
 have hnf : ¬ (walkB l = false ∨ formedF p = false) := by rw [rform_eq, hv0, hf0]; simp
 obtain ⟨b1, o1, hA, hbs1, c0, c1, c2, c3, c4, c5, c6⟩ := hr.item hy
 have hkl : k < l.length := (List.getElem?_eq_some_iff.1 hy).1
 have hi0 : (0 : Int) ≤ k := by omega
 have hi1 : (k : Int) < l.length := by omega
 have hi2 : decide ((k : Int) < 0) = false := by simp
 have q0 : b1 < w.heap.size + 1 := by omega
 have q1 : b1 < w.heap.size + 1 + 1 := by omega
 have HFI := Lib.hid hfi
 subst hA
 have kb1 : (p.kind == 1) = false := by simp [hk]
 have kn1 : (p.kind != 1) = true := by simp [hk]
 have kb2 : (p.kind == 2) = false := by simp [hk]
 have kn2 : (p.kind != 2) = true := by simp [hk]
 have kb3 : (p.kind == 3) = false := by simp [hk]
 have kn3 : (p.kind != 3) = true := by simp [hk]
 have kb4 : (p.kind == 4) = true := by simp [hk]
 have kn4 : (p.kind != 4) = false := by simp [hk]
 have kb5 : (p.kind == 5) = false := by simp [hk]
 have kn5 : (p.kind != 5) = true := by simp [hk]
 have kb6 : (p.kind == 6) = false := by simp [hk]
 have kn6 : (p.kind != 6) = true := by simp [hk]
 have kb7 : (p.kind == 7) = false := by simp [hk]
 have kn7 : (p.kind != 7) = true := by simp [hk]
 have HEX := Lib.hid hex
 rw [rex_eq hv0] at hex
 have hmo : moveOk l p = false := by unfold moveOk; simp only [hex]; rfl
 have hv : (applyF l p).2 = 14 := by unfold applyF; rw [if_neg hnf, if_neg (show ¬ p.kind = 1 by omega), hit]; rw [if_neg (show ¬ (y.kind = 0 ∨ (y.kind = 1 ∧ p.kind ≠ 3 ∧ p.kind ≠ 4)) by omega), if_neg (show ¬ (p.kind = 6 ∧ y.gone = false) by omega), if_neg (show ¬ (p.kind ≠ 6 ∧ y.gone = true) by rw [hgo]; simp), if_neg (by omega), if_neg (by omega), if_pos hk]; unfold moveF; rw [if_neg (by rw [hmo]; simp)]
 have HV := Lib.hid hv; clear hv
 clear hv0 hf0 hnf
 clear hk hfi hit hy hr hyk hex hmo
 rw [HV.out]
 go_enter Tryz.func58, Tryz.ntmps58
 go_wp2_with fail
 refine (rvalid_any l _ c _ (HR0.out.below HBc.out) hl HSH.out).mono ?_
 rintro e w1 ⟨rfl, hbN⟩
 rw [HWB.out]
 have hb3 := after2 HBc hbN
 clear hbN HBc
 obtain ⟨HBc, hc, hf, hblk, zc0, zc1⟩ := hb3
 go_wp2_with fail
 refine (rformed_any p _ HPS.out HPN.out).mono ?_
 rintro e w2 ⟨rfl, hbN⟩
 rw [HFO.out]
 have hb3 := after2 HBc hbN
 clear hbN HBc hc hf hblk zc0 zc1
 obtain ⟨HBc, hc, hf, hblk, zc0, zc1⟩ := hb3
 go_wp2_with fail
 refine (rfind_any l _ c p.id _ (HR0.out.below HBc.out) (le_maxLen (by omega))).mono ?_
 rintro e w3 ⟨rfl, hbN⟩
 rw [HFI.out]
 have hb3 := after2 HBc hbN
 clear hbN HBc hc hf hblk zc0 zc1
 obtain ⟨HBc, hc, hf, hblk, zc0, zc1⟩ := hb3
 have HBc := Lib.hid (HBc.out.alloc HBc.out.size (.cells #[.int .i64 y.kind, vs y.id, vs y.par, vs y.num, vs y.no, vs y.so, .bool false] 27))
 go_wp2_with fail
 refine (rexists_any l _ c p.par p.aft _ (HR0.out.below HBc.out) hl).mono ?_
 rintro e w4 ⟨rfl, hbN⟩
 rw [HEX.out]
 have hb3 := after2 HBc hbN
 clear hbN HBc hc hf hblk zc0 zc1
 obtain ⟨HBc, hc, hf, hblk, zc0, zc1⟩ := hb3
 go_wp2_with fail
 go_ret
 exact ⟨rfl, HB0.out.trans (HBc.out.mono HB0.out.size)⟩
theorem rfail_4bt (l : List Item) (A : Option Addr) (c : Nat) (p : Patch) (w : World) (hr : RdI w A l) (hl : l.length ≤ 1000000) (hsh : ∀ x ∈ l, x.Short) (hps : p.item.Short) (hpn : p.num.length ≤ maxLen) (hfr : p.fr.length ≤ 1000000) (htt : p.to.length ≤ 1000000) (hv0 : walkB l = true) (hf0 : rformB p = true) (hk : p.kind = 4) (k : Nat) (y : Item) (hfi : findI l p.id = k) (hy : l[k]? = some y) (hit : itemF l p.id = y) (hyk : y.kind = 1 ∨ y.kind = 2) (yk : (y.kind == 1) = true) (hgo : y.gone = false) (hex : rexB l p.par p.aft = true) (hpi : p.par = p.id) : Calls Tryz.prog 58 #[.agg #[.slice A l.length c], p.agg] w fun e w' => e = .returned (.int .i64 (applyF l p).2) ∧ Below w.heap.size w w' := by
 have hb0 := two_up w A l c p
 have HB0 := Lib.hid hb0; clear hb0
 have HBc := Lib.hid (bself ((w.alloc (.cells #[.slice A l.length c] 24)).alloc (.cells (patCs p) 29)))
 have HR0 := Lib.hid (hr.below HB0.out)
 have HSH := Lib.hid hsh; clear hsh
 have HPS := Lib.hid hps; clear hps
 have HPN := Lib.hid hpn; clear hpn
 have HWB := Lib.hid hv0
 have HFO := Lib.hid hf0
 have hnf : ¬ (walkB l = false ∨ formedF p = false) := by rw [rform_eq, hv0, hf0]; simp
 obtain ⟨b1, o1, hA, hbs1, c0, c1, c2, c3, c4, c5, c6⟩ := hr.item hy
 have hkl : k < l.length := (List.getElem?_eq_some_iff.1 hy).1
 have hi0 : (0 : Int) ≤ k := by omega
 have hi1 : (k : Int) < l.length := by omega
 have hi2 : decide ((k : Int) < 0) = false := by simp
 have q0 : b1 < w.heap.size + 1 := by omega
 have q1 : b1 < w.heap.size + 1 + 1 := by omega
 have HFI := Lib.hid hfi
 subst hA
 have kb1 : (p.kind == 1) = false := by simp [hk]
 have kn1 : (p.kind != 1) = true := by simp [hk]
 have kb2 : (p.kind == 2) = false := by simp [hk]
 have kn2 : (p.kind != 2) = true := by simp [hk]
 have kb3 : (p.kind == 3) = false := by simp [hk]
 have kn3 : (p.kind != 3) = true := by simp [hk]
 have kb4 : (p.kind == 4) = true := by simp [hk]
 have kn4 : (p.kind != 4) = false := by simp [hk]
 have kb5 : (p.kind == 5) = false := by simp [hk]
 have kn5 : (p.kind != 5) = true := by simp [hk]
 have kb6 : (p.kind == 6) = false := by simp [hk]
 have kn6 : (p.kind != 6) = true := by simp [hk]
 have kb7 : (p.kind == 7) = false := by simp [hk]
 have kn7 : (p.kind != 7) = true := by simp [hk]
 have HEX := Lib.hid hex
 rw [rex_eq hv0] at hex
 have ehpi : (p.par == p.id) = true := by simp [hpi]
 have hmo : moveOk l p = false := by unfold moveOk; simp only [hex, ehpi]; rfl
 have hv : (applyF l p).2 = 14 := by unfold applyF; rw [if_neg hnf, if_neg (show ¬ p.kind = 1 by omega), hit]; rw [if_neg (show ¬ (y.kind = 0 ∨ (y.kind = 1 ∧ p.kind ≠ 3 ∧ p.kind ≠ 4)) by omega), if_neg (show ¬ (p.kind = 6 ∧ y.gone = false) by omega), if_neg (show ¬ (p.kind ≠ 6 ∧ y.gone = true) by rw [hgo]; simp), if_neg (by omega), if_neg (by omega), if_pos hk]; unfold moveF; rw [if_neg (by rw [hmo]; simp)]
 have HV := Lib.hid hv; clear hv
 clear hv0 hf0 hnf
 clear hk hfi hit hy hr hyk hex hpi hmo
 rw [HV.out]
 go_enter Tryz.func58, Tryz.ntmps58
 go_wp2_with fail
 refine (rvalid_any l _ c _ (HR0.out.below HBc.out) hl HSH.out).mono ?_
 rintro e w1 ⟨rfl, hbN⟩
 rw [HWB.out]
 have hb3 := after2 HBc hbN
 clear hbN HBc
 obtain ⟨HBc, hc, hf, hblk, zc0, zc1⟩ := hb3
 go_wp2_with fail
 refine (rformed_any p _ HPS.out HPN.out).mono ?_
 rintro e w2 ⟨rfl, hbN⟩
 rw [HFO.out]
 have hb3 := after2 HBc hbN
 clear hbN HBc hc hf hblk zc0 zc1
 obtain ⟨HBc, hc, hf, hblk, zc0, zc1⟩ := hb3
 go_wp2_with fail
 refine (rfind_any l _ c p.id _ (HR0.out.below HBc.out) (le_maxLen (by omega))).mono ?_
 rintro e w3 ⟨rfl, hbN⟩
 rw [HFI.out]
 have hb3 := after2 HBc hbN
 clear hbN HBc hc hf hblk zc0 zc1
 obtain ⟨HBc, hc, hf, hblk, zc0, zc1⟩ := hb3
 have HBc := Lib.hid (HBc.out.alloc HBc.out.size (.cells #[.int .i64 y.kind, vs y.id, vs y.par, vs y.num, vs y.no, vs y.so, .bool false] 27))
 go_wp2_with fail
 refine (rexists_any l _ c p.par p.aft _ (HR0.out.below HBc.out) hl).mono ?_
 rintro e w4 ⟨rfl, hbN⟩
 rw [HEX.out]
 have hb3 := after2 HBc hbN
 clear hbN HBc hc hf hblk zc0 zc1
 obtain ⟨HBc, hc, hf, hblk, zc0, zc1⟩ := hb3
 go_wp2_with fail
 go_ret
 exact ⟨rfl, HB0.out.trans (HBc.out.mono HB0.out.size)⟩
theorem rfail_4ct (l : List Item) (A : Option Addr) (c : Nat) (p : Patch) (w : World) (hr : RdI w A l) (hl : l.length ≤ 1000000) (hsh : ∀ x ∈ l, x.Short) (hps : p.item.Short) (hpn : p.num.length ≤ maxLen) (hfr : p.fr.length ≤ 1000000) (htt : p.to.length ≤ 1000000) (hv0 : walkB l = true) (hf0 : rformB p = true) (hk : p.kind = 4) (k : Nat) (y : Item) (hfi : findI l p.id = k) (hy : l[k]? = some y) (hit : itemF l p.id = y) (hyk : y.kind = 1 ∨ y.kind = 2) (yk : (y.kind == 1) = true) (hgo : y.gone = false) (hex : rexB l p.par p.aft = true) (hpi : p.par ≠ p.id) (hai : p.aft = p.id) : Calls Tryz.prog 58 #[.agg #[.slice A l.length c], p.agg] w fun e w' => e = .returned (.int .i64 (applyF l p).2) ∧ Below w.heap.size w w' := by
 have hb0 := two_up w A l c p
 have HB0 := Lib.hid hb0; clear hb0
 have HBc := Lib.hid (bself ((w.alloc (.cells #[.slice A l.length c] 24)).alloc (.cells (patCs p) 29)))
 have HR0 := Lib.hid (hr.below HB0.out)
 have HSH := Lib.hid hsh; clear hsh
 have HPS := Lib.hid hps; clear hps
 have HPN := Lib.hid hpn; clear hpn
 have HWB := Lib.hid hv0
 have HFO := Lib.hid hf0
 have hnf : ¬ (walkB l = false ∨ formedF p = false) := by rw [rform_eq, hv0, hf0]; simp
 obtain ⟨b1, o1, hA, hbs1, c0, c1, c2, c3, c4, c5, c6⟩ := hr.item hy
 have hkl : k < l.length := (List.getElem?_eq_some_iff.1 hy).1
 have hi0 : (0 : Int) ≤ k := by omega
 have hi1 : (k : Int) < l.length := by omega
 have hi2 : decide ((k : Int) < 0) = false := by simp
 have q0 : b1 < w.heap.size + 1 := by omega
 have q1 : b1 < w.heap.size + 1 + 1 := by omega
 have HFI := Lib.hid hfi
 subst hA
 have kb1 : (p.kind == 1) = false := by simp [hk]
 have kn1 : (p.kind != 1) = true := by simp [hk]
 have kb2 : (p.kind == 2) = false := by simp [hk]
 have kn2 : (p.kind != 2) = true := by simp [hk]
 have kb3 : (p.kind == 3) = false := by simp [hk]
 have kn3 : (p.kind != 3) = true := by simp [hk]
 have kb4 : (p.kind == 4) = true := by simp [hk]
 have kn4 : (p.kind != 4) = false := by simp [hk]
 have kb5 : (p.kind == 5) = false := by simp [hk]
 have kn5 : (p.kind != 5) = true := by simp [hk]
 have kb6 : (p.kind == 6) = false := by simp [hk]
 have kn6 : (p.kind != 6) = true := by simp [hk]
 have kb7 : (p.kind == 7) = false := by simp [hk]
 have kn7 : (p.kind != 7) = true := by simp [hk]
 have HEX := Lib.hid hex
 rw [rex_eq hv0] at hex
 have ehpi : (p.par == p.id) = false := by simpa using hpi
 have ehai : (p.aft == p.id) = true := by simp [hai]
 have hmo : moveOk l p = false := by unfold moveOk; simp only [hex, ehpi, ehai]; rfl
 have hv : (applyF l p).2 = 14 := by unfold applyF; rw [if_neg hnf, if_neg (show ¬ p.kind = 1 by omega), hit]; rw [if_neg (show ¬ (y.kind = 0 ∨ (y.kind = 1 ∧ p.kind ≠ 3 ∧ p.kind ≠ 4)) by omega), if_neg (show ¬ (p.kind = 6 ∧ y.gone = false) by omega), if_neg (show ¬ (p.kind ≠ 6 ∧ y.gone = true) by rw [hgo]; simp), if_neg (by omega), if_neg (by omega), if_pos hk]; unfold moveF; rw [if_neg (by rw [hmo]; simp)]
 have HV := Lib.hid hv; clear hv
 clear hv0 hf0 hnf
 clear hk hfi hit hy hr hyk hex hpi hai hmo
 rw [HV.out]
 go_enter Tryz.func58, Tryz.ntmps58
 go_wp2_with fail
 refine (rvalid_any l _ c _ (HR0.out.below HBc.out) hl HSH.out).mono ?_
 rintro e w1 ⟨rfl, hbN⟩
 rw [HWB.out]
 have hb3 := after2 HBc hbN
 clear hbN HBc
 obtain ⟨HBc, hc, hf, hblk, zc0, zc1⟩ := hb3
 go_wp2_with fail
 refine (rformed_any p _ HPS.out HPN.out).mono ?_
 rintro e w2 ⟨rfl, hbN⟩
 rw [HFO.out]
 have hb3 := after2 HBc hbN
 clear hbN HBc hc hf hblk zc0 zc1
 obtain ⟨HBc, hc, hf, hblk, zc0, zc1⟩ := hb3
 go_wp2_with fail
 refine (rfind_any l _ c p.id _ (HR0.out.below HBc.out) (le_maxLen (by omega))).mono ?_
 rintro e w3 ⟨rfl, hbN⟩
 rw [HFI.out]
 have hb3 := after2 HBc hbN
 clear hbN HBc hc hf hblk zc0 zc1
 obtain ⟨HBc, hc, hf, hblk, zc0, zc1⟩ := hb3
 have HBc := Lib.hid (HBc.out.alloc HBc.out.size (.cells #[.int .i64 y.kind, vs y.id, vs y.par, vs y.num, vs y.no, vs y.so, .bool false] 27))
 go_wp2_with fail
 refine (rexists_any l _ c p.par p.aft _ (HR0.out.below HBc.out) hl).mono ?_
 rintro e w4 ⟨rfl, hbN⟩
 rw [HEX.out]
 have hb3 := after2 HBc hbN
 clear hbN HBc hc hf hblk zc0 zc1
 obtain ⟨HBc, hc, hf, hblk, zc0, zc1⟩ := hb3
 go_wp2_with fail
 go_ret
 exact ⟨rfl, HB0.out.trans (HBc.out.mono HB0.out.size)⟩
theorem rfail_4dt (l : List Item) (A : Option Addr) (c : Nat) (p : Patch) (w : World) (hr : RdI w A l) (hl : l.length ≤ 1000000) (hsh : ∀ x ∈ l, x.Short) (hps : p.item.Short) (hpn : p.num.length ≤ maxLen) (hfr : p.fr.length ≤ 1000000) (htt : p.to.length ≤ 1000000) (hv0 : walkB l = true) (hf0 : rformB p = true) (hk : p.kind = 4) (k : Nat) (y : Item) (hfi : findI l p.id = k) (hy : l[k]? = some y) (hit : itemF l p.id = y) (hyk : y.kind = 1 ∨ y.kind = 2) (yk : (y.kind == 1) = true) (hgo : y.gone = false) (hex : rexB l p.par p.aft = true) (hpi : p.par ≠ p.id) (hai : p.aft ≠ p.id) (hpe : p.par = []) : Calls Tryz.prog 58 #[.agg #[.slice A l.length c], p.agg] w fun e w' => e = .returned (.int .i64 (applyF l p).2) ∧ Below w.heap.size w w' := by
 have hb0 := two_up w A l c p
 have HB0 := Lib.hid hb0; clear hb0
 have HBc := Lib.hid (bself ((w.alloc (.cells #[.slice A l.length c] 24)).alloc (.cells (patCs p) 29)))
 have HR0 := Lib.hid (hr.below HB0.out)
 have HSH := Lib.hid hsh; clear hsh
 have HPS := Lib.hid hps; clear hps
 have HPN := Lib.hid hpn; clear hpn
 have HWB := Lib.hid hv0
 have HFO := Lib.hid hf0
 have hnf : ¬ (walkB l = false ∨ formedF p = false) := by rw [rform_eq, hv0, hf0]; simp
 obtain ⟨b1, o1, hA, hbs1, c0, c1, c2, c3, c4, c5, c6⟩ := hr.item hy
 have hkl : k < l.length := (List.getElem?_eq_some_iff.1 hy).1
 have hi0 : (0 : Int) ≤ k := by omega
 have hi1 : (k : Int) < l.length := by omega
 have hi2 : decide ((k : Int) < 0) = false := by simp
 have q0 : b1 < w.heap.size + 1 := by omega
 have q1 : b1 < w.heap.size + 1 + 1 := by omega
 have HFI := Lib.hid hfi
 subst hA
 have kb1 : (p.kind == 1) = false := by simp [hk]
 have kn1 : (p.kind != 1) = true := by simp [hk]
 have kb2 : (p.kind == 2) = false := by simp [hk]
 have kn2 : (p.kind != 2) = true := by simp [hk]
 have kb3 : (p.kind == 3) = false := by simp [hk]
 have kn3 : (p.kind != 3) = true := by simp [hk]
 have kb4 : (p.kind == 4) = true := by simp [hk]
 have kn4 : (p.kind != 4) = false := by simp [hk]
 have kb5 : (p.kind == 5) = false := by simp [hk]
 have kn5 : (p.kind != 5) = true := by simp [hk]
 have kb6 : (p.kind == 6) = false := by simp [hk]
 have kn6 : (p.kind != 6) = true := by simp [hk]
 have kb7 : (p.kind == 7) = false := by simp [hk]
 have kn7 : (p.kind != 7) = true := by simp [hk]
 have HEX := Lib.hid hex
 rw [rex_eq hv0] at hex
 have ehpi : (p.par == p.id) = false := by simpa using hpi
 have ehai : (p.aft == p.id) = false := by simpa using hai
 obtain ⟨n1, n2, n3⟩ := emp_tests hpe
 have hmo : moveOk l p = true := by unfold moveOk; simp only [hex, ehpi, ehai, n3]; rfl
 have hv : (applyF l p).2 = 0 := by unfold applyF; rw [if_neg hnf, if_neg (show ¬ p.kind = 1 by omega), hit]; rw [if_neg (show ¬ (y.kind = 0 ∨ (y.kind = 1 ∧ p.kind ≠ 3 ∧ p.kind ≠ 4)) by omega), if_neg (show ¬ (p.kind = 6 ∧ y.gone = false) by omega), if_neg (show ¬ (p.kind ≠ 6 ∧ y.gone = true) by rw [hgo]; simp), if_neg (by omega), if_neg (by omega), if_pos hk]; unfold moveF; rw [if_pos hmo]
 have HV := Lib.hid hv; clear hv
 clear hv0 hf0 hnf
 clear hk hfi hit hy hr hyk hex hpi hai hpe hmo
 rw [HV.out]
 go_enter Tryz.func58, Tryz.ntmps58
 go_wp2_with fail
 refine (rvalid_any l _ c _ (HR0.out.below HBc.out) hl HSH.out).mono ?_
 rintro e w1 ⟨rfl, hbN⟩
 rw [HWB.out]
 have hb3 := after2 HBc hbN
 clear hbN HBc
 obtain ⟨HBc, hc, hf, hblk, zc0, zc1⟩ := hb3
 go_wp2_with fail
 refine (rformed_any p _ HPS.out HPN.out).mono ?_
 rintro e w2 ⟨rfl, hbN⟩
 rw [HFO.out]
 have hb3 := after2 HBc hbN
 clear hbN HBc hc hf hblk zc0 zc1
 obtain ⟨HBc, hc, hf, hblk, zc0, zc1⟩ := hb3
 go_wp2_with fail
 refine (rfind_any l _ c p.id _ (HR0.out.below HBc.out) (le_maxLen (by omega))).mono ?_
 rintro e w3 ⟨rfl, hbN⟩
 rw [HFI.out]
 have hb3 := after2 HBc hbN
 clear hbN HBc hc hf hblk zc0 zc1
 obtain ⟨HBc, hc, hf, hblk, zc0, zc1⟩ := hb3
 have HBc := Lib.hid (HBc.out.alloc HBc.out.size (.cells #[.int .i64 y.kind, vs y.id, vs y.par, vs y.num, vs y.no, vs y.so, .bool false] 27))
 go_wp2_with fail
 refine (rexists_any l _ c p.par p.aft _ (HR0.out.below HBc.out) hl).mono ?_
 rintro e w4 ⟨rfl, hbN⟩
 rw [HEX.out]
 have hb3 := after2 HBc hbN
 clear hbN HBc hc hf hblk zc0 zc1
 obtain ⟨HBc, hc, hf, hblk, zc0, zc1⟩ := hb3
 go_wp2_with fail
 go_ret
 exact ⟨rfl, HB0.out.trans (HBc.out.mono HB0.out.size)⟩
theorem rfail_4et (l : List Item) (A : Option Addr) (c : Nat) (p : Patch) (w : World) (hr : RdI w A l) (hl : l.length ≤ 1000000) (hsh : ∀ x ∈ l, x.Short) (hps : p.item.Short) (hpn : p.num.length ≤ maxLen) (hfr : p.fr.length ≤ 1000000) (htt : p.to.length ≤ 1000000) (hv0 : walkB l = true) (hf0 : rformB p = true) (hk : p.kind = 4) (k : Nat) (y : Item) (hfi : findI l p.id = k) (hy : l[k]? = some y) (hit : itemF l p.id = y) (hyk : y.kind = 1 ∨ y.kind = 2) (yk : (y.kind == 1) = true) (hgo : y.gone = false) (hex : rexB l p.par p.aft = true) (hpi : p.par ≠ p.id) (hai : p.aft ≠ p.id) (hpe : p.par ≠ []) (hun : underB l p.par p.id = true) : Calls Tryz.prog 58 #[.agg #[.slice A l.length c], p.agg] w fun e w' => e = .returned (.int .i64 (applyF l p).2) ∧ Below w.heap.size w w' := by
 have hb0 := two_up w A l c p
 have HB0 := Lib.hid hb0; clear hb0
 have HBc := Lib.hid (bself ((w.alloc (.cells #[.slice A l.length c] 24)).alloc (.cells (patCs p) 29)))
 have HR0 := Lib.hid (hr.below HB0.out)
 have HSH := Lib.hid hsh; clear hsh
 have HPS := Lib.hid hps; clear hps
 have HPN := Lib.hid hpn; clear hpn
 have HWB := Lib.hid hv0
 have HFO := Lib.hid hf0
 have hnf : ¬ (walkB l = false ∨ formedF p = false) := by rw [rform_eq, hv0, hf0]; simp
 obtain ⟨b1, o1, hA, hbs1, c0, c1, c2, c3, c4, c5, c6⟩ := hr.item hy
 have hkl : k < l.length := (List.getElem?_eq_some_iff.1 hy).1
 have hi0 : (0 : Int) ≤ k := by omega
 have hi1 : (k : Int) < l.length := by omega
 have hi2 : decide ((k : Int) < 0) = false := by simp
 have q0 : b1 < w.heap.size + 1 := by omega
 have q1 : b1 < w.heap.size + 1 + 1 := by omega
 have HFI := Lib.hid hfi
 subst hA
 have kb1 : (p.kind == 1) = false := by simp [hk]
 have kn1 : (p.kind != 1) = true := by simp [hk]
 have kb2 : (p.kind == 2) = false := by simp [hk]
 have kn2 : (p.kind != 2) = true := by simp [hk]
 have kb3 : (p.kind == 3) = false := by simp [hk]
 have kn3 : (p.kind != 3) = true := by simp [hk]
 have kb4 : (p.kind == 4) = true := by simp [hk]
 have kn4 : (p.kind != 4) = false := by simp [hk]
 have kb5 : (p.kind == 5) = false := by simp [hk]
 have kn5 : (p.kind != 5) = true := by simp [hk]
 have kb6 : (p.kind == 6) = false := by simp [hk]
 have kn6 : (p.kind != 6) = true := by simp [hk]
 have kb7 : (p.kind == 7) = false := by simp [hk]
 have kn7 : (p.kind != 7) = true := by simp [hk]
 have HEX := Lib.hid hex
 rw [rex_eq hv0] at hex
 have ehpi : (p.par == p.id) = false := by simpa using hpi
 have ehai : (p.aft == p.id) = false := by simpa using hai
 obtain ⟨n1, n2, n3⟩ := str_tests hpe
 have HUN := Lib.hid hun
 have hmo : moveOk l p = false := by unfold moveOk; simp only [hex, ehpi, ehai, n3, hun]; rfl
 have hv : (applyF l p).2 = 14 := by unfold applyF; rw [if_neg hnf, if_neg (show ¬ p.kind = 1 by omega), hit]; rw [if_neg (show ¬ (y.kind = 0 ∨ (y.kind = 1 ∧ p.kind ≠ 3 ∧ p.kind ≠ 4)) by omega), if_neg (show ¬ (p.kind = 6 ∧ y.gone = false) by omega), if_neg (show ¬ (p.kind ≠ 6 ∧ y.gone = true) by rw [hgo]; simp), if_neg (by omega), if_neg (by omega), if_pos hk]; unfold moveF; rw [if_neg (by rw [hmo]; simp)]
 have HV := Lib.hid hv; clear hv
 clear hv0 hf0 hnf
 clear hk hfi hit hy hr hyk hex hpi hai hpe hun hmo
 rw [HV.out]
 go_enter Tryz.func58, Tryz.ntmps58
 go_wp2_with fail
 refine (rvalid_any l _ c _ (HR0.out.below HBc.out) hl HSH.out).mono ?_
 rintro e w1 ⟨rfl, hbN⟩
 rw [HWB.out]
 have hb3 := after2 HBc hbN
 clear hbN HBc
 obtain ⟨HBc, hc, hf, hblk, zc0, zc1⟩ := hb3
 go_wp2_with fail
 refine (rformed_any p _ HPS.out HPN.out).mono ?_
 rintro e w2 ⟨rfl, hbN⟩
 rw [HFO.out]
 have hb3 := after2 HBc hbN
 clear hbN HBc hc hf hblk zc0 zc1
 obtain ⟨HBc, hc, hf, hblk, zc0, zc1⟩ := hb3
 go_wp2_with fail
 refine (rfind_any l _ c p.id _ (HR0.out.below HBc.out) (le_maxLen (by omega))).mono ?_
 rintro e w3 ⟨rfl, hbN⟩
 rw [HFI.out]
 have hb3 := after2 HBc hbN
 clear hbN HBc hc hf hblk zc0 zc1
 obtain ⟨HBc, hc, hf, hblk, zc0, zc1⟩ := hb3
 have HBc := Lib.hid (HBc.out.alloc HBc.out.size (.cells #[.int .i64 y.kind, vs y.id, vs y.par, vs y.num, vs y.no, vs y.so, .bool false] 27))
 go_wp2_with fail
 refine (rexists_any l _ c p.par p.aft _ (HR0.out.below HBc.out) hl).mono ?_
 rintro e w4 ⟨rfl, hbN⟩
 rw [HEX.out]
 have hb3 := after2 HBc hbN
 clear hbN HBc hc hf hblk zc0 zc1
 obtain ⟨HBc, hc, hf, hblk, zc0, zc1⟩ := hb3
 go_wp2_with fail
 refine (runder_any l _ c p.par p.id _ (HR0.out.below HBc.out) hl HSH.out).mono ?_
 rintro e w5 ⟨rfl, hbN⟩
 rw [HUN.out]
 have hb3 := after2 HBc hbN
 clear hbN HBc hc hf hblk zc0 zc1
 obtain ⟨HBc, hc, hf, hblk, zc0, zc1⟩ := hb3
 go_wp2_with fail
 go_ret
 exact ⟨rfl, HB0.out.trans (HBc.out.mono HB0.out.size)⟩
theorem rfail_4ft (l : List Item) (A : Option Addr) (c : Nat) (p : Patch) (w : World) (hr : RdI w A l) (hl : l.length ≤ 1000000) (hsh : ∀ x ∈ l, x.Short) (hps : p.item.Short) (hpn : p.num.length ≤ maxLen) (hfr : p.fr.length ≤ 1000000) (htt : p.to.length ≤ 1000000) (hv0 : walkB l = true) (hf0 : rformB p = true) (hk : p.kind = 4) (k : Nat) (y : Item) (hfi : findI l p.id = k) (hy : l[k]? = some y) (hit : itemF l p.id = y) (hyk : y.kind = 1 ∨ y.kind = 2) (yk : (y.kind == 1) = true) (hgo : y.gone = false) (hex : rexB l p.par p.aft = true) (hpi : p.par ≠ p.id) (hai : p.aft ≠ p.id) (hpe : p.par ≠ []) (hun : underB l p.par p.id = false) : Calls Tryz.prog 58 #[.agg #[.slice A l.length c], p.agg] w fun e w' => e = .returned (.int .i64 (applyF l p).2) ∧ Below w.heap.size w w' := by
 have hb0 := two_up w A l c p
 have HB0 := Lib.hid hb0; clear hb0
 have HBc := Lib.hid (bself ((w.alloc (.cells #[.slice A l.length c] 24)).alloc (.cells (patCs p) 29)))
 have HR0 := Lib.hid (hr.below HB0.out)
 have HSH := Lib.hid hsh; clear hsh
 have HPS := Lib.hid hps; clear hps
 have HPN := Lib.hid hpn; clear hpn
 have HWB := Lib.hid hv0
 have HFO := Lib.hid hf0
 have hnf : ¬ (walkB l = false ∨ formedF p = false) := by rw [rform_eq, hv0, hf0]; simp
 obtain ⟨b1, o1, hA, hbs1, c0, c1, c2, c3, c4, c5, c6⟩ := hr.item hy
 have hkl : k < l.length := (List.getElem?_eq_some_iff.1 hy).1
 have hi0 : (0 : Int) ≤ k := by omega
 have hi1 : (k : Int) < l.length := by omega
 have hi2 : decide ((k : Int) < 0) = false := by simp
 have q0 : b1 < w.heap.size + 1 := by omega
 have q1 : b1 < w.heap.size + 1 + 1 := by omega
 have HFI := Lib.hid hfi
 subst hA
 have kb1 : (p.kind == 1) = false := by simp [hk]
 have kn1 : (p.kind != 1) = true := by simp [hk]
 have kb2 : (p.kind == 2) = false := by simp [hk]
 have kn2 : (p.kind != 2) = true := by simp [hk]
 have kb3 : (p.kind == 3) = false := by simp [hk]
 have kn3 : (p.kind != 3) = true := by simp [hk]
 have kb4 : (p.kind == 4) = true := by simp [hk]
 have kn4 : (p.kind != 4) = false := by simp [hk]
 have kb5 : (p.kind == 5) = false := by simp [hk]
 have kn5 : (p.kind != 5) = true := by simp [hk]
 have kb6 : (p.kind == 6) = false := by simp [hk]
 have kn6 : (p.kind != 6) = true := by simp [hk]
 have kb7 : (p.kind == 7) = false := by simp [hk]
 have kn7 : (p.kind != 7) = true := by simp [hk]
 have HEX := Lib.hid hex
 rw [rex_eq hv0] at hex
 have ehpi : (p.par == p.id) = false := by simpa using hpi
 have ehai : (p.aft == p.id) = false := by simpa using hai
 obtain ⟨n1, n2, n3⟩ := str_tests hpe
 have HUN := Lib.hid hun
 have hmo : moveOk l p = true := by unfold moveOk; simp only [hex, ehpi, ehai, n3, hun]; rfl
 have hv : (applyF l p).2 = 0 := by unfold applyF; rw [if_neg hnf, if_neg (show ¬ p.kind = 1 by omega), hit]; rw [if_neg (show ¬ (y.kind = 0 ∨ (y.kind = 1 ∧ p.kind ≠ 3 ∧ p.kind ≠ 4)) by omega), if_neg (show ¬ (p.kind = 6 ∧ y.gone = false) by omega), if_neg (show ¬ (p.kind ≠ 6 ∧ y.gone = true) by rw [hgo]; simp), if_neg (by omega), if_neg (by omega), if_pos hk]; unfold moveF; rw [if_pos hmo]
 have HV := Lib.hid hv; clear hv
 clear hv0 hf0 hnf
 clear hk hfi hit hy hr hyk hex hpi hai hpe hun hmo
 rw [HV.out]
 go_enter Tryz.func58, Tryz.ntmps58
 go_wp2_with fail
 refine (rvalid_any l _ c _ (HR0.out.below HBc.out) hl HSH.out).mono ?_
 rintro e w1 ⟨rfl, hbN⟩
 rw [HWB.out]
 have hb3 := after2 HBc hbN
 clear hbN HBc
 obtain ⟨HBc, hc, hf, hblk, zc0, zc1⟩ := hb3
 go_wp2_with fail
 refine (rformed_any p _ HPS.out HPN.out).mono ?_
 rintro e w2 ⟨rfl, hbN⟩
 rw [HFO.out]
 have hb3 := after2 HBc hbN
 clear hbN HBc hc hf hblk zc0 zc1
 obtain ⟨HBc, hc, hf, hblk, zc0, zc1⟩ := hb3
 go_wp2_with fail
 refine (rfind_any l _ c p.id _ (HR0.out.below HBc.out) (le_maxLen (by omega))).mono ?_
 rintro e w3 ⟨rfl, hbN⟩
 rw [HFI.out]
 have hb3 := after2 HBc hbN
 clear hbN HBc hc hf hblk zc0 zc1
 obtain ⟨HBc, hc, hf, hblk, zc0, zc1⟩ := hb3
 have HBc := Lib.hid (HBc.out.alloc HBc.out.size (.cells #[.int .i64 y.kind, vs y.id, vs y.par, vs y.num, vs y.no, vs y.so, .bool false] 27))
 go_wp2_with fail
 refine (rexists_any l _ c p.par p.aft _ (HR0.out.below HBc.out) hl).mono ?_
 rintro e w4 ⟨rfl, hbN⟩
 rw [HEX.out]
 have hb3 := after2 HBc hbN
 clear hbN HBc hc hf hblk zc0 zc1
 obtain ⟨HBc, hc, hf, hblk, zc0, zc1⟩ := hb3
 go_wp2_with fail
 refine (runder_any l _ c p.par p.id _ (HR0.out.below HBc.out) hl HSH.out).mono ?_
 rintro e w5 ⟨rfl, hbN⟩
 rw [HUN.out]
 have hb3 := after2 HBc hbN
 clear hbN HBc hc hf hblk zc0 zc1
 obtain ⟨HBc, hc, hf, hblk, zc0, zc1⟩ := hb3
 go_wp2_with fail
 go_ret
 exact ⟨rfl, HB0.out.trans (HBc.out.mono HB0.out.size)⟩
theorem rfail_4af (l : List Item) (A : Option Addr) (c : Nat) (p : Patch) (w : World) (hr : RdI w A l) (hl : l.length ≤ 1000000) (hsh : ∀ x ∈ l, x.Short) (hps : p.item.Short) (hpn : p.num.length ≤ maxLen) (hfr : p.fr.length ≤ 1000000) (htt : p.to.length ≤ 1000000) (hv0 : walkB l = true) (hf0 : rformB p = true) (hk : p.kind = 4) (k : Nat) (y : Item) (hfi : findI l p.id = k) (hy : l[k]? = some y) (hit : itemF l p.id = y) (hyk : y.kind = 1 ∨ y.kind = 2) (yk : (y.kind == 1) = false) (hgo : y.gone = false) (hex : rexB l p.par p.aft = false) : Calls Tryz.prog 58 #[.agg #[.slice A l.length c], p.agg] w fun e w' => e = .returned (.int .i64 (applyF l p).2) ∧ Below w.heap.size w w' := by
 have hb0 := two_up w A l c p
 have HB0 := Lib.hid hb0; clear hb0
 have HBc := Lib.hid (bself ((w.alloc (.cells #[.slice A l.length c] 24)).alloc (.cells (patCs p) 29)))
 have HR0 := Lib.hid (hr.below HB0.out)
 have HSH := Lib.hid hsh; clear hsh
 have HPS := Lib.hid hps; clear hps
 have HPN := Lib.hid hpn; clear hpn
 have HWB := Lib.hid hv0
 have HFO := Lib.hid hf0
 have hnf : ¬ (walkB l = false ∨ formedF p = false) := by rw [rform_eq, hv0, hf0]; simp
 obtain ⟨b1, o1, hA, hbs1, c0, c1, c2, c3, c4, c5, c6⟩ := hr.item hy
 have hkl : k < l.length := (List.getElem?_eq_some_iff.1 hy).1
 have hi0 : (0 : Int) ≤ k := by omega
 have hi1 : (k : Int) < l.length := by omega
 have hi2 : decide ((k : Int) < 0) = false := by simp
 have q0 : b1 < w.heap.size + 1 := by omega
 have q1 : b1 < w.heap.size + 1 + 1 := by omega
 have HFI := Lib.hid hfi
 subst hA
 have kb1 : (p.kind == 1) = false := by simp [hk]
 have kn1 : (p.kind != 1) = true := by simp [hk]
 have kb2 : (p.kind == 2) = false := by simp [hk]
 have kn2 : (p.kind != 2) = true := by simp [hk]
 have kb3 : (p.kind == 3) = false := by simp [hk]
 have kn3 : (p.kind != 3) = true := by simp [hk]
 have kb4 : (p.kind == 4) = true := by simp [hk]
 have kn4 : (p.kind != 4) = false := by simp [hk]
 have kb5 : (p.kind == 5) = false := by simp [hk]
 have kn5 : (p.kind != 5) = true := by simp [hk]
 have kb6 : (p.kind == 6) = false := by simp [hk]
 have kn6 : (p.kind != 6) = true := by simp [hk]
 have kb7 : (p.kind == 7) = false := by simp [hk]
 have kn7 : (p.kind != 7) = true := by simp [hk]
 have HEX := Lib.hid hex
 rw [rex_eq hv0] at hex
 have hmo : moveOk l p = false := by unfold moveOk; simp only [hex]; rfl
 have hv : (applyF l p).2 = 14 := by unfold applyF; rw [if_neg hnf, if_neg (show ¬ p.kind = 1 by omega), hit]; rw [if_neg (show ¬ (y.kind = 0 ∨ (y.kind = 1 ∧ p.kind ≠ 3 ∧ p.kind ≠ 4)) by omega), if_neg (show ¬ (p.kind = 6 ∧ y.gone = false) by omega), if_neg (show ¬ (p.kind ≠ 6 ∧ y.gone = true) by rw [hgo]; simp), if_neg (by omega), if_neg (by omega), if_pos hk]; unfold moveF; rw [if_neg (by rw [hmo]; simp)]
 have HV := Lib.hid hv; clear hv
 clear hv0 hf0 hnf
 clear hk hfi hit hy hr hyk hex hmo
 rw [HV.out]
 go_enter Tryz.func58, Tryz.ntmps58
 go_wp2_with fail
 refine (rvalid_any l _ c _ (HR0.out.below HBc.out) hl HSH.out).mono ?_
 rintro e w1 ⟨rfl, hbN⟩
 rw [HWB.out]
 have hb3 := after2 HBc hbN
 clear hbN HBc
 obtain ⟨HBc, hc, hf, hblk, zc0, zc1⟩ := hb3
 go_wp2_with fail
 refine (rformed_any p _ HPS.out HPN.out).mono ?_
 rintro e w2 ⟨rfl, hbN⟩
 rw [HFO.out]
 have hb3 := after2 HBc hbN
 clear hbN HBc hc hf hblk zc0 zc1
 obtain ⟨HBc, hc, hf, hblk, zc0, zc1⟩ := hb3
 go_wp2_with fail
 refine (rfind_any l _ c p.id _ (HR0.out.below HBc.out) (le_maxLen (by omega))).mono ?_
 rintro e w3 ⟨rfl, hbN⟩
 rw [HFI.out]
 have hb3 := after2 HBc hbN
 clear hbN HBc hc hf hblk zc0 zc1
 obtain ⟨HBc, hc, hf, hblk, zc0, zc1⟩ := hb3
 have HBc := Lib.hid (HBc.out.alloc HBc.out.size (.cells #[.int .i64 y.kind, vs y.id, vs y.par, vs y.num, vs y.no, vs y.so, .bool false] 27))
 go_wp2_with fail
 refine (rexists_any l _ c p.par p.aft _ (HR0.out.below HBc.out) hl).mono ?_
 rintro e w4 ⟨rfl, hbN⟩
 rw [HEX.out]
 have hb3 := after2 HBc hbN
 clear hbN HBc hc hf hblk zc0 zc1
 obtain ⟨HBc, hc, hf, hblk, zc0, zc1⟩ := hb3
 go_wp2_with fail
 go_ret
 exact ⟨rfl, HB0.out.trans (HBc.out.mono HB0.out.size)⟩
theorem rfail_4bf (l : List Item) (A : Option Addr) (c : Nat) (p : Patch) (w : World) (hr : RdI w A l) (hl : l.length ≤ 1000000) (hsh : ∀ x ∈ l, x.Short) (hps : p.item.Short) (hpn : p.num.length ≤ maxLen) (hfr : p.fr.length ≤ 1000000) (htt : p.to.length ≤ 1000000) (hv0 : walkB l = true) (hf0 : rformB p = true) (hk : p.kind = 4) (k : Nat) (y : Item) (hfi : findI l p.id = k) (hy : l[k]? = some y) (hit : itemF l p.id = y) (hyk : y.kind = 1 ∨ y.kind = 2) (yk : (y.kind == 1) = false) (hgo : y.gone = false) (hex : rexB l p.par p.aft = true) (hpi : p.par = p.id) : Calls Tryz.prog 58 #[.agg #[.slice A l.length c], p.agg] w fun e w' => e = .returned (.int .i64 (applyF l p).2) ∧ Below w.heap.size w w' := by
 have hb0 := two_up w A l c p
 have HB0 := Lib.hid hb0; clear hb0
 have HBc := Lib.hid (bself ((w.alloc (.cells #[.slice A l.length c] 24)).alloc (.cells (patCs p) 29)))
 have HR0 := Lib.hid (hr.below HB0.out)
 have HSH := Lib.hid hsh; clear hsh
 have HPS := Lib.hid hps; clear hps
 have HPN := Lib.hid hpn; clear hpn
 have HWB := Lib.hid hv0
 have HFO := Lib.hid hf0
 have hnf : ¬ (walkB l = false ∨ formedF p = false) := by rw [rform_eq, hv0, hf0]; simp
 obtain ⟨b1, o1, hA, hbs1, c0, c1, c2, c3, c4, c5, c6⟩ := hr.item hy
 have hkl : k < l.length := (List.getElem?_eq_some_iff.1 hy).1
 have hi0 : (0 : Int) ≤ k := by omega
 have hi1 : (k : Int) < l.length := by omega
 have hi2 : decide ((k : Int) < 0) = false := by simp
 have q0 : b1 < w.heap.size + 1 := by omega
 have q1 : b1 < w.heap.size + 1 + 1 := by omega
 have HFI := Lib.hid hfi
 subst hA
 have kb1 : (p.kind == 1) = false := by simp [hk]
 have kn1 : (p.kind != 1) = true := by simp [hk]
 have kb2 : (p.kind == 2) = false := by simp [hk]
 have kn2 : (p.kind != 2) = true := by simp [hk]
 have kb3 : (p.kind == 3) = false := by simp [hk]
 have kn3 : (p.kind != 3) = true := by simp [hk]
 have kb4 : (p.kind == 4) = true := by simp [hk]
 have kn4 : (p.kind != 4) = false := by simp [hk]
 have kb5 : (p.kind == 5) = false := by simp [hk]
 have kn5 : (p.kind != 5) = true := by simp [hk]
 have kb6 : (p.kind == 6) = false := by simp [hk]
 have kn6 : (p.kind != 6) = true := by simp [hk]
 have kb7 : (p.kind == 7) = false := by simp [hk]
 have kn7 : (p.kind != 7) = true := by simp [hk]
 have HEX := Lib.hid hex
 rw [rex_eq hv0] at hex
 have ehpi : (p.par == p.id) = true := by simp [hpi]
 have hmo : moveOk l p = false := by unfold moveOk; simp only [hex, ehpi]; rfl
 have hv : (applyF l p).2 = 14 := by unfold applyF; rw [if_neg hnf, if_neg (show ¬ p.kind = 1 by omega), hit]; rw [if_neg (show ¬ (y.kind = 0 ∨ (y.kind = 1 ∧ p.kind ≠ 3 ∧ p.kind ≠ 4)) by omega), if_neg (show ¬ (p.kind = 6 ∧ y.gone = false) by omega), if_neg (show ¬ (p.kind ≠ 6 ∧ y.gone = true) by rw [hgo]; simp), if_neg (by omega), if_neg (by omega), if_pos hk]; unfold moveF; rw [if_neg (by rw [hmo]; simp)]
 have HV := Lib.hid hv; clear hv
 clear hv0 hf0 hnf
 clear hk hfi hit hy hr hyk hex hpi hmo
 rw [HV.out]
 go_enter Tryz.func58, Tryz.ntmps58
 go_wp2_with fail
 refine (rvalid_any l _ c _ (HR0.out.below HBc.out) hl HSH.out).mono ?_
 rintro e w1 ⟨rfl, hbN⟩
 rw [HWB.out]
 have hb3 := after2 HBc hbN
 clear hbN HBc
 obtain ⟨HBc, hc, hf, hblk, zc0, zc1⟩ := hb3
 go_wp2_with fail
 refine (rformed_any p _ HPS.out HPN.out).mono ?_
 rintro e w2 ⟨rfl, hbN⟩
 rw [HFO.out]
 have hb3 := after2 HBc hbN
 clear hbN HBc hc hf hblk zc0 zc1
 obtain ⟨HBc, hc, hf, hblk, zc0, zc1⟩ := hb3
 go_wp2_with fail
 refine (rfind_any l _ c p.id _ (HR0.out.below HBc.out) (le_maxLen (by omega))).mono ?_
 rintro e w3 ⟨rfl, hbN⟩
 rw [HFI.out]
 have hb3 := after2 HBc hbN
 clear hbN HBc hc hf hblk zc0 zc1
 obtain ⟨HBc, hc, hf, hblk, zc0, zc1⟩ := hb3
 have HBc := Lib.hid (HBc.out.alloc HBc.out.size (.cells #[.int .i64 y.kind, vs y.id, vs y.par, vs y.num, vs y.no, vs y.so, .bool false] 27))
 go_wp2_with fail
 refine (rexists_any l _ c p.par p.aft _ (HR0.out.below HBc.out) hl).mono ?_
 rintro e w4 ⟨rfl, hbN⟩
 rw [HEX.out]
 have hb3 := after2 HBc hbN
 clear hbN HBc hc hf hblk zc0 zc1
 obtain ⟨HBc, hc, hf, hblk, zc0, zc1⟩ := hb3
 go_wp2_with fail
 go_ret
 exact ⟨rfl, HB0.out.trans (HBc.out.mono HB0.out.size)⟩
theorem rfail_4cf (l : List Item) (A : Option Addr) (c : Nat) (p : Patch) (w : World) (hr : RdI w A l) (hl : l.length ≤ 1000000) (hsh : ∀ x ∈ l, x.Short) (hps : p.item.Short) (hpn : p.num.length ≤ maxLen) (hfr : p.fr.length ≤ 1000000) (htt : p.to.length ≤ 1000000) (hv0 : walkB l = true) (hf0 : rformB p = true) (hk : p.kind = 4) (k : Nat) (y : Item) (hfi : findI l p.id = k) (hy : l[k]? = some y) (hit : itemF l p.id = y) (hyk : y.kind = 1 ∨ y.kind = 2) (yk : (y.kind == 1) = false) (hgo : y.gone = false) (hex : rexB l p.par p.aft = true) (hpi : p.par ≠ p.id) (hai : p.aft = p.id) : Calls Tryz.prog 58 #[.agg #[.slice A l.length c], p.agg] w fun e w' => e = .returned (.int .i64 (applyF l p).2) ∧ Below w.heap.size w w' := by
 have hb0 := two_up w A l c p
 have HB0 := Lib.hid hb0; clear hb0
 have HBc := Lib.hid (bself ((w.alloc (.cells #[.slice A l.length c] 24)).alloc (.cells (patCs p) 29)))
 have HR0 := Lib.hid (hr.below HB0.out)
 have HSH := Lib.hid hsh; clear hsh
 have HPS := Lib.hid hps; clear hps
 have HPN := Lib.hid hpn; clear hpn
 have HWB := Lib.hid hv0
 have HFO := Lib.hid hf0
 have hnf : ¬ (walkB l = false ∨ formedF p = false) := by rw [rform_eq, hv0, hf0]; simp
 obtain ⟨b1, o1, hA, hbs1, c0, c1, c2, c3, c4, c5, c6⟩ := hr.item hy
 have hkl : k < l.length := (List.getElem?_eq_some_iff.1 hy).1
 have hi0 : (0 : Int) ≤ k := by omega
 have hi1 : (k : Int) < l.length := by omega
 have hi2 : decide ((k : Int) < 0) = false := by simp
 have q0 : b1 < w.heap.size + 1 := by omega
 have q1 : b1 < w.heap.size + 1 + 1 := by omega
 have HFI := Lib.hid hfi
 subst hA
 have kb1 : (p.kind == 1) = false := by simp [hk]
 have kn1 : (p.kind != 1) = true := by simp [hk]
 have kb2 : (p.kind == 2) = false := by simp [hk]
 have kn2 : (p.kind != 2) = true := by simp [hk]
 have kb3 : (p.kind == 3) = false := by simp [hk]
 have kn3 : (p.kind != 3) = true := by simp [hk]
 have kb4 : (p.kind == 4) = true := by simp [hk]
 have kn4 : (p.kind != 4) = false := by simp [hk]
 have kb5 : (p.kind == 5) = false := by simp [hk]
 have kn5 : (p.kind != 5) = true := by simp [hk]
 have kb6 : (p.kind == 6) = false := by simp [hk]
 have kn6 : (p.kind != 6) = true := by simp [hk]
 have kb7 : (p.kind == 7) = false := by simp [hk]
 have kn7 : (p.kind != 7) = true := by simp [hk]
 have HEX := Lib.hid hex
 rw [rex_eq hv0] at hex
 have ehpi : (p.par == p.id) = false := by simpa using hpi
 have ehai : (p.aft == p.id) = true := by simp [hai]
 have hmo : moveOk l p = false := by unfold moveOk; simp only [hex, ehpi, ehai]; rfl
 have hv : (applyF l p).2 = 14 := by unfold applyF; rw [if_neg hnf, if_neg (show ¬ p.kind = 1 by omega), hit]; rw [if_neg (show ¬ (y.kind = 0 ∨ (y.kind = 1 ∧ p.kind ≠ 3 ∧ p.kind ≠ 4)) by omega), if_neg (show ¬ (p.kind = 6 ∧ y.gone = false) by omega), if_neg (show ¬ (p.kind ≠ 6 ∧ y.gone = true) by rw [hgo]; simp), if_neg (by omega), if_neg (by omega), if_pos hk]; unfold moveF; rw [if_neg (by rw [hmo]; simp)]
 have HV := Lib.hid hv; clear hv
 clear hv0 hf0 hnf
 clear hk hfi hit hy hr hyk hex hpi hai hmo
 rw [HV.out]
 go_enter Tryz.func58, Tryz.ntmps58
 go_wp2_with fail
 refine (rvalid_any l _ c _ (HR0.out.below HBc.out) hl HSH.out).mono ?_
 rintro e w1 ⟨rfl, hbN⟩
 rw [HWB.out]
 have hb3 := after2 HBc hbN
 clear hbN HBc
 obtain ⟨HBc, hc, hf, hblk, zc0, zc1⟩ := hb3
 go_wp2_with fail
 refine (rformed_any p _ HPS.out HPN.out).mono ?_
 rintro e w2 ⟨rfl, hbN⟩
 rw [HFO.out]
 have hb3 := after2 HBc hbN
 clear hbN HBc hc hf hblk zc0 zc1
 obtain ⟨HBc, hc, hf, hblk, zc0, zc1⟩ := hb3
 go_wp2_with fail
 refine (rfind_any l _ c p.id _ (HR0.out.below HBc.out) (le_maxLen (by omega))).mono ?_
 rintro e w3 ⟨rfl, hbN⟩
 rw [HFI.out]
 have hb3 := after2 HBc hbN
 clear hbN HBc hc hf hblk zc0 zc1
 obtain ⟨HBc, hc, hf, hblk, zc0, zc1⟩ := hb3
 have HBc := Lib.hid (HBc.out.alloc HBc.out.size (.cells #[.int .i64 y.kind, vs y.id, vs y.par, vs y.num, vs y.no, vs y.so, .bool false] 27))
 go_wp2_with fail
 refine (rexists_any l _ c p.par p.aft _ (HR0.out.below HBc.out) hl).mono ?_
 rintro e w4 ⟨rfl, hbN⟩
 rw [HEX.out]
 have hb3 := after2 HBc hbN
 clear hbN HBc hc hf hblk zc0 zc1
 obtain ⟨HBc, hc, hf, hblk, zc0, zc1⟩ := hb3
 go_wp2_with fail
 go_ret
 exact ⟨rfl, HB0.out.trans (HBc.out.mono HB0.out.size)⟩
theorem rfail_4df (l : List Item) (A : Option Addr) (c : Nat) (p : Patch) (w : World) (hr : RdI w A l) (hl : l.length ≤ 1000000) (hsh : ∀ x ∈ l, x.Short) (hps : p.item.Short) (hpn : p.num.length ≤ maxLen) (hfr : p.fr.length ≤ 1000000) (htt : p.to.length ≤ 1000000) (hv0 : walkB l = true) (hf0 : rformB p = true) (hk : p.kind = 4) (k : Nat) (y : Item) (hfi : findI l p.id = k) (hy : l[k]? = some y) (hit : itemF l p.id = y) (hyk : y.kind = 1 ∨ y.kind = 2) (yk : (y.kind == 1) = false) (hgo : y.gone = false) (hex : rexB l p.par p.aft = true) (hpi : p.par ≠ p.id) (hai : p.aft ≠ p.id) (hpe : p.par = []) : Calls Tryz.prog 58 #[.agg #[.slice A l.length c], p.agg] w fun e w' => e = .returned (.int .i64 (applyF l p).2) ∧ Below w.heap.size w w' := by
 have hb0 := two_up w A l c p
 have HB0 := Lib.hid hb0; clear hb0
 have HBc := Lib.hid (bself ((w.alloc (.cells #[.slice A l.length c] 24)).alloc (.cells (patCs p) 29)))
 have HR0 := Lib.hid (hr.below HB0.out)
 have HSH := Lib.hid hsh; clear hsh
 have HPS := Lib.hid hps; clear hps
 have HPN := Lib.hid hpn; clear hpn
 have HWB := Lib.hid hv0
 have HFO := Lib.hid hf0
 have hnf : ¬ (walkB l = false ∨ formedF p = false) := by rw [rform_eq, hv0, hf0]; simp
 obtain ⟨b1, o1, hA, hbs1, c0, c1, c2, c3, c4, c5, c6⟩ := hr.item hy
 have hkl : k < l.length := (List.getElem?_eq_some_iff.1 hy).1
 have hi0 : (0 : Int) ≤ k := by omega
 have hi1 : (k : Int) < l.length := by omega
 have hi2 : decide ((k : Int) < 0) = false := by simp
 have q0 : b1 < w.heap.size + 1 := by omega
 have q1 : b1 < w.heap.size + 1 + 1 := by omega
 have HFI := Lib.hid hfi
 subst hA
 have kb1 : (p.kind == 1) = false := by simp [hk]
 have kn1 : (p.kind != 1) = true := by simp [hk]
 have kb2 : (p.kind == 2) = false := by simp [hk]
 have kn2 : (p.kind != 2) = true := by simp [hk]
 have kb3 : (p.kind == 3) = false := by simp [hk]
 have kn3 : (p.kind != 3) = true := by simp [hk]
 have kb4 : (p.kind == 4) = true := by simp [hk]
 have kn4 : (p.kind != 4) = false := by simp [hk]
 have kb5 : (p.kind == 5) = false := by simp [hk]
 have kn5 : (p.kind != 5) = true := by simp [hk]
 have kb6 : (p.kind == 6) = false := by simp [hk]
 have kn6 : (p.kind != 6) = true := by simp [hk]
 have kb7 : (p.kind == 7) = false := by simp [hk]
 have kn7 : (p.kind != 7) = true := by simp [hk]
 have HEX := Lib.hid hex
 rw [rex_eq hv0] at hex
 have ehpi : (p.par == p.id) = false := by simpa using hpi
 have ehai : (p.aft == p.id) = false := by simpa using hai
 obtain ⟨n1, n2, n3⟩ := emp_tests hpe
 have hmo : moveOk l p = true := by unfold moveOk; simp only [hex, ehpi, ehai, n3]; rfl
 have hv : (applyF l p).2 = 0 := by unfold applyF; rw [if_neg hnf, if_neg (show ¬ p.kind = 1 by omega), hit]; rw [if_neg (show ¬ (y.kind = 0 ∨ (y.kind = 1 ∧ p.kind ≠ 3 ∧ p.kind ≠ 4)) by omega), if_neg (show ¬ (p.kind = 6 ∧ y.gone = false) by omega), if_neg (show ¬ (p.kind ≠ 6 ∧ y.gone = true) by rw [hgo]; simp), if_neg (by omega), if_neg (by omega), if_pos hk]; unfold moveF; rw [if_pos hmo]
 have HV := Lib.hid hv; clear hv
 clear hv0 hf0 hnf
 clear hk hfi hit hy hr hyk hex hpi hai hpe hmo
 rw [HV.out]
 go_enter Tryz.func58, Tryz.ntmps58
 go_wp2_with fail
 refine (rvalid_any l _ c _ (HR0.out.below HBc.out) hl HSH.out).mono ?_
 rintro e w1 ⟨rfl, hbN⟩
 rw [HWB.out]
 have hb3 := after2 HBc hbN
 clear hbN HBc
 obtain ⟨HBc, hc, hf, hblk, zc0, zc1⟩ := hb3
 go_wp2_with fail
 refine (rformed_any p _ HPS.out HPN.out).mono ?_
 rintro e w2 ⟨rfl, hbN⟩
 rw [HFO.out]
 have hb3 := after2 HBc hbN
 clear hbN HBc hc hf hblk zc0 zc1
 obtain ⟨HBc, hc, hf, hblk, zc0, zc1⟩ := hb3
 go_wp2_with fail
 refine (rfind_any l _ c p.id _ (HR0.out.below HBc.out) (le_maxLen (by omega))).mono ?_
 rintro e w3 ⟨rfl, hbN⟩
 rw [HFI.out]
 have hb3 := after2 HBc hbN
 clear hbN HBc hc hf hblk zc0 zc1
 obtain ⟨HBc, hc, hf, hblk, zc0, zc1⟩ := hb3
 have HBc := Lib.hid (HBc.out.alloc HBc.out.size (.cells #[.int .i64 y.kind, vs y.id, vs y.par, vs y.num, vs y.no, vs y.so, .bool false] 27))
 go_wp2_with fail
 refine (rexists_any l _ c p.par p.aft _ (HR0.out.below HBc.out) hl).mono ?_
 rintro e w4 ⟨rfl, hbN⟩
 rw [HEX.out]
 have hb3 := after2 HBc hbN
 clear hbN HBc hc hf hblk zc0 zc1
 obtain ⟨HBc, hc, hf, hblk, zc0, zc1⟩ := hb3
 go_wp2_with fail
 go_ret
 exact ⟨rfl, HB0.out.trans (HBc.out.mono HB0.out.size)⟩
theorem rfail_4ef (l : List Item) (A : Option Addr) (c : Nat) (p : Patch) (w : World) (hr : RdI w A l) (hl : l.length ≤ 1000000) (hsh : ∀ x ∈ l, x.Short) (hps : p.item.Short) (hpn : p.num.length ≤ maxLen) (hfr : p.fr.length ≤ 1000000) (htt : p.to.length ≤ 1000000) (hv0 : walkB l = true) (hf0 : rformB p = true) (hk : p.kind = 4) (k : Nat) (y : Item) (hfi : findI l p.id = k) (hy : l[k]? = some y) (hit : itemF l p.id = y) (hyk : y.kind = 1 ∨ y.kind = 2) (yk : (y.kind == 1) = false) (hgo : y.gone = false) (hex : rexB l p.par p.aft = true) (hpi : p.par ≠ p.id) (hai : p.aft ≠ p.id) (hpe : p.par ≠ []) (hun : underB l p.par p.id = true) : Calls Tryz.prog 58 #[.agg #[.slice A l.length c], p.agg] w fun e w' => e = .returned (.int .i64 (applyF l p).2) ∧ Below w.heap.size w w' := by
 have hb0 := two_up w A l c p
 have HB0 := Lib.hid hb0; clear hb0
 have HBc := Lib.hid (bself ((w.alloc (.cells #[.slice A l.length c] 24)).alloc (.cells (patCs p) 29)))
 have HR0 := Lib.hid (hr.below HB0.out)
 have HSH := Lib.hid hsh; clear hsh
 have HPS := Lib.hid hps; clear hps
 have HPN := Lib.hid hpn; clear hpn
 have HWB := Lib.hid hv0
 have HFO := Lib.hid hf0
 have hnf : ¬ (walkB l = false ∨ formedF p = false) := by rw [rform_eq, hv0, hf0]; simp
 obtain ⟨b1, o1, hA, hbs1, c0, c1, c2, c3, c4, c5, c6⟩ := hr.item hy
 have hkl : k < l.length := (List.getElem?_eq_some_iff.1 hy).1
 have hi0 : (0 : Int) ≤ k := by omega
 have hi1 : (k : Int) < l.length := by omega
 have hi2 : decide ((k : Int) < 0) = false := by simp
 have q0 : b1 < w.heap.size + 1 := by omega
 have q1 : b1 < w.heap.size + 1 + 1 := by omega
 have HFI := Lib.hid hfi
 subst hA
 have kb1 : (p.kind == 1) = false := by simp [hk]
 have kn1 : (p.kind != 1) = true := by simp [hk]
 have kb2 : (p.kind == 2) = false := by simp [hk]
 have kn2 : (p.kind != 2) = true := by simp [hk]
 have kb3 : (p.kind == 3) = false := by simp [hk]
 have kn3 : (p.kind != 3) = true := by simp [hk]
 have kb4 : (p.kind == 4) = true := by simp [hk]
 have kn4 : (p.kind != 4) = false := by simp [hk]
 have kb5 : (p.kind == 5) = false := by simp [hk]
 have kn5 : (p.kind != 5) = true := by simp [hk]
 have kb6 : (p.kind == 6) = false := by simp [hk]
 have kn6 : (p.kind != 6) = true := by simp [hk]
 have kb7 : (p.kind == 7) = false := by simp [hk]
 have kn7 : (p.kind != 7) = true := by simp [hk]
 have HEX := Lib.hid hex
 rw [rex_eq hv0] at hex
 have ehpi : (p.par == p.id) = false := by simpa using hpi
 have ehai : (p.aft == p.id) = false := by simpa using hai
 obtain ⟨n1, n2, n3⟩ := str_tests hpe
 have HUN := Lib.hid hun
 have hmo : moveOk l p = false := by unfold moveOk; simp only [hex, ehpi, ehai, n3, hun]; rfl
 have hv : (applyF l p).2 = 14 := by unfold applyF; rw [if_neg hnf, if_neg (show ¬ p.kind = 1 by omega), hit]; rw [if_neg (show ¬ (y.kind = 0 ∨ (y.kind = 1 ∧ p.kind ≠ 3 ∧ p.kind ≠ 4)) by omega), if_neg (show ¬ (p.kind = 6 ∧ y.gone = false) by omega), if_neg (show ¬ (p.kind ≠ 6 ∧ y.gone = true) by rw [hgo]; simp), if_neg (by omega), if_neg (by omega), if_pos hk]; unfold moveF; rw [if_neg (by rw [hmo]; simp)]
 have HV := Lib.hid hv; clear hv
 clear hv0 hf0 hnf
 clear hk hfi hit hy hr hyk hex hpi hai hpe hun hmo
 rw [HV.out]
 go_enter Tryz.func58, Tryz.ntmps58
 go_wp2_with fail
 refine (rvalid_any l _ c _ (HR0.out.below HBc.out) hl HSH.out).mono ?_
 rintro e w1 ⟨rfl, hbN⟩
 rw [HWB.out]
 have hb3 := after2 HBc hbN
 clear hbN HBc
 obtain ⟨HBc, hc, hf, hblk, zc0, zc1⟩ := hb3
 go_wp2_with fail
 refine (rformed_any p _ HPS.out HPN.out).mono ?_
 rintro e w2 ⟨rfl, hbN⟩
 rw [HFO.out]
 have hb3 := after2 HBc hbN
 clear hbN HBc hc hf hblk zc0 zc1
 obtain ⟨HBc, hc, hf, hblk, zc0, zc1⟩ := hb3
 go_wp2_with fail
 refine (rfind_any l _ c p.id _ (HR0.out.below HBc.out) (le_maxLen (by omega))).mono ?_
 rintro e w3 ⟨rfl, hbN⟩
 rw [HFI.out]
 have hb3 := after2 HBc hbN
 clear hbN HBc hc hf hblk zc0 zc1
 obtain ⟨HBc, hc, hf, hblk, zc0, zc1⟩ := hb3
 have HBc := Lib.hid (HBc.out.alloc HBc.out.size (.cells #[.int .i64 y.kind, vs y.id, vs y.par, vs y.num, vs y.no, vs y.so, .bool false] 27))
 go_wp2_with fail
 refine (rexists_any l _ c p.par p.aft _ (HR0.out.below HBc.out) hl).mono ?_
 rintro e w4 ⟨rfl, hbN⟩
 rw [HEX.out]
 have hb3 := after2 HBc hbN
 clear hbN HBc hc hf hblk zc0 zc1
 obtain ⟨HBc, hc, hf, hblk, zc0, zc1⟩ := hb3
 go_wp2_with fail
 refine (runder_any l _ c p.par p.id _ (HR0.out.below HBc.out) hl HSH.out).mono ?_
 rintro e w5 ⟨rfl, hbN⟩
 rw [HUN.out]
 have hb3 := after2 HBc hbN
 clear hbN HBc hc hf hblk zc0 zc1
 obtain ⟨HBc, hc, hf, hblk, zc0, zc1⟩ := hb3
 go_wp2_with fail
 go_ret
 exact ⟨rfl, HB0.out.trans (HBc.out.mono HB0.out.size)⟩
theorem rfail_4ff (l : List Item) (A : Option Addr) (c : Nat) (p : Patch) (w : World) (hr : RdI w A l) (hl : l.length ≤ 1000000) (hsh : ∀ x ∈ l, x.Short) (hps : p.item.Short) (hpn : p.num.length ≤ maxLen) (hfr : p.fr.length ≤ 1000000) (htt : p.to.length ≤ 1000000) (hv0 : walkB l = true) (hf0 : rformB p = true) (hk : p.kind = 4) (k : Nat) (y : Item) (hfi : findI l p.id = k) (hy : l[k]? = some y) (hit : itemF l p.id = y) (hyk : y.kind = 1 ∨ y.kind = 2) (yk : (y.kind == 1) = false) (hgo : y.gone = false) (hex : rexB l p.par p.aft = true) (hpi : p.par ≠ p.id) (hai : p.aft ≠ p.id) (hpe : p.par ≠ []) (hun : underB l p.par p.id = false) : Calls Tryz.prog 58 #[.agg #[.slice A l.length c], p.agg] w fun e w' => e = .returned (.int .i64 (applyF l p).2) ∧ Below w.heap.size w w' := by
 have hb0 := two_up w A l c p
 have HB0 := Lib.hid hb0; clear hb0
 have HBc := Lib.hid (bself ((w.alloc (.cells #[.slice A l.length c] 24)).alloc (.cells (patCs p) 29)))
 have HR0 := Lib.hid (hr.below HB0.out)
 have HSH := Lib.hid hsh; clear hsh
 have HPS := Lib.hid hps; clear hps
 have HPN := Lib.hid hpn; clear hpn
 have HWB := Lib.hid hv0
 have HFO := Lib.hid hf0
 have hnf : ¬ (walkB l = false ∨ formedF p = false) := by rw [rform_eq, hv0, hf0]; simp
 obtain ⟨b1, o1, hA, hbs1, c0, c1, c2, c3, c4, c5, c6⟩ := hr.item hy
 have hkl : k < l.length := (List.getElem?_eq_some_iff.1 hy).1
 have hi0 : (0 : Int) ≤ k := by omega
 have hi1 : (k : Int) < l.length := by omega
 have hi2 : decide ((k : Int) < 0) = false := by simp
 have q0 : b1 < w.heap.size + 1 := by omega
 have q1 : b1 < w.heap.size + 1 + 1 := by omega
 have HFI := Lib.hid hfi
 subst hA
 have kb1 : (p.kind == 1) = false := by simp [hk]
 have kn1 : (p.kind != 1) = true := by simp [hk]
 have kb2 : (p.kind == 2) = false := by simp [hk]
 have kn2 : (p.kind != 2) = true := by simp [hk]
 have kb3 : (p.kind == 3) = false := by simp [hk]
 have kn3 : (p.kind != 3) = true := by simp [hk]
 have kb4 : (p.kind == 4) = true := by simp [hk]
 have kn4 : (p.kind != 4) = false := by simp [hk]
 have kb5 : (p.kind == 5) = false := by simp [hk]
 have kn5 : (p.kind != 5) = true := by simp [hk]
 have kb6 : (p.kind == 6) = false := by simp [hk]
 have kn6 : (p.kind != 6) = true := by simp [hk]
 have kb7 : (p.kind == 7) = false := by simp [hk]
 have kn7 : (p.kind != 7) = true := by simp [hk]
 have HEX := Lib.hid hex
 rw [rex_eq hv0] at hex
 have ehpi : (p.par == p.id) = false := by simpa using hpi
 have ehai : (p.aft == p.id) = false := by simpa using hai
 obtain ⟨n1, n2, n3⟩ := str_tests hpe
 have HUN := Lib.hid hun
 have hmo : moveOk l p = true := by unfold moveOk; simp only [hex, ehpi, ehai, n3, hun]; rfl
 have hv : (applyF l p).2 = 0 := by unfold applyF; rw [if_neg hnf, if_neg (show ¬ p.kind = 1 by omega), hit]; rw [if_neg (show ¬ (y.kind = 0 ∨ (y.kind = 1 ∧ p.kind ≠ 3 ∧ p.kind ≠ 4)) by omega), if_neg (show ¬ (p.kind = 6 ∧ y.gone = false) by omega), if_neg (show ¬ (p.kind ≠ 6 ∧ y.gone = true) by rw [hgo]; simp), if_neg (by omega), if_neg (by omega), if_pos hk]; unfold moveF; rw [if_pos hmo]
 have HV := Lib.hid hv; clear hv
 clear hv0 hf0 hnf
 clear hk hfi hit hy hr hyk hex hpi hai hpe hun hmo
 rw [HV.out]
 go_enter Tryz.func58, Tryz.ntmps58
 go_wp2_with fail
 refine (rvalid_any l _ c _ (HR0.out.below HBc.out) hl HSH.out).mono ?_
 rintro e w1 ⟨rfl, hbN⟩
 rw [HWB.out]
 have hb3 := after2 HBc hbN
 clear hbN HBc
 obtain ⟨HBc, hc, hf, hblk, zc0, zc1⟩ := hb3
 go_wp2_with fail
 refine (rformed_any p _ HPS.out HPN.out).mono ?_
 rintro e w2 ⟨rfl, hbN⟩
 rw [HFO.out]
 have hb3 := after2 HBc hbN
 clear hbN HBc hc hf hblk zc0 zc1
 obtain ⟨HBc, hc, hf, hblk, zc0, zc1⟩ := hb3
 go_wp2_with fail
 refine (rfind_any l _ c p.id _ (HR0.out.below HBc.out) (le_maxLen (by omega))).mono ?_
 rintro e w3 ⟨rfl, hbN⟩
 rw [HFI.out]
 have hb3 := after2 HBc hbN
 clear hbN HBc hc hf hblk zc0 zc1
 obtain ⟨HBc, hc, hf, hblk, zc0, zc1⟩ := hb3
 have HBc := Lib.hid (HBc.out.alloc HBc.out.size (.cells #[.int .i64 y.kind, vs y.id, vs y.par, vs y.num, vs y.no, vs y.so, .bool false] 27))
 go_wp2_with fail
 refine (rexists_any l _ c p.par p.aft _ (HR0.out.below HBc.out) hl).mono ?_
 rintro e w4 ⟨rfl, hbN⟩
 rw [HEX.out]
 have hb3 := after2 HBc hbN
 clear hbN HBc hc hf hblk zc0 zc1
 obtain ⟨HBc, hc, hf, hblk, zc0, zc1⟩ := hb3
 go_wp2_with fail
 refine (runder_any l _ c p.par p.id _ (HR0.out.below HBc.out) hl HSH.out).mono ?_
 rintro e w5 ⟨rfl, hbN⟩
 rw [HUN.out]
 have hb3 := after2 HBc hbN
 clear hbN HBc hc hf hblk zc0 zc1
 obtain ⟨HBc, hc, hf, hblk, zc0, zc1⟩ := hb3
 go_wp2_with fail
 go_ret
 exact ⟨rfl, HB0.out.trans (HBc.out.mono HB0.out.size)⟩
end Go.Proofs.YtfolcjkednmkoaaGreat
namespace Go.Proofs.YtfolcjkednmkoaaGreat
open Go.RowKit
theorem item_len {l : List Item} (hv : walkB l = true) {k : Nat} {y : Item} (hy : l[k]? = some y) : (y.kind = 1 ∨ y.kind = 2) ∧ y.no.length ≤ 400 ∧ y.so.length ≤ 400 := by
 have hp := (good_of hv).pr y (List.mem_of_getElem? hy)
 exact ⟨proper_kind hp, proper_len hp⟩
theorem rfail_any (l : List Item) (A : Option Addr) (c : Nat) (p : Patch) (w : World) (hr : RdI w A l) (hl : l.length ≤ 1000000) (hsh : ∀ x ∈ l, x.Short) (hps : p.item.Short) (hpn : p.num.length ≤ maxLen) (hfr : p.fr.length ≤ 1000000) (htt : p.to.length ≤ 1000000) :
 Calls Tryz.prog 58 #[.agg #[.slice A l.length c], p.agg] w fun e w' => e = .returned (.int .i64 (applyF l p).2) ∧ Below w.heap.size w w' := by
 cases hv0 : walkB l with
 | false => exact rfail_v l A c p w hr hl hsh hps hpn hfr htt hv0
 | true =>
   cases hf0 : rformB p with
   | false => exact rfail_f l A c p w hr hl hsh hps hpn hfr htt hv0 hf0
   | true =>
     have hfm := hf0
     rw [← rform_eq] at hfm
     have hkk := formed_kind hfm
     by_cases hk : p.kind = 1
     · rcases find_case l p.id with ⟨f1, f2⟩ | ⟨k, y, f1, f2, f3⟩
       · cases hex : rexB l p.par p.aft with
         | false => exact rfail_1p l A c p w hr hl hsh hps hpn hfr htt hv0 hf0 hk f1 hex
         | true =>
           by_cases hln : 2000 ≤ l.length
           · exact rfail_1l l A c p w hr hl hsh hps hpn hfr htt hv0 hf0 hk f1 hex hln
           · exact rfail_1o l A c p w hr hl hsh hps hpn hfr htt hv0 hf0 hk f1 hex hln
       · exact rfail_1t l A c p w hr hl hsh hps hpn hfr htt hv0 hf0 hk k f1
     · rcases find_case l p.id with ⟨f1, f2⟩ | ⟨k, y, f1, f2, f3⟩
       · exact rfail_n l A c p w hr hl hsh hps hpn hfr htt hv0 hf0 hk f1 f2
       · obtain ⟨hyk, hno, hso⟩ := item_len hv0 f2
         have hks : p.kind = 2 ∨ p.kind = 3 ∨ p.kind = 4 ∨ p.kind = 5 ∨ p.kind = 6 ∨ p.kind = 7 := by omega
         have hyt : (y.kind = 1 ∧ (y.kind == 1) = true) ∨ (y.kind = 2 ∧ (y.kind == 1) = false) := by rcases hyk with h | h <;> simp [h]
         rcases hks with hk | hk | hk | hk | hk | hk
         · rcases hyk with h1 | h2
           · exact rfail_2d l A c p w hr hl hsh hps hpn hfr htt hv0 hf0 hk k y f1 f2 f3 h1
           · cases hgo : y.gone with
             | true => exact rfail_2g l A c p w hr hl hsh hps hpn hfr htt hv0 hf0 hk k y f1 f2 f3 h2 hgo
             | false =>
               have hla : p.lang = 1 ∨ p.lang = 2 := by
                unfold formedF at hfm
                simp [hk] at hfm
                exact hfm.2.2
               rcases hla with hla | hla
               · cases ho : onceIs (wordsText p y) p.fr with
                 | false => exact rfail_2a1 l A c p w hr hl hsh hps hpn hfr htt hv0 hf0 hk k y f1 f2 f3 h2 hgo hla hno hso ho
                 | true =>
                   by_cases hln : 400 < (wordsNew p y).length
                   · exact rfail_2b1 l A c p w hr hl hsh hps hpn hfr htt hv0 hf0 hk k y f1 f2 f3 h2 hgo hla hno hso ho hln
                   · exact rfail_2c1 l A c p w hr hl hsh hps hpn hfr htt hv0 hf0 hk k y f1 f2 f3 h2 hgo hla hno hso ho (by omega)
               · cases ho : onceIs (wordsText p y) p.fr with
                 | false => exact rfail_2a2 l A c p w hr hl hsh hps hpn hfr htt hv0 hf0 hk k y f1 f2 f3 h2 hgo hla hno hso ho
                 | true =>
                   by_cases hln : 400 < (wordsNew p y).length
                   · exact rfail_2b2 l A c p w hr hl hsh hps hpn hfr htt hv0 hf0 hk k y f1 f2 f3 h2 hgo hla hno hso ho hln
                   · exact rfail_2c2 l A c p w hr hl hsh hps hpn hfr htt hv0 hf0 hk k y f1 f2 f3 h2 hgo hla hno hso ho (by omega)
         · cases hgo : y.gone <;> rcases hyt with ⟨h1, h2⟩ | ⟨h1, h2⟩
           · exact rfail_3ot l A c p w hr hl hsh hps hpn hfr htt hv0 hf0 hk k y f1 f2 f3 hyk h2 hgo
           · exact rfail_3of l A c p w hr hl hsh hps hpn hfr htt hv0 hf0 hk k y f1 f2 f3 hyk h2 hgo
           · exact rfail_3gt l A c p w hr hl hsh hps hpn hfr htt hv0 hf0 hk k y f1 f2 f3 hyk h2 hgo
           · exact rfail_3gf l A c p w hr hl hsh hps hpn hfr htt hv0 hf0 hk k y f1 f2 f3 hyk h2 hgo
         · cases hgo : y.gone with
           | true =>
             rcases hyt with ⟨h1, h2⟩ | ⟨h1, h2⟩
             · exact rfail_4gt l A c p w hr hl hsh hps hpn hfr htt hv0 hf0 hk k y f1 f2 f3 hyk h2 hgo
             · exact rfail_4gf l A c p w hr hl hsh hps hpn hfr htt hv0 hf0 hk k y f1 f2 f3 hyk h2 hgo
           | false =>
             rcases hyt with ⟨h1, h2⟩ | ⟨h1, h2⟩
             · cases hex : rexB l p.par p.aft with
               | false => exact rfail_4at l A c p w hr hl hsh hps hpn hfr htt hv0 hf0 hk k y f1 f2 f3 hyk h2 hgo hex
               | true =>
                 by_cases hpi : p.par = p.id
                 · exact rfail_4bt l A c p w hr hl hsh hps hpn hfr htt hv0 hf0 hk k y f1 f2 f3 hyk h2 hgo hex hpi
                 · by_cases hai : p.aft = p.id
                   · exact rfail_4ct l A c p w hr hl hsh hps hpn hfr htt hv0 hf0 hk k y f1 f2 f3 hyk h2 hgo hex hpi hai
                   · by_cases hpe : p.par = []
                     · exact rfail_4dt l A c p w hr hl hsh hps hpn hfr htt hv0 hf0 hk k y f1 f2 f3 hyk h2 hgo hex hpi hai hpe
                     · cases hun : underB l p.par p.id with
                       | true => exact rfail_4et l A c p w hr hl hsh hps hpn hfr htt hv0 hf0 hk k y f1 f2 f3 hyk h2 hgo hex hpi hai hpe hun
                       | false => exact rfail_4ft l A c p w hr hl hsh hps hpn hfr htt hv0 hf0 hk k y f1 f2 f3 hyk h2 hgo hex hpi hai hpe hun
             · cases hex : rexB l p.par p.aft with
               | false => exact rfail_4af l A c p w hr hl hsh hps hpn hfr htt hv0 hf0 hk k y f1 f2 f3 hyk h2 hgo hex
               | true =>
                 by_cases hpi : p.par = p.id
                 · exact rfail_4bf l A c p w hr hl hsh hps hpn hfr htt hv0 hf0 hk k y f1 f2 f3 hyk h2 hgo hex hpi
                 · by_cases hai : p.aft = p.id
                   · exact rfail_4cf l A c p w hr hl hsh hps hpn hfr htt hv0 hf0 hk k y f1 f2 f3 hyk h2 hgo hex hpi hai
                   · by_cases hpe : p.par = []
                     · exact rfail_4df l A c p w hr hl hsh hps hpn hfr htt hv0 hf0 hk k y f1 f2 f3 hyk h2 hgo hex hpi hai hpe
                     · cases hun : underB l p.par p.id with
                       | true => exact rfail_4ef l A c p w hr hl hsh hps hpn hfr htt hv0 hf0 hk k y f1 f2 f3 hyk h2 hgo hex hpi hai hpe hun
                       | false => exact rfail_4ff l A c p w hr hl hsh hps hpn hfr htt hv0 hf0 hk k y f1 f2 f3 hyk h2 hgo hex hpi hai hpe hun
         · rcases hyk with h1 | h2
           · exact rfail_5d l A c p w hr hl hsh hps hpn hfr htt hv0 hf0 hk k y f1 f2 f3 h1
           · cases hgo : y.gone with
             | true => exact rfail_5g l A c p w hr hl hsh hps hpn hfr htt hv0 hf0 hk k y f1 f2 f3 h2 hgo
             | false => exact rfail_5o l A c p w hr hl hsh hps hpn hfr htt hv0 hf0 hk k y f1 f2 f3 h2 hgo
         · rcases hyk with h1 | h2
           · exact rfail_6d l A c p w hr hl hsh hps hpn hfr htt hv0 hf0 hk k y f1 f2 f3 h1
           · cases hgo : y.gone with
             | true => exact rfail_6o l A c p w hr hl hsh hps hpn hfr htt hv0 hf0 hk k y f1 f2 f3 h2 hgo
             | false => exact rfail_6n l A c p w hr hl hsh hps hpn hfr htt hv0 hf0 hk k y f1 f2 f3 h2 hgo
         · rcases hyk with h1 | h2
           · exact rfail_7d l A c p w hr hl hsh hps hpn hfr htt hv0 hf0 hk k y f1 f2 f3 h1
           · cases hgo : y.gone with
             | true => exact rfail_7g l A c p w hr hl hsh hps hpn hfr htt hv0 hf0 hk k y f1 f2 f3 h2 hgo
             | false =>
               by_cases h1 : 400 < p.item.no.length
               · exact rfail_7a l A c p w hr hl hsh hps hpn hfr htt hv0 hf0 hk k y f1 f2 f3 h2 hgo h1
               · by_cases h3 : 400 < p.item.so.length
                 · exact rfail_7b l A c p w hr hl hsh hps hpn hfr htt hv0 hf0 hk k y f1 f2 f3 h2 hgo (by omega) h3
                 · exact rfail_7c l A c p w hr hl hsh hps hpn hfr htt hv0 hf0 hk k y f1 f2 f3 h2 hgo (by omega) (by omega)
end Go.Proofs.YtfolcjkednmkoaaGreat
