/- The law CommuteOrders. -/
import Derived.Test.YtfolcjkednmkoaaCSound
import Derived.Test.YtfolcjkednmkoaaCOrd
import Derived.Test.YtfolcjkednmkoaaCOwnP
import Derived.Test.YtfolcjkednmkoaaCGrpW
import Derived.Test.YtfolcjkednmkoaaCOpen
set_option linter.unusedVariables false
set_option linter.unusedSimpArgs false
namespace Go.Proofs.Ytfolcjkednmkoaa
open Go.RowKit
set_option maxRecDepth 20000 in
set_option maxHeartbeats 8000000 in
theorem cord_a (l : List Item) (A : Option Addr) (c : Nat) (ps : List Patch) (B : Option Addr) (dc : Nat) (us : List U8) (U : Option Addr) (uc : Nat) (w : World) (m : Int) (hr : RdI w A l) (hl : l.length ≤ maxLen) (hlc : l.length ≤ c) (hfit : ∀ x ∈ l, x.Fits) (hs : RdP w B ps) (hm : ps.length ≤ maxLen) (hfp : ∀ q ∈ ps, q.Fits) (hu : Sl u8c 1 w U us) (hul : us.length ≤ maxLen) (hg : w.cell? ⟨0, 0, none⟩ = some (.int .i64 m)) (hli : lightB l ps = false) : Calls Try.prog 6 #[.agg #[.slice A l.length c], .slice B ps.length dc, .slice U us.length uc] w fun e w' => e = .returned (.bool true) ∧ Below w.heap.size w w' := by
  have HR := Lib.hid hr; clear hr
  have HS := Lib.hid hs; clear hs
  have HU := Lib.hid hu; clear hu
  have HG := Lib.hid hg; clear hg
  have HFI := Lib.hid hfit; clear hfit
  have HFP := Lib.hid hfp; clear hfp
  have HLI := Lib.hid hli; clear hli
  have hb0 : Below w.heap.size w (w.alloc (.cells #[.slice A l.length c] 24)) := (Below.refl _ _).alloc (Nat.le_refl _) _
  have C0 : (w.alloc (.cells #[.slice A l.length c] 24)).cell? ⟨w.heap.size, 0, none⟩ = some (.slice A l.length c) := by simp [go_sem]
  have HB0 := Lib.hid hb0; clear hb0
  go_enter Try.func6, Try.ntmps6
  go_wp2_with fail
  refine (head20_any _ m (gcell HB0.out HG.out)).mono ?_
  rintro e w1 ⟨rfl, hb1⟩
  have C1 := keepw hb1 C0
  have HB1 := Lib.hid (chain2 HB0.out hb1)
  clear hb1 C0 HB0
  have hz1 := World.block_lt_of_cell? _ _ C1
  go_wp2_with fail
  refine (light_lit HLI.out A B c _ dc _ rfl (HR.out.below HB1.out) (HS.out.below HB1.out) hl HFI.out ⟨hm, HFP.out⟩).mono ?_
  rintro e w2 ⟨rfl, hb2⟩
  have C2 := keepw hb2 C1
  have HB2 := Lib.hid (chain2 HB1.out hb2)
  clear hb2 C1 HB1 hz1
  have hz2 := World.block_lt_of_cell? _ _ C2
  go_wp2_with fail
  go_ret
  exact ⟨rfl, HB2.out⟩
set_option maxRecDepth 20000 in
set_option maxHeartbeats 8000000 in
theorem cord_b (l : List Item) (A : Option Addr) (c : Nat) (ps : List Patch) (B : Option Addr) (dc : Nat) (us : List U8) (U : Option Addr) (uc : Nat) (w : World) (m : Int) (hr : RdI w A l) (hl : l.length ≤ maxLen) (hlc : l.length ≤ c) (hfit : ∀ x ∈ l, x.Fits) (hs : RdP w B ps) (hm : ps.length ≤ maxLen) (hfp : ∀ q ∈ ps, q.Fits) (hu : Sl u8c 1 w U us) (hul : us.length ≤ maxLen) (hg : w.cell? ⟨0, 0, none⟩ = some (.int .i64 m)) (hli : lightB l ps = true) (h20 : 20 < us.length) : Calls Try.prog 6 #[.agg #[.slice A l.length c], .slice B ps.length dc, .slice U us.length uc] w fun e w' => e = .returned (.bool true) ∧ Below w.heap.size w w' := by
  obtain ⟨hl30, hsh⟩ := light_facts hli
  obtain ⟨hp12, hrd⟩ := light_ready hli
  have hq12 : decide ((12 : Int) < (ps.length : Int)) = false := by simp; omega
  have HSH := Lib.hid hsh; clear hsh
  have HRD := Lib.hid hrd; clear hrd
  have hq20 : decide ((20 : Int) < (us.length : Int)) = true := by simp; omega
  have HR := Lib.hid hr; clear hr
  have HS := Lib.hid hs; clear hs
  have HU := Lib.hid hu; clear hu
  have HG := Lib.hid hg; clear hg
  have HFI := Lib.hid hfit; clear hfit
  have HFP := Lib.hid hfp; clear hfp
  have HLI := Lib.hid hli; clear hli
  have hb0 : Below w.heap.size w (w.alloc (.cells #[.slice A l.length c] 24)) := (Below.refl _ _).alloc (Nat.le_refl _) _
  have C0 : (w.alloc (.cells #[.slice A l.length c] 24)).cell? ⟨w.heap.size, 0, none⟩ = some (.slice A l.length c) := by simp [go_sem]
  have HB0 := Lib.hid hb0; clear hb0
  go_enter Try.func6, Try.ntmps6
  go_wp2_with fail
  refine (head20_any _ m (gcell HB0.out HG.out)).mono ?_
  rintro e w1 ⟨rfl, hb1⟩
  have C1 := keepw hb1 C0
  have HB1 := Lib.hid (chain2 HB0.out hb1)
  clear hb1 C0 HB0
  have hz1 := World.block_lt_of_cell? _ _ C1
  go_wp2_with fail
  refine (light_lit HLI.out A B c _ dc _ rfl (HR.out.below HB1.out) (HS.out.below HB1.out) hl HFI.out ⟨hm, HFP.out⟩).mono ?_
  rintro e w2 ⟨rfl, hb2⟩
  have C2 := keepw hb2 C1
  have HB2 := Lib.hid (chain2 HB1.out hb2)
  clear hb2 C1 HB1 hz1
  have hz2 := World.block_lt_of_cell? _ _ C2
  go_wp2_with fail
  go_ret
  exact ⟨rfl, HB2.out⟩
set_option maxRecDepth 20000 in
set_option maxHeartbeats 8000000 in
theorem cord_c (l : List Item) (A : Option Addr) (c : Nat) (ps : List Patch) (B : Option Addr) (dc : Nat) (us : List U8) (U : Option Addr) (uc : Nat) (w : World) (m : Int) (hr : RdI w A l) (hl : l.length ≤ maxLen) (hlc : l.length ≤ c) (hfit : ∀ x ∈ l, x.Fits) (hs : RdP w B ps) (hm : ps.length ≤ maxLen) (hfp : ∀ q ∈ ps, q.Fits) (hu : Sl u8c 1 w U us) (hul : us.length ≤ maxLen) (hg : w.cell? ⟨0, 0, none⟩ = some (.int .i64 m)) (hli : lightB l ps = true) (h20 : ¬ 20 < us.length) (hv : walkB l = false) : Calls Try.prog 6 #[.agg #[.slice A l.length c], .slice B ps.length dc, .slice U us.length uc] w fun e w' => e = .returned (.bool true) ∧ Below w.heap.size w w' := by
  have HV := Lib.hid hv; clear hv
  obtain ⟨hl30, hsh⟩ := light_facts hli
  obtain ⟨hp12, hrd⟩ := light_ready hli
  have hq12 : decide ((12 : Int) < (ps.length : Int)) = false := by simp; omega
  have HSH := Lib.hid hsh; clear hsh
  have HRD := Lib.hid hrd; clear hrd
  have hq20 : decide ((20 : Int) < (us.length : Int)) = false := by simp; omega
  have HR := Lib.hid hr; clear hr
  have HS := Lib.hid hs; clear hs
  have HU := Lib.hid hu; clear hu
  have HG := Lib.hid hg; clear hg
  have HFI := Lib.hid hfit; clear hfit
  have HFP := Lib.hid hfp; clear hfp
  have HLI := Lib.hid hli; clear hli
  have hb0 : Below w.heap.size w (w.alloc (.cells #[.slice A l.length c] 24)) := (Below.refl _ _).alloc (Nat.le_refl _) _
  have C0 : (w.alloc (.cells #[.slice A l.length c] 24)).cell? ⟨w.heap.size, 0, none⟩ = some (.slice A l.length c) := by simp [go_sem]
  have HB0 := Lib.hid hb0; clear hb0
  go_enter Try.func6, Try.ntmps6
  go_wp2_with fail
  refine (head20_any _ m (gcell HB0.out HG.out)).mono ?_
  rintro e w1 ⟨rfl, hb1⟩
  have C1 := keepw hb1 C0
  have HB1 := Lib.hid (chain2 HB0.out hb1)
  clear hb1 C0 HB0
  have hz1 := World.block_lt_of_cell? _ _ C1
  go_wp2_with fail
  refine (light_lit HLI.out A B c _ dc _ rfl (HR.out.below HB1.out) (HS.out.below HB1.out) hl HFI.out ⟨hm, HFP.out⟩).mono ?_
  rintro e w2 ⟨rfl, hb2⟩
  have C2 := keepw hb2 C1
  have HB2 := Lib.hid (chain2 HB1.out hb2)
  clear hb2 C1 HB1 hz1
  have hz2 := World.block_lt_of_cell? _ _ C2
  go_wp2_with fail
  refine (valid_any l A c _ (HR.out.below HB2.out) (by omega) HSH.out).mono ?_
  rintro e w3 ⟨rfl, hb3⟩
  rw [HV.out]
  have C3 := keepw hb3 C2
  have HB3 := Lib.hid (chain2 HB2.out hb3)
  clear hb3 C2 HB2 hz2
  have hz3 := World.block_lt_of_cell? _ _ C3
  go_wp2_with fail
  go_ret
  exact ⟨rfl, HB3.out⟩
theorem Sl.u8 {w : World} {U : Option Addr} {us : List U8} (h : Sl u8c 1 w U us) {i : Nat} {u : U8} (hu : us[i]? = some u) : ∃ b o, U = some ⟨b, o, none⟩ ∧ b < w.heap.size ∧ w.cell? ⟨b, o + i, none⟩ = some (.int .u8 u.1) := by
  obtain ⟨b, o, hA, hlt, hc⟩ := h (by rintro rfl; simp at hu)
  refine ⟨b, o, hA, hlt, ?_⟩
  have := hc i u hu 0 _ rfl
  rw [Nat.mul_one, Nat.add_zero] at this
  exact this
theorem comp_le (adj : Adj) (n i : Nat) : (comp adj n i).length ≤ n := by
  unfold comp
  refine Nat.le_trans (List.length_filter_le _ _) ?_
  simp
theorem heads_le (adj : Adj) (n : Nat) : (heads adj n).length ≤ n := by
  unfold heads
  refine Nat.le_trans (List.length_filter_le _ _) ?_
  simp
def fAt (ps : List Patch) (j : Nat) : Patch := ps.getD j zeroP
theorem fAt_eq {ps : List Patch} {j : Nat} (h : j < ps.length) : ps[j]? = some (fAt ps j) := by
  unfold fAt
  rw [List.getD_eq_getElem?_getD, List.getElem?_eq_getElem h]
  rfl
set_option maxRecDepth 20000 in
set_option maxHeartbeats 8000000 in
theorem cord_d (l : List Item) (A : Option Addr) (c : Nat) (ps : List Patch) (B : Option Addr) (dc : Nat) (us : List U8) (U : Option Addr) (uc : Nat) (w : World) (m : Int) (hr : RdI w A l) (hl : l.length ≤ maxLen) (hlc : l.length ≤ c) (hfit : ∀ x ∈ l, x.Fits) (hs : RdP w B ps) (hm : ps.length ≤ maxLen) (hfp : ∀ q ∈ ps, q.Fits) (hu : Sl u8c 1 w U us) (hul : us.length ≤ maxLen) (hg : w.cell? ⟨0, 0, none⟩ = some (.int .i64 m)) (hli : lightB l ps = true) (h20 : ¬ 20 < us.length) (hv : walkB l = true) : Calls Try.prog 6 #[.agg #[.slice A l.length c], .slice B ps.length dc, .slice U us.length uc] w fun e w' => e = .returned (.bool true) ∧ Below w.heap.size w w' := by
  have HVV := Lib.hid hv
  have HV := Lib.hid hv; clear hv
  obtain ⟨hl30, hsh⟩ := light_facts hli
  obtain ⟨hp12, hrd⟩ := light_ready hli
  have hq12 : decide ((12 : Int) < (ps.length : Int)) = false := by simp; omega
  have HSH := Lib.hid hsh; clear hsh
  have HRD := Lib.hid hrd; clear hrd
  have hq20 : decide ((20 : Int) < (us.length : Int)) = false := by simp; omega
  have HR := Lib.hid hr; clear hr
  have HS := Lib.hid hs; clear hs
  have HU := Lib.hid hu; clear hu
  have HG := Lib.hid hg; clear hg
  have HFI := Lib.hid hfit; clear hfit
  have HFP := Lib.hid hfp; clear hfp
  have HLI := Lib.hid hli; clear hli
  have hb0 : Below w.heap.size w (w.alloc (.cells #[.slice A l.length c] 24)) := (Below.refl _ _).alloc (Nat.le_refl _) _
  have C0 : (w.alloc (.cells #[.slice A l.length c] 24)).cell? ⟨w.heap.size, 0, none⟩ = some (.slice A l.length c) := by simp [go_sem]
  have HB0 := Lib.hid hb0; clear hb0
  go_enter Try.func6, Try.ntmps6
  go_wp2_with fail
  refine (head20_any _ m (gcell HB0.out HG.out)).mono ?_
  rintro e w1 ⟨rfl, hb1⟩
  have C1 := keepw hb1 C0
  have HB1 := Lib.hid (chain2 HB0.out hb1)
  clear hb1 C0 HB0
  have hz1 := World.block_lt_of_cell? _ _ C1
  go_wp2_with fail
  refine (light_lit HLI.out A B c _ dc _ rfl (HR.out.below HB1.out) (HS.out.below HB1.out) hl HFI.out ⟨hm, HFP.out⟩).mono ?_
  rintro e w2 ⟨rfl, hb2⟩
  have C2 := keepw hb2 C1
  have HB2 := Lib.hid (chain2 HB1.out hb2)
  clear hb2 C1 HB1 hz1
  have hz2 := World.block_lt_of_cell? _ _ C2
  go_wp2_with fail
  refine (valid_any l A c _ (HR.out.below HB2.out) (by omega) HSH.out).mono ?_
  rintro e w3 ⟨rfl, hb3⟩
  rw [HV.out]
  have C3 := keepw hb3 C2
  have HB3 := Lib.hid (chain2 HB2.out hb3)
  clear hb3 C2 HB2 hz2
  have hz3 := World.block_lt_of_cell? _ _ C3
  obtain ⟨n, hn⟩ : ∃ n, n = ps.length := ⟨_, rfl⟩
  obtain ⟨cmp, hcmp⟩ : ∃ cmp, cmp = comp (adjF ps) ps.length := ⟨_, rfl⟩
  obtain ⟨H0, hH0⟩ : ∃ H0, H0 = heads (adjF ps) ps.length := ⟨_, rfl⟩
  have hH12 : H0.length ≤ 12 := by rw [hH0]; exact Nat.le_trans (heads_le _ _) hp12
  have hc12 : ∀ i, (cmp i).length ≤ 12 := fun i => by rw [hcmp]; exact Nat.le_trans (comp_le _ _ _) hp12
  have hcl : ∀ i x, x ∈ cmp i → x < ps.length := fun i x hx => by rw [hcmp] at hx; exact (comp_mem.1 hx).1
  have HC12 := Lib.hid hc12; clear hc12
  have HCL := Lib.hid hcl; clear hcl
  go_wp2_with fail
  refine (groups_heads ps HRD.out (by omega) B dc _ rfl m _ (HS.out.below HB3.out) (gcell HB3.out HG.out)).mono ?_
  rintro e w4 ⟨A4, c4, rfl, hrg, hfr, hA4, hb4⟩
  rw [← hcmp, ← hH0] at hrg
  rw [← hH0]
  have HCMP := Lib.hid hcmp; clear hcmp
  have HH0 := Lib.hid hH0; clear hH0
  have HA4 := Lib.hid hA4; clear hA4
  have HRG := Lib.hid hrg; clear hrg
  have HFR := Lib.hid hfr; clear hfr
  have HB4 := Lib.hid hb4; clear hb4
  clear hn
  go_wp2_with fail
  go_loopw [9] (fun v wr => ∃ (i : Nat) (H : List Nat), i ≤ H0.length ∧ v = .int .i64 i ∧ H.Perm H0 ∧ RdG wr A4 (H.map cmp) ∧ FrG wr A4 ∧ Below w3.heap.size w3 wr) (fun v _ => H0.length - (intOf v).toNat)
  case atStart => exact ⟨0, H0, Nat.zero_le _, rfl, List.Perm.refl _, HRG.out, HFR.out, HB4.out⟩
  case round =>
    obtain ⟨i, H, hi, rfl, hP, hrg, hfr, hb⟩ := hrel
    clear HRG HFR HB4
    have HP := Lib.hid hP
    have hHl := hP.length_eq
    have HHL := Lib.hid hHl
    have HRG := Lib.hid hrg
    have HFR := Lib.hid hfr
    have HB4 := Lib.hid hb
    by_cases hlt : i < H0.length ∧ i < us.length
    · obtain ⟨hlt1, hlt2⟩ := hlt
      obtain ⟨u, hu⟩ := get_of_lt hlt2
      obtain ⟨bu, ou, rfl, hbu, cu⟩ := ((HU.out.below HB3.out).below hb).u8 hu
      obtain ⟨hu0, hu1⟩ := u.2
      obtain ⟨rn, hrn⟩ : ∃ rn : Nat, u.1 = (rn : Int) := ⟨u.1.toNat, by omega⟩
      rw [hrn] at cu hu0 hu1
      have hkk : rn % H0.length < H0.length := Nat.mod_lt _ (by omega)
      have htm : Int.tmod (rn : Int) (H0.length : Int) = ((rn % H0.length : Nat) : Int) := (Int.ofNat_tmod rn H0.length).symm
      generalize rn % H0.length = kk at hkk htm
      obtain ⟨gi, hgi⟩ : ∃ g, (H.map cmp)[i]? = some g := get_of_lt (by simp; omega)
      obtain ⟨gk, hgk⟩ : ∃ g, (H.map cmp)[kk]? = some g := get_of_lt (by simp; omega)
      obtain ⟨bo, rfl, hbo, hrows⟩ := hrg (get_ne hgi)
      obtain ⟨c1, d1, e1, l1, t1, n1, x1⟩ := hrows i gi hgi
      obtain ⟨c2, d2, e2, l2, t2, n2, x2⟩ := hrows kk gk hgk
      have f1 := hfr bo rfl i
      have f2 := hfr bo rfl kk
      have hi0 : (0 : Int) ≤ i := by omega
      have hi1 : (i : Int) < H0.length := by omega
      have hi2 : (i : Int) < us.length := by omega
      have hk0 : (0 : Int) ≤ kk := by omega
      have hk1 : (kk : Int) < H0.length := by omega
      have hne0 : ((H0.length : Int) == 0) = false := beq_eq_false_iff_ne.2 (by omega)
      have hne1 : ¬ (H0.length : Int) = 0 := by omega
      have hwr := wrap_small (rn : Int) (by omega) (by omega)
      have HGI := Lib.hid hgi
      have HGK := Lib.hid hgk
      have HE1 := Lib.hid e1
      have HE2 := Lib.hid e2
      clear hgi hgk x1 x2 hrows hb hu hrg hfr hP hHl hrn
      go_upto_region 9 with fail
      obtain ⟨vx, hvx⟩ := cell?_setCell_some (p := ⟨bo, i, none⟩) (x := .slice (some ⟨c2, 0, none⟩) gk.length d2) e2
      go_region
      go_wp2_with fail
      refine ⟨⟨i + 1, (H.set i (H.getD kk 0)).set kk (H.getD i 0), by omega, by go_num, ?_, ?_, ?_, ?_⟩, by simp [intOf]; omega⟩
      · have h1 : i < H.length := by rw [HHL.out]; exact hlt1
        have h2 : kk < H.length := by rw [HHL.out]; exact hkk
        rw [List.getD_eq_getElem?_getD, List.getD_eq_getElem?_getD, List.getElem?_eq_getElem h1, List.getElem?_eq_getElem h2]
        exact (List.set_set_perm h1 h2).trans HP.out
      · have h1 : i < H.length := by rw [HHL.out]; exact hlt1
        have h2 : kk < H.length := by rw [HHL.out]; exact hkk
        have e3 := HRG.out.swap HGI.out HGK.out HE1.out HE2.out
        rw [List.map_set, List.map_set, List.getD_eq_getElem?_getD, List.getD_eq_getElem?_getD, List.getElem?_eq_getElem h1, List.getElem?_eq_getElem h2]
        have g1 := HGI.out
        have g2 := HGK.out
        rw [List.getElem?_map, List.getElem?_eq_getElem h1] at g1
        rw [List.getElem?_map, List.getElem?_eq_getElem h2] at g2
        simp only [Option.map_some, Option.some.injEq] at g1 g2
        rw [Option.getD_some, Option.getD_some, g1, g2]
        exact e3
      · intro b hb q
        have := HFR.out b hb q
        simpa [go_sem] using this
      · have hge := HA4.out bo rfl
        exact ((HB4.out.setCell (p := ⟨bo, i, none⟩) hge _).setCell (p := ⟨bo, kk, none⟩) hge _).drew
    · go_upto_region 6 with fail
      go_cut [53] (fun v53 wd => v53 = .bool false ∧ wr = wd)
      case first =>
        by_cases h1 : i < H0.length
        · have h2 : decide ((i : Int) < (us.length : Int)) = false := by simp; omega
          have h3 : (i : Int) < H0.length := by omega
          go_wp2_with fail
          go_meet
          case rel => exact ⟨congrArg Value.bool (by simp; omega), rfl⟩
        · have h3 : decide ((i : Int) < (H0.length : Int)) = false := by simp; omega
          have h3' : decide (i < H0.length) = false := by simp; omega
          go_wp2_with fail
          go_meet
          case rel => exact ⟨rfl, rfl⟩
      case rest =>
      obtain ⟨rfl, rfl⟩ := hcut
      obtain ⟨wA, hwA⟩ : ∃ x, x = wr := ⟨_, rfl⟩
      subst hwA
      have HBA := Lib.hid (chain2 HB3.out HB4.out)
      have CA := keepw HB4.out C3
      have hzA := World.block_lt_of_cell? _ _ CA
      clear hrg hfr hb hlt hi HB4 hHl hP C3
      obtain ⟨G, hG⟩ : ∃ G, H.map cmp = G := ⟨_, rfl⟩
      have hGl : G.length = H0.length := by rw [← hG, List.length_map, HHL.out]
      have hg12 : ∀ g ∈ G, g.length ≤ 12 ∧ ∀ x ∈ g, x < ps.length := by
        intro g hg
        rw [← hG] at hg
        obtain ⟨y, _, rfl⟩ := List.mem_map.1 hg
        exact ⟨HC12.out y, fun x hx => HCL.out y x hx⟩
      obtain ⟨k1, k2, k3⟩ := orders_same HVV.out (H := H) (by rw [← HH0.out]; exact HP.out) (fAt ps) (fun j hj => by have := fAt_eq hj; rw [List.getElem?_eq_getElem hj] at this; exact (Option.some.inj this).symm)
      rw [← HCMP.out] at k1 k2 k3
      have hfl : H.flatMap cmp = G.flatten := by rw [← hG]; rfl
      rw [hfl] at k1 k2 k3
      obtain ⟨T, hT⟩ : ∃ T, G.flatten.map (fAt ps) = T := ⟨_, rfl⟩
      rw [hT] at k1 k2
      have hTl : T.length = ps.length := by rw [← hT, List.length_map, k3]
      have hTr : ∀ q ∈ T, q.Ready := by
        intro q hq
        rw [← hT] at hq
        obtain ⟨x, hx, rfl⟩ := List.mem_map.1 hq
        obtain ⟨g, hg, hxg⟩ := List.mem_flatten.1 hx
        exact HRD.out _ (List.mem_of_getElem? (fAt_eq ((hg12 g hg).2 x hxg)))
      rw [hG] at HRG
      have HG12 := Lib.hid hg12; clear hg12
      have HK1 := Lib.hid k1; clear k1
      have HK2 := Lib.hid k2; clear k2
      have HK3 := Lib.hid k3; clear k3
      have HT := Lib.hid hT; clear hT
      have HTLL := Lib.hid hTl; clear hTl
      have HTR := Lib.hid hTr; clear hTr
      have HGL := Lib.hid hGl; clear hGl
      clear hG hfl
      have HSA := Lib.hid (HS.out.below HBA.out)
      go_wp2_with fail
      go_loopw [11, 12] (fun v11 v12 wr => ∃ i : Nat, i ≤ H0.length ∧ v12 = .int .i64 i ∧ OwnPs wr wA.heap.size v11 (tl G (fAt ps) i 0) ∧ Below wA.heap.size wA wr) (fun _ v12 _ => H0.length - (intOf v12).toNat)
      case atStart => exact ⟨0, Nat.zero_le _, rfl, by rw [tl_zero]; exact OwnPs.nil _ _, Below.refl _ _⟩
      case round =>
        obtain ⟨i, hi, rfl, hown, hb⟩ := hrel
        have HO := Lib.hid hown; clear hown
        have HBi := Lib.hid hb
        by_cases hlt : i < H0.length
        · obtain ⟨g, hx⟩ : ∃ g, G[i]? = some g := get_of_lt (by rw [HGL.out]; exact hlt)
          have hi1 : (i : Int) < H0.length := by omega
          have hi0 : (0 : Int) ≤ i := by omega
          obtain ⟨hgn, hgx⟩ := HG12.out g (List.mem_of_getElem? hx)
          have HX := Lib.hid hx; clear hx
          have HGX := Lib.hid hgx; clear hgx
          clear hb
          go_wp2_with fail
          go_loopw [11, 13] (fun v11 v13 wr => ∃ k : Nat, k ≤ g.length ∧ v13 = .int .i64 k ∧ OwnPs wr wA.heap.size v11 (tl G (fAt ps) i k) ∧ Below wA.heap.size wA wr) (fun _ v13 _ => g.length - (intOf v13).toNat)
          case atStart => exact ⟨0, Nat.zero_le _, rfl, HO.out, HBi.out⟩
          case round =>
            obtain ⟨k, hk, rfl, hown, hb⟩ := hrel
            have HO2 := Lib.hid hown; clear hown
            have HBk := Lib.hid hb
            obtain ⟨b1, rfl, hs1, h1⟩ := (HRG.out.below hb) (get_ne HX.out)
            obtain ⟨c1, d1, e1, l1, t1, n1, x1⟩ := h1 i g HX.out
            have hpr := fun x p (hx : ps[x]? = some p) => RdP.row (HSA.out.below hb) hx
            clear h1 hb
            by_cases hl2 : k < g.length
            · obtain ⟨x, hxk⟩ := get_of_lt hl2
              have f1 := x1 k x hxk
              have hxn : x < ps.length := HGX.out x (List.mem_of_getElem? hxk)
              obtain ⟨b2, o2, C2', t2, fr2, rfl, hbs2, hblk, hC, hex⟩ := hpr x _ (fAt_eq hxn)
              have j1 : (k : Int) < g.length := by omega
              have j0 : (0 : Int) ≤ k := by omega
              have x0' : (0 : Int) ≤ x := by omega
              have x1' : (x : Int) < ps.length := by omega
              have x2' : decide (ps.length ≤ x) = false := by simp; omega
              have htl := tl_len G (fAt ps) i k
              rw [HK3.out] at htl
              have HTL := Lib.hid htl; clear htl
              have HXK := Lib.hid hxk; clear hxk
              clear x1 hpr
              have hszw := HBk.out.size
              have HSZW := Lib.hid hszw; clear hszw
              go_wp2_with (at_builtin; refine wpList_append_pats rfl (.tmp 108) (.tmp 113) rfl rfl wA.heap.size _ (tl G (fAt ps) i k) [fAt ps x] (some ⟨wr.heap.size, 0, none⟩) 1 1 rfl rfl rfl (HO2.out.below (bl1 (Below.refl _ _) _)) (RdP.one _ (fAt ps x) _ (heap_alloc_new _ _)) (by have := HTL.out; simp; omega) (by have := HSZW.out; simp; omega) ?_; intro v' w' hown1 hgr)
              refine ⟨⟨k + 1, by omega, by go_num, ?_, ?_⟩, by simp [intOf]; omega⟩
              · rw [tl_next HX.out HXK.out]
                exact hown1
              · exact (bl1 HBk.out _).grown hgr (by have := HSZW.out; simp; omega) HO2.out.ge
            · obtain rfl : k = g.length := by omega
              go_wp2_with fail
              exact ⟨⟨i + 1, by omega, by go_num, by rw [← tl_up HX.out]; exact HO2.out, HBk.out⟩, by simp [intOf]; omega⟩
        · obtain rfl : i = H0.length := by omega
          obtain ⟨wB, hwB⟩ : ∃ x, x = wr := ⟨_, rfl⟩
          subst hwB
          have hOT := HO.out
          rw [← HGL.out, tl_end, HT.out] at hOT
          obtain ⟨At, ct, rfl, hct, hcm, hrt⟩ := hOT.reads
          have HRT := Lib.hid hrt; clear hrt
          have CB := keepw hb CA
          have HBB := Lib.hid (chain2 HBA.out hb)
          have hzB := World.block_lt_of_cell? _ _ CB
          clear hOT hb CA hzA
          have HSB := Lib.hid (HS.out.below HBB.out)
          obtain ⟨d, i0, er, hal⟩ : ∃ d i0 er, allR l ps = (d, i0, er) := ⟨_, _, _, rfl⟩
          obtain ⟨d2, i1, fr, ham⟩ : ∃ d i0 er, allR l T = (d, i0, er) := ⟨_, _, _, rfl⟩
          have hk1 := HK1.out
          have hk2 := HK2.out
          rw [hal, ham] at hk1 hk2
          simp only at hk1 hk2
          have hdl : d.length ≤ 100000 := by have := allRL_len l ps (by omega); rw [hal] at this; exact this
          have HAL := Lib.hid hal; clear hal
          have HAM := Lib.hid ham; clear ham
          have HDD := Lib.hid hk2; clear hk2
          have hTl2 : ((T.length : Int) == (ps.length : Int)) = true := by rw [HTLL.out]; simp
          obtain ⟨q, he, hf⟩ : ∃ q, (er == 0) = q ∧ (fr == 0) = q := by
            refine ⟨_, rfl, ?_⟩
            by_cases h : er = 0
            · rw [hk1.1 h, h]
            · have h' : fr ≠ 0 := fun e => h (hk1.2 e)
              rw [beq_eq_false_iff_ne.2 h, beq_eq_false_iff_ne.2 h']
          have hTn : T.length ≤ 1000000 := by rw [HTLL.out]; omega
          clear hk1 HK1 HK2 HK3 HT
          cases q
          all_goals
            go_wp2_with fail
            refine (all_lit HAL.out A B ps.length c dc _ rfl (HR.out.below HBB.out) HSB.out (by omega) hlc HSH.out (by omega) HRD.out m (gcell HBB.out HG.out)).mono ?_
            rintro e w5 ⟨Ad, cd, rfl, hrd, hcd1, hb5⟩
            have C5 := keepw hb5 CB
            have HB5 := Lib.hid (chain2 HBB.out hb5)
            have HRT5 := Lib.hid (RdP.below HRT.out hb5)
            have HX := Lib.hid hrd
            clear hb5 hrd hcd1 CB hzB
            have hz5 := World.block_lt_of_cell? _ _ C5
            go_wp2_with fail
            have hbl := bl1 HB5.out (.cells #[.slice Ad d.length cd] 24)
            refine (all_lit HAM.out A At T.length c ct _ rfl (HR.out.below hbl) (RdP.below HRT5.out (bl1 (Below.refl _ _) _)) (by omega) hlc HSH.out hTn HTR.out m (gcell hbl HG.out)).mono ?_
            rintro e w6 ⟨Ae, ce, rfl, hre, hce1, hb6⟩
            have hx6 := step_below hb6
            have K6 := bx_c hb6 rfl
            have HB6 := Lib.hid (chain2 HB5.out hx6)
            have HX6 := Lib.hid (HX.out.below hx6)
            have HY := Lib.hid hre
            clear hbl hb6 hx6 hre hce1 C5 hz5
            have hz6 := World.block_lt_of_cell? _ _ K6
            go_wp2_with fail
            refine (same_lit HDD.out Ad Ae _ _ cd ce _ rfl rfl (HX6.out.below (bl1 (Below.refl _ _) _)) (HY.out.below (bl1 (Below.refl _ _) _)) hdl).mono ?_
            rintro e w7 ⟨rfl, hb7⟩
            have HB7 := Lib.hid (chain2 (bl1 HB6.out _) hb7)
            clear hb7
            go_wp2_with fail
            go_ret
            exact ⟨rfl, HB7.out⟩
theorem cord_any (l : List Item) (A : Option Addr) (c : Nat) (ps : List Patch) (B : Option Addr) (dc : Nat) (us : List U8) (U : Option Addr) (uc : Nat) (w : World) (m : Int) (hr : RdI w A l) (hl : l.length ≤ maxLen) (hlc : l.length ≤ c) (hfit : ∀ x ∈ l, x.Fits) (hs : RdP w B ps) (hm : ps.length ≤ maxLen) (hfp : ∀ q ∈ ps, q.Fits) (hu : Sl u8c 1 w U us) (hul : us.length ≤ maxLen) (hg : w.cell? ⟨0, 0, none⟩ = some (.int .i64 m)) : Calls Try.prog 6 #[.agg #[.slice A l.length c], .slice B ps.length dc, .slice U us.length uc] w fun e w' => e = .returned (.bool true) ∧ Below w.heap.size w w' := by
  cases hli : lightB l ps with
  | false => exact cord_a l A c ps B dc us U uc w m hr hl hlc hfit hs hm hfp hu hul hg hli
  | true =>
    by_cases h20 : 20 < us.length
    · exact cord_b l A c ps B dc us U uc w m hr hl hlc hfit hs hm hfp hu hul hg hli h20
    · cases hv : walkB l with
      | false => exact cord_c l A c ps B dc us U uc w m hr hl hlc hfit hs hm hfp hu hul hg hli h20 hv
      | true => exact cord_d l A c ps B dc us U uc w m hr hl hlc hfit hs hm hfp hu hul hg hli h20 hv

end Go.Proofs.Ytfolcjkednmkoaa
