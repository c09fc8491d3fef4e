/- The law PrinterWords. -/
import Derived.Test.YtbicmjmcdnkjhaaGreatDoorJPW1
import Derived.Test.YtbicmjmcdnkjhaaGreatDoorJP40
import Derived.Deep.QuietTactic
import Derived.BigQuiet
set_option linter.unusedVariables false
set_option linter.unusedSimpArgs false
namespace Go.Proofs.YtbicmjmcdnkjhaaGreatDoor
open Go.RowKit
theorem rds_row {w : World} {b : Nat} {l : List Bytes} {T : TypeId} (h : w.heap[b]? = some (.cells (l.map vs).toArray T (0, 0))) : RdS w (some ⟨b, 0, none⟩) l := by
  intro _
  refine ⟨b, 0, rfl, lt_of_heap' h, fun k x hx j v hv => ?_⟩
  cases j with
  | succ j => simp at hv
  | zero =>
    simp at hv
    subst hv
    refine cell_of_blk h ?_
    simp [hx]
def WordsP (kw : List Bytes) (n : Nat) (w : World) (e : Ending) (w' : World) : Prop := ∃ g, e = .returned (.slice (some ⟨g, 0, none⟩) n n) ∧ RdS w' (some ⟨g, 0, none⟩) kw ∧ Below w.heap.size w w'
set_option maxRecDepth 20000 in
theorem nwords_any (w : World) : Calls Tryz.prog 17 #[] w (WordsP keyWords 24 w) := by
  go_enter Tryz.func17, Tryz.ntmps17
  go_wp2_with fail
  go_ret
  exact ⟨w.heap.size, rfl, rds_row (T := 9) (heap_alloc_new w _), belowA w _⟩
set_option maxRecDepth 20000 in
theorem swords_any (w : World) : Calls Tryz.prog 18 #[] w (WordsP So.keyWords 31 w) := by
  go_enter Tryz.func18, Tryz.ntmps18
  go_wp2_with fail
  go_ret
  exact ⟨w.heap.size, rfl, rds_row (T := 9) (heap_alloc_new w _), belowA w _⟩
theorem in_words (l : List Bytes) (g n : Nat) (s : Bytes) (w : World) (b : Bool) (hn : l.length = n) (hb : l.contains s = b) (hr : RdS w (some ⟨g, 0, none⟩) l) (hl : n ≤ 1000000) :
    Calls Tryz.prog 19 #[.slice (some ⟨g, 0, none⟩) n n, vs s] w fun e w' => e = .returned (.bool b) ∧ Below w.heap.size w w' := by
  subst hn hb
  exact in_any l _ _ s w hr hl
structure Bx1 (w wx : World) (C : Array Value) (T : TypeId) : Prop where
  below : Below w.heap.size w wx
  blk : wx.blk w.heap.size = some (.cells C T (0, 0))
theorem Bx1.start (w : World) (C : Array Value) (T : TypeId) : Bx1 w (w.alloc (.cells C T)) C T := ⟨belowA w _, heap_alloc_new w _⟩
theorem Bx1.step {w wx w' : World} {C : Array Value} {T : TypeId} (h : Bx1 w wx C T) (hb : Below wx.heap.size wx w') : Bx1 w w' C T := ⟨h.below.trans (hb.mono h.below.size), (hb.block _ (lt_of_heap' h.blk)).trans h.blk⟩
theorem Bx1.lt {w wx : World} {C : Array Value} {T : TypeId} (h : Bx1 w wx C T) : w.heap.size < wx.heap.size := lt_of_heap' h.blk
theorem Bx1.drew {w wx : World} {C : Array Value} {T : TypeId} (h : Bx1 w wx C T) : Bx1 w wx.drew C T := ⟨h.below.drew, h.blk⟩
def WordSl (w wc : World) (C : Array Value) (T : TypeId) (v : Value) : Prop := ∃ (kw : List Bytes) (kn g : Nat), v = .slice (some ⟨g, 0, none⟩) kn kn ∧ RdS wc (some ⟨g, 0, none⟩) kw ∧ Bx1 w wc C T ∧ kw.length = kn ∧ (kn = 24 ∨ kn = 31) ∧ ∀ x ∈ kw, x ∈ keyWords ∨ x ∈ So.keyWords
def Named (w wd : World) (cs : List Value) (T : TypeId) : Prop := ∃ x : Bytes, (x ∈ keyWords ∨ x ∈ So.keyWords) ∧ Bx1 w wd (cs.set 3 (vs x)).toArray T
theorem below_drewN {B : Nat} {a w : World} (h : Below B a w) (n : Nat) : Below B a (w.drewN n) := ⟨h.os, h.tape, h.output, h.size, h.block⟩
theorem fewP_name {P : ProvI} {s : Bytes} (h : FewP P) (hs : s.length ≤ 60) : FewP (setName P s) := by
  obtain ⟨h1, h2, h3, h4, h5, h6⟩ := h
  refine ⟨h1, h2, h3, h4, h5, fun x hx => ?_⟩
  unfold namesI setName at hx
  simp only [List.mem_cons] at hx
  rcases hx with rfl | rfl | hx
  · exact h6 _ (by unfold namesI; simp)
  · exact hs
  · exact h6 _ (by unfold namesI; simp only [List.mem_cons]; exact Or.inr (Or.inr hx))
set_option maxRecDepth 100000
set_option maxHeartbeats 4000000 in
theorem words_any (w : World) (cs : List Value) (P : ProvI) (a : Int) (second : Bool) (hr : RdPX w cs P) (hp : plainP P) (hm : P.exc.length ≤ maxLen) (ha : 0 ≤ a ∧ a ≤ 255) (ht : Tabs w) :
    Calls Tryz.prog 5 #[.agg cs.toArray, .int .u8 a, .bool second] w fun e w' => e = .returned (.bool true) ∧ Below w.heap.size w w' := by
  obtain ⟨-, ld1⟩ := rdpx_io hr
  have HT := Lib.hid ht
  have HR := Lib.hid hr
  have HP := Lib.hid hp
  have ha1 := ha.1
  have ha2 := ha.2
  have HX := Lib.hid (Bx1.start w cs.toArray 30)
  clear ht hr hp ha
  go_enter Tryz.func5, Tryz.ntmps5
  go_wp2_with fail
  refine (head_any _ (HT.out.below HX.out.below)).mono ?_
  rintro e w1 ⟨rfl, hb⟩
  have H1 := Lib.hid (HX.out.step hb)
  have k1 := H1.out.blk
  have l1 := H1.out.lt
  clear hb HX
  go_wp2_with fail
  cases hf1 : fewI P with
  | false =>
    refine (few_any w1 cs P (HR.out.keep H1.out.below) hm false hf1).mono ?_
    rintro e w2 ⟨rfl, hb⟩
    have H2 := Lib.hid (H1.out.step hb)
    clear hb k1 l1
    go_wp2_with fail
    go_ret
    exact ⟨rfl, H2.out.below⟩
  | true =>
  refine (few_any w1 cs P (HR.out.keep H1.out.below) hm true hf1).mono ?_
  rintro e w2 ⟨rfl, hb⟩
  have H2 := Lib.hid (H1.out.step hb)
  clear hb k1 l1
  have k1 := H2.out.blk
  have l1 := H2.out.lt
  have HF := Lib.hid (fewI_iff.1 hf1)
  clear hf1
  obtain ⟨NP, hNP⟩ : ∃ x, northA P = x := ⟨_, rfl⟩
  obtain ⟨SP, hSP⟩ : ∃ x, southA P = x := ⟨_, rfl⟩
  obtain ⟨t0, e0⟩ := NP
  obtain ⟨t1, e1⟩ := SP
  have HNP := Lib.hid hNP
  have HSP := Lib.hid hSP
  clear hNP hSP
  have z0 : (((0 : Nat) : Int)) = 0 := rfl
  go_wp2_with fail
  refine (north_p w w2 cs P HR.out H2.out.below HT.out HP.out HF.out).mono ?_
  rintro e4 w4 ⟨rfl, hb⟩
  rw [HNP.out]
  have H4 := Lib.hid (H2.out.step hb)
  clear hb k1 l1
  have k1 := H4.out.blk
  have l1 := H4.out.lt
  go_wp2_with fail
  refine (south_p w w4 cs P HR.out H4.out.below HT.out HP.out HF.out).mono ?_
  rintro e5 w5 ⟨rfl, hb⟩
  rw [HSP.out]
  have H5 := Lib.hid (H4.out.step hb)
  clear hb k1 l1
  have k1 := H5.out.blk
  have l1 := H5.out.lt
  have hcase : (¬ e0 = 0 ∨ ¬ e1 = 0) ∨ (e0 = 0 ∧ e1 = 0) := by omega
  rcases hcase with hc | ⟨rfl, rfl⟩
  · have hc2 : ¬ ((e0 : Int) = 0) ∨ (((e0 : Int) = 0) ∧ ¬ ((e1 : Int) = 0)) := by omega
    clear hc z0
    rcases hc2 with hc | ⟨hc, hc'⟩
    · go_wp2_with fail
      go_ret
      exact ⟨rfl, H5.out.below⟩
    · go_wp2_with fail
      go_ret
      exact ⟨rfl, H5.out.below⟩
  rw [z0]
  have HE0 : Hid ((northA P).2 = 0 ∧ (southA P).2 = 0) := Lib.hid ⟨by rw [HNP.out], by rw [HSP.out]⟩
  clear z0 HNP HSP
  go_upto_if 41 with (go_at_call 17; refine (nwords_any _).mono ?_; rintro e6 w6 ⟨g6, rfl, hr6, hb⟩; have HN6 := Lib.hid hr6; have H6 := Lib.hid (H5.out.step hb); clear hb hr6 k1 l1)
  go_cut [1, 3, 7, 12] from 0 to 200 (fun s1 s3 s7 s12 wc => s1 = .int .u8 a ∧ s3 = .pointer (some ⟨w.heap.size, 0, none⟩) ∧ s7 = .bool true ∧ WordSl w wc cs.toArray 30 s12)
  case first =>
    cases second with
    | false =>
      go_wp2_with fail
      go_meet
      case rel => exact ⟨rfl, rfl, rfl, keyWords, 24, g6, rfl, HN6.out, H6.out, rfl, Or.inl rfl, fun x hx => Or.inl hx⟩
    | true =>
      go_wp2_with (go_at_call 18; refine (swords_any _).mono ?_; rintro e7 w7 ⟨g7, rfl, hr7, hb⟩; have HN7 := Lib.hid hr7; have H7 := Lib.hid (H6.out.step hb); clear hb hr7)
      go_meet
      case rel => exact ⟨rfl, rfl, rfl, So.keyWords, 31, g7, rfl, HN7.out, H7.out, rfl, Or.inr rfl, fun x hx => Or.inr hx⟩
  case rest =>
    obtain ⟨rfl, rfl, rfl, kw, kn, g, rfl, hkr, hbx, hkl, hkn, hkm⟩ := hcut
    have HB := Lib.hid hbx
    have HKR := Lib.hid hkr
    have HKL := Lib.hid hkl
    have HKM := Lib.hid hkm
    have c3 : wc.cell? ⟨w.heap.size, 3, none⟩ = some (vs P.name) := cell_of_blk hbx.blk (by rw [List.getElem?_toArray]; exact (rdpx_at HR.out).2.2.2.1)
    have f3 := frozen_of_blk (o := 3) hbx.blk
    have hl := hbx.lt
    clear hkr hbx hkl hkm
    go_upto_region 11 with fail
    go_cut [3, 7] from 0 to 200 (fun s3 s7 wd => s3 = .pointer (some ⟨w.heap.size, 0, none⟩) ∧ s7 = .bool true ∧ Named w wd cs 30)
    case first =>
      rcases hkn with rfl | rfl
      · obtain ⟨k, hk⟩ : ∃ k : Nat, a % 24 = (k : Int) := ⟨(a % 24).toNat, by omega⟩
        have hkn2 : k < 24 := by omega
        obtain ⟨x, hx⟩ := get_of_lt (l := kw) (k := k) (by rw [HKL.out]; exact hkn2)
        obtain ⟨b0, o0, hA, hb0, hc0⟩ := HKR.out.item hx
        cases hA
        rw [Nat.zero_add] at hc0
        have hmd : a.tmod 24 = k := by rw [Int.tmod_eq_emod_of_nonneg ha1, hk]
        have hxm := HKM.out x (List.mem_of_getElem? hx)
        have hk0 : (0 : Int) ≤ (k : Int) := by omega
        have hk1 : (k : Int) < 24 := by omega
        clear hx
        go_wp2_with fail
        go_meet
        case rel => exact ⟨rfl, rfl, x, hxm, HB.out.below.setCell (Nat.le_refl _) _, blk_set HB.out.blk⟩
      · obtain ⟨k, hk⟩ : ∃ k : Nat, a % 31 = (k : Int) := ⟨(a % 31).toNat, by omega⟩
        have hkn2 : k < 31 := by omega
        obtain ⟨x, hx⟩ := get_of_lt (l := kw) (k := k) (by rw [HKL.out]; exact hkn2)
        obtain ⟨b0, o0, hA, hb0, hc0⟩ := HKR.out.item hx
        cases hA
        rw [Nat.zero_add] at hc0
        have hmd : a.tmod 31 = k := by rw [Int.tmod_eq_emod_of_nonneg ha1, hk]
        have hxm := HKM.out x (List.mem_of_getElem? hx)
        have hk0 : (0 : Int) ≤ (k : Int) := by omega
        have hk1 : (k : Int) < 31 := by omega
        clear hx
        go_wp2_with fail
        go_meet
        case rel => exact ⟨rfl, rfl, x, hxm, HB.out.below.setCell (Nat.le_refl _) _, blk_set HB.out.blk⟩
    case rest =>
      obtain ⟨rfl, rfl, x, hxm, hbx⟩ := hcut
      clear c3 f3 hl HB HKR HKL HKM hkn
      have hxs : x.length ≤ 60 := by
        have h1 : ∀ y ∈ keyWords, y.length ≤ 60 := by decide
        have h2 : ∀ y ∈ So.keyWords, y.length ≤ 60 := by decide
        rcases hxm with h | h
        · exact h1 x h
        · exact h2 x h
      obtain ⟨ds, hds⟩ : ∃ ds, cs.set 3 (vs x) = ds := ⟨_, rfl⟩
      rw [hds] at hbx
      have hq : RdPX w ds (setName P x) := by rw [← hds]; exact rdpx_name HR.out x
      have d3 : ds[3]? = some (vs x) := (rdpx_at hq).2.2.2.1
      obtain ⟨-, ld2⟩ := rdpx_io hq
      obtain ⟨hwN, hwS⟩ := words_law hxm HE0.out.1 HE0.out.2
      obtain ⟨NP, hNP⟩ : ∃ y, northA (setName P x) = y := ⟨_, rfl⟩
      obtain ⟨SP, hSP⟩ : ∃ y, southA (setName P x) = y := ⟨_, rfl⟩
      rw [hNP] at hwN
      rw [hSP] at hwS
      obtain ⟨t2, g2⟩ := NP
      obtain ⟨t3, g3⟩ := SP
      simp only at hwN hwS
      have HNP := Lib.hid hNP
      have HSP := Lib.hid hSP
      have HWN := Lib.hid hwN
      have HWS := Lib.hid hwS
      have HF2 := Lib.hid (fewP_name HF.out hxs)
      have HP2 : Hid (plainP (setName P x)) := Lib.hid HP.out
      have HQ := Lib.hid hq
      have H6 := Lib.hid hbx
      have k1 := hbx.blk
      have l1 := hbx.lt
      clear hds hq hNP hSP hwN hwS hbx hxm hxs ld1
      go_wp2_with fail
      refine (north_p w _ ds _ HQ.out H6.out.below HT.out HP2.out HF2.out).mono ?_
      rintro e7 w7 ⟨rfl, hb⟩
      rw [HNP.out]
      have H7 := Lib.hid (H6.out.step hb)
      clear hb k1 l1
      have k1 := H7.out.blk
      have l1 := H7.out.lt
      go_wp2_with fail
      refine (south_p w w7 ds _ HQ.out H7.out.below HT.out HP2.out HF2.out).mono ?_
      rintro e8 w8 ⟨rfl, hb⟩
      rw [HSP.out]
      have H8 := Lib.hid (H7.out.step hb)
      have HD3 := Lib.hid d3
      clear hb k1 l1 ld2 d3
      go_upto_region 14 with fail
      go_cut [3, 7, 16, 17] from 0 to 200 (fun s3 s7 s16 s17 wd => s3 = .pointer (some ⟨w.heap.size, 0, none⟩) ∧ s7 = .bool true ∧ s16 = .int .i64 (g3 : Int) ∧ s17 = .bool true ∧ Bx1 w wd ds.toArray 30)
      case first =>
        have hcs : g2 = 2 ∨ (¬ g2 = 2 ∧ g2 = 7 ∧ keyWords.contains x = true) ∨ (¬ g2 = 2 ∧ ¬ g2 = 7 ∧ keyWords.contains x = false) := by
          rcases HWN.out with h | h
          · exact Or.inl h
          · by_cases h2 : g2 = 2
            · exact Or.inl h2
            · cases hc : keyWords.contains x with
              | true => exact Or.inr (Or.inl ⟨h2, h.2 hc, rfl⟩)
              | false => exact Or.inr (Or.inr ⟨h2, fun h7 => (by have := h.1 h7; rw [hc] at this; cases this), rfl⟩)
        have c3 : w8.cell? ⟨w.heap.size, 3, none⟩ = some (vs x) := cell_of_blk H8.out.blk (by rw [List.getElem?_toArray]; exact HD3.out)
        have l8 := H8.out.lt
        rcases hcs with rfl | ⟨h2, rfl, hc⟩ | ⟨h2, h7, hc⟩
        · rw [show ((2 : Nat) : Int) = 2 from rfl]
          go_wp2_with fail
          go_quiet (fail)
          go_wp2_with fail
          go_meet
          case rel => exact ⟨rfl, rfl, rfl, rfl, ⟨below_drewN H8.out.below _, H8.out.blk⟩⟩
        · rw [show ((7 : Nat) : Int) = 7 from rfl]
          have HC := Lib.hid hc
          clear hc h2
          go_wp2_with fail
          go_region_held3 (fun w' => w'.cell? ⟨w.heap.size, 3, none⟩ = some (vs x)) (go_keep) ((first | (go_at_call 17; refine (nwords_any _).mono ?_; rintro e9 w9 ⟨g9, rfl, hr9, hb⟩; have HN9 := Lib.hid hr9; have H9 := Lib.hid (H8.out.drew.step hb); have q9 : w9.cell? ⟨w.heap.size, 3, none⟩ = some (vs x) := cell_of_blk H9.out.blk (by rw [List.getElem?_toArray]; exact HD3.out); clear hb hr9) | (go_at_call 19; refine (in_words keyWords g9 24 x _ true (by decide) HC.out HN9.out (by decide)).mono ?_; rintro e10 w10 ⟨rfl, hb⟩; have H10 := Lib.hid (H9.out.step hb); have q10 : w10.cell? ⟨w.heap.size, 3, none⟩ = some (vs x) := cell_of_blk H10.out.blk (by rw [List.getElem?_toArray]; exact HD3.out); clear hb)))
          go_wp2_with fail
          go_meet
          case rel => exact ⟨rfl, rfl, rfl, rfl, H10.out⟩
        · have HC := Lib.hid hc
          have h2' : ¬ ((g2 : Int) = 2) := by omega
          have h7' : ¬ ((g2 : Int) = 7) := by omega
          have h7b : (((g2 : Nat) : Int) == 7) = false := by simpa using h7'
          have h2b : (((g2 : Nat) : Int) == 2) = false := by simpa using h2'
          clear hc h2 h7
          go_wp2_with fail
          go_region_held3 (fun w' => w'.cell? ⟨w.heap.size, 3, none⟩ = some (vs x)) (go_keep) ((first | (go_at_call 17; refine (nwords_any _).mono ?_; rintro e9 w9 ⟨g9, rfl, hr9, hb⟩; have HN9 := Lib.hid hr9; have H9 := Lib.hid (H8.out.drew.step hb); have q9 : w9.cell? ⟨w.heap.size, 3, none⟩ = some (vs x) := cell_of_blk H9.out.blk (by rw [List.getElem?_toArray]; exact HD3.out); clear hb hr9) | (go_at_call 19; refine (in_words keyWords g9 24 x _ false (by decide) HC.out HN9.out (by decide)).mono ?_; rintro e10 w10 ⟨rfl, hb⟩; have H10 := Lib.hid (H9.out.step hb); have q10 : w10.cell? ⟨w.heap.size, 3, none⟩ = some (vs x) := cell_of_blk H10.out.blk (by rw [List.getElem?_toArray]; exact HD3.out); clear hb)))
          go_wp2_with fail
          go_meet
          case rel => exact ⟨rfl, rfl, rfl, rfl, H10.out⟩
      case rest =>
        obtain ⟨rfl, rfl, rfl, rfl, hbx⟩ := hcut
        clear H8
        have H8 := Lib.hid hbx
        clear hbx
        have hcs : g3 = 2 ∨ (¬ g3 = 2 ∧ g3 = 7 ∧ So.keyWords.contains x = true) ∨ (¬ g3 = 2 ∧ ¬ g3 = 7 ∧ So.keyWords.contains x = false) := by
          rcases HWS.out with h | h
          · exact Or.inl h
          · by_cases h2 : g3 = 2
            · exact Or.inl h2
            · cases hc : So.keyWords.contains x with
              | true => exact Or.inr (Or.inl ⟨h2, h.2 hc, rfl⟩)
              | false => exact Or.inr (Or.inr ⟨h2, fun h7 => (by have := h.1 h7; rw [hc] at this; cases this), rfl⟩)
        have c3 : wc.cell? ⟨w.heap.size, 3, none⟩ = some (vs x) := cell_of_blk H8.out.blk (by rw [List.getElem?_toArray]; exact HD3.out)
        have l8 := H8.out.lt
        rcases hcs with rfl | ⟨h2, rfl, hc⟩ | ⟨h2, h7, hc⟩
        · rw [show ((2 : Nat) : Int) = 2 from rfl]
          go_wp2_with fail
          go_quiet (fail)
          go_wp2_with fail
          go_ret
          exact ⟨rfl, below_drewN H8.out.below _⟩
        · rw [show ((7 : Nat) : Int) = 7 from rfl]
          have HC := Lib.hid hc
          clear hc h2
          go_wp2_with fail
          go_region_held3 (fun w' => w'.cell? ⟨w.heap.size, 3, none⟩ = some (vs x)) (go_keep) ((first | (go_at_call 18; refine (swords_any _).mono ?_; rintro e9 w9 ⟨g9, rfl, hr9, hb⟩; have HN9 := Lib.hid hr9; have H9 := Lib.hid (H8.out.drew.step hb); have q9 : w9.cell? ⟨w.heap.size, 3, none⟩ = some (vs x) := cell_of_blk H9.out.blk (by rw [List.getElem?_toArray]; exact HD3.out); clear hb hr9) | (go_at_call 19; refine (in_words So.keyWords g9 31 x _ true (by decide) HC.out HN9.out (by decide)).mono ?_; rintro e10 w10 ⟨rfl, hb⟩; have H10 := Lib.hid (H9.out.step hb); have q10 : w10.cell? ⟨w.heap.size, 3, none⟩ = some (vs x) := cell_of_blk H10.out.blk (by rw [List.getElem?_toArray]; exact HD3.out); clear hb)))
          go_wp2_with fail
          go_ret
          exact ⟨rfl, H10.out.below⟩
        · have HC := Lib.hid hc
          have h2' : ¬ ((g3 : Int) = 2) := by omega
          have h7' : ¬ ((g3 : Int) = 7) := by omega
          have h7b : (((g3 : Nat) : Int) == 7) = false := by simpa using h7'
          have h2b : (((g3 : Nat) : Int) == 2) = false := by simpa using h2'
          clear hc h2 h7
          go_wp2_with fail
          go_region_held3 (fun w' => w'.cell? ⟨w.heap.size, 3, none⟩ = some (vs x)) (go_keep) ((first | (go_at_call 18; refine (swords_any _).mono ?_; rintro e9 w9 ⟨g9, rfl, hr9, hb⟩; have HN9 := Lib.hid hr9; have H9 := Lib.hid (H8.out.drew.step hb); have q9 : w9.cell? ⟨w.heap.size, 3, none⟩ = some (vs x) := cell_of_blk H9.out.blk (by rw [List.getElem?_toArray]; exact HD3.out); clear hb hr9) | (go_at_call 19; refine (in_words So.keyWords g9 31 x _ false (by decide) HC.out HN9.out (by decide)).mono ?_; rintro e10 w10 ⟨rfl, hb⟩; have H10 := Lib.hid (H9.out.step hb); have q10 : w10.cell? ⟨w.heap.size, 3, none⟩ = some (vs x) := cell_of_blk H10.out.blk (by rw [List.getElem?_toArray]; exact HD3.out); clear hb)))
          go_wp2_with fail
          go_ret
          exact ⟨rfl, H10.out.below⟩
end Go.Proofs.YtbicmjmcdnkjhaaGreatDoor
