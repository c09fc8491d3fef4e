/- The reference's Written: can a provision be written? The reference's word, tokens and short. -/
import Derived.Test.YtbicmjmcdnkjhaaGreatDoorJMM1
import Derived.Test.YtbicmjmcdnkjhaaGreatDoorJMM32
import Derived.Test.YtbicmjmcdnkjhaaGreatDoorJMM19
import Derived.Test.YtbicmjmcdnkjhaaGreatDoorJMM18
import Derived.Test.YtbicmjmcdnkjhaaGreatDoorJMM14
import Derived.Test.YtbicmjmcdnkjhaaGreatDoorJMM5
import Derived.Test.YtbicmjmcdnkjhaaGreatDoorJMM25
set_option linter.unusedVariables false
set_option linter.unusedSimpArgs false
set_option maxRecDepth 100000
set_option maxHeartbeats 4000000
namespace Go.Proofs.YtbicmjmcdnkjhaaGreatDoor
open Go.RowKit
theorem RdS.takeK {w : World} {A : Option Addr} {l : List Bytes} (h : RdS w A l) (k : Nat) : RdS w A (l.take k) := fun hne => by
 have hl : l ≠ [] := fun e => hne (by rw [e]; simp)
 obtain ⟨b, o, hA, hb, hc⟩ := h hl
 refine ⟨b, o, hA, hb, fun j x hx => hc j x ?_⟩
 rw [List.getElem?_take] at hx
 split at hx
 · exact hx
 · cases hx
theorem rwrit_any (w : World) (cs : List Value) (p : ProvI) (hr : RdPX w cs p) (h1 : p.cond.size ≤ 1000000) (h2 : p.beg.size ≤ 1000000) (h3 : p.fin.size ≤ 1000000) (h4 : p.aga.size ≤ 1000000) (h5 : p.exc.length ≤ 1000000) :
 Calls Tryz.prog 37 #[.agg cs.toArray] w fun e w' => e = .returned (.bool (writtenR p)) ∧ Below w.heap.size w w' := by
 obtain ⟨B, hB⟩ : ∃ B, writtenR p = B := ⟨_, rfl⟩
 rw [hB]
 obtain ⟨id, rank, kind, name, value, cond, exc, beg, fin, aga⟩ := p
 obtain ⟨cc, A, cap, cb, cf, ca, hcs, hcap, hcc, hex, hcb, hcf, hca⟩ := hr
 simp only at hcs hcap hcc hex hcb hcf hca h1 h2 h3 h4 h5
 obtain ⟨fC, hfC⟩ : ∃ x, FormulaR cond = x := ⟨_, rfl⟩
 obtain ⟨sB, hsB⟩ : ∃ x, StartR beg = x := ⟨_, rfl⟩
 obtain ⟨sD, hsD⟩ : ∃ x, StartR fin = x := ⟨_, rfl⟩
 obtain ⟨sG, hsG⟩ : ∃ x, StartR aga = x := ⟨_, rfl⟩
 have HC1 : Hid (∀ wx, Below w.heap.size w wx → Calls Tryz.prog 72 #[.agg cc.toArray] wx fun e w' => e = .returned (.bool fC) ∧ Below wx.heap.size wx w') := Hi (fun wx hx => by rw [← hfC]; exact rFormula_any cond cc wx h1 (hcc.keep hx))
 have HC2 : Hid (∀ wx, Below w.heap.size w wx → Calls Tryz.prog 73 #[.agg cb.toArray] wx fun e w' => e = .returned (.bool sB) ∧ Below wx.heap.size wx w') := Hi (fun wx hx => by rw [← hsB]; exact rStart_any beg cb wx h2 (hcb.keep hx))
 have HC3 : Hid (∀ wx, Below w.heap.size w wx → Calls Tryz.prog 73 #[.agg cf.toArray] wx fun e w' => e = .returned (.bool sD) ∧ Below wx.heap.size wx w') := Hi (fun wx hx => by rw [← hsD]; exact rStart_any fin cf wx h3 (hcf.keep hx))
 have HC4 : Hid (∀ wx, Below w.heap.size w wx → Calls Tryz.prog 73 #[.agg ca.toArray] wx fun e w' => e = .returned (.bool sG) ∧ Below wx.heap.size wx w') := Hi (fun wx hx => by rw [← hsG]; exact rStart_any aga ca wx h4 (hca.keep hx))
 have hIN := fun (k : Nat) (hk : k ≤ exc.length) (s : Bytes) wx (hx : Below w.heap.size w wx) => in_any (exc.take k) A cap s wx ((hex.below hx).takeK k) (by rw [List.length_take]; omega)
 have HIN : Hid (∀ (k : Nat), k ≤ exc.length → ∀ (s : Bytes) wx, Below w.heap.size w wx → Calls Tryz.prog 19 #[.slice A k cap, vs s] wx fun e w' => e = .returned (.bool ((exc.take k).contains s)) ∧ Below wx.heap.size wx w') := Hi (fun k hk s wx hx => by
  have := hIN k hk s wx hx
  rwa [List.length_take, Nat.min_eq_left hk] at this)
 have HWR : Hid (B = (!refP ⟨id, rank, kind, name, value, cond, exc, beg, fin, aga⟩ && decide exc.Nodup && fC && sB && sD && sG)) := Hi (by rw [← hB, ← hfC, ← hsB, ← hsD, ← hsG]; rfl)
 have HEX := Hi hex
 clear hfC hsB hsD hsG hB hIN hex
 obtain ⟨oC, nC, dC, mC, ksC⟩ := cond
 obtain ⟨KC, qC, rfl, -⟩ := hcc
 obtain ⟨oB, nB, dB, mB, ksB⟩ := beg
 obtain ⟨KB, qB, rfl, -⟩ := hcb
 obtain ⟨oD, nD, dD, mD, ksD⟩ := fin
 obtain ⟨KD, qD, rfl, -⟩ := hcf
 obtain ⟨oG, nG, dG, mG, ksG⟩ := aga
 obtain ⟨KG, qG, rfl, -⟩ := hca
 subst hcs
 simp only [tcX, List.cons_append, List.nil_append] at HC1 HC2 HC3 HC4 ⊢
 clear h1 h2 h3 h4
 go_enter Tryz.func37, Tryz.ntmps37
 go_upto_region 1 with fail
 go_cut [1, 2, 47] from 0 (fun s1 s2 s47 wc => s1 = .pointer (some ⟨w.heap.size, 0, none⟩) ∧ s2 = .bool false ∧ s47 = .bool (refP ⟨id, rank, kind, name, value, .mk oC nC dC mC ksC, exc, .mk oB nB dB mB ksB, .mk oD nD dD mD ksD, .mk oG nG dG mG ksG⟩) ∧ BxSt w wc #[vs id, .int .i64 rank, .int .i64 kind, vs name, .int .i64 value, .int .i64 oC, vs nC, .int .i64 dC, .int .i64 mC, .slice KC ksC.length qC, .slice A exc.length cap, .int .i64 oB, vs nB, .int .i64 mB, .slice KB ksB.length qB, .int .i64 oD, vs nD, .int .i64 mD, .slice KD ksD.length qD, .int .i64 oG, vs nG, .int .i64 mG, .slice KG ksG.length qG] 30)
 case first =>
  go_wp2_with fail
  all_goals
   go_meet
   case rel =>
    (try subst_vars)
    refine ⟨rfl, rfl, congrArg Value.bool ?_, BxSt.start w _ _⟩
    rw [Bool.eq_iff_iff]
    simp [refP, *]
    try omega
 case rest =>
 obtain ⟨rfl, rfl, rfl, hst⟩ := hcut
 have H1 := Hi hst
 have c10 : wc.cell? ⟨w.heap.size, 10, none⟩ = some (.slice A exc.length cap) := cOb (o := 10) hst.blk rfl
 have cl := lHp hst.blk
 obtain ⟨rf, hrf⟩ : ∃ x, refP ⟨id, rank, kind, name, value, .mk oC nC dC mC ksC, exc, .mk oB nB dB mB ksB, .mk oD nD dD mD ksD, .mk oG nG dG mG ksG⟩ = x := ⟨_, rfl⟩
 rw [hrf] at HWR ⊢
 clear hst hrf
 cases rf with
 | true =>
   go_wp2_with fail
   go_ret
   exact ⟨by rw [HWR.out]; rfl, H1.out.below⟩
 | false =>
 go_wp2_with fail
 go_loopw [3] (fun v3 wr => ∃ k : Nat, k ≤ exc.length ∧ v3 = .int .i64 k ∧ (exc.take k).Nodup ∧ Below wc.heap.size wc wr) (fun v3 _ => exc.length - (intOf v3).toNat)
 case atStart => exact ⟨0, Nat.zero_le _, rfl, by simp, Below.refl _ _⟩
 case round =>
  obtain ⟨k, hk, rfl, hnd, hbw⟩ := hrel
  have HND := Hi hnd
  have HR := Hi (H1.out.step hbw)
  have HBW := Hi hbw
  have d10 : wr.cell? ⟨w.heap.size, 10, none⟩ = some (.slice A exc.length cap) := cOb (o := 10) HR.out.blk rfl
  have dl := lHp HR.out.blk
  clear hnd hbw
  by_cases hlt : k < exc.length
  · obtain ⟨s, hs⟩ := gLt hlt
    obtain ⟨b0, o0, rfl, hbl, hc⟩ := HEX.out.item hs
    have z0 : wr.cell? ⟨b0, o0 + k, none⟩ = some (vs s) := (HR.out.below.cell (p := ⟨b0, o0 + k, none⟩) hbl).trans hc
    have z1 : b0 < wr.heap.size := Nat.lt_of_lt_of_le hbl HR.out.below.size
    have hk1 : (k : Int) < exc.length := by omega
    have hk0 : (0 : Int) ≤ k := by omega
    have hk2 : (k : Int) ≤ cap := by omega
    have hk3 : k ≤ cap := by omega
    have HS := Hi hs
    clear hc hs hbl
    obtain ⟨bi, hbi⟩ : ∃ x, (exc.take k).contains s = x := ⟨_, rfl⟩
    have HI := Hi (fun wx hx => HIN.out k hk s wx hx)
    rw [hbi] at HI
    have HBI := Hi hbi
    clear hbi
    go_wp2_with fail
    refine wp_region_grew (by kernel_rfl) (by as_aux_lemma => kernel_rfl) ?_
    repeat (go_big_quiet_step (exact Calls_grew (HI.out _ (HR.out.below.trans ((gBl _ _).mono HR.out.below.size)))))
    refine wpQuiet_nil ?_
    rintro _ ⟨W1, rfl⟩
    cases bi with
    | true =>
      have HF : Hid (B = false) := Hi (by rw [HWR.out, decide_eq_false (nodup_no HS.out HBI.out)]; rfl)
      go_wp2_with fail
      go_ret
      exact ⟨by rw [HF.out]; rfl, HR.out.below.trans ((gBl _ _).mono HR.out.below.size)⟩
    | false =>
      have HN2 := Hi (nodup_yes HS.out HBI.out HND.out)
      go_wp2_with fail
      exact ⟨⟨k + 1, by omega, by go_num, HN2.out, HBW.out.trans ((gBl _ _).mono HBW.out.size)⟩, by simp [intOf]; omega⟩
  · have hk' : k = exc.length := by omega
    subst hk'
    have hlt2 : ¬ ((exc.length : Nat) : Int) < exc.length := by omega
    have HW2 : Hid (B = (fC && sB && sD && sG)) := Hi (by
     have := HND.out
     rw [List.take_length] at this
     rw [HWR.out, decide_eq_true this]
     rfl)
    clear HND HWR
    have c5 : wr.cell? ⟨w.heap.size, 5, none⟩ = some (.int .i64 oC) := cOb (o := 5) HR.out.blk rfl
    have c6 : wr.cell? ⟨w.heap.size, 6, none⟩ = some (vs nC) := cOb (o := 6) HR.out.blk rfl
    have c7 : wr.cell? ⟨w.heap.size, 7, none⟩ = some (.int .i64 dC) := cOb (o := 7) HR.out.blk rfl
    have c8 : wr.cell? ⟨w.heap.size, 8, none⟩ = some (.int .i64 mC) := cOb (o := 8) HR.out.blk rfl
    have c9 : wr.cell? ⟨w.heap.size, 9, none⟩ = some (.slice KC ksC.length qC) := cOb (o := 9) HR.out.blk rfl
    have cl2 := lHp HR.out.blk
    go_wp2_with fail
    refine (HC1.out _ HR.out.below).mono ?_
    rintro e x1 ⟨rfl, hb⟩
    have H2 := Hi (HR.out.step hb)
    clear hb HC1 c5 c6 c7 c8 c9 c10 cl cl2 d10 dl
    cases fC with
    | false =>
      go_wp2_with fail
      go_ret
      exact ⟨by rw [HW2.out]; rfl, H2.out.below⟩
    | true =>
    have c11 : x1.cell? ⟨w.heap.size, 11, none⟩ = some (.int .i64 oB) := cOb (o := 11) H2.out.blk rfl
    have c12 : x1.cell? ⟨w.heap.size, 12, none⟩ = some (vs nB) := cOb (o := 12) H2.out.blk rfl
    have c13 : x1.cell? ⟨w.heap.size, 13, none⟩ = some (.int .i64 mB) := cOb (o := 13) H2.out.blk rfl
    have c14 : x1.cell? ⟨w.heap.size, 14, none⟩ = some (.slice KB ksB.length qB) := cOb (o := 14) H2.out.blk rfl
    have cl := lHp H2.out.blk
    go_wp2_with fail
    refine (HC2.out _ H2.out.below).mono ?_
    rintro e x2 ⟨rfl, hb⟩
    have H3 := Hi (H2.out.step hb)
    clear hb HC2 c11 c12 c13 c14 cl
    cases sB with
    | false =>
      go_wp2_with fail
      go_ret
      exact ⟨by rw [HW2.out]; rfl, H3.out.below⟩
    | true =>
    have c15 : x2.cell? ⟨w.heap.size, 15, none⟩ = some (.int .i64 oD) := cOb (o := 15) H3.out.blk rfl
    have c16 : x2.cell? ⟨w.heap.size, 16, none⟩ = some (vs nD) := cOb (o := 16) H3.out.blk rfl
    have c17 : x2.cell? ⟨w.heap.size, 17, none⟩ = some (.int .i64 mD) := cOb (o := 17) H3.out.blk rfl
    have c18 : x2.cell? ⟨w.heap.size, 18, none⟩ = some (.slice KD ksD.length qD) := cOb (o := 18) H3.out.blk rfl
    have cl := lHp H3.out.blk
    go_wp2_with fail
    refine (HC3.out _ H3.out.below).mono ?_
    rintro e x3 ⟨rfl, hb⟩
    have H4 := Hi (H3.out.step hb)
    clear hb HC3 c15 c16 c17 c18 cl
    cases sD with
    | false =>
      go_wp2_with fail
      go_ret
      exact ⟨by rw [HW2.out]; rfl, H4.out.below⟩
    | true =>
    have c19 : x3.cell? ⟨w.heap.size, 19, none⟩ = some (.int .i64 oG) := cOb (o := 19) H4.out.blk rfl
    have c20 : x3.cell? ⟨w.heap.size, 20, none⟩ = some (vs nG) := cOb (o := 20) H4.out.blk rfl
    have c21 : x3.cell? ⟨w.heap.size, 21, none⟩ = some (.int .i64 mG) := cOb (o := 21) H4.out.blk rfl
    have c22 : x3.cell? ⟨w.heap.size, 22, none⟩ = some (.slice KG ksG.length qG) := cOb (o := 22) H4.out.blk rfl
    have cl := lHp H4.out.blk
    go_wp2_with fail
    refine (HC4.out _ H4.out.below).mono ?_
    rintro e x4 ⟨rfl, hb⟩
    have H5 := Hi (H4.out.step hb)
    clear hb HC4 c19 c20 c21 c22 cl
    go_wp2_with fail
    go_ret
    exact ⟨by rw [HW2.out]; rfl, H5.out.below⟩
end Go.Proofs.YtbicmjmcdnkjhaaGreatDoor
set_option maxRecDepth 20000
set_option maxHeartbeats 2000000
namespace Go.Proofs.YtbicmjmcdnkjhaaGreatDoor
open Go.RowKit
def wordN (n : Nat) : Bool := (decide (97 ≤ n) && decide (n ≤ 122)) || (decide (65 ≤ n) && decide (n ≤ 90)) || (decide (48 ≤ n) && decide (n ≤ 57)) || n == 95 || n == 60 || n == 62 || n == 61 || n == 33
theorem wordR_n (c : UInt8) : wordR c = wordN c.toNat := by
 unfold wordR wordN
 rw [Bool.eq_iff_iff]
 simp [UInt8.le_iff_toNat_le, ← UInt8.toNat_inj]
theorem rword_any (c : UInt8) (w : World) : Calls Tryz.prog 113 #[.int .u8 c.toNat] w fun e w' => e = .returned (.bool (wordR c)) ∧ w = w' := by
 rw [wordR_n]
 generalize c.toNat = n
 rcases (by omega : n = 95 ∨ n = 60 ∨ n = 62 ∨ n = 61 ∨ n = 33 ∨ (n ≠ 95 ∧ n ≠ 60 ∧ n ≠ 62 ∧ n ≠ 61 ∧ n ≠ 33)) with rfl | rfl | rfl | rfl | rfl | ⟨h1, h2, h3, h4, h5⟩
 iterate 5
  · go_enter Tryz.func113, Tryz.ntmps113
    go_wp2_with fail
    go_ret
    exact ⟨rfl, rfl⟩
 have j1 : ((n : Int) == 95) = false := by simp; omega
 have j2 : ((n : Int) == 60) = false := by simp; omega
 have j3 : ((n : Int) == 62) = false := by simp; omega
 have j4 : ((n : Int) == 61) = false := by simp; omega
 have j5 : ((n : Int) == 33) = false := by simp; omega
 obtain ⟨b, hb⟩ : ∃ b, wordN n = b := ⟨_, rfl⟩
 have HB : Hid (b = ((decide (97 ≤ n) && decide (n ≤ 122)) || (decide (65 ≤ n) && decide (n ≤ 90)) || (decide (48 ≤ n) && decide (n ≤ 57)))) := Hi (hb.symm.trans (by simp [wordN, beq_eq_false_iff_ne.2 h1, beq_eq_false_iff_ne.2 h2, beq_eq_false_iff_ne.2 h3, beq_eq_false_iff_ne.2 h4, beq_eq_false_iff_ne.2 h5]))
 rw [hb]
 clear hb h1 h2 h3 h4 h5
 by_cases i0 : (97 : Int) ≤ n <;> by_cases i1 : (n : Int) ≤ 122 <;> by_cases i2 : (65 : Int) ≤ n <;> by_cases i3 : (n : Int) ≤ 90 <;> by_cases i4 : (48 : Int) ≤ n <;> by_cases i5 : (n : Int) ≤ 57
 all_goals try (exfalso; omega)
 all_goals
  go_enter Tryz.func113, Tryz.ntmps113
  go_wp2_with fail
  go_ret
  exact ⟨by rw [HB.out]; congr 1; first | (simp; omega) | (rw [Bool.eq_iff_iff]; simp; omega), rfl⟩
/- tokens -/
def prevW (s : Bytes) (k : Nat) : Bool := match k with | 0 => false | k + 1 => (s[k]?).any wordR
theorem tkn_drop {s : Bytes} {k : Nat} {c : UInt8} (h : s[k]? = some c) : tkn (prevW s k) (s.drop k) = (if c != 32 && (!wordR c || !prevW s k) then 1 else 0) + tkn (prevW s (k + 1)) (s.drop (k + 1)) := by
 obtain ⟨h1, rfl⟩ := List.getElem?_eq_some_iff.1 h
 rw [List.drop_eq_getElem_cons h1, tkn]
 congr 2
 simp [prevW, h]
theorem tkn_le : ∀ (p : Bool) (s : Bytes), tkn p s ≤ s.length
 | _, [] => by simp [tkn]
 | p, c :: r => by
   have := tkn_le (wordR c) r
   rw [tkn, List.length_cons]
   split <;> omega
theorem rtokens_any (s : Bytes) (w : World) (hs : s.length ≤ 1000000) : Calls Tryz.prog 76 #[vs s] w fun e w' => e = .returned (.int .i64 (tkn false s : Nat)) ∧ w = w' := by
 obtain ⟨T, hT⟩ : ∃ T, tkn false s = T := ⟨_, rfl⟩
 have hle : T ≤ s.length := hT ▸ tkn_le false s
 have HT := Hi hT
 rw [hT]
 clear hT
 go_enter Tryz.func76, Tryz.ntmps76
 go_wp2_with fail
 go_loop [3, 4] (fun v3 v4 => ∃ k n : Nat, k ≤ s.length ∧ v4 = .int .i64 k ∧ v3 = .int .i64 n ∧ n + tkn (prevW s k) (s.drop k) = T) (fun _ v4 => s.length - (intOf v4).toNat)
 case atStart => exact ⟨0, 0, Nat.zero_le _, rfl, rfl, by rw [Nat.zero_add]; exact HT.out⟩
 case round =>
  obtain ⟨k, n, hk, rfl, rfl, heq⟩ := hrel
  have hn : n ≤ 1000000 := by omega
  have HEQ := Hi heq
  clear heq
  by_cases hlt : k < s.length
  · obtain ⟨c, hx⟩ := gLt hlt
    have hb := byte_at hx
    have HD := Hi (tkn_drop hx)
    have hk1 : (k : Int) < s.length := by omega
    have hk0 : (0 : Int) ≤ k := by omega
    have HX := Hi hx
    clear hx
    by_cases hc : c = 32
    · subst hc
      have HS : Hid (n + tkn (prevW s (k + 1)) (s.drop (k + 1)) = T) := Hi (by have h1 := HEQ.out; have h2 := HD.out; simp at h2; omega)
      go_wp2_with fail
      exact ⟨⟨k + 1, n, hlt, by go_num, rfl, HS.out⟩, by simp [intOf]; omega⟩
    have hc' : ((c.toNat : Int) == 32) = false := by
     have : c.toNat ≠ 32 := fun e => hc (UInt8.toNat_inj.1 e)
     simp
     omega
    have hc2 : ¬ (c.toNat : Int) = 32 := by simpa using hc'
    have hc3 : ((c.toNat : Int) != 32) = true := by simpa using hc'
    have HC := Hi hc
    clear hc
    obtain ⟨b, hwb⟩ : ∃ b, wordR c = b := ⟨_, rfl⟩
    have hcw := rword_any c
    rw [hwb] at hcw
    have HCW := Hi hcw
    have HWB := Hi hwb
    clear hcw hwb
    cases b with
    | false =>
      have HS : Hid (n + 1 + tkn (prevW s (k + 1)) (s.drop (k + 1)) = T) := Hi (by have h1 := HEQ.out; have h2 := HD.out; rw [HWB.out] at h2; simp [HC.out] at h2; omega)
      go_wp2_with fail
      refine (HCW.out _).mono ?_
      rintro e w' ⟨rfl, rfl⟩
      go_wp2_with fail
      exact ⟨⟨k + 1, n + 1, hlt, by go_num, by go_num, HS.out⟩, by simp [intOf]; omega⟩
    | true =>
      rcases Nat.eq_zero_or_pos k with rfl | hk2
      · have HS : Hid (n + 1 + tkn (prevW s (0 + 1)) (s.drop (0 + 1)) = T) := Hi (by have h1 := HEQ.out; have h2 := HD.out; rw [HWB.out] at h2; simp [HC.out, prevW] at h2; simp [prevW] at h1 ⊢; omega)
        rw [show ((0 : Nat) : Int) = 0 from rfl] at *
        go_wp2_with fail
        refine (HCW.out _).mono ?_
        rintro e w' ⟨rfl, rfl⟩
        go_wp2_with fail
        exact ⟨⟨1, n + 1, hlt, rfl, by go_num, HS.out⟩, by simp [intOf]; omega⟩
      · obtain ⟨j, rfl⟩ : ∃ j, k = j + 1 := ⟨k - 1, by omega⟩
        obtain ⟨p, hp⟩ := gLt (show j < s.length by omega)
        have hbp := byte_at hp
        have hpv : prevW s (j + 1) = wordR p := by simp [prevW, hp]
        obtain ⟨b2, hwp⟩ : ∃ b, wordR p = b := ⟨_, rfl⟩
        have hcp := rword_any p
        rw [hwp] at hcp
        have HCP := Hi hcp
        have HPV := Hi (hpv.trans hwp)
        have hj0 : (0 : Int) ≤ j := by omega
        have hjw : (((j + 1 : Nat) : Int) == 0) = false := by simp; omega
        have hjs : wrap64 (((j + 1 : Nat) : Int) - 1) = j := by unfold wrap64; omega
        have hjs2 : wrap64 ((j : Int) + 1 - 1) = j := by unfold wrap64; omega
        have hjw2 : (((j : Int) + 1) == 0) = false := by simp; omega
        have hjl : (j : Int) < s.length := by omega
        clear hp hpv hwp hcp hk2
        cases b2 with
        | false =>
          have HS : Hid (n + 1 + tkn (prevW s (j + 1 + 1)) (s.drop (j + 1 + 1)) = T) := Hi (by have h1 := HEQ.out; have h2 := HD.out; rw [HPV.out] at h2 h1; simp [HC.out] at h2; omega)
          go_wp2_with fail
          refine (HCW.out _).mono ?_
          rintro e w' ⟨rfl, rfl⟩
          go_wp2_with fail
          refine (HCP.out _).mono ?_
          rintro e w' ⟨rfl, rfl⟩
          go_wp2_with fail
          exact ⟨⟨j + 1 + 1, n + 1, hlt, by go_num, by go_num, HS.out⟩, by simp [intOf]; omega⟩
        | true =>
          have HS : Hid (n + tkn (prevW s (j + 1 + 1)) (s.drop (j + 1 + 1)) = T) := Hi (by have h1 := HEQ.out; have h2 := HD.out; rw [HPV.out] at h2 h1; rw [HWB.out] at h2; simp at h2; omega)
          go_wp2_with fail
          refine (HCW.out _).mono ?_
          rintro e w' ⟨rfl, rfl⟩
          go_wp2_with fail
          refine (HCP.out _).mono ?_
          rintro e w' ⟨rfl, rfl⟩
          go_wp2_with fail
          exact ⟨⟨j + 1 + 1, n, hlt, by go_num, rfl, HS.out⟩, by simp [intOf]; omega⟩
  · have : k = s.length := by omega
    subst this
    have hk1 : ¬ ((s.length : Nat) : Int) < s.length := by omega
    have HN : Hid (n = T) := Hi (by have h1 := HEQ.out; rw [List.drop_length] at h1; simp [tkn] at h1; exact h1)
    go_wp2_with fail
    go_ret
    exact ⟨by rw [HN.out]; rfl, rfl⟩
theorem rshort_any (s : Bytes) (w : World) (hs : s.length ≤ 1000000) : Calls Tryz.prog 43 #[vs s] w fun e w' => e = .returned (.tuple #[vs (shortA s).1, .int .i64 ((shortA s).2 : Nat)]) ∧ w = w' := by
 obtain ⟨T, hT⟩ : ∃ T, tkn false s = T := ⟨_, rfl⟩
 have hc := fun wx => rtokens_any s wx hs
 rw [hT] at hc
 have HC := Hi hc
 have hsa : shortA s = if 20000 < s.length ∨ 5000 < T then ([], 2) else (s, 0) := by unfold shortA; rw [hT]
 rw [hsa]
 clear hc hT hsa
 by_cases h1 : 20000 < s.length
 · rw [if_pos (Or.inl h1)]
   have h2 : (20000 : Int) < s.length := by omega
   go_enter Tryz.func43, Tryz.ntmps43
   go_wp2_with fail
   go_ret2
   exact ⟨rfl, rfl⟩
 have h2 : ¬ (20000 : Int) < s.length := by omega
 by_cases h3 : 5000 < T
 · rw [if_pos (Or.inr h3)]
   have h4 : (5000 : Int) < T := by omega
   go_enter Tryz.func43, Tryz.ntmps43
   go_wp2_with fail
   refine (HC.out _).mono ?_
   rintro e w' ⟨rfl, rfl⟩
   go_wp2_with fail
   go_ret2
   exact ⟨rfl, rfl⟩
 · rw [if_neg (by omega)]
   have h4 : ¬ (5000 : Int) < T := by omega
   go_enter Tryz.func43, Tryz.ntmps43
   go_wp2_with fail
   refine (HC.out _).mono ?_
   rintro e w' ⟨rfl, rfl⟩
   go_wp2_with fail
   go_ret2
   exact ⟨rfl, rfl⟩
end Go.Proofs.YtbicmjmcdnkjhaaGreatDoor
