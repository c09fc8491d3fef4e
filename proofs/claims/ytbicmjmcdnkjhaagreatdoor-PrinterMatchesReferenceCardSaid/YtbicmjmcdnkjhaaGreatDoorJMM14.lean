/- printer.written: can a provision be written? A text run through from left to right, two bytes taken as one here and there: plain words. The tree of a generic replacer in memory: words and what an added key does to it. -/
import Derived.Test.YtbicmjmcdnkjhaaGreatDoorJMM1
import Derived.Test.YtbicmjmcdnkjhaaGreatDoorJMM13
import Derived.Test.YtbicmjmcdnkjhaaGreatDoorJMM7
import Derived.Test.YtbicmjmcdnkjhaaGreatDoorJMM2
set_option linter.unusedVariables false
set_option linter.unusedSimpArgs false
set_option maxRecDepth 20000
set_option maxHeartbeats 8000000
namespace Go.Proofs.YtbicmjmcdnkjhaaGreatDoor
open Go.RowKit
open Go.ChangeMaps (setBlock)
def startsOk (l : List TreeI) : Bool := l.all fun t => (startI t 200 20).1
theorem startsOk_snoc {l : List TreeI} {k : Nat} {t : TreeI} (h : l[k]? = some t) : startsOk (l.take (k + 1)) = (startsOk (l.take k) && (startI t 200 20).1) := by
 unfold startsOk
 rw [List.take_add_one, h, Option.toList_some, List.all_append]
 simp
theorem writtenI_eq (p : ProvI) : writtenI p = (!refP p && decide p.exc.Nodup && ((formI p.cond 200 20).1 && startsOk [p.beg, p.fin, p.aga])) := by
 unfold writtenI startsOk
 simp [Bool.and_assoc]
theorem take_succ_at {α : Type} {l : List α} {k : Nat} {x : α} (h : l[k]? = some x) : l.take (k + 1) = l.take k ++ [x] := by
 rw [List.take_add_one, h]
 rfl
theorem nodup_no {l : List Bytes} {k : Nat} {s : Bytes} (h : l[k]? = some s) (hm : (l.take k).contains s = true) : ¬ l.Nodup := by
 intro hn
 have h1 : (l.take (k + 1)).Nodup := hn.sublist (List.take_sublist _ _)
 rw [take_succ_at h, List.nodup_append] at h1
 have h2 : s ∈ l.take k := by simpa using hm
 exact h1.2.2 s h2 s (by simp) rfl
theorem nodup_yes {l : List Bytes} {k : Nat} {s : Bytes} (h : l[k]? = some s) (hm : (l.take k).contains s = false) (hn : (l.take k).Nodup) : (l.take (k + 1)).Nodup := by
 rw [take_succ_at h, List.nodup_append]
 refine ⟨hn, by simp, fun a ha b hb => ?_⟩
 obtain rfl : b = s := by simpa using hb
 rintro rfl
 have : a ∉ l.take k := by simpa using hm
 exact this ha
/- three conditions in a row -/
def Row3 (W w : World) (ab : Nat) (l : List TreeI) : Prop := ab < w.heap.size ∧ ∀ (k : Nat) (t : TreeI), l[k]? = some t → ∃ cs, (∀ j v, cs[j]? = some v → w.cell? ⟨ab, k * 4 + j, none⟩ = some v) ∧ RdX false W cs t
theorem Row3.keep {W w w' : World} {ab : Nat} {l : List TreeI} (h : Row3 W w ab l) (hk : w'.heap[ab]? = w.heap[ab]?) (hs : w.heap.size ≤ w'.heap.size) : Row3 W w' ab l :=
 ⟨Nat.lt_of_lt_of_le h.1 hs, fun k t ht => by
   obtain ⟨cs, h1, h2⟩ := h.2 k t ht
   exact ⟨cs, fun j v hv => (cOh hk _).trans (h1 j v hv), h2⟩⟩
theorem Row3.mk' {W w : World} {ab : Nat} {a b c : TreeI} {ca cb cc : List Value} {D : Array Value} {T : TypeId} (ha : RdX false W ca a) (hb : RdX false W cb b) (hc : RdX false W cc c) (hD : w.heap[ab]? = some (.cells D T (0, 0))) (he : D.toList = ca ++ (cb ++ cc)) : Row3 W w ab [a, b, c] := by
 have la := ha.len
 have lb := hb.len
 have lc := hc.len
 refine ⟨lHp hD, fun k t ht => ?_⟩
 have hcell : ∀ (i : Nat) v, (ca ++ (cb ++ cc))[i]? = some v → w.cell? ⟨ab, i, none⟩ = some v := fun i v hv => cOb hD (by rw [← Array.getElem?_toList, he]; exact hv)
 match k, ht with
 | 0, ht =>
   cases ht
   refine ⟨ca, fun j v hv => ?_, ha⟩
   rw [Nat.zero_mul, Nat.zero_add]
   refine hcell j v ?_
   rw [List.getElem?_append_left (List.getElem?_eq_some_iff.1 hv).1]; exact hv
 | 1, ht =>
   cases ht
   refine ⟨cb, fun j v hv => ?_, hb⟩
   refine hcell _ v ?_
   have hj := (List.getElem?_eq_some_iff.1 hv).1
   rw [List.getElem?_append_right (by rw [la]; simp [tszX]), List.getElem?_append_left (by rw [la]; simp [tszX]; omega), la]
   rw [show 1 * 4 + j - tszX false = j by simp [tszX]]; exact hv
 | 2, ht =>
   cases ht
   refine ⟨cc, fun j v hv => ?_, hc⟩
   refine hcell _ v ?_
   rw [List.getElem?_append_right (by rw [la]; simp [tszX]; omega), List.getElem?_append_right (by rw [la, lb]; simp [tszX]; omega), la, lb]
   rw [show 2 * 4 + j - tszX false - tszX false = j by simp [tszX]; omega]; exact hv
 | k + 3, ht => simp at ht
theorem writ_any (W w : World) (cs : List Value) (P : ProvI) (hr : RdPX W cs P) (hb : Below W.heap.size W w) (h1 : P.cond.size ≤ 1000000) (h2 : ∀ t ∈ [P.beg, P.fin, P.aga], t.size ≤ 1000000) (h3 : P.exc.length ≤ 1000000) (h4 : ∀ s ∈ P.exc, s.length ≤ 1000000) :
 Calls Tryz.prog 26 #[.agg cs.toArray] w fun e w' => e = .returned (.bool (writtenI P)) ∧ Below w.heap.size w w' := by
 obtain ⟨res, hwr⟩ : ∃ b, writtenI P = b := ⟨_, rfl⟩
 rw [hwr]
 have hWE := writtenI_eq P
 rw [hwr] at hWE
 obtain ⟨id, rank, kind, name, value, cond, exc, beg, fin, aga⟩ := P
 obtain ⟨cc, A, cap, cb, cf, ca, rfl, hcap, hcc, hex, hcb, hcf, hca⟩ := hr
 simp only at *
 have HSZ := Hi h2
 have HNM := Hi h4
 have HEX := Hi hex
 have HBW := Hi hb
 have hwl := hb.size
 clear h2 h4 hex hb hwr
 have RC := Hi hcc
 have RB := Hi hcb
 have RD := Hi hcf
 have RG := Hi hca
 obtain ⟨oC, nC, dC, mC, ksC⟩ := cond
 obtain ⟨KC, qC, rfl, -, -⟩ := hcc
 obtain ⟨oB, nB, dB, mB, ksB⟩ := beg
 obtain ⟨KB, qB, rfl, -, -⟩ := hcb
 obtain ⟨oD, nD, dD, mD, ksD⟩ := fin
 obtain ⟨KD, qD, rfl, -, -⟩ := hcf
 obtain ⟨oG, nG, dG, mG, ksG⟩ := aga
 obtain ⟨KG, qG, rfl, -, -⟩ := hca
 have HWE := Hi hWE
 clear hWE
 simp only [tcX, List.cons_append, List.nil_append]
 have hmm := @run_makeMap Tryz.prog
 go_enter Tryz.func26, Tryz.ntmps26
 go_upto_region 1 with fail
 go_cut [1, 2, 53] from 0 (fun s1 s2 s53 wc => s1 = .pointer (some ⟨w.heap.size, 0, none⟩) ∧ s2 = .bool false ∧ s53 = .bool (refP ⟨id, rank, kind, name, value, .mk oC nC dC mC ksC, exc, .mk oB nB dB mB ksB, .mk oD nD dD mD ksD, .mk oG nG dG mG ksG⟩) ∧ wc.heap[w.heap.size]? = some (.cells #[vs id, .int .i64 rank, .int .i64 kind, vs name, .int .i64 value, .int .i64 oC, vs nC, .int .i64 dC, .int .i64 mC, .slice KC ksC.length qC, .slice A exc.length cap, .int .i64 oB, vs nB, .int .i64 mB, .slice KB ksB.length qB, .int .i64 oD, vs nD, .int .i64 mD, .slice KD ksD.length qD, .int .i64 oG, vs nG, .int .i64 mG, .slice KG ksG.length qG] 30 (0, 0)) ∧ Below w.heap.size w wc)
 case first =>
  go_wp2_with fail
  all_goals
   go_meet
   case rel =>
    (try subst_vars)
    refine ⟨rfl, rfl, ?_, heap_alloc_new w _, (Below.refl _ _).alloc (lR _) _⟩
    refine congrArg Value.bool ?_
    rw [Bool.eq_iff_iff]
    simp [refP, *]
    try omega
 case rest =>
  obtain ⟨rfl, rfl, rfl, hbx, hbc⟩ := hcut
  have HBX := Hi hbx
  have HBC := Hi hbc
  have hszc := hbc.size
  have c10 : wc.cell? ⟨w.heap.size, 10, none⟩ = some (.slice A exc.length cap) := cOb (o := 10) hbx rfl
  have hlt0 := lHp hbx
  clear hbx hbc
  cases hrp : refP ⟨id, rank, kind, name, value, .mk oC nC dC mC ksC, exc, .mk oB nB dB mB ksB, .mk oD nD dD mD ksD, .mk oG nG dG mG ksG⟩ with
  | true =>
    have HRP := Hi hrp
    clear hrp
    go_wp2_with fail
    go_ret
    exact ⟨by rw [HWE.out, HRP.out]; rfl, HBC.out⟩
  | false =>
    have HRP := Hi hrp
    clear hrp
    go_wp2_with fail
    go_loopw [58] (fun v58 wx => ∃ k : Nat, k ≤ exc.length ∧ v58 = .int .i64 k ∧ KS wx wc.heap.size (exc.take k) ∧ (exc.take k).Nodup ∧ Below wc.heap.size wc wx) (fun v58 _ => exc.length - (intOf v58).toNat)
    case atStart => exact ⟨0, Nat.zero_le _, rfl, KS.made wc, by simp, (Below.refl _ _).alloc (lR _) _⟩
    case round =>
     obtain ⟨k, hk, rfl, hks, hnd, hbx⟩ := hrel
     have HKS := Hi hks
     have HND := Hi hnd
     have HBR := Hi hbx
     have hmbl := hks.lt
     have hbW : Below W.heap.size W wr := HBW.out.trans ((HBC.out.mono hwl).trans (hbx.mono (by omega)))
     have HBWR := Hi hbW
     clear hks hnd hbx hbW
     by_cases hlt : k < exc.length
     · obtain ⟨s, hs⟩ := gLt hlt
       have hsl := HNM.out s (List.mem_of_getElem? hs)
       obtain ⟨b, o, rfl, hbl, hc⟩ := HEX.out.item hs
       have z0 : wr.cell? ⟨b, o + k, none⟩ = some (vs s) := (HBWR.out.cell (p := ⟨b, o + k, none⟩) hbl).trans hc
       have hk1 : (k : Int) < exc.length := by omega
       have hk0 : (0 : Int) ≤ k := by omega
       have hlk := HKS.out.look (s := s) hsl
       have HS := Hi hs
       clear hc hs
       cases hcn : (exc.take k).contains s with
       | true =>
         rw [hcn] at hlk
         have HNO : Hid (res = false) := Hi (by
          rw [HWE.out, HRP.out, decide_eq_false (nodup_no HS.out hcn)]; rfl)
         clear hcn
         go_wp2_with fail
         go_ret
         exact ⟨by rw [HNO.out]; rfl, HBC.out.trans (HBR.out.mono hszc)⟩
       | false =>
         rw [hcn] at hlk
         obtain ⟨ob, ho, hk2⟩ := HKS.out.store (s := s) hsl
         have HO := Hi ho
         have HK2 : Hid (KS (setBlock wr wc.heap.size ob) wc.heap.size (exc.take (k + 1))) := Hi (by
          rw [take_succ_at HS.out]
          unfold addW at hk2
          rw [hcn] at hk2
          exact hk2)
         have HN2 := Hi (nodup_yes HS.out hcn HND.out)
         clear ho hk2 hcn
         go_wp2_with (refine wpList_update_run rfl 65 (.tmp 65) (.tmp 66) _ rfl (.map (some wc.heap.size)) (vs s) (.bool true) rfl rfl rfl HO.out ?_)
         exact ⟨⟨k + 1, by omega, by go_num, HK2.out, HN2.out, below_setBlock HBR.out (lR _)⟩, by simp [intOf]; omega⟩
     · have hk' : k = exc.length := by omega
       subst hk'
       obtain ⟨wa, hwa⟩ : ∃ x, x = wr := ⟨_, rfl⟩
       subst hwa
       have hlt2 : ¬ ((exc.length : Nat) : Int) < exc.length := by omega
       have HNY : Hid (decide exc.Nodup = true) := Hi (decide_eq_true (by have := HND.out; rwa [List.take_length] at this))
       have HBX2 := Hi ((HBR.out.block _ hlt0).trans HBX.out)
       have hlt1 := lHp HBX2.out
       have c5 : wa.cell? ⟨w.heap.size, 5, none⟩ = some (.int .i64 oC) := cOb (o := 5) HBX2.out rfl
       have c6 : wa.cell? ⟨w.heap.size, 6, none⟩ = some (vs nC) := cOb (o := 6) HBX2.out rfl
       have c7 : wa.cell? ⟨w.heap.size, 7, none⟩ = some (.int .i64 dC) := cOb (o := 7) HBX2.out rfl
       have c8 : wa.cell? ⟨w.heap.size, 8, none⟩ = some (.int .i64 mC) := cOb (o := 8) HBX2.out rfl
       have c9 : wa.cell? ⟨w.heap.size, 9, none⟩ = some (.slice KC ksC.length qC) := cOb (o := 9) HBX2.out rfl
       have HFO := Hi (form_any W _ (.mk oC nC dC mC ksC) _ 200 20 wa.heap.size (wa.alloc (.cells #[.int .i64 200] 3)) (lR _) h1 (by omega) (by omega) (by omega) (by omega) RC.out (HBWR.out.alloc HBWR.out.size _) HBWR.out.size ⟨_, new_at rfl⟩)
       have hszr := HBR.out.size
       go_wp2_with fail
       refine HFO.out.mono ?_
       rintro e w2 ⟨rfl, hi2, he2⟩
       obtain ⟨fb, hfb⟩ : ∃ fb, (formI (.mk oC nC dC mC ksC) 200 20).1 = fb := ⟨_, rfl⟩
       rw [hfb]
       obtain ⟨ln, hln⟩ : ∃ ln, (formI (.mk oC nC dC mC ksC) 200 20).2 = ln := ⟨_, rfl⟩
       rw [hln] at hi2
       have HFB := Hi hfb
       have HI2 := Hi hi2
       have HE2 := Hi he2
       have hbx3 : w2.heap[w.heap.size]? = some (.cells #[vs id, .int .i64 rank, .int .i64 kind, vs name, .int .i64 value, .int .i64 oC, vs nC, .int .i64 dC, .int .i64 mC, .slice KC ksC.length qC, .slice A exc.length cap, .int .i64 oB, vs nB, .int .i64 mB, .slice KB ksB.length qB, .int .i64 oD, vs nD, .int .i64 mD, .slice KD ksD.length qD, .int .i64 oG, vs nG, .int .i64 mG, .slice KG ksG.length qG] 30 (0, 0)) := (he2.block _ (by simp; omega) (by omega)).trans ((Below.heap_alloc _ _ _ hlt1).trans HBX2.out)
       have HBX3 := Hi hbx3
       have hlt3 := lHp hbx3
       have hs2 := he2.size
       rw [World.size_alloc] at hs2
       obtain ⟨hil, hil0⟩ := hi2.cell
       have hib := hi2.lt
       have k11 : w2.cell? ⟨w.heap.size, 11, none⟩ = some (.int .i64 oB) := cOb (o := 11) hbx3 rfl
       have k12 : w2.cell? ⟨w.heap.size, 12, none⟩ = some (vs nB) := cOb (o := 12) hbx3 rfl
       have k13 : w2.cell? ⟨w.heap.size, 13, none⟩ = some (.int .i64 mB) := cOb (o := 13) hbx3 rfl
       have k14 : w2.cell? ⟨w.heap.size, 14, none⟩ = some (.slice KB ksB.length qB) := cOb (o := 14) hbx3 rfl
       have k15 : w2.cell? ⟨w.heap.size, 15, none⟩ = some (.int .i64 oD) := cOb (o := 15) hbx3 rfl
       have k16 : w2.cell? ⟨w.heap.size, 16, none⟩ = some (vs nD) := cOb (o := 16) hbx3 rfl
       have k17 : w2.cell? ⟨w.heap.size, 17, none⟩ = some (.int .i64 mD) := cOb (o := 17) hbx3 rfl
       have k18 : w2.cell? ⟨w.heap.size, 18, none⟩ = some (.slice KD ksD.length qD) := cOb (o := 18) hbx3 rfl
       have k19 : w2.cell? ⟨w.heap.size, 19, none⟩ = some (.int .i64 oG) := cOb (o := 19) hbx3 rfl
       have k20 : w2.cell? ⟨w.heap.size, 20, none⟩ = some (vs nG) := cOb (o := 20) hbx3 rfl
       have k21 : w2.cell? ⟨w.heap.size, 21, none⟩ = some (.int .i64 mG) := cOb (o := 21) hbx3 rfl
       have k22 : w2.cell? ⟨w.heap.size, 22, none⟩ = some (.slice KG ksG.length qG) := cOb (o := 22) hbx3 rfl
       have hbel2 : Below w.heap.size w w2 := (HBC.out.trans (HBR.out.mono hszc)).trans ((((Below.refl _ _).alloc (lR _) _).trans ((he2.below (by simp) (by simp) : Below wa.heap.size _ _))).mono (by omega))
       have HBEL2 := Hi hbel2
       clear hfb hln hi2 he2 hbx3 hbel2 c5 c6 c7 c8 c9
       go_wp2_with fail
       have h3row : Row3 W (w2.alloc (.cells #[.int .i64 oB, vs nB, .int .i64 mB, .slice KB ksB.length qB, .int .i64 oD, vs nD, .int .i64 mD, .slice KD ksD.length qD, .int .i64 oG, vs nG, .int .i64 mG, .slice KG ksG.length qG] 28)) w2.heap.size [.mk oB nB dB mB ksB, .mk oD nD dD mD ksD, .mk oG nG dG mG ksG] := Row3.mk' RB.out RD.out RG.out (new_at rfl) rfl
       have H3 := Hi h3row
       clear h3row k11 k12 k13 k14 k15 k16 k17 k18 k19 k20 k21 k22 hil hil0
       go_loopw [7, 79] (fun v7 v79 wx => ∃ k : Nat, k ≤ 3 ∧ v79 = .int .i64 k ∧ v7 = .bool (fb && startsOk ([.mk oB nB dB mB ksB, .mk oD nD dD mD ksD, .mk oG nG dG mG ksG].take k)) ∧ (∃ n, IntB wx wa.heap.size n) ∧ Row3 W wx w2.heap.size [.mk oB nB dB mB ksB, .mk oD nD dD mD ksD, .mk oG nG dG mG ksG] ∧ Below w.heap.size w wx) (fun _ v79 _ => 3 - (intOf v79).toNat)
       case atStart => exact ⟨0, by omega, rfl, by simp [startsOk], ⟨ln, HI2.out.keep (Below.heap_alloc _ _ _ hib)⟩, H3.out, HBEL2.out.alloc (by omega) _⟩
       case round =>
        obtain ⟨k, hk, rfl, rfl, ⟨n, hin⟩, hrow, hbel⟩ := hrel
        have hbW : Below W.heap.size W wr := HBW.out.trans (hbel.mono hwl)
        have HBWW := Hi hbW
        have HIN := Hi hin
        have HROW := Hi hrow
        have HBL := Hi hbel
        obtain ⟨bk, hbk⟩ : ∃ bk, (fb && startsOk ([.mk oB nB dB mB ksB, .mk oD nD dD mD ksD, .mk oG nG dG mG ksG].take k)) = bk := ⟨_, rfl⟩
        rw [hbk]
        have HBK := Hi hbk
        obtain ⟨i1, i2⟩ := hin.cell
        have i3 := hin.lt
        have i4 := hrow.1
        have i5 : wa.heap.size ≠ w2.heap.size := by omega
        clear hin hrow hbel hbk hbW
        by_cases hlt : k < 3
        · obtain ⟨t, ht⟩ := gLt (l := ([.mk oB nB dB mB ksB, .mk oD nD dD mD ksD, .mk oG nG dG mG ksG] : List TreeI)) (k := k) hlt
          obtain ⟨cs, hcs, hrx⟩ := HROW.out.2 k t ht
          have hsz := HSZ.out t (List.mem_of_getElem? ht)
          have HT := Hi ht
          have HRX := Hi hrx
          obtain ⟨o1, n1, d1, m1, ks1⟩ := t
          obtain ⟨A1, p1, rfl, -, -⟩ := hrx
          have z0 : wr.cell? ⟨w2.heap.size, k * 4, none⟩ = some (.int .i64 o1) := hcs 0 _ rfl
          have z1 : wr.cell? ⟨w2.heap.size, k * 4 + 1, none⟩ = some (vs n1) := hcs 1 _ rfl
          have z2 : wr.cell? ⟨w2.heap.size, k * 4 + 2, none⟩ = some (.int .i64 m1) := hcs 2 _ rfl
          have z3 : wr.cell? ⟨w2.heap.size, k * 4 + 3, none⟩ = some (.slice A1 ks1.length p1) := hcs 3 _ rfl
          have hk1 : (k : Int) < 3 := by omega
          have hk0 : (0 : Int) ≤ k := by omega
          have HX1 : Hid (Below W.heap.size W ((wr.setCell ⟨wa.heap.size, 0, none⟩ (.int .i64 200)).alloc (.cells #[.int .i64 o1, vs n1, .int .i64 m1, .slice A1 ks1.length p1] 28))) := Hi ((HBWW.out.setCell (by show W.heap.size ≤ wa.heap.size; have := HBWR.out.size; omega) _).alloc (by have := HBWW.out.size; simpa using this) _)
          have HX2 : Hid (IntB ((wr.setCell ⟨wa.heap.size, 0, none⟩ (.int .i64 200)).alloc (.cells #[.int .i64 o1, vs n1, .int .i64 m1, .slice A1 ks1.length p1] 28)) wa.heap.size 200) := Hi ((HIN.out.set 200).keep (Below.heap_alloc _ _ _ (by simpa using i3)))
          have HX3 : Hid (Row3 W ((wr.setCell ⟨wa.heap.size, 0, none⟩ (.int .i64 200)).alloc (.cells #[.int .i64 o1, vs n1, .int .i64 m1, .slice A1 ks1.length p1] 28)) w2.heap.size [.mk oB nB dB mB ksB, .mk oD nD dD mD ksD, .mk oG nG dG mG ksG]) := Hi (HROW.out.keep ((Below.heap_alloc _ _ _ (by simpa using i4)).trans (Below.heap_setCell _ _ _ _ (fun e => i5 e.symm))) (by simp))
          have HX4 : Hid (Below w.heap.size w ((wr.setCell ⟨wa.heap.size, 0, none⟩ (.int .i64 200)).alloc (.cells #[.int .i64 o1, vs n1, .int .i64 m1, .slice A1 ks1.length p1] 28))) := Hi ((HBL.out.setCell (by show w.heap.size ≤ wa.heap.size; omega) _).alloc (by have := HBL.out.size; simpa using this) _)
          have HSN := Hi (startsOk_snoc ht)
          clear hcs ht
          cases bk with
          | false =>
            go_wp2_with fail
            exact ⟨⟨k + 1, by omega, by go_num, by rw [HSN.out, ← Bool.and_assoc, HBK.out]; rfl, ⟨200, HX2.out⟩, HX3.out, HX4.out⟩, by simp [intOf]; omega⟩
          | true =>
            go_wp2_with fail
            refine (strt_any W _ (.mk o1 n1 d1 m1 ks1) _ 200 20 wa.heap.size _ (lR _) hsz (by omega) (by omega) (by omega) (by omega) HRX.out HX1.out (by have := HBWR.out.size; omega) HX2.out).mono ?_
            rintro e w5 ⟨rfl, h6, h7⟩
            have HR3 := Hi (HX3.out.keep (h7.block _ HX3.out.1 (fun e => i5 e.symm)) h7.size)
            have HR4 := Hi (HX4.out.trans (h7.below (by omega) HX4.out.size))
            have H6 := Hi h6
            clear h6 h7 z0 z1 z2 z3 i1 i2
            go_wp2_with fail
            exact ⟨⟨k + 1, by omega, by go_num, by rw [HSN.out, ← Bool.and_assoc, HBK.out]; rfl, ⟨_, H6.out⟩, HR3.out, HR4.out⟩, by simp [intOf]; omega⟩
        · have hk' : k = 3 := by omega
          subst hk'
          have hres : res = bk := by
           rw [HWE.out, HRP.out, HNY.out, HFB.out, ← HBK.out]
           rfl
          have HRES := Hi hres
          clear hres
          go_wp2_with fail
          go_ret
          exact ⟨by rw [HRES.out]; rfl, HBL.out⟩
end Go.Proofs.YtbicmjmcdnkjhaaGreatDoor
namespace Go.Proofs.YtbicmjmcdnkjhaaGreatDoor
/- the byte that is written in the place of the next two -/
def hitR (o c : List UInt8) : Bytes → Option UInt8
 | x :: y :: _ => if x = 32 ∧ y ∈ c then some y else if x ∈ o ∧ y = 32 then some x else none
 | _ => none
theorem replF_hit {o c : List UInt8} {x y v : UInt8} {r : Bytes} (h : hitR o c (x :: y :: r) = some v) : replF o c (x :: y :: r) = v :: replF o c r := by
 simp only [hitR] at h
 rw [replF]
 split at h
 · rename_i h1
   injection h with h
   rw [if_pos h1, h]
 · rename_i h1
   split at h
   · rename_i h2
     injection h with h
     rw [if_neg h1, if_pos h2, h]
   · cases h
theorem replF_miss {o c : List UInt8} {x : UInt8} {r : Bytes} (h : hitR o c (x :: r) = none) : replF o c (x :: r) = x :: replF o c r := by
 cases r with
 | nil => rfl
 | cons y r =>
   simp only [hitR] at h
   rw [replF]
   split at h
   · cases h
   · rename_i h1
     split at h
     · cases h
     · rename_i h2
       rw [if_neg h1, if_neg h2]
/- while a text is run through: buf is written, what stands from last to i is not yet -/
def ScanR (o c : List UInt8) (s : Bytes) (last i : Nat) (buf : Bytes) : Prop := last ≤ i ∧ i ≤ s.length ∧ replF o c s = buf ++ ((s.drop last).take (i - last) ++ replF o c (s.drop i))
theorem ScanR.start (o c : List UInt8) (s : Bytes) : ScanR o c s 0 0 [] := ⟨lR _, Nat.zero_le _, by simp⟩
theorem ScanR.miss {o c : List UInt8} {s : Bytes} {last i : Nat} {buf : Bytes} (h : ScanR o c s last i buf) (hi : i < s.length) (hm : hitR o c (s.drop i) = none) : ScanR o c s last (i + 1) buf := by
 obtain ⟨h1, h2, h3⟩ := h
 refine ⟨by omega, by omega, ?_⟩
 rw [h3]
 rw [List.drop_eq_getElem_cons hi] at hm ⊢
 rw [replF_miss hm]
 have e : (s.drop last).take (i + 1 - last) = (s.drop last).take (i - last) ++ [s[i]] := by
  have hl : i - last < (s.drop last).length := by rw [List.length_drop]; omega
  rw [show i + 1 - last = (i - last) + 1 by omega, List.take_succ_eq_append_getElem hl]
  congr 2
  rw [List.getElem_drop]
  congr 1
  omega
 rw [e]
 simp only [List.append_assoc, List.cons_append, List.nil_append]
theorem hit_len {o c : List UInt8} {s : Bytes} {v : UInt8} (h : hitR o c s = some v) : 2 ≤ s.length := by
 match s, h with
 | [], h => cases h
 | [x], h => cases h
 | x :: y :: r, _ => simp
theorem ScanR.hit {o c : List UInt8} {s : Bytes} {last i : Nat} {buf : Bytes} {v : UInt8} (h : ScanR o c s last i buf) (hm : hitR o c (s.drop i) = some v) : ScanR o c s (i + 2) (i + 2) (buf ++ ((s.drop last).take (i - last) ++ [v])) := by
 obtain ⟨h1, h2, h3⟩ := h
 have hl := hit_len hm
 rw [List.length_drop] at hl
 refine ⟨lR _, by omega, ?_⟩
 rw [h3, Nat.sub_self, List.take_zero, List.nil_append]
 have e1 : s.drop i = s[i] :: s[i + 1] :: s.drop (i + 2) := by
  rw [List.drop_eq_getElem_cons (show i < s.length by omega), List.drop_eq_getElem_cons (show i + 1 < s.length by omega)]
 rw [e1] at hm
 rw [e1, replF_hit hm]
 simp only [List.append_assoc, List.cons_append, List.nil_append]
theorem ScanR.fin {o c : List UInt8} {s : Bytes} {last : Nat} {buf : Bytes} (h : ScanR o c s last s.length buf) : replF o c s = buf ++ s.drop last := by
 obtain ⟨h1, h2, h3⟩ := h
 rw [h3, List.drop_length]
 rw [show replF o c [] = [] from rfl, List.append_nil, List.take_of_length_le (by rw [List.length_drop]; omega)]
open Go.RowKit
abbrev nilP : Value := .pointer none
abbrev ptrB (b : Nat) : Value := .pointer (some ⟨b, 0, none⟩)
/- a node that is a block of its own -/
def NodeB (w : World) (b : Nat) (val : Bytes) (q : Int) (pre : Bytes) (nxt tab : Value) : Prop := w.heap[b]? = some (.cells #[vs val, .int .i64 q, vs pre, nxt, tab] 252 (0, 0))
def LeafB (w : World) (b : Nat) (val : Bytes) (q : Int) : Prop := NodeB w b val q [] nilP (.slice none 0 0)
/- what stands below a byte of the root's table -/
inductive Sub where
 | no
 | pre (y : UInt8) (v : Bytes) (q : Int)
 | tab (l : List (UInt8 × Bytes × Int))
/- a table's cell -/
def TabAt (mp : Nat → Nat) (w : World) (F : Nat → Prop) (L : List (UInt8 × Bytes × Int)) (m : Nat) (pv : Value) : Prop :=
 (∃ y v q l, (y, v, q) ∈ L ∧ mp y.toNat = m ∧ pv = ptrB l ∧ F l ∧ LeafB w l v q) ∨ (pv = nilP ∧ ∀ y v q, (y, v, q) ∈ L → mp y.toNat ≠ m)
def SubAt (mp : Nat → Nat) (ts : Nat) (w : World) (F : Nat → Prop) (pv : Value) : Sub → Prop
 | .no => pv = nilP
 | .pre y v q => ∃ n l, pv = ptrB n ∧ F n ∧ F l ∧ NodeB w n [] 0 [y] (ptrB l) (.slice none 0 0) ∧ LeafB w l v q
 | .tab L => ∃ n t C, pv = ptrB n ∧ F n ∧ F t ∧ NodeB w n [] 0 [] nilP (.slice (some ⟨t, 0, none⟩) ts ts) ∧ w.heap[t]? = some (.cells C 249 (0, 0)) ∧ C.size = ts ∧ ∀ m, m < ts → ∃ pv, C[m]? = some pv ∧ TabAt mp w F L m pv
theorem LeafB.keep {w w' : World} {b : Nat} {v : Bytes} {q : Int} (h : LeafB w b v q) (hk : w'.heap[b]? = w.heap[b]?) : LeafB w' b v q := hk.trans h
theorem TabAt.keep {mp : Nat → Nat} {w w' : World} {F G : Nat → Prop} {L : List (UInt8 × Bytes × Int)} {m : Nat} {pv : Value} (h : TabAt mp w F L m pv) (hF : ∀ b, F b → G b) (hk : ∀ l v q, F l → LeafB w l v q → w'.heap[l]? = w.heap[l]?) : TabAt mp w' G L m pv := by
 rcases h with ⟨y, v, q, l, h1, h2, h3, h4, h5⟩ | h
 · exact Or.inl ⟨y, v, q, l, h1, h2, h3, hF l h4, h5.keep (hk l v q h4 h5)⟩
 · exact Or.inr h
theorem SubAt.keep {mp : Nat → Nat} {ts : Nat} {w w' : World} {F : Nat → Prop} {pv : Value} {s : Sub} (h : SubAt mp ts w F pv s) (hk : ∀ b, F b → w'.heap[b]? = w.heap[b]?) : SubAt mp ts w' F pv s := by
 cases s with
 | no => exact h
 | pre y v q =>
   obtain ⟨n, l, h1, h2, h3, h4, h5⟩ := h
   exact ⟨n, l, h1, h2, h3, (hk n h2).trans h4, (hk l h3).trans h5⟩
 | tab L =>
   obtain ⟨n, t, C, h1, h2, h3, h4, h5, h6, h7⟩ := h
   exact ⟨n, t, C, h1, h2, h3, (hk n h2).trans h4, (hk t h3).trans h5, h6, fun m hm => by
    obtain ⟨pv, a, b⟩ := h7 m hm
    exact ⟨pv, a, b.keep (fun _ h => h) (fun l _ _ hl _ => hk l hl)⟩⟩
/- a node's block is none of the table's -/
theorem node_ne_tab {w : World} {b t : Nat} {val pre : Bytes} {q : Int} {nxt tab : Value} {C : Array Value} (h : NodeB w b val q pre nxt tab) (ht : w.heap[t]? = some (.cells C 249 (0, 0))) : b ≠ t := by
 rintro rfl
 unfold NodeB at h
 rw [h] at ht
 simp at ht
/- the replacer's block -/
structure GrB (mp : Nat → Nat) (ts : Nat) (w : World) (r tb : Nat) : Prop where
 is : ∃ C : Array Value, w.heap[r]? = some (.cells C 254 (0, 0)) ∧ C.size = 262 ∧ C[0]? = some (vs []) ∧ C[1]? = some (.int .i64 0) ∧ C[2]? = some (vs []) ∧ C[3]? = some nilP ∧
  C[4]? = some (.slice (some ⟨tb, 0, none⟩) ts ts) ∧ C[5]? = some (.int .i64 ts) ∧ ∀ k, k < 256 → C[6 + k]? = some (.int .u8 (mp k))
 small : ts ≤ 10
 mpl : ∀ k, mp k ≤ ts
structure Trie (mp : Nat → Nat) (ts : Nat) (B : Nat) (w : World) (r tb : Nat) (st : Nat → Sub) : Prop where
 gr : GrB mp ts w r tb
 root : ∃ D : Array Value, w.heap[tb]? = some (.cells D 249 (0, 0)) ∧ D.size = ts ∧ ∃ F : Nat → Nat → Prop, (∀ m b, F m b → b ≠ r ∧ b ≠ tb ∧ b < w.heap.size ∧ B ≤ b) ∧ (∀ m m' b, F m b → F m' b → m = m') ∧ ∀ m, m < ts → ∃ pv, D[m]? = some pv ∧ SubAt mp ts w (F m) pv (st m)
 lo : B ≤ r ∧ B ≤ tb
theorem GrB.cells {mp : Nat → Nat} {ts : Nat} {w : World} {r tb : Nat} (h : GrB mp ts w r tb) : w.cell? ⟨r, 0, none⟩ = some (vs []) ∧ w.cell? ⟨r, 1, none⟩ = some (.int .i64 0) ∧ w.cell? ⟨r, 2, none⟩ = some (vs []) ∧ w.cell? ⟨r, 3, none⟩ = some nilP ∧
 w.cell? ⟨r, 4, none⟩ = some (.slice (some ⟨tb, 0, none⟩) ts ts) ∧ w.cell? ⟨r, 5, none⟩ = some (.int .i64 ts) ∧ ∀ k, k < 256 → w.cell? ⟨r, 6 + k, none⟩ = some (.int .u8 (mp k)) := by
 obtain ⟨C, h0, -, h1, h2, h3, h4, h5, h6, h7⟩ := h.is
 exact ⟨cOb h0 h1, cOb h0 h2, cOb h0 h3, cOb h0 h4, cOb h0 h5, cOb h0 h6, fun k hk => cOb h0 (h7 k hk)⟩
theorem GrB.lt {mp : Nat → Nat} {ts : Nat} {w : World} {r tb : Nat} (h : GrB mp ts w r tb) : r < w.heap.size := by
 obtain ⟨C, h0, -⟩ := h.is
 exact lHp h0
theorem GrB.keep {mp : Nat → Nat} {ts : Nat} {w w' : World} {r tb : Nat} (h : GrB mp ts w r tb) (hk : w'.heap[r]? = w.heap[r]?) : GrB mp ts w' r tb := by
 obtain ⟨C, h0, h1⟩ := h.is
 exact ⟨⟨C, hk.trans h0, h1⟩, h.small, h.mpl⟩
theorem Trie.keep {mp : Nat → Nat} {ts : Nat} {B : Nat} {w w' : World} {r tb : Nat} {st : Nat → Sub} (h : Trie mp ts B w r tb st) (hs : w.heap.size ≤ w'.heap.size) (hk : ∀ b, B ≤ b → b < w.heap.size → w'.heap[b]? = w.heap[b]?) : Trie mp ts B w' r tb st := by
 obtain ⟨D, h1, h2, F, h3, h4, h5⟩ := h.root
 refine ⟨h.gr.keep (hk r h.lo.1 h.gr.lt), ⟨D, (hk tb h.lo.2 (lHp h1)).trans h1, h2, F, fun m b hb => ?_, h4, fun m hm => ?_⟩, h.lo⟩
 · obtain ⟨a, b, c, d⟩ := h3 m b hb
   exact ⟨a, b, Nat.lt_of_lt_of_le c hs, d⟩
 · obtain ⟨pv, a, b⟩ := h5 m hm
   exact ⟨pv, a, b.keep fun b hb => hk b (h3 m b hb).2.2.2 (h3 m b hb).2.2.1⟩
/- a key of two bytes added -/
def addSub : Sub → UInt8 → Bytes → Int → Sub
 | .no, y, v, q => .pre y v q
 | .pre y0 v0 q0, y, v, q => .tab [(y0, v0, q0), (y, v, q)]
 | .tab L, y, v, q => .tab (L ++ [(y, v, q)])
/- a byte that is not yet there -/
def freshSub (mp : Nat → Nat) : Sub → UInt8 → Prop
 | .no, _ => True
 | .pre y0 _ _, y => y0 ≠ y ∧ mp y0.toNat ≠ mp y.toNat
 | .tab L, y => ∀ y0 v0 q0, (y0, v0, q0) ∈ L → mp y0.toNat ≠ mp y.toNat
def setAt (st : Nat → Sub) (m : Nat) (s : Sub) : Nat → Sub := fun k => if k = m then s else st k
/- the same tree, one place changed -/
theorem Trie.change {mp : Nat → Nat} {ts B : Nat} {w w' : World} {r tb : Nat} {st : Nat → Sub} {D : Array Value} {F : Nat → Nat → Prop} {m : Nat} {s : Sub} {pv' : Value} {G : Nat → Prop} {D' : Array Value}
 (hgr : GrB mp ts w r tb) (hlo : B ≤ r ∧ B ≤ tb) (h1 : w.heap[tb]? = some (.cells D 249 (0, 0))) (h2 : D.size = ts) (h3 : ∀ m b, F m b → b ≠ r ∧ b ≠ tb ∧ b < w.heap.size ∧ B ≤ b) (h4 : ∀ m m' b, F m b → F m' b → m = m')
 (h5 : ∀ m, m < ts → ∃ pv, D[m]? = some pv ∧ SubAt mp ts w (F m) pv (st m))
 (hs : w.heap.size ≤ w'.heap.size) (hk : ∀ b, b < w.heap.size → b ≠ tb → ¬ F m b → w'.heap[b]? = w.heap[b]?) (hB : B ≤ w.heap.size)
 (hD : w'.heap[tb]? = some (.cells D' 249 (0, 0))) (hD2 : D'.size = ts) (hDo : ∀ j, j ≠ m → D'[j]? = D[j]?) (hDm : D'[m]? = some pv')
 (hG : ∀ b, G b → F m b ∨ w.heap.size ≤ b ∧ b < w'.heap.size) (hsub : SubAt mp ts w' G pv' s) : Trie mp ts B w' r tb (setAt st m s) := by
 have hrt := hgr.lt
 have htb := lHp h1
 have hrne : r ≠ tb := by
  rintro rfl
  obtain ⟨C, h0, -⟩ := hgr.is
  rw [h0] at h1
  simp at h1
 refine ⟨hgr.keep (hk r hrt hrne (fun hf => (h3 m r hf).1 rfl)), ⟨D', hD, hD2, fun k b => if k = m then G b else F k b, fun k b hb => ?_, fun k k' b hb hb' => ?_, fun k hkt => ?_⟩, hlo⟩
 · simp only at hb
   split at hb
   · rcases hG b hb with hb | hb
     · obtain ⟨a, b', c, d⟩ := h3 m b hb
       exact ⟨a, b', by omega, d⟩
     · exact ⟨by omega, by omega, by omega, by omega⟩
   · obtain ⟨a, b', c, d⟩ := h3 k b hb
     exact ⟨a, b', by omega, d⟩
 · simp only at hb hb'
   split at hb
   · split at hb'
     · omega
     · rename_i e1 e2
       rcases hG b hb with hb | hb
       · exact absurd (h4 k' m b hb' hb) e2
       · have := (h3 k' b hb').2.2.1
         omega
   · split at hb'
     · rename_i e1 e2
       rcases hG b hb' with hb' | hb'
       · exact absurd (h4 k m b hb hb') e1
       · have := (h3 k b hb).2.2.1
         omega
     · exact h4 k k' b hb hb'
 · by_cases hkm : k = m
   · subst hkm
     refine ⟨pv', hDm, ?_⟩
     simp only [setAt, if_true]
     exact hsub
   · obtain ⟨pv, a, b⟩ := h5 k hkt
     refine ⟨pv, (hDo k hkm).trans a, ?_⟩
     simp only [setAt, if_neg hkm]
     exact b.keep fun c hc => hk c (h3 k c hc).2.2.1 (h3 k c hc).2.1 (fun hf => hkm (h4 k m c hc hf))
end Go.Proofs.YtbicmjmcdnkjhaaGreatDoor
