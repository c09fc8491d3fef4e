/- printer.formula: are the nodes of a formula as required? printer.start: are the nodes of a condition as required? -/
import Derived.Test.YtbicmjmcdnkjhaaGreatDoorJMM1
import Derived.Test.YtbicmjmcdnkjhaaGreatDoorJMM8
import Derived.Test.YtbicmjmcdnkjhaaGreatDoorJMM6
import Derived.Deep.CutRange
set_option linter.unusedVariables false
set_option linter.unusedSimpArgs false
set_option maxRecDepth 20000
set_option maxHeartbeats 8000000
namespace Go.Proofs.YtbicmjmcdnkjhaaGreatDoor
open Go.RowKit
structure FmW (T Tp : TypeId) (w wc : World) (lb : Nat) (l d : Int) (C : Array Value) : Prop where
 box : wc.heap[w.heap.size]? = some (.cells C T (0, 0))
 lp : wc.heap[w.heap.size + 1]? = some (.cells #[.pointer (some ⟨lb, 0, none⟩)] Tp (0, 0))
 dp : IntB wc (w.heap.size + 1 + 1) d
 left : IntB wc lb l
 eff : Eff lb w wc
theorem FmW.mk' {T Tp Ti : TypeId} {w : World} {lb : Nat} {l l' d : Int} {C : Array Value} (h : IntB w lb l) :
 FmW T Tp w ((((w.setCell ⟨lb, 0, none⟩ (.int .i64 l')).alloc (.cells C T)).alloc (.cells #[.pointer (some ⟨lb, 0, none⟩)] Tp)).alloc (.cells #[.int .i64 d] Ti)) lb l' d C := by
 have hlt := h.lt
 refine ⟨kept_at (kept_at (new_at (by simp))), kept_at (new_at (by simp)), ⟨Ti, new_at (by simp)⟩, ?_, ?_⟩
 · refine (h.set l').keep ?_
   rw [Below.heap_alloc _ _ _ (by simp; omega), Below.heap_alloc _ _ _ (by simp; omega), Below.heap_alloc _ _ _ (by simpa using hlt)]
 · exact ((((Eff.refl lb w).setCell _ (Or.inl rfl) _).alloc _).alloc _).alloc _
theorem formsI_step {ks : List TreeI} {k : Nat} {x : TreeI} (hx : ks[k]? = some x) (l d : Int) : formsI (ks.drop k) l d = if (formI x l d).1 = true then formsI (ks.drop (k + 1)) (formI x l d).2 d else (false, (formI x l d).2) := by
 obtain ⟨h1, rfl⟩ := List.getElem?_eq_some_iff.1 hx
 rw [List.drop_eq_getElem_cons h1, formsI]
theorem clos_f (o1 : Int) (n1 : List UInt8) (d1 m1 : Int) (ks1 : List TreeI) (B1 : Option Addr) (q1 pb db lb : Nat) (d : Int) (wr : World) (r : Bool × Int) (hd0 : 0 ≤ d) (hd : d ≤ 1000) (Tp : TypeId) (hp : wr.heap[pb]? = some (.cells #[.pointer (some ⟨lb, 0, none⟩)] Tp (0, 0))) (hdb : IntB wr db d)
 (hform : Calls Tryz.prog 60 #[.agg #[.int .i64 o1, vs n1, .int .i64 d1, .int .i64 m1, .slice B1 ks1.length q1], .pointer (some ⟨lb, 0, none⟩), .int .i64 (d - 1)] (wr.alloc (.cells #[.int .i64 o1, vs n1, .int .i64 d1, .int .i64 m1, .slice B1 ks1.length q1] 24)) (FormPost (wr.alloc (.cells #[.int .i64 o1, vs n1, .int .i64 d1, .int .i64 m1, .slice B1 ks1.length q1] 24)) lb r)) :
 Calls Tryz.prog 98 #[.agg #[.int .i64 o1, vs n1, .int .i64 d1, .int .i64 m1, .slice B1 ks1.length q1], .pointer (some ⟨pb, 0, none⟩), .pointer (some ⟨db, 0, none⟩)] wr fun e w' => e = .returned (.bool (!r.1)) ∧ IntB w' lb r.2 ∧ Eff lb wr w' := by
 have z1 : wr.cell? ⟨pb, 0, none⟩ = some (.pointer (some ⟨lb, 0, none⟩)) := cOb (o := 0) hp rfl
 obtain ⟨z2, -⟩ := hdb.cell
 have y1 := lHp hp
 have y2 := hdb.lt
 have HF := Hi hform
 obtain ⟨r1, r2⟩ := r
 clear hform hp hdb
 go_enter Tryz.func98, Tryz.ntmps98
 go_wp2_with fail
 refine HF.out.mono ?_
 rintro e w1 ⟨rfl, h1, h2⟩
 have H1 := Hi h1
 have H2 := Hi h2
 clear h1 h2
 go_wp2_with fail
 go_ret
 exact ⟨rfl, H1.out, (Eff.of_below ((Below.refl _ _).alloc (lR _) _)).trans H2.out⟩
theorem form_any (W0 : World) : ∀ (N : Nat) (t : TreeI) (cs : List Value) (l d : Int) (lb : Nat) (w : World), t.size ≤ N → t.size ≤ 1000000 → 0 ≤ d → d ≤ 1000 → 0 ≤ l → l ≤ 1000000 → RdX true W0 cs t → Below W0.heap.size W0 w → W0.heap.size ≤ lb → IntB w lb l →
 Calls Tryz.prog 60 #[.agg cs.toArray, .pointer (some ⟨lb, 0, none⟩), .int .i64 d] w (FormPost w lb (formI t l d)) := by
 intro N
 induction N with
 | zero =>
   intro t cs l d lb w hN
   have := sizeI_pos t
   omega
 | succ N ih =>
   intro t cs l d lb w hN hsz hd0 hd hl0 hl hr hb hlb hi
   have IH := Hi ih
   have HI := Hi hi
   have HB := Hi hb
   obtain ⟨op, name, cm, m, ks⟩ := t
   obtain ⟨A1, p1, rfl, -, hk1⟩ := hr
   have HK := Hi hk1
   have hwl := hb.size
   have hlbl := hi.lt
   have hkn : ks.length ≤ sizesI ks := kidsI_le ks
   simp only [TreeI.size] at hN hsz
   simp only [tcX]
   obtain ⟨c0, f0⟩ := hi.cell
   have hlb1 : lb < w.heap.size + 1 := by omega
   have hlb2 : lb < w.heap.size + 1 + 1 := by omega
   have hmf : ∀ (fn : Fn) (first cap : Array Value) (w : World), (Instr.makeFunc fn first cap).run Tryz.prog w = .ok (.func fn first cap) w := fun _ _ _ _ => rfl
   have HF : Hid (FmW 24 97 w ((((w.setCell ⟨lb, 0, none⟩ (.int .i64 (l - 1))).alloc (.cells #[.int .i64 op, vs name, .int .i64 cm, .int .i64 m, .slice A1 ks.length p1] 24)).alloc (.cells #[.pointer (some ⟨lb, 0, none⟩)] 97)).alloc (.cells #[.int .i64 d] 3)) lb (l - 1) d #[.int .i64 op, vs name, .int .i64 cm, .int .i64 m, .slice A1 ks.length p1]) := Hi (FmW.mk' hi)
   clear ih hk1 hi hb
   go_enter Tryz.func60, Tryz.ntmps60
   go_upto_region 2 with fail
   go_cut [3, 4, 5, 6, 7] from 0 (fun s3 s4 s5 s6 s7 wc => s3 = .pointer (some ⟨w.heap.size, 0, none⟩) ∧ s4 = .pointer (some ⟨w.heap.size + 1, 0, none⟩) ∧ s5 = .pointer (some ⟨w.heap.size + 1 + 1, 0, none⟩) ∧ s6 = .bool false ∧ s7 = .bool (testI op cm m) ∧ FmW 24 97 w wc lb (l - 1) d #[.int .i64 op, vs name, .int .i64 cm, .int .i64 m, .slice A1 ks.length p1])
   case first =>
    go_wp2_with fail
    all_goals
     go_meet
     case rel =>
      (try subst_vars)
      refine ⟨rfl, rfl, rfl, rfl, ?_, HF.out⟩
      refine congrArg Value.bool ?_
      rw [Bool.eq_iff_iff]
      simp [testI]
      try omega
   case rest =>
    obtain ⟨rfl, rfl, rfl, rfl, rfl, hfm⟩ := hcut
    obtain ⟨ts, hts⟩ : ∃ ts, (testI op cm m) = ts := ⟨_, rfl⟩
    rw [hts]
    have HTS := Hi hts
    clear hts HF c0 f0 hlb1 hlb2
    obtain ⟨hbx, hlp, hdp, hlf, hef⟩ := hfm
    have HFM := Hi (FmW.mk hbx hlp hdp hlf hef)
    have z0 : wc.cell? ⟨w.heap.size, 0, none⟩ = some (.int .i64 op) := cOb (o := 0) hbx rfl
    have z1 : wc.cell? ⟨w.heap.size, 1, none⟩ = some (vs name) := cOb (o := 1) hbx rfl
    have z2 : wc.cell? ⟨w.heap.size, 2, none⟩ = some (.int .i64 cm) := cOb (o := 2) hbx rfl
    have z3 : wc.cell? ⟨w.heap.size, 3, none⟩ = some (.int .i64 m) := cOb (o := 3) hbx rfl
    have z4 : wc.cell? ⟨w.heap.size, 4, none⟩ = some (.slice A1 ks.length p1) := cOb (o := 4) hbx rfl
    have za : wc.cell? ⟨w.heap.size + 1, 0, none⟩ = some (.pointer (some ⟨lb, 0, none⟩)) := cOb (o := 0) hlp rfl
    obtain ⟨zb, -⟩ := hdp.cell
    obtain ⟨zc, -⟩ := hlf.cell
    have y0 := lHp hbx
    have y1 := lHp hlp
    have y2 := hdp.lt
    have y3 := hlf.lt
    clear hbx hlp hdp hlf hef
    go_upto_region 3 with fail
    go_cut [3, 4, 5, 6, 78] from 0 (fun s3 s4 s5 s6 s78 wd => wc = wd ∧ s3 = .pointer (some ⟨w.heap.size, 0, none⟩) ∧ s4 = .pointer (some ⟨w.heap.size + 1, 0, none⟩) ∧ s5 = .pointer (some ⟨w.heap.size + 1 + 1, 0, none⟩) ∧ s6 = .bool false ∧ s78 = .bool (decide (l - 1 < 0 ∨ d = 0 ∨ refF op name cm m = true)))
    case first =>
     go_wp2_with fail
     all_goals
      go_meet
      case rel =>
       have hts := HTS.out
       refine ⟨rfl, rfl, rfl, rfl, rfl, ?_⟩
       refine congrArg Value.bool ?_
       rw [Bool.eq_iff_iff, decide_eq_true_eq]
       unfold refF
       rw [hts]
       clear hts
       try subst_vars
       first | (simp [*]; done) | (simp [*]; omega) | (simp; omega) | omega
    case rest =>
     obtain ⟨rfl, rfl, rfl, rfl, rfl, rfl⟩ := hcut
     by_cases href : l - 1 < 0 ∨ d = 0 ∨ refF op name cm m = true
     · rw [decide_eq_true href]
       have HRES : Hid (formI (.mk op name cm m ks) l d = (false, l - 1)) := Hi (by rw [formI, if_pos href])
       clear href
       go_wp2_with fail
       go_ret
       rw [HRES.out]
       exact ⟨rfl, HFM.out.left, HFM.out.eff⟩
     rw [decide_eq_false href]
     have HREF := Hi href
     have hl1 : 0 ≤ l - 1 := by omega
     have hd1 : 0 ≤ d - 1 := by omega
     clear href
     by_cases o1 : op = 1 ∨ op = 2 ∨ op = 3 ∨ op = 4
     · have HRES : Hid (formI (.mk op name cm m ks) l d = (decide (ks.length = 0), l - 1)) := Hi (by rw [formI, if_neg HREF.out]; rw [if_pos o1])
       obtain rfl | rfl | rfl | rfl := o1
       all_goals
        go_wp2_with fail
        go_ret
        rw [HRES.out]
        refine ⟨?_, HFM.out.left, HFM.out.eff⟩
        refine congrArg (fun b => Ending.returned (.bool b)) ?_
        rw [Bool.eq_iff_iff]
        simp
     by_cases o5 : op = 5
     · subst o5
       by_cases hk : ks.length = 1
       · have e1 : ((ks.length : Int) != 1) = false := by rw [hk]; rfl
         have HKL := Hi hk
         clear hk
         have HRES : Hid (formI (.mk 5 name cm m ks) l d = formsI ks (l - 1) (d - 1)) := Hi (by rw [formI, if_neg HREF.out]; rw [if_neg (by omega), if_pos (Or.inl ⟨rfl, HKL.out⟩)])
         go_wp2_with fail
         refine (co_f W0 ks A1 p1 98 _ _ (fun k wr => ∃ lk : Int, formsI ks (l - 1) (d - 1) = formsI (ks.drop k) lk (d - 1) ∧ 0 ≤ lk ∧ lk ≤ 1000000 ∧ IntB wr lb lk ∧ Eff lb wc wr) (fun wr => ∃ lk : Int, formsI ks (l - 1) (d - 1) = (false, lk) ∧ IntB wr lb lk ∧ Eff lb wc wr) HK.out (by omega) (enters Tryz.func98 (by kernel_rfl) rfl) (fun k wr ⟨lk, _, _, _, _, he⟩ => HB.out.trans ((HFM.out.eff.trans he).below hlb hwl)) ?_ ⟨l - 1, rfl, hl1, by omega, HFM.out.left, Eff.refl _ _⟩).mono ?_
         · intro k o1 n1 d1 m1 ks1 B1 q1 wr hx hrx ⟨lk, h1, h2, h3, h4, h5⟩
           have hkx := memI_size hx
           have hbw : Below W0.heap.size W0 wr := HB.out.trans ((HFM.out.eff.trans h5).below hlb hwl)
           have hpb := (h5.block _ (lHp HFM.out.lp) (by omega)).trans HFM.out.lp
           have hdb := HFM.out.dp.keep (h5.block _ HFM.out.dp.lt (by omega))
           have hform := IH.out (.mk o1 n1 d1 m1 ks1) _ lk (d - 1) lb (wr.alloc (.cells #[.int .i64 o1, vs n1, .int .i64 d1, .int .i64 m1, .slice B1 ks1.length q1] 24)) (by omega) (by omega) hd1 (by omega) h2 h3 (hrx) (hbw.alloc hbw.size _) hlb (h4.keep (Below.heap_alloc _ _ _ h4.lt))
           refine (clos_f o1 n1 d1 m1 ks1 B1 q1 _ _ lb d wr _ hd0 hd _ hpb hdb hform).mono ?_
           rintro e w' ⟨rfl, h6, h7⟩
           have hstep := formsI_step hx lk (d - 1)
           cases hb : (formI (.mk o1 n1 d1 m1 ks1) lk (d - 1)).1 with
           | true =>
             have h8 := formI_left _ _ _ hb
             exact Or.inl ⟨rfl, (formI (.mk o1 n1 d1 m1 ks1) lk (d - 1)).2, by rw [h1, hstep, if_pos hb], h8.1, by omega, h6, h5.trans h7⟩
           | false => exact Or.inr ⟨rfl, (formI (.mk o1 n1 d1 m1 ks1) lk (d - 1)).2, by rw [h1, hstep, hb]; rfl, h6, h5.trans h7⟩
         · rintro e w1 (⟨rfl, lk, h1, -, -, h4, h5⟩ | ⟨rfl, lk, h1, h4, h5⟩)
           · have H1 := Hi h1
             have H4 := Hi h4
             have H5 := Hi h5
             clear h1 h4 h5
             go_wp2_with fail
             go_ret
             rw [HRES.out, H1.out, List.drop_length, formsI]
             exact ⟨rfl, H4.out, HFM.out.eff.trans H5.out⟩
           · have H1 := Hi h1
             have H4 := Hi h4
             have H5 := Hi h5
             clear h1 h4 h5
             go_wp2_with fail
             go_ret
             rw [HRES.out, H1.out]
             exact ⟨rfl, H4.out, HFM.out.eff.trans H5.out⟩
       · have e1 : ((ks.length : Int) != 1) = true := by simp; omega
         have HKL := Hi hk
         clear hk
         have HRES : Hid (formI (.mk 5 name cm m ks) l d = (false, l - 1)) := Hi (by rw [formI, if_neg HREF.out]; rw [if_neg (by omega), if_neg (by have := HKL.out; omega)])
         go_wp2_with fail
         go_ret
         rw [HRES.out]
         exact ⟨rfl, HFM.out.left, HFM.out.eff⟩
     by_cases o6 : op = 6
     · subst o6
       by_cases hk : 2 ≤ ks.length
       · have e1 : ¬ (ks.length : Int) < 2 := by omega
         have HRES : Hid (formI (.mk 6 name cm m ks) l d = formsI ks (l - 1) (d - 1)) := Hi (by rw [formI, if_neg HREF.out]; rw [if_neg (by omega), if_pos (by omega)])
         go_wp2_with fail
         refine (co_f W0 ks A1 p1 98 _ _ (fun k wr => ∃ lk : Int, formsI ks (l - 1) (d - 1) = formsI (ks.drop k) lk (d - 1) ∧ 0 ≤ lk ∧ lk ≤ 1000000 ∧ IntB wr lb lk ∧ Eff lb wc wr) (fun wr => ∃ lk : Int, formsI ks (l - 1) (d - 1) = (false, lk) ∧ IntB wr lb lk ∧ Eff lb wc wr) HK.out (by omega) (enters Tryz.func98 (by kernel_rfl) rfl) (fun k wr ⟨lk, _, _, _, _, he⟩ => HB.out.trans ((HFM.out.eff.trans he).below hlb hwl)) ?_ ⟨l - 1, rfl, hl1, by omega, HFM.out.left, Eff.refl _ _⟩).mono ?_
         · intro k o1 n1 d1 m1 ks1 B1 q1 wr hx hrx ⟨lk, h1, h2, h3, h4, h5⟩
           have hkx := memI_size hx
           have hbw : Below W0.heap.size W0 wr := HB.out.trans ((HFM.out.eff.trans h5).below hlb hwl)
           have hpb := (h5.block _ (lHp HFM.out.lp) (by omega)).trans HFM.out.lp
           have hdb := HFM.out.dp.keep (h5.block _ HFM.out.dp.lt (by omega))
           have hform := IH.out (.mk o1 n1 d1 m1 ks1) _ lk (d - 1) lb (wr.alloc (.cells #[.int .i64 o1, vs n1, .int .i64 d1, .int .i64 m1, .slice B1 ks1.length q1] 24)) (by omega) (by omega) hd1 (by omega) h2 h3 (hrx) (hbw.alloc hbw.size _) hlb (h4.keep (Below.heap_alloc _ _ _ h4.lt))
           refine (clos_f o1 n1 d1 m1 ks1 B1 q1 _ _ lb d wr _ hd0 hd _ hpb hdb hform).mono ?_
           rintro e w' ⟨rfl, h6, h7⟩
           have hstep := formsI_step hx lk (d - 1)
           cases hb : (formI (.mk o1 n1 d1 m1 ks1) lk (d - 1)).1 with
           | true =>
             have h8 := formI_left _ _ _ hb
             exact Or.inl ⟨rfl, (formI (.mk o1 n1 d1 m1 ks1) lk (d - 1)).2, by rw [h1, hstep, if_pos hb], h8.1, by omega, h6, h5.trans h7⟩
           | false => exact Or.inr ⟨rfl, (formI (.mk o1 n1 d1 m1 ks1) lk (d - 1)).2, by rw [h1, hstep, hb]; rfl, h6, h5.trans h7⟩
         · rintro e w1 (⟨rfl, lk, h1, -, -, h4, h5⟩ | ⟨rfl, lk, h1, h4, h5⟩)
           · have H1 := Hi h1
             have H4 := Hi h4
             have H5 := Hi h5
             clear h1 h4 h5
             go_wp2_with fail
             go_ret
             rw [HRES.out, H1.out, List.drop_length, formsI]
             exact ⟨rfl, H4.out, HFM.out.eff.trans H5.out⟩
           · have H1 := Hi h1
             have H4 := Hi h4
             have H5 := Hi h5
             clear h1 h4 h5
             go_wp2_with fail
             go_ret
             rw [HRES.out, H1.out]
             exact ⟨rfl, H4.out, HFM.out.eff.trans H5.out⟩
       · have e1 : (ks.length : Int) < 2 := by omega
         have HRES : Hid (formI (.mk 6 name cm m ks) l d = (false, l - 1)) := Hi (by rw [formI, if_neg HREF.out]; rw [if_neg (by omega), if_neg (by omega)])
         go_wp2_with fail
         go_ret
         rw [HRES.out]
         exact ⟨rfl, HFM.out.left, HFM.out.eff⟩
     by_cases o7 : op = 7
     · subst o7
       by_cases hk : 2 ≤ ks.length
       · have e1 : ¬ (ks.length : Int) < 2 := by omega
         have HRES : Hid (formI (.mk 7 name cm m ks) l d = formsI ks (l - 1) (d - 1)) := Hi (by rw [formI, if_neg HREF.out]; rw [if_neg (by omega), if_pos (by omega)])
         go_wp2_with fail
         refine (co_f W0 ks A1 p1 98 _ _ (fun k wr => ∃ lk : Int, formsI ks (l - 1) (d - 1) = formsI (ks.drop k) lk (d - 1) ∧ 0 ≤ lk ∧ lk ≤ 1000000 ∧ IntB wr lb lk ∧ Eff lb wc wr) (fun wr => ∃ lk : Int, formsI ks (l - 1) (d - 1) = (false, lk) ∧ IntB wr lb lk ∧ Eff lb wc wr) HK.out (by omega) (enters Tryz.func98 (by kernel_rfl) rfl) (fun k wr ⟨lk, _, _, _, _, he⟩ => HB.out.trans ((HFM.out.eff.trans he).below hlb hwl)) ?_ ⟨l - 1, rfl, hl1, by omega, HFM.out.left, Eff.refl _ _⟩).mono ?_
         · intro k o1 n1 d1 m1 ks1 B1 q1 wr hx hrx ⟨lk, h1, h2, h3, h4, h5⟩
           have hkx := memI_size hx
           have hbw : Below W0.heap.size W0 wr := HB.out.trans ((HFM.out.eff.trans h5).below hlb hwl)
           have hpb := (h5.block _ (lHp HFM.out.lp) (by omega)).trans HFM.out.lp
           have hdb := HFM.out.dp.keep (h5.block _ HFM.out.dp.lt (by omega))
           have hform := IH.out (.mk o1 n1 d1 m1 ks1) _ lk (d - 1) lb (wr.alloc (.cells #[.int .i64 o1, vs n1, .int .i64 d1, .int .i64 m1, .slice B1 ks1.length q1] 24)) (by omega) (by omega) hd1 (by omega) h2 h3 (hrx) (hbw.alloc hbw.size _) hlb (h4.keep (Below.heap_alloc _ _ _ h4.lt))
           refine (clos_f o1 n1 d1 m1 ks1 B1 q1 _ _ lb d wr _ hd0 hd _ hpb hdb hform).mono ?_
           rintro e w' ⟨rfl, h6, h7⟩
           have hstep := formsI_step hx lk (d - 1)
           cases hb : (formI (.mk o1 n1 d1 m1 ks1) lk (d - 1)).1 with
           | true =>
             have h8 := formI_left _ _ _ hb
             exact Or.inl ⟨rfl, (formI (.mk o1 n1 d1 m1 ks1) lk (d - 1)).2, by rw [h1, hstep, if_pos hb], h8.1, by omega, h6, h5.trans h7⟩
           | false => exact Or.inr ⟨rfl, (formI (.mk o1 n1 d1 m1 ks1) lk (d - 1)).2, by rw [h1, hstep, hb]; rfl, h6, h5.trans h7⟩
         · rintro e w1 (⟨rfl, lk, h1, -, -, h4, h5⟩ | ⟨rfl, lk, h1, h4, h5⟩)
           · have H1 := Hi h1
             have H4 := Hi h4
             have H5 := Hi h5
             clear h1 h4 h5
             go_wp2_with fail
             go_ret
             rw [HRES.out, H1.out, List.drop_length, formsI]
             exact ⟨rfl, H4.out, HFM.out.eff.trans H5.out⟩
           · have H1 := Hi h1
             have H4 := Hi h4
             have H5 := Hi h5
             clear h1 h4 h5
             go_wp2_with fail
             go_ret
             rw [HRES.out, H1.out]
             exact ⟨rfl, H4.out, HFM.out.eff.trans H5.out⟩
       · have e1 : (ks.length : Int) < 2 := by omega
         have HRES : Hid (formI (.mk 7 name cm m ks) l d = (false, l - 1)) := Hi (by rw [formI, if_neg HREF.out]; rw [if_neg (by omega), if_neg (by omega)])
         go_wp2_with fail
         go_ret
         rw [HRES.out]
         exact ⟨rfl, HFM.out.left, HFM.out.eff⟩
     have n1 : (op == 1) = false := by simp; omega
     have n2 : (op == 2) = false := by simp; omega
     have n3 : (op == 3) = false := by simp; omega
     have n4 : (op == 4) = false := by simp; omega
     have n5 : (op == 5) = false := by simp; omega
     have n6 : (op == 6) = false := by simp; omega
     have n7 : (op == 7) = false := by simp; omega
     have HRES : Hid (formI (.mk op name cm m ks) l d = (false, l - 1)) := Hi (by rw [formI, if_neg HREF.out]; rw [if_neg o1, if_neg (by omega)])
     go_wp2_with fail
     go_ret
     rw [HRES.out]
     exact ⟨rfl, HFM.out.left, HFM.out.eff⟩
end Go.Proofs.YtbicmjmcdnkjhaaGreatDoor
set_option maxRecDepth 20000
set_option maxHeartbeats 8000000
namespace Go.Proofs.YtbicmjmcdnkjhaaGreatDoor
open Go.RowKit
theorem startsI_step {ks : List TreeI} {k : Nat} {x : TreeI} (hx : ks[k]? = some x) (l d : Int) : startsI (ks.drop k) l d = if (startI x l d).1 = true then startsI (ks.drop (k + 1)) (startI x l d).2 d else (false, (startI x l d).2) := by
 obtain ⟨h1, rfl⟩ := List.getElem?_eq_some_iff.1 hx
 rw [List.drop_eq_getElem_cons h1, startsI]
theorem clos_s (o1 : Int) (n1 : List UInt8) (d1 m1 : Int) (ks1 : List TreeI) (B1 : Option Addr) (q1 pb db lb : Nat) (d : Int) (wr : World) (r : Bool × Int) (hd0 : 0 ≤ d) (hd : d ≤ 1000) (Tp : TypeId) (hp : wr.heap[pb]? = some (.cells #[.pointer (some ⟨lb, 0, none⟩)] Tp (0, 0))) (hdb : IntB wr db d)
 (hform : Calls Tryz.prog 61 #[.agg #[.int .i64 o1, vs n1, .int .i64 m1, .slice B1 ks1.length q1], .pointer (some ⟨lb, 0, none⟩), .int .i64 (d - 1)] (wr.alloc (.cells #[.int .i64 o1, vs n1, .int .i64 m1, .slice B1 ks1.length q1] 28)) (FormPost (wr.alloc (.cells #[.int .i64 o1, vs n1, .int .i64 m1, .slice B1 ks1.length q1] 28)) lb r)) :
 Calls Tryz.prog 100 #[.agg #[.int .i64 o1, vs n1, .int .i64 m1, .slice B1 ks1.length q1], .pointer (some ⟨pb, 0, none⟩), .pointer (some ⟨db, 0, none⟩)] wr fun e w' => e = .returned (.bool (!r.1)) ∧ IntB w' lb r.2 ∧ Eff lb wr w' := by
 have z1 : wr.cell? ⟨pb, 0, none⟩ = some (.pointer (some ⟨lb, 0, none⟩)) := cOb (o := 0) hp rfl
 obtain ⟨z2, -⟩ := hdb.cell
 have y1 := lHp hp
 have y2 := hdb.lt
 have HF := Hi hform
 obtain ⟨r1, r2⟩ := r
 clear hform hp hdb
 go_enter Tryz.func100, Tryz.ntmps100
 go_wp2_with fail
 refine HF.out.mono ?_
 rintro e w1 ⟨rfl, h1, h2⟩
 have H1 := Hi h1
 have H2 := Hi h2
 clear h1 h2
 go_wp2_with fail
 go_ret
 exact ⟨rfl, H1.out, (Eff.of_below ((Below.refl _ _).alloc (lR _) _)).trans H2.out⟩
theorem strt_any (W0 : World) : ∀ (N : Nat) (t : TreeI) (cs : List Value) (l d : Int) (lb : Nat) (w : World), t.size ≤ N → t.size ≤ 1000000 → 0 ≤ d → d ≤ 1000 → 0 ≤ l → l ≤ 1000000 → RdX false W0 cs t → Below W0.heap.size W0 w → W0.heap.size ≤ lb → IntB w lb l →
 Calls Tryz.prog 61 #[.agg cs.toArray, .pointer (some ⟨lb, 0, none⟩), .int .i64 d] w (FormPost w lb (startI t l d)) := by
 intro N
 induction N with
 | zero =>
   intro t cs l d lb w hN
   have := sizeI_pos t
   omega
 | succ N ih =>
   intro t cs l d lb w hN hsz hd0 hd hl0 hl hr hb hlb hi
   have IH := Hi ih
   have HI := Hi hi
   have HB := Hi hb
   obtain ⟨op, name, cm, m, ks⟩ := t
   obtain ⟨A1, p1, rfl, -, hk1⟩ := hr
   have HK := Hi hk1
   have hwl := hb.size
   have hlbl := hi.lt
   have hkn : ks.length ≤ sizesI ks := kidsI_le ks
   simp only [TreeI.size] at hN hsz
   simp only [tcX]
   obtain ⟨c0, f0⟩ := hi.cell
   have hlb1 : lb < w.heap.size + 1 := by omega
   have hlb2 : lb < w.heap.size + 1 + 1 := by omega
   have hmf : ∀ (fn : Fn) (first cap : Array Value) (w : World), (Instr.makeFunc fn first cap).run Tryz.prog w = .ok (.func fn first cap) w := fun _ _ _ _ => rfl
   have HF : Hid (FmW 28 97 w ((((w.setCell ⟨lb, 0, none⟩ (.int .i64 (l - 1))).alloc (.cells #[.int .i64 op, vs name, .int .i64 m, .slice A1 ks.length p1] 28)).alloc (.cells #[.pointer (some ⟨lb, 0, none⟩)] 97)).alloc (.cells #[.int .i64 d] 3)) lb (l - 1) d #[.int .i64 op, vs name, .int .i64 m, .slice A1 ks.length p1]) := Hi (FmW.mk' hi)
   clear ih hk1 hi hb
   go_enter Tryz.func61, Tryz.ntmps61
   go_upto_region 2 with fail
   go_cut [3, 4, 5, 6, 7] from 0 (fun s3 s4 s5 s6 s7 wc => s3 = .pointer (some ⟨w.heap.size, 0, none⟩) ∧ s4 = .pointer (some ⟨w.heap.size + 1, 0, none⟩) ∧ s5 = .pointer (some ⟨w.heap.size + 1 + 1, 0, none⟩) ∧ s6 = .bool false ∧ s7 = .bool ((decide (4 ≤ op) && decide (op ≤ 7))) ∧ FmW 28 97 w wc lb (l - 1) d #[.int .i64 op, vs name, .int .i64 m, .slice A1 ks.length p1])
   case first =>
    go_wp2_with fail
    all_goals
     go_meet
     case rel =>
      (try subst_vars)
      refine ⟨rfl, rfl, rfl, rfl, ?_, HF.out⟩
      refine congrArg Value.bool ?_
      rw [Bool.eq_iff_iff]
      simp [testI]
      try omega
   case rest =>
    obtain ⟨rfl, rfl, rfl, rfl, rfl, hfm⟩ := hcut
    obtain ⟨ts, hts⟩ : ∃ ts, ((decide (4 ≤ op) && decide (op ≤ 7))) = ts := ⟨_, rfl⟩
    rw [hts]
    have HTS := Hi hts
    clear hts HF c0 f0 hlb1 hlb2
    obtain ⟨hbx, hlp, hdp, hlf, hef⟩ := hfm
    have HFM := Hi (FmW.mk hbx hlp hdp hlf hef)
    have z0 : wc.cell? ⟨w.heap.size, 0, none⟩ = some (.int .i64 op) := cOb (o := 0) hbx rfl
    have z1 : wc.cell? ⟨w.heap.size, 1, none⟩ = some (vs name) := cOb (o := 1) hbx rfl
    have z2 : wc.cell? ⟨w.heap.size, 2, none⟩ = some (.int .i64 m) := cOb (o := 2) hbx rfl
    have z3 : wc.cell? ⟨w.heap.size, 3, none⟩ = some (.slice A1 ks.length p1) := cOb (o := 3) hbx rfl
    have za : wc.cell? ⟨w.heap.size + 1, 0, none⟩ = some (.pointer (some ⟨lb, 0, none⟩)) := cOb (o := 0) hlp rfl
    obtain ⟨zb, -⟩ := hdp.cell
    obtain ⟨zc, -⟩ := hlf.cell
    have y0 := lHp hbx
    have y1 := lHp hlp
    have y2 := hdp.lt
    have y3 := hlf.lt
    clear hbx hlp hdp hlf hef
    go_upto_region 3 with fail
    go_cut [3, 4, 5, 6, 57] from 0 (fun s3 s4 s5 s6 s78 wd => wc = wd ∧ s3 = .pointer (some ⟨w.heap.size, 0, none⟩) ∧ s4 = .pointer (some ⟨w.heap.size + 1, 0, none⟩) ∧ s5 = .pointer (some ⟨w.heap.size + 1 + 1, 0, none⟩) ∧ s6 = .bool false ∧ s78 = .bool (decide (l - 1 < 0 ∨ d = 0 ∨ refS op name m = true)))
    case first =>
     go_wp2_with fail
     all_goals
      go_meet
      case rel =>
       have hts := HTS.out
       refine ⟨rfl, rfl, rfl, rfl, rfl, ?_⟩
       refine congrArg Value.bool ?_
       rw [Bool.eq_iff_iff, decide_eq_true_eq]
       unfold refS
       rw [hts]
       clear hts
       try subst_vars
       first | (simp [*]; done) | (simp [*]; omega) | (simp; omega) | omega
    case rest =>
     obtain ⟨rfl, rfl, rfl, rfl, rfl, rfl⟩ := hcut
     by_cases href : l - 1 < 0 ∨ d = 0 ∨ refS op name m = true
     · rw [decide_eq_true href]
       have HRES : Hid (startI (.mk op name cm m ks) l d = (false, l - 1)) := Hi (by rw [startI, if_pos href])
       clear href
       go_wp2_with fail
       go_ret
       rw [HRES.out]
       exact ⟨rfl, HFM.out.left, HFM.out.eff⟩
     rw [decide_eq_false href]
     have HREF := Hi href
     have hl1 : 0 ≤ l - 1 := by omega
     have hd1 : 0 ≤ d - 1 := by omega
     clear href
     by_cases o8 : op = 8
     · subst o8
       by_cases hk : 2 ≤ ks.length
       · have e1 : (2 : Int) ≤ (ks.length : Int) := by omega
         have HRES : Hid (startI (.mk 8 name cm m ks) l d = startsI ks (l - 1) (d - 1)) := Hi (by rw [startI, if_neg HREF.out]; rw [if_pos (by omega), if_pos hk])
         go_wp2_with fail
         refine (co_s W0 ks A1 p1 100 _ _ (fun k wr => ∃ lk : Int, startsI ks (l - 1) (d - 1) = startsI (ks.drop k) lk (d - 1) ∧ 0 ≤ lk ∧ lk ≤ 1000000 ∧ IntB wr lb lk ∧ Eff lb wc wr) (fun wr => ∃ lk : Int, startsI ks (l - 1) (d - 1) = (false, lk) ∧ IntB wr lb lk ∧ Eff lb wc wr) HK.out (by omega) (enters Tryz.func100 (by kernel_rfl) rfl) (fun k wr ⟨lk, _, _, _, _, he⟩ => HB.out.trans ((HFM.out.eff.trans he).below hlb hwl)) ?_ ⟨l - 1, rfl, hl1, by omega, HFM.out.left, Eff.refl _ _⟩).mono ?_
         · intro k o1 n1 d1 m1 ks1 B1 q1 wr hx hrx ⟨lk, h1, h2, h3, h4, h5⟩
           have hkx := memI_size hx
           have hbw : Below W0.heap.size W0 wr := HB.out.trans ((HFM.out.eff.trans h5).below hlb hwl)
           have hpb := (h5.block _ (lHp HFM.out.lp) (by omega)).trans HFM.out.lp
           have hdb := HFM.out.dp.keep (h5.block _ HFM.out.dp.lt (by omega))
           have hform := IH.out (.mk o1 n1 d1 m1 ks1) _ lk (d - 1) lb (wr.alloc (.cells #[.int .i64 o1, vs n1, .int .i64 m1, .slice B1 ks1.length q1] 28)) (by omega) (by omega) hd1 (by omega) h2 h3 (hrx) (hbw.alloc hbw.size _) hlb (h4.keep (Below.heap_alloc _ _ _ h4.lt))
           refine (clos_s o1 n1 d1 m1 ks1 B1 q1 _ _ lb d wr _ hd0 hd _ hpb hdb hform).mono ?_
           rintro e w' ⟨rfl, h6, h7⟩
           have hstep := startsI_step hx lk (d - 1)
           cases hb : (startI (.mk o1 n1 d1 m1 ks1) lk (d - 1)).1 with
           | true =>
             have h8 := startI_left _ _ _ hb
             exact Or.inl ⟨rfl, (startI (.mk o1 n1 d1 m1 ks1) lk (d - 1)).2, by rw [h1, hstep, if_pos hb], h8.1, by omega, h6, h5.trans h7⟩
           | false => exact Or.inr ⟨rfl, (startI (.mk o1 n1 d1 m1 ks1) lk (d - 1)).2, by rw [h1, hstep, hb]; rfl, h6, h5.trans h7⟩
         · rintro e w1 (⟨rfl, lk, h1, -, -, h4, h5⟩ | ⟨rfl, lk, h1, h4, h5⟩)
           · have H1 := Hi h1
             have H4 := Hi h4
             have H5 := Hi h5
             clear h1 h4 h5
             go_wp2_with fail
             go_ret
             rw [HRES.out, H1.out, List.drop_length, startsI]
             exact ⟨rfl, H4.out, HFM.out.eff.trans H5.out⟩
           · have H1 := Hi h1
             have H4 := Hi h4
             have H5 := Hi h5
             clear h1 h4 h5
             go_wp2_with fail
             go_ret
             rw [HRES.out, H1.out]
             exact ⟨rfl, H4.out, HFM.out.eff.trans H5.out⟩
       · have e1 : ¬ (2 : Int) ≤ (ks.length : Int) := by omega
         have e2 : decide ((2 : Int) ≤ (ks.length : Int)) = false := decide_eq_false e1
         have HRES : Hid (startI (.mk 8 name cm m ks) l d = (false, l - 1)) := Hi (by rw [startI, if_neg HREF.out]; rw [if_pos (by omega), if_neg hk])
         go_wp2_with fail
         go_ret
         rw [HRES.out]
         exact ⟨rfl, HFM.out.left, HFM.out.eff⟩
     by_cases o9 : op = 9
     · subst o9
       by_cases hk : 2 ≤ ks.length
       · have e1 : (2 : Int) ≤ (ks.length : Int) := by omega
         have HRES : Hid (startI (.mk 9 name cm m ks) l d = startsI ks (l - 1) (d - 1)) := Hi (by rw [startI, if_neg HREF.out]; rw [if_pos (by omega), if_pos hk])
         go_wp2_with fail
         refine (co_s W0 ks A1 p1 100 _ _ (fun k wr => ∃ lk : Int, startsI ks (l - 1) (d - 1) = startsI (ks.drop k) lk (d - 1) ∧ 0 ≤ lk ∧ lk ≤ 1000000 ∧ IntB wr lb lk ∧ Eff lb wc wr) (fun wr => ∃ lk : Int, startsI ks (l - 1) (d - 1) = (false, lk) ∧ IntB wr lb lk ∧ Eff lb wc wr) HK.out (by omega) (enters Tryz.func100 (by kernel_rfl) rfl) (fun k wr ⟨lk, _, _, _, _, he⟩ => HB.out.trans ((HFM.out.eff.trans he).below hlb hwl)) ?_ ⟨l - 1, rfl, hl1, by omega, HFM.out.left, Eff.refl _ _⟩).mono ?_
         · intro k o1 n1 d1 m1 ks1 B1 q1 wr hx hrx ⟨lk, h1, h2, h3, h4, h5⟩
           have hkx := memI_size hx
           have hbw : Below W0.heap.size W0 wr := HB.out.trans ((HFM.out.eff.trans h5).below hlb hwl)
           have hpb := (h5.block _ (lHp HFM.out.lp) (by omega)).trans HFM.out.lp
           have hdb := HFM.out.dp.keep (h5.block _ HFM.out.dp.lt (by omega))
           have hform := IH.out (.mk o1 n1 d1 m1 ks1) _ lk (d - 1) lb (wr.alloc (.cells #[.int .i64 o1, vs n1, .int .i64 m1, .slice B1 ks1.length q1] 28)) (by omega) (by omega) hd1 (by omega) h2 h3 (hrx) (hbw.alloc hbw.size _) hlb (h4.keep (Below.heap_alloc _ _ _ h4.lt))
           refine (clos_s o1 n1 d1 m1 ks1 B1 q1 _ _ lb d wr _ hd0 hd _ hpb hdb hform).mono ?_
           rintro e w' ⟨rfl, h6, h7⟩
           have hstep := startsI_step hx lk (d - 1)
           cases hb : (startI (.mk o1 n1 d1 m1 ks1) lk (d - 1)).1 with
           | true =>
             have h8 := startI_left _ _ _ hb
             exact Or.inl ⟨rfl, (startI (.mk o1 n1 d1 m1 ks1) lk (d - 1)).2, by rw [h1, hstep, if_pos hb], h8.1, by omega, h6, h5.trans h7⟩
           | false => exact Or.inr ⟨rfl, (startI (.mk o1 n1 d1 m1 ks1) lk (d - 1)).2, by rw [h1, hstep, hb]; rfl, h6, h5.trans h7⟩
         · rintro e w1 (⟨rfl, lk, h1, -, -, h4, h5⟩ | ⟨rfl, lk, h1, h4, h5⟩)
           · have H1 := Hi h1
             have H4 := Hi h4
             have H5 := Hi h5
             clear h1 h4 h5
             go_wp2_with fail
             go_ret
             rw [HRES.out, H1.out, List.drop_length, startsI]
             exact ⟨rfl, H4.out, HFM.out.eff.trans H5.out⟩
           · have H1 := Hi h1
             have H4 := Hi h4
             have H5 := Hi h5
             clear h1 h4 h5
             go_wp2_with fail
             go_ret
             rw [HRES.out, H1.out]
             exact ⟨rfl, H4.out, HFM.out.eff.trans H5.out⟩
       · have e1 : ¬ (2 : Int) ≤ (ks.length : Int) := by omega
         have e2 : decide ((2 : Int) ≤ (ks.length : Int)) = false := decide_eq_false e1
         have HRES : Hid (startI (.mk 9 name cm m ks) l d = (false, l - 1)) := Hi (by rw [startI, if_neg HREF.out]; rw [if_pos (by omega), if_neg hk])
         go_wp2_with fail
         go_ret
         rw [HRES.out]
         exact ⟨rfl, HFM.out.left, HFM.out.eff⟩
     have n8 : (op == 8) = false := by simp; omega
     have n9 : (op == 9) = false := by simp; omega
     have o89 : ¬ (op = 8 ∨ op = 9) := by omega
     by_cases h1 : 1 ≤ op
     · by_cases h7 : op ≤ 7
       · have HRES : Hid (startI (.mk op name cm m ks) l d = (decide (ks.length = 0), l - 1)) := Hi (by rw [startI, if_neg HREF.out, if_neg o89, if_pos ⟨h1, h7⟩])
         clear o8 o9 o89
         go_wp2_with fail
         go_ret
         rw [HRES.out]
         refine ⟨?_, HFM.out.left, HFM.out.eff⟩
         refine congrArg (fun b => Ending.returned (.bool b)) ?_
         rw [Bool.eq_iff_iff]
         simp
       · have HRES : Hid (startI (.mk op name cm m ks) l d = (false, l - 1)) := Hi (by rw [startI, if_neg HREF.out, if_neg o89, if_neg (by omega)])
         have e7 : decide (op ≤ 7) = false := decide_eq_false h7
         clear o8 o9 o89
         go_wp2_with fail
         go_ret
         rw [HRES.out]
         exact ⟨rfl, HFM.out.left, HFM.out.eff⟩
     · have HRES : Hid (startI (.mk op name cm m ks) l d = (false, l - 1)) := Hi (by rw [startI, if_neg HREF.out, if_neg o89, if_neg (by omega)])
       have e1 : decide (1 ≤ op) = false := decide_eq_false h1
       clear o8 o9 o89
       go_wp2_with fail
       go_ret
       rw [HRES.out]
       exact ⟨rfl, HFM.out.left, HFM.out.eff⟩
end Go.Proofs.YtbicmjmcdnkjhaaGreatDoor
