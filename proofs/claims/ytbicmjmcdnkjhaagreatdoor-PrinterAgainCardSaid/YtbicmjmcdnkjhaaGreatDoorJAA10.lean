/- printer.start: are the nodes of a condition as required? printer.writt. -/
import Derived.Test.YtbicmjmcdnkjhaaGreatDoorJAA9
import Derived.Deep.OwnRows
set_option linter.unusedVariables false
set_option linter.unusedSimpArgs false
set_option maxRecDepth 20000
set_option maxHeartbeats 8000000
namespace Go.Proofs.YtbicmjmcdnkjhaaGreatDoor
section
open Go.RowKit
theorem Hq {ks : List TreeI} {k : Nat} {x : TreeI} (hx : ks[k]? = some x) (l d : Int) : Jr (ks.drop k) l d = if (Q0 x l d).1 = true then Jr (ks.drop (k + 1)) (Q0 x l d).2 d else (false, (Q0 x l d).2) := by
 obtain ⟨h1, rfl⟩ := List.getElem?_eq_some_iff.1 hx; rw [List.drop_eq_getElem_cons h1, Jr]
theorem qg3 (o1 : Int) (n1 : List UInt8) (d1 m1 : Int) (aD : List TreeI) (B1 : Option Addr) (q1 pb db lb : Nat) (d : Int) (wr : World) (r : Bool × Int) (dS : 0 <= d) (hd : d <= 1000) (Tp : TypeId) (hp : wr.heap[pb]? = some (.cells #[.pointer (some ⟨lb, 0, none⟩)] Tp (0, 0))) (bH : Kq wr db d)
 (aE : Calls Tryz.prog 61 #[.agg #[.int .i64 o1, vs n1, .int .i64 m1, .slice B1 aD.length q1], .pointer (some ⟨lb, 0, none⟩), .int .i64 (d - 1)] (wr.alloc (.cells #[.int .i64 o1, vs n1, .int .i64 m1, .slice B1 aD.length q1] 28)) (Ro (wr.alloc (.cells #[.int .i64 o1, vs n1, .int .i64 m1, .slice B1 aD.length q1] 28)) lb r)) :
 Calls Tryz.prog 100 #[.agg #[.int .i64 o1, vs n1, .int .i64 m1, .slice B1 aD.length q1], .pointer (some ⟨pb, 0, none⟩), .pointer (some ⟨db, 0, none⟩)] wr fun e w' => e = .returned (.bool (!r.1)) /\ Kq w' lb r.2 /\ Eff lb wr w' := by
 have z1 := cOb (o := 0) hp rfl; obtain ⟨z2, -⟩ := bH.cell; have y1 := lHp hp; have y2 := bH.lt; have HF := Hi aE; obtain ⟨r1, r2⟩ := r; clear aE hp bH; go_enter Tryz.func100, Tryz.ntmps100
 go_wp2_with fail; refine HF.out.mono ?_; rintro e w1 ⟨rfl, h1, h2⟩; have H1 := Hi h1; have H2 := Hi h2; clear h1 h2; go_wp2_with fail; go_ret; exact ⟨rfl, H1.out, (Eff.of_below ((Below.refl _ _).alloc (lR _) _)).trans H2.out⟩
theorem qez (W0 : World) : ∀ (N : Nat) (t : TreeI) (cs : List Value) (l d : Int) (lb : Nat) (w : World), t.size <= N -> t.size <= 1000000 -> 0 <= d -> d <= 1000 -> 0 <= l -> l <= 1000000 -> RdX false W0 cs t -> Below W0.heap.size W0 w -> W0.heap.size <= lb -> Kq w lb l ->
 Calls Tryz.prog 61 #[.agg cs.toArray, .pointer (some ⟨lb, 0, none⟩), .int .i64 d] w (Ro w lb (Q0 t l d)) := by
 intro N
 induction N with
 | zero =>
   intro t cs l d lb w hN; have := Rs t; omega
 | succ N ih =>
   intro t cs l d lb w hN dE dS hd hU hl hr hb bQ hi; have IH := Hi ih; have HI := Hi hi; have HB := Hi hb; obtain ⟨op, name, cm, m, ks⟩ := t; obtain ⟨A1, p1, rfl, -, cR⟩ := hr; have HK := Hi cR; have bE := hb.size; have gF := hi.lt; have hV : ks.length <= Kb ks := Og ks; simp only [TreeI.size] at hN dE; simp only [tcX]; obtain ⟨c0, f0⟩ := hi.cell; have dM : lb < w.heap.size + 1 := by omega
   have dL : lb < w.heap.size + 1 + 1 := by omega
   have hT : ∀ (fn : Fn) (first cap : Array Value) (w : World), (Instr.makeFunc fn first cap).run Tryz.prog w = .ok (.func fn first cap) w := fun _ _ _ _ => rfl; have HF : Hid (FmW 28 97 w ((((w.setCell ⟨lb, 0, none⟩ (.int .i64 (l - 1))).alloc (.cells #[.int .i64 op, vs name, .int .i64 m, .slice A1 ks.length p1] 28)).alloc (.cells #[.pointer (some ⟨lb, 0, none⟩)] 97)).alloc (.cells #[.int .i64 d] 3)) lb (l - 1) d #[.int .i64 op, vs name, .int .i64 m, .slice A1 ks.length p1]) := Hi (FmW.mk' hi); clear ih cR hi hb; go_enter Tryz.func61, Tryz.ntmps61
   go_upto_region 2 with fail; go_cut [3, 4, 5, 6, 7] from 0 (fun s3 s4 s5 s6 s7 wc => s3 = .pointer (some ⟨w.heap.size, 0, none⟩) /\ s4 = .pointer (some ⟨w.heap.size + 1, 0, none⟩) /\ s5 = .pointer (some ⟨w.heap.size + 1 + 1, 0, none⟩) /\ s6 = .bool false /\ s7 = .bool ((decide (4 <= op) && decide (op <= 7))) /\ FmW 28 97 w wc lb (l - 1) d #[.int .i64 op, vs name, .int .i64 m, .slice A1 ks.length p1])
   case first =>
    go_wp2_with fail
    all_goals
     go_meet
     case rel =>
      (try subst_vars)
      refine ⟨rfl, rfl, rfl, rfl, ?_, HF.out⟩; refine congrArg Value.bool ?_; rw [Bool.eq_iff_iff]; simp [Lm]
      try omega
   case rest =>
    obtain ⟨rfl, rfl, rfl, rfl, rfl, gL⟩ := hcut; obtain ⟨ts, bF⟩ : ∃ ts, ((decide (4 <= op) && decide (op <= 7))) = ts := ⟨_, rfl⟩
    rw [bF]; have gR := Hi bF; clear bF HF c0 f0 dM dL; obtain ⟨aH, cN, cT, cO, eO⟩ := gL; have aC := Hi (FmW.mk aH cN cT cO eO); have z0 := cOb (o := 0) aH rfl; have z1 := cOb (o := 1) aH rfl; have z2 := cOb (o := 2) aH rfl; have z3 := cOb (o := 3) aH rfl; have za := cOb (o := 0) cN rfl; obtain ⟨zb, -⟩ := cT.cell; obtain ⟨zc, -⟩ := cO.cell; have y0 := lHp aH; have y1 := lHp cN; have y2 := cT.lt; have y3 := cO.lt; clear aH cN cT cO eO; go_upto_region 3 with fail; go_cut [3, 4, 5, 6, 57] from 0 (fun s3 s4 s5 s6 fI wd => wc = wd /\ s3 = .pointer (some ⟨w.heap.size, 0, none⟩) /\ s4 = .pointer (some ⟨w.heap.size + 1, 0, none⟩) /\ s5 = .pointer (some ⟨w.heap.size + 1 + 1, 0, none⟩) /\ s6 = .bool false /\ fI = .bool (decide (l - 1 < 0 \/ d = 0 \/ Nv op name m = true)))
    case first =>
     go_wp2_with fail
     all_goals
      go_meet
      case rel =>
       have bF := gR.out; refine ⟨rfl, rfl, rfl, rfl, rfl, ?_⟩; refine congrArg Value.bool ?_; rw [Bool.eq_iff_iff, decide_eq_true_eq]; unfold Nv; rw [bF]; clear bF
       try subst_vars
       first | (simp [*]; done) | (simp [*]; omega) | (simp; omega) | omega
    case rest =>
     obtain ⟨rfl, rfl, rfl, rfl, rfl, rfl⟩ := hcut
     by_cases aN : l - 1 < 0 \/ d = 0 \/ Nv op name m = true
     · rw [decide_eq_true aN]; have aA : Hid (Q0 (.mk op name cm m ks) l d = (false, l - 1)) := Hi (by rw [Q0, if_pos aN]); clear aN; go_wp2_with fail; go_ret; rw [aA.out]; exact ⟨rfl, aC.out.left, aC.out.eff⟩
     rw [decide_eq_false aN]; have aK := Hi aN; have eM : 0 <= l - 1 := (by omega)
     have eP : 0 <= d - 1 := (by omega)
     clear aN
     by_cases o8 : op = 8
     · subst o8
       by_cases hk : 2 <= ks.length
       · have e1 : (2 : Int) <= (ks.length : Int) := by omega
         have aA : Hid (Q0 (.mk 8 name cm m ks) l d = Jr ks (l - 1) (d - 1)) := Hi (by rw [Q0, if_neg aK.out]; rw [if_pos (by omega), if_pos hk]); go_wp2_with fail; refine (co_s W0 ks A1 p1 100 _ _ (fun k wr => ∃ lk : Int, Jr ks (l - 1) (d - 1) = Jr (ks.drop k) lk (d - 1) /\ 0 <= lk /\ lk <= 1000000 /\ Kq wr lb lk /\ Eff lb wc wr) (fun wr => ∃ lk : Int, Jr ks (l - 1) (d - 1) = (false, lk) /\ Kq wr lb lk /\ Eff lb wc wr) HK.out (by omega) (W5 Tryz.func100 (by kernel_rfl) rfl) (fun k wr ⟨lk, _, _, _, _, he⟩ => HB.out.trans ((aC.out.eff.trans he).below bQ bE)) ?_ ⟨l - 1, rfl, eM, by omega, aC.out.left, Eff.refl _ _⟩).mono ?_
         · intro k o1 n1 d1 m1 aD B1 q1 wr hx bP ⟨lk, h1, h2, h3, h4, h5⟩; have gG := K0 hx; have bY : Below W0.heap.size W0 wr := HB.out.trans ((aC.out.eff.trans h5).below bQ bE); have dI := (h5.block _ (lHp aC.out.lp) (by omega)).trans aC.out.lp; have bH := aC.out.dp.keep (h5.block _ aC.out.dp.lt (by omega)); have aE := IH.out (.mk o1 n1 d1 m1 aD) _ lk (d - 1) lb (wr.alloc (.cells #[.int .i64 o1, vs n1, .int .i64 m1, .slice B1 aD.length q1] 28)) (by omega) (by omega) eP (by omega) h2 h3 (bP) (bY.alloc bY.size _) bQ (h4.keep (Below.heap_alloc _ _ _ h4.lt)); refine (qg3 o1 n1 d1 m1 aD B1 q1 _ _ lb d wr _ dS hd _ dI bH aE).mono ?_; rintro e w' ⟨rfl, h6, h7⟩; have aG := Hq hx lk (d - 1); cases hb : (Q0 (.mk o1 n1 d1 m1 aD) lk (d - 1)).1 with
           | true =>
             have h8 := Iw _ _ _ hb; exact Or.inl ⟨rfl, (Q0 (.mk o1 n1 d1 m1 aD) lk (d - 1)).2, by rw [h1, aG, if_pos hb], h8.1, by omega, h6, h5.trans h7⟩
           | false => exact Or.inr ⟨rfl, (Q0 (.mk o1 n1 d1 m1 aD) lk (d - 1)).2, by rw [h1, aG, hb]; rfl, h6, h5.trans h7⟩
         · rintro e w1 (⟨rfl, lk, h1, -, -, h4, h5⟩ | ⟨rfl, lk, h1, h4, h5⟩)
           · have H1 := Hi h1; have H4 := Hi h4; have H5 := Hi h5; clear h1 h4 h5; go_wp2_with fail; go_ret; rw [aA.out, H1.out, List.drop_length, Jr]; exact ⟨rfl, H4.out, aC.out.eff.trans H5.out⟩
           · have H1 := Hi h1; have H4 := Hi h4; have H5 := Hi h5; clear h1 h4 h5; go_wp2_with fail; go_ret; rw [aA.out, H1.out]; exact ⟨rfl, H4.out, aC.out.eff.trans H5.out⟩
       · have e1 : ¬ (2 : Int) <= (ks.length : Int) := by omega
         have e2 : decide ((2 : Int) <= (ks.length : Int)) = false := decide_eq_false e1; have aA : Hid (Q0 (.mk 8 name cm m ks) l d = (false, l - 1)) := Hi (by rw [Q0, if_neg aK.out]; rw [if_pos (by omega), if_neg hk]); go_wp2_with fail; go_ret; rw [aA.out]; exact ⟨rfl, aC.out.left, aC.out.eff⟩
     by_cases o9 : op = 9
     · subst o9
       by_cases hk : 2 <= ks.length
       · have e1 : (2 : Int) <= (ks.length : Int) := by omega
         have aA : Hid (Q0 (.mk 9 name cm m ks) l d = Jr ks (l - 1) (d - 1)) := Hi (by rw [Q0, if_neg aK.out]; rw [if_pos (by omega), if_pos hk]); go_wp2_with fail; refine (co_s W0 ks A1 p1 100 _ _ (fun k wr => ∃ lk : Int, Jr ks (l - 1) (d - 1) = Jr (ks.drop k) lk (d - 1) /\ 0 <= lk /\ lk <= 1000000 /\ Kq wr lb lk /\ Eff lb wc wr) (fun wr => ∃ lk : Int, Jr ks (l - 1) (d - 1) = (false, lk) /\ Kq wr lb lk /\ Eff lb wc wr) HK.out (by omega) (W5 Tryz.func100 (by kernel_rfl) rfl) (fun k wr ⟨lk, _, _, _, _, he⟩ => HB.out.trans ((aC.out.eff.trans he).below bQ bE)) ?_ ⟨l - 1, rfl, eM, by omega, aC.out.left, Eff.refl _ _⟩).mono ?_
         · intro k o1 n1 d1 m1 aD B1 q1 wr hx bP ⟨lk, h1, h2, h3, h4, h5⟩; have gG := K0 hx; have bY : Below W0.heap.size W0 wr := HB.out.trans ((aC.out.eff.trans h5).below bQ bE); have dI := (h5.block _ (lHp aC.out.lp) (by omega)).trans aC.out.lp; have bH := aC.out.dp.keep (h5.block _ aC.out.dp.lt (by omega)); have aE := IH.out (.mk o1 n1 d1 m1 aD) _ lk (d - 1) lb (wr.alloc (.cells #[.int .i64 o1, vs n1, .int .i64 m1, .slice B1 aD.length q1] 28)) (by omega) (by omega) eP (by omega) h2 h3 (bP) (bY.alloc bY.size _) bQ (h4.keep (Below.heap_alloc _ _ _ h4.lt)); refine (qg3 o1 n1 d1 m1 aD B1 q1 _ _ lb d wr _ dS hd _ dI bH aE).mono ?_; rintro e w' ⟨rfl, h6, h7⟩; have aG := Hq hx lk (d - 1); cases hb : (Q0 (.mk o1 n1 d1 m1 aD) lk (d - 1)).1 with
           | true =>
             have h8 := Iw _ _ _ hb; exact Or.inl ⟨rfl, (Q0 (.mk o1 n1 d1 m1 aD) lk (d - 1)).2, by rw [h1, aG, if_pos hb], h8.1, by omega, h6, h5.trans h7⟩
           | false => exact Or.inr ⟨rfl, (Q0 (.mk o1 n1 d1 m1 aD) lk (d - 1)).2, by rw [h1, aG, hb]; rfl, h6, h5.trans h7⟩
         · rintro e w1 (⟨rfl, lk, h1, -, -, h4, h5⟩ | ⟨rfl, lk, h1, h4, h5⟩)
           · have H1 := Hi h1; have H4 := Hi h4; have H5 := Hi h5; clear h1 h4 h5; go_wp2_with fail; go_ret; rw [aA.out, H1.out, List.drop_length, Jr]; exact ⟨rfl, H4.out, aC.out.eff.trans H5.out⟩
           · have H1 := Hi h1; have H4 := Hi h4; have H5 := Hi h5; clear h1 h4 h5; go_wp2_with fail; go_ret; rw [aA.out, H1.out]; exact ⟨rfl, H4.out, aC.out.eff.trans H5.out⟩
       · have e1 : ¬ (2 : Int) <= (ks.length : Int) := by omega
         have e2 : decide ((2 : Int) <= (ks.length : Int)) = false := decide_eq_false e1; have aA : Hid (Q0 (.mk 9 name cm m ks) l d = (false, l - 1)) := Hi (by rw [Q0, if_neg aK.out]; rw [if_pos (by omega), if_neg hk]); go_wp2_with fail; go_ret; rw [aA.out]; exact ⟨rfl, aC.out.left, aC.out.eff⟩
     have n8 : (op == 8) = false := by simp; omega
     have n9 : (op == 9) = false := by simp; omega
     have bM : ¬ (op = 8 \/ op = 9) := (by omega)
     by_cases h1 : 1 <= op
     · by_cases h7 : op <= 7
       · have aA : Hid (Q0 (.mk op name cm m ks) l d = (decide (ks.length = 0), l - 1)) := Hi (by rw [Q0, if_neg aK.out, if_neg bM, if_pos ⟨h1, h7⟩]); clear o8 o9 bM; go_wp2_with fail; go_ret; rw [aA.out]; refine ⟨?_, aC.out.left, aC.out.eff⟩; refine congrArg (fun b => Ending.returned (.bool b)) ?_; rw [Bool.eq_iff_iff]; simp
       · have aA : Hid (Q0 (.mk op name cm m ks) l d = (false, l - 1)) := Hi (by rw [Q0, if_neg aK.out, if_neg bM, if_neg (by omega)]); have e7 : decide (op <= 7) = false := decide_eq_false h7; clear o8 o9 bM; go_wp2_with fail; go_ret; rw [aA.out]; exact ⟨rfl, aC.out.left, aC.out.eff⟩
     · have aA : Hid (Q0 (.mk op name cm m ks) l d = (false, l - 1)) := Hi (by rw [Q0, if_neg aK.out, if_neg bM, if_neg (by omega)]); have e1 : decide (1 <= op) = false := decide_eq_false h1; clear o8 o9 bM; go_wp2_with fail; go_ret; rw [aA.out]; exact ⟨rfl, aC.out.left, aC.out.eff⟩
end
set_option maxRecDepth 20000
set_option maxHeartbeats 8000000
section
open Go.RowKit
open Go.ChangeMaps (setBlock)
def Vb (l : List TreeI) : Bool := l.all fun t => (Q0 t 200 20).1
theorem Nu {l : List TreeI} {k : Nat} {t : TreeI} (h : l[k]? = some t) : Vb (l.take (k + 1)) = (Vb (l.take k) && (Q0 t 200 20).1) := by
 unfold Vb; rw [List.take_add_one, h, Option.toList_some, List.all_append]; simp
theorem Dd (p : Zt) : Zw p = (!Lx p && decide p.exc.Nodup && ((Jg p.cond 200 20).1 && Vb [p.beg, p.fin, p.aga])) := by
 unfold Zw Vb; simp [Bool.and_assoc]
theorem Uu {α : Type} {l : List α} {k : Nat} {x : α} (h : l[k]? = some x) : l.take (k + 1) = l.take k ++ [x] := by
 rw [List.take_add_one, h]; rfl
theorem qfn {l : List Qa} {k : Nat} {s : Qa} (h : l[k]? = some s) (hm : (l.take k).contains s = true) : ¬ l.Nodup := by
 intro hn; have h1 : (l.take (k + 1)).Nodup := hn.sublist (List.take_sublist _ _); rw [Uu h, List.nodup_append] at h1; have h2 : s ∈ l.take k := by simpa using hm
 exact h1.2.2 s h2 s (by simp) rfl
theorem qc9 {l : List Qa} {k : Nat} {s : Qa} (h : l[k]? = some s) (hm : (l.take k).contains s = false) (hn : (l.take k).Nodup) : (l.take (k + 1)).Nodup := by
 rw [Uu h, List.nodup_append]; refine ⟨hn, by simp, fun a ha b hb => ?_⟩; obtain rfl : b = s := by simpa using hb
 rintro rfl; have : a ∉ l.take k := by simpa using hm
 exact this ha
def Da (W w : World) (ab : Nat) (l : List TreeI) : Prop := ab < w.heap.size /\ ∀ (k : Nat) (t : TreeI), l[k]? = some t -> ∃ cs, (∀ j v, cs[j]? = some v -> w.cell? ⟨ab, k * 4 + j, none⟩ = some v) /\ RdX false W cs t
theorem Da.keep {W w w' : World} {ab : Nat} {l : List TreeI} (h : Da W w ab l) (hk : w'.heap[ab]? = w.heap[ab]?) (hs : w.heap.size <= w'.heap.size) : Da W w' ab l :=
 ⟨Nat.lt_of_lt_of_le h.1 hs, fun k t ht => by
   obtain ⟨cs, h1, h2⟩ := h.2 k t ht; exact ⟨cs, fun j v hv => (cOh hk _).trans (h1 j v hv), h2⟩⟩
theorem Da.mk' {W w : World} {ab : Nat} {a b c : TreeI} {ca cb cc : List Value} {D : Array Value} {T : TypeId} (ha : RdX false W ca a) (hb : RdX false W cb b) (hc : RdX false W cc c) (hD : w.heap[ab]? = some (.cells D T (0, 0))) (he : D.toList = ca ++ (cb ++ cc)) : Da W w ab [a, b, c] := by
 have la := ha.len; have lb := hb.len; have lc := hc.len; refine ⟨lHp hD, fun k t ht => ?_⟩; have aR : ∀ (i : Nat) v, (ca ++ (cb ++ cc))[i]? = some v -> w.cell? ⟨ab, i, none⟩ = some v := fun i v hv => cOb hD (by rw [<- Array.getElem?_toList, he]; exact hv)
 match k, ht with
 | 0, ht =>
   cases ht; refine ⟨ca, fun j v hv => ?_, ha⟩; rw [Nat.zero_mul, Nat.zero_add]; refine aR j v ?_; rw [List.getElem?_append_left (List.getElem?_eq_some_iff.1 hv).1]; exact hv
 | 1, ht =>
   cases ht; refine ⟨cb, fun j v hv => ?_, hb⟩; refine aR _ v ?_; have hj := (List.getElem?_eq_some_iff.1 hv).1; rw [List.getElem?_append_right (by rw [la]; simp [In]), List.getElem?_append_left (by rw [la]; simp [In]; omega), la]; rw [show 1 * 4 + j - In false = j by simp [In]]; exact hv
 | 2, ht =>
   cases ht; refine ⟨cc, fun j v hv => ?_, hc⟩; refine aR _ v ?_; rw [List.getElem?_append_right (by rw [la]; simp [In]; omega), List.getElem?_append_right (by rw [la, lb]; simp [In]; omega), la, lb]; rw [show 2 * 4 + j - In false - In false = j by simp [In]; omega]; exact hv
 | k + 3, ht => simp at ht
theorem De (W w : World) (cs : List Value) (P : Zt) (hr : Wo W cs P) (hb : Below W.heap.size W w) (h1 : P.cond.size <= 1000000) (h2 : ∀ t ∈ [P.beg, P.fin, P.aga], t.size <= 1000000) (h3 : P.exc.length <= 1000000) (h4 : ∀ s ∈ P.exc, s.length <= 1000000) :
 Calls Tryz.prog 26 #[.agg cs.toArray] w fun e w' => e = .returned (.bool (Zw P)) /\ Below w.heap.size w w' := by
 obtain ⟨res, dA⟩ : ∃ b, Zw P = b := ⟨_, rfl⟩
 rw [dA]; have dV := Dd P; rw [dA] at dV; obtain ⟨id, rank, kind, name, value, cond, exc, beg, fin, aga⟩ := P; obtain ⟨cc, A, cap, cb, cf, ca, rfl, gM, eR, eN, eS, eQ, eT⟩ := hr; simp only at *; have gS := Hi h2; have gZ := Hi h4; have hL := Hi eN; have fH := Hi hb; have bE := hb.size; clear h2 h4 eN hb dA; have RC := Hi eR; have RB := Hi eS; have RD := Hi eQ; have RG := Hi eT; obtain ⟨oC, nC, dC, mC, ksC⟩ := cond; obtain ⟨KC, qC, rfl, -, -⟩ := eR; obtain ⟨oB, nB, dB, mB, ksB⟩ := beg; obtain ⟨KB, qB, rfl, -, -⟩ := eS; obtain ⟨oD, nD, dD, mD, ksD⟩ := fin; obtain ⟨KD, qD, rfl, -, -⟩ := eQ; obtain ⟨oG, nG, dG, mG, ksG⟩ := aga; obtain ⟨KG, qG, rfl, -, -⟩ := eT; have eB := Hi dV; clear dV; simp only [tcX, List.cons_append, List.nil_append]; have hR := @run_makeMap Tryz.prog; go_enter Tryz.func26, Tryz.ntmps26
 go_upto_region 1 with fail; go_cut [1, 2, 53] from 0 (fun s1 s2 fJ wc => s1 = .pointer (some ⟨w.heap.size, 0, none⟩) /\ s2 = .bool false /\ fJ = .bool (Lx ⟨id, rank, kind, name, value, .mk oC nC dC mC ksC, exc, .mk oB nB dB mB ksB, .mk oD nD dD mD ksD, .mk oG nG dG mG ksG⟩) /\ wc.heap[w.heap.size]? = some (.cells #[vs id, .int .i64 rank, .int .i64 kind, vs name, .int .i64 value, .int .i64 oC, vs nC, .int .i64 dC, .int .i64 mC, .slice KC ksC.length qC, .slice A exc.length cap, .int .i64 oB, vs nB, .int .i64 mB, .slice KB ksB.length qB, .int .i64 oD, vs nD, .int .i64 mD, .slice KD ksD.length qD, .int .i64 oG, vs nG, .int .i64 mG, .slice KG ksG.length qG] 30 (0, 0)) /\ Below w.heap.size w wc)
 case first =>
  go_wp2_with fail
  all_goals
   go_meet
   case rel =>
    (try subst_vars)
    refine ⟨rfl, rfl, ?_, heap_alloc_new w _, (Below.refl _ _).alloc (lR _) _⟩; refine congrArg Value.bool ?_; rw [Bool.eq_iff_iff]; simp [Lx, *]
    try omega
 case rest =>
  obtain ⟨rfl, rfl, rfl, aH, dU⟩ := hcut; have hO := Hi aH; have cX := Hi dU; have bS := dU.size; have hW := cOb (o := 10) aH rfl; have dK := lHp aH; clear aH dU; cases cM : Lx ⟨id, rank, kind, name, value, .mk oC nC dC mC ksC, exc, .mk oB nB dB mB ksB, .mk oD nD dD mD ksD, .mk oG nG dG mG ksG⟩ with
  | true =>
    have cW := Hi cM; clear cM; go_wp2_with fail; go_ret; exact ⟨by rw [eB.out, cW.out]; rfl, cX.out⟩
  | false =>
    have cW := Hi cM; clear cM; go_wp2_with fail; go_loopw [58] (fun cZ wx => ∃ k : Nat, k <= exc.length /\ cZ = .int .i64 k /\ KS wx wc.heap.size (exc.take k) /\ (exc.take k).Nodup /\ Below wc.heap.size wc wx) (fun cZ _ => exc.length - (intOf cZ).toNat)
    case atStart => exact ⟨0, Nat.zero_le _, rfl, KS.made wc, by simp, (Below.refl _ _).alloc (lR _) _⟩
    case round =>
     obtain ⟨k, hk, rfl, dN, eJ, aH⟩ := hrel; have fG := Hi dN; have fF := Hi eJ; have cI := Hi aH; have gB := dN.lt; have bZ : Below W.heap.size W wr := fH.out.trans ((cX.out.mono bE).trans (aH.mono (by omega))); have aO := Hi bZ; clear dN eJ aH bZ
     by_cases aW : k < exc.length
     · obtain ⟨s, hs⟩ := gLt aW; have eH := gZ.out s (List.mem_of_getElem? hs); obtain ⟨b, o, rfl, aZ, hc⟩ := hL.out.item hs; have z0 : wr.cell? ⟨b, o + k, none⟩ = some (vs s) := (aO.out.cell (p := ⟨b, o + k, none⟩) aZ).trans hc; have cR : (k : Int) < exc.length := (by omega)
       have gI : (0 : Int) <= k := (by omega)
       have eL := fG.out.look (s := s) eH; have HS := Hi hs; clear hc hs; cases bI : (exc.take k).contains s with
       | true =>
         rw [bI] at eL
         have gY : Hid (res = false) := Hi (by
          rw [eB.out, cW.out, decide_eq_false (qfn HS.out bI)]; rfl)
         clear bI; go_wp2_with fail; go_ret; exact ⟨by rw [gY.out]; rfl, cX.out.trans (cI.out.mono bS)⟩
       | false =>
         rw [bI] at eL; obtain ⟨ob, ho, cQ⟩ := fG.out.store (s := s) eH; have HO := Hi ho
         have hE : Hid (KS (setBlock wr wc.heap.size ob) wc.heap.size (exc.take (k + 1))) := Hi (by
          rw [Uu HS.out]; unfold Sj at cQ; rw [bI] at cQ; exact cQ)
         have hA := Hi (qc9 HS.out bI fF.out); clear ho cQ bI; go_wp2_with (refine Yl rfl 65 (.tmp 65) (.tmp 66) _ rfl (.map (some wc.heap.size)) (vs s) (.bool true) rfl rfl rfl HO.out ?_)
         exact ⟨⟨k + 1, by omega, by go_num, hE.out, hA.out, On cI.out (lR _)⟩, by simp [intOf]; omega⟩
     · have dO : k = exc.length := by omega
       subst dO; obtain ⟨wa, fX⟩ : ∃ x, x = wr := ⟨_, rfl⟩
       subst fX; have gD : ¬ ((exc.length : Nat) : Int) < exc.length := (by omega)
       have gX : Hid (decide exc.Nodup = true) := Hi (decide_eq_true (by have := fF.out; rwa [List.take_length] at this)); have aL := Hi ((cI.out.block _ dK).trans hO.out); have dJ := lHp aL.out; have c5 := cOb (o := 5) aL.out rfl; have c6 := cOb (o := 6) aL.out rfl; have c7 := cOb (o := 7) aL.out rfl; have c8 := cOb (o := 8) aL.out rfl; have c9 := cOb (o := 9) aL.out rfl; have hJ := Hi (qgl W _ (.mk oC nC dC mC ksC) _ 200 20 wa.heap.size (wa.alloc (.cells #[.int .i64 200] 3)) (lR _) h1 (by omega) (by omega) (by omega) (by omega) RC.out (aO.out.alloc aO.out.size _) aO.out.size ⟨_, J4 rfl⟩); have fY := cI.out.size; go_wp2_with fail; refine hJ.out.mono ?_; rintro e w2 ⟨rfl, bU, bV⟩; obtain ⟨fb, dR⟩ : ∃ fb, (Jg (.mk oC nC dC mC ksC) 200 20).1 = fb := ⟨_, rfl⟩
       rw [dR]; obtain ⟨ln, eK⟩ : ∃ ln, (Jg (.mk oC nC dC mC ksC) 200 20).2 = ln := ⟨_, rfl⟩
       rw [eK] at bU; have hK := Hi dR; have hI := Hi bU; have hY := Hi bV; have aB : w2.heap[w.heap.size]? = some (.cells #[vs id, .int .i64 rank, .int .i64 kind, vs name, .int .i64 value, .int .i64 oC, vs nC, .int .i64 dC, .int .i64 mC, .slice KC ksC.length qC, .slice A exc.length cap, .int .i64 oB, vs nB, .int .i64 mB, .slice KB ksB.length qB, .int .i64 oD, vs nD, .int .i64 mD, .slice KD ksD.length qD, .int .i64 oG, vs nG, .int .i64 mG, .slice KG ksG.length qG] 30 (0, 0)) := (bV.block _ (by simp; omega) (by omega)).trans ((Below.heap_alloc _ _ _ dJ).trans aL.out); have hM := Hi aB; have gC := lHp aB; have fZ := bV.size; rw [World.size_alloc] at fZ; obtain ⟨gJ, dP⟩ := bU.cell; have gK := bU.lt; have fV := cOb (o := 11) aB rfl; have fU := cOb (o := 12) aB rfl; have fT := cOb (o := 13) aB rfl; have fS := cOb (o := 14) aB rfl; have fR := cOb (o := 15) aB rfl; have fQ := cOb (o := 16) aB rfl; have fP := cOb (o := 17) aB rfl; have fO := cOb (o := 18) aB rfl; have fN := cOb (o := 19) aB rfl; have fM := cOb (o := 20) aB rfl; have fL := cOb (o := 21) aB rfl; have fK := cOb (o := 22) aB rfl; have bA : Below w.heap.size w w2 := (cX.out.trans (cI.out.mono bS)).trans ((((Below.refl _ _).alloc (lR _) _).trans ((bV.below (by simp) (by simp) : Below wa.heap.size _ _))).mono (by omega)); have cJ := Hi bA; clear dR eK bU bV aB bA c5 c6 c7 c8 c9; go_wp2_with fail; have bC : Da W (w2.alloc (.cells #[.int .i64 oB, vs nB, .int .i64 mB, .slice KB ksB.length qB, .int .i64 oD, vs nD, .int .i64 mD, .slice KD ksD.length qD, .int .i64 oG, vs nG, .int .i64 mG, .slice KG ksG.length qG] 28)) w2.heap.size [.mk oB nB dB mB ksB, .mk oD nD dD mD ksD, .mk oG nG dG mG ksG] := Da.mk' RB.out RD.out RG.out (J4 rfl) rfl; have H3 := Hi bC; clear bC fV fU fT fS fR fQ fP fO fN fM fL fK gJ dP; go_loopw [7, 79] (fun v7 cY wx => ∃ k : Nat, k <= 3 /\ cY = .int .i64 k /\ v7 = .bool (fb && Vb ([.mk oB nB dB mB ksB, .mk oD nD dD mD ksD, .mk oG nG dG mG ksG].take k)) /\ (∃ n, Kq wx wa.heap.size n) /\ Da W wx w2.heap.size [.mk oB nB dB mB ksB, .mk oD nD dD mD ksD, .mk oG nG dG mG ksG] /\ Below w.heap.size w wx) (fun _ cY _ => 3 - (intOf cY).toNat)
       case atStart => exact ⟨0, by omega, rfl, by simp [Vb], ⟨ln, hI.out.keep (Below.heap_alloc _ _ _ gK)⟩, H3.out, cJ.out.alloc (by omega) _⟩
       case round =>
        obtain ⟨k, hk, rfl, rfl, ⟨n, cS⟩, bG, bJ⟩ := hrel; have bZ : Below W.heap.size W wr := fH.out.trans (bJ.mono bE); have cH := Hi bZ; have hH := Hi cS; have cE := Hi bG; have eD := Hi bJ; obtain ⟨bk, dT⟩ : ∃ bk, (fb && Vb ([.mk oB nB dB mB ksB, .mk oD nD dD mD ksD, .mk oG nG dG mG ksG].take k)) = bk := ⟨_, rfl⟩
        rw [dT]; have eF := Hi dT; obtain ⟨i1, i2⟩ := cS.cell; have i3 := cS.lt; have i4 := bG.1; have i5 : wa.heap.size ≠ w2.heap.size := (by omega)
        clear cS bG bJ dT bZ
        by_cases aW : k < 3
        · obtain ⟨t, ht⟩ := gLt (l := ([.mk oB nB dB mB ksB, .mk oD nD dD mD ksD, .mk oG nG dG mG ksG] : List TreeI)) (k := k) aW; obtain ⟨cs, bW, bP⟩ := cE.out.2 k t ht; have dE := gS.out t (List.mem_of_getElem? ht); have HT := Hi ht; have gT := Hi bP; obtain ⟨o1, n1, d1, m1, aD⟩ := t; obtain ⟨A1, p1, rfl, -, -⟩ := bP; have z0 : wr.cell? ⟨w2.heap.size, k * 4, none⟩ = some (.int .i64 o1) := bW 0 _ rfl; have z1 : wr.cell? ⟨w2.heap.size, k * 4 + 1, none⟩ = some (vs n1) := bW 1 _ rfl; have z2 : wr.cell? ⟨w2.heap.size, k * 4 + 2, none⟩ = some (.int .i64 m1) := bW 2 _ rfl; have z3 : wr.cell? ⟨w2.heap.size, k * 4 + 3, none⟩ = some (.slice A1 aD.length p1) := bW 3 _ rfl; have cR : (k : Int) < 3 := (by omega)
          have gI : (0 : Int) <= k := (by omega)
          have aF : Hid (Below W.heap.size W ((wr.setCell ⟨wa.heap.size, 0, none⟩ (.int .i64 200)).alloc (.cells #[.int .i64 o1, vs n1, .int .i64 m1, .slice A1 aD.length p1] 28))) := Hi ((cH.out.setCell (by show W.heap.size <= wa.heap.size; have := aO.out.size; omega) _).alloc (by have := cH.out.size; simpa using this) _); have aM : Hid (Kq ((wr.setCell ⟨wa.heap.size, 0, none⟩ (.int .i64 200)).alloc (.cells #[.int .i64 o1, vs n1, .int .i64 m1, .slice A1 aD.length p1] 28)) wa.heap.size 200) := Hi ((hH.out.set 200).keep (Below.heap_alloc _ _ _ (by simpa using i3))); have aU : Hid (Da W ((wr.setCell ⟨wa.heap.size, 0, none⟩ (.int .i64 200)).alloc (.cells #[.int .i64 o1, vs n1, .int .i64 m1, .slice A1 aD.length p1] 28)) w2.heap.size [.mk oB nB dB mB ksB, .mk oD nD dD mD ksD, .mk oG nG dG mG ksG]) := Hi (cE.out.keep ((Below.heap_alloc _ _ _ (by simpa using i4)).trans (Below.heap_setCell _ _ _ _ (fun e => i5 e.symm))) (by simp)); have eA : Hid (Below w.heap.size w ((wr.setCell ⟨wa.heap.size, 0, none⟩ (.int .i64 200)).alloc (.cells #[.int .i64 o1, vs n1, .int .i64 m1, .slice A1 aD.length p1] 28))) := Hi ((eD.out.setCell (by show w.heap.size <= wa.heap.size; omega) _).alloc (by have := eD.out.size; simpa using this) _); have fC := Hi (Nu ht); clear bW ht; cases bk with
          | false =>
            go_wp2_with fail; exact ⟨⟨k + 1, by omega, by go_num, by rw [fC.out, <- Bool.and_assoc, eF.out]; rfl, ⟨200, aM.out⟩, aU.out, eA.out⟩, by simp [intOf]; omega⟩
          | true =>
            go_wp2_with fail; refine (qez W _ (.mk o1 n1 d1 m1 aD) _ 200 20 wa.heap.size _ (lR _) dE (by omega) (by omega) (by omega) (by omega) gT.out aF.out (by have := aO.out.size; omega) aM.out).mono ?_; rintro e w5 ⟨rfl, h6, h7⟩; have gV := Hi (aU.out.keep (h7.block _ aU.out.1 (fun e => i5 e.symm)) h7.size); have gU := Hi (eA.out.trans (h7.below (by omega) eA.out.size)); have H6 := Hi h6; clear h6 h7 z0 z1 z2 z3 i1 i2; go_wp2_with fail; exact ⟨⟨k + 1, by omega, by go_num, by rw [fC.out, <- Bool.and_assoc, eF.out]; rfl, ⟨_, H6.out⟩, gV.out, gU.out⟩, by simp [intOf]; omega⟩
        · have dO : k = 3 := by omega
          subst dO
          have bT : res = bk := by
           rw [eB.out, cW.out, gX.out, hK.out, <- eF.out]; rfl
          have aA := Hi bT; clear bT; go_wp2_with fail; go_ret; exact ⟨by rw [aA.out]; rfl, eD.out⟩
end
section
def Vn (o c : List UInt8) : Qa -> Option UInt8
 | x :: y :: _ => if x = 32 /\ y ∈ c then some y else if x ∈ o /\ y = 32 then some x else none
 | _ => none
theorem qct {o c : List UInt8} {x y v : UInt8} {r : Qa} (h : Vn o c (x :: y :: r) = some v) : Jl o c (x :: y :: r) = v :: Jl o c r := by
 simp only [Vn] at h; rw [Jl]
 split at h
 · rename_i h1; injection h with h; rw [if_pos h1, h]
 · rename_i h1
   split at h
   · rename_i h2; injection h with h; rw [if_neg h1, if_pos h2, h]
   · cases h
theorem Td {o c : List UInt8} {x : UInt8} {r : Qa} (h : Vn o c (x :: r) = none) : Jl o c (x :: r) = x :: Jl o c r := by
 cases r with
 | nil => rfl
 | cons y r =>
   simp only [Vn] at h; rw [Jl]
   split at h
   · cases h
   · rename_i h1
     split at h
     · cases h
     · rename_i h2; rw [if_neg h1, if_neg h2]
def Yk (o c : List UInt8) (s : Qa) (last i : Nat) (buf : Qa) : Prop := last <= i /\ i <= s.length /\ Jl o c s = buf ++ ((s.drop last).take (i - last) ++ Jl o c (s.drop i))
theorem Yk.start (o c : List UInt8) (s : Qa) : Yk o c s 0 0 [] := ⟨lR _, Nat.zero_le _, by simp⟩
theorem Yk.miss {o c : List UInt8} {s : Qa} {last i : Nat} {buf : Qa} (h : Yk o c s last i buf) (hi : i < s.length) (hm : Vn o c (s.drop i) = none) : Yk o c s last (i + 1) buf := by
 obtain ⟨h1, h2, h3⟩ := h; refine ⟨by omega, by omega, ?_⟩; rw [h3]; rw [List.drop_eq_getElem_cons hi] at hm ⊢; rw [Td hm]
 have e : (s.drop last).take (i + 1 - last) = (s.drop last).take (i - last) ++ [s[i]] := by
  have hl : i - last < (s.drop last).length := by rw [List.length_drop]; omega
  rw [show i + 1 - last = (i - last) + 1 by omega, List.take_succ_eq_append_getElem hl]
  congr 2
  rw [List.getElem_drop]
  congr 1
  omega
 rw [e]; simp only [List.append_assoc, List.cons_append, List.nil_append]
theorem qil {o c : List UInt8} {s : Qa} {v : UInt8} (h : Vn o c s = some v) : 2 <= s.length := by
 match s, h with
 | [], h => cases h
 | [x], h => cases h
 | x :: y :: r, _ => simp
theorem Yk.hit {o c : List UInt8} {s : Qa} {last i : Nat} {buf : Qa} {v : UInt8} (h : Yk o c s last i buf) (hm : Vn o c (s.drop i) = some v) : Yk o c s (i + 2) (i + 2) (buf ++ ((s.drop last).take (i - last) ++ [v])) := by
 obtain ⟨h1, h2, h3⟩ := h; have hl := qil hm; rw [List.length_drop] at hl; refine ⟨lR _, by omega, ?_⟩; rw [h3, Nat.sub_self, List.take_zero, List.nil_append]
 have e1 : s.drop i = s[i] :: s[i + 1] :: s.drop (i + 2) := by
  rw [List.drop_eq_getElem_cons (show i < s.length by omega), List.drop_eq_getElem_cons (show i + 1 < s.length by omega)]
 rw [e1] at hm; rw [e1, qct hm]; simp only [List.append_assoc, List.cons_append, List.nil_append]
theorem Yk.fin {o c : List UInt8} {s : Qa} {last : Nat} {buf : Qa} (h : Yk o c s last s.length buf) : Jl o c s = buf ++ s.drop last := by
 obtain ⟨h1, h2, h3⟩ := h; rw [h3, List.drop_length]; rw [show Jl o c [] = [] from rfl, List.append_nil, List.take_of_length_le (by rw [List.length_drop]; omega)]
open Go.RowKit
abbrev nilP : Value := .pointer none
abbrev Jd (b : Nat) : Value := .pointer (some ⟨b, 0, none⟩)
def Zp (w : World) (b : Nat) (val : Qa) (q : Int) (pre : Qa) (nxt tab : Value) : Prop := w.heap[b]? = some (.cells #[vs val, .int .i64 q, vs pre, nxt, tab] 252 (0, 0))
def Yy (w : World) (b : Nat) (val : Qa) (q : Int) : Prop := Zp w b val q [] nilP (.slice none 0 0)
inductive Sub where
 | no
 | pre (y : UInt8) (v : Qa) (q : Int)
 | tab (l : List (UInt8 × Qa × Int))
def qb6 (mp : Nat -> Nat) (w : World) (F : Nat -> Prop) (L : List (UInt8 × Qa × Int)) (m : Nat) (pv : Value) : Prop :=
 (∃ y v q l, (y, v, q) ∈ L /\ mp y.toNat = m /\ pv = Jd l /\ F l /\ Yy w l v q) \/ (pv = nilP /\ ∀ y v q, (y, v, q) ∈ L -> mp y.toNat ≠ m)
def Nq (mp : Nat -> Nat) (ts : Nat) (w : World) (F : Nat -> Prop) (pv : Value) : Sub -> Prop
 | .no => pv = nilP
 | .pre y v q => ∃ n l, pv = Jd n /\ F n /\ F l /\ Zp w n [] 0 [y] (Jd l) (.slice none 0 0) /\ Yy w l v q
 | .tab L => ∃ n t C, pv = Jd n /\ F n /\ F t /\ Zp w n [] 0 [] nilP (.slice (some ⟨t, 0, none⟩) ts ts) /\ w.heap[t]? = some (.cells C 249 (0, 0)) /\ C.size = ts /\ ∀ m, m < ts -> ∃ pv, C[m]? = some pv /\ qb6 mp w F L m pv
theorem Yy.keep {w w' : World} {b : Nat} {v : Qa} {q : Int} (h : Yy w b v q) (hk : w'.heap[b]? = w.heap[b]?) : Yy w' b v q := hk.trans h
theorem qb6.keep {mp : Nat -> Nat} {w w' : World} {F G : Nat -> Prop} {L : List (UInt8 × Qa × Int)} {m : Nat} {pv : Value} (h : qb6 mp w F L m pv) (hF : ∀ b, F b -> G b) (hk : ∀ l v q, F l -> Yy w l v q -> w'.heap[l]? = w.heap[l]?) : qb6 mp w' G L m pv := by
 rcases h with ⟨y, v, q, l, h1, h2, h3, h4, h5⟩ | h
 · exact Or.inl ⟨y, v, q, l, h1, h2, h3, hF l h4, h5.keep (hk l v q h4 h5)⟩
 · exact Or.inr h
theorem Nq.keep {mp : Nat -> Nat} {ts : Nat} {w w' : World} {F : Nat -> Prop} {pv : Value} {s : Sub} (h : Nq mp ts w F pv s) (hk : ∀ b, F b -> w'.heap[b]? = w.heap[b]?) : Nq mp ts w' F pv s := by
 cases s with
 | no => exact h
 | pre y v q =>
   obtain ⟨n, l, h1, h2, h3, h4, h5⟩ := h; exact ⟨n, l, h1, h2, h3, (hk n h2).trans h4, (hk l h3).trans h5⟩
 | tab L =>
   obtain ⟨n, t, C, h1, h2, h3, h4, h5, h6, h7⟩ := h
   exact ⟨n, t, C, h1, h2, h3, (hk n h2).trans h4, (hk t h3).trans h5, h6, fun m hm => by
    obtain ⟨pv, a, b⟩ := h7 m hm; exact ⟨pv, a, b.keep (fun _ h => h) (fun l _ _ hl _ => hk l hl)⟩⟩
theorem Xq {w : World} {b t : Nat} {val pre : Qa} {q : Int} {nxt tab : Value} {C : Array Value} (h : Zp w b val q pre nxt tab) (ht : w.heap[t]? = some (.cells C 249 (0, 0))) : b ≠ t := by
 rintro rfl; unfold Zp at h; rw [h] at ht; simp at ht
structure GrB (mp : Nat -> Nat) (ts : Nat) (w : World) (r tb : Nat) : Prop where
 is : ∃ C : Array Value, w.heap[r]? = some (.cells C 254 (0, 0)) /\ C.size = 262 /\ C[0]? = some (vs []) /\ C[1]? = some (.int .i64 0) /\ C[2]? = some (vs []) /\ C[3]? = some nilP /\
  C[4]? = some (.slice (some ⟨tb, 0, none⟩) ts ts) /\ C[5]? = some (.int .i64 ts) /\ ∀ k, k < 256 -> C[6 + k]? = some (.int .u8 (mp k))
 small : ts <= 10
 mpl : ∀ k, mp k <= ts
structure Vw (mp : Nat -> Nat) (ts : Nat) (B : Nat) (w : World) (r tb : Nat) (st : Nat -> Sub) : Prop where
 gr : GrB mp ts w r tb
 root : ∃ D : Array Value, w.heap[tb]? = some (.cells D 249 (0, 0)) /\ D.size = ts /\ ∃ F : Nat -> Nat -> Prop, (∀ m b, F m b -> b ≠ r /\ b ≠ tb /\ b < w.heap.size /\ B <= b) /\ (∀ m m' b, F m b -> F m' b -> m = m') /\ ∀ m, m < ts -> ∃ pv, D[m]? = some pv /\ Nq mp ts w (F m) pv (st m)
 lo : B <= r /\ B <= tb
theorem GrB.cells {mp : Nat -> Nat} {ts : Nat} {w : World} {r tb : Nat} (h : GrB mp ts w r tb) : w.cell? ⟨r, 0, none⟩ = some (vs []) /\ w.cell? ⟨r, 1, none⟩ = some (.int .i64 0) /\ w.cell? ⟨r, 2, none⟩ = some (vs []) /\ w.cell? ⟨r, 3, none⟩ = some nilP /\
 w.cell? ⟨r, 4, none⟩ = some (.slice (some ⟨tb, 0, none⟩) ts ts) /\ w.cell? ⟨r, 5, none⟩ = some (.int .i64 ts) /\ ∀ k, k < 256 -> w.cell? ⟨r, 6 + k, none⟩ = some (.int .u8 (mp k)) := by
 obtain ⟨C, h0, -, h1, h2, h3, h4, h5, h6, h7⟩ := h.is; exact ⟨cOb h0 h1, cOb h0 h2, cOb h0 h3, cOb h0 h4, cOb h0 h5, cOb h0 h6, fun k hk => cOb h0 (h7 k hk)⟩
theorem GrB.lt {mp : Nat -> Nat} {ts : Nat} {w : World} {r tb : Nat} (h : GrB mp ts w r tb) : r < w.heap.size := by
 obtain ⟨C, h0, -⟩ := h.is; exact lHp h0
theorem GrB.keep {mp : Nat -> Nat} {ts : Nat} {w w' : World} {r tb : Nat} (h : GrB mp ts w r tb) (hk : w'.heap[r]? = w.heap[r]?) : GrB mp ts w' r tb := by
 obtain ⟨C, h0, h1⟩ := h.is; exact ⟨⟨C, hk.trans h0, h1⟩, h.small, h.mpl⟩
theorem Vw.keep {mp : Nat -> Nat} {ts : Nat} {B : Nat} {w w' : World} {r tb : Nat} {st : Nat -> Sub} (h : Vw mp ts B w r tb st) (hs : w.heap.size <= w'.heap.size) (hk : ∀ b, B <= b -> b < w.heap.size -> w'.heap[b]? = w.heap[b]?) : Vw mp ts B w' r tb st := by
 obtain ⟨D, h1, h2, F, h3, h4, h5⟩ := h.root; refine ⟨h.gr.keep (hk r h.lo.1 h.gr.lt), ⟨D, (hk tb h.lo.2 (lHp h1)).trans h1, h2, F, fun m b hb => ?_, h4, fun m hm => ?_⟩, h.lo⟩
 · obtain ⟨a, b, c, d⟩ := h3 m b hb; exact ⟨a, b, Nat.lt_of_lt_of_le c hs, d⟩
 · obtain ⟨pv, a, b⟩ := h5 m hm; exact ⟨pv, a, b.keep fun b hb => hk b (h3 m b hb).2.2.2 (h3 m b hb).2.2.1⟩
def Pe : Sub -> UInt8 -> Qa -> Int -> Sub
 | .no, y, v, q => .pre y v q
 | .pre y0 v0 q0, y, v, q => .tab [(y0, v0, q0), (y, v, q)]
 | .tab L, y, v, q => .tab (L ++ [(y, v, q)])
def Fr (mp : Nat -> Nat) : Sub -> UInt8 -> Prop
 | .no, _ => True
 | .pre y0 _ _, y => y0 ≠ y /\ mp y0.toNat ≠ mp y.toNat
 | .tab L, y => ∀ y0 v0 q0, (y0, v0, q0) ∈ L -> mp y0.toNat ≠ mp y.toNat
def I3 (st : Nat -> Sub) (m : Nat) (s : Sub) : Nat -> Sub := fun k => if k = m then s else st k
theorem Vw.change {mp : Nat -> Nat} {ts B : Nat} {w w' : World} {r tb : Nat} {st : Nat -> Sub} {D : Array Value} {F : Nat -> Nat -> Prop} {m : Nat} {s : Sub} {pv' : Value} {G : Nat -> Prop} {D' : Array Value}
 (dQ : GrB mp ts w r tb) (gE : B <= r /\ B <= tb) (h1 : w.heap[tb]? = some (.cells D 249 (0, 0))) (h2 : D.size = ts) (h3 : ∀ m b, F m b -> b ≠ r /\ b ≠ tb /\ b < w.heap.size /\ B <= b) (h4 : ∀ m m' b, F m b -> F m' b -> m = m')
 (h5 : ∀ m, m < ts -> ∃ pv, D[m]? = some pv /\ Nq mp ts w (F m) pv (st m))
 (hs : w.heap.size <= w'.heap.size) (hk : ∀ b, b < w.heap.size -> b ≠ tb -> ¬ F m b -> w'.heap[b]? = w.heap[b]?) (hB : B <= w.heap.size)
 (hD : w'.heap[tb]? = some (.cells D' 249 (0, 0))) (gP : D'.size = ts) (gN : ∀ j, j ≠ m -> D'[j]? = D[j]?) (gO : D'[m]? = some pv')
 (hG : ∀ b, G b -> F m b \/ w.heap.size <= b /\ b < w'.heap.size) (dF : Nq mp ts w' G pv' s) : Vw mp ts B w' r tb (I3 st m s) := by
 have cL := dQ.lt; have cK := lHp h1
 have dH : r ≠ tb := by
  rintro rfl; obtain ⟨C, h0, -⟩ := dQ.is; rw [h0] at h1; simp at h1
 refine ⟨dQ.keep (hk r cL dH (fun hf => (h3 m r hf).1 rfl)), ⟨D', hD, gP, fun k b => if k = m then G b else F k b, fun k b hb => ?_, fun k k' b hb aT => ?_, fun k gH => ?_⟩, gE⟩
 · simp only at hb
   split at hb
   · rcases hG b hb with hb | hb
     · obtain ⟨a, b', c, d⟩ := h3 m b hb; exact ⟨a, b', by omega, d⟩
     · exact ⟨by omega, by omega, by omega, by omega⟩
   · obtain ⟨a, b', c, d⟩ := h3 k b hb; exact ⟨a, b', by omega, d⟩
 · simp only at hb aT
   split at hb
   · split at aT
     · omega
     · rename_i e1 e2; rcases hG b hb with hb | hb
       · exact absurd (h4 k' m b aT hb) e2
       · have := (h3 k' b aT).2.2.1; omega
   · split at aT
     · rename_i e1 e2; rcases hG b aT with aT | aT
       · exact absurd (h4 k m b hb aT) e1
       · have := (h3 k b hb).2.2.1; omega
     · exact h4 k k' b hb aT
 · by_cases cP : k = m
   · subst cP; refine ⟨pv', gO, ?_⟩; simp only [I3, if_true]; exact dF
   · obtain ⟨pv, a, b⟩ := h5 k gH; refine ⟨pv, (gN k cP).trans a, ?_⟩; simp only [I3, if_neg cP]; exact b.keep fun c hc => hk c (h3 k c hc).2.2.1 (h3 k c hc).2.1 (fun hf => cP (h4 k m c hc hf))
end
set_option maxRecDepth 100000
set_option maxHeartbeats 8000000
section
open Go.RowKit
attribute [local go_sem ↓] Go.wp_at_zero Go.wp_at_succ
theorem Zp.lt {w : World} {b : Nat} {val pre : Qa} {q : Int} {nxt tab : Value} (h : Zp w b val q pre nxt tab) : b < w.heap.size := lHp h
theorem Zp.cells {w : World} {b : Nat} {val pre : Qa} {q : Int} {nxt tab : Value} (h : Zp w b val q pre nxt tab) : w.cell? ⟨b, 0, none⟩ = some (vs val) /\ w.cell? ⟨b, 1, none⟩ = some (.int .i64 q) /\ w.cell? ⟨b, 2, none⟩ = some (vs pre) /\ w.cell? ⟨b, 3, none⟩ = some nxt /\ w.cell? ⟨b, 4, none⟩ = some tab /\ ∀ o, w.frozen? ⟨b, o, none⟩ = false :=
 ⟨cOb h rfl, cOb h rfl, cOb h rfl, cOb h rfl, cOb h rfl, fun o => fOb h⟩
theorem Nn (w : World) (b r : Nat) (pre val : Qa) (q : Int) (nxt tab : Value) (h : Zp w b [] 0 pre nxt tab) :
 Calls Tryz.prog 181 #[Jd b, vs [], vs val, .int .i64 q, Jd r] w fun e w' => e = .returned (.tuple #[]) /\ Zp w' b val q pre nxt tab /\ Eff b w w' /\ w'.heap.size = w.heap.size := by
 obtain ⟨c0, c1, -, -, -, f⟩ := h.cells; have f0 := f 0; have f1 := f 1; have aW := h.lt
 have HX : Hid (Zp ((w.setCell ⟨b, 0, none⟩ (vs val)).setCell ⟨b, 1, none⟩ (.int .i64 q)) b val q pre nxt tab) := Hi (by
  unfold Zp at *; simp [World.setCell, Array.getElem?_modify, h])
 clear f h; go_enter Tryz.func181, Tryz.ntmps181
 go_wp2_with fail; refine bodyPost_ret (results_none rfl _ _ _) rfl ?_; exact ⟨rfl, HX.out, ((Eff.refl b w).setCell _ (Or.inl rfl) _).setCell _ (Or.inl rfl) _, by simp⟩
theorem Eff.fresh {b n : Nat} {w x w' : World} (h : Eff b w x) (k : Eff n x w') (hn : w.heap.size <= n) : Eff b w w' :=
 ⟨k.os.trans h.os, k.tape.trans h.tape, k.output.trans h.output, Nat.le_trans h.size k.size, fun i hi gA => (k.block i (Nat.lt_of_lt_of_le hi h.size) (by omega)).trans (h.block i hi gA)⟩
theorem qi0 (w : World) (b r : Nat) (y : UInt8) (val : Qa) (q : Int) (h : Zp w b [] 0 [] nilP (.slice none 0 0)) :
 Calls Tryz.prog 181 #[Jd b, vs [y], vs val, .int .i64 q, Jd r] w fun e w' => e = .returned (.tuple #[]) /\ ∃ l, w.heap.size <= l /\ l < w'.heap.size /\ Zp w' b [] 0 [y] (Jd l) (.slice none 0 0) /\ Yy w' l val q /\ Eff b w w' := by
 obtain ⟨c0, c1, c2, c3, c4, f⟩ := h.cells; have f2 := f 2; have f3 := f 3; have aW := h.lt; have H := Hi h; clear f h; go_enter Tryz.func181, Tryz.ntmps181
 go_wp2_with fail
 have eY : Zp (((w.setCell ⟨b, 2, none⟩ (vs [y])).setCell ⟨b, 3, none⟩ (Jd w.heap.size)).alloc (.cells #[vs [], .int .i64 0, vs [], nilP, .slice none 0 0] 252)) b [] 0 [y] (Jd w.heap.size) (.slice none 0 0) := by
  have h := H.out; unfold Zp at *; refine Z8 ?_; simp [World.setCell, Array.getElem?_modify, h]
 have cA : Eff b w (((w.setCell ⟨b, 2, none⟩ (vs [y])).setCell ⟨b, 3, none⟩ (Jd w.heap.size)).alloc (.cells #[vs [], .int .i64 0, vs [], nilP, .slice none 0 0] 252)) := (((Eff.refl b w).setCell _ (Or.inl rfl) _).setCell _ (Or.inl rfl) _).alloc _; have eX : Zp (((w.setCell ⟨b, 2, none⟩ (vs [y])).setCell ⟨b, 3, none⟩ (Jd w.heap.size)).alloc (.cells #[vs [], .int .i64 0, vs [], nilP, .slice none 0 0] 252)) w.heap.size [] 0 [] nilP (.slice none 0 0) := J4 (by simp); have aF := Hi eY; have aM := Hi cA; have HL := Hi (Nn _ w.heap.size r [] val q nilP (.slice none 0 0) eX); clear eY cA eX c0 c1 c2 c3 c4 f2 f3; refine HL.out.mono ?_; rintro e w1 ⟨rfl, h1, h2, h3⟩; have H1 := Hi h1; have H2 := Hi h2; clear h1 h2 h3; go_wp2_with fail; go_end0; refine ⟨rfl, w.heap.size, lR _, H1.out.lt, (H2.out.block b aF.out.lt (by omega)).trans aF.out, H1.out, aM.out.fresh H2.out (lR _)⟩
@[go_sem] theorem byte1 (y : UInt8) (h : 0 < ({ data := #[y] } : ByteArray).size) : (({ data := #[y] } : ByteArray)[0]'h) = y := rfl
@[go_sem] theorem byte2 (x y : UInt8) (h : 0 < ({ data := #[x, y] } : ByteArray).size) : (({ data := #[x, y] } : ByteArray)[0]'h) = x := rfl
theorem qfe (ts : Nat) (bF : ts <= 10) (w : World) : (Instr.makeSlice 250 (.int .i64 ts) (.int .i64 ts)).run Tryz.prog w = .ok (.slice (some ⟨w.heap.size, 0, none⟩) ts ts) (w.alloc (.cells (Array.replicate ts nilP) 249)) := by
 have h := run_make_row' (P := Tryz.prog) 250 249 nilP 8 Tryz.underlying250 (by kernel_rfl) rfl .i64 .i64 ts (by omega) (by omega) w
 have e : madeCells #[nilP] ts = Array.replicate ts nilP := by
  apply Array.ext'; rw [toList_madeCells_one, Array.toList_replicate]
 rw [e] at h; exact h
structure SP (mp : Nat -> Nat) (ts : Nat) (w X : World) (b r tb t n : Nat) (y0 : UInt8) (l0 : Nat) (C : Array Value) : Prop where
 node : Zp X b [] 0 [y0] (Jd l0) (.slice (some ⟨t, 0, none⟩) ts ts)
 zero : Zp X n [] 0 [] nilP (.slice none 0 0)
 tab : X.heap[t]? = some (.cells C 249 (0, 0))
 gr : GrB mp ts X r tb
 eff : Eff b w X
 nb : n ≠ b
 rb : r ≠ b
 nn : w.heap.size <= n
 nt : w.heap.size <= t
 rl : r < w.heap.size
 bl : b < w.heap.size
theorem SP.drew {mp : Nat -> Nat} {ts : Nat} {w X : World} {b r tb t n : Nat} {y0 : UInt8} {l0 : Nat} {C : Array Value} (h : SP mp ts w X b r tb t n y0 l0 C) : SP mp ts w X.drew b r tb t n y0 l0 C :=
 ⟨h.node, h.zero, h.tab, h.gr.keep rfl, h.eff.trans (Eff.of_below (Below.refl _ _).drew), h.nb, h.rb, h.nn, h.nt, h.rl, h.bl⟩
theorem SP.set {mp : Nat -> Nat} {ts : Nat} {w X : World} {b r tb t n : Nat} {y0 : UInt8} {l0 : Nat} {C : Array Value} (h : SP mp ts w X b r tb t n y0 l0 C) (k : Nat) (v : Value) : SP mp ts w (X.setCell ⟨t, k, none⟩ v) b r tb t n y0 l0 (C.setIfInBounds k v) := by
 have h1 := Xq h.node h.tab; have h2 := Xq h.zero h.tab; have h3 := h.rl; have h4 := h.nt; refine ⟨(Below.heap_setCell _ _ _ _ h1).trans h.node, (Below.heap_setCell _ _ _ _ h2).trans h.zero, rSc h.tab, h.gr.keep (Below.heap_setCell _ _ _ _ (by show r ≠ t; omega)), h.eff.setCell _ (Or.inr h.nt) _, h.nb, h.rb, h.nn, h.nt, h.rl, h.bl⟩
theorem SP.facts {mp : Nat -> Nat} {ts : Nat} {w X : World} {b r tb t n : Nat} {y0 : UInt8} {l0 : Nat} {C : Array Value} (h : SP mp ts w X b r tb t n y0 l0 C) : X.cell? ⟨b, 2, none⟩ = some (vs [y0]) /\ X.cell? ⟨b, 3, none⟩ = some (Jd l0) /\ X.cell? ⟨b, 4, none⟩ = some (.slice (some ⟨t, 0, none⟩) ts ts) /\
 (∀ k v, C[k]? = some v -> X.cell? ⟨t, k, none⟩ = some v) /\ (∀ k, X.frozen? ⟨t, k, none⟩ = false) /\ (∀ k, X.frozen? ⟨b, k, none⟩ = false) /\ (∀ k, k < 256 -> X.cell? ⟨r, 6 + k, none⟩ = some (.int .u8 (mp k))) /\ b < X.heap.size /\ t < X.heap.size /\ r < X.heap.size /\ n < X.heap.size := by
 obtain ⟨-, -, c2, c3, c4, f⟩ := h.node.cells; exact ⟨c2, c3, c4, fun k v hv => cOb h.tab hv, fun k => fOb h.tab, f, h.gr.cells.2.2.2.2.2.2, h.node.lt, lHp h.tab, h.gr.lt, h.zero.lt⟩
theorem qee (mp : Nat -> Nat) (ts tb : Nat) (w : World) (b r l0 : Nat) (y0 y : UInt8) (val : Qa) (q : Int) (h : Zp w b [] 0 [y0] (Jd l0) (.slice none 0 0)) (hg : GrB mp ts w r tb) (hy : y0 ≠ y) (h0 : mp y0.toNat < ts) (h1 : mp y.toNat < ts) (h2 : mp y0.toNat ≠ mp y.toNat) :
 Calls Tryz.prog 181 #[Jd b, vs [y], vs val, .int .i64 q, Jd r] w fun e w' => e = .returned (.tuple #[]) /\ ∃ t l, w.heap.size <= l /\ l < w'.heap.size /\ w.heap.size <= t /\ Zp w' b [] 0 [] nilP (.slice (some ⟨t, 0, none⟩) ts ts) /\ Yy w' l val q /\
  w'.heap[t]? = some (.cells (((Array.replicate ts nilP).setIfInBounds (mp y0.toNat) (Jd l0)).setIfInBounds (mp y.toNat) (Jd l)) 249 (0, 0)) /\ Eff b w w' := by
 obtain ⟨c0, c1, c2, c3, c4, f⟩ := h.cells; have aW := h.lt; have H := Hi h; have HG := Hi hg
 have HY : Hid (((y0.toNat : Int) != (y.toNat : Int)) = true) := Hi (by
  simp; intro e; exact hy (UInt8.toNat_inj.1 (by omega)))
 have hP := HY.out; have hS := qfe ts hg.small; obtain ⟨-, -, -, -, -, r5, rm⟩ := hg.cells; have aV := hg.lt
 have eI : r ≠ b := by
  rintro rfl; obtain ⟨C, e, -⟩ := hg.is; unfold Zp at h; rw [e] at h; simp at h
 have r0 := rm y0.toNat (UInt8.toNat_lt y0); have r1 := rm y.toNat (UInt8.toNat_lt y); have f2 := f 2; have f3 := f 3; have f4 := f 4; have l1 : b < w.heap.size + 1 := by omega
 have l2 : b < w.heap.size + 1 + 1 := by omega
 have l3 : r < w.heap.size + 1 := by omega
 have l4 : r < w.heap.size + 1 + 1 := by omega
 clear f h hg hy rm; go_enter Tryz.func181, Tryz.ntmps181
 go_wp2_with fail; go_loopw [10] (fun v wr => v = .int .i64 0 /\ w = wr) (fun _ _ => 0)
 case atStart => exact ⟨rfl, rfl⟩
 case round =>
  obtain ⟨rfl, rfl⟩ := hrel; go_wp2_with fail; go_quiet (fail)
  have cG : Hid (Zp (w.drewN nq) b [] 0 [y0] (Jd l0) (.slice none 0 0)) := H; have cF : Hid (GrB mp ts (w.drewN nq) r tb) := Hi (HG.out.keep rfl); have aS : Hid (Eff b w (w.drewN nq)) := Hi (Eff.of_below ⟨rfl, rfl, rfl, lR _, fun _ _ => rfl⟩); have aQ : w.heap.size = (w.drewN nq).heap.size := rfl; generalize w.drewN nq = wq at cG cF aS aQ ⊢; clear c0 c1 c2 c3 c4 r5 aV r0 r1 f2 f3 f4 l1 l2 l3 l4 aW; obtain ⟨c0, c1, c2, c3, c4, f⟩ := cG.out.cells; have aW := cG.out.lt; obtain ⟨-, -, -, -, -, r5, rm⟩ := cF.out.cells; have aV := cF.out.lt; have r0 := rm y0.toNat (UInt8.toNat_lt y0); have r1 := rm y.toNat (UInt8.toNat_lt y); have f2 := f 2; have f3 := f 3; have f4 := f 4; have l1 : b < wq.heap.size + 1 := by omega
  have l2 : b < wq.heap.size + 1 + 1 := by omega
  have l3 : r < wq.heap.size + 1 := by omega
  have l4 : r < wq.heap.size + 1 + 1 := by omega
  have bD := Hi aQ; clear f rm aQ; go_upto_region 18 with fail
  have bK : SP mp ts w (((wq.setCell ⟨b, 4, none⟩ (.slice (some ⟨wq.heap.size + 1, 0, none⟩) ts ts)).alloc (.cells #[vs [], .int .i64 0, vs [], nilP, .slice none 0 0] 252)).alloc (.cells (Array.replicate ts nilP) 249)) b r tb (wq.heap.size + 1) wq.heap.size y0 l0 (Array.replicate ts nilP) := by
   have h1 := cG.out; have hQ := bD.out; refine ⟨?_, Z8 (J4 (by simp)), J4 (by simp), cF.out.keep ?_, aS.out.trans (((((Eff.refl b wq).setCell _ (Or.inl rfl) _).alloc _).alloc _)), by omega, eI, by omega, by omega, by omega, by omega⟩
   · refine Z8 (Z8 ?_); unfold Zp at h1; simp [World.setCell, Array.getElem?_modify, h1]
   · rw [Below.heap_alloc _ _ _ (by simp; omega), Below.heap_alloc _ _ _ (by simp; omega)]; exact Below.heap_setCell _ _ _ _ eI
  have bL := Hi bK.drew; have bR := Hi bK; obtain ⟨X, hX⟩ : ∃ X, (((wq.setCell ⟨b, 4, none⟩ (.slice (some ⟨wq.heap.size + 1, 0, none⟩) ts ts)).alloc (.cells #[vs [], .int .i64 0, vs [], nilP, .slice none 0 0] 252)).alloc (.cells (Array.replicate ts nilP) 249)) = X := ⟨_, rfl⟩
  rw [hX] at bK bR bL ⊢; obtain ⟨t, ht⟩ : ∃ t, wq.heap.size + 1 = t := ⟨_, rfl⟩
  obtain ⟨n, hn⟩ : ∃ n, wq.heap.size = n := ⟨_, rfl⟩
  clear hX c0 c1 c2 c3 c4 r5 aV r0 r1 f2 f3 f4 l1 l2 l3 l4 aW cG cF aS bD; rw [ht] at bK bR bL ⊢; rw [hn] at bK bR bL ⊢; clear ht hn wq; obtain ⟨c2, c3, c4, ct, ft, fb, rm, l1, l2, l3, l4⟩ := bK.facts; have r0 := rm y0.toNat (UInt8.toNat_lt y0); have i0 : (0 : Int) <= (mp y0.toNat : Int) := by omega
  have j0 : (0 : Int) <= (y0.toNat : Int) := by omega
  have j1 : (y0.toNat : Int) < 256 := by have := UInt8.toNat_lt y0; omega
  have i1 : (mp y0.toNat : Int) < ts := by omega
  have bO : ∀ w, (Instr.index 9 (vs [y0]) (.int .i64 0)).run Tryz.prog w = .ok (.int .u8 (y0.toNat : Int)) w := fun _ => by kernel_rfl
  clear bK ct ft fb rm; go_still_tail 16, (by kernel_rfl)
  change wpList _ _ _ _ _ X.drew
  have dZ : X.drew.cell? ⟨t, mp y0.toNat, none⟩ = some nilP := bL.out.facts.2.2.2.1 _ _ (by simp [h0]); have dY := bL.out.facts.2.2.2.2.1 (mp y0.toNat); have l5 := bL.out.facts.2.2.2.2.2.2.2.2.1; go_upto_region 19 with fail; have cV := Hi (bR.out.set (mp y0.toNat) (Jd l0)).drew; have cD := Hi (bR.out.set (mp y0.toNat) (Jd l0)).drew.drew; obtain ⟨X2, cA⟩ : ∃ X2, (X.setCell ⟨t, mp y0.toNat, none⟩ (Jd l0)).drew = X2 := ⟨_, rfl⟩
  rw [cA] at cV cD ⊢; clear cA bR bL c2 c3 c4 l1 l2 l3 l4 r0 i0 i1 j0 j1 bO dZ dY l5; obtain ⟨c2, c3, c4, ct, ft, fb, rm, l1, l2, l3, l4⟩ := cV.out.facts; have r0 := rm y.toNat (UInt8.toNat_lt y); have i0 : (0 : Int) <= (mp y.toNat : Int) := by omega
  have i1 : (mp y.toNat : Int) < ts := by omega
  have j0 : (0 : Int) <= (y.toNat : Int) := by omega
  have j1 : (y.toNat : Int) < 256 := by have := UInt8.toNat_lt y; omega
  have bO : ∀ w, (Instr.index 9 (vs [y]) (.int .i64 0)).run Tryz.prog w = .ok (.int .u8 (y.toNat : Int)) w := fun _ => by kernel_rfl
  clear ct ft fb rm; go_still_tail 13, (by kernel_rfl)
  change wpList _ _ _ _ _ X2.drew
  have dZ : X2.drew.cell? ⟨t, mp y.toNat, none⟩ = some nilP := cD.out.facts.2.2.2.1 _ _ (by rw [Array.getElem?_setIfInBounds, if_neg h2]; simp [h1]); have dY := cD.out.facts.2.2.2.2.1 (mp y.toNat); have l5 := cD.out.facts.2.2.2.2.2.2.2.2.1; go_upto_region 20 with fail; have aJ := Hi (cV.out.set (mp y.toNat) (Jd n)).drew; obtain ⟨X4, bB⟩ : ∃ X4, (X2.setCell ⟨t, mp y.toNat, none⟩ (Jd n)).drew = X4 := ⟨_, rfl⟩
  rw [bB] at aJ ⊢; clear bB cV cD c2 c3 c4 l1 l2 l3 l4 r0 i0 i1 j0 j1 bO dZ dY l5; obtain ⟨c2, c3, c4, -, -, fb, -, l1, l2, l3, l4⟩ := aJ.out.facts; have f2 := fb 2; have f3 := fb 3; clear fb; go_wp2_with fail; have hN := aJ.out.node
  have eW : Zp ((X4.setCell ⟨b, 2, none⟩ (vs [])).setCell ⟨b, 3, none⟩ nilP) b [] 0 [] nilP (.slice (some ⟨t, 0, none⟩) ts ts) := by
   unfold Zp at *; simp [World.setCell, Array.getElem?_modify, hN]
  have eV : Zp ((X4.setCell ⟨b, 2, none⟩ (vs [])).setCell ⟨b, 3, none⟩ nilP) n [] 0 [] nilP (.slice none 0 0) := (Below.heap_setCell _ _ _ _ aJ.out.nb).trans ((Below.heap_setCell _ _ _ _ aJ.out.nb).trans aJ.out.zero); have cK : t ≠ b := fun e => Xq aJ.out.node aJ.out.tab e.symm; have eG : t ≠ n := fun e => Xq aJ.out.zero aJ.out.tab e.symm; have eU := (Below.heap_setCell (X4.setCell ⟨b, 2, none⟩ (vs [])) ⟨b, 3, none⟩ nilP t cK).trans ((Below.heap_setCell X4 ⟨b, 2, none⟩ (vs []) t cK).trans aJ.out.tab); have fB := Hi eW; have eZ := Hi eU; have gQ := Hi ((aJ.out.eff.setCell ⟨b, 2, none⟩ (Or.inl rfl) (vs [])).setCell ⟨b, 3, none⟩ (Or.inl rfl) nilP); have HL := Hi (Nn _ n r [] val q nilP (.slice none 0 0) eV); have fE := Hi (And.intro eG aJ.out.nb); have eC := Hi (And.intro aJ.out.nn aJ.out.nt); clear hN eW eV eU cK eG c2 c3 c4 f2 f3; refine HL.out.mono ?_; rintro e w1 ⟨rfl, g1, g2, g3⟩; have G1 := Hi g1; have G2 := Hi g2; clear g1 g2 g3; go_wp2_with fail; go_end0; exact ⟨rfl, t, n, eC.out.1, G1.out.lt, eC.out.2, (G2.out.block b fB.out.lt (fun e => fE.out.2 e.symm)).trans fB.out, G1.out, (G2.out.block t (lHp eZ.out) fE.out.1).trans eZ.out, gQ.out.fresh G2.out eC.out.1⟩
end
set_option maxRecDepth 100000
set_option maxHeartbeats 8000000
section
open Go.RowKit
attribute [local go_sem ↓] Go.wp_at_zero Go.wp_at_succ
def qb5 (w : World) (t m : Nat) (C : Array Value) (Q : World -> Nat -> Prop) (e : Ending) (w' : World) : Prop := e = .returned (.tuple #[]) /\ ∃ l, w.heap.size <= l /\ l < w'.heap.size /\ w'.heap[t]? = some (.cells (C.setIfInBounds m (Jd l)) 249 (0, 0)) /\ Q w' l /\ Eff t w w'
def No (R : World -> Prop) (e : Ending) (w' : World) : Prop := e = .returned (.tuple #[]) /\ R w'
theorem qhh (mp : Nat -> Nat) (ts tb : Nat) (w : World) (b r t : Nat) (C : Array Value) (y : UInt8) (val : Qa) (q : Int) (c2 : w.cell? ⟨b, 2, none⟩ = some (vs [])) (c4 : w.cell? ⟨b, 4, none⟩ = some (.slice (some ⟨t, 0, none⟩) ts ts)) (ht : w.heap[t]? = some (.cells C 249 (0, 0)))
 (hC : C[mp y.toNat]? = some (nilP)) (hg : GrB mp ts w r tb) (hm : mp y.toNat < ts) (cU : b ≠ t) :
 Calls Tryz.prog 181 #[Jd b, vs [y], vs val, .int .i64 q, Jd r] w (qb5 w t (mp y.toNat) C fun w' l => Yy w' l val q) := by
 have aZ : b < w.heap.size := World.block_lt_of_cell? _ _ c2; have aV := hg.lt; have r0 := hg.cells.2.2.2.2.2.2 y.toNat (UInt8.toNat_lt y)
 have cL : r ≠ t := by
  rintro rfl; obtain ⟨D, e, -⟩ := hg.is; rw [e] at ht; simp at ht
 have HT := Hi ht; have i0 : (0 : Int) <= (mp y.toNat : Int) := by omega
 have i1 : (mp y.toNat : Int) < ts := by omega
 have j0 : (0 : Int) <= (y.toNat : Int) := by omega
 have j1 : (y.toNat : Int) < 256 := by have := UInt8.toNat_lt y; omega
 have bO : ∀ w, (Instr.index 9 (vs [y]) (.int .i64 0)).run Tryz.prog w = .ok (.int .u8 (y.toNat : Int)) w := fun _ => by kernel_rfl
 have ct := cOb ht hC; have ft := fOb (o := mp y.toNat) ht; have bN := lHp ht; have aS : Hid (∀ nq, Eff t w (w.drewN nq)) := Hi fun nq => Eff.of_below ⟨rfl, rfl, rfl, lR _, fun _ _ => rfl⟩; clear hg ht hC; go_enter Tryz.func181, Tryz.ntmps181
 go_upto_region 28 with fail; go_quiet (fail)
 have HE := Hi (aS.out nq); have aY : Hid ((w.drewN nq).heap[t]? = some (.cells C 249 (0, 0))) := HT; have cC : (w.drewN nq).cell? ⟨b, 2, none⟩ = some (vs []) := c2; have aX : (w.drewN nq).cell? ⟨b, 4, none⟩ = some (.slice (some ⟨t, 0, none⟩) ts ts) := c4; have ct' : (w.drewN nq).cell? ⟨t, mp y.toNat, none⟩ = some nilP := ct; have ft' : (w.drewN nq).frozen? ⟨t, mp y.toNat, none⟩ = false := ft; have aQ : w.heap.size = (w.drewN nq).heap.size := rfl; generalize w.drewN nq = wq at HE aY cC aX ct' ft' aQ ⊢; have bD := Hi aQ; have aI : b < wq.heap.size := by omega
 have aP : t < wq.heap.size := by omega
 have dX : b < wq.heap.size + 1 := by omega
 have dW : t < wq.heap.size + 1 := by omega
 clear c2 c4 r0 ct ft aV aZ bN aQ HT aS; go_upto_region 31 with fail; have aF : Hid (((wq.setCell ⟨t, mp y.toNat, none⟩ (Jd wq.heap.size)).alloc (.cells #[vs [], .int .i64 0, vs [], nilP, .slice none 0 0] 252)).heap[t]? = some (.cells (C.setIfInBounds (mp y.toNat) (Jd wq.heap.size)) 249 (0, 0))) := Hi (Z8 (rSc aY.out)); have aM : Hid (Zp ((wq.setCell ⟨t, mp y.toNat, none⟩ (Jd wq.heap.size)).alloc (.cells #[vs [], .int .i64 0, vs [], nilP, .slice none 0 0] 252)) wq.heap.size [] 0 [] nilP (.slice none 0 0)) := Hi (J4 (by simp)); have aU : Hid (Eff t w ((wq.setCell ⟨t, mp y.toNat, none⟩ (Jd wq.heap.size)).alloc (.cells #[vs [], .int .i64 0, vs [], nilP, .slice none 0 0] 252))) := Hi (HE.out.trans (((Eff.refl t wq).setCell _ (Or.inl rfl) _).alloc _)); have bB : ((wq.setCell ⟨t, mp y.toNat, none⟩ (Jd wq.heap.size)).alloc (.cells #[vs [], .int .i64 0, vs [], nilP, .slice none 0 0] 252)).cell? ⟨b, 4, none⟩ = some (.slice (some ⟨t, 0, none⟩) ts ts) := (cOh ((Below.heap_alloc _ _ _ (by simpa using aI)).trans (Below.heap_setCell _ _ _ _ cU)) 4).trans aX
 have bX : mp y.toNat < C.size := by
  have h1 : w.heap.size = w.heap.size := rfl; simp [World.cell?, aY.out] at ct'; exact (Array.getElem?_eq_some_iff.1 ct').1
 obtain ⟨X, hX⟩ : ∃ X, ((wq.setCell ⟨t, mp y.toNat, none⟩ (Jd wq.heap.size)).alloc (.cells #[vs [], .int .i64 0, vs [], nilP, .slice none 0 0] 252)) = X := ⟨_, rfl⟩
 obtain ⟨n, hn⟩ : ∃ n, wq.heap.size = n := ⟨_, rfl⟩
 rw [hX] at aF aM aU bB ⊢; rw [hn] at aF aM ⊢; have HN := Hi (And.intro (bD.out.trans hn) (Xq aM.out aF.out)); have x1 : X.cell? ⟨t, mp y.toNat, none⟩ = some (Jd n) := cOb aF.out (by rw [Array.getElem?_setIfInBounds, if_pos rfl, if_pos bX]); have x2 := lHp aF.out; have x3 : b < X.heap.size := World.block_lt_of_cell? _ _ bB; clear hX hn cC aX ct' ft' aI aP dX dW aY HE bD bX; go_still_tail 12, (by kernel_rfl)
 change wpList _ _ _ _ _ X.drew
 go_wp2_with fail; refine (Nn X.drew n r [] val q nilP (.slice none 0 0) aM.out).mono ?_; rintro e w1 ⟨rfl, g1, g2, g3⟩; have G1 := Hi g1; have G2 := Hi ((Eff.of_below (Below.refl X.heap.size X).drew : Eff n X X.drew).trans g2); clear g1 g2 g3; go_wp2_with fail; go_end0; exact ⟨rfl, n, by have := HN.out.1; omega, G1.out.lt, (G2.out.block t x2 (fun e => HN.out.2 e.symm)).trans aF.out, G1.out, aU.out.fresh G2.out (by have := HN.out.1; omega)⟩
theorem qhg (mp : Nat -> Nat) (ts tb : Nat) (w : World) (b r t : Nat) (C : Array Value) (y : UInt8) (z : UInt8) (val : Qa) (q : Int) (c2 : w.cell? ⟨b, 2, none⟩ = some (vs [])) (c4 : w.cell? ⟨b, 4, none⟩ = some (.slice (some ⟨t, 0, none⟩) ts ts)) (ht : w.heap[t]? = some (.cells C 249 (0, 0)))
 (hC : C[mp y.toNat]? = some (nilP)) (hg : GrB mp ts w r tb) (hm : mp y.toNat < ts) (cU : b ≠ t) :
 Calls Tryz.prog 181 #[Jd b, vs [y, z], vs val, .int .i64 q, Jd r] w (qb5 w t (mp y.toNat) C fun w' n => ∃ l, w.heap.size <= l /\ l < w'.heap.size /\ Zp w' n [] 0 [z] (Jd l) (.slice none 0 0) /\ Yy w' l val q) := by
 have aZ : b < w.heap.size := World.block_lt_of_cell? _ _ c2; have aV := hg.lt; have r0 := hg.cells.2.2.2.2.2.2 y.toNat (UInt8.toNat_lt y)
 have cL : r ≠ t := by
  rintro rfl; obtain ⟨D, e, -⟩ := hg.is; rw [e] at ht; simp at ht
 have HT := Hi ht; have i0 : (0 : Int) <= (mp y.toNat : Int) := by omega
 have i1 : (mp y.toNat : Int) < ts := by omega
 have j0 : (0 : Int) <= (y.toNat : Int) := by omega
 have j1 : (y.toNat : Int) < 256 := by have := UInt8.toNat_lt y; omega
 have bO : ∀ w, (Instr.index 9 (vs [y, z]) (.int .i64 0)).run Tryz.prog w = .ok (.int .u8 (y.toNat : Int)) w := fun _ => by kernel_rfl
 have ct := cOb ht hC; have ft := fOb (o := mp y.toNat) ht; have bN := lHp ht; have aS : Hid (∀ nq, Eff t w (w.drewN nq)) := Hi fun nq => Eff.of_below ⟨rfl, rfl, rfl, lR _, fun _ _ => rfl⟩; clear hg ht hC; go_enter Tryz.func181, Tryz.ntmps181
 go_upto_region 28 with fail; go_quiet (fail)
 have HE := Hi (aS.out nq); have aY : Hid ((w.drewN nq).heap[t]? = some (.cells C 249 (0, 0))) := HT; have cC : (w.drewN nq).cell? ⟨b, 2, none⟩ = some (vs []) := c2; have aX : (w.drewN nq).cell? ⟨b, 4, none⟩ = some (.slice (some ⟨t, 0, none⟩) ts ts) := c4; have ct' : (w.drewN nq).cell? ⟨t, mp y.toNat, none⟩ = some nilP := ct; have ft' : (w.drewN nq).frozen? ⟨t, mp y.toNat, none⟩ = false := ft; have aQ : w.heap.size = (w.drewN nq).heap.size := rfl; generalize w.drewN nq = wq at HE aY cC aX ct' ft' aQ ⊢; have bD := Hi aQ; have aI : b < wq.heap.size := by omega
 have aP : t < wq.heap.size := by omega
 have dX : b < wq.heap.size + 1 := by omega
 have dW : t < wq.heap.size + 1 := by omega
 clear c2 c4 r0 ct ft aV aZ bN aQ HT aS; go_upto_region 31 with fail; have aF : Hid (((wq.setCell ⟨t, mp y.toNat, none⟩ (Jd wq.heap.size)).alloc (.cells #[vs [], .int .i64 0, vs [], nilP, .slice none 0 0] 252)).heap[t]? = some (.cells (C.setIfInBounds (mp y.toNat) (Jd wq.heap.size)) 249 (0, 0))) := Hi (Z8 (rSc aY.out)); have aM : Hid (Zp ((wq.setCell ⟨t, mp y.toNat, none⟩ (Jd wq.heap.size)).alloc (.cells #[vs [], .int .i64 0, vs [], nilP, .slice none 0 0] 252)) wq.heap.size [] 0 [] nilP (.slice none 0 0)) := Hi (J4 (by simp)); have aU : Hid (Eff t w ((wq.setCell ⟨t, mp y.toNat, none⟩ (Jd wq.heap.size)).alloc (.cells #[vs [], .int .i64 0, vs [], nilP, .slice none 0 0] 252))) := Hi (HE.out.trans (((Eff.refl t wq).setCell _ (Or.inl rfl) _).alloc _)); have bB : ((wq.setCell ⟨t, mp y.toNat, none⟩ (Jd wq.heap.size)).alloc (.cells #[vs [], .int .i64 0, vs [], nilP, .slice none 0 0] 252)).cell? ⟨b, 4, none⟩ = some (.slice (some ⟨t, 0, none⟩) ts ts) := (cOh ((Below.heap_alloc _ _ _ (by simpa using aI)).trans (Below.heap_setCell _ _ _ _ cU)) 4).trans aX
 have bX : mp y.toNat < C.size := by
  have h1 : w.heap.size = w.heap.size := rfl; simp [World.cell?, aY.out] at ct'; exact (Array.getElem?_eq_some_iff.1 ct').1
 obtain ⟨X, hX⟩ : ∃ X, ((wq.setCell ⟨t, mp y.toNat, none⟩ (Jd wq.heap.size)).alloc (.cells #[vs [], .int .i64 0, vs [], nilP, .slice none 0 0] 252)) = X := ⟨_, rfl⟩
 obtain ⟨n, hn⟩ : ∃ n, wq.heap.size = n := ⟨_, rfl⟩
 rw [hX] at aF aM aU bB ⊢; rw [hn] at aF aM ⊢; have HN := Hi (And.intro (bD.out.trans hn) (Xq aM.out aF.out)); have x1 : X.cell? ⟨t, mp y.toNat, none⟩ = some (Jd n) := cOb aF.out (by rw [Array.getElem?_setIfInBounds, if_pos rfl, if_pos bX]); have x2 := lHp aF.out; have x3 : b < X.heap.size := World.block_lt_of_cell? _ _ bB; clear hX hn cC aX ct' ft' aI aP dX dW aY HE bD bX; go_still_tail 12, (by kernel_rfl)
 change wpList _ _ _ _ _ X.drew
 go_wp2_with fail; refine (qi0 X.drew n r z val q aM.out).mono ?_; rintro e w1 ⟨rfl, l, g0, g1, g2, g3, g4⟩; have G2 := Hi g2; have G3 := Hi g3; have G4 := Hi ((Eff.of_below (Below.refl X.heap.size X).drew : Eff n X X.drew).trans g4); have G0 := Hi (And.intro g0 g1); clear g0 g1 g2 g3 g4; go_wp2_with fail; go_end0; have fW : w.heap.size <= X.heap.size := aU.out.size; exact ⟨rfl, n, by have := HN.out.1; omega, G2.out.lt, (G4.out.block t x2 (fun e => HN.out.2 e.symm)).trans aF.out, ⟨l, Nat.le_trans fW G0.out.1, G0.out.2, G2.out, G3.out⟩, aU.out.fresh G4.out (by have := HN.out.1; omega)⟩
theorem Si (mp : Nat -> Nat) (ts tb : Nat) (w : World) (b r t : Nat) (C : Array Value) (y : UInt8) (z : UInt8) (n : Nat) (R : World -> Prop) (val : Qa) (q : Int) (c2 : w.cell? ⟨b, 2, none⟩ = some (vs [])) (c4 : w.cell? ⟨b, 4, none⟩ = some (.slice (some ⟨t, 0, none⟩) ts ts)) (ht : w.heap[t]? = some (.cells C 249 (0, 0)))
 (hC : C[mp y.toNat]? = some (Jd n)) (hg : GrB mp ts w r tb) (hm : mp y.toNat < ts) (cU : b ≠ t) (hq : ∀ w1, w1.heap = w.heap -> w1.os = w.os -> w1.tape = w.tape -> w1.output = w.output -> Calls Tryz.prog 181 #[Jd n, vs [z], vs val, .int .i64 q, Jd r] w1 (No R)) :
 Calls Tryz.prog 181 #[Jd b, vs [y, z], vs val, .int .i64 q, Jd r] w (No R) := by
 have aZ : b < w.heap.size := World.block_lt_of_cell? _ _ c2; have aV := hg.lt; have r0 := hg.cells.2.2.2.2.2.2 y.toNat (UInt8.toNat_lt y)
 have cL : r ≠ t := by
  rintro rfl; obtain ⟨D, e, -⟩ := hg.is; rw [e] at ht; simp at ht
 have HT := Hi ht; have i0 : (0 : Int) <= (mp y.toNat : Int) := by omega
 have i1 : (mp y.toNat : Int) < ts := by omega
 have j0 : (0 : Int) <= (y.toNat : Int) := by omega
 have j1 : (y.toNat : Int) < 256 := by have := UInt8.toNat_lt y; omega
 have bO : ∀ w, (Instr.index 9 (vs [y, z]) (.int .i64 0)).run Tryz.prog w = .ok (.int .u8 (y.toNat : Int)) w := fun _ => by kernel_rfl
 have ct := cOb ht hC; have ft := fOb (o := mp y.toNat) ht; have bN := lHp ht; have aS : Hid (∀ nq, Eff t w (w.drewN nq)) := Hi fun nq => Eff.of_below ⟨rfl, rfl, rfl, lR _, fun _ _ => rfl⟩; have gW := Hi hq; clear hg ht hC hq; go_enter Tryz.func181, Tryz.ntmps181
 go_upto_region 28 with fail; go_quiet (fail)
 have fD := Hi (gW.out (w.drewN nq).drew rfl rfl rfl rfl); have aX : (w.drewN nq).cell? ⟨b, 4, none⟩ = some (.slice (some ⟨t, 0, none⟩) ts ts) := c4; have ct' : (w.drewN nq).cell? ⟨t, mp y.toNat, none⟩ = some (Jd n) := ct; have aI : b < (w.drewN nq).heap.size := aZ; have aP : t < (w.drewN nq).heap.size := bN; generalize w.drewN nq = wq at fD aX ct' aI aP ⊢; clear c2 c4 r0 ct ft aV aZ bN HT aS; go_upto_region 31 with fail; go_still_tail 12, (by kernel_rfl)
 change wpList _ _ _ _ _ wq.drew
 go_wp2_with fail; refine fD.out.mono ?_; rintro e w1 ⟨rfl, h1⟩; have H1 := Hi h1; clear h1; go_wp2_with fail; go_end0; exact ⟨rfl, H1.out⟩
