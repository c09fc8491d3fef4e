/- (*northern).north writes a formula. -/
import Derived.Test.YtbicmjmcdnkjhaaGreatDoorJAA7
import Derived.Deep.CutRange
import Derived.StillTailTactics
import Derived.Deep.RegionHeld3
import Derived.Deep.DrawnRows
set_option linter.unusedVariables false
set_option linter.unusedSimpArgs false
set_option maxRecDepth 20000
set_option maxHeartbeats 16000000
namespace Go.Proofs.YtbicmjmcdnkjhaaGreatDoor
section
open Go.RowKit
attribute [local go_sem ↓] Go.wp_at_zero Go.wp_at_succ
theorem Zm {w : World} {s : List UInt8} {t : TypeId} : ∀ (j : Nat) x, [s][j]? = some x -> ((w.alloc (.cells #[vs s] t)).drew).cell? ⟨w.heap.size, j, none⟩ = some (vs x) := fun j x hx => Uq j x hx
theorem Un : ∀ ks : List Qb, ks.length <= sizes ks
 | [] => Nat.zero_le _
 | k :: r => by
   have h1 := Zj k; have h2 := Un r; rw [sizes, List.length_cons]; omega
theorem Wb.kids {fm : Bool} {w : World} {b o k : Nat} {ks : List Qb} {t : Qb} (h : Wb fm w b o (ups ks)) (ht : ks[k]? = some t) : ∃ cs, (∀ j v, cs[j]? = some v -> w.cell? ⟨b, o + k * In fm + j, none⟩ = some v) /\ RdX fm w cs (up t) := h.get (qay ht)
theorem Yq {ks : List Qb} {k : Nat} {t : Qb} (h : ks[k]? = some t) : sizes (ks.take k) + t.size <= sizes ks := by
 rw [<- S9 h]; exact Dv ks (k + 1)
theorem Jp (w : World) (o : Obj) : Below w.heap.size w (w.alloc o) := (Below.refl _ _).alloc (lR _) _
def Vj (op : Nat) (name : Qa) (cmp n : Nat) : List Qa := if op = 1 then [[116, 114, 117, 101]] else if op = 2 then [[102, 97, 108, 115, 101]] else if op = 3 then [name, Ht.getD (cmp - 1) [], dec n] else if op = 4 then [name] else if op = 5 then [[110, 111, 116]] else []
def Vf (op : Nat) (name : Qa) : List Qa := if op = 3 \/ op = 4 then [name] else []
def Hy (op : Nat) : Qa := if op = 7 then wOr else wAnd
theorem qeo {op : Nat} {name : Qa} {cm m : Nat} {ks : List Qb} (h : Jn (.mk op name cm m ks) = true) : wF (.mk op name cm m ks) = Vj op name cm m ++ J1 (Hy op) (wFs (decide (op = 7)) ks) := by
 rw [Jn] at h; simp only [Bool.and_eq_true] at h; have h3 := h.1.2; rw [wF]; unfold Vj Hy
 by_cases o1 : op = 1
 · subst o1; have : ks = [] := by simpa using h3
   subst this; simp [wFs, J1]
 by_cases o2 : op = 2
 · subst o2; have : ks = [] := by simpa using h3
   subst this; simp [wFs, J1]
 by_cases o3 : op = 3
 · subst o3; have : ks = [] := by simpa using h3
   subst this; simp [wFs, J1]
 by_cases o4 : op = 4
 · subst o4; have : ks = [] := by simpa using h3
   subst this; simp [wFs, J1]
 by_cases o5 : op = 5
 · subst o5; have h1 : ks.length = 1 := by simpa using h3
   match ks, h1 with
   | [k], _ => simp [wFs, J1]
 by_cases o6 : op = 6
 · subst o6; simp
 by_cases o7 : op = 7
 · subst o7; simp
 simp [o1, o2, o3, o4, o5, o6, o7] at h3
theorem Rt {op : Nat} {name : Qa} {cm m : Nat} {ks : List Qb} (h : Jn (.mk op name cm m ks) = true) : (op = 1 \/ op = 2 \/ op = 3 \/ op = 4 \/ op = 5 \/ op = 6 \/ op = 7) /\ (op = 3 -> 1 <= cm /\ cm <= 6 /\ m <= 1000000) /\ (ks = [] \/ op = 5 /\ ks.length = 1 \/ op = 6 \/ op = 7) /\ Ze ks = true := by
 rw [Jn] at h; simp only [Bool.and_eq_true] at h; obtain ⟨⟨⟨h1, h2⟩, h3⟩, h4⟩ := h; refine ⟨?_, fun o3 => ?_, ?_, h4⟩
 · by_cases o : op = 1 \/ op = 2 \/ op = 3 \/ op = 4
   · omega
   · rw [if_neg o] at h3
     split at h3
     · omega
     · split at h3
       · omega
       · cases h3
 · rw [if_pos o3] at h1; simp only [Bool.and_eq_true, decide_eq_true_eq] at h1; omega
 · by_cases o : op = 1 \/ op = 2 \/ op = 3 \/ op = 4
   · rw [if_pos o] at h3; exact Or.inl (by simpa using h3)
   · rw [if_neg o] at h3
     split at h3
     · rename_i o5; exact Or.inr (Or.inl ⟨o5, by simpa using h3⟩)
     · split at h3
       · omega
       · cases h3
theorem qbk (W w1 : World) (p : Nat) (T : TypeId) (S1 : Nat -> Prop) (L N X Y : List Qa) (bw bk k1 q1 : Nat) (o1 : Int) (n1 : List UInt8) (d1 m1 : Int) (B1 : Option Addr) (Tp Tf : TypeId) (h1 : w1.heap[bw]? = some (.cells #[.pointer (some ⟨p, 0, none⟩)] Tp (0, 0))) (h2 : w1.heap[bk]? = some (.cells #[.int .i64 o1, vs n1, .int .i64 d1, .int .i64 m1, .slice B1 k1 q1] Tf (0, 0)))
 (hc : Calls Tryz.prog 30 #[.pointer (some ⟨p, 0, none⟩), .agg #[.int .i64 o1, vs n1, .int .i64 d1, .int .i64 m1, .slice B1 k1 q1]] w1 (Zy W w1 p T S1 X Y)) : Calls Tryz.prog 64 #[.pointer (some ⟨bw, 0, none⟩), .pointer (some ⟨bk, 0, none⟩)] w1 (Zy W w1 p T S1 X Y) := by
 have z : w1.cell? ⟨bw, 0, none⟩ = some (.pointer (some ⟨p, 0, none⟩)) := cOb h1 rfl; have z0 : w1.cell? ⟨bk, 0, none⟩ = some (.int .i64 o1) := cOb h2 rfl; have z1 : w1.cell? ⟨bk, 1, none⟩ = some (vs n1) := cOb h2 rfl; have z2 : w1.cell? ⟨bk, 2, none⟩ = some (.int .i64 d1) := cOb h2 rfl; have z3 : w1.cell? ⟨bk, 3, none⟩ = some (.int .i64 m1) := cOb h2 rfl; have z4 : w1.cell? ⟨bk, 4, none⟩ = some (.slice B1 k1 q1) := cOb h2 rfl; have y1 := lHp h1; have y2 := lHp h2; have HC := Hi hc; clear h1 h2 hc; go_enter Tryz.func64, Tryz.ntmps64
 go_wp2_with fail; refine HC.out.mono ?_; rintro e w3 ⟨rfl, S', hw, hf⟩; have HW := Hi hw; have HF := Hi hf; clear hw hf; go_wp2_with fail; go_end0; exact ⟨rfl, S', HW.out, HF.out⟩
theorem qj5 (b : Bool) (sp : Qa) {ks : List Qb} {k : Nat} {t : Qb} (h : ks[k]? = some t) : J1 sp (wFs b (ks.take (k + 1))) = J1 sp (wFs b (ks.take k)) ++ ((if k = 0 then [] else [sp]) ++ Jt b t 6 7 (wF t)) := by
 have hk := (List.getElem?_eq_some_iff.1 h).1; rw [Hf b h, O1]
 congr 2
 cases k with
 | zero => simp [wFs]
 | succ k =>
   have : wFs b (ks.take (k + 1)) ≠ [] := by
    intro e; have := congrArg List.length e; rw [qhq, List.length_take, List.length_nil] at this; omega
   rw [if_neg this, if_neg (by omega)]
theorem qc8 (W : World) (ht : Xp W) : ∀ (M : Nat) (t : Qb) (cs : List Value) (w : World) (p : Nat) (T : TypeId) (S : Nat -> Prop) (L N : List Qa), t.size <= M -> Jn t = true -> L.length + 6 * t.size <= 900000 -> N.length + t.size <= 900000 -> RdX true W cs (up t) -> Wr W w p T S L N ->
 Calls Tryz.prog 30 #[.pointer (some ⟨p, 0, none⟩), .agg cs.toArray] w (Zy W w p T S (L ++ wF t) (N ++ Ql t)) := by
 intro M
 induction M with
 | zero =>
   intro t cs w p T S L N hM; have := Zj t; omega
 | succ M ih =>
   intro t cs w p T S L N hM hs cT cS hr hw; have IH := Hi ih; obtain ⟨op, name, cm, m, ks⟩ := t; rw [up] at hr; obtain ⟨A1, p1, rfl, -, bT⟩ := hr; have HK := Hi bT; rw [Z3] at *; have dS := Un ks; simp only [Qb.size] at hM cT cS; simp only [tcX]; obtain ⟨oi, bA⟩ : ∃ oi : Int, (op : Int) = oi := ⟨_, rfl⟩
   rw [bA]; have aC : Hid (NB W w ((w.alloc (.cells #[.pointer (some ⟨p, 0, none⟩)] 100)).alloc (.cells #[.int .i64 oi, vs name, .int .i64 (cm : Int), .int .i64 (m : Int), .slice A1 ks.length p1] 24)) p T S S L N w.heap.size (w.heap.size + 1) 100 24 #[.int .i64 oi, vs name, .int .i64 (cm : Int), .int .i64 (m : Int), .slice A1 ks.length p1]) := Hi (NB.start hw); obtain ⟨s1, s2, s3, s4⟩ := Rt hs; have dD := Hi s2; have dC := Hi s3; have dB := Hi s4; have cY := Hi (qeo hs); have dE : Hid (Ql (.mk op name cm m ks) = Vf op name ++ Qy ks) := Hi (by rw [Ql]; rfl); have HT := Hi ht; have cP : (op = 1 /\ oi = 1) \/ (op = 2 /\ oi = 2) \/ (op = 3 /\ oi = 3) \/ (op = 4 /\ oi = 4) \/ (op = 5 /\ oi = 5) \/ (op = 6 /\ oi = 6) \/ (op = 7 /\ oi = 7) := by omega
   have bY := Hi bA; clear ih bT hs hw ht s1 s2 s3 s4 bA; have dR : ∀ (fn : Fn) (first cap : Array Value) (w : World), (Instr.makeFunc fn first cap).run Tryz.prog w = .ok (.func fn first cap) w := fun _ _ _ _ => rfl; go_enter Tryz.func30, Tryz.ntmps30
   go_upto_block 0 with fail
   go_cut [2, 3] from 0 (fun s2 s3 wc => s2 = .pointer (some ⟨w.heap.size, 0, none⟩) /\ s3 = .pointer (some ⟨w.heap.size + 1, 0, none⟩) /\ ∃ S', NB W w wc p T S S' (L ++ Vj op name cm m) (N ++ Vf op name) w.heap.size (w.heap.size + 1) 100 24 #[.int .i64 oi, vs name, .int .i64 (cm : Int), .int .i64 (m : Int), .slice A1 ks.length p1])
   case first =>
    obtain ⟨y1, y2, z0⟩ := aC.out.lts; have zn := cOb (o := 1) aC.out.bx2 rfl; have zm := cOb (o := 3) aC.out.bx2 rfl; rcases cP with ⟨rfl, rfl⟩ | ⟨rfl, rfl⟩ | ⟨rfl, rfl⟩ | ⟨rfl, rfl⟩ | ⟨rfl, rfl⟩ | ⟨rfl, rfl⟩ | ⟨rfl, rfl⟩
    · go_wp2_with fail; refine (Xy W _ p T S L N [116, 114, 117, 101] _ (by simp) aC.out.wr (by omega)).mono ?_; rintro e w1 ⟨rfl, S1, aJ, aL⟩; have aG := Hi (aC.out.step aJ aL); clear aJ aL; go_wp2_with fail; go_meet
      case rel => exact ⟨rfl, rfl, S1, by have := aG.out; simpa [Vj, Vf] using this⟩
    · go_wp2_with fail; refine (Xy W _ p T S L N [102, 97, 108, 115, 101] _ (by simp) aC.out.wr (by omega)).mono ?_; rintro e w1 ⟨rfl, S1, aJ, aL⟩; have aG := Hi (aC.out.step aJ aL); clear aJ aL; go_wp2_with fail; go_meet
      case rel => exact ⟨rfl, rfl, S1, by have := aG.out; simpa [Vj, Vf] using this⟩
    · obtain ⟨dV, dU, dQ⟩ := dD.out rfl; have dG := aC.out.wr.fresh; go_upto_region 8 with fail; have aH := Hi (aC.out.alloc (.cells #[vs [], vs [61], vs [33, 61], vs [60], vs [60, 61], vs [62], vs [62, 61]] 101)); have bQ := J4 (w := ((w.alloc (.cells #[.pointer (some ⟨p, 0, none⟩)] 100)).alloc (.cells #[.int .i64 3, vs name, .int .i64 (cm : Int), .int .i64 (m : Int), .slice A1 ks.length p1] 24))) (o := .cells #[vs [], vs [61], vs [33, 61], vs [60], vs [60, 61], vs [62], vs [62, 61]] 101) (b := w.heap.size + 1 + 1) (by simp); have dF : ¬ S (w.heap.size + 1 + 1) := by simpa using dG
      obtain ⟨X, hX⟩ : ∃ X, (((w.alloc (.cells #[.pointer (some ⟨p, 0, none⟩)] 100)).alloc (.cells #[.int .i64 3, vs name, .int .i64 (cm : Int), .int .i64 (m : Int), .slice A1 ks.length p1] 24)).alloc (.cells #[vs [], vs [61], vs [33, 61], vs [60], vs [60, 61], vs [62], vs [62, 61]] 101)) = X := ⟨_, rfl⟩
      rw [hX] at aH bQ ⊢; obtain ⟨x1, x2, x0⟩ := aH.out.lts; have xn := cOb (o := 1) aH.out.bx2 rfl; have dJ := Hi (And.intro bQ dF); clear y1 y2 z0 zn zm hX bQ dF dG; go_still_tail 5, (by kernel_rfl)
      change wpList _ _ _ _ _ X.drew
      go_wp2_with fail; refine (Wz W _ p T S L N name (aH.out.wr.keep (Below.refl _ _).drew) (by omega) (by omega)).mono ?_; rintro e w1 ⟨rfl, S1, aJ, aL⟩; have bW := (J8.of_below S ((Below.refl X.heap.size X).drew)).trans aL; obtain ⟨g1, g2⟩ := bW.box dJ.out.1 dJ.out.2; have bH := Hi (And.intro g1 g2); have cO := Hi (aH.out.step aJ bW); clear aJ aL bW x1 x2 x0 xn g1 g2; obtain ⟨x1, x2, x0⟩ := cO.out.lts; have xc := cOb (o := 2) cO.out.bx2 rfl; obtain ⟨sg, bQ⟩ : ∃ sg, Ht.getD (cm - 1) [] = sg := ⟨_, rfl⟩
      have dI : Hid ((#[vs [], vs [61], vs [33, 61], vs [60], vs [60, 61], vs [62], vs [62, 61]] : Array Value)[cm]? = some (vs sg)) := Hi (by
       obtain rfl | rfl | rfl | rfl | rfl | rfl : cm = 1 \/ cm = 2 \/ cm = 3 \/ cm = 4 \/ cm = 5 \/ cm = 6 := by omega
       all_goals rw [<- bQ]; rfl)
      have xcs : w1.cell? ⟨w.heap.size + 1 + 1, cm, none⟩ = some (vs sg) := cOb bH.out.1 dI.out; have dA := Hi bQ; have x3 := lHp bH.out.1; have dX : (0 : Int) <= cm := (by omega)
      have dW : (cm : Int) < 7 := (by omega)
      clear bQ; go_wp2_with fail; go_region_held3 (fun w' => w'.cell? ⟨w.heap.size, 0, none⟩ = some (.pointer (some ⟨p, 0, none⟩)) /\ w'.cell? ⟨w.heap.size + 1, 2, none⟩ = some (.int .i64 cm) /\ w'.cell? ⟨w.heap.size + 1 + 1, cm, none⟩ = some (vs sg)) (go_keep) ((go_at_call 27; refine (Z9 W _ p T S1 (L ++ [name]) (N ++ [name]) [sg] _ 1 (cO.out.wr.keep (((Below.refl _ _).alloc (lR _) _).drew)) Zm (by simp; omega)).mono ?_; rintro e w2 ⟨rfl, S2, aE, aF⟩; have aA := (J8.of_below S1 (((Below.refl w1.heap.size w1).alloc (lR _) _).drew)).trans aF; have q3 := cOb (aA.box bH.out.1 bH.out.2).1 dI.out; have aB := Hi (cO.out.step aE aA); have q1 := aB.out.lts.2.2; have q2 := cOb (o := 2) aB.out.bx2 rfl; clear aE aF aA))
      clear x1 x2 x0 xc xcs x3 q1 q2 q3; obtain ⟨x1, x2, x0⟩ := aB.out.lts; have xm := cOb (o := 3) aB.out.bx2 rfl; go_wp2_with fail; go_still_tail 5, (by kernel_rfl)
      change wpList _ _ _ _ _ w2.drew
      go_wp2_with fail; refine (Ul W _ p T S2 (L ++ [name] ++ [sg]) (N ++ [name]) m (aB.out.wr.keep (Below.refl _ _).drew) (by omega) (by simp; omega) HT.out).mono ?_; rintro e w5 ⟨rfl, S5, aP, aQ⟩; have aD := Hi (aB.out.step aP ((J8.of_below S2 ((Below.refl w2.heap.size w2).drew)).trans aQ)); clear aP aQ x1 x2 x0 xm; go_wp2_with fail; go_meet
      case rel => exact ⟨rfl, rfl, S5, by have := aD.out; rw [<- dA.out] at this; simpa [Vj, Vf] using this⟩
    · go_upto_region 12 with fail; obtain ⟨X, hX⟩ : ∃ X, ((w.alloc (.cells #[.pointer (some ⟨p, 0, none⟩)] 100)).alloc (.cells #[.int .i64 4, vs name, .int .i64 (cm : Int), .int .i64 (m : Int), .slice A1 ks.length p1] 24)) = X := ⟨_, rfl⟩
      rw [hX] at aC y1 y2 z0 zn zm ⊢; clear hX; go_still_tail 5, (by kernel_rfl)
      change wpList _ _ _ _ _ X.drew
      go_wp2_with fail; refine (Wz W _ p T S L N name (aC.out.wr.keep (Below.refl _ _).drew) (by omega) (by omega)).mono ?_; rintro e w1 ⟨rfl, S1, aJ, aL⟩; have aG := Hi (aC.out.step aJ ((J8.of_below S ((Below.refl _ _).drew)).trans aL)); clear aJ aL; go_wp2_with fail; go_meet
      case rel => exact ⟨rfl, rfl, S1, by have := aG.out; simpa [Vj, Vf] using this⟩
    · go_wp2_with fail; refine (Xy W _ p T S L N [110, 111, 116] _ (by simp) aC.out.wr (by omega)).mono ?_; rintro e w1 ⟨rfl, S1, aJ, aL⟩; have aG := Hi (aC.out.step aJ aL); clear aJ aL; go_wp2_with fail; go_meet
      case rel => exact ⟨rfl, rfl, S1, by have := aG.out; simpa [Vj, Vf] using this⟩
    · go_wp2_with fail; go_meet
      case rel => exact ⟨rfl, rfl, S, by have := aC.out; simpa [Vj, Vf] using this⟩
    · go_wp2_with fail; go_meet
      case rel => exact ⟨rfl, rfl, S, by have := aC.out; simpa [Vj, Vf] using this⟩
   case rest =>
    obtain ⟨rfl, rfl, S0, bB⟩ := hcut; have cA := Hi bB; obtain ⟨y1, y2, z0⟩ := bB.lts; have zk := cOb (o := 4) bB.bx2 rfl
    have cJ : (Vj op name cm m).length <= 3 := by
     unfold Vj
     repeat' split
     all_goals simp
    have cF : (Vf op name).length <= 1 := by
     unfold Vf
     split <;> simp
    clear bB; go_wp2_with fail; go_loopw [65] (fun v wr => ∃ k : Nat, k <= ks.length /\ v = .int .i64 k /\ ∃ S', NB W w wr p T S S' (L ++ Vj op name cm m ++ J1 (Hy op) (wFs (decide (op = 7)) (ks.take k))) (N ++ Vf op name ++ Qy (ks.take k)) w.heap.size (w.heap.size + 1) 100 24 #[.int .i64 oi, vs name, .int .i64 (cm : Int), .int .i64 (m : Int), .slice A1 ks.length p1]) (fun v _ => ks.length - (intOf v).toNat)
    case atStart => exact ⟨0, Nat.zero_le _, rfl, S0, by have := cA.out; simpa [wFs, J1, Qy] using this⟩
    case round =>
     obtain ⟨k, hk, rfl, S1, aO⟩ := hrel; have aG := Hi aO; have aV := Hi aO.wr.below; obtain ⟨x1, x2, x0⟩ := aO.lts; clear aO y1 y2 z0 zk
     by_cases bC : k < ks.length
     · obtain ⟨t, ht⟩ := gLt bC; have cM := Hi ht; have cG : ks ≠ [] := by rintro rfl; simp at bC
       have aW : ups ks ≠ [] := by
        intro e; have := congrArg List.length e; rw [Z3] at this; simp at this; exact cG this
       obtain ⟨b, q, rfl, aZ, cL⟩ := HK.out.resolve_left aW; obtain ⟨cs, hc, bR⟩ := cL.kids ht; have dN := Yq ht; have cE := I1 dB.out ht; have dP := qjt (decide (op = 7)) (Hy op) (ks.take k); have dO := Yb (ks.take k); have cN := Hi cE; have bI := Hi bR; obtain ⟨o1, n1, c1, m1, k1⟩ := t; rw [up] at bR; obtain ⟨B1, q1, rfl, -, -⟩ := bR; rw [Z3] at hc bI; obtain ⟨kl, cK⟩ : ∃ kl, k1.length = kl := ⟨_, rfl⟩
       obtain ⟨i1, bV⟩ : ∃ i1 : Int, (o1 : Int) = i1 := ⟨_, rfl⟩
       obtain ⟨ci, dH⟩ : ∃ ci : Int, (c1 : Int) = ci := ⟨_, rfl⟩
       obtain ⟨mi, cI⟩ : ∃ mi : Int, (m1 : Int) = mi := ⟨_, rfl⟩
       have cZ : Hid (tcX true (o1 : Int) n1 (c1 : Int) (m1 : Int) (.slice B1 k1.length q1) = [.int .i64 i1, vs n1, .int .i64 ci, .int .i64 mi, .slice B1 kl q1]) := Hi (by rw [cK, bV, dH, cI]; rfl); rw [cZ.out] at hc bI; have bP := Hi bV; have z0 : wr.cell? ⟨b, q + k * 5, none⟩ = some (.int .i64 i1) := (aV.out.cell (p := ⟨b, q + k * 5, none⟩) aZ).trans (hc 0 _ rfl); have z1 : wr.cell? ⟨b, q + k * 5 + 1, none⟩ = some (vs n1) := (aV.out.cell (p := ⟨b, q + k * 5 + 1, none⟩) aZ).trans (hc 1 _ rfl); have z2 : wr.cell? ⟨b, q + k * 5 + 2, none⟩ = some (.int .i64 ci) := (aV.out.cell (p := ⟨b, q + k * 5 + 2, none⟩) aZ).trans (hc 2 _ rfl); have z3 : wr.cell? ⟨b, q + k * 5 + 3, none⟩ = some (.int .i64 mi) := (aV.out.cell (p := ⟨b, q + k * 5 + 3, none⟩) aZ).trans (hc 3 _ rfl); have z4 : wr.cell? ⟨b, q + k * 5 + 4, none⟩ = some (.slice B1 kl q1) := (aV.out.cell (p := ⟨b, q + k * 5 + 4, none⟩) aZ).trans (hc 4 _ rfl); have bT : (k : Int) < ks.length := (by omega)
       have dT : (0 : Int) <= k := (by omega)
       have cV : b < wr.heap.size := by have := aV.out.size; omega
       have x5 : ¬ S1 wr.heap.size := aG.out.wr.fresh; have bX := Hi x5; have bO : Hid ((wr.alloc (.cells #[.int .i64 i1, vs n1, .int .i64 ci, .int .i64 mi, .slice B1 kl q1] 24)).heap[wr.heap.size]? = some (.cells #[.int .i64 i1, vs n1, .int .i64 ci, .int .i64 mi, .slice B1 kl q1] 24 (0, 0))) := Hi (J4 rfl); clear hc cL cG aW cK bV dH cI cE ht x5; go_upto_if 71 with fail; go_cut [6, 65] from 65 to 97 (fun sb si wd => si = .int .i64 k /\ sb = .pointer (some ⟨wr.heap.size, 0, none⟩) /\ wd.heap[wr.heap.size]? = some (.cells #[.int .i64 i1, vs n1, .int .i64 ci, .int .i64 mi, .slice B1 kl q1] 24 (0, 0)) /\ ∃ S2, NB W w wd p T S S2 ((L ++ Vj op name cm m ++ J1 (Hy op) (wFs (decide (op = 7)) (ks.take k))) ++ (if k = 0 then [] else [Hy op])) (N ++ Vf op name ++ Qy (ks.take k)) w.heap.size (w.heap.size + 1) 100 24 #[.int .i64 oi, vs name, .int .i64 (cm : Int), .int .i64 (m : Int), .slice (some ⟨b, q, none⟩) ks.length p1] /\ ¬ S2 wr.heap.size)
       case first =>
        by_cases bD : k = 0
        · have bS : ¬ (0 : Int) < k := by omega
          have bN := Hi bD; clear bD; go_wp2_with fail; go_meet
          case rel => exact ⟨rfl, rfl, bO.out, S1, by rw [if_pos bN.out, List.append_nil]; exact aG.out.alloc _, bX.out⟩
        · have bS : (0 : Int) < k := by omega
          have bN := Hi bD
          have cQ : (op = 6 /\ oi = 6) \/ (op = 7 /\ oi = 7) := by
           have h3 := dC.out; have bA := bY.out; rcases h3 with h3 | h3
           · rw [h3] at bC; simp at bC
           · omega
          have aH := Hi (aG.out.alloc (.cells #[.int .i64 i1, vs n1, .int .i64 ci, .int .i64 mi, .slice B1 kl q1] 24)); obtain ⟨X, hX⟩ : ∃ X, wr.alloc (.cells #[.int .i64 i1, vs n1, .int .i64 ci, .int .i64 mi, .slice B1 kl q1] 24) = X := ⟨_, rfl⟩
          rw [hX] at bO aH ⊢; obtain ⟨dK, cD, dL⟩ := aH.out.lts; have zo := cOb (o := 0) aH.out.bx2 rfl; clear hX bD z0 z1 z2 z3 z4 x1 x2 x0; rcases cQ with ⟨e1, e2⟩ | ⟨e1, e2⟩
          · have bZ : Hid (Hy op = [97, 110, 100]) := Hi (by rw [e1]; rfl); have zo' : X.cell? ⟨w.heap.size + 1, 0, none⟩ = some (.int .i64 6) := by rw [zo]; exact congrArg (fun z => some (Value.int .i64 z)) e2
            have bU : ∀ w, (Instr.index 102 (.agg #[vs [], vs [], vs [], vs [], vs [], vs [], vs [97, 110, 100], vs [111, 114]]) (.int .i64 6)).run Tryz.prog w = .ok (vs [97, 110, 100]) w := fun _ => by kernel_rfl
            clear e1 e2 zo; go_wp2_with fail; go_region_held3 (fun w' => w'.cell? ⟨w.heap.size, 0, none⟩ = some (.pointer (some ⟨p, 0, none⟩)) /\ w'.cell? ⟨w.heap.size + 1, 0, none⟩ = some (.int .i64 6)) (go_keep) ((go_at_call 27; refine (Z9 W _ p T S1 (L ++ Vj op name cm m ++ J1 (Hy op) (wFs (decide (op = 7)) (ks.take k))) (N ++ Vf op name ++ Qy (ks.take k)) [[97, 110, 100]] _ 1 (aH.out.wr.keep (((Below.refl _ _).alloc (lR _) _).drew)) Zm (by simp; omega)).mono ?_; rintro e w2 ⟨rfl, S2, aE, aF⟩; have aA := (J8.of_below S1 (((Below.refl X.heap.size X).alloc (lR _) _).drew)).trans aF; have aY := Hi (aA.box bO.out bX.out); have aB := Hi (aH.out.step aE aA); have r1 := aB.out.lts.2.2; have r2 : w2.cell? ⟨w.heap.size + 1, 0, none⟩ = some (.int .i64 6) := ((cOh (aA.block _ cD aH.out.n2) 0).trans zo'); clear aE aF aA))
            go_wp2_with fail; go_meet
            case rel => exact ⟨rfl, rfl, aY.out.1, S2, by have h4 := aB.out; rw [<- bZ.out] at h4; rw [if_neg bN.out]; exact h4, aY.out.2⟩
          · have bZ : Hid (Hy op = [111, 114]) := Hi (by rw [e1]; rfl); have zo' : X.cell? ⟨w.heap.size + 1, 0, none⟩ = some (.int .i64 7) := by rw [zo]; exact congrArg (fun z => some (Value.int .i64 z)) e2
            have bU : ∀ w, (Instr.index 102 (.agg #[vs [], vs [], vs [], vs [], vs [], vs [], vs [97, 110, 100], vs [111, 114]]) (.int .i64 7)).run Tryz.prog w = .ok (vs [111, 114]) w := fun _ => by kernel_rfl
            clear e1 e2 zo; go_wp2_with fail; go_region_held3 (fun w' => w'.cell? ⟨w.heap.size, 0, none⟩ = some (.pointer (some ⟨p, 0, none⟩)) /\ w'.cell? ⟨w.heap.size + 1, 0, none⟩ = some (.int .i64 7)) (go_keep) ((go_at_call 27; refine (Z9 W _ p T S1 (L ++ Vj op name cm m ++ J1 (Hy op) (wFs (decide (op = 7)) (ks.take k))) (N ++ Vf op name ++ Qy (ks.take k)) [[111, 114]] _ 1 (aH.out.wr.keep (((Below.refl _ _).alloc (lR _) _).drew)) Zm (by simp; omega)).mono ?_; rintro e w2 ⟨rfl, S2, aE, aF⟩; have aA := (J8.of_below S1 (((Below.refl X.heap.size X).alloc (lR _) _).drew)).trans aF; have aY := Hi (aA.box bO.out bX.out); have aB := Hi (aH.out.step aE aA); have r1 := aB.out.lts.2.2; have r2 : w2.cell? ⟨w.heap.size + 1, 0, none⟩ = some (.int .i64 7) := ((cOh (aA.block _ cD aH.out.n2) 0).trans zo'); clear aE aF aA))
            go_wp2_with fail; go_meet
            case rel => exact ⟨rfl, rfl, aY.out.1, S2, by have h4 := aB.out; rw [<- bZ.out] at h4; rw [if_neg bN.out]; exact h4, aY.out.2⟩
       case rest =>
        obtain ⟨rfl, rfl, bE, S2, aN, cH⟩ := hcut; have aU := Hi (And.intro bE cH); have aD := Hi aN; obtain ⟨y1, y2, y0⟩ := aN.lts; have zo := cOb (o := 0) aN.bx2 rfl; have zk := cOb (o := 0) bE rfl; have y3 := lHp bE; have bK := Hi (qj5 (decide (op = 7)) (Hy op) cM.out); have bJ := Hi (U0 cM.out); obtain ⟨LP, bG⟩ : ∃ LP, ((L ++ Vj op name cm m ++ J1 (Hy op) (wFs (decide (op = 7)) (ks.take k))) ++ (if k = 0 then [] else [Hy op])) = LP := ⟨_, rfl⟩
        obtain ⟨NP, bF⟩ : ∃ NP, (N ++ Vf op name ++ Qy (ks.take k)) = NP := ⟨_, rfl⟩
        have cX : LP.length <= L.length + 4 + 6 * sizes (ks.take k) := by
         rw [<- bG]; simp only [List.length_append]; have : (if k = 0 then ([] : List Qa) else [Hy op]).length <= 1 := by split <;> simp
         omega
        have cW : NP.length <= N.length + 1 + sizes (ks.take k) := by
         rw [<- bF]; simp only [List.length_append]; omega
        rw [bG, bF] at aD; have bM := Hi bG; have bL := Hi bF; have aX : Hid (∀ w1 S', Wr W w1 p T S' (LP ++ [wLp]) NP -> J8 S2 S' wc w1 -> Calls Tryz.prog 64 #[.pointer (some ⟨w.heap.size, 0, none⟩), .pointer (some ⟨wr.heap.size, 0, none⟩)] w1 (Zy W w1 p T S' (LP ++ [wLp] ++ wF (.mk o1 n1 c1 m1 k1)) (NP ++ Ql (.mk o1 n1 c1 m1 k1)))) := Hi (fun w1 S' h1 h2 => qbk W w1 p T S' L N _ _ _ _ _ _ _ _ _ _ _ _ _ (h2.box aD.out.bx1 aD.out.n1).1 (h2.box aU.out.1 aU.out.2).1 (IH.out (.mk o1 n1 c1 m1 k1) _ w1 p T S' (LP ++ [wLp]) NP (by omega) cN.out (by simp only [List.length_append, List.length_cons, List.length_nil]; omega) (by omega) bI.out h1)); have aR : Hid (Calls Tryz.prog 64 #[.pointer (some ⟨w.heap.size, 0, none⟩), .pointer (some ⟨wr.heap.size, 0, none⟩)] wc (Zy W wc p T S2 (LP ++ wF (.mk o1 n1 c1 m1 k1)) (NP ++ Ql (.mk o1 n1 c1 m1 k1)))) := Hi (qbk W wc p T S2 L N _ _ _ _ _ _ _ _ _ _ _ _ _ aD.out.bx1 aU.out.1 (IH.out (.mk o1 n1 c1 m1 k1) _ wc p T S2 LP NP (by omega) cN.out (by omega) (by omega) bI.out aD.out.wr)); have dM := Pg (.mk o1 n1 c1 m1 k1); clear bE cH aN bG bF z0 z1 z2 z3 z4 x1 x2 x0
        by_cases k7 : o1 = 7
        · have e1 : (i1 == 7) = true := by have := bP.out; simp; omega
          have aM := Hi k7; clear k7; go_wp2_with fail; refine (Rf W _ p T S2 LP NP (wF (.mk o1 n1 c1 m1 k1)) (Ql (.mk o1 n1 c1 m1 k1)) 64 _ aD.out.wr (by omega) (W5 Tryz.func64 (by kernel_rfl) rfl) aX.out).mono ?_; rintro e w6 ⟨rfl, S6, aI, aK⟩; have aT := Hi (aD.out.step aI aK); clear aI aK; go_wp2_with fail; refine ⟨⟨k + 1, by omega, by go_num, S6, ?_⟩, by simp [intOf]; omega⟩; rw [bK.out, bJ.out]; have := aT.out; rw [<- bM.out, <- bL.out] at this
          have aS : Jt (decide (op = 7)) (.mk o1 n1 c1 m1 k1) 6 7 (wF (.mk o1 n1 c1 m1 k1)) = wLp :: (wF (.mk o1 n1 c1 m1 k1) ++ [wRp]) := by
           unfold Jt; rw [if_pos (Or.inl aM.out)]
          rw [aS]; simpa [List.append_assoc] using this
        have e1 : (i1 == 7) = false := by have := bP.out; simp; omega
        by_cases k6 : o1 = 6
        · have e2 : (i1 == 6) = true := by have := bP.out; simp; omega
          by_cases o7 : op = 7
          · have e3 : (oi != 7) = false := by have := bY.out; simp; omega
            have aM := Hi (And.intro k7 (And.intro k6 o7)); clear k7 k6 o7; go_wp2_with fail; refine (Rg W _ p T S2 LP NP (wF (.mk o1 n1 c1 m1 k1)) (Ql (.mk o1 n1 c1 m1 k1)) 64 _ (W5 Tryz.func64 (by kernel_rfl) rfl) aR.out).mono ?_; rintro e w6 ⟨rfl, S6, aI, aK⟩; have aT := Hi (aD.out.step aI aK); clear aI aK; go_wp2_with fail; refine ⟨⟨k + 1, by omega, by go_num, S6, ?_⟩, by simp [intOf]; omega⟩; rw [bK.out, bJ.out]; have := aT.out; rw [<- bM.out, <- bL.out] at this
            have aS : Jt (decide (op = 7)) (.mk o1 n1 c1 m1 k1) 6 7 (wF (.mk o1 n1 c1 m1 k1)) = wF (.mk o1 n1 c1 m1 k1) := by
             unfold Jt; rw [if_neg (by have := aM.out.1; have h7 := aM.out.2.2; simp only [h7]; simp; omega)]
            rw [aS]; simpa [List.append_assoc] using this
          · have e3 : (oi != 7) = true := by have := bY.out; simp; omega
            have aM := Hi (And.intro k7 (And.intro k6 o7)); clear k7 k6 o7; go_wp2_with fail; refine (Rf W _ p T S2 LP NP (wF (.mk o1 n1 c1 m1 k1)) (Ql (.mk o1 n1 c1 m1 k1)) 64 _ aD.out.wr (by omega) (W5 Tryz.func64 (by kernel_rfl) rfl) aX.out).mono ?_; rintro e w6 ⟨rfl, S6, aI, aK⟩; have aT := Hi (aD.out.step aI aK); clear aI aK; go_wp2_with fail; refine ⟨⟨k + 1, by omega, by go_num, S6, ?_⟩, by simp [intOf]; omega⟩; rw [bK.out, bJ.out]; have := aT.out; rw [<- bM.out, <- bL.out] at this
            have aS : Jt (decide (op = 7)) (.mk o1 n1 c1 m1 k1) 6 7 (wF (.mk o1 n1 c1 m1 k1)) = wLp :: (wF (.mk o1 n1 c1 m1 k1) ++ [wRp]) := by
             unfold Jt; rw [if_pos (Or.inr ⟨aM.out.2.1, decide_eq_false aM.out.2.2⟩)]
            rw [aS]; simpa [List.append_assoc] using this
        · have e2 : (i1 == 6) = false := by have := bP.out; simp; omega
          have aM := Hi (And.intro k7 k6); clear k7 k6; go_wp2_with fail; refine (Rg W _ p T S2 LP NP (wF (.mk o1 n1 c1 m1 k1)) (Ql (.mk o1 n1 c1 m1 k1)) 64 _ (W5 Tryz.func64 (by kernel_rfl) rfl) aR.out).mono ?_; rintro e w6 ⟨rfl, S6, aI, aK⟩; have aT := Hi (aD.out.step aI aK); clear aI aK; go_wp2_with fail; refine ⟨⟨k + 1, by omega, by go_num, S6, ?_⟩, by simp [intOf]; omega⟩; rw [bK.out, bJ.out]; have := aT.out; rw [<- bM.out, <- bL.out] at this
          have aS : Jt (decide (op = 7)) (.mk o1 n1 c1 m1 k1) 6 7 (wF (.mk o1 n1 c1 m1 k1)) = wF (.mk o1 n1 c1 m1 k1) := by
           unfold Jt; rw [if_neg (by have := aM.out.1; have := aM.out.2; simp only [Qb.op]; omega)]
          rw [aS]; simpa [List.append_assoc] using this
     · have cU : k = ks.length := by omega
       subst cU; have cR : ¬ ((ks.length : Nat) : Int) < ks.length := (by omega)
       have cC := Hi (aG.out.post (L' := L ++ wF (.mk op name cm m ks)) (N' := N ++ Ql (.mk op name cm m ks)) (by rw [cY.out, List.take_length, List.append_assoc]) (by rw [dE.out, List.take_length, List.append_assoc])); go_wp2_with fail; go_end0; exact cC.out
end
set_option maxRecDepth 20000
set_option maxHeartbeats 16000000
section
open Go.RowKit
attribute [local go_sem ↓] Go.wp_at_zero Go.wp_at_succ
def Wj (op : Nat) (name : Qa) (n : Nat) : List Qa := if op = 1 then [[97, 108, 119, 97, 121, 115]] else if op = 2 then [[110, 101, 118, 101, 114]] else if op = 3 then [[100, 97, 121], dec n] else if op = 4 \/ op = 5 \/ op = 6 \/ op = 7 then [Uv.getD op [], name] else []
def Wa (op : Nat) (name : Qa) : List Qa := if op = 4 \/ op = 5 \/ op = 6 \/ op = 7 then [name] else []
def Hw (op : Nat) : Qa := if op = 9 then wOr else wAnd
theorem O0 {op : Nat} {name : Qa} {cm m : Nat} {ks : List Qb} (h : Ja (.mk op name cm m ks) = true) : (op = 1 \/ op = 2 \/ op = 3 \/ op = 4 \/ op = 5 \/ op = 6 \/ op = 7 \/ op = 8 \/ op = 9) /\ m <= 1000000 /\ (ks = [] \/ op = 8 \/ op = 9) /\ Jz ks = true := by
 rw [Ja] at h; simp only [Bool.and_eq_true] at h; obtain ⟨⟨⟨⟨h0, h1⟩, h2⟩, h3⟩, h4⟩ := h; refine ⟨?_, ?_, ?_, h4⟩
 · split at h3
   · omega
   · split at h3
     · omega
     · cases h3
 · split at h1 <;> simp at h1 <;> omega
 · split at h3
   · omega
   · split at h3
     · exact Or.inl (by simpa using h3)
     · cases h3
theorem qem {op : Nat} {name : Qa} {cm m : Nat} {ks : List Qb} (h : Ja (.mk op name cm m ks) = true) : wS (.mk op name cm m ks) = Wj op name m ++ J1 (Hw op) (wSs (decide (op = 9)) ks) := by
 obtain ⟨h1, -, h3, -⟩ := O0 h; rw [wS]; unfold Wj Hw; rcases h3 with rfl | rfl | rfl
 · rcases h1 with rfl | rfl | rfl | rfl | rfl | rfl | rfl | rfl | rfl <;> simp [wSs, J1]
 · simp
 · simp
theorem qbj (W w1 : World) (p : Nat) (T : TypeId) (S1 : Nat -> Prop) (L N X Y : List Qa) (bw bk k1 q1 : Nat) (o1 : Int) (n1 : List UInt8) (d1 m1 : Int) (B1 : Option Addr) (Tp Tf : TypeId) (h1 : w1.heap[bw]? = some (.cells #[.pointer (some ⟨p, 0, none⟩)] Tp (0, 0))) (h2 : w1.heap[bk]? = some (.cells #[.int .i64 o1, vs n1, .int .i64 m1, .slice B1 k1 q1] Tf (0, 0)))
 (hc : Calls Tryz.prog 31 #[.pointer (some ⟨p, 0, none⟩), .agg #[.int .i64 o1, vs n1, .int .i64 m1, .slice B1 k1 q1]] w1 (Zy W w1 p T S1 X Y)) : Calls Tryz.prog 65 #[.pointer (some ⟨bw, 0, none⟩), .pointer (some ⟨bk, 0, none⟩)] w1 (Zy W w1 p T S1 X Y) := by
 have z : w1.cell? ⟨bw, 0, none⟩ = some (.pointer (some ⟨p, 0, none⟩)) := cOb h1 rfl; have z0 : w1.cell? ⟨bk, 0, none⟩ = some (.int .i64 o1) := cOb h2 rfl; have z1 : w1.cell? ⟨bk, 1, none⟩ = some (vs n1) := cOb h2 rfl; have z2 : w1.cell? ⟨bk, 2, none⟩ = some (.int .i64 m1) := cOb h2 rfl; have z3 : w1.cell? ⟨bk, 3, none⟩ = some (.slice B1 k1 q1) := cOb h2 rfl; have y1 := lHp h1; have y2 := lHp h2; have HC := Hi hc; clear h1 h2 hc; go_enter Tryz.func65, Tryz.ntmps65
 go_wp2_with fail; refine HC.out.mono ?_; rintro e w3 ⟨rfl, S', hw, hf⟩; have HW := Hi hw; have HF := Hi hf; clear hw hf; go_wp2_with fail; go_end0; exact ⟨rfl, S', HW.out, HF.out⟩
theorem qj4 (b : Bool) (sp : Qa) {ks : List Qb} {k : Nat} {t : Qb} (h : ks[k]? = some t) : J1 sp (wSs b (ks.take (k + 1))) = J1 sp (wSs b (ks.take k)) ++ ((if k = 0 then [] else [sp]) ++ Jt b t 8 9 (wS t)) := by
 have hk := (List.getElem?_eq_some_iff.1 h).1; rw [Hd b h, O1]
 congr 2
 cases k with
 | zero => simp [wSs]
 | succ k =>
   have : wSs b (ks.take (k + 1)) ≠ [] := by
    intro e; have := congrArg List.length e; rw [qho, List.length_take, List.length_nil] at this; omega
   rw [if_neg this, if_neg (by omega)]
theorem Tl (W : World) (ht : Xp W) : ∀ (M : Nat) (t : Qb) (cs : List Value) (w : World) (p : Nat) (T : TypeId) (S : Nat -> Prop) (L N : List Qa), t.size <= M -> Ja t = true -> L.length + 6 * t.size <= 900000 -> N.length + t.size <= 900000 -> RdX false W cs (up t) -> Wr W w p T S L N ->
 Calls Tryz.prog 31 #[.pointer (some ⟨p, 0, none⟩), .agg cs.toArray] w (Zy W w p T S (L ++ wS t) (N ++ Qo t)) := by
 intro M
 induction M with
 | zero =>
   intro t cs w p T S L N hM; have := Zj t; omega
 | succ M ih =>
   intro t cs w p T S L N hM hs cT cS hr hw; have IH := Hi ih; obtain ⟨op, name, cm, m, ks⟩ := t; rw [up] at hr; obtain ⟨A1, p1, rfl, -, bT⟩ := hr; have HK := Hi bT; rw [Z3] at *; have dS := Un ks; simp only [Qb.size] at hM cT cS; simp only [tcX]; obtain ⟨oi, bA⟩ : ∃ oi : Int, (op : Int) = oi := ⟨_, rfl⟩
   rw [bA]; have aC : Hid (NB W w ((w.alloc (.cells #[.pointer (some ⟨p, 0, none⟩)] 100)).alloc (.cells #[.int .i64 oi, vs name, .int .i64 (m : Int), .slice A1 ks.length p1] 28)) p T S S L N w.heap.size (w.heap.size + 1) 100 28 #[.int .i64 oi, vs name, .int .i64 (m : Int), .slice A1 ks.length p1]) := Hi (NB.start hw); obtain ⟨s1, s2, s3, s4⟩ := O0 hs; have dD := Hi s2; have dC := Hi s3; have dB := Hi s4; have cY := Hi (qem hs); have dE : Hid (Qo (.mk op name cm m ks) = Wa op name ++ Qz ks) := Hi (by rw [Qo]; rfl); have HT := Hi ht; have cP : (op = 1 /\ oi = 1) \/ (op = 2 /\ oi = 2) \/ (op = 3 /\ oi = 3) \/ (op = 4 /\ oi = 4) \/ (op = 5 /\ oi = 5) \/ (op = 6 /\ oi = 6) \/ (op = 7 /\ oi = 7) \/ (op = 8 /\ oi = 8) \/ (op = 9 /\ oi = 9) := by omega
   have bY := Hi bA; clear ih bT hs hw ht s1 s2 s3 s4 bA; have dR : ∀ (fn : Fn) (first cap : Array Value) (w : World), (Instr.makeFunc fn first cap).run Tryz.prog w = .ok (.func fn first cap) w := fun _ _ _ _ => rfl; go_enter Tryz.func31, Tryz.ntmps31
   go_upto_block 0 with fail
   go_cut [2, 3] from 0 (fun s2 s3 wc => s2 = .pointer (some ⟨w.heap.size, 0, none⟩) /\ s3 = .pointer (some ⟨w.heap.size + 1, 0, none⟩) /\ ∃ S', NB W w wc p T S S' (L ++ Wj op name m) (N ++ Wa op name) w.heap.size (w.heap.size + 1) 100 28 #[.int .i64 oi, vs name, .int .i64 (m : Int), .slice A1 ks.length p1])
   case first =>
    obtain ⟨y1, y2, z0⟩ := aC.out.lts; have zn := cOb (o := 1) aC.out.bx2 rfl; have zm := cOb (o := 2) aC.out.bx2 rfl; rcases cP with ⟨rfl, rfl⟩ | ⟨rfl, rfl⟩ | ⟨rfl, rfl⟩ | ⟨rfl, rfl⟩ | ⟨rfl, rfl⟩ | ⟨rfl, rfl⟩ | ⟨rfl, rfl⟩ | ⟨rfl, rfl⟩ | ⟨rfl, rfl⟩
    · go_wp2_with fail; refine (Xy W _ p T S L N [97, 108, 119, 97, 121, 115] _ (by simp) aC.out.wr (by omega)).mono ?_; rintro e w1 ⟨rfl, S1, aJ, aL⟩; have aG := Hi (aC.out.step aJ aL); clear aJ aL; go_wp2_with fail; go_meet
      case rel => exact ⟨rfl, rfl, S1, by have := aG.out; simpa [Wj, Wa] using this⟩
    · go_wp2_with fail; refine (Xy W _ p T S L N [110, 101, 118, 101, 114] _ (by simp) aC.out.wr (by omega)).mono ?_; rintro e w1 ⟨rfl, S1, aJ, aL⟩; have aG := Hi (aC.out.step aJ aL); clear aJ aL; go_wp2_with fail; go_meet
      case rel => exact ⟨rfl, rfl, S1, by have := aG.out; simpa [Wj, Wa] using this⟩
    · go_wp2_with fail; refine (Xy W _ p T S L N [100, 97, 121] _ (by simp) aC.out.wr (by omega)).mono ?_; rintro e w1 ⟨rfl, S1, aJ, aL⟩; have aG := Hi (aC.out.step aJ aL); clear aJ aL; obtain ⟨x1, x2, x0⟩ := aG.out.lts; have xm := cOb (o := 2) aG.out.bx2 rfl; have dQ := dD.out; clear y1 y2 z0 zn zm; go_wp2_with fail; go_still_tail 5, (by kernel_rfl)
      change wpList _ _ _ _ _ w1.drew
      go_wp2_with fail; refine (Ul W _ p T S1 (L ++ [[100, 97, 121]]) N m (aG.out.wr.keep (Below.refl _ _).drew) (by omega) (by simp; omega) HT.out).mono ?_; rintro e w5 ⟨rfl, S5, aP, aQ⟩; have aD := Hi (aG.out.step aP ((J8.of_below S1 ((Below.refl w1.heap.size w1).drew)).trans aQ)); clear aP aQ x1 x2 x0 xm; go_wp2_with fail; go_meet
      case rel => exact ⟨rfl, rfl, S5, by have := aD.out; simpa [Wj, Wa] using this⟩
    · have zo := cOb (o := 0) aC.out.bx2 rfl; have bU : ∀ w, (Instr.index 102 (.agg #[vs [], vs [], vs [], vs [], vs [111, 114, 100, 101, 114], vs [101, 118, 101, 110, 116], vs [98, 101, 103, 117, 110], vs [111, 118, 101, 114]]) (.int .i64 4)).run Tryz.prog w = .ok (vs [111, 114, 100, 101, 114]) w := fun _ => by kernel_rfl
      go_wp2_with fail; obtain ⟨X, hX⟩ : ∃ X, ((w.alloc (.cells #[.pointer (some ⟨p, 0, none⟩)] 100)).alloc (.cells #[.int .i64 4, vs name, .int .i64 (m : Int), .slice A1 ks.length p1] 28)) = X := ⟨_, rfl⟩
      rw [hX] at aC y1 y2 z0 zn zm zo ⊢; clear hX; go_region_held3 (fun w' => w'.cell? ⟨w.heap.size, 0, none⟩ = some (.pointer (some ⟨p, 0, none⟩)) /\ w'.cell? ⟨w.heap.size + 1, 0, none⟩ = some (.int .i64 4)) (go_keep) ((go_at_call 27; refine (Z9 W _ p T S L N [[111, 114, 100, 101, 114]] _ 1 (aC.out.wr.keep (((Below.refl _ _).alloc (lR _) _).drew)) Zm (by simp; omega)).mono ?_; rintro e w2 ⟨rfl, S2, aE, aF⟩; have aB := Hi (aC.out.step aE ((J8.of_below S (((Below.refl X.heap.size X).alloc (lR _) _).drew)).trans aF)); have q1 := aB.out.lts.2.2; have q2 := cOb (o := 0) aB.out.bx2 rfl; clear aE aF))
      clear y1 y2 z0 zn zm zo q1 q2; obtain ⟨x1, x2, x0⟩ := aB.out.lts; have xn := cOb (o := 1) aB.out.bx2 rfl; go_wp2_with fail; go_still_tail 5, (by kernel_rfl)
      change wpList _ _ _ _ _ w2.drew
      go_wp2_with fail; refine (Wz W _ p T S2 (L ++ [[111, 114, 100, 101, 114]]) N name (aB.out.wr.keep (Below.refl _ _).drew) (by simp; omega) (by omega)).mono ?_; rintro e w5 ⟨rfl, S5, aP, aQ⟩; have aD := Hi (aB.out.step aP ((J8.of_below S2 ((Below.refl w2.heap.size w2).drew)).trans aQ)); clear aP aQ x1 x2 x0 xn; go_wp2_with fail; go_meet
      case rel => exact ⟨rfl, rfl, S5, by have := aD.out; simpa [Wj, Wa, Uv] using this⟩
    · have zo := cOb (o := 0) aC.out.bx2 rfl; have bU : ∀ w, (Instr.index 102 (.agg #[vs [], vs [], vs [], vs [], vs [111, 114, 100, 101, 114], vs [101, 118, 101, 110, 116], vs [98, 101, 103, 117, 110], vs [111, 118, 101, 114]]) (.int .i64 5)).run Tryz.prog w = .ok (vs [101, 118, 101, 110, 116]) w := fun _ => by kernel_rfl
      go_wp2_with fail; obtain ⟨X, hX⟩ : ∃ X, ((w.alloc (.cells #[.pointer (some ⟨p, 0, none⟩)] 100)).alloc (.cells #[.int .i64 5, vs name, .int .i64 (m : Int), .slice A1 ks.length p1] 28)) = X := ⟨_, rfl⟩
      rw [hX] at aC y1 y2 z0 zn zm zo ⊢; clear hX; go_region_held3 (fun w' => w'.cell? ⟨w.heap.size, 0, none⟩ = some (.pointer (some ⟨p, 0, none⟩)) /\ w'.cell? ⟨w.heap.size + 1, 0, none⟩ = some (.int .i64 5)) (go_keep) ((go_at_call 27; refine (Z9 W _ p T S L N [[101, 118, 101, 110, 116]] _ 1 (aC.out.wr.keep (((Below.refl _ _).alloc (lR _) _).drew)) Zm (by simp; omega)).mono ?_; rintro e w2 ⟨rfl, S2, aE, aF⟩; have aB := Hi (aC.out.step aE ((J8.of_below S (((Below.refl X.heap.size X).alloc (lR _) _).drew)).trans aF)); have q1 := aB.out.lts.2.2; have q2 := cOb (o := 0) aB.out.bx2 rfl; clear aE aF))
      clear y1 y2 z0 zn zm zo q1 q2; obtain ⟨x1, x2, x0⟩ := aB.out.lts; have xn := cOb (o := 1) aB.out.bx2 rfl; go_wp2_with fail; go_still_tail 5, (by kernel_rfl)
      change wpList _ _ _ _ _ w2.drew
      go_wp2_with fail; refine (Wz W _ p T S2 (L ++ [[101, 118, 101, 110, 116]]) N name (aB.out.wr.keep (Below.refl _ _).drew) (by simp; omega) (by omega)).mono ?_; rintro e w5 ⟨rfl, S5, aP, aQ⟩; have aD := Hi (aB.out.step aP ((J8.of_below S2 ((Below.refl w2.heap.size w2).drew)).trans aQ)); clear aP aQ x1 x2 x0 xn; go_wp2_with fail; go_meet
      case rel => exact ⟨rfl, rfl, S5, by have := aD.out; simpa [Wj, Wa, Uv] using this⟩
    · have zo := cOb (o := 0) aC.out.bx2 rfl; have bU : ∀ w, (Instr.index 102 (.agg #[vs [], vs [], vs [], vs [], vs [111, 114, 100, 101, 114], vs [101, 118, 101, 110, 116], vs [98, 101, 103, 117, 110], vs [111, 118, 101, 114]]) (.int .i64 6)).run Tryz.prog w = .ok (vs [98, 101, 103, 117, 110]) w := fun _ => by kernel_rfl
      go_wp2_with fail; obtain ⟨X, hX⟩ : ∃ X, ((w.alloc (.cells #[.pointer (some ⟨p, 0, none⟩)] 100)).alloc (.cells #[.int .i64 6, vs name, .int .i64 (m : Int), .slice A1 ks.length p1] 28)) = X := ⟨_, rfl⟩
      rw [hX] at aC y1 y2 z0 zn zm zo ⊢; clear hX; go_region_held3 (fun w' => w'.cell? ⟨w.heap.size, 0, none⟩ = some (.pointer (some ⟨p, 0, none⟩)) /\ w'.cell? ⟨w.heap.size + 1, 0, none⟩ = some (.int .i64 6)) (go_keep) ((go_at_call 27; refine (Z9 W _ p T S L N [[98, 101, 103, 117, 110]] _ 1 (aC.out.wr.keep (((Below.refl _ _).alloc (lR _) _).drew)) Zm (by simp; omega)).mono ?_; rintro e w2 ⟨rfl, S2, aE, aF⟩; have aB := Hi (aC.out.step aE ((J8.of_below S (((Below.refl X.heap.size X).alloc (lR _) _).drew)).trans aF)); have q1 := aB.out.lts.2.2; have q2 := cOb (o := 0) aB.out.bx2 rfl; clear aE aF))
      clear y1 y2 z0 zn zm zo q1 q2; obtain ⟨x1, x2, x0⟩ := aB.out.lts; have xn := cOb (o := 1) aB.out.bx2 rfl; go_wp2_with fail; go_still_tail 5, (by kernel_rfl)
      change wpList _ _ _ _ _ w2.drew
      go_wp2_with fail; refine (Wz W _ p T S2 (L ++ [[98, 101, 103, 117, 110]]) N name (aB.out.wr.keep (Below.refl _ _).drew) (by simp; omega) (by omega)).mono ?_; rintro e w5 ⟨rfl, S5, aP, aQ⟩; have aD := Hi (aB.out.step aP ((J8.of_below S2 ((Below.refl w2.heap.size w2).drew)).trans aQ)); clear aP aQ x1 x2 x0 xn; go_wp2_with fail; go_meet
      case rel => exact ⟨rfl, rfl, S5, by have := aD.out; simpa [Wj, Wa, Uv] using this⟩
    · have zo := cOb (o := 0) aC.out.bx2 rfl; have bU : ∀ w, (Instr.index 102 (.agg #[vs [], vs [], vs [], vs [], vs [111, 114, 100, 101, 114], vs [101, 118, 101, 110, 116], vs [98, 101, 103, 117, 110], vs [111, 118, 101, 114]]) (.int .i64 7)).run Tryz.prog w = .ok (vs [111, 118, 101, 114]) w := fun _ => by kernel_rfl
      go_wp2_with fail; obtain ⟨X, hX⟩ : ∃ X, ((w.alloc (.cells #[.pointer (some ⟨p, 0, none⟩)] 100)).alloc (.cells #[.int .i64 7, vs name, .int .i64 (m : Int), .slice A1 ks.length p1] 28)) = X := ⟨_, rfl⟩
      rw [hX] at aC y1 y2 z0 zn zm zo ⊢; clear hX; go_region_held3 (fun w' => w'.cell? ⟨w.heap.size, 0, none⟩ = some (.pointer (some ⟨p, 0, none⟩)) /\ w'.cell? ⟨w.heap.size + 1, 0, none⟩ = some (.int .i64 7)) (go_keep) ((go_at_call 27; refine (Z9 W _ p T S L N [[111, 118, 101, 114]] _ 1 (aC.out.wr.keep (((Below.refl _ _).alloc (lR _) _).drew)) Zm (by simp; omega)).mono ?_; rintro e w2 ⟨rfl, S2, aE, aF⟩; have aB := Hi (aC.out.step aE ((J8.of_below S (((Below.refl X.heap.size X).alloc (lR _) _).drew)).trans aF)); have q1 := aB.out.lts.2.2; have q2 := cOb (o := 0) aB.out.bx2 rfl; clear aE aF))
      clear y1 y2 z0 zn zm zo q1 q2; obtain ⟨x1, x2, x0⟩ := aB.out.lts; have xn := cOb (o := 1) aB.out.bx2 rfl; go_wp2_with fail; go_still_tail 5, (by kernel_rfl)
      change wpList _ _ _ _ _ w2.drew
      go_wp2_with fail; refine (Wz W _ p T S2 (L ++ [[111, 118, 101, 114]]) N name (aB.out.wr.keep (Below.refl _ _).drew) (by simp; omega) (by omega)).mono ?_; rintro e w5 ⟨rfl, S5, aP, aQ⟩; have aD := Hi (aB.out.step aP ((J8.of_below S2 ((Below.refl w2.heap.size w2).drew)).trans aQ)); clear aP aQ x1 x2 x0 xn; go_wp2_with fail; go_meet
      case rel => exact ⟨rfl, rfl, S5, by have := aD.out; simpa [Wj, Wa, Uv] using this⟩
    · go_wp2_with fail; go_meet
      case rel => exact ⟨rfl, rfl, S, by have := aC.out; simpa [Wj, Wa] using this⟩
    · go_wp2_with fail; go_meet
      case rel => exact ⟨rfl, rfl, S, by have := aC.out; simpa [Wj, Wa] using this⟩
   case rest =>
    obtain ⟨rfl, rfl, S0, bB⟩ := hcut; have cA := Hi bB; obtain ⟨y1, y2, z0⟩ := bB.lts; have zk := cOb (o := 3) bB.bx2 rfl
    have cJ : (Wj op name m).length <= 3 := by
     unfold Wj
     repeat' split
     all_goals simp
    have cF : (Wa op name).length <= 1 := by
     unfold Wa
     split <;> simp
    clear bB; go_wp2_with fail; go_loopw [58] (fun v wr => ∃ k : Nat, k <= ks.length /\ v = .int .i64 k /\ ∃ S', NB W w wr p T S S' (L ++ Wj op name m ++ J1 (Hw op) (wSs (decide (op = 9)) (ks.take k))) (N ++ Wa op name ++ Qz (ks.take k)) w.heap.size (w.heap.size + 1) 100 28 #[.int .i64 oi, vs name, .int .i64 (m : Int), .slice A1 ks.length p1]) (fun v _ => ks.length - (intOf v).toNat)
    case atStart => exact ⟨0, Nat.zero_le _, rfl, S0, by have := cA.out; simpa [wSs, J1, Qz] using this⟩
    case round =>
     obtain ⟨k, hk, rfl, S1, aO⟩ := hrel; have aG := Hi aO; have aV := Hi aO.wr.below; obtain ⟨x1, x2, x0⟩ := aO.lts; clear aO y1 y2 z0 zk
     by_cases bC : k < ks.length
     · obtain ⟨t, ht⟩ := gLt bC; have cM := Hi ht; have cG : ks ≠ [] := by rintro rfl; simp at bC
       have aW : ups ks ≠ [] := by
        intro e; have := congrArg List.length e; rw [Z3] at this; simp at this; exact cG this
       obtain ⟨b, q, rfl, aZ, cL⟩ := HK.out.resolve_left aW; obtain ⟨cs, hc, bR⟩ := cL.kids ht; have dN := Yq ht; have cE := Iz dB.out ht; have dP := qjs (decide (op = 9)) (Hw op) (ks.take k); have dO := Ya (ks.take k); have cN := Hi cE; have bI := Hi bR; obtain ⟨o1, n1, c1, m1, k1⟩ := t; rw [up] at bR; obtain ⟨B1, q1, rfl, -, -⟩ := bR; rw [Z3] at hc bI; obtain ⟨kl, cK⟩ : ∃ kl, k1.length = kl := ⟨_, rfl⟩
       obtain ⟨i1, bV⟩ : ∃ i1 : Int, (o1 : Int) = i1 := ⟨_, rfl⟩
       obtain ⟨mi, cI⟩ : ∃ mi : Int, (m1 : Int) = mi := ⟨_, rfl⟩
       have cZ : Hid (tcX false (o1 : Int) n1 (c1 : Int) (m1 : Int) (.slice B1 k1.length q1) = [.int .i64 i1, vs n1, .int .i64 mi, .slice B1 kl q1]) := Hi (by rw [cK, bV, cI]; rfl); rw [cZ.out] at hc bI; have bP := Hi bV; have z0 : wr.cell? ⟨b, q + k * 4, none⟩ = some (.int .i64 i1) := (aV.out.cell (p := ⟨b, q + k * 4, none⟩) aZ).trans (hc 0 _ rfl); have z1 : wr.cell? ⟨b, q + k * 4 + 1, none⟩ = some (vs n1) := (aV.out.cell (p := ⟨b, q + k * 4 + 1, none⟩) aZ).trans (hc 1 _ rfl); have z2 : wr.cell? ⟨b, q + k * 4 + 2, none⟩ = some (.int .i64 mi) := (aV.out.cell (p := ⟨b, q + k * 4 + 2, none⟩) aZ).trans (hc 2 _ rfl); have z3 : wr.cell? ⟨b, q + k * 4 + 3, none⟩ = some (.slice B1 kl q1) := (aV.out.cell (p := ⟨b, q + k * 4 + 3, none⟩) aZ).trans (hc 3 _ rfl); have bT : (k : Int) < ks.length := (by omega)
       have dT : (0 : Int) <= k := (by omega)
       have cV : b < wr.heap.size := by have := aV.out.size; omega
       have x5 : ¬ S1 wr.heap.size := aG.out.wr.fresh; have bX := Hi x5; have bO : Hid ((wr.alloc (.cells #[.int .i64 i1, vs n1, .int .i64 mi, .slice B1 kl q1] 28)).heap[wr.heap.size]? = some (.cells #[.int .i64 i1, vs n1, .int .i64 mi, .slice B1 kl q1] 28 (0, 0))) := Hi (J4 rfl); clear hc cL cG aW cK bV cI cE ht x5; go_upto_if 64 with fail; go_cut [5, 58] from 58 to 90 (fun sb si wd => si = .int .i64 k /\ sb = .pointer (some ⟨wr.heap.size, 0, none⟩) /\ wd.heap[wr.heap.size]? = some (.cells #[.int .i64 i1, vs n1, .int .i64 mi, .slice B1 kl q1] 28 (0, 0)) /\ ∃ S2, NB W w wd p T S S2 ((L ++ Wj op name m ++ J1 (Hw op) (wSs (decide (op = 9)) (ks.take k))) ++ (if k = 0 then [] else [Hw op])) (N ++ Wa op name ++ Qz (ks.take k)) w.heap.size (w.heap.size + 1) 100 28 #[.int .i64 oi, vs name, .int .i64 (m : Int), .slice (some ⟨b, q, none⟩) ks.length p1] /\ ¬ S2 wr.heap.size)
       case first =>
        by_cases bD : k = 0
        · have bS : ¬ (0 : Int) < k := by omega
          have bN := Hi bD; clear bD; go_wp2_with fail; go_meet
          case rel => exact ⟨rfl, rfl, bO.out, S1, by rw [if_pos bN.out, List.append_nil]; exact aG.out.alloc _, bX.out⟩
        · have bS : (0 : Int) < k := by omega
          have bN := Hi bD
          have cQ : (op = 8 /\ oi = 8) \/ (op = 9 /\ oi = 9) := by
           have h3 := dC.out; have bA := bY.out; rcases h3 with h3 | h3
           · rw [h3] at bC; simp at bC
           · omega
          have aH := Hi (aG.out.alloc (.cells #[.int .i64 i1, vs n1, .int .i64 mi, .slice B1 kl q1] 28)); obtain ⟨X, hX⟩ : ∃ X, wr.alloc (.cells #[.int .i64 i1, vs n1, .int .i64 mi, .slice B1 kl q1] 28) = X := ⟨_, rfl⟩
          rw [hX] at bO aH ⊢; obtain ⟨dK, cD, dL⟩ := aH.out.lts; have zo := cOb (o := 0) aH.out.bx2 rfl; clear hX bD z0 z1 z2 z3 x1 x2 x0; rcases cQ with ⟨e1, e2⟩ | ⟨e1, e2⟩
          · have bZ : Hid (Hw op = [97, 110, 100]) := Hi (by rw [e1]; rfl); have zo' : X.cell? ⟨w.heap.size + 1, 0, none⟩ = some (.int .i64 8) := by rw [zo]; exact congrArg (fun z => some (Value.int .i64 z)) e2
            have bU : ∀ w, (Instr.index 104 (.agg #[vs [], vs [], vs [], vs [], vs [], vs [], vs [], vs [], vs [97, 110, 100], vs [111, 114]]) (.int .i64 8)).run Tryz.prog w = .ok (vs [97, 110, 100]) w := fun _ => by kernel_rfl
            clear e1 e2 zo; go_wp2_with fail; go_region_held3 (fun w' => w'.cell? ⟨w.heap.size, 0, none⟩ = some (.pointer (some ⟨p, 0, none⟩)) /\ w'.cell? ⟨w.heap.size + 1, 0, none⟩ = some (.int .i64 8)) (go_keep) ((go_at_call 27; refine (Z9 W _ p T S1 (L ++ Wj op name m ++ J1 (Hw op) (wSs (decide (op = 9)) (ks.take k))) (N ++ Wa op name ++ Qz (ks.take k)) [[97, 110, 100]] _ 1 (aH.out.wr.keep (((Below.refl _ _).alloc (lR _) _).drew)) Zm (by simp; omega)).mono ?_; rintro e w2 ⟨rfl, S2, aE, aF⟩; have aA := (J8.of_below S1 (((Below.refl X.heap.size X).alloc (lR _) _).drew)).trans aF; have aY := Hi (aA.box bO.out bX.out); have aB := Hi (aH.out.step aE aA); have r1 := aB.out.lts.2.2; have r2 : w2.cell? ⟨w.heap.size + 1, 0, none⟩ = some (.int .i64 8) := ((cOh (aA.block _ cD aH.out.n2) 0).trans zo'); clear aE aF aA))
            go_wp2_with fail; go_meet
            case rel => exact ⟨rfl, rfl, aY.out.1, S2, by have h4 := aB.out; rw [<- bZ.out] at h4; rw [if_neg bN.out]; exact h4, aY.out.2⟩
          · have bZ : Hid (Hw op = [111, 114]) := Hi (by rw [e1]; rfl); have zo' : X.cell? ⟨w.heap.size + 1, 0, none⟩ = some (.int .i64 9) := by rw [zo]; exact congrArg (fun z => some (Value.int .i64 z)) e2
            have bU : ∀ w, (Instr.index 104 (.agg #[vs [], vs [], vs [], vs [], vs [], vs [], vs [], vs [], vs [97, 110, 100], vs [111, 114]]) (.int .i64 9)).run Tryz.prog w = .ok (vs [111, 114]) w := fun _ => by kernel_rfl
            clear e1 e2 zo; go_wp2_with fail; go_region_held3 (fun w' => w'.cell? ⟨w.heap.size, 0, none⟩ = some (.pointer (some ⟨p, 0, none⟩)) /\ w'.cell? ⟨w.heap.size + 1, 0, none⟩ = some (.int .i64 9)) (go_keep) ((go_at_call 27; refine (Z9 W _ p T S1 (L ++ Wj op name m ++ J1 (Hw op) (wSs (decide (op = 9)) (ks.take k))) (N ++ Wa op name ++ Qz (ks.take k)) [[111, 114]] _ 1 (aH.out.wr.keep (((Below.refl _ _).alloc (lR _) _).drew)) Zm (by simp; omega)).mono ?_; rintro e w2 ⟨rfl, S2, aE, aF⟩; have aA := (J8.of_below S1 (((Below.refl X.heap.size X).alloc (lR _) _).drew)).trans aF; have aY := Hi (aA.box bO.out bX.out); have aB := Hi (aH.out.step aE aA); have r1 := aB.out.lts.2.2; have r2 : w2.cell? ⟨w.heap.size + 1, 0, none⟩ = some (.int .i64 9) := ((cOh (aA.block _ cD aH.out.n2) 0).trans zo'); clear aE aF aA))
            go_wp2_with fail; go_meet
            case rel => exact ⟨rfl, rfl, aY.out.1, S2, by have h4 := aB.out; rw [<- bZ.out] at h4; rw [if_neg bN.out]; exact h4, aY.out.2⟩
       case rest =>
        obtain ⟨rfl, rfl, bE, S2, aN, cH⟩ := hcut; have aU := Hi (And.intro bE cH); have aD := Hi aN; obtain ⟨y1, y2, y0⟩ := aN.lts; have zo := cOb (o := 0) aN.bx2 rfl; have zk := cOb (o := 0) bE rfl; have y3 := lHp bE; have bK := Hi (qj4 (decide (op = 9)) (Hw op) cM.out); have bJ := Hi (Uz cM.out); obtain ⟨LP, bG⟩ : ∃ LP, ((L ++ Wj op name m ++ J1 (Hw op) (wSs (decide (op = 9)) (ks.take k))) ++ (if k = 0 then [] else [Hw op])) = LP := ⟨_, rfl⟩
        obtain ⟨NP, bF⟩ : ∃ NP, (N ++ Wa op name ++ Qz (ks.take k)) = NP := ⟨_, rfl⟩
        have cX : LP.length <= L.length + 4 + 6 * sizes (ks.take k) := by
         rw [<- bG]; simp only [List.length_append]; have : (if k = 0 then ([] : List Qa) else [Hw op]).length <= 1 := by split <;> simp
         omega
        have cW : NP.length <= N.length + 1 + sizes (ks.take k) := by
         rw [<- bF]; simp only [List.length_append]; omega
        rw [bG, bF] at aD; have bM := Hi bG; have bL := Hi bF; have aX : Hid (∀ w1 S', Wr W w1 p T S' (LP ++ [wLp]) NP -> J8 S2 S' wc w1 -> Calls Tryz.prog 65 #[.pointer (some ⟨w.heap.size, 0, none⟩), .pointer (some ⟨wr.heap.size, 0, none⟩)] w1 (Zy W w1 p T S' (LP ++ [wLp] ++ wS (.mk o1 n1 c1 m1 k1)) (NP ++ Qo (.mk o1 n1 c1 m1 k1)))) := Hi (fun w1 S' h1 h2 => qbj W w1 p T S' L N _ _ _ _ _ _ _ _ 0 _ _ _ _ (h2.box aD.out.bx1 aD.out.n1).1 (h2.box aU.out.1 aU.out.2).1 (IH.out (.mk o1 n1 c1 m1 k1) _ w1 p T S' (LP ++ [wLp]) NP (by omega) cN.out (by simp only [List.length_append, List.length_cons, List.length_nil]; omega) (by omega) bI.out h1)); have aR : Hid (Calls Tryz.prog 65 #[.pointer (some ⟨w.heap.size, 0, none⟩), .pointer (some ⟨wr.heap.size, 0, none⟩)] wc (Zy W wc p T S2 (LP ++ wS (.mk o1 n1 c1 m1 k1)) (NP ++ Qo (.mk o1 n1 c1 m1 k1)))) := Hi (qbj W wc p T S2 L N _ _ _ _ _ _ _ _ 0 _ _ _ _ aD.out.bx1 aU.out.1 (IH.out (.mk o1 n1 c1 m1 k1) _ wc p T S2 LP NP (by omega) cN.out (by omega) (by omega) bI.out aD.out.wr)); have dM := Wf (.mk o1 n1 c1 m1 k1); clear bE cH aN bG bF z0 z1 z2 z3 x1 x2 x0
        by_cases k7 : o1 = 9
        · have e1 : (i1 == 9) = true := by have := bP.out; simp; omega
          have aM := Hi k7; clear k7; go_wp2_with fail; refine (Rf W _ p T S2 LP NP (wS (.mk o1 n1 c1 m1 k1)) (Qo (.mk o1 n1 c1 m1 k1)) 65 _ aD.out.wr (by omega) (W5 Tryz.func65 (by kernel_rfl) rfl) aX.out).mono ?_; rintro e w6 ⟨rfl, S6, aI, aK⟩; have aT := Hi (aD.out.step aI aK); clear aI aK; go_wp2_with fail; refine ⟨⟨k + 1, by omega, by go_num, S6, ?_⟩, by simp [intOf]; omega⟩; rw [bK.out, bJ.out]; have := aT.out; rw [<- bM.out, <- bL.out] at this
          have aS : Jt (decide (op = 9)) (.mk o1 n1 c1 m1 k1) 8 9 (wS (.mk o1 n1 c1 m1 k1)) = wLp :: (wS (.mk o1 n1 c1 m1 k1) ++ [wRp]) := by
           unfold Jt; rw [if_pos (Or.inl aM.out)]
          rw [aS]; simpa [List.append_assoc] using this
        have e1 : (i1 == 9) = false := by have := bP.out; simp; omega
        by_cases k6 : o1 = 8
        · have e2 : (i1 == 8) = true := by have := bP.out; simp; omega
          by_cases o7 : op = 9
          · have e3 : (oi != 9) = false := by have := bY.out; simp; omega
            have aM := Hi (And.intro k7 (And.intro k6 o7)); clear k7 k6 o7; go_wp2_with fail; refine (Rg W _ p T S2 LP NP (wS (.mk o1 n1 c1 m1 k1)) (Qo (.mk o1 n1 c1 m1 k1)) 65 _ (W5 Tryz.func65 (by kernel_rfl) rfl) aR.out).mono ?_; rintro e w6 ⟨rfl, S6, aI, aK⟩; have aT := Hi (aD.out.step aI aK); clear aI aK; go_wp2_with fail; refine ⟨⟨k + 1, by omega, by go_num, S6, ?_⟩, by simp [intOf]; omega⟩; rw [bK.out, bJ.out]; have := aT.out; rw [<- bM.out, <- bL.out] at this
            have aS : Jt (decide (op = 9)) (.mk o1 n1 c1 m1 k1) 8 9 (wS (.mk o1 n1 c1 m1 k1)) = wS (.mk o1 n1 c1 m1 k1) := by
             unfold Jt; rw [if_neg (by have := aM.out.1; have h7 := aM.out.2.2; simp only [h7]; simp; omega)]
            rw [aS]; simpa [List.append_assoc] using this
          · have e3 : (oi != 9) = true := by have := bY.out; simp; omega
            have aM := Hi (And.intro k7 (And.intro k6 o7)); clear k7 k6 o7; go_wp2_with fail; refine (Rf W _ p T S2 LP NP (wS (.mk o1 n1 c1 m1 k1)) (Qo (.mk o1 n1 c1 m1 k1)) 65 _ aD.out.wr (by omega) (W5 Tryz.func65 (by kernel_rfl) rfl) aX.out).mono ?_; rintro e w6 ⟨rfl, S6, aI, aK⟩; have aT := Hi (aD.out.step aI aK); clear aI aK; go_wp2_with fail; refine ⟨⟨k + 1, by omega, by go_num, S6, ?_⟩, by simp [intOf]; omega⟩; rw [bK.out, bJ.out]; have := aT.out; rw [<- bM.out, <- bL.out] at this
            have aS : Jt (decide (op = 9)) (.mk o1 n1 c1 m1 k1) 8 9 (wS (.mk o1 n1 c1 m1 k1)) = wLp :: (wS (.mk o1 n1 c1 m1 k1) ++ [wRp]) := by
             unfold Jt; rw [if_pos (Or.inr ⟨aM.out.2.1, decide_eq_false aM.out.2.2⟩)]
            rw [aS]; simpa [List.append_assoc] using this
        · have e2 : (i1 == 8) = false := by have := bP.out; simp; omega
          have aM := Hi (And.intro k7 k6); clear k7 k6; go_wp2_with fail; refine (Rg W _ p T S2 LP NP (wS (.mk o1 n1 c1 m1 k1)) (Qo (.mk o1 n1 c1 m1 k1)) 65 _ (W5 Tryz.func65 (by kernel_rfl) rfl) aR.out).mono ?_; rintro e w6 ⟨rfl, S6, aI, aK⟩; have aT := Hi (aD.out.step aI aK); clear aI aK; go_wp2_with fail; refine ⟨⟨k + 1, by omega, by go_num, S6, ?_⟩, by simp [intOf]; omega⟩; rw [bK.out, bJ.out]; have := aT.out; rw [<- bM.out, <- bL.out] at this
          have aS : Jt (decide (op = 9)) (.mk o1 n1 c1 m1 k1) 8 9 (wS (.mk o1 n1 c1 m1 k1)) = wS (.mk o1 n1 c1 m1 k1) := by
           unfold Jt; rw [if_neg (by have := aM.out.1; have := aM.out.2; simp only [Qb.op]; omega)]
          rw [aS]; simpa [List.append_assoc] using this
     · have cU : k = ks.length := by omega
       subst cU; have cR : ¬ ((ks.length : Nat) : Int) < ks.length := (by omega)
       have cC := Hi (aG.out.post (L' := L ++ wS (.mk op name cm m ks)) (N' := N ++ Qo (.mk op name cm m ks)) (by rw [cY.out, List.take_length, List.append_assoc]) (by rw [dE.out, List.take_length, List.append_assoc])); go_wp2_with fail; go_end0; exact cC.out
