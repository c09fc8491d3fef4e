/- group. -/
import Derived.Test.YtbicmjmcdnkjhaaGreatDoorJAA18
set_option linter.unusedVariables false
set_option linter.unusedSimpArgs false
set_option maxRecDepth 20000
set_option maxHeartbeats 4000000
namespace Go.Proofs.YtbicmjmcdnkjhaaGreatDoor
section
namespace So
open Go.RowKit
def Gh (fm : Bool) (p fin sb base fj : Nat) (ts : List Tok) (w : World) (res : R Qm) (e : Ending) (w' : World) : Prop :=
 match res with
 | .ok (st, r) => e = .returned (.tuple #[]) /\ SK fm w' sb p base fj st /\ PS w' p fin ts r /\ Wc p sb base w w'
 | .error (er, s) => e = Xg er (Xd fin s) /\ Wc p sb base w w'
theorem Ol {op k : Nat} {at' : List Tok} {st : Qm} {r : List Tok} : (st.length < k /\ Jo op k at' st r = .error (5, at')) \/ ∃ n, st.length = n + k /\ ((20 < Qx (st.drop n) /\ Jo op k at' st r = .error (2, at')) \/ (Qx (st.drop n) <= 20 /\ Jo op k at' st r = .ok (st.take n ++ [(.mk op [] 0 0 ((st.drop n).map (·.1)), Qx (st.drop n))], r))) := by
 unfold Jo
 by_cases h : st.length < k
 · exact .inl ⟨h, by rw [if_pos h]⟩
 · refine .inr ⟨st.length - k, by omega, ?_⟩
   by_cases h2 : 20 < Qx (st.drop (st.length - k))
   · exact .inl ⟨h2, by rw [if_neg h, if_pos h2]⟩
   · exact .inr ⟨by omega, by rw [if_neg h, if_neg h2]⟩
theorem Gp (op k : Nat) (a : Tok) (sb p base fin : Nat) (ts l lt : List Tok) (st : Qm) (w : World) (hp : PS w p fin ts l) (hs : SK true w sb p base 130 st) (hk : 1 <= k) (aM : k <= 10000000) (aH : base <= w.heap.size) :
 Calls Tryz.prog 136 #[.pointer (some ⟨sb, 0, none⟩), .int .i64 op, .int .i64 k, a.agg] w (Gh true p fin sb base 130 ts w (Jo op k (a :: lt) st l)) := by
 rcases Ol (op := op) (k := k) (at' := a :: lt) (st := st) (r := l) with ⟨h1, h2⟩ | ⟨n, h1, h2⟩
 · rw [h2]; exact (N1 op k a sb p base 130 fin ts l st w hs h1 aM).mono fun e w' ⟨x, y⟩ => ⟨x, (Eff.of_below (p := p) y).toS sb base⟩
 · refine (qdx op k n a sb p base fin ts l st w hp hs h1 hk aH).mono fun e w' ⟨x, y⟩ => ?_; rcases h2 with ⟨h2, h3⟩ | ⟨h2, h3⟩
   · rw [h3]; exact y h2
   · rw [h3]; exact x h2
theorem qbw (op : Nat) (a : Tok) (sb p base fin : Nat) (ts l : List Tok) (st : Qm) (w : World) (hp : PS w p fin ts l) (aY : ∃ u, ts = u ++ a :: l) (hs : SK true w sb p base 130 st) (aH : base <= w.heap.size) :
 Calls Tryz.prog 137 #[.pointer (some ⟨sb, 0, none⟩), .int .i64 op] w (Gh true p fin sb base 130 ts w (Jv op (a :: l) st l)) := by
 have HS := Hi hs; have HP := Hi hp; obtain ⟨v, hb, bA⟩ := hs.is; obtain ⟨A, cap, rfl⟩ := bA.form; obtain ⟨B, c, u, hh, hu, hr, hn, h1, h2⟩ := hp.is; obtain ⟨u0, aL⟩ := aY
 have cF : u.length = u0.length + 1 := by
  have h3 := congrArg List.length hu; have h4 := congrArg List.length aL; simp at h3 h4; omega
 rw [cF] at hh; obtain ⟨b, o, rfl, cL, t0, t1, t2, t3⟩ := Ou hr aL; have c0 := cOb (o := 0) hb rfl; have sl := lHp hb; have cO : sb < w.heap.size + 1 := Nat.lt_succ_of_lt sl; have p0 := cOb (o := 0) hh rfl; have p1 : w.cell? ⟨p, 1, none⟩ = some (.int .i64 ((u0.length : Int) + 1)) := cOb (o := 1) hh (by simp); have pl := lHp hh; have cP : p < w.heap.size + 1 := Nat.lt_succ_of_lt pl; have cT : b < w.heap.size + 1 := Nat.lt_succ_of_lt cL; have i1 : IntKind.i64.wrap (u0.length : Int) = u0.length := IntWalk.i64_in _ ⟨by omega, by have := hp.few; rw [aL] at this; simp at this; omega⟩; have i2 : (u0.length : Int) < ts.length := by rw [aL]; simp; omega
 have i3 : (0 : Int) <= u0.length := by omega
 have cQ : w.heap.size ≠ p := by omega
 have cJ := Hi (heap_alloc_new w (X7 a)); have aJ : Hid (Below w.heap.size w (w.alloc (X7 a)).drew) := Hi (((Below.refl _ _).alloc (lR _) _).drew); have cA : Hid (∀ t r, l = t :: r -> t.n <= 10000000) := Hi (fun t r h => (hp.fit t (by rw [aL, h]; simp)).num); have cW := Hi hb; clear hp hs hb bA hh hu hr hn h1 h2 aL; go_enter Tryz.func137, Tryz.ntmps137
 go_wp2_with fail; go_region; have bV : (w.alloc (X7 a)).drew.heap[w.heap.size]? = some (X7 a) := cJ.out; have aX : (w.alloc (X7 a)).drew.heap[sb]? = some (.cells #[.pointer (some ⟨p, 0, none⟩), .slice A st.length cap, .func (.func 130) #[] #[]] (sE true) (0, 0)) := (aJ.out.block _ sl).trans cW.out; change Exit.then _ _ _ _ (w.alloc (X7 a)).drew
 generalize (w.alloc (X7 a)).drew = w1 at bV aX aJ ⊢; have bI := Hi (HP.out.below aJ.out); have cZ := Hi (HS.out.eff (Eff.of_below aJ.out)); have HX := Hi bV; have cV := Hi aX; have y0 := cOb (o := 0) aX rfl; have yl := lHp aX; clear bV aX c0 p0 p1 t0 t1 t2 t3 i1 i2 i3 cO cP cT cJ; go_wp2_with fail; rcases Vv l with ⟨t, r, rfl, hk, hn⟩ | ⟨hk, hn⟩
 case inr =>
  rw [show Jv op (a :: l) st l = .error (Z1 l, l) by unfold Jv; rw [hn]; rfl]; refine (R4 p fin ts l _ bI.out (hk fin)).mono ?_; rintro e w2 ⟨rfl, bC⟩; have aV := Hi (((Eff.of_below (p := p) aJ.out).trans (Eff.of_below bC)).toS sb base); clear bC hk hn; go_wp2_with fail; exact ⟨rfl, rfl, aV.out⟩
 case inl =>
  have HG : Hid (Jv op (a :: t :: r) st (t :: r) = if t.n < 2 then .error (5, a :: t :: r) else Jo op t.n (a :: t :: r) st r) := Hi (by unfold Jv; rw [hn]; rfl); have bW := cA.out t r rfl; refine (V0 p fin ts t r _ bI.out hk).mono ?_; rintro e w2 ⟨rfl, cH, bL⟩; have bT := Hi cH; have aV : Hid (Eff p w w2) := Hi ((Eff.of_below aJ.out).trans bL); have cY := Hi (cZ.out.eff bL); have aN : w2.heap[w.heap.size]? = some (X7 a) := (bL.block _ (lHp HX.out) cQ).trans HX.out; have cU := Hi aN; have t0 := cOb (o := 0) aN rfl; have t1 := cOb (o := 1) aN rfl; have t2 := cOb (o := 2) aN rfl; have t3 := cOb (o := 3) aN rfl; have tl := lHp aN; simp only [Tok.agg]; clear cH bL aN hk hn y0 yl
  by_cases aM : t.n < 2
  · have j1 : (t.n : Int) < 2 := by omega
    have bP : Hid (Jv op (a :: t :: r) st (t :: r) = .error (5, a :: t :: r)) := Hi (by rw [HG.out, if_pos aM]); clear aM; go_wp2_with fail; refine (Zd 5 a _).mono ?_; rintro e w3 ⟨rfl, aK⟩; have bF := Hi ((aV.out.trans (Eff.of_below aK)).toS sb base); clear aK; go_wp2_with fail; refine ⟨rfl, ?_⟩; rw [bP.out]; exact ⟨rfl, bF.out⟩
  · have j1 : ¬ (t.n : Int) < 2 := by omega
    have bP : Hid (Jv op (a :: t :: r) st (t :: r) = Jo op t.n (a :: t :: r) st r) := Hi (by rw [HG.out, if_neg aM]); have cE := Hi aM; clear aM; go_wp2_with fail; refine (Xm 5 a _).mono ?_; rintro e w3 ⟨rfl, aK⟩; have bF := Hi (aV.out.trans (Eff.of_below aK)); have dA := Hi (bT.out.below aK); have cX := Hi (cY.out.eff (Eff.of_below aK)); have aQ := (aK.block _ tl).trans cU.out; have bX : base <= w3.heap.size := Nat.le_trans aH bF.out.size; clear aK t0 t1 t2 t3 tl; have t0 := cOb (o := 0) aQ rfl; have t1 := cOb (o := 1) aQ rfl; have t2 := cOb (o := 2) aQ rfl; have t3 := cOb (o := 3) aQ rfl; have tl := lHp aQ; clear aQ; go_wp2_with fail; have aM := cE.out; refine (Gp op t.n a sb p base fin ts r (t :: r) st w3 dA.out cX.out (by omega) bW bX).mono ?_; intro e w4 ho; cases hq : Jo op t.n (a :: t :: r) st r with
    | error x =>
      obtain ⟨c, s⟩ := x; rw [hq] at ho; obtain ⟨rfl, h2⟩ := ho; have H2 := Hi ((bF.out.toS sb base).trans h2); have HQ := Hi hq; clear h2 hq; go_wp2_with fail; refine ⟨rfl, ?_⟩; rw [bP.out, HQ.out]; exact ⟨rfl, H2.out⟩
    | ok x =>
      obtain ⟨st', r'⟩ := x; rw [hq] at ho; obtain ⟨rfl, g1, g2, g3⟩ := ho; have G1 := Hi g1; have G2 := Hi g2; have G3 := Hi ((bF.out.toS sb base).trans g3); have HQ := Hi hq; clear g1 g2 g3 hq; go_wp2_with fail; go_end0; rw [bP.out, HQ.out]; exact ⟨rfl, G1.out, G2.out, G3.out⟩
theorem N2 (op k : Nat) (a : Tok) (sb p base fin : Nat) (ts l lt : List Tok) (st : Qm) (w : World) (hp : PS w p fin ts l) (hs : SK false w sb p base 140 st) (hk : 1 <= k) (aM : k <= 10000000) (aH : base <= w.heap.size) :
 Calls Tryz.prog 169 #[.pointer (some ⟨sb, 0, none⟩), .int .i64 op, .int .i64 k, a.agg] w (Gh false p fin sb base 140 ts w (Jo op k (a :: lt) st l)) := by
 rcases Ol (op := op) (k := k) (at' := a :: lt) (st := st) (r := l) with ⟨h1, h2⟩ | ⟨n, h1, h2⟩
 · rw [h2]; exact (N0 op k a sb p base 140 fin ts l st w hs h1 aM).mono fun e w' ⟨x, y⟩ => ⟨x, (Eff.of_below (p := p) y).toS sb base⟩
 · refine (qdw op k n a sb p base fin ts l st w hp hs h1 hk aH).mono fun e w' ⟨x, y⟩ => ?_; rcases h2 with ⟨h2, h3⟩ | ⟨h2, h3⟩
   · rw [h3]; exact y h2
   · rw [h3]; exact x h2
theorem qbv (op : Nat) (a : Tok) (sb p base fin : Nat) (ts l : List Tok) (st : Qm) (w : World) (hp : PS w p fin ts l) (aY : ∃ u, ts = u ++ a :: l) (hs : SK false w sb p base 140 st) (aH : base <= w.heap.size) :
 Calls Tryz.prog 146 #[.pointer (some ⟨sb, 0, none⟩), .int .i64 op] w (Gh false p fin sb base 140 ts w (Jv op (a :: l) st l)) := by
 have HS := Hi hs; have HP := Hi hp; obtain ⟨v, hb, bA⟩ := hs.is; obtain ⟨A, cap, rfl⟩ := bA.form; obtain ⟨B, c, u, hh, hu, hr, hn, h1, h2⟩ := hp.is; obtain ⟨u0, aL⟩ := aY
 have cF : u.length = u0.length + 1 := by
  have h3 := congrArg List.length hu; have h4 := congrArg List.length aL; simp at h3 h4; omega
 rw [cF] at hh; obtain ⟨b, o, rfl, cL, t0, t1, t2, t3⟩ := Ou hr aL; have c0 := cOb (o := 0) hb rfl; have sl := lHp hb; have cO : sb < w.heap.size + 1 := Nat.lt_succ_of_lt sl; have p0 := cOb (o := 0) hh rfl; have p1 : w.cell? ⟨p, 1, none⟩ = some (.int .i64 ((u0.length : Int) + 1)) := cOb (o := 1) hh (by simp); have pl := lHp hh; have cP : p < w.heap.size + 1 := Nat.lt_succ_of_lt pl; have cT : b < w.heap.size + 1 := Nat.lt_succ_of_lt cL; have i1 : IntKind.i64.wrap (u0.length : Int) = u0.length := IntWalk.i64_in _ ⟨by omega, by have := hp.few; rw [aL] at this; simp at this; omega⟩; have i2 : (u0.length : Int) < ts.length := by rw [aL]; simp; omega
 have i3 : (0 : Int) <= u0.length := by omega
 have cQ : w.heap.size ≠ p := by omega
 have cJ := Hi (heap_alloc_new w (X7 a)); have aJ : Hid (Below w.heap.size w (w.alloc (X7 a)).drew) := Hi (((Below.refl _ _).alloc (lR _) _).drew); have cA : Hid (∀ t r, l = t :: r -> t.n <= 10000000) := Hi (fun t r h => (hp.fit t (by rw [aL, h]; simp)).num); have cW := Hi hb; clear hp hs hb bA hh hu hr hn h1 h2 aL; go_enter Tryz.func146, Tryz.ntmps146
 go_wp2_with fail; go_region; have bV : (w.alloc (X7 a)).drew.heap[w.heap.size]? = some (X7 a) := cJ.out; have aX : (w.alloc (X7 a)).drew.heap[sb]? = some (.cells #[.pointer (some ⟨p, 0, none⟩), .slice A st.length cap, .func (.func 140) #[] #[]] (sE false) (0, 0)) := (aJ.out.block _ sl).trans cW.out; change Exit.then _ _ _ _ (w.alloc (X7 a)).drew
 generalize (w.alloc (X7 a)).drew = w1 at bV aX aJ ⊢; have bI := Hi (HP.out.below aJ.out); have cZ := Hi (HS.out.eff (Eff.of_below aJ.out)); have HX := Hi bV; have cV := Hi aX; have y0 := cOb (o := 0) aX rfl; have yl := lHp aX; clear bV aX c0 p0 p1 t0 t1 t2 t3 i1 i2 i3 cO cP cT cJ; go_wp2_with fail; rcases Vv l with ⟨t, r, rfl, hk, hn⟩ | ⟨hk, hn⟩
 case inr =>
  rw [show Jv op (a :: l) st l = .error (Z1 l, l) by unfold Jv; rw [hn]; rfl]; refine (R4 p fin ts l _ bI.out (hk fin)).mono ?_; rintro e w2 ⟨rfl, bC⟩; have aV := Hi (((Eff.of_below (p := p) aJ.out).trans (Eff.of_below bC)).toS sb base); clear bC hk hn; go_wp2_with fail; exact ⟨rfl, rfl, aV.out⟩
 case inl =>
  have HG : Hid (Jv op (a :: t :: r) st (t :: r) = if t.n < 2 then .error (5, a :: t :: r) else Jo op t.n (a :: t :: r) st r) := Hi (by unfold Jv; rw [hn]; rfl); have bW := cA.out t r rfl; refine (V0 p fin ts t r _ bI.out hk).mono ?_; rintro e w2 ⟨rfl, cH, bL⟩; have bT := Hi cH; have aV : Hid (Eff p w w2) := Hi ((Eff.of_below aJ.out).trans bL); have cY := Hi (cZ.out.eff bL); have aN : w2.heap[w.heap.size]? = some (X7 a) := (bL.block _ (lHp HX.out) cQ).trans HX.out; have cU := Hi aN; have t0 := cOb (o := 0) aN rfl; have t1 := cOb (o := 1) aN rfl; have t2 := cOb (o := 2) aN rfl; have t3 := cOb (o := 3) aN rfl; have tl := lHp aN; simp only [Tok.agg]; clear cH bL aN hk hn y0 yl
  by_cases aM : t.n < 2
  · have j1 : (t.n : Int) < 2 := by omega
    have bP : Hid (Jv op (a :: t :: r) st (t :: r) = .error (5, a :: t :: r)) := Hi (by rw [HG.out, if_pos aM]); clear aM; go_wp2_with fail; refine (Zd 5 a _).mono ?_; rintro e w3 ⟨rfl, aK⟩; have bF := Hi ((aV.out.trans (Eff.of_below aK)).toS sb base); clear aK; go_wp2_with fail; refine ⟨rfl, ?_⟩; rw [bP.out]; exact ⟨rfl, bF.out⟩
  · have j1 : ¬ (t.n : Int) < 2 := by omega
    have bP : Hid (Jv op (a :: t :: r) st (t :: r) = Jo op t.n (a :: t :: r) st r) := Hi (by rw [HG.out, if_neg aM]); have cE := Hi aM; clear aM; go_wp2_with fail; refine (Xm 5 a _).mono ?_; rintro e w3 ⟨rfl, aK⟩; have bF := Hi (aV.out.trans (Eff.of_below aK)); have dA := Hi (bT.out.below aK); have cX := Hi (cY.out.eff (Eff.of_below aK)); have aQ := (aK.block _ tl).trans cU.out; have bX : base <= w3.heap.size := Nat.le_trans aH bF.out.size; clear aK t0 t1 t2 t3 tl; have t0 := cOb (o := 0) aQ rfl; have t1 := cOb (o := 1) aQ rfl; have t2 := cOb (o := 2) aQ rfl; have t3 := cOb (o := 3) aQ rfl; have tl := lHp aQ; clear aQ; go_wp2_with fail; have aM := cE.out; refine (N2 op t.n a sb p base fin ts r (t :: r) st w3 dA.out cX.out (by omega) bW bX).mono ?_; intro e w4 ho; cases hq : Jo op t.n (a :: t :: r) st r with
    | error x =>
      obtain ⟨c, s⟩ := x; rw [hq] at ho; obtain ⟨rfl, h2⟩ := ho; have H2 := Hi ((bF.out.toS sb base).trans h2); have HQ := Hi hq; clear h2 hq; go_wp2_with fail; refine ⟨rfl, ?_⟩; rw [bP.out, HQ.out]; exact ⟨rfl, H2.out⟩
    | ok x =>
      obtain ⟨st', r'⟩ := x; rw [hq] at ho; obtain ⟨rfl, g1, g2, g3⟩ := ho; have G1 := Hi g1; have G2 := Hi g2; have G3 := Hi ((bF.out.toS sb base).trans g3); have HQ := Hi hq; clear g1 g2 g3 hq; go_wp2_with fail; go_end0; rw [bP.out, HQ.out]; exact ⟨rfl, G1.out, G2.out, G3.out⟩
end So
end
set_option maxRecDepth 20000
set_option maxHeartbeats 1600000
section
namespace So
open Go.RowKit
structure Cap (w : World) (pb sbb mb mp n mbase p sb base : Nat) (ws : List (List UInt8)) : Prop where
 p0 : w.cell? ⟨pb, 0, none⟩ = some (.pointer (some ⟨p, 0, none⟩))
 s0 : w.cell? ⟨sbb, 0, none⟩ = some (.pointer (some ⟨sb, 0, none⟩))
 m0 : w.cell? ⟨mb, 0, none⟩ = some (.map (some mp))
 mm : P8 w mp n mbase ws
 lt : pb < base /\ sbb < base /\ mb < base /\ mp < base
 np : pb ≠ p /\ sbb ≠ p /\ mb ≠ p /\ mp ≠ p
 ns : pb ≠ sb /\ sbb ≠ sb /\ mb ≠ sb /\ mp ≠ sb
theorem Cap.keep {w w' : World} {pb sbb mb mp n mbase p sb base : Nat} {ws : List (List UInt8)} (h : Cap w pb sbb mb mp n mbase p sb base ws) (he : Wc p sb base w w') : Cap w' pb sbb mb mp n mbase p sb base ws :=
 ⟨(cOh (he.block pb (World.block_lt_of_cell? _ _ h.p0) h.np.1 h.ns.1 h.lt.1) _).trans h.p0, (cOh (he.block sbb (World.block_lt_of_cell? _ _ h.s0) h.np.2.1 h.ns.2.1 h.lt.2.1) _).trans h.s0,
   (cOh (he.block mb (World.block_lt_of_cell? _ _ h.m0) h.np.2.2.1 h.ns.2.2.1 h.lt.2.2.1) _).trans h.m0, h.mm.of_heap (he.block mp h.mm.lt h.np.2.2.2 h.ns.2.2.2 h.lt.2.2.2), h.lt, h.np, h.ns⟩
theorem Cap.below {w w' : World} {pb sbb mb mp n mbase p sb base : Nat} {ws : List (List UInt8)} (h : Cap w pb sbb mb mp n mbase p sb base ws) (hb : Below w.heap.size w w') : Cap w' pb sbb mb mp n mbase p sb base ws :=
 h.keep ((Eff.of_below (p := p) hb).toS sb base)
theorem qg9 (pb p fin : Nat) (ts l : List Tok) (w : World) (hp : PS w p fin ts l) (hc : w.cell? ⟨pb, 0, none⟩ = some (.pointer (some ⟨p, 0, none⟩))) :
 Calls Tryz.prog 131 #[.pointer (some ⟨pb, 0, none⟩)] w fun e w' => e = .returned (.bool (Zv l)) /\ Below w.heap.size w w' := by
 have HP := Hi hp; have hl := World.block_lt_of_cell? _ _ hc; clear hp; go_enter Tryz.func131, Tryz.ntmps131
 go_wp2_with fail; refine (U6 p fin ts l _ HP.out).mono ?_; rintro e w1 ⟨rfl, aS⟩; have aJ := Hi aS; have bI := Hi (HP.out.below aS); have c1 := (aS.cell (p := ⟨pb, 0, none⟩) hl).trans hc; have cR : pb < w1.heap.size := Nat.lt_of_lt_of_le hl aS.size; cases hn : X6 l with
 | true =>
   have HE : Hid (Zv l = true) := Hi (by unfold Zv; rw [hn]; rfl); clear hn aS; go_wp2_with fail; go_ret; exact ⟨by rw [HE.out]; rfl, aJ.out⟩
 | false =>
   have HE : Hid (Zv l = Ji [[121, 101, 115], [110, 111], [110, 101, 103, 97, 116, 101, 100], [97, 108, 108], [97, 110, 121]] l) := Hi (by unfold Zv; rw [hn]; rfl); clear hn aS; go_wp2_with fail; have bM : Below w1.heap.size w1 (w1.alloc (.cells #[vs [121, 101, 115], vs [110, 111], vs [110, 101, 103, 97, 116, 101, 100], vs [97, 108, 108], vs [97, 110, 121]] 9 (0, 0))) := (Below.refl _ _).alloc (lR _) _; refine (Ug [[121, 101, 115], [110, 111], [110, 101, 103, 97, 116, 101, 100], [97, 108, 108], [97, 110, 121]] (some ⟨w1.heap.size, 0, none⟩) 5 p fin ts l _ (bI.out.below bM) (RdS.new (heap_alloc_new w1 _)) (by decide)).mono ?_; rintro e w2 ⟨rfl, bC⟩; have bU := Hi (aJ.out.trans ((bM.trans (bC.mono bM.size)).mono aJ.out.size)); generalize Ji [[121, 101, 115], [110, 111], [110, 101, 103, 97, 116, 101, 100], [97, 108, 108], [97, 110, 121]] l = S at HE ⊢; clear bC bM; go_wp2_with fail; go_ret; exact ⟨by rw [HE.out]; rfl, bU.out⟩
theorem G7 (fin : Nat) (l : List Tok) : (l.head?.any fun t => t.kind == 2) = ((Zx fin l).kind == 2) := by
 cases l with
 | nil => rfl
 | cons t r => rfl
theorem qg8 (pb p fin : Nat) (ts l : List Tok) (w : World) (hp : PS w p fin ts l) (hc : w.cell? ⟨pb, 0, none⟩ = some (.pointer (some ⟨p, 0, none⟩))) :
 Calls Tryz.prog 141 #[.pointer (some ⟨pb, 0, none⟩)] w fun e w' => e = .returned (.bool (Zg l)) /\ Below w.heap.size w w' := by
 have HP := Hi hp; have hl := World.block_lt_of_cell? _ _ hc; clear hp; go_enter Tryz.func141, Tryz.ntmps141
 go_wp2_with fail; refine (U6 p fin ts l _ HP.out).mono ?_; rintro e w1 ⟨rfl, aS⟩; have aJ := Hi aS; have bI := Hi (HP.out.below aS); have c1 := (aS.cell (p := ⟨pb, 0, none⟩) hl).trans hc; have cR : pb < w1.heap.size := Nat.lt_of_lt_of_le hl aS.size; cases hn : X6 l with
 | true =>
   have HE : Hid (Zg l = true) := Hi (by unfold Zg; rw [hn]; rfl); clear hn aS; go_wp2_with fail; go_ret; exact ⟨by rw [HE.out]; rfl, aJ.out⟩
 | false =>
   have HN := Hi hn; clear hn aS; go_wp2_with fail; have bM : Below w1.heap.size w1 (w1.alloc (.cells #[vs [97, 108, 119, 97, 121, 115], vs [110, 101, 118, 101, 114], vs [97, 108, 108], vs [97, 110, 121]] 9 (0, 0))) := (Below.refl _ _).alloc (lR _) _; refine (Ug [[97, 108, 119, 97, 121, 115], [110, 101, 118, 101, 114], [97, 108, 108], [97, 110, 121]] (some ⟨w1.heap.size, 0, none⟩) 4 p fin ts l _ (bI.out.below bM) (RdS.new (heap_alloc_new w1 _)) (by decide)).mono ?_; rintro e w2 ⟨rfl, bC⟩; have bD := bM.trans (bC.mono bM.size); have bU := Hi (aJ.out.trans (bD.mono aJ.out.size)); have bT := Hi (bI.out.below bD); have c2 := (bD.cell (p := ⟨pb, 0, none⟩) cR).trans c1; have dR : pb < w2.heap.size := Nat.lt_of_lt_of_le cR bD.size; clear bC bM bD; cases hs : Ji [[97, 108, 119, 97, 121, 115], [110, 101, 118, 101, 114], [97, 108, 108], [97, 110, 121]] l with
   | true =>
     have HE : Hid (Zg l = true) := Hi (by unfold Zg; rw [HN.out, hs]; rfl); clear hs; go_wp2_with fail; go_ret; exact ⟨by rw [HE.out]; rfl, bU.out⟩
   | false =>
     have HE : Hid (Zg l = ((Zx fin l).kind == 2)) := Hi (by unfold Zg; rw [HN.out, hs, G7 fin]; rfl); clear hs; go_wp2_with fail; refine (Ve p fin ts l _ bT.out).mono ?_; rintro e w3 ⟨rfl, aK⟩; generalize Zx fin l = T at HE ⊢; have bG := Hi (bU.out.trans (aK.mono bU.out.size)); simp only [Tok.agg]; clear aK
     by_cases hk : T.kind = 2
     · have i1 : ((T.kind : Int) == 2) = true := by simp; omega
       have aV : Hid (Zg l = true) := Hi (by rw [HE.out, hk]; rfl); clear hk; go_wp2_with fail; go_ret; exact ⟨by rw [aV.out]; rfl, bG.out⟩
     · have i1 : ((T.kind : Int) == 2) = false := by simp; omega
       have aV : Hid (Zg l = false) := Hi (by rw [HE.out]; simp [hk]); clear hk; go_wp2_with fail; go_ret; exact ⟨by rw [aV.out]; rfl, bG.out⟩
end So
end
set_option maxRecDepth 20000
set_option maxHeartbeats 8000000
section
namespace So
open Go.RowKit
structure ItS (fm : Bool) (w w' : World) (pb sbb mb mp n mbase p sb base fj fin : Nat) (ws : List (List UInt8)) (ts l : List Tok) (st : Qm) : Prop where
 ps : PS w' p fin ts l
 sk : SK fm w' sb p base fj st
 cap : Cap w' pb sbb mb mp n mbase p sb base ws
 eff : Wc p sb base w w'
theorem ItS.below {fm : Bool} {w w1 w2 : World} {pb sbb mb mp n mbase p sb base fj fin : Nat} {ws : List (List UInt8)} {ts l : List Tok} {st : Qm} (h : ItS fm w w1 pb sbb mb mp n mbase p sb base fj fin ws ts l st) (hb : Below w1.heap.size w1 w2) : ItS fm w w2 pb sbb mb mp n mbase p sb base fj fin ws ts l st :=
 ⟨h.ps.below hb, h.sk.eff (Eff.of_below hb), h.cap.below hb, h.eff.trans ((Eff.of_below hb).toS sb base)⟩
theorem ItS.step {fm : Bool} {w w1 w2 : World} {pb sbb mb mp n mbase p sb base fj fin : Nat} {ws : List (List UInt8)} {ts l r : List Tok} {st : Qm} (h : ItS fm w w1 pb sbb mb mp n mbase p sb base fj fin ws ts l st) (hp : PS w2 p fin ts r) (he : Eff p w1 w2) : ItS fm w w2 pb sbb mb mp n mbase p sb base fj fin ws ts r st :=
 ⟨hp, h.sk.eff he, h.cap.keep (he.toS sb base), h.eff.trans (he.toS sb base)⟩
theorem ItS.cells {fm : Bool} {w w' : World} {pb sbb mb mp n mbase p sb base fj fin : Nat} {ws : List (List UInt8)} {ts l : List Tok} {st : Qm} (h : ItS fm w w' pb sbb mb mp n mbase p sb base fj fin ws ts l st) :
 w'.cell? ⟨pb, 0, none⟩ = some (.pointer (some ⟨p, 0, none⟩)) /\ w'.cell? ⟨sbb, 0, none⟩ = some (.pointer (some ⟨sb, 0, none⟩)) /\ w'.cell? ⟨mb, 0, none⟩ = some (.map (some mp)) /\ pb < w'.heap.size /\ sbb < w'.heap.size /\ mb < w'.heap.size :=
 ⟨h.cap.p0, h.cap.s0, h.cap.m0, World.block_lt_of_cell? _ _ h.cap.p0, World.block_lt_of_cell? _ _ h.cap.s0, World.block_lt_of_cell? _ _ h.cap.m0⟩
theorem ItS.push {fm : Bool} {w w1 w2 : World} {pb sbb mb mp n mbase p sb base fj fin : Nat} {ws : List (List UInt8)} {ts l : List Tok} {st st' : Qm} (h : ItS fm w w1 pb sbb mb mp n mbase p sb base fj fin ws ts l st) (h1 : SK fm w2 sb p base fj st') (h2 : PS w2 p fin ts l) (h3 : Wc p sb base w1 w2) :
 Gh fm p fin sb base fj ts w (.ok (st', l)) (.returned (.tuple #[])) w2 := ⟨rfl, h1, h2, h.eff.trans h3⟩
theorem Gh.trans {fm : Bool} {w w1 w2 : World} {pb sbb mb mp n mbase p sb base fj fin : Nat} {ws : List (List UInt8)} {ts l : List Tok} {st : Qm} {res : R Qm} {e : Ending} (h : ItS fm w w1 pb sbb mb mp n mbase p sb base fj fin ws ts l st) (ho : Gh fm p fin sb base fj ts w1 res e w2) : Gh fm p fin sb base fj ts w res e w2 := by
 unfold Gh at *; cases res with
 | error x => exact ⟨ho.1, h.eff.trans ho.2⟩
 | ok x => exact ⟨ho.1, ho.2.1, ho.2.2.1, h.eff.trans ho.2.2.2⟩
theorem ItS.prev {fm : Bool} {w w' : World} {pb sbb mb mp n mbase p sb base fj fin : Nat} {ws : List (List UInt8)} {ts l : List Tok} {st : Qm} (h : ItS fm w w' pb sbb mb mp n mbase p sb base fj fin ws ts l st) : ∃ u, ts = u ++ l := by
 obtain ⟨A, c, u, hh, hu, -⟩ := h.ps.is; exact ⟨u, hu⟩
theorem Xi {α : Type} {w : List UInt8} {l : List Tok} {y n : List Tok -> R α} (h : Ji [w] l = true) : isF w l y n = y l.tail := by unfold isF; rw [if_pos h]
theorem J5 {α : Type} {w : List UInt8} {l : List Tok} {y n : List Tok -> R α} (h : Ji [w] l = false) : isF w l y n = n l := by unfold isF; rw [if_neg (by rw [h]; decide)]
theorem qkg (pb sbb mb mp n p sb base fin : Nat) (ts l : List Tok) (st : Qm) (w : World) (hi : ItS true w w pb sbb mb mp n 1 p sb base 130 fin [[101, 113, 117, 97, 108], [117, 110, 108, 105, 107, 101], [98, 101, 108, 111, 119], [109, 111, 115, 116], [97, 98, 111, 118, 101], [108, 101, 97, 115, 116]] ts l st) (hf : st.length < 200) (aH : base <= w.heap.size) :
 Calls Tryz.prog 134 #[.pointer (some ⟨pb, 0, none⟩), .pointer (some ⟨sbb, 0, none⟩), .pointer (some ⟨mb, 0, none⟩)] w (Gh true p fin sb base 130 ts w (Zb st l)) := by
 have bO := Hi hi; have c := hi.cells; obtain ⟨cp, cs, cm, lp, ls, lm⟩ := c; clear hi; go_enter Tryz.func134, Tryz.ntmps134
 go_wp2_with fail; cases hs : Ji [[121, 101, 115]] l with
 | true =>
   have HQ := Hi hs; clear hs; have HR : Hid (Zb st l = .ok (st ++ [(.mk 1 [] 0 0 [], 1)], l.tail)) := Hi (by unfold Zb; rw [Xi HQ.out]; rfl); refine (X0 [121, 101, 115] p fin ts l _ bO.out.ps HQ.out).mono ?_; rintro e wy ⟨rfl, hp, he⟩; have HY := Hi (bO.out.step hp he); have aC : base <= wy.heap.size := Nat.le_trans aH HY.out.eff.size; clear cp cs cm lp ls lm hp he; have c := HY.out.cells; obtain ⟨cp, cs, cm, lp, ls, lm⟩ := c; go_wp2_with fail; refine (Cj 1 [] 0 0 sb p base 130 fin ts l.tail st _ HY.out.ps HY.out.sk hf aC).mono ?_; rintro e w3 ⟨rfl, h1, h2, h3⟩; have HO := Hi (HY.out.push h1 h2 h3); clear h1 h2 h3; go_wp2_with fail; go_end0; rw [HR.out]; exact HO.out
 | false =>
   have aW := Hi hs; clear hs; refine (Wu [121, 101, 115] p fin ts l _ bO.out.ps aW.out).mono ?_; rintro e w1 ⟨rfl, hb⟩; have bE := Hi (bO.out.below hb); clear cp cs cm lp ls lm hb; have c := bE.out.cells; obtain ⟨cp, cs, cm, lp, ls, lm⟩ := c; go_wp2_with fail; cases hs : Ji [[110, 111]] l with
   | true =>
     have HQ := Hi hs; clear hs; have HR : Hid (Zb st l = .ok (st ++ [(.mk 2 [] 0 0 [], 1)], l.tail)) := Hi (by unfold Zb; rw [J5 aW.out, Xi HQ.out]; rfl); refine (X0 [110, 111] p fin ts l _ bE.out.ps HQ.out).mono ?_; rintro e wy ⟨rfl, hp, he⟩; have HY := Hi (bE.out.step hp he); have aC : base <= wy.heap.size := Nat.le_trans aH HY.out.eff.size; clear cp cs cm lp ls lm hp he; have c := HY.out.cells; obtain ⟨cp, cs, cm, lp, ls, lm⟩ := c; go_wp2_with fail; refine (Cj 2 [] 0 0 sb p base 130 fin ts l.tail st _ HY.out.ps HY.out.sk hf aC).mono ?_; rintro e w3 ⟨rfl, h1, h2, h3⟩; have HO := Hi (HY.out.push h1 h2 h3); clear h1 h2 h3; go_wp2_with fail; go_end0; rw [HR.out]; exact HO.out
   | false =>
     have bH := Hi hs; clear hs; refine (Wu [110, 111] p fin ts l _ bE.out.ps bH.out).mono ?_; rintro e w2 ⟨rfl, hb⟩; have aU := Hi (bE.out.below hb); clear cp cs cm lp ls lm hb; have c := aU.out.cells; obtain ⟨cp, cs, cm, lp, ls, lm⟩ := c; go_wp2_with fail; cases hs : Ji [[110, 101, 103, 97, 116, 101, 100]] l with
     | true =>
       have HQ := Hi hs; clear hs; have HR : Hid (Zb st l = Jo 5 1 l st l.tail) := Hi (by unfold Zb; rw [J5 aW.out, J5 bH.out, Xi HQ.out]); refine (X0 [110, 101, 103, 97, 116, 101, 100] p fin ts l _ aU.out.ps HQ.out).mono ?_; rintro e wy ⟨rfl, hp, he⟩; have HY := Hi (aU.out.step hp he); have aC : base <= wy.heap.size := Nat.le_trans aH HY.out.eff.size; clear cp cs cm lp ls lm hp he; obtain ⟨t, r, rfl⟩ : ∃ t r, l = t :: r := by obtain ⟨t, r, h, -, -⟩ := Uf HQ.out; exact ⟨t, r, h⟩
       obtain ⟨u0, aL⟩ := aU.out.prev; obtain ⟨A, c, u, hh, hu, hr, hn, h1, h2⟩ := HY.out.ps.is; simp only [List.tail_cons] at hu
       have cF : u.length = u0.length + 1 := by
        have h3 := congrArg List.length hu; have h4 := congrArg List.length aL; simp at h3 h4; omega
       rw [cF] at hh; obtain ⟨tb, o, rfl, cL, t0, t1, t2, t3⟩ := Ou hr aL; have p0 := cOb (o := 0) hh rfl; have p1 : wy.cell? ⟨p, 1, none⟩ = some (.int .i64 ((u0.length : Int) + 1)) := cOb (o := 1) hh (by simp); have pl := lHp hh; have i1 : IntKind.i64.wrap (u0.length : Int) = u0.length := IntWalk.i64_in _ ⟨by omega, by have := HY.out.ps.few; rw [aL] at this; simp at this; omega⟩; have i2 : (u0.length : Int) < ts.length := by rw [aL]; simp; omega
       have bT := Hi (HY.out.ps.below (Below.refl _ _).drew); have cE := Hi (HY.out.sk.eff (Eff.of_below (p := p) (Below.refl _ _).drew)); have dH := Hi ((Below.refl wy.heap.size wy).drew); clear hh hu hr hn h1 h2 aL; have c := HY.out.cells; obtain ⟨cp, cs, cm, lp, ls, lm⟩ := c; go_wp2_with fail; go_still_tail 12, (by kernel_rfl)
       change wpList _ _ _ _ _ wy.drew
       have dB : base <= wy.drew.heap.size := aC; generalize wy.drew = wz at bT cE dH dB ⊢; have dP := Hi (HY.out.below dH.out); clear cp cs cm lp ls lm p0 p1 pl i1 i2 t0 t1 t2 t3; go_wp2_with fail; refine (Gp 5 1 t sb p base fin ts r r st _ bT.out cE.out (by decide) (by decide) dB).mono ?_; intro e w4 ho; have ho := Gh.trans dP.out ho; cases hq : Jo 5 1 (t :: r) st r with
       | error x =>
         obtain ⟨c, s⟩ := x; rw [hq] at ho; have aA := Hi (HR.out.trans hq); obtain ⟨rfl, h2⟩ := ho; have HO := Hi h2; clear h2 hq; go_wp2_with fail; refine ⟨rfl, ?_⟩; rw [aA.out]; exact ⟨rfl, HO.out⟩
       | ok x =>
         obtain ⟨st', r'⟩ := x; rw [hq] at ho; have aA := Hi (HR.out.trans hq); obtain ⟨rfl, h2⟩ := ho; have HO := Hi h2; clear h2 hq; go_wp2_with fail; go_end0; rw [aA.out]; exact ⟨rfl, HO.out⟩
     | false =>
       have bS := Hi hs; clear hs; refine (Wu [110, 101, 103, 97, 116, 101, 100] p fin ts l _ aU.out.ps bS.out).mono ?_; rintro e w3 ⟨rfl, hb⟩; have aT := Hi (aU.out.below hb); clear cp cs cm lp ls lm hb; have c := aT.out.cells; obtain ⟨cp, cs, cm, lp, ls, lm⟩ := c; go_wp2_with fail; cases hs : Ji [[97, 108, 108]] l with
       | true =>
         have HQ := Hi hs; clear hs; have HR : Hid (Zb st l = Jv 6 l st l.tail) := Hi (by unfold Zb; rw [J5 aW.out, J5 bH.out, J5 bS.out, Xi HQ.out]); refine (X0 [97, 108, 108] p fin ts l _ aT.out.ps HQ.out).mono ?_; rintro e wy ⟨rfl, hp, he⟩; have HY := Hi (aT.out.step hp he); have aC : base <= wy.heap.size := Nat.le_trans aH HY.out.eff.size; clear cp cs cm lp ls lm hp he; obtain ⟨t, r, rfl⟩ : ∃ t r, l = t :: r := by obtain ⟨t, r, h, -, -⟩ := Uf HQ.out; exact ⟨t, r, h⟩
         have bY := Hi aT.out.prev; have c := HY.out.cells; obtain ⟨cp, cs, cm, lp, ls, lm⟩ := c; go_wp2_with fail; refine (qbw 6 t sb p base fin ts r st _ HY.out.ps bY.out HY.out.sk aC).mono ?_; intro e w4 ho; have ho := Gh.trans HY.out ho; cases hq : Jv 6 (t :: r) st r with
         | error x =>
           obtain ⟨c, s⟩ := x; rw [hq] at ho; have aA := Hi (HR.out.trans hq); obtain ⟨rfl, h2⟩ := ho; have HO := Hi h2; clear h2 hq; go_wp2_with fail; refine ⟨rfl, ?_⟩; rw [aA.out]; exact ⟨rfl, HO.out⟩
         | ok x =>
           obtain ⟨st', r'⟩ := x; rw [hq] at ho; have aA := Hi (HR.out.trans hq); obtain ⟨rfl, h2⟩ := ho; have HO := Hi h2; clear h2 hq; go_wp2_with fail; go_end0; rw [aA.out]; exact ⟨rfl, HO.out⟩
       | false =>
         have cD := Hi hs; clear hs; refine (Wu [97, 108, 108] p fin ts l _ aT.out.ps cD.out).mono ?_; rintro e w4 ⟨rfl, hb⟩; have bN := Hi (aT.out.below hb); clear cp cs cm lp ls lm hb; have c := bN.out.cells; obtain ⟨cp, cs, cm, lp, ls, lm⟩ := c; go_wp2_with fail; cases hs : Ji [[97, 110, 121]] l with
         | true =>
           have HQ := Hi hs; clear hs; have HR : Hid (Zb st l = Jv 7 l st l.tail) := Hi (by unfold Zb; rw [J5 aW.out, J5 bH.out, J5 bS.out, J5 cD.out, Xi HQ.out]); refine (X0 [97, 110, 121] p fin ts l _ bN.out.ps HQ.out).mono ?_; rintro e wy ⟨rfl, hp, he⟩; have HY := Hi (bN.out.step hp he); have aC : base <= wy.heap.size := Nat.le_trans aH HY.out.eff.size; clear cp cs cm lp ls lm hp he; obtain ⟨t, r, rfl⟩ : ∃ t r, l = t :: r := by obtain ⟨t, r, h, -, -⟩ := Uf HQ.out; exact ⟨t, r, h⟩
           have bY := Hi bN.out.prev; have c := HY.out.cells; obtain ⟨cp, cs, cm, lp, ls, lm⟩ := c; go_wp2_with fail; refine (qbw 7 t sb p base fin ts r st _ HY.out.ps bY.out HY.out.sk aC).mono ?_; intro e w4 ho; have ho := Gh.trans HY.out ho; cases hq : Jv 7 (t :: r) st r with
           | error x =>
             obtain ⟨c, s⟩ := x; rw [hq] at ho; have aA := Hi (HR.out.trans hq); obtain ⟨rfl, h2⟩ := ho; have HO := Hi h2; clear h2 hq; go_wp2_with fail; refine ⟨rfl, ?_⟩; rw [aA.out]; exact ⟨rfl, HO.out⟩
           | ok x =>
             obtain ⟨st', r'⟩ := x; rw [hq] at ho; have aA := Hi (HR.out.trans hq); obtain ⟨rfl, h2⟩ := ho; have HO := Hi h2; clear h2 hq; go_wp2_with fail; go_end0; rw [aA.out]; exact ⟨rfl, HO.out⟩
         | false =>
           have dF := Hi hs; clear hs; refine (Wu [97, 110, 121] p fin ts l _ bN.out.ps dF.out).mono ?_; rintro e w5 ⟨rfl, hb⟩; have dG := Hi (bN.out.below hb); clear cp cs cm lp ls lm hb; have c := dG.out.cells; obtain ⟨cp, cs, cm, lp, ls, lm⟩ := c; have HB : Hid (Zb st l = Qc (Jb l) fun s r => isF [100, 101, 102, 105, 110, 101, 100] r (fun r => Xc st (.mk 4 s 0 0 []) r) (Hj st s)) := Hi (by unfold Zb; rw [J5 aW.out, J5 bH.out, J5 bS.out, J5 cD.out, J5 dF.out]); have aO := dG; go_wp2_with fail; rcases Yd l with ⟨t, r, rfl, bK, bJ⟩ | ⟨bK, bJ⟩
           case inr =>
            have aA : Hid (Zb st l = .error (Z1 l, l)) := Hi (by rw [HB.out, bJ]; rfl); refine (Rc p fin ts l _ aO.out.ps bK).mono ?_; rintro e w7 ⟨rfl, bR⟩; have bQ := Hi (aO.out.eff.trans ((Eff.of_below (p := p) bR).toS sb base)); clear bR; go_wp2_with fail; refine ⟨rfl, ?_⟩; rw [aA.out]; exact ⟨rfl, bQ.out⟩
           case inl =>
            obtain ⟨l0, aP⟩ : ∃ l0, l0 = t :: r := ⟨_, rfl⟩
            rw [<- aP] at HB; have aF := Hi aP; refine (U1 p fin ts t r _ aO.out.ps bK).mono ?_; rintro e w7 ⟨rfl, aZ, aB⟩; have aE := Hi (aO.out.step aZ aB); have cM : Hid (Jb l0 = .ok (t.text, r)) := Hi (by rw [aP]; exact bJ); simp only [Tok.agg]; clear cp cs cm lp ls lm aZ aB bK bJ aP; have c := aE.out.cells; obtain ⟨cp, cs, cm, lp, ls, lm⟩ := c; go_wp2_with fail; cases hs : Ji [[100, 101, 102, 105, 110, 101, 100]] r with
            | true =>
              have HQ := Hi hs; have aA : Hid (Zb st l0 = .ok (st ++ [(.mk 4 t.text 0 0 [], 1)], r.tail)) := Hi (by rw [HB.out, cM.out]; simp only [Qc]; rw [Xi hs]; rfl); clear hs; refine (X0 [100, 101, 102, 105, 110, 101, 100] p fin ts r _ aE.out.ps HQ.out).mono ?_; rintro e wy ⟨rfl, hp, he⟩; have HY := Hi (aE.out.step hp he); have aC : base <= wy.heap.size := Nat.le_trans aH HY.out.eff.size; clear cp cs cm lp ls lm hp he; have c := HY.out.cells; obtain ⟨cp, cs, cm, lp, ls, lm⟩ := c; go_wp2_with fail; refine (Cj 4 t.text 0 0 sb p base 130 fin ts r.tail st _ HY.out.ps HY.out.sk hf aC).mono ?_; rintro e w3 ⟨rfl, h1, h2, h3⟩; have HO := Hi (HY.out.push h1 h2 h3); clear h1 h2 h3; go_wp2_with fail; go_end0; rw [<- aF.out, aA.out]; exact HO.out
            | false =>
              have HQ := Hi hs; have bU : Hid (Zb st l0 = Hj st t.text r) := Hi (by rw [HB.out, cM.out]; simp only [Qc]; rw [J5 hs]); clear hs; refine (Wu [100, 101, 102, 105, 110, 101, 100] p fin ts r _ aE.out.ps HQ.out).mono ?_; rintro e w8 ⟨rfl, hb⟩; have cN := Hi (aE.out.below hb); clear cp cs cm lp ls lm hb; have c := cN.out.cells; obtain ⟨cp, cs, cm, lp, ls, lm⟩ := c; go_wp2_with fail; have aD := Oc 1000000 p fin ts r _ cN.out.ps; cases hq : Xf 1000000 r with
              | error x =>
                obtain ⟨c, s⟩ := x; rw [hq] at aD; have aA : Hid (Zb st l0 = .error (c, s)) := Hi (by rw [bU.out]; unfold Hj; rw [hq]; rfl); refine aD.mono ?_; rintro e w9 ⟨rfl, bB⟩; have bQ := Hi (cN.out.eff.trans (bB.toS sb base)); clear aD hq bB; go_wp2_with fail; refine ⟨rfl, ?_⟩; rw [<- aF.out, aA.out]; exact ⟨rfl, bQ.out⟩
              | ok x =>
                obtain ⟨v, r2⟩ := x; rw [hq] at aD; have bG : Hid (Zb st l0 = Qc (Zl [[101, 113, 117, 97, 108], [117, 110, 108, 105, 107, 101], [98, 101, 108, 111, 119], [109, 111, 115, 116], [97, 98, 111, 118, 101], [108, 101, 97, 115, 116]] r2) fun c r3 => Xc st (.mk 3 t.text (1 + c) v []) r3) := Hi (by rw [bU.out]; unfold Hj; rw [hq]; rfl); refine aD.mono ?_; rintro e w9 ⟨vv, rfl, rfl, cG, bB⟩; have bZ := Hi (cN.out.step cG bB); clear cp cs cm lp ls lm aD hq cG bB; have c := bZ.out.cells; obtain ⟨cp, cs, cm, lp, ls, lm⟩ := c; have aG := Hi (bZ.out.below (Below.refl _ _).drew); have aR := Ha [[101, 113, 117, 97, 108], [117, 110, 108, 105, 107, 101], [98, 101, 108, 111, 119], [109, 111, 115, 116], [97, 98, 111, 118, 101], [108, 101, 97, 115, 116]] (by decide) 1 mp n p fin ts r2 w9.drew aG.out.ps aG.out.cap.mm; cases hq : Zl [[101, 113, 117, 97, 108], [117, 110, 108, 105, 107, 101], [98, 101, 108, 111, 119], [109, 111, 115, 116], [97, 98, 111, 118, 101], [108, 101, 97, 115, 116]] r2 with
                | error x =>
                  obtain ⟨c, s⟩ := x; rw [hq] at aR; have aI := Hi aR; have aA : Hid (Zb st l0 = .error (c, s)) := Hi (by rw [bG.out, hq]; rfl); clear aR hq; go_wp2_with fail; refine wp_region_any (by kernel_rfl) ?_; change wpAny _ _ _ _ _ _ _ (World.drew _)
                  refine wpAny_take (i := 1) (v := ?_) rfl (by kernel_rfl) (by kernel_rfl) (by kernel_rfl) (fun _ _ _ h => h) (Or.inl ⟨by rfl, ?hy1⟩) ?rest1
                  case hy1 =>
                   intro w
                   first | (go_simp; done) | (go_simp; rfl) | rfl
                  refine wpAny_take (i := 2) (v := ?_) rfl (by kernel_rfl) (by kernel_rfl) (by kernel_rfl) (fun _ _ _ h => h) (Or.inl ⟨by rfl, ?hy2⟩) ?rest2
                  case hy2 =>
                   intro w
                   first | (go_simp; done) | (go_simp; rfl) | rfl
                  refine wpAny_ready (rs := [0, 3, 4]) (by kernel_rfl) (by simp) ?_; refine AllReady.cons rfl (fun K hK => ?_) ?_
                  · go_simp; refine hK _ _ ?_; clear hK K; refine wpAny_ready (rs := [3, 4]) (by kernel_rfl) (by simp) ?_; refine AllReady.cons rfl (fun K hK => ?_) ?_
                    · go_simp; refine hK _ _ ?_; clear hK K; refine wpAny_ready (rs := [4]) (by kernel_rfl) (by simp) ?_; refine AllReady.cons rfl (fun K hK => ?_) ?_
                      · go_simp; refine hK _ _ ?_; clear hK K; refine wpAny_ready (rs := [5]) (by kernel_rfl) (by simp) ?_; refine AllReady.cons rfl (fun K hK => ?_) ?_
                        · go_simp; refine aI.out.mono ?_; rintro e w7 ⟨rfl, aB⟩; refine ⟨rfl, ?_⟩; rw [<- aF.out, aA.out]; exact ⟨rfl, aG.out.eff.trans (aB.toS sb base)⟩
                        exact AllReady.nil
                      exact AllReady.nil
                    refine AllReady.cons rfl (fun K hK => ?_) ?_
                    · go_simp; refine hK _ _ ?_; clear hK K; refine wpAny_ready (rs := [3]) (by kernel_rfl) (by simp) ?_; refine AllReady.cons rfl (fun K hK => ?_) ?_
                      · go_simp; refine hK _ _ ?_; clear hK K; refine wpAny_ready (rs := [5]) (by kernel_rfl) (by simp) ?_; refine AllReady.cons rfl (fun K hK => ?_) ?_
                        · go_simp; refine aI.out.mono ?_; rintro e w7 ⟨rfl, aB⟩; refine ⟨rfl, ?_⟩; rw [<- aF.out, aA.out]; exact ⟨rfl, aG.out.eff.trans (aB.toS sb base)⟩
                        exact AllReady.nil
                      exact AllReady.nil
                    exact AllReady.nil
                  refine AllReady.cons rfl (fun K hK => ?_) ?_
                  · go_simp; refine hK _ _ ?_; clear hK K; refine wpAny_ready (rs := [0, 4]) (by kernel_rfl) (by simp) ?_; refine AllReady.cons rfl (fun K hK => ?_) ?_
                    · go_simp; refine hK _ _ ?_; clear hK K; refine wpAny_ready (rs := [4]) (by kernel_rfl) (by simp) ?_; refine AllReady.cons rfl (fun K hK => ?_) ?_
                      · go_simp; refine hK _ _ ?_; clear hK K; refine wpAny_ready (rs := [5]) (by kernel_rfl) (by simp) ?_; refine AllReady.cons rfl (fun K hK => ?_) ?_
                        · go_simp; refine aI.out.mono ?_; rintro e w7 ⟨rfl, aB⟩; refine ⟨rfl, ?_⟩; rw [<- aF.out, aA.out]; exact ⟨rfl, aG.out.eff.trans (aB.toS sb base)⟩
                        exact AllReady.nil
                      exact AllReady.nil
                    refine AllReady.cons rfl (fun K hK => ?_) ?_
                    · go_simp; refine hK _ _ ?_; clear hK K; refine wpAny_ready (rs := [0, 5]) (by kernel_rfl) (by simp) ?_; refine AllReady.cons rfl (fun K hK => ?_) ?_
                      · go_simp; refine hK _ _ ?_; clear hK K; refine wpAny_ready (rs := [5]) (by kernel_rfl) (by simp) ?_; refine AllReady.cons rfl (fun K hK => ?_) ?_
                        · go_simp; refine aI.out.mono ?_; rintro e w7 ⟨rfl, aB⟩; refine ⟨rfl, ?_⟩; rw [<- aF.out, aA.out]; exact ⟨rfl, aG.out.eff.trans (aB.toS sb base)⟩
                        exact AllReady.nil
                      refine AllReady.cons rfl (fun K hK => ?_) ?_
                      · go_simp; refine aI.out.mono ?_; rintro e w7 ⟨rfl, aB⟩; refine ⟨rfl, ?_⟩; rw [<- aF.out, aA.out]; exact ⟨rfl, aG.out.eff.trans (aB.toS sb base)⟩
                      exact AllReady.nil
                    exact AllReady.nil
                  refine AllReady.cons rfl (fun K hK => ?_) ?_
                  · go_simp; refine hK _ _ ?_; clear hK K; refine wpAny_ready (rs := [0, 3]) (by kernel_rfl) (by simp) ?_; refine AllReady.cons rfl (fun K hK => ?_) ?_
                    · go_simp; refine hK _ _ ?_; clear hK K; refine wpAny_ready (rs := [3]) (by kernel_rfl) (by simp) ?_; refine AllReady.cons rfl (fun K hK => ?_) ?_
                      · go_simp; refine hK _ _ ?_; clear hK K; refine wpAny_ready (rs := [5]) (by kernel_rfl) (by simp) ?_; refine AllReady.cons rfl (fun K hK => ?_) ?_
                        · go_simp; refine aI.out.mono ?_; rintro e w7 ⟨rfl, aB⟩; refine ⟨rfl, ?_⟩; rw [<- aF.out, aA.out]; exact ⟨rfl, aG.out.eff.trans (aB.toS sb base)⟩
                        exact AllReady.nil
                      exact AllReady.nil
                    refine AllReady.cons rfl (fun K hK => ?_) ?_
                    · go_simp; refine hK _ _ ?_; clear hK K; refine wpAny_ready (rs := [0, 5]) (by kernel_rfl) (by simp) ?_; refine AllReady.cons rfl (fun K hK => ?_) ?_
                      · go_simp; refine hK _ _ ?_; clear hK K; refine wpAny_ready (rs := [5]) (by kernel_rfl) (by simp) ?_; refine AllReady.cons rfl (fun K hK => ?_) ?_
                        · go_simp; refine aI.out.mono ?_; rintro e w7 ⟨rfl, aB⟩; refine ⟨rfl, ?_⟩; rw [<- aF.out, aA.out]; exact ⟨rfl, aG.out.eff.trans (aB.toS sb base)⟩
                        exact AllReady.nil
                      refine AllReady.cons rfl (fun K hK => ?_) ?_
                      · go_simp; refine aI.out.mono ?_; rintro e w7 ⟨rfl, aB⟩; refine ⟨rfl, ?_⟩; rw [<- aF.out, aA.out]; exact ⟨rfl, aG.out.eff.trans (aB.toS sb base)⟩
                      exact AllReady.nil
                    exact AllReady.nil
                  exact AllReady.nil
                | ok x =>
                  obtain ⟨c, r3⟩ := x; rw [hq] at aR; have aI : Hid (Calls Tryz.prog 95 #[.pointer (some ⟨p, 0, none⟩), .map (some mp)] w9.drew fun e w' => e = .returned (.int .i64 ((1 + c : Nat) : Int)) /\ PS w' p fin ts r3 /\ Eff p w9.drew w') := Hi (aR.mono fun e w' ⟨v, h1, h2, h3, h4⟩ => ⟨by rw [h1, h2], h3, h4⟩); have aA : Hid (Zb st l0 = .ok (st ++ [(.mk 3 t.text (1 + c) v [], 1)], r3)) := Hi (by rw [bG.out, hq]; rfl); clear aR hq; go_wp2_with fail; go_region_with (first | (go_at_call 95; refine aI.out.mono ?_; rintro e w7 ⟨rfl, aZ, aB⟩; have aE := Hi (aG.out.step aZ aB); have c7 := aE.out.cells; obtain ⟨dN, dM, dO, dK, dJ, dL⟩ := c7; clear aZ aB) | (go_at_call 135; refine (Cj 3 t.text (1 + c) (v) sb p base 130 fin ts r3 st _ aE.out.ps aE.out.sk hf (Nat.le_trans aH aE.out.eff.size)).mono ?_; rintro e w8 ⟨rfl, h1, h2, h3⟩; have HO := Hi (aE.out.push h1 h2 h3); clear h1 h2 h3))
                  all_goals
                   go_wp2_with fail; go_end0; rw [<- aF.out, aA.out]; exact HO.out
end So
end
set_option maxRecDepth 20000
set_option maxHeartbeats 8000000
section
namespace So
open Go.RowKit
theorem qkf (pb sbb mb mp n p sb base fin : Nat) (ts l : List Tok) (st : Qm) (w : World) (hi : ItS false w w pb sbb mb mp n 4 p sb base 140 fin [[100, 101, 99, 114, 101, 101], [101, 118, 101, 110, 116], [98, 101, 103, 117, 110], [111, 118, 101, 114]] ts l st) (hf : st.length < 200) (aH : base <= w.heap.size) :
 Calls Tryz.prog 144 #[.pointer (some ⟨pb, 0, none⟩), .pointer (some ⟨sbb, 0, none⟩), .pointer (some ⟨mb, 0, none⟩)] w (Gh false p fin sb base 140 ts w (Q9 st l)) := by
 have bO := Hi hi; have c := hi.cells; obtain ⟨cp, cs, cm, lp, ls, lm⟩ := c; clear hi; go_enter Tryz.func144, Tryz.ntmps144
 go_wp2_with fail; cases hs : Ji [[97, 108, 119, 97, 121, 115]] l with
 | true =>
   have HQ := Hi hs; clear hs; have HR : Hid (Q9 st l = .ok (st ++ [(.mk 1 [] 0 0 [], 1)], l.tail)) := Hi (by unfold Q9; rw [Xi HQ.out]; rfl); refine (X0 [97, 108, 119, 97, 121, 115] p fin ts l _ bO.out.ps HQ.out).mono ?_; rintro e wy ⟨rfl, hp, he⟩; have HY := Hi (bO.out.step hp he); have aC : base <= wy.heap.size := Nat.le_trans aH HY.out.eff.size; clear cp cs cm lp ls lm hp he; have c := HY.out.cells; obtain ⟨cp, cs, cm, lp, ls, lm⟩ := c; go_wp2_with fail; refine (Ci 1 [] 0 0 sb p base 140 fin ts l.tail st _ HY.out.ps HY.out.sk hf aC).mono ?_; rintro e w3 ⟨rfl, h1, h2, h3⟩; have HO := Hi (HY.out.push h1 h2 h3); clear h1 h2 h3; go_wp2_with fail; go_end0; rw [HR.out]; exact HO.out
 | false =>
   have aW := Hi hs; clear hs; refine (Wu [97, 108, 119, 97, 121, 115] p fin ts l _ bO.out.ps aW.out).mono ?_; rintro e w1 ⟨rfl, hb⟩; have bE := Hi (bO.out.below hb); clear cp cs cm lp ls lm hb; have c := bE.out.cells; obtain ⟨cp, cs, cm, lp, ls, lm⟩ := c; go_wp2_with fail; cases hs : Ji [[110, 101, 118, 101, 114]] l with
   | true =>
     have HQ := Hi hs; clear hs; have HR : Hid (Q9 st l = .ok (st ++ [(.mk 2 [] 0 0 [], 1)], l.tail)) := Hi (by unfold Q9; rw [J5 aW.out, Xi HQ.out]; rfl); refine (X0 [110, 101, 118, 101, 114] p fin ts l _ bE.out.ps HQ.out).mono ?_; rintro e wy ⟨rfl, hp, he⟩; have HY := Hi (bE.out.step hp he); have aC : base <= wy.heap.size := Nat.le_trans aH HY.out.eff.size; clear cp cs cm lp ls lm hp he; have c := HY.out.cells; obtain ⟨cp, cs, cm, lp, ls, lm⟩ := c; go_wp2_with fail; refine (Ci 2 [] 0 0 sb p base 140 fin ts l.tail st _ HY.out.ps HY.out.sk hf aC).mono ?_; rintro e w3 ⟨rfl, h1, h2, h3⟩; have HO := Hi (HY.out.push h1 h2 h3); clear h1 h2 h3; go_wp2_with fail; go_end0; rw [HR.out]; exact HO.out
   | false =>
     have bH := Hi hs; clear hs; refine (Wu [110, 101, 118, 101, 114] p fin ts l _ bE.out.ps bH.out).mono ?_; rintro e w2 ⟨rfl, hb⟩; have aU := Hi (bE.out.below hb); clear cp cs cm lp ls lm hb; have c := aU.out.cells; obtain ⟨cp, cs, cm, lp, ls, lm⟩ := c; go_wp2_with fail; cases hs : Ji [[97, 108, 108]] l with
     | true =>
       have HQ := Hi hs; clear hs; have HR : Hid (Q9 st l = Jv 8 l st l.tail) := Hi (by unfold Q9; rw [J5 aW.out, J5 bH.out, Xi HQ.out]); refine (X0 [97, 108, 108] p fin ts l _ aU.out.ps HQ.out).mono ?_; rintro e wy ⟨rfl, hp, he⟩; have HY := Hi (aU.out.step hp he); have aC : base <= wy.heap.size := Nat.le_trans aH HY.out.eff.size; clear cp cs cm lp ls lm hp he; obtain ⟨t, r, rfl⟩ : ∃ t r, l = t :: r := by obtain ⟨t, r, h, -, -⟩ := Uf HQ.out; exact ⟨t, r, h⟩
       have bY := Hi aU.out.prev; have c := HY.out.cells; obtain ⟨cp, cs, cm, lp, ls, lm⟩ := c; go_wp2_with fail; refine (qbv 8 t sb p base fin ts r st _ HY.out.ps bY.out HY.out.sk aC).mono ?_; intro e w4 ho; have ho := Gh.trans HY.out ho; cases hq : Jv 8 (t :: r) st r with
       | error x =>
         obtain ⟨c, s⟩ := x; rw [hq] at ho; have aA := Hi (HR.out.trans hq); obtain ⟨rfl, h2⟩ := ho; have HO := Hi h2; clear h2 hq; go_wp2_with fail; refine ⟨rfl, ?_⟩; rw [aA.out]; exact ⟨rfl, HO.out⟩
       | ok x =>
         obtain ⟨st', r'⟩ := x; rw [hq] at ho; have aA := Hi (HR.out.trans hq); obtain ⟨rfl, h2⟩ := ho; have HO := Hi h2; clear h2 hq; go_wp2_with fail; go_end0; rw [aA.out]; exact ⟨rfl, HO.out⟩
     | false =>
       have bS := Hi hs; clear hs; refine (Wu [97, 108, 108] p fin ts l _ aU.out.ps bS.out).mono ?_; rintro e w3 ⟨rfl, hb⟩; have aT := Hi (aU.out.below hb); clear cp cs cm lp ls lm hb; have c := aT.out.cells; obtain ⟨cp, cs, cm, lp, ls, lm⟩ := c; go_wp2_with fail; cases hs : Ji [[97, 110, 121]] l with
       | true =>
         have HQ := Hi hs; clear hs; have HR : Hid (Q9 st l = Jv 9 l st l.tail) := Hi (by unfold Q9; rw [J5 aW.out, J5 bH.out, J5 bS.out, Xi HQ.out]); refine (X0 [97, 110, 121] p fin ts l _ aT.out.ps HQ.out).mono ?_; rintro e wy ⟨rfl, hp, he⟩; have HY := Hi (aT.out.step hp he); have aC : base <= wy.heap.size := Nat.le_trans aH HY.out.eff.size; clear cp cs cm lp ls lm hp he; obtain ⟨t, r, rfl⟩ : ∃ t r, l = t :: r := by obtain ⟨t, r, h, -, -⟩ := Uf HQ.out; exact ⟨t, r, h⟩
         have bY := Hi aT.out.prev; have c := HY.out.cells; obtain ⟨cp, cs, cm, lp, ls, lm⟩ := c; go_wp2_with fail; refine (qbv 9 t sb p base fin ts r st _ HY.out.ps bY.out HY.out.sk aC).mono ?_; intro e w4 ho; have ho := Gh.trans HY.out ho; cases hq : Jv 9 (t :: r) st r with
         | error x =>
           obtain ⟨c, s⟩ := x; rw [hq] at ho; have aA := Hi (HR.out.trans hq); obtain ⟨rfl, h2⟩ := ho; have HO := Hi h2; clear h2 hq; go_wp2_with fail; refine ⟨rfl, ?_⟩; rw [aA.out]; exact ⟨rfl, HO.out⟩
         | ok x =>
           obtain ⟨st', r'⟩ := x; rw [hq] at ho; have aA := Hi (HR.out.trans hq); obtain ⟨rfl, h2⟩ := ho; have HO := Hi h2; clear h2 hq; go_wp2_with fail; go_end0; rw [aA.out]; exact ⟨rfl, HO.out⟩
       | false =>
         have cD := Hi hs; clear hs; refine (Wu [97, 110, 121] p fin ts l _ aT.out.ps cD.out).mono ?_; rintro e w4 ⟨rfl, hb⟩; have bN := Hi (aT.out.below hb); clear cp cs cm lp ls lm hb; have c := bN.out.cells; obtain ⟨cp, cs, cm, lp, ls, lm⟩ := c; have dI : Hid (Q9 st l = if (l.head?.any fun t => t.kind == 2) then Qc (Xf 1000000 l) fun v r => Qc (Q3 [100, 97, 121] r) fun _ r => Xc st (.mk 3 [] 0 v []) r else Qc (Jb l) fun s r => Qc (Zl [[100, 101, 99, 114, 101, 101], [101, 118, 101, 110, 116], [98, 101, 103, 117, 110], [111, 118, 101, 114]] r) fun c r => Xc st (.mk (4 + c) s 0 0 []) r) := Hi (by unfold Q9; rw [J5 aW.out, J5 bH.out, J5 bS.out, J5 cD.out]); have aO := bN; go_wp2_with fail; rcases Vv l with ⟨t, r, rfl, hk, -⟩ | ⟨hk, -⟩
         case inl =>
          obtain ⟨l0, aP⟩ : ∃ l0, l0 = t :: r := ⟨_, rfl⟩
          have HB : Hid (Q9 st l0 = Qc (Xf 1000000 l0) fun v r => Qc (Q3 [100, 97, 121] r) fun _ r => Xc st (.mk 3 [] 0 v []) r) := Hi (by rw [aP, dI.out, G7 0]; simp [Zx, hk]); have aF := Hi aP; refine (Uj p fin ts t r _ aO.out.ps).mono ?_; rintro e w7 ⟨rfl, bR⟩; have aE := Hi (aO.out.below bR); have i1 : ((t.kind : Int) == 2) = true := by simp; omega
          have i2 : (t.kind : Int) = 2 := (by omega)
          simp only [Tok.agg]; clear cp cs cm lp ls lm bR hk i2; have c := aE.out.cells; obtain ⟨cp, cs, cm, lp, ls, lm⟩ := c; rw [<- aP] at aE; clear aP; go_wp2_with fail; have aD := Oc 1000000 p fin ts l0 _ aE.out.ps; cases hq : Xf 1000000 l0 with
          | error x =>
            obtain ⟨c, s⟩ := x; rw [hq] at aD; have aA : Hid (Q9 st l0 = .error (c, s)) := Hi (by rw [HB.out, hq]; rfl); refine aD.mono ?_; rintro e w9 ⟨rfl, bB⟩; have bQ := Hi (aE.out.eff.trans (bB.toS sb base)); clear aD hq bB; go_wp2_with fail; refine ⟨rfl, ?_⟩; rw [<- aF.out, aA.out]; exact ⟨rfl, bQ.out⟩
          | ok x =>
            obtain ⟨v, r2⟩ := x; rw [hq] at aD; have bG : Hid (Q9 st l0 = Qc (Q3 [100, 97, 121] r2) fun _ r => Xc st (.mk 3 [] 0 v []) r) := Hi (by rw [HB.out, hq]; rfl); refine aD.mono ?_; rintro e w9 ⟨vv, rfl, rfl, cG, bB⟩; have bZ := Hi (aE.out.step cG bB); clear cp cs cm lp ls lm aD hq cG bB; have c := bZ.out.cells; obtain ⟨cp, cs, cm, lp, ls, lm⟩ := c; go_wp2_with fail; have cC := Xk [100, 97, 121] p fin ts r2 _ bZ.out.ps; cases hq : Q3 [100, 97, 121] r2 with
            | error x =>
              obtain ⟨c, s⟩ := x; rw [hq] at cC; have aA : Hid (Q9 st l0 = .error (c, s)) := Hi (by rw [bG.out, hq]; rfl); refine cC.mono ?_; rintro e wA ⟨rfl, cI⟩; have bQ := Hi (bZ.out.eff.trans (cI.toS sb base)); clear cC hq cI; go_wp2_with fail; refine ⟨rfl, ?_⟩; rw [<- aF.out, aA.out]; exact ⟨rfl, bQ.out⟩
            | ok x =>
              obtain ⟨u, r3⟩ := x; rw [hq] at cC; have aA : Hid (Q9 st l0 = .ok (st ++ [(.mk 3 [] 0 v [], 1)], r3)) := Hi (by rw [bG.out, hq]; rfl); refine cC.mono ?_; rintro e wA ⟨vv, rfl, rfl, dC, cI⟩; have cK := Hi (bZ.out.step dC cI); have cS : base <= wA.heap.size := Nat.le_trans aH cK.out.eff.size; clear cp cs cm lp ls lm cC hq dC cI; have c := cK.out.cells; obtain ⟨cp, cs, cm, lp, ls, lm⟩ := c; go_wp2_with fail; refine (Ci 3 [] 0 v sb p base 140 fin ts r3 st _ cK.out.ps cK.out.sk hf cS).mono ?_; rintro e wB ⟨rfl, h1, h2, h3⟩; have HO := Hi (cK.out.push h1 h2 h3); clear h1 h2 h3; go_wp2_with fail; go_end0; rw [<- aF.out, aA.out]; exact HO.out
         case inr =>
          have HB : Hid (Q9 st l = Qc (Jb l) fun s r => Qc (Zl [[100, 101, 99, 114, 101, 101], [101, 118, 101, 110, 116], [98, 101, 103, 117, 110], [111, 118, 101, 114]] r) fun c r => Xc st (.mk (4 + c) s 0 0 []) r) := Hi (by rw [dI.out, G7 fin]; simp [hk fin]); have dQ := Hi (hk fin); refine (Ve p fin ts l _ aO.out.ps).mono ?_; rintro e w6 ⟨rfl, dE⟩; have dD := dQ.out; generalize Zx fin l = T at dD ⊢; have i1 : ((T.kind : Int) == 2) = false := by simp; omega
          simp only [Tok.agg]; have aO := Hi (aO.out.below dE); clear cp cs cm lp ls lm dE hk dD; have c := aO.out.cells; obtain ⟨cp, cs, cm, lp, ls, lm⟩ := c; go_wp2_with fail; rcases Yd l with ⟨t, r, rfl, bK, bJ⟩ | ⟨bK, bJ⟩
          case inr =>
           have aA : Hid (Q9 st l = .error (Z1 l, l)) := Hi (by rw [HB.out, bJ]; rfl); refine (Rc p fin ts l _ aO.out.ps bK).mono ?_; rintro e w7 ⟨rfl, bR⟩; have bQ := Hi (aO.out.eff.trans ((Eff.of_below (p := p) bR).toS sb base)); clear bR; go_wp2_with fail; refine ⟨rfl, ?_⟩; rw [aA.out]; exact ⟨rfl, bQ.out⟩
          case inl =>
           obtain ⟨l0, aP⟩ : ∃ l0, l0 = t :: r := ⟨_, rfl⟩
           rw [<- aP] at HB; have aF := Hi aP; refine (U1 p fin ts t r _ aO.out.ps bK).mono ?_; rintro e w7 ⟨rfl, aZ, aB⟩; have aE := Hi (aO.out.step aZ aB); have cM : Hid (Jb l0 = .ok (t.text, r)) := Hi (by rw [aP]; exact bJ); simp only [Tok.agg]; clear cp cs cm lp ls lm aZ aB bK bJ aP; have c := aE.out.cells; obtain ⟨cp, cs, cm, lp, ls, lm⟩ := c; have bG : Hid (Q9 st l0 = Qc (Zl [[100, 101, 99, 114, 101, 101], [101, 118, 101, 110, 116], [98, 101, 103, 117, 110], [111, 118, 101, 114]] r) fun c r => Xc st (.mk (4 + c) t.text 0 0 []) r) := Hi (by rw [HB.out, cM.out]; rfl); have aG := Hi (aE.out.below (Below.refl _ _).drew); have aR := Ha [[100, 101, 99, 114, 101, 101], [101, 118, 101, 110, 116], [98, 101, 103, 117, 110], [111, 118, 101, 114]] (by decide) 4 mp n p fin ts r w7.drew aG.out.ps aG.out.cap.mm; cases hq : Zl [[100, 101, 99, 114, 101, 101], [101, 118, 101, 110, 116], [98, 101, 103, 117, 110], [111, 118, 101, 114]] r with
           | error x =>
             obtain ⟨c, s⟩ := x; rw [hq] at aR; have aI := Hi aR; have aA : Hid (Q9 st l0 = .error (c, s)) := Hi (by rw [bG.out, hq]; rfl); clear aR hq; go_wp2_with fail; refine wp_region_any (by kernel_rfl) ?_; change wpAny _ _ _ _ _ _ _ (World.drew _)
             refine wpAny_take (i := 4) (v := ?_) rfl (by kernel_rfl) (by kernel_rfl) (by kernel_rfl) (fun _ _ _ h => h) (Or.inl ⟨by rfl, ?hy4⟩) ?rest4
             case hy4 =>
              intro w
              first | (go_simp; done) | (go_simp; rfl) | rfl
             refine wpAny_ready (rs := [0, 1, 2]) (by kernel_rfl) (by simp) ?_; refine AllReady.cons rfl (fun K hK => ?_) ?_
             · go_simp; refine hK _ _ ?_; clear hK K; refine wpAny_ready (rs := [1, 2]) (by kernel_rfl) (by simp) ?_; refine AllReady.cons rfl (fun K hK => ?_) ?_
               · go_simp; refine hK _ _ ?_; clear hK K; refine wpAny_ready (rs := [2]) (by kernel_rfl) (by simp) ?_; refine AllReady.cons rfl (fun K hK => ?_) ?_
                 · go_simp; refine hK _ _ ?_; clear hK K; refine wpAny_ready (rs := [3]) (by kernel_rfl) (by simp) ?_; refine AllReady.cons rfl (fun K hK => ?_) ?_
                   · go_simp; refine aI.out.mono ?_; rintro e w7 ⟨rfl, aB⟩; refine ⟨rfl, ?_⟩; rw [<- aF.out, aA.out]; exact ⟨rfl, aG.out.eff.trans (aB.toS sb base)⟩
                   exact AllReady.nil
                 exact AllReady.nil
               refine AllReady.cons rfl (fun K hK => ?_) ?_
               · go_simp; refine hK _ _ ?_; clear hK K; refine wpAny_ready (rs := [1]) (by kernel_rfl) (by simp) ?_; refine AllReady.cons rfl (fun K hK => ?_) ?_
                 · go_simp; refine hK _ _ ?_; clear hK K; refine wpAny_ready (rs := [3]) (by kernel_rfl) (by simp) ?_; refine AllReady.cons rfl (fun K hK => ?_) ?_
                   · go_simp; refine aI.out.mono ?_; rintro e w7 ⟨rfl, aB⟩; refine ⟨rfl, ?_⟩; rw [<- aF.out, aA.out]; exact ⟨rfl, aG.out.eff.trans (aB.toS sb base)⟩
                   exact AllReady.nil
                 exact AllReady.nil
               exact AllReady.nil
             refine AllReady.cons rfl (fun K hK => ?_) ?_
             · go_simp; refine hK _ _ ?_; clear hK K; refine wpAny_ready (rs := [0, 2]) (by kernel_rfl) (by simp) ?_; refine AllReady.cons rfl (fun K hK => ?_) ?_
               · go_simp; refine hK _ _ ?_; clear hK K; refine wpAny_ready (rs := [2]) (by kernel_rfl) (by simp) ?_; refine AllReady.cons rfl (fun K hK => ?_) ?_
                 · go_simp; refine hK _ _ ?_; clear hK K; refine wpAny_ready (rs := [3]) (by kernel_rfl) (by simp) ?_; refine AllReady.cons rfl (fun K hK => ?_) ?_
                   · go_simp; refine aI.out.mono ?_; rintro e w7 ⟨rfl, aB⟩; refine ⟨rfl, ?_⟩; rw [<- aF.out, aA.out]; exact ⟨rfl, aG.out.eff.trans (aB.toS sb base)⟩
                   exact AllReady.nil
                 exact AllReady.nil
               refine AllReady.cons rfl (fun K hK => ?_) ?_
               · go_simp; refine hK _ _ ?_; clear hK K; refine wpAny_ready (rs := [0, 3]) (by kernel_rfl) (by simp) ?_; refine AllReady.cons rfl (fun K hK => ?_) ?_
                 · go_simp; refine hK _ _ ?_; clear hK K; refine wpAny_ready (rs := [3]) (by kernel_rfl) (by simp) ?_; refine AllReady.cons rfl (fun K hK => ?_) ?_
                   · go_simp; refine aI.out.mono ?_; rintro e w7 ⟨rfl, aB⟩; refine ⟨rfl, ?_⟩; rw [<- aF.out, aA.out]; exact ⟨rfl, aG.out.eff.trans (aB.toS sb base)⟩
                   exact AllReady.nil
                 refine AllReady.cons rfl (fun K hK => ?_) ?_
                 · go_simp; refine aI.out.mono ?_; rintro e w7 ⟨rfl, aB⟩; refine ⟨rfl, ?_⟩; rw [<- aF.out, aA.out]; exact ⟨rfl, aG.out.eff.trans (aB.toS sb base)⟩
                 exact AllReady.nil
               exact AllReady.nil
             refine AllReady.cons rfl (fun K hK => ?_) ?_
             · go_simp; refine hK _ _ ?_; clear hK K; refine wpAny_ready (rs := [0, 1]) (by kernel_rfl) (by simp) ?_; refine AllReady.cons rfl (fun K hK => ?_) ?_
               · go_simp; refine hK _ _ ?_; clear hK K; refine wpAny_ready (rs := [1]) (by kernel_rfl) (by simp) ?_; refine AllReady.cons rfl (fun K hK => ?_) ?_
                 · go_simp; refine hK _ _ ?_; clear hK K; refine wpAny_ready (rs := [3]) (by kernel_rfl) (by simp) ?_; refine AllReady.cons rfl (fun K hK => ?_) ?_
                   · go_simp; refine aI.out.mono ?_; rintro e w7 ⟨rfl, aB⟩; refine ⟨rfl, ?_⟩; rw [<- aF.out, aA.out]; exact ⟨rfl, aG.out.eff.trans (aB.toS sb base)⟩
                   exact AllReady.nil
                 exact AllReady.nil
               refine AllReady.cons rfl (fun K hK => ?_) ?_
               · go_simp; refine hK _ _ ?_; clear hK K; refine wpAny_ready (rs := [0, 3]) (by kernel_rfl) (by simp) ?_; refine AllReady.cons rfl (fun K hK => ?_) ?_
                 · go_simp; refine hK _ _ ?_; clear hK K; refine wpAny_ready (rs := [3]) (by kernel_rfl) (by simp) ?_; refine AllReady.cons rfl (fun K hK => ?_) ?_
                   · go_simp; refine aI.out.mono ?_; rintro e w7 ⟨rfl, aB⟩; refine ⟨rfl, ?_⟩; rw [<- aF.out, aA.out]; exact ⟨rfl, aG.out.eff.trans (aB.toS sb base)⟩
                   exact AllReady.nil
                 refine AllReady.cons rfl (fun K hK => ?_) ?_
                 · go_simp; refine aI.out.mono ?_; rintro e w7 ⟨rfl, aB⟩; refine ⟨rfl, ?_⟩; rw [<- aF.out, aA.out]; exact ⟨rfl, aG.out.eff.trans (aB.toS sb base)⟩
                 exact AllReady.nil
               exact AllReady.nil
             exact AllReady.nil
           | ok x =>
             obtain ⟨c, r3⟩ := x; rw [hq] at aR; have aI : Hid (Calls Tryz.prog 95 #[.pointer (some ⟨p, 0, none⟩), .map (some mp)] w7.drew fun e w' => e = .returned (.int .i64 ((4 + c : Nat) : Int)) /\ PS w' p fin ts r3 /\ Eff p w7.drew w') := Hi (aR.mono fun e w' ⟨v, h1, h2, h3, h4⟩ => ⟨by rw [h1, h2], h3, h4⟩); have aA : Hid (Q9 st l0 = .ok (st ++ [(.mk (4 + c) t.text (0) 0 [], 1)], r3)) := Hi (by rw [bG.out, hq]; rfl); clear aR hq; go_wp2_with fail; go_region_with (first | (go_at_call 95; refine aI.out.mono ?_; rintro e w7 ⟨rfl, aZ, aB⟩; have aE := Hi (aG.out.step aZ aB); have c7 := aE.out.cells; obtain ⟨dN, dM, dO, dK, dJ, dL⟩ := c7; clear aZ aB) | (go_at_call 145; refine (Ci (4 + c) t.text (0) (0) sb p base 140 fin ts r3 st _ aE.out.ps aE.out.sk hf (Nat.le_trans aH aE.out.eff.size)).mono ?_; rintro e w8 ⟨rfl, h1, h2, h3⟩; have HO := Hi (aE.out.push h1 h2 h3); clear h1 h2 h3))
             all_goals
              go_wp2_with fail; go_end0; rw [<- aF.out, aA.out]; exact HO.out
end So
