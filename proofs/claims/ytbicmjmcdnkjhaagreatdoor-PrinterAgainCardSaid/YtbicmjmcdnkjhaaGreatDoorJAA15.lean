/- printer.North: a round of its second loop: one start is written. -/
import Derived.Test.YtbicmjmcdnkjhaaGreatDoorJAA14
set_option linter.unusedVariables false
set_option linter.unusedSimpArgs false
set_option maxRecDepth 100000
set_option maxHeartbeats 4000000
namespace Go.Proofs.YtbicmjmcdnkjhaaGreatDoor
section
open Go.RowKit
attribute [local go_sem ↓] Go.wp_at_zero Go.wp_at_succ
def Yv : Code -> List Code
 | .loop c => [c]
 | .seq a b => Yv a ++ Yv b
 | .block _ c => Yv c
 | .scope c => Yv c
 | .cond _ a b => Yv a ++ Yv b
 | _ => []
noncomputable def qfu (i : Nat) : Code := (Tryz.f12.body.bind fun c => (Yv c)[i]?).getD .skip
theorem Wy {o : Nat} {nm : Qa} {d m : Nat} {ks : List Qb} (h : Ja (.mk o nm d m ks) = true) (ho : o = 1 \/ o = 2) : Qo (.mk o nm d m ks) = [] := by
 rw [Ja] at h; simp only [Bool.and_eq_true] at h
 have h2 : ks = [] := by
  rcases ho with rfl | rfl <;> simpa using h.1.2
 subst h2; rcases ho with rfl | rfl <;> simp [Qo, Qz]
theorem qdo {nm : Qa} {d m : Nat} {ks : List Qb} (h : Jn (.mk 1 nm d m ks) = true) : Ql (.mk 1 nm d m ks) = [] := by
 rw [Jn] at h; simp only [Bool.and_eq_true] at h; have h2 : ks = [] := by simpa using h.1.2
 subst h2; simp [Ql, Qy]
theorem X5 (b : Bool) (w : Qa) (l : List Qa) : (Qr b w l).length <= l.length + 1 := by
 unfold Qr
 split <;> simp
def Turn (k tri : Nat) (kw : Qa) : Prop := k = 0 /\ tri = 1 /\ kw = Vo \/ k = 1 /\ tri = 2 /\ kw = X9 \/ k = 2 /\ tri = 2 /\ kw = Xz
theorem Tm (Q : Exit -> Act -> World -> Prop) (W wr : World) (pb : Nat) (L N : List Qa) (k tri : Nat) (kw : Qa) (o : Nat) (nm : Qa) (d m : Nat) (K : Option Addr) (ks : List Qb) (q : Nat) (A : Array Value) (hk : Turn k tri kw)
 (iE : ∀ w, (Instr.index 59 (.agg A) (.int .i64 k)).run Tryz.prog w = .ok (.agg #[.int .i64 o, vs nm, .int .i64 m, .slice K (ups ks).length q]) w) (ht : Xp W)
 (hr : RdX false W [.int .i64 o, vs nm, .int .i64 m, .slice K (ups ks).length q] (up (.mk o nm d m ks))) (hs : Ja (.mk o nm d m ks) = true) (iD : (Qb.mk o nm d m ks).size <= 1000) (hL : L.length <= 12000) (hN : N.length <= 4000) (hS : St W wr W.heap.size 52 L N)
 (u0 u2 u3 u5 u6 u7 u8 u9 eL dU dT dS dR dQ dP dO dN dM dL dK dJ dI dH dF dE dA cZ cY cX cW u32 cV cU cT cS cR cQ cP cO cN cM cL cK cJ cI cH cG cF cE cD cC cA bZ bY bX bW bV bU bT bS bR eO u64 eN eK eJ eI eH eG eF eD eC eB eA dZ dY dX dW dV bQ bP bO bN bM bL fH fG fF fE fD fC fB eZ eY eX eW bA aZ aY aX aW aV aU aR aQ aP aO aN aM aL aK aJ aI aH aG aF aE aD aC : Value)
 (bB : ∀ (v7 v8 v9 fT fS fR fQ fP fO fN fM fL fK fJ bJ bI bH bG bF bE bD : Value) (w' : World), St W w' W.heap.size 52 (L ++ Qr (o != tri) kw (wS (.mk o nm d m ks))) (N ++ Qo (.mk o nm d m ks)) -> Q .normal ⟨#[u0, .pointer (some ⟨pb, 0, none⟩), u2, u3, .pointer (some ⟨W.heap.size, 0, none⟩), u5, u6, v7, v8, v9, eL, dU, dT, dS, dR, dQ, dP, dO, dN, dM, dL, dK, dJ, dI, dH, dF, dE, dA, cZ, cY, cX, cW, u32, cV, cU, cT, cS, cR, cQ, cP, cO, cN, cM, cL, cK, cJ, cI, cH, cG, cF, cE, cD, cC, cA, bZ, bY, bX, bW, bV, bU, bT, bS, bR, eO, u64, eN, eK, eJ, eI, eH, eG, eF, eD, eC, eB, eA, dZ, dY, dX, dW, dV, bQ, bP, bO, bN, bM, bL, .agg A, .int .i64 (k + 1), fT, fS, fR, fQ, fP, fO, fN, fM, fL, fK, fJ, bJ, bI, bH, bG, bF, bE, bD, aR, aQ, aP, aO, aN, aM, aL, aK, aJ, aI, aH, aG, aF, aE, aD, aC], []⟩ w') :
 Code.wp Tryz.prog (qfu 1) Q ⟨#[u0, .pointer (some ⟨pb, 0, none⟩), u2, u3, .pointer (some ⟨W.heap.size, 0, none⟩), u5, u6, u7, u8, u9, eL, dU, dT, dS, dR, dQ, dP, dO, dN, dM, dL, dK, dJ, dI, dH, dF, dE, dA, cZ, cY, cX, cW, u32, cV, cU, cT, cS, cR, cQ, cP, cO, cN, cM, cL, cK, cJ, cI, cH, cG, cF, cE, cD, cC, cA, bZ, bY, bX, bW, bV, bU, bT, bS, bR, eO, u64, eN, eK, eJ, eI, eH, eG, eF, eD, eC, eB, eA, dZ, dY, dX, dW, dV, bQ, bP, bO, bN, bM, bL, .agg A, .int .i64 k, fH, fG, fF, fE, fD, fC, fB, eZ, eY, eX, eW, bA, aZ, aY, aX, aW, aV, aU, aR, aQ, aP, aO, aN, aM, aL, aK, aJ, aI, aH, aG, aF, aE, aD, aC], []⟩ wr := by
 have HS := Hi hS; have HE := Hi bB; have HR := Hi hr; have HT := Hi ht; have gH := Hi hs; have kC := Hi iD; clear hS bB hr ht hs iD
 conv => arg 2; whnf
 rcases hk with ⟨rfl, rfl, rfl⟩ | ⟨rfl, rfl, rfl⟩ | ⟨rfl, rfl, rfl⟩
 · rw [show ((0 : Nat) : Int) = (0 : Int) from rfl] at *; go_upto_region 26 with fail; have aB := HS.out.box #[.int .i64 o, vs nm, .int .i64 m, .slice K (ups ks).length q] 28; have d0 := cOb (o := 0) aB.blk rfl; have dl := lHp aB.blk; have bK := Hi aB; clear aB HS iE
   by_cases aS : o = 1
   · subst aS; have hH := Hi (Wy gH.out (by decide)); go_wp2_with fail; exact HE.out _ _ _ _ _ _ _ _ _ _ _ _ _ _ _ _ _ _ _ _ _ _ (by rw [hH.out]; have := bK.out.st; simpa [Qr] using this)
   · have fZ : ¬ ((o : Int) = 1) := by omega
     have hG := Hi aS; clear aS; have kO : ∀ w, (Instr.index 60 (.agg #[vs [102, 114, 111, 109], vs [117, 110, 116, 105, 108], vs [97, 103, 97, 105, 110]]) (.int .i64 0)).run Tryz.prog w = .ok (vs Vo) w := fun _ => by kernel_rfl
     go_wp2_with (first | (go_at_call 27; refine (Sn W _ _ _ _ _ _ _ _ _ (by simp) bK.out (by omega)).mono ?_; rintro e w9 ⟨rfl, aB⟩; clear d0 dl; have d0 := cOb (o := 0) aB.blk rfl; have d1 := cOb (o := 1) aB.blk rfl; have d2 := cOb (o := 2) aB.blk rfl; have d3 := cOb (o := 3) aB.blk rfl; have dl := lHp aB.blk; have hE := Hi aB; clear aB) | (go_at_call 31; refine (Ca W _ HT.out _ _ _ _ _ _ gH.out kC.out (by simp; omega) (by omega) HR.out hE.out.st).mono ?_; rintro e w8 ⟨rfl, hS⟩; have hF := Hi hS; clear hS))
     exact HE.out _ _ _ _ _ _ _ _ _ _ _ _ _ _ _ _ _ _ _ _ _ _ (by have := hF.out; rw [show Qr (o != 1) Vo (wS (.mk o nm d m ks)) = Vo :: wS (.mk o nm d m ks) by unfold Qr; rw [if_pos (by simpa using hG.out)]]; simpa using this)
 · rw [show ((1 : Nat) : Int) = (1 : Int) from rfl] at *; go_upto_region 26 with fail; have aB := HS.out.box #[.int .i64 o, vs nm, .int .i64 m, .slice K (ups ks).length q] 28; have d0 := cOb (o := 0) aB.blk rfl; have dl := lHp aB.blk; have bK := Hi aB; clear aB HS iE
   by_cases aS : o = 2
   · subst aS; have hH := Hi (Wy gH.out (by decide)); go_wp2_with fail; exact HE.out _ _ _ _ _ _ _ _ _ _ _ _ _ _ _ _ _ _ _ _ _ _ (by rw [hH.out]; have := bK.out.st; simpa [Qr] using this)
   · have fZ : ¬ ((o : Int) = 2) := by omega
     have hG := Hi aS; clear aS; have kO : ∀ w, (Instr.index 60 (.agg #[vs [102, 114, 111, 109], vs [117, 110, 116, 105, 108], vs [97, 103, 97, 105, 110]]) (.int .i64 1)).run Tryz.prog w = .ok (vs X9) w := fun _ => by kernel_rfl
     go_wp2_with (first | (go_at_call 27; refine (Sn W _ _ _ _ _ _ _ _ _ (by simp) bK.out (by omega)).mono ?_; rintro e w9 ⟨rfl, aB⟩; clear d0 dl; have d0 := cOb (o := 0) aB.blk rfl; have d1 := cOb (o := 1) aB.blk rfl; have d2 := cOb (o := 2) aB.blk rfl; have d3 := cOb (o := 3) aB.blk rfl; have dl := lHp aB.blk; have hE := Hi aB; clear aB) | (go_at_call 31; refine (Ca W _ HT.out _ _ _ _ _ _ gH.out kC.out (by simp; omega) (by omega) HR.out hE.out.st).mono ?_; rintro e w8 ⟨rfl, hS⟩; have hF := Hi hS; clear hS))
     exact HE.out _ _ _ _ _ _ _ _ _ _ _ _ _ _ _ _ _ _ _ _ _ _ (by have := hF.out; rw [show Qr (o != 2) X9 (wS (.mk o nm d m ks)) = X9 :: wS (.mk o nm d m ks) by unfold Qr; rw [if_pos (by simpa using hG.out)]]; simpa using this)
 · rw [show ((2 : Nat) : Int) = (2 : Int) from rfl] at *; go_upto_region 26 with fail; have aB := HS.out.box #[.int .i64 o, vs nm, .int .i64 m, .slice K (ups ks).length q] 28; have d0 := cOb (o := 0) aB.blk rfl; have dl := lHp aB.blk; have bK := Hi aB; clear aB HS iE
   by_cases aS : o = 2
   · subst aS; have hH := Hi (Wy gH.out (by decide)); go_wp2_with fail; exact HE.out _ _ _ _ _ _ _ _ _ _ _ _ _ _ _ _ _ _ _ _ _ _ (by rw [hH.out]; have := bK.out.st; simpa [Qr] using this)
   · have fZ : ¬ ((o : Int) = 2) := by omega
     have hG := Hi aS; clear aS; have kO : ∀ w, (Instr.index 60 (.agg #[vs [102, 114, 111, 109], vs [117, 110, 116, 105, 108], vs [97, 103, 97, 105, 110]]) (.int .i64 2)).run Tryz.prog w = .ok (vs Xz) w := fun _ => by kernel_rfl
     go_wp2_with (first | (go_at_call 27; refine (Sn W _ _ _ _ _ _ _ _ _ (by simp) bK.out (by omega)).mono ?_; rintro e w9 ⟨rfl, aB⟩; clear d0 dl; have d0 := cOb (o := 0) aB.blk rfl; have d1 := cOb (o := 1) aB.blk rfl; have d2 := cOb (o := 2) aB.blk rfl; have d3 := cOb (o := 3) aB.blk rfl; have dl := lHp aB.blk; have hE := Hi aB; clear aB) | (go_at_call 31; refine (Ca W _ HT.out _ _ _ _ _ _ gH.out kC.out (by simp; omega) (by omega) HR.out hE.out.st).mono ?_; rintro e w8 ⟨rfl, hS⟩; have hF := Hi hS; clear hS))
     exact HE.out _ _ _ _ _ _ _ _ _ _ _ _ _ _ _ _ _ _ _ _ _ _ (by have := hF.out; rw [show Qr (o != 2) Xz (wS (.mk o nm d m ks)) = Xz :: wS (.mk o nm d m ks) by unfold Qr; rw [if_pos (by simpa using hG.out)]]; simpa using this)
theorem qj2 (Q : Exit -> Act -> World -> Prop) (W w : World) (pb : Nat) (L N : List Qa) (oB : Nat) (nB : Qa) (dB mB : Nat) (KB : Option Addr) (ksB : List Qb) (qB : Nat) (oD : Nat) (nD : Qa) (dD mD : Nat) (KD : Option Addr) (ksD : List Qb) (qD : Nat) (oG : Nat) (nG : Qa) (dG mG : Nat) (KG : Option Addr) (ksG : List Qb) (qG : Nat) (A : Array Value)
 (kK : ∀ w, (Instr.index 59 (.agg A) (.int .i64 0)).run Tryz.prog w = .ok (.agg #[.int .i64 oB, vs nB, .int .i64 mB, .slice KB (ups ksB).length qB]) w) (kJ : ∀ w, (Instr.index 59 (.agg A) (.int .i64 1)).run Tryz.prog w = .ok (.agg #[.int .i64 oD, vs nD, .int .i64 mD, .slice KD (ups ksD).length qD]) w) (kI : ∀ w, (Instr.index 59 (.agg A) (.int .i64 2)).run Tryz.prog w = .ok (.agg #[.int .i64 oG, vs nG, .int .i64 mG, .slice KG (ups ksG).length qG]) w) (ht : Xp W)
 (mL : RdX false W [.int .i64 oB, vs nB, .int .i64 mB, .slice KB (ups ksB).length qB] (up (.mk oB nB dB mB ksB))) (mH : Ja (.mk oB nB dB mB ksB) = true) (pJ : (Qb.mk oB nB dB mB ksB).size <= 300) (mK : RdX false W [.int .i64 oD, vs nD, .int .i64 mD, .slice KD (ups ksD).length qD] (up (.mk oD nD dD mD ksD))) (mF : Ja (.mk oD nD dD mD ksD) = true) (pI : (Qb.mk oD nD dD mD ksD).size <= 300) (mJ : RdX false W [.int .i64 oG, vs nG, .int .i64 mG, .slice KG (ups ksG).length qG] (up (.mk oG nG dG mG ksG))) (mE : Ja (.mk oG nG dG mG ksG) = true) (pH : (Qb.mk oG nG dG mG ksG).size <= 300) (hL : L.length <= 5000) (hN : N.length <= 2000) (hS : St W w W.heap.size 52 L N)
 (u0 u2 u3 u5 u6 u7 u8 u9 eL dU dT dS dR dQ dP dO dN dM dL dK dJ dI dH dF dE dA cZ cY cX cW u32 cV cU cT cS cR cQ cP cO cN cM cL cK cJ cI cH cG cF cE cD cC cA bZ bY bX bW bV bU bT bS bR eO u64 eN eK eJ eI eH eG eF eD eC eB eA dZ dY dX dW dV bQ bP bO bN bM bL fH fG fF fE fD fC fB eZ eY eX eW bA aZ aY aX aW aV aU aR aQ aP aO aN aM aL aK aJ aI aH aG aF aE aD aC : Value)
 (bB : ∀ (v7 v8 v9 fT fS fR fQ fP fO fN fM fL fK fJ bJ bI bH bG bF bE bD : Value) (w' : World), St W w' W.heap.size 52 (L ++ (Qr (oB != 1) Vo (wS (.mk oB nB dB mB ksB)) ++ Qr (oD != 2) X9 (wS (.mk oD nD dD mD ksD)) ++ Qr (oG != 2) Xz (wS (.mk oG nG dG mG ksG)))) (N ++ (Qo (.mk oB nB dB mB ksB) ++ Qo (.mk oD nD dD mD ksD) ++ Qo (.mk oG nG dG mG ksG))) -> Q (.exit 2) ⟨#[u0, .pointer (some ⟨pb, 0, none⟩), u2, u3, .pointer (some ⟨W.heap.size, 0, none⟩), u5, u6, v7, v8, v9, eL, dU, dT, dS, dR, dQ, dP, dO, dN, dM, dL, dK, dJ, dI, dH, dF, dE, dA, cZ, cY, cX, cW, u32, cV, cU, cT, cS, cR, cQ, cP, cO, cN, cM, cL, cK, cJ, cI, cH, cG, cF, cE, cD, cC, cA, bZ, bY, bX, bW, bV, bU, bT, bS, bR, eO, u64, eN, eK, eJ, eI, eH, eG, eF, eD, eC, eB, eA, dZ, dY, dX, dW, dV, bQ, bP, bO, bN, bM, bL, .agg A, .int .i64 3, fT, fS, fR, fQ, fP, fO, fN, fM, fL, fK, fJ, bJ, bI, bH, bG, bF, bE, bD, aR, aQ, aP, aO, aN, aM, aL, aK, aJ, aI, aH, aG, aF, aE, aD, aC], []⟩ w') :
 Code.wp Tryz.prog (.loop (qfu 1)) Q ⟨#[u0, .pointer (some ⟨pb, 0, none⟩), u2, u3, .pointer (some ⟨W.heap.size, 0, none⟩), u5, u6, u7, u8, u9, eL, dU, dT, dS, dR, dQ, dP, dO, dN, dM, dL, dK, dJ, dI, dH, dF, dE, dA, cZ, cY, cX, cW, u32, cV, cU, cT, cS, cR, cQ, cP, cO, cN, cM, cL, cK, cJ, cI, cH, cG, cF, cE, cD, cC, cA, bZ, bY, bX, bW, bV, bU, bT, bS, bR, eO, u64, eN, eK, eJ, eI, eH, eG, eF, eD, eC, eB, eA, dZ, dY, dX, dW, dV, bQ, bP, bO, bN, bM, bL, .agg A, .int .i64 0, fH, fG, fF, fE, fD, fC, fB, eZ, eY, eX, eW, bA, aZ, aY, aX, aW, aV, aU, aR, aQ, aP, aO, aN, aM, aL, aK, aJ, aI, aH, aG, aF, aE, aD, aC], []⟩ w := by
 have pB : (Qr (oB != 1) Vo (wS (.mk oB nB dB mB ksB))).length <= 2000 := by
  have h1 := X5 (oB != 1) Vo (wS (.mk oB nB dB mB ksB)); have h2 := Wf (.mk oB nB dB mB ksB); omega
 have qB' : (Qo (.mk oB nB dB mB ksB)).length <= 300 := by
  have h2 := Z5 (.mk oB nB dB mB ksB); omega
 have pD : (Qr (oD != 2) X9 (wS (.mk oD nD dD mD ksD))).length <= 2000 := by
  have h1 := X5 (oD != 2) X9 (wS (.mk oD nD dD mD ksD)); have h2 := Wf (.mk oD nD dD mD ksD); omega
 have qD' : (Qo (.mk oD nD dD mD ksD)).length <= 300 := by
  have h2 := Z5 (.mk oD nD dD mD ksD); omega
 have pG : (Qr (oG != 2) Xz (wS (.mk oG nG dG mG ksG))).length <= 2000 := by
  have h1 := X5 (oG != 2) Xz (wS (.mk oG nG dG mG ksG)); have h2 := Wf (.mk oG nG dG mG ksG); omega
 have qG' : (Qo (.mk oG nG dG mG ksG)).length <= 300 := by
  have h2 := Z5 (.mk oG nG dG mG ksG); omega
 have kV := Hi kK; have kU := Hi kJ; have kT := Hi kI; refine wp_loop (fun a w' => ∃ (k : Nat) (v7 v8 v9 fT fS fR fQ fP fO fN fM fL fK fJ bJ bI bH bG bF bE bD : Value), k <= 3 /\ St W w' W.heap.size 52 (L ++ ([Qr (oB != 1) Vo (wS (.mk oB nB dB mB ksB)), Qr (oD != 2) X9 (wS (.mk oD nD dD mD ksD)), Qr (oG != 2) Xz (wS (.mk oG nG dG mG ksG))].take k).flatten) (N ++ ([Qo (.mk oB nB dB mB ksB), Qo (.mk oD nD dD mD ksD), Qo (.mk oG nG dG mG ksG)].take k).flatten) /\ a = ⟨#[u0, .pointer (some ⟨pb, 0, none⟩), u2, u3, .pointer (some ⟨W.heap.size, 0, none⟩), u5, u6, v7, v8, v9, eL, dU, dT, dS, dR, dQ, dP, dO, dN, dM, dL, dK, dJ, dI, dH, dF, dE, dA, cZ, cY, cX, cW, u32, cV, cU, cT, cS, cR, cQ, cP, cO, cN, cM, cL, cK, cJ, cI, cH, cG, cF, cE, cD, cC, cA, bZ, bY, bX, bW, bV, bU, bT, bS, bR, eO, u64, eN, eK, eJ, eI, eH, eG, eF, eD, eC, eB, eA, dZ, dY, dX, dW, dV, bQ, bP, bO, bN, bM, bL, .agg A, .int .i64 k, fT, fS, fR, fQ, fP, fO, fN, fM, fL, fK, fJ, bJ, bI, bH, bG, bF, bE, bD, aR, aQ, aP, aO, aN, aM, aL, aK, aJ, aI, aH, aG, aF, aE, aD, aC], []⟩) (fun a _ => 3 - (intOf (a.tmps.getD 88 undef)).toNat) ?_ ?_
 · exact ⟨0, u7, u8, u9, fH, fG, fF, fE, fD, fC, fB, eZ, eY, eX, eW, bA, aZ, aY, aX, aW, aV, aU, by omega, by simpa using hS, rfl⟩
 · rintro a w' ⟨k, v7, v8, v9, fT, fS, fR, fQ, fP, fO, fN, fM, fL, fK, fJ, bJ, bI, bH, bG, bF, bE, bD, hk, fW, rfl⟩; clear hS; have mN : k = 0 \/ k = 1 \/ k = 2 \/ k = 3 := by omega
   rcases mN with rfl | rfl | rfl | rfl
   · refine Tm _ W w' pb _ _ 0 1 Vo oB nB dB mB KB ksB qB A (Or.inl <| ⟨rfl, rfl, rfl⟩) kV.out ht mL mH (by omega) ?_ ?_ fW u0 u2 u3 u5 u6 v7 v8 v9 eL dU dT dS dR dQ dP dO dN dM dL dK dJ dI dH dF dE dA cZ cY cX cW u32 cV cU cT cS cR cQ cP cO cN cM cL cK cJ cI cH cG cF cE cD cC cA bZ bY bX bW bV bU bT bS bR eO u64 eN eK eJ eI eH eG eF eD eC eB eA dZ dY dX dW dV bQ bP bO bN bM bL fT fS fR fQ fP fO fN fM fL fK fJ bJ bI bH bG bF bE bD aR aQ aP aO aN aM aL aK aJ aI aH aG aF aE aD aC ?_
     · simp only [List.take_succ_cons, List.take_zero, List.flatten_cons, List.flatten_nil, List.length_append, List.length_nil]; omega
     · simp only [List.take_succ_cons, List.take_zero, List.flatten_cons, List.flatten_nil, List.length_append, List.length_nil]; omega
     · intro x7 x8 x9 gT gS gR gQ gP gO gN gM gL gK gJ eV eU eT eS eR eQ eP wy hy; refine ⟨⟨1, x7, x8, x9, gT, gS, gR, gQ, gP, gO, gN, gM, gL, gK, gJ, eV, eU, eT, eS, eR, eQ, eP, by omega, by simpa using hy, rfl⟩, by simp [intOf]⟩
   · refine Tm _ W w' pb _ _ 1 2 X9 oD nD dD mD KD ksD qD A (Or.inr ∘ Or.inl <| ⟨rfl, rfl, rfl⟩) kU.out ht mK mF (by omega) ?_ ?_ fW u0 u2 u3 u5 u6 v7 v8 v9 eL dU dT dS dR dQ dP dO dN dM dL dK dJ dI dH dF dE dA cZ cY cX cW u32 cV cU cT cS cR cQ cP cO cN cM cL cK cJ cI cH cG cF cE cD cC cA bZ bY bX bW bV bU bT bS bR eO u64 eN eK eJ eI eH eG eF eD eC eB eA dZ dY dX dW dV bQ bP bO bN bM bL fT fS fR fQ fP fO fN fM fL fK fJ bJ bI bH bG bF bE bD aR aQ aP aO aN aM aL aK aJ aI aH aG aF aE aD aC ?_
     · simp only [List.take_succ_cons, List.take_zero, List.flatten_cons, List.flatten_nil, List.length_append, List.length_nil]; omega
     · simp only [List.take_succ_cons, List.take_zero, List.flatten_cons, List.flatten_nil, List.length_append, List.length_nil]; omega
     · intro x7 x8 x9 gT gS gR gQ gP gO gN gM gL gK gJ eV eU eT eS eR eQ eP wy hy; refine ⟨⟨2, x7, x8, x9, gT, gS, gR, gQ, gP, gO, gN, gM, gL, gK, gJ, eV, eU, eT, eS, eR, eQ, eP, by omega, by simpa using hy, rfl⟩, by simp [intOf]⟩
   · refine Tm _ W w' pb _ _ 2 2 Xz oG nG dG mG KG ksG qG A (Or.inr ∘ Or.inr <| ⟨rfl, rfl, rfl⟩) kT.out ht mJ mE (by omega) ?_ ?_ fW u0 u2 u3 u5 u6 v7 v8 v9 eL dU dT dS dR dQ dP dO dN dM dL dK dJ dI dH dF dE dA cZ cY cX cW u32 cV cU cT cS cR cQ cP cO cN cM cL cK cJ cI cH cG cF cE cD cC cA bZ bY bX bW bV bU bT bS bR eO u64 eN eK eJ eI eH eG eF eD eC eB eA dZ dY dX dW dV bQ bP bO bN bM bL fT fS fR fQ fP fO fN fM fL fK fJ bJ bI bH bG bF bE bD aR aQ aP aO aN aM aL aK aJ aI aH aG aF aE aD aC ?_
     · simp only [List.take_succ_cons, List.take_zero, List.flatten_cons, List.flatten_nil, List.length_append, List.length_nil]; omega
     · simp only [List.take_succ_cons, List.take_zero, List.flatten_cons, List.flatten_nil, List.length_append, List.length_nil]; omega
     · intro x7 x8 x9 gT gS gR gQ gP gO gN gM gL gK gJ eV eU eT eS eR eQ eP wy hy; refine ⟨⟨3, x7, x8, x9, gT, gS, gR, gQ, gP, gO, gN, gM, gL, gK, gJ, eV, eU, eT, eS, eR, eQ, eP, by omega, by simpa using hy, rfl⟩, by simp [intOf]⟩
   · have HS := Hi fW; have HE := Hi bB; clear fW bB kK kJ kI kV kU kT; rw [show ((3 : Nat) : Int) = (3 : Int) from rfl] at *
     conv => arg 2; whnf
     go_wp2_with fail; exact HE.out _ _ _ _ _ _ _ _ _ _ _ _ _ _ _ _ _ _ _ _ _ _ (by have := HS.out; simpa using this)
end
set_option maxRecDepth 100000
set_option maxHeartbeats 4000000
section
open Go.RowKit
attribute [local go_sem ↓] Go.wp_at_zero Go.wp_at_succ
theorem qgo (k : Nat) : ∃ s : Qa, (if k = 0 then N7 else Is) = s /\ ∀ w, (Instr.index 58 (.agg #[vs [110, 111, 116, 119, 105, 116, 104, 115, 116, 97, 110, 100, 105, 110, 103], vs [44]]) (.int .i64 (min (k : Int) 1))).run Tryz.prog w = .ok (vs s) w := by
 cases k with
 | zero => exact ⟨_, rfl, fun _ => by kernel_rfl⟩
 | succ n =>
   rw [show min ((n + 1 : Nat) : Int) 1 = 1 by omega]; exact ⟨_, rfl, fun _ => by kernel_rfl⟩
theorem Bn (l : List Qa) (s : Qa) : Kw (l ++ [s]) = Kw l ++ [if l.length = 0 then N7 else Is, s] := by
 unfold Kw; cases l with
 | nil => simp [J1]
 | cons a r =>
   have h := O1 Is [s] ((a :: r).map fun s => [s]); rw [if_neg (by simp)] at h; rw [if_neg (by simp), if_neg (by simp), List.map_append, List.map_singleton, h]; simp
theorem Mz : ∀ l : List Qa, (Kw l).length <= 2 * l.length := by
 intro l
 have h : ∀ n, (Kw (l.take n)).length = 2 * (l.take n).length := by
  intro n
  induction n with
  | zero => rfl
  | succ n ih =>
    rw [List.take_add_one]; cases hl : l[n]? with
    | none => simpa using ih
    | some s =>
      simp only [Option.toList]; rw [Bn, List.length_append, ih, List.length_append]; simp; omega
 have := h l.length; rw [List.take_length] at this; omega
theorem qj3 (Q : Exit -> Act -> World -> Prop) (W w : World) (pb : Nat) (L N : List Qa) (A : Option Addr) (exc : List Qa) (cap : Nat) (hr : RdS W A exc) (kH : exc.length <= 20) (hL : L.length <= 3000) (hN : N.length <= 1000) (hS : St W w W.heap.size 52 L N)
 (u0 u2 u3 u5 u6 u7 u8 u9 eL dU dT dS dR dQ dP dO dN dM dL dK dJ dI dH dF dE dA cZ cY cX cW u32 cV cU cT cS cR cQ cP cO cN cM cL cK cJ cI cH cG cF cE cD cC cA bZ bY bX bW bV bU bT bS bR eK eJ eI eH eG eF eD eC eB eA dZ dY dX dW dV bQ bP bO bN bM bL gE gD fH fG fF fE fD fC fB eZ eY eX eW bA aZ aY aX aW aV aU aR aQ aP aO aN aM aL aK aJ aI aH aG aF aE aD aC : Value)
 (bB : ∀ (v5 v6 iC iB iA hY hX hW hV hU hT hQ hP hO hM hJ hI : Value) (w' : World), St W w' W.heap.size 52 (L ++ Kw exc) (N ++ exc) -> Q (.exit 0) ⟨#[u0, .pointer (some ⟨pb, 0, none⟩), u2, u3, .pointer (some ⟨W.heap.size, 0, none⟩), v5, v6, u7, u8, u9, eL, dU, dT, dS, dR, dQ, dP, dO, dN, dM, dL, dK, dJ, dI, dH, dF, dE, dA, cZ, cY, cX, cW, u32, cV, cU, cT, cS, cR, cQ, cP, cO, cN, cM, cL, cK, cJ, cI, cH, cG, cF, cE, cD, cC, cA, bZ, bY, bX, bW, bV, bU, bT, bS, bR, .slice A exc.length cap, .int .i64 exc.length, .int .i64 exc.length, iC, iB, iA, hY, hX, hW, hV, hU, hT, hQ, hP, hO, hM, hJ, hI, bQ, bP, bO, bN, bM, bL, gE, gD, fH, fG, fF, fE, fD, fC, fB, eZ, eY, eX, eW, bA, aZ, aY, aX, aW, aV, aU, aR, aQ, aP, aO, aN, aM, aL, aK, aJ, aI, aH, aG, aF, aE, aD, aC], []⟩ w') :
 Code.wp Tryz.prog (.loop (qfu 0)) Q ⟨#[u0, .pointer (some ⟨pb, 0, none⟩), u2, u3, .pointer (some ⟨W.heap.size, 0, none⟩), u5, u6, u7, u8, u9, eL, dU, dT, dS, dR, dQ, dP, dO, dN, dM, dL, dK, dJ, dI, dH, dF, dE, dA, cZ, cY, cX, cW, u32, cV, cU, cT, cS, cR, cQ, cP, cO, cN, cM, cL, cK, cJ, cI, cH, cG, cF, cE, cD, cC, cA, bZ, bY, bX, bW, bV, bU, bT, bS, bR, .slice A exc.length cap, .int .i64 exc.length, .int .i64 0, eK, eJ, eI, eH, eG, eF, eD, eC, eB, eA, dZ, dY, dX, dW, dV, bQ, bP, bO, bN, bM, bL, gE, gD, fH, fG, fF, fE, fD, fC, fB, eZ, eY, eX, eW, bA, aZ, aY, aX, aW, aV, aU, aR, aQ, aP, aO, aN, aM, aL, aK, aJ, aI, aH, aG, aF, aE, aD, aC], []⟩ w := by
 refine wp_loop (fun a w' => ∃ (k : Nat) (v5 v6 iC iB iA hY hX hW hV hU hT hQ hP hO hM hJ hI : Value), k <= exc.length /\ St W w' W.heap.size 52 (L ++ Kw (exc.take k)) (N ++ exc.take k) /\ a = ⟨#[u0, .pointer (some ⟨pb, 0, none⟩), u2, u3, .pointer (some ⟨W.heap.size, 0, none⟩), v5, v6, u7, u8, u9, eL, dU, dT, dS, dR, dQ, dP, dO, dN, dM, dL, dK, dJ, dI, dH, dF, dE, dA, cZ, cY, cX, cW, u32, cV, cU, cT, cS, cR, cQ, cP, cO, cN, cM, cL, cK, cJ, cI, cH, cG, cF, cE, cD, cC, cA, bZ, bY, bX, bW, bV, bU, bT, bS, bR, .slice A exc.length cap, .int .i64 exc.length, .int .i64 k, iC, iB, iA, hY, hX, hW, hV, hU, hT, hQ, hP, hO, hM, hJ, hI, bQ, bP, bO, bN, bM, bL, gE, gD, fH, fG, fF, fE, fD, fC, fB, eZ, eY, eX, eW, bA, aZ, aY, aX, aW, aV, aU, aR, aQ, aP, aO, aN, aM, aL, aK, aJ, aI, aH, aG, aF, aE, aD, aC], []⟩) (fun a _ => exc.length - (intOf (a.tmps.getD 65 undef)).toNat) ?_ ?_
 · exact ⟨0, u5, u6, eK, eJ, eI, eH, eG, eF, eD, eC, eB, eA, dZ, dY, dX, dW, dV, by omega, by simpa [Kw] using hS, rfl⟩
 · rintro a wr ⟨k, v5, v6, iC, iB, iA, hY, hX, hW, hV, hU, hT, hQ, hP, hO, hM, hJ, hI, hk, fW, rfl⟩; have HR := Hi hr; have HE := Hi bB; have HS := Hi fW; clear hS fW hr bB
   by_cases kN : k = exc.length
   · subst kN; rw [List.take_length] at HS
     conv => arg 2; whnf
     go_wp2_with fail; exact HE.out _ _ _ _ _ _ _ _ _ _ _ _ _ _ _ _ _ _ HS.out
   · have jR : k < exc.length := by omega
     obtain ⟨s, jM⟩ : ∃ s, exc[k]? = some s := ⟨_, List.getElem?_eq_getElem jR⟩
     obtain ⟨eb, eo, rfl, jV, kQ⟩ := HR.out.item jM; have pL : (k : Int) < (exc.length : Int) := (by omega)
     have pO : (0 : Int) <= (k : Int) := (by omega)
     have pK : wr.cell? ⟨eb, eo + k, none⟩ = some (vs s) := (HS.out.below.cell (p := ⟨eb, eo + k, none⟩) jV).trans kQ; have nH := Hi jM; obtain ⟨ww, kL, iE⟩ := qgo k; have jJ := Mz (exc.take k); have kM : (exc.take k).length = k := by rw [List.length_take]; omega
     obtain ⟨LK, iO⟩ : ∃ LK, L ++ Kw (exc.take k) = LK := ⟨_, rfl⟩
     obtain ⟨NK, iK⟩ : ∃ NK, N ++ exc.take k = NK := ⟨_, rfl⟩
     have mP : LK.length <= 4000 := by rw [<- iO, List.length_append]; omega
     have mO : NK.length <= 2000 := by rw [<- iK, List.length_append]; omega
     rw [iO, iK] at HS
     have kX : Hid (L ++ Kw (exc.take (k + 1)) = LK ++ [ww] ++ [s] /\ N ++ exc.take (k + 1) = NK ++ [s]) := Hi (by
      rw [List.take_add_one, nH.out]; simp only [Option.toList]; rw [Bn, kM, kL, <- iO, <- iK]; simp)
     have nQ : Hid (exc.length - ((k : Int) + 1).toNat < exc.length - ((k : Nat) : Int).toNat) := Hi (by omega); clear kQ jM kL jJ kM iO iK kN
     conv => arg 2; whnf
     go_wp2_with (first | (go_at_call 27; refine (Ww W _ _ _ _ _ _ _ (by simp) HS.out (by omega)).mono ?_; rintro e w9 ⟨rfl, hS⟩; have aA := Hi hS; clear HS hS; have HS := aA; clear aA) | (go_at_call 28; refine (G5 W _ _ _ _ _ _ HS.out (by simp; omega) (by omega)).mono ?_; rintro e w9 ⟨rfl, hS⟩; have aA := Hi hS; clear HS hS; have HS := aA; clear aA))
     refine ⟨⟨k + 1, _, _, _, _, _, _, _, _, _, _, _, _, _, _, _, _, _, by omega, ?_, rfl⟩, ?_⟩
     · rw [kX.out.1, kX.out.2]; exact HS.out
     · exact nQ.out
end
section
open Go.RowKit
theorem Mm : ∀ L : List Qa, Lib.join L [32] = Ju L
 | [] => rfl
 | [w] => Lib.join_one w [32]
 | w :: w' :: r => by
   have ih := Mm (w' :: r); rw [Lib.join_cons] at ih; rw [Lib.join_cons, show Ju (w :: w' :: r) = w ++ 32 :: Ju (w' :: r) from rfl, <- ih]; simp [Lib.joinTail]
theorem Fj (w : World) (A : Option Addr) (l : List Qa) (c : Nat) (hr : RdS w A l) (hc : l.length <= c) (mM : l ≠ []) (fI : (Ju l).length <= 1000000000) (hl : l.length <= 1000000) :
 Calls Tryz.prog 36 #[.slice A l.length c, .string ⟨#[32]⟩] w fun e w' => e = .returned (vs (Ju l)) /\ Below w.heap.size w w' := by
 obtain ⟨b, o, rfl, jP, gZ⟩ := hr mM
 have he : (l.map fun s => (⟨s.toArray⟩ : ByteArray)).map (·.data.toList) = l := by
  rw [List.map_map]
  conv => rhs; rw [<- List.map_id l]
  rfl
 have h := Tryz.strings_Join b o c (l.map fun s => ⟨s.toArray⟩) ⟨#[32]⟩ w (fun j x hx => by
  rw [List.getElem?_map] at hx; cases hj : l[j]? with
  | none => rw [hj] at hx; cases hx
  | some y =>
    rw [hj] at hx; injection hx with hx; subst hx; have := gZ j y hj 0 _ rfl; simpa using this) jP (by rw [List.length_map]; omega) (by rw [List.length_map]; omega) (by rw [he]; show (Lib.join l [32]).length <= _; rw [Mm]; omega)
 rw [List.length_map, he] at h; rw [show (⟨#[32]⟩ : ByteArray).data.toList = [32] from rfl, Mm] at h; exact h
theorem qh9 {K kw : List Qa} (hK : ∀ s, K.contains s = kw.contains s) (s : Qa) : Uk K s = ((Qv s).1 == 1 && !kw.contains s) := by
 rw [<- hK]; unfold Uk
 by_cases h : (Qv s).1 = 1
 · obtain ⟨t, h1, h2, h3⟩ := D5.2 h; rw [h1, h]; simp [h2, h3]
 · have hn : ¬ ∃ t, Zr s = .ok [t] /\ t.kind = 1 /\ t.text = s := fun hh => h (D5.1 hh); have h0 : ((Qv s).1 == 1) = false := by simpa using h
   rw [h0]; simp only [Bool.false_and]
   split
   · rename_i t ht; cases hk : (t.kind == 1 && t.text == s && !K.contains s) with
     | false => rfl
     | true =>
       simp only [Bool.and_eq_true, beq_iff_eq] at hk; exact absurd ⟨t, ht, hk.1.1, hk.1.2⟩ hn
   · rfl
theorem Dj {K kw N N' : List Qa} {j : Qa} {ok : Qa -> Bool} (hK : ∀ s, K.contains s = kw.contains s) (bC : ∀ s, ok s = ((Qv s).1 == 1 && !kw.contains s)) (hN : ∀ f : Qa -> Bool, N.all f = N'.all f) :
 Jq K N j = if N'.all ok = true then (match Zr j with | .ok _ => (j, 0) | .error _ => ([], 2)) else ([], 7) := by
 have : N.all (Uk K) = N'.all ok := by
  rw [hN]
  congr 1
  funext s
  rw [qh9 hK, bC]
 unfold Jq; rw [this]; rfl
theorem Di {p : Qf} {N : List Qa} (h : Y8 p) (hN : ∀ f : Qa -> Bool, N.all f = (Q7 p).all f) : Jq (Vc Qw) N (Jl opN clN (Ju (wP p))) = J3 (upP p) := by
 rw [Dj (kw := Qw) (ok := Qp) (Gl Qw) (fun s => rfl) hN]; unfold J3 Ii; rw [if_pos (Wv h), Yh]
 by_cases ha : (Q7 p).all Qp = true
 · rw [if_pos ha, if_pos ha, Tn (qbc.2 ⟨h, fun s hs => List.all_eq_true.1 ha s hs⟩)]; cases Zr (Yn p) <;> rfl
 · rw [if_neg ha, if_neg ha]
theorem Dh {p : Qf} {N : List Qa} (h : Y8 p) (hN : ∀ f : Qa -> Bool, N.all f = (Q7 p).all f) : Jq (Vc So.Qw) N (Jl So.qc4 So.qd2 (Ju (So.wP p))) = J0 (upP p) := by
 rw [Dj (kw := So.Qw) (ok := So.Qp) (Gl So.Qw) (fun s => rfl) hN]; unfold J0 Ii; rw [if_pos (Wv h), Yh]
 by_cases ha : (Q7 p).all So.Qp = true
 · rw [if_pos ha, if_pos ha, So.S8 (L8.2 ⟨h, fun s hs => List.all_eq_true.1 ha s hs⟩)]; cases Zr (So.Ik p) <;> rfl
 · rw [if_neg ha, if_neg ha]
theorem Cz : Lib.fields (Ju Qw) = Qw := by decide +kernel
theorem Cy : Lib.fields (Ju So.Qw) = So.Qw := by decide +kernel
theorem Bb (w : World) (kw : List Qa) (s : ByteArray) (hs : s.data.toList = Ju kw) (hf : Lib.fields (Ju kw) = kw) (hl : kw.length <= 100) (hw : kw.all (fun x => decide (x.length <= 100)) = true) (hj : (Ju kw).length <= 1000) (ha : (Ju kw).all (fun b => decide (b.toNat < 128)) = true) (ht : Xp w) :
 Calls Tryz.prog 34 #[.string s] w fun e w' => ∃ mb, e = .returned (.map (some mb)) /\ KS w' mb (Vc kw) /\ w.heap.size <= mb /\ Below w.heap.size w w' :=
 qhy w w s kw (by rw [hs, hf]) (by omega) (fun x hx => by have := List.all_eq_true.1 hw x hx; have := of_decide_eq_true this; omega) (by rw [show s.size = s.data.toList.length from rfl, hs]; exact Nat.lt_of_le_of_lt hj (by decide)) (fun j b hb => by rw [hs] at hb; exact of_decide_eq_true (List.all_eq_true.1 ha b (List.mem_of_getElem? hb))) ht (Below.refl _ _)
structure TA (W w0 w1 : World) (p : Nat) (T : TypeId) (L N : List Qa) (P : List Pr) (rb kb q : Nat) (w : World) : Prop where
 st : St W w0 p T L N
 rep : Db P w0 w1 rb kb q
 below : Below w1.heap.size w1 w
structure TB (W w0 w1 : World) (p : Nat) (T : TypeId) (L N : List Qa) (P : List Pr) (rb kb q mb : Nat) (K : List Qa) (w : World) : Prop where
 a : TA W w0 w1 p T L N P rb kb q w
 ks : KS w mb K
 lo : w1.heap.size <= mb
structure TC (W w0 : World) (p : Nat) (T : TypeId) (L N : List Qa) (mb : Nat) (K : List Qa) (w : World) : Prop where
 st : St W w0 p T L N
 below : Below w0.heap.size w0 w
 ks : KS w mb K
section
variable {W w0 w1 w w' : World} {p : Nat} {T : TypeId} {L N : List Qa} {P : List Pr} {rb kb q mb : Nat} {K : List Qa}
theorem TA.drew (h : TA W w0 w1 p T L N P rb kb q w) : TA W w0 w1 p T L N P rb kb q w.drew := ⟨h.st, h.rep, h.below.drew⟩
theorem TA.below0 (h : TA W w0 w1 p T L N P rb kb q w) : Below w0.heap.size w0 w := h.rep.below.trans (h.below.mono h.rep.below.size)
theorem TA.sp (h : TA W w0 w1 p T L N P rb kb q w) : St W w p T L N := h.st.keep h.below0
theorem TA.list (h : TA W w0 w1 p T L N P rb kb q w1) : ∃ A c, L.length <= c /\ ∀ w, TA W w0 w1 p T L N P rb kb q w -> w.cell? ⟨p, 0, none⟩ = some (.slice A L.length c) /\ RdS w A L := by
 obtain ⟨S, v1, v2, hw⟩ := h.st.wr; obtain ⟨A, c, rfl, hc, hr, -⟩ := hw.l.form; refine ⟨A, c, hc, fun w k => ⟨?_, hr.below k.below0⟩⟩; have := (k.below0.block p (hw.lt p hw.mem)).trans hw.is; exact cOb this rfl
theorem TA.set (h : TA W w0 w1 p T L N P rb kb q w) (hb : Below w.heap.size w w') (hk : KS w' mb K) (hm : w.heap.size <= mb) : TB W w0 w1 p T L N P rb kb q mb K w' :=
 ⟨⟨h.st, h.rep, h.below.trans (hb.mono h.below.size)⟩, hk, Nat.le_trans h.below.size hm⟩
theorem TB.grow (h : TB W w0 w1 p T L N P rb kb q mb K w) (hb : Below w.heap.size w w') : TB W w0 w1 p T L N P rb kb q mb K w' :=
 ⟨⟨h.a.st, h.a.rep, h.a.below.trans (hb.mono h.a.below.size)⟩, h.ks.keep (hb.block mb h.ks.lt), h.lo⟩
theorem TB.rblk (h : TB W w0 w1 p T L N P rb kb q mb K w) : w.heap[rb]? = some (.cells #[.int .u32 0, .int .i32 0, .int .u32 0, .nilIface, .slice (some ⟨kb, 0, none⟩) (2 * P.length) q] 120 (0, 0)) :=
 (h.a.below.block rb (lHp h.a.rep.blk)).trans h.a.rep.blk
theorem TB.keys (h : TB W w0 w1 p T L N P rb kb q mb K w) : Ot w kb P := h.a.rep.keys.keep h.a.below.size (h.a.below.block kb h.a.rep.keys.1)
theorem TB.repl (h : TB W w0 w1 p T L N P rb kb q mb K w) (he : Eff rb w w') : TC W w0 p T L N mb K w' := by
 have jP := lHp h.a.rep.blk; have pM := h.lo; exact ⟨h.a.st, h.a.below0.trans (he.below h.a.rep.new h.a.below0.size), h.ks.keep (he.block mb h.ks.lt (by omega))⟩
theorem TC.sp (h : TC W w0 p T L N mb K w) : St W w p T L N := h.st.keep h.below
theorem TC.text (h : TC W w0 p T L N mb K w) (j : Qa) (hn : ∀ s ∈ N, s.length <= 1000000) (fI : N.length <= 1000000) :
 Calls Tryz.prog 33 #[.pointer (some ⟨p, 0, none⟩), .map (some mb), vs j] w fun e w' => e = .returned (.tuple #[vs (Jq K N j).1, .int .i64 ((Jq K N j).2 : Nat)]) /\ Below w.heap.size w w' := by
 obtain ⟨S, hw⟩ := h.sp.wr; exact qev W w p T S L N mb K j hw h.ks hn fI
end
end
set_option maxRecDepth 100000
set_option maxHeartbeats 4000000
section
open Go.RowKit
attribute [local go_sem ↓] Go.wp_at_zero Go.wp_at_succ
def U9 (i : Nat) : Code -> Option Code
 | .seq (.region j o d) b => if j = i then some (.seq (.region j o d) b) else U9 i b
 | .seq a b => match U9 i a with | some c => some c | none => U9 i b
 | .block _ c => U9 i c
 | .scope c => U9 i c
 | _ => none
noncomputable def qi7 : Code := (Tryz.f12.body.bind (U9 33)).getD .skip
theorem qcn (w : World) (ht : Xp w) : Calls Tryz.prog 34 #[.string ⟨#[99, 111, 110, 115, 116, 105, 116, 117, 116, 105, 111, 110, 32, 97, 99, 116, 32, 114, 101, 103, 117, 108, 97, 116, 105, 111, 110, 32, 98, 121, 108, 97, 119, 32, 100, 101, 102, 105, 110, 101, 32, 97, 110, 115, 119, 101, 114, 32, 105, 115, 32, 105, 102, 32, 110, 111, 116, 119, 105, 116, 104, 115, 116, 97, 110, 100, 105, 110, 103, 32, 102, 114, 111, 109, 32, 117, 110, 116, 105, 108, 32, 97, 103, 97, 105, 110, 32, 111, 114, 32, 97, 110, 100, 32, 110, 111, 116, 32, 116, 114, 117, 101, 32, 102, 97, 108, 115, 101, 32, 97, 108, 119, 97, 121, 115, 32, 110, 101, 118, 101, 114, 32, 100, 97, 121, 32, 111, 114, 100, 101, 114, 32, 101, 118, 101, 110, 116, 32, 98, 101, 103, 117, 110, 32, 111, 118, 101, 114]⟩] w fun e w' => ∃ mb, e = .returned (.map (some mb)) /\ KS w' mb (Vc Qw) /\ w.heap.size <= mb /\ Below w.heap.size w w' :=
 Bb w Qw _ (by decide +kernel) Cz (by decide) (by decide +kernel) (by decide +kernel) (by decide +kernel) ht
theorem qft (w : World) : Calls Tryz.prog 32 #[.slice (some ⟨w.heap.size, 0, none⟩) 10 10] (w.alloc (.cells #[vs [32, 58], vs [58], vs [32, 44], vs [44], vs [32, 46], vs [46], vs [40, 32], vs [40], vs [32, 41], vs [41]] 9)) fun e w' => ∃ rb kb c, e = .returned (.pointer (some ⟨rb, 0, none⟩)) /\ Db prN (w.alloc (.cells #[vs [32, 58], vs [58], vs [32, 44], vs [44], vs [32, 46], vs [46], vs [40, 32], vs [40], vs [32, 41], vs [41]] 9)) w' rb kb c :=
 Md _ w.heap.size 10 prN (by decide) (by decide) (fun j x hx => by
  refine cOb (heap_alloc_new w _) ?_
  have h : ∀ j < 10, ∀ x, (Vr prN)[j]? = some x -> (#[vs [32, 58], vs [58], vs [32, 44], vs [44], vs [32, 46], vs [46], vs [40, 32], vs [40], vs [32, 41], vs [41]] : Array Value)[j]? = some (vs x) := by
   intro j hj x hx; have : j = 0 \/ j = 1 \/ j = 2 \/ j = 3 \/ j = 4 \/ j = 5 \/ j = 6 \/ j = 7 \/ j = 8 \/ j = 9 := by omega
   rcases this with rfl | rfl | rfl | rfl | rfl | rfl | rfl | rfl | rfl | rfl <;> (injection hx with hx; subst hx; rfl)
  exact h j (by have := (List.getElem?_eq_some_iff.1 hx).1; exact this) x hx)
theorem nend (Q : Exit -> Act -> World -> Prop) (W w : World) (L N : List Qa) (ht : Xp W) (hL : L.length <= 900000) (hN : N.length <= 900000) (hn : ∀ s ∈ N, s.length <= 1000000) (LL : List Qa) (iN : L ++ [[46]] = LL) (hj : (Ju LL).length <= 1000000000) (hS : St W w W.heap.size 52 L N)
 (u0 u1 u2 u3 u5 u6 u7 u8 u9 eL dU dT dS dR dQ dP dO dN dM dL dK dJ dI dH dF dE dA cZ cY cX cW u32 cV cU cT cS cR cQ cP cO cN cM cL cK cJ cI cH cG cF cE cD cC cA bZ bY bX bW bV bU bT bS bR eO u64 eN eK eJ eI eH eG eF eD eC eB eA dZ dY dX dW dV bQ bP bO bN bM bL gE gD fH fG fF fE fD fC fB eZ eY eX eW bA aZ aY aX aW aV aU aR aQ aP aO aN aM aL aK aJ aI aH aG aF aE aD aC : Value)
 (bB : ∀ (lY jI jH jG jF jE jD jC jB jA iZ iY iX iW iV iU iT : Value) (w' : World), Below W.heap.size W w' -> Q .ret ⟨#[u0, u1, vs (Jq (Vc Qw) N (Jl [40] [58, 44, 46, 41] (Ju LL))).1, .int .i64 ((Jq (Vc Qw) N (Jl [40] [58, 44, 46, 41] (Ju LL))).2 : Nat), .pointer (some ⟨W.heap.size, 0, none⟩), u5, u6, u7, u8, u9, lY, dU, dT, dS, dR, dQ, dP, dO, dN, dM, dL, dK, dJ, dI, dH, dF, dE, dA, cZ, cY, cX, cW, u32, cV, cU, cT, cS, cR, cQ, cP, cO, cN, cM, cL, cK, cJ, cI, cH, cG, cF, cE, cD, cC, cA, bZ, bY, bX, bW, bV, bU, bT, bS, bR, eO, u64, eN, eK, eJ, eI, eH, eG, eF, eD, eC, eB, eA, dZ, dY, dX, dW, dV, bQ, bP, bO, bN, bM, bL, gE, gD, fH, fG, fF, fE, fD, fC, fB, eZ, eY, eX, eW, bA, aZ, aY, aX, aW, aV, aU, jI, jH, jG, jF, jE, jD, jC, jB, jA, iZ, iY, iX, iW, iV, iU, iT], []⟩ w') :
 Code.wp Tryz.prog qi7 Q ⟨#[u0, u1, u2, u3, .pointer (some ⟨W.heap.size, 0, none⟩), u5, u6, u7, u8, u9, eL, dU, dT, dS, dR, dQ, dP, dO, dN, dM, dL, dK, dJ, dI, dH, dF, dE, dA, cZ, cY, cX, cW, u32, cV, cU, cT, cS, cR, cQ, cP, cO, cN, cM, cL, cK, cJ, cI, cH, cG, cF, cE, cD, cC, cA, bZ, bY, bX, bW, bV, bU, bT, bS, bR, eO, u64, eN, eK, eJ, eI, eH, eG, eF, eD, eC, eB, eA, dZ, dY, dX, dW, dV, bQ, bP, bO, bN, bM, bL, gE, gD, fH, fG, fF, fE, fD, fC, fB, eZ, eY, eX, eW, bA, aZ, aY, aX, aW, aV, aU, aR, aQ, aP, aO, aN, aM, aL, aK, aJ, aI, aH, aG, aF, aE, aD, aC], []⟩ w := by
 have HE := Hi bB; have HT := Hi ht; have HS := Hi hS; have HN := Hi hn; have HJ := Hi hj; have pQ : LL.length <= 900001 := by rw [<- iN]; simp; omega
 have kS : LL ≠ [] := by rw [<- iN]; simp
 have nR := Hi kS; have nS := Hi iN; clear bB ht hS hn hj iN kS
 conv => arg 2; whnf
 go_wp2_with (go_at_call 27; refine (Ww W _ _ _ _ _ _ _ (by simp) HS.out (by omega)).mono ?_; rintro e w9 ⟨rfl, hS⟩; have aA := Hi hS; clear HS hS; have HS := aA; clear aA)
 refine (qft w9).mono ?_; rintro e w1 ⟨rb, kb, q, rfl, hR⟩; obtain ⟨w0, jL⟩ : ∃ x, w9.alloc (.cells #[vs [32, 58], vs [58], vs [32, 44], vs [44], vs [32, 46], vs [46], vs [40, 32], vs [40], vs [32, 41], vs [41]] 9) = x := ⟨_, rfl⟩
 have hB := HS.out.alloc (.cells #[vs [32, 58], vs [58], vs [32, 44], vs [44], vs [32, 46], vs [46], vs [40, 32], vs [40], vs [32, 41], vs [41]] 9); rw [jL, nS.out] at hB; rw [jL] at hR; have hA : TA W w0 w1 W.heap.size 52 LL N prN rb kb q w1 := ⟨hB, hR, Below.refl _ _⟩
 obtain ⟨A, c, hc, hl⟩ := hA.list; have HL := Hi hl; have kB := Hi hA; have q1 := (hl w1 hA).1; have jP : W.heap.size < w1.heap.size := Nat.lt_of_lt_of_le hA.sp.lt.2 (lR _); have nT : Hid (∀ w mb, TC W w0 W.heap.size 52 LL N mb (Vc Qw) w -> w.cell? ⟨W.heap.size, 0, none⟩ = some (.slice A LL.length c)) := Hi (fun w mb h => (cOh (h.below.block _ hB.lt.2) 0).trans ((cOh (hR.below.block _ hB.lt.2) 0).symm.trans q1)); clear hB hR hA hl jL HS; go_upto_region 35 with fail; go_region_held3 (fun w' => w'.cell? ⟨W.heap.size, 0, none⟩ = some (.slice A LL.length c)) (go_keep) ((first | (go_at_call 34; (with_reducible refine (qcn _ (HT.out.below kB.out.drew.sp.below)).mono ?_); rintro e w2 ⟨mb, rfl, hk, hm, hb⟩; have gA := kB.out.drew.set hb hk hm; have q2 := (HL.out w2 gA.a).1; have kW := Hi gA; clear hk hm hb gA) | (go_at_call 36; (with_reducible refine (Fj _ A LL c (HL.out _ kW.out.a).2 hc nR.out HJ.out (by omega)).mono ?_); rintro e w3 ⟨rfl, hb⟩; have gA := kW.out.grow hb; have q3 := (HL.out w3 gA.a).1; have gC := Hi gA; clear hb gA) | (go_at_call 35; (with_reducible refine (Pm _ rb kb q prN 6 _ _ qjv gC.out.rblk gC.out.keys kB.out.rep.ne _ HJ.out).mono ?_); rintro e w4 ⟨rfl, he⟩; have jX := gC.out.repl he; have q4 := nT.out w4 _ jX; have iS := Hi jX; clear he jX) | (go_at_call 33; (with_reducible refine (iS.out.text _ HN.out (by omega)).mono ?_); rintro e w5 ⟨rfl, hb⟩; have q5 := (hb.cell (p := ⟨W.heap.size, 0, none⟩) iS.out.sp.lt.2).trans q4; have nY := Hi hb; clear hb)))
 go_wp2_with fail; exact HE.out _ _ _ _ _ _ _ _ _ _ _ _ _ _ _ _ _ _ (iS.out.sp.below.trans (nY.out.mono iS.out.sp.below.size))
end
set_option maxRecDepth 100000
set_option maxHeartbeats 16000000
section
open Go.RowKit
attribute [local go_sem ↓] Go.wp_at_zero Go.wp_at_succ
def Ml (a : Addr) : Sem Value := loadVar 30 a
@[local go_sem ↓ high] theorem qek (a : Addr) : loadVar 30 a = Ml a := by rw [Ml]
theorem U2 (w : World) (b : Nat) (C : Array Value) (h : w.heap[b]? = some (.cells C 30 (0, 0))) (hs : C.size = 23) : (Ml ⟨b, 0, none⟩).run Tryz.prog w = .ok (.agg C) w := by
 have := run_loadVar_mid (P := Tryz.prog) w b 0 30 C.toList _ (fun j v hv => by rw [Nat.zero_add]; exact cOb h (by simpa using hv)) Tryz.underlying30 rfl (by rw [Array.length_toList, hs]; kernel_rfl); rwa [Array.toArray_toList] at this
structure qau (p : Qf) : Prop where
 cond : p.cond.size <= 300
 beg : p.beg.size <= 300
 fin : p.fin.size <= 300
 aga : p.aga.size <= 300
 names : ∀ s ∈ Q7 p, s.length <= 60
theorem qcv {r : Nat} (h : 1 <= r /\ r <= 4) : ∃ s : Qa, R0.getD (r - 1) [] = s /\ ∀ w, (Instr.index 54 (.agg #[vs [], vs [99, 111, 110, 115, 116, 105, 116, 117, 116, 105, 111, 110], vs [97, 99, 116], vs [114, 101, 103, 117, 108, 97, 116, 105, 111, 110], vs [98, 121, 108, 97, 119]]) (.int .i64 (r : Int))).run Tryz.prog w = .ok (vs s) w := by
 have : r = 1 \/ r = 2 \/ r = 3 \/ r = 4 := by omega
 rcases this with rfl | rfl | rfl | rfl <;> exact ⟨_, rfl, fun _ => by kernel_rfl⟩
theorem Mv : ∀ {t : Qb}, Jn t = true -> t.op = 1 -> Ql t = []
 | .mk o nm d m ks, h, ho => by
   simp only [Qb.op] at ho; subst ho; exact qdo h
theorem qji {p : Qf} (bC : Y8 p) (hf : qau p) : (wP p).length <= 10000 := by
 have a1 := Wf p.beg; have a2 := Wf p.fin; have a3 := Wf p.aga; have a4 := Pg p.cond; have a5 := Mz p.exc; have a6 := bC.excL; have := hf.cond; have := hf.beg; have := hf.fin; have := hf.aga; have b1 := X5 (p.cond.op != 1) wIf (wF p.cond); have b2 := X5 (p.beg.op != 1) Vo (wS p.beg); have b3 := X5 (p.fin.op != 2) X9 (wS p.fin); have b4 := X5 (p.aga.op != 2) Xz (wS p.aga); have b5 : (Wi p).length <= 4 := by unfold Wi; split <;> simp
 unfold wP Wt Ws Uc Ub; simp only [List.length_append, List.length_cons, List.length_nil]; omega
theorem qc7 {p : Qf} {rw1 : Qa} {kw fw fn L3 N3 L4 N4 L5 N5 : List Qa} (bC : Y8 p) (hf : qau p) (h1 : R0.getD (p.rank - 1) [] = rw1) (h2 : (if p.kind = 1 then [[100, 101, 102, 105, 110, 101], p.name] else [[97, 110, 115, 119, 101, 114], p.name, [105, 115], dec p.value]) = kw)
 (h3 : (p.cond.op = 1 -> fw = [] /\ fn = []) /\ (p.cond.op ≠ 1 -> fw = wIf :: wF p.cond /\ fn = Ql p.cond)) (h4 : [rw1, p.id, [58]] ++ kw ++ fw = L3) (h5 : [p.id, p.name] ++ fn = N3) (h6 : L3 ++ Kw p.exc = L4) (h7 : N3 ++ p.exc = N4)
 (h8 : L4 ++ (Qr (p.beg.op != 1) Vo (wS p.beg) ++ Qr (p.fin.op != 2) X9 (wS p.fin) ++ Qr (p.aga.op != 2) Xz (wS p.aga)) = L5) (h9 : N4 ++ (Qo p.beg ++ Qo p.fin ++ Qo p.aga) = N5) :
 L5 ++ [[46]] = wP p /\ (∀ s ∈ N5, s.length <= 1000000) /\ (Ju (wP p)).length <= 1000000000 /\ L5.length <= 900000 /\ N5.length <= 900000 /\ Jq (Vc Qw) N5 (Jl [40] [58, 44, 46, 41] (Ju (wP p))) = J3 (upP p) := by
 have hn : ∀ s, s ∈ N5 ↔ s ∈ Q7 p := by
  intro s; rw [<- h9, <- h7, <- h5]
  have : s ∈ fn ↔ s ∈ Ql p.cond := by
   by_cases aS : p.cond.op = 1
   · rw [(h3.1 aS).2, Mv bC.cond aS]
   · rw [(h3.2 aS).2]
  unfold Q7; simp only [List.mem_append, List.mem_cons, this, List.not_mem_nil, or_false]; constructor
  · rintro ((((h | h) | h) | h) | ((h | h) | h)) <;> simp [h]
  · rintro (h | h | h | h | h | h | h) <;> simp [h]
 have hl : L5 ++ [[46]] = wP p := by
  rw [<- h8, <- h6, <- h4, <- h2, <- h1]; unfold wP Wt Ws Uc Ub Wi
  have : fw = Qr (p.cond.op != 1) wIf (wF p.cond) := by
   by_cases aS : p.cond.op = 1
   · rw [(h3.1 aS).1, aS]; rfl
   · rw [(h3.2 aS).1]; unfold Qr; rw [if_pos (by simpa using aS)]
  rw [this]; simp only [List.append_assoc, List.cons_append, List.nil_append]
 have mA : ∀ s ∈ Q7 p, Sh s := fun s hs => hf.names s hs; have hj := Mr (wP p) (sh_P bC mA); have hw := qji bC hf; refine ⟨hl, fun s hs => by have := hf.names s ((hn s).1 hs); omega, by omega, ?_, ?_, ?_⟩
 · have : (wP p).length = L5.length + 1 := by rw [<- hl]; simp
   omega
 · have a1 := Z5 p.beg; have a2 := Z5 p.fin; have a3 := Z5 p.aga; have a4 := Um p.cond; have a5 := bC.excL; have := hf.cond; have := hf.beg; have := hf.fin; have := hf.aga
   have gY : fn.length <= 300 := by
    by_cases aS : p.cond.op = 1
    · rw [(h3.1 aS).2]; simp
    · rw [(h3.2 aS).2]; omega
   rw [<- h9, <- h7, <- h5]; simp only [List.length_append, List.length_cons, List.length_nil]; omega
 · refine Di bC (fun f => ?_); rw [Bool.eq_iff_iff, List.all_eq_true, List.all_eq_true]; exact ⟨fun h s hs => h s ((hn s).2 hs), fun h s hs => h s ((hn s).1 hs)⟩
theorem qc1 (W0 w : World) (cs : List Value) (p : Qf) (hr : Wo W0 cs (upP p)) (hb : Below W0.heap.size W0 w) (ht : Xp W0) (bC : Y8 p) (hf : qau p) (gU : ∀ wx, Below W0.heap.size W0 wx -> Calls Tryz.prog 26 #[.agg cs.toArray] wx fun e w' => e = .returned (.bool true) /\ Below wx.heap.size wx w') :
 Calls Tryz.prog 12 #[.agg cs.toArray] w fun e w' => e = .returned (.tuple #[vs (J3 (upP p)).1, .int .i64 ((J3 (upP p)).2 : Nat)]) /\ Below w.heap.size w w' := by
 obtain ⟨id, rank, kind, name, value, cond, exc, beg, fin, aga⟩ := p; obtain ⟨cc, A, cap, cb, cf, ca, kR, jW, iH, jU, iI, iG, iJ⟩ := hr; simp only [upP] at kR jW iH jU iI iG iJ; have RC := Hi iH; have RB := Hi iI; have RD := Hi iG; have RG := Hi iJ; obtain ⟨oC, nC, dC, mC, ksC⟩ := cond; rw [up] at iH; obtain ⟨KC, qC, rfl, -⟩ := iH; obtain ⟨oB, nB, dB, mB, ksB⟩ := beg; rw [up] at iI; obtain ⟨KB, qB, rfl, -⟩ := iI; obtain ⟨oD, nD, dD, mD, ksD⟩ := fin; rw [up] at iG; obtain ⟨KD, qD, rfl, -⟩ := iG; obtain ⟨oG, nG, dG, mG, ksG⟩ := aga; rw [up] at iJ; obtain ⟨KG, qG, rfl, -⟩ := iJ; subst kR; obtain ⟨rw1, fY, mI⟩ := qcv bC.rank; simp only at fY mI; have fV := bC.kind; have fU := bC.value; have gV := bC.rank; simp only at fV fU gV; obtain ⟨kw, jQ⟩ : ∃ kw, (if kind = 1 then [[100, 101, 102, 105, 110, 101], name] else [[97, 110, 115, 119, 101, 114], name, [105, 115], dec value]) = kw := ⟨_, rfl⟩
 have jO := bC.excL; have jS : (wF (.mk oC nC dC mC ksC)).length <= 2000 := by have h1 := Pg (.mk oC nC dC mC ksC); have h2 := hf.cond; simp only at h2; omega
 have gX : (Ql (.mk oC nC dC mC ksC)).length <= 300 := by have h1 := Um (.mk oC nC dC mC ksC); have h2 := hf.cond; simp only at h2; omega
 have pN : kw.length <= 4 := by rw [<- jQ]; split <;> simp
 have kY := Hi jQ; obtain ⟨fw, iF⟩ : ∃ fw, Qr (oC != 1) wIf (wF (.mk oC nC dC mC ksC)) = fw := ⟨_, rfl⟩
 obtain ⟨fn, gY⟩ : ∃ fn, Ql (.mk oC nC dC mC ksC) = fn := ⟨_, rfl⟩
 have kD : Hid (Jn (.mk oC nC dC mC ksC) = true /\ (Qb.mk oC nC dC mC ksC).size <= 1000) := Hi ⟨bC.cond, by have := hf.cond; simp only at this; omega⟩
 have kE : Hid ((oC = 1 -> fw = [] /\ fn = []) /\ (oC ≠ 1 -> fw = wIf :: wF (.mk oC nC dC mC ksC) /\ fn = Ql (.mk oC nC dC mC ksC))) := Hi (by
  refine ⟨fun e => ?_, fun e => ⟨?_, gY.symm⟩⟩
  · subst e; have h1 := kD.out.1; rw [Jn] at h1; simp only [Bool.and_eq_true] at h1; have h2 : ksC = [] := by simpa using h1.1.2
    subst h2; exact ⟨by rw [<- iF]; rfl, by rw [<- gY]; simp [Ql, Qy]⟩
  · rw [<- iF]; unfold Qr; rw [if_pos (by simpa using e)])
 have pP : fw.length <= 2001 := by rw [<- iF]; unfold Qr; split <;> simp; omega
 have kP : fn.length <= 300 := by rw [<- gY]; exact gX
 clear jQ iF gY jS gX jO; have HF := Hi hf; have gI := Hi bC; have HT := Hi ht; have HB := Hi hb; have nW := Hi jU; have nJ := Hi fY; have iR := Hi gU; simp only [tcX, List.cons_append, List.nil_append] at iR ⊢; clear hf bC ht hb jU fY gU; have gW := fun o : Unit => U2 (w.alloc (.cells #[vs id, .int .i64 rank, .int .i64 kind, vs name, .int .i64 value, .int .i64 oC, vs nC, .int .i64 dC, .int .i64 mC, .slice KC (ups ksC).length qC, .slice A exc.length cap, .int .i64 oB, vs nB, .int .i64 mB, .slice KB (ups ksB).length qB, .int .i64 oD, vs nD, .int .i64 mD, .slice KD (ups ksD).length qD, .int .i64 oG, vs nG, .int .i64 mG, .slice KG (ups ksG).length qG] 30)) w.heap.size _ (heap_alloc_new w _) rfl; have gW := gW (); go_enter Tryz.func12, Tryz.ntmps12
 go_wp2_with fail; refine (iR.out _ (HB.out.trans ((Jp w _).mono HB.out.size))).mono ?_; rintro e W ⟨rfl, gB⟩; have gF : W.heap[w.heap.size]? = some (.cells #[vs id, .int .i64 rank, .int .i64 kind, vs name, .int .i64 value, .int .i64 oC, vs nC, .int .i64 dC, .int .i64 mC, .slice KC (ups ksC).length qC, .slice A exc.length cap, .int .i64 oB, vs nB, .int .i64 mB, .slice KB (ups ksB).length qB, .int .i64 oD, vs nD, .int .i64 mD, .slice KD (ups ksD).length qD, .int .i64 oG, vs nG, .int .i64 mG, .slice KG (ups ksG).length qG] 30 (0, 0)) := (gB.block _ (by simp)).trans (heap_alloc_new w _); have kG : Hid (Below w.heap.size w W) := Hi ((Jp w _).trans (gB.mono (by simp))); have jK := lHp gF; obtain ⟨pb, jN⟩ : ∃ pb, w.heap.size = pb := ⟨_, rfl⟩
 have fX : Hid (Below W0.heap.size W0 W) := Hi ((HB.out.trans ((Jp w _).mono HB.out.size)).trans (gB.mono (by have := HB.out.size; simp; omega))); have gG : Hid (Xp W) := Hi (HT.out.below fX.out); have nM : Hid (RdX true W [.int .i64 oC, vs nC, .int .i64 dC, .int .i64 mC, .slice KC (ups ksC).length qC] (up (.mk oC nC dC mC ksC))) := Hi (RC.out.keep fX.out); have nN : Hid (RdX false W [.int .i64 oB, vs nB, .int .i64 mB, .slice KB (ups ksB).length qB] (up (.mk oB nB dB mB ksB))) := Hi (RB.out.keep fX.out); have nL : Hid (RdX false W [.int .i64 oD, vs nD, .int .i64 mD, .slice KD (ups ksD).length qD] (up (.mk oD nD dD mD ksD))) := Hi (RD.out.keep fX.out); have nK : Hid (RdX false W [.int .i64 oG, vs nG, .int .i64 mG, .slice KG (ups ksG).length qG] (up (.mk oG nG dG mG ksG))) := Hi (RG.out.keep fX.out); rw [jN] at kG jK gF ⊢
 have eM : Hid (∀ wx, Below W.heap.size W wx -> wx.cell? ⟨pb, 0, none⟩ = some (vs id) /\ wx.cell? ⟨pb, 1, none⟩ = some (.int .i64 rank) /\ wx.cell? ⟨pb, 2, none⟩ = some (.int .i64 kind) /\ wx.cell? ⟨pb, 3, none⟩ = some (vs name) /\ wx.cell? ⟨pb, 4, none⟩ = some (.int .i64 value) /\ wx.cell? ⟨pb, 5, none⟩ = some (.int .i64 oC) /\ wx.cell? ⟨pb, 6, none⟩ = some (vs nC) /\ wx.cell? ⟨pb, 7, none⟩ = some (.int .i64 dC) /\ wx.cell? ⟨pb, 8, none⟩ = some (.int .i64 mC) /\ wx.cell? ⟨pb, 9, none⟩ = some (.slice KC (ups ksC).length qC) /\ wx.cell? ⟨pb, 10, none⟩ = some (.slice A exc.length cap) /\ pb < wx.heap.size) := Hi (fun wx hx => by
  have hq := (hx.block pb jK).trans gF; exact ⟨cOb (o := 0) hq rfl, cOb (o := 1) hq rfl, cOb (o := 2) hq rfl, cOb (o := 3) hq rfl, cOb (o := 4) hq rfl, cOb (o := 5) hq rfl, cOb (o := 6) hq rfl, cOb (o := 7) hq rfl, cOb (o := 8) hq rfl, cOb (o := 9) hq rfl, cOb (o := 10) hq rfl, lHp hq⟩)
 have nX : Hid (∀ wx, Below W.heap.size W wx -> wx.cell? ⟨pb, 11, none⟩ = some (.int .i64 oB) /\ wx.cell? ⟨pb, 12, none⟩ = some (vs nB) /\ wx.cell? ⟨pb, 13, none⟩ = some (.int .i64 mB) /\ wx.cell? ⟨pb, 14, none⟩ = some (.slice KB (ups ksB).length qB) /\ wx.cell? ⟨pb, 15, none⟩ = some (.int .i64 oD) /\ wx.cell? ⟨pb, 16, none⟩ = some (vs nD) /\ wx.cell? ⟨pb, 17, none⟩ = some (.int .i64 mD) /\ wx.cell? ⟨pb, 18, none⟩ = some (.slice KD (ups ksD).length qD) /\ wx.cell? ⟨pb, 19, none⟩ = some (.int .i64 oG) /\ wx.cell? ⟨pb, 20, none⟩ = some (vs nG) /\ wx.cell? ⟨pb, 21, none⟩ = some (.int .i64 mG) /\ wx.cell? ⟨pb, 22, none⟩ = some (.slice KG (ups ksG).length qG) /\ pb < wx.heap.size) := Hi (fun wx hx => by
  have hq := (hx.block pb jK).trans gF; exact ⟨cOb (o := 11) hq rfl, cOb (o := 12) hq rfl, cOb (o := 13) hq rfl, cOb (o := 14) hq rfl, cOb (o := 15) hq rfl, cOb (o := 16) hq rfl, cOb (o := 17) hq rfl, cOb (o := 18) hq rfl, cOb (o := 19) hq rfl, cOb (o := 20) hq rfl, cOb (o := 21) hq rfl, cOb (o := 22) hq rfl, lHp hq⟩)
 have pR := Hi gF; have kZ := Hi jN; clear gF gB gW jN; go_upto_region 3 with fail; go_cut [1, 4] from 0 (fun s1 s4 wc => s1 = .pointer (some ⟨pb, 0, none⟩) /\ s4 = .pointer (some ⟨W.heap.size, 0, none⟩) /\ St W wc W.heap.size 52 [] [])
 case first =>
  go_wp2_with fail; go_meet
  case rel => exact ⟨rfl, rfl, St.start W _⟩
 case rest =>
  obtain ⟨rfl, rfl, hS⟩ := hcut; have HS := Hi hS; obtain ⟨c0, c1, c2, c3, c4, c5, c6, c7, c8, c9, aT, cl⟩ := eM.out _ hS.below; clear hS; go_upto_region 4 with fail; go_cut [1, 4] from 0 (fun s1 s4 wc => s1 = .pointer (some ⟨pb, 0, none⟩) /\ s4 = .pointer (some ⟨W.heap.size, 0, none⟩) /\ St W wc W.heap.size 52 [rw1] [])
  case first =>
   go_wp2_with (first | (go_at_call 27; refine (Ww W _ _ _ _ _ _ _ (by simp) HS.out (by simp)).mono ?_; rintro e w9 ⟨rfl, hS⟩; clear c0 c1 c2 c3 c4 c5 c6 c7 c8 c9 aT cl; obtain ⟨c0, c1, c2, c3, c4, c5, c6, c7, c8, c9, aT, cl⟩ := eM.out _ hS.below; have aA := Hi hS; clear HS hS; have HS := aA; clear aA) | (go_at_call 28; refine (G5 W _ _ _ _ _ _ HS.out (by simp) (by simp)).mono ?_; rintro e w9 ⟨rfl, hS⟩; clear c0 c1 c2 c3 c4 c5 c6 c7 c8 c9 aT cl; obtain ⟨c0, c1, c2, c3, c4, c5, c6, c7, c8, c9, aT, cl⟩ := eM.out _ hS.below; have aA := Hi hS; clear HS hS; have HS := aA; clear aA) | (go_at_call 29; refine (Mb W _ _ _ _ _ _ HS.out fU (by simp) gG.out).mono ?_; rintro e w9 ⟨rfl, hS⟩; clear c0 c1 c2 c3 c4 c5 c6 c7 c8 c9 aT cl; obtain ⟨c0, c1, c2, c3, c4, c5, c6, c7, c8, c9, aT, cl⟩ := eM.out _ hS.below; have aA := Hi hS; clear HS hS; have HS := aA; clear aA))
   go_meet
   case rel => exact ⟨rfl, rfl, HS.out⟩
  case rest =>
   obtain ⟨rfl, rfl, hS⟩ := hcut; have HS := Hi hS; obtain ⟨c0, c1, c2, c3, c4, c5, c6, c7, c8, c9, aT, cl⟩ := eM.out _ hS.below; clear hS; go_upto_if 30 with (first | (go_at_call 27; refine (Ww W _ _ _ _ _ _ _ (by simp) HS.out (by simp)).mono ?_; rintro e w9 ⟨rfl, hS⟩; clear c0 c1 c2 c3 c4 c5 c6 c7 c8 c9 aT cl; obtain ⟨c0, c1, c2, c3, c4, c5, c6, c7, c8, c9, aT, cl⟩ := eM.out _ hS.below; have aA := Hi hS; clear HS hS; have HS := aA; clear aA) | (go_at_call 28; refine (G5 W _ _ _ _ _ _ HS.out (by simp) (by simp)).mono ?_; rintro e w9 ⟨rfl, hS⟩; clear c0 c1 c2 c3 c4 c5 c6 c7 c8 c9 aT cl; obtain ⟨c0, c1, c2, c3, c4, c5, c6, c7, c8, c9, aT, cl⟩ := eM.out _ hS.below; have aA := Hi hS; clear HS hS; have HS := aA; clear aA) | (go_at_call 29; refine (Mb W _ _ _ _ _ _ HS.out fU (by simp) gG.out).mono ?_; rintro e w9 ⟨rfl, hS⟩; clear c0 c1 c2 c3 c4 c5 c6 c7 c8 c9 aT cl; obtain ⟨c0, c1, c2, c3, c4, c5, c6, c7, c8, c9, aT, cl⟩ := eM.out _ hS.below; have aA := Hi hS; clear HS hS; have HS := aA; clear aA))
   go_cut [1, 4] from 0 (fun s1 s4 wc => s1 = .pointer (some ⟨pb, 0, none⟩) /\ s4 = .pointer (some ⟨W.heap.size, 0, none⟩) /\ St W wc W.heap.size 52 ([rw1, id, [58]] ++ kw) [id, name])
   case first =>
    rcases fV with ⟨rfl, rfl⟩ | rfl
    all_goals
     go_wp2_with (first | (go_at_call 27; refine (Ww W _ _ _ _ _ _ _ (by simp) HS.out (by simp)).mono ?_; rintro e w9 ⟨rfl, hS⟩; clear c0 c1 c2 c3 c4 c5 c6 c7 c8 c9 aT cl; obtain ⟨c0, c1, c2, c3, c4, c5, c6, c7, c8, c9, aT, cl⟩ := eM.out _ hS.below; have aA := Hi hS; clear HS hS; have HS := aA; clear aA) | (go_at_call 28; refine (G5 W _ _ _ _ _ _ HS.out (by simp) (by simp)).mono ?_; rintro e w9 ⟨rfl, hS⟩; clear c0 c1 c2 c3 c4 c5 c6 c7 c8 c9 aT cl; obtain ⟨c0, c1, c2, c3, c4, c5, c6, c7, c8, c9, aT, cl⟩ := eM.out _ hS.below; have aA := Hi hS; clear HS hS; have HS := aA; clear aA) | (go_at_call 29; refine (Mb W _ _ _ _ _ _ HS.out fU (by simp) gG.out).mono ?_; rintro e w9 ⟨rfl, hS⟩; clear c0 c1 c2 c3 c4 c5 c6 c7 c8 c9 aT cl; obtain ⟨c0, c1, c2, c3, c4, c5, c6, c7, c8, c9, aT, cl⟩ := eM.out _ hS.below; have aA := Hi hS; clear HS hS; have HS := aA; clear aA))
     go_meet
     case rel => exact ⟨rfl, rfl, by rw [<- kY.out]; exact HS.out⟩
   case rest =>
    obtain ⟨rfl, rfl, hS⟩ := hcut; have HS := Hi hS; obtain ⟨c0, c1, c2, c3, c4, c5, c6, c7, c8, c9, aT, cl⟩ := eM.out _ hS.below; clear hS; go_upto_if 55 with fail; go_cut [1, 4] from 0 (fun s1 s4 wc => s1 = .pointer (some ⟨pb, 0, none⟩) /\ s4 = .pointer (some ⟨W.heap.size, 0, none⟩) /\ St W wc W.heap.size 52 ([rw1, id, [58]] ++ kw ++ fw) ([id, name] ++ fn))
    case first =>
     by_cases aS : oC = 1
     · subst aS; go_wp2_with fail; go_meet
       case rel => exact ⟨rfl, rfl, by have h1 := (kE.out.1 (by first | rfl | trivial)); rw [h1.1, h1.2, List.append_nil, List.append_nil]; exact HS.out⟩
     · have h1 := kE.out.2 aS; have H1 := Hi h1; have fZ : ¬ ((oC : Int) = 1) := (by omega)
       clear h1; go_wp2_with (first | (go_at_call 27; refine (Ww W _ _ _ _ _ _ _ (by simp) HS.out (by first | omega | (simp; omega))).mono ?_; rintro e w9 ⟨rfl, hS⟩; clear c0 c1 c2 c3 c4 c5 c6 c7 c8 c9 aT cl; obtain ⟨c0, c1, c2, c3, c4, c5, c6, c7, c8, c9, aT, cl⟩ := eM.out _ hS.below; have aA := Hi hS; clear HS hS; have HS := aA; clear aA) | (go_at_call 30; refine (qkl W _ gG.out _ _ _ _ _ _ kD.out.1 kD.out.2 (by first | omega | (simp; omega)) (by simp) nM.out HS.out).mono ?_; rintro e w9 ⟨rfl, hS⟩; clear c0 c1 c2 c3 c4 c5 c6 c7 c8 c9 aT cl; obtain ⟨c0, c1, c2, c3, c4, c5, c6, c7, c8, c9, aT, cl⟩ := eM.out _ hS.below; have aA := Hi hS; clear HS hS; have HS := aA; clear aA))
       go_meet
       case rel => exact ⟨rfl, rfl, by rw [H1.out.1, H1.out.2]; have := HS.out; simpa using this⟩
    case rest =>
     obtain ⟨rfl, rfl, hS⟩ := hcut; obtain ⟨L3, iQ⟩ : ∃ L3, [rw1, id, [58]] ++ kw ++ fw = L3 := ⟨_, rfl⟩
     obtain ⟨N3, iM⟩ : ∃ N3, [id, name] ++ fn = N3 := ⟨_, rfl⟩
     have hD : L3.length <= 3000 := by rw [<- iQ]; simp; omega
     have hC : N3.length <= 1000 := by rw [<- iM]; simp; omega
     rw [iQ, iM] at hS; have nV := Hi iQ; have nP := Hi iM; have HS := Hi hS; obtain ⟨c0, c1, c2, c3, c4, c5, c6, c7, c8, c9, aT, cl⟩ := eM.out _ hS.below; clear hS iQ iM; go_wp2_with fail; refine qj3 _ W _ pb L3 N3 A exc cap (nW.out.below fX.out) gI.out.excL hD hC HS.out _ _ _ _ _ _ _ _ _ _ _ _ _ _ _ _ _ _ _ _ _ _ _ _ _ _ _ _ _ _ _ _ _ _ _ _ _ _ _ _ _ _ _ _ _ _ _ _ _ _ _ _ _ _ _ _ _ _ _ _ _ _ _ _ _ _ _ _ _ _ _ _ _ _ _ _ _ _ _ _ _ _ _ _ _ _ _ _ _ _ _ _ _ _ _ _ _ _ _ _ _ _ _ _ _ _ _ _ _ _ _ _ _ _ _ _ _ _ ?_; intro x5 x6 pF pE pC pA oZ oY oX oW oV oU oT oS oR oQ oP wx hS; have jT : exc.length <= 20 := gI.out.excL; have kH := Mz exc; obtain ⟨L4, iP⟩ : ∃ L4, L3 ++ Kw exc = L4 := ⟨_, rfl⟩
     obtain ⟨N4, iL⟩ : ∃ N4, N3 ++ exc = N4 := ⟨_, rfl⟩
     have mQ : L4.length <= 4000 := by rw [<- iP, List.length_append]; omega
     have jZ : N4.length <= 2000 := by rw [<- iL, List.length_append]; omega
     rw [iP, iL] at hS; clear c0 c1 c2 c3 c4 c5 c6 c7 c8 c9 aT cl HS; have HS := Hi hS; obtain ⟨nF, nE, nA, mZ, mY, mX, mW, mV, mU, mT, mS, mR, cm⟩ := nX.out _ hS.below; have nU := Hi iP; have nO := Hi iL; clear hS iP iL kH jT hD hC; dsimp only; go_wp2_with fail; have hZ := HF.out; refine qj2 _ W _ pb L4 N4 oB nB dB mB KB ksB qB oD nD dD mD KD ksD qD oG nG dG mG KG ksG qG _ (fun _ => by kernel_rfl) (fun _ => by kernel_rfl) (fun _ => by kernel_rfl) gG.out nN.out gI.out.beg hZ.beg nL.out gI.out.fin hZ.fin nK.out gI.out.aga hZ.aga (by omega) jZ HS.out _ _ _ _ _ _ _ _ _ _ _ _ _ _ _ _ _ _ _ _ _ _ _ _ _ _ _ _ _ _ _ _ _ _ _ _ _ _ _ _ _ _ _ _ _ _ _ _ _ _ _ _ _ _ _ _ _ _ _ _ _ _ _ _ _ _ _ _ _ _ _ _ _ _ _ _ _ _ _ _ _ _ _ _ _ _ _ _ _ _ _ _ _ _ _ _ _ _ _ _ _ _ _ _ _ _ _ _ _ _ _ _ _ _ _ _ _ _ _ ?_; intro y7 y8 y9 oO oN oM oL oK oJ oI oH oF oE oA lX lW lV lU lT lS lQ wy hS; obtain ⟨L5, kA⟩ : ∃ L5, L4 ++ (Qr (oB != 1) Vo (wS (.mk oB nB dB mB ksB)) ++ Qr (oD != 2) X9 (wS (.mk oD nD dD mD ksD)) ++ Qr (oG != 2) Xz (wS (.mk oG nG dG mG ksG))) = L5 := ⟨_, rfl⟩
     obtain ⟨N5, jY⟩ : ∃ N5, N4 ++ (Qo (.mk oB nB dB mB ksB) ++ Qo (.mk oD nD dD mD ksD) ++ Qo (.mk oG nG dG mG ksG)) = N5 := ⟨_, rfl⟩
     rw [kA, jY] at hS; have nI := Hi hS; have kF := Hi (qc7 (p := ⟨id, rank, kind, name, value, .mk oC nC dC mC ksC, exc, .mk oB nB dB mB ksB, .mk oD nD dD mD ksD, .mk oG nG dG mG ksG⟩) (rw1 := rw1) (kw := kw) (fw := fw) (fn := fn) gI.out HF.out nJ.out kY.out kE.out nV.out nP.out nU.out nO.out kA jY); clear hS kA jY HS nF nE nA mZ mY mX mW mV mU mT mS mR cm; dsimp only; simp only [Exit.inBlock, Exit.then, if_true]; refine (by assumption : ∀ (a : Act) (w : World), Code.wp Tryz.prog qi7 _ a w -> _) _ _ ?_; obtain ⟨e1, e2, e3, e4, e5, e6⟩ := kF.out; refine nend _ W _ L5 N5 gG.out e4 e5 e2 _ e1 e3 nI.out _ _ _ _ _ _ _ _ _ _ _ _ _ _ _ _ _ _ _ _ _ _ _ _ _ _ _ _ _ _ _ _ _ _ _ _ _ _ _ _ _ _ _ _ _ _ _ _ _ _ _ _ _ _ _ _ _ _ _ _ _ _ _ _ _ _ _ _ _ _ _ _ _ _ _ _ _ _ _ _ _ _ _ _ _ _ _ _ _ _ _ _ _ _ _ _ _ _ _ _ _ _ _ _ _ _ _ _ _ _ _ _ _ _ _ _ _ _ _ _ _ _ ?_; intro nZ lP lO lN lM lL lK lJ lI lH lG lF lE lD lC lB lA wz hz; dsimp only; refine bodyPost_ret (v := .tuple #[vs (Jq (Vc Qw) N5 (Jl [40] [58, 44, 46, 41] (Ju _))).1, .int .i64 ((Jq (Vc Qw) N5 (Jl [40] [58, 44, 46, 41] (Ju _))).2 : Nat)]) (by simp [results, Tryz.results12, go_sem]; exact ⟨rfl, rfl⟩) rfl ⟨by rw [e6], ?_⟩; rw [kZ.out]; exact kG.out.trans (hz.mono (by rw [<- kZ.out]; exact kG.out.size))
theorem qc2 (W0 w : World) (C : Array Value) (hr : C.size = 23) (hb : Below W0.heap.size W0 w) (gU : ∀ wx, Below W0.heap.size W0 wx -> Calls Tryz.prog 26 #[.agg C] wx fun e w' => e = .returned (.bool false) /\ Below wx.heap.size wx w') :
 Calls Tryz.prog 12 #[.agg C] w fun e w' => e = .returned (.tuple #[vs [], .int .i64 1]) /\ Below w.heap.size w w' := by
 have gW := U2 (w.alloc (.cells C 30)) w.heap.size C (heap_alloc_new w _) hr; have iR := Hi gU; have HB := Hi hb; clear hr gU hb; go_enter Tryz.func12, Tryz.ntmps12
 go_wp2_with fail; refine (iR.out _ (HB.out.trans ((Jp w _).mono HB.out.size))).mono ?_; rintro e W ⟨rfl, gB⟩; have fX := Hi gB; clear gB gW; go_wp2_with fail; exact bodyPost_ret (v := .tuple #[vs [], .int .i64 1]) (by simp [results, Tryz.results12, go_sem]) rfl ⟨rfl, (Jp w _).trans (fX.out.mono (by simp))⟩
theorem qat.down {P : Zt} (h : qat P) (e : P = upP (Xh P)) : qau (Xh P) := by
 have h1 := h.cond; have h2 := h.beg; have h3 := h.fin; have h4 := h.aga; have h5 := h.names; rw [e] at h1 h2 h3 h4 h5; rw [R6] at h5; simp only [upP, Oz] at h1 h2 h3 h4; exact ⟨h1, h2, h3, h4, h5⟩
theorem O5 (W w : World) (cs : List Value) (P : Zt) (hr : Wo W cs P) (hb : Below W.heap.size W w) (ht : Xp W) (hp : Y2 P) (hf : qat P) :
 Calls Tryz.prog 12 #[.agg cs.toArray] w fun e w' => e = .returned (.tuple #[vs (J3 P).1, .int .i64 ((J3 P).2 : Nat)]) /\ Below w.heap.size w w' := by
 have hw := fun wx hx => De W wx cs P hr hx (by have := hf.cond; omega) (fun t h => by
  simp only [List.mem_cons, List.not_mem_nil, or_false] at h; have := hf.beg; have := hf.fin; have := hf.aga; rcases h with rfl | rfl | rfl <;> omega) (by have := hf.exc; omega) (fun s hs => by have := hf.names s (by unfold Mf; simp [hs]); omega)
 cases he : Zw P with
 | true =>
   obtain ⟨e, bC⟩ := Vs hp he; have := qc1 W w cs (Xh P) (by rw [<- e]; exact hr) hb ht bC (hf.down e) (fun wx hx => by rw [<- he]; exact hw wx hx); rw [<- e] at this; exact this
 | false =>
   rw [(C8 he).1]; exact qc2 W w _ (by rw [List.size_toArray]; exact hr.len) hb (fun wx hx => by rw [<- he]; exact hw wx hx)
end
section
open Go.RowKit
theorem B3 (W w : World) (p : Nat) (T : TypeId) (L N : List Qa) (s u : Qa) (g : Nat) (hg : g = w.heap.size) (h : St W w p T L N) (fI : L.length <= 900000) :
 Calls Tryz.prog 27 #[.pointer (some ⟨p, 0, none⟩), .slice (some ⟨g, 0, none⟩) 2 2] (w.alloc (.cells #[vs s, vs u] 9)) (Yj W p T (L ++ [s, u]) N) := by
 obtain ⟨S, h⟩ := h.wr; exact St.of' (qax W w p T S L N s u g hg h (by omega))
theorem qj7 (W w : World) (p : Nat) (T : TypeId) (L N : List Qa) (s : Qa) (n : Nat) (h : St W w p T L N) (hn : n <= 1000000) (fI : L.length <= 900000) (ht : Xp W) :
 Calls Tryz.prog 45 #[.pointer (some ⟨p, 0, none⟩), vs s, .int .i64 (n : Int)] w (Yj W p T (L ++ [s, dec n]) N) := by
 obtain ⟨S, h⟩ := h.wr; exact St.of (Mi W w p T S L N s n h (by omega) (by omega) ht)
theorem qh0 (W w : World) (ht : Xp W) (t : Qb) (cs : List Value) (p : Nat) (T : TypeId) (L N : List Qa) (hs : Jn t = true) (iD : t.size <= 1000) (h1 : L.length <= 100000) (h2 : N.length <= 100000) (hr : RdX true W cs (up t)) (h : St W w p T L N) :
 Calls Tryz.prog 44 #[.pointer (some ⟨p, 0, none⟩), .agg cs.toArray] w (Yj W p T (L ++ So.wF t) (N ++ Ql t)) := by
 obtain ⟨S, h⟩ := h.wr; exact St.of (qcl W ht t.size t cs w p T S L N (lR _) hs (by omega) (by omega) hr h)
theorem Lr (W w : World) (ht : Xp W) (t : Qb) (cs : List Value) (p : Nat) (T : TypeId) (L N : List Qa) (hs : Ja t = true) (iD : t.size <= 1000) (h1 : L.length <= 100000) (h2 : N.length <= 100000) (hr : RdX false W cs (up t)) (h : St W w p T L N) :
 Calls Tryz.prog 46 #[.pointer (some ⟨p, 0, none⟩), .agg cs.toArray] w (Yj W p T (L ++ So.wS t) (N ++ Qo t)) := by
 obtain ⟨S, h⟩ := h.wr; exact St.of (Sz W ht t.size t cs w p T S L N (lR _) hs (by omega) (by omega) hr h)
theorem B4 (W w : World) (p : Nat) (T : TypeId) (L N : List Qa) (s u : Qa) (g b : Nat) (O : Obj) (hg : g = w.heap.size) (h : StB W w p T L N b O) (fI : L.length <= 900000) :
 Calls Tryz.prog 27 #[.pointer (some ⟨p, 0, none⟩), .slice (some ⟨g, 0, none⟩) 2 2] (w.alloc (.cells #[vs s, vs u] 9)) fun e w' => e = .returned (.tuple #[]) /\ StB W w' p T (L ++ [s, u]) N b O := by
 obtain ⟨S, hw, hn⟩ := h.wr; refine (qax W w p T S L N s u g hg hw (by omega)).mono ?_; rintro e w' ⟨rfl, S', lZ, hf⟩; obtain ⟨g1, g2⟩ := hf.box h.blk hn; exact ⟨rfl, ⟨S', lZ, g2⟩, g1⟩
