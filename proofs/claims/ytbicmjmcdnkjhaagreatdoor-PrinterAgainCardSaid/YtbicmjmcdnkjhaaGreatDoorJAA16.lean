/- printer.South: a round of its second loop: one start is written. -/
import Derived.Test.YtbicmjmcdnkjhaaGreatDoorJAA15
set_option linter.unusedVariables false
set_option linter.unusedSimpArgs false
set_option maxRecDepth 100000
set_option maxHeartbeats 4000000
namespace Go.Proofs.YtbicmjmcdnkjhaaGreatDoor
section
open Go.RowKit
attribute [local go_sem ↓] Go.wp_at_zero Go.wp_at_succ
noncomputable def qfd (i : Nat) : Code := (Tryz.f14.body.bind fun c => (Yv c)[i]?).getD .skip
theorem C5 (l : List Qa) : (So.brW l).length = l.length + 2 := by unfold So.brW; simp
def TurnS (k tri : Nat) (kw : Qa) : Prop := k = 0 /\ tri = 1 /\ kw = So.Xs \/ k = 1 /\ tri = 2 /\ kw = So.Vp \/ k = 2 /\ tri = 2 /\ kw = So.Iq
theorem S7 (Q : Exit -> Act -> World -> Prop) (W wr : World) (pb : Nat) (L N : List Qa) (k tri : Nat) (kw : Qa) (o : Nat) (nm : Qa) (d m : Nat) (K : Option Addr) (ks : List Qb) (q : Nat) (A : Array Value) (hk : TurnS k tri kw)
 (hI : ∀ w, (Instr.index 59 (.agg A) (.int .i64 k)).run Tryz.prog w = .ok (.agg #[.int .i64 o, vs nm, .int .i64 m, .slice K (ups ks).length q]) w) (ht : Xp W)
 (hr : RdX false W [.int .i64 o, vs nm, .int .i64 m, .slice K (ups ks).length q] (up (.mk o nm d m ks))) (hs : Ja (.mk o nm d m ks) = true) (fS : (Qb.mk o nm d m ks).size <= 1000) (hL : L.length <= 12000) (hN : N.length <= 4000) (hS : St W wr W.heap.size 74 L N)
 (u0 u2 u3 u5 u6 u7 u8 u9 dU dJ dI dH dF dE dA cZ cY cX cW cV cU cT cS cR cQ cP cO cN cM cL u32 cK cJ cI cH cG cF cE cD cC cA bZ bY bX bW bV bU bT bS bR bQ bP bO dX dW dV dT dS dR dQ dP dO u64 bN bM bL bK bJ bI bH bG bF eT eS eR eQ eP eO eN eM eL eK eJ eI eH eG eF eD eC eB eA dZ dY dN dM dL aY aX aW aV aU aT aS aR aQ aP aO aN aM aL aK aJ aI aH aG aF aE aD aC aB : Value)
 (bB : ∀ (v7 v8 v9 fP fO fN fM fL fK fJ fI fH fG fF fE fD fC fB eZ eY eX eW eV eU : Value) (w' : World), St W w' W.heap.size 74 (L ++ Qr (o != tri) kw (So.brW (So.wS (.mk o nm d m ks)))) (N ++ Qo (.mk o nm d m ks)) -> Q .normal ⟨#[u0, .pointer (some ⟨pb, 0, none⟩), u2, u3, .pointer (some ⟨W.heap.size, 0, none⟩), u5, u6, v7, v8, v9, dU, dJ, dI, dH, dF, dE, dA, cZ, cY, cX, cW, cV, cU, cT, cS, cR, cQ, cP, cO, cN, cM, cL, u32, cK, cJ, cI, cH, cG, cF, cE, cD, cC, cA, bZ, bY, bX, bW, bV, bU, bT, bS, bR, bQ, bP, bO, dX, dW, dV, dT, dS, dR, dQ, dP, dO, u64, bN, bM, bL, bK, bJ, bI, bH, bG, bF, .agg A, .int .i64 (k + 1), fP, fO, fN, fM, fL, fK, fJ, fI, fH, fG, fF, fE, fD, fC, fB, eZ, eY, eX, eW, eV, eU, dN, dM, dL, aY, aX, aW, aV, aU, aT, aS, aR, aQ, aP, aO, aN, aM, aL, aK, aJ, aI, aH, aG, aF, aE, aD, aC, aB], []⟩ w') :
 Code.wp Tryz.prog (qfd 1) Q ⟨#[u0, .pointer (some ⟨pb, 0, none⟩), u2, u3, .pointer (some ⟨W.heap.size, 0, none⟩), u5, u6, u7, u8, u9, dU, dJ, dI, dH, dF, dE, dA, cZ, cY, cX, cW, cV, cU, cT, cS, cR, cQ, cP, cO, cN, cM, cL, u32, cK, cJ, cI, cH, cG, cF, cE, cD, cC, cA, bZ, bY, bX, bW, bV, bU, bT, bS, bR, bQ, bP, bO, dX, dW, dV, dT, dS, dR, dQ, dP, dO, u64, bN, bM, bL, bK, bJ, bI, bH, bG, bF, .agg A, .int .i64 k, eT, eS, eR, eQ, eP, eO, eN, eM, eL, eK, eJ, eI, eH, eG, eF, eD, eC, eB, eA, dZ, dY, dN, dM, dL, aY, aX, aW, aV, aU, aT, aS, aR, aQ, aP, aO, aN, aM, aL, aK, aJ, aI, aH, aG, aF, aE, aD, aC, aB], []⟩ wr := by
 have HS := Hi hS; have HE := Hi bB; have HR := Hi hr; have HT := Hi ht; have gI := Hi hs; have gH := Hi fS; clear hS bB hr ht hs fS
 conv => arg 2; whnf
 rcases hk with ⟨rfl, rfl, rfl⟩ | ⟨rfl, rfl, rfl⟩ | ⟨rfl, rfl, rfl⟩
 · rw [show ((0 : Nat) : Int) = (0 : Int) from rfl] at *; go_upto_region 25 with fail; have aA := HS.out.box #[.int .i64 o, vs nm, .int .i64 m, .slice K (ups ks).length q] 28; have d0 := cOb (o := 0) aA.blk rfl; have dl := lHp aA.blk; have bE := Hi aA; clear aA HS hI
   by_cases aZ : o = 1
   · subst aZ; have hW := Hi (Wy gI.out (by decide)); go_wp2_with fail; exact HE.out _ _ _ _ _ _ _ _ _ _ _ _ _ _ _ _ _ _ _ _ _ _ _ _ _ (by rw [hW.out]; have := bE.out.st; simpa [Qr] using this)
   · have fZ : ¬ ((o : Int) = 1) := by omega
     have hU := Hi aZ; clear aZ; have kT : ∀ w, (Instr.index 60 (.agg #[vs [115, 116, 97, 114, 116, 115], vs [101, 110, 100, 115], vs [114, 101, 116, 117, 114, 110, 115]]) (.int .i64 0)).run Tryz.prog w = .ok (vs So.Xs) w := fun _ => by kernel_rfl
     go_wp2_with fail; refine (B4 W _ _ _ _ _ _ _ _ _ _ (by simp) bE.out (by omega)).mono ?_; rintro e w9 ⟨rfl, aA⟩; clear d0 dl; have d0 := cOb (o := 0) aA.blk rfl; have d1 := cOb (o := 1) aA.blk rfl; have d2 := cOb (o := 2) aA.blk rfl; have d3 := cOb (o := 3) aA.blk rfl; have dl := lHp aA.blk; have hT := Hi aA; clear aA; go_wp2_with fail; refine (Lr W _ HT.out _ _ _ _ _ _ gI.out gH.out (by simp; omega) (by omega) HR.out hT.out.st).mono ?_; rintro e w8 ⟨rfl, hS⟩; have fW := Hi hS; have hF := So.Wf (.mk o nm d m ks); have fS := gH.out; clear hS d0 d1 d2 d3 dl; go_wp2_with fail; refine (Ww W _ _ _ _ _ _ _ (by simp) fW.out (by simp; omega)).mono ?_; rintro e w7 ⟨rfl, hS⟩; have fR := Hi hS; clear hS hF fS; go_wp2_with fail; exact HE.out _ _ _ _ _ _ _ _ _ _ _ _ _ _ _ _ _ _ _ _ _ _ _ _ _ (by have := fR.out; rw [show Qr (o != 1) So.Xs (So.brW (So.wS (.mk o nm d m ks))) = So.Xs :: So.brW (So.wS (.mk o nm d m ks)) by unfold Qr; rw [if_pos (by simpa using hU.out)]]; unfold So.brW; simpa using this)
 · rw [show ((1 : Nat) : Int) = (1 : Int) from rfl] at *; go_upto_region 25 with fail; have aA := HS.out.box #[.int .i64 o, vs nm, .int .i64 m, .slice K (ups ks).length q] 28; have d0 := cOb (o := 0) aA.blk rfl; have dl := lHp aA.blk; have bE := Hi aA; clear aA HS hI
   by_cases aZ : o = 2
   · subst aZ; have hW := Hi (Wy gI.out (by decide)); go_wp2_with fail; exact HE.out _ _ _ _ _ _ _ _ _ _ _ _ _ _ _ _ _ _ _ _ _ _ _ _ _ (by rw [hW.out]; have := bE.out.st; simpa [Qr] using this)
   · have fZ : ¬ ((o : Int) = 2) := by omega
     have hU := Hi aZ; clear aZ; have kT : ∀ w, (Instr.index 60 (.agg #[vs [115, 116, 97, 114, 116, 115], vs [101, 110, 100, 115], vs [114, 101, 116, 117, 114, 110, 115]]) (.int .i64 1)).run Tryz.prog w = .ok (vs So.Vp) w := fun _ => by kernel_rfl
     go_wp2_with fail; refine (B4 W _ _ _ _ _ _ _ _ _ _ (by simp) bE.out (by omega)).mono ?_; rintro e w9 ⟨rfl, aA⟩; clear d0 dl; have d0 := cOb (o := 0) aA.blk rfl; have d1 := cOb (o := 1) aA.blk rfl; have d2 := cOb (o := 2) aA.blk rfl; have d3 := cOb (o := 3) aA.blk rfl; have dl := lHp aA.blk; have hT := Hi aA; clear aA; go_wp2_with fail; refine (Lr W _ HT.out _ _ _ _ _ _ gI.out gH.out (by simp; omega) (by omega) HR.out hT.out.st).mono ?_; rintro e w8 ⟨rfl, hS⟩; have fW := Hi hS; have hF := So.Wf (.mk o nm d m ks); have fS := gH.out; clear hS d0 d1 d2 d3 dl; go_wp2_with fail; refine (Ww W _ _ _ _ _ _ _ (by simp) fW.out (by simp; omega)).mono ?_; rintro e w7 ⟨rfl, hS⟩; have fR := Hi hS; clear hS hF fS; go_wp2_with fail; exact HE.out _ _ _ _ _ _ _ _ _ _ _ _ _ _ _ _ _ _ _ _ _ _ _ _ _ (by have := fR.out; rw [show Qr (o != 2) So.Vp (So.brW (So.wS (.mk o nm d m ks))) = So.Vp :: So.brW (So.wS (.mk o nm d m ks)) by unfold Qr; rw [if_pos (by simpa using hU.out)]]; unfold So.brW; simpa using this)
 · rw [show ((2 : Nat) : Int) = (2 : Int) from rfl] at *; go_upto_region 25 with fail; have aA := HS.out.box #[.int .i64 o, vs nm, .int .i64 m, .slice K (ups ks).length q] 28; have d0 := cOb (o := 0) aA.blk rfl; have dl := lHp aA.blk; have bE := Hi aA; clear aA HS hI
   by_cases aZ : o = 2
   · subst aZ; have hW := Hi (Wy gI.out (by decide)); go_wp2_with fail; exact HE.out _ _ _ _ _ _ _ _ _ _ _ _ _ _ _ _ _ _ _ _ _ _ _ _ _ (by rw [hW.out]; have := bE.out.st; simpa [Qr] using this)
   · have fZ : ¬ ((o : Int) = 2) := by omega
     have hU := Hi aZ; clear aZ; have kT : ∀ w, (Instr.index 60 (.agg #[vs [115, 116, 97, 114, 116, 115], vs [101, 110, 100, 115], vs [114, 101, 116, 117, 114, 110, 115]]) (.int .i64 2)).run Tryz.prog w = .ok (vs So.Iq) w := fun _ => by kernel_rfl
     go_wp2_with fail; refine (B4 W _ _ _ _ _ _ _ _ _ _ (by simp) bE.out (by omega)).mono ?_; rintro e w9 ⟨rfl, aA⟩; clear d0 dl; have d0 := cOb (o := 0) aA.blk rfl; have d1 := cOb (o := 1) aA.blk rfl; have d2 := cOb (o := 2) aA.blk rfl; have d3 := cOb (o := 3) aA.blk rfl; have dl := lHp aA.blk; have hT := Hi aA; clear aA; go_wp2_with fail; refine (Lr W _ HT.out _ _ _ _ _ _ gI.out gH.out (by simp; omega) (by omega) HR.out hT.out.st).mono ?_; rintro e w8 ⟨rfl, hS⟩; have fW := Hi hS; have hF := So.Wf (.mk o nm d m ks); have fS := gH.out; clear hS d0 d1 d2 d3 dl; go_wp2_with fail; refine (Ww W _ _ _ _ _ _ _ (by simp) fW.out (by simp; omega)).mono ?_; rintro e w7 ⟨rfl, hS⟩; have fR := Hi hS; clear hS hF fS; go_wp2_with fail; exact HE.out _ _ _ _ _ _ _ _ _ _ _ _ _ _ _ _ _ _ _ _ _ _ _ _ _ (by have := fR.out; rw [show Qr (o != 2) So.Iq (So.brW (So.wS (.mk o nm d m ks))) = So.Iq :: So.brW (So.wS (.mk o nm d m ks)) by unfold Qr; rw [if_pos (by simpa using hU.out)]]; unfold So.brW; simpa using this)
theorem qjm (Q : Exit -> Act -> World -> Prop) (W w : World) (pb : Nat) (L N : List Qa) (oB : Nat) (nB : Qa) (dB mB : Nat) (KB : Option Addr) (ksB : List Qb) (qB : Nat) (oD : Nat) (nD : Qa) (dD mD : Nat) (KD : Option Addr) (ksD : List Qb) (qD : Nat) (oG : Nat) (nG : Qa) (dG mG : Nat) (KG : Option Addr) (ksG : List Qb) (qG : Nat) (A : Array Value)
 (kR : ∀ w, (Instr.index 59 (.agg A) (.int .i64 0)).run Tryz.prog w = .ok (.agg #[.int .i64 oB, vs nB, .int .i64 mB, .slice KB (ups ksB).length qB]) w) (kQ : ∀ w, (Instr.index 59 (.agg A) (.int .i64 1)).run Tryz.prog w = .ok (.agg #[.int .i64 oD, vs nD, .int .i64 mD, .slice KD (ups ksD).length qD]) w) (kP : ∀ w, (Instr.index 59 (.agg A) (.int .i64 2)).run Tryz.prog w = .ok (.agg #[.int .i64 oG, vs nG, .int .i64 mG, .slice KG (ups ksG).length qG]) w) (ht : Xp W)
 (mX : RdX false W [.int .i64 oB, vs nB, .int .i64 mB, .slice KB (ups ksB).length qB] (up (.mk oB nB dB mB ksB))) (mS : Ja (.mk oB nB dB mB ksB) = true) (pZ : (Qb.mk oB nB dB mB ksB).size <= 300) (mW : RdX false W [.int .i64 oD, vs nD, .int .i64 mD, .slice KD (ups ksD).length qD] (up (.mk oD nD dD mD ksD))) (mR : Ja (.mk oD nD dD mD ksD) = true) (pY : (Qb.mk oD nD dD mD ksD).size <= 300) (mV : RdX false W [.int .i64 oG, vs nG, .int .i64 mG, .slice KG (ups ksG).length qG] (up (.mk oG nG dG mG ksG))) (mQ : Ja (.mk oG nG dG mG ksG) = true) (pX : (Qb.mk oG nG dG mG ksG).size <= 300) (hL : L.length <= 5000) (hN : N.length <= 2000) (hS : St W w W.heap.size 74 L N)
 (u0 u2 u3 u5 u6 u7 u8 u9 dU dJ dI dH dF dE dA cZ cY cX cW cV cU cT cS cR cQ cP cO cN cM cL u32 cK cJ cI cH cG cF cE cD cC cA bZ bY bX bW bV bU bT bS bR bQ bP bO dX dW dV dT dS dR dQ dP dO u64 bN bM bL bK bJ bI bH bG bF eT eS eR eQ eP eO eN eM eL eK eJ eI eH eG eF eD eC eB eA dZ dY dN dM dL aY aX aW aV aU aT aS aR aQ aP aO aN aM aL aK aJ aI aH aG aF aE aD aC aB : Value)
 (bB : ∀ (v7 v8 v9 fP fO fN fM fL fK fJ fI fH fG fF fE fD fC fB eZ eY eX eW eV eU : Value) (w' : World), St W w' W.heap.size 74 (L ++ (Qr (oB != 1) So.Xs (So.brW (So.wS (.mk oB nB dB mB ksB))) ++ Qr (oD != 2) So.Vp (So.brW (So.wS (.mk oD nD dD mD ksD))) ++ Qr (oG != 2) So.Iq (So.brW (So.wS (.mk oG nG dG mG ksG))))) (N ++ (Qo (.mk oB nB dB mB ksB) ++ Qo (.mk oD nD dD mD ksD) ++ Qo (.mk oG nG dG mG ksG))) -> Q (.exit 2) ⟨#[u0, .pointer (some ⟨pb, 0, none⟩), u2, u3, .pointer (some ⟨W.heap.size, 0, none⟩), u5, u6, v7, v8, v9, dU, dJ, dI, dH, dF, dE, dA, cZ, cY, cX, cW, cV, cU, cT, cS, cR, cQ, cP, cO, cN, cM, cL, u32, cK, cJ, cI, cH, cG, cF, cE, cD, cC, cA, bZ, bY, bX, bW, bV, bU, bT, bS, bR, bQ, bP, bO, dX, dW, dV, dT, dS, dR, dQ, dP, dO, u64, bN, bM, bL, bK, bJ, bI, bH, bG, bF, .agg A, .int .i64 3, fP, fO, fN, fM, fL, fK, fJ, fI, fH, fG, fF, fE, fD, fC, fB, eZ, eY, eX, eW, eV, eU, dN, dM, dL, aY, aX, aW, aV, aU, aT, aS, aR, aQ, aP, aO, aN, aM, aL, aK, aJ, aI, aH, aG, aF, aE, aD, aC, aB], []⟩ w') :
 Code.wp Tryz.prog (.loop (qfd 1)) Q ⟨#[u0, .pointer (some ⟨pb, 0, none⟩), u2, u3, .pointer (some ⟨W.heap.size, 0, none⟩), u5, u6, u7, u8, u9, dU, dJ, dI, dH, dF, dE, dA, cZ, cY, cX, cW, cV, cU, cT, cS, cR, cQ, cP, cO, cN, cM, cL, u32, cK, cJ, cI, cH, cG, cF, cE, cD, cC, cA, bZ, bY, bX, bW, bV, bU, bT, bS, bR, bQ, bP, bO, dX, dW, dV, dT, dS, dR, dQ, dP, dO, u64, bN, bM, bL, bK, bJ, bI, bH, bG, bF, .agg A, .int .i64 0, eT, eS, eR, eQ, eP, eO, eN, eM, eL, eK, eJ, eI, eH, eG, eF, eD, eC, eB, eA, dZ, dY, dN, dM, dL, aY, aX, aW, aV, aU, aT, aS, aR, aQ, aP, aO, aN, aM, aL, aK, aJ, aI, aH, aG, aF, aE, aD, aC, aB], []⟩ w := by
 have pB : (Qr (oB != 1) So.Xs (So.brW (So.wS (.mk oB nB dB mB ksB)))).length <= 2000 := by
  have h1 := X5 (oB != 1) So.Xs (So.brW (So.wS (.mk oB nB dB mB ksB))); have h2 := So.Wf (.mk oB nB dB mB ksB); have h3 := C5 (So.wS (.mk oB nB dB mB ksB)); omega
 have qB' : (Qo (.mk oB nB dB mB ksB)).length <= 300 := by
  have h2 := Z5 (.mk oB nB dB mB ksB); omega
 have pD : (Qr (oD != 2) So.Vp (So.brW (So.wS (.mk oD nD dD mD ksD)))).length <= 2000 := by
  have h1 := X5 (oD != 2) So.Vp (So.brW (So.wS (.mk oD nD dD mD ksD))); have h2 := So.Wf (.mk oD nD dD mD ksD); have h3 := C5 (So.wS (.mk oD nD dD mD ksD)); omega
 have qD' : (Qo (.mk oD nD dD mD ksD)).length <= 300 := by
  have h2 := Z5 (.mk oD nD dD mD ksD); omega
 have pG : (Qr (oG != 2) So.Iq (So.brW (So.wS (.mk oG nG dG mG ksG)))).length <= 2000 := by
  have h1 := X5 (oG != 2) So.Iq (So.brW (So.wS (.mk oG nG dG mG ksG))); have h2 := So.Wf (.mk oG nG dG mG ksG); have h3 := C5 (So.wS (.mk oG nG dG mG ksG)); omega
 have qG' : (Qo (.mk oG nG dG mG ksG)).length <= 300 := by
  have h2 := Z5 (.mk oG nG dG mG ksG); omega
 have lB := Hi kR; have lA := Hi kQ; have kZ := Hi kP; refine wp_loop (fun a w' => ∃ (k : Nat) (v7 v8 v9 fP fO fN fM fL fK fJ fI fH fG fF fE fD fC fB eZ eY eX eW eV eU : Value), k <= 3 /\ St W w' W.heap.size 74 (L ++ ([Qr (oB != 1) So.Xs (So.brW (So.wS (.mk oB nB dB mB ksB))), Qr (oD != 2) So.Vp (So.brW (So.wS (.mk oD nD dD mD ksD))), Qr (oG != 2) So.Iq (So.brW (So.wS (.mk oG nG dG mG ksG)))].take k).flatten) (N ++ ([Qo (.mk oB nB dB mB ksB), Qo (.mk oD nD dD mD ksD), Qo (.mk oG nG dG mG ksG)].take k).flatten) /\ a = ⟨#[u0, .pointer (some ⟨pb, 0, none⟩), u2, u3, .pointer (some ⟨W.heap.size, 0, none⟩), u5, u6, v7, v8, v9, dU, dJ, dI, dH, dF, dE, dA, cZ, cY, cX, cW, cV, cU, cT, cS, cR, cQ, cP, cO, cN, cM, cL, u32, cK, cJ, cI, cH, cG, cF, cE, cD, cC, cA, bZ, bY, bX, bW, bV, bU, bT, bS, bR, bQ, bP, bO, dX, dW, dV, dT, dS, dR, dQ, dP, dO, u64, bN, bM, bL, bK, bJ, bI, bH, bG, bF, .agg A, .int .i64 k, fP, fO, fN, fM, fL, fK, fJ, fI, fH, fG, fF, fE, fD, fC, fB, eZ, eY, eX, eW, eV, eU, dN, dM, dL, aY, aX, aW, aV, aU, aT, aS, aR, aQ, aP, aO, aN, aM, aL, aK, aJ, aI, aH, aG, aF, aE, aD, aC, aB], []⟩) (fun a _ => 3 - (intOf (a.tmps.getD 75 undef)).toNat) ?_ ?_
 · exact ⟨0, u7, u8, u9, eT, eS, eR, eQ, eP, eO, eN, eM, eL, eK, eJ, eI, eH, eG, eF, eD, eC, eB, eA, dZ, dY, by omega, by simpa using hS, rfl⟩
 · rintro a w' ⟨k, v7, v8, v9, fP, fO, fN, fM, fL, fK, fJ, fI, fH, fG, fF, fE, fD, fC, fB, eZ, eY, eX, eW, eV, eU, hk, fV, rfl⟩; clear hS; have mY : k = 0 \/ k = 1 \/ k = 2 \/ k = 3 := by omega
   rcases mY with rfl | rfl | rfl | rfl
   · refine S7 _ W w' pb _ _ 0 1 So.Xs oB nB dB mB KB ksB qB A (Or.inl <| ⟨rfl, rfl, rfl⟩) lB.out ht mX mS (by omega) ?_ ?_ fV u0 u2 u3 u5 u6 v7 v8 v9 dU dJ dI dH dF dE dA cZ cY cX cW cV cU cT cS cR cQ cP cO cN cM cL u32 cK cJ cI cH cG cF cE cD cC cA bZ bY bX bW bV bU bT bS bR bQ bP bO dX dW dV dT dS dR dQ dP dO u64 bN bM bL bK bJ bI bH bG bF fP fO fN fM fL fK fJ fI fH fG fF fE fD fC fB eZ eY eX eW eV eU dN dM dL aY aX aW aV aU aT aS aR aQ aP aO aN aM aL aK aJ aI aH aG aF aE aD aC aB ?_
     · simp only [List.take_succ_cons, List.take_zero, List.flatten_cons, List.flatten_nil, List.length_append, List.length_nil]; omega
     · simp only [List.take_succ_cons, List.take_zero, List.flatten_cons, List.flatten_nil, List.length_append, List.length_nil]; omega
     · intro x7 x8 x9 hD hC hB hA gZ gY gX gW gV gU gT gS gR gQ gP gO gN gM gL gK gJ wy hy; refine ⟨⟨1, x7, x8, x9, hD, hC, hB, hA, gZ, gY, gX, gW, gV, gU, gT, gS, gR, gQ, gP, gO, gN, gM, gL, gK, gJ, by omega, by simpa using hy, rfl⟩, by simp [intOf]⟩
   · refine S7 _ W w' pb _ _ 1 2 So.Vp oD nD dD mD KD ksD qD A (Or.inr ∘ Or.inl <| ⟨rfl, rfl, rfl⟩) lA.out ht mW mR (by omega) ?_ ?_ fV u0 u2 u3 u5 u6 v7 v8 v9 dU dJ dI dH dF dE dA cZ cY cX cW cV cU cT cS cR cQ cP cO cN cM cL u32 cK cJ cI cH cG cF cE cD cC cA bZ bY bX bW bV bU bT bS bR bQ bP bO dX dW dV dT dS dR dQ dP dO u64 bN bM bL bK bJ bI bH bG bF fP fO fN fM fL fK fJ fI fH fG fF fE fD fC fB eZ eY eX eW eV eU dN dM dL aY aX aW aV aU aT aS aR aQ aP aO aN aM aL aK aJ aI aH aG aF aE aD aC aB ?_
     · simp only [List.take_succ_cons, List.take_zero, List.flatten_cons, List.flatten_nil, List.length_append, List.length_nil]; omega
     · simp only [List.take_succ_cons, List.take_zero, List.flatten_cons, List.flatten_nil, List.length_append, List.length_nil]; omega
     · intro x7 x8 x9 hD hC hB hA gZ gY gX gW gV gU gT gS gR gQ gP gO gN gM gL gK gJ wy hy; refine ⟨⟨2, x7, x8, x9, hD, hC, hB, hA, gZ, gY, gX, gW, gV, gU, gT, gS, gR, gQ, gP, gO, gN, gM, gL, gK, gJ, by omega, by simpa using hy, rfl⟩, by simp [intOf]⟩
   · refine S7 _ W w' pb _ _ 2 2 So.Iq oG nG dG mG KG ksG qG A (Or.inr ∘ Or.inr <| ⟨rfl, rfl, rfl⟩) kZ.out ht mV mQ (by omega) ?_ ?_ fV u0 u2 u3 u5 u6 v7 v8 v9 dU dJ dI dH dF dE dA cZ cY cX cW cV cU cT cS cR cQ cP cO cN cM cL u32 cK cJ cI cH cG cF cE cD cC cA bZ bY bX bW bV bU bT bS bR bQ bP bO dX dW dV dT dS dR dQ dP dO u64 bN bM bL bK bJ bI bH bG bF fP fO fN fM fL fK fJ fI fH fG fF fE fD fC fB eZ eY eX eW eV eU dN dM dL aY aX aW aV aU aT aS aR aQ aP aO aN aM aL aK aJ aI aH aG aF aE aD aC aB ?_
     · simp only [List.take_succ_cons, List.take_zero, List.flatten_cons, List.flatten_nil, List.length_append, List.length_nil]; omega
     · simp only [List.take_succ_cons, List.take_zero, List.flatten_cons, List.flatten_nil, List.length_append, List.length_nil]; omega
     · intro x7 x8 x9 hD hC hB hA gZ gY gX gW gV gU gT gS gR gQ gP gO gN gM gL gK gJ wy hy; refine ⟨⟨3, x7, x8, x9, hD, hC, hB, hA, gZ, gY, gX, gW, gV, gU, gT, gS, gR, gQ, gP, gO, gN, gM, gL, gK, gJ, by omega, by simpa using hy, rfl⟩, by simp [intOf]⟩
   · have HS := Hi fV; have HE := Hi bB; clear fV bB kR kQ kP lB lA kZ; rw [show ((3 : Nat) : Int) = (3 : Int) from rfl] at *
     conv => arg 2; whnf
     go_wp2_with fail; exact HE.out _ _ _ _ _ _ _ _ _ _ _ _ _ _ _ _ _ _ _ _ _ _ _ _ _ (by have := HS.out; simpa using this)
end
set_option maxRecDepth 100000
set_option maxHeartbeats 4000000
section
open Go.RowKit
attribute [local go_sem ↓] Go.wp_at_zero Go.wp_at_succ
theorem qjn (Q : Exit -> Act -> World -> Prop) (W w : World) (pb : Nat) (L N : List Qa) (A : Option Addr) (exc : List Qa) (cap : Nat) (hr : RdS W A exc) (kO : exc.length <= 20) (hL : L.length <= 3000) (hN : N.length <= 1000) (hS : St W w W.heap.size 74 L N)
 (u0 u2 u3 u5 u6 u7 u8 u9 dU dJ dI dH dF dE dA cZ cY cX cW cV cU cT cS cR cQ cP cO cN cM cL u32 cK cJ cI cH cG cF cE cD cC cA bZ bY bX bW bV bU bT bS bR bQ bP bO dT dS dR dQ dP dO u64 bN bM bL bK bJ bI bH bG bF gE gD eT eS eR eQ eP eO eN eM eL eK eJ eI eH eG eF eD eC eB eA dZ dY dN dM dL aY aX aW aV aU aT aS aR aQ aP aO aN aM aL aK aJ aI aH aG aF aE aD aC aB : Value)
 (bB : ∀ (v6 iE iD iC iB iA hY hX : Value) (w' : World), St W w' W.heap.size 74 (L ++ exc) (N ++ exc) -> Q (.exit 0) ⟨#[u0, .pointer (some ⟨pb, 0, none⟩), u2, u3, .pointer (some ⟨W.heap.size, 0, none⟩), u5, v6, u7, u8, u9, dU, dJ, dI, dH, dF, dE, dA, cZ, cY, cX, cW, cV, cU, cT, cS, cR, cQ, cP, cO, cN, cM, cL, u32, cK, cJ, cI, cH, cG, cF, cE, cD, cC, cA, bZ, bY, bX, bW, bV, bU, bT, bS, bR, bQ, bP, bO, .slice A exc.length cap, .int .i64 exc.length, .int .i64 exc.length, iE, iD, iC, iB, iA, hY, hX, bN, bM, bL, bK, bJ, bI, bH, bG, bF, gE, gD, eT, eS, eR, eQ, eP, eO, eN, eM, eL, eK, eJ, eI, eH, eG, eF, eD, eC, eB, eA, dZ, dY, dN, dM, dL, aY, aX, aW, aV, aU, aT, aS, aR, aQ, aP, aO, aN, aM, aL, aK, aJ, aI, aH, aG, aF, aE, aD, aC, aB], []⟩ w') :
 Code.wp Tryz.prog (.loop (qfd 0)) Q ⟨#[u0, .pointer (some ⟨pb, 0, none⟩), u2, u3, .pointer (some ⟨W.heap.size, 0, none⟩), u5, u6, u7, u8, u9, dU, dJ, dI, dH, dF, dE, dA, cZ, cY, cX, cW, cV, cU, cT, cS, cR, cQ, cP, cO, cN, cM, cL, u32, cK, cJ, cI, cH, cG, cF, cE, cD, cC, cA, bZ, bY, bX, bW, bV, bU, bT, bS, bR, bQ, bP, bO, .slice A exc.length cap, .int .i64 exc.length, .int .i64 0, dT, dS, dR, dQ, dP, dO, u64, bN, bM, bL, bK, bJ, bI, bH, bG, bF, gE, gD, eT, eS, eR, eQ, eP, eO, eN, eM, eL, eK, eJ, eI, eH, eG, eF, eD, eC, eB, eA, dZ, dY, dN, dM, dL, aY, aX, aW, aV, aU, aT, aS, aR, aQ, aP, aO, aN, aM, aL, aK, aJ, aI, aH, aG, aF, aE, aD, aC, aB], []⟩ w := by
 refine wp_loop (fun a w' => ∃ (k : Nat) (v6 iE iD iC iB iA hY hX : Value), k <= exc.length /\ St W w' W.heap.size 74 (L ++ exc.take k) (N ++ exc.take k) /\ a = ⟨#[u0, .pointer (some ⟨pb, 0, none⟩), u2, u3, .pointer (some ⟨W.heap.size, 0, none⟩), u5, v6, u7, u8, u9, dU, dJ, dI, dH, dF, dE, dA, cZ, cY, cX, cW, cV, cU, cT, cS, cR, cQ, cP, cO, cN, cM, cL, u32, cK, cJ, cI, cH, cG, cF, cE, cD, cC, cA, bZ, bY, bX, bW, bV, bU, bT, bS, bR, bQ, bP, bO, .slice A exc.length cap, .int .i64 exc.length, .int .i64 k, iE, iD, iC, iB, iA, hY, hX, bN, bM, bL, bK, bJ, bI, bH, bG, bF, gE, gD, eT, eS, eR, eQ, eP, eO, eN, eM, eL, eK, eJ, eI, eH, eG, eF, eD, eC, eB, eA, dZ, dY, dN, dM, dL, aY, aX, aW, aV, aU, aT, aS, aR, aQ, aP, aO, aN, aM, aL, aK, aJ, aI, aH, aG, aF, aE, aD, aC, aB], []⟩) (fun a _ => exc.length - (intOf (a.tmps.getD 57 undef)).toNat) ?_ ?_
 · exact ⟨0, u6, dT, dS, dR, dQ, dP, dO, u64, by omega, by simpa using hS, rfl⟩
 · rintro a wr ⟨k, v6, iE, iD, iC, iB, iA, hY, hX, hk, fV, rfl⟩; have HR := Hi hr; have HE := Hi bB; have HS := Hi fV; clear hS fV hr bB
   by_cases kS : k = exc.length
   · subst kS; rw [List.take_length] at HS
     conv => arg 2; whnf
     go_wp2_with fail; exact HE.out _ _ _ _ _ _ _ _ _ HS.out
   · have jY : k < exc.length := by omega
     obtain ⟨s, jU⟩ : ∃ s, exc[k]? = some s := ⟨_, List.getElem?_eq_getElem jY⟩
     obtain ⟨eb, eo, rfl, kA, kV⟩ := HR.out.item jU; have qE : (k : Int) < (exc.length : Int) := (by omega)
     have qI : (0 : Int) <= (k : Int) := (by omega)
     have qA : wr.cell? ⟨eb, eo + k, none⟩ = some (vs s) := (HS.out.below.cell (p := ⟨eb, eo + k, none⟩) kA).trans kV; have nT := Hi jU; have mO : (exc.take k).length = k := by rw [List.length_take]; omega
     obtain ⟨LK, iO⟩ : ∃ LK, L ++ exc.take k = LK := ⟨_, rfl⟩
     obtain ⟨NK, iK⟩ : ∃ NK, N ++ exc.take k = NK := ⟨_, rfl⟩
     have nE : LK.length <= 4000 := by rw [<- iO, List.length_append]; omega
     have nA : NK.length <= 2000 := by rw [<- iK, List.length_append]; omega
     rw [iO, iK] at HS
     have lD : Hid (L ++ exc.take (k + 1) = LK ++ [s] /\ N ++ exc.take (k + 1) = NK ++ [s]) := Hi (by
      rw [List.take_add_one, nT.out]; simp only [Option.toList]; rw [<- iO, <- iK]; simp)
     have oF : Hid (exc.length - ((k : Int) + 1).toNat < exc.length - ((k : Nat) : Int).toNat) := Hi (by omega); clear kV jU mO iO iK kS
     conv => arg 2; whnf
     go_wp2_with (first | (go_at_call 28; refine (G5 W _ _ _ _ _ _ HS.out (by omega) (by omega)).mono ?_; rintro e w9 ⟨rfl, hS⟩; have bA := Hi hS; clear HS hS; have HS := bA; clear bA))
     refine ⟨⟨k + 1, _, _, _, _, _, _, _, _, by omega, ?_, rfl⟩, ?_⟩
     · rw [lD.out.1, lD.out.2]; exact HS.out
     · exact oF.out
end
set_option maxRecDepth 100000
set_option maxHeartbeats 4000000
section
open Go.RowKit
attribute [local go_sem ↓] Go.wp_at_zero Go.wp_at_succ
noncomputable def qi2 : Code := (Tryz.f14.body.bind (U9 33)).getD .skip
theorem qcm (w : World) (ht : Xp w) : Calls Tryz.prog 34 #[.string ⟨#[119, 104, 101, 114, 101, 32, 116, 101, 114, 109, 32, 113, 117, 101, 115, 116, 105, 111, 110, 32, 103, 105, 118, 101, 115, 32, 111, 118, 101, 114, 114, 105, 100, 101, 115, 32, 115, 116, 97, 114, 116, 115, 32, 101, 110, 100, 115, 32, 114, 101, 116, 117, 114, 110, 115, 32, 99, 104, 97, 114, 116, 101, 114, 32, 115, 116, 97, 116, 117, 116, 101, 32, 111, 114, 100, 101, 114, 32, 114, 117, 108, 101, 32, 121, 101, 115, 32, 110, 111, 32, 101, 113, 117, 97, 108, 32, 117, 110, 108, 105, 107, 101, 32, 98, 101, 108, 111, 119, 32, 109, 111, 115, 116, 32, 97, 98, 111, 118, 101, 32, 108, 101, 97, 115, 116, 32, 100, 101, 102, 105, 110, 101, 100, 32, 110, 101, 103, 97, 116, 101, 100, 32, 97, 108, 108, 32, 97, 110, 121, 32, 97, 108, 119, 97, 121, 115, 32, 110, 101, 118, 101, 114, 32, 100, 97, 121, 32, 100, 101, 99, 114, 101, 101, 32, 101, 118, 101, 110, 116, 32, 98, 101, 103, 117, 110, 32, 111, 118, 101, 114]⟩] w fun e w' => ∃ mb, e = .returned (.map (some mb)) /\ KS w' mb (Vc So.Qw) /\ w.heap.size <= mb /\ Below w.heap.size w w' :=
 Bb w So.Qw _ (by decide +kernel) Cy (by decide) (by decide +kernel) (by decide +kernel) (by decide +kernel) ht
theorem qfs (w : World) : Calls Tryz.prog 32 #[.slice (some ⟨w.heap.size, 0, none⟩) 8 8] (w.alloc (.cells #[vs [40, 32], vs [40], vs [32, 41], vs [41], vs [91, 32], vs [91], vs [32, 93], vs [93]] 9)) fun e w' => ∃ rb kb c, e = .returned (.pointer (some ⟨rb, 0, none⟩)) /\ Db prS (w.alloc (.cells #[vs [40, 32], vs [40], vs [32, 41], vs [41], vs [91, 32], vs [91], vs [32, 93], vs [93]] 9)) w' rb kb c :=
 Md _ w.heap.size 8 prS (by decide) (by decide) (fun j x hx => by
  refine cOb (heap_alloc_new w _) ?_
  have h : ∀ j < 8, ∀ x, (Vr prS)[j]? = some x -> (#[vs [40, 32], vs [40], vs [32, 41], vs [41], vs [91, 32], vs [91], vs [32, 93], vs [93]] : Array Value)[j]? = some (vs x) := by
   intro j hj x hx; have : j = 0 \/ j = 1 \/ j = 2 \/ j = 3 \/ j = 4 \/ j = 5 \/ j = 6 \/ j = 7 := by omega
   rcases this with rfl | rfl | rfl | rfl | rfl | rfl | rfl | rfl <;> (injection hx with hx; subst hx; rfl)
  exact h j (by have := (List.getElem?_eq_some_iff.1 hx).1; exact this) x hx)
theorem send (Q : Exit -> Act -> World -> Prop) (W w : World) (L N : List Qa) (ht : Xp W) (hL : L.length <= 100000) (hN : N.length <= 100000)  (LL : List Qa) (rk : Nat) (id rw1 : Qa) (pb : Nat) (gF : 1 <= rk /\ rk <= 4) (hI : ∀ w, (Instr.index 54 (.agg #[vs [], vs [99, 104, 97, 114, 116, 101, 114], vs [115, 116, 97, 116, 117, 116, 101], vs [111, 114, 100, 101, 114], vs [114, 117, 108, 101]]) (.int .i64 (rk : Int))).run Tryz.prog w = .ok (vs rw1) w) (kX : ∀ wx, Below W.heap.size W wx -> wx.cell? ⟨pb, 0, none⟩ = some (vs id) /\ wx.cell? ⟨pb, 1, none⟩ = some (.int .i64 rk) /\ pb < wx.heap.size) (iN : L ++ [[91], rw1, id, [93]] = LL) (hn : ∀ s ∈ N ++ [id], s.length <= 1000000) (hj : (Ju LL).length <= 1000000000) (hS : St W w W.heap.size 74 L N)
 (u0 u2 u3 u5 u6 u7 u8 u9 dU dJ dI dH dF dE dA cZ cY cX cW cV cU cT cS cR cQ cP cO cN cM cL u32 cK cJ cI cH cG cF cE cD cC cA bZ bY bX bW bV bU bT bS bR bQ bP bO dX dW dV dT dS dR dQ dP dO u64 bN bM bL bK bJ bI bH bG bF gE gD eT eS eR eQ eP eO eN eM eL eK eJ eI eH eG eF eD eC eB eA dZ dY dN dM dL aY aX aW aV aU aT aS aR aQ aP aO aN aM aL aK aJ aI aH aG aF aE aD aC aB : Value)
 (bB : ∀ (mN mM mL mK jR jQ jP jO jN jM jL jK jJ jI jH jG jF jE jD jC jB jA iZ iY iX iW iV iU : Value) (w' : World), Below W.heap.size W w' -> Q .ret ⟨#[u0, .pointer (some ⟨pb, 0, none⟩), vs (Jq (Vc So.Qw) (N ++ [id]) (Jl [40, 91] [41, 93] (Ju LL))).1, .int .i64 ((Jq (Vc So.Qw) (N ++ [id]) (Jl [40, 91] [41, 93] (Ju LL))).2 : Nat), .pointer (some ⟨W.heap.size, 0, none⟩), u5, u6, u7, u8, u9, mN, dJ, dI, dH, dF, dE, dA, cZ, cY, cX, cW, cV, cU, cT, cS, cR, cQ, cP, cO, cN, cM, cL, u32, cK, cJ, cI, cH, cG, cF, cE, cD, cC, cA, bZ, bY, bX, bW, bV, bU, bT, bS, bR, bQ, bP, bO, dX, dW, dV, dT, dS, dR, dQ, dP, dO, u64, bN, bM, bL, bK, bJ, bI, bH, bG, bF, gE, gD, eT, eS, eR, eQ, eP, eO, eN, eM, eL, eK, eJ, eI, eH, eG, eF, eD, eC, eB, eA, dZ, dY, mM, mL, mK, jR, jQ, jP, jO, jN, jM, jL, jK, jJ, jI, jH, jG, jF, jE, jD, jC, jB, jA, iZ, iY, iX, iW, iV, iU], []⟩ w') :
 Code.wp Tryz.prog qi2 Q ⟨#[u0, .pointer (some ⟨pb, 0, none⟩), u2, u3, .pointer (some ⟨W.heap.size, 0, none⟩), u5, u6, u7, u8, u9, dU, dJ, dI, dH, dF, dE, dA, cZ, cY, cX, cW, cV, cU, cT, cS, cR, cQ, cP, cO, cN, cM, cL, u32, cK, cJ, cI, cH, cG, cF, cE, cD, cC, cA, bZ, bY, bX, bW, bV, bU, bT, bS, bR, bQ, bP, bO, dX, dW, dV, dT, dS, dR, dQ, dP, dO, u64, bN, bM, bL, bK, bJ, bI, bH, bG, bF, gE, gD, eT, eS, eR, eQ, eP, eO, eN, eM, eL, eK, eJ, eI, eH, eG, eF, eD, eC, eB, eA, dZ, dY, dN, dM, dL, aY, aX, aW, aV, aU, aT, aS, aR, aQ, aP, aO, aN, aM, aL, aK, aJ, aI, aH, aG, aF, aE, aD, aC, aB], []⟩ w := by
 have HE := Hi bB; have dK := Hi kX; have mU := gF.1; have mT := gF.2; have HT := Hi ht; have HS := Hi hS; have HN := Hi hn; have HJ := Hi hj; have qM : LL.length <= 900004 := by rw [<- iN]; simp; omega
 have kY : LL ≠ [] := by rw [<- iN]; simp
 have oH := Hi kY; have oI := Hi iN; clear bB kX gF ht hS hn hj iN kY
 conv => arg 2; whnf
 obtain ⟨c0, c1, cl⟩ := dK.out _ HS.out.below; go_wp2_with fail; refine (B3 W _ _ _ _ _ _ _ _ (by simp) HS.out (by omega)).mono ?_; rintro e w7 ⟨rfl, hS⟩; have fR := Hi hS; clear HS hS c0 c1 cl hI; obtain ⟨c0, c1, cl⟩ := dK.out _ fR.out.below; go_wp2_with fail; refine (G5 W _ _ _ _ _ _ fR.out (by simp; omega) (by omega)).mono ?_; rintro e w8 ⟨rfl, hS⟩; have fW := Hi hS; clear fR hS c0 c1 cl; go_wp2_with fail; refine (Ww W _ _ _ _ _ _ _ (by simp) fW.out (by simp; omega)).mono ?_; rintro e w9 ⟨rfl, hS⟩; have HS : Hid (St W w9 W.heap.size 74 LL (N ++ [id])) := Hi (by rw [<- oI.out]; simpa using hS); clear fW hS; obtain ⟨NN, kD⟩ : ∃ NN, N ++ [id] = NN := ⟨_, rfl⟩
 have qL : NN.length <= 900001 := by rw [<- kD]; simp; omega
 rw [kD] at HS HE HN; clear kD; go_wp2_with fail; refine (qfs w9).mono ?_; rintro e w1 ⟨rb, kb, q, rfl, hR⟩; obtain ⟨w0, jT⟩ : ∃ x, w9.alloc (.cells #[vs [40, 32], vs [40], vs [32, 41], vs [41], vs [91, 32], vs [91], vs [32, 93], vs [93]] 9) = x := ⟨_, rfl⟩
 have hP := HS.out.alloc (.cells #[vs [40, 32], vs [40], vs [32, 41], vs [41], vs [91, 32], vs [91], vs [32, 93], vs [93]] 9); rw [jT] at hP; rw [jT] at hR; have hO : TA W w0 w1 W.heap.size 74 LL NN prS rb kb q w1 := ⟨hP, hR, Below.refl _ _⟩
 obtain ⟨A, c, hc, hl⟩ := hO.list; have HL := Hi hl; have kI := Hi hO; have q1 := (hl w1 hO).1; have qF : W.heap.size < w1.heap.size := Nat.lt_of_lt_of_le hO.sp.lt.2 (lR _); have oJ : Hid (∀ w mb, TC W w0 W.heap.size 74 LL NN mb (Vc So.Qw) w -> w.cell? ⟨W.heap.size, 0, none⟩ = some (.slice A LL.length c)) := Hi (fun w mb h => (cOh (h.below.block _ hP.lt.2) 0).trans ((cOh (hR.below.block _ hP.lt.2) 0).symm.trans q1)); clear hP hR hO hl jT HS; go_upto_region 37 with fail; go_region_held3 (fun w' => w'.cell? ⟨W.heap.size, 0, none⟩ = some (.slice A LL.length c)) (go_keep) ((first | (go_at_call 34; (with_reducible refine (qcm _ (HT.out.below kI.out.drew.sp.below)).mono ?_); rintro e w2 ⟨mb, rfl, hk, hm, hb⟩; have gA := kI.out.drew.set hb hk hm; have q2 := (HL.out w2 gA.a).1; have lC := Hi gA; clear hk hm hb gA) | (go_at_call 36; (with_reducible refine (Fj _ A LL c (HL.out _ lC.out.a).2 hc oH.out HJ.out (by omega)).mono ?_); rintro e w3 ⟨rfl, hb⟩; have gA := lC.out.grow hb; have q3 := (HL.out w3 gA.a).1; have gC := Hi gA; clear hb gA) | (go_at_call 35; (with_reducible refine (Pm _ rb kb q prS 5 _ _ qju gC.out.rblk gC.out.keys kI.out.rep.ne _ HJ.out).mono ?_); rintro e w4 ⟨rfl, he⟩; have kC := gC.out.repl he; have q4 := oJ.out w4 _ kC; have iT := Hi kC; clear he kC) | (go_at_call 33; (with_reducible refine (iT.out.text _ HN.out (by omega)).mono ?_); rintro e w5 ⟨rfl, hb⟩; have q5 := (hb.cell (p := ⟨W.heap.size, 0, none⟩) iT.out.sp.lt.2).trans q4; have oN := Hi hb; clear hb)))
 go_wp2_with fail; exact HE.out _ _ _ _ _ _ _ _ _ _ _ _ _ _ _ _ _ _ _ _ _ _ _ _ _ _ _ _ _ (iT.out.sp.below.trans (oN.out.mono iT.out.sp.below.size))
end
set_option maxRecDepth 100000
set_option maxHeartbeats 16000000
section
open Go.RowKit
attribute [local go_sem ↓] Go.wp_at_zero Go.wp_at_succ
@[local go_sem ↓ high] theorem qdh (a : Addr) : loadVar 30 a = Ml a := by rw [Ml]
theorem Te {r : Nat} (h : 1 <= r /\ r <= 4) : ∃ s : Qa, So.Rz.getD (r - 1) [] = s /\ ∀ w, (Instr.index 54 (.agg #[vs [], vs [99, 104, 97, 114, 116, 101, 114], vs [115, 116, 97, 116, 117, 116, 101], vs [111, 114, 100, 101, 114], vs [114, 117, 108, 101]]) (.int .i64 (r : Int))).run Tryz.prog w = .ok (vs s) w := by
 have : r = 1 \/ r = 2 \/ r = 3 \/ r = 4 := by omega
 rcases this with rfl | rfl | rfl | rfl <;> exact ⟨_, rfl, fun _ => by kernel_rfl⟩
theorem qhp {p : Qf} (bD : Y8 p) (hf : qau p) : (So.wP p).length <= 10000 := by
 have a1 := So.Wf p.beg; have a2 := So.Wf p.fin; have a3 := So.Wf p.aga; have a4 := So.Pg p.cond; have a6 := bD.excL; have := hf.cond; have := hf.beg; have := hf.fin; have := hf.aga; have b1 := X5 (p.cond.op != 1) So.Ut (So.brW (So.wF p.cond)); have b2 := X5 (p.beg.op != 1) So.Xs (So.brW (So.wS p.beg)); have b3 := X5 (p.fin.op != 2) So.Vp (So.brW (So.wS p.fin)); have b4 := X5 (p.aga.op != 2) So.Iq (So.brW (So.wS p.aga)); rw [C5] at b1 b2 b3 b4; have b5 : (So.Wi p).length <= 4 := by unfold So.Wi; split <;> simp
 have b6 : (So.Kw p.exc).length <= p.exc.length + 3 := by unfold So.Kw; split <;> simp
 unfold So.wP So.Wt So.Ws So.Uc So.Ub So.C1; simp only [List.length_append, List.length_cons, List.length_nil]; omega
theorem qck {p : Qf} {rw1 : Qa} {kw fw fn L3 N3 L4 N4 L5 N5 : List Qa} (bD : Y8 p) (hf : qau p) (h1 : So.Rz.getD (p.rank - 1) [] = rw1) (h2 : (if p.kind = 1 then [[116, 101, 114, 109], p.name] else [[113, 117, 101, 115, 116, 105, 111, 110], p.name, [103, 105, 118, 101, 115], dec p.value]) = kw)
 (h3 : (p.cond.op = 1 -> fw = [] /\ fn = []) /\ (p.cond.op ≠ 1 -> fw = So.Ut :: So.brW (So.wF p.cond) /\ fn = Ql p.cond)) (h4 : fw ++ kw = L3) (h5 : fn ++ [p.name] = N3) (h6 : L3 ++ So.Kw p.exc = L4) (h7 : N3 ++ p.exc = N4)
 (h8 : L4 ++ (Qr (p.beg.op != 1) So.Xs (So.brW (So.wS p.beg)) ++ Qr (p.fin.op != 2) So.Vp (So.brW (So.wS p.fin)) ++ Qr (p.aga.op != 2) So.Iq (So.brW (So.wS p.aga))) = L5) (h9 : N4 ++ (Qo p.beg ++ Qo p.fin ++ Qo p.aga) = N5) :
 L5 ++ [[91], rw1, p.id, [93]] = So.wP p /\ (∀ s ∈ N5 ++ [p.id], s.length <= 1000000) /\ (Ju (So.wP p)).length <= 1000000000 /\ L5.length <= 100000 /\ N5.length <= 100000 /\ Jq (Vc So.Qw) (N5 ++ [p.id]) (Jl [40, 91] [41, 93] (Ju (So.wP p))) = J0 (upP p) := by
 have hn : ∀ s, s ∈ N5 ++ [p.id] ↔ s ∈ Q7 p := by
  intro s; rw [<- h9, <- h7, <- h5]
  have : s ∈ fn ↔ s ∈ Ql p.cond := by
   by_cases aZ : p.cond.op = 1
   · rw [(h3.1 aZ).2, Mv bD.cond aZ]
   · rw [(h3.2 aZ).2]
  unfold Q7; simp only [List.mem_append, List.mem_cons, this, List.not_mem_nil, or_false]; constructor
  · rintro ((((h | h) | h) | ((h | h) | h)) | h) <;> simp [h]
  · rintro (h | h | h | h | h | h | h) <;> simp [h]
 have hl : L5 ++ [[91], rw1, p.id, [93]] = So.wP p := by
  rw [<- h8, <- h6, <- h4, <- h2, <- h1]; unfold So.wP So.Wt So.Ws So.Uc So.Ub So.C1 So.Wi
  have : fw = Qr (p.cond.op != 1) So.Ut (So.brW (So.wF p.cond)) := by
   by_cases aZ : p.cond.op = 1
   · rw [(h3.1 aZ).1, aZ]; rfl
   · rw [(h3.2 aZ).1]; unfold Qr; rw [if_pos (by simpa using aZ)]
  rw [this]; simp only [List.append_assoc, List.cons_append, List.nil_append]
 have mP : ∀ s ∈ Q7 p, Sh s := fun s hs => hf.names s hs; have hj := Mr (So.wP p) (So.sh_P bD mP); have hw := qhp bD hf; refine ⟨hl, fun s hs => by have := hf.names s ((hn s).1 hs); omega, by omega, ?_, ?_, ?_⟩
 · have : (So.wP p).length = L5.length + 4 := by rw [<- hl]; simp
   omega
 · have a1 := Z5 p.beg; have a2 := Z5 p.fin; have a3 := Z5 p.aga; have a4 := Um p.cond; have a5 := bD.excL; have := hf.cond; have := hf.beg; have := hf.fin; have := hf.aga
   have hK : fn.length <= 300 := by
    by_cases aZ : p.cond.op = 1
    · rw [(h3.1 aZ).2]; simp
    · rw [(h3.2 aZ).2]; omega
   rw [<- h9, <- h7, <- h5]; simp only [List.length_append, List.length_cons, List.length_nil]; omega
 · refine Dh bD (fun f => ?_); rw [Bool.eq_iff_iff, List.all_eq_true, List.all_eq_true]; exact ⟨fun h s hs => h s ((hn s).2 hs), fun h s hs => h s ((hn s).1 hs)⟩
theorem qcw (W0 w : World) (cs : List Value) (p : Qf) (hr : Wo W0 cs (upP p)) (hb : Below W0.heap.size W0 w) (ht : Xp W0) (bD : Y8 p) (hf : qau p) (hE : ∀ wx, Below W0.heap.size W0 wx -> Calls Tryz.prog 26 #[.agg cs.toArray] wx fun e w' => e = .returned (.bool true) /\ Below wx.heap.size wx w') :
 Calls Tryz.prog 14 #[.agg cs.toArray] w fun e w' => e = .returned (.tuple #[vs (J0 (upP p)).1, .int .i64 ((J0 (upP p)).2 : Nat)]) /\ Below w.heap.size w w' := by
 obtain ⟨id, rank, kind, name, value, cond, exc, beg, fin, aga⟩ := p; obtain ⟨cc, A, cap, cb, cf, ca, kW, kB, iH, jZ, iI, iG, iJ⟩ := hr; simp only [upP] at kW kB iH jZ iI iG iJ; have RC := Hi iH; have RB := Hi iI; have RD := Hi iG; have RG := Hi iJ; obtain ⟨oC, nC, dC, mC, ksC⟩ := cond; rw [up] at iH; obtain ⟨KC, qC, rfl, -⟩ := iH; obtain ⟨oB, nB, dB, mB, ksB⟩ := beg; rw [up] at iI; obtain ⟨KB, qB, rfl, -⟩ := iI; obtain ⟨oD, nD, dD, mD, ksD⟩ := fin; rw [up] at iG; obtain ⟨KD, qD, rfl, -⟩ := iG; obtain ⟨oG, nG, dG, mG, ksG⟩ := aga; rw [up] at iJ; obtain ⟨KG, qG, rfl, -⟩ := iJ; subst kW; obtain ⟨rw1, fY, gF⟩ := Te bD.rank; simp only at fY gF; have fU := bD.kind; have hG := bD.value; have fT := bD.rank; simp only at fU hG fT; obtain ⟨kw, jX⟩ : ∃ kw, (if kind = 1 then [[116, 101, 114, 109], name] else [[113, 117, 101, 115, 116, 105, 111, 110], name, [103, 105, 118, 101, 115], dec value]) = kw := ⟨_, rfl⟩
 have jW := bD.excL; have mZ : (So.wF (.mk oC nC dC mC ksC)).length <= 2000 := by have h1 := So.Pg (.mk oC nC dC mC ksC); have h2 := hf.cond; simp only at h2; omega
 have hJ : (Ql (.mk oC nC dC mC ksC)).length <= 300 := by have h1 := Um (.mk oC nC dC mC ksC); have h2 := hf.cond; simp only at h2; omega
 have qH : kw.length <= 4 := by rw [<- jX]; split <;> simp
 have lE := Hi jX; obtain ⟨fw, iF⟩ : ∃ fw, Qr (oC != 1) So.Ut (So.brW (So.wF (.mk oC nC dC mC ksC))) = fw := ⟨_, rfl⟩
 obtain ⟨fn, hK⟩ : ∃ fn, Ql (.mk oC nC dC mC ksC) = fn := ⟨_, rfl⟩
 have kJ : Hid (Jn (.mk oC nC dC mC ksC) = true /\ (Qb.mk oC nC dC mC ksC).size <= 1000) := Hi ⟨bD.cond, by have := hf.cond; simp only at this; omega⟩
 have kK : Hid ((oC = 1 -> fw = [] /\ fn = []) /\ (oC ≠ 1 -> fw = So.Ut :: So.brW (So.wF (.mk oC nC dC mC ksC)) /\ fn = Ql (.mk oC nC dC mC ksC))) := Hi (by
  refine ⟨fun e => ?_, fun e => ⟨?_, hK.symm⟩⟩
  · subst e; have h1 := kJ.out.1; rw [Jn] at h1; simp only [Bool.and_eq_true] at h1; have h2 : ksC = [] := by simpa using h1.1.2
    subst h2; exact ⟨by rw [<- iF]; rfl, by rw [<- hK]; simp [Ql, Qy]⟩
  · rw [<- iF]; unfold Qr; rw [if_pos (by simpa using e)])
 have qJ : fw.length <= 2003 := by rw [<- iF]; unfold Qr So.brW; split <;> simp; omega
 have kU : fn.length <= 300 := by rw [<- hK]; exact hJ
 clear jX iF hK hJ jW; have HF := Hi hf; have hV := Hi bD; have HT := Hi ht; have HB := Hi hb; have oM := Hi jZ; have nV := Hi fY; have iR := Hi hE; simp only [tcX, List.cons_append, List.nil_append] at iR ⊢; clear hf bD ht hb jZ fY hE; have hH := fun o : Unit => U2 (w.alloc (.cells #[vs id, .int .i64 rank, .int .i64 kind, vs name, .int .i64 value, .int .i64 oC, vs nC, .int .i64 dC, .int .i64 mC, .slice KC (ups ksC).length qC, .slice A exc.length cap, .int .i64 oB, vs nB, .int .i64 mB, .slice KB (ups ksB).length qB, .int .i64 oD, vs nD, .int .i64 mD, .slice KD (ups ksD).length qD, .int .i64 oG, vs nG, .int .i64 mG, .slice KG (ups ksG).length qG] 30)) w.heap.size _ (heap_alloc_new w _) rfl; have hH := hH (); go_enter Tryz.func14, Tryz.ntmps14
 go_wp2_with fail; refine (iR.out _ (HB.out.trans ((Jp w _).mono HB.out.size))).mono ?_; rintro e W ⟨rfl, gB⟩; have gG : W.heap[w.heap.size]? = some (.cells #[vs id, .int .i64 rank, .int .i64 kind, vs name, .int .i64 value, .int .i64 oC, vs nC, .int .i64 dC, .int .i64 mC, .slice KC (ups ksC).length qC, .slice A exc.length cap, .int .i64 oB, vs nB, .int .i64 mB, .slice KB (ups ksB).length qB, .int .i64 oD, vs nD, .int .i64 mD, .slice KD (ups ksD).length qD, .int .i64 oG, vs nG, .int .i64 mG, .slice KG (ups ksG).length qG] 30 (0, 0)) := (gB.block _ (by simp)).trans (heap_alloc_new w _); have kN : Hid (Below w.heap.size w W) := Hi ((Jp w _).trans (gB.mono (by simp))); have jS := lHp gG; obtain ⟨pb, jV⟩ : ∃ pb, w.heap.size = pb := ⟨_, rfl⟩
 have fX : Hid (Below W0.heap.size W0 W) := Hi ((HB.out.trans ((Jp w _).mono HB.out.size)).trans (gB.mono (by have := HB.out.size; simp; omega))); have iS : Hid (Xp W) := Hi (HT.out.below fX.out); have nY : Hid (RdX true W [.int .i64 oC, vs nC, .int .i64 dC, .int .i64 mC, .slice KC (ups ksC).length qC] (up (.mk oC nC dC mC ksC))) := Hi (RC.out.keep fX.out); have nZ : Hid (RdX false W [.int .i64 oB, vs nB, .int .i64 mB, .slice KB (ups ksB).length qB] (up (.mk oB nB dB mB ksB))) := Hi (RB.out.keep fX.out); have nX : Hid (RdX false W [.int .i64 oD, vs nD, .int .i64 mD, .slice KD (ups ksD).length qD] (up (.mk oD nD dD mD ksD))) := Hi (RD.out.keep fX.out); have nW : Hid (RdX false W [.int .i64 oG, vs nG, .int .i64 mG, .slice KG (ups ksG).length qG] (up (.mk oG nG dG mG ksG))) := Hi (RG.out.keep fX.out); rw [jV] at kN jS gG ⊢
 have dK : Hid (∀ wx, Below W.heap.size W wx -> wx.cell? ⟨pb, 0, none⟩ = some (vs id) /\ wx.cell? ⟨pb, 1, none⟩ = some (.int .i64 rank) /\ wx.cell? ⟨pb, 2, none⟩ = some (.int .i64 kind) /\ wx.cell? ⟨pb, 3, none⟩ = some (vs name) /\ wx.cell? ⟨pb, 4, none⟩ = some (.int .i64 value) /\ wx.cell? ⟨pb, 5, none⟩ = some (.int .i64 oC) /\ wx.cell? ⟨pb, 6, none⟩ = some (vs nC) /\ wx.cell? ⟨pb, 7, none⟩ = some (.int .i64 dC) /\ wx.cell? ⟨pb, 8, none⟩ = some (.int .i64 mC) /\ wx.cell? ⟨pb, 9, none⟩ = some (.slice KC (ups ksC).length qC) /\ wx.cell? ⟨pb, 10, none⟩ = some (.slice A exc.length cap) /\ pb < wx.heap.size) := Hi (fun wx hx => by
  have hq := (hx.block pb jS).trans gG; exact ⟨cOb (o := 0) hq rfl, cOb (o := 1) hq rfl, cOb (o := 2) hq rfl, cOb (o := 3) hq rfl, cOb (o := 4) hq rfl, cOb (o := 5) hq rfl, cOb (o := 6) hq rfl, cOb (o := 7) hq rfl, cOb (o := 8) hq rfl, cOb (o := 9) hq rfl, cOb (o := 10) hq rfl, lHp hq⟩)
 have lF : Hid (∀ wx, Below W.heap.size W wx -> wx.cell? ⟨pb, 11, none⟩ = some (.int .i64 oB) /\ wx.cell? ⟨pb, 12, none⟩ = some (vs nB) /\ wx.cell? ⟨pb, 13, none⟩ = some (.int .i64 mB) /\ wx.cell? ⟨pb, 14, none⟩ = some (.slice KB (ups ksB).length qB) /\ wx.cell? ⟨pb, 15, none⟩ = some (.int .i64 oD) /\ wx.cell? ⟨pb, 16, none⟩ = some (vs nD) /\ wx.cell? ⟨pb, 17, none⟩ = some (.int .i64 mD) /\ wx.cell? ⟨pb, 18, none⟩ = some (.slice KD (ups ksD).length qD) /\ wx.cell? ⟨pb, 19, none⟩ = some (.int .i64 oG) /\ wx.cell? ⟨pb, 20, none⟩ = some (vs nG) /\ wx.cell? ⟨pb, 21, none⟩ = some (.int .i64 mG) /\ wx.cell? ⟨pb, 22, none⟩ = some (.slice KG (ups ksG).length qG) /\ pb < wx.heap.size) := Hi (fun wx hx => by
  have hq := (hx.block pb jS).trans gG; exact ⟨cOb (o := 11) hq rfl, cOb (o := 12) hq rfl, cOb (o := 13) hq rfl, cOb (o := 14) hq rfl, cOb (o := 15) hq rfl, cOb (o := 16) hq rfl, cOb (o := 17) hq rfl, cOb (o := 18) hq rfl, cOb (o := 19) hq rfl, cOb (o := 20) hq rfl, cOb (o := 21) hq rfl, cOb (o := 22) hq rfl, lHp hq⟩)
 have qN := Hi gG; have lG := Hi jV; clear gG gB hH jV; go_upto_region 3 with fail; go_cut [1, 4] from 0 (fun s1 s4 wc => s1 = .pointer (some ⟨pb, 0, none⟩) /\ s4 = .pointer (some ⟨W.heap.size, 0, none⟩) /\ St W wc W.heap.size 74 [] [])
 case first =>
  go_wp2_with fail; go_meet
  case rel => exact ⟨rfl, rfl, St.start W _⟩
 case rest =>
  obtain ⟨rfl, rfl, hS⟩ := hcut; have HS := Hi hS; obtain ⟨c0, c1, c2, c3, c4, c5, c6, c7, c8, c9, bC, cl⟩ := dK.out _ hS.below; clear hS; go_upto_if 17 with fail; go_cut [1, 4] from 0 (fun s1 s4 wc => s1 = .pointer (some ⟨pb, 0, none⟩) /\ s4 = .pointer (some ⟨W.heap.size, 0, none⟩) /\ St W wc W.heap.size 74 fw fn)
  case first =>
   by_cases aZ : oC = 1
   · subst aZ; go_wp2_with fail; go_meet
     case rel => exact ⟨rfl, rfl, by have h1 := (kK.out.1 (by first | rfl | trivial)); rw [h1.1, h1.2]; exact HS.out⟩
   · have h1 := kK.out.2 aZ; have H1 := Hi h1; have fZ : ¬ ((oC : Int) = 1) := (by omega)
     clear h1; go_wp2_with fail
     (refine (B3 W _ _ _ _ _ _ _ _ (by simp) HS.out (by first | omega | (simp; omega) | simp)).mono ?_; rintro e w9 ⟨rfl, hS⟩; clear c0 c1 c2 c3 c4 c5 c6 c7 c8 c9 bC cl; obtain ⟨c0, c1, c2, c3, c4, c5, c6, c7, c8, c9, bC, cl⟩ := dK.out _ hS.below; have bA := Hi hS; clear HS hS; have HS := bA; clear bA)
     go_wp2_with fail
     (refine (qh0 W _ iS.out _ _ _ _ _ _ kJ.out.1 kJ.out.2 (by first | omega | (simp; omega) | simp) (by simp) nY.out HS.out).mono ?_; rintro e w9 ⟨rfl, hS⟩; clear c0 c1 c2 c3 c4 c5 c6 c7 c8 c9 bC cl; obtain ⟨c0, c1, c2, c3, c4, c5, c6, c7, c8, c9, bC, cl⟩ := dK.out _ hS.below; have bA := Hi hS; clear HS hS; have HS := bA; clear bA)
     go_wp2_with fail
     (refine (Ww W _ _ _ _ _ _ _ (by simp) HS.out (by first | omega | (simp; omega))).mono ?_; rintro e w9 ⟨rfl, hS⟩; clear c0 c1 c2 c3 c4 c5 c6 c7 c8 c9 bC cl; obtain ⟨c0, c1, c2, c3, c4, c5, c6, c7, c8, c9, bC, cl⟩ := dK.out _ hS.below; have bA := Hi hS; clear HS hS; have HS := bA; clear bA)
     go_wp2_with fail; go_meet
     case rel => exact ⟨rfl, rfl, by rw [H1.out.1, H1.out.2]; have := HS.out; unfold So.brW; simpa using this⟩
  case rest =>
   obtain ⟨rfl, rfl, hS⟩ := hcut; have HS := Hi hS; obtain ⟨c0, c1, c2, c3, c4, c5, c6, c7, c8, c9, bC, cl⟩ := dK.out _ hS.below; clear hS; go_upto_if 29 with fail; go_cut [1, 4] from 0 (fun s1 s4 wc => s1 = .pointer (some ⟨pb, 0, none⟩) /\ s4 = .pointer (some ⟨W.heap.size, 0, none⟩) /\ St W wc W.heap.size 74 (fw ++ kw) (fn ++ [name]))
   case first =>
    rcases fU with ⟨rfl, rfl⟩ | rfl
    all_goals
     go_wp2_with (first | (go_at_call 27; refine (Ww W _ _ _ _ _ _ _ (by simp) HS.out (by first | omega | (simp; omega))).mono ?_; rintro e w9 ⟨rfl, hS⟩; clear c0 c1 c2 c3 c4 c5 c6 c7 c8 c9 bC cl; obtain ⟨c0, c1, c2, c3, c4, c5, c6, c7, c8, c9, bC, cl⟩ := dK.out _ hS.below; have bA := Hi hS; clear HS hS; have HS := bA; clear bA) | (go_at_call 28; refine (G5 W _ _ _ _ _ _ HS.out (by first | omega | (simp; omega)) (by first | omega | (simp; omega))).mono ?_; rintro e w9 ⟨rfl, hS⟩; clear c0 c1 c2 c3 c4 c5 c6 c7 c8 c9 bC cl; obtain ⟨c0, c1, c2, c3, c4, c5, c6, c7, c8, c9, bC, cl⟩ := dK.out _ hS.below; have bA := Hi hS; clear HS hS; have HS := bA; clear bA) | (go_at_call 45; refine (qj7 W _ _ _ _ _ _ _ HS.out hG (by first | omega | (simp; omega)) iS.out).mono ?_; rintro e w9 ⟨rfl, hS⟩; clear c0 c1 c2 c3 c4 c5 c6 c7 c8 c9 bC cl; obtain ⟨c0, c1, c2, c3, c4, c5, c6, c7, c8, c9, bC, cl⟩ := dK.out _ hS.below; have bA := Hi hS; clear HS hS; have HS := bA; clear bA))
     go_meet
     case rel => exact ⟨rfl, rfl, by rw [<- lE.out]; have := HS.out; simpa using this⟩
   case rest =>
    obtain ⟨rfl, rfl, hS⟩ := hcut; obtain ⟨L3, iQ⟩ : ∃ L3, fw ++ kw = L3 := ⟨_, rfl⟩
    obtain ⟨N3, iM⟩ : ∃ N3, fn ++ [name] = N3 := ⟨_, rfl⟩
    have kH : L3.length <= 2900 := by rw [<- iQ]; simp; omega
    have hQ : N3.length <= 1000 := by rw [<- iM]; simp; omega
    rw [iQ, iM] at hS; have oL := Hi iQ; have oE := Hi iM; have HS := Hi hS; obtain ⟨c0, c1, c2, c3, c4, c5, c6, c7, c8, c9, bC, cl⟩ := dK.out _ hS.below; clear hS iQ iM; have hM : exc.length <= 20 := hV.out.excL; go_upto_if 50 with fail; go_cut [1, 4] from 0 (fun s1 s4 wc => s1 = .pointer (some ⟨pb, 0, none⟩) /\ s4 = .pointer (some ⟨W.heap.size, 0, none⟩) /\ St W wc W.heap.size 74 (L3 ++ So.Kw exc) (N3 ++ exc))
    case first =>
     by_cases fQ : exc = []
     · subst fQ; go_wp2_with fail; go_meet
       case rel => exact ⟨rfl, rfl, by rw [show So.Kw [] = [] from rfl, List.append_nil, List.append_nil]; exact HS.out⟩
     · have qK : (0 : Int) < (exc.length : Int) := by have := List.length_pos_iff.2 fQ; omega
       have kL := Hi fQ; clear fQ; go_wp2_with fail
       (refine (B3 W _ _ _ _ _ _ _ _ (by simp) HS.out (by first | omega | (simp; omega) | simp)).mono ?_; rintro e w9 ⟨rfl, hS⟩; clear c0 c1 c2 c3 c4 c5 c6 c7 c8 c9 bC cl; obtain ⟨c0, c1, c2, c3, c4, c5, c6, c7, c8, c9, bC, cl⟩ := dK.out _ hS.below; have bA := Hi hS; clear HS hS; have HS := bA; clear bA)
       go_wp2_with fail; refine qjn _ W _ pb _ N3 A exc cap (oM.out.below fX.out) hM (by simp; omega) hQ HS.out _ _ _ _ _ _ _ _ _ _ _ _ _ _ _ _ _ _ _ _ _ _ _ _ _ _ _ _ _ _ _ _ _ _ _ _ _ _ _ _ _ _ _ _ _ _ _ _ _ _ _ _ _ _ _ _ _ _ _ _ _ _ _ _ _ _ _ _ _ _ _ _ _ _ _ _ _ _ _ _ _ _ _ _ _ _ _ _ _ _ _ _ _ _ _ _ _ _ _ _ _ _ _ _ _ _ _ _ _ _ _ _ _ _ _ _ _ _ _ ?_; intro x6 pW pV pU pT pS pR pQ wx hS; clear c0 c1 c2 c3 c4 c5 c6 c7 c8 c9 bC cl HS; have HS := Hi hS; obtain ⟨c0, c1, c2, c3, c4, c5, c6, c7, c8, c9, bC, cl⟩ := dK.out _ hS.below; clear hS; dsimp only; go_wp2_with fail; refine (Ww W _ _ _ _ _ _ _ (by simp) HS.out (by simp; omega)).mono ?_; rintro e w9 ⟨rfl, hS⟩; have bA := Hi hS; clear hS c0 c1 c2 c3 c4 c5 c6 c7 c8 c9 bC cl; go_wp2_with fail; go_meet
       case rel => exact ⟨rfl, rfl, by have := bA.out; unfold So.Kw; rw [if_neg kL.out]; simpa using this⟩
    case rest =>
     obtain ⟨rfl, rfl, hS⟩ := hcut; have kO : (So.Kw exc).length <= exc.length + 3 := by unfold So.Kw; split <;> simp
     obtain ⟨L4, iP⟩ : ∃ L4, L3 ++ So.Kw exc = L4 := ⟨_, rfl⟩
     obtain ⟨N4, iL⟩ : ∃ N4, N3 ++ exc = N4 := ⟨_, rfl⟩
     have nF : L4.length <= 4000 := by rw [<- iP, List.length_append]; omega
     have kF : N4.length <= 2000 := by rw [<- iL, List.length_append]; omega
     rw [iP, iL] at hS; clear c0 c1 c2 c3 c4 c5 c6 c7 c8 c9 bC cl HS; have HS := Hi hS; obtain ⟨nS, nR, nQ, nP, nO, nN, nM, nL, nK, nJ, nI, nH, cm⟩ := lF.out _ hS.below; have oK := Hi iP; have oA := Hi iL; clear hS iP iL kO hM kH hQ; go_wp2_with fail; have hZ := HF.out; refine qjm _ W _ pb L4 N4 oB nB dB mB KB ksB qB oD nD dD mD KD ksD qD oG nG dG mG KG ksG qG _ (fun _ => by kernel_rfl) (fun _ => by kernel_rfl) (fun _ => by kernel_rfl) iS.out nZ.out hV.out.beg hZ.beg nX.out hV.out.fin hZ.fin nW.out hV.out.aga hZ.aga (by omega) kF HS.out _ _ _ _ _ _ _ _ _ _ _ _ _ _ _ _ _ _ _ _ _ _ _ _ _ _ _ _ _ _ _ _ _ _ _ _ _ _ _ _ _ _ _ _ _ _ _ _ _ _ _ _ _ _ _ _ _ _ _ _ _ _ _ _ _ _ _ _ _ _ _ _ _ _ _ _ _ _ _ _ _ _ _ _ _ _ _ _ _ _ _ _ _ _ _ _ _ _ _ _ _ _ _ _ _ _ _ _ _ _ _ _ _ _ _ _ _ _ _ _ ?_; intro y7 y8 y9 pP pO pN pM pL pK pJ pI pH pF pE pC pA oZ oY oX oW oV oU oT oS wy hS; obtain ⟨L5, kG⟩ : ∃ L5, L4 ++ (Qr (oB != 1) So.Xs (So.brW (So.wS (.mk oB nB dB mB ksB))) ++ Qr (oD != 2) So.Vp (So.brW (So.wS (.mk oD nD dD mD ksD))) ++ Qr (oG != 2) So.Iq (So.brW (So.wS (.mk oG nG dG mG ksG)))) = L5 := ⟨_, rfl⟩
     obtain ⟨N5, kE⟩ : ∃ N5, N4 ++ (Qo (.mk oB nB dB mB ksB) ++ Qo (.mk oD nD dD mD ksD) ++ Qo (.mk oG nG dG mG ksG)) = N5 := ⟨_, rfl⟩
     rw [kG, kE] at hS; have nU := Hi hS; have kM := Hi (qck (p := ⟨id, rank, kind, name, value, .mk oC nC dC mC ksC, exc, .mk oB nB dB mB ksB, .mk oD nD dD mD ksD, .mk oG nG dG mG ksG⟩) (rw1 := rw1) (kw := kw) (fw := fw) (fn := fn) hV.out HF.out nV.out lE.out kK.out oL.out oE.out oK.out oA.out kG kE); clear hS kG kE HS nS nR nQ nP nO nN nM nL nK nJ nI nH cm; dsimp only; simp only [Exit.inBlock, Exit.then, if_true]; refine (by assumption : ∀ (a : Act) (w : World), Code.wp Tryz.prog qi2 _ a w -> _) _ _ ?_; obtain ⟨e1, e2, e3, e4, e5, e6⟩ := kM.out; refine send _ W _ L5 N5 iS.out e4 e5 _ rank id rw1 pb fT gF (fun wx hx => ⟨(dK.out wx hx).1, (dK.out wx hx).2.1, (lF.out wx hx).2.2.2.2.2.2.2.2.2.2.2.2⟩) e1 e2 e3 nU.out _ _ _ _ _ _ _ _ _ _ _ _ _ _ _ _ _ _ _ _ _ _ _ _ _ _ _ _ _ _ _ _ _ _ _ _ _ _ _ _ _ _ _ _ _ _ _ _ _ _ _ _ _ _ _ _ _ _ _ _ _ _ _ _ _ _ _ _ _ _ _ _ _ _ _ _ _ _ _ _ _ _ _ _ _ _ _ _ _ _ _ _ _ _ _ _ _ _ _ _ _ _ _ _ _ _ _ _ _ _ _ _ _ _ _ _ _ _ _ _ _ _ ?_; intro oR oQ oP oO mJ mI mH mF mE mA lZ lY lX lW lV lU lT lS lQ lP lO lN lM lL lK lJ lI lH wz hz; dsimp only; refine bodyPost_ret (v := .tuple #[vs (Jq (Vc So.Qw) (N5 ++ [id]) (Jl [40, 91] [41, 93] (Ju _))).1, .int .i64 ((Jq (Vc So.Qw) (N5 ++ [id]) (Jl [40, 91] [41, 93] (Ju _))).2 : Nat)]) (by simp [results, Tryz.results14, go_sem]; exact ⟨rfl, rfl⟩) rfl ⟨by rw [e6], ?_⟩; rw [lG.out]; exact kN.out.trans (hz.mono (by rw [<- lG.out]; exact kN.out.size))
theorem qcx (W0 w : World) (C : Array Value) (hr : C.size = 23) (hb : Below W0.heap.size W0 w) (hE : ∀ wx, Below W0.heap.size W0 wx -> Calls Tryz.prog 26 #[.agg C] wx fun e w' => e = .returned (.bool false) /\ Below wx.heap.size wx w') :
 Calls Tryz.prog 14 #[.agg C] w fun e w' => e = .returned (.tuple #[vs [], .int .i64 1]) /\ Below w.heap.size w w' := by
 have hH := U2 (w.alloc (.cells C 30)) w.heap.size C (heap_alloc_new w _) hr; have iR := Hi hE; have HB := Hi hb; clear hr hE hb; go_enter Tryz.func14, Tryz.ntmps14
 go_wp2_with fail; refine (iR.out _ (HB.out.trans ((Jp w _).mono HB.out.size))).mono ?_; rintro e W ⟨rfl, gB⟩; have fX := Hi gB; clear gB hH; go_wp2_with fail; exact bodyPost_ret (v := .tuple #[vs [], .int .i64 1]) (by simp [results, Tryz.results14, go_sem]) rfl ⟨rfl, (Jp w _).trans (fX.out.mono (by simp))⟩
theorem Hs (W w : World) (cs : List Value) (P : Zt) (hr : Wo W cs P) (hb : Below W.heap.size W w) (ht : Xp W) (hp : Y2 P) (hf : qat P) :
 Calls Tryz.prog 14 #[.agg cs.toArray] w fun e w' => e = .returned (.tuple #[vs (J0 P).1, .int .i64 ((J0 P).2 : Nat)]) /\ Below w.heap.size w w' := by
 have hw := fun wx hx => De W wx cs P hr hx (by have := hf.cond; omega) (fun t h => by
  simp only [List.mem_cons, List.not_mem_nil, or_false] at h; have := hf.beg; have := hf.fin; have := hf.aga; rcases h with rfl | rfl | rfl <;> omega) (by have := hf.exc; omega) (fun s hs => by have := hf.names s (by unfold Mf; simp [hs]); omega)
 cases he : Zw P with
 | true =>
   obtain ⟨e, bD⟩ := Vs hp he; have := qcw W w cs (Xh P) (by rw [<- e]; exact hr) hb ht bD (hf.down e) (fun wx hx => by rw [<- he]; exact hw wx hx); rw [<- e] at this; exact this
 | false =>
   rw [(C8 he).2]; exact qcx W w _ (by rw [List.size_toArray]; exact hr.len) hb (fun wx hx => by rw [<- he]; exact hw wx hx)
