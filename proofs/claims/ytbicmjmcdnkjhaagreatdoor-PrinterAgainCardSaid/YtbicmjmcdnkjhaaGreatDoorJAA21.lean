/- except: the names of provisions. -/
import Derived.Test.YtbicmjmcdnkjhaaGreatDoorJAA20
set_option linter.unusedVariables false
set_option linter.unusedSimpArgs false
set_option maxRecDepth 20000
set_option maxHeartbeats 4000000
namespace Go.Proofs.YtbicmjmcdnkjhaaGreatDoor
section
namespace So
open Go.RowKit
theorem _root_.Go.Proofs.YtbicmjmcdnkjhaaGreatDoor.Xn.below {w w' : World} {base : Nat} {v : Value} {l : List (List UInt8)} (h : Xn w base v l) (hb : Below w.heap.size w w') : Xn w' base v l := h.keep (fun b _ bJ => hb.block b bJ)
theorem Qi {p fin : Nat} {ts l : List Tok} {w : World} (h : PS w p fin ts l) (o : Obj) : PS (w.alloc o) p fin ts l := h.below ((Below.refl _ _).alloc (lR _) _)
def exI (k : Nat) (acc : List (List UInt8)) (r : List Tok) : R (List (List UInt8)) := if acc.length = 0 then Ql k acc r else isF [41] r (fun r => .ok (acc, r)) fun r => Ql k acc r
def Iy : Value -> Nat | .slice _ n _ => n | _ => 0
theorem Kz (n : Nat) (out : List (List UInt8)) (l : List Tok) : Ql (n + 1) out l = Qc (Jb l) fun s r => Js l (Xv out s) (exI n (out ++ [s]) r) := by
 rw [Ql]
 congr
 funext s r
 unfold exI; rw [if_neg (by simp)]
theorem G8 (p fin : Nat) (ts l : List Tok) (w : World) (hp : PS w p fin ts l) :
 Calls Tryz.prog 93 #[.pointer (some ⟨p, 0, none⟩)] w (Wp p fin ts w (Kx l) (StrV w)) := by
 have HP := Hi hp; have bU := hp.lt; clear hp; go_enter Tryz.func93, Tryz.ntmps93
 go_wp2_with fail; have cK := Xk [40] p fin ts l _ HP.out; cases hq : Q3 [40] l with
 | error x =>
   obtain ⟨c, s⟩ := x; rw [hq] at cK; have aJ : Hid (Kx l = .error (c, s)) := Hi (by unfold Kx; rw [hq]; rfl); refine cK.mono ?_; rintro e w2 ⟨rfl, he⟩; have bT := Hi he; clear cK hq he; go_wp2_with fail; refine ⟨rfl, ?_⟩; rw [aJ.out]; exact ⟨rfl, bT.out⟩
 | ok x =>
   obtain ⟨u, r0⟩ := x; rw [hq] at cK; have HL : Hid (Kx l = Ql 22 [] r0) := Hi (by unfold Kx; rw [hq]; rfl); refine cK.mono ?_; rintro e w2 ⟨vv, rfl, rfl, cS, dA⟩; have eU := Hi cS; have fC := Hi dA; clear cK hq cS dA; go_wp2_with fail; go_loopw [3] (fun v wr => ∃ (k : Nat) (acc : List (List UInt8)) (r : List Tok), acc.length + k = 22 /\ acc.length <= 20 /\ Ql 22 [] r0 = exI k acc r /\ PS wr p fin ts r /\ Eff p w wr /\ Xn wr w.heap.size v acc) (fun v _ => 22 - Iy v)
   case atStart => exact ⟨22, [], r0, rfl, by simp, rfl, eU.out, fC.out, Xn.nil⟩
   case round =>
    obtain ⟨k, acc, r, hk, gT, bM, eD, dV, bK⟩ := hrel; obtain ⟨A, cap, rfl, dF, aS, hA⟩ := bK.form; have aW := Hi bK; have bR := Hi eD; have bW := Hi dV; have gL := dV.size
    by_cases h0 : acc.length = 0
    · have i1 : ((acc.length : Int) == 0) = true := by simp [h0]
      have bS : Hid (Ql 22 [] r0 = Ql k acc r) := Hi (by rw [bM, exI, if_pos h0]); clear bK aS bM eD dV hA HP h0 eU fC; obtain ⟨k', rfl⟩ : ∃ k', k = k' + 1 := ⟨k - 1, by omega⟩
      go_wp2_with fail; rcases Yd r with ⟨t, r2, rfl, bA, bL⟩ | ⟨bA, bL⟩
      case inr =>
       have aJ : Hid (Kx l = .error (Z1 r, r)) := Hi (by rw [HL.out, bS.out, Kz, bL]; rfl); refine (Rc p fin ts r _ bR.out bA).mono ?_; rintro e w5 ⟨rfl, dH⟩; have bT := Hi (bW.out.trans (Eff.of_below (p := p) dH)); clear dH; go_wp2_with fail; refine ⟨rfl, ?_⟩; rw [aJ.out]; exact ⟨rfl, bT.out⟩
      case inl =>
       have gE := Hi bA; have cH := Hi bL; refine (U1 p fin ts t r2 _ bR.out bA).mono ?_; rintro e w5 ⟨rfl, aL, aH⟩; have eT := Hi aL; have fB := Hi (bW.out.trans aH); have eX := Hi (aW.out.eff aH bU); simp only [Tok.agg]; clear aL aH bA bL; go_upto_region 5 with fail; have bH := Hi (fB.out.trans (Qd p w5 (X7 t))); have dN := Hi (Qi eT.out (X7 t)); have cF := Hi (eX.out.eff (Qd p w5 (X7 t)) bU); have HX := heap_alloc_new w5 (X7 t); generalize w5.alloc _ = w6 at bH dN cF HX ⊢; obtain ⟨A2, aE, hv, bD, aS, hA⟩ := cF.out.form; cases hv; have c0 := cOb (o := 0) HX rfl; have c1 := cOb (o := 1) HX rfl; have c2 := cOb (o := 2) HX rfl; have c3 := cOb (o := 3) HX rfl; have dl := lHp HX; have dK := Hi aS; have aP : Hid (RdS w6.drew A acc) := Hi aS; clear HX aS hA; cases hc : acc.contains t.text with
       | true =>
         have aJ : Hid (Kx l = .error (9, t :: r2)) := Hi (by rw [HL.out, bS.out, Kz, cH.out]; simp only [Qc, Xv, hc, if_true, Js]; rfl); have HC := Hi hc; clear hc; refine wp_region_any (by kernel_rfl) ?_; change wpAny _ _ _ _ _ _ _ (World.drew _)
         refine wpAny_take (i := 0) (v := ?_) rfl (by kernel_rfl) (by kernel_rfl) (by kernel_rfl) (fun _ _ _ h => h) (Or.inl ⟨by rfl, ?hy0_1⟩) ?rest0_1
         case hy0_1 =>
          intro w
          first | (go_simp; done) | (go_simp; rfl) | rfl
         refine wpAny_take (i := 1) (v := ?_) rfl (by kernel_rfl) (by kernel_rfl) (by kernel_rfl) (fun _ _ _ h => h) (Or.inl ⟨by rfl, ?hy1_1⟩) ?rest1_1
         case hy1_1 =>
          intro w
          first | (go_simp; done) | (go_simp; rfl) | rfl
         refine wpAny_ready (rs := [2, 4]) (by kernel_rfl) (by simp) ?_; refine AllReady.cons rfl (fun K hK => ?_) ?_
         · go_simp; refine hK _ _ ?_; clear hK K; refine wpAny_ready (rs := [3, 4]) (by kernel_rfl) (by simp) ?_; refine AllReady.cons rfl (fun K hK => ?_) ?_
           · go_simp; refine (J7 acc A cap t.text w6.drew aP.out (by omega)).mono ?_; rintro e w7 ⟨rfl, rfl⟩; rw [HC.out]; go_simp; refine hK _ _ ?_; clear hK K; refine wpAny_ready (rs := [4]) (by kernel_rfl) (by simp) ?_; refine AllReady.cons rfl (fun K hK => ?_) ?_
             · go_simp; refine hK _ _ ?_; clear hK K; refine wpAny_ready (rs := [5]) (by kernel_rfl) (by simp) ?_; refine AllReady.cons rfl (fun K hK => ?_) ?_
               · go_simp; refine (Zd 9 t _).mono ?_; rintro e w7 ⟨rfl, aA⟩; refine ⟨rfl, ?_⟩; rw [aJ.out]; exact ⟨rfl, bH.out.trans ((Eff.of_below (p := p) ((Below.refl w6.heap.size w6).drew)).trans (Eff.of_below (p := p) aA))⟩
               exact AllReady.nil
             exact AllReady.nil
           refine AllReady.cons rfl (fun K hK => ?_) ?_
           · go_simp; refine hK _ _ ?_; clear hK K; refine wpAny_ready (rs := [3]) (by kernel_rfl) (by simp) ?_; refine AllReady.cons rfl (fun K hK => ?_) ?_
             · go_simp; refine (J7 acc A cap t.text w6.drew aP.out (by omega)).mono ?_; rintro e w7 ⟨rfl, rfl⟩; rw [HC.out]; go_simp; refine hK _ _ ?_; clear hK K; refine wpAny_ready (rs := [5]) (by kernel_rfl) (by simp) ?_; refine AllReady.cons rfl (fun K hK => ?_) ?_
               · go_simp; refine (Zd 9 t _).mono ?_; rintro e w7 ⟨rfl, aA⟩; refine ⟨rfl, ?_⟩; rw [aJ.out]; exact ⟨rfl, bH.out.trans ((Eff.of_below (p := p) ((Below.refl w6.heap.size w6).drew)).trans (Eff.of_below (p := p) aA))⟩
               exact AllReady.nil
             exact AllReady.nil
           exact AllReady.nil
         refine AllReady.cons rfl (fun K hK => ?_) ?_
         · go_simp; refine hK _ _ ?_; clear hK K; refine wpAny_ready (rs := [2]) (by kernel_rfl) (by simp) ?_; refine AllReady.cons rfl (fun K hK => ?_) ?_
           · go_simp; refine hK _ _ ?_; clear hK K; refine wpAny_ready (rs := [3]) (by kernel_rfl) (by simp) ?_; refine AllReady.cons rfl (fun K hK => ?_) ?_
             · go_simp; refine (J7 acc A cap t.text w6.drew aP.out (by omega)).mono ?_; rintro e w7 ⟨rfl, rfl⟩; rw [HC.out]; go_simp; refine hK _ _ ?_; clear hK K; refine wpAny_ready (rs := [5]) (by kernel_rfl) (by simp) ?_; refine AllReady.cons rfl (fun K hK => ?_) ?_
               · go_simp; refine (Zd 9 t _).mono ?_; rintro e w7 ⟨rfl, aA⟩; refine ⟨rfl, ?_⟩; rw [aJ.out]; exact ⟨rfl, bH.out.trans ((Eff.of_below (p := p) ((Below.refl w6.heap.size w6).drew)).trans (Eff.of_below (p := p) aA))⟩
               exact AllReady.nil
             exact AllReady.nil
           exact AllReady.nil
         exact AllReady.nil
       | false =>
         have HC := Hi hc; clear hc; refine Je (by kernel_rfl) (by as_aux_lemma => kernel_rfl) ?_; have dT : ∀ y, Hid (Calls Tryz.prog 125 #[.slice A acc.length cap, vs t.text] (World.grew w6 y) fun e w' => e = .returned (.bool false) /\ ∃ x, w' = World.grew w6 x) := fun y => Hi ((J7 acc A cap t.text _ (Sl.keep dK.out (gBl w6 y).size (fun b o hA bJ => (gBl w6 y).block b bJ)) (by omega)).mono fun e w' ⟨h1, h2⟩ => ⟨by rw [h1, HC.out], y, h2.symm⟩); have dU : ∀ y, Hid (Calls Tryz.prog 139 #[.bool false, .int .i64 9, .agg #[.int .i64 t.kind, vs t.text, .int .i64 t.n, .int .i64 t.pos]] (World.grew w6 y) fun e w' => e = .returned (.tuple #[]) /\ ∃ x, w' = World.grew w6 x) := fun y => Hi (W7 (Xm 9 t _))
         repeat (go_big_quiet_step ((first | exact (dT _).out | exact (dU _).out)))
         refine wpQuiet_nil ?_; rintro _ ⟨y, rfl⟩; have aA := gBl w6 y; generalize World.grew w6 y = w7 at aA ⊢; have dS := Hi (bH.out.trans (Eff.of_below (p := p) aA)); have eS := Hi (dN.out.below aA); have eW := Hi (cF.out.below aA); have d0 := (aA.cell (p := ⟨w5.heap.size, 0, none⟩) dl).trans c0; have d1 := (aA.cell (p := ⟨w5.heap.size, 1, none⟩) dl).trans c1; have d2 := (aA.cell (p := ⟨w5.heap.size, 2, none⟩) dl).trans c2; have d3 := (aA.cell (p := ⟨w5.heap.size, 3, none⟩) dl).trans c3; have bX := Nat.lt_of_lt_of_le dl aA.size; clear aA c0 c1 c2 c3 dl dT dU
         by_cases h2 : acc.length = 20
         · have y1 : ((acc.length : Int) == 20) = true := by simp; omega
           have aJ : Hid (Kx l = .error (2, t :: r2)) := Hi (by rw [HL.out, bS.out, Kz, cH.out]; simp only [Qc, Xv, HC.out, h2, if_true, Js]; rfl); clear h2; go_wp2_with fail; refine (Zd 2 t _).mono ?_; rintro e w8 ⟨rfl, aI⟩; have bT := Hi (dS.out.trans (Eff.of_below (p := p) aI)); clear aI; go_wp2_with fail; refine ⟨rfl, ?_⟩; rw [aJ.out]; exact ⟨rfl, bT.out⟩
         · have y1 : ((acc.length : Int) == 20) = false := by simp; omega
           have cJ : Hid (Kx l = exI k' (acc ++ [t.text]) r2) := Hi (by rw [HL.out, bS.out, Kz, cH.out]; simp only [Qc, Xv, HC.out, h2, if_false, Bool.false_eq_true, Js, if_true]); have H2 := Hi h2; clear h2; go_wp2_with fail; refine (Xm 2 t _).mono ?_; rintro e w8 ⟨rfl, aI⟩; have dR := Hi (dS.out.trans (Eff.of_below (p := p) aI)); have eR := Hi (eS.out.below aI); have eV := Hi (eW.out.below aI); have c1 := (aI.cell (p := ⟨w5.heap.size, 1, none⟩) bX).trans d1; have fY := Nat.lt_of_lt_of_le bX aI.size; have fS := dR.out.size; have dP := Hi (eV.out.eff (Qd p w8 (.cells #[vs t.text] 9 (0, 0))) bU); have bI : Hid ((w8.alloc (.cells #[vs t.text] 9 (0, 0))).cell? ⟨w8.heap.size, 0, none⟩ = some (vs t.text)) := Hi (cOb (heap_alloc_new w8 _) rfl); have aX : w.heap.size <= (w8.alloc (.cells #[vs t.text] 9 (0, 0))).heap.size := by simp; omega
           have cC := Hi aX; clear aI d0 d1 d2 d3 bX aX; go_wp2_with (at_builtin; refine Wd rfl (.tmp 28) (.tmp 31) rfl w.heap.size (.slice A acc.length cap) acc w8.heap.size t.text rfl rfl dP.out bI.out (by omega) cC.out ?_; intro v' w9 ho hg)
           have aM := dP.out.own
           have hx : 22 - Iy v' < 22 - acc.length := by
            obtain ⟨A9, eK, rfl, -⟩ := Xn.form ho; simp [Iy]; omega
           exact ⟨⟨k', acc ++ [t.text], r2, by simp; omega, by have := H2.out; simp; omega, HL.out.symm.trans cJ.out, (Qi eR.out _).grown hg (fun b hb => by have := (aM b hb).1; omega), (dR.out.trans (Qd p w8 _)).grown hg (fun b hb => (aM b hb).1), ho⟩, hx⟩
    · have i1 : ((acc.length : Int) == 0) = false := by simp [h0]
      have dQ : Hid (Ql 22 [] r0 = isF [41] r (fun r => .ok (acc, r)) fun r => Ql k acc r) := Hi (by rw [bM, exI, if_neg h0]); clear bK aS bM eD dV hA HP h0 eU fC; cases hs : Ji [[41]] r with
      | true =>
        have aJ : Hid (Kx l = .ok (acc, r.tail)) := Hi (by rw [HL.out, dQ.out]; unfold isF; rw [hs]; rfl); have HS := Hi hs; clear hs; go_wp2_with fail; refine (X0 [41] p fin ts r _ bR.out HS.out).mono ?_; rintro e w4 ⟨rfl, cR, cL⟩; have gC := Hi cR; have gF := Hi (bW.out.trans cL); have gD := Hi (aW.out.eff cL bU); clear cR cL; go_wp2_with fail; go_ret; rw [aJ.out]; exact ⟨_, rfl, gD.out.form, gC.out, gF.out⟩
      | false =>
        have bS : Hid (Ql 22 [] r0 = Ql k acc r) := Hi (by rw [dQ.out]; unfold isF; rw [hs]; rfl); have HS := Hi hs; clear hs; go_wp2_with fail; refine (Wu [41] p fin ts r _ bR.out HS.out).mono ?_; rintro e w4 ⟨rfl, dW⟩; have eZ := Hi (bW.out.trans (Eff.of_below (p := p) dW)); have eQ := Hi (bR.out.below dW); have dO := Hi (aW.out.below dW); clear bW bR aW dW; have bW := eZ; have bR := eQ; have aW := dO; obtain ⟨k', rfl⟩ : ∃ k', k = k' + 1 := ⟨k - 1, by omega⟩
        go_wp2_with fail; rcases Yd r with ⟨t, r2, rfl, bA, bL⟩ | ⟨bA, bL⟩
        case inr =>
         have aJ : Hid (Kx l = .error (Z1 r, r)) := Hi (by rw [HL.out, bS.out, Kz, bL]; rfl); refine (Rc p fin ts r _ bR.out bA).mono ?_; rintro e w5 ⟨rfl, dH⟩; have bT := Hi (bW.out.trans (Eff.of_below (p := p) dH)); clear dH; go_wp2_with fail; refine ⟨rfl, ?_⟩; rw [aJ.out]; exact ⟨rfl, bT.out⟩
        case inl =>
         have gE := Hi bA; have cH := Hi bL; refine (U1 p fin ts t r2 _ bR.out bA).mono ?_; rintro e w5 ⟨rfl, aL, aH⟩; have eT := Hi aL; have fB := Hi (bW.out.trans aH); have eX := Hi (aW.out.eff aH bU); simp only [Tok.agg]; clear aL aH bA bL; go_upto_region 5 with fail; have bH := Hi (fB.out.trans (Qd p w5 (X7 t))); have dN := Hi (Qi eT.out (X7 t)); have cF := Hi (eX.out.eff (Qd p w5 (X7 t)) bU); have HX := heap_alloc_new w5 (X7 t); generalize w5.alloc _ = w6 at bH dN cF HX ⊢; obtain ⟨A2, aE, hv, bD, aS, hA⟩ := cF.out.form; cases hv; have c0 := cOb (o := 0) HX rfl; have c1 := cOb (o := 1) HX rfl; have c2 := cOb (o := 2) HX rfl; have c3 := cOb (o := 3) HX rfl; have dl := lHp HX; have dK := Hi aS; have aP : Hid (RdS w6.drew A acc) := Hi aS; clear HX aS hA; cases hc : acc.contains t.text with
         | true =>
           have aJ : Hid (Kx l = .error (9, t :: r2)) := Hi (by rw [HL.out, bS.out, Kz, cH.out]; simp only [Qc, Xv, hc, if_true, Js]; rfl); have HC := Hi hc; clear hc; refine wp_region_any (by kernel_rfl) ?_; change wpAny _ _ _ _ _ _ _ (World.drew _)
           refine wpAny_take (i := 0) (v := ?_) rfl (by kernel_rfl) (by kernel_rfl) (by kernel_rfl) (fun _ _ _ h => h) (Or.inl ⟨by rfl, ?hy0_2⟩) ?rest0_2
           case hy0_2 =>
            intro w
            first | (go_simp; done) | (go_simp; rfl) | rfl
           refine wpAny_take (i := 1) (v := ?_) rfl (by kernel_rfl) (by kernel_rfl) (by kernel_rfl) (fun _ _ _ h => h) (Or.inl ⟨by rfl, ?hy1_2⟩) ?rest1_2
           case hy1_2 =>
            intro w
            first | (go_simp; done) | (go_simp; rfl) | rfl
           refine wpAny_ready (rs := [2, 4]) (by kernel_rfl) (by simp) ?_; refine AllReady.cons rfl (fun K hK => ?_) ?_
           · go_simp; refine hK _ _ ?_; clear hK K; refine wpAny_ready (rs := [3, 4]) (by kernel_rfl) (by simp) ?_; refine AllReady.cons rfl (fun K hK => ?_) ?_
             · go_simp; refine (J7 acc A cap t.text w6.drew aP.out (by omega)).mono ?_; rintro e w7 ⟨rfl, rfl⟩; rw [HC.out]; go_simp; refine hK _ _ ?_; clear hK K; refine wpAny_ready (rs := [4]) (by kernel_rfl) (by simp) ?_; refine AllReady.cons rfl (fun K hK => ?_) ?_
               · go_simp; refine hK _ _ ?_; clear hK K; refine wpAny_ready (rs := [5]) (by kernel_rfl) (by simp) ?_; refine AllReady.cons rfl (fun K hK => ?_) ?_
                 · go_simp; refine (Zd 9 t _).mono ?_; rintro e w7 ⟨rfl, aA⟩; refine ⟨rfl, ?_⟩; rw [aJ.out]; exact ⟨rfl, bH.out.trans ((Eff.of_below (p := p) ((Below.refl w6.heap.size w6).drew)).trans (Eff.of_below (p := p) aA))⟩
                 exact AllReady.nil
               exact AllReady.nil
             refine AllReady.cons rfl (fun K hK => ?_) ?_
             · go_simp; refine hK _ _ ?_; clear hK K; refine wpAny_ready (rs := [3]) (by kernel_rfl) (by simp) ?_; refine AllReady.cons rfl (fun K hK => ?_) ?_
               · go_simp; refine (J7 acc A cap t.text w6.drew aP.out (by omega)).mono ?_; rintro e w7 ⟨rfl, rfl⟩; rw [HC.out]; go_simp; refine hK _ _ ?_; clear hK K; refine wpAny_ready (rs := [5]) (by kernel_rfl) (by simp) ?_; refine AllReady.cons rfl (fun K hK => ?_) ?_
                 · go_simp; refine (Zd 9 t _).mono ?_; rintro e w7 ⟨rfl, aA⟩; refine ⟨rfl, ?_⟩; rw [aJ.out]; exact ⟨rfl, bH.out.trans ((Eff.of_below (p := p) ((Below.refl w6.heap.size w6).drew)).trans (Eff.of_below (p := p) aA))⟩
                 exact AllReady.nil
               exact AllReady.nil
             exact AllReady.nil
           refine AllReady.cons rfl (fun K hK => ?_) ?_
           · go_simp; refine hK _ _ ?_; clear hK K; refine wpAny_ready (rs := [2]) (by kernel_rfl) (by simp) ?_; refine AllReady.cons rfl (fun K hK => ?_) ?_
             · go_simp; refine hK _ _ ?_; clear hK K; refine wpAny_ready (rs := [3]) (by kernel_rfl) (by simp) ?_; refine AllReady.cons rfl (fun K hK => ?_) ?_
               · go_simp; refine (J7 acc A cap t.text w6.drew aP.out (by omega)).mono ?_; rintro e w7 ⟨rfl, rfl⟩; rw [HC.out]; go_simp; refine hK _ _ ?_; clear hK K; refine wpAny_ready (rs := [5]) (by kernel_rfl) (by simp) ?_; refine AllReady.cons rfl (fun K hK => ?_) ?_
                 · go_simp; refine (Zd 9 t _).mono ?_; rintro e w7 ⟨rfl, aA⟩; refine ⟨rfl, ?_⟩; rw [aJ.out]; exact ⟨rfl, bH.out.trans ((Eff.of_below (p := p) ((Below.refl w6.heap.size w6).drew)).trans (Eff.of_below (p := p) aA))⟩
                 exact AllReady.nil
               exact AllReady.nil
             exact AllReady.nil
           exact AllReady.nil
         | false =>
           have HC := Hi hc; clear hc; refine Je (by kernel_rfl) (by as_aux_lemma => kernel_rfl) ?_; have dT : ∀ y, Hid (Calls Tryz.prog 125 #[.slice A acc.length cap, vs t.text] (World.grew w6 y) fun e w' => e = .returned (.bool false) /\ ∃ x, w' = World.grew w6 x) := fun y => Hi ((J7 acc A cap t.text _ (Sl.keep dK.out (gBl w6 y).size (fun b o hA bJ => (gBl w6 y).block b bJ)) (by omega)).mono fun e w' ⟨h1, h2⟩ => ⟨by rw [h1, HC.out], y, h2.symm⟩); have dU : ∀ y, Hid (Calls Tryz.prog 139 #[.bool false, .int .i64 9, .agg #[.int .i64 t.kind, vs t.text, .int .i64 t.n, .int .i64 t.pos]] (World.grew w6 y) fun e w' => e = .returned (.tuple #[]) /\ ∃ x, w' = World.grew w6 x) := fun y => Hi (W7 (Xm 9 t _))
           repeat (go_big_quiet_step ((first | exact (dT _).out | exact (dU _).out)))
           refine wpQuiet_nil ?_; rintro _ ⟨y, rfl⟩; have aA := gBl w6 y; generalize World.grew w6 y = w7 at aA ⊢; have dS := Hi (bH.out.trans (Eff.of_below (p := p) aA)); have eS := Hi (dN.out.below aA); have eW := Hi (cF.out.below aA); have d0 := (aA.cell (p := ⟨w5.heap.size, 0, none⟩) dl).trans c0; have d1 := (aA.cell (p := ⟨w5.heap.size, 1, none⟩) dl).trans c1; have d2 := (aA.cell (p := ⟨w5.heap.size, 2, none⟩) dl).trans c2; have d3 := (aA.cell (p := ⟨w5.heap.size, 3, none⟩) dl).trans c3; have bX := Nat.lt_of_lt_of_le dl aA.size; clear aA c0 c1 c2 c3 dl dT dU
           by_cases h2 : acc.length = 20
           · have y1 : ((acc.length : Int) == 20) = true := by simp; omega
             have aJ : Hid (Kx l = .error (2, t :: r2)) := Hi (by rw [HL.out, bS.out, Kz, cH.out]; simp only [Qc, Xv, HC.out, h2, if_true, Js]; rfl); clear h2; go_wp2_with fail; refine (Zd 2 t _).mono ?_; rintro e w8 ⟨rfl, aI⟩; have bT := Hi (dS.out.trans (Eff.of_below (p := p) aI)); clear aI; go_wp2_with fail; refine ⟨rfl, ?_⟩; rw [aJ.out]; exact ⟨rfl, bT.out⟩
           · have y1 : ((acc.length : Int) == 20) = false := by simp; omega
             have cJ : Hid (Kx l = exI k' (acc ++ [t.text]) r2) := Hi (by rw [HL.out, bS.out, Kz, cH.out]; simp only [Qc, Xv, HC.out, h2, if_false, Bool.false_eq_true, Js, if_true]); have H2 := Hi h2; clear h2; go_wp2_with fail; refine (Xm 2 t _).mono ?_; rintro e w8 ⟨rfl, aI⟩; have dR := Hi (dS.out.trans (Eff.of_below (p := p) aI)); have eR := Hi (eS.out.below aI); have eV := Hi (eW.out.below aI); have c1 := (aI.cell (p := ⟨w5.heap.size, 1, none⟩) bX).trans d1; have fY := Nat.lt_of_lt_of_le bX aI.size; have fS := dR.out.size; have dP := Hi (eV.out.eff (Qd p w8 (.cells #[vs t.text] 9 (0, 0))) bU); have bI : Hid ((w8.alloc (.cells #[vs t.text] 9 (0, 0))).cell? ⟨w8.heap.size, 0, none⟩ = some (vs t.text)) := Hi (cOb (heap_alloc_new w8 _) rfl); have aX : w.heap.size <= (w8.alloc (.cells #[vs t.text] 9 (0, 0))).heap.size := by simp; omega
             have cC := Hi aX; clear aI d0 d1 d2 d3 bX aX; go_wp2_with (at_builtin; refine Wd rfl (.tmp 28) (.tmp 31) rfl w.heap.size (.slice A acc.length cap) acc w8.heap.size t.text rfl rfl dP.out bI.out (by omega) cC.out ?_; intro v' w9 ho hg)
             have aM := dP.out.own
             have hx : 22 - Iy v' < 22 - acc.length := by
              obtain ⟨A9, eK, rfl, -⟩ := Xn.form ho; simp [Iy]; omega
             exact ⟨⟨k', acc ++ [t.text], r2, by simp; omega, by have := H2.out; simp; omega, HL.out.symm.trans cJ.out, (Qi eR.out _).grown hg (fun b hb => by have := (aM b hb).1; omega), (dR.out.trans (Qd p w8 _)).grown hg (fun b hb => (aM b hb).1), ho⟩, hx⟩
def RdEx (base : Nat) (A : Option Addr) (l : List (List UInt8)) (W : World) : Prop := RdS W A l /\ ∀ b o, A = some ⟨b, o, none⟩ -> base <= b /\ b < W.heap.size
theorem _root_.Go.Proofs.YtbicmjmcdnkjhaaGreatDoor.Kd.excS {base : Nat} {A : Option Addr} {l : List (List UInt8)} : Kd base (RdEx base A l) := fun a b hs hk hm =>
 ⟨Sl.keep hm.1 hs (fun g o hA bJ => hk g (hm.2 g o hA).1 bJ), fun g o hA => ⟨(hm.2 g o hA).1, Nat.lt_of_lt_of_le (hm.2 g o hA).2 hs⟩⟩
def Jy (base : Nat) (W : World) (cs : List Value) (P : Qf) : Prop := ∃ cc A cap cb cf ca, cs = [vs P.id, .int .i64 P.rank, .int .i64 P.kind, vs P.name, .int .i64 P.value] ++ (cc ++ (.slice A P.exc.length cap :: (cb ++ (cf ++ ca)))) /\ P.exc.length <= cap /\
 Qg true (fun k => base <= k) W cc P.cond /\ RdEx base A P.exc W /\ Qg false (fun k => base <= k) W cb P.beg /\ Qg false (fun k => base <= k) W cf P.fin /\ Qg false (fun k => base <= k) W ca P.aga
abbrev Sk (w : World) (P : Qf) (v : Value) (w' : World) : Prop := ∃ cs : List Value, v = .agg cs.toArray /\ Jy w.heap.size w' cs P
theorem Jy.toX {base : Nat} {w : World} {cs : List Value} {P : Qf} (h : Jy base w cs P) : Wo w cs (upP P) := by
 obtain ⟨cc, A, cap, cb, cf, ca, h1, h2, h3, h4, h5, h6, h7⟩ := h; exact ⟨cc, A, cap, cb, cf, ca, h1, h2, h3.toX, h4.1, h5.toX, h6.toX, h7.toX⟩
end So
end
set_option maxRecDepth 20000
set_option maxHeartbeats 4000000
section
open Go.RowKit
theorem Jy.weak {base base' : Nat} {W W' : World} {cs : List Value} {P : Qf} (h : Jy base W cs P) (hb : base' <= base) (hs : W.heap.size <= W'.heap.size) (hk : ∀ k, base <= k -> k < W.heap.size -> W'.heap[k]? = W.heap[k]?) : Jy base' W' cs P := by
 obtain ⟨cc, A, cap, cb, cf, ca, h0, h1, h2, h3, h4, h5, h6⟩ := h; have eJ := Kd.exc _ _ hs hk h3; exact ⟨cc, A, cap, cb, cf, ca, h0, h1, h2.keep hs (fun k a b => ⟨by omega, hk k a b⟩), ⟨eJ.1, fun b o hA => ⟨by have := (eJ.2 b o hA).1; omega, (eJ.2 b o hA).2⟩⟩, h4.keep hs (fun k a b => ⟨by omega, hk k a b⟩), h5.keep hs (fun k a b => ⟨by omega, hk k a b⟩), h6.keep hs (fun k a b => ⟨by omega, hk k a b⟩)⟩
theorem Off.row {b : Nat} (w : World) (C : Array Value) : Off b w (w.setRow b C) := by
 refine ⟨rfl, rfl, rfl, by simp [World.setRow], fun k hk => ?_⟩; have : ¬ b = k := fun e => hk e.symm; simp [World.setRow, Array.getElem?_modify, this]
@[go_sem] theorem Va {W : World} {b : Nat} {C D : Array Value} {t : TypeId} {fr : Nat × Nat} (h : W.blk b = some (.cells C t fr)) : (W.setRow b D).blk b = some (.cells D t fr) := by
 unfold World.blk at *; simp [World.setRow, Array.getElem?_modify, h]
theorem L1 {w wX : World} {p fin : Nat} {res : R Qf} {P : Qf} {C : List Value} {M : World -> Prop} (h : PV w wX p fin [] C M) (hm : ∀ W, M W -> Jy (w.heap.size + 2) W C P) (hr : res = .ok (P, [])) :
 Wp p fin w res (Sk w) (.returned (.agg C.toArray)) (wX.setRow w.heap.size C.toArray) := by
 rw [hr]; have ho : Off w.heap.size wX (wX.setRow w.heap.size C.toArray) := Off.row _ _; have bJ := h.lt; exact ⟨_, rfl, ⟨_, rfl, (hm _ h.mem).weak (by omega) (Nat.le_of_eq ho.size.symm) (fun k hk _ => ho.block k (by omega))⟩, h.ps.off ho bJ, h.eff.off ho (lR _)⟩
theorem L2 (n p fin : Nat) (l : List Tok) (w : World) (hp : PS w p fin l) (hl : l.length < n) (hn : n <= 6001) :
 Calls Tryz.prog 54 #[.pointer (some ⟨p, 0, none⟩)] w (Wp p fin w (Q4 (Qk n l)) (Sk w)) := by
 have HP := Hi hp; have bU := hp.lt; clear hp; go_enter Tryz.func54, Tryz.ntmps54
 go_wp2_with fail; rw [J2 _ _ _ _ _ (by rfl) (by rfl) (by rfl)]; go_wp2_with fail; have HV := Hi (PV.start HP.out [.string ⟨#[]⟩, .int .i64 0, .int .i64 0, .string ⟨#[]⟩, .int .i64 0, .int .i64 1, .string ⟨#[]⟩, .int .i64 0, .int .i64 0, .slice none 0 0, .slice none 0 0, .int .i64 0, .string ⟨#[]⟩, .int .i64 0, .slice none 0 0, .int .i64 0, .string ⟨#[]⟩, .int .i64 0, .slice none 0 0, .int .i64 0, .string ⟨#[]⟩, .int .i64 0, .slice none 0 0]); refine Ye [[99, 111, 110, 115, 116, 105, 116, 117, 116, 105, 111, 110], [97, 99, 116], [114, 101, 103, 117, 108, 97, 116, 105, 111, 110], [98, 121, 108, 97, 119]] _ 4 rfl 4 p fin l _ (HV.out.alloc _).ps (RdS.new (Qe (by simp))) (by omega) ?_ ?_
 case refine_2 =>
  intro c s wE hq aD; have aF := Hi hq; clear hq; go_wp2_with fail; refine ⟨rfl, ?_⟩; rw [show Q4 (Qk n l) = .error (c, s) by simp only [Q4, Qk, K6, aF.out, Qc]]; exact ⟨rfl, (HV.out.alloc _).eff.trans aD⟩
 case refine_1 =>
  intro i r1 w1 hq hi hr fG fM; have aR := Hi hq; have eA := Hi ((HV.out.alloc _).call fM fG); have h0 : (0 : Int) <= i := by omega
  obtain ⟨e1, g1⟩ := eA.out.cells 1 rfl; have dl := eA.out.room.1; clear hq fG fM; go_wp2_with fail; have bP := Hi (eA.out.set 1 (.int .i64 (1 + i : Nat))); refine Qq (Km p fin r1 _ bP.out.ps) ?_ ?_
  case refine_2 =>
   intro c s wE hq aD; have aF := Hi hq; clear hq; go_wp2_with fail; refine ⟨rfl, ?_⟩; rw [show Q4 (Qk n l) = .error (c, s) by simp only [Q4, Qk, K6, aR.out, aF.out, Qc]]; exact ⟨rfl, bP.out.eff.trans aD⟩
  case refine_1 =>
   intro id r2 v w2 hq hv cS dA; subst hv; have aQ := Hi hq; have dZ := Hi (bP.out.call dA cS); obtain ⟨e0, g0⟩ := dZ.out.cells 0 rfl; have dl := dZ.out.room.1; clear hq cS dA e1 g1 eA bP HV; go_wp2_with fail; have bO := Hi ((dZ.out.set 0 (vs id)).alloc (.cells #[vs [58]] 9 (0, 0))); refine Ye [[58]] _ 1 rfl 1 p fin r2 _ bO.out.ps (RdS.new (Qe (by simp))) (by omega) ?_ ?_
   case refine_2 =>
    intro c s wE hq aD; have aF := Hi hq; clear hq; go_wp2_with fail; refine ⟨rfl, ?_⟩; rw [show Q4 (Qk n l) = .error (c, s) by simp only [Q4, Qk, K6, aR.out, aQ.out, aF.out, Qc]]; exact ⟨rfl, bO.out.eff.trans aD⟩
   case refine_1 =>
    intro i3 r3 w3 hq gR gO fF fL; have aV := Hi hq; have fN := Hi (bO.out.call fL fF)
    have cX : r3.length < n := by
     have h1 := (Qj.name (n := n)).ok _ _ _ (by omega) aQ.out; omega
    clear hq fF fL e0 g0 dZ bO; go_wp2_with fail; have bN := Hi (fN.out.alloc (.cells #[vs [100, 101, 102, 105, 110, 101], vs [97, 110, 115, 119, 101, 114]] 9 (0, 0))); refine Ye [[100, 101, 102, 105, 110, 101], [97, 110, 115, 119, 101, 114]] _ 2 rfl 2 p fin r3 _ bN.out.ps (RdS.new (Qe (by simp))) (by omega) ?_ ?_
    case refine_2 =>
     intro c s wE hq aD; have aF := Hi hq; clear hq; go_wp2_with fail; refine ⟨rfl, ?_⟩; rw [show Q4 (Qk n l) = .error (c, s) by simp only [Q4, Qk, K6, K3, aR.out, aQ.out, aV.out, aF.out, Qc]]; exact ⟨rfl, bN.out.eff.trans aD⟩
    case refine_1 =>
     intro i4 r4a w4 hq gQ gN cR cL; have cE := Hi hq; have cA := Hi (bN.out.call cL cR); clear hq cR cL fN bN; go_upto_if 20 with fail; go_cut [] from 4 (fun wc => ∃ (kk : Nat) (s : List UInt8) (vv : Nat) (r4 : List Tok), K3 r3 = .ok ((kk, s, vv), r4) /\ PV w wc p fin r4 [vs id, .int .i64 (1 + i : Nat), .int .i64 (kk : Nat), vs s, .int .i64 (vv : Nat), .int .i64 1, .string ⟨#[]⟩, .int .i64 0, .int .i64 0, .slice none 0 0, .slice none 0 0, .int .i64 0, .string ⟨#[]⟩, .int .i64 0, .slice none 0 0, .int .i64 0, .string ⟨#[]⟩, .int .i64 0, .slice none 0 0, .int .i64 0, .string ⟨#[]⟩, .int .i64 0, .slice none 0 0] (fun _ => True))
     case first =>
      obtain rfl | rfl : i4 = 0 \/ i4 = 1 := by omega
      · go_wp2_with fail; refine Qq (Km p fin r4a _ cA.out.ps) ?_ ?_
        case refine_2 =>
         intro c s wE hq aD; have aF := Hi hq; clear hq; go_wp2_with fail; refine ⟨rfl, ?_⟩; rw [show Q4 (Qk n l) = .error (c, s) by simp only [Q4, Qk, K6, K3, aR.out, aQ.out, aV.out, cE.out, aF.out, Qc]]; exact ⟨rfl, cA.out.eff.trans aD⟩
        case refine_1 =>
         intro s r4 v w5 hq hv aL aH; subst hv; have dL := Hi hq; have aU := Hi (cA.out.call aH aL); obtain ⟨e2, g2⟩ := aU.out.cells 2 rfl; obtain ⟨e3, g3⟩ := aU.out.cells 3 rfl; have dl := aU.out.room.1; clear hq aL aH; go_wp2_with fail; go_meet
         case rel => exact ⟨1, s, 0, r4, by simp only [K3, cE.out, dL.out, Qc], (aU.out.set 2 (.int .i64 (1 : Nat))).set 3 (vs s)⟩
      · go_wp2_with fail; refine Qq (Km p fin r4a _ cA.out.ps) ?_ ?_
        case refine_2 =>
         intro c s wE hq aD; have aF := Hi hq; clear hq; go_wp2_with fail; refine ⟨rfl, ?_⟩; rw [show Q4 (Qk n l) = .error (c, s) by simp only [Q4, Qk, K6, K3, aR.out, aQ.out, aV.out, cE.out, aF.out, Qc]]; exact ⟨rfl, cA.out.eff.trans aD⟩
        case refine_1 =>
         intro s r5 v w5 hq hv aL aH; subst hv; have dL := Hi hq; have aU := Hi (cA.out.call aH aL); obtain ⟨e2, g2⟩ := aU.out.cells 2 rfl; obtain ⟨e3, g3⟩ := aU.out.cells 3 rfl; have dl := aU.out.room.1; clear hq aL aH; go_wp2_with fail; have bZ := Hi (((aU.out.set 2 (.int .i64 (2 : Nat))).set 3 (vs s)).alloc (.cells #[vs [105, 115]] 9 (0, 0))); refine Ye [[105, 115]] _ 1 rfl 1 p fin r5 _ bZ.out.ps (RdS.new (Qe (by simp))) (by omega) ?_ ?_
         case refine_2 =>
          intro c s wE hq aD; have aF := Hi hq; clear hq; go_wp2_with fail; refine ⟨rfl, ?_⟩; rw [show Q4 (Qk n l) = .error (c, s) by simp only [Q4, Qk, K6, K3, aR.out, aQ.out, aV.out, cE.out, dL.out, aF.out, Qc]]; exact ⟨rfl, bZ.out.eff.trans aD⟩
         case refine_1 =>
          intro i6 r6 w6 hq fV fT aZ bC; have eB := Hi hq; have aN := Hi (bZ.out.call bC aZ); clear hq aZ bC; go_wp2_with fail; refine Qq (Gz 1000000 p fin r6 _ aN.out.ps) ?_ ?_
          case refine_2 =>
           intro c s wE hq aD; have aF := Hi hq; clear hq; go_wp2_with fail; refine ⟨rfl, ?_⟩; rw [show Q4 (Qk n l) = .error (c, s) by simp only [Q4, Qk, K6, K3, aR.out, aQ.out, aV.out, cE.out, dL.out, eB.out, aF.out, Qc]]; exact ⟨rfl, aN.out.eff.trans aD⟩
          case refine_1 =>
           intro m r7 v w7 hq hv cQ cZ; subst hv; have eP := Hi hq; have bY := Hi (aN.out.call cZ cQ); obtain ⟨e4, g4⟩ := bY.out.cells 4 rfl; have dl := bY.out.room.1; clear hq cQ cZ; go_wp2_with fail; go_meet
           case rel => exact ⟨2, s, m, r7, by simp only [K3, cE.out, dL.out, eB.out, eP.out, Qc], bY.out.set 4 (.int .i64 m)⟩
     case rest =>
      obtain ⟨kk, s, vv, r4, eH, hv⟩ := hcut; have HK := Hi eH; have HW := Hi hv; have bV : r4.length < n := by have := (Bh n).ok _ _ _ cX eH; omega
      clear eH hv cA cE; go_upto_region 10 with fail; go_cut [38] from 4 (fun fQ wc => ∃ (bb : Bool) (r' : List Tok), fQ = .bool bb /\ (bb = true -> Xb [[105, 102]] r4 = (some 0, r')) /\ (bb = false -> Xb [[105, 102]] r4 = (none, r4) /\ r' = r4) /\ PV w wc p fin r' [vs id, .int .i64 (1 + i : Nat), .int .i64 (kk : Nat), vs s, .int .i64 (vv : Nat), .int .i64 1, .string ⟨#[]⟩, .int .i64 0, .int .i64 0, .slice none 0 0, .slice none 0 0, .int .i64 0, .string ⟨#[]⟩, .int .i64 0, .slice none 0 0, .int .i64 0, .string ⟨#[]⟩, .int .i64 0, .slice none 0 0, .int .i64 0, .string ⟨#[]⟩, .int .i64 0, .slice none 0 0] (fun _ => True))
      case first =>
       go_wp2_with fail; refine Ua [[105, 102]] _ 1 rfl 1 p fin r4 _ (HW.out.alloc (.cells #[vs [105, 102]] 9 (0, 0))).ps (RdS.new (Qe (by simp))) (by omega) ?_ ?_
       case refine_1 =>
        intro w5 ht aL aH; have HT := Hi ht; have aU := Hi ((HW.out.alloc _).call aH aL); clear ht aL aH; go_wp2_with fail; go_meet
        case rel => exact ⟨false, r4, rfl, fun h => (by cases h), fun _ => ⟨HT.out, rfl⟩, aU.out⟩
       case refine_2 =>
        intro i5 r5 w5 ht gP gM aL aH; have HT := Hi ht; have aU := Hi ((HW.out.alloc _).call aH aL); obtain rfl : i5 = 0 := by omega
        clear ht aL aH; go_wp2_with fail; go_meet
        case rel => exact ⟨true, r5, rfl, fun _ => HT.out, fun h => (by cases h), aU.out⟩
      case rest =>
       obtain ⟨bb, eC, rfl, cP, cO, hv⟩ := hcut; have bQ := Hi cP; have bG := Hi cO; have cM := Hi hv; clear cP cO hv HW; go_upto_if 38 with fail; go_cut [] from 4 (fun wc => ∃ (o1 : Nat) (n1 : List UInt8) (c1 m1 : Nat) (aG : List Qb) (A1 : Option Addr) (aC : Nat) (r5 : List Tok), ifF n r4 = .ok (.mk o1 n1 c1 m1 aG, r5) /\ PV w wc p fin r5 [vs id, .int .i64 (1 + i : Nat), .int .i64 (kk : Nat), vs s, .int .i64 (vv : Nat), .int .i64 (o1 : Nat), vs n1, .int .i64 (c1 : Nat), .int .i64 (m1 : Nat), .slice A1 aG.length aC, .slice none 0 0, .int .i64 0, .string ⟨#[]⟩, .int .i64 0, .slice none 0 0, .int .i64 0, .string ⟨#[]⟩, .int .i64 0, .slice none 0 0, .int .i64 0, .string ⟨#[]⟩, .int .i64 0, .slice none 0 0] (fun W => True /\ Qg true (fun k => w.heap.size + 2 <= k) W (tcs true o1 n1 c1 m1 (.slice A1 aG.length aC)) (.mk o1 n1 c1 m1 aG)))
       case first =>
        cases bb with
        | false =>
          have ht := (bG.out rfl).1; obtain rfl := (bG.out rfl).2; have HT := Hi ht; clear ht bQ bG; go_wp2_with fail; go_meet
          case rel => exact ⟨1, [], 0, 0, [], none, 0, eC, by simp only [ifF, Jc, HT.out], cM.out.and Kd.tree (Qg.leaf 1 [] 0 0 none 0)⟩
        | true =>
          have HT := Hi (bQ.out rfl)
          have bB : eC.length < n := by
           rcases J9 [[105, 102]] r4 with h | ⟨t, r, i, rfl, h, -, -⟩
           · rw [HT.out] at h; cases h
           · rw [HT.out] at h; cases h; simp at bV; omega
          clear bQ bG; go_wp2_with fail; refine Qq (qd6 83 (Rl n) n p fin (qdv n hn) (qaf n) Lz eC _ cM.out.ps bB hn) ?_ ?_
          case refine_2 =>
           intro c s wE hq aD; have aF := Hi hq; clear hq; go_wp2_with fail; refine ⟨rfl, ?_⟩; rw [show Q4 (Qk n l) = .error (c, s) by simp only [Q4, Qk, K6, ifF, Jc, aR.out, aQ.out, aV.out, HK.out, HT.out, aF.out, Qc]]; exact ⟨rfl, cM.out.eff.trans aD⟩
          case refine_1 =>
           intro t r5 v w6 hq hv aZ bC; obtain ⟨cs, rfl, aY⟩ := hv; have gB := Hi aY; obtain ⟨o1, n1, c1, m1, aG⟩ := t; obtain ⟨A1, aC, rfl, -, -⟩ := aY; simp only [tcs]; have eB := Hi hq; have aN := Hi (cM.out.call bC aZ); have dG : w.heap.size + 2 <= wc.heap.size := cM.out.room.1; obtain ⟨e5, g5⟩ := aN.out.cells 5 rfl; obtain ⟨e6, g6⟩ := aN.out.cells 6 rfl; obtain ⟨e7, g7⟩ := aN.out.cells 7 rfl; obtain ⟨e8, g8⟩ := aN.out.cells 8 rfl; obtain ⟨e9, g9⟩ := aN.out.cells 9 rfl; have dl := aN.out.room.1; clear hq aZ bC; go_wp2_with fail; go_meet
           case rel =>
            refine ⟨o1, n1, c1, m1, aG, A1, aC, r5, by simp only [ifF, Jc, HT.out, eB.out], ?_⟩; exact ((((aN.out.and Kd.tree (gB.out.keep (lR _) (fun b hb _ => ⟨by omega, rfl⟩))).set 5 (.int .i64 o1)).set 6 (vs n1)).set 7 (.int .i64 c1)).set 8 (.int .i64 m1) |>.set 9 (.slice A1 aG.length aC)
       case rest =>
        obtain ⟨o1, n1, c1, m1, aG, A1, aC, r5, eG, hv⟩ := hcut; have cI := Hi eG; have dY := Hi hv; have bB : r5.length < n := by have := (qbt n).ok _ _ _ bV eG; omega
        clear eG hv cM bQ bG; go_upto_region 12 with fail; go_cut [47] from 4 (fun fP wc => ∃ (bb : Bool) (r' : List Tok), fP = .bool bb /\ (bb = true -> Xb [[110, 111, 116, 119, 105, 116, 104, 115, 116, 97, 110, 100, 105, 110, 103]] r5 = (some 0, r')) /\ (bb = false -> Xb [[110, 111, 116, 119, 105, 116, 104, 115, 116, 97, 110, 100, 105, 110, 103]] r5 = (none, r5) /\ r' = r5) /\ PV w wc p fin r' [vs id, .int .i64 (1 + i : Nat), .int .i64 (kk : Nat), vs s, .int .i64 (vv : Nat), .int .i64 (o1 : Nat), vs n1, .int .i64 (c1 : Nat), .int .i64 (m1 : Nat), .slice A1 aG.length aC, .slice none 0 0, .int .i64 0, .string ⟨#[]⟩, .int .i64 0, .slice none 0 0, .int .i64 0, .string ⟨#[]⟩, .int .i64 0, .slice none 0 0, .int .i64 0, .string ⟨#[]⟩, .int .i64 0, .slice none 0 0] (fun W => True /\ Qg true (fun k => w.heap.size + 2 <= k) W (tcs true o1 n1 c1 m1 (.slice A1 aG.length aC)) (.mk o1 n1 c1 m1 aG)))
        case first =>
         go_wp2_with fail; refine Ua [[110, 111, 116, 119, 105, 116, 104, 115, 116, 97, 110, 100, 105, 110, 103]] _ 1 rfl 1 p fin r5 _ (dY.out.alloc (.cells #[vs [110, 111, 116, 119, 105, 116, 104, 115, 116, 97, 110, 100, 105, 110, 103]] 9 (0, 0))).ps (RdS.new (Qe (by simp))) (by omega) ?_ ?_
         case refine_1 =>
          intro w6 ht aZ bC; have HT := Hi ht; have aN := Hi ((dY.out.alloc _).call bC aZ); clear ht aZ bC; go_wp2_with fail; go_meet
          case rel => exact ⟨false, r5, rfl, fun h => (by cases h), fun _ => ⟨HT.out, rfl⟩, aN.out⟩
         case refine_2 =>
          intro i6 r6 w6 ht fV fT aZ bC; have HT := Hi ht; have aN := Hi ((dY.out.alloc _).call bC aZ); obtain rfl : i6 = 0 := by omega
          clear ht aZ bC; go_wp2_with fail; go_meet
          case rel => exact ⟨true, r6, rfl, fun _ => HT.out, fun h => (by cases h), aN.out⟩
        case rest =>
         obtain ⟨bb, fD, rfl, cP, cO, hv⟩ := hcut; have bQ := Hi cP; have bG := Hi cO; have aT := Hi hv; clear cP cO hv dY; go_upto_if 47 with fail; go_cut [] from 4 (fun wc => ∃ (exc : List (List UInt8)) (A2 : Option Addr) (aE : Nat) (r6 : List Tok), Kx r5 = .ok (exc, r6) /\ exc.length <= aE /\ PV w wc p fin r6 [vs id, .int .i64 (1 + i : Nat), .int .i64 (kk : Nat), vs s, .int .i64 (vv : Nat), .int .i64 (o1 : Nat), vs n1, .int .i64 (c1 : Nat), .int .i64 (m1 : Nat), .slice A1 aG.length aC, .slice A2 exc.length aE, .int .i64 0, .string ⟨#[]⟩, .int .i64 0, .slice none 0 0, .int .i64 0, .string ⟨#[]⟩, .int .i64 0, .slice none 0 0, .int .i64 0, .string ⟨#[]⟩, .int .i64 0, .slice none 0 0] (fun W => (True /\ Qg true (fun k => w.heap.size + 2 <= k) W (tcs true o1 n1 c1 m1 (.slice A1 aG.length aC)) (.mk o1 n1 c1 m1 aG)) /\ RdE (w.heap.size + 2) A2 exc W))
         case first =>
          cases bb with
          | false =>
            have ht := (bG.out rfl).1; obtain rfl := (bG.out rfl).2; have HT := Hi ht; clear ht bQ bG; go_wp2_with fail; go_meet
            case rel => exact ⟨[], none, 0, fD, by simp only [Kx, Jc, HT.out], lR _, aT.out.and Kd.exc ⟨Sl.nil, fun b o e => by cases e⟩⟩
          | true =>
            have HT := Hi (bQ.out rfl); clear bQ bG; go_wp2_with fail; refine Qq (G8 p fin fD _ aT.out.ps) ?_ ?_
            case refine_2 =>
             intro c s wE hq aD; have aF := Hi hq; clear hq; go_wp2_with fail; refine ⟨rfl, ?_⟩; rw [show Q4 (Qk n l) = .error (c, s) by simp only [Q4, Qk, K6, Kx, Jc, aR.out, aQ.out, aV.out, HK.out, cI.out, HT.out, aF.out, Qc]]; exact ⟨rfl, aT.out.eff.trans aD⟩
            case refine_1 =>
             intro exc r6 v w7 hq hv cQ cZ; obtain ⟨A2, aE, rfl, dF, aS, hA⟩ := hv; have eP := Hi hq; have bY := Hi (aT.out.call cZ cQ); have dK := Hi aS; have HA := Hi hA; have dG : w.heap.size + 2 <= wc.heap.size := aT.out.room.1; obtain ⟨hW, hH⟩ := bY.out.cells 10 rfl; have dl := bY.out.room.1; clear hq cQ cZ aS hA; go_wp2_with fail; go_meet
             case rel =>
              refine ⟨exc, A2, aE, r6, by simp only [Kx, Jc, HT.out, eP.out], dF, ?_⟩; exact (bY.out.and Kd.exc ⟨dK.out, fun b o e => ⟨by have := (HA.out b o e).1; omega, (HA.out b o e).2⟩⟩).set 10 (.slice A2 exc.length aE)
         case rest =>
          obtain ⟨exc, A2, aE, r6, eF, bD, hv⟩ := hcut; have cN := Hi eF; have dJ := Hi hv; have fK : r6.length < n := by have := (Fw n).ok _ _ _ bB eF; omega
          clear eF hv aT bQ bG; go_wp2_with fail; refine Qq (Lk [102, 114, 111, 109] 1 n p fin r6 _ dJ.out.ps (by omega) hn) ?_ ?_
          case refine_2 =>
           intro c s wE hq aD; have aF := Hi hq; clear hq; go_wp2_with fail; refine ⟨rfl, ?_⟩; rw [show Q4 (Qk n l) = .error (c, s) by simp only [Q4, Qk, K6, aR.out, aQ.out, aV.out, HK.out, cI.out, cN.out, aF.out, Qc]]; exact ⟨rfl, dJ.out.eff.trans aD⟩
          case refine_1 =>
           intro t r7 v gJ hq hv cW dE; obtain ⟨cs, rfl, aY⟩ := hv; have eO := Hi aY; obtain ⟨oB, nB, cB, mB, ksB⟩ := t; obtain ⟨AB, capB, rfl, -, -⟩ := aY; simp only [tcs]; have dI := Hi hq; have fJ : r7.length < n := by have := (Vy n [102, 114, 111, 109] 1).ok _ _ _ (by omega) hq; omega
           have aK := dJ.out.room.1; have bF := Hi ((dJ.out.call dE cW).and Kd.tree (eO.out.keep (lR _) (fun b hb _ => ⟨by omega, rfl⟩))); clear hq cW dE aK; go_wp2_with fail; refine Qq (Lk [117, 110, 116, 105, 108] 2 n p fin r7 _ bF.out.ps (by omega) hn) ?_ ?_
           case refine_2 =>
            intro c s wE hq aD; have aF := Hi hq; clear hq; go_wp2_with fail; refine ⟨rfl, ?_⟩; rw [show Q4 (Qk n l) = .error (c, s) by simp only [Q4, Qk, K6, aR.out, aQ.out, aV.out, HK.out, cI.out, cN.out, dI.out, aF.out, Qc]]; exact ⟨rfl, bF.out.eff.trans aD⟩
           case refine_1 =>
            intro t r8 v gI hq hv cV dD; obtain ⟨cs, rfl, aY⟩ := hv; have eN := Hi aY; obtain ⟨oD, nD, cD, mD, ksD⟩ := t; obtain ⟨AD, capD, rfl, -, -⟩ := aY; simp only [tcs]; have dX := Hi hq; have fI : r8.length < n := by have := (Vy n [117, 110, 116, 105, 108] 2).ok _ _ _ (by omega) hq; omega
            have aK := bF.out.room.1; have bE := Hi ((bF.out.call dD cV).and Kd.tree (eN.out.keep (lR _) (fun b hb _ => ⟨by omega, rfl⟩))); clear hq cV dD aK; go_wp2_with fail; refine Qq (Lk [97, 103, 97, 105, 110] 2 n p fin r8 _ bE.out.ps (by omega) hn) ?_ ?_
            case refine_2 =>
             intro c s wE hq aD; have aF := Hi hq; clear hq; go_wp2_with fail; refine ⟨rfl, ?_⟩; rw [show Q4 (Qk n l) = .error (c, s) by simp only [Q4, Qk, K6, aR.out, aQ.out, aV.out, HK.out, cI.out, cN.out, dI.out, dX.out, aF.out, Qc]]; exact ⟨rfl, bE.out.eff.trans aD⟩
            case refine_1 =>
             intro t r9 v gH hq hv cU dC; obtain ⟨cs, rfl, aY⟩ := hv; have eM := Hi aY; obtain ⟨oG, nG, cG, mG, ksG⟩ := t; obtain ⟨AG, capG, rfl, -, -⟩ := aY; simp only [tcs]; have eL := Hi hq; have fH : r9.length < n := by have := (Vy n [97, 103, 97, 105, 110] 2).ok _ _ _ (by omega) hq; omega
             have aK := bE.out.room.1; have aB := Hi ((bE.out.call dC cU).and Kd.tree (eM.out.keep (lR _) (fun b hb _ => ⟨by omega, rfl⟩))); clear hq cU dC aK; obtain ⟨hV, hG⟩ := aB.out.cells 11 rfl; obtain ⟨hU, hF⟩ := aB.out.cells 12 rfl; obtain ⟨hT, hE⟩ := aB.out.cells 13 rfl; obtain ⟨hS, hD⟩ := aB.out.cells 14 rfl; obtain ⟨hR, hC⟩ := aB.out.cells 15 rfl; obtain ⟨hQ, hB⟩ := aB.out.cells 16 rfl; obtain ⟨hP, gZ⟩ := aB.out.cells 17 rfl; obtain ⟨hO, gY⟩ := aB.out.cells 18 rfl; obtain ⟨hN, gX⟩ := aB.out.cells 19 rfl; obtain ⟨hL, gW⟩ := aB.out.cells 20 rfl; obtain ⟨hJ, gV⟩ := aB.out.cells 21 rfl; obtain ⟨hI, gU⟩ := aB.out.cells 22 rfl; have dl := aB.out.room.1; go_wp2_with fail; have HS := Hi (((((((((((((aB.out.set 11 (.int .i64 oB)).set 12 (vs nB)).set 13 (.int .i64 mB)).set 14 (.slice AB ksB.length capB)).set 15 (.int .i64 oD)).set 16 (vs nD)).set 17 (.int .i64 mD)).set 18 (.slice AD ksD.length capD)).set 19 (.int .i64 oG)).set 20 (vs nG)).set 21 (.int .i64 mG)).set 22 (.slice AG ksG.length capG)).alloc (.cells #[vs [46]] 9 (0, 0))); refine Ye [[46]] _ 1 rfl 1 p fin r9 _ HS.out.ps (RdS.new (Qe (by simp))) (by omega) ?_ ?_
             case refine_2 =>
              intro c s wE hq aD; have aF := Hi hq; clear hq; go_wp2_with fail; refine ⟨rfl, ?_⟩; rw [show Q4 (Qk n l) = .error (c, s) by simp only [Q4, Qk, K6, aR.out, aQ.out, aV.out, HK.out, cI.out, cN.out, dI.out, dX.out, eL.out, aF.out, Qc]]; exact ⟨rfl, HS.out.eff.trans aD⟩
             case refine_1 =>
              intro gK fR fO hq fW fU cT dB; have dM := Hi hq; have aO := Hi (HS.out.call dB cT); have fZ := aO.out.room.1; clear hq cT dB HS aB bE bF dJ; obtain ⟨A, c, hh, -⟩ := aO.out.ps.is; have c0 := cOb (o := 0) hh rfl; have bJ := lHp hh; clear hh; cases fR with
              | cons t r15 =>
                simp only [List.length_cons] at c0; have y1 : (0 : Int) < (r15.length : Int) + 1 := (by omega)
                go_wp2_with fail; refine (Zq p fin _ _ aO.out.ps).mono ?_; rintro e gG ⟨rfl, eI⟩; go_wp2_with fail; refine ⟨rfl, ?_⟩; rw [show Q4 (Qk n l) = .error (Z1 (t :: r15), t :: r15) by simp only [Q4, Qk, K6, aR.out, aQ.out, aV.out, HK.out, cI.out, cN.out, dI.out, dX.out, eL.out, dM.out, Qc, failR]]; exact ⟨rfl, aO.out.eff.trans (Eff.of_below eI)⟩
              | nil =>
                simp only [List.length_nil] at c0; have gS := aO.out.out; have fX := aO.out.res; go_wp2_with fail; rw [J2 _ _ _ _ _ (by rfl) (by rfl) (by rfl)]
                have cY := L1 (P := ⟨id, 1 + i, kk, s, vv, .mk o1 n1 c1 m1 aG, exc, .mk oB nB cB mB ksB, .mk oD nD cD mD ksD, .mk oG nG cG mG ksG⟩) (C := [vs id, .int .i64 (1 + i : Nat), .int .i64 kk, vs s, .int .i64 vv, .int .i64 o1, vs n1, .int .i64 c1, .int .i64 m1, .slice A1 aG.length aC, .slice A2 exc.length aE, .int .i64 oB, vs nB, .int .i64 mB, .slice AB ksB.length capB, .int .i64 oD, vs nD, .int .i64 mD, .slice AD ksD.length capD, .int .i64 oG, vs nG, .int .i64 mG, .slice AG ksG.length capG]) (res := Q4 (Qk n l)) aO.out (fun W hM => by
                 obtain ⟨⟨⟨⟨⟨-, h1⟩, h2⟩, h3⟩, h4⟩, h5⟩ := hM; exact ⟨_, A2, aE, _, _, _, rfl, bD, h1, h2, h3, h4, h5⟩) (by simp only [Q4, Qk, K6, aR.out, aQ.out, aV.out, HK.out, cI.out, cN.out, dI.out, dX.out, eL.out, dM.out, Qc])
                have eY := Hi cY; have fE : (fO.setRow w.heap.size [vs id, .int .i64 (1 + i : Nat), .int .i64 kk, vs s, .int .i64 vv, .int .i64 o1, vs n1, .int .i64 c1, .int .i64 m1, .slice A1 aG.length aC, .slice A2 exc.length aE, .int .i64 oB, vs nB, .int .i64 mB, .slice AB ksB.length capB, .int .i64 oD, vs nD, .int .i64 mD, .slice AD ksD.length capD, .int .i64 oG, vs nG, .int .i64 mG, .slice AG ksG.length capG].toArray).blk w.heap.size = some (.cells [vs id, .int .i64 (1 + i : Nat), .int .i64 kk, vs s, .int .i64 vv, .int .i64 o1, vs n1, .int .i64 c1, .int .i64 m1, .slice A1 aG.length aC, .slice A2 exc.length aE, .int .i64 oB, vs nB, .int .i64 mB, .slice AB ksB.length capB, .int .i64 oD, vs nD, .int .i64 mD, .slice AD ksD.length capD, .int .i64 oG, vs nG, .int .i64 mG, .slice AG ksG.length capG].toArray 30 (0, 0)) := Va fX; have gA := Hi fE; clear cY fE; go_wp2_with fail; refine bodyPost_ret (v := .agg [vs id, .int .i64 (1 + i : Nat), .int .i64 kk, vs s, .int .i64 vv, .int .i64 o1, vs n1, .int .i64 c1, .int .i64 m1, .slice A1 aG.length aC, .slice A2 exc.length aE, .int .i64 oB, vs nB, .int .i64 mB, .slice AB ksB.length capB, .int .i64 oD, vs nD, .int .i64 mD, .slice AD ksD.length capD, .int .i64 oG, vs nG, .int .i64 mG, .slice AG ksG.length capG].toArray) ?_ rfl eY.out; exact results_cell_row Tryz.results54 _ _ w.heap.size 30 _ (0, 0) _ (by rfl) gA.out Tryz.underlying30 rfl (by kernel_rfl)
