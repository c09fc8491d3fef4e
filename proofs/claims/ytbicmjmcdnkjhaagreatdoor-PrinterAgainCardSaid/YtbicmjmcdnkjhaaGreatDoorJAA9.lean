/- (*southern).south writes a formula. -/
import Derived.Test.YtbicmjmcdnkjhaaGreatDoorJAA8
set_option linter.unusedVariables false
set_option linter.unusedSimpArgs false
set_option maxRecDepth 20000
set_option maxHeartbeats 16000000
namespace Go.Proofs.YtbicmjmcdnkjhaaGreatDoor
section
open Go.RowKit
attribute [local go_sem ↓] Go.wp_at_zero Go.wp_at_succ
structure SB (W w0 wc : World) (p : Nat) (T : TypeId) (S0 S : Nat -> Prop) (L N : List (List UInt8)) (bf : Nat) (Tf : TypeId) (C : Array Value) : Prop where
 wr : Wr W wc p T S L N
 fr : J8 S0 S w0 wc
 bx : wc.heap[bf]? = some (.cells C Tf (0, 0))
 nb : ¬ S bf
theorem SB.step {W w0 wc w' : World} {p : Nat} {T : TypeId} {S0 S S' : Nat -> Prop} {L N L' N' : List (List UInt8)} {bf : Nat} {Tf : TypeId} {C : Array Value} (h : SB W w0 wc p T S0 S L N bf Tf C) (hw : Wr W w' p T S' L' N') (hf : J8 S S' wc w') : SB W w0 w' p T S0 S' L' N' bf Tf C :=
 ⟨hw, h.fr.trans hf, (hf.box h.bx h.nb).1, (hf.box h.bx h.nb).2⟩
theorem SB.alloc {W w0 wc : World} {p : Nat} {T : TypeId} {S0 S : Nat -> Prop} {L N : List (List UInt8)} {bf : Nat} {Tf : TypeId} {C : Array Value} (h : SB W w0 wc p T S0 S L N bf Tf C) (o : Obj) : SB W w0 (wc.alloc o) p T S0 S L N bf Tf C :=
 h.step (h.wr.alloc o) ((J8.refl S wc).alloc o)
theorem SB.start {W w : World} {p : Nat} {T : TypeId} {S : Nat -> Prop} {L N : List (List UInt8)} {Tf : TypeId} {C : Array Value} (h : Wr W w p T S L N) : SB W w (w.alloc (.cells C Tf)) p T S S L N w.heap.size Tf C :=
 ⟨h.alloc _, (J8.refl S w).alloc _, J4 rfl, h.fresh⟩
theorem SB.post {W w0 wc : World} {p : Nat} {T : TypeId} {S0 S : Nat -> Prop} {L N L' N' : List (List UInt8)} {bf : Nat} {Tf : TypeId} {C : Array Value} (h : SB W w0 wc p T S0 S L N bf Tf C) (hl : L = L') (hn : N = N') : Zy W w0 p T S0 L' N' (.returned (.tuple #[])) wc := by
 subst hl hn; exact ⟨rfl, S, h.wr, h.fr⟩
theorem Mi (W w : World) (p : Nat) (T : TypeId) (S : Nat -> Prop) (L N : List (List UInt8)) (s : List UInt8) (n : Nat) (h : Wr W w p T S L N) (hn : n <= 10000000) (fI : L.length + 2 <= 1000000) (ht : Xp W) :
 Calls Tryz.prog 45 #[.pointer (some ⟨p, 0, none⟩), vs s, .int .i64 (n : Int)] w (Zy W w p T S (L ++ [s, dec n]) N) := by
 have H := Hi h; have HT := Hi ht; clear h ht; go_enter Tryz.func45, Tryz.ntmps45
 go_wp2_with fail; refine (Xy W _ p T S L N s _ rfl H.out (by omega)).mono ?_; rintro e w1 ⟨rfl, S1, eI, eO⟩; have fQ := Hi eI; have fX := Hi eO; clear eI eO; go_wp2_with fail; refine (Ul W _ p T S1 (L ++ [s]) N n fQ.out hn (by simp; omega) HT.out).mono ?_; rintro e w2 ⟨rfl, S2, eH, eN⟩; have fP := Hi eH; have fW := Hi eN; clear eH eN; go_wp2_with fail; go_end0; exact ⟨rfl, S2, by have := fP.out; simpa using this, fX.out.trans fW.out⟩
def Re (op : Nat) (name : Qa) (cmp n l : Nat) : List Qa := if op = 1 then [[121, 101, 115]] else if op = 2 then [[110, 111]]
 else if op = 3 then [name, dec n, So.qdy.getD (cmp - 1) []] else if op = 4 then [name, [100, 101, 102, 105, 110, 101, 100]]
 else if op = 5 then [[110, 101, 103, 97, 116, 101, 100]]
 else if op = 6 then [So.wAll, dec l] else if op = 7 then [So.wAny, dec l] else []
theorem qfk {op : Nat} {name : Qa} {cm m : Nat} {ks : List Qb} (h : Jn (.mk op name cm m ks) = true) : Ql (.mk op name cm m ks) = Qy ks ++ Vf op name := by
 obtain ⟨-, -, h3, -⟩ := Rt h; rw [Ql]; unfold Vf; rcases h3 with rfl | h3
 · simp [Qy]
 · rw [if_neg (by omega)]; simp
theorem qcl (W : World) (ht : Xp W) : ∀ (M : Nat) (t : Qb) (cs : List Value) (w : World) (p : Nat) (T : TypeId) (S : Nat -> Prop) (L N : List Qa), t.size <= M -> Jn t = true -> L.length + 6 * t.size <= 900000 -> N.length + t.size <= 900000 -> RdX true W cs (up t) -> Wr W w p T S L N ->
 Calls Tryz.prog 44 #[.pointer (some ⟨p, 0, none⟩), .agg cs.toArray] w (Zy W w p T S (L ++ So.wF t) (N ++ Ql t)) := by
 intro M
 induction M with
 | zero =>
   intro t cs w p T S L N hM; have := Zj t; omega
 | succ M ih =>
   intro t cs w p T S L N hM hs bS dK hr hw; have IH := Hi ih; obtain ⟨op, name, cm, m, ks⟩ := t; rw [up] at hr; obtain ⟨A1, p1, rfl, -, aN⟩ := hr; have HK := Hi aN; rw [Z3] at *; have eM := Un ks; simp only [Qb.size] at hM bS dK; simp only [tcX]; obtain ⟨oi, cO⟩ : ∃ oi : Int, (op : Int) = oi := ⟨_, rfl⟩
   rw [cO]; have dX : Hid (SB W w (w.alloc (.cells #[.int .i64 oi, vs name, .int .i64 (cm : Int), .int .i64 (m : Int), .slice A1 ks.length p1] 24)) p T S S L N w.heap.size 24 #[.int .i64 oi, vs name, .int .i64 (cm : Int), .int .i64 (m : Int), .slice A1 ks.length p1]) := Hi (SB.start hw); obtain ⟨s1, s2, s3, s4⟩ := Rt hs; have dZ := Hi s2; have fT := Hi s3; have dY := Hi s4; have dS : Hid (So.wF (.mk op name cm m ks) = So.wFs ks ++ Re op name cm m ks.length) := Hi (by rw [So.wF]; rfl); have eD := Hi (qfk hs); have HT := Hi ht; have cN : (op = 1 /\ oi = 1) \/ (op = 2 /\ oi = 2) \/ (op = 3 /\ oi = 3) \/ (op = 4 /\ oi = 4) \/ (op = 5 /\ oi = 5) \/ (op = 6 /\ oi = 6) \/ (op = 7 /\ oi = 7) := by omega
   have eA := Hi cN; clear ih aN hs hw ht s1 s2 s3 s4 cO cN; go_enter Tryz.func44, Tryz.ntmps44
   go_wp2_with fail; go_loopw [9] (fun v wr => ∃ k : Nat, k <= ks.length /\ v = .int .i64 k /\ ∃ S', SB W w wr p T S S' (L ++ So.wFs (ks.take k)) (N ++ Qy (ks.take k)) w.heap.size 24 #[.int .i64 oi, vs name, .int .i64 (cm : Int), .int .i64 (m : Int), .slice A1 ks.length p1]) (fun v _ => ks.length - (intOf v).toNat)
   case atStart => exact ⟨0, Nat.zero_le _, rfl, S, by have := dX.out; simpa [So.wFs, Qy] using this⟩
   case round =>
    obtain ⟨k, hk, rfl, S1, aM⟩ := hrel; have cA := Hi aM; have aC := Hi aM.wr.below; have x1 := lHp aM.bx; clear aM
    by_cases aT : k < ks.length
    · obtain ⟨t, ht⟩ := gLt aT; have cW := Hi ht; have bB : ks ≠ [] := by rintro rfl; simp at aT
      have bA : ups ks ≠ [] := by
       intro e; have := congrArg List.length e; rw [Z3] at this; simp at this; exact bB this
      obtain ⟨b, q, rfl, bF, cR⟩ := HK.out.resolve_left bA; obtain ⟨cs, hc, aR⟩ := cR.kids ht; have fE := Yq ht; have cJ := I1 dY.out ht; have dH := So.Ir (ks.take k); have dG := Yb (ks.take k); have dW := Hi cJ; have bY := Hi aR; obtain ⟨o1, n1, c1, m1, k1⟩ := t; rw [up] at aR; obtain ⟨B1, q1, rfl, -, -⟩ := aR; rw [Z3] at hc bY; obtain ⟨kl, bT⟩ : ∃ kl, k1.length = kl := ⟨_, rfl⟩
      obtain ⟨i1, cS⟩ : ∃ i1 : Int, (o1 : Int) = i1 := ⟨_, rfl⟩
      obtain ⟨ci, eQ⟩ : ∃ ci : Int, (c1 : Int) = ci := ⟨_, rfl⟩
      obtain ⟨mi, cQ⟩ : ∃ mi : Int, (m1 : Int) = mi := ⟨_, rfl⟩
      have dT : Hid (tcX true (o1 : Int) n1 (c1 : Int) (m1 : Int) (.slice B1 k1.length q1) = [.int .i64 i1, vs n1, .int .i64 ci, .int .i64 mi, .slice B1 kl q1]) := Hi (by rw [bT, cS, eQ, cQ]; rfl); rw [dT.out] at hc bY; have z0 : wr.cell? ⟨b, q + k * 5, none⟩ = some (.int .i64 i1) := (aC.out.cell (p := ⟨b, q + k * 5, none⟩) bF).trans (hc 0 _ rfl); have z1 : wr.cell? ⟨b, q + k * 5 + 1, none⟩ = some (vs n1) := (aC.out.cell (p := ⟨b, q + k * 5 + 1, none⟩) bF).trans (hc 1 _ rfl); have z2 : wr.cell? ⟨b, q + k * 5 + 2, none⟩ = some (.int .i64 ci) := (aC.out.cell (p := ⟨b, q + k * 5 + 2, none⟩) bF).trans (hc 2 _ rfl); have z3 : wr.cell? ⟨b, q + k * 5 + 3, none⟩ = some (.int .i64 mi) := (aC.out.cell (p := ⟨b, q + k * 5 + 3, none⟩) bF).trans (hc 3 _ rfl); have z4 : wr.cell? ⟨b, q + k * 5 + 4, none⟩ = some (.slice B1 kl q1) := (aC.out.cell (p := ⟨b, q + k * 5 + 4, none⟩) bF).trans (hc 4 _ rfl); have aN : (k : Int) < ks.length := (by omega)
      have dL : (0 : Int) <= k := (by omega)
      have dN : b < wr.heap.size := by have := aC.out.size; omega
      have bZ := Hi (IH.out (.mk o1 n1 c1 m1 k1) [.int .i64 i1, vs n1, .int .i64 ci, .int .i64 mi, .slice B1 kl q1] (wr.alloc (.cells #[.int .i64 i1, vs n1, .int .i64 ci, .int .i64 mi, .slice B1 kl q1] 24)) p T S1 (L ++ So.wFs (ks.take k)) (N ++ Qy (ks.take k)) (by omega) dW.out (by simp only [List.length_append]; omega) (by simp only [List.length_append]; omega) bY.out (cA.out.wr.alloc _)); have eC := Hi (So.Hf cW.out); have eB := Hi (U0 cW.out); clear hc cR bB bA bT cS eQ cQ cJ ht; go_wp2_with fail; refine bZ.out.mono ?_; rintro e w6 ⟨rfl, S6, cG, cT⟩; have eF := Hi ((cA.out.alloc (.cells #[.int .i64 i1, vs n1, .int .i64 ci, .int .i64 mi, .slice B1 kl q1] 24)).step cG cT); clear cG cT; go_wp2_with fail; refine ⟨⟨k + 1, by omega, by go_num, S6, ?_⟩, by simp [intOf]; omega⟩; rw [eC.out, eB.out, <- List.append_assoc, <- List.append_assoc]; exact eF.out
    · have bV : k = ks.length := by omega
      subst bV; have bR : ¬ ((ks.length : Nat) : Int) < ks.length := (by omega)
      have dH := So.Ir ks; have dG := Yb ks; have aE : Hid (SB W w wr p T S S1 (L ++ So.wFs ks) (N ++ Qy ks) w.heap.size 24 #[.int .i64 oi, vs name, .int .i64 (cm : Int), .int .i64 (m : Int), .slice A1 ks.length p1]) := Hi (by have := cA.out; rwa [List.take_length] at this); obtain ⟨LP, bX⟩ : ∃ LP, L ++ So.wFs ks = LP := ⟨_, rfl⟩
      obtain ⟨NP, bW⟩ : ∃ NP, N ++ Qy ks = NP := ⟨_, rfl⟩
      have dR : LP.length <= L.length + 3 * sizes ks := by rw [<- bX, List.length_append]; omega
      have dQ : NP.length <= N.length + sizes ks := by rw [<- bW, List.length_append]; omega
      rw [bX, bW] at aE; have aH : Hid (L ++ So.wF (.mk op name cm m ks) = LP ++ Re op name cm m ks.length) := Hi (by rw [dS.out, <- bX, List.append_assoc]); have aI : Hid (N ++ Ql (.mk op name cm m ks) = NP ++ Vf op name) := Hi (by rw [eD.out, <- bW, List.append_assoc]); have zo := cOb (o := 0) aE.out.bx rfl; have zn := cOb (o := 1) aE.out.bx rfl; have zm := cOb (o := 3) aE.out.bx rfl; have zk := cOb (o := 4) aE.out.bx rfl; obtain ⟨rfl, rfl⟩ | ⟨rfl, rfl⟩ | ⟨rfl, rfl⟩ | ⟨rfl, rfl⟩ | ⟨rfl, rfl⟩ | ⟨rfl, rfl⟩ | ⟨rfl, rfl⟩ := eA.out
      · go_wp2_with fail; refine (Xy W _ p T S1 LP NP [121, 101, 115] _ rfl aE.out.wr (by simp; omega)).mono ?_; rintro e w3 ⟨rfl, S3, hw, hf⟩; have aB := Hi (aE.out.step hw hf); clear hw hf zo zn zm zk x1; go_wp2_with fail; go_end0; exact aB.out.post (by rw [aH.out]; simp [Re]) (by rw [aI.out]; simp [Vf])
      · go_wp2_with fail; refine (Xy W _ p T S1 LP NP [110, 111] _ rfl aE.out.wr (by simp; omega)).mono ?_; rintro e w3 ⟨rfl, S3, hw, hf⟩; have aB := Hi (aE.out.step hw hf); clear hw hf zo zn zm zk x1; go_wp2_with fail; go_end0; exact aB.out.post (by rw [aH.out]; simp [Re]) (by rw [aI.out]; simp [Vf])
      · obtain ⟨fN, fM, fH⟩ := dZ.out rfl; obtain ⟨sg, dF⟩ : ∃ sg, So.qdy.getD (cm - 1) [] = sg := ⟨_, rfl⟩
        have dB : ∀ w, (Instr.index 101 (.agg #[vs [], vs [101, 113, 117, 97, 108], vs [117, 110, 108, 105, 107, 101], vs [98, 101, 108, 111, 119], vs [109, 111, 115, 116], vs [97, 98, 111, 118, 101], vs [108, 101, 97, 115, 116]]) (.int .i64 (cm : Int))).run Tryz.prog w = .ok (vs sg) w := by
         obtain rfl | rfl | rfl | rfl | rfl | rfl : cm = 1 \/ cm = 2 \/ cm = 3 \/ cm = 4 \/ cm = 5 \/ cm = 6 := by omega
         all_goals
          subst dF; exact fun _ => by kernel_rfl
        have fS := Hi dF; clear dF; go_wp2_with fail; go_still_tail 5, (by kernel_rfl)
        change wpList _ _ _ _ _ wr.drew
        go_wp2_with fail; refine (Wz W _ p T S1 LP NP name (aE.out.wr.keep (Below.refl _ _).drew) (by omega) (by omega)).mono ?_; rintro e w3 ⟨rfl, S3, hw, hf⟩; have aB := Hi (aE.out.step hw ((J8.of_below S1 ((Below.refl wr.heap.size wr).drew)).trans hf)); clear hw hf zo zn zm zk x1; have x3 := lHp aB.out.bx; have xm := cOb (o := 3) aB.out.bx rfl; go_wp2_with fail; go_still_tail 5, (by kernel_rfl)
        change wpList _ _ _ _ _ w3.drew
        go_wp2_with fail; refine (Ul W _ p T S3 (LP ++ [name]) (NP ++ [name]) m (aB.out.wr.keep (Below.refl _ _).drew) (by omega) (by simp; omega) HT.out).mono ?_; rintro e w4 ⟨rfl, S4, hw, hf⟩; have bP := Hi (aB.out.step hw ((J8.of_below S3 ((Below.refl w3.heap.size w3).drew)).trans hf)); clear hw hf x3 xm; have x4 := lHp bP.out.bx; have xc := cOb (o := 2) bP.out.bx rfl; go_wp2_with fail; go_region_held3 (fun w' => w'.cell? ⟨w.heap.size, 2, none⟩ = some (.int .i64 (cm : Int))) (go_keep) ((go_at_call 27; refine (Z9 W _ p T S4 (LP ++ [name] ++ [dec m]) (NP ++ [name]) [sg] _ 1 (bP.out.wr.keep (((Below.refl _ _).alloc (lR _) _).drew)) Zm (by simp; omega)).mono ?_; rintro e w5 ⟨rfl, S5, hw, hf⟩; have aQ := Hi (bP.out.step hw ((J8.of_below S4 (((Below.refl w4.heap.size w4).alloc (lR _) _).drew)).trans hf)); have q2 := cOb (o := 2) aQ.out.bx rfl; clear hw hf))
        clear x4 xc; go_wp2_with fail; go_end0; exact aQ.out.post (by rw [aH.out]; rw [<- fS.out]; simp [Re]) (by rw [aI.out]; simp [Vf])
      · go_wp2_with fail; go_still_tail 5, (by kernel_rfl)
        change wpList _ _ _ _ _ wr.drew
        go_wp2_with fail; refine (Wz W _ p T S1 LP NP name (aE.out.wr.keep (Below.refl _ _).drew) (by omega) (by omega)).mono ?_; rintro e w3 ⟨rfl, S3, hw, hf⟩; have aB := Hi (aE.out.step hw ((J8.of_below S1 ((Below.refl wr.heap.size wr).drew)).trans hf)); clear hw hf zo zn zm zk x1; go_wp2_with fail; refine (Xy W _ p T S3 (LP ++ [name]) (NP ++ [name]) [100, 101, 102, 105, 110, 101, 100] _ rfl aB.out.wr (by simp; omega)).mono ?_; rintro e w4 ⟨rfl, S4, hw, hf⟩; have bP := Hi (aB.out.step hw hf); clear hw hf; go_wp2_with fail; go_end0; exact bP.out.post (by rw [aH.out]; simp [Re]) (by rw [aI.out]; simp [Vf])
      · go_wp2_with fail; refine (Xy W _ p T S1 LP NP [110, 101, 103, 97, 116, 101, 100] _ rfl aE.out.wr (by simp; omega)).mono ?_; rintro e w3 ⟨rfl, S3, hw, hf⟩; have aB := Hi (aE.out.step hw hf); clear hw hf zo zn zm zk x1; go_wp2_with fail; go_end0; exact aB.out.post (by rw [aH.out]; simp [Re]) (by rw [aI.out]; simp [Vf])
      · go_wp2_with fail; refine (Mi W _ p T S1 LP NP [97, 108, 108] ks.length aE.out.wr (by omega) (by omega) HT.out).mono ?_; rintro e w3 ⟨rfl, S3, hw, hf⟩; have aB := Hi (aE.out.step hw hf); clear hw hf zo zn zm zk x1; go_wp2_with fail; go_end0; exact aB.out.post (by rw [aH.out]; simp [Re]) (by rw [aI.out]; simp [Vf])
      · go_wp2_with fail; refine (Mi W _ p T S1 LP NP [97, 110, 121] ks.length aE.out.wr (by omega) (by omega) HT.out).mono ?_; rintro e w3 ⟨rfl, S3, hw, hf⟩; have aB := Hi (aE.out.step hw hf); clear hw hf zo zn zm zk x1; go_wp2_with fail; go_end0; exact aB.out.post (by rw [aH.out]; simp [Re]) (by rw [aI.out]; simp [Vf])
end
set_option maxRecDepth 20000
set_option maxHeartbeats 16000000
section
open Go.RowKit
attribute [local go_sem ↓] Go.wp_at_zero Go.wp_at_succ
def Od (op : Nat) (name : Qa) (n l : Nat) : List Qa := if op = 1 then [[97, 108, 119, 97, 121, 115]] else if op = 2 then [[110, 101, 118, 101, 114]]
 else if op = 3 then [dec n, [100, 97, 121]] else if op = 4 \/ op = 5 \/ op = 6 \/ op = 7 then [name, So.Cl.getD (op - 4) []]
 else if op = 8 then [So.wAll, dec l] else if op = 9 then [So.wAny, dec l] else []
theorem qc3 {op : Nat} {name : Qa} {cm m : Nat} {ks : List Qb} (h : Ja (.mk op name cm m ks) = true) : Qo (.mk op name cm m ks) = Qz ks ++ Wa op name := by
 obtain ⟨-, -, h3, -⟩ := O0 h; rw [Qo]; unfold Wa; rcases h3 with rfl | h3
 · simp [Qz]
 · rw [if_neg (by omega)]; simp
theorem Sz (W : World) (ht : Xp W) : ∀ (M : Nat) (t : Qb) (cs : List Value) (w : World) (p : Nat) (T : TypeId) (S : Nat -> Prop) (L N : List Qa), t.size <= M -> Ja t = true -> L.length + 6 * t.size <= 900000 -> N.length + t.size <= 900000 -> RdX false W cs (up t) -> Wr W w p T S L N ->
 Calls Tryz.prog 46 #[.pointer (some ⟨p, 0, none⟩), .agg cs.toArray] w (Zy W w p T S (L ++ So.wS t) (N ++ Qo t)) := by
 intro M
 induction M with
 | zero =>
   intro t cs w p T S L N hM; have := Zj t; omega
 | succ M ih =>
   intro t cs w p T S L N hM hs bS dK hr hw; have IH := Hi ih; obtain ⟨op, name, cm, m, ks⟩ := t; rw [up] at hr; obtain ⟨A1, p1, rfl, -, aN⟩ := hr; have HK := Hi aN; rw [Z3] at *; have eM := Un ks; simp only [Qb.size] at hM bS dK; simp only [tcX]; obtain ⟨oi, cO⟩ : ∃ oi : Int, (op : Int) = oi := ⟨_, rfl⟩
   rw [cO]; have dX : Hid (SB W w (w.alloc (.cells #[.int .i64 oi, vs name, .int .i64 (m : Int), .slice A1 ks.length p1] 28)) p T S S L N w.heap.size 28 #[.int .i64 oi, vs name, .int .i64 (m : Int), .slice A1 ks.length p1]) := Hi (SB.start hw); obtain ⟨s1, s2, s3, s4⟩ := O0 hs; have dZ := Hi s2; have fT := Hi s3; have dY := Hi s4; have dS : Hid (So.wS (.mk op name cm m ks) = So.wSs ks ++ Od op name m ks.length) := Hi (by rw [So.wS]; rfl); have eD := Hi (qc3 hs); have HT := Hi ht; have cN : (op = 1 /\ oi = 1) \/ (op = 2 /\ oi = 2) \/ (op = 3 /\ oi = 3) \/ (op = 4 /\ oi = 4) \/ (op = 5 /\ oi = 5) \/ (op = 6 /\ oi = 6) \/ (op = 7 /\ oi = 7) \/ (op = 8 /\ oi = 8) \/ (op = 9 /\ oi = 9) := by omega
   have eA := Hi cN; clear ih aN hs hw ht s1 s2 s3 s4 cO cN; go_enter Tryz.func46, Tryz.ntmps46
   go_wp2_with fail; go_loopw [9] (fun v wr => ∃ k : Nat, k <= ks.length /\ v = .int .i64 k /\ ∃ S', SB W w wr p T S S' (L ++ So.wSs (ks.take k)) (N ++ Qz (ks.take k)) w.heap.size 28 #[.int .i64 oi, vs name, .int .i64 (m : Int), .slice A1 ks.length p1]) (fun v _ => ks.length - (intOf v).toNat)
   case atStart => exact ⟨0, Nat.zero_le _, rfl, S, by have := dX.out; simpa [So.wSs, Qz] using this⟩
   case round =>
    obtain ⟨k, hk, rfl, S1, aM⟩ := hrel; have cA := Hi aM; have aC := Hi aM.wr.below; have x1 := lHp aM.bx; clear aM
    by_cases aT : k < ks.length
    · obtain ⟨t, ht⟩ := gLt aT; have cW := Hi ht; have bB : ks ≠ [] := by rintro rfl; simp at aT
      have bA : ups ks ≠ [] := by
       intro e; have := congrArg List.length e; rw [Z3] at this; simp at this; exact bB this
      obtain ⟨b, q, rfl, bF, cR⟩ := HK.out.resolve_left bA; obtain ⟨cs, hc, aR⟩ := cR.kids ht; have fE := Yq ht; have cJ := Iz dY.out ht; have dH := So.Ip (ks.take k); have dG := Ya (ks.take k); have dW := Hi cJ; have bY := Hi aR; obtain ⟨o1, n1, c1, m1, k1⟩ := t; rw [up] at aR; obtain ⟨B1, q1, rfl, -, -⟩ := aR; rw [Z3] at hc bY; obtain ⟨kl, bT⟩ : ∃ kl, k1.length = kl := ⟨_, rfl⟩
      obtain ⟨i1, cS⟩ : ∃ i1 : Int, (o1 : Int) = i1 := ⟨_, rfl⟩
      obtain ⟨mi, cQ⟩ : ∃ mi : Int, (m1 : Int) = mi := ⟨_, rfl⟩
      have dT : Hid (tcX false (o1 : Int) n1 (c1 : Int) (m1 : Int) (.slice B1 k1.length q1) = [.int .i64 i1, vs n1, .int .i64 mi, .slice B1 kl q1]) := Hi (by rw [bT, cS, cQ]; rfl); rw [dT.out] at hc bY; have z0 : wr.cell? ⟨b, q + k * 4, none⟩ = some (.int .i64 i1) := (aC.out.cell (p := ⟨b, q + k * 4, none⟩) bF).trans (hc 0 _ rfl); have z1 : wr.cell? ⟨b, q + k * 4 + 1, none⟩ = some (vs n1) := (aC.out.cell (p := ⟨b, q + k * 4 + 1, none⟩) bF).trans (hc 1 _ rfl); have z2 : wr.cell? ⟨b, q + k * 4 + 2, none⟩ = some (.int .i64 mi) := (aC.out.cell (p := ⟨b, q + k * 4 + 2, none⟩) bF).trans (hc 2 _ rfl); have z3 : wr.cell? ⟨b, q + k * 4 + 3, none⟩ = some (.slice B1 kl q1) := (aC.out.cell (p := ⟨b, q + k * 4 + 3, none⟩) bF).trans (hc 3 _ rfl); have aN : (k : Int) < ks.length := (by omega)
      have dL : (0 : Int) <= k := (by omega)
      have dN : b < wr.heap.size := by have := aC.out.size; omega
      have bZ := Hi (IH.out (.mk o1 n1 c1 m1 k1) [.int .i64 i1, vs n1, .int .i64 mi, .slice B1 kl q1] (wr.alloc (.cells #[.int .i64 i1, vs n1, .int .i64 mi, .slice B1 kl q1] 28)) p T S1 (L ++ So.wSs (ks.take k)) (N ++ Qz (ks.take k)) (by omega) dW.out (by simp only [List.length_append]; omega) (by simp only [List.length_append]; omega) bY.out (cA.out.wr.alloc _)); have eC := Hi (So.Hd cW.out); have eB := Hi (Uz cW.out); clear hc cR bB bA bT cS cQ cJ ht; go_wp2_with fail; refine bZ.out.mono ?_; rintro e w6 ⟨rfl, S6, cG, cT⟩; have eF := Hi ((cA.out.alloc (.cells #[.int .i64 i1, vs n1, .int .i64 mi, .slice B1 kl q1] 28)).step cG cT); clear cG cT; go_wp2_with fail; refine ⟨⟨k + 1, by omega, by go_num, S6, ?_⟩, by simp [intOf]; omega⟩; rw [eC.out, eB.out, <- List.append_assoc, <- List.append_assoc]; exact eF.out
    · have bV : k = ks.length := by omega
      subst bV; have bR : ¬ ((ks.length : Nat) : Int) < ks.length := (by omega)
      have dH := So.Ip ks; have dG := Ya ks; have aE : Hid (SB W w wr p T S S1 (L ++ So.wSs ks) (N ++ Qz ks) w.heap.size 28 #[.int .i64 oi, vs name, .int .i64 (m : Int), .slice A1 ks.length p1]) := Hi (by have := cA.out; rwa [List.take_length] at this); obtain ⟨LP, bX⟩ : ∃ LP, L ++ So.wSs ks = LP := ⟨_, rfl⟩
      obtain ⟨NP, bW⟩ : ∃ NP, N ++ Qz ks = NP := ⟨_, rfl⟩
      have dR : LP.length <= L.length + 3 * sizes ks := by rw [<- bX, List.length_append]; omega
      have dQ : NP.length <= N.length + sizes ks := by rw [<- bW, List.length_append]; omega
      rw [bX, bW] at aE; have aH : Hid (L ++ So.wS (.mk op name cm m ks) = LP ++ Od op name m ks.length) := Hi (by rw [dS.out, <- bX, List.append_assoc]); have aI : Hid (N ++ Qo (.mk op name cm m ks) = NP ++ Wa op name) := Hi (by rw [eD.out, <- bW, List.append_assoc]); have zo := cOb (o := 0) aE.out.bx rfl; have zn := cOb (o := 1) aE.out.bx rfl; have zm := cOb (o := 2) aE.out.bx rfl; have zk := cOb (o := 3) aE.out.bx rfl; obtain ⟨rfl, rfl⟩ | ⟨rfl, rfl⟩ | ⟨rfl, rfl⟩ | ⟨rfl, rfl⟩ | ⟨rfl, rfl⟩ | ⟨rfl, rfl⟩ | ⟨rfl, rfl⟩ | ⟨rfl, rfl⟩ | ⟨rfl, rfl⟩ := eA.out
      · go_wp2_with fail; refine (Xy W _ p T S1 LP NP [97, 108, 119, 97, 121, 115] _ rfl aE.out.wr (by simp; omega)).mono ?_; rintro e w3 ⟨rfl, S3, hw, hf⟩; have aB := Hi (aE.out.step hw hf); clear hw hf zo zn zm zk x1; go_wp2_with fail; go_end0; exact aB.out.post (by rw [aH.out]; simp [Od]) (by rw [aI.out]; simp [Wa])
      · go_wp2_with fail; refine (Xy W _ p T S1 LP NP [110, 101, 118, 101, 114] _ rfl aE.out.wr (by simp; omega)).mono ?_; rintro e w3 ⟨rfl, S3, hw, hf⟩; have aB := Hi (aE.out.step hw hf); clear hw hf zo zn zm zk x1; go_wp2_with fail; go_end0; exact aB.out.post (by rw [aH.out]; simp [Od]) (by rw [aI.out]; simp [Wa])
      · have fH := dZ.out; go_wp2_with fail; go_still_tail 5, (by kernel_rfl)
        change wpList _ _ _ _ _ wr.drew
        go_wp2_with fail; refine (Ul W _ p T S1 LP NP m (aE.out.wr.keep (Below.refl _ _).drew) (by omega) (by simp; omega) HT.out).mono ?_; rintro e w3 ⟨rfl, S3, hw, hf⟩; have aB := Hi (aE.out.step hw ((J8.of_below S1 ((Below.refl wr.heap.size wr).drew)).trans hf)); clear hw hf zo zn zm zk x1; go_wp2_with fail; refine (Xy W _ p T S3 (LP ++ [dec m]) NP [100, 97, 121] _ rfl aB.out.wr (by simp; omega)).mono ?_; rintro e w4 ⟨rfl, S4, hw, hf⟩; have bP := Hi (aB.out.step hw hf); clear hw hf; go_wp2_with fail; go_end0; exact bP.out.post (by rw [aH.out]; simp [Od]) (by rw [aI.out]; simp [Wa])
      · have dB : ∀ w, (Instr.index 102 (.agg #[vs [], vs [], vs [], vs [], vs [100, 101, 99, 114, 101, 101], vs [101, 118, 101, 110, 116], vs [98, 101, 103, 117, 110], vs [111, 118, 101, 114]]) (.int .i64 4)).run Tryz.prog w = .ok (vs [100, 101, 99, 114, 101, 101]) w := fun _ => by kernel_rfl
        go_wp2_with fail; go_still_tail 5, (by kernel_rfl)
        change wpList _ _ _ _ _ wr.drew
        go_wp2_with fail; refine (Wz W _ p T S1 LP NP name (aE.out.wr.keep (Below.refl _ _).drew) (by omega) (by omega)).mono ?_; rintro e w3 ⟨rfl, S3, hw, hf⟩; have aB := Hi (aE.out.step hw ((J8.of_below S1 ((Below.refl wr.heap.size wr).drew)).trans hf)); clear hw hf zo zn zm zk x1; have x3 := lHp aB.out.bx; have xc := cOb (o := 0) aB.out.bx rfl; go_wp2_with fail; go_region_held3 (fun w' => w'.cell? ⟨w.heap.size, 0, none⟩ = some (.int .i64 4)) (go_keep) ((go_at_call 27; refine (Z9 W _ p T S3 (LP ++ [name]) (NP ++ [name]) [[100, 101, 99, 114, 101, 101]] _ 1 (aB.out.wr.keep (((Below.refl _ _).alloc (lR _) _).drew)) Zm (by simp; omega)).mono ?_; rintro e w5 ⟨rfl, S5, hw, hf⟩; have aQ := Hi (aB.out.step hw ((J8.of_below S3 (((Below.refl w3.heap.size w3).alloc (lR _) _).drew)).trans hf)); have q2 := cOb (o := 0) aQ.out.bx rfl; clear hw hf))
        clear x3 xc; go_wp2_with fail; go_end0; exact aQ.out.post (by rw [aH.out]; simp [Od, So.Cl]) (by rw [aI.out]; simp [Wa])
      · have dB : ∀ w, (Instr.index 102 (.agg #[vs [], vs [], vs [], vs [], vs [100, 101, 99, 114, 101, 101], vs [101, 118, 101, 110, 116], vs [98, 101, 103, 117, 110], vs [111, 118, 101, 114]]) (.int .i64 5)).run Tryz.prog w = .ok (vs [101, 118, 101, 110, 116]) w := fun _ => by kernel_rfl
        go_wp2_with fail; go_still_tail 5, (by kernel_rfl)
        change wpList _ _ _ _ _ wr.drew
        go_wp2_with fail; refine (Wz W _ p T S1 LP NP name (aE.out.wr.keep (Below.refl _ _).drew) (by omega) (by omega)).mono ?_; rintro e w3 ⟨rfl, S3, hw, hf⟩; have aB := Hi (aE.out.step hw ((J8.of_below S1 ((Below.refl wr.heap.size wr).drew)).trans hf)); clear hw hf zo zn zm zk x1; have x3 := lHp aB.out.bx; have xc := cOb (o := 0) aB.out.bx rfl; go_wp2_with fail; go_region_held3 (fun w' => w'.cell? ⟨w.heap.size, 0, none⟩ = some (.int .i64 5)) (go_keep) ((go_at_call 27; refine (Z9 W _ p T S3 (LP ++ [name]) (NP ++ [name]) [[101, 118, 101, 110, 116]] _ 1 (aB.out.wr.keep (((Below.refl _ _).alloc (lR _) _).drew)) Zm (by simp; omega)).mono ?_; rintro e w5 ⟨rfl, S5, hw, hf⟩; have aQ := Hi (aB.out.step hw ((J8.of_below S3 (((Below.refl w3.heap.size w3).alloc (lR _) _).drew)).trans hf)); have q2 := cOb (o := 0) aQ.out.bx rfl; clear hw hf))
        clear x3 xc; go_wp2_with fail; go_end0; exact aQ.out.post (by rw [aH.out]; simp [Od, So.Cl]) (by rw [aI.out]; simp [Wa])
      · have dB : ∀ w, (Instr.index 102 (.agg #[vs [], vs [], vs [], vs [], vs [100, 101, 99, 114, 101, 101], vs [101, 118, 101, 110, 116], vs [98, 101, 103, 117, 110], vs [111, 118, 101, 114]]) (.int .i64 6)).run Tryz.prog w = .ok (vs [98, 101, 103, 117, 110]) w := fun _ => by kernel_rfl
        go_wp2_with fail; go_still_tail 5, (by kernel_rfl)
        change wpList _ _ _ _ _ wr.drew
        go_wp2_with fail; refine (Wz W _ p T S1 LP NP name (aE.out.wr.keep (Below.refl _ _).drew) (by omega) (by omega)).mono ?_; rintro e w3 ⟨rfl, S3, hw, hf⟩; have aB := Hi (aE.out.step hw ((J8.of_below S1 ((Below.refl wr.heap.size wr).drew)).trans hf)); clear hw hf zo zn zm zk x1; have x3 := lHp aB.out.bx; have xc := cOb (o := 0) aB.out.bx rfl; go_wp2_with fail; go_region_held3 (fun w' => w'.cell? ⟨w.heap.size, 0, none⟩ = some (.int .i64 6)) (go_keep) ((go_at_call 27; refine (Z9 W _ p T S3 (LP ++ [name]) (NP ++ [name]) [[98, 101, 103, 117, 110]] _ 1 (aB.out.wr.keep (((Below.refl _ _).alloc (lR _) _).drew)) Zm (by simp; omega)).mono ?_; rintro e w5 ⟨rfl, S5, hw, hf⟩; have aQ := Hi (aB.out.step hw ((J8.of_below S3 (((Below.refl w3.heap.size w3).alloc (lR _) _).drew)).trans hf)); have q2 := cOb (o := 0) aQ.out.bx rfl; clear hw hf))
        clear x3 xc; go_wp2_with fail; go_end0; exact aQ.out.post (by rw [aH.out]; simp [Od, So.Cl]) (by rw [aI.out]; simp [Wa])
      · have dB : ∀ w, (Instr.index 102 (.agg #[vs [], vs [], vs [], vs [], vs [100, 101, 99, 114, 101, 101], vs [101, 118, 101, 110, 116], vs [98, 101, 103, 117, 110], vs [111, 118, 101, 114]]) (.int .i64 7)).run Tryz.prog w = .ok (vs [111, 118, 101, 114]) w := fun _ => by kernel_rfl
        go_wp2_with fail; go_still_tail 5, (by kernel_rfl)
        change wpList _ _ _ _ _ wr.drew
        go_wp2_with fail; refine (Wz W _ p T S1 LP NP name (aE.out.wr.keep (Below.refl _ _).drew) (by omega) (by omega)).mono ?_; rintro e w3 ⟨rfl, S3, hw, hf⟩; have aB := Hi (aE.out.step hw ((J8.of_below S1 ((Below.refl wr.heap.size wr).drew)).trans hf)); clear hw hf zo zn zm zk x1; have x3 := lHp aB.out.bx; have xc := cOb (o := 0) aB.out.bx rfl; go_wp2_with fail; go_region_held3 (fun w' => w'.cell? ⟨w.heap.size, 0, none⟩ = some (.int .i64 7)) (go_keep) ((go_at_call 27; refine (Z9 W _ p T S3 (LP ++ [name]) (NP ++ [name]) [[111, 118, 101, 114]] _ 1 (aB.out.wr.keep (((Below.refl _ _).alloc (lR _) _).drew)) Zm (by simp; omega)).mono ?_; rintro e w5 ⟨rfl, S5, hw, hf⟩; have aQ := Hi (aB.out.step hw ((J8.of_below S3 (((Below.refl w3.heap.size w3).alloc (lR _) _).drew)).trans hf)); have q2 := cOb (o := 0) aQ.out.bx rfl; clear hw hf))
        clear x3 xc; go_wp2_with fail; go_end0; exact aQ.out.post (by rw [aH.out]; simp [Od, So.Cl]) (by rw [aI.out]; simp [Wa])
      · go_wp2_with fail; refine (Mi W _ p T S1 LP NP [97, 108, 108] ks.length aE.out.wr (by omega) (by omega) HT.out).mono ?_; rintro e w3 ⟨rfl, S3, hw, hf⟩; have aB := Hi (aE.out.step hw hf); clear hw hf zo zn zm zk x1; go_wp2_with fail; go_end0; exact aB.out.post (by rw [aH.out]; simp [Od]) (by rw [aI.out]; simp [Wa])
      · go_wp2_with fail; refine (Mi W _ p T S1 LP NP [97, 110, 121] ks.length aE.out.wr (by omega) (by omega) HT.out).mono ?_; rintro e w3 ⟨rfl, S3, hw, hf⟩; have aB := Hi (aE.out.step hw hf); clear hw hf zo zn zm zk x1; go_wp2_with fail; go_end0; exact aB.out.post (by rw [aH.out]; simp [Od]) (by rw [aI.out]; simp [Wa])
end
section
mutual
def eqX : TreeI -> TreeI -> Bool
 | .mk op name cmp n ks, .mk op' name' cmp' n' ks' => op == op' && name == name' && cmp == cmp' && n == n' && decide (ks.length = ks'.length) && Gg ks ks'
def Gg : List TreeI -> List TreeI -> Bool
 | [], _ => true
 | _ :: _, [] => true
 | k :: r, k' :: r' => eqX k k' && Gg r r'
end
mutual
theorem Wk : ∀ (t u : TreeI), eqX t u = true ↔ t = u
 | .mk op name cmp n ks, .mk op' name' cmp' n' ks' => by
   rw [eqX]; simp only [Bool.and_eq_true, beq_iff_eq, decide_eq_true_eq, TreeI.mk.injEq]; constructor
   · rintro ⟨⟨⟨⟨⟨h1, h2⟩, h3⟩, h4⟩, h5⟩, h6⟩; exact ⟨h1, h2, h3, h4, (M8 ks ks' h5).1 h6⟩
   · rintro ⟨h1, h2, h3, h4, h5⟩; have hl : ks.length = ks'.length := by rw [h5]
     exact ⟨⟨⟨⟨⟨h1, h2⟩, h3⟩, h4⟩, hl⟩, (M8 ks ks' hl).2 h5⟩
theorem M8 : ∀ (ks us : List TreeI), ks.length = us.length -> (Gg ks us = true ↔ ks = us)
 | [], [], _ => by rw [Gg]; simp
 | [], _ :: _, h => by simp at h
 | _ :: _, [], h => by simp at h
 | k :: r, k' :: r', h => by
   rw [Gg, Bool.and_eq_true, Wk k k', M8 r r' (by simpa using h)]; simp
end
theorem Bp {ks us : List TreeI} {k : Nat} {x y : TreeI} (hx : ks[k]? = some x) (hy : us[k]? = some y) : Gg (ks.drop k) (us.drop k) = (eqX x y && Gg (ks.drop (k + 1)) (us.drop (k + 1))) := by
 obtain ⟨h1, rfl⟩ := List.getElem?_eq_some_iff.1 hx; obtain ⟨h2, rfl⟩ := List.getElem?_eq_some_iff.1 hy; rw [List.drop_eq_getElem_cons h1, List.drop_eq_getElem_cons h2, Gg]
def eqP (p q : Zt) : Bool := p.id == q.id && p.rank == q.rank && p.kind == q.kind && p.name == q.name && p.value == q.value && p.exc == q.exc && eqX p.cond q.cond && eqX p.beg q.beg && eqX p.fin q.fin && eqX p.aga q.aga
theorem C0 (p q : Zt) : eqP p q = true ↔ p = q := by
 unfold eqP; simp only [Bool.and_eq_true, beq_iff_eq, Wk]; constructor
 · rintro ⟨⟨⟨⟨⟨⟨⟨⟨⟨h1, h2⟩, h3⟩, h4⟩, h5⟩, h6⟩, h7⟩, h8⟩, h9⟩, fO⟩; cases p; cases q; simp only at *; subst h1 h2 h3 h4 h5 h6 h7 h8 h9 fO; rfl
 · rintro rfl; simp
end
set_option maxRecDepth 20000
set_option maxHeartbeats 4000000
section
open Go.RowKit
theorem Rs : ∀ t : TreeI, 1 <= t.size
 | .mk _ _ _ _ ks => by rw [TreeI.size]; omega
theorem Og : ∀ (ks : List TreeI), ks.length <= Kb ks
 | [] => by rw [Kb]; simp
 | t :: r => by
   have h1 := Og r; have h2 := Rs t; rw [Kb, List.length_cons]; omega
theorem K0 : ∀ {ks : List TreeI} {k : Nat} {x : TreeI}, ks[k]? = some x -> x.size <= Kb ks
 | [], k, x, h => by simp at h
 | t :: r, 0, x, h => by
   simp at h; subst h; rw [Kb]; omega
 | t :: r, k + 1, x, h => by
   have := K0 (ks := r) (k := k) (by simpa using h); rw [Kb]; omega
theorem Gw : ∀ {ks : List TreeI} {k : Nat} {x : TreeI}, W9 ks -> ks[k]? = some x -> V7 x
 | [], k, x, _, h => by simp at h
 | t :: r, 0, x, hp, h => by
   rw [W9] at hp; simp at h; subst h; exact hp.1
 | t :: r, k + 1, x, hp, h => by
   rw [W9] at hp; exact Gw hp.2 (k := k) (by simpa using h)
theorem qh1 : ∀ (N : Nat) (t u : TreeI) (bN bM : List Value) (w : World), t.size <= N -> t.size <= 1000000 -> RdX true w bN t -> RdX true w bM u ->
 Calls Tryz.prog 50 #[.agg bN.toArray, .agg bM.toArray] w fun e w' => e = .returned (.bool (eqX t u)) /\ Below w.heap.size w w' := by
 intro N
 induction N with
 | zero =>
   intro t u bN bM w hN; cases t; simp [TreeI.size] at hN
 | succ N ih =>
   intro t u bN bM w hN hs cL cK; have IH := Hi ih; obtain ⟨op, name, cm, m, ks⟩ := t; obtain ⟨bQ, name2, cF, m2, us⟩ := u; have bJ := Hi cL; have bI := Hi cK; obtain ⟨A1, p1, rfl, -, aN⟩ := cL; obtain ⟨A2, p2, rfl, -, bU⟩ := cK; have aX := Hi aN; have aW := Hi bU; simp only [TreeI.size] at hN hs; have bT := Og ks; simp only [tcX]; clear ih aN bU
   by_cases h0 : op = bQ
   case neg =>
    have hd : (op != bQ) = true := by simpa using h0
    have aA : eqX (.mk op name cm m ks) (.mk bQ name2 cF m2 us) = false := by
     rw [Bool.eq_false_iff]; intro hh; rw [Wk] at hh; injection hh; contradiction
    rw [aA]; clear aA bJ bI aX aW IH; go_enter Tryz.func50, Tryz.ntmps50
    go_wp2_with fail; go_ret; exact ⟨rfl, ((Below.refl _ _).alloc (lR _) _).alloc (by simp) _⟩
   subst h0
   by_cases h1 : name = name2
   case neg =>
    have hd : (name != name2) = true := by simpa using h1
    have aA : eqX (.mk op name cm m ks) (.mk op name2 cF m2 us) = false := by
     rw [Bool.eq_false_iff]; intro hh; rw [Wk] at hh; injection hh; contradiction
    rw [aA]; clear aA bJ bI aX aW IH; go_enter Tryz.func50, Tryz.ntmps50
    go_wp2_with fail; go_ret; exact ⟨rfl, ((Below.refl _ _).alloc (lR _) _).alloc (by simp) _⟩
   subst h1
   by_cases h2 : cm = cF
   case neg =>
    have hd : (cm != cF) = true := by simpa using h2
    have aA : eqX (.mk op name cm m ks) (.mk op name cF m2 us) = false := by
     rw [Bool.eq_false_iff]; intro hh; rw [Wk] at hh; injection hh; contradiction
    rw [aA]; clear aA bJ bI aX aW IH; go_enter Tryz.func50, Tryz.ntmps50
    go_wp2_with fail; go_ret; exact ⟨rfl, ((Below.refl _ _).alloc (lR _) _).alloc (by simp) _⟩
   subst h2
   by_cases h3 : m = m2
   case neg =>
    have hd : (m != m2) = true := by simpa using h3
    have aA : eqX (.mk op name cm m ks) (.mk op name cm m2 us) = false := by
     rw [Bool.eq_false_iff]; intro hh; rw [Wk] at hh; injection hh; contradiction
    rw [aA]; clear aA bJ bI aX aW IH; go_enter Tryz.func50, Tryz.ntmps50
    go_wp2_with fail; go_ret; exact ⟨rfl, ((Below.refl _ _).alloc (lR _) _).alloc (by simp) _⟩
   subst h3
   by_cases hl : ks.length = us.length
   case neg =>
    have hd : ((ks.length : Int) != (us.length : Int)) = true := by simp; omega
    have aA : eqX (.mk op name cm m ks) (.mk op name cm m us) = false := by
     rw [Bool.eq_false_iff]; intro hh; rw [Wk] at hh; injection hh with _ _ _ _ hh; exact hl (by rw [hh])
    rw [aA]; clear aA bJ bI aX aW IH; go_enter Tryz.func50, Tryz.ntmps50
    go_wp2_with fail; go_ret; exact ⟨rfl, ((Below.refl _ _).alloc (lR _) _).alloc (by simp) _⟩
   have aA : eqX (.mk op name cm m ks) (.mk op name cm m us) = Gg ks us := by rw [eqX]; simp [hl]
   rw [aA]; have HL := Hi hl; have fL : ((ks.length : Int) != (us.length : Int)) = false := by simp; omega
   clear aA hl; go_enter Tryz.func50, Tryz.ntmps50
   go_wp2_with fail; go_loopw [5] (fun v wr => ∃ k : Nat, k <= ks.length /\ v = .int .i64 k /\ Gg ks us = Gg (ks.drop k) (us.drop k) /\ Below ((w.alloc (.cells #[.int .i64 op, vs name, .int .i64 cm, .int .i64 m, .slice A1 ks.length p1] 24)).alloc (.cells #[.int .i64 op, vs name, .int .i64 cm, .int .i64 m, .slice A2 us.length p2] 24)).heap.size ((w.alloc (.cells #[.int .i64 op, vs name, .int .i64 cm, .int .i64 m, .slice A1 ks.length p1] 24)).alloc (.cells #[.int .i64 op, vs name, .int .i64 cm, .int .i64 m, .slice A2 us.length p2] 24)) wr) (fun v _ => ks.length - (intOf v).toNat)
   case atStart => exact ⟨0, Nat.zero_le _, rfl, rfl, Below.refl _ _⟩
   case round =>
    obtain ⟨k, hk, rfl, cU, hb⟩ := hrel; have cC := Hi cU; have e1 : wr.heap[w.heap.size]? = some (.cells #[.int .i64 op, vs name, .int .i64 cm, .int .i64 m, .slice A1 ks.length p1] 24 (0, 0)) := (hb.block _ (by simp; omega)).trans (Z8 (J4 rfl)); have e2 : wr.heap[w.heap.size + 1]? = some (.cells #[.int .i64 op, vs name, .int .i64 cm, .int .i64 m, .slice A2 us.length p2] 24 (0, 0)) := (hb.block _ (by simp)).trans (J4 (by simp)); have c1 := cOb (o := 4) e1 rfl; have c2 := cOb (o := 4) e2 rfl; have l2 := lHp e2; have l1 : w.heap.size < wr.heap.size := by omega
    have aP : Below w.heap.size w wr := ((Below.refl _ _).alloc (lR _) _ |>.alloc (by simp) _).trans (hb.mono (by simp; omega)); have HB := Hi hb; have aC := Hi aP; clear hb e1 e2 aP cU
    by_cases aT : k < ks.length
    · obtain ⟨x, hx⟩ := gLt aT; have bC : k < us.length := by have := HL.out; omega
      obtain ⟨y, hy⟩ := gLt bC; have dE := K0 hx; have bB : ks ≠ [] := by rintro rfl; simp at aT
      have cP : us ≠ [] := by rintro rfl; simp at bC
      have aD := Bp hx hy; have aJ := Hi aD; clear aD; obtain ⟨b1, o1, rfl, bH, bE⟩ := aX.out.resolve_left bB; obtain ⟨b2, o2, rfl, bG, bD⟩ := aW.out.resolve_left cP; obtain ⟨fB, aV, cI⟩ := bE.get hx; obtain ⟨eZ, aU, cH⟩ := bD.get hy; have dV := Hi cI; have dU := Hi cH; obtain ⟨o0, n0, d0, m0, aZ⟩ := x; obtain ⟨o9, n9, d9, m9, aY⟩ := y; obtain ⟨B1, q1, rfl, -, -⟩ := cI; obtain ⟨B2, q2, rfl, -, -⟩ := cH; have eY : wr.cell? ⟨b1, o1 + k * 5, none⟩ = some (.int .i64 o0) := (aC.out.cell (p := ⟨b1, o1 + k * 5, none⟩) bH).trans (aV 0 _ rfl); have eX : wr.cell? ⟨b1, o1 + k * 5 + 1, none⟩ = some (vs n0) := (aC.out.cell (p := ⟨b1, o1 + k * 5 + 1, none⟩) bH).trans (aV 1 _ rfl); have eW : wr.cell? ⟨b1, o1 + k * 5 + 2, none⟩ = some (.int .i64 d0) := (aC.out.cell (p := ⟨b1, o1 + k * 5 + 2, none⟩) bH).trans (aV 2 _ rfl); have eV : wr.cell? ⟨b1, o1 + k * 5 + 3, none⟩ = some (.int .i64 m0) := (aC.out.cell (p := ⟨b1, o1 + k * 5 + 3, none⟩) bH).trans (aV 3 _ rfl); have fZ : wr.cell? ⟨b1, o1 + k * 5 + 4, none⟩ = some (.slice B1 aZ.length q1) := (aC.out.cell (p := ⟨b1, o1 + k * 5 + 4, none⟩) bH).trans (aV 4 _ rfl); have eU : wr.cell? ⟨b2, o2 + k * 5, none⟩ = some (.int .i64 o9) := (aC.out.cell (p := ⟨b2, o2 + k * 5, none⟩) bG).trans (aU 0 _ rfl); have eT : wr.cell? ⟨b2, o2 + k * 5 + 1, none⟩ = some (vs n9) := (aC.out.cell (p := ⟨b2, o2 + k * 5 + 1, none⟩) bG).trans (aU 1 _ rfl); have eS : wr.cell? ⟨b2, o2 + k * 5 + 2, none⟩ = some (.int .i64 d9) := (aC.out.cell (p := ⟨b2, o2 + k * 5 + 2, none⟩) bG).trans (aU 2 _ rfl); have eR : wr.cell? ⟨b2, o2 + k * 5 + 3, none⟩ = some (.int .i64 m9) := (aC.out.cell (p := ⟨b2, o2 + k * 5 + 3, none⟩) bG).trans (aU 3 _ rfl); have fY : wr.cell? ⟨b2, o2 + k * 5 + 4, none⟩ = some (.slice B2 aY.length q2) := (aC.out.cell (p := ⟨b2, o2 + k * 5 + 4, none⟩) bG).trans (aU 4 _ rfl); have dP : b1 < wr.heap.size := by have := aC.out.size; omega
      have dO : b2 < wr.heap.size := by have := aC.out.size; omega
      have aN : (k : Int) < ks.length := (by omega)
      have bU : (k : Int) < us.length := (by omega)
      have dL : (0 : Int) <= k := (by omega)
      have HI : ∀ y, Hid (Calls Tryz.prog 50 #[.agg #[.int .i64 o0, vs n0, .int .i64 d0, .int .i64 m0, .slice B1 aZ.length q1], .agg #[.int .i64 o9, vs n9, .int .i64 d9, .int .i64 m9, .slice B2 aY.length q2]] (World.grew wr y) fun e w' => e = .returned (.bool (eqX (.mk o0 n0 d0 m0 aZ) (.mk o9 n9 d9 m9 aY))) /\ Below (World.grew wr y).heap.size (World.grew wr y) w') := fun y => Hi (by
       have cV : Below w.heap.size w (World.grew wr y) := aC.out.trans ((gBl wr y).mono (by have := aC.out.size; omega)); exact IH.out (.mk o0 n0 d0 m0 aZ) (.mk o9 n9 d9 m9 aY) _ _ _ (by omega) (by omega) (dV.out.keep cV) (dU.out.keep cV))
      clear aV aU bE bD hx hy dE bB cP; cases hv : eqX (.mk o0 n0 d0 m0 aZ) (.mk o9 n9 d9 m9 aY) with
      | true =>
        rw [hv] at aJ; simp only [hv] at HI; clear hv; go_wp2_with fail; refine Je (by kernel_rfl) (by as_aux_lemma => kernel_rfl) ?_
        repeat (go_big_quiet_step ((exact W7 (HI _).out)))
        refine wpQuiet_nil ?_; rintro _ ⟨y, rfl⟩; go_wp2_with fail; exact ⟨⟨k + 1, by omega, by go_num, by rw [cC.out, aJ.out, Bool.true_and], HB.out.trans ((gBl wr y).mono HB.out.size)⟩, by simp [intOf]; omega⟩
      | false =>
        rw [hv] at aJ; simp only [hv] at HI; clear hv; go_wp2_with fail; refine Je (by kernel_rfl) (by as_aux_lemma => kernel_rfl) ?_
        repeat (go_big_quiet_step ((exact W7 (HI _).out)))
        refine wpQuiet_nil ?_; rintro _ ⟨y, rfl⟩; go_wp2_with fail; go_ret; exact ⟨by rw [cC.out, aJ.out, Bool.false_and]; rfl, aC.out.trans ((gBl wr y).mono aC.out.size)⟩
    · have bV : k = ks.length := by omega
      subst bV; have bR : ¬ ((ks.length : Nat) : Int) < ks.length := (by omega)
      go_wp2_with fail; go_ret; exact ⟨by rw [cC.out, List.drop_length, Gg]; rfl, aC.out⟩
theorem Ch : ∀ (N : Nat) (t u : TreeI) (bN bM : List Value) (w : World), t.size <= N -> t.size <= 1000000 -> V7 t -> V7 u -> RdX false w bN t -> RdX false w bM u ->
 Calls Tryz.prog 51 #[.agg bN.toArray, .agg bM.toArray] w fun e w' => e = .returned (.bool (eqX t u)) /\ Below w.heap.size w w' := by
 intro N
 induction N with
 | zero =>
   intro t u bN bM w hN; cases t; simp [TreeI.size] at hN
 | succ N ih =>
   intro t u bN bM w hN hs fG fF cL cK; have IH := Hi ih; obtain ⟨op, name, cm, m, ks⟩ := t; obtain ⟨bQ, name2, cF, m2, us⟩ := u; have bJ := Hi cL; have bI := Hi cK; obtain ⟨A1, p1, rfl, -, aN⟩ := cL; obtain ⟨A2, p2, rfl, -, bU⟩ := cK; obtain ⟨rfl, eK⟩ := fG; obtain ⟨rfl, eJ⟩ := fF; have cY := Hi eK; have cX := Hi eJ; clear eK eJ; have aX := Hi aN; have aW := Hi bU; simp only [TreeI.size] at hN hs; have bT := Og ks; simp only [tcX]; clear ih aN bU
   by_cases h0 : op = bQ
   case neg =>
    have hd : (op != bQ) = true := by simpa using h0
    have aA : eqX (.mk op name 0 m ks) (.mk bQ name2 0 m2 us) = false := by
     rw [Bool.eq_false_iff]; intro hh; rw [Wk] at hh; injection hh; contradiction
    rw [aA]; clear aA bJ bI aX aW IH cY cX; go_enter Tryz.func51, Tryz.ntmps51
    go_wp2_with fail; go_ret; exact ⟨rfl, ((Below.refl _ _).alloc (lR _) _).alloc (by simp) _⟩
   subst h0
   by_cases h1 : name = name2
   case neg =>
    have hd : (name != name2) = true := by simpa using h1
    have aA : eqX (.mk op name 0 m ks) (.mk op name2 0 m2 us) = false := by
     rw [Bool.eq_false_iff]; intro hh; rw [Wk] at hh; injection hh; contradiction
    rw [aA]; clear aA bJ bI aX aW IH cY cX; go_enter Tryz.func51, Tryz.ntmps51
    go_wp2_with fail; go_ret; exact ⟨rfl, ((Below.refl _ _).alloc (lR _) _).alloc (by simp) _⟩
   subst h1
   by_cases h2 : m = m2
   case neg =>
    have hd : (m != m2) = true := by simpa using h2
    have aA : eqX (.mk op name 0 m ks) (.mk op name 0 m2 us) = false := by
     rw [Bool.eq_false_iff]; intro hh; rw [Wk] at hh; injection hh; contradiction
    rw [aA]; clear aA bJ bI aX aW IH cY cX; go_enter Tryz.func51, Tryz.ntmps51
    go_wp2_with fail; go_ret; exact ⟨rfl, ((Below.refl _ _).alloc (lR _) _).alloc (by simp) _⟩
   subst h2
   by_cases hl : ks.length = us.length
   case neg =>
    have hd : ((ks.length : Int) != (us.length : Int)) = true := by simp; omega
    have aA : eqX (.mk op name 0 m ks) (.mk op name 0 m us) = false := by
     rw [Bool.eq_false_iff]; intro hh; rw [Wk] at hh; injection hh with _ _ _ _ hh; exact hl (by rw [hh])
    rw [aA]; clear aA bJ bI aX aW IH cY cX; go_enter Tryz.func51, Tryz.ntmps51
    go_wp2_with fail; go_ret; exact ⟨rfl, ((Below.refl _ _).alloc (lR _) _).alloc (by simp) _⟩
   have aA : eqX (.mk op name 0 m ks) (.mk op name 0 m us) = Gg ks us := by rw [eqX]; simp [hl]
   rw [aA]; have HL := Hi hl; have fL : ((ks.length : Int) != (us.length : Int)) = false := by simp; omega
   clear aA hl; go_enter Tryz.func51, Tryz.ntmps51
   go_wp2_with fail; go_loopw [5] (fun v wr => ∃ k : Nat, k <= ks.length /\ v = .int .i64 k /\ Gg ks us = Gg (ks.drop k) (us.drop k) /\ Below ((w.alloc (.cells #[.int .i64 op, vs name, .int .i64 m, .slice A1 ks.length p1] 28)).alloc (.cells #[.int .i64 op, vs name, .int .i64 m, .slice A2 us.length p2] 28)).heap.size ((w.alloc (.cells #[.int .i64 op, vs name, .int .i64 m, .slice A1 ks.length p1] 28)).alloc (.cells #[.int .i64 op, vs name, .int .i64 m, .slice A2 us.length p2] 28)) wr) (fun v _ => ks.length - (intOf v).toNat)
   case atStart => exact ⟨0, Nat.zero_le _, rfl, rfl, Below.refl _ _⟩
   case round =>
    obtain ⟨k, hk, rfl, cU, hb⟩ := hrel; have cC := Hi cU; have e1 : wr.heap[w.heap.size]? = some (.cells #[.int .i64 op, vs name, .int .i64 m, .slice A1 ks.length p1] 28 (0, 0)) := (hb.block _ (by simp; omega)).trans (Z8 (J4 rfl)); have e2 : wr.heap[w.heap.size + 1]? = some (.cells #[.int .i64 op, vs name, .int .i64 m, .slice A2 us.length p2] 28 (0, 0)) := (hb.block _ (by simp)).trans (J4 (by simp)); have c1 := cOb (o := 3) e1 rfl; have c2 := cOb (o := 3) e2 rfl; have l2 := lHp e2; have l1 : w.heap.size < wr.heap.size := by omega
    have aP : Below w.heap.size w wr := ((Below.refl _ _).alloc (lR _) _ |>.alloc (by simp) _).trans (hb.mono (by simp; omega)); have HB := Hi hb; have aC := Hi aP; clear hb e1 e2 aP cU
    by_cases aT : k < ks.length
    · obtain ⟨x, hx⟩ := gLt aT; have bC : k < us.length := by have := HL.out; omega
      obtain ⟨y, hy⟩ := gLt bC; have dE := K0 hx; have bB : ks ≠ [] := by rintro rfl; simp at aT
      have cP : us ≠ [] := by rintro rfl; simp at bC
      have aD := Bp hx hy; have aJ := Hi aD; clear aD; have fV := Hi (Gw cY.out hx); have fU := Hi (Gw cX.out hy); obtain ⟨b1, o1, rfl, bH, bE⟩ := aX.out.resolve_left bB; obtain ⟨b2, o2, rfl, bG, bD⟩ := aW.out.resolve_left cP; obtain ⟨fB, aV, cI⟩ := bE.get hx; obtain ⟨eZ, aU, cH⟩ := bD.get hy; have dV := Hi cI; have dU := Hi cH; obtain ⟨o0, n0, d0, m0, aZ⟩ := x; obtain ⟨o9, n9, d9, m9, aY⟩ := y; obtain ⟨B1, q1, rfl, -, -⟩ := cI; obtain ⟨B2, q2, rfl, -, -⟩ := cH; have eY : wr.cell? ⟨b1, o1 + k * 4, none⟩ = some (.int .i64 o0) := (aC.out.cell (p := ⟨b1, o1 + k * 4, none⟩) bH).trans (aV 0 _ rfl); have eX : wr.cell? ⟨b1, o1 + k * 4 + 1, none⟩ = some (vs n0) := (aC.out.cell (p := ⟨b1, o1 + k * 4 + 1, none⟩) bH).trans (aV 1 _ rfl); have eW : wr.cell? ⟨b1, o1 + k * 4 + 2, none⟩ = some (.int .i64 m0) := (aC.out.cell (p := ⟨b1, o1 + k * 4 + 2, none⟩) bH).trans (aV 2 _ rfl); have eV : wr.cell? ⟨b1, o1 + k * 4 + 3, none⟩ = some (.slice B1 aZ.length q1) := (aC.out.cell (p := ⟨b1, o1 + k * 4 + 3, none⟩) bH).trans (aV 3 _ rfl); have eU : wr.cell? ⟨b2, o2 + k * 4, none⟩ = some (.int .i64 o9) := (aC.out.cell (p := ⟨b2, o2 + k * 4, none⟩) bG).trans (aU 0 _ rfl); have eT : wr.cell? ⟨b2, o2 + k * 4 + 1, none⟩ = some (vs n9) := (aC.out.cell (p := ⟨b2, o2 + k * 4 + 1, none⟩) bG).trans (aU 1 _ rfl); have eS : wr.cell? ⟨b2, o2 + k * 4 + 2, none⟩ = some (.int .i64 m9) := (aC.out.cell (p := ⟨b2, o2 + k * 4 + 2, none⟩) bG).trans (aU 2 _ rfl); have eR : wr.cell? ⟨b2, o2 + k * 4 + 3, none⟩ = some (.slice B2 aY.length q2) := (aC.out.cell (p := ⟨b2, o2 + k * 4 + 3, none⟩) bG).trans (aU 3 _ rfl); have dP : b1 < wr.heap.size := by have := aC.out.size; omega
      have dO : b2 < wr.heap.size := by have := aC.out.size; omega
      have aN : (k : Int) < ks.length := (by omega)
      have bU : (k : Int) < us.length := (by omega)
      have dL : (0 : Int) <= k := (by omega)
      have HI : ∀ y, Hid (Calls Tryz.prog 51 #[.agg #[.int .i64 o0, vs n0, .int .i64 m0, .slice B1 aZ.length q1], .agg #[.int .i64 o9, vs n9, .int .i64 m9, .slice B2 aY.length q2]] (World.grew wr y) fun e w' => e = .returned (.bool (eqX (.mk o0 n0 d0 m0 aZ) (.mk o9 n9 d9 m9 aY))) /\ Below (World.grew wr y).heap.size (World.grew wr y) w') := fun y => Hi (by
       have cV : Below w.heap.size w (World.grew wr y) := aC.out.trans ((gBl wr y).mono (by have := aC.out.size; omega)); exact IH.out (.mk o0 n0 d0 m0 aZ) (.mk o9 n9 d9 m9 aY) _ _ _ (by omega) (by omega) fV.out fU.out (dV.out.keep cV) (dU.out.keep cV))
      clear aV aU bE bD hx hy dE bB cP; cases hv : eqX (.mk o0 n0 d0 m0 aZ) (.mk o9 n9 d9 m9 aY) with
      | true =>
        rw [hv] at aJ; simp only [hv] at HI; clear hv; go_wp2_with fail; refine Je (by kernel_rfl) (by as_aux_lemma => kernel_rfl) ?_
        repeat (go_big_quiet_step ((exact W7 (HI _).out)))
        refine wpQuiet_nil ?_; rintro _ ⟨y, rfl⟩; go_wp2_with fail; exact ⟨⟨k + 1, by omega, by go_num, by rw [cC.out, aJ.out, Bool.true_and], HB.out.trans ((gBl wr y).mono HB.out.size)⟩, by simp [intOf]; omega⟩
      | false =>
        rw [hv] at aJ; simp only [hv] at HI; clear hv; go_wp2_with fail; refine Je (by kernel_rfl) (by as_aux_lemma => kernel_rfl) ?_
        repeat (go_big_quiet_step ((exact W7 (HI _).out)))
        refine wpQuiet_nil ?_; rintro _ ⟨y, rfl⟩; go_wp2_with fail; go_ret; exact ⟨by rw [cC.out, aJ.out, Bool.false_and]; rfl, aC.out.trans ((gBl wr y).mono aC.out.size)⟩
    · have bV : k = ks.length := by omega
      subst bV; have bR : ¬ ((ks.length : Nat) : Int) < ks.length := (by omega)
      go_wp2_with fail; go_ret; exact ⟨by rw [cC.out, List.drop_length, Gg]; rfl, aC.out⟩
end
set_option maxRecDepth 20000
set_option maxHeartbeats 8000000
section
open Go.RowKit
structure FmW (T Tp : TypeId) (w wc : World) (lb : Nat) (l d : Int) (C : Array Value) : Prop where
 box : wc.heap[w.heap.size]? = some (.cells C T (0, 0))
 lp : wc.heap[w.heap.size + 1]? = some (.cells #[.pointer (some ⟨lb, 0, none⟩)] Tp (0, 0))
 dp : Kq wc (w.heap.size + 1 + 1) d
 left : Kq wc lb l
 eff : Eff lb w wc
theorem FmW.mk' {T Tp Ti : TypeId} {w : World} {lb : Nat} {l l' d : Int} {C : Array Value} (h : Kq w lb l) :
 FmW T Tp w ((((w.setCell ⟨lb, 0, none⟩ (.int .i64 l')).alloc (.cells C T)).alloc (.cells #[.pointer (some ⟨lb, 0, none⟩)] Tp)).alloc (.cells #[.int .i64 d] Ti)) lb l' d C := by
 have aT := h.lt; refine ⟨Z8 (Z8 (J4 (by simp))), Z8 (J4 (by simp)), ⟨Ti, J4 (by simp)⟩, ?_, ?_⟩
 · refine (h.set l').keep ?_; rw [Below.heap_alloc _ _ _ (by simp; omega), Below.heap_alloc _ _ _ (by simp; omega), Below.heap_alloc _ _ _ (by simpa using aT)]
 · exact ((((Eff.refl lb w).setCell _ (Or.inl rfl) _).alloc _).alloc _).alloc _
theorem Oi {ks : List TreeI} {k : Nat} {x : TreeI} (hx : ks[k]? = some x) (l d : Int) : J6 (ks.drop k) l d = if (Jg x l d).1 = true then J6 (ks.drop (k + 1)) (Jg x l d).2 d else (false, (Jg x l d).2) := by
 obtain ⟨h1, rfl⟩ := List.getElem?_eq_some_iff.1 hx; rw [List.drop_eq_getElem_cons h1, J6]
theorem qaj (o1 : Int) (n1 : List UInt8) (d1 m1 : Int) (aL : List TreeI) (B1 : Option Addr) (q1 pb db lb : Nat) (d : Int) (wr : World) (r : Bool × Int) (dD : 0 <= d) (hd : d <= 1000) (Tp : TypeId) (hp : wr.heap[pb]? = some (.cells #[.pointer (some ⟨lb, 0, none⟩)] Tp (0, 0))) (bL : Kq wr db d)
 (aK : Calls Tryz.prog 60 #[.agg #[.int .i64 o1, vs n1, .int .i64 d1, .int .i64 m1, .slice B1 aL.length q1], .pointer (some ⟨lb, 0, none⟩), .int .i64 (d - 1)] (wr.alloc (.cells #[.int .i64 o1, vs n1, .int .i64 d1, .int .i64 m1, .slice B1 aL.length q1] 24)) (Ro (wr.alloc (.cells #[.int .i64 o1, vs n1, .int .i64 d1, .int .i64 m1, .slice B1 aL.length q1] 24)) lb r)) :
 Calls Tryz.prog 98 #[.agg #[.int .i64 o1, vs n1, .int .i64 d1, .int .i64 m1, .slice B1 aL.length q1], .pointer (some ⟨pb, 0, none⟩), .pointer (some ⟨db, 0, none⟩)] wr fun e w' => e = .returned (.bool (!r.1)) /\ Kq w' lb r.2 /\ Eff lb wr w' := by
 have z1 := cOb (o := 0) hp rfl; obtain ⟨z2, -⟩ := bL.cell; have y1 := lHp hp; have y2 := bL.lt; have HF := Hi aK; obtain ⟨r1, r2⟩ := r; clear aK hp bL; go_enter Tryz.func98, Tryz.ntmps98
 go_wp2_with fail; refine HF.out.mono ?_; rintro e w1 ⟨rfl, h1, h2⟩; have H1 := Hi h1; have H2 := Hi h2; clear h1 h2; go_wp2_with fail; go_ret; exact ⟨rfl, H1.out, (Eff.of_below ((Below.refl _ _).alloc (lR _) _)).trans H2.out⟩
theorem qgl (W0 : World) : ∀ (N : Nat) (t : TreeI) (cs : List Value) (l d : Int) (lb : Nat) (w : World), t.size <= N -> t.size <= 1000000 -> 0 <= d -> d <= 1000 -> 0 <= l -> l <= 1000000 -> RdX true W0 cs t -> Below W0.heap.size W0 w -> W0.heap.size <= lb -> Kq w lb l ->
 Calls Tryz.prog 60 #[.agg cs.toArray, .pointer (some ⟨lb, 0, none⟩), .int .i64 d] w (Ro w lb (Jg t l d)) := by
 intro N
 induction N with
 | zero =>
   intro t cs l d lb w hN; have := Rs t; omega
 | succ N ih =>
   intro t cs l d lb w hN fD dD hd gB hl hr hb bK hi; have IH := Hi ih; have HI := Hi hi; have HB := Hi hb; obtain ⟨op, name, cm, m, ks⟩ := t; obtain ⟨A1, p1, rfl, -, aN⟩ := hr; have HK := Hi aN; have cD := hb.size; have fJ := hi.lt; have eM : ks.length <= Kb ks := Og ks; simp only [TreeI.size] at hN fD; simp only [tcX]; obtain ⟨c0, f0⟩ := hi.cell; have dJ : lb < w.heap.size + 1 := by omega
   have dI : lb < w.heap.size + 1 + 1 := by omega
   have gA : ∀ (fn : Fn) (first cap : Array Value) (w : World), (Instr.makeFunc fn first cap).run Tryz.prog w = .ok (.func fn first cap) w := fun _ _ _ _ => rfl; have HF : Hid (FmW 24 97 w ((((w.setCell ⟨lb, 0, none⟩ (.int .i64 (l - 1))).alloc (.cells #[.int .i64 op, vs name, .int .i64 cm, .int .i64 m, .slice A1 ks.length p1] 24)).alloc (.cells #[.pointer (some ⟨lb, 0, none⟩)] 97)).alloc (.cells #[.int .i64 d] 3)) lb (l - 1) d #[.int .i64 op, vs name, .int .i64 cm, .int .i64 m, .slice A1 ks.length p1]) := Hi (FmW.mk' hi); clear ih aN hi hb; go_enter Tryz.func60, Tryz.ntmps60
   go_upto_region 2 with fail; go_cut [3, 4, 5, 6, 7] from 0 (fun s3 s4 s5 s6 s7 wc => s3 = .pointer (some ⟨w.heap.size, 0, none⟩) /\ s4 = .pointer (some ⟨w.heap.size + 1, 0, none⟩) /\ s5 = .pointer (some ⟨w.heap.size + 1 + 1, 0, none⟩) /\ s6 = .bool false /\ s7 = .bool (Lm op cm m) /\ FmW 24 97 w wc lb (l - 1) d #[.int .i64 op, vs name, .int .i64 cm, .int .i64 m, .slice A1 ks.length p1])
   case first =>
    go_wp2_with fail
    all_goals
     go_meet
     case rel =>
      (try subst_vars)
      refine ⟨rfl, rfl, rfl, rfl, ?_, HF.out⟩; refine congrArg Value.bool ?_; rw [Bool.eq_iff_iff]; simp [Lm]
      try omega
   case rest =>
    obtain ⟨rfl, rfl, rfl, rfl, rfl, fK⟩ := hcut; obtain ⟨ts, cE⟩ : ∃ ts, (Lm op cm m) = ts := ⟨_, rfl⟩
    rw [cE]; have fR := Hi cE; clear cE HF c0 f0 dJ dI; obtain ⟨bO, cZ, dC, dA, eP⟩ := fK; have aG := Hi (FmW.mk bO cZ dC dA eP); have z0 := cOb (o := 0) bO rfl; have z1 := cOb (o := 1) bO rfl; have z2 := cOb (o := 2) bO rfl; have z3 := cOb (o := 3) bO rfl; have z4 := cOb (o := 4) bO rfl; have za := cOb (o := 0) cZ rfl; obtain ⟨zb, -⟩ := dC.cell; obtain ⟨zc, -⟩ := dA.cell; have y0 := lHp bO; have y1 := lHp cZ; have y2 := dC.lt; have y3 := dA.lt; clear bO cZ dC dA eP; go_upto_region 3 with fail; go_cut [3, 4, 5, 6, 78] from 0 (fun s3 s4 s5 s6 fC wd => wc = wd /\ s3 = .pointer (some ⟨w.heap.size, 0, none⟩) /\ s4 = .pointer (some ⟨w.heap.size + 1, 0, none⟩) /\ s5 = .pointer (some ⟨w.heap.size + 1 + 1, 0, none⟩) /\ s6 = .bool false /\ fC = .bool (decide (l - 1 < 0 \/ d = 0 \/ Nw op name cm m = true)))
    case first =>
     go_wp2_with fail
     all_goals
      go_meet
      case rel =>
       have cE := fR.out; refine ⟨rfl, rfl, rfl, rfl, rfl, ?_⟩; refine congrArg Value.bool ?_; rw [Bool.eq_iff_iff, decide_eq_true_eq]; unfold Nw; rw [cE]; clear cE
       try subst_vars
       first | (simp [*]; done) | (simp [*]; omega) | (simp; omega) | omega
    case rest =>
     obtain ⟨rfl, rfl, rfl, rfl, rfl, rfl⟩ := hcut
     by_cases aS : l - 1 < 0 \/ d = 0 \/ Nw op name cm m = true
     · rw [decide_eq_true aS]; have aF : Hid (Jg (.mk op name cm m ks) l d = (false, l - 1)) := Hi (by rw [Jg, if_pos aS]); clear aS; go_wp2_with fail; go_ret; rw [aF.out]; exact ⟨rfl, aG.out.left, aG.out.eff⟩
     rw [decide_eq_false aS]; have aO := Hi aS; have bS : 0 <= l - 1 := (by omega)
     have dM : 0 <= d - 1 := (by omega)
     clear aS
     by_cases o1 : op = 1 \/ op = 2 \/ op = 3 \/ op = 4
     · have aF : Hid (Jg (.mk op name cm m ks) l d = (decide (ks.length = 0), l - 1)) := Hi (by rw [Jg, if_neg aO.out]; rw [if_pos o1]); obtain rfl | rfl | rfl | rfl := o1
       all_goals
        go_wp2_with fail; go_ret; rw [aF.out]; refine ⟨?_, aG.out.left, aG.out.eff⟩; refine congrArg (fun b => Ending.returned (.bool b)) ?_; rw [Bool.eq_iff_iff]; simp
     by_cases o5 : op = 5
     · subst o5
       by_cases hk : ks.length = 1
       · have e1 : ((ks.length : Int) != 1) = false := by rw [hk]; rfl
         have eG := Hi hk; clear hk; have aF : Hid (Jg (.mk 5 name cm m ks) l d = J6 ks (l - 1) (d - 1)) := Hi (by rw [Jg, if_neg aO.out]; rw [if_neg (by omega), if_pos (Or.inl ⟨rfl, eG.out⟩)]); go_wp2_with fail; refine (co_f W0 ks A1 p1 98 _ _ (fun k wr => ∃ lk : Int, J6 ks (l - 1) (d - 1) = J6 (ks.drop k) lk (d - 1) /\ 0 <= lk /\ lk <= 1000000 /\ Kq wr lb lk /\ Eff lb wc wr) (fun wr => ∃ lk : Int, J6 ks (l - 1) (d - 1) = (false, lk) /\ Kq wr lb lk /\ Eff lb wc wr) HK.out (by omega) (W5 Tryz.func98 (by kernel_rfl) rfl) (fun k wr ⟨lk, _, _, _, _, he⟩ => HB.out.trans ((aG.out.eff.trans he).below bK cD)) ?_ ⟨l - 1, rfl, bS, by omega, aG.out.left, Eff.refl _ _⟩).mono ?_
         · intro k o1 n1 d1 m1 aL B1 q1 wr hx aR ⟨lk, h1, h2, h3, h4, h5⟩; have eL := K0 hx; have aP : Below W0.heap.size W0 wr := HB.out.trans ((aG.out.eff.trans h5).below bK cD); have cM := (h5.block _ (lHp aG.out.lp) (by omega)).trans aG.out.lp; have bL := aG.out.dp.keep (h5.block _ aG.out.dp.lt (by omega)); have aK := IH.out (.mk o1 n1 d1 m1 aL) _ lk (d - 1) lb (wr.alloc (.cells #[.int .i64 o1, vs n1, .int .i64 d1, .int .i64 m1, .slice B1 aL.length q1] 24)) (by omega) (by omega) dM (by omega) h2 h3 (aR) (aP.alloc aP.size _) bK (h4.keep (Below.heap_alloc _ _ _ h4.lt)); refine (qaj o1 n1 d1 m1 aL B1 q1 _ _ lb d wr _ dD hd _ cM bL aK).mono ?_; rintro e w' ⟨rfl, h6, h7⟩; have aD := Oi hx lk (d - 1); cases hb : (Jg (.mk o1 n1 d1 m1 aL) lk (d - 1)).1 with
           | true =>
             have h8 := Ia _ _ _ hb; exact Or.inl ⟨rfl, (Jg (.mk o1 n1 d1 m1 aL) lk (d - 1)).2, by rw [h1, aD, if_pos hb], h8.1, by omega, h6, h5.trans h7⟩
           | false => exact Or.inr ⟨rfl, (Jg (.mk o1 n1 d1 m1 aL) lk (d - 1)).2, by rw [h1, aD, hb]; rfl, h6, h5.trans h7⟩
         · rintro e w1 (⟨rfl, lk, h1, -, -, h4, h5⟩ | ⟨rfl, lk, h1, h4, h5⟩)
           · have H1 := Hi h1; have H4 := Hi h4; have H5 := Hi h5; clear h1 h4 h5; go_wp2_with fail; go_ret; rw [aF.out, H1.out, List.drop_length, J6]; exact ⟨rfl, H4.out, aG.out.eff.trans H5.out⟩
           · have H1 := Hi h1; have H4 := Hi h4; have H5 := Hi h5; clear h1 h4 h5; go_wp2_with fail; go_ret; rw [aF.out, H1.out]; exact ⟨rfl, H4.out, aG.out.eff.trans H5.out⟩
       · have e1 : ((ks.length : Int) != 1) = true := by simp; omega
         have eG := Hi hk; clear hk; have aF : Hid (Jg (.mk 5 name cm m ks) l d = (false, l - 1)) := Hi (by rw [Jg, if_neg aO.out]; rw [if_neg (by omega), if_neg (by have := eG.out; omega)]); go_wp2_with fail; go_ret; rw [aF.out]; exact ⟨rfl, aG.out.left, aG.out.eff⟩
     by_cases o6 : op = 6
     · subst o6
       by_cases hk : 2 <= ks.length
       · have e1 : ¬ (ks.length : Int) < 2 := by omega
         have aF : Hid (Jg (.mk 6 name cm m ks) l d = J6 ks (l - 1) (d - 1)) := Hi (by rw [Jg, if_neg aO.out]; rw [if_neg (by omega), if_pos (by omega)]); go_wp2_with fail; refine (co_f W0 ks A1 p1 98 _ _ (fun k wr => ∃ lk : Int, J6 ks (l - 1) (d - 1) = J6 (ks.drop k) lk (d - 1) /\ 0 <= lk /\ lk <= 1000000 /\ Kq wr lb lk /\ Eff lb wc wr) (fun wr => ∃ lk : Int, J6 ks (l - 1) (d - 1) = (false, lk) /\ Kq wr lb lk /\ Eff lb wc wr) HK.out (by omega) (W5 Tryz.func98 (by kernel_rfl) rfl) (fun k wr ⟨lk, _, _, _, _, he⟩ => HB.out.trans ((aG.out.eff.trans he).below bK cD)) ?_ ⟨l - 1, rfl, bS, by omega, aG.out.left, Eff.refl _ _⟩).mono ?_
         · intro k o1 n1 d1 m1 aL B1 q1 wr hx aR ⟨lk, h1, h2, h3, h4, h5⟩; have eL := K0 hx; have aP : Below W0.heap.size W0 wr := HB.out.trans ((aG.out.eff.trans h5).below bK cD); have cM := (h5.block _ (lHp aG.out.lp) (by omega)).trans aG.out.lp; have bL := aG.out.dp.keep (h5.block _ aG.out.dp.lt (by omega)); have aK := IH.out (.mk o1 n1 d1 m1 aL) _ lk (d - 1) lb (wr.alloc (.cells #[.int .i64 o1, vs n1, .int .i64 d1, .int .i64 m1, .slice B1 aL.length q1] 24)) (by omega) (by omega) dM (by omega) h2 h3 (aR) (aP.alloc aP.size _) bK (h4.keep (Below.heap_alloc _ _ _ h4.lt)); refine (qaj o1 n1 d1 m1 aL B1 q1 _ _ lb d wr _ dD hd _ cM bL aK).mono ?_; rintro e w' ⟨rfl, h6, h7⟩; have aD := Oi hx lk (d - 1); cases hb : (Jg (.mk o1 n1 d1 m1 aL) lk (d - 1)).1 with
           | true =>
             have h8 := Ia _ _ _ hb; exact Or.inl ⟨rfl, (Jg (.mk o1 n1 d1 m1 aL) lk (d - 1)).2, by rw [h1, aD, if_pos hb], h8.1, by omega, h6, h5.trans h7⟩
           | false => exact Or.inr ⟨rfl, (Jg (.mk o1 n1 d1 m1 aL) lk (d - 1)).2, by rw [h1, aD, hb]; rfl, h6, h5.trans h7⟩
         · rintro e w1 (⟨rfl, lk, h1, -, -, h4, h5⟩ | ⟨rfl, lk, h1, h4, h5⟩)
           · have H1 := Hi h1; have H4 := Hi h4; have H5 := Hi h5; clear h1 h4 h5; go_wp2_with fail; go_ret; rw [aF.out, H1.out, List.drop_length, J6]; exact ⟨rfl, H4.out, aG.out.eff.trans H5.out⟩
           · have H1 := Hi h1; have H4 := Hi h4; have H5 := Hi h5; clear h1 h4 h5; go_wp2_with fail; go_ret; rw [aF.out, H1.out]; exact ⟨rfl, H4.out, aG.out.eff.trans H5.out⟩
       · have e1 : (ks.length : Int) < 2 := by omega
         have aF : Hid (Jg (.mk 6 name cm m ks) l d = (false, l - 1)) := Hi (by rw [Jg, if_neg aO.out]; rw [if_neg (by omega), if_neg (by omega)]); go_wp2_with fail; go_ret; rw [aF.out]; exact ⟨rfl, aG.out.left, aG.out.eff⟩
     by_cases o7 : op = 7
     · subst o7
       by_cases hk : 2 <= ks.length
       · have e1 : ¬ (ks.length : Int) < 2 := by omega
         have aF : Hid (Jg (.mk 7 name cm m ks) l d = J6 ks (l - 1) (d - 1)) := Hi (by rw [Jg, if_neg aO.out]; rw [if_neg (by omega), if_pos (by omega)]); go_wp2_with fail; refine (co_f W0 ks A1 p1 98 _ _ (fun k wr => ∃ lk : Int, J6 ks (l - 1) (d - 1) = J6 (ks.drop k) lk (d - 1) /\ 0 <= lk /\ lk <= 1000000 /\ Kq wr lb lk /\ Eff lb wc wr) (fun wr => ∃ lk : Int, J6 ks (l - 1) (d - 1) = (false, lk) /\ Kq wr lb lk /\ Eff lb wc wr) HK.out (by omega) (W5 Tryz.func98 (by kernel_rfl) rfl) (fun k wr ⟨lk, _, _, _, _, he⟩ => HB.out.trans ((aG.out.eff.trans he).below bK cD)) ?_ ⟨l - 1, rfl, bS, by omega, aG.out.left, Eff.refl _ _⟩).mono ?_
         · intro k o1 n1 d1 m1 aL B1 q1 wr hx aR ⟨lk, h1, h2, h3, h4, h5⟩; have eL := K0 hx; have aP : Below W0.heap.size W0 wr := HB.out.trans ((aG.out.eff.trans h5).below bK cD); have cM := (h5.block _ (lHp aG.out.lp) (by omega)).trans aG.out.lp; have bL := aG.out.dp.keep (h5.block _ aG.out.dp.lt (by omega)); have aK := IH.out (.mk o1 n1 d1 m1 aL) _ lk (d - 1) lb (wr.alloc (.cells #[.int .i64 o1, vs n1, .int .i64 d1, .int .i64 m1, .slice B1 aL.length q1] 24)) (by omega) (by omega) dM (by omega) h2 h3 (aR) (aP.alloc aP.size _) bK (h4.keep (Below.heap_alloc _ _ _ h4.lt)); refine (qaj o1 n1 d1 m1 aL B1 q1 _ _ lb d wr _ dD hd _ cM bL aK).mono ?_; rintro e w' ⟨rfl, h6, h7⟩; have aD := Oi hx lk (d - 1); cases hb : (Jg (.mk o1 n1 d1 m1 aL) lk (d - 1)).1 with
           | true =>
             have h8 := Ia _ _ _ hb; exact Or.inl ⟨rfl, (Jg (.mk o1 n1 d1 m1 aL) lk (d - 1)).2, by rw [h1, aD, if_pos hb], h8.1, by omega, h6, h5.trans h7⟩
           | false => exact Or.inr ⟨rfl, (Jg (.mk o1 n1 d1 m1 aL) lk (d - 1)).2, by rw [h1, aD, hb]; rfl, h6, h5.trans h7⟩
         · rintro e w1 (⟨rfl, lk, h1, -, -, h4, h5⟩ | ⟨rfl, lk, h1, h4, h5⟩)
           · have H1 := Hi h1; have H4 := Hi h4; have H5 := Hi h5; clear h1 h4 h5; go_wp2_with fail; go_ret; rw [aF.out, H1.out, List.drop_length, J6]; exact ⟨rfl, H4.out, aG.out.eff.trans H5.out⟩
           · have H1 := Hi h1; have H4 := Hi h4; have H5 := Hi h5; clear h1 h4 h5; go_wp2_with fail; go_ret; rw [aF.out, H1.out]; exact ⟨rfl, H4.out, aG.out.eff.trans H5.out⟩
       · have e1 : (ks.length : Int) < 2 := by omega
         have aF : Hid (Jg (.mk 7 name cm m ks) l d = (false, l - 1)) := Hi (by rw [Jg, if_neg aO.out]; rw [if_neg (by omega), if_neg (by omega)]); go_wp2_with fail; go_ret; rw [aF.out]; exact ⟨rfl, aG.out.left, aG.out.eff⟩
     have n1 : (op == 1) = false := by simp; omega
     have n2 : (op == 2) = false := by simp; omega
     have n3 : (op == 3) = false := by simp; omega
     have n4 : (op == 4) = false := by simp; omega
     have n5 : (op == 5) = false := by simp; omega
     have n6 : (op == 6) = false := by simp; omega
     have n7 : (op == 7) = false := by simp; omega
     have aF : Hid (Jg (.mk op name cm m ks) l d = (false, l - 1)) := Hi (by rw [Jg, if_neg aO.out]; rw [if_neg o1, if_neg (by omega)]); go_wp2_with fail; go_ret; rw [aF.out]; exact ⟨rfl, aG.out.left, aG.out.eff⟩
