/- Parse. -/
import Derived.Test.YtbicmjmcdnkjhaaGreatDoorJAA22
import Derived.Test.YtbicmjmcdnkjhaaGreatDoorJAA16
set_option linter.unusedVariables false
set_option linter.unusedSimpArgs false
set_option maxRecDepth 100000
set_option maxHeartbeats 4000000
namespace Go.Proofs.YtbicmjmcdnkjhaaGreatDoor
section
open Go.RowKit
@[go_sem] theorem C7 {w : World} {k o : Nat} {n} {u : Value} : (w.setCell ⟨k + 1, o, n⟩ u).blk k = w.blk k := Below.heap_setCell _ _ _ _ (by simp)
@[go_sem] theorem C6 {w : World} {k o : Nat} {n} {u : Value} : (w.setCell ⟨k + 1 + 1, o, n⟩ u).blk k = w.blk k := Below.heap_setCell _ _ _ _ (by simp; omega)
@[go_sem] theorem blk_drew {w : World} {k : Nat} : w.drew.blk k = w.blk k := rfl
abbrev X3 : Array Value := #[.string ⟨#[]⟩, .int .i64 0, .int .i64 0, .string ⟨#[]⟩, .int .i64 0, .int .i64 0, .string ⟨#[]⟩, .int .i64 0, .int .i64 0, .slice none 0 0, .slice none 0 0, .int .i64 0, .string ⟨#[]⟩, .int .i64 0, .slice none 0 0, .int .i64 0, .string ⟨#[]⟩, .int .i64 0, .slice none 0 0, .int .i64 0, .string ⟨#[]⟩, .int .i64 0, .slice none 0 0]
theorem Fd {α : Type} (xs : Array α) (b : Nat) (f : α -> α) (h : ∀ x, xs[b]? = some x -> f x = x) : xs.modify b f = xs := by
 apply Array.ext_getElem?; intro i; rw [Array.getElem?_modify]
 split
 · rename_i e; subst e; cases hx : xs[b]? with
   | none => rfl
   | some x => simp [h x hx]
 · rfl
theorem Dy {W : World} {b : Nat} {C : Array Value} {t : TypeId} {fr : Nat × Nat} (h : W.blk b = some (.cells C t fr)) : W.setRow b C = W := by
 unfold World.blk at h; unfold World.setRow; rw [Fd W.heap b _ (by intro x hx; rw [h] at hx; cases hx; rfl)]
@[go_sem high] theorem qe1 {W : World} {b : Nat} (h : W.blk b = some (.cells X3 30 (0, 0))) : (Ud ⟨b, 0, none⟩ (.agg X3)).run Tryz.prog W = .ok () W := by
 rw [Nt, h, J2 _ _ _ _ _ (by rfl) (by rfl) (by rfl), Dy h]
structure Vx (b : Nat) (W : World) (C : Array Value) (v3 v4 : Value) : Prop where
 r2 : W.blk b = some (.cells C 30 (0, 0))
 r3 : W.heap[b + 1]? = some (.cells #[v3] 33 (0, 0))
 r4 : W.heap[b + 1 + 1]? = some (.cells #[v4] 3 (0, 0))
structure Eff3 (b : Nat) (w w' : World) : Prop where
 os : w'.os = w.os
 tape : w'.tape = w.tape
 output : w'.output = w.output
 size : w.heap.size <= w'.heap.size
 block : ∀ k, k < w.heap.size -> k ≠ b -> k ≠ b + 1 -> k ≠ b + 1 + 1 -> w'.heap[k]? = w.heap[k]?
theorem Hb (b : Nat) (w : World) :
 CallsD Tryz.prog 53 #[.pointer (some ⟨b, 0, none⟩), .pointer (some ⟨b + 1, 0, none⟩), .pointer (some ⟨b + 1 + 1, 0, none⟩)] .returning w fun e u' w' => e = .returned (.tuple #[]) /\ u' = .returning /\ w' = w := by
 refine callsD_of_wpS Tryz.func53 rfl fun c₀ cs hu => ?_; apply wpS_seq; apply wpS_region; simp [wpOpsS, go_sem, recoverD, hu, Tryz.ntmps53, Exit.thenS]; apply wpS_seq; apply wpS_region; simp [wpOpsS, go_sem, Exit.thenS]; refine wpS_cond (t := false) (by simp [Act.eval, Array.replicate]) ?_; simp only [Bool.false_eq_true, if_false]; refine wpS_of_wp (wp_skip ?_); cases c₀
 simp_all [bodyPostS, results, Tryz.results53]
theorem Om (b e a : Nat) (older : List PanicEntry) (w : World) (v3 v4 : Value) (hr : Vx b w X3 v3 v4) :
 CallsD Tryz.prog 53 #[.pointer (some ⟨b, 0, none⟩), .pointer (some ⟨b + 1, 0, none⟩), .pointer (some ⟨b + 1 + 1, 0, none⟩)] (.panicking ({ v := .iface 83 (.agg #[.int .i64 e, .int .i64 a]), recovered := false } :: older)) w fun en u' w' =>
  en = .returned (.tuple #[]) /\ u' = .panicking ({ v := .iface 83 (.agg #[.int .i64 e, .int .i64 a]), recovered := true } :: older) /\ Eff3 b w w' /\ Vx b w' X3 (.int .i64 e) (.int .i64 a) := by
 refine callsD_of_wpS Tryz.func53 rfl fun c₀ cs hu => ?_; apply wpS_seq; apply wpS_region; simp [wpOpsS, go_sem, recoverD, hu, Tryz.ntmps53, Exit.thenS]; apply wpS_seq; apply wpS_region; simp [wpOpsS, go_sem, Exit.thenS]; refine wpS_cond (t := true) (by simp [Act.eval, Array.replicate]) ?_; simp only [if_true]; refine wpS_of_wp ?_; simp only [Array.replicate_succ, Array.replicate_zero, List.push_toArray, List.append_toArray, List.nil_append, List.cons_append, List.setIfInBounds_toArray, List.set_cons_succ, List.set_cons_zero]; have eX : ∀ (v : Value) (w : World), (Instr.typeAssert (.iface 83 v) 20 83 true).run Tryz.prog w = .ok (.tuple #[v, .bool true]) w := fun v w => by kernel_rfl
 have h2 := hr.r2; have c3 : w.cell? ⟨b + 1, 0, none⟩ = some v3 := cOb (o := 0) hr.r3 rfl; have c4 : w.cell? ⟨b + 1 + 1, 0, none⟩ = some v4 := cOb (o := 0) hr.r4 rfl; have f3 := fOb (o := 0) hr.r3; have f4 := fOb (o := 0) hr.r4; have l4 := lHp hr.r4; have lb : b < w.heap.size := by omega
 have dP : b + 1 < w.heap.size := by omega
 have HR := Hi hr; clear hr; go_wp2_with fail; go_region
 all_goals go_wp2_with fail
 have bP : ∀ k, k ≠ b + 1 -> k ≠ b + 1 + 1 -> ((w.setCell ⟨b + 1, 0, none⟩ (.int .i64 e)).setCell ⟨b + 1 + 1, 0, none⟩ (.int .i64 a)).heap[k]? = w.heap[k]? :=
  fun k h1 h2 => (Below.heap_setCell _ _ _ _ (by simpa using h2)).trans (Below.heap_setCell _ _ _ _ (by simpa using h1))
 have cH : ∀ k o, k < w.heap.size -> (((w.setCell ⟨b + 1, 0, none⟩ (.int .i64 e)).setCell ⟨b + 1 + 1, 0, none⟩ (.int .i64 a)).alloc o).drew.heap[k]? = ((w.setCell ⟨b + 1, 0, none⟩ (.int .i64 e)).setCell ⟨b + 1 + 1, 0, none⟩ (.int .i64 a)).heap[k]? := fun k o hk => Below.heap_alloc _ _ _ (by simpa using hk); refine ⟨rfl, _, rfl, _, results_none Tryz.results53 _ _ _, rfl, rfl, ⟨rfl, rfl, rfl, by show _ <= (World.alloc _ _).heap.size; simp, fun k hk h1 h2 h3 => (cH k _ hk).trans (bP k h2 h3)⟩, ⟨(cH b _ lb).trans ((bP b (by omega) (by omega)).trans HR.out.r2), (cH _ _ dP).trans ?_, (cH _ _ l4).trans ?_⟩⟩
 · exact (Below.heap_setCell _ _ _ _ (by simp)).trans (rSc HR.out.r3)
 · exact rSc ((Below.heap_setCell _ _ _ _ (by simp)).trans HR.out.r4)
theorem Vx.set34 {b : Nat} {W : World} {C : Array Value} {v3 v4 : Value} (h : Vx b W C v3 v4) (u3 u4 : Value) : Vx b ((W.setCell ⟨b + 1, 0, none⟩ u3).setCell ⟨b + 1 + 1, 0, none⟩ u4) C u3 u4 := by
 have e3 := rSc (o := 0) (u := u3) h.r3; have e4 := (Below.heap_setCell W ⟨b + 1, 0, none⟩ u3 (b + 1 + 1) (by simp)).trans h.r4; refine ⟨?_, (Below.heap_setCell _ _ _ _ (by simp)).trans e3, rSc e4⟩; show World.blk _ b = _
 rw [C6, C7]; exact h.r2
theorem K7 {b0 b : Nat} {w W : World} (h : Below b0 w W) (hb : b0 <= b) (u3 u4 : Value) : Below b0 w ((W.setCell ⟨b + 1, 0, none⟩ u3).setCell ⟨b + 1 + 1, 0, none⟩ u4) := (h.setCell (by simp; omega) _).setCell (by simp; omega) _
theorem Vx.row {b : Nat} {W : World} {C D : Array Value} {v3 v4 : Value} (h : Vx b W C v3 v4) : Vx b (W.setRow b D) D v3 v4 := by
 have ho : Off b W (W.setRow b D) := Off.row _ _; exact ⟨Va h.r2, (ho.block _ (by omega)).trans h.r3, (ho.block _ (by omega)).trans h.r4⟩
theorem Ka {fm : Bool} {S : Nat -> Prop} {W : World} {cs : List Value} {t : Qb} (h : Qg fm S W cs t) : cs.length = tsz fm /\ Jw cs = true := by
 refine ⟨h.len, ?_⟩; obtain ⟨op, name, cmp, n, ks⟩ := t; obtain ⟨A, cap, rfl, -, -⟩ := h; cases fm <;> rfl
theorem Xu : ∀ {a b : List Value}, Jw a = true -> Jw b = true -> Jw (a ++ b) = true
 | [], b, _, hb => hb
 | x :: a, b, ha, hb => by
   simp only [Jw, Bool.and_eq_true, List.cons_append] at ha ⊢; exact ⟨ha.1, Xu ha.2 hb⟩
theorem Gv {base : Nat} {W : World} {cs : List Value} {P : Qf} (h : Jy base W cs P) : cs.length = 23 /\ Jw cs = true := by
 obtain ⟨cc, A, cap, cb, cf, ca, rfl, -, h1, -, h2, h3, h4⟩ := h; obtain ⟨a1, b1⟩ := Ka h1; obtain ⟨a2, b2⟩ := Ka h2; obtain ⟨a3, b3⟩ := Ka h3; obtain ⟨a4, b4⟩ := Ka h4; have e5 : tsz true = 5 := rfl; have e4 : tsz false = 4 := rfl; constructor
 · simp [a1, a2, a3, a4, e5, e4]
 · refine Xu rfl (Xu b1 ?_); show Jw (_ ++ _) = true
   exact Xu b2 (Xu b3 b4)
theorem V6 {X : World} {b : Nat} {C : Array Value} {v3 v4 : Value} {tmps : Array Value} (hr : Vx b X C v3 v4) (hs : C.size = 23) (h2 : tmps.getD 2 undef = .pointer (some ⟨b, 0, none⟩)) (h3 : tmps.getD 3 undef = .pointer (some ⟨b + 1, 0, none⟩)) (h4 : tmps.getD 4 undef = .pointer (some ⟨b + 1 + 1, 0, none⟩)) :
 (results Tryz.f20 tmps).run Tryz.prog X = .ok (.tuple #[.agg C, v3, v4]) X := by
 have c3 : X.cell? ⟨b + 1, 0, none⟩ = some v3 := cOb (o := 0) hr.r3 rfl; have c4 : X.cell? ⟨b + 1 + 1, 0, none⟩ = some v4 := cOb (o := 0) hr.r4 rfl; have eJ : tmps[2]?.getD undef = .pointer (some ⟨b, 0, none⟩) := by simpa using h2
 have eI : tmps[3]?.getD undef = .pointer (some ⟨b + 1, 0, none⟩) := by simpa using h3
 have eH : tmps[4]?.getD undef = .pointer (some ⟨b + 1 + 1, 0, none⟩) := by simpa using h4
 have hl : (loadVar 30 ⟨b, 0, none⟩).run Tryz.prog X = .ok (.agg C) X := run_loadVar_row X b 30 30 C (0, 0) _ hr.r2 Tryz.underlying30 rfl (by rw [hs]; kernel_rfl); have dW : (loadVar 33 ⟨b + 1, 0, none⟩).run Tryz.prog X = .ok v3 X := by simp [go_sem, c3]
 have dV : (loadVar 3 ⟨b + 1 + 1, 0, none⟩).run Tryz.prog X = .ok v4 X := by simp [go_sem, c4]
 clear hr hs h2 h3 h4; simp [results, Tryz.results20, eJ, eI, eH, asAddr, hl, dW, dV]
abbrev Pf (l : List UInt8) (w : World) (e : Ending) (w' : World) : Prop := Below w.heap.size w w' /\ (match Qu l with
 | .ok p => ∃ cs : List Value, e = .returned (.tuple #[.agg cs.toArray, .int .i64 0, .int .i64 0]) /\ Jy w.heap.size w' cs p
 | .error (er, a) => e = .returned (.tuple #[.agg X3, .int .i64 er, .int .i64 a]))
theorem Ni {w X Y : World} (h : Below w.heap.size w X) (k : Eff3 w.heap.size X Y) : Below w.heap.size w Y :=
 ⟨k.os.trans h.os, k.tape.trans h.tape, k.output.trans h.output, Nat.le_trans h.size k.size, fun i hi => (k.block i (Nat.lt_of_lt_of_le hi h.size) (by omega) (by omega) (by omega)).trans (h.block i hi)⟩
theorem R1 (l : List UInt8) (w : World) (m : Int) (hm : w.cell? ⟨2, 0, none⟩ = some (.int .i64 m)) :
 Calls Tryz.prog 20 #[vs l] w (Pf l w) := by
 have fB : ∀ (fn : Fn) (first cap : Array Value) (w : World), (Instr.makeFunc fn first cap).run Tryz.prog w = .ok (.func fn first cap) w := fun _ _ _ _ => rfl; have dB := World.block_lt_of_cell? _ _ hm; have HM := Hi hm; clear hm; cases bL : Zr l with
 | error v =>
   obtain ⟨er, a⟩ := v; have eL := Hi (K1 bL); have bA : Qu l = .error (er, a) := by unfold Qu; rw [bL]
   have cA := Hi bA; have bC := Hi bL; clear bL bA; go_enter_defers Tryz.func20, Tryz.ntmps20
   go_wp2_with fail; refine (O7 l _).mono ?_; rintro e w1 ⟨aV, aG⟩; rw [bC.out] at aG; obtain rfl := aG; have aO : Vx w.heap.size w1 X3 (.int .i64 0) (.int .i64 0) := ⟨(aV.block _ (by simp; omega)).trans (Qn (Qn (Qe rfl))), (aV.block _ (by simp)).trans (Qn (Qe (by simp))), (aV.block _ (by simp)).trans (Qe (by simp))⟩
   have bM : Below w.heap.size w w1 := ((((Below.refl _ _).alloc (lR _) _).alloc (by simp) _).alloc (by simp; omega) _).trans (aV.mono (by simp; omega)); have h2 := aO.r2; have c3 := cOb (o := 0) aO.r3 rfl; have c4 := cOb (o := 0) aO.r4 rfl; have f3 := fOb (o := 0) aO.r3; have f4 := fOb (o := 0) aO.r4; have l4 := lHp aO.r4; have z : ((er : Int) != 0) = true := by have := eL.out; simp; omega
   have aY := Hi aO; have aQ := Hi bM; clear aV aO bM; go_wp2_with fail; refine ⟨_, V6 (aY.out.set34 (.int .i64 er) (.int .i64 a)) rfl rfl rfl rfl, K7 aQ.out (lR _) _ _, ?_⟩; rw [cA.out]
 | ok ts =>
   have bC := Hi bL; clear bL; go_enter_defers Tryz.func20, Tryz.ntmps20
   go_wp2_with fail; refine (O7 l _).mono ?_; rintro e w1 ⟨aV, aG⟩; rw [bC.out] at aG; obtain ⟨A, c, rfl, aR, hA, cG, eB⟩ := aG; have aO : Vx w.heap.size w1 X3 (.int .i64 0) (.int .i64 0) := ⟨(aV.block _ (by simp; omega)).trans (Qn (Qn (Qe rfl))), (aV.block _ (by simp)).trans (Qn (Qe (by simp))), (aV.block _ (by simp)).trans (Qe (by simp))⟩
   have bM : Below w.heap.size w w1 := ((((Below.refl _ _).alloc (lR _) _).alloc (by simp) _).alloc (by simp; omega) _).trans (aV.mono (by simp; omega)); have l4 := lHp aO.r4; have aY := Hi aO; have aQ := Hi bM; have aZ := Hi aR; have HA := Hi hA; clear aV aO bM aR hA; go_wp2_with fail; have cR := (Kt bC.out).2.1; have fC := (Kt bC.out).2.2; have eW := aQ.out.size
   have eK : Hid (PS (w1.alloc (.cells #[.slice A ts.length c, .int .i64 l.length] 87)) w1.heap.size l.length ts) := Hi
    ⟨⟨A, c, Qe rfl, aZ.out.below ((Below.refl _ _).alloc (lR _) _), fun b o e => (HA.out b o e).2, cG, eB⟩, fun t ht => (by obtain ⟨a1, a2, a3, a4, a5⟩ := qaz bC.out t ht; exact ⟨a1, a2, a3, a4, a5⟩),
      ⟨m, cOh ((Below.heap_alloc _ _ _ (by omega)).trans (aQ.out.block _ dB)) 0 |>.trans HM.out⟩, by omega, by omega⟩
   refine Qq (L2 Uo w1.heap.size l.length ts _ eK.out (Yw cR) (by unfold Uo; omega)) ?_ ?_
   case refine_2 =>
    intro er s w2 hq aI; have bA : Qu l = .error (er, (Xd l.length s : Nat)) := Gx bC.out hq; have aD : Vx w.heap.size w2 X3 (.int .i64 0) (.int .i64 0) := ⟨(aI.block _ (by simp; omega) (by omega)).trans (Qn aY.out.r2), (aI.block _ (by simp; omega) (by omega)).trans (Qn aY.out.r3), (aI.block _ (by simp; omega) (by omega)).trans (Qn aY.out.r4)⟩
    have aT : Below w.heap.size w w2 := ⟨aI.os.trans aQ.out.os, aI.tape.trans aQ.out.tape, aI.output.trans aQ.out.output, by have := aI.size; simp at this; omega, fun k hk => (aI.block k (by simp; omega) (by omega)).trans ((Below.heap_alloc _ _ _ (by omega)).trans (aQ.out.block k hk))⟩
    have cA := Hi bA; have aM := Hi aD; have bG := Hi aT; clear hq bA aD aT aI; go_wp2_with fail; refine leaves_cons (f := 53) (args := #[.pointer (some ⟨w.heap.size, 0, none⟩), .pointer (some ⟨w.heap.size + 1, 0, none⟩), .pointer (some ⟨w.heap.size + 1 + 1, 0, none⟩)]) (by simp) (by simp [go_sem]) ?_; refine (Om w.heap.size er (Xd l.length s) [] _ _ _ aM.out).mono ?_; rintro e u' w'' ⟨rfl, rfl, dZ, dR⟩; show Leaves _ _ _ _ [] .returning w''
    refine ⟨_, V6 dR rfl rfl rfl rfl, Ni bG.out dZ, ?_⟩; rw [cA.out]
   case refine_1 =>
    intro P r v w2 hq hv dS aI; obtain ⟨cs, rfl, bD⟩ := hv; obtain rfl := Tg (ts := ts) hq; have bA : Qu l = .ok P := R3 bC.out hq; have aD : Vx w.heap.size w2 X3 (.int .i64 0) (.int .i64 0) := ⟨(aI.block _ (by simp; omega) (by omega)).trans (Qn aY.out.r2), (aI.block _ (by simp; omega) (by omega)).trans (Qn aY.out.r3), (aI.block _ (by simp; omega) (by omega)).trans (Qn aY.out.r4)⟩
    have aT : Below w.heap.size w w2 := ⟨aI.os.trans aQ.out.os, aI.tape.trans aQ.out.tape, aI.output.trans aQ.out.output, by have := aI.size; simp at this; omega, fun k hk => (aI.block k (by simp; omega) (by omega)).trans ((Below.heap_alloc _ _ _ (by omega)).trans (aQ.out.block k hk))⟩
    have dH := aD.r2; have c3 := cOb (o := 0) aD.r3 rfl; have c4 := cOb (o := 0) aD.r4 rfl; have f3 := fOb (o := 0) aD.r3; have f4 := fOb (o := 0) aD.r4; have eV := lHp aD.r4; obtain ⟨cF, cG⟩ := Gv bD; have cO := Hi cF; have eN := Hi cG; have cA := Hi bA; have aM := Hi aD; have bG := Hi aT; have cW := Hi bD; clear hq bA aD aT aI cF cG bD dS; go_wp2_with fail; rw [J2 _ _ cs X3 _ (by rfl) (by rw [List.size_toArray, cO.out]) eN.out]; have bQ := (aM.out.row (D := cs.toArray)).set34 (.int .i64 0) (.int .i64 0); have ho : Off w.heap.size w2 (w2.setRow w.heap.size cs.toArray) := Off.row _ _; have d3 : (w2.setRow w.heap.size cs.toArray).cell? ⟨w.heap.size + 1, 0, none⟩ = some (.int .i64 0) := cOb (o := 0) (aM.out.row (D := cs.toArray)).r3 rfl; have d4 : (w2.setRow w.heap.size cs.toArray).cell? ⟨w.heap.size + 1 + 1, 0, none⟩ = some (.int .i64 0) := cOb (o := 0) (aM.out.row (D := cs.toArray)).r4 rfl; have g3 := fOb (o := 0) (aM.out.row (D := cs.toArray)).r3; have g4 := fOb (o := 0) (aM.out.row (D := cs.toArray)).r4; have eU := lHp (aM.out.row (D := cs.toArray)).r4
    have bR : Jy w.heap.size (((w2.setRow w.heap.size cs.toArray).setCell ⟨w.heap.size + 1, 0, none⟩ (.int .i64 0)).setCell ⟨w.heap.size + 1 + 1, 0, none⟩ (.int .i64 0)) cs P :=
     cW.out.weak (by simp; omega) (by have := ho.size; simp [this]) (fun k hk _ => (Below.heap_setCell _ _ _ _ (by simp at hk ⊢; omega)).trans ((Below.heap_setCell _ _ _ _ (by simp at hk ⊢; omega)).trans (ho.block k (by simp at hk; omega))))
    have bT := K7 (b0 := w.heap.size) (b := w.heap.size) (w := w) (W := w2.setRow w.heap.size cs.toArray) (Xt bG.out (lR _) _) (lR _) (.int .i64 0) (.int .i64 0); have cU := Hi bQ; have cX := Hi bR; have cZ := Hi bT; clear bQ bR bT ho; go_wp2_with fail; refine leaves_cons (f := 53) (args := #[.pointer (some ⟨w.heap.size, 0, none⟩), .pointer (some ⟨w.heap.size + 1, 0, none⟩), .pointer (some ⟨w.heap.size + 1 + 1, 0, none⟩)]) (by simp) (by simp [go_sem]) ?_; refine (Hb w.heap.size _).mono ?_; rintro e u' w'' ⟨rfl, rfl, rfl⟩; show Leaves _ _ _ _ [] .returning _
    refine ⟨_, V6 cU.out (by rw [List.size_toArray, cO.out]) rfl rfl rfl, cZ.out, ?_⟩; rw [cA.out]; exact ⟨cs, rfl, cX.out⟩
end
set_option maxRecDepth 100000
set_option maxHeartbeats 4000000
section
namespace So
open Go.RowKit
theorem Tg {ts : List Tok} {p : Qf} {r : List Tok} (h : pr ts = .ok (p, r)) : r = [] := by
 unfold pr Q4 at h; cases hq : Qk ts with
 | error e => rw [hq] at h; cases h
 | ok v =>
   obtain ⟨q, r2⟩ := v; rw [hq] at h; cases r2 with
   | nil => cases h; rfl
   | cons t r => cases h
theorem R3 {l : List UInt8} {ts : List Tok} {p : Qf} (h : Zr l = .ok ts) (hp : pr ts = .ok (p, [])) : Qu l = .ok p := by
 unfold Qu; rw [h]; simp only [hp]
theorem Gx {l : List UInt8} {ts : List Tok} {e : Nat} {s : List Tok} (h : Zr l = .ok ts) (hp : pr ts = .error (e, s)) : Qu l = .error (e, (Xd l.length s : Nat)) := by
 unfold Qu; rw [h]; simp only [hp]
theorem Hb (b : Nat) (w : World) :
 CallsD Tryz.prog 55 #[.pointer (some ⟨b, 0, none⟩), .pointer (some ⟨b + 1, 0, none⟩), .pointer (some ⟨b + 1 + 1, 0, none⟩)] .returning w fun e u' w' => e = .returned (.tuple #[]) /\ u' = .returning /\ w' = w := by
 refine callsD_of_wpS Tryz.func55 rfl fun c₀ cs hu => ?_; apply wpS_seq; apply wpS_region; simp [wpOpsS, go_sem, recoverD, hu, Tryz.ntmps55, Exit.thenS]; apply wpS_seq; apply wpS_region; simp [wpOpsS, go_sem, Exit.thenS]; refine wpS_cond (t := false) (by simp [Act.eval, Array.replicate]) ?_; simp only [Bool.false_eq_true, if_false]; refine wpS_of_wp (wp_skip ?_); cases c₀
 simp_all [bodyPostS, results, Tryz.results55]
theorem Om (b e a : Nat) (older : List PanicEntry) (w : World) (v3 v4 : Value) (hr : Vx b w X3 v3 v4) :
 CallsD Tryz.prog 55 #[.pointer (some ⟨b, 0, none⟩), .pointer (some ⟨b + 1, 0, none⟩), .pointer (some ⟨b + 1 + 1, 0, none⟩)] (.panicking ({ v := .iface 89 (.agg #[.int .i64 e, .int .i64 a]), recovered := false } :: older)) w fun en u' w' =>
  en = .returned (.tuple #[]) /\ u' = .panicking ({ v := .iface 89 (.agg #[.int .i64 e, .int .i64 a]), recovered := true } :: older) /\ Eff3 b w w' /\ Vx b w' X3 (.int .i64 e) (.int .i64 a) := by
 refine callsD_of_wpS Tryz.func55 rfl fun c₀ cs hu => ?_; apply wpS_seq; apply wpS_region; simp [wpOpsS, go_sem, recoverD, hu, Tryz.ntmps55, Exit.thenS]; apply wpS_seq; apply wpS_region; simp [wpOpsS, go_sem, Exit.thenS]; refine wpS_cond (t := true) (by simp [Act.eval, Array.replicate]) ?_; simp only [if_true]; refine wpS_of_wp ?_; simp only [Array.replicate_succ, Array.replicate_zero, List.push_toArray, List.append_toArray, List.nil_append, List.cons_append, List.setIfInBounds_toArray, List.set_cons_succ, List.set_cons_zero]; have eX : ∀ (v : Value) (w : World), (Instr.typeAssert (.iface 89 v) 20 89 false).run Tryz.prog w = .ok v w := fun v w => by kernel_rfl
 have h2 := hr.r2; have c3 : w.cell? ⟨b + 1, 0, none⟩ = some v3 := cOb (o := 0) hr.r3 rfl; have c4 : w.cell? ⟨b + 1 + 1, 0, none⟩ = some v4 := cOb (o := 0) hr.r4 rfl; have f3 := fOb (o := 0) hr.r3; have f4 := fOb (o := 0) hr.r4; have l4 := lHp hr.r4; have lb : b < w.heap.size := by omega
 have dP : b + 1 < w.heap.size := by omega
 have HR := Hi hr; clear hr; go_wp2_with fail; go_region
 all_goals go_wp2_with fail
 have bP : ∀ k, k ≠ b + 1 -> k ≠ b + 1 + 1 -> ((w.setCell ⟨b + 1, 0, none⟩ (.int .i64 e)).setCell ⟨b + 1 + 1, 0, none⟩ (.int .i64 a)).heap[k]? = w.heap[k]? :=
  fun k h1 h2 => (Below.heap_setCell _ _ _ _ (by simpa using h2)).trans (Below.heap_setCell _ _ _ _ (by simpa using h1))
 have cH : ∀ k o, k < w.heap.size -> (((w.setCell ⟨b + 1, 0, none⟩ (.int .i64 e)).setCell ⟨b + 1 + 1, 0, none⟩ (.int .i64 a)).alloc o).drew.heap[k]? = ((w.setCell ⟨b + 1, 0, none⟩ (.int .i64 e)).setCell ⟨b + 1 + 1, 0, none⟩ (.int .i64 a)).heap[k]? := fun k o hk => Below.heap_alloc _ _ _ (by simpa using hk); refine ⟨rfl, _, rfl, _, results_none Tryz.results55 _ _ _, rfl, rfl, ⟨rfl, rfl, rfl, by show _ <= (World.alloc _ _).heap.size; simp, fun k hk h1 h2 h3 => (cH k _ hk).trans (bP k h2 h3)⟩, ⟨(cH b _ lb).trans ((bP b (by omega) (by omega)).trans HR.out.r2), (cH _ _ dP).trans ?_, (cH _ _ l4).trans ?_⟩⟩
 · exact (Below.heap_setCell _ _ _ _ (by simp)).trans (rSc HR.out.r3)
 · exact rSc ((Below.heap_setCell _ _ _ _ (by simp)).trans HR.out.r4)
theorem _root_.Go.Proofs.YtbicmjmcdnkjhaaGreatDoor.Vx.drew {b : Nat} {W : World} {C : Array Value} {v3 v4 : Value} (h : Vx b W C v3 v4) : Vx b W.drew C v3 v4 := ⟨h.r2, h.r3, h.r4⟩
theorem Yi : ∀ {a b : List Value}, Jw a = true -> Jw b = true -> Jw (a ++ b) = true
 | [], b, _, hb => hb
 | x :: a, b, ha, hb => by
   simp only [Jw, Bool.and_eq_true, List.cons_append] at ha ⊢; exact ⟨ha.1, Yi ha.2 hb⟩
theorem Gv {base : Nat} {W : World} {cs : List Value} {P : Qf} (h : Jy base W cs P) : cs.length = 23 /\ Jw cs = true := by
 obtain ⟨cc, A, cap, cb, cf, ca, rfl, -, h1, -, h2, h3, h4⟩ := h; obtain ⟨a1, b1⟩ := Ka h1; obtain ⟨a2, b2⟩ := Ka h2; obtain ⟨a3, b3⟩ := Ka h3; obtain ⟨a4, b4⟩ := Ka h4; have e5 : tsz true = 5 := rfl; have e4 : tsz false = 4 := rfl; constructor
 · simp [a1, a2, a3, a4, e5, e4]
 · refine Yi rfl (Yi b1 ?_); show Jw (_ ++ _) = true
   exact Yi b2 (Yi b3 b4)
theorem V6 {X : World} {b : Nat} {C : Array Value} {v3 v4 : Value} {tmps : Array Value} (hr : Vx b X C v3 v4) (hs : C.size = 23) (h2 : tmps.getD 2 undef = .pointer (some ⟨b, 0, none⟩)) (h3 : tmps.getD 3 undef = .pointer (some ⟨b + 1, 0, none⟩)) (h4 : tmps.getD 4 undef = .pointer (some ⟨b + 1 + 1, 0, none⟩)) :
 (results Tryz.f21 tmps).run Tryz.prog X = .ok (.tuple #[.agg C, v3, v4]) X := by
 have c3 : X.cell? ⟨b + 1, 0, none⟩ = some v3 := cOb (o := 0) hr.r3 rfl; have c4 : X.cell? ⟨b + 1 + 1, 0, none⟩ = some v4 := cOb (o := 0) hr.r4 rfl; have eJ : tmps[2]?.getD undef = .pointer (some ⟨b, 0, none⟩) := by simpa using h2
 have eI : tmps[3]?.getD undef = .pointer (some ⟨b + 1, 0, none⟩) := by simpa using h3
 have eH : tmps[4]?.getD undef = .pointer (some ⟨b + 1 + 1, 0, none⟩) := by simpa using h4
 have hl : (loadVar 30 ⟨b, 0, none⟩).run Tryz.prog X = .ok (.agg C) X := run_loadVar_row X b 30 30 C (0, 0) _ hr.r2 Tryz.underlying30 rfl (by rw [hs]; kernel_rfl); have dW : (loadVar 33 ⟨b + 1, 0, none⟩).run Tryz.prog X = .ok v3 X := by simp [go_sem, c3]
 have dV : (loadVar 3 ⟨b + 1 + 1, 0, none⟩).run Tryz.prog X = .ok v4 X := by simp [go_sem, c4]
 clear hr hs h2 h3 h4; simp [results, Tryz.results21, eJ, eI, eH, asAddr, hl, dW, dV]
abbrev Pf (l : List UInt8) (w : World) (e : Ending) (w' : World) : Prop := Below w.heap.size w w' /\ (match Qu l with
 | .ok p => ∃ cs : List Value, e = .returned (.tuple #[.agg cs.toArray, .int .i64 0, .int .i64 0]) /\ Jy w.heap.size w' cs p
 | .error (er, a) => e = .returned (.tuple #[.agg X3, .int .i64 er, .int .i64 a]))
theorem R1 (l : List UInt8) (w : World) (m : Int) (hm : w.cell? ⟨2, 0, none⟩ = some (.int .i64 m)) :
 Calls Tryz.prog 21 #[vs l] w (Pf l w) := by
 have fB : ∀ (fn : Fn) (first cap : Array Value) (w : World), (Instr.makeFunc fn first cap).run Tryz.prog w = .ok (.func fn first cap) w := fun _ _ _ _ => rfl; have dB := World.block_lt_of_cell? _ _ hm; have HM := Hi hm; clear hm; cases bL : Zr l with
 | error v =>
   obtain ⟨er, a⟩ := v; have eL := Hi (K1 bL); have bA : Qu l = .error (er, a) := by unfold Qu; rw [bL]
   have cA := Hi bA; have bC := Hi bL; clear bL bA; go_enter_defers Tryz.func21, Tryz.ntmps21
   go_wp2_with fail; refine (O7 l _).mono ?_; rintro e w1 ⟨aV, aG⟩; rw [bC.out] at aG; obtain rfl := aG; have aO : Vx w.heap.size w1 X3 (.int .i64 0) (.int .i64 0) := ⟨(aV.block _ (by simp; omega)).trans (Qn (Qn (Qe rfl))), (aV.block _ (by simp)).trans (Qn (Qe (by simp))), (aV.block _ (by simp)).trans (Qe (by simp))⟩
   have bM : Below w.heap.size w w1 := ((((Below.refl _ _).alloc (lR _) _).alloc (by simp) _).alloc (by simp; omega) _).trans (aV.mono (by simp; omega)); have h2 := aO.r2; have c3 := cOb (o := 0) aO.r3 rfl; have c4 := cOb (o := 0) aO.r4 rfl; have f3 := fOb (o := 0) aO.r3; have f4 := fOb (o := 0) aO.r4; have l4 := lHp aO.r4; have z : ((er : Int) != 0) = true := by have := eL.out; simp; omega
   have aY := Hi aO; have aQ := Hi bM; clear aV aO bM; go_wp2_with fail; go_region
   all_goals go_wp2_with fail
   have eZ : Vx w.heap.size (((((w1.setCell ⟨w.heap.size + 1, 0, none⟩ (.int .i64 er)).setCell ⟨w.heap.size + 1 + 1, 0, none⟩ (.int .i64 a)).setCell ⟨w.heap.size + 1, 0, none⟩ (.int .i64 er)).setCell ⟨w.heap.size + 1 + 1, 0, none⟩ (.int .i64 a)).drew) X3 (.int .i64 er) (.int .i64 a) := ((aY.out.set34 (.int .i64 er) (.int .i64 a)).set34 (.int .i64 er) (.int .i64 a)).drew; refine ⟨_, V6 eZ rfl rfl rfl rfl, (K7 (K7 aQ.out (lR _) _ _) (lR _) _ _).drew, ?_⟩; rw [cA.out]
 | ok ts =>
   have bC := Hi bL; clear bL; go_enter_defers Tryz.func21, Tryz.ntmps21
   go_wp2_with fail; refine (O7 l _).mono ?_; rintro e w1 ⟨aV, aG⟩; rw [bC.out] at aG; obtain ⟨A, c, rfl, aR, hA, cG, eB⟩ := aG; have aO : Vx w.heap.size w1 X3 (.int .i64 0) (.int .i64 0) := ⟨(aV.block _ (by simp; omega)).trans (Qn (Qn (Qe rfl))), (aV.block _ (by simp)).trans (Qn (Qe (by simp))), (aV.block _ (by simp)).trans (Qe (by simp))⟩
   have bM : Below w.heap.size w w1 := ((((Below.refl _ _).alloc (lR _) _).alloc (by simp) _).alloc (by simp; omega) _).trans (aV.mono (by simp; omega)); have l4 := lHp aO.r4; have aY := Hi aO; have aQ := Hi bM; have h2 := aO.r2; have c3 := cOb (o := 0) aO.r3 rfl; have c4 := cOb (o := 0) aO.r4 rfl; have f3 := fOb (o := 0) aO.r3; have f4 := fOb (o := 0) aO.r4; have cV := Hi (aO.set34 (.int .i64 0) (.int .i64 0)); have dA := Hi (K7 bM (lR _) (.int .i64 0) (.int .i64 0)); have dF : ((w1.setCell ⟨w.heap.size + 1, 0, none⟩ (.int .i64 0)).setCell ⟨w.heap.size + 1 + 1, 0, none⟩ (.int .i64 0)).heap.size = w1.heap.size := by simp
   have cY : Hid (RdT ((w1.setCell ⟨w.heap.size + 1, 0, none⟩ (.int .i64 0)).setCell ⟨w.heap.size + 1 + 1, 0, none⟩ (.int .i64 0)) A ts) := Hi (Sl.keep aR (by rw [dF]; exact lR _) (fun g o e fH => by
    have := (hA g o e).1; simp at this; exact (Below.heap_setCell _ _ _ _ (by simp; omega)).trans (Below.heap_setCell _ _ _ _ (by simp; omega))))
   clear aV aO bM aR aY aQ; go_upto_region 2 with fail; have HA : Hid (∀ b o, A = some ⟨b, o, none⟩ -> b < ((w1.setCell ⟨w.heap.size + 1, 0, none⟩ (.int .i64 0)).setCell ⟨w.heap.size + 1 + 1, 0, none⟩ (.int .i64 0)).heap.size) := Hi (fun b o e => by rw [dF]; exact (hA b o e).2); clear h2 c3 c4 f3 f4 hA l4 dF; generalize ((w1.setCell ⟨w.heap.size + 1, 0, none⟩ (.int .i64 0)).setCell ⟨w.heap.size + 1 + 1, 0, none⟩ (.int .i64 0)) = w1 at cV dA cY HA ⊢; have aY := cV; have aQ := dA; have aZ := cY; clear cV dA cY; have l4 := lHp aY.out.r4; have c3 := cOb (o := 0) aY.out.r3 rfl; go_wp2_with fail; have cR := (Kt bC.out).2.1; have fC := (Kt bC.out).2.2; have eW := aQ.out.size
   have eK : Hid (PS (w1.alloc (.cells #[.slice A ts.length c, .int .i64 0, .int .i64 l.length] 92)) w1.heap.size l.length ts ts) := Hi
    ⟨⟨A, c, [], Qe rfl, rfl, aZ.out.below ((Below.refl _ _).alloc (lR _) _), fun b o e => HA.out b o e, cG, eB⟩, fun t ht => (by obtain ⟨a1, a2, a3, a4, a5⟩ := qaz bC.out t ht; exact ⟨a1, a2, a3, a4, a5⟩), cR,
      ⟨m, cOh ((Below.heap_alloc _ _ _ (by omega)).trans (aQ.out.block _ dB)) 0 |>.trans HM.out⟩, by omega, by omega⟩
   refine Qq (L2 w1.heap.size l.length ts ts _ eK.out) ?_ ?_
   case refine_2 =>
    intro er s w2 hq aI; have bA : Qu l = .error (er, (Xd l.length s : Nat)) := Gx bC.out hq; have aD : Vx w.heap.size w2 X3 (.int .i64 0) (.int .i64 0) := ⟨(aI.block _ (by simp; omega) (by omega)).trans (Qn aY.out.r2), (aI.block _ (by simp; omega) (by omega)).trans (Qn aY.out.r3), (aI.block _ (by simp; omega) (by omega)).trans (Qn aY.out.r4)⟩
    have aT : Below w.heap.size w w2 := ⟨aI.os.trans aQ.out.os, aI.tape.trans aQ.out.tape, aI.output.trans aQ.out.output, by have := aI.size; simp at this; omega, fun k hk => (aI.block k (by simp; omega) (by omega)).trans ((Below.heap_alloc _ _ _ (by omega)).trans (aQ.out.block k hk))⟩
    have cA := Hi bA; have aM := Hi aD; have bG := Hi aT; clear hq bA aD aT aI; go_wp2_with fail; refine leaves_cons (f := 55) (args := #[.pointer (some ⟨w.heap.size, 0, none⟩), .pointer (some ⟨w.heap.size + 1, 0, none⟩), .pointer (some ⟨w.heap.size + 1 + 1, 0, none⟩)]) (by simp) (by simp [go_sem]) ?_; refine (Om w.heap.size er (Xd l.length s) [] _ _ _ aM.out).mono ?_; rintro e u' w'' ⟨rfl, rfl, dZ, dR⟩; show Leaves _ _ _ _ [] .returning w''
    refine ⟨_, V6 dR rfl rfl rfl rfl, Ni bG.out dZ, ?_⟩; rw [cA.out]
   case refine_1 =>
    intro P r v w2 hq hv dS aI; obtain ⟨cs, rfl, bD⟩ := hv; obtain rfl := Tg (ts := ts) hq; have bA : Qu l = .ok P := R3 bC.out hq; have aD : Vx w.heap.size w2 X3 (.int .i64 0) (.int .i64 0) := ⟨(aI.block _ (by simp; omega) (by omega)).trans (Qn aY.out.r2), (aI.block _ (by simp; omega) (by omega)).trans (Qn aY.out.r3), (aI.block _ (by simp; omega) (by omega)).trans (Qn aY.out.r4)⟩
    have aT : Below w.heap.size w w2 := ⟨aI.os.trans aQ.out.os, aI.tape.trans aQ.out.tape, aI.output.trans aQ.out.output, by have := aI.size; simp at this; omega, fun k hk => (aI.block k (by simp; omega) (by omega)).trans ((Below.heap_alloc _ _ _ (by omega)).trans (aQ.out.block k hk))⟩
    have dH := aD.r2; have c3 := cOb (o := 0) aD.r3 rfl; have c4 := cOb (o := 0) aD.r4 rfl; have f3 := fOb (o := 0) aD.r3; have f4 := fOb (o := 0) aD.r4; have eV := lHp aD.r4; obtain ⟨cF, cG⟩ := Gv bD; have cO := Hi cF; have eN := Hi cG; have cA := Hi bA; have aM := Hi aD; have bG := Hi aT; have cW := Hi bD; clear hq bA aD aT aI cF cG bD dS; go_wp2_with fail; rw [J2 _ _ cs X3 _ (by rfl) (by rw [List.size_toArray, cO.out]) eN.out]; have bQ := (aM.out.row (D := cs.toArray)).set34 (.int .i64 0) (.int .i64 0); have ho : Off w.heap.size w2 (w2.setRow w.heap.size cs.toArray) := Off.row _ _; have d3 : (w2.setRow w.heap.size cs.toArray).cell? ⟨w.heap.size + 1, 0, none⟩ = some (.int .i64 0) := cOb (o := 0) (aM.out.row (D := cs.toArray)).r3 rfl; have d4 : (w2.setRow w.heap.size cs.toArray).cell? ⟨w.heap.size + 1 + 1, 0, none⟩ = some (.int .i64 0) := cOb (o := 0) (aM.out.row (D := cs.toArray)).r4 rfl; have g3 := fOb (o := 0) (aM.out.row (D := cs.toArray)).r3; have g4 := fOb (o := 0) (aM.out.row (D := cs.toArray)).r4; have eU := lHp (aM.out.row (D := cs.toArray)).r4
    have bR : Jy w.heap.size (((w2.setRow w.heap.size cs.toArray).setCell ⟨w.heap.size + 1, 0, none⟩ (.int .i64 0)).setCell ⟨w.heap.size + 1 + 1, 0, none⟩ (.int .i64 0)) cs P :=
     cW.out.weak (by simp; omega) (by have := ho.size; simp [this]) (fun k hk _ => (Below.heap_setCell _ _ _ _ (by simp at hk ⊢; omega)).trans ((Below.heap_setCell _ _ _ _ (by simp at hk ⊢; omega)).trans (ho.block k (by simp at hk; omega))))
    have bT := K7 (b0 := w.heap.size) (b := w.heap.size) (w := w) (W := w2.setRow w.heap.size cs.toArray) (Xt bG.out (lR _) _) (lR _) (.int .i64 0) (.int .i64 0); have cU := Hi bQ; have cX := Hi bR; have cZ := Hi bT; clear bQ bR bT ho; go_wp2_with fail; refine leaves_cons (f := 55) (args := #[.pointer (some ⟨w.heap.size, 0, none⟩), .pointer (some ⟨w.heap.size + 1, 0, none⟩), .pointer (some ⟨w.heap.size + 1 + 1, 0, none⟩)]) (by simp) (by simp [go_sem]) ?_; refine (Hb w.heap.size _).mono ?_; rintro e u' w'' ⟨rfl, rfl, rfl⟩; show Leaves _ _ _ _ [] .returning _
    refine ⟨_, V6 cU.out (by rw [List.size_toArray, cO.out]) rfl rfl rfl, cZ.out, ?_⟩; rw [cA.out]; exact ⟨cs, rfl, cX.out⟩
end So
end
set_option maxHeartbeats 4000000
section
open Go.RowKit
theorem M7 (id : Qa) (h : id.length <= 60) : qat (upP (exP id)) where
 cond := by rw [Bo]; simp [exI, TreeI.size, Kb]
 beg := by rw [Bo]; simp [exI, TreeI.size, Kb]
 fin := by rw [Bo]; simp [exI, TreeI.size, Kb]
 aga := by rw [Bo]; simp [exI, TreeI.size, Kb]
 exc := by rw [Bo]; simp [exI]
 names := by
  rw [R6, qgs]; intro s hs; simp only [List.mem_cons, List.not_mem_nil, or_false] at hs; rcases hs with rfl | rfl | rfl | rfl | rfl | rfl | rfl <;> first | exact h | decide
theorem qgm (id : Qa) (h : id.length <= 60) : qat { upP (exP id) with rank := 5 } := by
 obtain ⟨h1, h2, h3, h4, h5, h6⟩ := M7 id h; exact ⟨h1, h2, h3, h4, h5, h6⟩
theorem Tz (id : Qa) : Y2 { upP (exP id) with rank := 5 } := Ok id
theorem qa8 {w : World} {cs : List Value} {p : Zt} (h : Wo w cs p) : cs[0]? = some (vs p.id) /\ cs[1]? = some (.int .i64 p.rank) /\ cs[2]? = some (.int .i64 p.kind) /\ cs[3]? = some (vs p.name) /\ cs[4]? = some (.int .i64 p.value) := by
 obtain ⟨cc, A, cap, cb, cf, ca, rfl, -⟩ := h; exact ⟨rfl, rfl, rfl, rfl, rfl⟩
theorem qh5 {w : World} {cs : List Value} {p : Zt} (h : Wo w cs p) (a : Qa) : Wo w (cs.set 0 (vs a)) { p with id := a } := by
 obtain ⟨cc, A, cap, cb, cf, ca, rfl, h2⟩ := h; exact ⟨cc, A, cap, cb, cf, ca, rfl, h2⟩
theorem qcu {w : World} {cs : List Value} {p : Zt} (h : Wo w cs p) (a : Int) : Wo w (cs.set 1 (.int .i64 a)) { p with rank := a } := by
 obtain ⟨cc, A, cap, cb, cf, ca, rfl, h2⟩ := h; exact ⟨cc, A, cap, cb, cf, ca, rfl, h2⟩
theorem qfh {w : World} {cs : List Value} {p : Zt} (h : Wo w cs p) : Jw cs = true := by
 obtain ⟨id, rank, kind, name, value, ⟨o3, n3, c3, m3, k3⟩, exc, ⟨o5, n5, c5, m5, k5⟩, ⟨o6, n6, c6, m6, k6⟩, ⟨o7, n7, c7, m7, k7⟩⟩ := p; obtain ⟨cc, A, cap, cb, cf, ca, rfl, -, ⟨A3, q3, rfl, -⟩, -, ⟨A5, q5, rfl, -⟩, ⟨A6, q6, rfl, -⟩, ⟨A7, q7, rfl, -⟩⟩ := h; rfl
theorem H7 {w : World} {cs : List Value} {p : Zt} (h : Wo w cs p) : (∀ W b D t, D.size = 23 -> I6 W b cs.toArray (some (.cells D t (0, 0))) = .ok () (W.setRow b cs.toArray)) /\ (∀ W b t fr, I8 W b (some (.cells cs.toArray t fr)) = .ok (.agg cs.toArray) W) :=
 ⟨fun W b D t hD => J2 W b cs D t hD (by rw [List.size_toArray, h.len]) (qfh h), fun W b t fr => I7 W b cs t fr (by rw [List.size_toArray, h.len])⟩
theorem qiw {w : World} {b i : Nat} {l : List Value} {T : TypeId} {v : Value} (h : w.blk b = some (.cells l.toArray T (0, 0))) : (w.setCell ⟨b, i, none⟩ v).blk b = some (.cells (l.set i v).toArray T (0, 0)) := by
 have := Ru (o := i) (v := v) h; rw [List.setIfInBounds_toArray] at this; exact this
set_option maxRecDepth 100000
theorem qgj (w : World) (ht : Xp w) : Calls Tryz.prog 10 #[] w fun e w' => e = .returned (.bool true) /\ Below w.heap.size w w' := by
 have HT := Hi ht; clear ht; go_enter Tryz.func10, Tryz.ntmps10
 go_wp2_with fail; refine (Fx w).mono ?_; rintro e w1 ⟨cs, rfl, hr, hb⟩; obtain ⟨dK, dO⟩ := H7 hr; have HR := Hi hr; have HB := Hi hb; have dJ : Hid (Xp w1) := Hi (HT.out.below hb); clear hr hb; go_wp2_with fail; refine (O5 w1 _ cs _ HR.out (Jp _ _) dJ.out (Ok _) (M7 _ (by decide))).mono ?_; rintro e w2 ⟨rfl, dH⟩; rw [qgr]; have k1 : w2.blk w1.heap.size = some (.cells cs.toArray 30 (0, 0)) := (dH.block _ (by simp)).trans (heap_alloc_new w1 _); have dL : Hid (Below w1.heap.size w1 w2) := Hi ((Jp w1 _).trans (dH.mono (by simp))); have z1 : w1.heap.size < w2.heap.size := lHp k1; have eM := Hi k1; clear dH; go_wp2_with fail; refine (Hs w1 _ cs _ HR.out dL.out dJ.out (Ok _) (M7 _ (by decide))).mono ?_; rintro e w3 ⟨rfl, eG⟩; rw [qgq]; clear k1 z1; have k1 : w3.blk w1.heap.size = some (.cells cs.toArray 30 (0, 0)) := (eG.block _ (lHp eM.out)).trans eM.out; have cC : Hid (Below w1.heap.size w1 w3) := Hi (dL.out.trans (eG.mono dL.out.size)); have z1 : w1.heap.size < w3.heap.size := lHp k1; have fI := Hi k1; clear eG dL eM; obtain ⟨d0, d1, -⟩ := qa8 HR.out; have cQ := heap_alloc_new w3 (.cells cs.toArray 30); have c0 : (w3.alloc (.cells cs.toArray 30)).cell? ⟨w3.heap.size, 0, none⟩ = some (vs [112, 49]) := cOb cQ (by rw [List.getElem?_toArray]; exact d0); have f0 := fOb (o := 0) cQ; clear cQ; go_upto_region 6 with fail; obtain ⟨ds, eA⟩ : ∃ ds, cs.set 0 (vs exW) = ds := ⟨_, rfl⟩
 have hq : Wo w1 ds (upP (exP exW)) := by rw [<- eA]; exact qh5 HR.out exW
 rw [show cs.set 0 (Value.string { data := #[119, 104, 101, 114, 101] }) = ds from eA]; clear c0 f0 d0 d1 eA; obtain ⟨bN, bO⟩ := H7 hq; have HQ := Hi hq; clear hq; go_wp2_with fail; refine (O5 w1 _ ds _ HQ.out (cC.out.trans ((Jp w3 _).mono cC.out.size)) dJ.out (Ok _) (M7 _ (by decide))).mono ?_; rintro e w4 ⟨rfl, eF⟩; rw [Fy.1]; have k6 : w4.blk w3.heap.size = some (.cells ds.toArray 30 (0, 0)) := (eF.block _ (by simp)).trans (heap_alloc_new w3 _); have eP : Hid (Below w3.heap.size w3 w4) := Hi ((Jp w3 _).trans (eF.mono (by simp))); have z6 : w3.heap.size < w4.heap.size := lHp k6; have eT := Hi k6; clear eF k1 z1; go_wp2_with fail; refine (Hs w1 _ ds _ HQ.out (cC.out.trans (eP.out.mono cC.out.size)) dJ.out (Ok _) (M7 _ (by decide))).mono ?_; rintro e w5 ⟨rfl, eD⟩; rw [Fy.2]; clear k6 z6; have k6 : w5.blk w3.heap.size = some (.cells ds.toArray 30 (0, 0)) := (eD.block _ (lHp eT.out)).trans eT.out; have eO : Hid (Below w3.heap.size w3 w5) := Hi (eP.out.trans (eD.mono eP.out.size)); have z6 : w3.heap.size < w5.heap.size := lHp k6; obtain ⟨d0, d1, -⟩ := qa8 HQ.out; have c1 : w5.cell? ⟨w3.heap.size, 1, none⟩ = some (.int .i64 2) := cOb k6 (by rw [List.getElem?_toArray]; exact d1); have f1 := fOb (o := 1) k6; have k7 := qiw (i := 1) (v := .int .i64 5) k6; obtain ⟨es, dY⟩ : ∃ es, ds.set 1 (.int .i64 5) = es := ⟨_, rfl⟩
 have hq : Wo w1 es { upP (exP exW) with rank := 5 } := by rw [<- dY]; exact qcu HQ.out 5
 rw [dY] at k7; obtain ⟨dM, dN⟩ := H7 hq; have HE := Hi hq; clear eD hq dY d0 d1 k6; go_wp2_with fail; refine (O5 w1 _ es _ HE.out ((cC.out.trans (eO.out.mono cC.out.size)).setCell cC.out.size _) dJ.out (Tz _) (qgm _ (by decide))).mono ?_; rintro e w6 ⟨rfl, eS⟩; rw [(qir rfl).1]; have fG : Hid (Below w.heap.size w w6) := Hi (HB.out.trans (((cC.out.trans (eO.out.mono cC.out.size)).setCell cC.out.size _).trans (eS.mono (by simp; have := eO.out.size; have := cC.out.size; omega)) |>.mono HB.out.size)); clear eS k7 c1 f1 z6 dK bN dM dO bO dN; go_wp2_with fail; go_ret; exact ⟨rfl, fG.out⟩
end
set_option maxHeartbeats 16000000
section
open Go.RowKit
structure AgS (w wx : World) (b : Nat) (C : Array Value) : Prop where
 below : Below w.heap.size w wx
 blk : wx.blk b = some (.cells C 30 (0, 0))
 ge : w.heap.size <= b
theorem AgS.step {w wx w' : World} {b : Nat} {C : Array Value} (h : AgS w wx b C) (hb : Below wx.heap.size wx w') : AgS w w' b C := ⟨h.below.trans (hb.mono h.below.size), (hb.block _ (lHp h.blk)).trans h.blk, h.ge⟩
theorem AgS.start {w wx : World} (h : Below w.heap.size w wx) (C : Array Value) : AgS w (wx.alloc (.cells C 30)) wx.heap.size C := ⟨h.alloc h.size _, J4 rfl, h.size⟩
theorem AgS.set {w wx : World} {b : Nat} {C D : Array Value} (h : AgS w wx b C) : AgS w (wx.setRow b D) b D := ⟨Xt h.below h.ge D, Va h.blk, h.ge⟩
theorem AgS.lt {w wx : World} {b : Nat} {C : Array Value} (h : AgS w wx b C) : b < wx.heap.size := lHp h.blk
def Io (cs : List Value) : Prop := (∀ W b D t, D.size = 23 -> I6 W b cs.toArray (some (.cells D t (0, 0))) = .ok () (W.setRow b cs.toArray)) /\ (∀ W b t fr, I8 W b (some (.cells cs.toArray t fr)) = .ok (.agg cs.toArray) W)
theorem qav : Io X3.toList := ⟨fun W b D t hD => J2 W b X3.toList D t hD rfl rfl, fun W b t fr => I7 W b X3.toList t fr rfl⟩
def Got (f : FuncId) (l : List UInt8) (p : Except (Nat × Int) Qf) (w : World) : Prop := Calls Tryz.prog f #[vs l] w fun e w' => Below w.heap.size w w' /\ ∃ cs er a, e = .returned (.tuple #[.agg cs.toArray, .int .i64 er, .int .i64 a]) /\ cs.length = 23 /\ Io cs /\ (∀ q, p = .ok q -> er = 0 /\ ∀ W', w'.heap.size <= W'.heap.size -> (∀ k, w.heap.size <= k -> k < w'.heap.size -> W'.heap[k]? = w'.heap[k]?) -> Wo W' cs (upP q)) /\ (∀ x, p = .error x -> ¬ er = 0)
theorem I9 {base : Nat} {w w' : World} {cs : List Value} {P : Qf} (h : Jy base w cs P) (hs : w.heap.size <= w'.heap.size) (hk : ∀ k, base <= k -> k < w.heap.size -> w'.heap[k]? = w.heap[k]?) : Jy base w' cs P := by
 obtain ⟨cc, A, cap, cb, cf, ca, h1, h2, h3, h4, h5, h6, h7⟩ := h; exact ⟨cc, A, cap, cb, cf, ca, h1, h2, Kd.tree w w' hs hk h3, Kd.exc w w' hs hk h4, Kd.tree w w' hs hk h5, Kd.tree w w' hs hk h6, Kd.tree w w' hs hk h7⟩
namespace So
theorem I9 {base : Nat} {w w' : World} {cs : List Value} {P : Qf} (h : Jy base w cs P) (hs : w.heap.size <= w'.heap.size) (hk : ∀ k, base <= k -> k < w.heap.size -> w'.heap[k]? = w.heap[k]?) : Jy base w' cs P := by
 obtain ⟨cc, A, cap, cb, cf, ca, h1, h2, h3, h4, h5, h6, h7⟩ := h; exact ⟨cc, A, cap, cb, cf, ca, h1, h2, Kd.tree w w' hs hk h3, Kd.excS w w' hs hk h4, Kd.tree w w' hs hk h5, Kd.tree w w' hs hk h6, Kd.tree w w' hs hk h7⟩
end So
theorem Oh (w : World) (b k : Nat) (C : Array Value) (h : k ≠ b) : (w.setRow b C).heap[k]? = w.heap[k]? := by
 have : ¬ b = k := fun e => h e.symm; simp [World.setRow, Array.getElem?_modify, this]
theorem qby (l : List UInt8) (w : World) (m : Int) (hm : w.cell? ⟨2, 0, none⟩ = some (.int .i64 m)) : Got 20 l (Qu l) w := by
 refine (R1 l w m hm).mono ?_; rintro e w' ⟨hb, aG⟩; refine ⟨hb, ?_⟩; cases hp : Qu l with
 | ok p =>
   rw [hp] at aG; obtain ⟨cs, rfl, aR⟩ := aG; exact ⟨cs, 0, 0, rfl, aR.toX.len, H7 aR.toX, fun q hq => by cases hq; exact ⟨rfl, fun W' hs hk => (I9 aR hs hk).toX⟩, fun x hx => by cases hx⟩
 | error v =>
   obtain ⟨er, a⟩ := v; rw [hp] at aG; exact ⟨X3.toList, er, a, aG, rfl, qav, fun q hq => (nomatch hq), fun x hx h => Uw hp (by omega)⟩
theorem Fq (l : List UInt8) (w : World) (m : Int) (hm : w.cell? ⟨2, 0, none⟩ = some (.int .i64 m)) : Got 21 l (So.Qu l) w := by
 refine (So.R1 l w m hm).mono ?_; rintro e w' ⟨hb, aG⟩; refine ⟨hb, ?_⟩; cases hp : So.Qu l with
 | ok p =>
   rw [hp] at aG; obtain ⟨cs, rfl, aR⟩ := aG; exact ⟨cs, 0, 0, rfl, aR.toX.len, H7 aR.toX, fun q hq => by cases hq; exact ⟨rfl, fun W' hs hk => (So.I9 aR hs hk).toX⟩, fun x hx => by cases hx⟩
 | error v =>
   obtain ⟨er, a⟩ := v; rw [hp] at aG; exact ⟨X3.toList, er, a, aG, rfl, qav, fun q hq => (nomatch hq), fun x hx h => So.Uw hp (by omega)⟩
theorem T5 {p : Qf} (h : Y8 p) (hn : ∀ s ∈ Q7 p, s.length <= 60) : qat (upP p) := by
 have hs : ∀ {t : Qb}, small t = true -> t.size <= 300 := fun h => by unfold small at h; simp at h; omega
 refine ⟨?_, ?_, ?_, ?_, ?_, ?_⟩
 · show (up p.cond).size <= 300
   rw [Oz]; exact hs h.condS
 · show (up p.beg).size <= 300
   rw [Oz]; exact hs h.begS
 · show (up p.fin).size <= 300
   rw [Oz]; exact hs h.finS
 · show (up p.aga).size <= 300
   rw [Oz]; exact hs h.agaS
 · have := h.excL; show p.exc.length <= 30
   omega
 · rw [R6]; exact hn
theorem F4 {w : Qa} (h : (Qv w).1 = 1) : w.length <= 60 := by
 obtain ⟨c, r, k, v, rfl, hl, hc⟩ := V3 (w := w) (by omega); rw [hc] at h; have hk : k = 1 := h; subst hk; unfold Qt at hl
 split at hl
 · split at hl
   · cases hl
   · injection hl with hl; injection hl with _ hl; injection hl with hl _; rw [List.length_cons]; omega
 · exfalso
   repeat' split at hl
   all_goals (first | (cases hl; done) | (simp only [Except.ok.injEq, Prod.mk.injEq] at hl; omega))
theorem qia {s : Qa} (h : Qp s = true) : s.length <= 60 := by
 unfold Qp at h; rw [Bool.and_eq_true, beq_iff_eq] at h; exact F4 h.1
theorem qbe {s : Qa} (h : So.Qp s = true) : s.length <= 60 := by
 unfold So.Qp at h; rw [Bool.and_eq_true, beq_iff_eq] at h; exact F4 h.1
set_option maxRecDepth 100000
theorem qh7 (w : World) (s : Qa) (eY : s.length <= maxLen) (ht : Xp w) (m : Int) (dU : w.cell? ⟨2, 0, none⟩ = some (.int .i64 m)) :
 Calls Tryz.prog 9 #[vs s] w fun e w' => e = .returned (.bool true) /\ Below w.heap.size w w' := by
 have HT := Hi ht; have dB := World.block_lt_of_cell? _ _ dU; have cJ : Hid (∀ wx, Below w.heap.size w wx -> wx.cell? ⟨2, 0, none⟩ = some (.int .i64 m)) := Hi (fun wx hx => (hx.cell dB).trans dU); clear ht dU dB eY; go_enter Tryz.func9, Tryz.ntmps9
 go_wp2_with fail; refine (qgj _ HT.out).mono ?_; rintro e w1 ⟨rfl, hb⟩; have H1 := Hi hb; clear hb
 by_cases hl : 4000 < s.length
 · have fD : (4000 : Int) < s.length := by omega
   clear hl; go_wp2_with fail; go_ret; exact ⟨rfl, H1.out⟩
 have fD : ¬ (4000 : Int) < s.length := by omega
 clear hl; go_wp2_with fail; refine (qby s w1 m (cJ.out _ H1.out)).mono ?_; rintro e w5 ⟨hb, cs, er, a, rfl, cF, dX, dT, cT⟩; have H5 := Hi (H1.out.trans (hb.mono H1.out.size)); have cO := Hi cF; have fF := Hi dX; have dK := dX.1; have dQ : cs.toArray.size = 23 := by simpa using cF
 clear hb cF dX dQ; cases hp : Qu s with
 | error x =>
   have eR := cT x hp; clear dT cT hp; go_wp2_with fail; have HA := Hi (AgS.start H5.out cs.toArray); have H6 := Hi HA.out.below; clear H5 dK; generalize w5.heap.size = bp at *; have WB := Hi HA.out; refine (Fq s _ m (cJ.out _ HA.out.below)).mono ?_; rintro e y1 ⟨hb, aW, fE, a3, rfl, cS, bF, bE, aU⟩; have cD := Hi (HA.out.step hb); have dM := bF.1; have dN := bF.2; have k0 := cD.out.blk; have l0 := cD.out.lt; have dF : cs.toArray.size = 23 := by simpa using cO.out
   have eC : bp < (w5.alloc (.cells cs.toArray 30)).heap.size := HA.out.lt; clear cS bF hb H6; cases bK : So.Qu s with
   | error x =>
     have eR := aU x bK; clear bE aU bK; go_wp2_with fail; go_ret; exact ⟨rfl, Xt cD.out.below cD.out.ge _⟩
   | ok p3 =>
   obtain ⟨rfl, bS⟩ := bE p3 bK; have aR := bS (y1.setRow bp aW.toArray) (by simp [World.setRow]) (fun k hk _ => Oh _ _ _ _ (by omega)); have HA := Hi (cD.out.set (D := aW.toArray)); obtain ⟨y2, dG⟩ : ∃ x, y1.setRow bp aW.toArray = x := ⟨_, rfl⟩
   obtain ⟨t1, t2, t3, t4⟩ := So.Pj bK; obtain ⟨hw, hn⟩ := L8.1 (So.Xx bK); rw [dG] at aR HA; have aZ := Hi aR; have bB := Hi (Vz hw); have bJ := Hi (T5 hw (fun s hs => qbe (hn s hs))); have bY := Hi (HT.out.below HA.out.below); obtain ⟨NA, bX⟩ : ∃ x, J3 (upP p3) = x := ⟨_, rfl⟩
   obtain ⟨SA, bW⟩ : ∃ x, J0 (upP p3) = x := ⟨_, rfl⟩
   obtain ⟨ta, fa⟩ := NA; obtain ⟨tb, fb⟩ := SA; have cN := Hi bX; have cM := Hi bW; rw [bW] at t1 t2; rw [bX] at t3 t4; obtain ⟨fi, cL⟩ : ∃ x : Int, ((fa : Nat) : Int) = x := ⟨_, rfl⟩
   obtain ⟨fj, cK⟩ : ∃ x : Int, ((fb : Nat) : Int) = x := ⟨_, rfl⟩
   have T1 : Hid (fj = 0 \/ fj = 2) := Hi (by simp only at t1; omega); have T2 : Hid (fj = 0 -> So.Qu tb = .ok p3) := Hi (fun h => t2 (by simp only; omega)); have T3 : Hid (fi = 0 \/ fi = 2 \/ fi = 7) := Hi (by simp only at t3; omega); have T4 : Hid (fi = 0 -> Qu ta = .ok p3) := Hi (fun h => t4 (by simp only; omega))
   have dE : Hid (∀ wx, Below y2.heap.size y2 wx -> Calls Tryz.prog 12 #[.agg aW.toArray] wx fun e w' => e = .returned (.tuple #[vs ta, .int .i64 fi]) /\ Below wx.heap.size wx w') := Hi (fun wx hx => by
    have := O5 y2 wx aW (upP p3) aZ.out hx bY.out bB.out bJ.out; rw [cN.out] at this; rw [<- cL]; exact this)
   have dD : Hid (∀ wx, Below y2.heap.size y2 wx -> Calls Tryz.prog 14 #[.agg aW.toArray] wx fun e w' => e = .returned (.tuple #[vs tb, .int .i64 fj]) /\ Below wx.heap.size wx w') := Hi (fun wx hx => by
    have := Hs y2 wx aW (upP p3) aZ.out hx bY.out bB.out bJ.out; rw [cM.out] at this; rw [<- cK]; exact this)
   have cI : Hid (∀ wx aC, Below y2.heap.size y2 wx -> Wo wx aC (upP p3) -> Calls Tryz.prog 16 #[.agg aW.toArray, .agg aC.toArray] wx fun e w' => e = .returned (.bool true) /\ Below wx.heap.size wx w') := Hi (fun wx aC hx h2 => by
    have hf := bJ.out; have := Rw (upP p3) (upP p3) aW aC wx (aZ.out.keep hx) h2 bB.out bB.out (by have := hf.cond; omega) (by have := hf.beg; omega) (by have := hf.fin; omega) (by have := hf.aga; omega) (by have := hf.exc; omega); rwa [(C0 _ _).2 rfl] at this)
   obtain ⟨bq, bU⟩ : ∃ x, y2.heap.size = x := ⟨_, rfl⟩
   have aN : Hid (Below bq y2 y2) := Hi (by rw [<- bU]; exact Below.refl _ _); clear bE aU aR bS t1 t2 t3 t4 hw hn bX bW cL cK aZ bB bJ bY cN cM bK WB eC; subst dG; have k1 := HA.out.blk; have l1 := HA.out.lt; go_wp2_with fail; refine (dD.out _ (by rw [bU]; exact aN.out)).mono ?_; rintro e x1 ⟨rfl, hb⟩; have aX := Hi (HA.out.step hb); have aF := Hi (aN.out.trans (hb.mono (by have := aN.out.size; omega))); clear hb k1 l1 HA aN; go_wp2_with fail; refine (Fq tb x1 m (cJ.out _ aX.out.below)).mono ?_; rintro e x2 ⟨hb, aC, dI, a2, rfl, aS, aE, aK, aL⟩; have bI := Hi (aX.out.step hb); have aH := Hi (aF.out.trans (hb.mono (by have := aF.out.size; omega))); have bN := aE.1; have bO := aE.2; have aP := Hi aK; clear hb aS aE aK aL aX aF; go_upto_region 19 with fail; have aJ := Hi (bI.out.step (Jp x2 (.cells aC.toArray 30))); have aB := Hi (aH.out.trans ((Jp x2 (.cells aC.toArray 30)).mono (by have := aH.out.size; omega))); have k2 : (x2.alloc (.cells aC.toArray 30)).blk x2.heap.size = some (.cells aC.toArray 30 (0, 0)) := heap_alloc_new x2 _; have K2 := Hi k2; have XX := Hi (Jp x2 (.cells aC.toArray 30)); clear k2 bN; generalize (x2.alloc (.cells aC.toArray 30)) = x3 at *; go_cut [145] from 126 to 145 (fun sc wd => sc = .bool false /\ AgS w wd bp aW.toArray /\ Below bq (y1.setRow bp aW.toArray) wd)
   case first =>
    rcases T1.out with rfl | rfl
    · obtain ⟨rfl, aA⟩ := aP.out _ (T2.out rfl); have aA := aA x2 (lR _) (fun _ _ _ => rfl); have k1 := aJ.out.blk; have l1 := aJ.out.lt; have k2 := K2.out; have l2 := lHp k2; have bZ := Hi (aA.keep XX.out); clear aA; go_wp2_with fail; refine (cI.out x3 aC (by rw [bU]; exact aB.out) bZ.out).mono ?_; rintro e x4 ⟨rfl, hb⟩; have cE := Hi (aJ.out.step hb); have bH := Hi (aB.out.trans (hb.mono (by have := aB.out.size; omega))); clear hb k1 l1 k2 l2; go_wp2_with fail; go_meet
      case rel => exact ⟨rfl, cE.out, bH.out⟩
    · go_wp2_with fail; go_meet
      case rel => exact ⟨rfl, aJ.out, aB.out⟩
   case rest =>
   obtain ⟨rfl, ha, bV⟩ := hcut; obtain ⟨wz, cP⟩ : ∃ x, x = wc := ⟨_, rfl⟩
   subst cP; have HA := Hi ha; have aN := Hi bV; clear ha bV bI aH aJ aB K2 XX aP bO; have k1 := HA.out.blk; have l1 := HA.out.lt; go_wp2_with fail; refine (dE.out _ (by rw [bU]; exact aN.out)).mono ?_; rintro e x1 ⟨rfl, hb⟩; have aX := Hi (HA.out.step hb); have aF := Hi (aN.out.trans (hb.mono (by have := aN.out.size; omega))); clear hb k1 l1 HA aN; go_wp2_with fail; refine (qby ta x1 m (cJ.out _ aX.out.below)).mono ?_; rintro e x2 ⟨hb, aC, dI, a2, rfl, aS, aE, aK, aL⟩; have bI := Hi (aX.out.step hb); have aH := Hi (aF.out.trans (hb.mono (by have := aF.out.size; omega))); have bN := aE.1; have bO := aE.2; have aP := Hi aK; clear hb aS aE aK aL aX aF; have aJ := Hi (bI.out.step (Jp x2 (.cells aC.toArray 30))); have aB := Hi (aH.out.trans ((Jp x2 (.cells aC.toArray 30)).mono (by have := aH.out.size; omega))); rcases T3.out with rfl | rfl | rfl
   · obtain ⟨rfl, aA⟩ := aP.out _ (T4.out rfl); have aA := aA x2 (lR _) (fun _ _ _ => rfl); have k1 := aJ.out.blk; have l1 := aJ.out.lt; have bZ := Hi (aA.keep (Jp x2 (.cells aC.toArray 30))); clear aA; go_wp2_with fail; refine (cI.out _ aC (by rw [bU]; exact aB.out) bZ.out).mono ?_; rintro e x4 ⟨rfl, hb⟩; have cE := Hi (aJ.out.step hb); clear hb k1 l1; go_wp2_with fail; go_ret; exact ⟨rfl, cE.out.below⟩
   · go_wp2_with fail; go_ret; exact ⟨rfl, aJ.out.below⟩
   · go_wp2_with fail; go_ret; exact ⟨rfl, aJ.out.below⟩
 | ok p =>
   obtain ⟨rfl, aR⟩ := dT p hp; have aR := aR w5 (lR _) (fun _ _ _ => rfl); obtain ⟨t1, t2, t3, t4⟩ := Fa hp; obtain ⟨hw, hn⟩ := qbc.1 (Xx hp); have aZ := Hi aR; have bB := Hi (Vz hw); have bJ := Hi (T5 hw (fun s hs => qia (hn s hs))); have bY := Hi (HT.out.below H5.out); obtain ⟨NA, bX⟩ : ∃ x, J3 (upP p) = x := ⟨_, rfl⟩
   obtain ⟨SA, bW⟩ : ∃ x, J0 (upP p) = x := ⟨_, rfl⟩
   obtain ⟨ta, fa⟩ := NA; obtain ⟨tb, fb⟩ := SA; have cN := Hi bX; have cM := Hi bW; rw [bX] at t1 t2; rw [bW] at t3 t4; obtain ⟨fi, cL⟩ : ∃ x : Int, ((fa : Nat) : Int) = x := ⟨_, rfl⟩
   obtain ⟨fj, cK⟩ : ∃ x : Int, ((fb : Nat) : Int) = x := ⟨_, rfl⟩
   have T1 : Hid (fi = 0 \/ fi = 2) := Hi (by simp only at t1; omega); have T2 : Hid (fi = 0 -> Qu ta = .ok p) := Hi (fun h => t2 (by simp only; omega)); have T3 : Hid (fj = 0 \/ fj = 2 \/ fj = 7) := Hi (by simp only at t3; omega); have T4 : Hid (fj = 0 -> So.Qu tb = .ok p) := Hi (fun h => t4 (by simp only; omega))
   have dE : Hid (∀ wx, Below w5.heap.size w5 wx -> Calls Tryz.prog 12 #[.agg cs.toArray] wx fun e w' => e = .returned (.tuple #[vs ta, .int .i64 fi]) /\ Below wx.heap.size wx w') := Hi (fun wx hx => by
    have := O5 w5 wx cs (upP p) aZ.out hx bY.out bB.out bJ.out; rw [cN.out] at this; rw [<- cL]; exact this)
   have dD : Hid (∀ wx, Below w5.heap.size w5 wx -> Calls Tryz.prog 14 #[.agg cs.toArray] wx fun e w' => e = .returned (.tuple #[vs tb, .int .i64 fj]) /\ Below wx.heap.size wx w') := Hi (fun wx hx => by
    have := Hs w5 wx cs (upP p) aZ.out hx bY.out bB.out bJ.out; rw [cM.out] at this; rw [<- cK]; exact this)
   have cI : Hid (∀ wx aC, Below w5.heap.size w5 wx -> Wo wx aC (upP p) -> Calls Tryz.prog 16 #[.agg cs.toArray, .agg aC.toArray] wx fun e w' => e = .returned (.bool true) /\ Below wx.heap.size wx w') := Hi (fun wx aC hx h2 => by
    have hf := bJ.out; have := Rw (upP p) (upP p) cs aC wx (aZ.out.keep hx) h2 bB.out bB.out (by have := hf.cond; omega) (by have := hf.beg; omega) (by have := hf.fin; omega) (by have := hf.aga; omega) (by have := hf.exc; omega); rwa [(C0 _ _).2 rfl] at this)
   have dO := fF.out.2; clear dT cT aR t1 t2 t3 t4 hw hn bX bW cL cK aZ bB bJ bY cN cM hp; go_wp2_with fail; have HA := Hi (AgS.start H5.out cs.toArray); have aN := Hi (Jp w5 (.cells cs.toArray 30)); obtain ⟨bp, dC⟩ : ∃ x, w5.heap.size = x := ⟨_, rfl⟩
   obtain ⟨w6, eQ⟩ : ∃ x, w5.alloc (.cells cs.toArray 30) = x := ⟨_, rfl⟩
   rw [eQ] at HA aN ⊢; rw [dC] at HA aN ⊢; clear eQ; have k1 := HA.out.blk; have l1 := HA.out.lt; go_wp2_with fail; refine (dE.out _ (by rw [dC]; exact aN.out)).mono ?_; rintro e x1 ⟨rfl, hb⟩; have aX := Hi (HA.out.step hb); have aF := Hi (aN.out.trans (hb.mono (by have := aN.out.size; omega))); clear hb k1 l1 HA aN; go_wp2_with fail; refine (qby ta x1 m (cJ.out _ aX.out.below)).mono ?_; rintro e x2 ⟨hb, aC, dI, a2, rfl, aS, aE, aK, aL⟩; have bI := Hi (aX.out.step hb); have aH := Hi (aF.out.trans (hb.mono (by have := aF.out.size; omega))); have bN := aE.1; have bO := aE.2; have aP := Hi aK; clear hb aS aE aK aL aX aF; go_upto_region 8 with fail; have aJ := Hi (bI.out.step (Jp x2 (.cells aC.toArray 30))); have aB := Hi (aH.out.trans ((Jp x2 (.cells aC.toArray 30)).mono (by have := aH.out.size; omega))); have k2 : (x2.alloc (.cells aC.toArray 30)).blk x2.heap.size = some (.cells aC.toArray 30 (0, 0)) := heap_alloc_new x2 _; have K2 := Hi k2; have XX := Hi (Jp x2 (.cells aC.toArray 30)); clear k2 bN; generalize (x2.alloc (.cells aC.toArray 30)) = x3 at *; go_cut [70] from 51 to 70 (fun sc wd => sc = .bool false /\ AgS w wd bp cs.toArray /\ Below bp w5 wd)
   case first =>
    rcases T1.out with rfl | rfl
    · obtain ⟨rfl, aA⟩ := aP.out _ (T2.out rfl); have aA := aA x2 (lR _) (fun _ _ _ => rfl); have k1 := aJ.out.blk; have l1 := aJ.out.lt; have k2 := K2.out; have l2 := lHp k2; have bZ := Hi (aA.keep XX.out); clear aA; go_wp2_with fail; refine (cI.out x3 aC (by rw [dC]; exact aB.out) bZ.out).mono ?_; rintro e x4 ⟨rfl, hb⟩; have cE := Hi (aJ.out.step hb); have bH := Hi (aB.out.trans (hb.mono (by have := aB.out.size; omega))); clear hb k1 l1 k2 l2; go_wp2_with fail; go_meet
      case rel => exact ⟨rfl, cE.out, bH.out⟩
    · go_wp2_with fail; go_meet
      case rel => exact ⟨rfl, aJ.out, aB.out⟩
   case rest =>
   obtain ⟨rfl, ha, bV⟩ := hcut; obtain ⟨wz, cP⟩ : ∃ x, x = wc := ⟨_, rfl⟩
   subst cP; have HA := Hi ha; have aN := Hi bV; clear ha bV bI aH aJ aB K2 XX aP bO; have k1 := HA.out.blk; have l1 := HA.out.lt; go_wp2_with fail; refine (dD.out _ (by rw [dC]; exact aN.out)).mono ?_; rintro e x1 ⟨rfl, hb⟩; have aX := Hi (HA.out.step hb); have aF := Hi (aN.out.trans (hb.mono (by have := aN.out.size; omega))); clear hb k1 l1 HA aN; go_wp2_with fail; refine (Fq tb x1 m (cJ.out _ aX.out.below)).mono ?_; rintro e x2 ⟨hb, aC, dI, a2, rfl, aS, aE, aK, aL⟩; have bI := Hi (aX.out.step hb); have aH := Hi (aF.out.trans (hb.mono (by have := aF.out.size; omega))); have bN := aE.1; have bO := aE.2; have aP := Hi aK; clear hb aS aE aK aL aX aF; go_upto_region 12 with fail; have aJ := Hi (bI.out.step (Jp x2 (.cells aC.toArray 30))); have aB := Hi (aH.out.trans ((Jp x2 (.cells aC.toArray 30)).mono (by have := aH.out.size; omega))); have k2 : (x2.alloc (.cells aC.toArray 30)).blk x2.heap.size = some (.cells aC.toArray 30 (0, 0)) := heap_alloc_new x2 _; have K2 := Hi k2; have XX := Hi (Jp x2 (.cells aC.toArray 30)); clear k2 bN; generalize (x2.alloc (.cells aC.toArray 30)) = x3 at *; go_cut [105] from 82 to 105 (fun sc wd => sc = .bool false /\ AgS w wd bp cs.toArray /\ Below bp w5 wd)
   case first =>
    rcases T3.out with rfl | rfl | rfl
    · obtain ⟨rfl, aA⟩ := aP.out _ (T4.out rfl); have aA := aA x2 (lR _) (fun _ _ _ => rfl); have k1 := aJ.out.blk; have l1 := aJ.out.lt; have k2 := K2.out; have l2 := lHp k2; have bZ := Hi (aA.keep XX.out); clear aA; go_wp2_with fail; refine (cI.out x3 aC (by rw [dC]; exact aB.out) bZ.out).mono ?_; rintro e x4 ⟨rfl, hb⟩; have cE := Hi (aJ.out.step hb); have bH := Hi (aB.out.trans (hb.mono (by have := aB.out.size; omega))); clear hb k1 l1 k2 l2; go_wp2_with fail; go_meet
      case rel => exact ⟨rfl, cE.out, bH.out⟩
    · go_wp2_with fail; go_meet
      case rel => exact ⟨rfl, aJ.out, aB.out⟩
    · go_wp2_with fail; go_meet
      case rel => exact ⟨rfl, aJ.out, aB.out⟩
   case rest =>
   obtain ⟨rfl, ha, bV⟩ := hcut; obtain ⟨wz, cP⟩ : ∃ x, x = wc := ⟨_, rfl⟩
   subst cP; have HA := Hi ha; have aN := Hi bV; clear ha bV bI aH aJ aB K2 XX aP bO; go_wp2_with fail; have H6 := Hi HA.out.below; clear dE dD cI T1 T2 T3 T4 aN H5 dK dC dO; have WB := Hi HA.out; refine (Fq s _ m (cJ.out _ HA.out.below)).mono ?_; rintro e y1 ⟨hb, aW, fE, a3, rfl, cS, bF, bE, aU⟩; have cD := Hi (HA.out.step hb); have dM := bF.1; have dN := bF.2; have k0 := cD.out.blk; have l0 := cD.out.lt; have dF : cs.toArray.size = 23 := by simpa using cO.out
   have eC : bp < wz.heap.size := HA.out.lt; clear cS bF hb H6; cases bK : So.Qu s with
   | error x =>
     have eR := aU x bK; clear bE aU bK; go_wp2_with fail; go_ret; exact ⟨rfl, Xt cD.out.below cD.out.ge _⟩
   | ok p3 =>
   obtain ⟨rfl, bS⟩ := bE p3 bK; have aR := bS (y1.setRow bp aW.toArray) (by simp [World.setRow]) (fun k hk _ => Oh _ _ _ _ (by omega)); have HA := Hi (cD.out.set (D := aW.toArray)); obtain ⟨y2, dG⟩ : ∃ x, y1.setRow bp aW.toArray = x := ⟨_, rfl⟩
   obtain ⟨t1, t2, t3, t4⟩ := So.Pj bK; obtain ⟨hw, hn⟩ := L8.1 (So.Xx bK); rw [dG] at aR HA; have aZ := Hi aR; have bB := Hi (Vz hw); have bJ := Hi (T5 hw (fun s hs => qbe (hn s hs))); have bY := Hi (HT.out.below HA.out.below); obtain ⟨NA, bX⟩ : ∃ x, J3 (upP p3) = x := ⟨_, rfl⟩
   obtain ⟨SA, bW⟩ : ∃ x, J0 (upP p3) = x := ⟨_, rfl⟩
   obtain ⟨ta, fa⟩ := NA; obtain ⟨tb, fb⟩ := SA; have cN := Hi bX; have cM := Hi bW; rw [bW] at t1 t2; rw [bX] at t3 t4; obtain ⟨fi, cL⟩ : ∃ x : Int, ((fa : Nat) : Int) = x := ⟨_, rfl⟩
   obtain ⟨fj, cK⟩ : ∃ x : Int, ((fb : Nat) : Int) = x := ⟨_, rfl⟩
   have T1 : Hid (fj = 0 \/ fj = 2) := Hi (by simp only at t1; omega); have T2 : Hid (fj = 0 -> So.Qu tb = .ok p3) := Hi (fun h => t2 (by simp only; omega)); have T3 : Hid (fi = 0 \/ fi = 2 \/ fi = 7) := Hi (by simp only at t3; omega); have T4 : Hid (fi = 0 -> Qu ta = .ok p3) := Hi (fun h => t4 (by simp only; omega))
   have dE : Hid (∀ wx, Below y2.heap.size y2 wx -> Calls Tryz.prog 12 #[.agg aW.toArray] wx fun e w' => e = .returned (.tuple #[vs ta, .int .i64 fi]) /\ Below wx.heap.size wx w') := Hi (fun wx hx => by
    have := O5 y2 wx aW (upP p3) aZ.out hx bY.out bB.out bJ.out; rw [cN.out] at this; rw [<- cL]; exact this)
   have dD : Hid (∀ wx, Below y2.heap.size y2 wx -> Calls Tryz.prog 14 #[.agg aW.toArray] wx fun e w' => e = .returned (.tuple #[vs tb, .int .i64 fj]) /\ Below wx.heap.size wx w') := Hi (fun wx hx => by
    have := Hs y2 wx aW (upP p3) aZ.out hx bY.out bB.out bJ.out; rw [cM.out] at this; rw [<- cK]; exact this)
   have cI : Hid (∀ wx aC, Below y2.heap.size y2 wx -> Wo wx aC (upP p3) -> Calls Tryz.prog 16 #[.agg aW.toArray, .agg aC.toArray] wx fun e w' => e = .returned (.bool true) /\ Below wx.heap.size wx w') := Hi (fun wx aC hx h2 => by
    have hf := bJ.out; have := Rw (upP p3) (upP p3) aW aC wx (aZ.out.keep hx) h2 bB.out bB.out (by have := hf.cond; omega) (by have := hf.beg; omega) (by have := hf.fin; omega) (by have := hf.aga; omega) (by have := hf.exc; omega); rwa [(C0 _ _).2 rfl] at this)
   obtain ⟨bq, bU⟩ : ∃ x, y2.heap.size = x := ⟨_, rfl⟩
   have aN : Hid (Below bq y2 y2) := Hi (by rw [<- bU]; exact Below.refl _ _); clear bE aU aR bS t1 t2 t3 t4 hw hn bX bW cL cK aZ bB bJ bY cN cM bK WB eC; subst dG; have k1 := HA.out.blk; have l1 := HA.out.lt; go_wp2_with fail; refine (dD.out _ (by rw [bU]; exact aN.out)).mono ?_; rintro e x1 ⟨rfl, hb⟩; have aX := Hi (HA.out.step hb); have aF := Hi (aN.out.trans (hb.mono (by have := aN.out.size; omega))); clear hb k1 l1 HA aN; go_wp2_with fail; refine (Fq tb x1 m (cJ.out _ aX.out.below)).mono ?_; rintro e x2 ⟨hb, aC, dI, a2, rfl, aS, aE, aK, aL⟩; have bI := Hi (aX.out.step hb); have aH := Hi (aF.out.trans (hb.mono (by have := aF.out.size; omega))); have bN := aE.1; have bO := aE.2; have aP := Hi aK; clear hb aS aE aK aL aX aF; go_upto_region 19 with fail; have aJ := Hi (bI.out.step (Jp x2 (.cells aC.toArray 30))); have aB := Hi (aH.out.trans ((Jp x2 (.cells aC.toArray 30)).mono (by have := aH.out.size; omega))); have k2 : (x2.alloc (.cells aC.toArray 30)).blk x2.heap.size = some (.cells aC.toArray 30 (0, 0)) := heap_alloc_new x2 _; have K2 := Hi k2; have XX := Hi (Jp x2 (.cells aC.toArray 30)); clear k2 bN; generalize (x2.alloc (.cells aC.toArray 30)) = x3 at *; go_cut [145] from 126 to 145 (fun sc wd => sc = .bool false /\ AgS w wd bp aW.toArray /\ Below bq (y1.setRow bp aW.toArray) wd)
   case first =>
    rcases T1.out with rfl | rfl
    · obtain ⟨rfl, aA⟩ := aP.out _ (T2.out rfl); have aA := aA x2 (lR _) (fun _ _ _ => rfl); have k1 := aJ.out.blk; have l1 := aJ.out.lt; have k2 := K2.out; have l2 := lHp k2; have bZ := Hi (aA.keep XX.out); clear aA; go_wp2_with fail; refine (cI.out x3 aC (by rw [bU]; exact aB.out) bZ.out).mono ?_; rintro e x4 ⟨rfl, hb⟩; have cE := Hi (aJ.out.step hb); have bH := Hi (aB.out.trans (hb.mono (by have := aB.out.size; omega))); clear hb k1 l1 k2 l2; go_wp2_with fail; go_meet
      case rel => exact ⟨rfl, cE.out, bH.out⟩
    · go_wp2_with fail; go_meet
      case rel => exact ⟨rfl, aJ.out, aB.out⟩
   case rest =>
   obtain ⟨rfl, ha, bV⟩ := hcut; obtain ⟨wz, cP⟩ : ∃ x, x = wc := ⟨_, rfl⟩
   subst cP; have HA := Hi ha; have aN := Hi bV; clear ha bV bI aH aJ aB K2 XX aP bO; have k1 := HA.out.blk; have l1 := HA.out.lt; go_wp2_with fail; refine (dE.out _ (by rw [bU]; exact aN.out)).mono ?_; rintro e x1 ⟨rfl, hb⟩; have aX := Hi (HA.out.step hb); have aF := Hi (aN.out.trans (hb.mono (by have := aN.out.size; omega))); clear hb k1 l1 HA aN; go_wp2_with fail; refine (qby ta x1 m (cJ.out _ aX.out.below)).mono ?_; rintro e x2 ⟨hb, aC, dI, a2, rfl, aS, aE, aK, aL⟩; have bI := Hi (aX.out.step hb); have aH := Hi (aF.out.trans (hb.mono (by have := aF.out.size; omega))); have bN := aE.1; have bO := aE.2; have aP := Hi aK; clear hb aS aE aK aL aX aF; have aJ := Hi (bI.out.step (Jp x2 (.cells aC.toArray 30))); have aB := Hi (aH.out.trans ((Jp x2 (.cells aC.toArray 30)).mono (by have := aH.out.size; omega))); rcases T3.out with rfl | rfl | rfl
   · obtain ⟨rfl, aA⟩ := aP.out _ (T4.out rfl); have aA := aA x2 (lR _) (fun _ _ _ => rfl); have k1 := aJ.out.blk; have l1 := aJ.out.lt; have bZ := Hi (aA.keep (Jp x2 (.cells aC.toArray 30))); clear aA; go_wp2_with fail; refine (cI.out _ aC (by rw [bU]; exact aB.out) bZ.out).mono ?_; rintro e x4 ⟨rfl, hb⟩; have cE := Hi (aJ.out.step hb); clear hb k1 l1; go_wp2_with fail; go_ret; exact ⟨rfl, cE.out.below⟩
   · go_wp2_with fail; go_ret; exact ⟨rfl, aJ.out.below⟩
   · go_wp2_with fail; go_ret; exact ⟨rfl, aJ.out.below⟩
