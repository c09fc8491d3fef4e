/- The lexer: tokens, Lex. -/
import Derived.Test.YtbicmjmcdnkjhaaGreatDoorJAA13
import Derived.Maps.OwnIn
import Derived.Shelf.RegionOpen
import Derived.Test.YtbicmjmcdnkjhaaGreatDoorJAA12
set_option linter.unusedVariables false
set_option linter.unusedSimpArgs false
set_option maxRecDepth 100000
set_option maxHeartbeats 4000000
namespace Go.Proofs.YtbicmjmcdnkjhaaGreatDoor
section
open Go.RowKit Go.Shelf
attribute [local go_sem] Oper.semAt_some
theorem Sq (l : List UInt8) (w : World) :
 Calls Tryz.prog 77 #[vs l] w fun e w' => ∃ bt ba bc, e = .returned (.func (.func 116) #[] #[.pointer (some ⟨bt, 0, none⟩), .pointer (some ⟨ba, 0, none⟩)]) /\ Np w' l bt ba bc w.heap.size w'.heap.size /\ Below w.heap.size w w' := by
 go_enter Tryz.func77, Tryz.ntmps77
 go_wp2_with fail; refine (F9 _).mono ?_; rintro e w1 ⟨aN, C, rfl, hs, hv⟩; have aT : w1.heap[w.heap.size]? = some (.cells #[vs l] 9 (0, 0)) := (aN.block _ (by simp)).trans (heap_alloc_new w _); have eA := Hi aT; have dJ : Hid (Below w.heap.size w w1) := Hi (((Below.refl _ _).alloc (lR _) _).trans (aN.mono (by simp))); have HS := Hi hs; have dZ := Hi hv; clear aT aN hs hv; go_wp2_with fail; rw [show (w1.alloc (.cells Tryz.zeroCells157 157)).tbk w1.heap.size = some (.cells Tryz.zeroCells157 157 (0, 0)) from heap_alloc_new w1 _, Iv _ _ _ _ _ (by rw [zc]; simp) HS.out (qa0 HS.out dZ.out), World.setRow_alloc_new]; go_wp2_with fail; go_ret; have bA := lHp eA.out; refine ⟨w.heap.size, w1.heap.size + 1, w1.heap.size, rfl, ⟨?_, ?_, ?_, by simp; omega, lR _⟩, (dJ.out.alloc dJ.out.size _).alloc (by have := dJ.out.size; simp; omega) _⟩
 · exact cOb (o := 0) ((Below.heap_alloc _ _ _ (by simp; omega)).trans ((Below.heap_alloc _ _ _ bA).trans eA.out)) rfl
 · have h2 := heap_alloc_new (w1.alloc (.cells C 157)) (.cells #[.func (.func 115) #[] #[.pointer (some ⟨w.heap.size, 0, none⟩), .pointer (some ⟨w1.heap.size, 0, none⟩)]] 168); rw [show (w1.alloc (.cells C 157)).heap.size = w1.heap.size + 1 by simp] at h2; exact cOb (o := 0) h2 rfl
 · exact ⟨C, (Below.heap_alloc _ _ _ (by simp)).trans (heap_alloc_new w1 _), HS.out, dZ.out⟩
abbrev K8 (w : World) (base : Nat) (v : Value) (l : List Tok) : Prop := w.ownsRow base 122 4 v l.length (l.map Tok.cells).flatten
theorem Dg : ∀ {l : List Tok} {k j : Nat} {x : Tok} {v : Value}, l[k]? = some x -> x.cells[j]? = some v -> (l.map Tok.cells).flatten[k * 4 + j]? = some v
 | [], k, j, x, v, h, _ => by simp at h
 | t :: l, 0, j, x, v, h, hv => by
   simp at h; subst h; rw [List.map_cons, List.flatten_cons, Nat.zero_mul, Nat.zero_add, List.getElem?_append_left (List.getElem?_eq_some_iff.1 hv).1]; exact hv
 | t :: l, k + 1, j, x, v, h, hv => by
   rw [List.map_cons, List.flatten_cons, List.getElem?_append_right (by simp; omega)]; have e : (k + 1) * 4 + j - t.cells.length = k * 4 + j := by simp; omega
   rw [e]; exact Dg (by simpa using h) hv
theorem K8.form {w : World} {base : Nat} {v : Value} {l : List Tok} (h : K8 w base v l) : ∃ A cap, v = .slice A l.length cap /\ l.length <= cap /\ cap <= maxLen /\ RdT w A l /\ ∀ b o, A = some ⟨b, o, none⟩ -> base <= b /\ b < w.heap.size := by
 rcases h.2 with ⟨hv, h0⟩ | ⟨g, cap, cur, rfl, r2, r3, r4, r5, r6, r7⟩
 · refine ⟨none, 0, ?_, by omega, Nat.zero_le _, ?_, fun b o e => by cases e⟩
   · rw [hv, h0]
   · have := List.length_eq_zero_iff.1 h0; subst this; exact Sl.nil
 · refine ⟨_, cap, rfl, r4, r5, ?_, fun b o e => by cases e; exact ⟨r2, lHp r3⟩⟩; intro aF; refine ⟨g, 0, rfl, lHp r3, fun k x hx j u hu => ?_⟩; refine cOb r3 ?_; have hk := Dg hx hu; rw [<- r7, List.getElem?_take] at hk
   split at hk
   · rw [Nat.zero_add, <- Array.getElem?_toList]; exact hk
   · cases hk
theorem K8.nil {w : World} {base : Nat} : K8 w base (.slice none 0 0) [] := ⟨rfl, .inl ⟨rfl, rfl⟩⟩
theorem K8.keep {w w' : World} {base : Nat} {v : Value} {l : List Tok} (h : K8 w base v l) (hk : ∀ b C t fr, w.heap[b]? = some (.cells C t fr) -> base <= b -> w'.heap[b]? = some (.cells C t fr)) : K8 w' base v l := by
 refine ⟨h.1, ?_⟩; rcases h.2 with h | ⟨g, cap, cur, rfl, r2, r3, r4⟩
 · exact .inl h
 · exact .inr ⟨g, cap, cur, rfl, r2, hk _ _ _ _ r3 r2, r4⟩
theorem W4 {X Y : World} {row : Option Nat} {b : Nat} {C : Array Value} {t : TypeId} {fr : Nat × Nat} (h : X.heap[b]? = some (.cells C t fr)) (hg : X.grownBy Y row) (hr : ∀ r, row = some r -> ∃ o : Obj, X.heap[r]? = some o /\ o.isCells = false) : Y.heap[b]? = some (.cells C t fr) :=
 (hg.block b (lHp h) (fun e => by obtain ⟨o, ho, hc⟩ := hr b e.symm; rw [h] at ho; cases ho; cases hc)).trans h
structure P7 (w W : World) (v2 v3 v4 : Value) : Prop where
 r2 : W.heap[w.heap.size]? = some (.cells #[v2] 79 (0, 0))
 r3 : W.heap[w.heap.size + 1]? = some (.cells #[v3] 33 (0, 0))
 r4 : W.heap[w.heap.size + 1 + 1]? = some (.cells #[v4] 3 (0, 0))
structure qar (w : World) (n₀ : Nat) (pre : List (Tok × Nat)) (W : World) : Prop where
 is : ∃ ts v, pre = Xr ts /\ ts.length <= 5000 /\ W.heap[w.heap.size + 1 + 1 + 1]? = some (.cells #[v] 79 (0, 0)) /\ K8 W n₀ v ts
 res : P7 w W (.slice none 0 0) (.int .i64 0) (.int .i64 0)
 below : Below w.heap.size w W
 size : n₀ <= W.heap.size
structure qeg (w : World) (c : Code) (pre : List (Tok × Nat)) (W : World) : Prop where
 is : c = .ret
 out : ∃ ts t err er, pre = Xr ts ++ [(t, err)] /\ ts.length <= 5000 /\ (err ≠ 0 /\ er = err \/ err = 0 /\ ts.length = 5000 /\ er = 2) /\ P7 w W (.slice none 0 0) (.int .i64 (er : Nat)) (.int .i64 t.pos)
 below : Below w.heap.size w W
theorem P7.kept {w X Y : World} {v2 v3 v4 : Value} {row : Option Nat} (h : P7 w X v2 v3 v4) (hg : X.grownBy Y row) (hr : ∀ r, row = some r -> ∃ o : Obj, X.heap[r]? = some o /\ o.isCells = false) : P7 w Y v2 v3 v4 :=
 ⟨W4 h.r2 hg hr, W4 h.r3 hg hr, W4 h.r4 hg hr⟩
theorem Ih {w X Y : World} {row : Option Nat} {B : Nat} (h : Below w.heap.size w X) (hB : w.heap.size <= B) (hg : X.grownBy Y row) (hr : ∀ r, row = some r -> B <= r) : Below w.heap.size w Y :=
 h.grown hg h.size (fun k e => Nat.le_trans hB (hr k e))
theorem qar.own {w : World} {n₀ B : Nat} (hB : w.heap.size <= B) : OwnFrom B (qar w n₀) := by
 intro pre X Y row h hg hr; obtain ⟨ts, v, h1, h2, h3, h4⟩ := h.is; exact ⟨⟨ts, v, h1, h2, W4 h3 hg (fun r e => (hr r e).2), h4.keep (fun b C t fr hb _ => W4 hb hg (fun r e => (hr r e).2))⟩, h.res.kept hg (fun r e => (hr r e).2), Ih h.below hB hg (fun r e => (hr r e).1), Nat.le_trans h.size hg.size⟩
theorem qeg.own {w : World} {B : Nat} (hB : w.heap.size <= B) (c : Code) : OwnFrom B (qeg w c) := by
 intro pre X Y row h hg hr; obtain ⟨ts, t, err, er, h1, h2, h3, h4⟩ := h.out; exact ⟨h.is, ⟨ts, t, err, er, h1, h2, h3, h4.kept hg (fun r e => (hr r e).2)⟩, Ih h.below hB hg (fun r e => (hr r e).1)⟩
theorem KpT.trans {lo n₀ : Nat} {A B C : World} (h : KpT lo n₀ A B) (k : KpT lo n₀ B C) : KpT lo n₀ A C := ⟨h.1.trans k.1, fun b C fr hb => k.2 _ _ _ (h.2 _ _ _ hb)⟩
theorem KpT.put {w : World} {lo n₀ : Nat} (hn : n₀ <= w.heap.size) (W : World) (l : Nat) (o o' : Obj) (hl : w.heap.size <= l) (h : W.heap[l]? = some o) (hc : o.isCells = false) (hw : o.isWalk = false) : KpT lo n₀ W (W.putObj l o') :=
 ⟨Mid.of_below (belowK_b hn W l o o' hl h hc hw), fun k C fr hk => (World.putObj_heap_other (fun e => by subst e; rw [hk] at h; cases h; cases hc)).trans hk⟩
theorem qet {w5 : World} {l : List UInt8} {bt ba bc lo : Nat} (hl : l.length <= 20000) (hT : Np w5 l bt ba bc lo w5.heap.size) :
 SeqStopsK Fence.wide 8 Tryz.prog 116 #[.pointer (some ⟨bt, 0, none⟩), .pointer (some ⟨ba, 0, none⟩)] encT (KpT lo w5.heap.size) (qhl l) (PreT l) 20000 w5 := by
 intro lp J Jx W hW hJ gK hY h0; exact (callsIn_wide (n := 8)).2 (qeu lp bt ba bc lo w5.heap.size l hl J Jx W (hT.mid (Mid.of_below hW)) hJ hY h0)
theorem Lv {w X : World} {v2 v3 v4 : Value} {tmps : Array Value} (hr : P7 w X v2 v3 v4) (h2 : tmps.getD 2 undef = .pointer (some ⟨w.heap.size, 0, none⟩)) (h3 : tmps.getD 3 undef = .pointer (some ⟨w.heap.size + 1, 0, none⟩)) (h4 : tmps.getD 4 undef = .pointer (some ⟨w.heap.size + 1 + 1, 0, none⟩)) :
 (results Tryz.f52 tmps).run Tryz.prog X = .ok (.tuple #[v2, v3, v4]) X := by
 have c2 := cOb (o := 0) hr.r2 rfl; have c3 := cOb (o := 0) hr.r3 rfl; have c4 := cOb (o := 0) hr.r4 rfl; have fG : tmps[2]?.getD undef = .pointer (some ⟨w.heap.size, 0, none⟩) := by simpa using h2
 have fF : tmps[3]?.getD undef = .pointer (some ⟨w.heap.size + 1, 0, none⟩) := by simpa using h3
 have fE : tmps[4]?.getD undef = .pointer (some ⟨w.heap.size + 1 + 1, 0, none⟩) := by simpa using h4
 simp [results, Tryz.results52, fG, fF, fE, asAddr, go_sem, c2, c3, c4]
theorem P7.set {w W : World} {v2 v3 v4 : Value} (h : P7 w W v2 v3 v4) (u2 u3 u4 : Value) : P7 w (((W.setCell ⟨w.heap.size, 0, none⟩ u2).setCell ⟨w.heap.size + 1, 0, none⟩ u3).setCell ⟨w.heap.size + 1 + 1, 0, none⟩ u4) u2 u3 u4 := by
 have e2 := rSc (o := 0) (u := u2) h.r2; have e3 := (Below.heap_setCell W ⟨w.heap.size, 0, none⟩ u2 (w.heap.size + 1) (by simp)).trans h.r3; have e4 := (Below.heap_setCell W ⟨w.heap.size, 0, none⟩ u2 (w.heap.size + 1 + 1) (by simp; omega)).trans h.r4; have f3 := rSc (o := 0) (u := u3) e3; have f2 := (Below.heap_setCell _ ⟨w.heap.size + 1, 0, none⟩ u3 w.heap.size (by simp)).trans e2; have f4 := (Below.heap_setCell _ ⟨w.heap.size + 1, 0, none⟩ u3 (w.heap.size + 1 + 1) (by simp)).trans e4; have g4 := rSc (o := 0) (u := u4) f4; have g3 := (Below.heap_setCell _ ⟨w.heap.size + 1 + 1, 0, none⟩ u4 (w.heap.size + 1) (by simp)).trans f3; have g2 := (Below.heap_setCell _ ⟨w.heap.size + 1 + 1, 0, none⟩ u4 w.heap.size (by simp; omega)).trans f2; exact ⟨g2, g3, g4⟩
theorem Nh {w W : World} (h : Below w.heap.size w W) (u2 u3 u4 : Value) : Below w.heap.size w (((W.setCell ⟨w.heap.size, 0, none⟩ u2).setCell ⟨w.heap.size + 1, 0, none⟩ u3).setCell ⟨w.heap.size + 1 + 1, 0, none⟩ u4) :=
 ((h.setCell (lR _) _).setCell (by simp) _).setCell (by simp; omega) _
theorem Lt {w W : World} {k : Nat} (hk : w.heap.size + 1 + 1 < k) (u2 u3 u4 : Value) : (((W.setCell ⟨w.heap.size, 0, none⟩ u2).setCell ⟨w.heap.size + 1, 0, none⟩ u3).setCell ⟨w.heap.size + 1 + 1, 0, none⟩ u4).heap[k]? = W.heap[k]? :=
 (Below.heap_setCell _ _ _ _ (by simp; omega)).trans ((Below.heap_setCell _ _ _ _ (by simp; omega)).trans (Below.heap_setCell _ _ _ _ (by simp; omega)))
theorem qge : (Tryz.prog.info? 122).map (fun i => (i.zero, i.size, i.bytes)) = some (some (.agg #[.int .i64 0, .string ⟨#[]⟩, .int .i64 0, .int .i64 0]), 4, 40) := by kernel_rfl
theorem Gf {F : Fence} {nF : Nat} {ops : Array Oper} {rest : List Oper} {o : Oper} {a : Act} {w : World} {Q : Exit -> Act -> World -> Prop} (eY : o.guard = none) (s x : Operand) (eO : o.op = Op.call { callee := Callee.builtin Builtin.append, args := #[s, x], argTypes := #[79, 79] })
 (base : Nat) (v : Value) (l : List Tok) (g0 : Nat) (t : Tok) (hs : a.eval s = v) (hx : a.eval x = .slice (some ⟨g0, 0, none⟩) 1 1) (aC : K8 w base v l) (hc : w.heap[g0]? = some (.cells t.cells.toArray 122 (0, 0)))
 (aG : l.length + 1 <= 1000000) (hb : base <= w.heap.size) (h : ∀ v' w', K8 w' base v' (l ++ [t]) -> w.grownBy w' v.ownBlock -> wpListIn F nF Tryz.prog ops Q rest (a.put o.dst v') w') : wpListIn F nF Tryz.prog ops Q (o :: rest) a w := by
 obtain ⟨i0, dC, cV, cU, cT⟩ := info_parts qge; refine wpListIn_append_own_at _ eY s x _ eO base 122 i0 _ 4 40 Tryz.underlying79 dC cV cU cT rfl (by decide) v l.length _ hs aC ⟨g0, 0, none⟩ 1 1 t.cells hx rfl (fun j u hu => ?_) (by simp [Value.oneCell']) (by unfold maxLen; omega) (by omega) hb ?_
 · rw [Addr.add_lit]; exact cOb hc (by simpa using hu)
 · intro v' w' ho hg _ _; exact h v' w' (by unfold K8; simpa using ho) hg
theorem Pl {ts us : List Tok} {t : Tok} {e : Nat} (h : Xr ts = Xr us ++ [(t, e)]) : e = 0 /\ ts = us ++ [t] := by
 have hm : (t, e) ∈ Xr ts := by rw [h]; simp
 have he : e = 0 := by
  obtain ⟨x, -, hx⟩ := List.mem_map.1 hm; injection hx with _ hx; exact hx.symm
 subst he; rw [Uy] at h; refine ⟨rfl, ?_⟩; have h2 := congrArg (List.map Prod.fst) h; simpa [Xr, List.map_map, Function.comp_def] using h2
theorem R5 {ts us : List Tok} (h : Xr ts = Xr us) : ts = us := by
 have h2 := congrArg (List.map Prod.fst) h; simpa [Xr, List.map_map, Function.comp_def] using h2
theorem qf8 {l : List UInt8} {ts : List Tok} (hl : l.length <= 20000) (h : qhl l (Xr ts)) (aG : ts.length <= 5000) : Zr l = .ok ts := by
 rcases h with ⟨us, h1, h2⟩ | ⟨us, t, e, h1, h2, h3⟩
 · rw [R5 h1]; rw [R5 h1] at aG; exact Cu h2 aG hl
 · exact absurd (Pl h1).1 h2
theorem qfj {ts us : List Tok} {t u : Tok} {e f : Nat} (h : Xr ts ++ [(t, e)] = Xr us ++ [(u, f)]) : ts = us /\ t = u /\ e = f := by
 have h1 := congrArg List.reverse h; simp only [List.reverse_append, List.reverse_cons, List.reverse_nil, List.nil_append, List.singleton_append, List.cons.injEq, Prod.mk.injEq, List.reverse_inj] at h1; exact ⟨R5 h1.2, h1.1.1, h1.1.2⟩
theorem qf4 {l : List UInt8} {ts : List Tok} {t : Tok} {err er : Nat} (hl : l.length <= 20000) (h : PreT l (Xr ts ++ [(t, err)])) (aG : ts.length <= 5000) (he : err ≠ 0 /\ er = err \/ err = 0 /\ ts.length = 5000 /\ er = 2) : Zr l = .error (er, (t.pos : Int)) := by
 rcases h with ⟨us, vs', o, h1, h2⟩ | ⟨us, u, e, h1, h2, h3⟩
 · obtain ⟨rfl, rfl⟩ := Pl h1.symm; rcases he with ⟨he, -⟩ | ⟨-, h5, rfl⟩
   · exact absurd rfl he
   · unfold Zr; rw [show Uh l.length l 0 = sc l 0 from rfl, if_neg (by omega), h2]; simp only []; rw [List.append_assoc, List.drop_append_of_le_length (by omega), List.drop_of_length_le (by omega)]; rfl
 · obtain ⟨rfl, rfl, rfl⟩ := qfj h1; rcases he with ⟨-, rfl⟩ | ⟨he, -⟩
   · unfold Zr; rw [show Uh l.length l 0 = sc l 0 from rfl, if_neg (by omega), h3]; simp only []; rw [List.drop_of_length_le (by omega)]
   · exact absurd he h2
theorem qkd {w W : World} (B : Nat) (u2 u3 u4 : Value) : KeepsFrom B W (((W.setCell ⟨w.heap.size, 0, none⟩ u2).setCell ⟨w.heap.size + 1, 0, none⟩ u3).setCell ⟨w.heap.size + 1 + 1, 0, none⟩ u4).drew := by
 have h := (((KeepsOthers.setCell W ⟨w.heap.size, 0, none⟩ u2).trans (KeepsOthers.setCell _ ⟨w.heap.size + 1, 0, none⟩ u3)).trans (KeepsOthers.setCell _ ⟨w.heap.size + 1 + 1, 0, none⟩ u4)).from B
 exact ⟨h.size, h.same⟩
theorem qbo {w W w5 : World} {pre : List (Tok × Nat)} {x : Tok × Nat} {ts : List Tok} {er : Nat} {a' : Act} {lo : Nat} (aE : pre = Xr ts) (aY : ts.length <= 5000) (hr : P7 w W (.slice none 0 0) (.int .i64 0) (.int .i64 0)) (hb : Below w.heap.size w W)
 (he : x.2 ≠ 0 /\ er = x.2 \/ x.2 = 0 /\ ts.length = 5000 /\ er = 2) :
 ownPostG w5.heap.size (KpT lo w5.heap.size) (qar w w5.heap.size) (qeg w) (pre ++ [x]) W Exit.ret a' (((W.setCell ⟨w.heap.size, 0, none⟩ (.slice none 0 0)).setCell ⟨w.heap.size + 1, 0, none⟩ (.int .i64 (er : Nat))).setCell ⟨w.heap.size + 1 + 1, 0, none⟩ (.int .i64 x.1.pos)).drew := by
 refine ⟨qkd _ _ _ _, rfl, ⟨ts, x.1, x.2, er, by rw [aE], aY, he, ?_⟩, (Nh hb _ _ _).drew⟩; have := hr.set (.slice none 0 0) (.int .i64 (er : Nat)) (.int .i64 x.1.pos); exact ⟨this.r2, this.r3, this.r4⟩
theorem K8.own {w : World} {base : Nat} {v : Value} {l : List Tok} (h : K8 w base v l) : ∀ b, v.ownBlock = some b -> base <= b /\ ∃ C, w.heap[b]? = some (.cells C 122 (0, 0)) := by
 rcases h.2 with ⟨hv, h0⟩ | ⟨g, cap, cur, rfl, r2, r3, r4, r5, r6, r7⟩
 · intro b hb; rw [hv] at hb; simp [Value.ownBlock] at hb
 · intro b hb; simp [Value.ownBlock] at hb; subst hb; exact ⟨r2, _, r3⟩
theorem qf7 {w W w3 : World} {n₀ bo : Nat} {pre : List (Tok × Nat)} {ts : List Tok} {t : Tok} {v v' : Value} {a' : Act} (fB : bo = w.heap.size + 1 + 1 + 1) (hn : bo < n₀) (aE : pre = Xr ts) (aY : ts.length < 5000) (aM : W.heap[bo]? = some (.cells #[v] 79 (0, 0))) (aC : K8 W n₀ v ts)
 (hr : P7 w W (.slice none 0 0) (.int .i64 0) (.int .i64 0)) (hb : Below w.heap.size w W) (cW : n₀ <= W.heap.size) (ho : K8 w3 n₀ v' (ts ++ [t])) (hg : (W.alloc (.cells t.cells.toArray 122)).grownBy w3 v.ownBlock) :
 ownPostG n₀ (KpT (bo + 1) n₀) (qar w n₀) (qeg w) (pre ++ [(t, 0)]) W Exit.normal a' (w3.setCell ⟨bo, 0, none⟩ v') := by
 have hk : ∀ k, k < W.heap.size -> v.ownBlock ≠ some k -> w3.heap[k]? = W.heap[k]? := fun k h1 h2 => (hg.block k (by simp; omega) (fun e => h2 e.symm)).trans (Below.heap_alloc _ _ _ h1); have aF : ∀ k, k < n₀ -> v.ownBlock ≠ some k := fun k h1 e => by have := (aC.own k e).1; omega
 have hs : W.heap.size <= w3.heap.size := by have := hg.size; simp at this; omega
 have aH : ∀ k, k ≠ bo -> (w3.setCell ⟨bo, 0, none⟩ v').heap[k]? = w3.heap[k]? := fun k h => Below.heap_setCell _ _ _ _ (by simpa using h); have eW : ∀ k C fr, W.heap[k]? = some (.cells C 144 fr) -> v.ownBlock ≠ some k := fun k C fr h e => by obtain ⟨-, C', h'⟩ := aC.own k e; rw [h] at h'; injection h' with h'; injection h' with _ h' _; exact absurd h' (by decide)
 have cC := lHp hr.r2; have cY := lHp hr.r3; have cX := lHp hr.r4; refine ⟨⟨by simpa using hs, fun k o hB bK hc => ?_⟩, ⟨⟨by simpa using hs, fun k h1 h2 => ?_⟩, fun k C fr hC => ?_⟩, ⟨ts ++ [t], v', by rw [aE, Uy], by simp; omega, ?_, ?_⟩, ⟨?_, ?_, ?_⟩, ?_, by simp; omega⟩
 · rw [aH k (by omega), hk k (Array.getElem?_eq_some_iff.1 bK).1 (fun e => by obtain ⟨-, C', h'⟩ := aC.own k e; rw [bK] at h'; cases h'; cases hc)]; exact bK
 · rw [aH k (by omega), hk k (by omega) (aF k h2)]
 · rw [aH k (fun e => by subst e; rw [aM] at hC; injection hC with hC; injection hC with _ hC _; exact absurd hC (by decide)), hk k (lHp hC) (eW k C fr hC)]; exact hC
 · rw [<- fB, rSc ((hk bo (by omega) (aF bo hn)).trans aM)]; rfl
 · exact ho.keep (fun b C ty fr hC gJ => (aH b (by omega)).trans hC)
 · rw [aH _ (by omega), hk _ cC (aF _ (by omega))]; exact hr.r2
 · rw [aH _ (by omega), hk _ cY (aF _ (by omega))]; exact hr.r3
 · rw [aH _ (by omega), hk _ cX (aF _ (by omega))]; exact hr.r4
 · refine ⟨hg.os.trans hb.os, hg.tape.trans hb.tape, hg.output.trans hb.output, by have := hb.size; simp; omega, fun k bK => ?_⟩; rw [aH k (by omega), hk k (by have := hb.size; omega) (aF k (by omega))]; exact hb.block k bK
theorem qf6 {W w3 : World} {n₀ bo : Nat} {ts : List Tok} {v : Value} {o : Obj} (hn : bo < n₀) (aM : W.heap[bo]? = some (.cells #[v] 79 (0, 0))) (aC : K8 W n₀ v ts) (hg : (W.alloc o).grownBy w3 v.ownBlock) :
 w3.cell? ⟨bo, 0, none⟩ = some v /\ w3.frozen? ⟨bo, 0, none⟩ = false /\ bo < w3.heap.size := by
 have h : w3.heap[bo]? = some (.cells #[v] 79 (0, 0)) := (hg.block bo (by have := lHp aM; simp; omega) (fun e => by have := (aC.own bo e.symm).1; omega)).trans ((Below.heap_alloc _ _ _ (lHp aM)).trans aM); exact ⟨cOb (o := 0) h rfl, fOb (o := 0) h, lHp h⟩
abbrev qi1 (l : List UInt8) (w : World) (e : Ending) (w' : World) : Prop := Below w.heap.size w w' /\ (match Zr l with
 | .ok ts => ∃ A c, e = .returned (.tuple #[.slice A ts.length c, .int .i64 0, .int .i64 0]) /\ RdT w' A ts /\ (∀ b o, A = some ⟨b, o, none⟩ -> w.heap.size <= b /\ b < w'.heap.size) /\ ts.length <= c /\ c <= 9223372036854775807
 | .error (er, a) => e = .returned (.tuple #[.slice none 0 0, .int .i64 er, .int .i64 a]))
theorem Gd {w : World} {b : Nat} {o : Obj} (h : b = w.heap.size) : (w.alloc o).heap[b]? = some o := h ▸ heap_alloc_new w o
theorem Yt {w : World} {b : Nat} {o x : Obj} (h : w.heap[b]? = some x) : (w.alloc o).heap[b]? = some x := (Below.heap_alloc _ _ _ (lHp h)).trans h
theorem O7 (l : List UInt8) (w : World) : Calls Tryz.prog 52 #[vs l] w (qi1 l w) := by
 refine (callsIn_wide (n := 9)).1 ?_; refine callsIn_of_wp_marks Tryz.func52 rfl trivial ?_ rfl; simp only [Tryz.ntmps52, List.size_toArray, List.length_cons, List.length_nil, Nat.reduceAdd, Nat.reduceSub, Array.replicate_succ, Array.replicate_zero, List.push_toArray, List.append_toArray, List.nil_append, List.cons_append]; have ft : Fence.wide.fn 77 := trivial; have fg : Fence.wide.fn 116 := trivial
 by_cases hl : 20000 < l.length
 · have dA : (20000 : Int) < l.length := by omega
   have HL : Hid (Zr l = .error (2, -1)) := Hi (by unfold Zr; rw [if_pos hl]); clear hl
   gi_wp2_with fail
   refine ⟨_, Lv (w := w) (v2 := .slice none 0 0) (v3 := .int .i64 2) (v4 := .int .i64 (-1)) ⟨?_, ?_, ?_⟩ rfl rfl rfl, ?_⟩
   · exact (Below.heap_alloc _ _ _ (by simp; omega)).trans ((Below.heap_alloc _ _ _ (by simp)).trans (heap_alloc_new w _))
   · exact (Below.heap_alloc _ _ _ (by simp)).trans (by have := heap_alloc_new (w.alloc (.cells #[.slice none 0 0] 79)) (.cells #[.int .i64 2] 33); rwa [show (w.alloc (.cells #[.slice none 0 0] 79)).heap.size = w.heap.size + 1 by simp] at this)
   · have := heap_alloc_new ((w.alloc (.cells #[.slice none 0 0] 79)).alloc (.cells #[.int .i64 2] 33)) (.cells #[.int .i64 (-1)] 3); rwa [show ((w.alloc (.cells #[.slice none 0 0] 79)).alloc (.cells #[.int .i64 2] 33)).heap.size = w.heap.size + 1 + 1 by simp] at this
   · refine ⟨(((Below.refl _ _).alloc (lR _) _).alloc (by simp) _).alloc (by simp; omega) _, ?_⟩; rw [HL.out]; rfl
 · have dA : ¬ (20000 : Int) < l.length := by omega
   have dB : l.length <= 20000 := by omega
   clear hl
   gi_wp2_with fail
   refine ((callsIn_wide (n := 8)).2 (Sq l _)).mono ?_; rintro e w5 ⟨bt, ba, bc, rfl, hT, bW⟩; simp only [World.size_alloc] at hT
   have b0 : Below w.heap.size w ((((w.alloc (.cells #[.slice none 0 0] 79)).alloc (.cells #[.int .i64 0] 33)).alloc (.cells #[.int .i64 0] 3)).alloc (.cells #[.slice none 0 0] 79)) :=
    ((((Below.refl _ _).alloc (lR _) _).alloc (by simp) _).alloc (by simp; omega) _).alloc (by simp; omega) _
   have aA : P7 w w5 (.slice none 0 0) (.int .i64 0) (.int .i64 0) := ⟨(bW.block _ (by simp; omega)).trans (Yt (Yt (Yt (Gd rfl)))), (bW.block _ (by simp)).trans (Yt (Yt (Gd (by simp)))), (bW.block _ (by simp)).trans (Yt (Gd (by simp)))⟩
   have bJ : w5.heap[w.heap.size + 1 + 1 + 1]? = some (.cells #[.slice none 0 0] 79 (0, 0)) := (bW.block _ (by simp)).trans (Gd (by simp)); have bU : Below w.heap.size w w5 := b0.trans (bW.mono (by simp; omega)); have bY : w.heap.size + 1 + 1 + 1 < w5.heap.size := lHp bJ; have dF := Hi aA; have dG := Hi bJ; have aO := Hi bU; have HT := Hi hT; clear bW b0 aA bJ bU hT
   gi_wp2_with fail
   refine wpIn_rangeFunc_ownH rfl (by decide) (gf := 116) (lb := #[.pointer (some ⟨bt, 0, none⟩), .pointer (some ⟨ba, 0, none⟩)]) rfl fg (enters_of Tryz.func116 (by kernel_rfl) rfl)
    (qet dB HT.out) (fun h k => KpT.trans h k) (KpT.put (lR _)) (Below.refl _ _) (fun _ => rfl)
    (qar w w5.heap.size) (qeg w) (qar.own aO.out.size) (qeg.own aO.out.size)
    ⟨⟨[], _, rfl, by simp, dG.out, K8.nil⟩, dF.out, aO.out, lR _⟩
    (fun x a' W => ∃ Bx, w5.heap.size <= Bx /\ W.heap[Bx]? = some (.cells #[.int .i64 x.1.kind, vs x.1.text, .int .i64 x.1.n, .int .i64 x.1.pos, .int .i64 x.2] 144 (0, 0)) /\ a' = { tmps := #[vs l, undef, .pointer (some ⟨w.heap.size, 0, none⟩), .pointer (some ⟨w.heap.size + 1, 0, none⟩), .pointer (some ⟨w.heap.size + 1 + 1, 0, none⟩), .pointer (some ⟨w.heap.size + 1 + 1 + 1, 0, none⟩), .pointer (some ⟨Bx, 0, none⟩), vs l, .int .i64 l.length, .bool false, vs l, .func (.func 116) #[] #[.pointer (some ⟨bt, 0, none⟩), .pointer (some ⟨ba, 0, none⟩)], .agg #[.int .i64 x.1.kind, vs x.1.text, .int .i64 x.1.n, .int .i64 x.1.pos, .int .i64 x.2], undef, undef, undef, undef, undef, undef, undef, undef, undef, undef, undef, undef, undef, undef, undef, undef, undef, undef, undef, undef, undef, undef], defers := [] })
    (fun x a' _ X Y row hs hg hr => by obtain ⟨Bx, h1, h2, h3⟩ := hs; exact ⟨Bx, h1, W4 h2 hg (fun r e => (hr r e).2), h3⟩)
    ?assign ?body ?done ?stop
   case assign =>
    rintro l' pre x W K hI hK; have HI := Hi hI; clear hI; simp only [encT]
    gi_wp2
    refine hK _ _ ((KeepsOthers.alloc _ _).from _) ⟨⟨by simp, fun k _ h2 => Below.heap_alloc _ _ _ (by have := HI.out.size; omega)⟩, fun k C fr hk => Yt hk⟩ ?_ ⟨W.heap.size, HI.out.size, heap_alloc_new W _, rfl⟩
    · exact qar.own aO.out.size _ _ _ _ HI.out (World.grownBy_alloc W _ none) (fun r e => by cases e)
   case body =>
    rintro l' pre x a' W eU ⟨rr, eN⟩ hI ⟨Bx, gL, bC, rfl⟩ aU; have x0 := cOb (o := 0) bC rfl; have x1 := cOb (o := 1) bC rfl; have x2 := cOb (o := 2) bC rfl; have x3 := cOb (o := 3) bC rfl; have x4 := cOb (o := 4) bC rfl; have xl := lHp bC; obtain ⟨⟨ts, v, aE, aY, aM, aC⟩, aA, aJ, cW⟩ := hI; have ov := cOb (o := 0) aM rfl; have og := fOb (o := 0) aM; have s2 := cOb (o := 0) aA.r2 rfl; have s3 := cOb (o := 0) aA.r3 rfl; have s4 := cOb (o := 0) aA.r4 rfl; have t2 := fOb (o := 0) aA.r2; have t3 := fOb (o := 0) aA.r3; have t4 := fOb (o := 0) aA.r4; have bN := Hi aE; have eB := Hi aM; have aS := Hi aC; have bM := Hi aA; have bQ := Hi aJ; have aW := Hi bC; clear eN aE aM aC aA aJ bC
    by_cases he : x.2 = 0
    · have z0 : ((x.2 : Int) != 0) = false := by simp; omega
      obtain ⟨A, cap, rfl, -, -, -, -⟩ := aS.out.form
      by_cases h5 : ts.length = 5000
      · have z5 : ((ts.length : Int) == 5000) = true := by simp; omega
        have HE := Hi he; have H5 := Hi h5; clear he h5
        gi_wp2
        gi_region
        all_goals gi_wp2
        all_goals exact qbo (er := 2) bN.out aY bM.out bQ.out (.inr ⟨HE.out, H5.out, rfl⟩)
      · have z5 : ((ts.length : Int) == 5000) = false := by simp; omega
        have HE := Hi he; have H5 := Hi h5; clear he h5; have bB := heap_alloc_new W (.cells x.1.cells.toArray 122 (0, 0)); have cK := Hi bB; have cI : Hid (K8 (W.alloc (.cells x.1.cells.toArray 122 (0, 0))) w5.heap.size (.slice A ts.length cap) ts) := Hi (aS.out.keep (fun b C t fr hb _ => Yt hb)); have fH : Hid (w5.heap.size <= (W.alloc (.cells x.1.cells.toArray 122 (0, 0))).heap.size) := Hi (by simp; omega); clear bB
        gi_wp2_with (gi_at_builtin; refine Gf rfl (.tmp 29) (.tmp 32) rfl w5.heap.size (.slice A ts.length cap) ts W.heap.size x.1 rfl rfl cI.out cK.out (by omega) fH.out ?_; intro v' w3 ho hg; obtain ⟨fS, fU, fT⟩ := qf6 bY eB.out aS.out hg; obtain ⟨A', cap', rfl, -, -, -, -⟩ := ho.form; have HO := Hi ho; have HG := Hi hg; clear ho hg)
        obtain ⟨t, er⟩ := x; obtain rfl : er = 0 := HE.out
        have eP : K8 w3 w5.heap.size (.slice A' (ts.length + 1) cap') (ts ++ [t]) := by
         have h := HO.out; rw [show (ts ++ [((t, 0) : Tok × Nat).1]).length = ts.length + 1 by simp] at h; exact h
        exact qf7 rfl bY bN.out (by have := H5.out; omega) eB.out aS.out bM.out bQ.out cW eP HG.out
    · have z0 : ((x.2 : Int) != 0) = true := by simp; omega
      have HE := Hi he; clear he
      gi_wp2
      gi_region
      all_goals gi_wp2
      all_goals exact qbo bN.out aY bM.out bQ.out (.inl ⟨HE.out, rfl⟩)
   case done =>
    rintro D ys W hD hS ⟨⟨ts, v, rfl, aY, aM, aC⟩, aA, aJ, cW⟩ hK; have cD := qf8 dB hS aY; have ov := cOb (o := 0) aM rfl; have s2 := cOb (o := 0) aA.r2 rfl; have s3 := cOb (o := 0) aA.r3 rfl; have s4 := cOb (o := 0) aA.r4 rfl; have t2 := fOb (o := 0) aA.r2; have t3 := fOb (o := 0) aA.r3; have t4 := fOb (o := 0) aA.r4; obtain ⟨A, cap, rfl, dS, dR, cO, hA⟩ := aC.form; have bP := Hi cD; have bM := Hi (aA.set (.slice A ts.length cap) (.int .i64 0) (.int .i64 0)); have bQ := Hi (Nh aJ (.slice A ts.length cap) (.int .i64 0) (.int .i64 0)); have HK := Hi ((Lt (w := w) (W := W) (k := D) (by omega) (.slice A ts.length cap) (.int .i64 0) (.int .i64 0)).trans hK); have aS := Hi aC; clear cD aM aA aJ hK aC cO hS hA
    gi_wp2
    refine ⟨by simp, .inl ⟨_, _, rfl, run_takeDeferred HK.out, ?_⟩⟩; refine ⟨_, Lv (bM.out.kept (grownBy_putObj' _ D (.deferred none)) (fun r e => by cases e; exact ⟨_, HK.out, rfl⟩)) rfl rfl rfl, ?_⟩; refine ⟨Ih bQ.out (show w.heap.size <= D by omega) (grownBy_putObj' _ D (.deferred none)) (fun r e => by cases e; exact lR _), ?_⟩; rw [bP.out]
    have bZ : K8 ((((W.setCell ⟨w.heap.size, 0, none⟩ (.slice A ts.length cap)).setCell ⟨w.heap.size + 1, 0, none⟩ (.int .i64 0)).setCell ⟨w.heap.size + 1 + 1, 0, none⟩ (.int .i64 0)).putObj D (.deferred none)) w5.heap.size (.slice A ts.length cap) ts :=
     aS.out.keep (fun b C t fr hb h1 => W4 ((Lt (by omega) _ _ _).trans hb) (grownBy_putObj' _ D (.deferred none)) (fun r e => by cases e; exact ⟨_, HK.out, rfl⟩))
    obtain ⟨A', cap', hv, g1, g2, g3, g4⟩ := bZ.form; cases hv; exact ⟨A, cap, rfl, g3, fun b o e => ⟨by have := (g4 b o e).1; omega, (g4 b o e).2⟩, g1, by unfold maxLen at g2; omega⟩
   case stop =>
    rintro D c1 pre W hD aE ⟨rfl, ⟨ts, t, err, er, rfl, aY, dP, aA⟩, aJ⟩ hK; have bP := Hi (qf4 dB aE aY dP); have bM := Hi aA; have bQ := Hi aJ; have HK := Hi hK; clear aE aA aJ hK dP
    gi_wp2
    refine ⟨by simp, .inl ⟨_, _, rfl, run_takeDeferred HK.out, ?_⟩⟩; refine ⟨_, Lv (bM.out.kept (grownBy_putObj' _ D (.deferred none)) (fun r e => by cases e; exact ⟨_, HK.out, rfl⟩)) rfl rfl rfl, ?_⟩; refine ⟨Ih bQ.out (show w.heap.size <= D by omega) (grownBy_putObj' _ D (.deferred none)) (fun r e => by cases e; exact lR _), ?_⟩; rw [bP.out]
end
set_option maxRecDepth 20000
set_option maxHeartbeats 4000000
section
open Go.RowKit
def Uk (K : List Qa) (s : Qa) : Bool := match Zr s with
 | .ok [t] => t.kind == 1 && t.text == s && !K.contains s
 | _ => false
def Jq (K N : List Qa) (j : Qa) : Qa × Nat := if N.all (Uk K) = true then (match Zr j with | .ok _ => (j, 0) | .error _ => ([], 2)) else ([], 7)
theorem qhf {K N : List Qa} {k : Nat} {s : Qa} (h : N[k]? = some s) : (N.drop k).all (Uk K) = (Uk K s && (N.drop (k + 1)).all (Uk K)) := by
 obtain ⟨h1, rfl⟩ := List.getElem?_eq_some_iff.1 h; rw [List.drop_eq_getElem_cons h1, List.all_cons]
theorem qev (W w : World) (p : Nat) (T : TypeId) (S : Nat -> Prop) (L N : List Qa) (mb : Nat) (K : List Qa) (j : Qa) (h : Wr W w p T S L N) (hk : KS w mb K) (hn : ∀ s ∈ N, s.length <= 1000000) (aG : N.length <= 1000000) :
 Calls Tryz.prog 33 #[.pointer (some ⟨p, 0, none⟩), .map (some mb), vs j] w fun e w' => e = .returned (.tuple #[vs (Jq K N j).1, .int .i64 ((Jq K N j).2 : Nat)]) /\ Below w.heap.size w w' := by
 obtain ⟨v1, v2, h⟩ := h; have H := Hi h; have eC := Hi hk; have HN := Hi hn; have c1 : w.cell? ⟨p, 1, none⟩ = some v2 := cOb (o := 1) h.is rfl; have fY := h.lt p h.mem; obtain ⟨A, cap, rfl, eZ, cO, -⟩ := h.n.form; have fI := Hi cO; clear h hk hn cO; go_enter Tryz.func33, Tryz.ntmps33
 go_wp2_with fail; go_loopw [21] (fun cR wr => ∃ k : Nat, k <= N.length /\ cR = .int .i64 k /\ N.all (Uk K) = (N.drop k).all (Uk K) /\ Below w.heap.size w wr) (fun cR _ => N.length - (intOf cR).toNat)
 case atStart => exact ⟨0, Nat.zero_le _, rfl, rfl, Below.refl _ _⟩
 case round =>
  obtain ⟨k, hk, rfl, cG, hb⟩ := hrel; have aL := Hi cG; have HB := Hi hb; clear cG hb c1
  by_cases aU : k < N.length
  · obtain ⟨s, hs⟩ := gLt aU; have eL := HN.out s (List.mem_of_getElem? hs); have HD := Hi (qhf (K := K) hs); obtain ⟨b, o, rfl, bV, hc⟩ := fI.out.item hs; have z0 : wr.cell? ⟨b, o + k, none⟩ = some (vs s) := (HB.out.cell (p := ⟨b, o + k, none⟩) bV).trans hc; have gD : (k : Int) < N.length := by omega
    have gE : (0 : Int) <= k := by omega
    clear hc hs; go_wp2_with fail; refine (O7 s _).mono ?_; rintro e w1 ⟨aN, aB⟩; have bU := HB.out.trans (aN.mono HB.out.size); have aV := (eC.out.keep (bU.block mb eC.out.lt)).look (s := s) eL; have aO := Hi bU; clear aN bU z0; cases aI : Zr s with
    | error er =>
      obtain ⟨er, a⟩ := er; rw [aI] at aB; simp only at aB; obtain rfl := aB
      have aF : ((er : Int) != 0) = true := by
       have := K1 aI; simp; omega
      have HO : Hid (Uk K s = false) := Hi (by unfold Uk; rw [aI]); clear aI aV; go_wp2_with fail; refine bodyPost_ret (v := .tuple #[vs (Jq K N j).1, .int .i64 ((Jq K N j).2 : Nat)]) ?_ rfl ⟨rfl, aO.out⟩; have : Jq K N j = ([], 7) := by unfold Jq; rw [aL.out, HD.out, HO.out]; rfl
      rw [this]; simp [results, Tryz.results33, go_sem]
    | ok ts =>
      rw [aI] at aB; simp only at aB; obtain ⟨A', c', rfl, bI, bX, dS, dR⟩ := aB
      by_cases bA : ts.length = 1
      case neg =>
       have aF : ((ts.length : Int) != 1) = true := by simp; omega
       have HO : Hid (Uk K s = false) := Hi (by
        unfold Uk; rw [aI]
        match ts, bA with
        | [], _ => rfl
        | [t], h => exact absurd rfl h
        | _ :: _ :: _, _ => rfl)
       have HX := Hi (And.intro bA (And.intro bI bX)); clear aI aV bA bI bX; go_wp2_with fail; refine bodyPost_ret (v := .tuple #[vs (Jq K N j).1, .int .i64 ((Jq K N j).2 : Nat)]) ?_ rfl ⟨rfl, aO.out⟩; have : Jq K N j = ([], 7) := by unfold Jq; rw [aL.out, HD.out, HO.out]; rfl
       rw [this]; simp [results, Tryz.results33, go_sem]
      case pos =>
       obtain ⟨t, rfl⟩ : ∃ t, ts = [t] := by
        match ts, bA with
        | [t], _ => exact ⟨t, rfl⟩
       obtain ⟨b', o', rfl, fC, y0, y1, -, -, -⟩ := bI.head; have HO : Hid (Uk K s = (t.kind == 1 && t.text == s && !K.contains s)) := Hi (by unfold Uk; rw [aI]); clear aI bA bI bX; cases aX : (t.kind == 1) with
       | false =>
         have aF : ((t.kind : Int) != 1) = true := by simp at aX ⊢; omega
         have bO : Hid (Uk K s = false) := Hi (by rw [HO.out, aX]; rfl); clear aX aV; go_wp2_with fail; refine bodyPost_ret (v := .tuple #[vs (Jq K N j).1, .int .i64 ((Jq K N j).2 : Nat)]) ?_ rfl ⟨rfl, aO.out⟩; have : Jq K N j = ([], 7) := by unfold Jq; rw [aL.out, HD.out, bO.out]; rfl
         rw [this]; simp [results, Tryz.results33, go_sem]
       | true =>
         have eV : ((t.kind : Int) != 1) = false := by simp at aX ⊢; omega
         cases aT : (t.text == s) with
         | false =>
           have aF : ¬ t.text = s := by simpa using aT
           have eQ : (t.text != s) = true := by rw [bne, aT]; rfl
           have bO : Hid (Uk K s = false) := Hi (by rw [HO.out, aX, aT]; rfl); clear aX aT aV; go_wp2_with fail; refine bodyPost_ret (v := .tuple #[vs (Jq K N j).1, .int .i64 ((Jq K N j).2 : Nat)]) ?_ rfl ⟨rfl, aO.out⟩; have : Jq K N j = ([], 7) := by unfold Jq; rw [aL.out, HD.out, bO.out]; rfl
           rw [this]; simp [results, Tryz.results33, go_sem]
         | true =>
           have eK : t.text = s := by simpa using aT
           subst eK; cases bT : K.contains t.text with
           | true =>
             rw [bT] at aV; have bO : Hid (Uk K t.text = false) := Hi (by rw [HO.out, aX, aT, bT]; rfl); clear aX aT bT; go_wp2_with fail; refine bodyPost_ret (v := .tuple #[vs (Jq K N j).1, .int .i64 ((Jq K N j).2 : Nat)]) ?_ rfl ⟨rfl, aO.out⟩; have : Jq K N j = ([], 7) := by unfold Jq; rw [aL.out, HD.out, bO.out]; rfl
             rw [this]; simp [results, Tryz.results33, go_sem]
           | false =>
             rw [bT] at aV; have bO : Hid (Uk K t.text = true) := Hi (by rw [HO.out, aX, aT, bT]; rfl); clear aX aT bT; go_wp2_with fail; exact ⟨⟨k + 1, by omega, by go_num, by rw [aL.out, HD.out, bO.out, Bool.true_and], aO.out⟩, by simp [intOf]; omega⟩
  · have bK : k = N.length := by omega
    subst bK; have cC : ¬ ((N.length : Nat) : Int) < N.length := by omega
    have eG : Hid (N.all (Uk K) = true) := Hi (by rw [aL.out, List.drop_length]; rfl); go_wp2_with fail; refine (O7 j _).mono ?_; rintro e w1 ⟨aN, aB⟩; have aO := Hi (HB.out.trans (aN.mono HB.out.size)); clear aN; cases aI : Zr j with
    | error er =>
      obtain ⟨er, a⟩ := er; rw [aI] at aB; simp only at aB; obtain rfl := aB
      have aF : ((er : Int) != 0) = true := by
       have := K1 aI; simp; omega
      have HX := Hi aI; clear aI; go_wp2_with fail; refine bodyPost_ret (v := .tuple #[vs (Jq K N j).1, .int .i64 ((Jq K N j).2 : Nat)]) ?_ rfl ⟨rfl, aO.out⟩; have : Jq K N j = ([], 2) := by unfold Jq; rw [eG.out, if_pos rfl, HX.out]
      rw [this]; simp [results, Tryz.results33, go_sem]
    | ok ts =>
      rw [aI] at aB; simp only at aB; obtain ⟨A', c', rfl, bI, bX, dS, dR⟩ := aB; have HX := Hi aI; have HY := Hi (And.intro bI bX); clear aI bI bX; go_wp2_with fail; refine bodyPost_ret (v := .tuple #[vs (Jq K N j).1, .int .i64 ((Jq K N j).2 : Nat)]) ?_ rfl ⟨rfl, aO.out⟩; have : Jq K N j = (j, 0) := by unfold Jq; rw [eG.out, if_pos rfl, HX.out]
      rw [this]; simp [results, Tryz.results33, go_sem]
end
set_option maxRecDepth 100000
set_option maxHeartbeats 16000000
section
open Go.RowKit
attribute [local go_sem ↓] Go.wp_at_zero Go.wp_at_succ
theorem qdl (s : List UInt8) (i : Nat) (x : UInt8) (h : s[i]? = some x) (w : World) : (Instr.index 9 (vs s) (.int .i64 i)).run Tryz.prog w = .ok (.int .u8 (x.toNat : Int)) w := by
 have hi : i < s.length := (List.getElem?_eq_some_iff.1 h).1
 have e : (({ data := s.toArray } : ByteArray)[i]?) = some x := by
  have hs : i < ({ data := s.toArray } : ByteArray).size := by show i < s.toArray.size; simpa using hi
  rw [getElem?_pos ({ data := s.toArray } : ByteArray) i hs]; exact congrArg some (Gc h hs)
 simp [Instr.index, run_underlying Tryz.underlying9, asIntOf, e, go_sem]
theorem Ry (o c : List UInt8) : ∀ s : Qa, (Jl o c s).length <= s.length
 | [] => lR _
 | [x] => lR _
 | x :: y :: r => by
   have h1 := Ry o c r; have h2 := Ry o c (y :: r); rw [Jl]; simp only [List.length_cons] at h2 ⊢
   split
   · simp only [List.length_cons]; omega
   · split <;> simp only [List.length_cons] <;> omega
theorem Aw.keep {w w' : World} {b0 ab : Nat} {s : List UInt8} (h : Aw w b0 ab s) (hk : ∀ b, b < w.heap.size -> w'.heap[b]? = w.heap[b]?) : Aw w' b0 ab s := by
 obtain ⟨v, h⟩ := h; refine ⟨v, (hk ab h.lt).trans h.blk, ⟨h.own.1, ?_⟩, h.le⟩; rcases h.own.2 with h1 | ⟨g, cap, cur, h1, h2, h3, h4⟩
 · exact Or.inl h1
 · exact Or.inr ⟨g, cap, cur, h1, h2, (hk g (lHp h3)).trans h3, h4⟩
theorem Aw.lt {w : World} {b0 ab : Nat} {s : List UInt8} (h : Aw w b0 ab s) : b0 < w.heap.size := by obtain ⟨v, h⟩ := h; exact Nat.lt_of_le_of_lt h.le h.lt
theorem Yk.len {o c : List UInt8} {s : Qa} {last i : Nat} {buf : Qa} (h : Yk o c s last i buf) : buf.length <= s.length /\ buf.length + (i - last) <= s.length := by
 have h3 := congrArg List.length h.2.2; have h4 := Ry o c s; have := h.1; have := h.2.1; simp only [List.length_append, List.length_take, List.length_drop] at h3; omega
def GwRel (o c : List UInt8) (s : Qa) (b0 ab : Nat) (w : World) (v6 v7 v9 cS bR : Value) (wr : World) : Prop :=
 Below b0 w wr /\ v7 = .nilIface /\ cS = .bool false /\ ∃ (last : Nat) (buf : List UInt8), Aw wr b0 ab buf /\ v6 = .int .i64 buf.length /\ v9 = .int .i64 last /\
  ((∃ i : Nat, bR = .int .i64 i /\ Yk o c s last i buf) \/ (bR = .int .i64 ((s.length + 1 : Nat) : Int) /\ Yk o c s last s.length buf))
theorem qda (ab : Nat) (w : World) : (nilAhead 424 312 (.pointer (some ⟨ab, 0, none⟩)) "WriteString").run Tryz.prog w = .ok (some false) w := by kernel_rfl
theorem qce (ab : Nat) (w : World) : (method 424 312 (.pointer (some ⟨ab, 0, none⟩)) "WriteString").run Tryz.prog w = .ok (262, .pointer (some ⟨ab, 0, none⟩)) w := by kernel_rfl
theorem qin (mp : Nat -> Nat) (ts B : Nat) (w0 w : World) (r tb : Nat) (st : Nat -> Sub) (h : Vw mp ts B w0 r tb st) (cA : qef mp ts st) (o c : List UInt8) (aV : ∀ s, Z0 mp ts st s = (Vn o c s).map fun b => [b]) (cP : Below w0.heap.size w0 w) (ab : Nat) (hA : Aw w w0.heap.size ab []) (s : Qa) (hs : s.length <= 1000000000) :
 Calls Tryz.prog 247 #[Jd r, awV ab, vs s] w fun e w' => (∃ n : Int, e = .returned (.tuple #[.int .i64 n, .nilIface])) /\ Aw w' w0.heap.size ab (Jl o c s) /\ Below w0.heap.size w w' := by
 obtain ⟨b0, dU⟩ : ∃ b0, w0.heap.size = b0 := ⟨_, rfl⟩
 have hT : ∀ wr, Below b0 w wr -> Vw mp ts B wr r tb st := fun wr hb => h.keep (by have := cP.size; have := hb.size; omega) (fun b _ aU => (hb.block b (by omega)).trans (cP.block b aU)); rw [dU] at cP hA ⊢; have cQ := Hi cA; have HT := Hi hT; have cJ := Hi aV; have HA := Hi hA; clear h cA aV cP hA hT dU; have gA := qda ab; have eR := qce ab; go_enter Tryz.func247, Tryz.ntmps247
 go_wp2_with (go_at_call 248; refine (qio w ab).mono ?_; rintro e w' ⟨rfl, hw⟩; subst w')
 go_loopw [6, 7, 9, 10, 11, 12, 13, 14, 15, 16] (fun v6 v7 v9 fR cS bR fQ fP fO fN wr => GwRel o c s b0 ab w v6 v7 v9 cS bR wr) (fun _ _ _ _ _ bR _ _ _ _ _ => s.length + 2 - (intOf bR).toNat)
 case atStart => exact ⟨Below.refl _ _, rfl, rfl, 0, [], HA.out, rfl, rfl, Or.inl ⟨0, rfl, Yk.start o c s⟩⟩
 case round =>
  obtain ⟨hb, rfl, rfl, last, buf, dT, rfl, rfl, dD⟩ := hrel; have HB := Hi hb; have bG := Hi dT; clear hb dT; rcases dD with ⟨i, rfl, aZ⟩ | ⟨rfl, aZ⟩
  · have bL := Hi aZ; have gG := aZ.2.1; clear aZ; have ht : (i : Int) <= (s.length : Int) := by omega
    have bE := Hi (HT.out wr HB.out); obtain ⟨-, c1, -, -, c4, c5, rm⟩ := bE.out.gr.cells; have dM := bE.out.gr.lt; have fV : wrap64 ((i : Int) + 1) = ((i + 1 : Nat) : Int) := by unfold wrap64; omega
    by_cases eX : i = s.length
    · subst eX; clear rm; have hm : Vn o c (s.drop s.length) = none := by rw [List.drop_length]; rfl
      have fZ : Z0 mp ts st [] = none := rfl; go_wp2_with fail; have cF : Calls Tryz.prog 249 #[Jd r, .string ByteArray.empty, .bool false] wr fun e w' => e = .returned (Za (Z0 mp ts st [])) /\ Below wr.heap.size wr w' := Mj mp ts B wr r tb st bE.out cQ.out [] false (by simp); refine cF.mono ?_
      (rintro e w2 ⟨rfl, aP⟩; rw [show Za (Z0 mp ts st []) = .tuple #[vs [], .int .i64 0, .bool false] from rfl]; have dK := Hi (bG.out.keep (fun b hb => aP.block b hb)); have bF := Hi (HB.out.trans (aP.mono (Nat.le_of_lt (bG.out.lt)))); clear aP cF c1 c4 c5 dM)
      go_wp2_with fail; go_roundw
      case measure =>
       show s.length + 2 - ((s.length : Int) + 1).toNat < s.length + 2 - (s.length : Int).toNat
       omega
      case rel => exact ⟨bF.out, rfl, rfl, last, buf, dK.out, rfl, rfl, Or.inr ⟨by push_cast; rfl, bL.out⟩⟩
    · have aU : i < s.length := by omega
      obtain ⟨x, hx⟩ : ∃ x, s[i]? = some x := ⟨_, List.getElem?_eq_getElem aU⟩
      have dQ : s.drop i = x :: s.drop (i + 1) := by
       rw [List.drop_eq_getElem_cons aU]
       congr 1
       have := List.getElem?_eq_getElem aU; rw [hx] at this; exact (Option.some.inj this).symm
      have aF : ¬ ((i : Int) = (s.length : Int)) := (by omega)
      have eM := qdl s i x hx; have j0 : (0 : Int) <= (x.toNat : Int) := (by omega)
      have j1 : (x.toNat : Int) < 256 := by have := UInt8.toNat_lt x; omega
      have r0 := rm x.toNat (UInt8.toNat_lt x); have cN := Gs (bE.out.gr.mpl x.toNat) bE.out.gr.small; have eD := Hi dQ; have dI : Hid (s.length + 2 - ((i : Int) + 1).toNat < s.length + 2 - ((i : Nat) : Int).toNat) := Hi (by omega); clear dQ hx rm
      by_cases hx : mp x.toNat < ts
      · have e1 : (wrap64 (mp x.toNat : Int) == (ts : Int)) = false := by rw [cN]; simp; omega
        obtain ⟨D, h1, h2, F, h3, h4, h5⟩ := bE.out.root; obtain ⟨pv, dN, aK⟩ := h5 _ hx; have ct : wr.cell? ⟨tb, mp x.toNat, none⟩ = some pv := cOb h1 dN; have eJ := lHp h1; have i0 : (0 : Int) <= (mp x.toNat : Int) := (by omega)
        have i1 : (mp x.toNat : Int) < ts := (by omega)
        have hp : (pv = nilP /\ st (mp x.toNat) = .no) \/ ∃ n, pv = Jd n := by
         cases bS : st (mp x.toNat) with
         | no => rw [bS] at aK; exact Or.inl ⟨aK, rfl⟩
         | pre y v q => rw [bS] at aK; obtain ⟨n, l, e, -⟩ := aK; exact Or.inr ⟨n, e⟩
         | tab L => rw [bS] at aK; obtain ⟨n, t, C, e, -⟩ := aK; exact Or.inr ⟨n, e⟩
        clear h1 h2 h3 h4 h5 dN aK; rcases hp with ⟨rfl, bS⟩ | ⟨nb, rfl⟩
        · have hm : Vn o c (s.drop i) = none := by
            have e2 := cJ.out (s.drop i)
            have e3 : Z0 mp ts st (s.drop i) = none := by
             rw [eD.out]; cases s.drop (i + 1) with
             | nil => rfl
             | cons y r => simp only [Z0]; rw [if_pos hx, bS]
            rw [e3] at e2; cases hh : Vn o c (s.drop i) with
            | none => rfl
            | some v => rw [hh] at e2; cases e2
          have HM := Hi hm; have dY : ((mp x.toNat : Int) == (ts : Int)) = false := by simp; omega
          clear hm hx bS e1; go_upto_region 7 with fail; go_quiet (fail)
          go_wp2_with fail; go_roundw
          case measure => exact dI.out
          case rel => exact ⟨HB.out.trans ⟨rfl, rfl, rfl, lR _, fun _ _ => rfl⟩, rfl, rfl, last, buf, bG.out.keep (fun _ _ => rfl), rfl, rfl, Or.inl ⟨i + 1, by push_cast; rfl, bL.out.miss aU HM.out⟩⟩
        · have HX := Hi hx; have dY : ((mp x.toNat : Int) == (ts : Int)) = false := by simp; omega
          clear hx e1; go_upto_region 7 with fail; go_quiet (fail)
          go_wp2_with fail
          have aR : Value.string (({ data := s.toArray } : ByteArray).extract i s.length) = vs (s.drop i) := by
           rw [Wx, List.take_of_length_le (by rw [List.length_drop]; omega)]
          rw [aR]; have aW : Hid (Below b0 w (wr.drewN nq)) := Hi (HB.out.trans ⟨rfl, rfl, rfl, lR _, fun _ _ => rfl⟩); have cM : Hid (Aw (wr.drewN nq) b0 ab buf) := Hi (bG.out.keep (fun _ _ => rfl))
          revert aW cM
          generalize wr.drewN nq = X; intro aW cM; refine (Mj mp ts B X r tb st (HT.out X aW.out) cQ.out (s.drop i) false (by rw [List.length_drop]; omega)).mono ?_; rintro e w2 ⟨rfl, aP⟩; have bF := Hi (aW.out.trans (aP.mono (Nat.le_of_lt cM.out.lt))); have eH := Hi (cM.out.keep (fun b hb => aP.block b hb)); clear aP aW cM aR c1 c4 c5 ct dM eJ r0 eM j0 j1 i0 i1 dY cN bE HB bG HX; rw [cJ.out]; cases hm : Vn o c (s.drop i) with
          | none =>
            rw [show Za (Option.map (fun b => [b]) none) = .tuple #[vs [], .int .i64 0, .bool false] from rfl]; have HM := Hi hm; clear hm; go_wp2_with fail; go_roundw
            case measure => exact dI.out
            case rel => exact ⟨bF.out, rfl, rfl, last, buf, eH.out, rfl, rfl, Or.inl ⟨i + 1, by push_cast; rfl, bL.out.miss aU HM.out⟩⟩
          | some v =>
            rw [show Za (Option.map (fun b => [b]) (some v)) = .tuple #[vs [v], .int .i64 2, .bool true] from rfl]; have HM := Hi hm; clear hm; have eT : last <= i := bL.out.1; have cZ : (last : Int) <= (i : Int) := (by omega)
            go_upto_region 13 with fail; have eS : (i : Int) <= (s.length : Int) := (by omega)
            obtain ⟨seg, aD⟩ : ∃ seg, (s.drop last).take (i - last) = seg := ⟨_, rfl⟩
            have aR : Value.string (({ data := s.toArray } : ByteArray).extract last i) = vs seg := by rw [Wx, aD]
            have bV := bL.out.len; have aN : buf.length <= 1000000000 := (by omega)
            have fD : seg.length <= 1000000000 := by rw [<- aD, List.length_take, List.length_drop]; omega
            have bH := bL.out.hit HM.out; rw [aD] at bH; have dE := Hi bH; have dH : Hid (s.length + 2 - ((i : Int) + 2).toNat < s.length + 2 - ((i : Nat) : Int).toNat) := Hi (by omega); clear aD bV bH; go_region_held3 (fun _ => True) (exact trivial) ((go_at_call 262; refine (qam w2.drew b0 ab buf seg (eH.out.keep (fun _ _ => rfl)) (by omega)).mono ?_; rintro e w3 ⟨rfl, cH, bD⟩; have dL := Hi cH; have cL := Hi (bF.out.drew.trans bD); clear cH bD aR))
            go_wp2_with (go_at_call 262; refine (qam w3 b0 ab (buf ++ seg) [v] dL.out (by simp; omega)).mono ?_; rintro e w4 ⟨rfl, dX, dV⟩; have fM := Hi dX; have fK := Hi (cL.out.trans dV); clear dX dV)
            go_roundw
            case measure => exact dH.out
            case rel => exact ⟨fK.out, rfl, rfl, i + 2, buf ++ (seg ++ [v]), by rw [<- List.append_assoc]; exact fM.out, by simp; omega, by push_cast; rfl, Or.inl ⟨i + 2, by push_cast; rfl, dE.out⟩⟩
      · have e1 : (wrap64 (mp x.toNat : Int) == (ts : Int)) = true := by have := bE.out.gr.mpl x.toNat; rw [cN]; simp; omega
        have hm : Vn o c (s.drop i) = none := by
         have e2 := cJ.out (s.drop i)
         have e3 : Z0 mp ts st (s.drop i) = none := by
          rw [eD.out]; cases s.drop (i + 1) with
          | nil => rfl
          | cons y r => simp only [Z0]; rw [if_neg hx]
         rw [e3] at e2; cases hh : Vn o c (s.drop i) with
         | none => rfl
         | some v => rw [hh] at e2; cases e2
        have HM := Hi hm; clear hm hx cN; go_upto_region 7 with fail; go_quiet (fail)
        go_wp2_with fail; go_roundw
        case measure => exact dI.out
        case rel => exact ⟨HB.out.trans ⟨rfl, rfl, rfl, lR _, fun _ _ => rfl⟩, rfl, rfl, last, buf, bG.out.keep (fun _ _ => rfl), rfl, rfl, Or.inl ⟨i + 1, by push_cast; rfl, bL.out.miss aU HM.out⟩⟩
  · have ht : ¬ (((s.length + 1 : Nat) : Int) <= (s.length : Int)) := by omega
    have aQ := aZ.fin; have eT : last <= s.length := aZ.1; have bV := aZ.len; have cZ : (last : Int) <= (s.length : Int) := by omega
    by_cases dA : last = s.length
    · subst dA; rw [List.drop_length, List.append_nil] at aQ; have HF := Hi aQ; clear aZ aQ bV; go_wp2_with fail; exact bodyPost_ret (v := .tuple #[.int .i64 buf.length, .nilIface]) (by simp [results, Tryz.results247, go_sem]) rfl ⟨⟨_, rfl⟩, by rw [HF.out]; exact bG.out, HB.out⟩
    · have aF : ¬ ((last : Int) = (s.length : Int)) := by omega
      obtain ⟨seg, aD⟩ : ∃ seg, s.drop last = seg := ⟨_, rfl⟩
      have aR : Value.string (({ data := s.toArray } : ByteArray).extract last s.length) = vs seg := by rw [Wx, List.take_of_length_le (by rw [List.length_drop]; omega), aD]
      have aN : buf.length <= 1000000000 := (by omega)
      have fD : seg.length <= 1000000000 := by rw [<- aD, List.length_drop]; omega
      rw [aD] at aQ; have HF := Hi aQ; clear aZ aQ bV aD; go_upto_region 23 with fail; go_region_held3 (fun _ => True) (exact trivial) ((go_at_call 262; refine (qam wr.drew b0 ab buf seg (bG.out.keep (fun _ _ => rfl)) (by omega)).mono ?_; rintro e w3 ⟨rfl, cH, bD⟩; have dL := Hi cH; have cL := Hi (HB.out.drew.trans bD); clear cH bD aR))
      go_wp2_with fail; exact bodyPost_ret (v := .tuple #[.int .i64 (buf.length + seg.length), .nilIface]) (by simp [results, Tryz.results247, go_sem]) rfl ⟨⟨_, rfl⟩, by rw [HF.out]; exact dL.out, cL.out⟩
end
set_option maxRecDepth 100000
set_option maxHeartbeats 16000000
section
open Go.RowKit
attribute [local go_sem ↓] Go.wp_at_zero Go.wp_at_succ
theorem qfz (n : Nat) (hn : n <= 1000000000) (w : World) : (Instr.makeSlice 311 (.int .i64 0) (.int .i64 n)).run Tryz.prog w = .ok (.slice (some ⟨w.heap.size, 0, none⟩) 0 n) (w.alloc (.cells (madeCells #[.int .u8 0] n) 5)) := by
 obtain ⟨i0, dC, cV, cU, cT⟩ := info_parts qbq; have h := run_make (P := Tryz.prog) w 311 5 i0 (.int .u8 0) Tryz.underlying311 dC cV .i64 .i64 0 n (Int.le_refl _) (by omega) (by rw [cT]; omega) (by omega); rw [cU, Nat.mul_one, Int.toNat_natCast] at h; exact h
theorem qha (w : World) (n : Nat) (hn : n <= 1000000000) : Aw ((w.alloc (.cells (madeCells #[.int .u8 0] n) 5)).alloc (.cells #[.slice (some ⟨w.heap.size, 0, none⟩) 0 n] 311)) w.heap.size (w.heap.size + 1) [] := by
 have hs : (w.alloc (.cells (madeCells #[.int .u8 0] n) 5)).heap.size = w.heap.size + 1 := by simp
 have h1 := heap_alloc_new (w.alloc (.cells (madeCells #[.int .u8 0] n) 5)) (.cells #[.slice (some ⟨w.heap.size, 0, none⟩) 0 n] 311); rw [hs] at h1; refine ⟨_, h1, ⟨rfl, Or.inr ⟨w.heap.size, n, _, rfl, lR _, (Below.heap_alloc _ _ _ (by simp)).trans (heap_alloc_new w _), by simp, by unfold maxLen; omega, ?_, by simp [cB]⟩⟩, Nat.le_succ _⟩; rw [<- Array.length_toList, toList_madeCells_one]; simp
theorem qad (w : World) (b0 ab : Nat) (v : Value) (s : List UInt8) (h : AwV w b0 ab v s) : (convert 311 9 v).run Tryz.prog w = .ok (vs s) w := by
 rcases h.own.2 with ⟨rfl, h0⟩ | ⟨g, cap, cur, rfl, gI, hg, h1, h2, h3, h4⟩
 · have e : s = [] := List.eq_nil_of_length_eq_zero h0; subst e; exact run_convert_bytes_nil (P := Tryz.prog) w _ _ Tryz.underlying311 Tryz.underlying5 0 0 _ Tryz.underlying9
 · refine run_convert_bytes_back w _ _ _ ⟨g, 0, none⟩ cap s Tryz.underlying311 Tryz.underlying5 Tryz.underlying9 (fun j hj => ?_); rw [Addr.add_lit, Nat.zero_add]; refine cOb hg ?_; have h5 : (cur.toList.take (s.length * 1))[j]? = (cB s)[j]? := by rw [h4]
   rw [List.getElem?_take_of_lt (by omega), Array.getElem?_toList] at h5; rw [h5]; simp [cB, List.getElem?_eq_getElem hj]
theorem qgk (mp : Nat -> Nat) (ts B : Nat) (w : World) (r tb : Nat) (st : Nat -> Sub) (h : Vw mp ts B w r tb st) (cA : qef mp ts st) (o c : List UInt8) (aV : ∀ s, Z0 mp ts st s = (Vn o c s).map fun b => [b]) (s : Qa) (hs : s.length <= 1000000000) :
 Calls Tryz.prog 246 #[Jd r, vs s] w fun e w' => e = .returned (vs (Jl o c s)) /\ Below w.heap.size w w' := by
 have HT := Hi h; have cQ := Hi cA; have cJ := Hi aV; have gB := qfz s.length hs; have fL := Hi (qha w s.length hs); have HB : Hid (Below w.heap.size w ((w.alloc (.cells (madeCells #[.int .u8 0] s.length) 5)).alloc (.cells #[.slice (some ⟨w.heap.size, 0, none⟩) 0 s.length] 311))) := Hi (((Below.refl _ _).alloc (lR _) _).alloc (by simp) _); clear h cA aV; go_enter Tryz.func246, Tryz.ntmps246
 go_wp2_with fail; have hX := fL.out; have aW := HB
 revert hX aW
 generalize (w.alloc (.cells (madeCells #[.int .u8 0] s.length) 5)).alloc (.cells #[.slice (some ⟨w.heap.size, 0, none⟩) 0 s.length] 311) = X; intro hX aW; refine (qin mp ts B w X r tb st HT.out cQ.out o c cJ.out aW.out (w.heap.size + 1) hX s hs).mono ?_; rintro e w2 ⟨⟨n, rfl⟩, ⟨v, hv⟩, dW⟩; have c0 := cOb (o := 0) hv.blk rfl; have aU := hv.lt; have gH := qad w2 _ _ v _ hv; have bF := Hi (aW.out.trans dW); clear dW hv hX; go_wp2_with fail; exact bodyPost_ret (v := vs (Jl o c s)) (by simp [results, Tryz.results246, go_sem]) rfl ⟨rfl, bF.out⟩
end
section
open Go.RowKit
attribute [local go_sem ↓] Go.wp_at_zero Go.wp_at_succ
set_option maxRecDepth 100000
set_option maxHeartbeats 16000000
def Vr : List Pr -> List (List UInt8)
 | [] => []
 | (x, y, v) :: r => [x, y] :: v :: Vr r
theorem qdq (P : List Pr) : (Vr P).length = 2 * P.length := by
 induction P with
 | nil => rfl
 | cons p P ih => obtain ⟨a, b, c⟩ := p; simp only [Vr, List.length_cons, ih]; omega
theorem Fu : ∀ (P : List Pr) (i : Nat) (x y : UInt8) (v : Qa), P[i]? = some (x, y, v) -> (Vr P)[2 * i]? = some [x, y] /\ (Vr P)[2 * i + 1]? = some v
 | [], i, x, y, v, h => by simp at h
 | (a, b, c) :: P, 0, x, y, v, h => by
   have e : (a, b, c) = (x, y, v) := by simpa using h
   injection e with e1 e2; injection e2 with e2 e3; subst e1 e2 e3; exact ⟨rfl, rfl⟩
 | (a, b, c) :: P, i + 1, x, y, v, h => by
   have ih := Fu P i x y v (by simpa using h); rw [show 2 * (i + 1) = 2 * i + 1 + 1 by omega]; simpa [Vr] using ih
theorem qh8 {w2 : World} {v' : Value} {l : List (List UInt8)} {N : Nat} (h : Xn w2 0 v' l) (hl : l ≠ []) (hb : v'.ownBlock = (Value.slice none 0 0).ownBlock \/ v'.ownBlock = some N) : ∃ cap, v' = .slice (some ⟨N, 0, none⟩) l.length cap /\ N < w2.heap.size /\ ∀ (j : Nat) x, l[j]? = some x -> w2.cell? ⟨N, j, none⟩ = some (vs x) := by
 have h1 := h.1; rcases h.2 with ⟨-, h0⟩ | ⟨g, cap, cur, rfl, r2, r3, r4, r5, r6, r7⟩
 · exact absurd (List.eq_nil_of_length_eq_zero h0) hl
 · have e : g = N := by simpa [Value.ownBlock] using hb
   subst e; refine ⟨cap, rfl, lHp r3, fun j x hj => cOb r3 ?_⟩; have h5 : (cur.toList.take (l.length * 1))[j]? = (l.map vs)[j]? := by rw [r7]
   have gF := (List.getElem?_eq_some_iff.1 hj).1; rw [List.getElem?_take_of_lt (by omega), Array.getElem?_toList] at h5; rw [h5, List.getElem?_map, hj]; rfl
theorem Eff.drew {p : Nat} {a b : World} (h : Eff p a b) : Eff p a b.drew := ⟨h.os, h.tape, h.output, h.size, h.block⟩
structure Db (P : List Pr) (w w' : World) (rb kb c : Nat) : Prop where
 blk : w'.heap[rb]? = some (.cells #[.int .u32 0, .int .i32 0, .int .u32 0, .nilIface, .slice (some ⟨kb, 0, none⟩) (2 * P.length) c] 120 (0, 0))
 keys : Ot w' kb P
 ne : kb ≠ rb
 new : w.heap.size <= rb
 below : Below w.heap.size w w'
theorem Md (w : World) (g c : Nat) (P : List Pr) (h1 : 1 <= P.length) (h2 : P.length <= 100) (hX : ∀ (j : Nat) x, (Vr P)[j]? = some x -> w.cell? ⟨g, j, none⟩ = some (vs x)) :
 Calls Tryz.prog 32 #[.slice (some ⟨g, 0, none⟩) (Vr P).length c] w fun e w' => ∃ rb kb c, e = .returned (.pointer (some ⟨rb, 0, none⟩)) /\ Db P w w' rb kb c := by
 have HX := Hi hX; have cE := qdq P; clear hX; have fJ := Hi cE; have fX : ((Vr P).length : Int).tmod 2 = 0 := by rw [cE]; push_cast; simp
 have bA : (Vr P).length <= 200 := by omega
 have aF : Vr P ≠ [] := fun e => by rw [e] at cE; simp at cE; omega
 have dH := Hi aF; have HW : Hid (Below w.heap.size w w) := Hi (Below.refl _ _); clear cE aF; go_enter Tryz.func32, Tryz.ntmps32
 go_wp2_with (at_builtin; refine Kg rfl (.const (.slice none 0 0)) (.tmp 8) rfl (.slice none 0 0) [] (Vr P) g c rfl rfl Xn.nil HX.out (by simp; omega) ?_; intro v' w2 ho hg hb; obtain ⟨cap, hv, hN, cF⟩ := qh8 (l := Vr P) ho dH.out hb; subst hv; have eF := Hi cF; have bY := hN; have bF : Hid (Below w.heap.size w w2) := Hi ⟨hg.os, hg.tape, hg.output, hg.size, fun b hb => hg.block b hb (by simp [Value.ownBlock])⟩; clear ho hg hb cF)
 refine bodyPost_ret (v := .pointer (some ⟨w2.heap.size, 0, none⟩)) (by simp [results, Tryz.results32, go_sem]) rfl ⟨w2.heap.size, w.heap.size, cap, rfl, ⟨?_, ⟨by simp; omega, fun i x y v hp => ?_⟩, by omega, by omega, bF.out.alloc (by omega) _⟩⟩
 · rw [heap_alloc_new, fJ.out]
 · obtain ⟨a1, a2⟩ := Fu P i x y v hp; have hk : ∀ o, (w2.alloc (.cells #[.int .u32 0, .int .i32 0, .int .u32 0, .nilIface, .slice (some ⟨w.heap.size, 0, none⟩) (Vr P).length cap] 120)).cell? ⟨w.heap.size, o, none⟩ = w2.cell? ⟨w.heap.size, o, none⟩ := fun o => cOh (Below.heap_alloc _ _ _ hN) o; exact ⟨(hk _).trans (eF.out _ _ a1), (hk _).trans (eF.out _ _ a2)⟩
theorem qcs (r : Nat) (w : World) : (method 424 206 (Jd r) "Replace").run Tryz.prog w = .ok (246, Jd r) w := by kernel_rfl
structure qhk (P : List Pr) (ts : Nat) (o c : List UInt8) : Prop where
 keys : qas P ts
 st : qef (mpF (Jf (Jh P)) ts) ts (stP (mpF (Jf (Jh P)) ts) (2 * P.length) 0 st0 P)
 look : ∀ s, Z0 (mpF (Jf (Jh P)) ts) ts (stP (mpF (Jf (Jh P)) ts) (2 * P.length) 0 st0 P) s = (Vn o c s).map fun b => [b]
theorem Pm (W : World) (rb kb q : Nat) (P : List Pr) (ts : Nat) (o c : List UInt8) (h : qhk P ts o c) (hb : W.heap[rb]? = some (.cells #[.int .u32 0, .int .i32 0, .int .u32 0, .nilIface, .slice (some ⟨kb, 0, none⟩) (2 * P.length) q] 120 (0, 0))) (hK : Ot W kb P) (aF : kb ≠ rb) (s : Qa) (hs : s.length <= 1000000000) :
 Calls Tryz.prog 35 #[.pointer (some ⟨rb, 0, none⟩), vs s] W fun e w' => e = .returned (vs (Jl o c s)) /\ Eff rb W w' := by
 have fW := lHp hb
 have hD : Calls Tryz.prog 67 #[.pointer (some ⟨rb, 0, none⟩), boF rb] W (Nr rb (fun w1 => qb9 P ts (W.setCell ⟨rb, 1, none⟩ (.int .i32 1)) w1 rb W.heap.size)) := by
  refine qki rb _ W (cOb hb rfl) (cOb hb rfl) (fOb hb) (fOb hb) ?_; have := qko (W.setCell ⟨rb, 1, none⟩ (.int .i32 1)) rb kb q P ts h.keys (hK.keep (by simp) (Below.heap_setCell _ _ _ _ aF)) (by rw [rSc hb]; rfl); rwa [show (W.setCell ⟨rb, 1, none⟩ (.int .i32 1)).heap.size = W.heap.size by simp] at this
 have HD := Hi hD; have HR := Hi h; have gC : ∀ (fn : Fn) (first cap : Array Value) (w : World), (Instr.makeFunc fn first cap).run Tryz.prog w = .ok (.func fn first cap) w := fun _ _ _ _ => rfl; have eR := qcs W.heap.size; clear hD h hb hK; go_enter Tryz.func35, Tryz.ntmps35
 go_wp2_with fail
 (refine HD.out.mono ?_; rintro e w2 ⟨rfl, w1, hR, aP⟩; have aN := hR.blk; have hk : w2.heap[rb]? = some (.cells #[.int .u32 1, .int .i32 0, .int .u32 0, .iface 206 (Jd W.heap.size), .slice none 0 0] 120 (0, 0)) := (by rw [aP, rSc (rSc (show w1.drew.heap[rb]? = _ from aN))]; rfl); have hT := hR.trie; have HE : Hid (Eff rb W w2) := Hi (by rw [aP]; exact ((((Eff.refl rb W).setCell ⟨rb, 1, none⟩ (Or.inl rfl) _).trans hR.eff).drew.setCell ⟨rb, 0, none⟩ (Or.inl rfl) _).setCell ⟨rb, 1, none⟩ (Or.inl rfl) _); have HT : Hid (Vw (mpF (Jf (Jh P)) ts) ts W.heap.size w2 W.heap.size (W.heap.size + 1) (stP (mpF (Jf (Jh P)) ts) (2 * P.length) 0 st0 P)) := Hi (hT.keep (by rw [aP]; simp) (fun b hb _ => by rw [aP, Below.heap_setCell _ _ _ _ (by show b ≠ rb; omega), Below.heap_setCell _ _ _ _ (by show b ≠ rb; omega)]; rfl)); have c3 := cOb (o := 3) hk rfl; have hl := lHp hk; clear aN hk hT hR aP)
 go_wp2_with (go_at_call 246; refine (qgk _ ts W.heap.size w2 W.heap.size (W.heap.size + 1) _ HT.out HR.out.st o c HR.out.look s hs).mono ?_; rintro e w3 ⟨rfl, bD⟩; have cL := Hi bD; clear bD)
 exact bodyPost_ret (v := vs (Jl o c s)) (by simp [results, Tryz.results35, go_sem]) rfl ⟨rfl, HE.out.trans (Eff.of_below cL.out)⟩
theorem qjv : qhk prN 6 [40] [58, 44, 46, 41] where
 keys := ⟨by decide, by decide, sumN.symm, by decide, by rw [Cp]; exact okPN⟩
 st := by rw [Cp]; exact qi4
 look := by rw [Cp]; exact lookN
theorem qju : qhk prS 5 [40, 91] [41, 93] where
 keys := ⟨by decide, by decide, sumS.symm, by decide, by rw [Co]; exact okPS⟩
 st := by rw [Co]; exact qi3
 look := by rw [Co]; exact lookS
end
section
open Go.RowKit
structure St (W w : World) (p : Nat) (T : TypeId) (L N : List Qa) : Prop where
 wr : ∃ S, Wr W w p T S L N
theorem St.below {W w : World} {p : Nat} {T : TypeId} {L N : List Qa} (h : St W w p T L N) : Below W.heap.size W w := by obtain ⟨S, h⟩ := h.wr; exact h.below
theorem St.keep {W w w' : World} {p : Nat} {T : TypeId} {L N : List Qa} (h : St W w p T L N) (hb : Below w.heap.size w w') : St W w' p T L N := by obtain ⟨S, h⟩ := h.wr; exact ⟨S, h.keep hb⟩
theorem St.alloc {W w : World} {p : Nat} {T : TypeId} {L N : List Qa} (h : St W w p T L N) (o : Obj) : St W (w.alloc o) p T L N := h.keep (Jp w o)
theorem St.lt {W w : World} {p : Nat} {T : TypeId} {L N : List Qa} (h : St W w p T L N) : W.heap.size <= p /\ p < w.heap.size := by
 obtain ⟨S, h⟩ := h.wr; obtain ⟨v1, v2, h⟩ := h; exact ⟨h.lo p h.mem, h.lt p h.mem⟩
def Yj (W : World) (p : Nat) (T : TypeId) (L N : List Qa) (e : Ending) (w' : World) : Prop := e = .returned (.tuple #[]) /\ St W w' p T L N
theorem St.of {W w : World} {p : Nat} {T : TypeId} {S : Nat -> Prop} {L N : List Qa} {f : FuncId} {args : Array Value} (h : Calls Tryz.prog f args w (Zy W w p T S L N)) : Calls Tryz.prog f args w (Yj W p T L N) := by
 refine h.mono ?_; rintro e w' ⟨rfl, S', h, -⟩; exact ⟨rfl, S', h⟩
theorem St.of' {W w w0 : World} {p : Nat} {T : TypeId} {S : Nat -> Prop} {L N : List Qa} {f : FuncId} {args : Array Value} (h : Calls Tryz.prog f args w (Zy W w0 p T S L N)) : Calls Tryz.prog f args w (Yj W p T L N) := by
 refine h.mono ?_; rintro e w' ⟨rfl, S', h, -⟩; exact ⟨rfl, S', h⟩
theorem Ww (W w : World) (p : Nat) (T : TypeId) (L N : List Qa) (s : Qa) (g : Nat) (hg : g = w.heap.size) (h : St W w p T L N) (aG : L.length <= 900000) :
 Calls Tryz.prog 27 #[.pointer (some ⟨p, 0, none⟩), .slice (some ⟨g, 0, none⟩) 1 1] (w.alloc (.cells #[vs s] 9)) (Yj W p T (L ++ [s]) N) := by
 obtain ⟨S, h⟩ := h.wr; exact St.of' (Xy W w p T S L N s g hg h (by omega))
theorem G5 (W w : World) (p : Nat) (T : TypeId) (L N : List Qa) (s : Qa) (h : St W w p T L N) (aG : L.length <= 900000) (dO : N.length <= 900000) :
 Calls Tryz.prog 28 #[.pointer (some ⟨p, 0, none⟩), vs s] w (Yj W p T (L ++ [s]) (N ++ [s])) := by
 obtain ⟨S, h⟩ := h.wr; exact St.of (Wz W w p T S L N s h (by omega) (by omega))
theorem Mb (W w : World) (p : Nat) (T : TypeId) (L N : List Qa) (n : Nat) (h : St W w p T L N) (hn : n <= 1000000) (aG : L.length <= 900000) (ht : Xp W) :
 Calls Tryz.prog 29 #[.pointer (some ⟨p, 0, none⟩), .int .i64 (n : Int)] w (Yj W p T (L ++ [dec n]) N) := by
 obtain ⟨S, h⟩ := h.wr; exact St.of (Ul W w p T S L N n h (by omega) (by omega) ht)
theorem qkl (W w : World) (ht : Xp W) (t : Qb) (cs : List Value) (p : Nat) (T : TypeId) (L N : List Qa) (hs : Jn t = true) (bY : t.size <= 1000) (h1 : L.length <= 100000) (h2 : N.length <= 100000) (hr : RdX true W cs (up t)) (h : St W w p T L N) :
 Calls Tryz.prog 30 #[.pointer (some ⟨p, 0, none⟩), .agg cs.toArray] w (Yj W p T (L ++ wF t) (N ++ Ql t)) := by
 obtain ⟨S, h⟩ := h.wr; exact St.of (qc8 W ht t.size t cs w p T S L N (lR _) hs (by omega) (by omega) hr h)
theorem Ca (W w : World) (ht : Xp W) (t : Qb) (cs : List Value) (p : Nat) (T : TypeId) (L N : List Qa) (hs : Ja t = true) (bY : t.size <= 1000) (h1 : L.length <= 100000) (h2 : N.length <= 100000) (hr : RdX false W cs (up t)) (h : St W w p T L N) :
 Calls Tryz.prog 31 #[.pointer (some ⟨p, 0, none⟩), .agg cs.toArray] w (Yj W p T (L ++ wS t) (N ++ Qo t)) := by
 obtain ⟨S, h⟩ := h.wr; exact St.of (Tl W ht t.size t cs w p T S L N (lR _) hs (by omega) (by omega) hr h)
structure StB (W w : World) (p : Nat) (T : TypeId) (L N : List Qa) (b : Nat) (O : Obj) : Prop where
 wr : ∃ S, Wr W w p T S L N /\ ¬ S b
 blk : w.heap[b]? = some O
theorem StB.st {W w : World} {p : Nat} {T : TypeId} {L N : List Qa} {b : Nat} {O : Obj} (h : StB W w p T L N b O) : St W w p T L N := by obtain ⟨S, h, -⟩ := h.wr; exact ⟨S, h⟩
theorem St.box {W w : World} {p : Nat} {T : TypeId} {L N : List Qa} (h : St W w p T L N) (C : Array Value) (t : TypeId) : StB W (w.alloc (.cells C t)) p T L N w.heap.size (.cells C t (0, 0)) := by
 obtain ⟨S, h⟩ := h.wr; exact ⟨⟨S, h.alloc _, h.fresh⟩, heap_alloc_new w _⟩
theorem Sn (W w : World) (p : Nat) (T : TypeId) (L N : List Qa) (s : Qa) (g b : Nat) (O : Obj) (hg : g = w.heap.size) (h : StB W w p T L N b O) (aG : L.length <= 900000) :
 Calls Tryz.prog 27 #[.pointer (some ⟨p, 0, none⟩), .slice (some ⟨g, 0, none⟩) 1 1] (w.alloc (.cells #[vs s] 9)) fun e w' => e = .returned (.tuple #[]) /\ StB W w' p T (L ++ [s]) N b O := by
 obtain ⟨S, hw, hn⟩ := h.wr; refine (Xy W w p T S L N s g hg hw (by omega)).mono ?_; rintro e w' ⟨rfl, S', eI, hf⟩; obtain ⟨g1, g2⟩ := hf.box h.blk hn; exact ⟨rfl, ⟨S', eI, g2⟩, g1⟩
theorem St.start (w : World) (T : TypeId) : St w (w.alloc (.cells #[.slice none 0 0, .slice none 0 0] T)) w.heap.size T [] [] :=
 ⟨fun k => k = w.heap.size, .slice none 0 0, .slice none 0 0, ⟨heap_alloc_new w _, Xn.nil, Xn.nil, fun b hb => by simp [Value.ownBlock] at hb, fun b hb => by simp [Value.ownBlock] at hb, rfl, fun k hk => by subst hk; simp, fun k hk => by omega, Jp w _⟩⟩
