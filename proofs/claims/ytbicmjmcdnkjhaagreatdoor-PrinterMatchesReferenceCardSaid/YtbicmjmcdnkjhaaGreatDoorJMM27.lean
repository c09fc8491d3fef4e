/- The lexer: tokens, Lex. -/
import Derived.Test.YtbicmjmcdnkjhaaGreatDoorJMM1
import Derived.Test.YtbicmjmcdnkjhaaGreatDoorJMM26
import Derived.Maps.OwnIn
import Derived.Laws.EntriesVeiled
import Derived.RegionIn
import Derived.Shelf.RegionOpen
set_option linter.unusedVariables false
set_option linter.unusedSimpArgs false
set_option maxRecDepth 100000
set_option maxHeartbeats 4000000
namespace Go.Proofs.YtbicmjmcdnkjhaaGreatDoor
open Go.RowKit Go.Shelf
attribute [local go_sem] Oper.semAt_some
theorem tokens_any (l : List UInt8) (w : World) :
 Calls Tryz.prog 77 #[vs l] w fun e w' => ∃ bt ba bc, e = .returned (.func (.func 116) #[] #[.pointer (some ⟨bt, 0, none⟩), .pointer (some ⟨ba, 0, none⟩)]) ∧ TextB w' l bt ba bc w.heap.size w'.heap.size ∧ Below w.heap.size w w' := by
 go_enter Tryz.func77, Tryz.ntmps77
 go_wp2_with fail
 refine (classes_any _).mono ?_
 rintro e w1 ⟨hb1, C, rfl, hs, hv⟩
 have htx : w1.heap[w.heap.size]? = some (.cells #[vs l] 9 (0, 0)) := (hb1.block _ (by simp)).trans (heap_alloc_new w _)
 have HTX := Hi htx
 have HB1 : Hid (Below w.heap.size w w1) := Hi (((Below.refl _ _).alloc (lR _) _).trans (hb1.mono (by simp)))
 have HS := Hi hs
 have HVV := Hi hv
 clear htx hb1 hs hv
 go_wp2_with fail
 rw [show (w1.alloc (.cells Tryz.zeroCells157 157)).tbk w1.heap.size = some (.cells Tryz.zeroCells157 157 (0, 0)) from heap_alloc_new w1 _, tabStore_cells _ _ _ _ _ (by rw [zc]; simp) HS.out (tab_one HS.out HVV.out), World.setRow_alloc_new]
 go_wp2_with fail
 go_ret
 have hl1 := lHp HTX.out
 refine ⟨w.heap.size, w1.heap.size + 1, w1.heap.size, rfl, ⟨?_, ?_, ?_, by simp; omega, lR _⟩, (HB1.out.alloc HB1.out.size _).alloc (by have := HB1.out.size; simp; omega) _⟩
 · exact cOb (o := 0) ((Below.heap_alloc _ _ _ (by simp; omega)).trans ((Below.heap_alloc _ _ _ hl1).trans HTX.out)) rfl
 · have h2 := heap_alloc_new (w1.alloc (.cells C 157)) (.cells #[.func (.func 115) #[] #[.pointer (some ⟨w.heap.size, 0, none⟩), .pointer (some ⟨w1.heap.size, 0, none⟩)]] 168)
   rw [show (w1.alloc (.cells C 157)).heap.size = w1.heap.size + 1 by simp] at h2
   exact cOb (o := 0) h2 rfl
 · exact ⟨C, (Below.heap_alloc _ _ _ (by simp)).trans (heap_alloc_new w1 _), HS.out, HVV.out⟩
/- a row of tokens that the call owns -/
abbrev OwnLx (w : World) (base : Nat) (v : Value) (l : List Tok) : Prop := w.ownsRow base 122 4 v l.length (l.map Tok.cells).flatten
theorem tok_flat : ∀ {l : List Tok} {k j : Nat} {x : Tok} {v : Value}, l[k]? = some x → x.cells[j]? = some v → (l.map Tok.cells).flatten[k * 4 + j]? = some v
 | [], k, j, x, v, h, _ => by simp at h
 | t :: l, 0, j, x, v, h, hv => by
   simp at h
   subst h
   rw [List.map_cons, List.flatten_cons, Nat.zero_mul, Nat.zero_add, List.getElem?_append_left (List.getElem?_eq_some_iff.1 hv).1]
   exact hv
 | t :: l, k + 1, j, x, v, h, hv => by
   rw [List.map_cons, List.flatten_cons, List.getElem?_append_right (by simp; omega)]
   have e : (k + 1) * 4 + j - t.cells.length = k * 4 + j := by simp; omega
   rw [e]
   exact tok_flat (by simpa using h) hv
theorem OwnLx.form {w : World} {base : Nat} {v : Value} {l : List Tok} (h : OwnLx w base v l) : ∃ A cap, v = .slice A l.length cap ∧ l.length ≤ cap ∧ cap ≤ maxLen ∧ RdT w A l ∧ ∀ b o, A = some ⟨b, o, none⟩ → base ≤ b ∧ b < w.heap.size := by
 rcases h.2 with ⟨hv, h0⟩ | ⟨g, cap, cur, rfl, r2, r3, r4, r5, r6, r7⟩
 · refine ⟨none, 0, ?_, by omega, Nat.zero_le _, ?_, fun b o e => by cases e⟩
   · rw [hv, h0]
   · have := List.length_eq_zero_iff.1 h0
     subst this
     exact Sl.nil
 · refine ⟨_, cap, rfl, r4, r5, ?_, fun b o e => by cases e; exact ⟨r2, lHp r3⟩⟩
   intro hne
   refine ⟨g, 0, rfl, lHp r3, fun k x hx j u hu => ?_⟩
   refine cOb r3 ?_
   have hk := tok_flat hx hu
   rw [← r7, List.getElem?_take] at hk
   split at hk
   · rw [Nat.zero_add, ← Array.getElem?_toList]; exact hk
   · cases hk
theorem OwnLx.nil {w : World} {base : Nat} : OwnLx w base (.slice none 0 0) [] := ⟨rfl, .inl ⟨rfl, rfl⟩⟩
theorem OwnLx.keep {w w' : World} {base : Nat} {v : Value} {l : List Tok} (h : OwnLx w base v l) (hk : ∀ b C t fr, w.heap[b]? = some (.cells C t fr) → base ≤ b → w'.heap[b]? = some (.cells C t fr)) : OwnLx w' base v l := by
 refine ⟨h.1, ?_⟩
 rcases h.2 with h | ⟨g, cap, cur, rfl, r2, r3, r4⟩
 · exact .inl h
 · exact .inr ⟨g, cap, cur, rfl, r2, hk _ _ _ _ r3 r2, r4⟩
theorem heap_kept {X Y : World} {row : Option Nat} {b : Nat} {C : Array Value} {t : TypeId} {fr : Nat × Nat} (h : X.heap[b]? = some (.cells C t fr)) (hg : X.grownBy Y row) (hr : ∀ r, row = some r → ∃ o : Obj, X.heap[r]? = some o ∧ o.isCells = false) : Y.heap[b]? = some (.cells C t fr) :=
 (hg.block b (lHp h) (fun e => by obtain ⟨o, ho, hc⟩ := hr b e.symm; rw [h] at ho; cases ho; cases hc)).trans h
/- the boxes of the outcome -/
structure Res3 (w W : World) (v2 v3 v4 : Value) : Prop where
 r2 : W.heap[w.heap.size]? = some (.cells #[v2] 79 (0, 0))
 r3 : W.heap[w.heap.size + 1]? = some (.cells #[v3] 33 (0, 0))
 r4 : W.heap[w.heap.size + 1 + 1]? = some (.cells #[v4] 3 (0, 0))
structure LexI (w : World) (n₀ : Nat) (pre : List (Tok × Nat)) (W : World) : Prop where
 is : ∃ ts v, pre = noErr ts ∧ ts.length ≤ 5000 ∧ W.heap[w.heap.size + 1 + 1 + 1]? = some (.cells #[v] 79 (0, 0)) ∧ OwnLx W n₀ v ts
 res : Res3 w W (.slice none 0 0) (.int .i64 0) (.int .i64 0)
 below : Below w.heap.size w W
 size : n₀ ≤ W.heap.size
structure LexX (w : World) (c : Code) (pre : List (Tok × Nat)) (W : World) : Prop where
 is : c = .ret
 out : ∃ ts t err er, pre = noErr ts ++ [(t, err)] ∧ ts.length ≤ 5000 ∧ (err ≠ 0 ∧ er = err ∨ err = 0 ∧ ts.length = 5000 ∧ er = 2) ∧ Res3 w W (.slice none 0 0) (.int .i64 (er : Nat)) (.int .i64 t.pos)
 below : Below w.heap.size w W
theorem Res3.kept {w X Y : World} {v2 v3 v4 : Value} {row : Option Nat} (h : Res3 w X v2 v3 v4) (hg : X.grownBy Y row) (hr : ∀ r, row = some r → ∃ o : Obj, X.heap[r]? = some o ∧ o.isCells = false) : Res3 w Y v2 v3 v4 :=
 ⟨heap_kept h.r2 hg hr, heap_kept h.r3 hg hr, heap_kept h.r4 hg hr⟩
theorem below_kept {w X Y : World} {row : Option Nat} {B : Nat} (h : Below w.heap.size w X) (hB : w.heap.size ≤ B) (hg : X.grownBy Y row) (hr : ∀ r, row = some r → B ≤ r) : Below w.heap.size w Y :=
 h.grown hg h.size (fun k e => Nat.le_trans hB (hr k e))
theorem LexI.own {w : World} {n₀ B : Nat} (hB : w.heap.size ≤ B) : OwnFrom B (LexI w n₀) := by
 intro pre X Y row h hg hr
 obtain ⟨ts, v, h1, h2, h3, h4⟩ := h.is
 exact ⟨⟨ts, v, h1, h2, heap_kept h3 hg (fun r e => (hr r e).2), h4.keep (fun b C t fr hb _ => heap_kept hb hg (fun r e => (hr r e).2))⟩, h.res.kept hg (fun r e => (hr r e).2), below_kept h.below hB hg (fun r e => (hr r e).1), Nat.le_trans h.size hg.size⟩
theorem LexX.own {w : World} {B : Nat} (hB : w.heap.size ≤ B) (c : Code) : OwnFrom B (LexX w c) := by
 intro pre X Y row h hg hr
 obtain ⟨ts, t, err, er, h1, h2, h3, h4⟩ := h.out
 exact ⟨h.is, ⟨ts, t, err, er, h1, h2, h3, h4.kept hg (fun r e => (hr r e).2)⟩, below_kept h.below hB hg (fun r e => (hr r e).1)⟩
theorem KpT.trans {lo n₀ : Nat} {A B C : World} (h : KpT lo n₀ A B) (k : KpT lo n₀ B C) : KpT lo n₀ A C := ⟨h.1.trans k.1, fun b C fr hb => k.2 _ _ _ (h.2 _ _ _ hb)⟩
theorem KpT.put {w : World} {lo n₀ : Nat} (hn : n₀ ≤ w.heap.size) (W : World) (l : Nat) (o o' : Obj) (hl : w.heap.size ≤ l) (h : W.heap[l]? = some o) (hc : o.isCells = false) (hw : o.isWalk = false) : KpT lo n₀ W (W.putObj l o') :=
 ⟨Mid.of_below (belowK_b hn W l o o' hl h hc hw), fun k C fr hk => (World.putObj_heap_other (fun e => by subst e; rw [hk] at h; cases h; cases hc)).trans hk⟩
theorem toks_seq {w5 : World} {l : List UInt8} {bt ba bc lo : Nat} (hl : l.length ≤ 20000) (hT : TextB w5 l bt ba bc lo w5.heap.size) :
 SeqStopsK Fence.wide 8 Tryz.prog 116 #[.pointer (some ⟨bt, 0, none⟩), .pointer (some ⟨ba, 0, none⟩)] encT (KpT lo w5.heap.size) (FullT l) (PreT l) 20000 w5 := by
 intro lp J Jx W hW hJ hJx hY h0
 exact (callsIn_wide (n := 8)).2 (toks_any lp bt ba bc lo w5.heap.size l hl J Jx W (hT.mid (Mid.of_below hW)) hJ hY h0)
theorem results3 {w X : World} {v2 v3 v4 : Value} {tmps : Array Value} (hr : Res3 w X v2 v3 v4) (h2 : tmps.getD 2 undef = .pointer (some ⟨w.heap.size, 0, none⟩)) (h3 : tmps.getD 3 undef = .pointer (some ⟨w.heap.size + 1, 0, none⟩)) (h4 : tmps.getD 4 undef = .pointer (some ⟨w.heap.size + 1 + 1, 0, none⟩)) :
 (results Tryz.f52 tmps).run Tryz.prog X = .ok (.tuple #[v2, v3, v4]) X := by
 have c2 := cOb (o := 0) hr.r2 rfl
 have c3 := cOb (o := 0) hr.r3 rfl
 have c4 := cOb (o := 0) hr.r4 rfl
 have h2' : tmps[2]?.getD undef = .pointer (some ⟨w.heap.size, 0, none⟩) := by simpa using h2
 have h3' : tmps[3]?.getD undef = .pointer (some ⟨w.heap.size + 1, 0, none⟩) := by simpa using h3
 have h4' : tmps[4]?.getD undef = .pointer (some ⟨w.heap.size + 1 + 1, 0, none⟩) := by simpa using h4
 simp [results, Tryz.results52, h2', h3', h4', asAddr, go_sem, c2, c3, c4]
theorem Res3.set {w W : World} {v2 v3 v4 : Value} (h : Res3 w W v2 v3 v4) (u2 u3 u4 : Value) : Res3 w (((W.setCell ⟨w.heap.size, 0, none⟩ u2).setCell ⟨w.heap.size + 1, 0, none⟩ u3).setCell ⟨w.heap.size + 1 + 1, 0, none⟩ u4) u2 u3 u4 := by
 have e2 := rSc (o := 0) (u := u2) h.r2
 have e3 := (Below.heap_setCell W ⟨w.heap.size, 0, none⟩ u2 (w.heap.size + 1) (by simp)).trans h.r3
 have e4 := (Below.heap_setCell W ⟨w.heap.size, 0, none⟩ u2 (w.heap.size + 1 + 1) (by simp; omega)).trans h.r4
 have f3 := rSc (o := 0) (u := u3) e3
 have f2 := (Below.heap_setCell _ ⟨w.heap.size + 1, 0, none⟩ u3 w.heap.size (by simp)).trans e2
 have f4 := (Below.heap_setCell _ ⟨w.heap.size + 1, 0, none⟩ u3 (w.heap.size + 1 + 1) (by simp)).trans e4
 have g4 := rSc (o := 0) (u := u4) f4
 have g3 := (Below.heap_setCell _ ⟨w.heap.size + 1 + 1, 0, none⟩ u4 (w.heap.size + 1) (by simp)).trans f3
 have g2 := (Below.heap_setCell _ ⟨w.heap.size + 1 + 1, 0, none⟩ u4 w.heap.size (by simp; omega)).trans f2
 exact ⟨g2, g3, g4⟩
theorem below_set3 {w W : World} (h : Below w.heap.size w W) (u2 u3 u4 : Value) : Below w.heap.size w (((W.setCell ⟨w.heap.size, 0, none⟩ u2).setCell ⟨w.heap.size + 1, 0, none⟩ u3).setCell ⟨w.heap.size + 1 + 1, 0, none⟩ u4) :=
 ((h.setCell (lR _) _).setCell (by simp) _).setCell (by simp; omega) _
theorem set3_other {w W : World} {k : Nat} (hk : w.heap.size + 1 + 1 < k) (u2 u3 u4 : Value) : (((W.setCell ⟨w.heap.size, 0, none⟩ u2).setCell ⟨w.heap.size + 1, 0, none⟩ u3).setCell ⟨w.heap.size + 1 + 1, 0, none⟩ u4).heap[k]? = W.heap[k]? :=
 (Below.heap_setCell _ _ _ _ (by simp; omega)).trans ((Below.heap_setCell _ _ _ _ (by simp; omega)).trans (Below.heap_setCell _ _ _ _ (by simp; omega)))
theorem info_tok : (Tryz.prog.info? 122).map (fun i => (i.zero, i.size, i.bytes)) = some (some (.agg #[.int .i64 0, .string ⟨#[]⟩, .int .i64 0, .int .i64 0]), 4, 40) := by kernel_rfl
theorem wpListIn_append_tok {F : Fence} {nF : Nat} {ops : Array Oper} {rest : List Oper} {o : Oper} {a : Act} {w : World} {Q : Exit → Act → World → Prop} (hgd : o.guard = none) (s x : Operand) (hop : o.op = Op.call { callee := Callee.builtin Builtin.append, args := #[s, x], argTypes := #[79, 79] })
 (base : Nat) (v : Value) (l : List Tok) (g0 : Nat) (t : Tok) (hs : a.eval s = v) (hx : a.eval x = .slice (some ⟨g0, 0, none⟩) 1 1) (hown : OwnLx w base v l) (hc : w.heap[g0]? = some (.cells t.cells.toArray 122 (0, 0)))
 (hlen : l.length + 1 ≤ 1000000) (hb : base ≤ w.heap.size) (h : ∀ v' w', OwnLx w' base v' (l ++ [t]) → w.grownBy w' v.ownBlock → wpListIn F nF Tryz.prog ops Q rest (a.put o.dst v') w') : wpListIn F nF Tryz.prog ops Q (o :: rest) a w := by
 obtain ⟨i0, hi0, hz0, hz1, hz2⟩ := info_parts info_tok
 refine wpListIn_append_own_at _ hgd s x _ hop base 122 i0 _ 4 40 Tryz.underlying79 hi0 hz0 hz1 hz2 rfl (by decide) v l.length _ hs hown ⟨g0, 0, none⟩ 1 1 t.cells hx rfl (fun j u hu => ?_) (by simp [Value.oneCell']) (by unfold maxLen; omega) (by omega) hb ?_
 · rw [Addr.add_lit]
   exact cOb hc (by simpa using hu)
 · intro v' w' ho hg _ _
   exact h v' w' (by unfold OwnLx; simpa using ho) hg
theorem sc_none_inj {ts us : List Tok} {t : Tok} {e : Nat} (h : noErr ts = noErr us ++ [(t, e)]) : e = 0 ∧ ts = us ++ [t] := by
 have hm : (t, e) ∈ noErr ts := by rw [h]; simp
 have he : e = 0 := by
  obtain ⟨x, -, hx⟩ := List.mem_map.1 hm
  injection hx with _ hx
  exact hx.symm
 subst he
 rw [noErr_snoc] at h
 refine ⟨rfl, ?_⟩
 have h2 := congrArg (List.map Prod.fst) h
 simpa [noErr, List.map_map, Function.comp_def] using h2
theorem noErr_inj {ts us : List Tok} (h : noErr ts = noErr us) : ts = us := by
 have h2 := congrArg (List.map Prod.fst) h
 simpa [noErr, List.map_map, Function.comp_def] using h2
theorem lex_done {l : List UInt8} {ts : List Tok} (hl : l.length ≤ 20000) (h : FullT l (noErr ts)) (hlen : ts.length ≤ 5000) : lexF l = .ok ts := by
 rcases h with ⟨us, h1, h2⟩ | ⟨us, t, e, h1, h2, h3⟩
 · rw [noErr_inj h1]
   rw [noErr_inj h1] at hlen
   exact lexF_mk h2 hlen hl
 · exact absurd (sc_none_inj h1).1 h2
theorem pair_inj {ts us : List Tok} {t u : Tok} {e f : Nat} (h : noErr ts ++ [(t, e)] = noErr us ++ [(u, f)]) : ts = us ∧ t = u ∧ e = f := by
 have h1 := congrArg List.reverse h
 simp only [List.reverse_append, List.reverse_cons, List.reverse_nil, List.nil_append, List.singleton_append, List.cons.injEq, Prod.mk.injEq, List.reverse_inj] at h1
 exact ⟨noErr_inj h1.2, h1.1.1, h1.1.2⟩
theorem lex_stop {l : List UInt8} {ts : List Tok} {t : Tok} {err er : Nat} (hl : l.length ≤ 20000) (h : PreT l (noErr ts ++ [(t, err)])) (hlen : ts.length ≤ 5000) (he : err ≠ 0 ∧ er = err ∨ err = 0 ∧ ts.length = 5000 ∧ er = 2) : lexF l = .error (er, (t.pos : Int)) := by
 rcases h with ⟨us, vs', o, h1, h2⟩ | ⟨us, u, e, h1, h2, h3⟩
 · obtain ⟨rfl, rfl⟩ := sc_none_inj h1.symm
   rcases he with ⟨he, -⟩ | ⟨-, h5, rfl⟩
   · exact absurd rfl he
   · unfold lexF
     rw [show scan l.length l 0 = sc l 0 from rfl, if_neg (by omega), h2]
     simp only []
     rw [List.append_assoc, List.drop_append_of_le_length (by omega), List.drop_of_length_le (by omega)]
     rfl
 · obtain ⟨rfl, rfl, rfl⟩ := pair_inj h1
   rcases he with ⟨-, rfl⟩ | ⟨he, -⟩
   · unfold lexF
     rw [show scan l.length l 0 = sc l 0 from rfl, if_neg (by omega), h3]
     simp only []
     rw [List.drop_of_length_le (by omega)]
   · exact absurd he h2
theorem keeps3 {w W : World} (B : Nat) (u2 u3 u4 : Value) : KeepsFrom B W (((W.setCell ⟨w.heap.size, 0, none⟩ u2).setCell ⟨w.heap.size + 1, 0, none⟩ u3).setCell ⟨w.heap.size + 1 + 1, 0, none⟩ u4).drew := by
 have h := (((KeepsOthers.setCell W ⟨w.heap.size, 0, none⟩ u2).trans (KeepsOthers.setCell _ ⟨w.heap.size + 1, 0, none⟩ u3)).trans (KeepsOthers.setCell _ ⟨w.heap.size + 1 + 1, 0, none⟩ u4)).from B
 exact ⟨h.size, h.same⟩
theorem lex_ret {w W w5 : World} {pre : List (Tok × Nat)} {x : Tok × Nat} {ts : List Tok} {er : Nat} {a' : Act} {lo : Nat} (hpre : pre = noErr ts) (hts : ts.length ≤ 5000) (hr : Res3 w W (.slice none 0 0) (.int .i64 0) (.int .i64 0)) (hb : Below w.heap.size w W)
 (he : x.2 ≠ 0 ∧ er = x.2 ∨ x.2 = 0 ∧ ts.length = 5000 ∧ er = 2) :
 ownPostG w5.heap.size (KpT lo w5.heap.size) (LexI w w5.heap.size) (LexX w) (pre ++ [x]) W Exit.ret a' (((W.setCell ⟨w.heap.size, 0, none⟩ (.slice none 0 0)).setCell ⟨w.heap.size + 1, 0, none⟩ (.int .i64 (er : Nat))).setCell ⟨w.heap.size + 1 + 1, 0, none⟩ (.int .i64 x.1.pos)).drew := by
 refine ⟨keeps3 _ _ _ _, rfl, ⟨ts, x.1, x.2, er, by rw [hpre], hts, he, ?_⟩, (below_set3 hb _ _ _).drew⟩
 have := hr.set (.slice none 0 0) (.int .i64 (er : Nat)) (.int .i64 x.1.pos)
 exact ⟨this.r2, this.r3, this.r4⟩
theorem OwnLx.own {w : World} {base : Nat} {v : Value} {l : List Tok} (h : OwnLx w base v l) : ∀ b, v.ownBlock = some b → base ≤ b ∧ ∃ C, w.heap[b]? = some (.cells C 122 (0, 0)) := by
 rcases h.2 with ⟨hv, h0⟩ | ⟨g, cap, cur, rfl, r2, r3, r4, r5, r6, r7⟩
 · intro b hb
   rw [hv] at hb
   simp [Value.ownBlock] at hb
 · intro b hb
   simp [Value.ownBlock] at hb
   subst hb
   exact ⟨r2, _, r3⟩
/- one token more -/
theorem lex_more {w W w3 : World} {n₀ bo : Nat} {pre : List (Tok × Nat)} {ts : List Tok} {t : Tok} {v v' : Value} {a' : Act} (hbo : bo = w.heap.size + 1 + 1 + 1) (hn : bo < n₀) (hpre : pre = noErr ts) (hts : ts.length < 5000) (hov : W.heap[bo]? = some (.cells #[v] 79 (0, 0))) (hown : OwnLx W n₀ v ts)
 (hr : Res3 w W (.slice none 0 0) (.int .i64 0) (.int .i64 0)) (hb : Below w.heap.size w W) (hws : n₀ ≤ W.heap.size) (ho : OwnLx w3 n₀ v' (ts ++ [t])) (hg : (W.alloc (.cells t.cells.toArray 122)).grownBy w3 v.ownBlock) :
 ownPostG n₀ (KpT (bo + 1) n₀) (LexI w n₀) (LexX w) (pre ++ [(t, 0)]) W Exit.normal a' (w3.setCell ⟨bo, 0, none⟩ v') := by
 have hk : ∀ k, k < W.heap.size → v.ownBlock ≠ some k → w3.heap[k]? = W.heap[k]? := fun k h1 h2 => (hg.block k (by simp; omega) (fun e => h2 e.symm)).trans (Below.heap_alloc _ _ _ h1)
 have hne : ∀ k, k < n₀ → v.ownBlock ≠ some k := fun k h1 e => by have := (hown.own k e).1; omega
 have hs : W.heap.size ≤ w3.heap.size := by have := hg.size; simp at this; omega
 have hset : ∀ k, k ≠ bo → (w3.setCell ⟨bo, 0, none⟩ v').heap[k]? = w3.heap[k]? := fun k h => Below.heap_setCell _ _ _ _ (by simpa using h)
 have hkb : ∀ k C fr, W.heap[k]? = some (.cells C 144 fr) → v.ownBlock ≠ some k := fun k C fr h e => by obtain ⟨-, C', h'⟩ := hown.own k e; rw [h] at h'; injection h' with h'; injection h' with _ h' _; exact absurd h' (by decide)
 have hlt2 := lHp hr.r2
 have hlt3 := lHp hr.r3
 have hlt4 := lHp hr.r4
 refine ⟨⟨by simpa using hs, fun k o hB hk' hc => ?_⟩, ⟨⟨by simpa using hs, fun k h1 h2 => ?_⟩, fun k C fr hC => ?_⟩, ⟨ts ++ [t], v', by rw [hpre, noErr_snoc], by simp; omega, ?_, ?_⟩, ⟨?_, ?_, ?_⟩, ?_, by simp; omega⟩
 · rw [hset k (by omega), hk k (Array.getElem?_eq_some_iff.1 hk').1 (fun e => by obtain ⟨-, C', h'⟩ := hown.own k e; rw [hk'] at h'; cases h'; cases hc)]
   exact hk'
 · rw [hset k (by omega), hk k (by omega) (hne k h2)]
 · rw [hset k (fun e => by subst e; rw [hov] at hC; injection hC with hC; injection hC with _ hC _; exact absurd hC (by decide)), hk k (lHp hC) (hkb k C fr hC)]
   exact hC
 · rw [← hbo, rSc ((hk bo (by omega) (hne bo hn)).trans hov)]
   rfl
 · exact ho.keep (fun b C ty fr hC hb' => (hset b (by omega)).trans hC)
 · rw [hset _ (by omega), hk _ hlt2 (hne _ (by omega))]; exact hr.r2
 · rw [hset _ (by omega), hk _ hlt3 (hne _ (by omega))]; exact hr.r3
 · rw [hset _ (by omega), hk _ hlt4 (hne _ (by omega))]; exact hr.r4
 · refine ⟨hg.os.trans hb.os, hg.tape.trans hb.tape, hg.output.trans hb.output, by have := hb.size; simp; omega, fun k hk' => ?_⟩
   rw [hset k (by omega), hk k (by have := hb.size; omega) (hne k (by omega))]
   exact hb.block k hk'
theorem lex_out3 {W w3 : World} {n₀ bo : Nat} {ts : List Tok} {v : Value} {o : Obj} (hn : bo < n₀) (hov : W.heap[bo]? = some (.cells #[v] 79 (0, 0))) (hown : OwnLx W n₀ v ts) (hg : (W.alloc o).grownBy w3 v.ownBlock) :
 w3.cell? ⟨bo, 0, none⟩ = some v ∧ w3.frozen? ⟨bo, 0, none⟩ = false ∧ bo < w3.heap.size := by
 have h : w3.heap[bo]? = some (.cells #[v] 79 (0, 0)) := (hg.block bo (by have := lHp hov; simp; omega) (fun e => by have := (hown.own bo e.symm).1; omega)).trans ((Below.heap_alloc _ _ _ (lHp hov)).trans hov)
 exact ⟨cOb (o := 0) h rfl, fOb (o := 0) h, lHp h⟩
abbrev LexPost (l : List UInt8) (w : World) (e : Ending) (w' : World) : Prop := Below w.heap.size w w' ∧ (match lexF l with
 | .ok ts => ∃ A c, e = .returned (.tuple #[.slice A ts.length c, .int .i64 0, .int .i64 0]) ∧ RdT w' A ts ∧ (∀ b o, A = some ⟨b, o, none⟩ → w.heap.size ≤ b ∧ b < w'.heap.size) ∧ ts.length ≤ c ∧ c ≤ 9223372036854775807
 | .error (er, a) => e = .returned (.tuple #[.slice none 0 0, .int .i64 er, .int .i64 a]))
theorem alloc_at' {w : World} {b : Nat} {o : Obj} (h : b = w.heap.size) : (w.alloc o).heap[b]? = some o := h ▸ heap_alloc_new w o
theorem old_at' {w : World} {b : Nat} {o x : Obj} (h : w.heap[b]? = some x) : (w.alloc o).heap[b]? = some x := (Below.heap_alloc _ _ _ (lHp h)).trans h
theorem lex_any (l : List UInt8) (w : World) : Calls Tryz.prog 52 #[vs l] w (LexPost l w) := by
 refine (callsIn_wide (n := 9)).1 ?_
 refine callsIn_of_wp_marks Tryz.func52 rfl trivial ?_ rfl
 simp only [Tryz.ntmps52, List.size_toArray, List.length_cons, List.length_nil, Nat.reduceAdd, Nat.reduceSub, Array.replicate_succ, Array.replicate_zero, List.push_toArray, List.append_toArray, List.nil_append, List.cons_append]
 have ft : Fence.wide.fn 77 := trivial
 have fg : Fence.wide.fn 116 := trivial
 by_cases hl : 20000 < l.length
 · have hl2 : (20000 : Int) < l.length := by omega
   have HL : Hid (lexF l = .error (2, -1)) := Hi (by unfold lexF; rw [if_pos hl])
   clear hl
   gi_wp2_with fail
   refine ⟨_, results3 (w := w) (v2 := .slice none 0 0) (v3 := .int .i64 2) (v4 := .int .i64 (-1)) ⟨?_, ?_, ?_⟩ rfl rfl rfl, ?_⟩
   · exact (Below.heap_alloc _ _ _ (by simp; omega)).trans ((Below.heap_alloc _ _ _ (by simp)).trans (heap_alloc_new w _))
   · exact (Below.heap_alloc _ _ _ (by simp)).trans (by have := heap_alloc_new (w.alloc (.cells #[.slice none 0 0] 79)) (.cells #[.int .i64 2] 33); rwa [show (w.alloc (.cells #[.slice none 0 0] 79)).heap.size = w.heap.size + 1 by simp] at this)
   · have := heap_alloc_new ((w.alloc (.cells #[.slice none 0 0] 79)).alloc (.cells #[.int .i64 2] 33)) (.cells #[.int .i64 (-1)] 3)
     rwa [show ((w.alloc (.cells #[.slice none 0 0] 79)).alloc (.cells #[.int .i64 2] 33)).heap.size = w.heap.size + 1 + 1 by simp] at this
   · refine ⟨(((Below.refl _ _).alloc (lR _) _).alloc (by simp) _).alloc (by simp; omega) _, ?_⟩
     rw [HL.out]
     rfl
 · have hl2 : ¬ (20000 : Int) < l.length := by omega
   have hl' : l.length ≤ 20000 := by omega
   clear hl
   gi_wp2_with fail
   refine ((callsIn_wide (n := 8)).2 (tokens_any l _)).mono ?_
   rintro e w5 ⟨bt, ba, bc, rfl, hT, hb5⟩
   simp only [World.size_alloc] at hT
   have b0 : Below w.heap.size w ((((w.alloc (.cells #[.slice none 0 0] 79)).alloc (.cells #[.int .i64 0] 33)).alloc (.cells #[.int .i64 0] 3)).alloc (.cells #[.slice none 0 0] 79)) :=
    ((((Below.refl _ _).alloc (lR _) _).alloc (by simp) _).alloc (by simp; omega) _).alloc (by simp; omega) _
   have hres : Res3 w w5 (.slice none 0 0) (.int .i64 0) (.int .i64 0) := ⟨(hb5.block _ (by simp; omega)).trans (old_at' (old_at' (old_at' (alloc_at' rfl)))), (hb5.block _ (by simp)).trans (old_at' (old_at' (alloc_at' (by simp)))), (hb5.block _ (by simp)).trans (old_at' (alloc_at' (by simp)))⟩
   have hout : w5.heap[w.heap.size + 1 + 1 + 1]? = some (.cells #[.slice none 0 0] 79 (0, 0)) := (hb5.block _ (by simp)).trans (alloc_at' (by simp))
   have hbw : Below w.heap.size w w5 := b0.trans (hb5.mono (by simp; omega))
   have hsz : w.heap.size + 1 + 1 + 1 < w5.heap.size := lHp hout
   have HRES := Hi hres
   have HOUT := Hi hout
   have HBW := Hi hbw
   have HT := Hi hT
   clear hb5 b0 hres hout hbw hT
   gi_wp2_with fail
   refine wpIn_rangeFunc_ownH rfl (by decide) (gf := 116) (lb := #[.pointer (some ⟨bt, 0, none⟩), .pointer (some ⟨ba, 0, none⟩)]) rfl fg (enters_of Tryz.func116 (by kernel_rfl) rfl)
    (toks_seq hl' HT.out) (fun h k => KpT.trans h k) (KpT.put (lR _)) (Below.refl _ _) (fun _ => rfl)
    (LexI w w5.heap.size) (LexX w) (LexI.own HBW.out.size) (LexX.own HBW.out.size)
    ⟨⟨[], _, rfl, by simp, HOUT.out, OwnLx.nil⟩, HRES.out, HBW.out, lR _⟩
    (fun x a' W => ∃ Bx, w5.heap.size ≤ Bx ∧ W.heap[Bx]? = some (.cells #[.int .i64 x.1.kind, vs x.1.text, .int .i64 x.1.n, .int .i64 x.1.pos, .int .i64 x.2] 144 (0, 0)) ∧ a' = { tmps := #[vs l, undef, .pointer (some ⟨w.heap.size, 0, none⟩), .pointer (some ⟨w.heap.size + 1, 0, none⟩), .pointer (some ⟨w.heap.size + 1 + 1, 0, none⟩), .pointer (some ⟨w.heap.size + 1 + 1 + 1, 0, none⟩), .pointer (some ⟨Bx, 0, none⟩), vs l, .int .i64 l.length, .bool false, vs l, .func (.func 116) #[] #[.pointer (some ⟨bt, 0, none⟩), .pointer (some ⟨ba, 0, none⟩)], .agg #[.int .i64 x.1.kind, vs x.1.text, .int .i64 x.1.n, .int .i64 x.1.pos, .int .i64 x.2], undef, undef, undef, undef, undef, undef, undef, undef, undef, undef, undef, undef, undef, undef, undef, undef, undef, undef, undef, undef, undef, undef], defers := [] })
    (fun x a' _ X Y row hs hg hr => by obtain ⟨Bx, h1, h2, h3⟩ := hs; exact ⟨Bx, h1, heap_kept h2 hg (fun r e => (hr r e).2), h3⟩)
    ?assign ?body ?done ?stop
   case assign =>
    rintro l' pre x W K hI hK
    have HI := Hi hI
    clear hI
    simp only [encT]
    gi_wp2
    refine hK _ _ ((KeepsOthers.alloc _ _).from _) ⟨⟨by simp, fun k _ h2 => Below.heap_alloc _ _ _ (by have := HI.out.size; omega)⟩, fun k C fr hk => old_at' hk⟩ ?_ ⟨W.heap.size, HI.out.size, heap_alloc_new W _, rfl⟩
    · exact LexI.own HBW.out.size _ _ _ _ HI.out (World.grownBy_alloc W _ none) (fun r e => by cases e)
   case body =>
    rintro l' pre x a' W hl2' ⟨rr, hrr⟩ hI ⟨Bx, hBx, hbx, rfl⟩ hlt
    have x0 := cOb (o := 0) hbx rfl
    have x1 := cOb (o := 1) hbx rfl
    have x2 := cOb (o := 2) hbx rfl
    have x3 := cOb (o := 3) hbx rfl
    have x4 := cOb (o := 4) hbx rfl
    have xl := lHp hbx
    obtain ⟨⟨ts, v, hpre, hts, hov, hown⟩, hres, hbel, hws⟩ := hI
    have ov := cOb (o := 0) hov rfl
    have og := fOb (o := 0) hov
    have s2 := cOb (o := 0) hres.r2 rfl
    have s3 := cOb (o := 0) hres.r3 rfl
    have s4 := cOb (o := 0) hres.r4 rfl
    have t2 := fOb (o := 0) hres.r2
    have t3 := fOb (o := 0) hres.r3
    have t4 := fOb (o := 0) hres.r4
    have HPRE := Hi hpre
    have HOV := Hi hov
    have HOWN := Hi hown
    have HRS := Hi hres
    have HBL := Hi hbel
    have HBX := Hi hbx
    clear hrr hpre hov hown hres hbel hbx
    by_cases he : x.2 = 0
    · have z0 : ((x.2 : Int) != 0) = false := by simp; omega
      obtain ⟨A, cap, rfl, -, -, -, -⟩ := HOWN.out.form
      by_cases h5 : ts.length = 5000
      · have z5 : ((ts.length : Int) == 5000) = true := by simp; omega
        have HE := Hi he
        have H5 := Hi h5
        clear he h5
        gi_wp2
        gi_region
        all_goals gi_wp2
        all_goals exact lex_ret (er := 2) HPRE.out hts HRS.out HBL.out (.inr ⟨HE.out, H5.out, rfl⟩)
      · have z5 : ((ts.length : Int) == 5000) = false := by simp; omega
        have HE := Hi he
        have H5 := Hi h5
        clear he h5
        have hcell := heap_alloc_new W (.cells x.1.cells.toArray 122 (0, 0))
        have HCELL := Hi hcell
        have HOWN3 : Hid (OwnLx (W.alloc (.cells x.1.cells.toArray 122 (0, 0))) w5.heap.size (.slice A ts.length cap) ts) := Hi (HOWN.out.keep (fun b C t fr hb _ => old_at' hb))
        have HSZ : Hid (w5.heap.size ≤ (W.alloc (.cells x.1.cells.toArray 122 (0, 0))).heap.size) := Hi (by simp; omega)
        clear hcell
        gi_wp2_with (gi_at_builtin; refine wpListIn_append_tok rfl (.tmp 29) (.tmp 32) rfl w5.heap.size (.slice A ts.length cap) ts W.heap.size x.1 rfl rfl HOWN3.out HCELL.out (by omega) HSZ.out ?_; intro v' w3 ho hg; obtain ⟨ov3, og3, ol3⟩ := lex_out3 hsz HOV.out HOWN.out hg; obtain ⟨A', cap', rfl, -, -, -, -⟩ := ho.form; have HO := Hi ho; have HG := Hi hg; clear ho hg)
        obtain ⟨t, er⟩ := x
        obtain rfl : er = 0 := HE.out
        have ho' : OwnLx w3 w5.heap.size (.slice A' (ts.length + 1) cap') (ts ++ [t]) := by
         have h := HO.out
         rw [show (ts ++ [((t, 0) : Tok × Nat).1]).length = ts.length + 1 by simp] at h
         exact h
        exact lex_more rfl hsz HPRE.out (by have := H5.out; omega) HOV.out HOWN.out HRS.out HBL.out hws ho' HG.out
    · have z0 : ((x.2 : Int) != 0) = true := by simp; omega
      have HE := Hi he
      clear he
      gi_wp2
      gi_region
      all_goals gi_wp2
      all_goals exact lex_ret HPRE.out hts HRS.out HBL.out (.inl ⟨HE.out, rfl⟩)
   case done =>
    rintro D ys W hD hS ⟨⟨ts, v, rfl, hts, hov, hown⟩, hres, hbel, hws⟩ hK
    have hlex := lex_done hl' hS hts
    have ov := cOb (o := 0) hov rfl
    have s2 := cOb (o := 0) hres.r2 rfl
    have s3 := cOb (o := 0) hres.r3 rfl
    have s4 := cOb (o := 0) hres.r4 rfl
    have t2 := fOb (o := 0) hres.r2
    have t3 := fOb (o := 0) hres.r3
    have t4 := fOb (o := 0) hres.r4
    obtain ⟨A, cap, rfl, hc1, hc2, hrd, hA⟩ := hown.form
    have HLEX := Hi hlex
    have HRS := Hi (hres.set (.slice A ts.length cap) (.int .i64 0) (.int .i64 0))
    have HBL := Hi (below_set3 hbel (.slice A ts.length cap) (.int .i64 0) (.int .i64 0))
    have HK := Hi ((set3_other (w := w) (W := W) (k := D) (by omega) (.slice A ts.length cap) (.int .i64 0) (.int .i64 0)).trans hK)
    have HOWN := Hi hown
    clear hlex hov hres hbel hK hown hrd hS hA
    gi_wp2
    refine ⟨by simp, .inl ⟨_, _, rfl, run_takeDeferred HK.out, ?_⟩⟩
    refine ⟨_, results3 (HRS.out.kept (grownBy_putObj' _ D (.deferred none)) (fun r e => by cases e; exact ⟨_, HK.out, rfl⟩)) rfl rfl rfl, ?_⟩
    refine ⟨below_kept HBL.out (show w.heap.size ≤ D by omega) (grownBy_putObj' _ D (.deferred none)) (fun r e => by cases e; exact lR _), ?_⟩
    rw [HLEX.out]
    have hown' : OwnLx ((((W.setCell ⟨w.heap.size, 0, none⟩ (.slice A ts.length cap)).setCell ⟨w.heap.size + 1, 0, none⟩ (.int .i64 0)).setCell ⟨w.heap.size + 1 + 1, 0, none⟩ (.int .i64 0)).putObj D (.deferred none)) w5.heap.size (.slice A ts.length cap) ts :=
     HOWN.out.keep (fun b C t fr hb h1 => heap_kept ((set3_other (by omega) _ _ _).trans hb) (grownBy_putObj' _ D (.deferred none)) (fun r e => by cases e; exact ⟨_, HK.out, rfl⟩))
    obtain ⟨A', cap', hv, g1, g2, g3, g4⟩ := hown'.form
    cases hv
    exact ⟨A, cap, rfl, g3, fun b o e => ⟨by have := (g4 b o e).1; omega, (g4 b o e).2⟩, g1, by unfold maxLen at g2; omega⟩
   case stop =>
    rintro D c1 pre W hD hpre ⟨rfl, ⟨ts, t, err, er, rfl, hts, her, hres⟩, hbel⟩ hK
    have HLEX := Hi (lex_stop hl' hpre hts her)
    have HRS := Hi hres
    have HBL := Hi hbel
    have HK := Hi hK
    clear hpre hres hbel hK her
    gi_wp2
    refine ⟨by simp, .inl ⟨_, _, rfl, run_takeDeferred HK.out, ?_⟩⟩
    refine ⟨_, results3 (HRS.out.kept (grownBy_putObj' _ D (.deferred none)) (fun r e => by cases e; exact ⟨_, HK.out, rfl⟩)) rfl rfl rfl, ?_⟩
    refine ⟨below_kept HBL.out (show w.heap.size ≤ D by omega) (grownBy_putObj' _ D (.deferred none)) (fun r e => by cases e; exact lR _), ?_⟩
    rw [HLEX.out]
end Go.Proofs.YtbicmjmcdnkjhaaGreatDoor
