/- combine. -/
import Derived.Test.YtbicmjmcdnkjhaaGreatDoorJSS1
import Derived.Test.YtbicmjmcdnkjhaaGreatDoorJSS35
import Derived.Outline
set_option linter.unusedVariables false
set_option linter.unusedSimpArgs false
namespace Go.Proofs.YtbicmjmcdnkjhaaGreatDoor
namespace So
open Go.RowKit
structure JoinsT (fm : Bool) (f : FuncId) : Prop where
 go : ∀ (op : Nat) A n c w, Calls Tryz.prog f #[.int .i64 op, .slice A n c] w fun e w' => e = .returned (.agg (tcs fm op [] 0 0 (.slice A n c)).toArray) ∧ Below w.heap.size w w'
theorem joins_f : JoinsT true 130 := by
 refine ⟨fun op A n c w => ?_⟩
 go_enter Tryz.func130, Tryz.ntmps130
 go_wp2_with fail
 refine bodyPost_ret (v := .agg (tcs true op [] 0 0 (.slice A n c)).toArray) (by simp [results, Tryz.results130, go_sem, tcs]) rfl ⟨rfl, ?_⟩
 exact (Below.refl _ _).alloc (lR _) _
theorem joins_s : JoinsT false 140 := by
 refine ⟨fun op A n c w => ?_⟩
 go_enter Tryz.func140, Tryz.ntmps140
 go_wp2_with fail
 refine bodyPost_ret (v := .agg (tcs false op [] 0 0 (.slice A n c)).toArray) (by simp [results, Tryz.results140, go_sem, tcs]) rfl ⟨rfl, ?_⟩
 exact (Below.refl _ _).alloc (lR _) _
theorem deepK_snoc (l : Stack) (x : Tree × Nat) : deepK (l ++ [x]) = max (deepK l) (x.2 + 1) := by unfold deepK; rw [List.foldl_append]; rfl
theorem deepK_le {l : Stack} (h : ∀ x ∈ l, x.2 ≤ 20) : deepK l ≤ 21 := by
 unfold deepK
 suffices ∀ (l : Stack) (d : Nat), (∀ x ∈ l, x.2 ≤ 20) → d ≤ 21 → l.foldl (fun d x => max d (x.2 + 1)) d ≤ 21 from this l 1 h (by decide)
 intro l
 induction l with
 | nil => intro d _ hd; exact hd
 | cons a r ih =>
   intro d h hd
   rw [List.foldl_cons]
   exact ih _ (fun x hx => h x (by simp [hx])) (by have := h a (by simp); omega)
theorem flat_len {α : Type} {n : Nat} : ∀ {css : List (List α)} {m : Nat}, (∀ (i : Nat) (c : List α), css[i]? = some c → c.length = n) → css.length = m → css.flatten.length = m * n
 | [], m, _, h => by subst h; simp
 | c :: r, m, hl, h => by
   subst h
   have h0 := hl 0 c rfl
   have := flat_len (css := r) (fun i c hi => hl (i + 1) c (by simpa using hi)) rfl
   rw [List.flatten_cons, List.length_append, h0, this, List.length_cons, Nat.add_mul, Nat.one_mul]; omega
theorem flat_take {α : Type} {css : List (List α)} {n j : Nat} {u : α} (h : (css.take n).flatten[j]? = some u) : css.flatten[j]? = some u := by
 conv => lhs; rw [← List.take_append_drop n css]
 rw [List.flatten_append, List.getElem?_append_left (List.getElem?_eq_some_iff.1 h).1]
 exact h
abbrev tokO (a : Tok) : Obj := .cells #[.int .i64 a.kind, vs a.text, .int .i64 a.n, .int .i64 a.pos] 122 (0, 0)
/- kids that are gathered: older conditions, in a new row -/
structure OwnK (fm : Bool) (w : World) (base lo hi : Nat) (v : Value) (l : List Tree) : Prop where
 is : ∃ css : List (List Value), css.length = l.length ∧ (∀ (i : Nat) (cs : List Value) (t : Tree), css[i]? = some cs → l[i]? = some t → RdTree fm (fun b => base ≤ b ∧ b < lo) w cs t) ∧ w.ownsRow hi (tE fm) (tsz fm) v l.length css.flatten
theorem OwnK.nil {fm : Bool} {w : World} {base lo hi : Nat} : OwnK fm w base lo hi (.slice none 0 0) [] := ⟨[], rfl, fun i cs x h => by simp at h, by simp, .inl ⟨rfl, rfl⟩⟩
theorem OwnK.keep {fm : Bool} {w w' : World} {base lo hi : Nat} {v : Value} {l : List Tree} (h : OwnK fm w base lo hi v l) (hs : w.heap.size ≤ w'.heap.size) (hk : ∀ b, base ≤ b → b < lo → b < w.heap.size → w'.heap[b]? = w.heap[b]?) (hk2 : ∀ b, hi ≤ b → b < w.heap.size → w'.heap[b]? = w.heap[b]?) : OwnK fm w' base lo hi v l := by
 obtain ⟨css, h1, h2, h3⟩ := h.is
 refine ⟨css, h1, fun i cs t a b => (h2 i cs t a b).keep hs (fun b hb hlt => ⟨hb, hk b hb.1 hb.2 hlt⟩), h3.1, ?_⟩
 rcases h3.2 with h | ⟨g, cap, cur, rfl, r2, r3, r4⟩
 · exact .inl h
 · exact .inr ⟨g, cap, cur, rfl, r2, (hk2 g r2 (lHp r3)).trans r3, r4⟩
theorem OwnK.own {fm : Bool} {w : World} {base lo hi : Nat} {v : Value} {l : List Tree} (h : OwnK fm w base lo hi v l) : ∀ b, v.ownBlock = some b → hi ≤ b ∧ b < w.heap.size := by
 obtain ⟨css, h1, h2, h3⟩ := h.is
 rcases h3.2 with ⟨hv, h0⟩ | ⟨g, cap, cur, rfl, r2, r3, r4⟩
 · intro b hb
   rw [hv] at hb
   simp [Value.ownBlock] at hb
 · intro b hb
   simp [Value.ownBlock] at hb
   subst hb
   exact ⟨r2, lHp r3⟩
theorem OwnK.form {fm : Bool} {w : World} {base lo hi : Nat} {v : Value} {l : List Tree} (h : OwnK fm w base lo hi v l) (hne : l ≠ []) (hlh : lo ≤ hi) (hbh : base ≤ hi) : ∃ g cap, v = .slice (some ⟨g, 0, none⟩) l.length cap ∧ hi ≤ g ∧ g < w.heap.size ∧ l.length ≤ cap ∧ RdKids fm (fun b => base ≤ b ∧ b < lo) w g 0 l := by
 obtain ⟨css, h1, h2, h3⟩ := h.is
 have hl : 0 < l.length := List.length_pos_iff.2 hne
 rcases h3.2 with ⟨-, h0⟩ | ⟨g, cap, cur, rfl, r2, r3, r4, r5, r6, r7⟩
 · omega
 · refine ⟨g, cap, rfl, r2, lHp r3, r4, kids_of_row h1 h2 (fun j u hu => ?_)⟩
   rw [Nat.zero_add]
   refine cOb r3 ?_
   rw [← r7, List.getElem?_take] at hu
   split at hu
   · rw [← Array.getElem?_toList]; exact hu
   · cases hu
theorem wpList_kid_f {ops : Array Oper} {rest : List Oper} {o : Oper} {a : Act} {w : World} {Q : Exit → Act → World → Prop} (hgd : o.guard = none) (s x : Operand) (hop : o.op = Op.call { callee := Callee.builtin Builtin.append, args := #[s, x], argTypes := #[22, 22] })
 (base lo hi : Nat) (v : Value) (l : List Tree) (g0 : Nat) (cs : List Value) (t : Tree) (hs : a.eval s = v) (hx : a.eval x = .slice (some ⟨g0, 0, none⟩) 1 1) (hown : OwnK true w base lo hi v l) (hcs : ∀ (j : Nat) u, cs[j]? = some u → w.cell? ⟨g0, 0 + j, none⟩ = some u) (hr : RdTree true (fun b => base ≤ b ∧ b < lo) w cs t)
 (hlen : l.length + 1 ≤ 1000000) (hlh : lo ≤ hi) (hb : hi ≤ w.heap.size) (h : ∀ v' w', OwnK true w' base lo hi v' (l ++ [t]) → w.grownBy w' v.ownBlock → wpList Tryz.prog ops Q rest (a.put o.dst v') w') : wpList Tryz.prog ops Q (o :: rest) a w := by
 obtain ⟨i0, hi0, hz0, hz1, hz2⟩ := info_parts info_f
 have hov := hown.own
 obtain ⟨css, h1, h2, h3⟩ := hown.is
 have e1 : tE true = 24 := rfl
 have e2 : tsz true = 5 := rfl
 have hl := hr.len
 rw [e1, e2] at h3
 refine wpList_append_own_at _ hgd s x _ hop hi 24 i0 (.agg #[.int .i64 0, .string ⟨#[]⟩, .int .i64 0, .int .i64 0, .slice none 0 0]) 5 64 Tryz.underlying22 hi0 hz0 hz1 hz2 rfl (by decide) v l.length css.flatten hs h3 ⟨g0, 0, none⟩ 1 1 cs hx (by rw [hl, e2]) (fun j u hu => ?_) hr.one (by unfold maxLen; omega) (by omega) hb ?_
 · rw [Addr.add_lit]; exact hcs j u hu
 · intro v' w' ho hg _ hbk
   refine h v' w' ⟨css ++ [cs], by simp [h1], fun i c y p q => ?_, by rw [e1, e2]; simpa using ho⟩ hg
   have key : ∀ {c : List Value} {y : Tree}, RdTree true (fun b => base ≤ b ∧ b < lo) w c y → RdTree true (fun b => base ≤ b ∧ b < lo) w' c y := fun hy => hy.keep hg.size (fun b hb' hlt => ⟨hb', hg.block b hlt (fun e => by have := (hov b e.symm).1; omega)⟩)
   rcases Nat.lt_or_ge i css.length with hi' | hi'
   · rw [List.getElem?_append_left hi'] at p
     rw [List.getElem?_append_left (by omega)] at q
     exact key (h2 i c y p q)
   · rw [List.getElem?_append_right hi'] at p
     rw [List.getElem?_append_right (by omega), ← h1] at q
     cases hq : i - css.length with
     | zero =>
       rw [hq] at p q
       simp at p q
       subst p q
       exact key hr
     | succ n => rw [hq] at p; simp at p
theorem wpList_kid_s {ops : Array Oper} {rest : List Oper} {o : Oper} {a : Act} {w : World} {Q : Exit → Act → World → Prop} (hgd : o.guard = none) (s x : Operand) (hop : o.op = Op.call { callee := Callee.builtin Builtin.append, args := #[s, x], argTypes := #[26, 26] })
 (base lo hi : Nat) (v : Value) (l : List Tree) (g0 : Nat) (cs : List Value) (t : Tree) (hs : a.eval s = v) (hx : a.eval x = .slice (some ⟨g0, 0, none⟩) 1 1) (hown : OwnK false w base lo hi v l) (hcs : ∀ (j : Nat) u, cs[j]? = some u → w.cell? ⟨g0, 0 + j, none⟩ = some u) (hr : RdTree false (fun b => base ≤ b ∧ b < lo) w cs t)
 (hlen : l.length + 1 ≤ 1000000) (hlh : lo ≤ hi) (hb : hi ≤ w.heap.size) (h : ∀ v' w', OwnK false w' base lo hi v' (l ++ [t]) → w.grownBy w' v.ownBlock → wpList Tryz.prog ops Q rest (a.put o.dst v') w') : wpList Tryz.prog ops Q (o :: rest) a w := by
 obtain ⟨i0, hi0, hz0, hz1, hz2⟩ := info_parts info_s
 have hov := hown.own
 obtain ⟨css, h1, h2, h3⟩ := hown.is
 have e1 : tE false = 28 := rfl
 have e2 : tsz false = 4 := rfl
 have hl := hr.len
 rw [e1, e2] at h3
 refine wpList_append_own_at _ hgd s x _ hop hi 28 i0 (.agg #[.int .i64 0, .string ⟨#[]⟩, .int .i64 0, .slice none 0 0]) 4 56 Tryz.underlying26 hi0 hz0 hz1 hz2 rfl (by decide) v l.length css.flatten hs h3 ⟨g0, 0, none⟩ 1 1 cs hx (by rw [hl, e2]) (fun j u hu => ?_) hr.one (by unfold maxLen; omega) (by omega) hb ?_
 · rw [Addr.add_lit]; exact hcs j u hu
 · intro v' w' ho hg _ hbk
   refine h v' w' ⟨css ++ [cs], by simp [h1], fun i c y p q => ?_, by rw [e1, e2]; simpa using ho⟩ hg
   have key : ∀ {c : List Value} {y : Tree}, RdTree false (fun b => base ≤ b ∧ b < lo) w c y → RdTree false (fun b => base ≤ b ∧ b < lo) w' c y := fun hy => hy.keep hg.size (fun b hb' hlt => ⟨hb', hg.block b hlt (fun e => by have := (hov b e.symm).1; omega)⟩)
   rcases Nat.lt_or_ge i css.length with hi' | hi'
   · rw [List.getElem?_append_left hi'] at p
     rw [List.getElem?_append_left (by omega)] at q
     exact key (h2 i c y p q)
   · rw [List.getElem?_append_right hi'] at p
     rw [List.getElem?_append_right (by omega), ← h1] at q
     cases hq : i - css.length with
     | zero =>
       rw [hq] at p q
       simp at p q
       subst p q
       exact key hr
     | succ n => rw [hq] at p; simp at p
theorem step_comb_f {ops : Array Oper} {o : Oper} {a : Act} {W : World} {K : Act → World → Prop} {Q : Exit → Act → World → Prop} {E : Prop} (hg : o.guard = none) (s x : Operand) (hop : o.op = Op.call { callee := Callee.builtin Builtin.append, args := #[s, x], argTypes := #[179, 179] })
 (w0 : World) (hh : W.heap = w0.heap) (base g n cap : Nat) (st : Stack) (hown : OwnE true w0 base (.slice (some ⟨g, 0, none⟩) st.length cap) st) (hn : n ≤ st.length) (g0 : Nat) (cs : List Value) (y : Tree × Nat) (hs : a.eval s = .slice (some ⟨g, 0, none⟩) n n) (hx : a.eval x = .slice (some ⟨g0, 0, none⟩) 1 1)
 (hcs : ∀ (j : Nat) u, cs[j]? = some u → w0.cell? ⟨g0, 0 + j, none⟩ = some u) (hr : RdE true (fun b => base ≤ b) w0 cs y) (hlen : n + 1 ≤ 1000000) (hb : base ≤ w0.heap.size)
 (hK : ∀ v' w', OwnE true w' base v' (st.take n ++ [y]) → W.grownBy w' none → K (a.put o.dst v') w') : if Region.wanted o (yielded ops a.tmps) = true then Oper.wp Tryz.prog o a W K Q else E := by
 obtain ⟨i0, hi0, hz0, hz1, hz2⟩ := info_parts info_ef
 obtain ⟨css, h1, h2, h3⟩ := (hown.of_heap hh).is
 have hr' : RdE true (fun b => base ≤ b) W cs y := hr.keep (by rw [hh]; exact lR _) (fun b hb _ => ⟨hb, by rw [hh]⟩)
 have e1 : eE true = 223 := rfl
 have e2 : esz true = 6 := rfl
 have hl := hr'.len
 have hlens : ∀ (i : Nat) (c : List Value), css[i]? = some c → c.length = 6 := fun i c hi => by
  obtain ⟨x', hx'⟩ : ∃ x', st[i]? = some x' := ⟨st[i]'(by have := (List.getElem?_eq_some_iff.1 hi).1; omega), List.getElem?_eq_getElem _⟩
  exact (h2 i c x' hi hx').len
 have hfl : ((css.take n).flatten).length = n * 6 := flat_len (n := 6) (fun i c hi => hlens i c (by rw [List.getElem?_take] at hi; split at hi; exact hi; cases hi)) (by simp; omega)
 have hpre : ∀ (j : Nat) u, (css.take n).flatten[j]? = some u → css.flatten[j]? = some u := fun j u hu => flat_take hu
 rw [e1, e2] at h3
 refine step_append_grows hg s x 179 hop 223 i0 (.agg #[.int .i64 0, .string ⟨#[]⟩, .int .i64 0, .int .i64 0, .slice none 0 0, .int .i64 0]) 6 72 Tryz.underlying179 hi0 hz0 hz1 hz2 rfl (by decide) (some ⟨g, 0, none⟩) n n (css.take n).flatten hs (fun h => by cases h) hfl (fun b hb j u hu => ?_) ⟨g0, 0, none⟩ 1 1 cs hx (by rw [hl, e2]) (fun j u hu => by rw [Addr.add_lit]; exact (cOh (by rw [hh]) _).trans (hcs j u hu)) hr'.one (Nat.lt_succ_self _) (by unfold maxLen; omega) (by omega) ?_
 · cases hb
   have hf := hpre j u hu
   rcases h3.2 with ⟨hv, -⟩ | ⟨g', cap', cur, hv, r2, r3, r4, r5, r6, r7⟩
   · cases hv
   · cases hv
     rw [Addr.add_lit, Nat.zero_add]
     refine cOb r3 ?_
     rw [← r7, List.getElem?_take] at hf
     split at hf
     · rw [← Array.getElem?_toList]; exact hf
     · cases hf
 · intro v' w' ho hgr
   refine hK v' w' ⟨css.take n ++ [cs], by simp; omega, fun i c z p q => ?_, ?_⟩ hgr
   · have key : ∀ {c : List Value} {z : Tree × Nat}, RdE true (fun b => base ≤ b) W c z → RdE true (fun b => base ≤ b ∧ v'.ownBlock ≠ some b) w' c z := fun hz => hz.keep hgr.size (fun b hb' hlt => ⟨⟨hb', fun e => by
       rcases ho.2 with ⟨hv, -⟩ | ⟨g', cap', cur, hv, r2, -⟩
       · rw [hv] at e; cases e
       · have e' : g' = b := by rw [hv] at e; simpa [Value.ownBlock] using e
         omega⟩, hgr.block b hlt (fun e => by cases e)⟩)
     rcases Nat.lt_or_ge i (css.take n).length with hi' | hi'
     · rw [List.getElem?_append_left hi'] at p
       rw [List.getElem?_append_left (by simp at hi' ⊢; omega)] at q
       rw [List.getElem?_take] at p q
       split at p
       · rename_i hin
         rw [if_pos hin] at q
         exact key ((h2 i c z p q).keep (lR _) (fun b hb _ => ⟨hb.1, rfl⟩))
       · cases p
     · rw [List.getElem?_append_right hi'] at p
       rw [List.getElem?_append_right (by simp at hi' ⊢; omega)] at q
       have e3 : (css.take n).length = n := by simp; omega
       have e4 : (st.take n).length = n := by simp; omega
       rw [e3] at p
       rw [e4] at q
       cases hq : i - n with
       | zero =>
         rw [hq] at p q
         simp at p q
         subst p q
         exact key hr'
       | succ m => rw [hq] at p; simp at p
   · have e4 : (st.take n ++ [y]).length = n + 1 := by simp; omega
     rw [e1, e2, e4]
     refine ⟨by simpa using ho.1, ?_⟩
     rcases ho.2 with h | ⟨g', cap', cur, hv, r2, r3⟩
     · exact .inl h
     · exact .inr ⟨g', cap', cur, hv, by rw [hh] at r2; omega, by simpa using r3⟩
theorem step_comb_s {ops : Array Oper} {o : Oper} {a : Act} {W : World} {K : Act → World → Prop} {Q : Exit → Act → World → Prop} {E : Prop} (hg : o.guard = none) (s x : Operand) (hop : o.op = Op.call { callee := Callee.builtin Builtin.append, args := #[s, x], argTypes := #[187, 187] })
 (w0 : World) (hh : W.heap = w0.heap) (base g n cap : Nat) (st : Stack) (hown : OwnE false w0 base (.slice (some ⟨g, 0, none⟩) st.length cap) st) (hn : n ≤ st.length) (g0 : Nat) (cs : List Value) (y : Tree × Nat) (hs : a.eval s = .slice (some ⟨g, 0, none⟩) n n) (hx : a.eval x = .slice (some ⟨g0, 0, none⟩) 1 1)
 (hcs : ∀ (j : Nat) u, cs[j]? = some u → w0.cell? ⟨g0, 0 + j, none⟩ = some u) (hr : RdE false (fun b => base ≤ b) w0 cs y) (hlen : n + 1 ≤ 1000000) (hb : base ≤ w0.heap.size)
 (hK : ∀ v' w', OwnE false w' base v' (st.take n ++ [y]) → W.grownBy w' none → K (a.put o.dst v') w') : if Region.wanted o (yielded ops a.tmps) = true then Oper.wp Tryz.prog o a W K Q else E := by
 obtain ⟨i0, hi0, hz0, hz1, hz2⟩ := info_parts info_es
 obtain ⟨css, h1, h2, h3⟩ := (hown.of_heap hh).is
 have hr' : RdE false (fun b => base ≤ b) W cs y := hr.keep (by rw [hh]; exact lR _) (fun b hb _ => ⟨hb, by rw [hh]⟩)
 have e1 : eE false = 225 := rfl
 have e2 : esz false = 5 := rfl
 have hl := hr'.len
 have hlens : ∀ (i : Nat) (c : List Value), css[i]? = some c → c.length = 5 := fun i c hi => by
  obtain ⟨x', hx'⟩ : ∃ x', st[i]? = some x' := ⟨st[i]'(by have := (List.getElem?_eq_some_iff.1 hi).1; omega), List.getElem?_eq_getElem _⟩
  exact (h2 i c x' hi hx').len
 have hfl : ((css.take n).flatten).length = n * 5 := flat_len (n := 5) (fun i c hi => hlens i c (by rw [List.getElem?_take] at hi; split at hi; exact hi; cases hi)) (by simp; omega)
 have hpre : ∀ (j : Nat) u, (css.take n).flatten[j]? = some u → css.flatten[j]? = some u := fun j u hu => flat_take hu
 rw [e1, e2] at h3
 refine step_append_grows hg s x 187 hop 225 i0 (.agg #[.int .i64 0, .string ⟨#[]⟩, .int .i64 0, .slice none 0 0, .int .i64 0]) 5 64 Tryz.underlying187 hi0 hz0 hz1 hz2 rfl (by decide) (some ⟨g, 0, none⟩) n n (css.take n).flatten hs (fun h => by cases h) hfl (fun b hb j u hu => ?_) ⟨g0, 0, none⟩ 1 1 cs hx (by rw [hl, e2]) (fun j u hu => by rw [Addr.add_lit]; exact (cOh (by rw [hh]) _).trans (hcs j u hu)) hr'.one (Nat.lt_succ_self _) (by unfold maxLen; omega) (by omega) ?_
 · cases hb
   have hf := hpre j u hu
   rcases h3.2 with ⟨hv, -⟩ | ⟨g', cap', cur, hv, r2, r3, r4, r5, r6, r7⟩
   · cases hv
   · cases hv
     rw [Addr.add_lit, Nat.zero_add]
     refine cOb r3 ?_
     rw [← r7, List.getElem?_take] at hf
     split at hf
     · rw [← Array.getElem?_toList]; exact hf
     · cases hf
 · intro v' w' ho hgr
   refine hK v' w' ⟨css.take n ++ [cs], by simp; omega, fun i c z p q => ?_, ?_⟩ hgr
   · have key : ∀ {c : List Value} {z : Tree × Nat}, RdE false (fun b => base ≤ b) W c z → RdE false (fun b => base ≤ b ∧ v'.ownBlock ≠ some b) w' c z := fun hz => hz.keep hgr.size (fun b hb' hlt => ⟨⟨hb', fun e => by
       rcases ho.2 with ⟨hv, -⟩ | ⟨g', cap', cur, hv, r2, -⟩
       · rw [hv] at e; cases e
       · have e' : g' = b := by rw [hv] at e; simpa [Value.ownBlock] using e
         omega⟩, hgr.block b hlt (fun e => by cases e)⟩)
     rcases Nat.lt_or_ge i (css.take n).length with hi' | hi'
     · rw [List.getElem?_append_left hi'] at p
       rw [List.getElem?_append_left (by simp at hi' ⊢; omega)] at q
       rw [List.getElem?_take] at p q
       split at p
       · rename_i hin
         rw [if_pos hin] at q
         exact key ((h2 i c z p q).keep (lR _) (fun b hb _ => ⟨hb.1, rfl⟩))
       · cases p
     · rw [List.getElem?_append_right hi'] at p
       rw [List.getElem?_append_right (by simp at hi' ⊢; omega)] at q
       have e3 : (css.take n).length = n := by simp; omega
       have e4 : (st.take n).length = n := by simp; omega
       rw [e3] at p
       rw [e4] at q
       cases hq : i - n with
       | zero =>
         rw [hq] at p q
         simp at p q
         subst p q
         exact key hr'
       | succ m => rw [hq] at p; simp at p
   · have e4 : (st.take n ++ [y]).length = n + 1 := by simp; omega
     rw [e1, e2, e4]
     refine ⟨by simpa using ho.1, ?_⟩
     rcases ho.2 with h | ⟨g', cap', cur, hv, r2, r3⟩
     · exact .inl h
     · exact .inr ⟨g', cap', cur, hv, by rw [hh] at r2; omega, by simpa using r3⟩
end So
end Go.Proofs.YtbicmjmcdnkjhaaGreatDoor
