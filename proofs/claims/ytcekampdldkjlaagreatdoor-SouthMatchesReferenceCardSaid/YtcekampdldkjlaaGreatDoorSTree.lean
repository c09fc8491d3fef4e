/- Conditions in memory; rows of them that a call owns. -/
import Derived.Test.YtcekampdldkjlaaGreatDoorSIs
import Derived.Laws.AppendOwn
import Derived.Maps.AppendAt
import Derived.OwnWalk
set_option linter.unusedVariables false
set_option linter.unusedSimpArgs false
namespace Go.Proofs.YtcekampdldkjlaaGreatDoor
open Go.RowKit
def tsz (fm : Bool) : Nat := if fm then 5 else 4
def tcs (fm : Bool) (op : Nat) (name : List UInt8) (cmp n : Nat) (s : Value) : List Value :=
  match fm with
  | true => [.int .i64 op, vs name, .int .i64 cmp, .int .i64 n, s]
  | false => [.int .i64 op, vs name, .int .i64 n, s]
mutual
def RdTree (fm : Bool) (S : Nat → Prop) (w : World) (cs : List Value) : Tree → Prop
  | .mk op name cmp n ks => ∃ A cap, cs = tcs fm op name cmp n (.slice A ks.length cap) ∧ ks.length ≤ cap ∧ (ks = [] ∨ ∃ b o, A = some ⟨b, o, none⟩ ∧ S b ∧ b < w.heap.size ∧ RdKids fm S w b o ks)
def RdKids (fm : Bool) (S : Nat → Prop) (w : World) (b : Nat) (o : Nat) : List Tree → Prop
  | [] => True
  | t :: r => (∃ cs, (∀ j v, cs[j]? = some v → w.cell? ⟨b, o + j, none⟩ = some v) ∧ RdTree fm S w cs t) ∧ RdKids fm S w b (o + tsz fm) r
end
mutual
theorem RdTree.keep {fm : Bool} {S S' : Nat → Prop} {w w' : World} (hs : w.heap.size ≤ w'.heap.size) (hk : ∀ b, S b → b < w.heap.size → S' b ∧ w'.heap[b]? = w.heap[b]?) : ∀ {cs : List Value} {t : Tree}, RdTree fm S w cs t → RdTree fm S' w' cs t
  | cs, .mk op name cmp n ks, h => by
    obtain ⟨A, cap, h1, h2, h3⟩ := h
    refine ⟨A, cap, h1, h2, ?_⟩
    rcases h3 with h3 | ⟨b, o, hA, hS, hb, h3⟩
    · exact .inl h3
    · exact .inr ⟨b, o, hA, (hk b hS hb).1, Nat.lt_of_lt_of_le hb hs, RdKids.keep hs hk (hk b hS hb).2 h3⟩
theorem RdKids.keep {fm : Bool} {S S' : Nat → Prop} {w w' : World} (hs : w.heap.size ≤ w'.heap.size) (hk : ∀ b, S b → b < w.heap.size → S' b ∧ w'.heap[b]? = w.heap[b]?) {b : Nat} (hb : w'.heap[b]? = w.heap[b]?) : ∀ {o : Nat} {ks : List Tree}, RdKids fm S w b o ks → RdKids fm S' w' b o ks
  | o, [], h => trivial
  | o, t :: r, h => by
    obtain ⟨⟨cs, h1, h2⟩, h3⟩ := h
    exact ⟨⟨cs, fun j v hv => (cell_of_heap hb _).trans (h1 j v hv), RdTree.keep hs hk h2⟩, RdKids.keep hs hk hb h3⟩
end
theorem RdTree.eff {fm : Bool} {base p : Nat} {w w' : World} (he : Eff p w w') (hp : p < base) {cs : List Value} {t : Tree} (h : RdTree fm (fun b => base ≤ b) w cs t) : RdTree fm (fun b => base ≤ b) w' cs t :=
  h.keep he.size (fun b hb hlt => ⟨hb, he.block b hlt (by omega)⟩)
theorem RdTree.len {fm : Bool} {S : Nat → Prop} {w : World} {cs : List Value} {t : Tree} (h : RdTree fm S w cs t) : cs.length = tsz fm := by
  cases t with
  | mk op name cmp n ks =>
    obtain ⟨A, cap, rfl, _⟩ := h
    cases fm <;> rfl
theorem RdTree.one {fm : Bool} {S : Nat → Prop} {w : World} {cs : List Value} {t : Tree} (h : RdTree fm S w cs t) : ∀ u ∈ cs, u.oneCell' = true := by
  cases t with
  | mk op name cmp n ks =>
    obtain ⟨A, cap, rfl, _⟩ := h
    intro u hu
    cases fm <;> simp [tcs] at hu
    · rcases hu with rfl | rfl | rfl | rfl <;> rfl
    · rcases hu with rfl | rfl | rfl | rfl | rfl <;> rfl
theorem RdTree.leaf {fm : Bool} {S : Nat → Prop} {w : World} (op : Nat) (name : List UInt8) (cmp n : Nat) (A : Option Addr) (cap : Nat) : RdTree fm S w (tcs fm op name cmp n (.slice A 0 cap)) (.mk op name cmp n []) :=
  ⟨A, cap, rfl, Nat.zero_le _, .inl rfl⟩
/- kids that lie in a row of the call's own -/
theorem kids_of_row {fm : Bool} {S : Nat → Prop} {w : World} {b : Nat} : ∀ {l : List Tree} {css : List (List Value)} {o : Nat}, css.length = l.length → (∀ (i : Nat) (cs : List Value) (t : Tree), css[i]? = some cs → l[i]? = some t → RdTree fm S w cs t) → (∀ j v, css.flatten[j]? = some v → w.cell? ⟨b, o + j, none⟩ = some v) → RdKids fm S w b o l
  | [], css, o, _, _, _ => trivial
  | t :: r, [], o, h, _, _ => by simp at h
  | t :: r, cs :: css, o, h, hr, hc => by
    have h0 := hr 0 cs t rfl rfl
    have hl := h0.len
    refine ⟨⟨cs, fun j v hv => hc j v ?_, h0⟩, kids_of_row (css := css) (by simpa using h) (fun i c x h1 h2 => hr (i + 1) c x (by simpa using h1) (by simpa using h2)) (fun j v hv => ?_)⟩
    · rw [List.flatten_cons, List.getElem?_append_left (List.getElem?_eq_some_iff.1 hv).1]; exact hv
    · rw [Nat.add_assoc]
      refine hc (tsz fm + j) v ?_
      rw [List.flatten_cons, List.getElem?_append_right (by omega), hl, Nat.add_sub_cancel_left]; exact hv
def tE (fm : Bool) : TypeId := if fm then 25 else 29
structure OwnT (fm : Bool) (w : World) (base : Nat) (v : Value) (l : List Tree) : Prop where
  is : ∃ css : List (List Value), css.length = l.length ∧ (∀ (i : Nat) (cs : List Value) (t : Tree), css[i]? = some cs → l[i]? = some t → RdTree fm (fun b => base ≤ b ∧ v.ownBlock ≠ some b) w cs t) ∧ w.ownsRow base (tE fm) (tsz fm) v l.length css.flatten
/- where the row lies -/
theorem OwnT.form {fm : Bool} {w : World} {base : Nat} {v : Value} {l : List Tree} (h : OwnT fm w base v l) (hne : l ≠ []) : ∃ g cap, v = .slice (some ⟨g, 0, none⟩) l.length cap ∧ base ≤ g ∧ g < w.heap.size ∧ l.length ≤ cap ∧ RdKids fm (fun b => base ≤ b) w g 0 l := by
  obtain ⟨css, h1, h2, h3⟩ := h.is
  have hl : 0 < l.length := List.length_pos_iff.2 hne
  rcases h3.2 with ⟨-, h0⟩ | ⟨g, cap, cur, rfl, r2, r3, r4, r5, r6, r7⟩
  · omega
  · refine ⟨g, cap, rfl, r2, lt_of_heap' r3, r4, kids_of_row h1 (fun i cs t a b => (h2 i cs t a b).keep (Nat.le_refl _) (fun b hb _ => ⟨hb.1, rfl⟩)) (fun j u hu => ?_)⟩
    rw [Nat.zero_add]
    refine cell_of_blk r3 ?_
    rw [← r7, List.getElem?_take] at hu
    split at hu
    · rw [← Array.getElem?_toList]; exact hu
    · cases hu
theorem OwnT.keep {fm : Bool} {w w' : World} {base : Nat} {v : Value} {l : List Tree} (h : OwnT fm w base v l) (hs : w.heap.size ≤ w'.heap.size) (hk : ∀ b, base ≤ b → b < w.heap.size → w'.heap[b]? = w.heap[b]?) : OwnT fm w' base v l := by
  obtain ⟨css, h1, h2, h3⟩ := h.is
  refine ⟨css, h1, fun i cs t a b => (h2 i cs t a b).keep hs (fun b hb hlt => ⟨hb, hk b hb.1 hlt⟩), h3.1, ?_⟩
  rcases h3.2 with h | ⟨g, cap, cur, rfl, r2, r3, r4⟩
  · exact .inl h
  · exact .inr ⟨g, cap, cur, rfl, r2, (hk g r2 (lt_of_heap' r3)).trans r3, r4⟩
theorem OwnT.eff {fm : Bool} {p : Nat} {w w' : World} {base : Nat} {v : Value} {l : List Tree} (h : OwnT fm w base v l) (he : Eff p w w') (hp : p < base) : OwnT fm w' base v l :=
  h.keep he.size (fun b hb hlt => he.block b hlt (by omega))
/- a row of one -/
theorem OwnT.one {fm : Bool} {w : World} {base : Nat} {cs : List Value} {t : Tree} (hb : base ≤ w.heap.size) (h : RdTree fm (fun b => base ≤ b) w cs t) : OwnT fm (w.alloc (.cells cs.toArray (tE fm))) base (.slice (some ⟨w.heap.size, 0, none⟩) 1 1) [t] := by
  refine ⟨[cs], rfl, fun i c x h1 h2 => ?_, ?_, .inr ⟨w.heap.size, 1, cs.toArray, rfl, hb, heap_alloc_new w _, by simp, by decide, by simp [h.len], ?_⟩⟩
  · cases i with
    | zero =>
      simp at h1 h2
      subst h1 h2
      refine h.keep (by simp) (fun b hb hlt => ⟨⟨hb, ?_⟩, Below.heap_alloc _ _ _ hlt⟩)
      intro e
      simp [Value.ownBlock] at e
      omega
    | succ i => simp at h1
  · simp [h.len]
  · rw [List.length_singleton, Nat.one_mul, ← h.len]; simp
/- one more -/
theorem OwnT.snoc {fm : Bool} {w w' : World} {base : Nat} {v v' : Value} {l : List Tree} {cs : List Value} {t : Tree} {css : List (List Value)} (h1 : css.length = l.length)
    (h2 : ∀ (i : Nat) (cs : List Value) (t : Tree), css[i]? = some cs → l[i]? = some t → RdTree fm (fun b => base ≤ b ∧ v.ownBlock ≠ some b) w cs t) (hr : RdTree fm (fun b => base ≤ b ∧ v.ownBlock ≠ some b) w cs t)
    (hv : w'.ownsRow base (tE fm) (tsz fm) v' (l.length + 1) (css.flatten ++ cs)) (hg : w.grownBy w' v.ownBlock) (hb : v'.ownBlock = v.ownBlock ∨ v'.ownBlock = some w.heap.size) : OwnT fm w' base v' (l ++ [t]) := by
  have key : ∀ {c : List Value} {x : Tree}, RdTree fm (fun b => base ≤ b ∧ v.ownBlock ≠ some b) w c x → RdTree fm (fun b => base ≤ b ∧ v'.ownBlock ≠ some b) w' c x := fun hx =>
    hx.keep hg.size (fun b hb' hlt => ⟨⟨hb'.1, by rcases hb with e | e <;> rw [e]; exact hb'.2; intro e2; injection e2 with e2; omega⟩, hg.block b hlt (fun e => hb'.2 e.symm)⟩)
  refine ⟨css ++ [cs], by simp [h1], fun i c x a b => ?_, ?_⟩
  · rcases Nat.lt_or_ge i css.length with hi | hi
    · rw [List.getElem?_append_left hi] at a
      rw [List.getElem?_append_left (by omega)] at b
      exact key (h2 i c x a b)
    · rw [List.getElem?_append_right hi] at a
      rw [List.getElem?_append_right (by omega), ← h1] at b
      cases hq : i - css.length with
      | zero =>
        rw [hq] at a b
        simp at a b
        subst a b
        exact key hr
      | succ n => rw [hq] at a; simp at a
  · simpa using hv
theorem Eff.grown {p : Nat} {a w w' : World} {row : Option Nat} (h : Eff p a w) (hg : w.grownBy w' row) (hr : ∀ k, row = some k → a.heap.size ≤ k) : Eff p a w' :=
  ⟨hg.os.trans h.os, hg.tape.trans h.tape, hg.output.trans h.output, Nat.le_trans h.size hg.size, fun i hi hn => (hg.block i (Nat.lt_of_lt_of_le hi h.size) (fun e => by have := hr i e.symm; omega)).trans (h.block i hi hn)⟩
theorem PS.grown {w w' : World} {p fin : Nat} {ts l : List Tok} {row : Option Nat} (h : PS w p fin ts l) (hg : w.grownBy w' row) (hr : ∀ k, row = some k → p < k) : PS w' p fin ts l :=
  h.keep hg.size (fun b hb => hg.block b (Nat.lt_of_le_of_lt hb h.lt) (fun e => by have := hr b e.symm; omega))
theorem info_f : (Tryz.prog.info? 25).map (fun i => (i.zero, i.size, i.bytes)) = some (some (.agg #[.int .i64 0, .string ⟨#[]⟩, .int .i64 0, .int .i64 0, .slice none 0 0]), 5, 64) := by kernel_rfl
theorem wpList_append_f {ops : Array Oper} {rest : List Oper} {o : Oper} {a : Act} {w : World} {Q : Exit → Act → World → Prop} (hgd : o.guard = none) (s x : Operand) (hop : o.op = Op.call { callee := Callee.builtin Builtin.append, args := #[s, x], argTypes := #[23, 23] })
    (base : Nat) (v : Value) (l : List Tree) (g0 : Nat) (cs : List Value) (t : Tree) (hs : a.eval s = v) (hx : a.eval x = .slice (some ⟨g0, 0, none⟩) 1 1) (hown : OwnT true w base v l) (hcs : ∀ (j : Nat) u, cs[j]? = some u → w.cell? ⟨g0, 0 + j, none⟩ = some u) (hr : RdTree true (fun b => base ≤ b ∧ v.ownBlock ≠ some b) w cs t)
    (hlen : l.length + 1 ≤ 1000000) (hb : base ≤ w.heap.size) (h : ∀ v' w', OwnT true w' base v' (l ++ [t]) → w.grownBy w' v.ownBlock → wpList Tryz.prog ops Q rest (a.put o.dst v') w') : wpList Tryz.prog ops Q (o :: rest) a w := by
  obtain ⟨i0, hi0, hz0, hz1, hz2⟩ := info_parts info_f
  obtain ⟨css, h1, h2, h3⟩ := hown.is
  have e1 : tE true = 25 := rfl
  have e2 : tsz true = 5 := rfl
  have hl := hr.len
  rw [e1, e2] at h3
  refine wpList_append_own_at _ hgd s x _ hop base 25 i0 (.agg #[.int .i64 0, .string ⟨#[]⟩, .int .i64 0, .int .i64 0, .slice none 0 0]) 5 64 Tryz.underlying23 hi0 hz0 hz1 hz2 rfl (by decide) v l.length css.flatten hs h3 ⟨g0, 0, none⟩ 1 1 cs hx (by rw [hl, e2]) (fun j u hu => ?_) hr.one (by unfold maxLen; omega) (by omega) hb ?_
  · rw [Addr.add_lit]; exact hcs j u hu
  · intro v' w' ho hg _ hbk
    exact h v' w' (OwnT.snoc h1 h2 hr (by rw [e1, e2]; exact ho) hg hbk) hg
theorem info_s : (Tryz.prog.info? 29).map (fun i => (i.zero, i.size, i.bytes)) = some (some (.agg #[.int .i64 0, .string ⟨#[]⟩, .int .i64 0, .slice none 0 0]), 4, 56) := by kernel_rfl
theorem wpList_append_s {ops : Array Oper} {rest : List Oper} {o : Oper} {a : Act} {w : World} {Q : Exit → Act → World → Prop} (hgd : o.guard = none) (s x : Operand) (hop : o.op = Op.call { callee := Callee.builtin Builtin.append, args := #[s, x], argTypes := #[27, 27] })
    (base : Nat) (v : Value) (l : List Tree) (g0 : Nat) (cs : List Value) (t : Tree) (hs : a.eval s = v) (hx : a.eval x = .slice (some ⟨g0, 0, none⟩) 1 1) (hown : OwnT false w base v l) (hcs : ∀ (j : Nat) u, cs[j]? = some u → w.cell? ⟨g0, 0 + j, none⟩ = some u) (hr : RdTree false (fun b => base ≤ b ∧ v.ownBlock ≠ some b) w cs t)
    (hlen : l.length + 1 ≤ 1000000) (hb : base ≤ w.heap.size) (h : ∀ v' w', OwnT false w' base v' (l ++ [t]) → w.grownBy w' v.ownBlock → wpList Tryz.prog ops Q rest (a.put o.dst v') w') : wpList Tryz.prog ops Q (o :: rest) a w := by
  obtain ⟨i0, hi0, hz0, hz1, hz2⟩ := info_parts info_s
  obtain ⟨css, h1, h2, h3⟩ := hown.is
  have e1 : tE false = 29 := rfl
  have e2 : tsz false = 4 := rfl
  have hl := hr.len
  rw [e1, e2] at h3
  refine wpList_append_own_at _ hgd s x _ hop base 29 i0 (.agg #[.int .i64 0, .string ⟨#[]⟩, .int .i64 0, .slice none 0 0]) 4 56 Tryz.underlying27 hi0 hz0 hz1 hz2 rfl (by decide) v l.length css.flatten hs h3 ⟨g0, 0, none⟩ 1 1 cs hx (by rw [hl, e2]) (fun j u hu => ?_) hr.one (by unfold maxLen; omega) (by omega) hb ?_
  · rw [Addr.add_lit]; exact hcs j u hu
  · intro v' w' ho hg _ hbk
    exact h v' w' (OwnT.snoc h1 h2 hr (by rw [e1, e2]; exact ho) hg hbk) hg
theorem sizes_snoc (l : List Tree) (t : Tree) : sizes (l ++ [t]) = sizes l + t.size := by
  induction l with
  | nil => simp [sizes]
  | cons x l ih => simp only [List.cons_append, sizes, ih]; omega
theorem deeps_snoc (l : List Tree) (t : Tree) : deeps (l ++ [t]) = max (deeps l) t.deep := by
  induction l with
  | nil => simp [deeps]
  | cons x l ih => simp only [List.cons_append, deeps, ih]; omega
mutual
theorem deep_le_size : ∀ t : Tree, t.deep ≤ t.size
  | .mk op name cmp n ks => by
    have := deeps_le_sizes ks
    simp only [Tree.deep, Tree.size]
    omega
theorem deeps_le_sizes : ∀ l : List Tree, deeps l ≤ sizes l
  | [] => Nat.le_refl _
  | t :: r => by
    have := deep_le_size t
    have := deeps_le_sizes r
    simp only [deeps, sizes]
    omega
end
theorem size_pos (t : Tree) : 1 ≤ t.size := by cases t; simp [Tree.size]
theorem len_le_sizes : ∀ l : List Tree, l.length ≤ sizes l
  | [] => Nat.le_refl _
  | t :: r => by
    have := len_le_sizes r
    have := size_pos t
    simp only [sizes, List.length_cons]
    omega
theorem take_snoc {α : Type} {l : List α} {k : Nat} {x : α} (h : l[k]? = some x) : l.take (k + 1) = l.take k ++ [x] := by
  rw [List.take_add_one, h]; rfl
theorem sizes_take {l : List Tree} {k : Nat} {t : Tree} (h : l[k]? = some t) : sizes (l.take (k + 1)) = sizes (l.take k) + t.size := by rw [take_snoc h, sizes_snoc]
theorem deeps_take {l : List Tree} {k : Nat} {t : Tree} (h : l[k]? = some t) : deeps (l.take (k + 1)) = max (deeps (l.take k)) t.deep := by rw [take_snoc h, deeps_snoc]
theorem sizes_take_le (l : List Tree) (k : Nat) : sizes (l.take k) ≤ sizes l := by
  induction l generalizing k with
  | nil => simp [sizes]
  | cons x l ih =>
    cases k with
    | zero => simp [sizes]
    | succ k => simp only [List.take_succ_cons, sizes]; have := ih k; omega
theorem size_of_mem {l : List Tree} {k : Nat} {t : Tree} (h : l[k]? = some t) : t.size ≤ sizes l := by
  have := sizes_take h
  have := sizes_take_le l (k + 1)
  omega
/- a kid -/
theorem RdKids.get {fm : Bool} {S : Nat → Prop} {w : World} {b : Nat} : ∀ {ks : List Tree} {o k : Nat} {t : Tree}, RdKids fm S w b o ks → ks[k]? = some t → ∃ cs : List Value, (∀ j v, cs[j]? = some v → w.cell? ⟨b, o + k * tsz fm + j, none⟩ = some v) ∧ RdTree fm S w cs t
  | [], o, k, t, h, hk => by simp at hk
  | x :: ks, o, 0, t, h, hk => by
    simp at hk
    subst hk
    obtain ⟨⟨cs, h1, h2⟩, -⟩ := h
    exact ⟨cs, fun j v hv => by rw [Nat.zero_mul, Nat.add_zero]; exact h1 j v hv, h2⟩
  | x :: ks, o, k + 1, t, h, hk => by
    obtain ⟨cs, h1, h2⟩ := RdKids.get (k := k) h.2 (by simpa using hk)
    refine ⟨cs, fun j v hv => ?_, h2⟩
    have := h1 j v hv
    rwa [show o + (k + 1) * tsz fm + j = o + tsz fm + k * tsz fm + j by rw [Nat.add_mul]; omega]
theorem RdTree.off {fm : Bool} {base base' b : Nat} {w w' : World} {cs : List Value} {t : Tree} (h : RdTree fm (fun k => base ≤ k) w cs t) (ho : Off b w w') (hb : b < base) (hb' : base' ≤ base) : RdTree fm (fun k => base' ≤ k) w' cs t :=
  h.keep (Nat.le_of_eq ho.size.symm) (fun k hk _ => ⟨by omega, ho.block k (by omega)⟩)
theorem OwnT.own {fm : Bool} {w : World} {base : Nat} {v : Value} {l : List Tree} (h : OwnT fm w base v l) (hne : l ≠ []) : ∀ b, v.ownBlock = some b → base ≤ b ∧ b < w.heap.size := by
  obtain ⟨g, cap, rfl, h1, h2, -⟩ := h.form hne
  intro b hb
  simp [Value.ownBlock] at hb
  subst hb
  exact ⟨h1, h2⟩
end Go.Proofs.YtcekampdldkjlaaGreatDoor
