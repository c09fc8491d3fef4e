/- Rows of conditions that a call owns. -/
import Derived.Test.YtpagkakplmeokaaDoorNTree
import Derived.Maps.AppendAt
import Derived.OwnWalk
set_option linter.unusedVariables false
set_option linter.unusedSimpArgs false
namespace Go.Proofs.YtpagkakplmeokaaDoor
open Go.RowKit
def tE (fm : Bool) : TypeId := if fm then 29 else 33
structure OwnT (fm : Bool) (w : World) (base : Nat) (v : Value) (l : List Tree) : Prop where
  is : ∃ css : List (List Value), css.length = l.length ∧ (∀ (i : Nat) (cs : List Value) (t : Tree), css[i]? = some cs → l[i]? = some t → RdTree fm (fun b => base ≤ b ∧ v.ownBlock ≠ some b) w cs t) ∧ w.ownsRow base (tE fm) (tsz fm) v l.length css.flatten
/- where the row lies -/
theorem OwnT.form {fm : Bool} {w : World} {base : Nat} {v : Value} {l : List Tree} (h : OwnT fm w base v l) (hne : l ≠ []) : ∃ g cap, v = .slice (some ⟨g, 0, none⟩) l.length cap ∧ base ≤ g ∧ g < w.heap.size ∧ l.length ≤ cap ∧ RdKids fm (fun b => base ≤ b) w g 0 l := by
  obtain ⟨css, h1, h2, h3⟩ := h.is
  have hl : 0 < l.length := List.length_pos_iff.2 hne
  rcases h3.2 with ⟨-, h0⟩ | ⟨g, cap, cur, rfl, r2, r3, r4, r5, r6, r7⟩
  · omega
  · refine ⟨g, cap, rfl, r2, lt_of_heap' r3, r4, kids_of_row h1 (fun i cs t a b => (h2 i cs t a b).keep (Nat.le_refl _) (fun b hb _ => ⟨hb.1, rfl⟩)) (fun j u hu => ?_)⟩
    rw [Nat.zero_add]
    refine cell_of_blk r3 ?_
    rw [← r7, List.getElem?_take] at hu
    split at hu
    · rw [← Array.getElem?_toList]; exact hu
    · cases hu
theorem OwnT.keep {fm : Bool} {w w' : World} {base : Nat} {v : Value} {l : List Tree} (h : OwnT fm w base v l) (hs : w.heap.size ≤ w'.heap.size) (hk : ∀ b, base ≤ b → b < w.heap.size → w'.heap[b]? = w.heap[b]?) : OwnT fm w' base v l := by
  obtain ⟨css, h1, h2, h3⟩ := h.is
  refine ⟨css, h1, fun i cs t a b => (h2 i cs t a b).keep hs (fun b hb hlt => ⟨hb, hk b hb.1 hlt⟩), h3.1, ?_⟩
  rcases h3.2 with h | ⟨g, cap, cur, rfl, r2, r3, r4⟩
  · exact .inl h
  · exact .inr ⟨g, cap, cur, rfl, r2, (hk g r2 (lt_of_heap' r3)).trans r3, r4⟩
theorem OwnT.eff {fm : Bool} {p : Nat} {w w' : World} {base : Nat} {v : Value} {l : List Tree} (h : OwnT fm w base v l) (he : Eff p w w') (hp : p < base) : OwnT fm w' base v l :=
  h.keep he.size (fun b hb hlt => he.block b hlt (by omega))
/- a row of one -/
theorem OwnT.one {fm : Bool} {w : World} {base : Nat} {cs : List Value} {t : Tree} (hb : base ≤ w.heap.size) (h : RdTree fm (fun b => base ≤ b) w cs t) : OwnT fm (w.alloc (.cells cs.toArray (tE fm))) base (.slice (some ⟨w.heap.size, 0, none⟩) 1 1) [t] := by
  refine ⟨[cs], rfl, fun i c x h1 h2 => ?_, ?_, .inr ⟨w.heap.size, 1, cs.toArray, rfl, hb, heap_alloc_new w _, by simp, by decide, by simp [h.len], ?_⟩⟩
  · cases i with
    | zero =>
      simp at h1 h2
      subst h1 h2
      refine h.keep (by simp) (fun b hb hlt => ⟨⟨hb, ?_⟩, Below.heap_alloc _ _ _ hlt⟩)
      intro e
      simp [Value.ownBlock] at e
      omega
    | succ i => simp at h1
  · simp [h.len]
  · rw [List.length_singleton, Nat.one_mul, ← h.len]; simp
/- one more -/
theorem OwnT.snoc {fm : Bool} {w w' : World} {base : Nat} {v v' : Value} {l : List Tree} {cs : List Value} {t : Tree} {css : List (List Value)} (h1 : css.length = l.length)
    (h2 : ∀ (i : Nat) (cs : List Value) (t : Tree), css[i]? = some cs → l[i]? = some t → RdTree fm (fun b => base ≤ b ∧ v.ownBlock ≠ some b) w cs t) (hr : RdTree fm (fun b => base ≤ b ∧ v.ownBlock ≠ some b) w cs t)
    (hv : w'.ownsRow base (tE fm) (tsz fm) v' (l.length + 1) (css.flatten ++ cs)) (hg : w.grownBy w' v.ownBlock) (hb : v'.ownBlock = v.ownBlock ∨ v'.ownBlock = some w.heap.size) : OwnT fm w' base v' (l ++ [t]) := by
  have key : ∀ {c : List Value} {x : Tree}, RdTree fm (fun b => base ≤ b ∧ v.ownBlock ≠ some b) w c x → RdTree fm (fun b => base ≤ b ∧ v'.ownBlock ≠ some b) w' c x := fun hx =>
    hx.keep hg.size (fun b hb' hlt => ⟨⟨hb'.1, by rcases hb with e | e <;> rw [e]; exact hb'.2; intro e2; injection e2 with e2; omega⟩, hg.block b hlt (fun e => hb'.2 e.symm)⟩)
  refine ⟨css ++ [cs], by simp [h1], fun i c x a b => ?_, ?_⟩
  · rcases Nat.lt_or_ge i css.length with hi | hi
    · rw [List.getElem?_append_left hi] at a
      rw [List.getElem?_append_left (by omega)] at b
      exact key (h2 i c x a b)
    · rw [List.getElem?_append_right hi] at a
      rw [List.getElem?_append_right (by omega), ← h1] at b
      cases hq : i - css.length with
      | zero =>
        rw [hq] at a b
        simp at a b
        subst a b
        exact key hr
      | succ n => rw [hq] at a; simp at a
  · simpa using hv
theorem Eff.grown {p : Nat} {a w w' : World} {row : Option Nat} (h : Eff p a w) (hg : w.grownBy w' row) (hr : ∀ k, row = some k → a.heap.size ≤ k) : Eff p a w' :=
  ⟨hg.os.trans h.os, hg.tape.trans h.tape, hg.output.trans h.output, Nat.le_trans h.size hg.size, fun i hi hn => (hg.block i (Nat.lt_of_lt_of_le hi h.size) (fun e => by have := hr i e.symm; omega)).trans (h.block i hi hn)⟩
theorem PS.grown {w w' : World} {p fin : Nat} {l : List Tok} {row : Option Nat} (h : PS w p fin l) (hg : w.grownBy w' row) (hr : ∀ k, row = some k → p < k) : PS w' p fin l :=
  h.keep hg.size (fun b hb => hg.block b (Nat.lt_of_le_of_lt hb h.lt) (fun e => by have := hr b e.symm; omega))
theorem info_f : (Tryd.prog.info? 29).map (fun i => (i.zero, i.size, i.bytes)) = some (some (.agg #[.int .i64 0, .string ⟨#[]⟩, .int .i64 0, .int .i64 0, .slice none 0 0]), 5, 64) := by kernel_rfl
theorem wpList_append_f {ops : Array Oper} {rest : List Oper} {o : Oper} {a : Act} {w : World} {Q : Exit → Act → World → Prop} (hgd : o.guard = none) (s x : Operand) (hop : o.op = Op.call { callee := Callee.builtin Builtin.append, args := #[s, x], argTypes := #[27, 27] })
    (base : Nat) (v : Value) (l : List Tree) (g0 : Nat) (cs : List Value) (t : Tree) (hs : a.eval s = v) (hx : a.eval x = .slice (some ⟨g0, 0, none⟩) 1 1) (hown : OwnT true w base v l) (hcs : ∀ (j : Nat) u, cs[j]? = some u → w.cell? ⟨g0, 0 + j, none⟩ = some u) (hr : RdTree true (fun b => base ≤ b ∧ v.ownBlock ≠ some b) w cs t)
    (hlen : l.length + 1 ≤ 1000000) (hb : base ≤ w.heap.size) (h : ∀ v' w', OwnT true w' base v' (l ++ [t]) → w.grownBy w' v.ownBlock → wpList Tryd.prog ops Q rest (a.put o.dst v') w') : wpList Tryd.prog ops Q (o :: rest) a w := by
  obtain ⟨i0, hi0, hz0, hz1, hz2⟩ := info_parts info_f
  obtain ⟨css, h1, h2, h3⟩ := hown.is
  have e1 : tE true = 29 := rfl
  have e2 : tsz true = 5 := rfl
  have hl := hr.len
  rw [e1, e2] at h3
  refine wpList_append_own_at _ hgd s x _ hop base 29 i0 (.agg #[.int .i64 0, .string ⟨#[]⟩, .int .i64 0, .int .i64 0, .slice none 0 0]) 5 64 Tryd.underlying27 hi0 hz0 hz1 hz2 rfl (by decide) v l.length css.flatten hs h3 ⟨g0, 0, none⟩ 1 1 cs hx (by rw [hl, e2]) (fun j u hu => ?_) hr.one (by unfold maxLen; omega) (by omega) hb ?_
  · rw [Addr.add_lit]; exact hcs j u hu
  · intro v' w' ho hg _ hbk
    exact h v' w' (OwnT.snoc h1 h2 hr (by rw [e1, e2]; exact ho) hg hbk) hg
theorem info_s : (Tryd.prog.info? 33).map (fun i => (i.zero, i.size, i.bytes)) = some (some (.agg #[.int .i64 0, .string ⟨#[]⟩, .int .i64 0, .slice none 0 0]), 4, 56) := by kernel_rfl
theorem wpList_append_s {ops : Array Oper} {rest : List Oper} {o : Oper} {a : Act} {w : World} {Q : Exit → Act → World → Prop} (hgd : o.guard = none) (s x : Operand) (hop : o.op = Op.call { callee := Callee.builtin Builtin.append, args := #[s, x], argTypes := #[31, 31] })
    (base : Nat) (v : Value) (l : List Tree) (g0 : Nat) (cs : List Value) (t : Tree) (hs : a.eval s = v) (hx : a.eval x = .slice (some ⟨g0, 0, none⟩) 1 1) (hown : OwnT false w base v l) (hcs : ∀ (j : Nat) u, cs[j]? = some u → w.cell? ⟨g0, 0 + j, none⟩ = some u) (hr : RdTree false (fun b => base ≤ b ∧ v.ownBlock ≠ some b) w cs t)
    (hlen : l.length + 1 ≤ 1000000) (hb : base ≤ w.heap.size) (h : ∀ v' w', OwnT false w' base v' (l ++ [t]) → w.grownBy w' v.ownBlock → wpList Tryd.prog ops Q rest (a.put o.dst v') w') : wpList Tryd.prog ops Q (o :: rest) a w := by
  obtain ⟨i0, hi0, hz0, hz1, hz2⟩ := info_parts info_s
  obtain ⟨css, h1, h2, h3⟩ := hown.is
  have e1 : tE false = 33 := rfl
  have e2 : tsz false = 4 := rfl
  have hl := hr.len
  rw [e1, e2] at h3
  refine wpList_append_own_at _ hgd s x _ hop base 33 i0 (.agg #[.int .i64 0, .string ⟨#[]⟩, .int .i64 0, .slice none 0 0]) 4 56 Tryd.underlying31 hi0 hz0 hz1 hz2 rfl (by decide) v l.length css.flatten hs h3 ⟨g0, 0, none⟩ 1 1 cs hx (by rw [hl, e2]) (fun j u hu => ?_) hr.one (by unfold maxLen; omega) (by omega) hb ?_
  · rw [Addr.add_lit]; exact hcs j u hu
  · intro v' w' ho hg _ hbk
    exact h v' w' (OwnT.snoc h1 h2 hr (by rw [e1, e2]; exact ho) hg hbk) hg
end Go.Proofs.YtpagkakplmeokaaDoor
