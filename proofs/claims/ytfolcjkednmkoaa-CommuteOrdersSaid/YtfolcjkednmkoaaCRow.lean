/- Whole patches stored and handed back; boxes made ahead of a call. -/
import Derived.Test.YtfolcjkednmkoaaCForm
import Derived.Test.YtfolcjkednmkoaaCRdG
import Derived.Laws.ResultCell
set_option linter.unusedVariables false
set_option linter.unusedSimpArgs false
namespace Go.Proofs.Ytfolcjkednmkoaa
open Go.RowKit
theorem size28 : (Try.prog.info? 28).map (·.size) = some 15 := by kernel_rfl
theorem patCs_one (q : Patch) : ∀ v ∈ (patCs q).toList, v.oneCell' = true := by
  intro v hv
  simp at hv
  rcases hv with rfl | rfl | rfl | rfl | rfl | rfl | rfl | rfl | rfl | rfl | rfl | rfl | rfl | rfl | rfl <;> rfl
theorem wpList_store_pat {ops : Array Oper} {rest : List Oper} {op : Oper} {a : Act} {w : World} {Q : Exit → Act → World → Prop} (hgd : op.guard = none) (x y : Operand) (ho : op.op = .store 28 x y)
    (g : Nat) (q cur : Patch) (hx : a.eval x = .pointer (some ⟨g, 0, none⟩)) (hy : a.eval y = .agg (patCs q)) (hg : w.blk g = some (.cells (patCs cur) 28 (0, 0)))
    (h : wpList Try.prog ops Q rest (a.put op.dst undef) (w.setRow g (patCs q))) : wpList Try.prog ops Q (op :: rest) a w := by
  refine wpList_store_row hgd 28 x y ho g 0 (patCs q).toList (patCs cur).toList 28 hx hy hg (by simp) size28 (patCs_one q) ?_
  simpa using h
theorem step_store_pat {ops : Array Oper} {o : Oper} {a : Act} {w : World} {K : Act → World → Prop} {Q : Exit → Act → World → Prop} {E : Prop} (hgd : o.guard = none) (x y : Operand) (ho : o.op = .store 28 x y)
    (g : Nat) (q cur : Patch) (hx : a.eval x = .pointer (some ⟨g, 0, none⟩)) (hy : a.eval y = .agg (patCs q)) (hg : w.blk g = some (.cells (patCs cur) 28 (0, 0)))
    (hK : K (a.put o.dst undef) (w.setRow g (patCs q))) : if Region.wanted o (yielded ops a.tmps) = true then Oper.wp Try.prog o a w K Q else E := by
  have hw : Region.wanted o (yielded ops a.tmps) = true := by simp [Region.wanted, hgd]
  rw [if_pos hw]
  exact wp_store_row 28 x y ho g (patCs q) hx hy 28 (patCs cur) hg size28 rfl (Array.all_eq_true'.2 fun v hv => patCs_one q v (by simpa using hv)) hK
theorem blk_setCell_at {w : World} {b k : Nat} {v : Value} {C : Array Value} {t : TypeId} {fr : Nat × Nat} (h : w.blk b = some (.cells C t fr)) : (w.setCell ⟨b, k, none⟩ v).blk b = some (.cells (C.setIfInBounds k v) t fr) := by
  unfold World.blk at h ⊢
  simp [World.setCell, Array.getElem?_modify, h]
theorem blk_setRow_at {w : World} {b : Nat} {C D : Array Value} {t : TypeId} {fr : Nat × Nat} (h : w.blk b = some (.cells C t fr)) : (w.setRow b D).blk b = some (.cells D t fr) := setRow_heap _ _ _ _ _ _ h
theorem blk_setRow_ne {w : World} {b k : Nat} {D : Array Value} (h : k ≠ b) : (w.setRow b D).blk k = w.blk k := setRow_other _ _ _ _ h
theorem blk_cell {W : World} {b o : Nat} {C : Array Value} {t : TypeId} {fr : Nat × Nat} {v : Value} (h : W.blk b = some (.cells C t fr)) (hv : C[o]? = some v) : W.cell? ⟨b, o, none⟩ = some v := (cell_of_row _ _ _ _ _ _ h).trans hv
theorem blk_frozen {W : World} {b o : Nat} {C : Array Value} {t : TypeId} (h : W.blk b = some (.cells C t (0, 0))) : W.frozen? ⟨b, o, none⟩ = false := by
  have h' : W.heap[b]? = some (.cells C t (0, 0)) := h
  simp [World.frozen?, h']
theorem load_pat {X : World} {q : Patch} {b : Nat} (hb : X.blk b = some (.cells (patCs q) 28 (0, 0))) : (loadVar 28 ⟨b, 0, none⟩).run Try.prog X = .ok q.agg X := by
  rw [loadVar_row X 28 b 0 15 Try.underlying28 rfl (by kernel_rfl), hb]
  exact rowLoad_cells _ _ _ _ _ _ _ rfl
theorem gcell {W w : World} {m : Int} (hb : Below w.heap.size w W) (h : w.cell? ⟨0, 0, none⟩ = some (.int .i64 m)) : W.cell? ⟨0, 0, none⟩ = some (.int .i64 m) := step_cell hb h
theorem bx_c {W w' : World} {b : Nat} {v : Value} {t : TypeId} (hb : Below (W.alloc (.cells #[v] t)).heap.size (W.alloc (.cells #[v] t)) w') (h : b = W.heap.size) : w'.cell? ⟨b, 0, none⟩ = some v := by
  subst h
  exact step_box hb
theorem bx_k {W w' : World} {b : Nat} {o : Obj} (hb : Below (W.alloc o).heap.size (W.alloc o) w') (h : b = W.heap.size) : w'.blk b = some o := by
  subst h
  exact (hb.block _ (by simp)).trans (blk_alloc_at rfl)
/- one after the other, from world to world -/
theorem chain2 {a b c : World} (h : Below a.heap.size a b) (k : Below b.heap.size b c) : Below a.heap.size a c := h.trans (k.mono (by have := h.size; omega))
abbrev twoCs (a b : Patch) : Array Value := #[.int .i64 a.kind, vs a.id, vs a.par, vs a.aft, vs a.num, .int .i64 a.item.kind, vs a.item.id, vs a.item.par, vs a.item.num, vs a.item.no, vs a.item.so, .bool a.item.gone, .int .i64 a.lang, vs a.fr, vs a.to, .int .i64 b.kind, vs b.id, vs b.par, vs b.aft, vs b.num, .int .i64 b.item.kind, vs b.item.id, vs b.item.par, vs b.item.num, vs b.item.no, vs b.item.so, .bool b.item.gone, .int .i64 b.lang, vs b.fr, vs b.to]
theorem RdP.lit2 (W : World) (a b : Patch) (g : Nat) (hgg : g = W.heap.size) : RdP (W.alloc (.cells (twoCs a b) 28)) (some ⟨g, 0, none⟩) [a, b] := by
  subst hgg
  rw [show twoCs a b = (a.cells ++ b.cells).toArray from rfl]
  intro _
  refine ⟨W.heap.size, 0, rfl, by simp, fun k x hx j v hv => ?_⟩
  have hn := heap_alloc_new W (.cells (a.cells ++ b.cells).toArray 28)
  rw [cell_of_row _ _ _ _ _ _ hn]
  have hj : j < 15 := by
    have := (List.getElem?_eq_some_iff.1 hv).1
    simpa using this
  match k, hx with
  | 0, hx =>
    simp at hx
    subst hx
    rw [List.getElem?_toArray, Nat.zero_mul, Nat.zero_add]
    rw [List.getElem?_append_left (by simpa using hj)]
    exact hv
  | 1, hx =>
    simp at hx
    subst hx
    rw [List.getElem?_toArray, Nat.one_mul, Nat.zero_add, List.getElem?_append_right (by simp)]
    simpa using hv
  | k + 2, hx => simp at hx
theorem all_lit {l : List Item} {ps : List Patch} {r : List Item} {i e : Int} (h : allR l ps = (r, i, e)) (A B : Option Addr) (n c d : Nat) (w : World) (hn : n = ps.length) (hr : RdI w A l) (hs : RdP w B ps) (hl : l.length ≤ 100000) (hlc : l.length ≤ c) (hsh : ∀ x ∈ l, x.Short) (hps : ps.length ≤ 1000000) (hrd : ∀ p ∈ ps, p.Ready) (m : Int) (hg : w.cell? ⟨0, 0, none⟩ = some (.int .i64 m)) :
    Calls Try.prog 12 #[.agg #[.slice A l.length c], .slice B n d] w fun en w' => ∃ A' c', en = .returned (.tuple #[.agg #[.slice A' r.length c'], .int .i64 i, .int .i64 e]) ∧ RdI w' A' r ∧ r.length ≤ c' ∧ Below w.heap.size w w' := by
  subst hn
  have := all_any l ps A B c d w hr hs hl hlc hsh hps hrd m hg
  unfold Alls at this
  rw [h] at this
  refine this.mono ?_
  rintro en w' ⟨v, rfl, ⟨A', c', rfl, hr', hlc', -⟩, hb⟩
  exact ⟨A', c', rfl, hr', hlc', hb⟩
theorem two_ready {a b : Patch} (ra : a.Ready) (rb : b.Ready) : ∀ p ∈ [a, b], p.Ready := by
  intro p hp
  simp at hp
  rcases hp with rfl | rfl <;> assumption
end Go.Proofs.Ytfolcjkednmkoaa
