/- PrinterRefuses: the list of provisions that it makes, in memory. -/
import Derived.Test.YtbicmjmcdnkjhaaGreatDoorJP15
import Derived.Test.YtbicmjmcdnkjhaaGreatDoorJP22
import Derived.Test.YtbicmjmcdnkjhaaGreatDoorJP11
import Derived.Test.YtbicmjmcdnkjhaaGreatDoorJP39
import Derived.Laws.CopyOwn
import Derived.Laws.Tables
set_option linter.unusedVariables false
set_option linter.unusedSimpArgs false
namespace Go.Proofs.YtbicmjmcdnkjhaaGreatDoor
open Go.RowKit
theorem info_pv : (Tryz.prog.info? 30).map (fun i => (i.zero, i.size, i.bytes)) = some (some (.agg #[.string ⟨#[]⟩, .int .i64 0, .int .i64 0, .string ⟨#[]⟩, .int .i64 0, .int .i64 0, .string ⟨#[]⟩, .int .i64 0, .int .i64 0, .slice none 0 0, .slice none 0 0, .int .i64 0, .string ⟨#[]⟩, .int .i64 0, .slice none 0 0, .int .i64 0, .string ⟨#[]⟩, .int .i64 0, .slice none 0 0, .int .i64 0, .string ⟨#[]⟩, .int .i64 0, .slice none 0 0]), 23, 312) := by kernel_rfl
/- a row of provisions that the call owns: their cells, one behind the other -/
abbrev OwnPs (w : World) (base : Nat) (v : Value) (Ls : List (List Value)) : Prop := w.ownsRow base 30 23 v Ls.length Ls.flatten
theorem wpList_append_pv {ops : Array Oper} {rest : List Oper} {o : Oper} {a : Act} {w : World} {Q : Exit → Act → World → Prop} (hgd : o.guard = none) (s x : Operand) (hop : o.op = Op.call { callee := Callee.builtin Builtin.append, args := #[s, x], argTypes := #[40, 40] })
    (base : Nat) (v : Value) (Ls : List (List Value)) (g : Nat) (D : List Value) (hs : a.eval s = v) (hx : a.eval x = .slice (some ⟨g, 0, none⟩) 1 1) (hown : OwnPs w base v Ls) (hD : D.length = 23) (h1 : allOne D = true) (hc : w.heap[g]? = some (.cells D.toArray 30 (0, 0)))
    (hlen : Ls.length ≤ 1000) (hb : base ≤ w.heap.size) (h : ∀ v' w', OwnPs w' base v' (Ls ++ [D]) → w.grownBy w' v.ownBlock → (v'.ownBlock = v.ownBlock ∨ v'.ownBlock = some w.heap.size) → wpList Tryz.prog ops Q rest (a.put o.dst v') w') : wpList Tryz.prog ops Q (o :: rest) a w := by
  obtain ⟨i, hi, hz, hsz, hby⟩ := info_parts info_pv
  refine wpList_append_own_at _ hgd s x _ hop base 30 i _ 23 312 Tryz.underlying40 hi hz hsz hby rfl (by decide) v Ls.length Ls.flatten hs hown ⟨g, 0, none⟩ 1 1 D hx (by simpa using hD) (fun j u hu => ?_) (allOne_all h1) (by unfold maxLen; omega) (by omega) hb ?_
  · rw [Addr.add_lit, Nat.zero_add]
    exact cell_of_blk hc (by rw [List.getElem?_toArray]; exact hu)
  · intro v' w' ho hg _ hb
    refine h v' w' ?_ hg hb
    unfold OwnPs
    simpa using ho
/- what is known where a law's list is made: w: the world at the entry; pb: the box of the provision; qb: the copy's box; X: blocks that stand -/
structure RSt (w wx : World) (qb : Nat) (cs D : List Value) (v : Value) (Ls : List (List Value)) (X : List (Nat × Obj)) : Prop where
  below : Below w.heap.size w wx
  pblk : wx.blk w.heap.size = some (.cells cs.toArray 30 (0, 0))
  qblk : wx.blk qb = some (.cells D.toArray 30 (0, 0))
  qlen : D.length = 23
  qlo : w.heap.size < qb
  own : OwnPs wx (w.heap.size + 1) v Ls
  ne : v.ownBlock ≠ some qb
  xs : ∀ g O, (g, O) ∈ X → wx.heap[g]? = some O ∧ g ≠ qb ∧ v.ownBlock ≠ some g
section
variable {w wx w' : World} {qb : Nat} {cs D D' : List Value} {v v' : Value} {Ls : List (List Value)} {X : List (Nat × Obj)}
theorem RSt.qlt (h : RSt w wx qb cs D v Ls X) : qb < wx.heap.size := lt_of_heap' h.qblk
theorem RSt.plt (h : RSt w wx qb cs D v Ls X) : w.heap.size < wx.heap.size := lt_of_heap' h.pblk
theorem RSt.row (h : RSt w wx qb cs D v Ls X) (hD : D'.length = 23) : RSt w (wx.setRow qb D'.toArray) qb cs D' v Ls X := by
  have hq := h.qlo
  refine ⟨below_setRow h.below (by omega) _, (setRow_other _ _ _ _ (by omega)).trans h.pblk, setRow_heap _ _ _ _ _ _ h.qblk, hD, hq, ?_, h.ne, fun g O hg => ?_⟩
  · refine World.ownsRow.kept h.own (row := some qb) ⟨rfl, rfl, rfl, by simp, fun k hk hne => setRow_other _ _ _ _ (fun e => hne (by rw [e]))⟩ (Or.inr h.ne)
  · obtain ⟨h1, h2, h3⟩ := h.xs g O hg
    exact ⟨(setRow_other _ _ _ _ h2).trans h1, h2, h3⟩
theorem RSt.cell (h : RSt w wx qb cs D v Ls X) (i : Nat) (u : Value) : RSt w (wx.setCell ⟨qb, i, none⟩ u) qb cs (D.set i u) v Ls X := by
  have hq := h.qlo
  refine ⟨h.below.setCell (by show w.heap.size ≤ qb; omega) _, (Below.heap_setCell _ _ _ _ (by show w.heap.size ≠ qb; omega)).trans h.pblk, ?_, by rw [List.length_set]; exact h.qlen, hq, h.own.kept (grown_set _ _ _ _) (Or.inr h.ne), h.ne, fun g O hg => ?_⟩
  · have := set_block (o := i) (v := u) h.qblk
    rw [List.setIfInBounds_toArray] at this
    exact this
  · obtain ⟨h1, h2, h3⟩ := h.xs g O hg
    exact ⟨(Below.heap_setCell _ _ _ _ h2).trans h1, h2, h3⟩
theorem own_lt (h : RSt w wx qb cs D v Ls X) : ∀ k, v.ownBlock = some k → w.heap.size + 1 ≤ k ∧ k < wx.heap.size := h.own.lt
theorem RSt.grow (h : RSt w wx qb cs D v Ls X) (hb : Below wx.heap.size wx w') : RSt w w' qb cs D v Ls X := by
  refine ⟨h.below.trans (hb.mono h.below.size), (hb.block _ h.plt).trans h.pblk, (hb.block _ h.qlt).trans h.qblk, h.qlen, h.qlo, ?_, h.ne, fun g O hg => ?_⟩
  · refine World.ownsRow.kept h.own (row := none) ⟨hb.os, hb.tape, hb.output, hb.size, fun k hk _ => hb.block k hk⟩ ?_
    cases hv : v.ownBlock with
    | none => exact Or.inl rfl
    | some b => exact Or.inr (by simp)
  · obtain ⟨h1, h2, h3⟩ := h.xs g O hg
    exact ⟨(hb.block _ (lt_of_heap' h1)).trans h1, h2, h3⟩
theorem RSt.add (h : RSt w wx qb cs D v Ls X) {g : Nat} {O : Obj} (hg : wx.heap[g]? = some O) (h1 : g ≠ qb) (h2 : v.ownBlock ≠ some g) : RSt w wx qb cs D v Ls ((g, O) :: X) :=
  ⟨h.below, h.pblk, h.qblk, h.qlen, h.qlo, h.own, h.ne, fun g' O' hm => by
    rcases List.mem_cons.1 hm with e | hm
    · cases e; exact ⟨hg, h1, h2⟩
    · exact h.xs g' O' hm⟩
/- one provision more in the list -/
theorem RSt.app (h : RSt w wx qb cs D v Ls X) {E : List Value} (ho : OwnPs w' (w.heap.size + 1) v' (Ls ++ [E])) (hg : wx.grownBy w' v.ownBlock) (ha : v'.ownBlock = v.ownBlock ∨ v'.ownBlock = some wx.heap.size) : RSt w w' qb cs D v' (Ls ++ [E]) X := by
  have hl := h.own.lt
  have hq := h.qlt
  have hp := h.plt
  have hlo := h.qlo
  have hne : ∀ k, k < wx.heap.size → v.ownBlock ≠ some k → v'.ownBlock ≠ some k := by
    intro k hk hn e
    rcases ha with e' | e'
    · exact hn (e'.symm.trans e)
    · rw [e'] at e; injection e with e; omega
  refine ⟨?_, ?_, ?_, h.qlen, hlo, ho, hne _ hq h.ne, fun g O hm => ?_⟩
  · refine h.below.trans ⟨hg.os, hg.tape, hg.output, hg.size, fun k hk => hg.block k (by have := h.below.size; omega) (fun e => by have := (hl k e.symm).1; omega)⟩
  · exact (hg.block _ hp (fun e => by have := (hl _ e.symm).1; omega)).trans h.pblk
  · exact (hg.block _ hq (fun e => h.ne e.symm)).trans h.qblk
  · obtain ⟨h1, h2, h3⟩ := h.xs g O hm
    exact ⟨(hg.block _ (lt_of_heap' h1) (fun e => h3 e.symm)).trans h1, h2, hne _ (lt_of_heap' h1) h3⟩
end
/- a provision that cannot be written, small enough to be looked at -/
structure BadP (p : ProvI) : Prop where
  no : writtenI p = false
  cond : p.cond.size ≤ 10000
  beg : p.beg.size ≤ 10000
  fin : p.fin.size ≤ 10000
  aga : p.aga.size ≤ 10000
  exc : p.exc.length ≤ 10000
  short : ∀ s ∈ p.exc, s.length ≤ 10000
def RowBad (w : World) (r : List Value) : Prop := ∃ p, RdPX w r p ∧ BadP p
theorem RowBad.keep {w w' : World} {r : List Value} (h : RowBad w r) (hb : Below w.heap.size w w') : RowBad w' r := by
  obtain ⟨p, h1, h2⟩ := h
  exact ⟨p, h1.keep hb, h2⟩
theorem RowBad.len {w : World} {r : List Value} (h : RowBad w r) : r.length = 23 := by
  obtain ⟨p, h1, h2⟩ := h
  exact h1.len
theorem flatten_at {Ls : List (List Value)} (h : ∀ r ∈ Ls, r.length = 23) : ∀ {k : Nat} {r : List Value} {j : Nat} {x : Value}, Ls[k]? = some r → r[j]? = some x → Ls.flatten[k * 23 + j]? = some x := by
  induction Ls with
  | nil => intro k r j x hk; simp at hk
  | cons a t ih =>
    intro k r j x hk hj
    have ha := h a (by simp)
    rw [List.flatten_cons]
    cases k with
    | zero =>
      simp at hk
      subst hk
      rw [Nat.zero_mul, Nat.zero_add, List.getElem?_append_left (List.getElem?_eq_some_iff.1 hj).1]
      exact hj
    | succ k =>
      have := ih (fun r hr => h r (by simp [hr])) (k := k) (by simpa using hk) hj
      rw [List.getElem?_append_right (by rw [ha]; omega), ha]
      rw [show (k + 1) * 23 + j - 23 = k * 23 + j by omega]
      exact this
end Go.Proofs.YtbicmjmcdnkjhaaGreatDoor
