/- patch.change: with. -/
import Derived.Test.YtfolcjkednmkoaaPatch2
import Derived.Laws.CopyOwn
set_option linter.unusedVariables false
set_option linter.unusedSimpArgs false
namespace Go.Proofs.Ytfolcjkednmkoaa
open Go.RowKit
/- a code whose items read so -/
def ResC (base : Nat) (w : World) (v : Value) (l : List Item) : Prop := ∃ A c, v = .agg #[.slice A l.length c] ∧ RdI w A l ∧ l.length ≤ c ∧ (∀ b o, A = some ⟨b, o, none⟩ → base ≤ b)
theorem wpList_store_row {P : Program} {ops : Array Oper} {rest : List Oper} {op : Oper} {a : Act} {w : World} {Q : Exit → Act → World → Prop} (hgd : op.guard = none) (ty : TypeId) (x y : Operand) (ho : op.op = .store ty x y)
    (g o : Nat) (cs cur : List Value) (t : TypeId) (hx : a.eval x = .pointer (some ⟨g, o, none⟩)) (hy : a.eval y = .agg cs.toArray)
    (hg : w.heap[g]? = some (.cells cur.toArray t (0, 0))) (hfit : o + cs.length ≤ cur.length) (hi : (P.info? ty).map (·.size) = some cs.length) (h1 : ∀ v ∈ cs, v.oneCell' = true)
    (h : wpList P ops Q rest (a.put op.dst undef) (w.setRow g (cur.take o ++ cs ++ cur.drop (o + cs.length)).toArray)) : wpList P ops Q (op :: rest) a w := by
  refine wpList_plain hgd fun _ hK => ?_
  have hst := run_storeCells_at P g o t cs 0 cur.toArray w hg (by simpa using hfit) h1
  have hst' : (storeCells ⟨g, o, none⟩ cs).run P w = .ok () (w.setRow g (cur.take o ++ cs ++ cur.drop (o + cs.length)).toArray) := by simpa using hst
  unfold Oper.wp execOp
  cases hq : P.info? ty with
  | none => simp [hq] at hi
  | some i =>
    have hs : i.size = cs.length := by simpa [hq] using hi
    simp only [ho, hx, hy, Instr.storeAt, Instr.sureAddr, Sem.run_bind, Sem.run_pure, Result.andThen_ok]
    have hsv : (storeVar ty ⟨g, o, none⟩ (.agg cs.toArray)).run P w = .ok () (w.setRow g (cur.take o ++ cs ++ cur.drop (o + cs.length)).toArray) := by
      simp [storeVar, sizeOf, typeInfo, hq, Value.cells, hs, hst']
    simp only [hsv]
    exact hK _ _ h
theorem brow {W w1 : World} {g : Nat} (hb : Below W.heap.size W w1) (hg : W.heap.size ≤ g) : (∀ X b o, b < W.heap.size → (w1.setRow g X).cell? ⟨b, o, none⟩ = W.cell? ⟨b, o, none⟩) ∧ (∀ X b o, b < W.heap.size → (w1.setRow g X).frozen? ⟨b, o, none⟩ = W.frozen? ⟨b, o, none⟩) :=
  ⟨fun X b o h => (below_setRow hb hg X).cell (p := ⟨b, o, none⟩) h, fun X b o h => (below_setRow hb hg X).frozen (p := ⟨b, o, none⟩) h⟩
theorem RdI.of_row {w : World} {g : Nat} {cur rest : List Value} {t : TypeId} {l : List Item} (hh : w.heap[g]? = some (.cells cur.toArray t (0, 0))) (he : cur = flat l ++ rest) : RdI w (some ⟨g, 0, none⟩) l := by
  subst he
  refine RdI.of_flat (lt_of_heap hh) (fun i v hv => ?_)
  rw [Nat.zero_add, cell_of_row _ _ _ _ _ _ hh, List.getElem?_toArray, List.getElem?_append_left (List.getElem?_eq_some_iff.1 hv).1]
  exact hv
theorem cells_one (y : Item) : ∀ v ∈ y.cells, v.oneCell' = true := by
  intro u hu
  simp [Item.cells] at hu
  rcases hu with rfl | rfl | rfl | rfl | rfl | rfl | rfl <;> rfl
theorem flat_set (l : List Item) (rest : List Value) (k : Nat) (y : Item) (hk : k < l.length) :
    (flat l ++ rest).take (k * 7) ++ y.cells ++ (flat l ++ rest).drop (k * 7 + y.cells.length) = flat (l.set k y) ++ rest := by
  have h3 : (flat l).length = l.length * 7 := flat_length l
  have hy : y.cells.length = 7 := rfl
  rw [List.take_append, h3, show k * 7 - l.length * 7 = 0 by omega, List.take_zero, List.append_nil, flat_take]
  rw [hy, show k * 7 + 7 = (k + 1) * 7 by omega, List.drop_append, flat_drop, h3, show (k + 1) * 7 - l.length * 7 = 0 by omega, List.drop_zero]
  rw [List.set_eq_take_append_cons_drop, if_pos hk, flat_append, flat_cons]
  simp
set_option maxRecDepth 20000 in
set_option maxHeartbeats 1000000 in
theorem with_any (l : List Item) (A : Option Addr) (c : Nat) (p : Patch) (k : Nat) (y : Item) (w : World) (hr : RdI w A l) (hl : l.length ≤ 1000000) (hk : k < l.length) :
    Calls Try.prog 55 #[chg A l.length c p k, y.agg] w fun e w' => ∃ v, e = .returned v ∧ ResC w.heap.size w' v (l.set k y) ∧ Below w.heap.size w w' := by
  have HC := fun W h => Lib.hid (clone_any l A c W h hl)
  have HR := Lib.hid hr; clear hr
  have hlne : l ≠ [] := by rintro rfl; simp at hk
  have HL := Lib.hid hlne; clear hlne
  go_enter Try.func55, Try.ntmps55
  go_wp2_with fail
  refine (HC _ (HR.out.below ((((Below.refl _ _).alloc (Nat.le_refl _) _).alloc (by simp) _).alloc (by simp; omega) _))).out.mono ?_
  rintro e w1 ⟨v, rfl, hown, hb1⟩
  obtain ⟨g, cap, rest, rfl, hg, hglt, hh, hlc, hcm, hs⟩ := hown.row HL.out
  obtain ⟨hc, hf⟩ := bcell hb1
  have hfit : k * 7 + 7 ≤ (flat l ++ rest).length := by rw [hs]; omega
  have hki : (0 : Int) ≤ k := by omega
  have hki2 : (k : Int) < l.length := by omega
  have HH := Lib.hid hh
  have HG := Lib.hid hg
  have HB1 := Lib.hid hb1
  obtain ⟨hc2, hf2⟩ := brow hb1 hg
  have HC2 := Lib.hid hc2
  have HF2 := Lib.hid hf2
  go_wp2_with (refine wpList_store_row rfl 26 (.tmp 14) (.tmp 13) rfl g (k * 7) y.cells (flat l ++ rest) 26 (by first | rfl | (simp [Act.eval, Act.put]; done)) (by first | rfl | (simp [Act.eval, Act.put]; done)) HH.out hfit size7 (cells_one y) ?_)
  refine bodyPost_ret (v := .agg #[.slice (some ⟨g, 0, none⟩) l.length cap]) (by simp [results, Try.results55, go_sem, HC2.out, HF2.out]) rfl ⟨_, rfl, ⟨some ⟨g, 0, none⟩, cap, by simp, ?_, by simpa using hlc, fun b o hA => by cases hA; have := HG.out; simp at this; omega⟩, ?_⟩
  · refine RdI.of_row (g := g) (cur := List.take (k * 7) (flat l ++ rest) ++ (y.cells ++ List.drop (k * 7 + 7) (flat l ++ rest))) (rest := rest) (t := 26) ?_ (by rw [← List.append_assoc]; exact flat_set l rest k y hk)
    rw [Below.heap_setCell _ _ _ _ (by have := HG.out; simp at this; simp; omega)]
    exact setRow_heap _ _ _ _ _ _ HH.out
  · refine Below.setCell ?_ (by simp; omega) _
    refine (below_setRow (((((Below.refl _ _).alloc (Nat.le_refl _) _).alloc (by simp) _).alloc (by simp; omega) _).trans (HB1.out.mono (by simp; omega))) ?_ _)
    have := HG.out
    simp at this
    omega
end Go.Proofs.Ytfolcjkednmkoaa
