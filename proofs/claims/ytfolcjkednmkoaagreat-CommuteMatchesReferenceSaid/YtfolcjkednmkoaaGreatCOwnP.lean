/- Rows of patches that a call owns; append. -/
import Derived.Test.YtfolcjkednmkoaaGreatJCm
import Derived.Laws.OwnMore
import Derived.Maps.AppendAt
set_option linter.unusedVariables false
set_option linter.unusedSimpArgs false
namespace Go.Proofs.YtfolcjkednmkoaaGreat
open Go.RowKit
def pflat (l : List Patch) : List Value := l.flatMap Patch.cells
theorem pfl_get : ∀ (ps : List Patch) (k : Nat) (p : Patch) (j : Nat) (v : Value), ps[k]? = some p → p.cells[j]? = some v → (pflat ps)[k * 15 + j]? = some v
 | [], k, p, j, v, h, _ => by simp at h
 | q :: r, 0, p, j, v, h, hv => by
   simp at h
   subst h
   have hj : j < q.cells.length := (List.getElem?_eq_some_iff.1 hv).1
   unfold pflat
   rw [List.flatMap_cons, Nat.zero_mul, Nat.zero_add, List.getElem?_append_left hj]
   exact hv
 | q :: r, k + 1, p, j, v, h, hv => by
   have hq : q.cells.length = 15 := rfl
   unfold pflat
   rw [List.flatMap_cons, List.getElem?_append_right (by rw [hq]; omega), hq, show (k + 1) * 15 + j - 15 = k * 15 + j by omega]
   exact pfl_get r k p j v (by simpa using h) hv
theorem pflat_len (l : List Patch) : (pflat l).length = l.length * 15 := by
 induction l with
 | nil => rfl
 | cons a r ih =>
   have : (pflat (a :: r)).length = 15 + (pflat r).length := by unfold pflat; rw [List.flatMap_cons, List.length_append]; rfl
   rw [this, ih, List.length_cons]
   omega
theorem pflat_app (l r : List Patch) : pflat (l ++ r) = pflat l ++ pflat r := by simp [pflat]
theorem pflat_at {l : List Patch} {i : Nat} {v : Value} (h : (pflat l)[i]? = some v) : ∃ k j p, i = k * 15 + j ∧ l[k]? = some p ∧ p.cells[j]? = some v := by
 induction l generalizing i with
 | nil => simp [pflat] at h
 | cons a r ih =>
   have hq : a.cells.length = 15 := rfl
   unfold pflat at h
   rw [List.flatMap_cons] at h
   by_cases hi : i < 15
   · rw [List.getElem?_append_left (by rw [hq]; exact hi)] at h
     exact ⟨0, i, a, by omega, rfl, h⟩
   · rw [List.getElem?_append_right (by rw [hq]; omega), hq] at h
     obtain ⟨k, j, p, e, h1, h2⟩ := ih h
     exact ⟨k + 1, j, p, by omega, by simpa using h1, h2⟩
theorem pflat_one {l : List Patch} : ∀ v ∈ pflat l, v.oneCell' = true := by
 intro v hv
 obtain ⟨p, _, hm⟩ := List.mem_flatMap.1 hv
 exact patCs_one p v (by simpa using hm)
def OwnPs (w : World) (base : Nat) (v : Value) (l : List Patch) : Prop := w.ownsRow base 29 15 v l.length (pflat l)
theorem OwnPs.empty {w : World} {base g : Nat} (h : w.heap[g]? = some (.cells #[] 29 (0, 0))) (hb : base ≤ g) : OwnPs w base (.slice (some ⟨g, 0, none⟩) 0 0) [] := ⟨rfl, .inr ⟨g, 0, #[], rfl, hb, h, Nat.le_refl _, by decide, rfl, rfl⟩⟩
theorem OwnPs.nil (w : World) (base : Nat) : OwnPs w base (.slice none 0 0) [] := ⟨rfl, .inl ⟨rfl, rfl⟩⟩
theorem OwnPs.ge {w : World} {base : Nat} {v : Value} {l : List Patch} (h : OwnPs w base v l) : ∀ b, v.ownBlock = some b → base ≤ b := by
 rcases h.2 with ⟨hv, h0⟩ | ⟨b, cap, cur, rfl, r2, r3, r4⟩
 · intro b hb
   rw [hv] at hb
   simp [Value.ownBlock] at hb
 · intro c hc
   simp [Value.ownBlock] at hc
   subst hc
   exact r2
theorem OwnPs.keep {w w' : World} {base : Nat} {v : Value} {l : List Patch} (h : OwnPs w base v l) (hk : ∀ b, v.ownBlock = some b → w'.heap[b]? = w.heap[b]?) : OwnPs w' base v l := by
 refine ⟨h.1, ?_⟩
 rcases h.2 with h | ⟨b, cap, cur, rfl, r2, r3, r4⟩
 · exact .inl h
 · exact .inr ⟨b, cap, cur, rfl, r2, (hk b rfl).trans r3, r4⟩
theorem OwnPs.lt {w : World} {base : Nat} {v : Value} {l : List Patch} (h : OwnPs w base v l) : ∀ b, v.ownBlock = some b → b < w.heap.size := by
 rcases h.2 with ⟨hv, h0⟩ | ⟨b, cap, cur, rfl, r2, r3, r4⟩
 · intro b hb
   rw [hv] at hb
   simp [Value.ownBlock] at hb
 · intro c hc
   simp [Value.ownBlock] at hc
   subst hc
   exact lt_of_heap r3
theorem OwnPs.below {w w' : World} {base : Nat} {v : Value} {l : List Patch} (h : OwnPs w base v l) (hb : Below w.heap.size w w') : OwnPs w' base v l := h.keep fun b hb1 => hb.block b (h.lt b hb1)
theorem OwnPs.reads {w : World} {base : Nat} {v : Value} {l : List Patch} (h : OwnPs w base v l) : ∃ A c, v = .slice A l.length c ∧ l.length ≤ c ∧ c ≤ maxLen ∧ RdP w A l := by
 rcases h.2 with ⟨hv, h0⟩ | ⟨b, cap, cur, rfl, r2, r3, r4, r5, r6, r7⟩
 · have : l = [] := List.length_eq_zero_iff.1 h0
   subst this
   exact ⟨none, 0, by simpa using hv, Nat.le_refl _, by decide, fun h => absurd rfl h⟩
 · refine ⟨some ⟨b, 0, none⟩, cap, rfl, r4, r5, fun _ => ⟨b, 0, rfl, lt_of_heap r3, fun k x hx j v hv => ?_⟩⟩
   rw [cell_of_row _ _ _ _ _ _ r3, Nat.zero_add]
   have h1 := pfl_get l k x j v hx hv
   rw [← r7, List.getElem?_take] at h1
   split at h1
   · rw [← Array.getElem?_toList]; exact h1
   · cases h1
theorem info_pat : (Tryz.prog.info? 29).map (fun i => (i.zero, i.size, i.bytes)) = some (some zeroP.agg, 15, 208) := by kernel_rfl
theorem run_append_pats (w : World) (base : Nat) (v : Value) (l1 l2 : List Patch) (B : Option Addr) (cc : Nat) (hown : OwnPs w base v l1) (hr : RdP w B l2) (hlen : (l1.length + l2.length) * 208 ≤ 140737488355328) (hb : base ≤ w.heap.size) :
 ∃ v' w', (Builtin.append_ #[25, 25] 25 #[v, .slice B l2.length cc]).run Tryz.prog w = .ok v' w' ∧ OwnPs w' base v' (l1 ++ l2) ∧ w.grownBy w' v.ownBlock := by
 have h9 : (140737488355328 : Nat) ≤ maxLen := by unfold maxLen; omega
 obtain ⟨i0, hi0, hz⟩ := Option.map_eq_some_iff.1 info_pat
 simp only [Prod.mk.injEq] at hz
 obtain ⟨hz0, hz1, hz2⟩ := hz
 cases B with
 | none =>
   have : l2 = [] := by
    by_cases h : l2 = []
    · exact h
    · obtain ⟨b, o, hA, _⟩ := hr h; cases hA
   subst this
   refine ⟨v, w, ?_, by simpa using hown, ⟨rfl, rfl, rfl, Nat.le_refl _, fun _ _ _ => rfl⟩⟩
   rcases hown.2 with ⟨rfl, h0⟩ | ⟨g, cap, cur, rfl, _, _, hnc, _⟩
   · simp [Builtin.append_, run_underlying Tryz.underlying25, sizeOf, typeInfo, hi0, Builtin.lenOf, Builtin.firstCells]
   · simp [Builtin.append_, run_underlying Tryz.underlying25, sizeOf, typeInfo, hi0, Builtin.lenOf, Builtin.firstCells, hnc, storeCells]
 | some a =>
   have hn : ∀ j u, (pflat l2)[j]? = some u → w.cell? (a.add j) = some u := by
    intro j u hu
    obtain ⟨k, i, p, rfl, hp, hv⟩ := pflat_at hu
    obtain ⟨b, o, hA, _, hc⟩ := hr (by rintro rfl; simp at hp)
    cases hA
    have := hc k p hp i u hv
    rw [Go.WideShapes.add_plain, ← Nat.add_assoc]
    exact this
   obtain ⟨v', w', h1, h2, h3, _⟩ := run_append_own (P := Tryz.prog) w base 25 25 29 i0 zeroP.agg 15 208 Tryz.underlying25 hi0 hz0 hz1 hz2 rfl (by decide) v l1.length (pflat l1) hown a l2.length cc (pflat l2) (pflat_len l2) hn pflat_one (by omega) (by omega) hb
   refine ⟨v', w', h1, ?_, h3⟩
   unfold OwnPs
   rw [List.length_append, pflat_app]
   exact h2
theorem step_append_pats {ops : Array Oper} {o : Oper} {a : Act} {w : World} {K : Act → World → Prop} {Q : Exit → Act → World → Prop} {E : Prop}
 (hgd : o.guard = none) (d x : Operand) (hop : o.op = Op.call { callee := Callee.builtin Builtin.append, args := #[d, x], argTypes := #[25, 25] }) (ht : o.type = 25)
 (base : Nat) (v : Value) (l1 l2 : List Patch) (B : Option Addr) (n cc : Nat) (hnn : n = l2.length) (hd : a.eval d = v) (hx : a.eval x = .slice B n cc) (hown : OwnPs w base v l1) (hr : RdP w B l2) (hlen : (l1.length + l2.length) * 208 ≤ 140737488355328) (hb : base ≤ w.heap.size) (dst : Option Nat) (hdst : o.dst = dst)
 (hK : ∀ v' w', OwnPs w' base v' (l1 ++ l2) → w.grownBy w' v.ownBlock → K (a.put dst v') w') :
 if Region.wanted o (yielded ops a.tmps) = true then Oper.wp Tryz.prog o a w K Q else E := by
 subst hnn hdst
 obtain ⟨v', w', h1, h2, h3⟩ := run_append_pats w base v l1 l2 B cc hown hr hlen hb
 have hw : Region.wanted o (yielded ops a.tmps) = true := by simp [Region.wanted, hgd]
 rw [if_pos hw]
 unfold Oper.wp
 simp [execOp, hop, ht, resolve, invoke, builtin, hd, hx, h1, Result.andThen]
 exact hK _ _ h2 h3
theorem RdP.one (w : World) (p : Patch) (g : Nat) (h : w.heap[g]? = some (.cells (patCs p) 29 (0, 0))) : RdP w (some ⟨g, 0, none⟩) [p] := by
 intro _
 refine ⟨g, 0, rfl, lt_of_heap h, fun k x hx j v hv => ?_⟩
 cases k with
 | succ k => simp at hx
 | zero =>
   simp at hx
   subst hx
   rw [show 0 + 0 * 15 + j = j by omega, cell_of_row _ _ _ _ _ _ h, List.getElem?_toArray]
   exact hv
end Go.Proofs.YtfolcjkednmkoaaGreat
