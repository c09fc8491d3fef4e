/- append of a list of strings onto a row of one. -/
import Derived.Test.YtkdcenbommhnoaaCommon
import Derived.Test.YtkdcenbommhnoaaBelow
import Derived.Test.YtkdcenbommhnoaaIds
import Derived.Test.YtkdcenbommhnoaaPatch2
import Derived.Laws.OwnMore
set_option linter.unusedVariables false
set_option linter.unusedSimpArgs false
namespace Go.Proofs.Ytkdcenbommhnoaa
open Go.RowKit
theorem run_append_strs (w : World) (g : Nat) (s : Str) (O : Option Addr) (L : List Str) (cc : Nat) (hg : w.heap[g]? = some (.cells #[vs s] 9 (0, 0))) (hr : RdS w O L) (hl : L.length ≤ 1000000) :
    ∃ v' w', (Builtin.append_ #[38, 38] 38 #[.slice (some ⟨g, 0, none⟩) 1 1, .slice O L.length cc]).run Try.prog w = .ok v' w' ∧ w'.ownsRow g 9 1 v' (1 + L.length) ((s :: L).map vs) ∧ w.grownBy w' (some g) := by
  obtain ⟨i0, hi0, hz0, hz1, hz2⟩ := info_parts info9
  have hlt := lt_of_heap hg
  have hown : w.ownsRow g 9 1 (.slice (some ⟨g, 0, none⟩) 1 1) 1 [vs s] := ⟨rfl, .inr ⟨g, 1, #[vs s], rfl, Nat.le_refl _, hg, Nat.le_refl _, by decide, rfl, rfl⟩⟩
  cases O with
  | none =>
    have : L = [] := by
      by_cases h : L = []
      · exact h
      · obtain ⟨b, o, hA, _⟩ := hr h; cases hA
    subst this
    refine ⟨.slice (some ⟨g, 0, none⟩) 1 1, w, ?_, hown, ⟨rfl, rfl, rfl, Nat.le_refl _, fun _ _ _ => rfl⟩⟩
    have := run_append_owned_none (P := Try.prog) (w := w) g 38 38 9 i0 1 Try.underlying38 hi0 _ 1 [vs s] hown
    simpa [Builtin.append_, Builtin.lenOf, Builtin.firstCells] using this
  | some a =>
    have hn : ∀ j u, (L.map vs)[j]? = some u → w.cell? (a.add j) = some u := by
      intro j u hu
      rw [List.getElem?_map] at hu
      obtain ⟨x, hx, rfl⟩ := Option.map_eq_some_iff.1 hu
      obtain ⟨b, o, hA, _, hc⟩ := hr (by rintro rfl; simp at hx)
      cases hA
      have := hc j x hx 0 _ rfl
      rw [Addr.add_lit]
      simpa using this
    obtain ⟨v', w', h1, h2, h3, _⟩ := run_append_own (P := Try.prog) w g 38 38 9 i0 (.string ⟨#[]⟩) 1 16 Try.underlying38 hi0 hz0 hz1 hz2 rfl (by decide) _ 1 [vs s] hown a L.length cc (L.map vs) (by simp) hn (by intro u hu; obtain ⟨x, _, rfl⟩ := List.mem_map.1 hu; rfl) (le_maxLen (by omega)) (by omega) (Nat.le_of_lt hlt)
    exact ⟨v', w', h1, by simpa using h2, h3⟩
theorem step_append_strs {ops : Array Oper} {o : Oper} {a : Act} {w : World} {K : Act → World → Prop} {Q : Exit → Act → World → Prop} {E : Prop}
    (hgd : o.guard = none) (d x : Operand) (hop : o.op = Op.call { callee := Callee.builtin Builtin.append, args := #[d, x], argTypes := #[38, 38] }) (ht : o.type = 38)
    (g : Nat) (s : Str) (O : Option Addr) (L : List Str) (cc : Nat) (hd : a.eval d = .slice (some ⟨g, 0, none⟩) 1 1) (hx : a.eval x = .slice O L.length cc)
    (hg : w.heap[g]? = some (.cells #[vs s] 9 (0, 0))) (hr : RdS w O L) (hl : L.length ≤ 1000000)
    (hK : ∀ O' c' w', RdS w' O' (s :: L) → w.grownBy w' (some g) → K (a.put o.dst (.slice O' (1 + L.length) c')) w') :
    if Region.wanted o (yielded ops a.tmps) = true then Oper.wp Try.prog o a w K Q else E := by
  obtain ⟨v', w', h1, h2, h3⟩ := run_append_strs w g s O L cc hg hr hl
  have hw : Region.wanted o (yielded ops a.tmps) = true := by simp [Region.wanted, hgd]
  rw [if_pos hw]
  obtain ⟨O', c', rfl, hrd, _⟩ := own_slice h2
  unfold Oper.wp
  simp [execOp, hop, ht, resolve, invoke, builtin, hd, hx, h1, Result.andThen]
  exact hK _ _ _ hrd h3
theorem belowL_le (l : List Item) (id : Str) : (belowL l id).length ≤ l.length := by
  unfold belowL
  split
  · exact Nat.le_trans (belowF_len _ _) (walkL_le l)
  · simp
end Go.Proofs.Ytkdcenbommhnoaa
