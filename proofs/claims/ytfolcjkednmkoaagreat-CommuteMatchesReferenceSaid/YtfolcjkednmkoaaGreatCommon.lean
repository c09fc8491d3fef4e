/- What a light code, a patch with few bytes give. -/
import Derived.Test.YtfolcjkednmkoaaGreatJKit
import Derived.Test.YtfolcjkednmkoaaGreatApply2
set_option linter.unusedVariables false
set_option linter.unusedSimpArgs false
namespace Go.Proofs.YtfolcjkednmkoaaGreat
open Go.RowKit
theorem light_facts {l : List Item} {ps : List Patch} (h : lightB l ps = true) : l.length ≤ 30 ∧ ∀ x ∈ l, x.Short := by
 unfold lightB at h
 simp only [Bool.and_eq_true, List.all_eq_true, decide_eq_true_eq] at h
 obtain ⟨h1, _, h2, _⟩ := h
 refine ⟨h2, fun x hx => ?_⟩
 have := h1 x hx
 unfold heavyI light1 light2 light3 at this
 simp at this
 have h9 : (1000 : Nat) ≤ maxLen := by unfold maxLen; omega
 exact ⟨by omega, by omega, by omega, by omega, by omega⟩
theorem light_pats {l : List Item} {ps : List Patch} (h : lightB l ps = true) : ps.length ≤ 12 ∧ ∀ q ∈ ps, fewB q = true := by
 unfold lightB at h
 simp only [Bool.and_eq_true, List.all_eq_true, decide_eq_true_eq] at h
 exact ⟨h.2.2.2, h.2.1⟩
theorem few_facts {p : Patch} (h : fewB p = true) : p.item.Short ∧ p.num.length ≤ maxLen ∧ p.to.length ≤ 1000000 := by
 unfold fewB few1 few2 few3 at h
 simp only [Bool.and_eq_true, decide_eq_true_eq] at h
 obtain ⟨⟨h1, h2⟩, h3⟩ := h
 have h9 : (2000 : Nat) ≤ maxLen := by unfold maxLen; omega
 exact ⟨⟨by omega, by omega, by omega, by omega, by omega⟩, by omega, by omega⟩
end Go.Proofs.YtfolcjkednmkoaaGreat
