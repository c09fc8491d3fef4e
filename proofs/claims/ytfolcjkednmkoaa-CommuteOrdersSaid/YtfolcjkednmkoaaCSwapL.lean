/- What commute.Swap answers, and its law. -/
import Derived.Test.YtfolcjkednmkoaaJState
import Derived.Test.YtfolcjkednmkoaaJGr
import Derived.Test.YtfolcjkednmkoaaAll
set_option linter.unusedVariables false
set_option linter.unusedSimpArgs false
namespace Go.Proofs.Ytfolcjkednmkoaa
open Go.RowKit
def swapF (l : List Item) (a b : Patch) : Patch × Patch × Bool :=
  if (allR l [a, b]).2.2 ≠ 0 then (zeroP, zeroP, false)
  else if commF a b = true then (b, a, true)
  else if a.kind = 1 ∧ b.kind = 1 ∧ a.par = b.par ∧ a.aft = b.aft then (b, { a with aft := b.id }, true)
  else if a.kind = 1 ∧ b.kind = 1 ∧ b.aft = a.id then ({ b with aft := a.aft }, a, true)
  else (zeroP, zeroP, false)
theorem formed_apply {l : List Item} {p : Patch} (h : (applyF l p).2 = 0) : formedF p = true := by
  cases hf : formedF p with
  | true => rfl
  | false =>
    unfold applyF at h
    rw [if_pos (.inr hf)] at h
    simp at h
theorem allR_valid {l : List Item} {ps : List Patch} (h : (allR l ps).2.2 = 0) : walkB l = true ∧ ∀ qs, allR l qs = allF l qs 0 := by
  cases hv : walkB l with
  | false =>
    unfold allR at h
    rw [hv] at h
    simp at h
  | true => exact ⟨rfl, fun qs => by unfold allR; rw [hv]; rfl⟩
theorem swap_no {l : List Item} {a b : Patch} (h : (swapF l a b).2.2 = false) : swapF l a b = (zeroP, zeroP, false) ∧ ((allR l [a, b]).2.2 ≠ 0 ∨ commF a b = false) := by
  unfold swapF at h ⊢
  by_cases h0 : (allR l [a, b]).2.2 ≠ 0
  · rw [if_pos h0]
    exact ⟨rfl, .inl h0⟩
  · rw [if_neg h0] at h ⊢
    by_cases h1 : commF a b = true
    · rw [if_pos h1] at h
      cases h
    · rw [if_neg h1] at h ⊢
      by_cases h2 : a.kind = 1 ∧ b.kind = 1 ∧ a.par = b.par ∧ a.aft = b.aft
      · rw [if_pos h2] at h
        cases h
      · rw [if_neg h2] at h ⊢
        by_cases h3 : a.kind = 1 ∧ b.kind = 1 ∧ b.aft = a.id
        · rw [if_pos h3] at h
          cases h
        · rw [if_neg h3]
          exact ⟨rfl, .inr (by simpa using h1)⟩
theorem swap_ok {l : List Item} {a b : Patch} (h : (swapF l a b).2.2 = true) :
    (allR l [a, b]).2.2 = 0 ∧ allR l [(swapF l a b).1, (swapF l a b).2.1] = allR l [a, b] ∧ (swapF l (swapF l a b).1 (swapF l a b).2.1).2.2 = true := by
  by_cases h0 : (allR l [a, b]).2.2 ≠ 0
  · unfold swapF at h
    rw [if_pos h0] at h
    cases h
  have h0' : (allR l [a, b]).2.2 = 0 := by simpa using h0
  obtain ⟨hw, hR⟩ := allR_valid h0'
  have hF : (allF l [a, b] 0).2.2 = 0 := by rw [← hR]; exact h0'
  obtain ⟨k1, k2, k3⟩ := all_two hF
  have fa := formed_apply k1
  have fb := formed_apply k2
  refine ⟨h0', ?_⟩
  by_cases h1 : commF a b = true
  · have e : swapF l a b = (b, a, true) := by unfold swapF; rw [if_neg h0, if_pos h1]
    rw [e]
    have hs : allR l [b, a] = allR l [a, b] := by rw [hR, hR]; exact swap_law hw h1 0 hF
    refine ⟨hs, ?_⟩
    unfold swapF
    rw [if_neg (by show ¬ (allR l [b, a]).2.2 ≠ 0; rw [hs]; exact h0), if_pos (by show commF b a = true; rw [commF_symm]; exact h1)]
  · by_cases h2 : a.kind = 1 ∧ b.kind = 1 ∧ a.par = b.par ∧ a.aft = b.aft
    · have e : swapF l a b = (b, { a with aft := b.id }, true) := by unfold swapF; rw [if_neg h0, if_neg h1, if_pos h2]
      rw [e]
      have hs : allR l [b, { a with aft := b.id }] = allR l [a, b] := by rw [hR, hR]; exact swap_same hw fa fb h2.1 h2.2.1 h2.2.2.1 h2.2.2.2 0 hF
      refine ⟨hs, ?_⟩
      unfold swapF
      rw [if_neg (by show ¬ (allR l [b, { a with aft := b.id }]).2.2 ≠ 0; rw [hs]; exact h0)]
      split
      · rfl
      · split
        · rfl
        · rw [if_pos ⟨h2.2.1, h2.1, rfl⟩]
    · by_cases h3 : a.kind = 1 ∧ b.kind = 1 ∧ b.aft = a.id
      · have e : swapF l a b = ({ b with aft := a.aft }, a, true) := by unfold swapF; rw [if_neg h0, if_neg h1, if_neg h2, if_pos h3]
        rw [e]
        obtain ⟨hp, hs0⟩ := swap_after hw fa fb h3.1 h3.2.1 h3.2.2 0 hF
        have hs : allR l [{ b with aft := a.aft }, a] = allR l [a, b] := by rw [hR, hR]; exact hs0
        refine ⟨hs, ?_⟩
        unfold swapF
        rw [if_neg (by show ¬ (allR l [{ b with aft := a.aft }, a]).2.2 ≠ 0; rw [hs]; exact h0)]
        split
        · rfl
        · rw [if_pos ⟨h3.2.1, h3.1, hp.symm, rfl⟩]
      · unfold swapF at h
        rw [if_neg h0, if_neg h1, if_neg h2, if_neg h3] at h
        cases h
theorem swap_ready {l : List Item} {a b : Patch} (ra : a.Ready) (rb : b.Ready) (rz : zeroP.Ready) : (swapF l a b).1.Ready ∧ (swapF l a b).2.1.Ready := by
  unfold swapF
  split
  · exact ⟨rz, rz⟩
  · split
    · exact ⟨rb, ra⟩
    · split
      · exact ⟨rb, ⟨ra.item, ra.num, ra.tlen⟩⟩
      · split
        · exact ⟨⟨rb.item, rb.num, rb.tlen⟩, ra⟩
        · exact ⟨rz, rz⟩
/- both orders of two that commute -/
theorem sound_law {l : List Item} {a b : Patch} (hw : walkB l = true) (hc : commF a b = true) : allR l [b, a] = allR l [a, b] ∨ ((allR l [b, a]).2.2 ≠ 0 ∧ (allR l [a, b]).2.2 ≠ 0 ∧ (allR l [b, a]).1 = (allR l [a, b]).1) := by
  have hR : ∀ qs, allR l qs = allF l qs 0 := fun qs => by unfold allR; rw [hw]; rfl
  simp only [hR]
  by_cases h : (allF l [a, b] 0).2.2 = 0
  · exact .inl (swap_law hw hc 0 h)
  · by_cases h' : (allF l [b, a] 0).2.2 = 0
    · exact .inl (swap_law hw (by rw [commF_symm]; exact hc) 0 h').symm
    · exact .inr ⟨h', h, by rw [(all_err l [b, a] 0 h').1, (all_err l [a, b] 0 h).1]⟩
/- groups in another order -/
theorem orders_same {l : List Item} {ps : List Patch} (hw : walkB l = true) {H : List Nat} (hH : H.Perm (heads (adjF ps) ps.length)) (f : Nat → Patch) (hf : ∀ i (h : i < ps.length), f i = ps[i]) :
    ((allR l ps).2.2 = 0 ↔ (allR l ((H.flatMap (comp (adjF ps) ps.length)).map f)).2.2 = 0) ∧ (allR l ps).1 = (allR l ((H.flatMap (comp (adjF ps) ps.length)).map f)).1 ∧ (H.flatMap (comp (adjF ps) ps.length)).length = ps.length := by
  have hR : ∀ qs, allR l qs = allF l qs 0 := fun qs => by unfold allR; rw [hw]; rfl
  have key := fun d => orders_law (l := l) (d := d) hw hH f hf
  simp only [hR]
  refine ⟨⟨fun h => ?_, fun h => ?_⟩, ?_, ?_⟩
  · exact ((run_iff 0).1 ((key _).1 ((run_iff 0).2 ⟨h, rfl⟩))).1
  · exact ((run_iff 0).1 ((key _).2 ((run_iff 0).2 ⟨h, rfl⟩))).1
  · by_cases h : (allF l ps 0).2.2 = 0
    · exact (((run_iff 0).1 ((key _).1 ((run_iff 0).2 ⟨h, rfl⟩))).2).symm
    · have h' : (allF l ((H.flatMap (comp (adjF ps) ps.length)).map f) 0).2.2 ≠ 0 := fun h' => h ((run_iff 0).1 ((key _).2 ((run_iff 0).2 ⟨h', rfl⟩))).1
      rw [(all_err l ps 0 h).1, (all_err l _ 0 h').1]
  · have hs := adjF_symm ps
    have hHn : H.Nodup := (hH.nodup_iff).2 heads_nodup
    have h1 := flat_nodup hs hHn (fun i hi => (hH.mem_iff).1 hi)
    have h2 : ∀ x, x ∈ H.flatMap (comp (adjF ps) ps.length) ↔ x ∈ List.range ps.length := by
      intro x
      rw [List.mem_range, List.mem_flatMap]
      constructor
      · rintro ⟨i, _, hm⟩
        exact (comp_mem.1 hm).1
      · intro h
        obtain ⟨i, hi, hr⟩ := head_of hs x h
        exact ⟨i, (hH.mem_iff).2 hi, comp_mem.2 ⟨h, hr⟩⟩
    have h3 := ((List.perm_ext_iff_of_nodup h1 List.nodup_range).2 h2).length_eq
    rwa [List.length_range] at h3
end Go.Proofs.Ytfolcjkednmkoaa
