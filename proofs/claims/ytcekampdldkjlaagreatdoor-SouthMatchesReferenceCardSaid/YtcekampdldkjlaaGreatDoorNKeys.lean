/- The key words, sought between blanks. -/
import Derived.Test.YtcekampdldkjlaaGreatDoorNDefs
import Derived.Lib.IndexMore
set_option linter.unusedVariables false
set_option linter.unusedSimpArgs false
namespace Go.Proofs.YtcekampdldkjlaaGreatDoor
open Go.Lib
def keysT : List (List UInt8) → List UInt8
  | [] => [32]
  | w :: ws => 32 :: (w ++ keysT ws)
theorem keysT_head (ws : List (List UInt8)) : ∃ r, keysT ws = 32 :: r := by cases ws <;> exact ⟨_, rfl⟩
theorem pre_word : ∀ (s w r : List UInt8), (∀ c ∈ s, c ≠ 32) → (∀ c ∈ w, c ≠ 32) → ((s ++ [32]).isPrefixOf (w ++ 32 :: r) = true ↔ s = w)
  | [], [], r, _, _ => by simp
  | [], d :: w, r, _, hw => by
    have : d ≠ 32 := hw d (by simp)
    simp [List.isPrefixOf]
    intro h
    exact this h.symm
  | c :: s, [], r, hs, _ => by
    have : c ≠ 32 := hs c (by simp)
    simp [List.isPrefixOf, this]
  | c :: s, d :: w, r, hs, hw => by
    have ih := pre_word s w r (fun x hx => hs x (by simp [hx])) (fun x hx => hw x (by simp [hx]))
    simp only [List.cons_append, List.isPrefixOf, Bool.and_eq_true, ih, beq_iff_eq, List.cons.injEq]
theorem occ_keys : ∀ (ws : List (List UInt8)) (s : List UInt8), (∀ c ∈ s, c ≠ 32) → (∀ w ∈ ws, ∀ c ∈ w, c ≠ 32) → ((∃ i, occAt (keysT ws) (32 :: (s ++ [32])) i = true) ↔ s ∈ ws)
  | [], s, hs, hw => by
    simp only [List.not_mem_nil, iff_false, not_exists, Bool.not_eq_true]
    intro i
    unfold occAt keysT
    cases i with
    | zero => cases s <;> simp [List.isPrefixOf]
    | succ i => simp [List.isPrefixOf]
  | w :: ws, s, hs, hw => by
    have ih := occ_keys ws s hs (fun x hx => hw x (by simp [hx]))
    obtain ⟨r, hr⟩ := keysT_head ws
    have h0 : occAt (keysT (w :: ws)) (32 :: (s ++ [32])) 0 = true ↔ s = w := by
      unfold occAt keysT
      rw [hr]
      simp only [List.drop_zero, List.isPrefixOf, beq_self_eq_true, Bool.true_and]
      exact pre_word s w r hs (hw w (by simp))
    have h1 : ∀ i, i < w.length → occAt (keysT (w :: ws)) (32 :: (s ++ [32])) (i + 1) = false := by
      intro i hi
      unfold occAt keysT
      rw [List.drop_succ_cons, List.drop_append_of_le_length (by omega)]
      cases hq : w.drop i with
      | nil => have := congrArg List.length hq; simp at this; omega
      | cons d q =>
        have hne : d ≠ 32 := hw w (by simp) d (List.mem_of_mem_drop (by rw [hq]; simp))
        simp [List.isPrefixOf, Ne.symm hne]
    have h2 : ∀ i, occAt (keysT (w :: ws)) (32 :: (s ++ [32])) (i + w.length + 1) = occAt (keysT ws) (32 :: (s ++ [32])) i := by
      intro i
      unfold occAt
      have : (keysT (w :: ws)).drop (i + w.length + 1) = (keysT ws).drop i := by
        show (32 :: (w ++ keysT ws)).drop _ = _
        rw [List.drop_succ_cons, Nat.add_comm, ← List.drop_drop, List.drop_left]
      rw [this]
    simp only [List.mem_cons]
    constructor
    · rintro ⟨i, hi⟩
      rcases Nat.eq_zero_or_pos i with rfl | hp
      · exact .inl (h0.1 hi)
      · obtain ⟨k, rfl⟩ : ∃ k, i = k + 1 := ⟨i - 1, by omega⟩
        by_cases hk : k < w.length
        · rw [h1 k hk] at hi; cases hi
        · obtain ⟨m, rfl⟩ : ∃ m, k = m + w.length := ⟨k - w.length, by omega⟩
          rw [h2 m] at hi
          exact .inr (ih.1 ⟨m, hi⟩)
    · rintro (rfl | h)
      · exact ⟨0, h0.2 rfl⟩
      · obtain ⟨m, hm⟩ := ih.2 h
        exact ⟨m + w.length + 1, by rw [h2]; exact hm⟩
theorem contains_occ (s sub : List UInt8) (hne : sub ≠ []) : contains s sub = true ↔ ∃ i, occAt s sub i = true := by
  unfold contains
  rcases index_spec s sub with ⟨h1, h2⟩ | ⟨i, h1, h2, h3, -⟩
  · rw [h1]
    constructor
    · intro h; simp at h
    · rintro ⟨i, hi⟩
      rcases Nat.lt_or_ge s.length i with hl | hl
      · unfold occAt at hi
        rw [List.drop_of_length_le (by omega)] at hi
        cases sub with
        | nil => exact absurd rfl hne
        | cons a b => simp [List.isPrefixOf] at hi
      · rw [h2 i hl] at hi; cases hi
  · rw [h1]
    simp only [Int.natCast_nonneg, decide_true, true_iff]
    exact ⟨i, h3⟩
theorem key_contains (s : List UInt8) (hs : ∀ c ∈ s, c ≠ 32) : contains (keysT keyWords) (32 :: (s ++ [32])) = keyF s := by
  rw [Bool.eq_iff_iff, contains_occ _ _ (by simp), occ_keys keyWords s hs (by decide)]
  unfold keyF
  simp
end Go.Proofs.YtcekampdldkjlaaGreatDoor
