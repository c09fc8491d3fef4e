/- How great a condition is that was read from so many tokens; where kids lie. -/
import Derived.Test.YtpagkakplmeokaaDoorNOne
set_option linter.unusedVariables false
set_option linter.unusedSimpArgs false
namespace Go.Proofs.YtpagkakplmeokaaDoor
open Go.RowKit
def Siz (P : List Tok → R Tree) : Prop := ∀ l t r, P l = .ok (t, r) → t.size + 2 * r.length + 1 ≤ 2 * l.length
theorem takeF_len {ws : List (List UInt8)} {l r : List Tok} {i : Nat} (h : takeF ws l = (some i, r)) : r.length + 1 = l.length := by
  rcases takeF_cases ws l with ht | ⟨t, r', j, rfl, ht, -, -⟩
  · rw [ht] at h; cases h
  · rw [ht] at h; cases h; rfl
theorem takeF_none {ws : List (List UInt8)} {l r : List Tok} (h : takeF ws l = (none, r)) : r = l := by
  rcases takeF_cases ws l with ht | ⟨t, r', j, rfl, ht, -, -⟩
  · rw [ht] at h; cases h; rfl
  · rw [ht] at h; cases h
theorem nameF_len {l r : List Tok} {s : List UInt8} (h : nameF l = .ok (s, r)) : r.length + 1 = l.length := by
  unfold nameF at h
  split at h
  · cases h
  · split at h
    · cases h; rfl
    · cases h
theorem numberF_len {m v : Nat} {l r : List Tok} (h : numberF m l = .ok (v, r)) : r.length + 1 = l.length := by
  unfold numberF at h
  split at h
  · cases h
  · split at h
    · split at h
      · cases h
      · cases h; rfl
    · cases h
theorem mustF_len {ws : List (List UInt8)} {l r : List Tok} {i : Nat} (h : mustF ws l = .ok (i, r)) : r.length + 1 = l.length := by
  unfold mustF optF at h
  rcases takeF_cases ws l with ht | ⟨t, r', j, rfl, ht, -, hj⟩
  · rw [ht] at h; cases h
  · rw [ht] at h; cases h; rfl
theorem bindR_ok {α β : Type} {x : R α} {f : α → List Tok → R β} {y : β × List Tok} (h : bindR x f = .ok y) : ∃ a r, x = .ok (a, r) ∧ f a r = .ok y := by
  cases x with
  | error e => cases h
  | ok v => exact ⟨v.1, v.2, rfl, h⟩
theorem severalL_size {one : List Tok → R Tree} (w : List UInt8) (h : Siz one) : ∀ (n : Nat) (l : List Tok) (xs : List Tree) (r : List Tok), severalL one w n l = .ok (xs, r) → xs ≠ [] ∧ sizes xs + 3 * xs.length + 2 * r.length ≤ 2 * l.length + 2
  | 0, l, xs, r, hx => by cases hx
  | n + 1, l, xs, r, hx => by
    obtain ⟨x, r1, h1, h2⟩ := bindR_ok hx
    have s1 := h _ _ _ h1
    unfold optF at h2
    cases ht : takeF [w] r1 with
    | mk a r2 =>
      rw [ht] at h2
      cases a with
      | none =>
        cases h2
        have := takeF_none ht
        subst this
        refine ⟨by simp, ?_⟩
        simp [sizes]
        omega
      | some i =>
        have s2 := takeF_len ht
        obtain ⟨ys, r3, h3, h4⟩ := bindR_ok h2
        cases h4
        have s3 := (severalL_size w h n _ _ _ h3).2
        refine ⟨by simp, ?_⟩
        simp only [sizes, List.length_cons]
        omega
theorem joinT_size (op : Nat) {xs : List Tree} (h : xs ≠ []) : (joinT op xs).size + 1 ≤ sizes xs + 3 * xs.length - 2 := by
  cases xs with
  | nil => exact absurd rfl h
  | cons x ys =>
    cases ys with
    | nil => simp [joinT, sizes]
    | cons y zs =>
      show (Tree.mk op [] 0 0 (x :: y :: zs)).size + 1 ≤ _
      simp only [Tree.size, sizes, List.length_cons]
      omega
theorem Siz.severalF {one : List Tok → R Tree} (w : List UInt8) (op n : Nat) (h : Siz one) : Siz (severalF one w op n) := by
  intro l t r ht
  obtain ⟨xs, r1, h1, h2⟩ := bindR_ok ht
  cases h2
  obtain ⟨hne, hs⟩ := severalL_size w h n l xs _ h1
  have := joinT_size op hne
  have : 0 < xs.length := List.length_pos_iff.2 hne
  omega
theorem atom_size : ∀ n, Siz (atomF n)
  | 0 => fun l t r h => by cases h
  | n + 1 => fun l t r h => by
    have ih := atom_size n
    unfold atomF optF at h
    cases ht : takeF [[110, 111, 116], [40], [116, 114, 117, 101], [102, 97, 108, 115, 101]] l with
    | mk a r1 =>
      rw [ht] at h
      cases a with
      | none =>
        have := takeF_none ht
        subst this
        obtain ⟨s, r2, h1, h2⟩ := bindR_ok h
        have s1 := nameF_len h1
        cases ht2 : takeF [[61], [33, 61], [60], [60, 61], [62], [62, 61]] r2 with
        | mk b r3 =>
          rw [ht2] at h2
          cases b with
          | none =>
            have := takeF_none ht2
            subst this
            cases h2
            simp [Tree.size, sizes]
            omega
          | some c =>
            have s2 := takeF_len ht2
            obtain ⟨v, r4, h3, h4⟩ := bindR_ok h2
            cases h4
            have s3 := numberF_len h3
            simp [Tree.size, sizes]
            omega
      | some i =>
        have s1 := takeF_len ht
        match i, h with
        | 0, h =>
          obtain ⟨f, r2, h1, h2⟩ := bindR_ok h
          cases h2
          have := ih _ _ _ h1
          simp only [Tree.size, sizes]
          omega
        | 1, h =>
          obtain ⟨f, r2, h1, h2⟩ := bindR_ok h
          obtain ⟨j, r3, h3, h4⟩ := bindR_ok h2
          cases h4
          have := (Siz.severalF [111, 114] 7 n (Siz.severalF [97, 110, 100] 6 n ih)) _ _ _ h1
          have := mustF_len h3
          omega
        | 2, h => cases h; simp [Tree.size, sizes]; omega
        | k + 3, h => cases h; simp [Tree.size, sizes]; omega
theorem one_size : ∀ n, Siz (oneF n)
  | 0 => fun l t r h => by cases h
  | n + 1 => fun l t r h => by
    have ih := one_size n
    rw [oneF_eq] at h
    obtain ⟨i, r1, h0, h⟩ := bindR_ok h
    have s1 := mustF_len h0
    match i, h with
    | 0, h => cases h; simp [Tree.size, sizes]; omega
    | 1, h => cases h; simp [Tree.size, sizes]; omega
    | 2, h =>
      obtain ⟨v, r2, h1, h2⟩ := bindR_ok h
      cases h2
      have := numberF_len h1
      simp [Tree.size, sizes]; omega
    | 3, h =>
      obtain ⟨f, r2, h1, h2⟩ := bindR_ok h
      obtain ⟨j, r3, h3, h4⟩ := bindR_ok h2
      cases h4
      have := (Siz.severalF [111, 114] 9 n (Siz.severalF [97, 110, 100] 8 n ih)) _ _ _ h1
      have := mustF_len h3
      omega
    | k + 4, h =>
      obtain ⟨s, r2, h1, h2⟩ := bindR_ok h
      cases h2
      have := nameF_len h1
      simp [Tree.size, sizes]; omega
theorem condF_size (n : Nat) : Siz (condF n) := Siz.severalF _ _ _ (Siz.severalF _ _ _ (atom_size n))
theorem startF_size (n : Nat) : Siz (startF n) := Siz.severalF _ _ _ (Siz.severalF _ _ _ (one_size n))
theorem sizes_snoc (l : List Tree) (t : Tree) : sizes (l ++ [t]) = sizes l + t.size := by
  induction l with
  | nil => simp [sizes]
  | cons x l ih => simp only [List.cons_append, sizes, ih]; omega
theorem deeps_snoc (l : List Tree) (t : Tree) : deeps (l ++ [t]) = max (deeps l) t.deep := by
  induction l with
  | nil => simp [deeps]
  | cons x l ih => simp only [List.cons_append, deeps, ih]; omega
mutual
theorem deep_le_size : ∀ t : Tree, t.deep ≤ t.size
  | .mk op name cmp n ks => by
    have := deeps_le_sizes ks
    simp only [Tree.deep, Tree.size]
    omega
theorem deeps_le_sizes : ∀ l : List Tree, deeps l ≤ sizes l
  | [] => Nat.le_refl _
  | t :: r => by
    have := deep_le_size t
    have := deeps_le_sizes r
    simp only [deeps, sizes]
    omega
end
theorem size_pos (t : Tree) : 1 ≤ t.size := by cases t; simp [Tree.size]
theorem len_le_sizes : ∀ l : List Tree, l.length ≤ sizes l
  | [] => Nat.le_refl _
  | t :: r => by
    have := len_le_sizes r
    have := size_pos t
    simp only [sizes, List.length_cons]
    omega
theorem take_snoc {α : Type} {l : List α} {k : Nat} {x : α} (h : l[k]? = some x) : l.take (k + 1) = l.take k ++ [x] := by
  rw [List.take_add_one, h]; rfl
theorem sizes_take {l : List Tree} {k : Nat} {t : Tree} (h : l[k]? = some t) : sizes (l.take (k + 1)) = sizes (l.take k) + t.size := by rw [take_snoc h, sizes_snoc]
theorem deeps_take {l : List Tree} {k : Nat} {t : Tree} (h : l[k]? = some t) : deeps (l.take (k + 1)) = max (deeps (l.take k)) t.deep := by rw [take_snoc h, deeps_snoc]
theorem sizes_take_le (l : List Tree) (k : Nat) : sizes (l.take k) ≤ sizes l := by
  induction l generalizing k with
  | nil => simp [sizes]
  | cons x l ih =>
    cases k with
    | zero => simp [sizes]
    | succ k => simp only [List.take_succ_cons, sizes]; have := ih k; omega
theorem size_of_mem {l : List Tree} {k : Nat} {t : Tree} (h : l[k]? = some t) : t.size ≤ sizes l := by
  have := sizes_take h
  have := sizes_take_le l (k + 1)
  omega
/- a kid -/
theorem RdKids.get {fm : Bool} {S : Nat → Prop} {w : World} {b : Nat} : ∀ {ks : List Tree} {o k : Nat} {t : Tree}, RdKids fm S w b o ks → ks[k]? = some t → ∃ cs : List Value, (∀ j v, cs[j]? = some v → w.cell? ⟨b, o + k * tsz fm + j, none⟩ = some v) ∧ RdTree fm S w cs t
  | [], o, k, t, h, hk => by simp at hk
  | x :: ks, o, 0, t, h, hk => by
    simp at hk
    subst hk
    obtain ⟨⟨cs, h1, h2⟩, -⟩ := h
    exact ⟨cs, fun j v hv => by rw [Nat.zero_mul, Nat.add_zero]; exact h1 j v hv, h2⟩
  | x :: ks, o, k + 1, t, h, hk => by
    obtain ⟨cs, h1, h2⟩ := RdKids.get (k := k) h.2 (by simpa using hk)
    refine ⟨cs, fun j v hv => ?_, h2⟩
    have := h1 j v hv
    rwa [show o + (k + 1) * tsz fm + j = o + tsz fm + k * tsz fm + j by rw [Nat.add_mul]; omega]
end Go.Proofs.YtpagkakplmeokaaDoor
