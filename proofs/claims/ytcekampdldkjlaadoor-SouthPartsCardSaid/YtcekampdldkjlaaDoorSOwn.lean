/- What a parser takes for itself; texts by what their tokens are. -/
import Derived.Test.YtcekampdldkjlaaDoorSRes0
set_option linter.unusedVariables false
set_option linter.unusedSimpArgs false
namespace Go.Proofs.YtcekampdldkjlaaDoor
open Go.RowKit
/- what follows makes no difference -/
def Own {α : Type} (P : List Tok → R α) : Prop := ∀ l x r, P l = .ok (x, r) → ∃ u, l = u ++ r ∧ ∀ r', P (u ++ r') = .ok (x, r')
def OwnN {α : Type} (P : List Tok → R α) : Prop := ∀ l x r, P l = .ok (x, r) → ∃ t u, l = t :: (u ++ r) ∧ ∀ r', P (t :: (u ++ r')) = .ok (x, r')
def OwnA {α : Type} (Y : List Tok → List Tok → R α) : Prop := ∀ a l x r, Y a l = .ok (x, r) → ∃ u, l = u ++ r ∧ ∀ a' r', Y a' (u ++ r') = .ok (x, r')
theorem OwnN.own {α : Type} {P : List Tok → R α} (h : OwnN P) : Own P := by
  intro l x r hp
  obtain ⟨t, u, rfl, h2⟩ := h l x r hp
  exact ⟨t :: u, rfl, h2⟩
theorem Own.toA {α : Type} {P : List Tok → R α} (h : Own P) : OwnA (fun _ => P) := by
  intro a l x r hp
  obtain ⟨u, h1, h2⟩ := h l x r hp
  exact ⟨u, h1, fun _ => h2⟩
theorem Own.pure {α : Type} (x : α) : Own (fun l => (.ok (x, l) : R α)) := by
  intro l y r hp
  cases hp
  exact ⟨[], rfl, fun r' => rfl⟩
theorem Own.bind {α β : Type} {P : List Tok → R α} {Q : α → List Tok → R β} (hP : Own P) (hQ : ∀ x, Own (Q x)) : Own (fun l => bindR (P l) Q) := by
  intro l y r hp
  obtain ⟨x, r1, h1, h2⟩ := bind_ok hp
  obtain ⟨u, rfl, hu⟩ := hP l x r1 h1
  obtain ⟨v, rfl, hv⟩ := hQ x r1 y r h2
  refine ⟨u ++ v, by simp, fun r' => ?_⟩
  show bindR (P _) Q = _
  rw [List.append_assoc, hu]
  exact hv r'
theorem OwnN.bind {α β : Type} {P : List Tok → R α} {Q : α → List Tok → R β} (hP : OwnN P) (hQ : ∀ x, Own (Q x)) : OwnN (fun l => bindR (P l) Q) := by
  intro l y r hp
  obtain ⟨x, r1, h1, h2⟩ := bind_ok hp
  obtain ⟨t, u, rfl, hu⟩ := hP l x r1 h1
  obtain ⟨v, rfl, hv⟩ := hQ x r1 y r h2
  refine ⟨t, u ++ v, by simp, fun r' => ?_⟩
  show bindR (P _) Q = _
  rw [List.append_assoc, hu]
  exact hv r'
theorem OwnN.isL {α : Type} {w : List UInt8} {Y : List Tok → List Tok → R α} {no : List Tok → R α} (hY : OwnA Y) (hn : OwnN no) : OwnN (fun l => isF w l (Y l) no) := by
  intro l y r hp
  simp only [isF] at hp
  split at hp
  · rename_i hs
    obtain ⟨t, v, rfl, -, -⟩ := sees_cons hs
    obtain ⟨u, hv, h2⟩ := hY _ _ _ _ hp
    simp only [List.tail_cons] at hv
    subst hv
    refine ⟨t, u, rfl, fun r' => ?_⟩
    simp only [isF]
    rw [if_pos (by rw [← hs]; rfl)]
    exact h2 _ r'
  · rename_i hs
    obtain ⟨t, u, rfl, h2⟩ := hn _ _ _ hp
    refine ⟨t, u, rfl, fun r' => ?_⟩
    simp only [isF]
    have hs2 : ¬ seesF [w] (t :: (u ++ r')) = true := fun h => hs (by rw [← h]; rfl)
    rw [if_neg hs2]
    exact h2 r'
theorem OwnN.is {α : Type} {w : List UInt8} {yes no : List Tok → R α} (hy : Own yes) (hn : OwnN no) : OwnN (fun l => isF w l yes no) := OwnN.isL (Y := fun _ => yes) hy.toA hn
theorem OwnN.fail {α : Type} : OwnN (fun l => (failR l : R α)) := by
  intro l x r hp
  cases hp
theorem OwnN.must (w : List UInt8) : OwnN (mustF w) := OwnN.is (Own.pure ()) OwnN.fail
theorem OwnN.name : OwnN nameF := by
  intro l x r hp
  cases l with
  | nil => cases hp
  | cons t v =>
    simp only [nameF] at hp
    split at hp
    · rename_i hk
      cases hp
      exact ⟨t, [], rfl, fun r' => by simp only [nameF, List.nil_append]; rw [if_pos hk]⟩
    · cases hp
theorem OwnN.number : OwnN numberF := by
  intro l x r hp
  cases l with
  | nil => cases hp
  | cons t v =>
    simp only [numberF] at hp
    split at hp
    · rename_i hk
      cases hp
      exact ⟨t, [], rfl, fun r' => by simp only [numberF, List.nil_append]; rw [if_pos hk]⟩
    · cases hp
theorem OwnN.limit (m : Nat) : OwnN (limitF m) := by
  intro l x r hp
  unfold limitF at hp
  obtain ⟨v, r1, h1, h2⟩ := bind_ok hp
  split at h2
  · cases h2
  · rename_i hm
    cases h2
    obtain ⟨t, u, rfl, hu⟩ := OwnN.number _ _ _ h1
    refine ⟨t, u, rfl, fun r' => ?_⟩
    unfold limitF
    rw [hu]
    simp only [bindR]
    rw [if_neg hm]
theorem OwnN.choose (ws : List (List UInt8)) : OwnN (chooseF ws) := by
  intro l x r hp
  cases l with
  | nil => cases hp
  | cons t v =>
    simp only [chooseF] at hp
    split at hp
    · rename_i hk
      split at hp
      · rename_i i hi
        cases hp
        exact ⟨t, [], rfl, fun r' => by simp only [chooseF, List.nil_append]; rw [if_pos hk, hi]⟩
      · cases hp
    · cases hp
theorem OwnA.combine (op k : Nat) (st : Stack) : OwnA (fun a r => combineF op k a st r) := by
  intro a l x r hp
  rcases combine_cases op k st with ⟨st', h⟩ | ⟨e, he, h⟩
  · simp only [h] at hp
    cases hp
    exact ⟨[], rfl, fun a' r' => h a' r'⟩
  · simp only [h] at hp
    cases hp
theorem OwnA.group (op : Nat) (st : Stack) : OwnA (fun a r => groupF op a st r) := by
  intro a l x r hp
  simp only [groupF] at hp
  obtain ⟨k, r1, h1, h2⟩ := bind_ok hp
  split at h2
  · cases h2
  · rename_i hk
    obtain ⟨u, rfl, hu⟩ := OwnN.number.own l k r1 h1
    obtain ⟨v, rfl, hv⟩ := OwnA.combine op k st a r1 x r h2
    refine ⟨u ++ v, by simp, fun a' r' => ?_⟩
    simp only [groupF]
    rw [List.append_assoc, hu]
    simp only [bindR]
    rw [if_neg hk]
    exact hv a' r'
theorem Own.push (st : Stack) (t : Tree) : Own (pushF st t) := Own.pure _
theorem OwnN.test (st : Stack) (s : List UInt8) : OwnN (testF st s) := OwnN.bind (OwnN.limit _) fun _ => (OwnN.bind (OwnN.choose _) fun _ => Own.push _ _).own
theorem OwnN.item (st : Stack) : OwnN (itemF st) :=
  OwnN.is (Own.push _ _) <| OwnN.is (Own.push _ _) <| OwnN.isL (Y := fun l r => combineF 5 1 l st r) (OwnA.combine _ _ _) <|
  OwnN.isL (Y := fun l r => groupF 6 l st r) (OwnA.group _ _) <| OwnN.isL (Y := fun l r => groupF 7 l st r) (OwnA.group _ _) <|
  OwnN.bind OwnN.name fun s => (OwnN.is (Own.push _ _) (OwnN.test st s)).own
theorem OwnN.branch {α : Type} {c : List Tok → Bool} {A B : List Tok → R α} (hc : ∀ t v w, c (t :: v) = c (t :: w)) (hA : OwnN A) (hB : OwnN B) : OwnN (fun l => if c l then A l else B l) := by
  intro l y r hp
  simp only [] at hp
  split at hp
  · rename_i hs
    obtain ⟨t, u, rfl, h2⟩ := hA _ _ _ hp
    refine ⟨t, u, rfl, fun r' => ?_⟩
    simp only []
    rw [if_pos (by rw [← hs]; exact hc _ _ _)]
    exact h2 r'
  · rename_i hs
    obtain ⟨t, u, rfl, h2⟩ := hB _ _ _ hp
    refine ⟨t, u, rfl, fun r' => ?_⟩
    simp only []
    rw [if_neg (by rw [hc t _ (u ++ r)]; exact hs)]
    exact h2 r'
theorem OwnN.sitem (st : Stack) : OwnN (sitemF st) :=
  OwnN.is (Own.push _ _) <| OwnN.is (Own.push _ _) <|
  OwnN.isL (Y := fun l r => groupF 8 l st r) (OwnA.group _ _) <| OwnN.isL (Y := fun l r => groupF 9 l st r) (OwnA.group _ _) <|
  OwnN.branch (c := fun l => l.head?.any fun t => t.kind == 2) (fun _ _ _ => rfl)
    (OwnN.bind (OwnN.limit _) fun v => (OwnN.bind (OwnN.must _) fun _ => Own.push _ _).own)
    (OwnN.bind OwnN.name fun s => (OwnN.bind (OwnN.choose _) fun c => Own.push _ _).own)
/- n items of u turn one stack into another -/
def Runs (begins : List Tok → Bool) (item : Stack → List Tok → R Stack) : Nat → Stack → List Tok → Stack → Prop
  | 0, st, u, st' => u = [] ∧ st' = st
  | n + 1, st, u, st' => ∃ t v w s1, u = t :: (v ++ w) ∧ (∀ r, begins (t :: r) = true) ∧ (∀ r, seesF [[125]] (t :: r) = false) ∧ (∀ r, item st (t :: (v ++ r)) = .ok (s1, r)) ∧ Runs begins item n s1 w st'
theorem loop_runs {begins : List Tok → Bool} {item : Stack → List Tok → R Stack} (hb : ∀ t v w, begins (t :: v) = begins (t :: w)) (hi : ∀ st, OwnN (item st)) : ∀ (f : Nat) (st st' : Stack) (l r : List Tok), loopF begins item f st l = .ok (st', r) → ∃ n u, n < f ∧ l = u ++ r ∧ seesF [[125]] r = true ∧ Runs begins item n st u st'
  | 0, st, st', l, r, h => by cases h
  | f + 1, st, st', l, r, h => by
    unfold loopF at h
    split at h
    · rename_i hs
      cases h
      exact ⟨0, [], by omega, rfl, hs, rfl, rfl⟩
    rename_i hs
    split at h
    · rename_i hbg
      split at h
      · cases h
      · obtain ⟨s1, r1, h1, h2⟩ := bind_ok h
        obtain ⟨n, w, hn, rfl, hr, hw⟩ := loop_runs hb hi f _ _ _ _ h2
        obtain ⟨t, v, rfl, hv⟩ := hi st l s1 _ h1
        exact ⟨n + 1, t :: (v ++ w), by omega, by simp, hr, t, v, w, s1, rfl, fun r => by rw [← hbg]; exact hb _ _ _, fun r => by simpa [seesF] using hs, hv, hw⟩
    · cases h
theorem runs_loop {begins : List Tok → Bool} {item : Stack → List Tok → R Stack} : ∀ (n f : Nat) (st : Stack) (u : List Tok) (st' : Stack) (r : List Tok), Runs begins item n st u st' → loopF begins item (f + n + 1) st (u ++ r) = loopF begins item (f + 1) st' r
  | 0, f, st, u, st', r, h => by obtain ⟨rfl, rfl⟩ := h; rfl
  | n + 1, f, st, u, st', r, h => by
    obtain ⟨t, v, w, s1, rfl, h1, h2, h3, h4⟩ := h
    have ih := runs_loop n f s1 w st' r h4
    show loopF begins item ((f + n + 1) + 1) st (t :: (v ++ w) ++ r) = _
    rw [List.cons_append, List.append_assoc]
    rw [loopF, h2, h1, if_neg (by decide), if_pos rfl, if_neg (by omega), h3]
    exact ih
theorem runs_over {begins : List Tok → Bool} {item : Stack → List Tok → R Stack} : ∀ (n f : Nat) (st : Stack) (u : List Tok) (st' : Stack) (r : List Tok), Runs begins item n st u st' → f < n → ∃ s, loopF begins item (f + 1) st (u ++ r) = .error (2, s)
  | 0, f, st, u, st', r, h, hf => by omega
  | n + 1, f, st, u, st', r, h, hf => by
    obtain ⟨t, v, w, s1, rfl, h1, h2, h3, h4⟩ := h
    rw [List.cons_append, List.append_assoc]
    rw [loopF, h2, h1, if_neg (by decide), if_pos rfl]
    cases f with
    | zero => exact ⟨_, if_pos rfl⟩
    | succ f =>
      obtain ⟨s, hs⟩ := runs_over n f s1 w st' r h4 (by omega)
      rw [if_neg (by omega), h3]
      exact ⟨s, hs⟩
theorem Runs.app {begins : List Tok → Bool} {item : Stack → List Tok → R Stack} : ∀ {n m : Nat} {st s1 s2 : Stack} {u v : List Tok}, Runs begins item n st u s1 → Runs begins item m s1 v s2 → Runs begins item (n + m) st (u ++ v) s2
  | 0, m, st, s1, s2, u, v, h, h' => by obtain ⟨rfl, rfl⟩ := h; rw [Nat.zero_add]; exact h'
  | n + 1, m, st, s1, s2, u, v, h, h' => by
    obtain ⟨t, x, w, q, rfl, h1, h2, h3, h4⟩ := h
    rw [show n + 1 + m = (n + m) + 1 by omega]
    exact ⟨t, x, w ++ v, q, by simp, h1, h2, h3, Runs.app h4 h'⟩
def Frame (item : Stack → List Tok → R Stack) : Prop := ∀ base st l s1 r, item st l = .ok (s1, r) → item (base ++ st) l = .ok (base ++ s1, r)
theorem Runs.frame {begins : List Tok → Bool} {item : Stack → List Tok → R Stack} (hf : Frame item) (base : Stack) : ∀ {n : Nat} {st s1 : Stack} {u : List Tok}, Runs begins item n st u s1 → Runs begins item n (base ++ st) u (base ++ s1)
  | 0, st, s1, u, h => by obtain ⟨rfl, rfl⟩ := h; exact ⟨rfl, rfl⟩
  | n + 1, st, s1, u, h => by
    obtain ⟨t, x, w, q, rfl, h1, h2, h3, h4⟩ := h
    exact ⟨t, x, w, base ++ q, rfl, h1, h2, fun r => hf base _ _ _ _ (h3 r), Runs.frame hf base h4⟩
theorem combine_frame {op k : Nat} {a r r' : List Tok} {base st s1 : Stack} (h : combineF op k a st r = .ok (s1, r')) : combineF op k a (base ++ st) r = .ok (base ++ s1, r') := by
  unfold combineF at *
  split at h
  · cases h
  rename_i h1
  have hd : (base ++ st).drop ((base ++ st).length - k) = st.drop (st.length - k) := by
    rw [List.drop_append, List.drop_of_length_le (by simp; omega), List.nil_append]
    congr 1; simp; omega
  have ht : (base ++ st).take ((base ++ st).length - k) = base ++ st.take (st.length - k) := by
    rw [List.take_append, List.take_of_length_le (by simp; omega)]
    congr 2; simp; omega
  split at h
  · cases h
  rename_i h2
  rw [if_neg (by simp; omega), hd, ht, if_neg h2]
  cases h
  rw [List.append_assoc]
theorem group_frame {op : Nat} {a r r' : List Tok} {base st s1 : Stack} (h : groupF op a st r = .ok (s1, r')) : groupF op a (base ++ st) r = .ok (base ++ s1, r') := by
  unfold groupF at *
  obtain ⟨k, r1, h1, h2⟩ := bind_ok h
  rw [h1]
  simp only [bindR]
  split at h2
  · cases h2
  · rename_i hk
    rw [if_neg hk]
    exact combine_frame h2
theorem push_frame {t : Tree} {r r' : List Tok} {base st s1 : Stack} (h : pushF st t r = .ok (s1, r')) : pushF (base ++ st) t r = .ok (base ++ s1, r') := by
  unfold pushF at *
  cases h
  rw [List.append_assoc]
theorem is_frame {α : Type} {w : List UInt8} {l : List Tok} {y n y' n' : List Tok → R α} {x x' : α × List Tok} (h : isF w l y n = .ok x) (hy : y l.tail = .ok x → y' l.tail = .ok x') (hn : n l = .ok x → n' l = .ok x') : isF w l y' n' = .ok x' := by
  unfold isF at *
  split at h
  · rename_i hs; rw [if_pos hs]; exact hy h
  · rename_i hs; rw [if_neg hs]; exact hn h
theorem bind_frame {α β : Type} {p : R α} {f f' : α → List Tok → R β} {x x' : β × List Tok} (h : bindR p f = .ok x) (hf : ∀ a r, f a r = .ok x → f' a r = .ok x') : bindR p f' = .ok x' := by
  obtain ⟨a, r, rfl, h2⟩ := bind_ok h
  exact hf a r h2
theorem test_frame {s : List UInt8} {l r : List Tok} {base st s1 : Stack} (h : testF st s l = .ok (s1, r)) : testF (base ++ st) s l = .ok (base ++ s1, r) := by
  unfold testF at *
  exact bind_frame h fun _ _ h => bind_frame h fun _ _ h => push_frame h
theorem item_frame : Frame itemF := by
  intro base st l s1 r h
  unfold itemF at *
  refine is_frame h push_frame fun h => is_frame h push_frame fun h => is_frame h combine_frame fun h => is_frame h group_frame fun h => is_frame h group_frame fun h => ?_
  exact bind_frame h fun _ _ h => is_frame h push_frame test_frame
/- what stands in braces -/
theorem must_ok {w : List UInt8} {l r : List Tok} {x : Unit} (h : mustF w l = .ok (x, r)) : ∃ t, l = t :: r ∧ isWord t = true ∧ t.text = w := by
  unfold mustF isF at h
  split at h
  · rename_i hs
    obtain ⟨t, v, rfl, h1, h2⟩ := sees_cons hs
    cases h
    exact ⟨t, rfl, h1, by simpa using h2⟩
  · cases h
theorem sees_one {w : List UInt8} {t : Tok} (h1 : isWord t = true) (h2 : t.text = w) (r : List Tok) : seesF [w] (t :: r) = true := by
  simp [seesF, h1, h2]
theorem must_in {w : List UInt8} {t : Tok} (h1 : isWord t = true) (h2 : t.text = w) (r : List Tok) : mustF w (t :: r) = .ok ((), r) := by
  unfold mustF isF
  rw [if_pos (sees_one h1 h2 r)]
  rfl
theorem braces_out {begins : List Tok → Bool} {item : Stack → List Tok → R Stack} (hb : ∀ t v w, begins (t :: v) = begins (t :: w)) (hi : ∀ st, OwnN (item st)) {l r : List Tok} {x : Tree} (h : bracesF begins item l = .ok (x, r)) :
    ∃ t0 u t1 n d, l = t0 :: (u ++ t1 :: r) ∧ isWord t1 = true ∧ t1.text = [125] ∧ n ≤ 200 ∧ Runs begins item n [] u [(x, d)] := by
  unfold bracesF at h
  obtain ⟨_, r1, h0, h'⟩ := bind_ok h
  obtain ⟨st, r2, h1, h2⟩ := bind_ok h'
  obtain ⟨t0, rfl, -, -⟩ := must_ok h0
  obtain ⟨n, u, hn, rfl, hs, hr⟩ := loop_runs hb hi _ _ _ _ _ h1
  clear h h' h0 h1
  match st, h2, hr with
  | [], h2, _ => cases h2
  | [y], h2, hr =>
    obtain ⟨_, r3, h3, h4⟩ := bind_ok h2
    cases h4
    obtain ⟨t1, rfl, h4, h5⟩ := must_ok h3
    exact ⟨t0, u, t1, n, y.2, rfl, h4, h5, by omega, hr⟩
  | _ :: _ :: _, h2, _ => cases h2
theorem top_in {x : Tree} {d : Nat} {t1 : Tok} (h1 : isWord t1 = true) (h2 : t1.text = [125]) (r : List Tok) : topF [(x, d)] (t1 :: r) = .ok (x, r) := by
  unfold topF
  rw [must_in h1 h2]
  rfl
theorem loop_end {begins : List Tok → Bool} {item : Stack → List Tok → R Stack} {f : Nat} {st : Stack} {t1 : Tok} (h1 : isWord t1 = true) (h2 : t1.text = [125]) (r : List Tok) : loopF begins item (f + 1) st (t1 :: r) = .ok (st, t1 :: r) := by
  rw [loopF, if_pos (sees_one h1 h2 r)]
theorem braces_in {begins : List Tok → Bool} {item : Stack → List Tok → R Stack} {t0 t1 : Tok} {u : List Tok} {n d : Nat} {x : Tree} (a1 : isWord t0 = true) (a2 : t0.text = [123]) (h1 : isWord t1 = true) (h2 : t1.text = [125]) (hn : n ≤ 200) (hr : Runs begins item n [] u [(x, d)]) (r : List Tok) :
    bracesF begins item (t0 :: (u ++ t1 :: r)) = .ok (x, r) := by
  unfold bracesF
  rw [must_in a1 a2]
  simp only [bindR]
  obtain ⟨f, hf⟩ : ∃ f, 200 = f + n := ⟨200 - n, by omega⟩
  rw [show 201 = f + n + 1 by omega, runs_loop n f [] u _ (t1 :: r) hr, loop_end h1 h2]
  exact top_in h1 h2 r
/- the first of its kind -/
theorem split_one {p : Tok → Bool} {t t1 : Tok} (ht1 : p t1 = true) : ∀ {A u T r : List Tok}, A ++ t :: T = u ++ t1 :: r → (∀ x ∈ A, p x = false) → (∀ x ∈ T, p x = false) → u = A ∧ t1 = t ∧ r = T
  | [], [], T, r, h, _, _ => by simp at h; exact ⟨rfl, h.1.symm, h.2.symm⟩
  | [], y :: u, T, r, h, _, hT => by
    simp at h
    have := hT t1 (by rw [h.2]; simp)
    rw [ht1] at this; cases this
  | a :: A, [], T, r, h, hA, _ => by
    simp at h
    have := hA a (by simp)
    rw [h.1, ht1] at this; cases this
  | a :: A, y :: u, T, r, h, hA, hT => by
    simp at h
    obtain ⟨rfl, h⟩ := h
    obtain ⟨rfl, h1, h2⟩ := split_one ht1 h (fun x hx => hA x (by simp [hx])) hT
    exact ⟨rfl, h1, h2⟩
/- a text by its tokens -/
abbrev Core := Nat × List UInt8 × Nat
def tcore (l : List UInt8) : List Core × Bool := ((sc l 0).1.map core, (sc l 0).2.isSome)
def tok0 (c : Core) : Tok := ⟨c.1, c.2.1, c.2.2, 0⟩
def toks (K : List Core) : List Tok := K.map tok0
theorem toks_core (K : List Core) : (toks K).map core = K := by
  unfold toks
  rw [List.map_map]
  conv => rhs; rw [← List.map_id K]
  exact List.map_congr_left fun c _ => rfl
theorem toks_app (K M : List Core) : toks (K ++ M) = toks K ++ toks M := List.map_append
theorem tcore_at (l : List UInt8) (p : Nat) : ((sc l p).1.map core, (sc l p).2.isSome) = tcore l := by
  have := sc_shift l 0 p
  rw [Nat.zero_add] at this
  rw [this]
  unfold tcore
  simp only [List.map_map, Option.isSome_map]
  rfl
theorem tcore_join (a b : List UInt8) : tcore (a ++ 10 :: b) = if (tcore a).2 then ((tcore a).1, true) else ((tcore a).1 ++ (tcore b).1, (tcore b).2) := by
  have hb := tcore_at b (0 + a.length + 1)
  have hj := sc_join a b 0
  unfold tcore at *
  rw [hj]
  generalize (sc a 0) = x at *
  obtain ⟨x1, x2⟩ := x
  cases x2 with
  | some e => rfl
  | none =>
    simp only [Option.isSome_none, Bool.false_eq_true, if_false]
    rw [Prod.ext_iff] at hb
    simp only [] at hb
    rw [List.map_append, hb.1, hb.2]
theorem sc_symb {s : UInt8} (h1 : symB s = true) (h3 : wordB s = false) (h61 : s ≠ 61) (b : List UInt8) (a : List UInt8) (p : Nat) (ha : 35 ∉ a) : sc (a ++ s :: b) p =
    match (sc a p).2 with
    | some e => ((sc a p).1, some e)
    | none => ((sc a p).1 ++ ⟨3, [s], 0, p + a.length⟩ :: (sc b (p + a.length + 1)).1, (sc b (p + a.length + 1)).2) := by
  have hbl : blankB s = false := by
    cases h : blankB s with
    | false => rfl
    | true =>
      exfalso
      unfold blankB at h
      simp at h
      rcases h with (h | h) | h <;> subst h <;> revert h1 <;> decide
  have h35 : s ≠ 35 := by rintro rfl; revert h1; decide
  have hl : letterB s = false := by revert h3; unfold wordB; cases letterB s <;> simp
  have hd : digitB s = false := by revert h3; unfold wordB; cases digitB s <;> simp
  have hone : lexOne s b = .ok (3, 1, 0) := by unfold lexOne; simp [hl, hd, h1]
  revert ha
  refine sc_ind (M := fun a p => 35 ∉ a → sc (a ++ s :: b) p =
    match (sc a p).2 with
    | some e => ((sc a p).1, some e)
    | none => ((sc a p).1 ++ ⟨3, [s], 0, p + a.length⟩ :: (sc b (p + a.length + 1)).1, (sc b (p + a.length + 1)).2)) ?_ ?_ ?_ ?_ ?_ a.length a p (Nat.le_refl _)
  · intro p _
    rw [List.nil_append, sc_tok _ hbl h35 hone]
    simp [sc_nil]
  · intro c r p h ih ha
    rw [List.cons_append, sc_blank _ _ h, sc_blank _ _ h, ih (by simp at ha; exact ha.2)]
    rw [show p + 1 + r.length = p + (c :: r).length by simp; omega]
  · intro r p ih ha
    simp at ha
  · intro c r p e g1 g2 g3 ha
    rw [List.cons_append, sc_err _ g1 g2 g3, sc_err _ g1 g2 (by rw [lexOne_sep r b h3 h61]; exact g3)]
  · intro c r p j n v g1 g2 g3 ih ha
    have hn := lexOne_len g3
    rw [List.cons_append, sc_tok _ g1 g2 g3, sc_tok _ g1 g2 (by rw [lexOne_sep r b h3 h61]; exact g3), sep_drop _ _ _ _ (by omega), ih (fun hm => by simp at ha; exact ha.2 (List.mem_of_mem_drop hm))]
    rw [show p + n + (r.drop (n - 1)).length = p + (c :: r).length by simp; omega]
    have : (c :: (r ++ s :: b)).take n = (c :: r).take n := by
      rw [← List.cons_append, List.take_append_of_le_length (by simp; omega)]
    rw [this]
    cases h : (sc (r.drop (n - 1)) (p + n)).2 with
    | none => simp
    | some e => simp
theorem tcore_symb {s : UInt8} {a b : List UInt8} {K : List Core} (hK : tcore a = (K, false)) (ha : 35 ∉ a) (h1 : symB s = true) (h3 : wordB s = false) (h61 : s ≠ 61) : tcore (a ++ s :: b) = (K ++ (3, [s], 0) :: (tcore b).1, (tcore b).2) := by
  have hb := tcore_at b (0 + a.length + 1)
  have hj := sc_symb h1 h3 h61 b a 0 ha
  unfold tcore at *
  rw [hj]
  generalize (sc a 0) = x at *
  obtain ⟨x1, x2⟩ := x
  cases x2 with
  | some e => cases hK
  | none =>
    rw [Prod.ext_iff] at hb
    simp only [] at hb
    simp only [] at hK
    cases hK
    rw [List.map_append, List.map_cons, hb.1, hb.2]
    rfl
/- its bytes -/
theorem sc_bytes (l : List UInt8) (p : Nat) : ∀ t ∈ (sc l p).1, ∀ c ∈ t.text, c ∈ l := by
  refine sc_ind (M := fun l p => ∀ t ∈ (sc l p).1, ∀ c ∈ t.text, c ∈ l) ?_ ?_ ?_ ?_ ?_ l.length l p (Nat.le_refl _)
  · intro p t ht; simp [sc_nil] at ht
  · intro c r p h ih t ht x hx
    rw [sc_blank _ _ h] at ht
    exact List.mem_cons_of_mem _ (ih t ht x hx)
  · intro r p ih t ht x hx
    rw [sc_hash] at ht
    exact List.mem_cons_of_mem _ (List.mem_of_mem_drop (ih t ht x hx))
  · intro c r p e h1 h2 h3 t ht
    rw [sc_err _ h1 h2 h3] at ht
    simp at ht
  · intro c r p j n v h1 h2 h3 ih t ht x hx
    rw [sc_tok _ h1 h2 h3] at ht
    rcases List.mem_cons.1 ht with rfl | ht
    · exact List.mem_of_mem_take hx
    · exact List.mem_cons_of_mem _ (List.mem_of_mem_drop (ih t ht x hx))
theorem core_bytes {l : List UInt8} {c : Core} (h : c ∈ (tcore l).1) : ∀ x ∈ c.2.1, x ∈ l := by
  unfold tcore at h
  obtain ⟨t, ht, rfl⟩ := List.mem_map.1 h
  exact sc_bytes l 0 t ht
/- what Parse answers, by the tokens -/
theorem tcore_lex {l : List UInt8} {K : List Core} (hl : l.length ≤ 5000) (h : tcore l = (K, false)) : lexF l = .ok (sc l 0).1 ∧ (sc l 0).1.map core = K := by
  unfold tcore at h
  rw [Prod.ext_iff] at h
  simp only [] at h
  refine ⟨lexF_mk (Prod.ext rfl ?_) (by have := sc_count l 0; omega) (by omega), h.1⟩
  simpa using h.2
theorem core_ok {l : List UInt8} {K : List Core} (hl : l.length ≤ 5000) (h : tcore l = (K, false)) {p : Prov} {s : List Tok} (hp : pr (toks K) = .ok (p, s)) : outE l = 0 ∧ outP l = p := by
  obtain ⟨h1, h2⟩ := tcore_lex hl h
  have hsim := Sim.pr (toks K) (sc l 0).1 (by rw [toks_core, h2])
  rw [hp] at hsim
  generalize hx : pr (sc l 0).1 = x at hsim
  cases hsim with
  | ok _ r r' hr =>
    have := out_ok h1 hx
    exact ⟨this.2.1, this.1⟩
theorem core_err {l : List UInt8} {K : List Core} (hl : l.length ≤ 5000) (h : tcore l = (K, false)) {e : Nat} {s : List Tok} (hp : pr (toks K) = .error (e, s)) : outE l = e := by
  obtain ⟨h1, h2⟩ := tcore_lex hl h
  have hsim := Sim.pr (toks K) (sc l 0).1 (by rw [toks_core, h2])
  rw [hp] at hsim
  generalize hx : pr (sc l 0).1 = x at hsim
  cases hsim with
  | err _ s s' hr => exact (out_err h1 hx).2.1
theorem core_of_ok {l : List UInt8} (hl : l.length ≤ 5000) (h : outE l = 0) : (tcore l).2 = false ∧ ∃ s, pr (toks (tcore l).1) = .ok (outP l, s) := by
  have h0 : lexE l = 0 := by
    by_cases h0 : lexE l = 0
    · exact h0
    · exact absurd ((out_no h0).1.symm.trans h) h0
  have hlx := lexE_zero h0
  obtain ⟨hsc, -, -⟩ := lexF_ok hlx
  have h2 : (tcore l).2 = false := by unfold tcore; rw [hsc]; rfl
  refine ⟨h2, ?_⟩
  rcases hp : pr (toks (tcore l).1) with ⟨e, s⟩ | ⟨p, s⟩
  · exfalso
    have := core_err hl (K := (tcore l).1) (Prod.ext rfl h2) hp
    rcases hq : pr (lexT l) with ⟨e', s'⟩ | ⟨p, s'⟩
    · exact (pr_err_ne hq).1 ((out_err hlx hq).2.1.symm.trans h)
    · exact (pr_err_ne hp).1 (this.symm.trans h)
  · rw [(core_ok hl (K := (tcore l).1) (Prod.ext rfl h2) hp).2]
    exact ⟨s, rfl⟩
theorem pr_prov {l s : List Tok} {p : Prov} (h : pr l = .ok (p, s)) : provF l = .ok (p, []) := by
  obtain rfl := pr_nil h
  unfold pr endF at h
  obtain ⟨q, r, h1, h2⟩ := bind_ok h
  cases r with
  | nil => cases h2; exact h1
  | cons t r => cases h2
end Go.Proofs.YtcekampdldkjlaaDoor
