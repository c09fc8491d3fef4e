/- Plain laws of the parser: one token ahead; places make no difference. -/
import Derived.Test.YtcekampdldkjlaaGreatDoorNPlain
set_option linter.unusedVariables false
set_option linter.unusedSimpArgs false
namespace Go.Proofs.YtcekampdldkjlaaGreatDoor
/- One token ahead: what follows the token of an error makes no difference; a text that is cut at it. -/
def core (t : Tok) : Nat × List UInt8 × Nat := (t.kind, t.text, t.n)
def grp (t : Tok) : Prop := isWord t = true ∧ (t.text = [97, 108, 108] ∨ t.text = [97, 110, 121])
/- r' begins as r does, or is at its end -/
def Ahead (r' r : List Tok) : Prop := r' = [] ∨ ∃ t v v', r = t :: v ∧ r' = t :: v'
def EndR {α : Type} (x : R α) : Prop := x = .error (6, []) ∨ ∃ y, x = .ok (y, [])
structure Det {α : Type} (P : List Tok → R α) : Prop where
  nil : EndR (P [])
  ok : ∀ l x r, P l = .ok (x, r) → ∃ u, l = u ++ r ∧ ∀ r', Ahead r' r → P (u ++ r') = .ok (x, r')
  err : ∀ l e s, P l = .error (e, s) → (s = [] ∧ e = 6) ∨ ∃ u t v, s = t :: v ∧ l = u ++ t :: v ∧ e ≠ 0 ∧ e ≠ 6 ∧ EndR (P u) ∧ (¬ grp t → ∀ w, P (u ++ t :: w) = .error (e, t :: w))
theorem Ahead.app {r' r : List Tok} (h : Ahead r' r) (u : List Tok) : Ahead (u ++ r') (u ++ r) := by
  cases u with
  | nil => exact h
  | cons a u => exact .inr ⟨a, u ++ r, u ++ r', rfl, rfl⟩
theorem Ahead.cut (u : List Tok) (r : List Tok) : Ahead u (u ++ r) := by
  cases u with
  | nil => exact .inl rfl
  | cons a u => exact .inr ⟨a, u ++ r, u, rfl, rfl⟩
theorem Ahead.tok (u : List Tok) (t : Tok) (v w : List Tok) : Ahead (u ++ t :: w) (u ++ t :: v) := by
  cases u with
  | nil => exact .inr ⟨t, v, w, rfl, rfl⟩
  | cons a u => exact .inr ⟨a, u ++ t :: v, u ++ t :: w, rfl, rfl⟩
theorem Det.bind {α β : Type} {P : List Tok → R α} {Q : α → List Tok → R β} (hP : Det P) (hQ : ∀ x, Det (Q x)) : Det (fun l => bindR (P l) Q) where
  nil := by
    show EndR (bindR (P []) Q)
    rcases hP.nil with h | ⟨y, h⟩
    · rw [h]; exact .inl rfl
    · rw [h]; exact (hQ y).nil
  ok := fun l y r h => by
    cases hp : P l with
    | error e => rw [hp] at h; cases h
    | ok v =>
      obtain ⟨x, r1⟩ := v
      rw [hp] at h
      obtain ⟨u1, rfl, h1⟩ := hP.ok l x r1 hp
      obtain ⟨u2, rfl, h2⟩ := (hQ x).ok _ y r h
      refine ⟨u1 ++ u2, by simp, fun r' hr => ?_⟩
      show bindR (P (u1 ++ u2 ++ r')) Q = _
      rw [List.append_assoc, h1 _ (hr.app u2)]
      exact h2 r' hr
  err := fun l e s h => by
    cases hp : P l with
    | error v =>
      obtain ⟨e1, s1⟩ := v
      rw [hp] at h
      cases h
      rcases hP.err l e s hp with h0 | ⟨u, t, v, rfl, rfl, n0, n6, h1, h2⟩
      · exact .inl h0
      · refine .inr ⟨u, t, v, rfl, rfl, n0, n6, ?_, fun hg w => ?_⟩
        · show EndR (bindR (P u) Q)
          rcases h1 with h1 | ⟨y, h1⟩
          · rw [h1]; exact .inl rfl
          · rw [h1]; exact (hQ y).nil
        · show bindR (P (u ++ t :: w)) Q = _
          rw [h2 hg w]; rfl
    | ok v =>
      obtain ⟨x, r1⟩ := v
      rw [hp] at h
      obtain ⟨u1, rfl, h1⟩ := hP.ok l x r1 hp
      rcases (hQ x).err _ e s h with h0 | ⟨u, t, v, rfl, rfl, n0, n6, h3, h4⟩
      · exact .inl h0
      · refine .inr ⟨u1 ++ u, t, v, rfl, by simp, n0, n6, ?_, fun hg w => ?_⟩
        · show EndR (bindR (P (u1 ++ u)) Q)
          rw [h1 u (Ahead.cut u _)]
          exact h3
        · show bindR (P (u1 ++ u ++ t :: w)) Q = _
          rw [List.append_assoc, h1 _ (Ahead.tok u t v w)]
          exact h4 hg w
theorem Det.pure {α : Type} (x : α) : Det (fun l => (.ok (x, l) : R α)) where
  nil := .inr ⟨x, rfl⟩
  ok := fun l y r h => by cases h; exact ⟨[], rfl, fun r' _ => rfl⟩
  err := fun l e s h => by cases h
/- a parser of one token -/
theorem Det.head {α : Type} {P : List Tok → R α} (h0 : EndR (P [])) (h : ∀ t, (∃ x, ∀ r, P (t :: r) = .ok (x, r)) ∨ ∃ e, e ≠ 0 ∧ e ≠ 6 ∧ ∀ r, P (t :: r) = .error (e, t :: r)) : Det P where
  nil := h0
  ok := fun l x r hp => by
    cases l with
    | nil =>
      rcases h0 with h0 | ⟨y, h0⟩
      · rw [h0] at hp; cases hp
      · rw [h0] at hp
        cases hp
        refine ⟨[], rfl, fun r' hr => ?_⟩
        rcases hr with rfl | ⟨t, v, v', h1, _⟩
        · exact h0
        · cases h1
    | cons t l =>
      rcases h t with ⟨y, h1⟩ | ⟨e, _, _, h1⟩
      · rw [h1] at hp
        cases hp
        exact ⟨[t], rfl, fun r' _ => h1 r'⟩
      · rw [h1] at hp; cases hp
  err := fun l e s hp => by
    cases l with
    | nil =>
      rcases h0 with h0 | ⟨y, h0⟩
      · rw [h0] at hp; cases hp; exact .inl ⟨rfl, rfl⟩
      · rw [h0] at hp; cases hp
    | cons t l =>
      rcases h t with ⟨y, h1⟩ | ⟨e', n0, n6, h1⟩
      · rw [h1] at hp; cases hp
      · rw [h1] at hp
        cases hp
        exact .inr ⟨[], t, l, rfl, rfl, n0, n6, h0, fun _ w => h1 w⟩
theorem Det.fail {α : Type} : Det (fun l => (failR l : R α)) := Det.head (.inl rfl) fun t => .inr ⟨5, by decide, by decide, fun r => rfl⟩
theorem Det.name : Det nameF := Det.head (.inl rfl) fun t => by
  cases h : (t.kind == 1 && !keyF t.text) with
  | true => exact .inl ⟨t.text, fun r => by unfold nameF; simp only []; rw [h]; rfl⟩
  | false => exact .inr ⟨5, by decide, by decide, fun r => by unfold nameF; simp only []; rw [h]; rfl⟩
theorem Det.number : Det numberF := Det.head (.inl rfl) fun t => by
  cases h : (t.kind == 2) with
  | true => exact .inl ⟨t.n, fun r => by unfold numberF; simp only []; rw [h]; rfl⟩
  | false => exact .inr ⟨5, by decide, by decide, fun r => by unfold numberF; simp only []; rw [h]; rfl⟩
theorem Det.limit (m : Nat) : Det (limitF m) := Det.head (.inl rfl) fun t => by
  cases h : (t.kind == 2) with
  | true =>
    by_cases hm : m < t.n
    · exact .inr ⟨10, by decide, by decide, fun r => by unfold limitF numberF; simp only []; rw [h]; simp only [if_true, bindR]; rw [if_pos hm]⟩
    · exact .inl ⟨t.n, fun r => by unfold limitF numberF; simp only []; rw [h]; simp only [if_true, bindR]; rw [if_neg hm]⟩
  | false => exact .inr ⟨5, by decide, by decide, fun r => by unfold limitF numberF; simp only []; rw [h]; rfl⟩
theorem Det.choose (ws : List (List UInt8)) : Det (chooseF ws) := Det.head (.inl rfl) fun t => by
  cases h : (t.kind == 1) with
  | true =>
    cases hi : ws.idxOf? t.text with
    | some i => exact .inl ⟨i, fun r => by unfold chooseF; simp only []; rw [h, hi]; rfl⟩
    | none => exact .inr ⟨5, by decide, by decide, fun r => by unfold chooseF; simp only []; rw [h, hi]; rfl⟩
  | false => exact .inr ⟨5, by decide, by decide, fun r => by unfold chooseF; simp only []; rw [h]; rfl⟩
theorem sees_head (ws : List (List UInt8)) (t : Tok) (v w : List Tok) : seesF ws (t :: v) = seesF ws (t :: w) := rfl
/- a branch that the next token alone decides; A consumes -/
theorem Det.branch {α : Type} {c : List Tok → Bool} {A B : List Tok → R α} (hc0 : c [] = false) (hc : ∀ t v w, c (t :: v) = c (t :: w)) (hB : Det B)
    (hok : ∀ l x r, c l = true → A l = .ok (x, r) → ∃ t u, l = t :: u ++ r ∧ ∀ r', Ahead r' r → A (t :: u ++ r') = .ok (x, r'))
    (herr : ∀ l e s, c l = true → A l = .error (e, s) → (s = [] ∧ e = 6) ∨ (∃ a u t v, s = t :: v ∧ l = a :: u ++ t :: v ∧ e ≠ 0 ∧ e ≠ 6 ∧ EndR (A (a :: u)) ∧ (¬ grp t → ∀ w, A (a :: u ++ t :: w) = .error (e, t :: w))) ∨
      ∃ t v, s = t :: v ∧ l = t :: v ∧ e ≠ 0 ∧ e ≠ 6 ∧ (¬ grp t → ∀ w, A (t :: w) = .error (e, t :: w))) : Det (fun l => if c l = true then A l else B l) where
  nil := by simp only [hc0]; exact hB.nil
  ok := fun l x r h => by
    by_cases hl : c l = true
    · simp only [hl, if_true] at h
      obtain ⟨t, u, rfl, h1⟩ := hok l x r hl h
      refine ⟨t :: u, rfl, fun r' hr => ?_⟩
      have : c (t :: u ++ r') = true := by rw [← hl]; exact hc _ _ _
      simp only [this, if_true]
      exact h1 r' hr
    · simp only [hl] at h
      obtain ⟨u, rfl, h1⟩ := hB.ok l x r h
      refine ⟨u, rfl, fun r' hr => ?_⟩
      have : ¬ c (u ++ r') = true := by
        rcases hr.app u with h0 | ⟨t, v, v', h2, h3⟩
        · rw [h0, hc0]; decide
        · rw [h3, hc t v' v, ← h2]; exact hl
      rw [if_neg this]
      exact h1 r' hr
  err := fun l e s h => by
    by_cases hl : c l = true
    · simp only [hl, if_true] at h
      rcases herr l e s hl h with h0 | ⟨a, u, t, v, rfl, rfl, n0, n6, h1, h2⟩ | ⟨t, v, rfl, rfl, n0, n6, h2⟩
      · exact .inl h0
      · have hh : ∀ w, c (a :: w) = true := fun w => by rw [← hl]; exact hc _ _ _
        refine .inr ⟨a :: u, t, v, rfl, rfl, n0, n6, ?_, fun hg w => ?_⟩
        · simp only [hh, if_true]; exact h1
        · have := hh (u ++ t :: w)
          simp only [List.cons_append, this, if_true]
          exact h2 hg w
      · have hh : ∀ w, c (t :: w) = true := fun w => by rw [← hl]; exact hc _ _ _
        refine .inr ⟨[], t, v, rfl, rfl, n0, n6, ?_, fun hg w => ?_⟩
        · simp only [hc0]; exact hB.nil
        · simp only [List.nil_append, hh, if_true]
          exact h2 hg w
    · simp only [hl] at h
      rcases hB.err l e s h with h0 | ⟨u, t, v, rfl, rfl, n0, n6, h1, h2⟩
      · exact .inl h0
      · refine .inr ⟨u, t, v, rfl, rfl, n0, n6, ?_, fun hg w => ?_⟩
        · have : ¬ c u = true := by
            rcases Ahead.cut u (t :: v) with h0 | ⟨a, b, b', h3, h4⟩
            · rw [h0, hc0]; decide
            · rw [h4, hc a b' b, ← h3]; exact hl
          rw [if_neg this]; exact h1
        · have : ¬ c (u ++ t :: w) = true := by
            rcases Ahead.tok u t v w with h0 | ⟨a, b, b', h3, h4⟩
            · rw [h0, hc0]; decide
            · rw [h4, hc a b' b, ← h3]; exact hl
          rw [if_neg this]; exact h2 hg w
/- what a branch by a word needs of what follows the word t -/
structure DetT {α : Type} (t : Tok) (Q : List Tok → R α) : Prop where
  ok : ∀ l x r, Q l = .ok (x, r) → ∃ u, l = u ++ r ∧ ∀ r', Ahead r' r → Q (u ++ r') = .ok (x, r')
  err : ∀ l e s, Q l = .error (e, s) → (s = [] ∧ e = 6) ∨ (∃ u t v, s = t :: v ∧ l = u ++ t :: v ∧ e ≠ 0 ∧ e ≠ 6 ∧ EndR (Q u) ∧ (¬ grp t → ∀ w, Q (u ++ t :: w) = .error (e, t :: w))) ∨
    (s = t :: l ∧ e ≠ 0 ∧ e ≠ 6 ∧ (¬ grp t → ∀ w, Q w = .error (e, t :: w)))
theorem Det.toT {α : Type} {Q : List Tok → R α} (h : Det Q) (t : Tok) : DetT t Q := ⟨h.ok, fun l e s hq => (h.err l e s hq).elim .inl fun h => .inr (.inl h)⟩
theorem sees_cons {ws : List (List UInt8)} {l : List Tok} (h : seesF ws l = true) : ∃ t v, l = t :: v ∧ isWord t = true ∧ t.text ∈ ws := by
  cases l with
  | nil => cases h
  | cons t v =>
    simp [seesF] at h
    exact ⟨t, v, rfl, h.1, h.2⟩
theorem Det.isL {α : Type} {w : List UInt8} {Y : List Tok → List Tok → R α} {no : List Tok → R α} (hY : ∀ t, isWord t = true → t.text = w → DetT t (fun v => Y (t :: v) v)) (hno : Det no) : Det (fun l => isF w l (Y l) no) := by
  refine Det.branch (c := seesF [w]) (A := fun l => Y l l.tail) rfl (fun _ _ _ => rfl) hno ?_ ?_
  · intro l x r hl h
    obtain ⟨t, v, rfl, h1, h2⟩ := sees_cons hl
    obtain ⟨u, rfl, h3⟩ := (hY t h1 (by simpa using h2)).ok v x r h
    exact ⟨t, u, rfl, fun r' hr => h3 r' hr⟩
  · intro l e s hl h
    obtain ⟨t, v, rfl, h1, h2⟩ := sees_cons hl
    rcases (hY t h1 (by simpa using h2)).err v e s h with h0 | ⟨u, t', v', rfl, rfl, n0, n6, h3, h4⟩ | ⟨rfl, n0, n6, h4⟩
    · exact .inl h0
    · exact .inr (.inl ⟨t, u, t', v', rfl, rfl, n0, n6, h3, h4⟩)
    · exact .inr (.inr ⟨t, v, rfl, rfl, n0, n6, h4⟩)
theorem Det.is {α : Type} {w : List UInt8} {yes no : List Tok → R α} (hy : Det yes) (hno : Det no) : Det (fun l => isF w l yes no) := Det.isL (Y := fun _ => yes) (fun t _ _ => hy.toT t) hno
theorem Det.must (w : List UInt8) : Det (mustF w) := Det.is (Det.pure ()) Det.fail
theorem combine_cases (op k : Nat) (st : Stack) : (∃ st', ∀ a r, combineF op k a st r = .ok (st', r)) ∨ ∃ e, (e = 5 ∨ e = 2) ∧ ∀ a r, combineF op k a st r = .error (e, a) := by
  unfold combineF
  by_cases h1 : st.length < k
  · exact .inr ⟨5, .inl rfl, fun a r => by rw [if_pos h1]⟩
  · by_cases h2 : 20 < deepK (st.drop (st.length - k))
    · exact .inr ⟨2, .inr rfl, fun a r => by rw [if_neg h1, if_pos h2]⟩
    · exact .inl ⟨_, fun a r => by rw [if_neg h1, if_neg h2]⟩
theorem DetT.combine (op k : Nat) (st : Stack) (t : Tok) : DetT t (fun v => combineF op k (t :: v) st v) := by
  rcases combine_cases op k st with ⟨st', h⟩ | ⟨e, he, h⟩
  · exact ⟨fun l x r hp => (by rw [h] at hp; cases hp; exact ⟨[], rfl, fun r' _ => h _ _⟩), fun l e s hp => (by rw [h] at hp; cases hp)⟩
  · refine ⟨fun l x r hp => (by rw [h] at hp; cases hp), fun l e' s hp => ?_⟩
    rw [h] at hp
    cases hp
    exact .inr (.inr ⟨rfl, by omega, by omega, fun _ w => h _ _⟩)
theorem DetT.group (op : Nat) (st : Stack) (t : Tok) (hg : grp t) : DetT t (fun v => groupF op (t :: v) st v) := by
  have key : ∀ (a : Tok), (∃ x, ∀ r, groupF op (t :: a :: r) st (a :: r) = .ok (x, r)) ∨ (∀ r, groupF op (t :: a :: r) st (a :: r) = .error (5, a :: r)) ∨ ∃ e, e ≠ 0 ∧ e ≠ 6 ∧ ∀ r, groupF op (t :: a :: r) st (a :: r) = .error (e, t :: a :: r) := by
    intro a
    cases h : (a.kind == 2) with
    | false => exact .inr (.inl fun r => by unfold groupF numberF; simp only []; rw [h]; rfl)
    | true =>
      by_cases hk : a.n < 2
      · exact .inr (.inr ⟨5, by decide, by decide, fun r => by unfold groupF numberF; simp only []; rw [h]; simp only [if_true, bindR]; rw [if_pos hk]⟩)
      · rcases combine_cases op a.n st with ⟨st', h'⟩ | ⟨e, he, h'⟩
        · exact .inl ⟨st', fun r => by unfold groupF numberF; simp only []; rw [h]; simp only [if_true, bindR]; rw [if_neg hk, h']⟩
        · exact .inr (.inr ⟨e, by omega, by omega, fun r => by unfold groupF numberF; simp only []; rw [h]; simp only [if_true, bindR]; rw [if_neg hk, h']⟩)
  have h0 : groupF op [t] st [] = .error (6, []) := rfl
  refine ⟨fun l x r hp => ?_, fun l e s hp => ?_⟩
  · cases l with
    | nil => rw [h0] at hp; cases hp
    | cons a l =>
      rcases key a with ⟨y, h1⟩ | h1 | ⟨e, _, _, h1⟩
      · rw [h1] at hp; cases hp; exact ⟨[a], rfl, fun r' _ => h1 r'⟩
      · rw [h1] at hp; cases hp
      · rw [h1] at hp; cases hp
  · cases l with
    | nil => rw [h0] at hp; cases hp; exact .inl ⟨rfl, rfl⟩
    | cons a l =>
      rcases key a with ⟨y, h1⟩ | h1 | ⟨e', n0, n6, h1⟩
      · rw [h1] at hp; cases hp
      · rw [h1] at hp; cases hp
        exact .inr (.inl ⟨[], a, l, rfl, rfl, by decide, by decide, .inl h0, fun _ w => h1 w⟩)
      · rw [h1] at hp; cases hp
        exact .inr (.inr ⟨rfl, n0, n6, fun h => absurd hg h⟩)
theorem Det.test (st : Stack) (s : List UInt8) : Det (testF st s) := Det.bind (Det.limit _) fun _ => Det.bind (Det.choose _) fun _ => Det.pure _
theorem Det.item (st : Stack) : Det (itemF st) :=
  Det.is (Det.pure _) <| Det.is (Det.pure _) <| Det.isL (Y := fun l r => combineF 5 1 l st r) (fun t _ _ => DetT.combine 5 1 st t) <|
  Det.isL (Y := fun l r => groupF 6 l st r) (fun t h1 h2 => DetT.group 6 st t ⟨h1, .inl h2⟩) <| Det.isL (Y := fun l r => groupF 7 l st r) (fun t h1 h2 => DetT.group 7 st t ⟨h1, .inr h2⟩) <|
  Det.bind Det.name fun s => Det.is (Det.pure _) (Det.test st s)
theorem Det.day (st : Stack) : Det (fun l => bindR (limitF 1000000 l) fun v r => bindR (mustF [100, 97, 121] r) fun _ r => pushF st (.mk 3 [] 0 v []) r) := Det.bind (Det.limit _) fun _ => Det.bind (Det.must _) fun _ => Det.pure _
theorem limit_cons {m v : Nat} {l r : List Tok} (h : limitF m l = .ok (v, r)) : ∃ t, l = t :: r := by
  unfold limitF numberF at h
  cases l with
  | nil => cases h
  | cons t l =>
    simp only [] at h
    split at h
    · simp only [bindR] at h
      split at h
      · cases h
      · cases h; exact ⟨t, rfl⟩
    · cases h
theorem Det.sitem (st : Stack) : Det (sitemF st) := by
  refine Det.is (Det.pure _) <| Det.is (Det.pure _) <| Det.isL (Y := fun l r => groupF 8 l st r) (fun t h1 h2 => DetT.group 8 st t ⟨h1, .inl h2⟩) <| Det.isL (Y := fun l r => groupF 9 l st r) (fun t h1 h2 => DetT.group 9 st t ⟨h1, .inr h2⟩) ?_
  refine Det.branch (c := fun l => l.head?.any fun t => t.kind == 2) rfl (fun _ _ _ => rfl) (Det.bind Det.name fun s => Det.bind (Det.choose _) fun _ => Det.pure _) ?_ ?_
  · intro l x r hl h
    obtain ⟨u, rfl, h1⟩ := (Det.day st).ok l x r h
    cases u with
    | cons t u => exact ⟨t, u, rfl, h1⟩
    | nil =>
      exfalso
      have := h1 [] (.inl rfl)
      cases this
  · intro l e s hl h
    rcases (Det.day st).err l e s h with h0 | ⟨u, t, v, rfl, rfl, n0, n6, h1, h2⟩
    · exact .inl h0
    · cases u with
      | cons a u => exact .inr (.inl ⟨a, u, t, v, rfl, rfl, n0, n6, h1, h2⟩)
      | nil => exact .inr (.inr ⟨t, v, rfl, rfl, n0, n6, h2⟩)
/- the loop and its end in one -/
def loopT (begins : List Tok → Bool) (item : Stack → List Tok → R Stack) (f : Nat) (st : Stack) (l : List Tok) : R Tree := bindR (loopF begins item f st l) topF
theorem loopT_eq (begins : List Tok → Bool) (item : Stack → List Tok → R Stack) (f : Nat) (st : Stack) (l : List Tok) : loopT begins item (f + 1) st l =
    if seesF [[125]] l = true then topF st l else if begins l = true then (if f = 0 then .error (2, l) else bindR (item st l) fun st r => loopT begins item f st r) else failR l := by
  unfold loopT
  rw [loopF]
  by_cases h1 : seesF [[125]] l = true
  · rw [if_pos h1, if_pos h1]; rfl
  · rw [if_neg h1, if_neg h1]
    by_cases h2 : begins l = true
    · rw [if_pos h2, if_pos h2]
      by_cases h3 : f = 0
      · rw [if_pos h3, if_pos h3]; rfl
      · rw [if_neg h3, if_neg h3]
        cases item st l with
        | error e => rfl
        | ok v => rfl
    · rw [if_neg h2, if_neg h2]; rfl
theorem Det.congr {α : Type} {P Q : List Tok → R α} (h : ∀ l, P l = Q l) (hQ : Det Q) : Det P := by
  have : P = Q := funext h
  rw [this]; exact hQ
theorem top_cases (st : Stack) : (∃ x, ∀ t r, seesF [[125]] (t :: r) = true → topF st (t :: r) = .ok (x, r)) ∨ ∀ t r, seesF [[125]] (t :: r) = true → topF st (t :: r) = .error (5, t :: r) := by
  match st with
  | [] => exact .inr fun t r _ => rfl
  | [x] => exact .inl ⟨x.1, fun t r h => by unfold topF mustF isF; simp only [h, if_true]; rfl⟩
  | _ :: _ :: _ => exact .inr fun t r _ => rfl
theorem Det.loop {begins : List Tok → Bool} {item : Stack → List Tok → R Stack} (hb0 : begins [] = false) (hb : ∀ t v w, begins (t :: v) = begins (t :: w)) (hi : ∀ st, Det (item st)) (h6 : ∀ st, item st [] = .error (6, [])) : ∀ (f : Nat) (st : Stack), Det (loopT begins item (f + 1) st) := by
  intro f
  induction f with
  | zero =>
    intro st
    refine Det.congr (loopT_eq begins item 0 st) ?_
    refine Det.branch (c := seesF [[125]]) rfl (fun _ _ _ => rfl) ?_ ?_ ?_
    · refine Det.branch hb0 hb Det.fail ?_ ?_
      · intro l x r _ h; cases h
      · intro l e s hl h
        cases h
        cases l with
        | nil => rw [hb0] at hl; cases hl
        | cons t v => exact .inr (.inr ⟨t, v, rfl, rfl, by decide, by decide, fun _ w => rfl⟩)
    · intro l x r hl h
      obtain ⟨t, v, rfl, -, -⟩ := sees_cons hl
      rcases top_cases st with ⟨y, h1⟩ | h1
      · rw [h1 t v hl] at h; cases h; exact ⟨t, [], rfl, fun r' _ => h1 t r' hl⟩
      · rw [h1 t v hl] at h; cases h
    · intro l e s hl h
      obtain ⟨t, v, rfl, -, -⟩ := sees_cons hl
      rcases top_cases st with ⟨y, h1⟩ | h1
      · rw [h1 t v hl] at h; cases h
      · rw [h1 t v hl] at h; cases h
        exact .inr (.inr ⟨t, v, rfl, rfl, by decide, by decide, fun _ w => h1 t w hl⟩)
  | succ f ih =>
    intro st
    refine Det.congr (loopT_eq begins item (f + 1) st) ?_
    refine Det.branch (c := seesF [[125]]) rfl (fun _ _ _ => rfl) ?_ ?_ ?_
    · have hD : Det (fun l => bindR (item st l) fun st r => loopT begins item (f + 1) st r) := Det.bind (hi st) fun st => ih st
      refine Det.branch (A := fun l => if f + 1 = 0 then .error (2, l) else bindR (item st l) fun st r => loopT begins item (f + 1) st r) hb0 hb Det.fail ?_ ?_
      · intro l x r hl h
        rw [if_neg (by omega)] at h
        obtain ⟨u, rfl, h1⟩ := hD.ok l x r h
        cases u with
        | cons t u => exact ⟨t, u, rfl, fun r' hr => by rw [if_neg (by omega)]; exact h1 r' hr⟩
        | nil =>
          exfalso
          have := h1 [] (.inl rfl)
          simp only [List.nil_append, h6, bindR] at this
          cases this
      · intro l e s hl h
        rw [if_neg (by omega)] at h
        rcases hD.err l e s h with h0 | ⟨u, t, v, rfl, rfl, n0, n6, h1, h2⟩
        · exact .inl h0
        · cases u with
          | cons a u => exact .inr (.inl ⟨a, u, t, v, rfl, rfl, n0, n6, by rw [if_neg (by omega)]; exact h1, fun hg w => by rw [if_neg (by omega)]; exact h2 hg w⟩)
          | nil => exact .inr (.inr ⟨t, v, rfl, rfl, n0, n6, fun hg w => by rw [if_neg (by omega)]; exact h2 hg w⟩)
    · intro l x r hl h
      obtain ⟨t, v, rfl, -, -⟩ := sees_cons hl
      rcases top_cases st with ⟨y, h1⟩ | h1
      · rw [h1 t v hl] at h; cases h; exact ⟨t, [], rfl, fun r' _ => h1 t r' hl⟩
      · rw [h1 t v hl] at h; cases h
    · intro l e s hl h
      obtain ⟨t, v, rfl, -, -⟩ := sees_cons hl
      rcases top_cases st with ⟨y, h1⟩ | h1
      · rw [h1 t v hl] at h; cases h
      · rw [h1 t v hl] at h; cases h
        exact .inr (.inr ⟨t, v, rfl, rfl, by decide, by decide, fun _ w => h1 t w hl⟩)
theorem Det.formula : Det formulaF := Det.bind (Det.must _) fun _ => Det.loop rfl (fun _ _ _ => rfl) Det.item (fun _ => rfl) 200 []
theorem Det.start : Det startF := Det.bind (Det.must _) fun _ => Det.loop rfl (fun _ _ _ => rfl) Det.sitem (fun _ => rfl) 200 []
theorem Det.opt {α : Type} (w : List UInt8) (d : α) {p : List Tok → R α} (hp : Det p) : Det (optR w d p) := Det.is hp (Det.pure d)
theorem Det.kind : Det kindF := Det.is (Det.bind Det.name fun _ => Det.pure _) (Det.bind (Det.must _) fun _ => Det.bind Det.name fun _ => Det.bind (Det.must _) fun _ => Det.bind (Det.limit _) fun _ => Det.pure _)
theorem Det.nameG {α : Type} {g : List UInt8 → Nat} {K : List UInt8 → List Tok → R α} (hg : ∀ s, g s ≠ 6) (hK : ∀ s, g s = 0 → Det (K s)) : Det (fun l => bindR (nameF l) fun s r => guardR l (g s) (K s r)) := by
  have key : ∀ t, (∃ s, g s = 0 ∧ ∀ r, bindR (nameF (t :: r)) (fun s r' => guardR (t :: r) (g s) (K s r')) = K s r) ∨ ∃ e, e ≠ 0 ∧ e ≠ 6 ∧ ∀ r, bindR (nameF (t :: r)) (fun s r' => guardR (t :: r) (g s) (K s r')) = .error (e, t :: r) := by
    intro t
    cases h : (t.kind == 1 && !keyF t.text) with
    | false => exact .inr ⟨5, by decide, by decide, fun r => by unfold nameF; simp only []; rw [h]; rfl⟩
    | true =>
      have hn : ∀ r, nameF (t :: r) = .ok (t.text, r) := fun r => by unfold nameF; simp only []; rw [h]; rfl
      by_cases h0 : g t.text = 0
      · exact .inl ⟨t.text, h0, fun r => by rw [hn]; simp only [bindR, guardR]; rw [if_pos h0]⟩
      · exact .inr ⟨g t.text, h0, hg _, fun r => by rw [hn]; simp only [bindR, guardR]; rw [if_neg h0]⟩
  have hnil : bindR (nameF []) (fun s r' => guardR [] (g s) (K s r')) = .error (6, []) := rfl
  refine ⟨.inl hnil, fun l x r h => ?_, fun l e s h => ?_⟩
  · cases l with
    | nil => rw [hnil] at h; cases h
    | cons t l =>
      rcases key t with ⟨s, h0, h1⟩ | ⟨e, _, _, h1⟩
      · rw [h1] at h
        obtain ⟨u, rfl, h2⟩ := (hK s h0).ok l x r h
        exact ⟨t :: u, rfl, fun r' hr => by rw [List.cons_append, h1]; exact h2 r' hr⟩
      · rw [h1] at h; cases h
  · cases l with
    | nil => rw [hnil] at h; cases h; exact .inl ⟨rfl, rfl⟩
    | cons t l =>
      rcases key t with ⟨s', h0, h1⟩ | ⟨e', n0, n6, h1⟩
      · rw [h1] at h
        rcases (hK s' h0).err l e s h with h0 | ⟨u, t', v, rfl, rfl, n0, n6, h2, h3⟩
        · exact .inl h0
        · exact .inr ⟨t :: u, t', v, rfl, rfl, n0, n6, by rw [h1]; exact h2, fun hg w => by rw [List.cons_append, h1]; exact h3 hg w⟩
      · rw [h1] at h; cases h
        exact .inr ⟨[], t, l, rfl, rfl, n0, n6, .inl hnil, fun _ w => h1 w⟩
theorem excC_ne (out : List (List UInt8)) (s : List UInt8) : excC out s ≠ 6 := by unfold excC; split; decide; split <;> decide
theorem Det.names : ∀ (f : Nat) (out : List (List UInt8)), out.length + (f + 1) = 22 → out.length ≤ 20 → Det (namesF (f + 1) out)
  | 0, out, h, h2 => by omega
  | f + 1, out, h, h2 => Det.nameG (excC_ne out) fun s hs => by
    have : out.length ≠ 20 := by
      intro h3
      unfold excC at hs
      split at hs
      · cases hs
      · simp at hs
    exact Det.is (Det.pure _) (Det.names f (out ++ [s]) (by simp; omega) (by simp; omega))
theorem Det.exc : Det excF := Det.bind (Det.must _) fun _ => Det.names 21 [] rfl (by decide)
theorem Det.prov : Det provF :=
  Det.bind (Det.opt _ _ Det.formula) fun _ => Det.bind Det.kind fun _ => Det.bind (Det.opt _ _ Det.exc) fun _ => Det.bind (Det.opt _ _ Det.start) fun _ => Det.bind (Det.opt _ _ Det.start) fun _ =>
  Det.bind (Det.opt _ _ Det.start) fun _ => Det.bind (Det.must _) fun _ => Det.bind (Det.choose _) fun _ => Det.bind Det.name fun _ => Det.bind (Det.must _) fun _ => Det.pure _
theorem Det.pr : Det pr := Det.bind Det.prov fun x => Det.head (.inr ⟨x, rfl⟩) fun t => .inr ⟨5, by decide, by decide, fun r => rfl⟩
/- The places of tokens make no difference. -/
inductive SimR {α : Type} : R α → R α → Prop
  | ok (x : α) (r r' : List Tok) (h : r.map core = r'.map core) : SimR (.ok (x, r)) (.ok (x, r'))
  | err (e : Nat) (s s' : List Tok) (h : s.map core = s'.map core) : SimR (.error (e, s)) (.error (e, s'))
def Sim {α : Type} (P : List Tok → R α) : Prop := ∀ l l', l.map core = l'.map core → SimR (P l) (P l')
theorem SimR.bind {α β : Type} {a a' : R α} {Q : α → List Tok → R β} (h : SimR a a') (hQ : ∀ x, Sim (Q x)) : SimR (bindR a Q) (bindR a' Q) := by
  cases h with
  | ok x r r' h => exact hQ x r r' h
  | err e s s' h => exact .err e s s' h
theorem Sim.bind {α β : Type} {P : List Tok → R α} {Q : α → List Tok → R β} (hP : Sim P) (hQ : ∀ x, Sim (Q x)) : Sim (fun l => bindR (P l) Q) := fun l l' h => (hP l l' h).bind hQ
theorem Sim.pure {α : Type} (x : α) : Sim (fun l => (.ok (x, l) : R α)) := fun l l' h => .ok x l l' h
theorem Sim.congr {α : Type} {P Q : List Tok → R α} (h : ∀ l, P l = Q l) (hQ : Sim Q) : Sim P := by
  have : P = Q := funext h
  rw [this]; exact hQ
theorem sim_cases {l l' : List Tok} (h : l.map core = l'.map core) : (l = [] ∧ l' = []) ∨ ∃ t r t' r', l = t :: r ∧ l' = t' :: r' ∧ t.kind = t'.kind ∧ t.text = t'.text ∧ t.n = t'.n ∧ r.map core = r'.map core := by
  cases l with
  | nil => cases l' with
    | nil => exact .inl ⟨rfl, rfl⟩
    | cons t r => simp at h
  | cons t r => cases l' with
    | nil => simp at h
    | cons t' r' =>
      simp [core] at h
      exact .inr ⟨t, r, t', r', rfl, rfl, h.1.1, h.1.2.1, h.1.2.2, h.2⟩
theorem Sim.fail {α : Type} : Sim (fun l => (failR l : R α)) := by
  intro l l' h
  rcases sim_cases h with ⟨rfl, rfl⟩ | ⟨t, r, t', r', rfl, rfl, -, -, -, -⟩
  · exact .err 6 [] [] rfl
  · exact .err 5 _ _ h
theorem Sim.name : Sim nameF := by
  intro l l' h
  rcases sim_cases h with ⟨rfl, rfl⟩ | ⟨t, r, t', r', rfl, rfl, h1, h2, h3, h4⟩
  · exact .err 6 [] [] rfl
  · unfold nameF
    simp only []
    rw [h1, h2]
    split
    · exact .ok _ _ _ h4
    · exact .err 5 _ _ h
theorem Sim.number : Sim numberF := by
  intro l l' h
  rcases sim_cases h with ⟨rfl, rfl⟩ | ⟨t, r, t', r', rfl, rfl, h1, h2, h3, h4⟩
  · exact .err 6 [] [] rfl
  · unfold numberF
    simp only []
    rw [h1, h3]
    split
    · exact .ok _ _ _ h4
    · exact .err 5 _ _ h
theorem Sim.limit (m : Nat) : Sim (limitF m) := by
  intro l l' h
  unfold limitF
  have hn := Sim.number l l' h
  generalize numberF l = a at hn ⊢
  generalize numberF l' = b at hn ⊢
  cases hn with
  | ok x r r' h4 =>
    simp only [bindR]
    split
    · exact .err 10 _ _ h
    · exact .ok _ _ _ h4
  | err e s s' h4 => exact .err e _ _ h4
theorem Sim.choose (ws : List (List UInt8)) : Sim (chooseF ws) := by
  intro l l' h
  rcases sim_cases h with ⟨rfl, rfl⟩ | ⟨t, r, t', r', rfl, rfl, h1, h2, h3, h4⟩
  · exact .err 6 [] [] rfl
  · unfold chooseF
    simp only []
    rw [h1, h2]
    split
    · split
      · exact .ok _ _ _ h4
      · exact .err 5 _ _ h
    · exact .err 5 _ _ h
theorem sees_sim {ws : List (List UInt8)} {l l' : List Tok} (h : l.map core = l'.map core) : seesF ws l = seesF ws l' := by
  rcases sim_cases h with ⟨rfl, rfl⟩ | ⟨t, r, t', r', rfl, rfl, h1, h2, h3, h4⟩
  · rfl
  · unfold seesF isWord; simp only []; rw [h1, h2]
theorem tail_sim {l l' : List Tok} (h : l.map core = l'.map core) : l.tail.map core = l'.tail.map core := by
  rcases sim_cases h with ⟨rfl, rfl⟩ | ⟨t, r, t', r', rfl, rfl, h1, h2, h3, h4⟩
  · rfl
  · exact h4
theorem Sim.isL {α : Type} {w : List UInt8} {Y : List Tok → List Tok → R α} {no : List Tok → R α} (hY : ∀ a a' r r', a.map core = a'.map core → r.map core = r'.map core → SimR (Y a r) (Y a' r')) (hno : Sim no) : Sim (fun l => isF w l (Y l) no) := by
  intro l l' h
  show SimR (isF w l (Y l) no) (isF w l' (Y l') no)
  unfold isF
  rw [sees_sim h]
  split
  · exact hY _ _ _ _ h (tail_sim h)
  · exact hno _ _ h
theorem Sim.is {α : Type} {w : List UInt8} {yes no : List Tok → R α} (hy : Sim yes) (hno : Sim no) : Sim (fun l => isF w l yes no) := Sim.isL (Y := fun _ => yes) (fun _ _ r r' _ h => hy r r' h) hno
theorem Sim.must (w : List UInt8) : Sim (mustF w) := Sim.is (Sim.pure ()) Sim.fail
theorem sim_combine (op k : Nat) (st : Stack) {a a' r r' : List Tok} (ha : a.map core = a'.map core) (hr : r.map core = r'.map core) : SimR (combineF op k a st r) (combineF op k a' st r') := by
  unfold combineF
  split
  · exact .err 5 _ _ ha
  · split
    · exact .err 2 _ _ ha
    · exact .ok _ _ _ hr
theorem sim_group (op : Nat) (st : Stack) {a a' r r' : List Tok} (ha : a.map core = a'.map core) (hr : r.map core = r'.map core) : SimR (groupF op a st r) (groupF op a' st r') := by
  unfold groupF
  have hn := Sim.number r r' hr
  generalize numberF r = x at hn ⊢
  generalize numberF r' = y at hn ⊢
  cases hn with
  | err e s s' h => exact .err e _ _ h
  | ok k v v' h =>
    simp only [bindR]
    split
    · exact .err 5 _ _ ha
    · exact sim_combine op k st ha h
theorem Sim.test (st : Stack) (s : List UInt8) : Sim (testF st s) := Sim.bind (Sim.limit _) fun _ => Sim.bind (Sim.choose _) fun _ => Sim.pure _
theorem Sim.item (st : Stack) : Sim (itemF st) :=
  Sim.is (Sim.pure _) <| Sim.is (Sim.pure _) <| Sim.isL (Y := fun l r => combineF 5 1 l st r) (fun _ _ _ _ => sim_combine 5 1 st) <| Sim.isL (Y := fun l r => groupF 6 l st r) (fun _ _ _ _ => sim_group 6 st) <|
  Sim.isL (Y := fun l r => groupF 7 l st r) (fun _ _ _ _ => sim_group 7 st) <| Sim.bind Sim.name fun s => Sim.is (Sim.pure _) (Sim.test st s)
theorem head_sim {l l' : List Tok} (h : l.map core = l'.map core) : (l.head?.any fun t => t.kind == 2) = (l'.head?.any fun t => t.kind == 2) := by
  rcases sim_cases h with ⟨rfl, rfl⟩ | ⟨t, r, t', r', rfl, rfl, h1, h2, h3, h4⟩
  · rfl
  · simp [h1]
theorem Sim.sitem (st : Stack) : Sim (sitemF st) := by
  refine Sim.is (Sim.pure _) <| Sim.is (Sim.pure _) <| Sim.isL (Y := fun l r => groupF 8 l st r) (fun _ _ _ _ => sim_group 8 st) <| Sim.isL (Y := fun l r => groupF 9 l st r) (fun _ _ _ _ => sim_group 9 st) ?_
  intro l l' h
  simp only []
  rw [head_sim h]
  split
  · exact (Sim.bind (Sim.limit _) fun _ => Sim.bind (Sim.must _) fun _ => Sim.pure _) l l' h
  · exact (Sim.bind Sim.name fun s => Sim.bind (Sim.choose _) fun _ => Sim.pure _) l l' h
theorem isName_sim {l l' : List Tok} (h : l.map core = l'.map core) : isNameF l = isNameF l' := by
  rcases sim_cases h with ⟨rfl, rfl⟩ | ⟨t, r, t', r', rfl, rfl, h1, h2, h3, h4⟩
  · rfl
  · unfold isNameF; simp only []; rw [h1, h2]
theorem beginsF_sim {l l' : List Tok} (h : l.map core = l'.map core) : beginsF l = beginsF l' := by unfold beginsF; rw [isName_sim h, sees_sim h]
theorem beginsS_sim {l l' : List Tok} (h : l.map core = l'.map core) : beginsS l = beginsS l' := by unfold beginsS; rw [isName_sim h, sees_sim h, head_sim h]
theorem Sim.loop {begins : List Tok → Bool} {item : Stack → List Tok → R Stack} (hb : ∀ l l', l.map core = l'.map core → begins l = begins l') (hi : ∀ st, Sim (item st)) : ∀ (f : Nat) (st : Stack), Sim (loopF begins item f st)
  | 0, st => fun l l' h => .err 0 _ _ h
  | f + 1, st => fun l l' h => by
    rw [loopF, loopF, sees_sim h, hb l l' h]
    split
    · exact .ok _ _ _ h
    · split
      · split
        · exact .err 2 _ _ h
        · exact (hi st l l' h).bind fun st => Sim.loop hb hi f st
      · exact Sim.fail l l' h
theorem Sim.top (st : Stack) : Sim (topF st) := by
  intro l l' h
  unfold topF
  split
  · exact (Sim.bind (Sim.must _) fun _ => Sim.pure _) l l' h
  · exact Sim.fail l l' h
theorem Sim.formula : Sim formulaF := Sim.bind (Sim.must _) fun _ => Sim.bind (Sim.loop (fun _ _ => beginsF_sim) Sim.item 201 []) Sim.top
theorem Sim.start : Sim startF := Sim.bind (Sim.must _) fun _ => Sim.bind (Sim.loop (fun _ _ => beginsS_sim) Sim.sitem 201 []) Sim.top
theorem Sim.opt {α : Type} (w : List UInt8) (d : α) {p : List Tok → R α} (hp : Sim p) : Sim (optR w d p) := Sim.is hp (Sim.pure d)
theorem Sim.kind : Sim kindF := Sim.is (Sim.bind Sim.name fun _ => Sim.pure _) (Sim.bind (Sim.must _) fun _ => Sim.bind Sim.name fun _ => Sim.bind (Sim.must _) fun _ => Sim.bind (Sim.limit _) fun _ => Sim.pure _)
theorem Sim.names : ∀ (f : Nat) (out : List (List UInt8)), Sim (namesF f out)
  | 0, out => fun l l' h => .err 0 _ _ h
  | f + 1, out => fun l l' h => by
    unfold namesF
    have hn := Sim.name l l' h
    generalize nameF l = a at hn ⊢
    generalize nameF l' = b at hn ⊢
    cases hn with
    | err e s s' h1 => exact .err e _ _ h1
    | ok x r r' h1 =>
      simp only [bindR, guardR]
      split
      · exact (Sim.is (Sim.pure _) (Sim.names f (out ++ [x]))) r r' h1
      · exact .err _ _ _ h
theorem Sim.exc : Sim excF := Sim.bind (Sim.must _) fun _ => Sim.names 22 []
theorem Sim.prov : Sim provF :=
  Sim.bind (Sim.opt _ _ Sim.formula) fun _ => Sim.bind Sim.kind fun _ => Sim.bind (Sim.opt _ _ Sim.exc) fun _ => Sim.bind (Sim.opt _ _ Sim.start) fun _ => Sim.bind (Sim.opt _ _ Sim.start) fun _ =>
  Sim.bind (Sim.opt _ _ Sim.start) fun _ => Sim.bind (Sim.must _) fun _ => Sim.bind (Sim.choose _) fun _ => Sim.bind Sim.name fun _ => Sim.bind (Sim.must _) fun _ => Sim.pure _
theorem Sim.pr : Sim pr := Sim.bind Sim.prov fun x => by
  intro l l' h
  rcases sim_cases h with ⟨rfl, rfl⟩ | ⟨t, r, t', r', rfl, rfl, -, -, -, -⟩
  · exact .ok x [] [] rfl
  · exact .err 5 _ _ h
end Go.Proofs.YtcekampdldkjlaaGreatDoor
