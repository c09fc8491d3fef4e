/- Plain laws of the lexer and the parser. -/
import Derived.Test.YtbicmjmcdnkjhaaGreatDoorJP1
set_option linter.unusedVariables false
set_option linter.unusedSimpArgs false
namespace Go.Proofs.YtbicmjmcdnkjhaaGreatDoor
/- What a parser of this kind answers depends on the tokens that it consumes, and on the next one alone. -/
def core (t : Tok) : Nat × List UInt8 × Nat := (t.kind, t.text, t.n)
def deaf (A : List (List UInt8)) (t : Tok) : Prop := ¬ t.kind = 2 ∧ ¬ (t.kind = 1 ∧ keyF t.text = false) ∧ ¬ (isWord t = true ∧ t.text ∈ A)
def Less (A : List (List UInt8)) (h' h : List Tok) : Prop :=
  h' = [] ∨ (∃ t r t' r', h = t :: r ∧ h' = t' :: r' ∧ core t = core t') ∨ (∃ t' r', h' = t' :: r' ∧ deaf A t')
/- behind what is read no word of F is asked for in vain -/
def LessF (F : List (List UInt8)) (h' h : List Tok) : Prop :=
  h' = [] ∨ (∃ t r t' r', h = t :: r ∧ h' = t' :: r' ∧ core t = core t') ∨ (∃ t' r', h' = t' :: r' ∧ ¬ (isWord t' = true ∧ t'.text ∈ F))
theorem Less.toF {A F : List (List UInt8)} (hs : ∀ x ∈ F, x ∈ A) {h' h : List Tok} (hl : Less A h' h) : LessF F h' h := by
  rcases hl with h0 | h1 | ⟨t', r', h2, h3⟩
  · exact .inl h0
  · exact .inr (.inl h1)
  · exact .inr (.inr ⟨t', r', h2, fun hh => h3.2.2 ⟨hh.1, hs _ hh.2⟩⟩)
def SameT (k : Nat) (l l' : List Tok) : Prop := k ≤ l.length ∧ k ≤ l'.length ∧ (l.take k).map core = (l'.take k).map core
def recode (e : Nat) (s : List Tok) : Nat := if e = 5 ∨ e = 6 then failC s else e
structure Det {α : Type} (A F : List (List UInt8)) (P : List Tok → R α) : Prop where
  sub : ∀ x ∈ F, x ∈ A
  ok : ∀ l x r, P l = .ok (x, r) → ∃ k, k ≤ l.length ∧ r = l.drop k ∧ ∀ l', SameT k l l' → LessF F (l'.drop k) (l.drop k) → P l' = .ok (x, l'.drop k)
  err : ∀ l e s, P l = .error (e, s) → ∃ j k, j ≤ k ∧ k ≤ l.length ∧ s = l.drop j ∧ ((e = 5 ∨ e = 6) → j = k ∧ e = failC s) ∧
    ∀ l', SameT k l l' → Less A (l'.drop k) (l.drop k) → P l' = .error (recode e (l'.drop j), l'.drop j)
theorem failC_56 (l : List Tok) : failC l = 5 ∨ failC l = 6 := by cases l <;> simp [failC]
theorem SameT.head {k : Nat} {t : Tok} {r l' : List Tok} (h : SameT (k + 1) (t :: r) l') : ∃ t' r', l' = t' :: r' ∧ core t = core t' ∧ SameT k r r' := by
  obtain ⟨h1, h2, h3⟩ := h
  cases l' with
  | nil => simp at h2
  | cons t' r' =>
    simp at h1 h2 h3
    exact ⟨t', r', rfl, h3.1, h1, h2, by simpa using h3.2⟩
theorem SameT.split {k m : Nat} {l l' : List Tok} (h : SameT (k + m) l l') : SameT k l l' ∧ SameT m (l.drop k) (l'.drop k) := by
  obtain ⟨h1, h2, h3⟩ := h
  refine ⟨⟨by omega, by omega, ?_⟩, ⟨by simp; omega, by simp; omega, ?_⟩⟩
  · have := congrArg (List.take k) h3
    simpa [← List.map_take, List.take_take, Nat.min_eq_left (Nat.le_add_right k m)] using this
  · have := congrArg (List.drop k) h3
    simpa [← List.map_drop, List.drop_take, Nat.add_sub_cancel_left] using this
theorem SameT.zero (l l' : List Tok) : SameT 0 l l' := ⟨Nat.zero_le _, Nat.zero_le _, by simp⟩
theorem SameT.less {A : List (List UInt8)} {m : Nat} {l l' : List Tok} (h : SameT m l l') (hm : 0 < m) : Less A l' l := by
  obtain ⟨k, rfl⟩ : ∃ k, m = k + 1 := ⟨m - 1, by omega⟩
  cases l with
  | nil => have := h.1; simp at this
  | cons t r =>
    obtain ⟨t', r', rfl, h1, _⟩ := h.head
    exact .inr (.inl ⟨t, r, t', r', rfl, rfl, h1⟩)
theorem SameT.lessF {F : List (List UInt8)} {m : Nat} {l l' : List Tok} (h : SameT m l l') (hm : 0 < m) : LessF F l' l := (h.less (A := F) hm).toF (fun _ h => h)
theorem lessF_mid {F : List (List UInt8)} {k m : Nat} {l l' : List Tok} (hs : SameT (k + m) l l') (hl : LessF F (l'.drop (k + m)) (l.drop (k + m))) : LessF F (l'.drop k) (l.drop k) := by
  rcases Nat.eq_zero_or_pos m with rfl | hm
  · exact hl
  · exact hs.split.2.lessF hm
/- the head of what follows k tokens, where m further ones are consumed -/
theorem less_mid {A : List (List UInt8)} {k m : Nat} {l l' : List Tok} (hs : SameT (k + m) l l') (hl : Less A (l'.drop (k + m)) (l.drop (k + m))) : Less A (l'.drop k) (l.drop k) := by
  rcases Nat.eq_zero_or_pos m with rfl | hm
  · exact hl
  · exact hs.split.2.less hm
theorem Det.pure {α : Type} {A F : List (List UInt8)} (hs : ∀ x ∈ F, x ∈ A) (x : α) : Det A F (fun l => .ok (x, l)) where
  sub := hs
  ok := fun l y r h => by cases h; exact ⟨0, Nat.zero_le _, rfl, fun l' _ _ => rfl⟩
  err := fun l e s h => by cases h
theorem Det.fail {α : Type} {A F : List (List UInt8)} (hs : ∀ x ∈ F, x ∈ A) : Det A F (fun l => (failR l : R α)) where
  sub := hs
  ok := fun l y r h => by cases h
  err := fun l e s h => by
    cases h
    exact ⟨0, 0, Nat.le_refl _, Nat.zero_le _, rfl, fun _ => ⟨rfl, rfl⟩, fun l' _ _ => by simp [recode, failC_56, failR]⟩
theorem Det.hard {α : Type} {A F : List (List UInt8)} (hs : ∀ x ∈ F, x ∈ A) (e : Nat) (he : ¬ (e = 5 ∨ e = 6)) : Det A F (fun l => (.error (e, l) : R α)) where
  sub := hs
  ok := fun l y r h => by cases h
  err := fun l e' s h => by
    cases h
    exact ⟨0, 0, Nat.le_refl _, Nat.zero_le _, rfl, fun h => absurd h he, fun l' _ _ => by simp [recode, he]⟩
theorem Det.bind {α β : Type} {A F : List (List UInt8)} {P : List Tok → R α} {Q : α → List Tok → R β} (hP : Det A F P) (hQ : ∀ x, Det A F (Q x)) : Det A F (fun l => bindR (P l) Q) where
  sub := hP.sub
  ok := fun l y r h => by
    cases hp : P l with
    | error e => rw [hp] at h; cases h
    | ok v =>
      obtain ⟨x, r1⟩ := v
      rw [hp] at h
      obtain ⟨k, hk, rfl, h1⟩ := hP.ok l x r1 hp
      obtain ⟨m, hm, rfl, h2⟩ := (hQ x).ok _ y r h
      simp at hm
      refine ⟨k + m, by omega, by rw [List.drop_drop], fun l' hs hl => ?_⟩
      show bindR (P l') Q = _
      rw [h1 l' hs.split.1 (lessF_mid hs hl)]
      have := h2 (l'.drop k) hs.split.2 (by rw [List.drop_drop, List.drop_drop]; exact hl)
      rw [List.drop_drop] at this
      exact this
  err := fun l e s h => by
    cases hp : P l with
    | error v =>
      obtain ⟨e1, s1⟩ := v
      rw [hp] at h
      cases h
      obtain ⟨j, k, hjk, hk, rfl, h0, h1⟩ := hP.err l e s hp
      refine ⟨j, k, hjk, hk, rfl, h0, fun l' hs hl => ?_⟩
      show bindR (P l') Q = _
      rw [h1 l' hs hl]; rfl
    | ok v =>
      obtain ⟨x, r1⟩ := v
      rw [hp] at h
      obtain ⟨k, hk, rfl, h1⟩ := hP.ok l x r1 hp
      obtain ⟨j, m, hjm, hm, rfl, h0, h2⟩ := (hQ x).err _ e s h
      simp at hm
      refine ⟨k + j, k + m, by omega, by omega, by rw [List.drop_drop], fun he => ?_, fun l' hs hl => ?_⟩
      · obtain ⟨a, b⟩ := h0 he
        exact ⟨by omega, b⟩
      · show bindR (P l') Q = _
        rw [h1 l' hs.split.1 ((less_mid hs hl).toF hP.sub)]
        have := h2 (l'.drop k) hs.split.2 (by rw [List.drop_drop, List.drop_drop]; exact hl)
        rw [List.drop_drop] at this
        exact this
theorem Det.guard {α β : Type} {A F : List (List UInt8)} {P : List Tok → R α} {Q : α → List Tok → R β} (g : α → Nat) (hg : ∀ x, ¬ (g x = 5 ∨ g x = 6)) (hP : Det A F P) (hQ : ∀ x, Det A F (Q x)) :
    Det A F (fun l => bindR (P l) fun x r => guardR l (g x) (Q x r)) where
  sub := hP.sub
  ok := fun l y r h => by
    obtain ⟨k, hk, hr, h1⟩ := (Det.bind hP hQ).ok l y r (by
      cases hp : P l with
      | error e => rw [hp] at h; cases h
      | ok v =>
        obtain ⟨x, r1⟩ := v
        rw [hp] at h
        simp only [bindR, guardR] at h ⊢
        split at h
        · exact h
        · cases h)
    refine ⟨k, hk, hr, fun l' hs hl => ?_⟩
    have h2 := h1 l' hs hl
    cases hp : P l with
    | error e => rw [hp] at h; cases h
    | ok v =>
      obtain ⟨x, r1⟩ := v
      obtain ⟨k1, hk1, e1, h3⟩ := hP.ok l x r1 hp
      have hx : g x = 0 := by
        rw [hp] at h
        simp only [bindR, guardR] at h
        split at h
        · assumption
        · cases h
      rw [hp] at h
      simp only [bindR, guardR, hx, if_true] at h
      obtain ⟨m, hm, e2, h4⟩ := (hQ x).ok _ y r h
      have hkm : r = l.drop (k1 + m) := by rw [e2, e1, List.drop_drop]
      have hlen : l.length - k = l.length - (k1 + m) := by
        have := congrArg List.length (hr.symm.trans hkm)
        simpa using this
      have hm' : m ≤ l.length - k1 := by rw [e1] at hm; simpa using hm
      have hk' : k = k1 + m := by omega
      subst hk'
      show bindR (P l') _ = _
      have h5 := h3 l' hs.split.1 (lessF_mid hs hl)
      rw [h5]
      simp only [bindR, guardR, hx, if_true]
      have h6 := h2
      rw [h5] at h6
      exact h6
  err := fun l e s h => by
    cases hp : P l with
    | error v =>
      obtain ⟨e1, s1⟩ := v
      rw [hp] at h
      cases h
      obtain ⟨j, k, hjk, hk, rfl, h0, h1⟩ := hP.err l e s hp
      refine ⟨j, k, hjk, hk, rfl, h0, fun l' hs hl => ?_⟩
      show bindR (P l') _ = _
      rw [h1 l' hs hl]; rfl
    | ok v =>
      obtain ⟨x, r1⟩ := v
      rw [hp] at h
      obtain ⟨k, hk, rfl, h1⟩ := hP.ok l x r1 hp
      by_cases hx : g x = 0
      · simp only [bindR, guardR, hx, if_true] at h
        obtain ⟨j, m, hjm, hm, rfl, h0, h2⟩ := (hQ x).err _ e s h
        simp at hm
        refine ⟨k + j, k + m, by omega, by omega, by rw [List.drop_drop], fun he => ?_, fun l' hs hl => ?_⟩
        · obtain ⟨a, b⟩ := h0 he
          exact ⟨by omega, b⟩
        · show bindR (P l') _ = _
          rw [h1 l' hs.split.1 ((less_mid hs hl).toF hP.sub)]
          simp only [bindR, guardR, hx, if_true]
          have := h2 (l'.drop k) hs.split.2 (by rw [List.drop_drop, List.drop_drop]; exact hl)
          rw [List.drop_drop] at this
          exact this
      · simp only [bindR, guardR, hx, if_false] at h
        cases h
        refine ⟨0, k, Nat.zero_le _, hk, rfl, fun he => absurd he (hg x), fun l' hs hl => ?_⟩
        show bindR (P l') _ = _
        rw [h1 l' hs (hl.toF hP.sub)]
        simp only [bindR, guardR, hx, if_false, recode, hg x, List.drop_zero]
/- one word of several, if it is next -/
theorem takeF_core {ws : List (List UInt8)} {t t' : Tok} (h : core t = core t') (r r' : List Tok) : ∀ i, takeF ws (t :: r) = (some i, r) → takeF ws (t' :: r') = (some i, r') := by
  intro i
  simp only [core, Prod.mk.injEq] at h
  obtain ⟨h1, h2, h3⟩ := h
  have hw : isWord t' = isWord t := by simp [isWord, h1]
  simp only [takeF, hw, ← h2]
  intro hh
  by_cases hc : isWord t = true
  · rw [if_pos hc] at hh ⊢
    cases hi : ws.idxOf? t.text with
    | none => rw [hi] at hh; simp at hh
    | some m => rw [hi] at hh; injection hh with hh; injection hh with hh; subst hh; rfl
  · rw [if_neg hc] at hh; simp at hh
theorem takeF_cases (ws : List (List UInt8)) (l : List Tok) : (takeF ws l = (none, l)) ∨ ∃ t r i, l = t :: r ∧ takeF ws l = (some i, r) ∧ isWord t = true ∧ ws.idxOf? t.text = some i := by
  cases l with
  | nil => exact .inl rfl
  | cons t r =>
    simp only [takeF]
    split
    · rename_i h
      split
      · rename_i i hi; exact .inr ⟨t, r, i, rfl, rfl, h, hi⟩
      · exact .inl rfl
    · exact .inl rfl
theorem takeF_less {A ws : List (List UInt8)} (hA : ∀ x ∈ ws, x ∈ A) {l l' : List Tok} (h : takeF ws l = (none, l)) (hl : Less A l' l) : takeF ws l' = (none, l') := by
  rcases takeF_cases ws l' with h' | ⟨t', r', i, rfl, h', hw, hi⟩
  · exact h'
  · exfalso
    rcases hl with h0 | ⟨t, r, t2, r2, rfl, h2, hc⟩ | ⟨t2, r2, h2, hd⟩
    · cases h0
    · cases h2
      have := takeF_core (ws := ws) hc.symm r' r i h'
      rw [h] at this
      cases this
    · cases h2
      refine hd.2.2 ⟨hw, hA _ ?_⟩
      have hl := List.isSome_idxOf? (l := ws) (a := t'.text)
      rw [hi] at hl
      simpa using hl
theorem takeF_lessF {F ws : List (List UInt8)} (hA : ∀ x ∈ ws, x ∈ F) {l l' : List Tok} (h : takeF ws l = (none, l)) (hl : LessF F l' l) : takeF ws l' = (none, l') := by
  rcases takeF_cases ws l' with h' | ⟨t', r', i, rfl, h', hw, hi⟩
  · exact h'
  · exfalso
    rcases hl with h0 | ⟨t, r, t2, r2, rfl, h2, hc⟩ | ⟨t2, r2, h2, hd⟩
    · cases h0
    · cases h2
      have := takeF_core (ws := ws) hc.symm r' r i h'
      rw [h] at this
      cases this
    · cases h2
      refine hd ⟨hw, hA _ ?_⟩
      have hl := List.isSome_idxOf? (l := ws) (a := t'.text)
      rw [hi] at hl
      simpa using hl
theorem Det.opt {α : Type} {A F ws : List (List UInt8)} {yes : Nat → List Tok → R α} {no : List Tok → R α} (hA : ∀ x ∈ ws, x ∈ F) (hy : ∀ i, Det A F (yes i)) (hn : Det A F no) : Det A F (fun l => optF ws l yes no) where
  sub := hn.sub
  ok := fun l y r h => by
    rcases takeF_cases ws l with ht | ⟨t, r0, i, rfl, ht, hw, hi⟩
    · simp only [optF, ht] at h
      obtain ⟨k, hk, rfl, h1⟩ := hn.ok l y r h
      refine ⟨k, hk, rfl, fun l' hs hl => ?_⟩
      have h2 : takeF ws l' = (none, l') := takeF_lessF hA ht (by simpa using lessF_mid (k := 0) (m := k) (by simpa using hs) (by simpa using hl))
      simp only [optF, h2]
      exact h1 l' hs hl
    · simp only [optF, ht] at h
      obtain ⟨k, hk, rfl, h1⟩ := (hy i).ok r0 y r h
      refine ⟨k + 1, by simp; omega, rfl, fun l' hs hl => ?_⟩
      obtain ⟨t', r', rfl, hc, hs'⟩ := hs.head
      simp only [optF, takeF_core hc r0 r' i ht]
      exact h1 r' hs' (by simpa using hl)
  err := fun l e s h => by
    rcases takeF_cases ws l with ht | ⟨t, r0, i, rfl, ht, hw, hi⟩
    · simp only [optF, ht] at h
      obtain ⟨j, k, hjk, hk, rfl, h0, h1⟩ := hn.err l e s h
      refine ⟨j, k, hjk, hk, rfl, h0, fun l' hs hl => ?_⟩
      have h2 : takeF ws l' = (none, l') := takeF_less (fun x hx => hn.sub x (hA x hx)) ht (by simpa using less_mid (k := 0) (m := k) (by simpa using hs) (by simpa using hl))
      simp only [optF, h2]
      exact h1 l' hs hl
    · simp only [optF, ht] at h
      obtain ⟨j, k, hjk, hk, rfl, h0, h1⟩ := (hy i).err r0 e s h
      refine ⟨j + 1, k + 1, by omega, by simp; omega, rfl, fun he => ?_, fun l' hs hl => ?_⟩
      · obtain ⟨a, b⟩ := h0 he; exact ⟨by omega, by simpa using b⟩
      · obtain ⟨t', r', rfl, hc, hs'⟩ := hs.head
        simp only [optF, takeF_core hc r0 r' i ht]
        simpa using h1 r' hs' (by simpa using hl)
/- the same, where what is not met by the words consumes -/
theorem takeF_same {ws : List (List UInt8)} {t t' : Tok} {r r' : List Tok} (hc : core t = core t') (h : takeF ws (t :: r) = (none, t :: r)) : takeF ws (t' :: r') = (none, t' :: r') :=
  takeF_lessF (F := ws) (fun _ h => h) h (.inr (.inl ⟨t, r, t', r', rfl, rfl, hc⟩))
theorem Det.optC {α : Type} {A F ws : List (List UInt8)} {yes : Nat → List Tok → R α} {no : List Tok → R α} (hA : ∀ x ∈ ws, x ∈ A) (hy : ∀ i, Det A F (yes i)) (hn : Det A F no) (hcon : ∀ l x r, no l = .ok (x, r) → r.length < l.length) : Det A F (fun l => optF ws l yes no) where
  sub := hn.sub
  ok := fun l y r h => by
    rcases takeF_cases ws l with ht | ⟨t, r0, i, rfl, ht, hw, hi⟩
    · simp only [optF, ht] at h
      have hlt := hcon l y r h
      obtain ⟨k, hk, rfl, h1⟩ := hn.ok l y r h
      refine ⟨k, hk, rfl, fun l' hs hl => ?_⟩
      have h2 : takeF ws l' = (none, l') := by
        obtain ⟨m, rfl⟩ : ∃ m, k = m + 1 := ⟨k - 1, by simp at hlt; omega⟩
        cases l with
        | nil => simp at hk
        | cons t r0 =>
          obtain ⟨t', r', rfl, hc, _⟩ := hs.head
          exact takeF_same hc ht
      simp only [optF, h2]
      exact h1 l' hs hl
    · simp only [optF, ht] at h
      obtain ⟨k, hk, rfl, h1⟩ := (hy i).ok r0 y r h
      refine ⟨k + 1, by simp; omega, rfl, fun l' hs hl => ?_⟩
      obtain ⟨t', r', rfl, hc, hs'⟩ := hs.head
      simp only [optF, takeF_core hc r0 r' i ht]
      exact h1 r' hs' (by simpa using hl)
  err := fun l e s h => by
    rcases takeF_cases ws l with ht | ⟨t, r0, i, rfl, ht, hw, hi⟩
    · simp only [optF, ht] at h
      obtain ⟨j, k, hjk, hk, rfl, h0, h1⟩ := hn.err l e s h
      refine ⟨j, k, hjk, hk, rfl, h0, fun l' hs hl => ?_⟩
      have h2 : takeF ws l' = (none, l') := takeF_less hA ht (by simpa using less_mid (k := 0) (m := k) (by simpa using hs) (by simpa using hl))
      simp only [optF, h2]
      exact h1 l' hs hl
    · simp only [optF, ht] at h
      obtain ⟨j, k, hjk, hk, rfl, h0, h1⟩ := (hy i).err r0 e s h
      refine ⟨j + 1, k + 1, by omega, by simp; omega, rfl, fun he => ?_, fun l' hs hl => ?_⟩
      · obtain ⟨a, b⟩ := h0 he; exact ⟨by omega, by simpa using b⟩
      · obtain ⟨t', r', rfl, hc, hs'⟩ := hs.head
        simp only [optF, takeF_core hc r0 r' i ht]
        simpa using h1 r' hs' (by simpa using hl)
theorem Det.must {A F ws : List (List UInt8)} (hs : ∀ x ∈ F, x ∈ A) (hA : ∀ x ∈ ws, x ∈ A) : Det A F (mustF ws) where
  sub := hs
  ok := fun l y r h => by
    rcases takeF_cases ws l with ht | ⟨t, r0, i, rfl, ht, hw, hi⟩
    · simp only [mustF, optF, ht, failR] at h; cases h
    · simp only [mustF, optF, ht] at h
      cases h
      refine ⟨1, by simp, rfl, fun l' hs hl => ?_⟩
      obtain ⟨t', r', rfl, hc, hs'⟩ := hs.head
      simp only [mustF, optF, takeF_core hc _ r' _ ht, List.drop_succ_cons, List.drop_zero]
  err := fun l e s h => by
    rcases takeF_cases ws l with ht | ⟨t, r0, i, rfl, ht, hw, hi⟩
    · simp only [mustF, optF, ht, failR] at h
      cases h
      refine ⟨0, 0, Nat.le_refl _, Nat.zero_le _, rfl, fun _ => ⟨rfl, rfl⟩, fun l' hs hl => ?_⟩
      have h2 : takeF ws l' = (none, l') := takeF_less hA ht (by simpa using hl)
      simp only [mustF, optF, h2, failR, recode, failC_56, if_true, List.drop_zero]
    · simp only [mustF, optF, ht] at h; cases h
theorem Det.name {A F : List (List UInt8)} (hs : ∀ x ∈ F, x ∈ A) : Det A F nameF where
  sub := hs
  ok := fun l x r h => by
    cases l with
    | nil => cases h
    | cons t r0 =>
      simp only [nameF] at h
      split at h
      · rename_i hc
        cases h
        refine ⟨1, by simp, rfl, fun l' hs hl => ?_⟩
        obtain ⟨t', r', rfl, hcc, _⟩ := hs.head
        simp only [core, Prod.mk.injEq] at hcc
        simp only [nameF, ← hcc.1, ← hcc.2.1, hc, if_true, List.drop_succ_cons, List.drop_zero]
      · cases h
  err := fun l e s h => by
    have hf : (failR l : R (List UInt8)) = .error (e, s) := by
      cases l with
      | nil => exact h
      | cons t r0 =>
        simp only [nameF] at h
        split at h
        · cases h
        · exact h
    cases hf
    refine ⟨0, 0, Nat.le_refl _, Nat.zero_le _, rfl, fun _ => ⟨rfl, rfl⟩, fun l' hs hl => ?_⟩
    have : nameF l' = failR l' := by
      cases l' with
      | nil => rfl
      | cons t' r' =>
        simp only [nameF]
        split
        · rename_i hc
          exfalso
          rcases hl with h0 | ⟨t, r, t2, r2, h3, h2, hcc⟩ | ⟨t2, r2, h2, hd⟩
          · cases h0
          · cases h2
            simp only [List.drop_zero] at h3
            subst h3
            simp only [core, Prod.mk.injEq] at hcc
            simp only [nameF, hcc.1, hcc.2.1, hc, if_true] at h
            cases h
          · cases h2
            refine hd.2.1 ?_
            simpa using hc
        · rfl
    simp [recode, failC_56, this, failR]
theorem Det.number {A F : List (List UInt8)} (hs : ∀ x ∈ F, x ∈ A) (most : Nat) : Det A F (numberF most) where
  sub := hs
  ok := fun l x r h => by
    cases l with
    | nil => cases h
    | cons t r0 =>
      simp only [numberF] at h
      split at h
      · rename_i hc
        split at h
        · cases h
        · rename_i hm
          cases h
          refine ⟨1, by simp, rfl, fun l' hs hl => ?_⟩
          obtain ⟨t', r', rfl, hcc, _⟩ := hs.head
          simp only [core, Prod.mk.injEq] at hcc
          simp only [numberF, ← hcc.1, ← hcc.2.2, hc, hm, if_true, if_false, List.drop_succ_cons, List.drop_zero]
      · cases h
  err := fun l e s h => by
    by_cases hr : ∃ t r0, l = t :: r0 ∧ (t.kind == 2) = true
    · obtain ⟨t, r0, rfl, hc⟩ := hr
      simp only [numberF, hc, if_true] at h
      split at h
      · rename_i hm
        cases h
        refine ⟨0, 1, by omega, by simp, rfl, fun he => by omega, fun l' hs hl => ?_⟩
        obtain ⟨t', r', rfl, hcc, _⟩ := hs.head
        simp only [core, Prod.mk.injEq] at hcc
        simp only [numberF, ← hcc.1, ← hcc.2.2, hc, hm, if_true, List.drop_zero, recode]
        rfl
      · cases h
    · have hf : (failR l : R Nat) = .error (e, s) := by
        cases l with
        | nil => exact h
        | cons t r0 =>
          have hc : ¬ (t.kind == 2) = true := fun hc => hr ⟨t, r0, rfl, hc⟩
          rw [numberF, if_neg hc] at h; exact h
      cases hf
      refine ⟨0, 0, Nat.le_refl _, Nat.zero_le _, rfl, fun _ => ⟨rfl, rfl⟩, fun l' hs hl => ?_⟩
      have : numberF most l' = failR l' := by
        cases l' with
        | nil => rfl
        | cons t' r' =>
          simp only [numberF]
          split
          · rename_i hc
            exfalso
            rcases hl with h0 | ⟨t, r, t2, r2, h3, h2, hcc⟩ | ⟨t2, r2, h2, hd⟩
            · cases h0
            · cases h2
              simp only [List.drop_zero] at h3
              simp only [core, Prod.mk.injEq] at hcc
              exact hr ⟨t, r, h3, by rw [hcc.1]; exact hc⟩
            · cases h2
              exact hd.1 (by simpa using hc)
          · rfl
      simp [recode, failC_56, this, failR]
theorem nameF_less {l : List Tok} {s : List UInt8} {r : List Tok} (h : nameF l = .ok (s, r)) : r.length < l.length := by
  cases l with
  | nil => cases h
  | cons t r0 =>
    simp only [nameF] at h
    split at h
    · cases h; simp
    · cases h
theorem numberF_less {m : Nat} {l : List Tok} {v : Nat} {r : List Tok} (h : numberF m l = .ok (v, r)) : r.length < l.length := by
  cases l with
  | nil => cases h
  | cons t r0 =>
    simp only [numberF] at h
    split at h
    · split at h
      · cases h
      · cases h; simp
    · cases h
theorem Det.several {α : Type} {A F : List (List UInt8)} {one : List Tok → R α} {w : List UInt8} (hw : w ∈ F) (h : Det A F one) : ∀ n, Det A F (severalL one w n)
  | 0 => Det.hard h.sub 0 (by simp)
  | n + 1 => Det.bind h (fun x => Det.opt (by simpa using hw) (fun _ => Det.bind (Det.several hw h n) (fun xs => Det.pure h.sub _)) (Det.pure h.sub _))
theorem Det.severalF {A F : List (List UInt8)} {one : List Tok → R Tree} {w : List UInt8} (op n : Nat) (hw : w ∈ F) (h : Det A F one) : Det A F (severalF one w op n) :=
  Det.bind (Det.several hw h n) (fun xs => Det.pure h.sub _)
theorem Det.andF {A F : List (List UInt8)} {one : List Tok → R Tree} (op n : Nat) (hw : [97, 110, 100] ∈ F) (h : Det A F one) : Det A F (andF one op n) := Det.severalF op n hw h
theorem Det.orF {A F : List (List UInt8)} {one : List Tok → R Tree} (op op2 n : Nat) (hw : [97, 110, 100] ∈ F) (hv : [111, 114] ∈ F) (h : Det A F one) : Det A F (orF one op op2 n) := Det.severalF op2 n hv (Det.andF op n hw h)
/- the words of conditions; those that may follow one -/
def condWords : List (List UInt8) := [[110, 111, 116], [40], [116, 114, 117, 101], [102, 97, 108, 115, 101], [41], [61], [33, 61], [60], [60, 61], [62], [62, 61], [97, 110, 100], [111, 114]]
def condFollow : List (List UInt8) := [[61], [33, 61], [60], [60, 61], [62], [62, 61], [97, 110, 100], [111, 114]]
def startWords : List (List UInt8) := [[97, 108, 119, 97, 121, 115], [110, 101, 118, 101, 114], [100, 97, 121], [40], [111, 114, 100, 101, 114], [101, 118, 101, 110, 116], [98, 101, 103, 117, 110], [111, 118, 101, 114], [41], [97, 110, 100], [111, 114]]
def startFollow : List (List UInt8) := [[97, 110, 100], [111, 114]]
theorem cond_sub : ∀ x ∈ condFollow, x ∈ condWords := by decide
theorem start_sub : ∀ x ∈ startFollow, x ∈ startWords := by decide
theorem atom_det {A F : List (List UInt8)} (hs : ∀ x ∈ F, x ∈ A) (hA : ∀ x ∈ condWords, x ∈ A) (hF : ∀ x ∈ condFollow, x ∈ F) : ∀ n, Det A F (atomF n)
  | 0 => Det.hard hs 0 (by simp)
  | n + 1 => by
    have ih := atom_det hs hA hF n
    have hor := Det.orF 6 7 n (hF _ (by decide)) (hF _ (by decide)) ih
    have hq : Det A F (fun r => bindR (nameF r) fun s r' => optF [[61], [33, 61], [60], [60, 61], [62], [62, 61]] r' (fun c r'' => bindR (numberF 1000000 r'') fun v r3 => .ok (Tree.mk 3 s (1 + c) v [], r3)) (fun r'' => .ok (Tree.mk 4 s 0 0 [], r''))) :=
      Det.bind (Det.name hs) (fun s => Det.opt (fun x hx => hF x (by revert x; decide)) (fun c => Det.bind (Det.number hs _) (fun v => Det.pure hs _)) (Det.pure hs _))
    have hy : ∀ i, Det A F ((fun i r => match i with
        | 0 => bindR (atomF n r) fun f r' => .ok (Tree.mk 5 [] 0 0 [f], r')
        | 1 => bindR (orF (atomF n) 6 7 n r) fun f r' => bindR (mustF [[41]] r') fun _ r'' => .ok (f, r'')
        | 2 => .ok (Tree.mk 1 [] 0 0 [], r)
        | _ => .ok (Tree.mk 2 [] 0 0 [], r) : Nat → List Tok → R Tree) i) := fun i => by
      match i with
      | 0 => exact Det.bind ih (fun f => Det.pure hs _)
      | 1 => exact Det.bind hor (fun f => Det.bind (Det.must hs (fun x hx => hA x (by revert x; decide))) (fun _ => Det.pure hs _))
      | 2 => exact Det.pure hs _
      | _ + 3 => exact Det.pure hs _
    exact Det.optC (fun x hx => hA x (by revert x; decide)) hy hq (fun l x r h => by
      cases hn : nameF l with
      | error v => rw [hn] at h; cases h
      | ok v =>
        obtain ⟨s, r0⟩ := v
        rw [hn] at h
        have h0 := nameF_less hn
        simp only [bindR] at h
        rcases takeF_cases [[61], [33, 61], [60], [60, 61], [62], [62, 61]] r0 with ht | ⟨t, r1, i, rfl, ht, -, -⟩
        · simp only [optF, ht] at h; cases h; exact h0
        · simp only [optF, ht] at h
          cases hm : numberF 1000000 r1 with
          | error v => rw [hm] at h; cases h
          | ok v =>
            obtain ⟨v, r2⟩ := v
            rw [hm] at h
            have := numberF_less hm
            cases h
            simp at h0
            omega)
theorem one_det {A F : List (List UInt8)} (hs : ∀ x ∈ F, x ∈ A) (hA : ∀ x ∈ startWords, x ∈ A) (hF : ∀ x ∈ startFollow, x ∈ F) : ∀ n, Det A F (oneF n)
  | 0 => Det.hard hs 0 (by simp)
  | n + 1 => by
    have ih := one_det hs hA hF n
    have hor := Det.orF 8 9 n (hF _ (by decide)) (hF _ (by decide)) ih
    refine Det.bind (Det.must hs (fun x hx => hA x (by revert x; decide))) (fun i => ?_)
    match i with
    | 0 => exact Det.pure hs _
    | 1 => exact Det.pure hs _
    | 2 => exact Det.bind (Det.number hs _) (fun v => Det.pure hs _)
    | 3 => exact Det.bind hor (fun f => Det.bind (Det.must hs (fun x hx => hA x (by revert x; decide))) (fun _ => Det.pure hs _))
    | _ + 4 => exact Det.bind (Det.name hs) (fun s => Det.pure hs _)
theorem cond_det {A F : List (List UInt8)} (hs : ∀ x ∈ F, x ∈ A) (hA : ∀ x ∈ condWords, x ∈ A) (hF : ∀ x ∈ condFollow, x ∈ F) (n : Nat) : Det A F (condF n) := Det.orF 6 7 n (hF _ (by decide)) (hF _ (by decide)) (atom_det hs hA hF n)
theorem start_det {A F : List (List UInt8)} (hs : ∀ x ∈ F, x ∈ A) (hA : ∀ x ∈ startWords, x ∈ A) (hF : ∀ x ∈ startFollow, x ∈ F) (n : Nat) : Det A F (startF n) := Det.orF 8 9 n (hF _ (by decide)) (hF _ (by decide)) (one_det hs hA hF n)
theorem bounded_det {A F : List (List UInt8)} {P : List Tok → R Tree} (h : Det A F P) : Det A F (boundedF P) :=
  Det.guard boundC (fun x => by unfold boundC; split <;> simp) h (fun x => Det.pure h.sub _)
theorem excC_no (out : List (List UInt8)) (s : List UInt8) : ¬ (excC out s = 5 ∨ excC out s = 6) := by unfold excC; split <;> (try split) <;> simp
theorem except_det {A F : List (List UInt8)} (hs : ∀ x ∈ F, x ∈ A) (hA : [44] ∈ F) : ∀ n out, Det A F (exceptF n out)
  | 0, out => Det.hard hs 0 (by simp)
  | n + 1, out => Det.guard (excC out) (excC_no out) (Det.name hs) (fun s => Det.opt (by simpa using hA) (fun _ => except_det hs hA n _) (Det.pure hs _))
/- all words -/
def allWords : List (List UInt8) := condWords ++ startWords ++ [[44], [100, 101, 102, 105, 110, 101], [97, 110, 115, 119, 101, 114], [105, 115], [105, 102], [110, 111, 116, 119, 105, 116, 104, 115, 116, 97, 110, 100, 105, 110, 103], [99, 111, 110, 115, 116, 105, 116, 117, 116, 105, 111, 110], [97, 99, 116], [114, 101, 103, 117, 108, 97, 116, 105, 111, 110], [98, 121, 108, 97, 119], [58], [46], [102, 114, 111, 109], [117, 110, 116, 105, 108], [97, 103, 97, 105, 110]]
theorem all_cond : ∀ x ∈ condWords, x ∈ allWords := fun x h => by unfold allWords; simp [h]
theorem all_start : ∀ x ∈ startWords, x ∈ allWords := fun x h => by unfold allWords; simp [h]
theorem all_condF : ∀ x ∈ condFollow, x ∈ allWords := fun x h => all_cond x (cond_sub x h)
theorem all_startF : ∀ x ∈ startFollow, x ∈ allWords := fun x h => all_start x (start_sub x h)
theorem refl_sub {A : List (List UInt8)} : ∀ x ∈ A, x ∈ A := fun _ h => h
theorem when_det (n : Nat) {w : List UInt8} (op : Nat) (hw : w ∈ allWords) : Det allWords allWords (whenF n w op) :=
  Det.opt (by simpa using hw) (fun _ => bounded_det (start_det refl_sub all_start all_startF n)) (Det.pure refl_sub _)
theorem if_det (n : Nat) : Det allWords allWords (ifF n) := Det.opt (by decide) (fun _ => bounded_det (cond_det refl_sub all_cond all_condF n)) (Det.pure refl_sub _)
theorem exc_det : Det allWords allWords excF := Det.opt (by decide) (fun _ => except_det refl_sub (by decide) _ _) (Det.pure refl_sub _)
theorem kind_det : Det allWords allWords kindF := Det.bind (Det.must refl_sub (by decide)) (fun i => by
  match i with
  | 0 => exact Det.bind (Det.name refl_sub) (fun s => Det.pure refl_sub _)
  | _ + 1 => exact Det.bind (Det.name refl_sub) (fun s => Det.bind (Det.must refl_sub (by decide)) (fun _ => Det.bind (Det.number refl_sub _) (fun v => Det.pure refl_sub _))))
theorem body_det (n : Nat) : Det allWords allWords (bodyF n) :=
  Det.bind (Det.must refl_sub (by decide)) fun _ => Det.bind (Det.name refl_sub) fun _ => Det.bind (Det.must refl_sub (by decide)) fun _ => Det.bind kind_det fun _ => Det.bind (if_det n) fun _ => Det.bind exc_det fun _ =>
  Det.bind (when_det n 1 (by decide)) fun _ => Det.bind (when_det n 2 (by decide)) fun _ => Det.bind (when_det n 2 (by decide)) fun _ => Det.pure refl_sub _
theorem prov_det (n : Nat) : Det allWords allWords (provF n) := Det.bind (body_det n) fun _ => Det.bind (Det.must refl_sub (by decide)) fun _ => Det.pure refl_sub _
/- With enough fuel a parser consumes, and its errors are ones. -/
structure Sane {α : Type} (d n : Nat) (P : List Tok → R α) : Prop where
  ok : ∀ l x r, l.length < n → P l = .ok (x, r) → r.length + d ≤ l.length
  err : ∀ l e s, l.length < n → P l = .error (e, s) → e ≠ 0 ∧ s.length ≤ l.length ∧ (e = 6 ↔ s = []) ∧ (e = 2 ∨ e = 5 ∨ e = 6 ∨ e = 9 ∨ e = 10)
theorem Sane.weak {α : Type} {d d' n n' : Nat} {P : List Tok → R α} (h : Sane d n P) (hd : d' ≤ d) (hn : n' ≤ n) : Sane d' n' P where
  ok := fun l x r hl hp => by have := h.ok l x r (by omega) hp; omega
  err := fun l e s hl hp => h.err l e s (by omega) hp
theorem Sane.pure {α : Type} {n : Nat} (x : α) : Sane 0 n (fun l => .ok (x, l)) where
  ok := fun l y r _ h => by cases h; exact Nat.le_refl _
  err := fun l e s _ h => by cases h
theorem failC_6 (l : List Tok) : failC l = 6 ↔ l = [] := by cases l <;> simp [failC]
theorem Sane.fail {α : Type} {d n : Nat} : Sane d n (fun l => (failR l : R α)) where
  ok := fun l y r _ h => by cases h
  err := fun l e s _ h => by
    cases h
    refine ⟨?_, Nat.le_refl _, failC_6 l, ?_⟩ <;> rcases failC_56 l with h | h <;> simp [h]
theorem Sane.bind {α β : Type} {d1 d2 n : Nat} {P : List Tok → R α} {Q : α → List Tok → R β} (hP : Sane d1 n P) (hQ : ∀ x, Sane d2 n (Q x)) : Sane (d1 + d2) n (fun l => bindR (P l) Q) where
  ok := fun l y r hl h => by
    cases hp : P l with
    | error e => rw [hp] at h; cases h
    | ok v =>
      obtain ⟨x, r1⟩ := v
      rw [hp] at h
      have h1 := hP.ok l x r1 hl hp
      have h2 := (hQ x).ok r1 y r (by omega) h
      omega
  err := fun l e s hl h => by
    cases hp : P l with
    | error v => rw [hp] at h; cases h; exact hP.err l _ _ hl hp
    | ok v =>
      obtain ⟨x, r1⟩ := v
      rw [hp] at h
      have h1 := hP.ok l x r1 hl hp
      obtain ⟨a, b, c, d⟩ := (hQ x).err r1 e s (by omega) h
      exact ⟨a, by omega, c, d⟩
/- behind a consuming parser one token less is at hand -/
theorem Sane.bind1 {α β : Type} {d2 n : Nat} {P : List Tok → R α} {Q : α → List Tok → R β} (hP : Sane 1 (n + 1) P) (hQ : ∀ x, Sane d2 n (Q x)) : Sane (1 + d2) (n + 1) (fun l => bindR (P l) Q) where
  ok := fun l y r hl h => by
    cases hp : P l with
    | error e => rw [hp] at h; cases h
    | ok v =>
      obtain ⟨x, r1⟩ := v
      rw [hp] at h
      have h1 := hP.ok l x r1 hl hp
      have h2 := (hQ x).ok r1 y r (by omega) h
      omega
  err := fun l e s hl h => by
    cases hp : P l with
    | error v => rw [hp] at h; cases h; exact hP.err l _ _ hl hp
    | ok v =>
      obtain ⟨x, r1⟩ := v
      rw [hp] at h
      have h1 := hP.ok l x r1 hl hp
      obtain ⟨a, b, c, d⟩ := (hQ x).err r1 e s (by omega) h
      exact ⟨a, by omega, c, d⟩
theorem Sane.opt {α : Type} {d n : Nat} {ws : List (List UInt8)} {yes : Nat → List Tok → R α} {no : List Tok → R α} (hy : ∀ i, Sane (d - 1) n (yes i)) (hn : Sane d (n + 1) no) : Sane d (n + 1) (fun l => optF ws l yes no) where
  ok := fun l y r hl h => by
    rcases takeF_cases ws l with ht | ⟨t, r0, i, rfl, ht, _⟩
    · simp only [optF, ht] at h; exact hn.ok l y r hl h
    · simp only [optF, ht] at h
      simp at hl
      have := (hy i).ok r0 y r hl h
      simp; omega
  err := fun l e s hl h => by
    rcases takeF_cases ws l with ht | ⟨t, r0, i, rfl, ht, _⟩
    · simp only [optF, ht] at h; exact hn.err l e s hl h
    · simp only [optF, ht] at h
      simp at hl
      obtain ⟨a, b, c, d⟩ := (hy i).err r0 e s hl h
      exact ⟨a, by simp; omega, c, d⟩
theorem Sane.opt' {α : Type} {d n : Nat} {ws : List (List UInt8)} {yes : Nat → List Tok → R α} {no : List Tok → R α} (hy : ∀ i, Sane (d - 1) n (yes i)) (hn : Sane d n no) : Sane d n (fun l => optF ws l yes no) := by
  cases n with
  | zero => exact ⟨fun l _ _ h => absurd h (Nat.not_lt_zero _), fun l _ _ h => absurd h (Nat.not_lt_zero _)⟩
  | succ n => exact Sane.opt (fun i => (hy i).weak (Nat.le_refl _) (Nat.le_succ _)) hn
theorem Sane.must {ws : List (List UInt8)} {n : Nat} : Sane 1 n (mustF ws) := Sane.opt' (fun _ => Sane.pure _) Sane.fail
theorem Sane.name {n : Nat} : Sane 1 n nameF where
  ok := fun l x r hl h => by
    cases l with
    | nil => cases h
    | cons t r0 =>
      simp only [nameF] at h
      split at h
      · cases h; simp
      · cases h
  err := fun l e s hl h => by
    refine (Sane.fail (α := List UInt8) (d := 0)).err l e s hl ?_
    cases l with
    | nil => exact h
    | cons t r0 =>
      simp only [nameF] at h
      split at h
      · cases h
      · exact h
theorem Sane.number {n : Nat} (most : Nat) : Sane 1 n (numberF most) where
  ok := fun l x r hl h => by
    cases l with
    | nil => cases h
    | cons t r0 =>
      simp only [numberF] at h
      split at h
      · split at h
        · cases h
        · cases h; simp
      · cases h
  err := fun l e s hl h => by
    cases l with
    | nil => exact (Sane.fail (α := Nat) (d := 0)).err [] e s hl h
    | cons t r0 =>
      simp only [numberF] at h
      split at h
      · split at h
        · cases h; simp
        · cases h
      · exact (Sane.fail (α := Nat) (d := 0)).err _ e s hl h
theorem Sane.guard {α β : Type} {d1 d2 n : Nat} {P : List Tok → R α} {Q : α → List Tok → R β} (g : α → Nat) (hg : ∀ x, g x = 0 ∨ g x = 2 ∨ g x = 9) (h1 : 0 < d1) (hP : Sane d1 n P) (hQ : ∀ x, Sane d2 n (Q x)) :
    Sane (d1 + d2) n (fun l => bindR (P l) fun x r => guardR l (g x) (Q x r)) where
  ok := fun l y r hl h => by
    refine (Sane.bind hP hQ).ok l y r hl ?_
    cases hp : P l with
    | error e => rw [hp] at h; cases h
    | ok v =>
      obtain ⟨x, r1⟩ := v
      rw [hp] at h
      simp only [bindR, guardR] at h ⊢
      split at h
      · exact h
      · cases h
  err := fun l e s hl h => by
    cases hp : P l with
    | error v => rw [hp] at h; cases h; exact hP.err l _ _ hl hp
    | ok v =>
      obtain ⟨x, r1⟩ := v
      rw [hp] at h
      simp only [bindR, guardR] at h
      have h2 := hP.ok l x r1 hl hp
      split at h
      · obtain ⟨a, b, c, d⟩ := (hQ x).err r1 e s (by omega) h
        exact ⟨a, by omega, c, d⟩
      · cases h
        have hne : l ≠ [] := by rintro rfl; simp at h2; omega
        rcases hg x with hx | hx | hx
        · exact absurd hx (by assumption)
        · rw [hx]; simp [hne]
        · rw [hx]; simp [hne]
theorem Sane.severalL {α : Type} {one : List Tok → R α} {w : List UInt8} : ∀ {n : Nat}, Sane 1 n one → Sane 1 n (severalL one w n)
  | 0, _ => ⟨fun l _ _ h => absurd h (Nat.not_lt_zero _), fun l _ _ h => absurd h (Nat.not_lt_zero _)⟩
  | n + 1, h => by
    have ih := Sane.severalL (w := w) (h.weak (Nat.le_refl _) (Nat.le_succ n))
    exact Sane.bind (d2 := 0) h (fun x => Sane.opt (fun _ => (Sane.bind (d2 := 0) ih (fun xs => Sane.pure _)).weak (Nat.zero_le _) (Nat.le_refl _)) (Sane.pure _))
theorem Sane.severalF {one : List Tok → R Tree} {w : List UInt8} {n : Nat} (op : Nat) (h : Sane 1 n one) : Sane 1 n (severalF one w op n) := Sane.bind (d2 := 0) (Sane.severalL h) (fun _ => Sane.pure _)
theorem Sane.orF {one : List Tok → R Tree} {n : Nat} (op op2 : Nat) (h : Sane 1 n one) : Sane 1 n (orF one op op2 n) := Sane.severalF op2 (Sane.severalF op h)
theorem sane_zero {α : Type} {d : Nat} {P : List Tok → R α} : Sane d 0 P := ⟨fun l _ _ h => absurd h (Nat.not_lt_zero _), fun l _ _ h => absurd h (Nat.not_lt_zero _)⟩
theorem atom_sane : ∀ n, Sane 1 n (atomF n)
  | 0 => sane_zero
  | n + 1 => by
    have ih := atom_sane n
    refine Sane.opt (fun i => ?_) ((Sane.bind (d2 := 0) Sane.name (fun s => Sane.opt' (fun c => (Sane.bind (d2 := 0) (Sane.number _) (fun v => Sane.pure _)).weak (Nat.zero_le _) (Nat.le_refl _)) (Sane.pure _))))
    match i with
    | 0 => exact (Sane.bind (d2 := 0) ih (fun f => Sane.pure _)).weak (Nat.zero_le _) (Nat.le_refl _)
    | 1 => exact (Sane.bind (Sane.orF 6 7 ih) (fun f => Sane.bind (d2 := 0) Sane.must (fun _ => Sane.pure _))).weak (Nat.zero_le _) (Nat.le_refl _)
    | 2 => exact Sane.pure _
    | _ + 3 => exact Sane.pure _
theorem one_sane : ∀ n, Sane 1 n (oneF n)
  | 0 => sane_zero
  | n + 1 => by
    have ih := one_sane n
    refine Sane.bind1 (d2 := 0) Sane.must (fun i => ?_)
    match i with
    | 0 => exact Sane.pure _
    | 1 => exact Sane.pure _
    | 2 => exact (Sane.bind (d2 := 0) (Sane.number _) (fun v => Sane.pure _)).weak (Nat.zero_le _) (Nat.le_refl _)
    | 3 => exact (Sane.bind (Sane.orF 8 9 ih) (fun f => Sane.bind (d2 := 0) Sane.must (fun _ => Sane.pure _))).weak (Nat.zero_le _) (Nat.le_refl _)
    | _ + 4 => exact (Sane.bind (d2 := 0) Sane.name (fun s => Sane.pure _)).weak (Nat.zero_le _) (Nat.le_refl _)
theorem cond_sane (n : Nat) : Sane 1 n (condF n) := Sane.orF 6 7 (atom_sane n)
theorem start_sane (n : Nat) : Sane 1 n (startF n) := Sane.orF 8 9 (one_sane n)
theorem bounded_sane {n : Nat} {P : List Tok → R Tree} (h : Sane 1 n P) : Sane 1 n (boundedF P) :=
  Sane.guard (d2 := 0) boundC (fun x => by unfold boundC; split <;> simp) (by omega) h (fun x => Sane.pure _)
theorem except_sane (m : Nat) : ∀ n out, 21 ≤ n + out.length → out.length ≤ 20 → Sane 1 m (exceptF n out)
  | 0, out, h, h2 => by omega
  | n + 1, out, h, h2 => by
    refine Sane.mk (fun l x r hl hp => ?_) (fun l e s hl hp => ?_)
    · by_cases h20 : out.length = 20
      · exfalso
        cases hn : nameF l with
        | error v => simp only [exceptF, hn, bindR] at hp; cases hp
        | ok v =>
          obtain ⟨s, r0⟩ := v
          simp only [exceptF, hn, bindR, guardR] at hp
          have : excC out s ≠ 0 := by unfold excC; rw [if_pos h20]; split <;> simp
          rw [if_neg this] at hp
          cases hp
      · exact (Sane.guard (d2 := 0) (excC out) (fun x => by unfold excC; split <;> (try split) <;> simp) (by omega) Sane.name (fun s => Sane.opt' (fun _ => (except_sane m n (out ++ [s]) (by simp; omega) (by simp; omega)).weak (Nat.zero_le _) (Nat.le_refl _)) (Sane.pure _))).ok l x r hl hp
    · by_cases h20 : out.length = 20
      · have hs := (Sane.guard (d2 := 0) (n := m) (P := nameF) (Q := fun s r => .ok ([s], r)) (excC out) (fun x => by unfold excC; split <;> (try split) <;> simp) (by omega) Sane.name (fun s => Sane.pure _)).err l e s hl
        refine hs ?_
        cases hn : nameF l with
        | error v => simp only [exceptF, hn, bindR] at hp ⊢; exact hp
        | ok v =>
          obtain ⟨s', r0⟩ := v
          simp only [exceptF, hn, bindR, guardR] at hp ⊢
          have : excC out s' ≠ 0 := by unfold excC; rw [if_pos h20]; split <;> simp
          rw [if_neg this] at hp ⊢
          exact hp
      · exact (Sane.guard (d2 := 0) (excC out) (fun x => by unfold excC; split <;> (try split) <;> simp) (by omega) Sane.name (fun s => Sane.opt' (fun _ => (except_sane m n (out ++ [s]) (by simp; omega) (by simp; omega)).weak (Nat.zero_le _) (Nat.le_refl _)) (Sane.pure _))).err l e s hl hp
theorem when_sane (n : Nat) (w : List UInt8) (op : Nat) : Sane 0 n (whenF n w op) := Sane.opt' (fun _ => (bounded_sane (start_sane n)).weak (Nat.zero_le _) (Nat.le_refl _)) (Sane.pure _)
theorem if_sane (n : Nat) : Sane 0 n (ifF n) := Sane.opt' (fun _ => (bounded_sane (cond_sane n)).weak (Nat.zero_le _) (Nat.le_refl _)) (Sane.pure _)
theorem exc_sane (n : Nat) : Sane 0 n excF := Sane.opt' (fun _ => (except_sane n 22 [] (by simp) (by simp)).weak (Nat.zero_le _) (Nat.le_refl _)) (Sane.pure _)
theorem kind_sane (n : Nat) : Sane 0 n kindF := (Sane.bind (d2 := 0) Sane.must (fun i => by
  match i with
  | 0 => exact (Sane.bind (d2 := 0) Sane.name (fun s => Sane.pure _)).weak (Nat.zero_le _) (Nat.le_refl _)
  | _ + 1 => exact (Sane.bind Sane.name (fun s => Sane.bind Sane.must (fun _ => Sane.bind (d2 := 0) (Sane.number _) (fun v => Sane.pure _)))).weak (Nat.zero_le _) (Nat.le_refl _))).weak (Nat.zero_le _) (Nat.le_refl _)
theorem body_sane (n : Nat) : Sane 0 n (bodyF n) :=
  (Sane.bind Sane.must fun _ => Sane.bind Sane.name fun _ => Sane.bind Sane.must fun _ => Sane.bind (kind_sane n) fun _ => Sane.bind (if_sane n) fun _ => Sane.bind (exc_sane n) fun _ =>
  Sane.bind (when_sane n _ 1) fun _ => Sane.bind (when_sane n _ 2) fun _ => Sane.bind (d2 := 0) (when_sane n _ 2) fun _ => Sane.pure _).weak (Nat.zero_le _) (Nat.le_refl _)
theorem prov_sane (n : Nat) : Sane 0 n (provF n) := (Sane.bind (body_sane n) fun _ => Sane.bind (d2 := 0) Sane.must fun _ => Sane.pure _).weak (Nat.zero_le _) (Nat.le_refl _)
/- More fuel makes no difference. -/
theorem optF_congr {α : Type} {ws : List (List UInt8)} {l : List Tok} {y y' : Nat → List Tok → R α} {no no' : List Tok → R α} (hy : ∀ i r, r.length < l.length → y i r = y' i r) (hn : no l = no' l) : optF ws l y no = optF ws l y' no' := by
  rcases takeF_cases ws l with ht | ⟨t, r0, i, rfl, ht, _⟩
  · simp only [optF, ht]; exact hn
  · simp only [optF, ht]; exact hy i r0 (by simp)
theorem bindR_congr {α β : Type} {P P' : R α} {Q Q' : α → List Tok → R β} (h : P = P') (hq : ∀ x r, P = .ok (x, r) → Q x r = Q' x r) : bindR P Q = bindR P' Q' := by
  subst h
  cases P with
  | error e => rfl
  | ok v => obtain ⟨x, r⟩ := v; exact hq x r rfl
theorem several_fuel {α : Type} {one one' : List Tok → R α} {w : List UInt8} {k : Nat} (hs : Sane 1 k one) : ∀ (n m : Nat) (l : List Tok), l.length < n → l.length < m → l.length < k → (∀ l' : List Tok, l'.length ≤ l.length → one l' = one' l') → severalL one w n l = severalL one' w m l
  | 0, _, l, h, _, _, _ => absurd h (Nat.not_lt_zero _)
  | _, 0, l, _, h, _, _ => absurd h (Nat.not_lt_zero _)
  | n + 1, m + 1, l, h1, h2, h3, he => by
    simp only [severalL]
    refine bindR_congr (he l (Nat.le_refl _)) (fun x r hp => ?_)
    have hr := hs.ok l x r h3 hp
    refine optF_congr (fun _ r' hr' => ?_) rfl
    rw [several_fuel hs n m r' (by omega) (by omega) (by omega) (fun l' hl' => he l' (by omega))]
theorem severalF_fuel {one one' : List Tok → R Tree} {w : List UInt8} {k : Nat} (op : Nat) (hs : Sane 1 k one) (n m : Nat) (l : List Tok) (h1 : l.length < n) (h2 : l.length < m) (h3 : l.length < k) (he : ∀ l' : List Tok, l'.length ≤ l.length → one l' = one' l') : severalF one w op n l = severalF one' w op m l := by
  unfold severalF
  rw [several_fuel hs n m l h1 h2 h3 he]
theorem orF_fuel {one one' : List Tok → R Tree} (op op2 : Nat) (n m : Nat) (hs : Sane 1 n one) (l : List Tok) (h1 : l.length < n) (h2 : l.length < m) (he : ∀ l' : List Tok, l'.length ≤ l.length → one l' = one' l') : orF one op op2 n l = orF one' op op2 m l :=
  severalF_fuel op2 (Sane.severalF op hs) n m l h1 h2 h1 (fun l' hl' => severalF_fuel op hs n m l' (by omega) (by omega) (by omega) (fun l2 h2 => he l2 (by omega)))
theorem atom_fuel : ∀ (n m : Nat) (l : List Tok), l.length < n → l.length < m → atomF n l = atomF m l
  | 0, _, l, h, _ => absurd h (Nat.not_lt_zero _)
  | _, 0, l, _, h => absurd h (Nat.not_lt_zero _)
  | n + 1, m + 1, l, h1, h2 => by
    simp only [atomF]
    refine optF_congr (fun i r hr => ?_) rfl
    match i with
    | 0 => simp only []; rw [atom_fuel n m r (by omega) (by omega)]
    | 1 => simp only []; rw [orF_fuel 6 7 n m (atom_sane n) r (by omega) (by omega) (fun l' hl' => atom_fuel n m l' (by omega) (by omega))]
    | 2 => rfl
    | _ + 3 => rfl
theorem one_fuel : ∀ (n m : Nat) (l : List Tok), l.length < n → l.length < m → oneF n l = oneF m l
  | 0, _, l, h, _ => absurd h (Nat.not_lt_zero _)
  | _, 0, l, _, h => absurd h (Nat.not_lt_zero _)
  | n + 1, m + 1, l, h1, h2 => by
    simp only [oneF]
    refine bindR_congr rfl (fun i r hp => ?_)
    have hr := (Sane.must (n := l.length + 1)).ok l i r (Nat.lt_succ_self _) hp
    match i with
    | 0 => rfl
    | 1 => rfl
    | 2 => rfl
    | 3 => simp only []; rw [orF_fuel 8 9 n m (one_sane n) r (by omega) (by omega) (fun l' hl' => one_fuel n m l' (by omega) (by omega))]
    | _ + 4 => rfl
theorem cond_fuel (n m : Nat) (l : List Tok) (h1 : l.length < n) (h2 : l.length < m) : condF n l = condF m l := orF_fuel 6 7 n m (atom_sane n) l h1 h2 (fun l' hl' => atom_fuel n m l' (by omega) (by omega))
theorem start_fuel (n m : Nat) (l : List Tok) (h1 : l.length < n) (h2 : l.length < m) : startF n l = startF m l := orF_fuel 8 9 n m (one_sane n) l h1 h2 (fun l' hl' => one_fuel n m l' (by omega) (by omega))
/- The lexer: its tokens, and how texts are joined. -/
theorem takeWhile_len {α : Type} (p : α → Bool) (l : List α) : (l.takeWhile p).length ≤ l.length := (List.takeWhile_prefix p).length_le
/- more fuel makes no difference -/
theorem lexOne_len {c : UInt8} {r : List UInt8} {k n v : Nat} (h : lexOne c r = .ok (k, n, v)) : 1 ≤ n ∧ n ≤ r.length + 1 := by
  have h1 := takeWhile_len wordB r
  have h2 := takeWhile_len digitB r
  have h3 : r.head? = some 61 → 1 ≤ r.length := by cases r <;> simp
  unfold lexOne at h
  repeat' (split at h)
  all_goals (first | cases h | skip)
  all_goals simp_all
  all_goals omega
theorem scan_fuel : ∀ (f g : Nat) (l : List UInt8) (p : Nat), l.length ≤ f → l.length ≤ g → scan f l p = scan g l p
  | 0, g, l, p, hf, hg => by
    have : l = [] := by simpa using hf
    subst this
    cases g <;> rfl
  | f + 1, 0, l, p, hf, hg => by
    have : l = [] := by simpa using hg
    subst this
    rfl
  | f + 1, g + 1, [], p, hf, hg => rfl
  | f + 1, g + 1, c :: r, p, hf, hg => by
    simp at hf hg
    simp only [scan]
    rw [scan_fuel f g r (p + 1) hf hg, scan_fuel f g (r.drop _) _ (by simp; omega) (by simp; omega)]
    cases h : lexOne c r with
    | error e => rfl
    | ok v =>
      obtain ⟨k, n, v⟩ := v
      simp only []
      rw [scan_fuel f g (r.drop (n - 1)) _ (by simp; omega) (by simp; omega)]
/- the scan without fuel -/
def sc (l : List UInt8) (p : Nat) : List Tok × Option (Nat × Nat) := scan l.length l p
theorem scan_sc (f : Nat) (l : List UInt8) (p : Nat) (h : l.length ≤ f) : scan f l p = sc l p := scan_fuel _ _ _ _ h (Nat.le_refl _)
theorem sc_nil (p : Nat) : sc [] p = ([], none) := rfl
theorem sc_cons (c : UInt8) (r : List UInt8) (p : Nat) : sc (c :: r) p =
    if blankB c then sc r (p + 1)
    else if c = 35 then sc (r.drop (r.takeWhile (· != 10)).length) (p + 1 + (r.takeWhile (· != 10)).length)
    else match lexOne c r with
      | .error e => ([], some (e, p))
      | .ok (kind, k, v) => (⟨kind, (c :: r).take k, v, p⟩ :: (sc (r.drop (k - 1)) (p + k)).1, (sc (r.drop (k - 1)) (p + k)).2) := by
  show scan (r.length + 1) (c :: r) p = _
  simp only [scan]
  rw [scan_sc r.length r _ (Nat.le_refl _), scan_sc r.length (r.drop (r.takeWhile (· != 10)).length) _ (by simp)]
  cases h : lexOne c r with
  | error e => rfl
  | ok v =>
    obtain ⟨k, n, v⟩ := v
    simp only []
    rw [scan_sc r.length (r.drop (n - 1)) _ (by simp)]
/- induction along the scan -/
theorem sc_ind {M : List UInt8 → Nat → Prop} (hn : ∀ p, M [] p)
    (hb : ∀ c r p, blankB c = true → M r (p + 1) → M (c :: r) p)
    (hh : ∀ r p, M (r.drop (r.takeWhile (· != 10)).length) (p + 1 + (r.takeWhile (· != 10)).length) → M (35 :: r) p)
    (he : ∀ c r p e, blankB c = false → c ≠ 35 → lexOne c r = .error e → M (c :: r) p)
    (ht : ∀ c r p k n v, blankB c = false → c ≠ 35 → lexOne c r = .ok (k, n, v) → M (r.drop (n - 1)) (p + n) → M (c :: r) p) : ∀ (m : Nat) (l : List UInt8) (p : Nat), l.length ≤ m → M l p
  | _, [], p, _ => hn p
  | 0, c :: r, p, h => by simp at h
  | m + 1, c :: r, p, h => by
    simp at h
    by_cases h1 : blankB c = true
    · exact hb c r p h1 (sc_ind hn hb hh he ht m r _ h)
    · have h1 : blankB c = false := by simpa using h1
      by_cases h2 : c = 35
      · subst h2; exact hh r p (sc_ind hn hb hh he ht m _ _ (by simp; omega))
      · cases h3 : lexOne c r with
        | error e => exact he c r p e h1 h2 h3
        | ok v =>
          obtain ⟨k, n, v⟩ := v
          exact ht c r p k n v h1 h2 h3 (sc_ind hn hb hh he ht m _ _ (by simp; omega))
theorem sc_blank {c : UInt8} (r : List UInt8) (p : Nat) (h : blankB c = true) : sc (c :: r) p = sc r (p + 1) := by rw [sc_cons, if_pos h]
theorem sc_hash (r : List UInt8) (p : Nat) : sc (35 :: r) p = sc (r.drop (r.takeWhile (· != 10)).length) (p + 1 + (r.takeWhile (· != 10)).length) := by
  rw [sc_cons, if_neg (by decide), if_pos rfl]
theorem sc_err {c : UInt8} {r : List UInt8} {e : Nat} (p : Nat) (h1 : blankB c = false) (h2 : c ≠ 35) (h3 : lexOne c r = .error e) : sc (c :: r) p = ([], some (e, p)) := by
  rw [sc_cons, if_neg (by simp [h1]), if_neg h2, h3]
theorem sc_tok {c : UInt8} {r : List UInt8} {k n v : Nat} (p : Nat) (h1 : blankB c = false) (h2 : c ≠ 35) (h3 : lexOne c r = .ok (k, n, v)) :
    sc (c :: r) p = (⟨k, (c :: r).take n, v, p⟩ :: (sc (r.drop (n - 1)) (p + n)).1, (sc (r.drop (n - 1)) (p + n)).2) := by
  rw [sc_cons, if_neg (by simp [h1]), if_neg h2, h3]
/- shifted -/
def shiftT (k : Nat) (t : Tok) : Tok := { t with pos := t.pos + k }
theorem sc_shift (l : List UInt8) (p k : Nat) : sc l (p + k) = ((sc l p).1.map (shiftT k), (sc l p).2.map fun e => (e.1, e.2 + k)) := by
  refine sc_ind (M := fun l p => sc l (p + k) = ((sc l p).1.map (shiftT k), (sc l p).2.map fun e => (e.1, e.2 + k))) ?_ ?_ ?_ ?_ ?_ l.length l p (Nat.le_refl _)
  · intro p; rfl
  · intro c r p h ih
    rw [sc_blank _ _ h, sc_blank _ _ h, ← ih]
    congr 1; omega
  · intro r p ih
    rw [sc_hash, sc_hash, ← ih]
    congr 1; omega
  · intro c r p e h1 h2 h3
    rw [sc_err _ h1 h2 h3, sc_err _ h1 h2 h3]; rfl
  · intro c r p j n v h1 h2 h3 ih
    rw [sc_tok _ h1 h2 h3, sc_tok _ h1 h2 h3, show p + k + n = p + n + k by omega, ih]
    rfl
/- what follows a line feed is another text -/
theorem takeWhile_sep {α : Type} {p : α → Bool} {x : α} (hx : p x = false) (r b : List α) : (r ++ x :: b).takeWhile p = r.takeWhile p := by
  induction r with
  | nil => simp [hx]
  | cons y r ih => simp only [List.cons_append, List.takeWhile_cons, ih]
theorem lexOne_sep {c : UInt8} (r b : List UInt8) {x : UInt8} (hx : wordB x = false) (h61 : x ≠ 61) : lexOne c (r ++ x :: b) = lexOne c r := by
  have hd : digitB x = false := by revert hx; unfold wordB; cases digitB x <;> simp
  have h1 : (r ++ x :: b).takeWhile wordB = r.takeWhile wordB := takeWhile_sep hx r b
  have h2 : (r ++ x :: b).takeWhile digitB = r.takeWhile digitB := takeWhile_sep hd r b
  have hle : (r.takeWhile digitB).length ≤ r.length := takeWhile_len _ _
  have h3 : (((r ++ x :: b).drop (r.takeWhile digitB).length).head?.any wordB) = ((r.drop (r.takeWhile digitB).length).head?.any wordB) := by
    rw [List.drop_append_of_le_length hle]
    cases hq : r.drop (r.takeWhile digitB).length with
    | nil => simp [hx]
    | cons y q => rfl
  have h4 : ((r ++ x :: b).head? = some 61) = (r.head? = some 61) := by
    cases r with
    | nil => simp [h61]
    | cons y q => rfl
  unfold lexOne
  rw [h1, h2, h3]
  simp only [h4]
theorem sep_drop {α : Type} (r b : List α) (x : α) (m : Nat) (h : m ≤ r.length) : (r ++ x :: b).drop m = r.drop m ++ x :: b := List.drop_append_of_le_length h
theorem sc_join (a b : List UInt8) (p : Nat) : sc (a ++ 10 :: b) p =
    match (sc a p).2 with
    | some e => ((sc a p).1, some e)
    | none => ((sc a p).1 ++ (sc b (p + a.length + 1)).1, (sc b (p + a.length + 1)).2) := by
  refine sc_ind (M := fun a p => sc (a ++ 10 :: b) p =
    match (sc a p).2 with
    | some e => ((sc a p).1, some e)
    | none => ((sc a p).1 ++ (sc b (p + a.length + 1)).1, (sc b (p + a.length + 1)).2)) ?_ ?_ ?_ ?_ ?_ a.length a p (Nat.le_refl _)
  · intro p
    rw [List.nil_append, sc_blank _ _ (by decide)]
    simp [sc_nil]
  · intro c r p h ih
    rw [List.cons_append, sc_blank _ _ h, sc_blank _ _ h, ih]
    rw [show p + 1 + r.length + 1 = p + (c :: r).length + 1 by simp; omega]
  · intro r p ih
    rw [List.cons_append, sc_hash, sc_hash, takeWhile_sep (by decide), sep_drop _ _ _ _ (takeWhile_len _ _), ih]
    have := takeWhile_len (· != 10) r
    rw [show p + 1 + (r.takeWhile (· != 10)).length + (r.drop (r.takeWhile (· != 10)).length).length + 1 = p + (35 :: r).length + 1 by simp; omega]
  · intro c r p e h1 h2 h3
    rw [List.cons_append, sc_err _ h1 h2 h3, sc_err _ h1 h2 (by rw [lexOne_sep r b (by decide) (by decide)]; exact h3)]
  · intro c r p j n v h1 h2 h3 ih
    have hn := lexOne_len h3
    rw [List.cons_append, sc_tok _ h1 h2 h3, sc_tok _ h1 h2 (by rw [lexOne_sep r b (by decide) (by decide)]; exact h3), sep_drop _ _ _ _ (by omega), ih]
    rw [show p + n + (r.drop (n - 1)).length + 1 = p + (c :: r).length + 1 by simp; omega]
    have : (c :: (r ++ 10 :: b)).take n = (c :: r).take n := by
      rw [← List.cons_append, List.take_append_of_le_length (by simp; omega)]
    rw [this]
    cases h : (sc (r.drop (n - 1)) (p + n)).2 with
    | none => simp
    | some e => simp
/- Tokens by themselves, their places, and texts that are cut at a token. -/
/- what a token is by itself -/
def TokOk (t : Tok) : Prop := ∃ c r, t.text = c :: r ∧ blankB c = false ∧ c ≠ 35 ∧ lexOne c r = .ok (t.kind, r.length + 1, t.n)
theorem takeWhile_take {α : Type} (p : α → Bool) (l : List α) (m : Nat) (h : (l.takeWhile p).length ≤ m) : (l.take m).takeWhile p = l.takeWhile p := by
  induction l generalizing m with
  | nil => simp
  | cons x r ih =>
    cases m with
    | zero =>
      have : (x :: r).takeWhile p = [] := by simpa using h
      rw [this]; rfl
    | succ m =>
      simp only [List.take_succ_cons, List.takeWhile_cons] at h ⊢
      split
      · rename_i hp
        rw [if_pos hp] at h
        rw [ih m (by simpa using h)]
      · rfl
theorem head_take {α : Type} (l : List α) (m : Nat) (h : 0 < m) : (l.take m).head? = l.head? := by
  cases l with
  | nil => simp
  | cons x r => obtain ⟨k, rfl⟩ : ∃ k, m = k + 1 := ⟨m - 1, by omega⟩; rfl
/- the token alone, or cut anywhere behind it -/
theorem lexOne_take {c : UInt8} {r : List UInt8} {k n v : Nat} (h : lexOne c r = .ok (k, n, v)) (m : Nat) (hm : n - 1 ≤ m) : lexOne c (r.take m) = .ok (k, n, v) := by
  unfold lexOne at h ⊢
  by_cases h1 : letterB c = true
  · rw [if_pos h1] at h ⊢
    split at h
    · cases h
    · rename_i hq
      injection h with h; injection h with ha h; injection h with hb hc
      have hle : (r.takeWhile wordB).length ≤ m := by omega
      rw [takeWhile_take _ _ _ hle, if_neg hq]
      subst ha hb hc; rfl
  · rw [if_neg h1] at h ⊢
    by_cases h2 : digitB c = true
    · rw [if_pos h2] at h ⊢
      split at h
      · cases h
      · rename_i hq
        injection h with h; injection h with ha h; injection h with hb hc
        have hle : (r.takeWhile digitB).length ≤ m := by omega
        have hq2 : ¬ (((r.take m).drop (r.takeWhile digitB).length).head?.any wordB) = true := by
          rw [List.drop_take]
          rcases Nat.eq_zero_or_pos (m - (r.takeWhile digitB).length) with h0 | h0
          · rw [h0]; simp
          · rw [head_take _ _ h0]; exact fun h => hq (.inr h)
        rw [takeWhile_take _ _ _ hle, if_neg (by intro h; rcases h with h | h; exact hq (.inl h); exact hq2 h)]
        subst ha hb hc; rfl
    · rw [if_neg h2] at h ⊢
      by_cases h3 : symB c = true
      · rw [if_pos h3] at h ⊢; exact h
      · rw [if_neg h3] at h ⊢
        by_cases h4 : preB c = true
        · rw [if_pos h4] at h ⊢
          by_cases h5 : r.head? = some 61
          · rw [if_pos h5] at h
            injection h with h; injection h with ha h; injection h with hb hc
            rw [head_take _ _ (by omega), if_pos h5]
            subst ha hb hc; rfl
          · rw [if_neg h5] at h
            have : ¬ (r.take m).head? = some 61 := by
              rcases Nat.eq_zero_or_pos m with h0 | h0
              · subst h0; simp
              · rw [head_take _ _ h0]; exact h5
            rw [if_neg this]; exact h
        · rw [if_neg h4] at h ⊢
          by_cases h5 : c = 33
          · rw [if_pos h5] at h ⊢
            by_cases h6 : r.head? = some 61
            · rw [if_pos h6] at h
              injection h with h; injection h with ha h; injection h with hb hc
              rw [head_take _ _ (by omega), if_pos h6]
              subst ha hb hc; rfl
            · rw [if_neg h6] at h; cases h
          · rw [if_neg h5] at h; cases h
theorem tok_ok {c : UInt8} {r : List UInt8} {k n v : Nat} (p : Nat) (h1 : blankB c = false) (h2 : c ≠ 35) (h3 : lexOne c r = .ok (k, n, v)) : TokOk ⟨k, (c :: r).take n, v, p⟩ := by
  have hn := lexOne_len h3
  obtain ⟨m, rfl⟩ : ∃ m, n = m + 1 := ⟨n - 1, by omega⟩
  refine ⟨c, r.take m, rfl, h1, h2, ?_⟩
  have := lexOne_take h3 m (by omega)
  rw [this]
  have : (r.take m).length = m := by simp; omega
  rw [this]
theorem sc_ok (l : List UInt8) (p : Nat) : ∀ t ∈ (sc l p).1, TokOk t := by
  refine sc_ind (M := fun l p => ∀ t ∈ (sc l p).1, TokOk t) ?_ ?_ ?_ ?_ ?_ l.length l p (Nat.le_refl _)
  · intro p t h; simp [sc_nil] at h
  · intro c r p h ih; rw [sc_blank _ _ h]; exact ih
  · intro r p ih; rw [sc_hash]; exact ih
  · intro c r p e h1 h2 h3 t h; rw [sc_err _ h1 h2 h3] at h; simp at h
  · intro c r p j n v h1 h2 h3 ih t h
    rw [sc_tok _ h1 h2 h3] at h
    rcases List.mem_cons.1 h with rfl | h
    · exact tok_ok p h1 h2 h3
    · exact ih t h
theorem TokOk.sc {t : Tok} (h : TokOk t) (p : Nat) : sc t.text p = ([{ t with pos := p }], none) := by
  obtain ⟨c, r, h0, h1, h2, h3⟩ := h
  rw [h0, sc_tok _ h1 h2 h3, show r.length + 1 - 1 = r.length from rfl, List.drop_length, sc_nil]
  rw [show (c :: r).take (r.length + 1) = c :: r from by simp, ← h0]
theorem TokOk.len {t : Tok} (h : TokOk t) : 1 ≤ t.text.length := by
  obtain ⟨c, r, h0, _⟩ := h
  rw [h0]; simp
/- where the tokens lie -/
def Placed : Nat → Nat → List Tok → Prop
  | p, q, [] => p ≤ q
  | p, q, t :: r => p ≤ t.pos ∧ 1 ≤ t.text.length ∧ Placed (t.pos + t.text.length) q r
theorem Placed.mono {p p' q : Nat} {l : List Tok} (h : Placed p q l) (hp : p' ≤ p) : Placed p' q l := by
  cases l with
  | nil => exact Nat.le_trans hp h
  | cons t r => exact ⟨Nat.le_trans hp h.1, h.2⟩
theorem Placed.le {q : Nat} {l : List Tok} : ∀ {p : Nat}, Placed p q l → p + l.length ≤ q := by
  induction l with
  | nil => intro p h; exact h
  | cons t r ih =>
    intro p h
    have := ih h.2.2
    have := h.1
    have := h.2.1
    simp; omega
theorem Placed.mem {q : Nat} {l : List Tok} : ∀ {p : Nat}, Placed p q l → ∀ t ∈ l, p ≤ t.pos ∧ 1 ≤ t.text.length ∧ t.pos + t.text.length ≤ q := by
  induction l with
  | nil => intro p h t ht; simp at ht
  | cons x r ih =>
    intro p h t ht
    rcases List.mem_cons.1 ht with rfl | ht
    · have := h.2.2.le
      exact ⟨h.1, h.2.1, by omega⟩
    · obtain ⟨a, b, c⟩ := ih h.2.2 t ht
      have := h.1
      exact ⟨by omega, b, c⟩
theorem Placed.app {q : Nat} {l m : List Tok} : ∀ {p : Nat}, Placed p q (l ++ m) → ∃ o, Placed p o l ∧ Placed o q m := by
  induction l with
  | nil => intro p h; exact ⟨p, Nat.le_refl _, h⟩
  | cons x r ih =>
    intro p h
    obtain ⟨o, a, b⟩ := ih h.2.2
    exact ⟨o, ⟨h.1, h.2.1, a⟩, b⟩
/- a place belongs to one token -/
theorem Placed.one {q p : Nat} {u v : List Tok} {t : Tok} (h : Placed p q (u ++ t :: v)) : (∀ x ∈ u, x.pos < t.pos) ∧ ∀ x ∈ v, t.pos < x.pos := by
  obtain ⟨o, a, b⟩ := h.app
  refine ⟨fun x hx => ?_, fun x hx => ?_⟩
  · have := a.mem x hx
    have := b.1
    omega
  · have := b.2.2.mem x hx
    have := b.2.1
    omega
theorem sc_placed (l : List UInt8) (p : Nat) : Placed p (p + l.length) (sc l p).1 := by
  refine sc_ind (M := fun l p => Placed p (p + l.length) (sc l p).1) ?_ ?_ ?_ ?_ ?_ l.length l p (Nat.le_refl _)
  · intro p; exact Nat.le_refl _
  · intro c r p h ih; rw [sc_blank _ _ h, show p + (c :: r).length = p + 1 + r.length by simp; omega]; exact ih.mono (by omega)
  · intro r p ih
    have := takeWhile_len (· != 10) r
    rw [sc_hash]
    rw [show p + (35 :: r).length = p + 1 + (r.takeWhile (· != 10)).length + (r.drop (r.takeWhile (· != 10)).length).length by simp; omega]
    exact ih.mono (by omega)
  · intro c r p e h1 h2 h3; rw [sc_err _ h1 h2 h3]; exact Nat.le_add_right _ _
  · intro c r p j n v h1 h2 h3 ih
    have hn := lexOne_len h3
    rw [sc_tok _ h1 h2 h3]
    have hl : ((c :: r).take n).length = n := by simp; omega
    refine ⟨Nat.le_refl _, by simp only [hl]; omega, ?_⟩
    simp only [hl]
    rw [show p + (c :: r).length = p + n + (r.drop (n - 1)).length by simp; omega]
    exact ih
theorem sc_count (l : List UInt8) (p : Nat) : (sc l p).1.length ≤ l.length := by have := (sc_placed l p).le; omega
/- cut at a token: before it, behind it -/
theorem sc_cut (l : List UInt8) (p : Nat) : ∀ u t v, (sc l p).1 = u ++ t :: v → p ≤ t.pos ∧ sc (l.take (t.pos - p)) p = (u, none) ∧ sc (l.drop (t.pos - p)) t.pos = (t :: v, (sc l p).2) ∧
    sc (l.take (t.pos - p + t.text.length)) p = (u ++ [t], none) ∧ (l.drop (t.pos - p)).take t.text.length = t.text ∧ sc (l.drop (t.pos - p + t.text.length)) (t.pos + t.text.length) = (v, (sc l p).2) := by
  refine sc_ind (M := fun l p => ∀ u t v, (sc l p).1 = u ++ t :: v → p ≤ t.pos ∧ sc (l.take (t.pos - p)) p = (u, none) ∧ sc (l.drop (t.pos - p)) t.pos = (t :: v, (sc l p).2) ∧
    sc (l.take (t.pos - p + t.text.length)) p = (u ++ [t], none) ∧ (l.drop (t.pos - p)).take t.text.length = t.text ∧ sc (l.drop (t.pos - p + t.text.length)) (t.pos + t.text.length) = (v, (sc l p).2)) ?_ ?_ ?_ ?_ ?_ l.length l p (Nat.le_refl _)
  · intro p u t v h; rw [sc_nil] at h; simp at h
  · intro c r p h ih u t v hh
    rw [sc_blank _ _ h] at hh ⊢
    obtain ⟨h1, h2, h3, h4, h5, h6⟩ := ih u t v hh
    have e : t.pos - p = (t.pos - (p + 1)) + 1 := by omega
    have e2 : t.pos - p + t.text.length = (t.pos - (p + 1) + t.text.length) + 1 := by omega
    refine ⟨by omega, ?_, ?_, ?_, ?_, ?_⟩
    · rw [e, List.take_succ_cons, sc_blank _ _ h]; exact h2
    · rw [e, List.drop_succ_cons]; exact h3
    · rw [e2, List.take_succ_cons, sc_blank _ _ h]; exact h4
    · rw [e, List.drop_succ_cons]; exact h5
    · rw [e2, List.drop_succ_cons]; exact h6
  · intro r p ih u t v hh
    rw [sc_hash] at hh ⊢
    obtain ⟨h1, h2, h3, h4, h5, h6⟩ := ih u t v hh
    generalize hw : (r.takeWhile (· != 10)).length = w at *
    have hwl : w ≤ r.length := by rw [← hw]; exact takeWhile_len _ _
    have key : ∀ m, sc (List.take (m + w) r |>.cons 35) p = sc ((r.drop w).take m) (p + 1 + w) := by
      intro m
      rw [sc_hash]
      have : ((r.take (m + w)).takeWhile (· != 10)) = r.takeWhile (· != 10) := takeWhile_take _ _ _ (by omega)
      rw [this, hw, List.drop_take, Nat.add_sub_cancel]
    have e : t.pos - p = (t.pos - (p + 1 + w)) + w + 1 := by omega
    have e2 : t.pos - p + t.text.length = (t.pos - (p + 1 + w) + t.text.length) + w + 1 := by omega
    refine ⟨by omega, ?_, ?_, ?_, ?_, ?_⟩
    · rw [e, List.take_succ_cons, key]; exact h2
    · rw [e, List.drop_succ_cons, Nat.add_comm, ← List.drop_drop]; exact h3
    · rw [e2, List.take_succ_cons, key]; exact h4
    · rw [e, List.drop_succ_cons, Nat.add_comm, ← List.drop_drop]; exact h5
    · rw [e2, List.drop_succ_cons, Nat.add_comm, ← List.drop_drop]; exact h6
  · intro c r p e h1 h2 h3 u t v hh; rw [sc_err _ h1 h2 h3] at hh; simp at hh
  · intro c r p j n w h1 h2 h3 ih u t v hh
    have hn := lexOne_len h3
    have hl : ((c :: r).take n).length = n := by simp; omega
    obtain ⟨m, rfl⟩ : ∃ m, n = m + 1 := ⟨n - 1, by omega⟩
    have key : ∀ k, sc (c :: r.take (k + m)) p = (⟨j, (c :: r).take (m + 1), w, p⟩ :: (sc ((r.drop m).take k) (p + (m + 1))).1, (sc ((r.drop m).take k) (p + (m + 1))).2) := by
      intro k
      rw [sc_tok _ h1 h2 (lexOne_take h3 (k + m) (by omega))]
      have ea : (c :: r.take (k + m)).take (m + 1) = (c :: r).take (m + 1) := by
        rw [List.take_succ_cons, List.take_succ_cons, List.take_take, Nat.min_eq_left (by omega)]
      rw [ea, show m + 1 - 1 = m from rfl, List.drop_take, Nat.add_sub_cancel]
    have hsc := sc_tok p h1 h2 h3
    rw [hsc] at hh ⊢
    simp only [Nat.add_sub_cancel] at hh ih ⊢
    cases u with
    | nil =>
      simp only [List.nil_append, List.cons.injEq] at hh
      obtain ⟨ht, hv⟩ := hh
      subst ht
      simp only [Nat.sub_self, List.take_zero, List.drop_zero, Nat.zero_add, hl]
      refine ⟨Nat.le_refl _, rfl, ?_, ?_, ?_, ?_⟩
      · rw [hsc]; simp only [Nat.add_sub_cancel, hv]
      · have := key 0
        rw [Nat.zero_add] at this
        rw [List.take_succ_cons, this]
        simp [sc_nil]
      · trivial
      · rw [List.drop_succ_cons, ← hv]
    | cons x u =>
      simp only [List.cons_append, List.cons.injEq] at hh
      obtain ⟨hx, hh⟩ := hh
      obtain ⟨i1, i2, i3, i4, i5, i6⟩ := ih u t v hh
      have e : t.pos - p = (t.pos - (p + (m + 1))) + m + 1 := by omega
      have e2 : t.pos - p + t.text.length = (t.pos - (p + (m + 1)) + t.text.length) + m + 1 := by omega
      refine ⟨by omega, ?_, ?_, ?_, ?_, ?_⟩
      · rw [e, List.take_succ_cons, key, i2, hx]
      · rw [e, List.drop_succ_cons, Nat.add_comm, ← List.drop_drop]; exact i3
      · rw [e2, List.take_succ_cons, key, i4, hx]; rfl
      · rw [e, List.drop_succ_cons, Nat.add_comm, ← List.drop_drop]; exact i5
      · rw [e2, List.drop_succ_cons, Nat.add_comm, ← List.drop_drop]; exact i6
/- the tokens, one line feed behind each -/
def spaced : List Tok → List UInt8
  | [] => []
  | t :: r => t.text ++ 10 :: spaced r
def placed : List Tok → Nat → List Tok
  | [], _ => []
  | t :: r, p => { t with pos := p } :: placed r (p + t.text.length + 1)
theorem sc_spaced : ∀ (l : List Tok) (p : Nat), (∀ t ∈ l, TokOk t) → sc (spaced l) p = (placed l p, none)
  | [], p, _ => rfl
  | t :: r, p, h => by
    rw [spaced, sc_join, (h t (by simp)).sc p]
    simp only []
    rw [sc_spaced r _ (fun x hx => h x (by simp [hx]))]
    rfl
theorem spaced_len : ∀ {l : List Tok} {p q : Nat}, Placed p q l → (spaced l).length + p ≤ 2 * (q - p) + p
  | [], p, q, h => by simp [spaced]
  | t :: r, p, q, h => by
    have h1 := spaced_len h.2.2
    have h2 := h.2.2.le
    have h3 := h.1
    have h4 := h.2.1
    simp [spaced]; omega
/- The laws of north in plain words: gaps, the first error, the ends. -/
def pr (ts : List Tok) : R Prov := endF (provF fuelN ts)
theorem lexF_ok {l : List UInt8} {ts : List Tok} (h : lexF l = .ok ts) : sc l 0 = (ts, none) ∧ ts.length ≤ 5000 ∧ l.length ≤ 20000 := by
  unfold lexF at h
  rw [show scan l.length l 0 = sc l 0 from rfl] at h
  split at h
  · cases h
  · split at h
    · cases h
    · rename_i hd
      split at h
      · cases h
      · rename_i hn
        injection h with h
        have hlen := congrArg List.length hd
        simp at hlen
        refine ⟨Prod.ext h hn, ?_, by omega⟩
        rw [← h]; omega
theorem lexF_mk {l : List UInt8} {ts : List Tok} (h1 : sc l 0 = (ts, none)) (h2 : ts.length ≤ 5000) (h3 : l.length ≤ 20000) : lexF l = .ok ts := by
  unfold lexF
  rw [show scan l.length l 0 = sc l 0 from rfl, if_neg (by omega), h1]
  simp only []
  rw [List.drop_of_length_le h2]
theorem fuel_enough {ts : List Tok} (h : ts.length ≤ 5000) : ts.length < fuelN := by unfold fuelN; omega
theorem pr_cases (ts : List Tok) : (∃ p, provF fuelN ts = .ok (p, []) ∧ pr ts = .ok (p, [])) ∨ (∃ p t v, provF fuelN ts = .ok (p, t :: v) ∧ pr ts = .error (5, t :: v)) ∨ ∃ e s, provF fuelN ts = .error (e, s) ∧ pr ts = .error (e, s) := by
  unfold pr endF
  cases h : provF fuelN ts with
  | error v => obtain ⟨e, s⟩ := v; exact .inr (.inr ⟨e, s, rfl, rfl⟩)
  | ok v =>
    obtain ⟨p, r⟩ := v
    cases r with
    | nil => exact .inl ⟨p, rfl, rfl⟩
    | cons t v => exact .inr (.inl ⟨p, t, v, rfl, rfl⟩)
theorem less_nil {A : List (List UInt8)} (l : List Tok) : Less A [] l := .inl rfl
theorem less_same {A : List (List UInt8)} {t t' : Tok} {r r' : List Tok} (h : core t = core t') : Less A (t' :: r') (t :: r) := .inr (.inl ⟨t, r, t', r', rfl, rfl, h⟩)
theorem SameT.app (u v w : List Tok) : SameT u.length (u ++ v) (u ++ w) := ⟨by simp, by simp, by simp⟩
theorem SameT.left (u v : List Tok) : SameT u.length (u ++ v) u := ⟨by simp, by simp, by simp⟩
theorem SameT.right (u v : List Tok) : SameT u.length u (u ++ v) := ⟨by simp, by simp, by simp⟩
theorem drop_eq_app {u v : List Tok} {k : Nat} (hk : k ≤ (u ++ v).length) (h : v = (u ++ v).drop k) : k = u.length := by
  have := congrArg List.length h
  simp at this hk
  omega
/- tokens that are the same but for their places -/
theorem sameT_of_map {ts ts' : List Tok} (h : ts.map core = ts'.map core) (k : Nat) (hk : k ≤ ts.length) : SameT k ts ts' := by
  have hl : ts.length = ts'.length := by simpa using congrArg List.length h
  refine ⟨hk, by omega, ?_⟩
  rw [List.map_take, List.map_take, h]
theorem less_of_map {A : List (List UInt8)} {ts ts' : List Tok} (h : ts.map core = ts'.map core) (k : Nat) : Less A (ts'.drop k) (ts.drop k) := by
  have h2 : (ts.drop k).map core = (ts'.drop k).map core := by rw [List.map_drop, List.map_drop, h]
  cases hq : ts'.drop k with
  | nil => exact .inl rfl
  | cons t' r' =>
    rw [hq] at h2
    cases hq2 : ts.drop k with
    | nil => rw [hq2] at h2; simp at h2
    | cons t r =>
      rw [hq2] at h2
      simp only [List.map_cons, List.cons.injEq] at h2
      exact less_same h2.1
theorem failC_len {a b : List Tok} (h : a.length = b.length) : failC a = failC b := by
  cases a <;> cases b <;> simp_all [failC]
theorem pr_map {ts ts' : List Tok} (h : ts.map core = ts'.map core) : (∀ p, pr ts = .ok (p, []) → pr ts' = .ok (p, [])) ∧ ∀ e s, pr ts = .error (e, s) → ∃ j, j ≤ ts.length ∧ s = ts.drop j ∧ pr ts' = .error (e, ts'.drop j) := by
  have hl : ts.length = ts'.length := by simpa using congrArg List.length h
  have hd := prov_det fuelN
  rcases pr_cases ts with ⟨p, h1, h2⟩ | ⟨p, t, v, h1, h2⟩ | ⟨e, s, h1, h2⟩
  · refine ⟨fun q hq => ?_, fun e s hq => by rw [h2] at hq; cases hq⟩
    rw [h2] at hq; cases hq
    obtain ⟨k, hk, h3, h4⟩ := hd.ok _ _ _ h1
    have h5 := h4 ts' (sameT_of_map h k hk) ((less_of_map h k).toF refl_sub)
    have h6 : ts'.drop k = [] := by
      have := congrArg List.length h3
      simp at this ⊢
      omega
    unfold pr endF
    rw [h5, h6]; rfl
  · refine ⟨fun q hq => (by rw [h2] at hq; cases hq), fun e s hq => ?_⟩
    rw [h2] at hq; cases hq
    obtain ⟨k, hk, h3, h4⟩ := hd.ok _ _ _ h1
    have h5 := h4 ts' (sameT_of_map h k hk) ((less_of_map h k).toF refl_sub)
    refine ⟨k, hk, h3, ?_⟩
    unfold pr endF
    rw [h5]
    cases hq : ts'.drop k with
    | nil =>
      have := congrArg List.length h3
      have h7 := congrArg List.length hq
      simp at this h7
      omega
    | cons x y => rfl
  · refine ⟨fun q hq => (by rw [h2] at hq; cases hq), fun e' s' hq => ?_⟩
    rw [h2] at hq; cases hq
    obtain ⟨j, k, hjk, hk, h3, h0, h4⟩ := hd.err _ _ _ h1
    have h5 := h4 ts' (sameT_of_map h k hk) (less_of_map h k)
    refine ⟨j, by omega, h3, ?_⟩
    unfold pr endF
    rw [h5]
    have : recode e (ts'.drop j) = e := by
      unfold recode
      split
      · rename_i he
        rw [(h0 he).2]
        refine failC_len ?_
        rw [h3]; simp; omega
      · rfl
    rw [this]; rfl
theorem pr_sane {ts : List Tok} (h : ts.length ≤ 5000) {e : Nat} {s : List Tok} (he : pr ts = .error (e, s)) : e ≠ 0 ∧ (e = 6 ↔ s = []) ∧ s.length ≤ ts.length ∧ (e = 2 ∨ e = 5 ∨ e = 6 ∨ e = 9 ∨ e = 10) := by
  have hs := prov_sane fuelN
  rcases pr_cases ts with ⟨p, h1, h2⟩ | ⟨p, t, v, h1, h2⟩ | ⟨e', s', h1, h2⟩
  · rw [h2] at he; cases he
  · rw [h2] at he; cases he
    have := hs.ok _ _ _ (fuel_enough h) h1
    simp at this ⊢; omega
  · rw [h2] at he; cases he
    obtain ⟨a, b, c, d⟩ := hs.err _ _ _ (fuel_enough h) h1
    exact ⟨a, c, b, d⟩
theorem placed_core : ∀ (ts : List Tok) (p : Nat), (placed ts p).map core = ts.map core
  | [], p => rfl
  | t :: r, p => by simp only [placed, List.map_cons, placed_core r]; rfl
theorem placed_length (ts : List Tok) (p : Nat) : (placed ts p).length = ts.length := by simpa using congrArg List.length (placed_core ts p)
theorem spaced_lex {l : List UInt8} {ts : List Tok} (hl : l.length ≤ 3000) (h : lexF l = .ok ts) : lexF (spaced ts) = .ok (placed ts 0) ∧ (spaced ts).length ≤ 6000 := by
  obtain ⟨h1, h2, h3⟩ := lexF_ok h
  have hp := sc_placed l 0
  rw [h1] at hp
  have hsl := spaced_len (l := ts) hp
  have hok := sc_ok l 0
  rw [h1] at hok
  refine ⟨lexF_mk (sc_spaced ts 0 hok) (by rw [placed_length]; exact h2) (by omega), by omega⟩
/- the first error -/
theorem pr_at5 {u v : List Tok} {t : Tok} (h : pr (u ++ t :: v) = .error (5, t :: v)) : (∀ w, pr (u ++ t :: w) = .error (5, t :: w)) ∧ (pr u = .error (6, []) ∨ ∃ p, pr u = .ok (p, [])) := by
  have hd := prov_det fuelN
  rcases pr_cases (u ++ t :: v) with ⟨p, h1, h2⟩ | ⟨p, t', v', h1, h2⟩ | ⟨e, s, h1, h2⟩
  · rw [h2] at h; cases h
  · rw [h2] at h; cases h
    obtain ⟨k, hk, h3, h4⟩ := hd.ok _ _ _ h1
    obtain rfl := drop_eq_app hk h3
    refine ⟨fun w => ?_, .inr ⟨p, ?_⟩⟩
    · have := h4 (u ++ t :: w) (SameT.app _ _ _) (by simpa using (less_same rfl).toF refl_sub)
      unfold pr endF
      rw [this]; simp [bindR, failR, failC]
    · have := h4 u (SameT.left _ _) (by simpa using (less_nil _).toF refl_sub)
      unfold pr endF
      rw [this]; simp [bindR]
  · rw [h2] at h; cases h
    obtain ⟨j, k, hjk, hk, h3, h0, h4⟩ := hd.err _ _ _ h1
    obtain ⟨rfl, -⟩ := h0 (.inl rfl)
    obtain rfl := drop_eq_app hk h3
    refine ⟨fun w => ?_, .inl ?_⟩
    · have := h4 (u ++ t :: w) (SameT.app _ _ _) (by simpa using less_same rfl)
      unfold pr endF
      rw [this]; simp [bindR, recode, failC]
    · have := h4 u (SameT.left _ _) (by simpa using less_nil _)
      unfold pr endF
      rw [this]; simp [bindR, recode, failC]
/- the ends -/
theorem pr_ends {ts : List Tok} {p : Prov} (h : pr ts = .ok (p, [])) : ∃ u dot, ts = u ++ [dot] ∧ dot.text = [46] ∧ pr u = .error (6, []) ∧ ∀ m w, pr (u ++ dot :: m :: w) = .error (5, m :: w) := by
  rcases pr_cases ts with ⟨p', h1, h2⟩ | ⟨p', t', v', h1, h2⟩ | ⟨e, s, h1, h2⟩
  · clear h
    unfold provF at h1
    cases hb : bodyF fuelN ts with
    | error v => rw [hb] at h1; cases h1
    | ok v =>
      obtain ⟨q, r⟩ := v
      rw [hb] at h1
      simp only [bindR] at h1
      rcases takeF_cases [[46]] r with ht | ⟨dot, r0, i, rfl, ht, hw, hi⟩
      · simp only [mustF, optF, ht, failR] at h1; cases h1
      · simp only [mustF, optF, ht] at h1
        cases h1
        obtain ⟨k, hk, h3, h4⟩ := (body_det fuelN).ok _ _ _ hb
        have hts : ts = ts.take k ++ [dot] := by
          conv => lhs; rw [← List.take_append_drop k ts, ← h3]
        have hk' : (ts.take k).length = k := by simp; omega
        have hdot : dot.text = [46] := by
          by_cases hd : dot.text = [46]
          · exact hd
          · exfalso
            have hi' : List.idxOf? dot.text [[46]] = none := by
              rw [List.idxOf?_eq_none_iff]; simpa using hd
            rw [hi'] at hi; cases hi
        refine ⟨ts.take k, dot, hts, hdot, ?_, fun m w => ?_⟩
        · have := h4 (ts.take k) ⟨hk, by omega, by rw [List.take_take, Nat.min_self]⟩ (by rw [List.drop_of_length_le (by omega)]; exact (less_nil _).toF refl_sub)
          unfold pr endF provF
          rw [this, List.drop_of_length_le (by omega)]
          rfl
        · have := h4 (ts.take k ++ dot :: m :: w) ⟨hk, by simp; omega, by rw [List.take_append_of_le_length (by omega), List.take_take, Nat.min_self]⟩ (by
            rw [← h3, List.drop_append_of_le_length (by omega), List.drop_of_length_le (by omega)]; exact (less_same rfl).toF refl_sub)
          unfold pr endF provF
          rw [this, List.drop_append_of_le_length (by omega), List.drop_of_length_le (by omega)]
          simp only [bindR, List.nil_append]
          have ht2 : takeF [[46]] (dot :: m :: w) = (some i, m :: w) := takeF_core (ws := [[46]]) (t := dot) (t' := dot) rfl [] (m :: w) i ht
          simp only [mustF, optF, ht2, failR, failC]
  · rw [h2] at h; cases h
  · rw [h2] at h; cases h
end Go.Proofs.YtbicmjmcdnkjhaaGreatDoor
