/- Plain laws of the lexer and the parser. -/
import Derived.Test.YtbicmjmcdnkjhaaGreatDoorJNN1
set_option linter.unusedVariables false
set_option linter.unusedSimpArgs false
namespace Go.Proofs.YtbicmjmcdnkjhaaGreatDoor
/- What a parser of this kind answers depends on the tokens that it consumes, and on the next one alone. -/
def core (t : Tok) : Nat × List UInt8 × Nat := (t.kind, t.text, t.n)
def deaf (A : List (List UInt8)) (t : Tok) : Prop := ¬ t.kind = 2 ∧ ¬ (t.kind = 1 ∧ keyF t.text = false) ∧ ¬ (isWord t = true ∧ t.text ∈ A)
def Less (A : List (List UInt8)) (h' h : List Tok) : Prop :=
 h' = [] ∨ (∃ t r t' r', h = t :: r ∧ h' = t' :: r' ∧ core t = core t') ∨ (∃ t' r', h' = t' :: r' ∧ deaf A t')
/- behind what is read no word of F is asked for in vain -/
def LessF (F : List (List UInt8)) (h' h : List Tok) : Prop :=
 h' = [] ∨ (∃ t r t' r', h = t :: r ∧ h' = t' :: r' ∧ core t = core t') ∨ (∃ t' r', h' = t' :: r' ∧ ¬ (isWord t' = true ∧ t'.text ∈ F))
theorem Less.toF {A F : List (List UInt8)} (hs : ∀ x ∈ F, x ∈ A) {h' h : List Tok} (hl : Less A h' h) : LessF F h' h := by
 rcases hl with h0 | h1 | ⟨t', r', h2, h3⟩
 · exact .inl h0
 · exact .inr (.inl h1)
 · exact .inr (.inr ⟨t', r', h2, fun hh => h3.2.2 ⟨hh.1, hs _ hh.2⟩⟩)
def SameT (k : Nat) (l l' : List Tok) : Prop := k ≤ l.length ∧ k ≤ l'.length ∧ (l.take k).map core = (l'.take k).map core
def recode (e : Nat) (s : List Tok) : Nat := if e = 5 ∨ e = 6 then failC s else e
structure Det {α : Type} (A F : List (List UInt8)) (P : List Tok → R α) : Prop where
 sub : ∀ x ∈ F, x ∈ A
 ok : ∀ l x r, P l = .ok (x, r) → ∃ k, k ≤ l.length ∧ r = l.drop k ∧ ∀ l', SameT k l l' → LessF F (l'.drop k) (l.drop k) → P l' = .ok (x, l'.drop k)
 err : ∀ l e s, P l = .error (e, s) → ∃ j k, j ≤ k ∧ k ≤ l.length ∧ s = l.drop j ∧ ((e = 5 ∨ e = 6) → j = k ∧ e = failC s) ∧
  ∀ l', SameT k l l' → Less A (l'.drop k) (l.drop k) → P l' = .error (recode e (l'.drop j), l'.drop j)
theorem failC_56 (l : List Tok) : failC l = 5 ∨ failC l = 6 := by cases l <;> simp [failC]
theorem SameT.head {k : Nat} {t : Tok} {r l' : List Tok} (h : SameT (k + 1) (t :: r) l') : ∃ t' r', l' = t' :: r' ∧ core t = core t' ∧ SameT k r r' := by
 obtain ⟨h1, h2, h3⟩ := h
 cases l' with
 | nil => simp at h2
 | cons t' r' =>
   simp at h1 h2 h3
   exact ⟨t', r', rfl, h3.1, h1, h2, by simpa using h3.2⟩
theorem SameT.split {k m : Nat} {l l' : List Tok} (h : SameT (k + m) l l') : SameT k l l' ∧ SameT m (l.drop k) (l'.drop k) := by
 obtain ⟨h1, h2, h3⟩ := h
 refine ⟨⟨by omega, by omega, ?_⟩, ⟨by simp; omega, by simp; omega, ?_⟩⟩
 · have := congrArg (List.take k) h3
   simpa [← List.map_take, List.take_take, Nat.min_eq_left (Nat.le_add_right k m)] using this
 · have := congrArg (List.drop k) h3
   simpa [← List.map_drop, List.drop_take, Nat.add_sub_cancel_left] using this
theorem SameT.zero (l l' : List Tok) : SameT 0 l l' := ⟨Nat.zero_le _, Nat.zero_le _, by simp⟩
theorem SameT.less {A : List (List UInt8)} {m : Nat} {l l' : List Tok} (h : SameT m l l') (hm : 0 < m) : Less A l' l := by
 obtain ⟨k, rfl⟩ : ∃ k, m = k + 1 := ⟨m - 1, by omega⟩
 cases l with
 | nil => have := h.1; simp at this
 | cons t r =>
   obtain ⟨t', r', rfl, h1, _⟩ := h.head
   exact .inr (.inl ⟨t, r, t', r', rfl, rfl, h1⟩)
theorem SameT.lessF {F : List (List UInt8)} {m : Nat} {l l' : List Tok} (h : SameT m l l') (hm : 0 < m) : LessF F l' l := (h.less (A := F) hm).toF (fun _ h => h)
theorem lessF_mid {F : List (List UInt8)} {k m : Nat} {l l' : List Tok} (hs : SameT (k + m) l l') (hl : LessF F (l'.drop (k + m)) (l.drop (k + m))) : LessF F (l'.drop k) (l.drop k) := by
 rcases Nat.eq_zero_or_pos m with rfl | hm
 · exact hl
 · exact hs.split.2.lessF hm
/- the head of what follows k tokens, where m further ones are consumed -/
theorem less_mid {A : List (List UInt8)} {k m : Nat} {l l' : List Tok} (hs : SameT (k + m) l l') (hl : Less A (l'.drop (k + m)) (l.drop (k + m))) : Less A (l'.drop k) (l.drop k) := by
 rcases Nat.eq_zero_or_pos m with rfl | hm
 · exact hl
 · exact hs.split.2.less hm
theorem Det.pure {α : Type} {A F : List (List UInt8)} (hs : ∀ x ∈ F, x ∈ A) (x : α) : Det A F (fun l => .ok (x, l)) where
 sub := hs
 ok := fun l y r h => by cases h; exact ⟨0, Nat.zero_le _, rfl, fun l' _ _ => rfl⟩
 err := fun l e s h => by cases h
theorem Det.fail {α : Type} {A F : List (List UInt8)} (hs : ∀ x ∈ F, x ∈ A) : Det A F (fun l => (failR l : R α)) where
 sub := hs
 ok := fun l y r h => by cases h
 err := fun l e s h => by
  cases h
  exact ⟨0, 0, Nat.le_refl _, Nat.zero_le _, rfl, fun _ => ⟨rfl, rfl⟩, fun l' _ _ => by simp [recode, failC_56, failR]⟩
theorem Det.hard {α : Type} {A F : List (List UInt8)} (hs : ∀ x ∈ F, x ∈ A) (e : Nat) (he : ¬ (e = 5 ∨ e = 6)) : Det A F (fun l => (.error (e, l) : R α)) where
 sub := hs
 ok := fun l y r h => by cases h
 err := fun l e' s h => by
  cases h
  exact ⟨0, 0, Nat.le_refl _, Nat.zero_le _, rfl, fun h => absurd h he, fun l' _ _ => by simp [recode, he]⟩
theorem Det.bind {α β : Type} {A F : List (List UInt8)} {P : List Tok → R α} {Q : α → List Tok → R β} (hP : Det A F P) (hQ : ∀ x, Det A F (Q x)) : Det A F (fun l => bindR (P l) Q) where
 sub := hP.sub
 ok := fun l y r h => by
  cases hp : P l with
  | error e => rw [hp] at h; cases h
  | ok v =>
    obtain ⟨x, r1⟩ := v
    rw [hp] at h
    obtain ⟨k, hk, rfl, h1⟩ := hP.ok l x r1 hp
    obtain ⟨m, hm, rfl, h2⟩ := (hQ x).ok _ y r h
    simp at hm
    refine ⟨k + m, by omega, by rw [List.drop_drop], fun l' hs hl => ?_⟩
    show bindR (P l') Q = _
    rw [h1 l' hs.split.1 (lessF_mid hs hl)]
    have := h2 (l'.drop k) hs.split.2 (by rw [List.drop_drop, List.drop_drop]; exact hl)
    rw [List.drop_drop] at this
    exact this
 err := fun l e s h => by
  cases hp : P l with
  | error v =>
    obtain ⟨e1, s1⟩ := v
    rw [hp] at h
    cases h
    obtain ⟨j, k, hjk, hk, rfl, h0, h1⟩ := hP.err l e s hp
    refine ⟨j, k, hjk, hk, rfl, h0, fun l' hs hl => ?_⟩
    show bindR (P l') Q = _
    rw [h1 l' hs hl]; rfl
  | ok v =>
    obtain ⟨x, r1⟩ := v
    rw [hp] at h
    obtain ⟨k, hk, rfl, h1⟩ := hP.ok l x r1 hp
    obtain ⟨j, m, hjm, hm, rfl, h0, h2⟩ := (hQ x).err _ e s h
    simp at hm
    refine ⟨k + j, k + m, by omega, by omega, by rw [List.drop_drop], fun he => ?_, fun l' hs hl => ?_⟩
    · obtain ⟨a, b⟩ := h0 he
      exact ⟨by omega, b⟩
    · show bindR (P l') Q = _
      rw [h1 l' hs.split.1 ((less_mid hs hl).toF hP.sub)]
      have := h2 (l'.drop k) hs.split.2 (by rw [List.drop_drop, List.drop_drop]; exact hl)
      rw [List.drop_drop] at this
      exact this
theorem Det.guard {α β : Type} {A F : List (List UInt8)} {P : List Tok → R α} {Q : α → List Tok → R β} (g : α → Nat) (hg : ∀ x, ¬ (g x = 5 ∨ g x = 6)) (hP : Det A F P) (hQ : ∀ x, Det A F (Q x)) :
 Det A F (fun l => bindR (P l) fun x r => guardR l (g x) (Q x r)) where
 sub := hP.sub
 ok := fun l y r h => by
  obtain ⟨k, hk, hr, h1⟩ := (Det.bind hP hQ).ok l y r (by
   cases hp : P l with
   | error e => rw [hp] at h; cases h
   | ok v =>
     obtain ⟨x, r1⟩ := v
     rw [hp] at h
     simp only [bindR, guardR] at h ⊢
     split at h
     · exact h
     · cases h)
  refine ⟨k, hk, hr, fun l' hs hl => ?_⟩
  have h2 := h1 l' hs hl
  cases hp : P l with
  | error e => rw [hp] at h; cases h
  | ok v =>
    obtain ⟨x, r1⟩ := v
    obtain ⟨k1, hk1, e1, h3⟩ := hP.ok l x r1 hp
    have hx : g x = 0 := by
     rw [hp] at h
     simp only [bindR, guardR] at h
     split at h
     · assumption
     · cases h
    rw [hp] at h
    simp only [bindR, guardR, hx, if_true] at h
    obtain ⟨m, hm, e2, h4⟩ := (hQ x).ok _ y r h
    have hkm : r = l.drop (k1 + m) := by rw [e2, e1, List.drop_drop]
    have hlen : l.length - k = l.length - (k1 + m) := by
     have := congrArg List.length (hr.symm.trans hkm)
     simpa using this
    have hm' : m ≤ l.length - k1 := by rw [e1] at hm; simpa using hm
    have hk' : k = k1 + m := by omega
    subst hk'
    show bindR (P l') _ = _
    have h5 := h3 l' hs.split.1 (lessF_mid hs hl)
    rw [h5]
    simp only [bindR, guardR, hx, if_true]
    have h6 := h2
    rw [h5] at h6
    exact h6
 err := fun l e s h => by
  cases hp : P l with
  | error v =>
    obtain ⟨e1, s1⟩ := v
    rw [hp] at h
    cases h
    obtain ⟨j, k, hjk, hk, rfl, h0, h1⟩ := hP.err l e s hp
    refine ⟨j, k, hjk, hk, rfl, h0, fun l' hs hl => ?_⟩
    show bindR (P l') _ = _
    rw [h1 l' hs hl]; rfl
  | ok v =>
    obtain ⟨x, r1⟩ := v
    rw [hp] at h
    obtain ⟨k, hk, rfl, h1⟩ := hP.ok l x r1 hp
    by_cases hx : g x = 0
    · simp only [bindR, guardR, hx, if_true] at h
      obtain ⟨j, m, hjm, hm, rfl, h0, h2⟩ := (hQ x).err _ e s h
      simp at hm
      refine ⟨k + j, k + m, by omega, by omega, by rw [List.drop_drop], fun he => ?_, fun l' hs hl => ?_⟩
      · obtain ⟨a, b⟩ := h0 he
        exact ⟨by omega, b⟩
      · show bindR (P l') _ = _
        rw [h1 l' hs.split.1 ((less_mid hs hl).toF hP.sub)]
        simp only [bindR, guardR, hx, if_true]
        have := h2 (l'.drop k) hs.split.2 (by rw [List.drop_drop, List.drop_drop]; exact hl)
        rw [List.drop_drop] at this
        exact this
    · simp only [bindR, guardR, hx, if_false] at h
      cases h
      refine ⟨0, k, Nat.zero_le _, hk, rfl, fun he => absurd he (hg x), fun l' hs hl => ?_⟩
      show bindR (P l') _ = _
      rw [h1 l' hs (hl.toF hP.sub)]
      simp only [bindR, guardR, hx, if_false, recode, hg x, List.drop_zero]
/- one word of several, if it is next -/
theorem takeF_core {ws : List (List UInt8)} {t t' : Tok} (h : core t = core t') (r r' : List Tok) : ∀ i, takeF ws (t :: r) = (some i, r) → takeF ws (t' :: r') = (some i, r') := by
 intro i
 simp only [core, Prod.mk.injEq] at h
 obtain ⟨h1, h2, h3⟩ := h
 have hw : isWord t' = isWord t := by simp [isWord, h1]
 simp only [takeF, hw, ← h2]
 intro hh
 by_cases hc : isWord t = true
 · rw [if_pos hc] at hh ⊢
   cases hi : ws.idxOf? t.text with
   | none => rw [hi] at hh; simp at hh
   | some m => rw [hi] at hh; injection hh with hh; injection hh with hh; subst hh; rfl
 · rw [if_neg hc] at hh; simp at hh
theorem takeF_cases (ws : List (List UInt8)) (l : List Tok) : (takeF ws l = (none, l)) ∨ ∃ t r i, l = t :: r ∧ takeF ws l = (some i, r) ∧ isWord t = true ∧ ws.idxOf? t.text = some i := by
 cases l with
 | nil => exact .inl rfl
 | cons t r =>
   simp only [takeF]
   split
   · rename_i h
     split
     · rename_i i hi; exact .inr ⟨t, r, i, rfl, rfl, h, hi⟩
     · exact .inl rfl
   · exact .inl rfl
theorem takeF_less {A ws : List (List UInt8)} (hA : ∀ x ∈ ws, x ∈ A) {l l' : List Tok} (h : takeF ws l = (none, l)) (hl : Less A l' l) : takeF ws l' = (none, l') := by
 rcases takeF_cases ws l' with h' | ⟨t', r', i, rfl, h', hw, hi⟩
 · exact h'
 · exfalso
   rcases hl with h0 | ⟨t, r, t2, r2, rfl, h2, hc⟩ | ⟨t2, r2, h2, hd⟩
   · cases h0
   · cases h2
     have := takeF_core (ws := ws) hc.symm r' r i h'
     rw [h] at this
     cases this
   · cases h2
     refine hd.2.2 ⟨hw, hA _ ?_⟩
     have hl := List.isSome_idxOf? (l := ws) (a := t'.text)
     rw [hi] at hl
     simpa using hl
theorem takeF_lessF {F ws : List (List UInt8)} (hA : ∀ x ∈ ws, x ∈ F) {l l' : List Tok} (h : takeF ws l = (none, l)) (hl : LessF F l' l) : takeF ws l' = (none, l') := by
 rcases takeF_cases ws l' with h' | ⟨t', r', i, rfl, h', hw, hi⟩
 · exact h'
 · exfalso
   rcases hl with h0 | ⟨t, r, t2, r2, rfl, h2, hc⟩ | ⟨t2, r2, h2, hd⟩
   · cases h0
   · cases h2
     have := takeF_core (ws := ws) hc.symm r' r i h'
     rw [h] at this
     cases this
   · cases h2
     refine hd ⟨hw, hA _ ?_⟩
     have hl := List.isSome_idxOf? (l := ws) (a := t'.text)
     rw [hi] at hl
     simpa using hl
theorem Det.opt {α : Type} {A F ws : List (List UInt8)} {yes : Nat → List Tok → R α} {no : List Tok → R α} (hA : ∀ x ∈ ws, x ∈ F) (hy : ∀ i, Det A F (yes i)) (hn : Det A F no) : Det A F (fun l => optF ws l yes no) where
 sub := hn.sub
 ok := fun l y r h => by
  rcases takeF_cases ws l with ht | ⟨t, r0, i, rfl, ht, hw, hi⟩
  · simp only [optF, ht] at h
    obtain ⟨k, hk, rfl, h1⟩ := hn.ok l y r h
    refine ⟨k, hk, rfl, fun l' hs hl => ?_⟩
    have h2 : takeF ws l' = (none, l') := takeF_lessF hA ht (by simpa using lessF_mid (k := 0) (m := k) (by simpa using hs) (by simpa using hl))
    simp only [optF, h2]
    exact h1 l' hs hl
  · simp only [optF, ht] at h
    obtain ⟨k, hk, rfl, h1⟩ := (hy i).ok r0 y r h
    refine ⟨k + 1, by simp; omega, rfl, fun l' hs hl => ?_⟩
    obtain ⟨t', r', rfl, hc, hs'⟩ := hs.head
    simp only [optF, takeF_core hc r0 r' i ht]
    exact h1 r' hs' (by simpa using hl)
 err := fun l e s h => by
  rcases takeF_cases ws l with ht | ⟨t, r0, i, rfl, ht, hw, hi⟩
  · simp only [optF, ht] at h
    obtain ⟨j, k, hjk, hk, rfl, h0, h1⟩ := hn.err l e s h
    refine ⟨j, k, hjk, hk, rfl, h0, fun l' hs hl => ?_⟩
    have h2 : takeF ws l' = (none, l') := takeF_less (fun x hx => hn.sub x (hA x hx)) ht (by simpa using less_mid (k := 0) (m := k) (by simpa using hs) (by simpa using hl))
    simp only [optF, h2]
    exact h1 l' hs hl
  · simp only [optF, ht] at h
    obtain ⟨j, k, hjk, hk, rfl, h0, h1⟩ := (hy i).err r0 e s h
    refine ⟨j + 1, k + 1, by omega, by simp; omega, rfl, fun he => ?_, fun l' hs hl => ?_⟩
    · obtain ⟨a, b⟩ := h0 he; exact ⟨by omega, by simpa using b⟩
    · obtain ⟨t', r', rfl, hc, hs'⟩ := hs.head
      simp only [optF, takeF_core hc r0 r' i ht]
      simpa using h1 r' hs' (by simpa using hl)
/- the same, where what is not met by the words consumes -/
theorem Det.must {A F ws : List (List UInt8)} (hs : ∀ x ∈ F, x ∈ A) (hA : ∀ x ∈ ws, x ∈ A) : Det A F (mustF ws) where
 sub := hs
 ok := fun l y r h => by
  rcases takeF_cases ws l with ht | ⟨t, r0, i, rfl, ht, hw, hi⟩
  · simp only [mustF, optF, ht, failR] at h; cases h
  · simp only [mustF, optF, ht] at h
    cases h
    refine ⟨1, by simp, rfl, fun l' hs hl => ?_⟩
    obtain ⟨t', r', rfl, hc, hs'⟩ := hs.head
    simp only [mustF, optF, takeF_core hc _ r' _ ht, List.drop_succ_cons, List.drop_zero]
 err := fun l e s h => by
  rcases takeF_cases ws l with ht | ⟨t, r0, i, rfl, ht, hw, hi⟩
  · simp only [mustF, optF, ht, failR] at h
    cases h
    refine ⟨0, 0, Nat.le_refl _, Nat.zero_le _, rfl, fun _ => ⟨rfl, rfl⟩, fun l' hs hl => ?_⟩
    have h2 : takeF ws l' = (none, l') := takeF_less hA ht (by simpa using hl)
    simp only [mustF, optF, h2, failR, recode, failC_56, if_true, List.drop_zero]
  · simp only [mustF, optF, ht] at h; cases h
theorem Det.name {A F : List (List UInt8)} (hs : ∀ x ∈ F, x ∈ A) : Det A F nameF where
 sub := hs
 ok := fun l x r h => by
  cases l with
  | nil => cases h
  | cons t r0 =>
    simp only [nameF] at h
    split at h
    · rename_i hc
      cases h
      refine ⟨1, by simp, rfl, fun l' hs hl => ?_⟩
      obtain ⟨t', r', rfl, hcc, _⟩ := hs.head
      simp only [core, Prod.mk.injEq] at hcc
      simp only [nameF, ← hcc.1, ← hcc.2.1, hc, if_true, List.drop_succ_cons, List.drop_zero]
    · cases h
 err := fun l e s h => by
  have hf : (failR l : R (List UInt8)) = .error (e, s) := by
   cases l with
   | nil => exact h
   | cons t r0 =>
     simp only [nameF] at h
     split at h
     · cases h
     · exact h
  cases hf
  refine ⟨0, 0, Nat.le_refl _, Nat.zero_le _, rfl, fun _ => ⟨rfl, rfl⟩, fun l' hs hl => ?_⟩
  have : nameF l' = failR l' := by
   cases l' with
   | nil => rfl
   | cons t' r' =>
     simp only [nameF]
     split
     · rename_i hc
       exfalso
       rcases hl with h0 | ⟨t, r, t2, r2, h3, h2, hcc⟩ | ⟨t2, r2, h2, hd⟩
       · cases h0
       · cases h2
         simp only [List.drop_zero] at h3
         subst h3
         simp only [core, Prod.mk.injEq] at hcc
         simp only [nameF, hcc.1, hcc.2.1, hc, if_true] at h
         cases h
       · cases h2
         refine hd.2.1 ?_
         simpa using hc
     · rfl
  simp [recode, failC_56, this, failR]
theorem Det.number {A F : List (List UInt8)} (hs : ∀ x ∈ F, x ∈ A) (most : Nat) : Det A F (numberF most) where
 sub := hs
 ok := fun l x r h => by
  cases l with
  | nil => cases h
  | cons t r0 =>
    simp only [numberF] at h
    split at h
    · rename_i hc
      split at h
      · cases h
      · rename_i hm
        cases h
        refine ⟨1, by simp, rfl, fun l' hs hl => ?_⟩
        obtain ⟨t', r', rfl, hcc, _⟩ := hs.head
        simp only [core, Prod.mk.injEq] at hcc
        simp only [numberF, ← hcc.1, ← hcc.2.2, hc, hm, if_true, if_false, List.drop_succ_cons, List.drop_zero]
    · cases h
 err := fun l e s h => by
  by_cases hr : ∃ t r0, l = t :: r0 ∧ (t.kind == 2) = true
  · obtain ⟨t, r0, rfl, hc⟩ := hr
    simp only [numberF, hc, if_true] at h
    split at h
    · rename_i hm
      cases h
      refine ⟨0, 1, by omega, by simp, rfl, fun he => by omega, fun l' hs hl => ?_⟩
      obtain ⟨t', r', rfl, hcc, _⟩ := hs.head
      simp only [core, Prod.mk.injEq] at hcc
      simp only [numberF, ← hcc.1, ← hcc.2.2, hc, hm, if_true, List.drop_zero, recode]
      rfl
    · cases h
  · have hf : (failR l : R Nat) = .error (e, s) := by
      cases l with
      | nil => exact h
      | cons t r0 =>
        have hc : ¬ (t.kind == 2) = true := fun hc => hr ⟨t, r0, rfl, hc⟩
        rw [numberF, if_neg hc] at h; exact h
    cases hf
    refine ⟨0, 0, Nat.le_refl _, Nat.zero_le _, rfl, fun _ => ⟨rfl, rfl⟩, fun l' hs hl => ?_⟩
    have : numberF most l' = failR l' := by
     cases l' with
     | nil => rfl
     | cons t' r' =>
       simp only [numberF]
       split
       · rename_i hc
         exfalso
         rcases hl with h0 | ⟨t, r, t2, r2, h3, h2, hcc⟩ | ⟨t2, r2, h2, hd⟩
         · cases h0
         · cases h2
           simp only [List.drop_zero] at h3
           simp only [core, Prod.mk.injEq] at hcc
           exact hr ⟨t, r, h3, by rw [hcc.1]; exact hc⟩
         · cases h2
           exact hd.1 (by simpa using hc)
       · rfl
    simp [recode, failC_56, this, failR]
theorem Det.several {α : Type} {A F : List (List UInt8)} {one : List Tok → R α} {w : List UInt8} (hw : w ∈ F) (h : Det A F one) : ∀ n, Det A F (severalL one w n)
 | 0 => Det.hard h.sub 0 (by simp)
 | n + 1 => Det.bind h (fun x => Det.opt (by simpa using hw) (fun _ => Det.bind (Det.several hw h n) (fun xs => Det.pure h.sub _)) (Det.pure h.sub _))
theorem Det.severalF {A F : List (List UInt8)} {one : List Tok → R Tree} {w : List UInt8} (op n : Nat) (hw : w ∈ F) (h : Det A F one) : Det A F (severalF one w op n) :=
 Det.bind (Det.several hw h n) (fun xs => Det.pure h.sub _)
theorem Det.andF {A F : List (List UInt8)} {one : List Tok → R Tree} (op n : Nat) (hw : [97, 110, 100] ∈ F) (h : Det A F one) : Det A F (andF one op n) := Det.severalF op n hw h
theorem Det.orF {A F : List (List UInt8)} {one : List Tok → R Tree} (op op2 n : Nat) (hw : [97, 110, 100] ∈ F) (hv : [111, 114] ∈ F) (h : Det A F one) : Det A F (orF one op op2 n) := Det.severalF op2 n hv (Det.andF op n hw h)
/- the words of conditions; those that may follow one -/
/- all words -/
/- With enough fuel a parser consumes, and its errors are ones. -/
structure Sane {α : Type} (d n : Nat) (P : List Tok → R α) : Prop where
 ok : ∀ l x r, l.length < n → P l = .ok (x, r) → r.length + d ≤ l.length
 err : ∀ l e s, l.length < n → P l = .error (e, s) → e ≠ 0 ∧ s.length ≤ l.length ∧ (e = 6 ↔ s = []) ∧ (e = 2 ∨ e = 5 ∨ e = 6 ∨ e = 9 ∨ e = 10)
theorem Sane.weak {α : Type} {d d' n n' : Nat} {P : List Tok → R α} (h : Sane d n P) (hd : d' ≤ d) (hn : n' ≤ n) : Sane d' n' P where
 ok := fun l x r hl hp => by have := h.ok l x r (by omega) hp; omega
 err := fun l e s hl hp => h.err l e s (by omega) hp
theorem Sane.pure {α : Type} {n : Nat} (x : α) : Sane 0 n (fun l => .ok (x, l)) where
 ok := fun l y r _ h => by cases h; exact Nat.le_refl _
 err := fun l e s _ h => by cases h
theorem failC_6 (l : List Tok) : failC l = 6 ↔ l = [] := by cases l <;> simp [failC]
theorem Sane.fail {α : Type} {d n : Nat} : Sane d n (fun l => (failR l : R α)) where
 ok := fun l y r _ h => by cases h
 err := fun l e s _ h => by
  cases h
  refine ⟨?_, Nat.le_refl _, failC_6 l, ?_⟩ <;> rcases failC_56 l with h | h <;> simp [h]
theorem Sane.bind {α β : Type} {d1 d2 n : Nat} {P : List Tok → R α} {Q : α → List Tok → R β} (hP : Sane d1 n P) (hQ : ∀ x, Sane d2 n (Q x)) : Sane (d1 + d2) n (fun l => bindR (P l) Q) where
 ok := fun l y r hl h => by
  cases hp : P l with
  | error e => rw [hp] at h; cases h
  | ok v =>
    obtain ⟨x, r1⟩ := v
    rw [hp] at h
    have h1 := hP.ok l x r1 hl hp
    have h2 := (hQ x).ok r1 y r (by omega) h
    omega
 err := fun l e s hl h => by
  cases hp : P l with
  | error v => rw [hp] at h; cases h; exact hP.err l _ _ hl hp
  | ok v =>
    obtain ⟨x, r1⟩ := v
    rw [hp] at h
    have h1 := hP.ok l x r1 hl hp
    obtain ⟨a, b, c, d⟩ := (hQ x).err r1 e s (by omega) h
    exact ⟨a, by omega, c, d⟩
/- behind a consuming parser one token less is at hand -/
theorem Sane.bind1 {α β : Type} {d2 n : Nat} {P : List Tok → R α} {Q : α → List Tok → R β} (hP : Sane 1 (n + 1) P) (hQ : ∀ x, Sane d2 n (Q x)) : Sane (1 + d2) (n + 1) (fun l => bindR (P l) Q) where
 ok := fun l y r hl h => by
  cases hp : P l with
  | error e => rw [hp] at h; cases h
  | ok v =>
    obtain ⟨x, r1⟩ := v
    rw [hp] at h
    have h1 := hP.ok l x r1 hl hp
    have h2 := (hQ x).ok r1 y r (by omega) h
    omega
 err := fun l e s hl h => by
  cases hp : P l with
  | error v => rw [hp] at h; cases h; exact hP.err l _ _ hl hp
  | ok v =>
    obtain ⟨x, r1⟩ := v
    rw [hp] at h
    have h1 := hP.ok l x r1 hl hp
    obtain ⟨a, b, c, d⟩ := (hQ x).err r1 e s (by omega) h
    exact ⟨a, by omega, c, d⟩
theorem Sane.opt {α : Type} {d n : Nat} {ws : List (List UInt8)} {yes : Nat → List Tok → R α} {no : List Tok → R α} (hy : ∀ i, Sane (d - 1) n (yes i)) (hn : Sane d (n + 1) no) : Sane d (n + 1) (fun l => optF ws l yes no) where
 ok := fun l y r hl h => by
  rcases takeF_cases ws l with ht | ⟨t, r0, i, rfl, ht, _⟩
  · simp only [optF, ht] at h; exact hn.ok l y r hl h
  · simp only [optF, ht] at h
    simp at hl
    have := (hy i).ok r0 y r hl h
    simp; omega
 err := fun l e s hl h => by
  rcases takeF_cases ws l with ht | ⟨t, r0, i, rfl, ht, _⟩
  · simp only [optF, ht] at h; exact hn.err l e s hl h
  · simp only [optF, ht] at h
    simp at hl
    obtain ⟨a, b, c, d⟩ := (hy i).err r0 e s hl h
    exact ⟨a, by simp; omega, c, d⟩
theorem Sane.opt' {α : Type} {d n : Nat} {ws : List (List UInt8)} {yes : Nat → List Tok → R α} {no : List Tok → R α} (hy : ∀ i, Sane (d - 1) n (yes i)) (hn : Sane d n no) : Sane d n (fun l => optF ws l yes no) := by
 cases n with
 | zero => exact ⟨fun l _ _ h => absurd h (Nat.not_lt_zero _), fun l _ _ h => absurd h (Nat.not_lt_zero _)⟩
 | succ n => exact Sane.opt (fun i => (hy i).weak (Nat.le_refl _) (Nat.le_succ _)) hn
theorem Sane.must {ws : List (List UInt8)} {n : Nat} : Sane 1 n (mustF ws) := Sane.opt' (fun _ => Sane.pure _) Sane.fail
theorem Sane.name {n : Nat} : Sane 1 n nameF where
 ok := fun l x r hl h => by
  cases l with
  | nil => cases h
  | cons t r0 =>
    simp only [nameF] at h
    split at h
    · cases h; simp
    · cases h
 err := fun l e s hl h => by
  refine (Sane.fail (α := List UInt8) (d := 0)).err l e s hl ?_
  cases l with
  | nil => exact h
  | cons t r0 =>
    simp only [nameF] at h
    split at h
    · cases h
    · exact h
theorem Sane.number {n : Nat} (most : Nat) : Sane 1 n (numberF most) where
 ok := fun l x r hl h => by
  cases l with
  | nil => cases h
  | cons t r0 =>
    simp only [numberF] at h
    split at h
    · split at h
      · cases h
      · cases h; simp
    · cases h
 err := fun l e s hl h => by
  cases l with
  | nil => exact (Sane.fail (α := Nat) (d := 0)).err [] e s hl h
  | cons t r0 =>
    simp only [numberF] at h
    split at h
    · split at h
      · cases h; simp
      · cases h
    · exact (Sane.fail (α := Nat) (d := 0)).err _ e s hl h
theorem Sane.guard {α β : Type} {d1 d2 n : Nat} {P : List Tok → R α} {Q : α → List Tok → R β} (g : α → Nat) (hg : ∀ x, g x = 0 ∨ g x = 2 ∨ g x = 9) (h1 : 0 < d1) (hP : Sane d1 n P) (hQ : ∀ x, Sane d2 n (Q x)) :
 Sane (d1 + d2) n (fun l => bindR (P l) fun x r => guardR l (g x) (Q x r)) where
 ok := fun l y r hl h => by
  refine (Sane.bind hP hQ).ok l y r hl ?_
  cases hp : P l with
  | error e => rw [hp] at h; cases h
  | ok v =>
    obtain ⟨x, r1⟩ := v
    rw [hp] at h
    simp only [bindR, guardR] at h ⊢
    split at h
    · exact h
    · cases h
 err := fun l e s hl h => by
  cases hp : P l with
  | error v => rw [hp] at h; cases h; exact hP.err l _ _ hl hp
  | ok v =>
    obtain ⟨x, r1⟩ := v
    rw [hp] at h
    simp only [bindR, guardR] at h
    have h2 := hP.ok l x r1 hl hp
    split at h
    · obtain ⟨a, b, c, d⟩ := (hQ x).err r1 e s (by omega) h
      exact ⟨a, by omega, c, d⟩
    · cases h
      have hne : l ≠ [] := by rintro rfl; simp at h2; omega
      rcases hg x with hx | hx | hx
      · exact absurd hx (by assumption)
      · rw [hx]; simp [hne]
      · rw [hx]; simp [hne]
theorem Sane.severalL {α : Type} {one : List Tok → R α} {w : List UInt8} : ∀ {n : Nat}, Sane 1 n one → Sane 1 n (severalL one w n)
 | 0, _ => ⟨fun l _ _ h => absurd h (Nat.not_lt_zero _), fun l _ _ h => absurd h (Nat.not_lt_zero _)⟩
 | n + 1, h => by
   have ih := Sane.severalL (w := w) (h.weak (Nat.le_refl _) (Nat.le_succ n))
   exact Sane.bind (d2 := 0) h (fun x => Sane.opt (fun _ => (Sane.bind (d2 := 0) ih (fun xs => Sane.pure _)).weak (Nat.zero_le _) (Nat.le_refl _)) (Sane.pure _))
theorem Sane.severalF {one : List Tok → R Tree} {w : List UInt8} {n : Nat} (op : Nat) (h : Sane 1 n one) : Sane 1 n (severalF one w op n) := Sane.bind (d2 := 0) (Sane.severalL h) (fun _ => Sane.pure _)
theorem Sane.orF {one : List Tok → R Tree} {n : Nat} (op op2 : Nat) (h : Sane 1 n one) : Sane 1 n (orF one op op2 n) := Sane.severalF op2 (Sane.severalF op h)
theorem sane_zero {α : Type} {d : Nat} {P : List Tok → R α} : Sane d 0 P := ⟨fun l _ _ h => absurd h (Nat.not_lt_zero _), fun l _ _ h => absurd h (Nat.not_lt_zero _)⟩
theorem atom_sane : ∀ n, Sane 1 n (atomF n)
 | 0 => sane_zero
 | n + 1 => by
   have ih := atom_sane n
   refine Sane.opt (fun i => ?_) ((Sane.bind (d2 := 0) Sane.name (fun s => Sane.opt' (fun c => (Sane.bind (d2 := 0) (Sane.number _) (fun v => Sane.pure _)).weak (Nat.zero_le _) (Nat.le_refl _)) (Sane.pure _))))
   match i with
   | 0 => exact (Sane.bind (d2 := 0) ih (fun f => Sane.pure _)).weak (Nat.zero_le _) (Nat.le_refl _)
   | 1 => exact (Sane.bind (Sane.orF 6 7 ih) (fun f => Sane.bind (d2 := 0) Sane.must (fun _ => Sane.pure _))).weak (Nat.zero_le _) (Nat.le_refl _)
   | 2 => exact Sane.pure _
   | _ + 3 => exact Sane.pure _
theorem one_sane : ∀ n, Sane 1 n (oneF n)
 | 0 => sane_zero
 | n + 1 => by
   have ih := one_sane n
   refine Sane.bind1 (d2 := 0) Sane.must (fun i => ?_)
   match i with
   | 0 => exact Sane.pure _
   | 1 => exact Sane.pure _
   | 2 => exact (Sane.bind (d2 := 0) (Sane.number _) (fun v => Sane.pure _)).weak (Nat.zero_le _) (Nat.le_refl _)
   | 3 => exact (Sane.bind (Sane.orF 8 9 ih) (fun f => Sane.bind (d2 := 0) Sane.must (fun _ => Sane.pure _))).weak (Nat.zero_le _) (Nat.le_refl _)
   | _ + 4 => exact (Sane.bind (d2 := 0) Sane.name (fun s => Sane.pure _)).weak (Nat.zero_le _) (Nat.le_refl _)
theorem cond_sane (n : Nat) : Sane 1 n (condF n) := Sane.orF 6 7 (atom_sane n)
theorem start_sane (n : Nat) : Sane 1 n (startF n) := Sane.orF 8 9 (one_sane n)
theorem bounded_sane {n : Nat} {P : List Tok → R Tree} (h : Sane 1 n P) : Sane 1 n (boundedF P) :=
 Sane.guard (d2 := 0) boundC (fun x => by unfold boundC; split <;> simp) (by omega) h (fun x => Sane.pure _)
theorem except_sane (m : Nat) : ∀ n out, 21 ≤ n + out.length → out.length ≤ 20 → Sane 1 m (exceptF n out)
 | 0, out, h, h2 => by omega
 | n + 1, out, h, h2 => by
   refine Sane.mk (fun l x r hl hp => ?_) (fun l e s hl hp => ?_)
   · by_cases h20 : out.length = 20
     · exfalso
       cases hn : nameF l with
       | error v => simp only [exceptF, hn, bindR] at hp; cases hp
       | ok v =>
         obtain ⟨s, r0⟩ := v
         simp only [exceptF, hn, bindR, guardR] at hp
         have : excC out s ≠ 0 := by unfold excC; rw [if_pos h20]; split <;> simp
         rw [if_neg this] at hp
         cases hp
     · exact (Sane.guard (d2 := 0) (excC out) (fun x => by unfold excC; split <;> (try split) <;> simp) (by omega) Sane.name (fun s => Sane.opt' (fun _ => (except_sane m n (out ++ [s]) (by simp; omega) (by simp; omega)).weak (Nat.zero_le _) (Nat.le_refl _)) (Sane.pure _))).ok l x r hl hp
   · by_cases h20 : out.length = 20
     · have hs := (Sane.guard (d2 := 0) (n := m) (P := nameF) (Q := fun s r => .ok ([s], r)) (excC out) (fun x => by unfold excC; split <;> (try split) <;> simp) (by omega) Sane.name (fun s => Sane.pure _)).err l e s hl
       refine hs ?_
       cases hn : nameF l with
       | error v => simp only [exceptF, hn, bindR] at hp ⊢; exact hp
       | ok v =>
         obtain ⟨s', r0⟩ := v
         simp only [exceptF, hn, bindR, guardR] at hp ⊢
         have : excC out s' ≠ 0 := by unfold excC; rw [if_pos h20]; split <;> simp
         rw [if_neg this] at hp ⊢
         exact hp
     · exact (Sane.guard (d2 := 0) (excC out) (fun x => by unfold excC; split <;> (try split) <;> simp) (by omega) Sane.name (fun s => Sane.opt' (fun _ => (except_sane m n (out ++ [s]) (by simp; omega) (by simp; omega)).weak (Nat.zero_le _) (Nat.le_refl _)) (Sane.pure _))).err l e s hl hp
theorem when_sane (n : Nat) (w : List UInt8) (op : Nat) : Sane 0 n (whenF n w op) := Sane.opt' (fun _ => (bounded_sane (start_sane n)).weak (Nat.zero_le _) (Nat.le_refl _)) (Sane.pure _)
theorem if_sane (n : Nat) : Sane 0 n (ifF n) := Sane.opt' (fun _ => (bounded_sane (cond_sane n)).weak (Nat.zero_le _) (Nat.le_refl _)) (Sane.pure _)
theorem exc_sane (n : Nat) : Sane 0 n excF := Sane.opt' (fun _ => (except_sane n 22 [] (by simp) (by simp)).weak (Nat.zero_le _) (Nat.le_refl _)) (Sane.pure _)
theorem kind_sane (n : Nat) : Sane 0 n kindF := (Sane.bind (d2 := 0) Sane.must (fun i => by
 match i with
 | 0 => exact (Sane.bind (d2 := 0) Sane.name (fun s => Sane.pure _)).weak (Nat.zero_le _) (Nat.le_refl _)
 | _ + 1 => exact (Sane.bind Sane.name (fun s => Sane.bind Sane.must (fun _ => Sane.bind (d2 := 0) (Sane.number _) (fun v => Sane.pure _)))).weak (Nat.zero_le _) (Nat.le_refl _))).weak (Nat.zero_le _) (Nat.le_refl _)
/- More fuel makes no difference. -/
/- The lexer: its tokens, and how texts are joined. -/
theorem takeWhile_len {α : Type} (p : α → Bool) (l : List α) : (l.takeWhile p).length ≤ l.length := (List.takeWhile_prefix p).length_le
/- more fuel makes no difference -/
theorem lexOne_len {c : UInt8} {r : List UInt8} {k n v : Nat} (h : lexOne c r = .ok (k, n, v)) : 1 ≤ n ∧ n ≤ r.length + 1 := by
 have h1 := takeWhile_len wordB r
 have h2 := takeWhile_len digitB r
 have h3 : r.head? = some 61 → 1 ≤ r.length := by cases r <;> simp
 unfold lexOne at h
 repeat' (split at h)
 all_goals (first | cases h | skip)
 all_goals simp_all
 all_goals omega
theorem scan_fuel : ∀ (f g : Nat) (l : List UInt8) (p : Nat), l.length ≤ f → l.length ≤ g → scan f l p = scan g l p
 | 0, g, l, p, hf, hg => by
   have : l = [] := by simpa using hf
   subst this
   cases g <;> rfl
 | f + 1, 0, l, p, hf, hg => by
   have : l = [] := by simpa using hg
   subst this
   rfl
 | f + 1, g + 1, [], p, hf, hg => rfl
 | f + 1, g + 1, c :: r, p, hf, hg => by
   simp at hf hg
   simp only [scan]
   rw [scan_fuel f g r (p + 1) hf hg, scan_fuel f g (r.drop _) _ (by simp; omega) (by simp; omega)]
   cases h : lexOne c r with
   | error e => rfl
   | ok v =>
     obtain ⟨k, n, v⟩ := v
     simp only []
     rw [scan_fuel f g (r.drop (n - 1)) _ (by simp; omega) (by simp; omega)]
/- the scan without fuel -/
def sc (l : List UInt8) (p : Nat) : List Tok × Option (Nat × Nat) := scan l.length l p
theorem scan_sc (f : Nat) (l : List UInt8) (p : Nat) (h : l.length ≤ f) : scan f l p = sc l p := scan_fuel _ _ _ _ h (Nat.le_refl _)
theorem sc_nil (p : Nat) : sc [] p = ([], none) := rfl
theorem sc_cons (c : UInt8) (r : List UInt8) (p : Nat) : sc (c :: r) p =
 if blankB c then sc r (p + 1)
 else if c = 35 then sc (r.drop (r.takeWhile (· != 10)).length) (p + 1 + (r.takeWhile (· != 10)).length)
 else match lexOne c r with
  | .error e => ([], some (e, p))
  | .ok (kind, k, v) => (⟨kind, (c :: r).take k, v, p⟩ :: (sc (r.drop (k - 1)) (p + k)).1, (sc (r.drop (k - 1)) (p + k)).2) := by
 show scan (r.length + 1) (c :: r) p = _
 simp only [scan]
 rw [scan_sc r.length r _ (Nat.le_refl _), scan_sc r.length (r.drop (r.takeWhile (· != 10)).length) _ (by simp)]
 cases h : lexOne c r with
 | error e => rfl
 | ok v =>
   obtain ⟨k, n, v⟩ := v
   simp only []
   rw [scan_sc r.length (r.drop (n - 1)) _ (by simp)]
/- induction along the scan -/
theorem sc_ind {M : List UInt8 → Nat → Prop} (hn : ∀ p, M [] p)
 (hb : ∀ c r p, blankB c = true → M r (p + 1) → M (c :: r) p)
 (hh : ∀ r p, M (r.drop (r.takeWhile (· != 10)).length) (p + 1 + (r.takeWhile (· != 10)).length) → M (35 :: r) p)
 (he : ∀ c r p e, blankB c = false → c ≠ 35 → lexOne c r = .error e → M (c :: r) p)
 (ht : ∀ c r p k n v, blankB c = false → c ≠ 35 → lexOne c r = .ok (k, n, v) → M (r.drop (n - 1)) (p + n) → M (c :: r) p) : ∀ (m : Nat) (l : List UInt8) (p : Nat), l.length ≤ m → M l p
 | _, [], p, _ => hn p
 | 0, c :: r, p, h => by simp at h
 | m + 1, c :: r, p, h => by
   simp at h
   by_cases h1 : blankB c = true
   · exact hb c r p h1 (sc_ind hn hb hh he ht m r _ h)
   · have h1 : blankB c = false := by simpa using h1
     by_cases h2 : c = 35
     · subst h2; exact hh r p (sc_ind hn hb hh he ht m _ _ (by simp; omega))
     · cases h3 : lexOne c r with
       | error e => exact he c r p e h1 h2 h3
       | ok v =>
         obtain ⟨k, n, v⟩ := v
         exact ht c r p k n v h1 h2 h3 (sc_ind hn hb hh he ht m _ _ (by simp; omega))
theorem sc_blank {c : UInt8} (r : List UInt8) (p : Nat) (h : blankB c = true) : sc (c :: r) p = sc r (p + 1) := by rw [sc_cons, if_pos h]
theorem sc_hash (r : List UInt8) (p : Nat) : sc (35 :: r) p = sc (r.drop (r.takeWhile (· != 10)).length) (p + 1 + (r.takeWhile (· != 10)).length) := by
 rw [sc_cons, if_neg (by decide), if_pos rfl]
theorem sc_err {c : UInt8} {r : List UInt8} {e : Nat} (p : Nat) (h1 : blankB c = false) (h2 : c ≠ 35) (h3 : lexOne c r = .error e) : sc (c :: r) p = ([], some (e, p)) := by
 rw [sc_cons, if_neg (by simp [h1]), if_neg h2, h3]
theorem sc_tok {c : UInt8} {r : List UInt8} {k n v : Nat} (p : Nat) (h1 : blankB c = false) (h2 : c ≠ 35) (h3 : lexOne c r = .ok (k, n, v)) :
 sc (c :: r) p = (⟨k, (c :: r).take n, v, p⟩ :: (sc (r.drop (n - 1)) (p + n)).1, (sc (r.drop (n - 1)) (p + n)).2) := by
 rw [sc_cons, if_neg (by simp [h1]), if_neg h2, h3]
/- shifted -/
/- what follows a line feed is another text -/
theorem takeWhile_sep {α : Type} {p : α → Bool} {x : α} (hx : p x = false) (r b : List α) : (r ++ x :: b).takeWhile p = r.takeWhile p := by
 induction r with
 | nil => simp [hx]
 | cons y r ih => simp only [List.cons_append, List.takeWhile_cons, ih]
theorem lexOne_sep {c : UInt8} (r b : List UInt8) {x : UInt8} (hx : wordB x = false) (h61 : x ≠ 61) : lexOne c (r ++ x :: b) = lexOne c r := by
 have hd : digitB x = false := by revert hx; unfold wordB; cases digitB x <;> simp
 have h1 : (r ++ x :: b).takeWhile wordB = r.takeWhile wordB := takeWhile_sep hx r b
 have h2 : (r ++ x :: b).takeWhile digitB = r.takeWhile digitB := takeWhile_sep hd r b
 have hle : (r.takeWhile digitB).length ≤ r.length := takeWhile_len _ _
 have h3 : (((r ++ x :: b).drop (r.takeWhile digitB).length).head?.any wordB) = ((r.drop (r.takeWhile digitB).length).head?.any wordB) := by
  rw [List.drop_append_of_le_length hle]
  cases hq : r.drop (r.takeWhile digitB).length with
  | nil => simp [hx]
  | cons y q => rfl
 have h4 : ((r ++ x :: b).head? = some 61) = (r.head? = some 61) := by
  cases r with
  | nil => simp [h61]
  | cons y q => rfl
 unfold lexOne
 rw [h1, h2, h3]
 simp only [h4]
/- Tokens by themselves, their places, and texts that are cut at a token. -/
/- what a token is by itself -/
def TokOk (t : Tok) : Prop := ∃ c r, t.text = c :: r ∧ blankB c = false ∧ c ≠ 35 ∧ lexOne c r = .ok (t.kind, r.length + 1, t.n)
theorem takeWhile_take {α : Type} (p : α → Bool) (l : List α) (m : Nat) (h : (l.takeWhile p).length ≤ m) : (l.take m).takeWhile p = l.takeWhile p := by
 induction l generalizing m with
 | nil => simp
 | cons x r ih =>
   cases m with
   | zero =>
     have : (x :: r).takeWhile p = [] := by simpa using h
     rw [this]; rfl
   | succ m =>
     simp only [List.take_succ_cons, List.takeWhile_cons] at h ⊢
     split
     · rename_i hp
       rw [if_pos hp] at h
       rw [ih m (by simpa using h)]
     · rfl
theorem head_take {α : Type} (l : List α) (m : Nat) (h : 0 < m) : (l.take m).head? = l.head? := by
 cases l with
 | nil => simp
 | cons x r => obtain ⟨k, rfl⟩ : ∃ k, m = k + 1 := ⟨m - 1, by omega⟩; rfl
/- the token alone, or cut anywhere behind it -/
theorem lexOne_take {c : UInt8} {r : List UInt8} {k n v : Nat} (h : lexOne c r = .ok (k, n, v)) (m : Nat) (hm : n - 1 ≤ m) : lexOne c (r.take m) = .ok (k, n, v) := by
 unfold lexOne at h ⊢
 by_cases h1 : letterB c = true
 · rw [if_pos h1] at h ⊢
   split at h
   · cases h
   · rename_i hq
     injection h with h; injection h with ha h; injection h with hb hc
     have hle : (r.takeWhile wordB).length ≤ m := by omega
     rw [takeWhile_take _ _ _ hle, if_neg hq]
     subst ha hb hc; rfl
 · rw [if_neg h1] at h ⊢
   by_cases h2 : digitB c = true
   · rw [if_pos h2] at h ⊢
     split at h
     · cases h
     · rename_i hq
       injection h with h; injection h with ha h; injection h with hb hc
       have hle : (r.takeWhile digitB).length ≤ m := by omega
       have hq2 : ¬ (((r.take m).drop (r.takeWhile digitB).length).head?.any wordB) = true := by
        rw [List.drop_take]
        rcases Nat.eq_zero_or_pos (m - (r.takeWhile digitB).length) with h0 | h0
        · rw [h0]; simp
        · rw [head_take _ _ h0]; exact fun h => hq (.inr h)
       rw [takeWhile_take _ _ _ hle, if_neg (by intro h; rcases h with h | h; exact hq (.inl h); exact hq2 h)]
       subst ha hb hc; rfl
   · rw [if_neg h2] at h ⊢
     by_cases h3 : symB c = true
     · rw [if_pos h3] at h ⊢; exact h
     · rw [if_neg h3] at h ⊢
       by_cases h4 : preB c = true
       · rw [if_pos h4] at h ⊢
         by_cases h5 : r.head? = some 61
         · rw [if_pos h5] at h
           injection h with h; injection h with ha h; injection h with hb hc
           rw [head_take _ _ (by omega), if_pos h5]
           subst ha hb hc; rfl
         · rw [if_neg h5] at h
           have : ¬ (r.take m).head? = some 61 := by
            rcases Nat.eq_zero_or_pos m with h0 | h0
            · subst h0; simp
            · rw [head_take _ _ h0]; exact h5
           rw [if_neg this]; exact h
       · rw [if_neg h4] at h ⊢
         by_cases h5 : c = 33
         · rw [if_pos h5] at h ⊢
           by_cases h6 : r.head? = some 61
           · rw [if_pos h6] at h
             injection h with h; injection h with ha h; injection h with hb hc
             rw [head_take _ _ (by omega), if_pos h6]
             subst ha hb hc; rfl
           · rw [if_neg h6] at h; cases h
         · rw [if_neg h5] at h; cases h
theorem tok_ok {c : UInt8} {r : List UInt8} {k n v : Nat} (p : Nat) (h1 : blankB c = false) (h2 : c ≠ 35) (h3 : lexOne c r = .ok (k, n, v)) : TokOk ⟨k, (c :: r).take n, v, p⟩ := by
 have hn := lexOne_len h3
 obtain ⟨m, rfl⟩ : ∃ m, n = m + 1 := ⟨n - 1, by omega⟩
 refine ⟨c, r.take m, rfl, h1, h2, ?_⟩
 have := lexOne_take h3 m (by omega)
 rw [this]
 have : (r.take m).length = m := by simp; omega
 rw [this]
theorem sc_ok (l : List UInt8) (p : Nat) : ∀ t ∈ (sc l p).1, TokOk t := by
 refine sc_ind (M := fun l p => ∀ t ∈ (sc l p).1, TokOk t) ?_ ?_ ?_ ?_ ?_ l.length l p (Nat.le_refl _)
 · intro p t h; simp [sc_nil] at h
 · intro c r p h ih; rw [sc_blank _ _ h]; exact ih
 · intro r p ih; rw [sc_hash]; exact ih
 · intro c r p e h1 h2 h3 t h; rw [sc_err _ h1 h2 h3] at h; simp at h
 · intro c r p j n v h1 h2 h3 ih t h
   rw [sc_tok _ h1 h2 h3] at h
   rcases List.mem_cons.1 h with rfl | h
   · exact tok_ok p h1 h2 h3
   · exact ih t h
theorem TokOk.len {t : Tok} (h : TokOk t) : 1 ≤ t.text.length := by
 obtain ⟨c, r, h0, _⟩ := h
 rw [h0]; simp
/- where the tokens lie -/
def Placed : Nat → Nat → List Tok → Prop
 | p, q, [] => p ≤ q
 | p, q, t :: r => p ≤ t.pos ∧ 1 ≤ t.text.length ∧ Placed (t.pos + t.text.length) q r
theorem Placed.mono {p p' q : Nat} {l : List Tok} (h : Placed p q l) (hp : p' ≤ p) : Placed p' q l := by
 cases l with
 | nil => exact Nat.le_trans hp h
 | cons t r => exact ⟨Nat.le_trans hp h.1, h.2⟩
theorem Placed.le {q : Nat} {l : List Tok} : ∀ {p : Nat}, Placed p q l → p + l.length ≤ q := by
 induction l with
 | nil => intro p h; exact h
 | cons t r ih =>
   intro p h
   have := ih h.2.2
   have := h.1
   have := h.2.1
   simp; omega
theorem Placed.mem {q : Nat} {l : List Tok} : ∀ {p : Nat}, Placed p q l → ∀ t ∈ l, p ≤ t.pos ∧ 1 ≤ t.text.length ∧ t.pos + t.text.length ≤ q := by
 induction l with
 | nil => intro p h t ht; simp at ht
 | cons x r ih =>
   intro p h t ht
   rcases List.mem_cons.1 ht with rfl | ht
   · have := h.2.2.le
     exact ⟨h.1, h.2.1, by omega⟩
   · obtain ⟨a, b, c⟩ := ih h.2.2 t ht
     have := h.1
     exact ⟨by omega, b, c⟩
theorem Placed.app {q : Nat} {l m : List Tok} : ∀ {p : Nat}, Placed p q (l ++ m) → ∃ o, Placed p o l ∧ Placed o q m := by
 induction l with
 | nil => intro p h; exact ⟨p, Nat.le_refl _, h⟩
 | cons x r ih =>
   intro p h
   obtain ⟨o, a, b⟩ := ih h.2.2
   exact ⟨o, ⟨h.1, h.2.1, a⟩, b⟩
/- a place belongs to one token -/
theorem Placed.one {q p : Nat} {u v : List Tok} {t : Tok} (h : Placed p q (u ++ t :: v)) : (∀ x ∈ u, x.pos < t.pos) ∧ ∀ x ∈ v, t.pos < x.pos := by
 obtain ⟨o, a, b⟩ := h.app
 refine ⟨fun x hx => ?_, fun x hx => ?_⟩
 · have := a.mem x hx
   have := b.1
   omega
 · have := b.2.2.mem x hx
   have := b.2.1
   omega
theorem sc_placed (l : List UInt8) (p : Nat) : Placed p (p + l.length) (sc l p).1 := by
 refine sc_ind (M := fun l p => Placed p (p + l.length) (sc l p).1) ?_ ?_ ?_ ?_ ?_ l.length l p (Nat.le_refl _)
 · intro p; exact Nat.le_refl _
 · intro c r p h ih; rw [sc_blank _ _ h, show p + (c :: r).length = p + 1 + r.length by simp; omega]; exact ih.mono (by omega)
 · intro r p ih
   have := takeWhile_len (· != 10) r
   rw [sc_hash]
   rw [show p + (35 :: r).length = p + 1 + (r.takeWhile (· != 10)).length + (r.drop (r.takeWhile (· != 10)).length).length by simp; omega]
   exact ih.mono (by omega)
 · intro c r p e h1 h2 h3; rw [sc_err _ h1 h2 h3]; exact Nat.le_add_right _ _
 · intro c r p j n v h1 h2 h3 ih
   have hn := lexOne_len h3
   rw [sc_tok _ h1 h2 h3]
   have hl : ((c :: r).take n).length = n := by simp; omega
   refine ⟨Nat.le_refl _, by simp only [hl]; omega, ?_⟩
   simp only [hl]
   rw [show p + (c :: r).length = p + n + (r.drop (n - 1)).length by simp; omega]
   exact ih
/- cut at a token: before it, behind it -/
/- the tokens, one line feed behind each -/
/- The laws of north in plain words: gaps, the first error, the ends. -/
def pr (ts : List Tok) : R Prov := endF (provF fuelN ts)
theorem lexF_ok {l : List UInt8} {ts : List Tok} (h : lexF l = .ok ts) : sc l 0 = (ts, none) ∧ ts.length ≤ 5000 ∧ l.length ≤ 20000 := by
 unfold lexF at h
 rw [show scan l.length l 0 = sc l 0 from rfl] at h
 split at h
 · cases h
 · split at h
   · cases h
   · rename_i hd
     split at h
     · cases h
     · rename_i hn
       injection h with h
       have hlen := congrArg List.length hd
       simp at hlen
       refine ⟨Prod.ext h hn, ?_, by omega⟩
       rw [← h]; omega
theorem lexF_mk {l : List UInt8} {ts : List Tok} (h1 : sc l 0 = (ts, none)) (h2 : ts.length ≤ 5000) (h3 : l.length ≤ 20000) : lexF l = .ok ts := by
 unfold lexF
 rw [show scan l.length l 0 = sc l 0 from rfl, if_neg (by omega), h1]
 simp only []
 rw [List.drop_of_length_le h2]
theorem fuel_enough {ts : List Tok} (h : ts.length ≤ 5000) : ts.length < fuelN := by unfold fuelN; omega
theorem pr_cases (ts : List Tok) : (∃ p, provF fuelN ts = .ok (p, []) ∧ pr ts = .ok (p, [])) ∨ (∃ p t v, provF fuelN ts = .ok (p, t :: v) ∧ pr ts = .error (5, t :: v)) ∨ ∃ e s, provF fuelN ts = .error (e, s) ∧ pr ts = .error (e, s) := by
 unfold pr endF
 cases h : provF fuelN ts with
 | error v => obtain ⟨e, s⟩ := v; exact .inr (.inr ⟨e, s, rfl, rfl⟩)
 | ok v =>
   obtain ⟨p, r⟩ := v
   cases r with
   | nil => exact .inl ⟨p, rfl, rfl⟩
   | cons t v => exact .inr (.inl ⟨p, t, v, rfl, rfl⟩)
theorem SameT.app (u v w : List Tok) : SameT u.length (u ++ v) (u ++ w) := ⟨by simp, by simp, by simp⟩
theorem SameT.left (u v : List Tok) : SameT u.length (u ++ v) u := ⟨by simp, by simp, by simp⟩
/- tokens that are the same but for their places -/
/- the first error -/
/- the ends -/
end Go.Proofs.YtbicmjmcdnkjhaaGreatDoor
