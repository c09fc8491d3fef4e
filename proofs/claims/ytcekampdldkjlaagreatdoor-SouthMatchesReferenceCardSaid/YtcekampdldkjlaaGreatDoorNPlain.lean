/- Plain laws of the lexer. -/
import Derived.Test.YtcekampdldkjlaaGreatDoorNDefs
set_option linter.unusedVariables false
set_option linter.unusedSimpArgs false
namespace Go.Proofs.YtcekampdldkjlaaGreatDoor
/- The lexer: its tokens, and how texts are joined. -/
theorem takeWhile_len {α : Type} (p : α → Bool) (l : List α) : (l.takeWhile p).length ≤ l.length := (List.takeWhile_prefix p).length_le
/- more fuel makes no difference -/
theorem lexOne_len {c : UInt8} {r : List UInt8} {k n v : Nat} (h : lexOne c r = .ok (k, n, v)) : 1 ≤ n ∧ n ≤ r.length + 1 := by
  have h1 := takeWhile_len wordB r
  have h2 := takeWhile_len digitB r
  have h3 : r.head? = some 61 → 1 ≤ r.length := by cases r <;> simp
  unfold lexOne at h
  repeat' (split at h)
  all_goals (first | cases h | skip)
  all_goals simp_all
  all_goals omega
theorem scan_fuel : ∀ (f g : Nat) (l : List UInt8) (p : Nat), l.length ≤ f → l.length ≤ g → scan f l p = scan g l p
  | 0, g, l, p, hf, hg => by
    have : l = [] := by simpa using hf
    subst this
    cases g <;> rfl
  | f + 1, 0, l, p, hf, hg => by
    have : l = [] := by simpa using hg
    subst this
    rfl
  | f + 1, g + 1, [], p, hf, hg => rfl
  | f + 1, g + 1, c :: r, p, hf, hg => by
    simp at hf hg
    simp only [scan]
    rw [scan_fuel f g r (p + 1) hf hg, scan_fuel f g (r.drop _) _ (by simp; omega) (by simp; omega)]
    cases h : lexOne c r with
    | error e => rfl
    | ok v =>
      obtain ⟨k, n, v⟩ := v
      simp only []
      rw [scan_fuel f g (r.drop (n - 1)) _ (by simp; omega) (by simp; omega)]
/- the scan without fuel -/
def sc (l : List UInt8) (p : Nat) : List Tok × Option (Nat × Nat) := scan l.length l p
theorem scan_sc (f : Nat) (l : List UInt8) (p : Nat) (h : l.length ≤ f) : scan f l p = sc l p := scan_fuel _ _ _ _ h (Nat.le_refl _)
theorem sc_nil (p : Nat) : sc [] p = ([], none) := rfl
theorem sc_cons (c : UInt8) (r : List UInt8) (p : Nat) : sc (c :: r) p =
    if blankB c then sc r (p + 1)
    else if c = 35 then sc (r.drop (r.takeWhile (· != 10)).length) (p + 1 + (r.takeWhile (· != 10)).length)
    else match lexOne c r with
      | .error e => ([], some (e, p))
      | .ok (kind, k, v) => (⟨kind, (c :: r).take k, v, p⟩ :: (sc (r.drop (k - 1)) (p + k)).1, (sc (r.drop (k - 1)) (p + k)).2) := by
  show scan (r.length + 1) (c :: r) p = _
  simp only [scan]
  rw [scan_sc r.length r _ (Nat.le_refl _), scan_sc r.length (r.drop (r.takeWhile (· != 10)).length) _ (by simp)]
  cases h : lexOne c r with
  | error e => rfl
  | ok v =>
    obtain ⟨k, n, v⟩ := v
    simp only []
    rw [scan_sc r.length (r.drop (n - 1)) _ (by simp)]
/- induction along the scan -/
theorem sc_ind {M : List UInt8 → Nat → Prop} (hn : ∀ p, M [] p)
    (hb : ∀ c r p, blankB c = true → M r (p + 1) → M (c :: r) p)
    (hh : ∀ r p, M (r.drop (r.takeWhile (· != 10)).length) (p + 1 + (r.takeWhile (· != 10)).length) → M (35 :: r) p)
    (he : ∀ c r p e, blankB c = false → c ≠ 35 → lexOne c r = .error e → M (c :: r) p)
    (ht : ∀ c r p k n v, blankB c = false → c ≠ 35 → lexOne c r = .ok (k, n, v) → M (r.drop (n - 1)) (p + n) → M (c :: r) p) : ∀ (m : Nat) (l : List UInt8) (p : Nat), l.length ≤ m → M l p
  | _, [], p, _ => hn p
  | 0, c :: r, p, h => by simp at h
  | m + 1, c :: r, p, h => by
    simp at h
    by_cases h1 : blankB c = true
    · exact hb c r p h1 (sc_ind hn hb hh he ht m r _ h)
    · have h1 : blankB c = false := by simpa using h1
      by_cases h2 : c = 35
      · subst h2; exact hh r p (sc_ind hn hb hh he ht m _ _ (by simp; omega))
      · cases h3 : lexOne c r with
        | error e => exact he c r p e h1 h2 h3
        | ok v =>
          obtain ⟨k, n, v⟩ := v
          exact ht c r p k n v h1 h2 h3 (sc_ind hn hb hh he ht m _ _ (by simp; omega))
theorem sc_blank {c : UInt8} (r : List UInt8) (p : Nat) (h : blankB c = true) : sc (c :: r) p = sc r (p + 1) := by rw [sc_cons, if_pos h]
theorem sc_hash (r : List UInt8) (p : Nat) : sc (35 :: r) p = sc (r.drop (r.takeWhile (· != 10)).length) (p + 1 + (r.takeWhile (· != 10)).length) := by
  rw [sc_cons, if_neg (by decide), if_pos rfl]
theorem sc_err {c : UInt8} {r : List UInt8} {e : Nat} (p : Nat) (h1 : blankB c = false) (h2 : c ≠ 35) (h3 : lexOne c r = .error e) : sc (c :: r) p = ([], some (e, p)) := by
  rw [sc_cons, if_neg (by simp [h1]), if_neg h2, h3]
theorem sc_tok {c : UInt8} {r : List UInt8} {k n v : Nat} (p : Nat) (h1 : blankB c = false) (h2 : c ≠ 35) (h3 : lexOne c r = .ok (k, n, v)) :
    sc (c :: r) p = (⟨k, (c :: r).take n, v, p⟩ :: (sc (r.drop (n - 1)) (p + n)).1, (sc (r.drop (n - 1)) (p + n)).2) := by
  rw [sc_cons, if_neg (by simp [h1]), if_neg h2, h3]
/- shifted -/
def shiftT (k : Nat) (t : Tok) : Tok := { t with pos := t.pos + k }
theorem sc_shift (l : List UInt8) (p k : Nat) : sc l (p + k) = ((sc l p).1.map (shiftT k), (sc l p).2.map fun e => (e.1, e.2 + k)) := by
  refine sc_ind (M := fun l p => sc l (p + k) = ((sc l p).1.map (shiftT k), (sc l p).2.map fun e => (e.1, e.2 + k))) ?_ ?_ ?_ ?_ ?_ l.length l p (Nat.le_refl _)
  · intro p; rfl
  · intro c r p h ih
    rw [sc_blank _ _ h, sc_blank _ _ h, ← ih]
    congr 1; omega
  · intro r p ih
    rw [sc_hash, sc_hash, ← ih]
    congr 1; omega
  · intro c r p e h1 h2 h3
    rw [sc_err _ h1 h2 h3, sc_err _ h1 h2 h3]; rfl
  · intro c r p j n v h1 h2 h3 ih
    rw [sc_tok _ h1 h2 h3, sc_tok _ h1 h2 h3, show p + k + n = p + n + k by omega, ih]
    rfl
/- what follows a line feed is another text -/
theorem takeWhile_sep {α : Type} {p : α → Bool} {x : α} (hx : p x = false) (r b : List α) : (r ++ x :: b).takeWhile p = r.takeWhile p := by
  induction r with
  | nil => simp [hx]
  | cons y r ih => simp only [List.cons_append, List.takeWhile_cons, ih]
theorem lexOne_sep {c : UInt8} (r b : List UInt8) {x : UInt8} (hx : wordB x = false) (h61 : x ≠ 61) : lexOne c (r ++ x :: b) = lexOne c r := by
  have hd : digitB x = false := by revert hx; unfold wordB; cases digitB x <;> simp
  have h1 : (r ++ x :: b).takeWhile wordB = r.takeWhile wordB := takeWhile_sep hx r b
  have h2 : (r ++ x :: b).takeWhile digitB = r.takeWhile digitB := takeWhile_sep hd r b
  have hle : (r.takeWhile digitB).length ≤ r.length := takeWhile_len _ _
  have h3 : (((r ++ x :: b).drop (r.takeWhile digitB).length).head?.any wordB) = ((r.drop (r.takeWhile digitB).length).head?.any wordB) := by
    rw [List.drop_append_of_le_length hle]
    cases hq : r.drop (r.takeWhile digitB).length with
    | nil => simp [hx]
    | cons y q => rfl
  have h4 : ((r ++ x :: b).head? = some 61) = (r.head? = some 61) := by
    cases r with
    | nil => simp [h61]
    | cons y q => rfl
  unfold lexOne
  rw [h1, h2, h3]
  simp only [h4]
theorem sep_drop {α : Type} (r b : List α) (x : α) (m : Nat) (h : m ≤ r.length) : (r ++ x :: b).drop m = r.drop m ++ x :: b := List.drop_append_of_le_length h
theorem sc_join (a b : List UInt8) (p : Nat) : sc (a ++ 10 :: b) p =
    match (sc a p).2 with
    | some e => ((sc a p).1, some e)
    | none => ((sc a p).1 ++ (sc b (p + a.length + 1)).1, (sc b (p + a.length + 1)).2) := by
  refine sc_ind (M := fun a p => sc (a ++ 10 :: b) p =
    match (sc a p).2 with
    | some e => ((sc a p).1, some e)
    | none => ((sc a p).1 ++ (sc b (p + a.length + 1)).1, (sc b (p + a.length + 1)).2)) ?_ ?_ ?_ ?_ ?_ a.length a p (Nat.le_refl _)
  · intro p
    rw [List.nil_append, sc_blank _ _ (by decide)]
    simp [sc_nil]
  · intro c r p h ih
    rw [List.cons_append, sc_blank _ _ h, sc_blank _ _ h, ih]
    rw [show p + 1 + r.length + 1 = p + (c :: r).length + 1 by simp; omega]
  · intro r p ih
    rw [List.cons_append, sc_hash, sc_hash, takeWhile_sep (by decide), sep_drop _ _ _ _ (takeWhile_len _ _), ih]
    have := takeWhile_len (· != 10) r
    rw [show p + 1 + (r.takeWhile (· != 10)).length + (r.drop (r.takeWhile (· != 10)).length).length + 1 = p + (35 :: r).length + 1 by simp; omega]
  · intro c r p e h1 h2 h3
    rw [List.cons_append, sc_err _ h1 h2 h3, sc_err _ h1 h2 (by rw [lexOne_sep r b (by decide) (by decide)]; exact h3)]
  · intro c r p j n v h1 h2 h3 ih
    have hn := lexOne_len h3
    rw [List.cons_append, sc_tok _ h1 h2 h3, sc_tok _ h1 h2 (by rw [lexOne_sep r b (by decide) (by decide)]; exact h3), sep_drop _ _ _ _ (by omega), ih]
    rw [show p + n + (r.drop (n - 1)).length + 1 = p + (c :: r).length + 1 by simp; omega]
    have : (c :: (r ++ 10 :: b)).take n = (c :: r).take n := by
      rw [← List.cons_append, List.take_append_of_le_length (by simp; omega)]
    rw [this]
    cases h : (sc (r.drop (n - 1)) (p + n)).2 with
    | none => simp
    | some e => simp
/- Tokens by themselves, their places, and texts that are cut at a token. -/
/- what a token is by itself -/
def TokOk (t : Tok) : Prop := ∃ c r, t.text = c :: r ∧ blankB c = false ∧ c ≠ 35 ∧ lexOne c r = .ok (t.kind, r.length + 1, t.n)
theorem takeWhile_take {α : Type} (p : α → Bool) (l : List α) (m : Nat) (h : (l.takeWhile p).length ≤ m) : (l.take m).takeWhile p = l.takeWhile p := by
  induction l generalizing m with
  | nil => simp
  | cons x r ih =>
    cases m with
    | zero =>
      have : (x :: r).takeWhile p = [] := by simpa using h
      rw [this]; rfl
    | succ m =>
      simp only [List.take_succ_cons, List.takeWhile_cons] at h ⊢
      split
      · rename_i hp
        rw [if_pos hp] at h
        rw [ih m (by simpa using h)]
      · rfl
theorem head_take {α : Type} (l : List α) (m : Nat) (h : 0 < m) : (l.take m).head? = l.head? := by
  cases l with
  | nil => simp
  | cons x r => obtain ⟨k, rfl⟩ : ∃ k, m = k + 1 := ⟨m - 1, by omega⟩; rfl
/- the token alone, or cut anywhere behind it -/
theorem lexOne_take {c : UInt8} {r : List UInt8} {k n v : Nat} (h : lexOne c r = .ok (k, n, v)) (m : Nat) (hm : n - 1 ≤ m) : lexOne c (r.take m) = .ok (k, n, v) := by
  unfold lexOne at h ⊢
  by_cases h1 : letterB c = true
  · rw [if_pos h1] at h ⊢
    split at h
    · cases h
    · rename_i hq
      injection h with h; injection h with ha h; injection h with hb hc
      have hle : (r.takeWhile wordB).length ≤ m := by omega
      rw [takeWhile_take _ _ _ hle, if_neg hq]
      subst ha hb hc; rfl
  · rw [if_neg h1] at h ⊢
    by_cases h2 : digitB c = true
    · rw [if_pos h2] at h ⊢
      split at h
      · cases h
      · rename_i hq
        injection h with h; injection h with ha h; injection h with hb hc
        have hle : (r.takeWhile digitB).length ≤ m := by omega
        have hq2 : ¬ (((r.take m).drop (r.takeWhile digitB).length).head?.any wordB) = true := by
          rw [List.drop_take]
          rcases Nat.eq_zero_or_pos (m - (r.takeWhile digitB).length) with h0 | h0
          · rw [h0]; simp
          · rw [head_take _ _ h0]; exact fun h => hq (.inr h)
        rw [takeWhile_take _ _ _ hle, if_neg (by intro h; rcases h with h | h; exact hq (.inl h); exact hq2 h)]
        subst ha hb hc; rfl
    · rw [if_neg h2] at h ⊢
      by_cases h3 : symB c = true
      · rw [if_pos h3] at h ⊢; exact h
      · rw [if_neg h3] at h ⊢
        by_cases h4 : preB c = true
        · rw [if_pos h4] at h ⊢
          by_cases h5 : r.head? = some 61
          · rw [if_pos h5] at h
            injection h with h; injection h with ha h; injection h with hb hc
            rw [head_take _ _ (by omega), if_pos h5]
            subst ha hb hc; rfl
          · rw [if_neg h5] at h
            have : ¬ (r.take m).head? = some 61 := by
              rcases Nat.eq_zero_or_pos m with h0 | h0
              · subst h0; simp
              · rw [head_take _ _ h0]; exact h5
            rw [if_neg this]; exact h
        · rw [if_neg h4] at h ⊢
          by_cases h5 : c = 33
          · rw [if_pos h5] at h ⊢
            by_cases h6 : r.head? = some 61
            · rw [if_pos h6] at h
              injection h with h; injection h with ha h; injection h with hb hc
              rw [head_take _ _ (by omega), if_pos h6]
              subst ha hb hc; rfl
            · rw [if_neg h6] at h; cases h
          · rw [if_neg h5] at h; cases h
theorem tok_ok {c : UInt8} {r : List UInt8} {k n v : Nat} (p : Nat) (h1 : blankB c = false) (h2 : c ≠ 35) (h3 : lexOne c r = .ok (k, n, v)) : TokOk ⟨k, (c :: r).take n, v, p⟩ := by
  have hn := lexOne_len h3
  obtain ⟨m, rfl⟩ : ∃ m, n = m + 1 := ⟨n - 1, by omega⟩
  refine ⟨c, r.take m, rfl, h1, h2, ?_⟩
  have := lexOne_take h3 m (by omega)
  rw [this]
  have : (r.take m).length = m := by simp; omega
  rw [this]
theorem sc_ok (l : List UInt8) (p : Nat) : ∀ t ∈ (sc l p).1, TokOk t := by
  refine sc_ind (M := fun l p => ∀ t ∈ (sc l p).1, TokOk t) ?_ ?_ ?_ ?_ ?_ l.length l p (Nat.le_refl _)
  · intro p t h; simp [sc_nil] at h
  · intro c r p h ih; rw [sc_blank _ _ h]; exact ih
  · intro r p ih; rw [sc_hash]; exact ih
  · intro c r p e h1 h2 h3 t h; rw [sc_err _ h1 h2 h3] at h; simp at h
  · intro c r p j n v h1 h2 h3 ih t h
    rw [sc_tok _ h1 h2 h3] at h
    rcases List.mem_cons.1 h with rfl | h
    · exact tok_ok p h1 h2 h3
    · exact ih t h
theorem TokOk.sc {t : Tok} (h : TokOk t) (p : Nat) : sc t.text p = ([{ t with pos := p }], none) := by
  obtain ⟨c, r, h0, h1, h2, h3⟩ := h
  rw [h0, sc_tok _ h1 h2 h3, show r.length + 1 - 1 = r.length from rfl, List.drop_length, sc_nil]
  rw [show (c :: r).take (r.length + 1) = c :: r from by simp, ← h0]
theorem TokOk.len {t : Tok} (h : TokOk t) : 1 ≤ t.text.length := by
  obtain ⟨c, r, h0, _⟩ := h
  rw [h0]; simp
/- where the tokens lie -/
def Placed : Nat → Nat → List Tok → Prop
  | p, q, [] => p ≤ q
  | p, q, t :: r => p ≤ t.pos ∧ 1 ≤ t.text.length ∧ Placed (t.pos + t.text.length) q r
theorem Placed.mono {p p' q : Nat} {l : List Tok} (h : Placed p q l) (hp : p' ≤ p) : Placed p' q l := by
  cases l with
  | nil => exact Nat.le_trans hp h
  | cons t r => exact ⟨Nat.le_trans hp h.1, h.2⟩
theorem Placed.le {q : Nat} {l : List Tok} : ∀ {p : Nat}, Placed p q l → p + l.length ≤ q := by
  induction l with
  | nil => intro p h; exact h
  | cons t r ih =>
    intro p h
    have := ih h.2.2
    have := h.1
    have := h.2.1
    simp; omega
theorem Placed.mem {q : Nat} {l : List Tok} : ∀ {p : Nat}, Placed p q l → ∀ t ∈ l, p ≤ t.pos ∧ 1 ≤ t.text.length ∧ t.pos + t.text.length ≤ q := by
  induction l with
  | nil => intro p h t ht; simp at ht
  | cons x r ih =>
    intro p h t ht
    rcases List.mem_cons.1 ht with rfl | ht
    · have := h.2.2.le
      exact ⟨h.1, h.2.1, by omega⟩
    · obtain ⟨a, b, c⟩ := ih h.2.2 t ht
      have := h.1
      exact ⟨by omega, b, c⟩
theorem Placed.app {q : Nat} {l m : List Tok} : ∀ {p : Nat}, Placed p q (l ++ m) → ∃ o, Placed p o l ∧ Placed o q m := by
  induction l with
  | nil => intro p h; exact ⟨p, Nat.le_refl _, h⟩
  | cons x r ih =>
    intro p h
    obtain ⟨o, a, b⟩ := ih h.2.2
    exact ⟨o, ⟨h.1, h.2.1, a⟩, b⟩
/- a place belongs to one token -/
theorem Placed.one {q p : Nat} {u v : List Tok} {t : Tok} (h : Placed p q (u ++ t :: v)) : (∀ x ∈ u, x.pos < t.pos) ∧ ∀ x ∈ v, t.pos < x.pos := by
  obtain ⟨o, a, b⟩ := h.app
  refine ⟨fun x hx => ?_, fun x hx => ?_⟩
  · have := a.mem x hx
    have := b.1
    omega
  · have := b.2.2.mem x hx
    have := b.2.1
    omega
theorem sc_placed (l : List UInt8) (p : Nat) : Placed p (p + l.length) (sc l p).1 := by
  refine sc_ind (M := fun l p => Placed p (p + l.length) (sc l p).1) ?_ ?_ ?_ ?_ ?_ l.length l p (Nat.le_refl _)
  · intro p; exact Nat.le_refl _
  · intro c r p h ih; rw [sc_blank _ _ h, show p + (c :: r).length = p + 1 + r.length by simp; omega]; exact ih.mono (by omega)
  · intro r p ih
    have := takeWhile_len (· != 10) r
    rw [sc_hash]
    rw [show p + (35 :: r).length = p + 1 + (r.takeWhile (· != 10)).length + (r.drop (r.takeWhile (· != 10)).length).length by simp; omega]
    exact ih.mono (by omega)
  · intro c r p e h1 h2 h3; rw [sc_err _ h1 h2 h3]; exact Nat.le_add_right _ _
  · intro c r p j n v h1 h2 h3 ih
    have hn := lexOne_len h3
    rw [sc_tok _ h1 h2 h3]
    have hl : ((c :: r).take n).length = n := by simp; omega
    refine ⟨Nat.le_refl _, by simp only [hl]; omega, ?_⟩
    simp only [hl]
    rw [show p + (c :: r).length = p + n + (r.drop (n - 1)).length by simp; omega]
    exact ih
theorem sc_count (l : List UInt8) (p : Nat) : (sc l p).1.length ≤ l.length := by have := (sc_placed l p).le; omega
/- cut at a token: before it, behind it -/
theorem sc_cut (l : List UInt8) (p : Nat) : ∀ u t v, (sc l p).1 = u ++ t :: v → p ≤ t.pos ∧ sc (l.take (t.pos - p)) p = (u, none) ∧ sc (l.drop (t.pos - p)) t.pos = (t :: v, (sc l p).2) ∧
    sc (l.take (t.pos - p + t.text.length)) p = (u ++ [t], none) ∧ (l.drop (t.pos - p)).take t.text.length = t.text ∧ sc (l.drop (t.pos - p + t.text.length)) (t.pos + t.text.length) = (v, (sc l p).2) := by
  refine sc_ind (M := fun l p => ∀ u t v, (sc l p).1 = u ++ t :: v → p ≤ t.pos ∧ sc (l.take (t.pos - p)) p = (u, none) ∧ sc (l.drop (t.pos - p)) t.pos = (t :: v, (sc l p).2) ∧
    sc (l.take (t.pos - p + t.text.length)) p = (u ++ [t], none) ∧ (l.drop (t.pos - p)).take t.text.length = t.text ∧ sc (l.drop (t.pos - p + t.text.length)) (t.pos + t.text.length) = (v, (sc l p).2)) ?_ ?_ ?_ ?_ ?_ l.length l p (Nat.le_refl _)
  · intro p u t v h; rw [sc_nil] at h; simp at h
  · intro c r p h ih u t v hh
    rw [sc_blank _ _ h] at hh ⊢
    obtain ⟨h1, h2, h3, h4, h5, h6⟩ := ih u t v hh
    have e : t.pos - p = (t.pos - (p + 1)) + 1 := by omega
    have e2 : t.pos - p + t.text.length = (t.pos - (p + 1) + t.text.length) + 1 := by omega
    refine ⟨by omega, ?_, ?_, ?_, ?_, ?_⟩
    · rw [e, List.take_succ_cons, sc_blank _ _ h]; exact h2
    · rw [e, List.drop_succ_cons]; exact h3
    · rw [e2, List.take_succ_cons, sc_blank _ _ h]; exact h4
    · rw [e, List.drop_succ_cons]; exact h5
    · rw [e2, List.drop_succ_cons]; exact h6
  · intro r p ih u t v hh
    rw [sc_hash] at hh ⊢
    obtain ⟨h1, h2, h3, h4, h5, h6⟩ := ih u t v hh
    generalize hw : (r.takeWhile (· != 10)).length = w at *
    have hwl : w ≤ r.length := by rw [← hw]; exact takeWhile_len _ _
    have key : ∀ m, sc (List.take (m + w) r |>.cons 35) p = sc ((r.drop w).take m) (p + 1 + w) := by
      intro m
      rw [sc_hash]
      have : ((r.take (m + w)).takeWhile (· != 10)) = r.takeWhile (· != 10) := takeWhile_take _ _ _ (by omega)
      rw [this, hw, List.drop_take, Nat.add_sub_cancel]
    have e : t.pos - p = (t.pos - (p + 1 + w)) + w + 1 := by omega
    have e2 : t.pos - p + t.text.length = (t.pos - (p + 1 + w) + t.text.length) + w + 1 := by omega
    refine ⟨by omega, ?_, ?_, ?_, ?_, ?_⟩
    · rw [e, List.take_succ_cons, key]; exact h2
    · rw [e, List.drop_succ_cons, Nat.add_comm, ← List.drop_drop]; exact h3
    · rw [e2, List.take_succ_cons, key]; exact h4
    · rw [e, List.drop_succ_cons, Nat.add_comm, ← List.drop_drop]; exact h5
    · rw [e2, List.drop_succ_cons, Nat.add_comm, ← List.drop_drop]; exact h6
  · intro c r p e h1 h2 h3 u t v hh; rw [sc_err _ h1 h2 h3] at hh; simp at hh
  · intro c r p j n w h1 h2 h3 ih u t v hh
    have hn := lexOne_len h3
    have hl : ((c :: r).take n).length = n := by simp; omega
    obtain ⟨m, rfl⟩ : ∃ m, n = m + 1 := ⟨n - 1, by omega⟩
    have key : ∀ k, sc (c :: r.take (k + m)) p = (⟨j, (c :: r).take (m + 1), w, p⟩ :: (sc ((r.drop m).take k) (p + (m + 1))).1, (sc ((r.drop m).take k) (p + (m + 1))).2) := by
      intro k
      rw [sc_tok _ h1 h2 (lexOne_take h3 (k + m) (by omega))]
      have ea : (c :: r.take (k + m)).take (m + 1) = (c :: r).take (m + 1) := by
        rw [List.take_succ_cons, List.take_succ_cons, List.take_take, Nat.min_eq_left (by omega)]
      rw [ea, show m + 1 - 1 = m from rfl, List.drop_take, Nat.add_sub_cancel]
    have hsc := sc_tok p h1 h2 h3
    rw [hsc] at hh ⊢
    simp only [Nat.add_sub_cancel] at hh ih ⊢
    cases u with
    | nil =>
      simp only [List.nil_append, List.cons.injEq] at hh
      obtain ⟨ht, hv⟩ := hh
      subst ht
      simp only [Nat.sub_self, List.take_zero, List.drop_zero, Nat.zero_add, hl]
      refine ⟨Nat.le_refl _, rfl, ?_, ?_, ?_, ?_⟩
      · rw [hsc]; simp only [Nat.add_sub_cancel, hv]
      · have := key 0
        rw [Nat.zero_add] at this
        rw [List.take_succ_cons, this]
        simp [sc_nil]
      · trivial
      · rw [List.drop_succ_cons, ← hv]
    | cons x u =>
      simp only [List.cons_append, List.cons.injEq] at hh
      obtain ⟨hx, hh⟩ := hh
      obtain ⟨i1, i2, i3, i4, i5, i6⟩ := ih u t v hh
      have e : t.pos - p = (t.pos - (p + (m + 1))) + m + 1 := by omega
      have e2 : t.pos - p + t.text.length = (t.pos - (p + (m + 1)) + t.text.length) + m + 1 := by omega
      refine ⟨by omega, ?_, ?_, ?_, ?_, ?_⟩
      · rw [e, List.take_succ_cons, key, i2, hx]
      · rw [e, List.drop_succ_cons, Nat.add_comm, ← List.drop_drop]; exact i3
      · rw [e2, List.take_succ_cons, key, i4, hx]; rfl
      · rw [e, List.drop_succ_cons, Nat.add_comm, ← List.drop_drop]; exact i5
      · rw [e2, List.drop_succ_cons, Nat.add_comm, ← List.drop_drop]; exact i6
/- the tokens, one line feed behind each -/
def spaced : List Tok → List UInt8
  | [] => []
  | t :: r => t.text ++ 10 :: spaced r
def placed : List Tok → Nat → List Tok
  | [], _ => []
  | t :: r, p => { t with pos := p } :: placed r (p + t.text.length + 1)
theorem sc_spaced : ∀ (l : List Tok) (p : Nat), (∀ t ∈ l, TokOk t) → sc (spaced l) p = (placed l p, none)
  | [], p, _ => rfl
  | t :: r, p, h => by
    rw [spaced, sc_join, (h t (by simp)).sc p]
    simp only []
    rw [sc_spaced r _ (fun x hx => h x (by simp [hx]))]
    rfl
theorem spaced_len : ∀ {l : List Tok} {p q : Nat}, Placed p q l → (spaced l).length + p ≤ 2 * (q - p) + p
  | [], p, q, h => by simp [spaced]
  | t :: r, p, q, h => by
    have h1 := spaced_len h.2.2
    have h2 := h.2.2.le
    have h3 := h.1
    have h4 := h.2.1
    simp [spaced]; omega
theorem lexF_ok {l : List UInt8} {ts : List Tok} (h : lexF l = .ok ts) : sc l 0 = (ts, none) ∧ ts.length ≤ 5000 ∧ l.length ≤ 20000 := by
  unfold lexF at h
  rw [show scan l.length l 0 = sc l 0 from rfl] at h
  split at h
  · cases h
  · split at h
    · cases h
    · rename_i hd
      split at h
      · cases h
      · rename_i hn
        injection h with h
        have hlen := congrArg List.length hd
        simp at hlen
        refine ⟨Prod.ext h hn, ?_, by omega⟩
        rw [← h]; omega
theorem lexF_mk {l : List UInt8} {ts : List Tok} (h1 : sc l 0 = (ts, none)) (h2 : ts.length ≤ 5000) (h3 : l.length ≤ 20000) : lexF l = .ok ts := by
  unfold lexF
  rw [show scan l.length l 0 = sc l 0 from rfl, if_neg (by omega), h1]
  simp only []
  rw [List.drop_of_length_le h2]
def goodName (s : List UInt8) : Bool := s.head?.any letterB && s.all wordB && decide (s.length ≤ 24) && !keyF s
def TokN (t : Tok) : Prop := t.kind = 1 → keyF t.text = false → goodName t.text = true
theorem takeWhile_all {α : Type} {p : α → Bool} : ∀ {l : List α}, (l.takeWhile p).length = l.length → ∀ x ∈ l, p x = true
  | [], _, x, hx => by cases hx
  | a :: l, h, x, hx => by
    by_cases ha : p a = true
    · rw [List.takeWhile_cons_of_pos ha] at h
      rcases List.mem_cons.1 hx with rfl | hx
      · exact ha
      · exact takeWhile_all (by simpa using h) x hx
    · rw [List.takeWhile_cons_of_neg ha] at h; simp at h
theorem tokN_of_ok {t : Tok} (h : TokOk t) : TokN t := by
  intro hk hq
  obtain ⟨c, r, ht, h1, h2, h3⟩ := h
  rw [hk] at h3
  unfold lexOne at h3
  split at h3
  · rename_i hc
    split at h3
    · cases h3
    · rename_i hl
      injection h3 with h3
      injection h3 with _ h3
      injection h3 with h3 _
      have hr : (r.takeWhile wordB).length = r.length := by omega
      have hall := takeWhile_all hr
      unfold goodName
      rw [hq, ht]
      have hc2 : wordB c = true := by simp [wordB, hc]
      simp [hc, hc2]
      exact ⟨fun x hx => hall x hx, by omega⟩
  · exfalso
    split at h3
    · split at h3
      · cases h3
      · injection h3 with h3; injection h3 with h3 _; exact absurd h3 (by decide)
    · split at h3
      · injection h3 with h3; injection h3 with h3 _; exact absurd h3 (by decide)
      · split at h3
        · split at h3 <;> (injection h3 with h3; injection h3 with h3 _; exact absurd h3 (by decide))
        · split at h3
          · split at h3
            · injection h3 with h3; injection h3 with h3 _; exact absurd h3 (by decide)
            · cases h3
          · cases h3
/- Bounds of the lexer's tokens. -/
theorem valN_bound : ∀ (s : List UInt8) (acc k : Nat), (∀ c ∈ s, digitB c = true) → acc < 10 ^ k → s.foldl (fun a c => 10 * a + (c.toNat - 48)) acc < 10 ^ (k + s.length)
  | [], acc, k, _, h => by simpa using h
  | c :: s, acc, k, hd, h => by
    have hc : digitB c = true := hd c (by simp)
    simp only [digitB, Bool.and_eq_true, decide_eq_true_eq] at hc
    have h1 : c.toNat ≤ 57 := by have := UInt8.le_iff_toNat_le.1 hc.2; simpa using this
    have h2 : 10 * acc + (c.toNat - 48) < 10 ^ (k + 1) := by rw [Nat.pow_succ]; omega
    have := valN_bound s _ (k + 1) (fun x hx => hd x (by simp [hx])) h2
    simpa [Nat.add_assoc, Nat.add_comm 1] using this
theorem twd_all {r : List UInt8} : ∀ x ∈ r.takeWhile digitB, digitB x = true := by
  intro x hx
  induction r with
  | nil => simp at hx
  | cons a r ih =>
    by_cases ha : digitB a = true
    · rw [List.takeWhile_cons_of_pos ha] at hx
      rcases List.mem_cons.1 hx with rfl | hx
      · exact ha
      · exact ih hx
    · rw [List.takeWhile_cons_of_neg ha] at hx; simp at hx
theorem lexOne_fit {c : UInt8} {r : List UInt8} {k n v : Nat} (h : lexOne c r = .ok (k, n, v)) : (k = 1 ∨ k = 2 ∨ k = 3) ∧ n ≤ 30 ∧ v ≤ 10000000 := by
  unfold lexOne at h
  split at h
  · split at h
    · cases h
    · injection h with h; injection h with h1 h; injection h with h2 h3; omega
  · split at h
    · rename_i hd
      split at h
      · cases h
      · rename_i hl
        injection h with h; injection h with h1 h; injection h with h2 h3
        have hb := valN_bound (c :: r.takeWhile digitB) 0 0 (fun x hx => by rcases List.mem_cons.1 hx with rfl | hx; exact hd; exact twd_all x hx) (by decide)
        have hl2 : (c :: r.takeWhile digitB).length ≤ 7 := by simp; omega
        have h7 : 10 ^ (0 + (c :: r.takeWhile digitB).length) ≤ 10 ^ 7 := Nat.pow_le_pow_right (by decide) (by omega)
        have : valN (c :: r.takeWhile digitB) < 10 ^ 7 := Nat.lt_of_lt_of_le hb h7
        refine ⟨by omega, by omega, ?_⟩
        rw [← h3]
        exact Nat.le_of_lt (Nat.lt_of_lt_of_le this (by decide))
    · split at h
      · injection h with h; injection h with h1 h; injection h with h2 h3; omega
      · split at h
        · split at h <;> (injection h with h; injection h with h1 h; injection h with h2 h3; omega)
        · split at h
          · split at h
            · injection h with h; injection h with h1 h; injection h with h2 h3; omega
            · cases h
          · cases h
theorem name_word {t : Tok} (h : TokOk t) (hk : t.kind = 1) : ∀ c ∈ t.text, wordB c = true := by
  obtain ⟨c, r, ht, h1, h2, h3⟩ := h
  rw [hk] at h3
  unfold lexOne at h3
  split at h3
  · rename_i hc
    split at h3
    · cases h3
    · injection h3 with h3; injection h3 with _ h3; injection h3 with h3 _
      have hall := takeWhile_all (p := wordB) (l := r) (by omega)
      rw [ht]
      intro x hx
      rcases List.mem_cons.1 hx with rfl | hx
      · simp [wordB, hc]
      · exact hall x hx
  · exfalso
    split at h3
    · split at h3
      · cases h3
      · injection h3 with h3; injection h3 with h3 _; exact absurd h3 (by decide)
    · split at h3
      · injection h3 with h3; injection h3 with h3 _; exact absurd h3 (by decide)
      · split at h3
        · split at h3 <;> (injection h3 with h3; injection h3 with h3 _; exact absurd h3 (by decide))
        · split at h3
          · split at h3
            · injection h3 with h3; injection h3 with h3 _; exact absurd h3 (by decide)
            · cases h3
          · cases h3
theorem word_nospace {c : UInt8} (h : wordB c = true) : c ≠ 32 := by rintro rfl; revert h; decide
theorem tok_fit {l : List UInt8} {ts : List Tok} (h : lexF l = .ok ts) : ∀ t ∈ ts, (t.kind = 1 ∨ t.kind = 2 ∨ t.kind = 3) ∧ t.text.length ≤ 30 ∧ t.n ≤ 10000000 ∧ t.pos ≤ 1000000 ∧ (t.kind = 1 → ∀ c ∈ t.text, c ≠ 32) := by
  intro t ht
  have hl := lexF_ok h
  have hm : t ∈ (sc l 0).1 := by rw [hl.1]; exact ht
  have hk := sc_ok l 0 t hm
  have hp := (sc_placed l 0).mem t hm
  have hn := fun hk1 c hc => word_nospace (name_word hk hk1 c hc)
  obtain ⟨c, r, h0, h1, h2, h3⟩ := hk
  obtain ⟨a, b, d⟩ := lexOne_fit h3
  refine ⟨a, ?_, d, by omega, hn⟩
  rw [h0]; simp; omega
theorem lexOne_err {c : UInt8} {r : List UInt8} {e : Nat} (h : lexOne c r = .error e) : e ≠ 0 := by
  unfold lexOne at h
  split at h
  · split at h
    · cases h; decide
    · cases h
  · split at h
    · split at h
      · cases h; decide
      · cases h
    · split at h
      · cases h
      · split at h
        · split at h <;> cases h
        · split at h
          · split at h
            · cases h
            · cases h; decide
          · cases h; decide
theorem sc_err_ne (l : List UInt8) (p : Nat) : ∀ e q, (sc l p).2 = some (e, q) → e ≠ 0 := by
  refine sc_ind (M := fun l p => ∀ e q, (sc l p).2 = some (e, q) → e ≠ 0) ?_ ?_ ?_ ?_ ?_ l.length l p (Nat.le_refl _)
  · intro p e q h; simp [sc_nil] at h
  · intro c r p h ih e q hq; rw [sc_blank _ _ h] at hq; exact ih e q hq
  · intro r p ih e q hq; rw [sc_hash] at hq; exact ih e q hq
  · intro c r p e h1 h2 h3 e' q hq; rw [sc_err _ h1 h2 h3] at hq; simp at hq; rw [← hq.1]; exact lexOne_err h3
  · intro c r p j n v h1 h2 h3 ih e q hq
    rw [sc_tok _ h1 h2 h3] at hq
    exact ih e q hq
theorem lexF_err_ne {l : List UInt8} {e : Nat} {at' : Int} (h : lexF l = .error (e, at')) : e ≠ 0 := by
  unfold lexF at h
  rw [show scan l.length l 0 = sc l 0 from rfl] at h
  split at h
  · cases h; decide
  · split at h
    · cases h; decide
    · split at h
      · rename_i e' p' he
        cases h
        exact sc_err_ne l 0 _ _ he
      · cases h
theorem scan_err_pos (l : List UInt8) (p : Nat) : ∀ e q, (sc l p).2 = some (e, q) → p ≤ q ∧ q ≤ p + l.length := by
  refine sc_ind (M := fun l p => ∀ e q, (sc l p).2 = some (e, q) → p ≤ q ∧ q ≤ p + l.length) ?_ ?_ ?_ ?_ ?_ l.length l p (Nat.le_refl _)
  · intro p e q h; simp [sc_nil] at h
  · intro c r p h ih e q hq; rw [sc_blank _ _ h] at hq; have := ih e q hq; simp; omega
  · intro r p ih e q hq; rw [sc_hash] at hq; have := ih e q hq; simp at this ⊢; have := takeWhile_len (· != (10 : UInt8)) r; omega
  · intro c r p e h1 h2 h3 e' q hq; rw [sc_err _ h1 h2 h3] at hq; simp at hq; simp; omega
  · intro c r p j n v h1 h2 h3 ih e q hq
    rw [sc_tok _ h1 h2 h3] at hq
    have := ih e q hq
    have h4 := lexOne_len h3
    simp at this ⊢; omega
theorem lexF_err {l : List UInt8} {e : Nat} {at' : Int} (h : lexF l = .error (e, at')) : (0 ≤ at' ∧ at' ≤ l.length ∨ at' = -1 ∧ e = 2) := by
  unfold lexF at h
  rw [show scan l.length l 0 = sc l 0 from rfl] at h
  split at h
  · cases h; exact .inr ⟨rfl, rfl⟩
  · split at h
    · rename_i t u hd
      cases h
      have hm : t ∈ (sc l 0).1 := List.mem_of_mem_drop (by rw [hd]; simp)
      have := (sc_placed l 0).mem t hm
      left; omega
    · split at h
      · rename_i e' p' he
        cases h
        have := scan_err_pos l 0 _ _ he
        left; omega
      · cases h
end Go.Proofs.YtcekampdldkjlaaGreatDoor
