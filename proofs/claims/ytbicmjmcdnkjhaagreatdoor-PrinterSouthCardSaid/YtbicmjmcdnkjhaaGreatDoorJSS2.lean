/- Plain laws of the lexer and the parser. Words of a text and their tokens; words taken, names and numbers read; things joined by a word: plain words. A formula written in the first language is read again. A condition of commencement written in the first language is read again. A provision written in the first language is read again, as tokens. Words put together to a text are its tokens. -/
import Derived.Test.YtbicmjmcdnkjhaaGreatDoorJSS1
import Derived.Lib.ItoaNum
set_option linter.unusedVariables false
set_option linter.unusedSimpArgs false
namespace Go.Proofs.YtbicmjmcdnkjhaaGreatDoor
/- What a parser of this kind answers depends on the tokens that it consumes, and on the next one alone. -/
def core (t : Tok) : Nat × List UInt8 × Nat := (t.kind, t.text, t.n)
/- behind what is read no word of F is asked for in vain -/
/- the head of what follows k tokens, where m further ones are consumed -/
/- one word of several, if it is next -/
/- the same, where what is not met by the words consumes -/
/- the words of conditions; those that may follow one -/
/- all words -/
/- With enough fuel a parser consumes, and its errors are ones. -/
/- behind a consuming parser one token less is at hand -/
/- More fuel makes no difference. -/
/- The lexer: its tokens, and how texts are joined. -/
theorem takeWhile_len {α : Type} (p : α → Bool) (l : List α) : (l.takeWhile p).length ≤ l.length := (List.takeWhile_prefix p).length_le
/- more fuel makes no difference -/
theorem lexOne_len {c : UInt8} {r : List UInt8} {k n v : Nat} (h : lexOne c r = .ok (k, n, v)) : 1 ≤ n ∧ n ≤ r.length + 1 := by
 have h1 := takeWhile_len wordB r
 have h2 := takeWhile_len digitB r
 have h3 : r.head? = some 61 → 1 ≤ r.length := by cases r <;> simp
 unfold lexOne at h
 repeat' (split at h)
 all_goals (first | cases h | skip)
 all_goals simp_all
 all_goals omega
theorem scan_fuel : ∀ (f g : Nat) (l : List UInt8) (p : Nat), l.length ≤ f → l.length ≤ g → scan f l p = scan g l p
 | 0, g, l, p, hf, hg => by
   have : l = [] := by simpa using hf
   subst this
   cases g <;> rfl
 | f + 1, 0, l, p, hf, hg => by
   have : l = [] := by simpa using hg
   subst this
   rfl
 | f + 1, g + 1, [], p, hf, hg => rfl
 | f + 1, g + 1, c :: r, p, hf, hg => by
   simp at hf hg
   simp only [scan]
   rw [scan_fuel f g r (p + 1) hf hg, scan_fuel f g (r.drop _) _ (by simp; omega) (by simp; omega)]
   cases h : lexOne c r with
   | error e => rfl
   | ok v =>
     obtain ⟨k, n, v⟩ := v
     simp only []
     rw [scan_fuel f g (r.drop (n - 1)) _ (by simp; omega) (by simp; omega)]
/- the scan without fuel -/
def sc (l : List UInt8) (p : Nat) : List Tok × Option (Nat × Nat) := scan l.length l p
theorem scan_sc (f : Nat) (l : List UInt8) (p : Nat) (h : l.length ≤ f) : scan f l p = sc l p := scan_fuel _ _ _ _ h (lR _)
theorem sc_nil (p : Nat) : sc [] p = ([], none) := rfl
theorem sc_cons (c : UInt8) (r : List UInt8) (p : Nat) : sc (c :: r) p =
 if blankB c then sc r (p + 1)
 else if c = 35 then sc (r.drop (r.takeWhile (· != 10)).length) (p + 1 + (r.takeWhile (· != 10)).length)
 else match lexOne c r with
  | .error e => ([], some (e, p))
  | .ok (kind, k, v) => (⟨kind, (c :: r).take k, v, p⟩ :: (sc (r.drop (k - 1)) (p + k)).1, (sc (r.drop (k - 1)) (p + k)).2) := by
 show scan (r.length + 1) (c :: r) p = _
 simp only [scan]
 rw [scan_sc r.length r _ (lR _), scan_sc r.length (r.drop (r.takeWhile (· != 10)).length) _ (by simp)]
 cases h : lexOne c r with
 | error e => rfl
 | ok v =>
   obtain ⟨k, n, v⟩ := v
   simp only []
   rw [scan_sc r.length (r.drop (n - 1)) _ (by simp)]
/- induction along the scan -/
theorem sc_ind {M : List UInt8 → Nat → Prop} (hn : ∀ p, M [] p)
 (hb : ∀ c r p, blankB c = true → M r (p + 1) → M (c :: r) p)
 (hh : ∀ r p, M (r.drop (r.takeWhile (· != 10)).length) (p + 1 + (r.takeWhile (· != 10)).length) → M (35 :: r) p)
 (he : ∀ c r p e, blankB c = false → c ≠ 35 → lexOne c r = .error e → M (c :: r) p)
 (ht : ∀ c r p k n v, blankB c = false → c ≠ 35 → lexOne c r = .ok (k, n, v) → M (r.drop (n - 1)) (p + n) → M (c :: r) p) : ∀ (m : Nat) (l : List UInt8) (p : Nat), l.length ≤ m → M l p
 | _, [], p, _ => hn p
 | 0, c :: r, p, h => by simp at h
 | m + 1, c :: r, p, h => by
   simp at h
   by_cases h1 : blankB c = true
   · exact hb c r p h1 (sc_ind hn hb hh he ht m r _ h)
   · have h1 : blankB c = false := by simpa using h1
     by_cases h2 : c = 35
     · subst h2; exact hh r p (sc_ind hn hb hh he ht m _ _ (by simp; omega))
     · cases h3 : lexOne c r with
       | error e => exact he c r p e h1 h2 h3
       | ok v =>
         obtain ⟨k, n, v⟩ := v
         exact ht c r p k n v h1 h2 h3 (sc_ind hn hb hh he ht m _ _ (by simp; omega))
theorem sc_blank {c : UInt8} (r : List UInt8) (p : Nat) (h : blankB c = true) : sc (c :: r) p = sc r (p + 1) := by rw [sc_cons, if_pos h]
theorem sc_hash (r : List UInt8) (p : Nat) : sc (35 :: r) p = sc (r.drop (r.takeWhile (· != 10)).length) (p + 1 + (r.takeWhile (· != 10)).length) := by
 rw [sc_cons, if_neg (by decide), if_pos rfl]
theorem sc_err {c : UInt8} {r : List UInt8} {e : Nat} (p : Nat) (h1 : blankB c = false) (h2 : c ≠ 35) (h3 : lexOne c r = .error e) : sc (c :: r) p = ([], some (e, p)) := by
 rw [sc_cons, if_neg (by simp [h1]), if_neg h2, h3]
theorem sc_tok {c : UInt8} {r : List UInt8} {k n v : Nat} (p : Nat) (h1 : blankB c = false) (h2 : c ≠ 35) (h3 : lexOne c r = .ok (k, n, v)) :
 sc (c :: r) p = (⟨k, (c :: r).take n, v, p⟩ :: (sc (r.drop (n - 1)) (p + n)).1, (sc (r.drop (n - 1)) (p + n)).2) := by
 rw [sc_cons, if_neg (by simp [h1]), if_neg h2, h3]
/- shifted -/
/- what follows a line feed is another text -/
theorem takeWhile_sep {α : Type} {p : α → Bool} {x : α} (hx : p x = false) (r b : List α) : (r ++ x :: b).takeWhile p = r.takeWhile p := by
 induction r with
 | nil => simp [hx]
 | cons y r ih => simp only [List.cons_append, List.takeWhile_cons, ih]
theorem lexOne_sep {c : UInt8} (r b : List UInt8) {x : UInt8} (hx : wordB x = false) (h61 : x ≠ 61) : lexOne c (r ++ x :: b) = lexOne c r := by
 have hd : digitB x = false := by revert hx; unfold wordB; cases digitB x <;> simp
 have h1 : (r ++ x :: b).takeWhile wordB = r.takeWhile wordB := takeWhile_sep hx r b
 have h2 : (r ++ x :: b).takeWhile digitB = r.takeWhile digitB := takeWhile_sep hd r b
 have hle : (r.takeWhile digitB).length ≤ r.length := takeWhile_len _ _
 have h3 : (((r ++ x :: b).drop (r.takeWhile digitB).length).head?.any wordB) = ((r.drop (r.takeWhile digitB).length).head?.any wordB) := by
  rw [List.drop_append_of_le_length hle]
  cases hq : r.drop (r.takeWhile digitB).length with
  | nil => simp [hx]
  | cons y q => rfl
 have h4 : ((r ++ x :: b).head? = some 61) = (r.head? = some 61) := by
  cases r with
  | nil => simp [h61]
  | cons y q => rfl
 unfold lexOne
 rw [h1, h2, h3]
 simp only [h4]
/- Tokens by themselves, their places, and texts that are cut at a token. -/
/- what a token is by itself -/
def TokOk (t : Tok) : Prop := ∃ c r, t.text = c :: r ∧ blankB c = false ∧ c ≠ 35 ∧ lexOne c r = .ok (t.kind, r.length + 1, t.n)
theorem takeWhile_take {α : Type} (p : α → Bool) (l : List α) (m : Nat) (h : (l.takeWhile p).length ≤ m) : (l.take m).takeWhile p = l.takeWhile p := by
 induction l generalizing m with
 | nil => simp
 | cons x r ih =>
   cases m with
   | zero =>
     have : (x :: r).takeWhile p = [] := by simpa using h
     rw [this]; rfl
   | succ m =>
     simp only [List.take_succ_cons, List.takeWhile_cons] at h ⊢
     split
     · rename_i hp
       rw [if_pos hp] at h
       rw [ih m (by simpa using h)]
     · rfl
theorem head_take {α : Type} (l : List α) (m : Nat) (h : 0 < m) : (l.take m).head? = l.head? := by
 cases l with
 | nil => simp
 | cons x r => obtain ⟨k, rfl⟩ : ∃ k, m = k + 1 := ⟨m - 1, by omega⟩; rfl
/- the token alone, or cut anywhere behind it -/
theorem lexOne_take {c : UInt8} {r : List UInt8} {k n v : Nat} (h : lexOne c r = .ok (k, n, v)) (m : Nat) (hm : n - 1 ≤ m) : lexOne c (r.take m) = .ok (k, n, v) := by
 unfold lexOne at h ⊢
 by_cases h1 : letterB c = true
 · rw [if_pos h1] at h ⊢
   split at h
   · cases h
   · rename_i hq
     injection h with h; injection h with ha h; injection h with hb hc
     have hle : (r.takeWhile wordB).length ≤ m := by omega
     rw [takeWhile_take _ _ _ hle, if_neg hq]
     subst ha hb hc; rfl
 · rw [if_neg h1] at h ⊢
   by_cases h2 : digitB c = true
   · rw [if_pos h2] at h ⊢
     split at h
     · cases h
     · rename_i hq
       injection h with h; injection h with ha h; injection h with hb hc
       have hle : (r.takeWhile digitB).length ≤ m := by omega
       have hq2 : ¬ (((r.take m).drop (r.takeWhile digitB).length).head?.any wordB) = true := by
        rw [List.drop_take]
        rcases Nat.eq_zero_or_pos (m - (r.takeWhile digitB).length) with h0 | h0
        · rw [h0]; simp
        · rw [head_take _ _ h0]; exact fun h => hq (.inr h)
       rw [takeWhile_take _ _ _ hle, if_neg (by intro h; rcases h with h | h; exact hq (.inl h); exact hq2 h)]
       subst ha hb hc; rfl
   · rw [if_neg h2] at h ⊢
     by_cases h3 : symB c = true
     · rw [if_pos h3] at h ⊢; exact h
     · rw [if_neg h3] at h ⊢
       by_cases h4 : preB c = true
       · rw [if_pos h4] at h ⊢
         by_cases h5 : r.head? = some 61
         · rw [if_pos h5] at h
           injection h with h; injection h with ha h; injection h with hb hc
           rw [head_take _ _ (by omega), if_pos h5]
           subst ha hb hc; rfl
         · rw [if_neg h5] at h
           have : ¬ (r.take m).head? = some 61 := by
            rcases Nat.eq_zero_or_pos m with h0 | h0
            · subst h0; simp
            · rw [head_take _ _ h0]; exact h5
           rw [if_neg this]; exact h
       · rw [if_neg h4] at h ⊢
         by_cases h5 : c = 33
         · rw [if_pos h5] at h ⊢
           by_cases h6 : r.head? = some 61
           · rw [if_pos h6] at h
             injection h with h; injection h with ha h; injection h with hb hc
             rw [head_take _ _ (by omega), if_pos h6]
             subst ha hb hc; rfl
           · rw [if_neg h6] at h; cases h
         · rw [if_neg h5] at h; cases h
theorem tok_ok {c : UInt8} {r : List UInt8} {k n v : Nat} (p : Nat) (h1 : blankB c = false) (h2 : c ≠ 35) (h3 : lexOne c r = .ok (k, n, v)) : TokOk ⟨k, (c :: r).take n, v, p⟩ := by
 have hn := lexOne_len h3
 obtain ⟨m, rfl⟩ : ∃ m, n = m + 1 := ⟨n - 1, by omega⟩
 refine ⟨c, r.take m, rfl, h1, h2, ?_⟩
 have := lexOne_take h3 m (by omega)
 rw [this]
 have : (r.take m).length = m := by simp; omega
 rw [this]
theorem sc_ok (l : List UInt8) (p : Nat) : ∀ t ∈ (sc l p).1, TokOk t := by
 refine sc_ind (M := fun l p => ∀ t ∈ (sc l p).1, TokOk t) ?_ ?_ ?_ ?_ ?_ l.length l p (lR _)
 · intro p t h; simp [sc_nil] at h
 · intro c r p h ih; rw [sc_blank _ _ h]; exact ih
 · intro r p ih; rw [sc_hash]; exact ih
 · intro c r p e h1 h2 h3 t h; rw [sc_err _ h1 h2 h3] at h; simp at h
 · intro c r p j n v h1 h2 h3 ih t h
   rw [sc_tok _ h1 h2 h3] at h
   rcases List.mem_cons.1 h with rfl | h
   · exact tok_ok p h1 h2 h3
   · exact ih t h
/- where the tokens lie -/
def Placed : Nat → Nat → List Tok → Prop
 | p, q, [] => p ≤ q
 | p, q, t :: r => p ≤ t.pos ∧ 1 ≤ t.text.length ∧ Placed (t.pos + t.text.length) q r
theorem Placed.mono {p p' q : Nat} {l : List Tok} (h : Placed p q l) (hp : p' ≤ p) : Placed p' q l := by
 cases l with
 | nil => exact Nat.le_trans hp h
 | cons t r => exact ⟨Nat.le_trans hp h.1, h.2⟩
theorem Placed.le {q : Nat} {l : List Tok} : ∀ {p : Nat}, Placed p q l → p + l.length ≤ q := by
 induction l with
 | nil => intro p h; exact h
 | cons t r ih =>
   intro p h
   have := ih h.2.2
   have := h.1
   have := h.2.1
   simp; omega
theorem Placed.mem {q : Nat} {l : List Tok} : ∀ {p : Nat}, Placed p q l → ∀ t ∈ l, p ≤ t.pos ∧ 1 ≤ t.text.length ∧ t.pos + t.text.length ≤ q := by
 induction l with
 | nil => intro p h t ht; simp at ht
 | cons x r ih =>
   intro p h t ht
   rcases List.mem_cons.1 ht with rfl | ht
   · have := h.2.2.le
     exact ⟨h.1, h.2.1, by omega⟩
   · obtain ⟨a, b, c⟩ := ih h.2.2 t ht
     have := h.1
     exact ⟨by omega, b, c⟩
/- a place belongs to one token -/
theorem sc_placed (l : List UInt8) (p : Nat) : Placed p (p + l.length) (sc l p).1 := by
 refine sc_ind (M := fun l p => Placed p (p + l.length) (sc l p).1) ?_ ?_ ?_ ?_ ?_ l.length l p (lR _)
 · intro p; exact lR _
 · intro c r p h ih; rw [sc_blank _ _ h, show p + (c :: r).length = p + 1 + r.length by simp; omega]; exact ih.mono (by omega)
 · intro r p ih
   have := takeWhile_len (· != 10) r
   rw [sc_hash]
   rw [show p + (35 :: r).length = p + 1 + (r.takeWhile (· != 10)).length + (r.drop (r.takeWhile (· != 10)).length).length by simp; omega]
   exact ih.mono (by omega)
 · intro c r p e h1 h2 h3; rw [sc_err _ h1 h2 h3]; exact Nat.le_add_right _ _
 · intro c r p j n v h1 h2 h3 ih
   have hn := lexOne_len h3
   rw [sc_tok _ h1 h2 h3]
   have hl : ((c :: r).take n).length = n := by simp; omega
   refine ⟨lR _, by simp only [hl]; omega, ?_⟩
   simp only [hl]
   rw [show p + (c :: r).length = p + n + (r.drop (n - 1)).length by simp; omega]
   exact ih
/- cut at a token: before it, behind it -/
/- the tokens, one line feed behind each -/
/- The laws of north in plain words: gaps, the first error, the ends. -/
theorem lexF_ok {l : List UInt8} {ts : List Tok} (h : lexF l = .ok ts) : sc l 0 = (ts, none) ∧ ts.length ≤ 5000 ∧ l.length ≤ 20000 := by
 unfold lexF at h
 rw [show scan l.length l 0 = sc l 0 from rfl] at h
 split at h
 · cases h
 · split at h
   · cases h
   · rename_i hd
     split at h
     · cases h
     · rename_i hn
       injection h with h
       have hlen := congrArg List.length hd
       simp at hlen
       refine ⟨Prod.ext h hn, ?_, by omega⟩
       rw [← h]; omega
theorem lexF_mk {l : List UInt8} {ts : List Tok} (h1 : sc l 0 = (ts, none)) (h2 : ts.length ≤ 5000) (h3 : l.length ≤ 20000) : lexF l = .ok ts := by
 unfold lexF
 rw [show scan l.length l 0 = sc l 0 from rfl, if_neg (by omega), h1]
 simp only []
 rw [List.drop_of_length_le h2]
/- tokens that are the same but for their places -/
/- the first error -/
/- the ends -/
/- the token that a word is, without its place -/
def coreW (w : Bytes) : Nat × Bytes × Nat :=
 match w with
 | [] => (0, [], 0)
 | c :: r => match lexOne c r with | .ok (k, m, v) => if m = r.length + 1 then (k, c :: r, v) else (0, c :: r, 0) | .error _ => (0, c :: r, 0)
theorem coreW_text (w : Bytes) : (coreW w).2.1 = w := by
 unfold coreW
 split
 · rfl
 · split
   · split <;> rfl
   · rfl
def Texts (W : List Bytes) (ts : List Tok) : Prop := ts.map core = W.map coreW
theorem Texts.cons {w : Bytes} {W : List Bytes} {ts : List Tok} (h : Texts (w :: W) ts) : ∃ t r, ts = t :: r ∧ core t = coreW w ∧ Texts W r := by
 unfold Texts at *
 cases ts with
 | nil => simp at h
 | cons t r =>
   simp only [List.map_cons, List.cons.injEq] at h
   exact ⟨t, r, rfl, h.1, h.2⟩
theorem Texts.nil {ts : List Tok} (h : Texts [] ts) : ts = [] := by
 unfold Texts at h
 simpa using h
theorem Texts.app {W1 W2 : List Bytes} {ts : List Tok} (h : Texts (W1 ++ W2) ts) : ∃ t1 t2, ts = t1 ++ t2 ∧ Texts W1 t1 ∧ Texts W2 t2 := by
 unfold Texts at *
 rw [List.map_append, List.map_eq_append_iff] at h
 obtain ⟨a, b, h1, h2, h3⟩ := h
 exact ⟨a, b, h1, h2, h3⟩
theorem cTx {t : Tok} {w : Bytes} (h : core t = coreW w) : t.text = w := by
 have := congrArg (fun x => x.2.1) h
 rw [coreW_text] at this
 exact this
theorem core_kind {t : Tok} {w : Bytes} (h : core t = coreW w) : t.kind = (coreW w).1 := congrArg (fun x => x.1) h
theorem core_n {t : Tok} {w : Bytes} (h : core t = coreW w) : t.n = (coreW w).2.2 := congrArg (fun x => x.2.2) h
/- a word that is taken by name -/
def WordK (w : Bytes) : Prop := (coreW w).1 = 1 ∨ (coreW w).1 = 3
/- what stands behind is none of some words -/
def NotIn (A : List Bytes) (l : List Tok) : Prop := ∀ t r, l = t :: r → t.text ∉ A
theorem NotIn.mk {A : List Bytes} {w : Bytes} {t : Tok} {r : List Tok} (h : core t = coreW w) (hw : w ∉ A) : NotIn A (t :: r) := by
 intro t' r' e
 cases e
 rw [cTx h]
 exact hw
def nameOk (s : Bytes) : Bool := (coreW s).1 == 1 && !keyF s
/- numbers -/
abbrev dec (n : Nat) : Bytes := Lib.decDigits n
theorem digit_of {d : Nat} (h : d < 10) : digitB (UInt8.ofNat (48 + d)) = true ∧ (UInt8.ofNat (48 + d)).toNat - 48 = d ∧ letterB (UInt8.ofNat (48 + d)) = false := by
 have : d = 0 ∨ d = 1 ∨ d = 2 ∨ d = 3 ∨ d = 4 ∨ d = 5 ∨ d = 6 ∨ d = 7 ∨ d = 8 ∨ d = 9 := by omega
 rcases this with rfl | rfl | rfl | rfl | rfl | rfl | rfl | rfl | rfl | rfl <;> decide
theorem dec_small {n : Nat} (h : n < 10) : dec n = [UInt8.ofNat (48 + n)] := by
 show Lib.decDigits n = _
 rw [Lib.decDigits, dif_pos h]
theorem dec_big {n : Nat} (h : ¬ n < 10) : dec n = dec (n / 10) ++ [UInt8.ofNat (48 + n % 10)] := by
 show Lib.decDigits n = _
 conv => lhs; rw [Lib.decDigits, dif_neg h]
theorem dec_spec : ∀ (k n : Nat), n < 10 ^ k → 1 ≤ k → (∀ b ∈ dec n, digitB b = true) ∧ valN (dec n) = n ∧ 1 ≤ (dec n).length ∧ (dec n).length ≤ k
 | 0, n, _, hk => absurd hk (by decide)
 | k + 1, n, h, _ => by
   by_cases h10 : n < 10
   · obtain ⟨d1, d2, d3⟩ := digit_of h10
     rw [dec_small h10]
     refine ⟨fun b hb => ?_, ?_, by simp, by simp⟩
     · rw [List.mem_singleton.1 hb]; exact d1
     · show 10 * 0 + ((UInt8.ofNat (48 + n)).toNat - 48) = n
       rw [d2]; omega
   · have hk : 1 ≤ k := by
       rcases Nat.eq_zero_or_pos k with rfl | h'
       · simp at h; omega
       · exact h'
     obtain ⟨a1, a2, a3, a4⟩ := dec_spec k (n / 10) (by
      rw [Nat.pow_succ] at h
      exact Nat.div_lt_of_lt_mul (by rw [Nat.mul_comm]; exact h)) hk
     obtain ⟨d1, d2, d3⟩ := digit_of (show n % 10 < 10 by omega)
     rw [dec_big h10]
     refine ⟨fun b hb => ?_, ?_, by simp, by simp; omega⟩
     · rw [List.mem_append] at hb
       rcases hb with hb | hb
       · exact a1 b hb
       · rw [List.mem_singleton.1 hb]; exact d1
     · unfold valN at a2 ⊢
       rw [List.foldl_append, a2]
       simp only [List.foldl_cons, List.foldl_nil, d2]
       omega
theorem takeWhile_each {α : Type} {p : α → Bool} {l : List α} (h : ∀ x ∈ l, p x = true) : l.takeWhile p = l := by
 induction l with
 | nil => rfl
 | cons a r ih =>
   rw [List.takeWhile_cons, if_pos (h a (by simp)), ih (fun x hx => h x (by simp [hx]))]
theorem dec_core {n : Nat} (h : n ≤ 9999999) : coreW (dec n) = (2, dec n, n) := by
 obtain ⟨a1, a2, a3, a4⟩ := dec_spec 7 n (by have : (10 : Nat) ^ 7 = 10000000 := rfl; omega) (by decide)
 generalize dec n = l at *
 cases l with
 | nil => simp at a3
 | cons c r =>
   have hc := a1 c (by simp)
   have hr : r.takeWhile digitB = r := takeWhile_each (fun x hx => a1 x (by simp [hx]))
   have hl : letterB c = false := by
    revert hc
    unfold letterB digitB
    simp only [Bool.and_eq_true, decide_eq_true_eq, Bool.or_eq_false_iff, Bool.and_eq_false_iff, decide_eq_false_iff_not, UInt8.le_iff_toNat_le]
    intro hc
    have e1 : (57 : UInt8).toNat = 57 := rfl
    have e2 : (48 : UInt8).toNat = 48 := rfl
    have e3 : (97 : UInt8).toNat = 97 := rfl
    have e4 : (65 : UInt8).toNat = 65 := rfl
    omega
   have h2 : lexOne c r = .ok (2, r.length + 1, valN (c :: r)) := by
    unfold lexOne
    rw [if_neg (by simp [hl]), if_pos hc, hr]
    rw [if_neg (by simp only [List.drop_length, List.head?_nil, Option.any_none]; simp at a4 ⊢; omega)]
   unfold coreW
   simp only [h2, a2, if_true]
/- things one after the other, a word between them -/
def sepW (w : Bytes) : List (List Bytes) → List Bytes
 | [] => []
 | [a] => a
 | a :: b :: r => a ++ w :: sepW w (b :: r)
theorem wKc {w : Bytes} (h : ((coreW w).1 == 1 || (coreW w).1 == 3) = true) : WordK w := by
 rw [Bool.or_eq_true] at h
 rcases h with h | h
 · exact Or.inl (by simpa using h)
 · exact Or.inr (by simpa using h)
abbrev wAnd : Bytes := [97, 110, 100]
abbrev wOr : Bytes := [111, 114]
abbrev wLp : Bytes := [40]
abbrev wRp : Bytes := [41]
abbrev Tree.op : Tree → Nat | .mk o _ _ _ _ => o
/- the brackets around a kid; b: its parent is an or -/
def wrapW (b : Bool) (k : Tree) (oa oo : Nat) (l : List Bytes) : List Bytes := if k.op = oo ∨ (k.op = oa ∧ b = false) then wLp :: (l ++ [wRp]) else l
def signs : List Bytes := [[61], [33, 61], [60], [60, 61], [62], [62, 61]]
mutual
def wF : Tree → List Bytes
 | .mk op name cmp n ks =>
   if op = 1 then [[116, 114, 117, 101]] else if op = 2 then [[102, 97, 108, 115, 101]]
   else if op = 3 then [name, signs.getD (cmp - 1) [], dec n] else if op = 4 then [name]
   else if op = 5 then [110, 111, 116] :: (wFs false ks).flatten
   else if op = 6 then sepW wAnd (wFs false ks) else if op = 7 then sepW wOr (wFs true ks) else []
def wFs (b : Bool) : List Tree → List (List Bytes)
 | [] => []
 | k :: r => wrapW b k 6 7 (wF k) :: wFs b r
end
theorem wFs_map (b : Bool) : ∀ ks : List Tree, wFs b ks = ks.map fun k => wrapW b k 6 7 (wF k)
 | [] => rfl
 | k :: r => by rw [wFs, wFs_map b r]; rfl
mutual
/- a formula that can be written -/
def okF : Tree → Bool
 | .mk op name cmp n ks =>
   (if op = 3 then decide (1 ≤ cmp) && decide (cmp ≤ 6) && decide (n ≤ 1000000) else decide (cmp = 0) && decide (n = 0)) &&
   (if op = 3 ∨ op = 4 then nameOk name else decide (name = [])) &&
   (if op = 1 ∨ op = 2 ∨ op = 3 ∨ op = 4 then decide (ks.length = 0) else if op = 5 then decide (ks.length = 1) else if op = 6 ∨ op = 7 then decide (2 ≤ ks.length) else false) && okFs ks
def okFs : List Tree → Bool
 | [] => true
 | k :: r => okF k && okFs r
end
theorem okFs_all : ∀ {ks : List Tree}, okFs ks = true → ∀ k ∈ ks, okF k = true
 | [], _, k, hk => by simp at hk
 | a :: r, h, k, hk => by
   rw [okFs, Bool.and_eq_true] at h
   rcases List.mem_cons.1 hk with rfl | hk
   · exact h.1
   · exact okFs_all h.2 k hk
theorem tree_pos : ∀ t : Tree, 1 ≤ t.size
 | .mk _ _ _ _ ks => by rw [Tree.size]; omega
theorem kid_size : ∀ {ks : List Tree} {k : Tree}, k ∈ ks → k.size ≤ sizes ks
 | [], k, hk => by simp at hk
 | a :: r, k, hk => by
   rw [sizes]
   rcases List.mem_cons.1 hk with rfl | hk
   · omega
   · have := kid_size hk; omega
/- a bracketed condition -/
def startW : List Bytes := [[97, 108, 119, 97, 121, 115], [110, 101, 118, 101, 114], [100, 97, 121], [40], [111, 114, 100, 101, 114], [101, 118, 101, 110, 116], [98, 101, 103, 117, 110], [111, 118, 101, 114]]
mutual
def wS : Tree → List Bytes
 | .mk op name cmp n ks =>
   if op = 1 then [[97, 108, 119, 97, 121, 115]] else if op = 2 then [[110, 101, 118, 101, 114]]
   else if op = 3 then [[100, 97, 121], dec n] else if op = 4 ∨ op = 5 ∨ op = 6 ∨ op = 7 then [startW.getD op [], name]
   else if op = 8 then sepW wAnd (wSs false ks) else if op = 9 then sepW wOr (wSs true ks) else []
def wSs (b : Bool) : List Tree → List (List Bytes)
 | [] => []
 | k :: r => wrapW b k 8 9 (wS k) :: wSs b r
end
theorem wSs_map (b : Bool) : ∀ ks : List Tree, wSs b ks = ks.map fun k => wrapW b k 8 9 (wS k)
 | [] => rfl
 | k :: r => by rw [wSs, wSs_map b r]; rfl
mutual
/- a condition that can be written -/
def okS : Tree → Bool
 | .mk op name cmp n ks =>
   (decide (cmp = 0) && (if op = 3 then decide (n ≤ 1000000) else decide (n = 0))) &&
   (if op = 4 ∨ op = 5 ∨ op = 6 ∨ op = 7 then nameOk name else decide (name = [])) &&
   (if op = 8 ∨ op = 9 then decide (2 ≤ ks.length) else if 1 ≤ op ∧ op ≤ 7 then decide (ks.length = 0) else false) && okSs ks
def okSs : List Tree → Bool
 | [] => true
 | k :: r => okS k && okSs r
end
theorem okSs_all : ∀ {ks : List Tree}, okSs ks = true → ∀ k ∈ ks, okS k = true
 | [], _, k, hk => by simp at hk
 | a :: r, h, k, hk => by
   rw [okSs, Bool.and_eq_true] at h
   rcases List.mem_cons.1 hk with rfl | hk
   · exact h.1
   · exact okSs_all h.2 k hk
theorem opS {op : Nat} {k : Nat} (h : (if op = 8 ∨ op = 9 then decide (2 ≤ k) else if 1 ≤ op ∧ op ≤ 7 then decide (k = 0) else false) = true) : ((op = 8 ∨ op = 9) ∧ 2 ≤ k) ∨ ((1 ≤ op ∧ op ≤ 7) ∧ k = 0) := by
 split at h
 · rename_i ho; exact Or.inl ⟨ho, by simpa using h⟩
 · split at h
   · rename_i ho; exact Or.inr ⟨ho, by simpa using h⟩
   · cases h
def ranksN : List Bytes := [[99, 111, 110, 115, 116, 105, 116, 117, 116, 105, 111, 110], [97, 99, 116], [114, 101, 103, 117, 108, 97, 116, 105, 111, 110], [98, 121, 108, 97, 119]]
abbrev wIf : Bytes := [105, 102]
abbrev wNot2 : Bytes := [110, 111, 116, 119, 105, 116, 104, 115, 116, 97, 110, 100, 105, 110, 103]
abbrev wComma : Bytes := [44]
abbrev wFrom : Bytes := [102, 114, 111, 109]
abbrev wUntil : Bytes := [117, 110, 116, 105, 108]
abbrev wAgain : Bytes := [97, 103, 97, 105, 110]
abbrev wDot : Bytes := [46]
def partW (b : Bool) (w : Bytes) (l : List Bytes) : List Bytes := if b then w :: l else []
def excW (exc : List Bytes) : List Bytes := if exc = [] then [] else wNot2 :: sepW wComma (exc.map fun s => [s])
def kindW (p : Prov) : List Bytes := if p.kind = 1 then [[100, 101, 102, 105, 110, 101], p.name] else [[97, 110, 115, 119, 101, 114], p.name, [105, 115], dec p.value]
def tail3 (p : Prov) : List Bytes := partW (p.aga.op != 2) wAgain (wS p.aga) ++ [wDot]
def tail2 (p : Prov) : List Bytes := partW (p.fin.op != 2) wUntil (wS p.fin) ++ tail3 p
def tail1 (p : Prov) : List Bytes := partW (p.beg.op != 1) wFrom (wS p.beg) ++ tail2 p
def tail0 (p : Prov) : List Bytes := excW p.exc ++ tail1 p
def wP (p : Prov) : List Bytes := ranksN.getD (p.rank - 1) [] :: p.id :: [58] :: (kindW p ++ (partW (p.cond.op != 1) wIf (wF p.cond) ++ tail0 p))
def small (t : Tree) : Bool := decide (t.size ≤ 200) && decide (t.deep ≤ 20)
structure WriteOk (p : Prov) : Prop where
 rank : 1 ≤ p.rank ∧ p.rank ≤ 4
 id : nameOk p.id = true
 kind : p.kind = 1 ∧ p.value = 0 ∨ p.kind = 2
 name : nameOk p.name = true
 value : p.value ≤ 1000000
 cond : okF p.cond = true
 condS : small p.cond = true
 exc : ∀ s ∈ p.exc, nameOk s = true
 excN : p.exc.Nodup
 excL : p.exc.length ≤ 20
 beg : okS p.beg = true
 begS : small p.beg = true
 fin : okS p.fin = true
 finS : small p.fin = true
 aga : okS p.aga = true
 agaS : small p.aga = true
theorem NotIn.of {A W : List Bytes} {l : List Tok} (h : Texts W l) (hw : ∀ w r, W = w :: r → w ∉ A) : NotIn A l := by
 intro t r e
 subst e
 unfold Texts at h
 cases W with
 | nil => simp at h
 | cons w W' =>
   simp only [List.map_cons, List.cons.injEq] at h
   rw [cTx h.1]
   exact hw w W' rfl
def HeadIn (W : List Bytes) (H : List Bytes) : Prop := ∀ w r, W = w :: r → w ∈ H
theorem HeadIn.part {b : Bool} {w : Bytes} {l T H : List Bytes} (hw : w ∈ H) (hT : HeadIn T H) : HeadIn (partW b w l ++ T) H := by
 unfold partW
 split
 · intro w' r e
   simp only [List.cons_append, List.cons.injEq] at e
   rw [← e.1]; exact hw
 · simpa using hT
theorem HeadIn.sub {W H K : List Bytes} (h : HeadIn W H) (hs : ∀ x ∈ H, x ∈ K) : HeadIn W K := fun w r e => hs _ (h w r e)
theorem HeadIn.notIn {W H A : List Bytes} {l : List Tok} (h : HeadIn W H) (ht : Texts W l) (hd : ∀ w ∈ H, w ∉ A) : NotIn A l := NotIn.of ht (fun w r e => hd w (h w r e))
/- brackets that open, signs that close: no blank behind the one, none ahead of the other -/
def tightW (op cl : List Bytes) (w w' : Bytes) : Bool := op.contains w || cl.contains w'
def glue (op cl : List Bytes) : List Bytes → Bytes
 | [] => []
 | [w] => w
 | w :: w' :: r => w ++ ((if tightW op cl w w' then [] else [32]) ++ glue op cl (w' :: r))
theorem coreW_lex {w : Bytes} (h : (coreW w).1 ≠ 0) : ∃ c r k v, w = c :: r ∧ lexOne c r = .ok (k, r.length + 1, v) ∧ coreW w = (k, w, v) := by
 unfold coreW at *
 cases w with
 | nil => simp at h
 | cons c r =>
   simp only at h ⊢
   cases hl : lexOne c r with
   | error e => rw [hl] at h; simp at h
   | ok x =>
     obtain ⟨k, m, v⟩ := x
     rw [hl] at h
     simp only at h ⊢
     by_cases hm : m = r.length + 1
     · rw [if_pos hm] at h ⊢
       exact ⟨c, r, k, v, rfl, by rw [hl, hm], rfl⟩
     · rw [if_neg hm] at h; simp at h
theorem lexOne_start {c : UInt8} {r : Bytes} {x : Nat × Nat × Nat} (h : lexOne c r = .ok x) : blankB c = false ∧ c ≠ 35 := by
 constructor
 · cases hb : blankB c with
   | false => rfl
   | true =>
     have hc : c = 32 ∨ c = 9 ∨ c = 10 := by
      unfold blankB at hb
      simp only [Bool.or_eq_true, beq_iff_eq] at hb
      rcases hb with (hb | hb) | hb
      · exact Or.inl hb
      · exact Or.inr (Or.inl hb)
      · exact Or.inr (Or.inr hb)
     rcases hc with rfl | rfl | rfl <;> (unfold lexOne at h; simp [letterB, digitB, symB, preB] at h)
 · rintro rfl
   unfold lexOne at h
   simp [letterB, digitB, symB, preB] at h
/- an opening bracket is a token whatever follows; a closing sign ends the word ahead of it -/
structure Signs (op cl : List Bytes) : Prop where
 opn : ∀ w ∈ op, ∃ c, w = [c] ∧ ∀ r, lexOne c r = .ok (3, 1, 0)
 cls : ∀ w ∈ cl, ∃ c, w = [c] ∧ wordB c = false ∧ c ≠ 61
theorem glue_head {op cl : List Bytes} {c : UInt8} {r : Bytes} (W : List Bytes) : ∃ b, glue op cl ((c :: r) :: W) = c :: b := by
 cases W with
 | nil => exact ⟨r, rfl⟩
 | cons w W => exact ⟨r ++ ((if tightW op cl (c :: r) w then [] else [32]) ++ glue op cl (w :: W)), rfl⟩
theorem sc_glue {op cl : List Bytes} (hs : Signs op cl) : ∀ (W : List Bytes) (p : Nat), (∀ w ∈ W, (coreW w).1 ≠ 0) → (sc (glue op cl W) p).1.map core = W.map coreW ∧ (sc (glue op cl W) p).2 = none
 | [], p, _ => ⟨rfl, rfl⟩
 | [w], p, h => by
   obtain ⟨c, r, k, v, rfl, hl, hc⟩ := coreW_lex (h w (by simp))
   obtain ⟨h1, h2⟩ := lexOne_start hl
   rw [show glue op cl [c :: r] = c :: r from rfl, sc_tok p h1 h2 hl]
   have e1 : (c :: r).take (r.length + 1) = c :: r := List.take_length (l := c :: r)
   have e2 : r.drop (r.length + 1 - 1) = [] := by rw [Nat.add_sub_cancel]; exact List.drop_length
   rw [e1, e2]
   simp only [sc_nil, List.map_cons, List.map_nil, hc]
   exact ⟨rfl, trivial⟩
 | w :: w' :: W, p, h => by
   obtain ⟨c, r, k, v, rfl, hl, hc⟩ := coreW_lex (h w (by simp))
   obtain ⟨c', r', k', v', rfl, hl', hc'⟩ := coreW_lex (h w' (by simp))
   obtain ⟨h1, h2⟩ := lexOne_start hl
   obtain ⟨b, hb⟩ := glue_head (op := op) (cl := cl) (c := c') (r := r') W
   have ih := fun q => sc_glue hs ((c' :: r') :: W) q (fun x hx => h x (by simp at hx ⊢; right; exact hx))
   rw [show glue op cl ((c :: r) :: (c' :: r') :: W) = c :: (r ++ ((if tightW op cl (c :: r) (c' :: r') then [] else [32]) ++ glue op cl ((c' :: r') :: W))) from rfl]
   have hstep : ∀ rest : Bytes, lexOne c (r ++ rest) = .ok (k, r.length + 1, v) → (sc (c :: (r ++ rest)) p).1.map core = coreW (c :: r) :: (sc rest (p + (r.length + 1))).1.map core ∧ (sc (c :: (r ++ rest)) p).2 = (sc rest (p + (r.length + 1))).2 := by
    intro rest hx
    rw [sc_tok p h1 h2 hx]
    have e1 : (c :: (r ++ rest)).take (r.length + 1) = c :: r := by simp
    have e2 : (r ++ rest).drop (r.length + 1 - 1) = rest := by rw [Nat.add_sub_cancel]; simp
    rw [e1, e2, hc]
    exact ⟨rfl, rfl⟩
   cases ht : tightW op cl (c :: r) (c' :: r') with
   | true =>
     simp only [if_true, List.nil_append]
     have hx : lexOne c (r ++ glue op cl ((c' :: r') :: W)) = .ok (k, r.length + 1, v) := by
      unfold tightW at ht
      rw [Bool.or_eq_true] at ht
      rcases ht with ht | ht
      · obtain ⟨c0, e, hc0⟩ := hs.opn _ (by simpa using ht)
        cases e
        have := hc0 []
        rw [hl] at this
        rw [List.nil_append, hc0]
        exact this.symm
      · obtain ⟨c0, e, hc0, h61⟩ := hs.cls _ (by simpa using ht)
        cases e
        rw [hb, lexOne_sep r b hc0 h61]
        exact hl
     obtain ⟨a1, a2⟩ := hstep _ hx
     obtain ⟨b1, b2⟩ := ih (p + (r.length + 1))
     exact ⟨by rw [a1, b1]; rfl, by rw [a2, b2]⟩
   | false =>
     simp only [Bool.false_eq_true, if_false, List.cons_append, List.nil_append]
     have hx : lexOne c (r ++ 32 :: glue op cl ((c' :: r') :: W)) = .ok (k, r.length + 1, v) := by
      rw [lexOne_sep r _ (by decide) (by decide)]
      exact hl
     obtain ⟨a1, a2⟩ := hstep _ hx
     rw [sc_blank (c := 32) (glue op cl ((c' :: r') :: W)) (p + (r.length + 1)) (by decide)] at a1 a2
     obtain ⟨b1, b2⟩ := ih (p + (r.length + 1) + 1)
     exact ⟨by rw [a1, b1]; rfl, by rw [a2, b2]⟩
theorem lexF_glue {op cl : List Bytes} (hs : Signs op cl) {W : List Bytes} (hW : ∀ w ∈ W, (coreW w).1 ≠ 0) :
 (∀ ts, lexF (glue op cl W) = .ok ts → Texts W ts) ∧ ((∃ ts, lexF (glue op cl W) = .ok ts) ↔ (glue op cl W).length ≤ 20000 ∧ W.length ≤ 5000) ∧ (∀ e, lexF (glue op cl W) = .error e → e.1 = 2) := by
 obtain ⟨h1, h2⟩ := sc_glue hs W 0 hW
 have hl : (sc (glue op cl W) 0).1.length = W.length := by
  have := congrArg List.length h1
  simpa using this
 refine ⟨fun ts ht => ?_, ⟨fun ⟨ts, ht⟩ => ?_, fun ⟨ha, hb⟩ => ?_⟩, fun e he => ?_⟩
 · have := (lexF_ok ht).1
   unfold Texts
   rw [this] at h1
   exact h1
 · obtain ⟨a, b, c⟩ := lexF_ok ht
   have hl2 : ts.length = W.length := by rw [a] at hl; exact hl
   exact ⟨c, by omega⟩
 · exact ⟨_, lexF_mk (ts := (sc (glue op cl W) 0).1) (by rw [← h2]) (by omega) ha⟩
 · unfold lexF at he
   split at he
   · injection he with he; rw [← he]
   · split at he
     · injection he with he; rw [← he]
     · have : (scan (glue op cl W).length (glue op cl W) 0).2 = none := h2
       rw [this] at he
       cases he
end Go.Proofs.YtbicmjmcdnkjhaaGreatDoor
