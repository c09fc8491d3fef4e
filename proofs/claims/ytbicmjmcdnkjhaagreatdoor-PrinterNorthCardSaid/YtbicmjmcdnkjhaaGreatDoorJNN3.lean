/- Words of a text and their tokens; words taken, names and numbers read; things joined by a word: plain words. A formula written in the first language is read again. A condition of commencement written in the first language is read again. -/
import Derived.Test.YtbicmjmcdnkjhaaGreatDoorJNN2
import Derived.Lib.ItoaNum
set_option linter.unusedVariables false
set_option linter.unusedSimpArgs false
namespace Go.Proofs.YtbicmjmcdnkjhaaGreatDoor
/- the token that a word is, without its place -/
def coreW (w : Bytes) : Nat × Bytes × Nat :=
 match w with
 | [] => (0, [], 0)
 | c :: r => match lexOne c r with | .ok (k, m, v) => if m = r.length + 1 then (k, c :: r, v) else (0, c :: r, 0) | .error _ => (0, c :: r, 0)
theorem coreW_text (w : Bytes) : (coreW w).2.1 = w := by
 unfold coreW
 split
 · rfl
 · split
   · split <;> rfl
   · rfl
def Texts (W : List Bytes) (ts : List Tok) : Prop := ts.map core = W.map coreW
theorem Texts.cons {w : Bytes} {W : List Bytes} {ts : List Tok} (h : Texts (w :: W) ts) : ∃ t r, ts = t :: r ∧ core t = coreW w ∧ Texts W r := by
 unfold Texts at *
 cases ts with
 | nil => simp at h
 | cons t r =>
   simp only [List.map_cons, List.cons.injEq] at h
   exact ⟨t, r, rfl, h.1, h.2⟩
theorem Texts.nil {ts : List Tok} (h : Texts [] ts) : ts = [] := by
 unfold Texts at h
 simpa using h
theorem Texts.app {W1 W2 : List Bytes} {ts : List Tok} (h : Texts (W1 ++ W2) ts) : ∃ t1 t2, ts = t1 ++ t2 ∧ Texts W1 t1 ∧ Texts W2 t2 := by
 unfold Texts at *
 rw [List.map_append, List.map_eq_append_iff] at h
 obtain ⟨a, b, h1, h2, h3⟩ := h
 exact ⟨a, b, h1, h2, h3⟩
theorem Texts.len {W : List Bytes} {ts : List Tok} (h : Texts W ts) : ts.length = W.length := by
 have := congrArg List.length h
 simpa using this
theorem core_text {t : Tok} {w : Bytes} (h : core t = coreW w) : t.text = w := by
 have := congrArg (fun x => x.2.1) h
 rw [coreW_text] at this
 exact this
theorem core_kind {t : Tok} {w : Bytes} (h : core t = coreW w) : t.kind = (coreW w).1 := congrArg (fun x => x.1) h
theorem core_n {t : Tok} {w : Bytes} (h : core t = coreW w) : t.n = (coreW w).2.2 := congrArg (fun x => x.2.2) h
/- a word that is taken by name -/
def WordK (w : Bytes) : Prop := (coreW w).1 = 1 ∨ (coreW w).1 = 3
theorem take_hit {ws : List Bytes} {w : Bytes} {i : Nat} {t : Tok} {r : List Tok} (h : core t = coreW w) (hk : WordK w) (hi : ws.idxOf? w = some i) : takeF ws (t :: r) = (some i, r) := by
 have hw : isWord t = true := by
  unfold isWord
  rw [core_kind h]
  rcases hk with h | h <;> rw [h] <;> rfl
 simp only [takeF]
 rw [if_pos hw, core_text h, hi]
theorem take_miss {ws : List Bytes} {t : Tok} {r : List Tok} (h : t.text ∉ ws) : takeF ws (t :: r) = (none, t :: r) := by
 simp only [takeF]
 split
 · have : ws.idxOf? t.text = none := by simpa using h
   rw [this]
 · rfl
/- what stands behind is none of some words -/
def NotIn (A : List Bytes) (l : List Tok) : Prop := ∀ t r, l = t :: r → t.text ∉ A
theorem NotIn.sub {A B : List Bytes} {l : List Tok} (h : NotIn A l) (hs : ∀ x ∈ B, x ∈ A) : NotIn B l := fun t r e hb => h t r e (hs _ hb)
theorem NotIn.mk {A : List Bytes} {w : Bytes} {t : Tok} {r : List Tok} (h : core t = coreW w) (hw : w ∉ A) : NotIn A (t :: r) := by
 intro t' r' e
 cases e
 rw [core_text h]
 exact hw
theorem take_rest {A ws : List Bytes} {l : List Tok} (h : NotIn A l) (hs : ∀ x ∈ ws, x ∈ A) : takeF ws l = (none, l) := by
 cases l with
 | nil => rfl
 | cons t r => exact take_miss (fun hm => h t r rfl (hs _ hm))
def nameOk (s : Bytes) : Bool := (coreW s).1 == 1 && !keyF s
theorem name_hit {s : Bytes} {t : Tok} {r : List Tok} (hn : nameOk s = true) (h : core t = coreW s) : nameF (t :: r) = .ok (s, r) := by
 unfold nameOk at hn
 rw [Bool.and_eq_true] at hn
 have h1 : t.kind = 1 := by rw [core_kind h]; simpa using hn.1
 simp only [nameF]
 rw [if_pos (by rw [core_text h, h1, hn.2]; rfl), core_text h]
/- numbers -/
abbrev dec (n : Nat) : Bytes := Lib.decDigits n
theorem digit_of {d : Nat} (h : d < 10) : digitB (UInt8.ofNat (48 + d)) = true ∧ (UInt8.ofNat (48 + d)).toNat - 48 = d ∧ letterB (UInt8.ofNat (48 + d)) = false := by
 have : d = 0 ∨ d = 1 ∨ d = 2 ∨ d = 3 ∨ d = 4 ∨ d = 5 ∨ d = 6 ∨ d = 7 ∨ d = 8 ∨ d = 9 := by omega
 rcases this with rfl | rfl | rfl | rfl | rfl | rfl | rfl | rfl | rfl | rfl <;> decide
theorem dec_small {n : Nat} (h : n < 10) : dec n = [UInt8.ofNat (48 + n)] := by
 show Lib.decDigits n = _
 rw [Lib.decDigits, dif_pos h]
theorem dec_big {n : Nat} (h : ¬ n < 10) : dec n = dec (n / 10) ++ [UInt8.ofNat (48 + n % 10)] := by
 show Lib.decDigits n = _
 conv => lhs; rw [Lib.decDigits, dif_neg h]
theorem dec_spec : ∀ (k n : Nat), n < 10 ^ k → 1 ≤ k → (∀ b ∈ dec n, digitB b = true) ∧ valN (dec n) = n ∧ 1 ≤ (dec n).length ∧ (dec n).length ≤ k
 | 0, n, _, hk => absurd hk (by decide)
 | k + 1, n, h, _ => by
   by_cases h10 : n < 10
   · obtain ⟨d1, d2, d3⟩ := digit_of h10
     rw [dec_small h10]
     refine ⟨fun b hb => ?_, ?_, by simp, by simp⟩
     · rw [List.mem_singleton.1 hb]; exact d1
     · show 10 * 0 + ((UInt8.ofNat (48 + n)).toNat - 48) = n
       rw [d2]; omega
   · have hk : 1 ≤ k := by
       rcases Nat.eq_zero_or_pos k with rfl | h'
       · simp at h; omega
       · exact h'
     obtain ⟨a1, a2, a3, a4⟩ := dec_spec k (n / 10) (by
      rw [Nat.pow_succ] at h
      exact Nat.div_lt_of_lt_mul (by rw [Nat.mul_comm]; exact h)) hk
     obtain ⟨d1, d2, d3⟩ := digit_of (show n % 10 < 10 by omega)
     rw [dec_big h10]
     refine ⟨fun b hb => ?_, ?_, by simp, by simp; omega⟩
     · rw [List.mem_append] at hb
       rcases hb with hb | hb
       · exact a1 b hb
       · rw [List.mem_singleton.1 hb]; exact d1
     · unfold valN at a2 ⊢
       rw [List.foldl_append, a2]
       simp only [List.foldl_cons, List.foldl_nil, d2]
       omega
theorem takeWhile_each {α : Type} {p : α → Bool} {l : List α} (h : ∀ x ∈ l, p x = true) : l.takeWhile p = l := by
 induction l with
 | nil => rfl
 | cons a r ih =>
   rw [List.takeWhile_cons, if_pos (h a (by simp)), ih (fun x hx => h x (by simp [hx]))]
theorem dec_core {n : Nat} (h : n ≤ 9999999) : coreW (dec n) = (2, dec n, n) := by
 obtain ⟨a1, a2, a3, a4⟩ := dec_spec 7 n (by have : (10 : Nat) ^ 7 = 10000000 := rfl; omega) (by decide)
 generalize dec n = l at *
 cases l with
 | nil => simp at a3
 | cons c r =>
   have hc := a1 c (by simp)
   have hr : r.takeWhile digitB = r := takeWhile_each (fun x hx => a1 x (by simp [hx]))
   have hl : letterB c = false := by
    revert hc
    unfold letterB digitB
    simp only [Bool.and_eq_true, decide_eq_true_eq, Bool.or_eq_false_iff, Bool.and_eq_false_iff, decide_eq_false_iff_not, UInt8.le_iff_toNat_le]
    intro hc
    have e1 : (57 : UInt8).toNat = 57 := rfl
    have e2 : (48 : UInt8).toNat = 48 := rfl
    have e3 : (97 : UInt8).toNat = 97 := rfl
    have e4 : (65 : UInt8).toNat = 65 := rfl
    omega
   have h2 : lexOne c r = .ok (2, r.length + 1, valN (c :: r)) := by
    unfold lexOne
    rw [if_neg (by simp [hl]), if_pos hc, hr]
    rw [if_neg (by simp only [List.drop_length, List.head?_nil, Option.any_none]; simp at a4 ⊢; omega)]
   unfold coreW
   simp only [h2, a2, if_true]
theorem number_hit {n most : Nat} {t : Tok} {r : List Tok} (hn : n ≤ 9999999) (hm : n ≤ most) (h : core t = coreW (dec n)) : numberF most (t :: r) = .ok (n, r) := by
 have h1 : t.kind = 2 := by rw [core_kind h, dec_core hn]
 have h2 : t.n = n := by rw [core_n h, dec_core hn]
 simp only [numberF]
 rw [if_pos (by rw [h1]; rfl), h2, if_neg (by omega)]
/- things one after the other, a word between them -/
def sepW (w : Bytes) : List (List Bytes) → List Bytes
 | [] => []
 | [a] => a
 | a :: b :: r => a ++ w :: sepW w (b :: r)
theorem several_words {α : Type} {one : List Tok → R α} {w : Bytes} {A : List Bytes} {M : Nat} (hk : WordK w) (hA : w ∉ A) (wd : α → List Bytes) : ∀ (xs : List α) (n : Nat) (l rest : List Tok),
 xs ≠ [] → xs.length ≤ n → Texts (sepW w (xs.map wd)) l → NotIn (w :: A) rest → (l ++ rest).length ≤ M →
 (∀ x ∈ xs, ∀ l' rest', Texts (wd x) l' → NotIn A rest' → (l' ++ rest').length ≤ M → one (l' ++ rest') = .ok (x, rest')) →
 severalL one w n (l ++ rest) = .ok (xs, rest)
 | [], n, l, rest, hne, _, _, _, _, _ => absurd rfl hne
 | [x], 0, l, rest, _, hn, _, _, _, _ => by simp at hn
 | [x], n + 1, l, rest, _, _, ht, hr, hM, ho => by
   rw [severalL, ho x (by simp) l rest ht (hr.sub (fun y hy => by simp [hy])) hM]
   simp only [bindR, optF]
   rw [take_rest hr (by simp)]
 | x :: y :: r, 0, l, rest, _, hn, _, _, _, _ => by simp at hn
 | x :: y :: r, n + 1, l, rest, _, hn, ht, hr, hM, ho => by
   obtain ⟨l1, l2, rfl, t1, t2⟩ := Texts.app (W1 := wd x) (W2 := w :: sepW w ((y :: r).map wd)) ht
   obtain ⟨t, l3, rfl, ht0, t3⟩ := t2.cons
   have h1 := ho x (by simp) l1 (t :: l3 ++ rest) t1 (NotIn.mk ht0 hA) (by simpa using hM)
   have h2 := several_words hk hA wd (y :: r) n l3 rest (by simp) (by simp at hn ⊢; omega) t3 hr (by simp at hM ⊢; omega) (fun z hz => ho z (by simp at hz ⊢; right; exact hz))
   rw [severalL, List.append_assoc, h1]
   simp only [bindR, optF, List.cons_append]
   rw [take_hit ht0 hk (i := 0) (by simp [List.idxOf?, List.findIdx?_cons])]
   simp only []
   rw [h2]
theorem wordK_const {w : Bytes} (h : ((coreW w).1 == 1 || (coreW w).1 == 3) = true) : WordK w := by
 rw [Bool.or_eq_true] at h
 rcases h with h | h
 · exact Or.inl (by simpa using h)
 · exact Or.inr (by simpa using h)
end Go.Proofs.YtbicmjmcdnkjhaaGreatDoor
namespace Go.Proofs.YtbicmjmcdnkjhaaGreatDoor
abbrev wAnd : Bytes := [97, 110, 100]
abbrev wOr : Bytes := [111, 114]
abbrev wLp : Bytes := [40]
abbrev wRp : Bytes := [41]
abbrev Tree.op : Tree → Nat | .mk o _ _ _ _ => o
/- the brackets around a kid; b: its parent is an or -/
def wrapW (b : Bool) (k : Tree) (oa oo : Nat) (l : List Bytes) : List Bytes := if k.op = oo ∨ (k.op = oa ∧ b = false) then wLp :: (l ++ [wRp]) else l
def signs : List Bytes := [[61], [33, 61], [60], [60, 61], [62], [62, 61]]
mutual
def wF : Tree → List Bytes
 | .mk op name cmp n ks =>
   if op = 1 then [[116, 114, 117, 101]] else if op = 2 then [[102, 97, 108, 115, 101]]
   else if op = 3 then [name, signs.getD (cmp - 1) [], dec n] else if op = 4 then [name]
   else if op = 5 then [110, 111, 116] :: (wFs false ks).flatten
   else if op = 6 then sepW wAnd (wFs false ks) else if op = 7 then sepW wOr (wFs true ks) else []
def wFs (b : Bool) : List Tree → List (List Bytes)
 | [] => []
 | k :: r => wrapW b k 6 7 (wF k) :: wFs b r
end
theorem wFs_map (b : Bool) : ∀ ks : List Tree, wFs b ks = ks.map fun k => wrapW b k 6 7 (wF k)
 | [] => rfl
 | k :: r => by rw [wFs, wFs_map b r]; rfl
mutual
/- a formula that can be written -/
def okF : Tree → Bool
 | .mk op name cmp n ks =>
   (if op = 3 then decide (1 ≤ cmp) && decide (cmp ≤ 6) && decide (n ≤ 1000000) else decide (cmp = 0) && decide (n = 0)) &&
   (if op = 3 ∨ op = 4 then nameOk name else decide (name = [])) &&
   (if op = 1 ∨ op = 2 ∨ op = 3 ∨ op = 4 then decide (ks.length = 0) else if op = 5 then decide (ks.length = 1) else if op = 6 ∨ op = 7 then decide (2 ≤ ks.length) else false) && okFs ks
def okFs : List Tree → Bool
 | [] => true
 | k :: r => okF k && okFs r
end
theorem okFs_all : ∀ {ks : List Tree}, okFs ks = true → ∀ k ∈ ks, okF k = true
 | [], _, k, hk => by simp at hk
 | a :: r, h, k, hk => by
   rw [okFs, Bool.and_eq_true] at h
   rcases List.mem_cons.1 hk with rfl | hk
   · exact h.1
   · exact okFs_all h.2 k hk
theorem tree_pos : ∀ t : Tree, 1 ≤ t.size
 | .mk _ _ _ _ ks => by rw [Tree.size]; omega
theorem kid_size : ∀ {ks : List Tree} {k : Tree}, k ∈ ks → k.size ≤ sizes ks
 | [], k, hk => by simp at hk
 | a :: r, k, hk => by
   rw [sizes]
   rcases List.mem_cons.1 hk with rfl | hk
   · omega
   · have := kid_size hk; omega
theorem sepW_len (w : Bytes) : ∀ {l : List (List Bytes)}, (∀ x ∈ l, 1 ≤ x.length) → l.length ≤ (sepW w l).length
 | [], _ => by simp [sepW]
 | [a], h => by have := h a (by simp); simpa [sepW] using this
 | a :: b :: r, h => by
   have := sepW_len w (l := b :: r) (fun x hx => h x (by simp at hx ⊢; right; exact hx))
   have h1 := h a (by simp)
   rw [show sepW w (a :: b :: r) = a ++ w :: sepW w (b :: r) from rfl]
   simp only [List.length_append, List.length_cons] at this ⊢
   omega
abbrev fA : List Bytes := signs
def AtomOk (t : Tree) : Prop := ∀ n l rest, Texts (wrapW false t 6 7 (wF t)) l → NotIn fA rest → (l ++ rest).length < n → atomF n (l ++ rest) = .ok (t, rest)
def AndOk (t : Tree) : Prop := ∀ n l rest, Texts (wrapW true t 6 7 (wF t)) l → NotIn (wAnd :: fA) rest → (l ++ rest).length < n → andF (atomF n) 6 n (l ++ rest) = .ok (t, rest)
def CondWr (t : Tree) : Prop := ∀ n l rest, Texts (wF t) l → NotIn (wOr :: wAnd :: fA) rest → (l ++ rest).length < n → condF n (l ++ rest) = .ok (t, rest)
theorem wrap_len {b : Bool} {t : Tree} {l : List Bytes} (h : 1 ≤ l.length) : 1 ≤ (wrapW b t 6 7 l).length := by
 unfold wrapW
 split
 · simp only [List.length_cons]; omega
 · exact h
theorem wF_len : ∀ t : Tree, okF t = true → 1 ≤ (wF t).length
 | .mk op name cmp n ks, h => by
   rw [okF] at h
   simp only [Bool.and_eq_true] at h
   obtain ⟨⟨⟨h1, h2⟩, h3⟩, h4⟩ := h
   rw [wF]
   by_cases o1 : op = 1
   · rw [if_pos o1]; simp
   by_cases o2 : op = 2
   · rw [if_neg o1, if_pos o2]; simp
   by_cases o3 : op = 3
   · rw [if_neg o1, if_neg o2, if_pos o3]; simp
   by_cases o4 : op = 4
   · rw [if_neg o1, if_neg o2, if_neg o3, if_pos o4]; simp
   by_cases o5 : op = 5
   · rw [if_neg o1, if_neg o2, if_neg o3, if_neg o4, if_pos o5]; simp
   have hk : 2 ≤ ks.length ∧ (op = 6 ∨ op = 7) := by
    rw [if_neg (by omega), if_neg o5] at h3
    split at h3
    · rename_i ho; exact ⟨by simpa using h3, ho⟩
    · cases h3
   obtain ⟨hk, ho⟩ := hk
   cases ks with
   | nil => simp at hk
   | cons a r =>
     cases r with
     | nil => simp at hk
     | cons b s =>
       rw [if_neg o1, if_neg o2, if_neg o3, if_neg o4, if_neg o5]
       split
       · simp [wFs, sepW]; omega
       · rw [if_pos (by omega)]; simp [wFs, sepW]; omega
/- a bracketed condition -/
theorem atom_paren {t : Tree} (hc : CondWr t) (n : Nat) (l rest : List Tok) (hl : Texts (wLp :: (wF t ++ [wRp])) l) (hn : (l ++ rest).length < n) : atomF n (l ++ rest) = .ok (t, rest) := by
 obtain ⟨t0, l1, rfl, h0, hl1⟩ := hl.cons
 obtain ⟨l2, l3, rfl, h2, h3⟩ := hl1.app
 obtain ⟨t3, l4, rfl, h4, h5⟩ := h3.cons
 obtain rfl := h5.nil
 cases n with
 | zero => simp at hn
 | succ n =>
   have hi := hc n l2 (t3 :: rest) h2 (NotIn.mk h4 (by decide)) (by simp at hn ⊢; omega)
   have e : t0 :: (l2 ++ [t3]) ++ rest = t0 :: (l2 ++ t3 :: rest) := by simp
   rw [e]
   unfold atomF
   simp only [optF]
   rw [take_hit h0 (wordK_const (by decide)) (i := 1) (by decide)]
   simp only []
   have hi' : orF (atomF n) 6 7 n (l2 ++ t3 :: rest) = .ok (t, rest.cons t3) := hi
   rw [hi']
   simp only [bindR, mustF, optF]
   rw [take_hit h4 (wordK_const (by decide)) (i := 0) (by decide)]
theorem sign_hit {c : Nat} (h1 : 1 ≤ c) (h2 : c ≤ 6) : WordK (signs.getD (c - 1) []) ∧ signs.idxOf? (signs.getD (c - 1) []) = some (c - 1) := by
 have : c = 1 ∨ c = 2 ∨ c = 3 ∨ c = 4 ∨ c = 5 ∨ c = 6 := by omega
 rcases this with rfl | rfl | rfl | rfl | rfl | rfl <;> exact ⟨wordK_const (by decide), by decide⟩
theorem name_not {s : Bytes} (h : nameOk s = true) {A : List Bytes} (hA : ∀ w ∈ A, ((coreW w).1 == 1 && !keyF w) = false) : s ∉ A := fun hm => by
 have := hA s hm
 unfold nameOk at h
 rw [h] at this
 cases this
theorem forms_F : ∀ (s : Nat) (t : Tree), t.size ≤ s → okF t = true → AtomOk t ∧ AndOk t ∧ CondWr t
 | 0, t, h, _ => by have := tree_pos t; omega
 | s + 1, .mk op name cmp n ks, hs, hok => by
   have hok0 := hok
   rw [okF] at hok
   simp only [Bool.and_eq_true] at hok
   obtain ⟨⟨⟨h1, h2⟩, h3⟩, h4⟩ := hok
   rw [Tree.size] at hs
   have hk := okFs_all h4
   have ih : ∀ k ∈ ks, AtomOk k ∧ AndOk k ∧ CondWr k := fun k hm => forms_F s k (by have := kid_size hm; omega) (hk k hm)
   have lens : ∀ b, ∀ x ∈ wFs b ks, 1 ≤ x.length := fun b x hx => by
    rw [wFs_map] at hx
    obtain ⟨k, hm, rfl⟩ := List.mem_map.1 hx
    exact wrap_len (wF_len k (hk k hm))
   -- the level of an and
   have hand : op = 6 → ∀ n' l rest, Texts (sepW wAnd (wFs false ks)) l → NotIn (wAnd :: fA) rest → (l ++ rest).length < n' → andF (atomF n') 6 n' (l ++ rest) = .ok (.mk op name cmp n ks, rest) := by
    intro ho n' l rest hl hr hn
    subst ho
    rw [if_neg (by decide), if_neg (by decide), if_pos (by decide)] at h3
    rw [if_neg (by decide)] at h1 h2
    simp only [Bool.and_eq_true, decide_eq_true_eq] at h1 h2 h3
    have hlen := hl.len
    have h5 := sepW_len wAnd (lens false)
    rw [wFs_map, List.length_map] at h5
    rw [wFs_map] at hl hlen
    have := several_words (one := atomF n') (w := wAnd) (A := fA) (M := (l ++ rest).length) (wordK_const (by decide)) (by decide) (fun k => wrapW false k 6 7 (wF k)) ks n' l rest (by rintro rfl; simp at h3) (by simp at hn; omega) hl hr (Nat.le_refl _)
     (fun k hm l' rest' ht' hr' hM' => (ih k hm).1 n' l' rest' ht' hr' (by omega))
    unfold andF severalF
    rw [this]
    simp only [bindR]
    obtain ⟨hc, hnn⟩ := h1
    subst hc hnn h2
    cases ks with
    | nil => simp at h3
    | cons a r => cases r with
      | nil => simp at h3
      | cons b r => rfl
   -- what is no and and no or
   have hatom : op ≠ 6 → op ≠ 7 → ∀ n' l rest, Texts (wF (.mk op name cmp n ks)) l → NotIn fA rest → (l ++ rest).length < n' → atomF n' (l ++ rest) = .ok (.mk op name cmp n ks, rest) := by
    intro o6 o7 n' l rest hl hr hn
    cases n' with
    | zero => simp at hn
    | succ n' =>
      rw [wF] at hl
      by_cases o1 : op = 1
      · subst o1
        rw [if_pos rfl] at hl
        rw [if_neg (by decide)] at h1 h2
        rw [if_pos (by decide)] at h3
        simp only [Bool.and_eq_true, decide_eq_true_eq] at h1 h2 h3
        obtain ⟨t0, l1, rfl, h0, hl1⟩ := hl.cons
        obtain rfl := hl1.nil
        obtain ⟨hc, hnn⟩ := h1
        obtain rfl := List.length_eq_zero_iff.1 h3
        subst hc hnn h2
        unfold atomF
        simp only [optF, List.cons_append, List.nil_append]
        rw [take_hit h0 (wordK_const (by decide)) (i := 2) (by decide)]
        rfl
      by_cases o2 : op = 2
      · subst o2
        rw [if_neg (by decide), if_pos rfl] at hl
        rw [if_neg (by decide)] at h1 h2
        rw [if_pos (by decide)] at h3
        simp only [Bool.and_eq_true, decide_eq_true_eq] at h1 h2 h3
        obtain ⟨t0, l1, rfl, h0, hl1⟩ := hl.cons
        obtain rfl := hl1.nil
        obtain ⟨hc, hnn⟩ := h1
        obtain rfl := List.length_eq_zero_iff.1 h3
        subst hc hnn h2
        unfold atomF
        simp only [optF, List.cons_append, List.nil_append]
        rw [take_hit h0 (wordK_const (by decide)) (i := 3) (by decide)]
        rfl
      by_cases o3 : op = 3
      · subst o3
        rw [if_neg (by decide), if_neg (by decide), if_pos rfl] at hl
        rw [if_pos rfl] at h1
        rw [if_pos (by decide)] at h2 h3
        simp only [Bool.and_eq_true, decide_eq_true_eq] at h1 h3
        obtain ⟨⟨c1, c2⟩, c3⟩ := h1
        obtain rfl := List.length_eq_zero_iff.1 h3
        obtain ⟨t0, l1, rfl, h0, hl1⟩ := hl.cons
        obtain ⟨t1, l2, rfl, hh1, hl2⟩ := hl1.cons
        obtain ⟨t2, l3, rfl, hh2, hl3⟩ := hl2.cons
        obtain rfl := hl3.nil
        obtain ⟨g1, g2⟩ := sign_hit c1 c2
        unfold atomF
        simp only [optF, List.cons_append, List.nil_append]
        rw [take_miss (by rw [core_text h0]; exact name_not h2 (by decide))]
        simp only []
        rw [name_hit h2 h0]
        simp only [bindR]
        rw [take_hit (ws := [[61], [33, 61], [60], [60, 61], [62], [62, 61]]) hh1 g1 g2]
        simp only []
        rw [number_hit (by omega) c3 hh2]
        simp only [bindR]
        rw [show 1 + (cmp - 1) = cmp by omega]
      by_cases o4 : op = 4
      · subst o4
        rw [if_neg (by decide), if_neg (by decide), if_neg (by decide), if_pos rfl] at hl
        rw [if_neg (by decide)] at h1
        rw [if_pos (by decide)] at h2 h3
        simp only [Bool.and_eq_true, decide_eq_true_eq] at h1 h3
        obtain ⟨hc, hnn⟩ := h1
        obtain rfl := List.length_eq_zero_iff.1 h3
        obtain ⟨t0, l1, rfl, h0, hl1⟩ := hl.cons
        obtain rfl := hl1.nil
        subst hc hnn
        unfold atomF
        simp only [optF, List.cons_append, List.nil_append]
        rw [take_miss (by rw [core_text h0]; exact name_not h2 (by decide))]
        simp only []
        rw [name_hit h2 h0]
        simp only [bindR]
        rw [take_rest hr (by unfold fA signs; exact fun _ h => h)]
      by_cases o5 : op = 5
      · subst o5
        rw [if_neg (by decide), if_neg (by decide), if_neg (by decide), if_neg (by decide), if_pos rfl] at hl
        rw [if_neg (by decide)] at h1 h2
        rw [if_neg (by decide), if_pos rfl] at h3
        simp only [Bool.and_eq_true, decide_eq_true_eq] at h1 h2 h3
        obtain ⟨hc, hnn⟩ := h1
        obtain ⟨k, rfl⟩ := List.length_eq_one_iff.1 h3
        obtain ⟨t0, l1, rfl, h0, hl1⟩ := hl.cons
        subst hc hnn h2
        have hl2 : Texts (wrapW false k 6 7 (wF k)) l1 := by simpa [wFs] using hl1
        have := (ih k (by simp)).1 n' l1 rest hl2 hr (by simp at hn ⊢; omega)
        unfold atomF
        simp only [optF, List.cons_append, List.nil_append]
        rw [take_hit h0 (wordK_const (by decide)) (i := 0) (by decide)]
        simp only []
        rw [this]
        simp only [bindR]
      · exfalso
        rw [if_neg (by omega), if_neg o5, if_neg (by omega)] at h3
        cases h3
   -- one of the level of an and
   have handof : ∀ {n' : Nat} {l rest : List Tok}, NotIn (wAnd :: fA) rest → (l ++ rest).length < n' → atomF n' (l ++ rest) = .ok (.mk op name cmp n ks, rest) → andF (atomF n') 6 n' (l ++ rest) = .ok (.mk op name cmp n ks, rest) := by
    intro n' l rest hr hn ha
    cases n' with
    | zero => simp at hn
    | succ n' =>
      unfold andF severalF
      rw [severalL, ha]
      simp only [bindR, optF]
      rw [take_rest hr (by simp)]
      rfl
   have horof : ∀ {n' : Nat} {l rest : List Tok}, NotIn (wOr :: wAnd :: fA) rest → (l ++ rest).length < n' → andF (atomF n') 6 n' (l ++ rest) = .ok (.mk op name cmp n ks, rest) → condF n' (l ++ rest) = .ok (.mk op name cmp n ks, rest) := by
    intro n' l rest hr hn ha
    cases n' with
    | zero => simp at hn
    | succ n' =>
      unfold condF orF severalF
      rw [severalL, ha]
      simp only [bindR, optF]
      rw [take_rest hr (by simp)]
      rfl
   have hwf6 : op = 6 → wF (.mk op name cmp n ks) = sepW wAnd (wFs false ks) := by
    intro ho; subst ho; rw [wF]; simp
   have hwf7 : op = 7 → wF (.mk op name cmp n ks) = sepW wOr (wFs true ks) := by
    intro ho; subst ho; rw [wF]; simp
   have hcond : CondWr (.mk op name cmp n ks) := by
    intro n' l rest hl hr hn
    by_cases o7 : op = 7
    · rw [hwf7 o7] at hl
      subst o7
      rw [if_neg (by decide), if_neg (by decide), if_pos (by decide)] at h3
      rw [if_neg (by decide)] at h1 h2
      simp only [Bool.and_eq_true, decide_eq_true_eq] at h1 h2 h3
      have hlen := hl.len
      have h5 := sepW_len wOr (lens true)
      rw [wFs_map, List.length_map] at h5
      rw [wFs_map] at hl hlen
      have := several_words (one := andF (atomF n') 6 n') (w := wOr) (A := wAnd :: fA) (M := (l ++ rest).length) (wordK_const (by decide)) (by decide) (fun k => wrapW true k 6 7 (wF k)) ks n' l rest (by rintro rfl; simp at h3) (by simp at hn; omega) hl hr (Nat.le_refl _)
       (fun k hm l' rest' ht' hr' hM' => (ih k hm).2.1 n' l' rest' ht' hr' (by omega))
      unfold condF orF severalF
      rw [this]
      simp only [bindR]
      obtain ⟨hc, hnn⟩ := h1
      subst hc hnn h2
      cases ks with
      | nil => simp at h3
      | cons a r => cases r with
        | nil => simp at h3
        | cons b r => rfl
    · refine horof hr hn ?_
      have hr2 : NotIn (wAnd :: fA) rest := hr.sub (fun x hx => List.mem_cons_of_mem _ hx)
      by_cases o6 : op = 6
      · rw [hwf6 o6] at hl
        exact hand o6 n' l rest hl hr2 hn
      · exact handof hr2 hn (hatom o6 o7 n' l rest hl (hr2.sub (fun x hx => List.mem_cons_of_mem _ hx)) hn)
   refine ⟨fun n' l rest hl hr hn => ?_, fun n' l rest hl hr hn => ?_, hcond⟩
   · unfold wrapW at hl
     by_cases ho : op = 6 ∨ op = 7
     · rw [if_pos (ho.elim (fun h => Or.inr ⟨h, rfl⟩) (fun h => Or.inl h))] at hl
       exact atom_paren hcond n' l rest hl hn
     · rw [if_neg (fun h => ho (h.elim (fun h => Or.inr h) (fun h => Or.inl h.1)))] at hl
       exact hatom (by omega) (by omega) n' l rest hl hr hn
   · unfold wrapW at hl
     by_cases o7 : op = 7
     · rw [if_pos (Or.inl o7)] at hl
       exact handof hr hn (atom_paren hcond n' l rest hl hn)
     · rw [if_neg (fun h => h.elim o7 (fun h => by cases h.2))] at hl
       by_cases o6 : op = 6
       · rw [hwf6 o6] at hl
         exact hand o6 n' l rest hl hr hn
       · exact handof hr hn (hatom o6 o7 n' l rest hl (hr.sub (fun x hx => List.mem_cons_of_mem _ hx)) hn)
end Go.Proofs.YtbicmjmcdnkjhaaGreatDoor
namespace Go.Proofs.YtbicmjmcdnkjhaaGreatDoor
def startW : List Bytes := [[97, 108, 119, 97, 121, 115], [110, 101, 118, 101, 114], [100, 97, 121], [40], [111, 114, 100, 101, 114], [101, 118, 101, 110, 116], [98, 101, 103, 117, 110], [111, 118, 101, 114]]
mutual
def wS : Tree → List Bytes
 | .mk op name cmp n ks =>
   if op = 1 then [[97, 108, 119, 97, 121, 115]] else if op = 2 then [[110, 101, 118, 101, 114]]
   else if op = 3 then [[100, 97, 121], dec n] else if op = 4 ∨ op = 5 ∨ op = 6 ∨ op = 7 then [startW.getD op [], name]
   else if op = 8 then sepW wAnd (wSs false ks) else if op = 9 then sepW wOr (wSs true ks) else []
def wSs (b : Bool) : List Tree → List (List Bytes)
 | [] => []
 | k :: r => wrapW b k 8 9 (wS k) :: wSs b r
end
theorem wSs_map (b : Bool) : ∀ ks : List Tree, wSs b ks = ks.map fun k => wrapW b k 8 9 (wS k)
 | [] => rfl
 | k :: r => by rw [wSs, wSs_map b r]; rfl
mutual
/- a condition that can be written -/
def okS : Tree → Bool
 | .mk op name cmp n ks =>
   (decide (cmp = 0) && (if op = 3 then decide (n ≤ 1000000) else decide (n = 0))) &&
   (if op = 4 ∨ op = 5 ∨ op = 6 ∨ op = 7 then nameOk name else decide (name = [])) &&
   (if op = 8 ∨ op = 9 then decide (2 ≤ ks.length) else if 1 ≤ op ∧ op ≤ 7 then decide (ks.length = 0) else false) && okSs ks
def okSs : List Tree → Bool
 | [] => true
 | k :: r => okS k && okSs r
end
theorem okSs_all : ∀ {ks : List Tree}, okSs ks = true → ∀ k ∈ ks, okS k = true
 | [], _, k, hk => by simp at hk
 | a :: r, h, k, hk => by
   rw [okSs, Bool.and_eq_true] at h
   rcases List.mem_cons.1 hk with rfl | hk
   · exact h.1
   · exact okSs_all h.2 k hk
def OneOk (t : Tree) : Prop := ∀ n l rest, Texts (wrapW false t 8 9 (wS t)) l → (l ++ rest).length < n → oneF n (l ++ rest) = .ok (t, rest)
def AllOk (t : Tree) : Prop := ∀ n l rest, Texts (wrapW true t 8 9 (wS t)) l → NotIn [wAnd] rest → (l ++ rest).length < n → andF (oneF n) 8 n (l ++ rest) = .ok (t, rest)
def StartOk (t : Tree) : Prop := ∀ n l rest, Texts (wS t) l → NotIn [wOr, wAnd] rest → (l ++ rest).length < n → startF n (l ++ rest) = .ok (t, rest)
theorem wrap_lenS {b : Bool} {t : Tree} {l : List Bytes} (h : 1 ≤ l.length) : 1 ≤ (wrapW b t 8 9 l).length := by
 unfold wrapW
 split
 · simp only [List.length_cons]; omega
 · exact h
theorem opS {op : Nat} {k : Nat} (h : (if op = 8 ∨ op = 9 then decide (2 ≤ k) else if 1 ≤ op ∧ op ≤ 7 then decide (k = 0) else false) = true) : ((op = 8 ∨ op = 9) ∧ 2 ≤ k) ∨ ((1 ≤ op ∧ op ≤ 7) ∧ k = 0) := by
 split at h
 · rename_i ho; exact Or.inl ⟨ho, by simpa using h⟩
 · split at h
   · rename_i ho; exact Or.inr ⟨ho, by simpa using h⟩
   · cases h
theorem wS_len : ∀ t : Tree, okS t = true → 1 ≤ (wS t).length
 | .mk op name cmp n ks, h => by
   rw [okS] at h
   simp only [Bool.and_eq_true] at h
   obtain ⟨⟨⟨h1, h2⟩, h3⟩, h4⟩ := h
   rw [wS]
   by_cases o1 : op = 1
   · rw [if_pos o1]; simp
   by_cases o2 : op = 2
   · rw [if_neg o1, if_pos o2]; simp
   by_cases o3 : op = 3
   · rw [if_neg o1, if_neg o2, if_pos o3]; simp
   by_cases o4 : op = 4 ∨ op = 5 ∨ op = 6 ∨ op = 7
   · rw [if_neg o1, if_neg o2, if_neg o3, if_pos o4]; simp
   rcases opS h3 with ⟨ho, hk⟩ | ⟨ho, _⟩
   · cases ks with
     | nil => simp at hk
     | cons a r =>
       cases r with
       | nil => simp at hk
       | cons b s =>
         rw [if_neg o1, if_neg o2, if_neg o3, if_neg o4]
         split
         · simp only [wSs, sepW, List.length_append, List.length_cons]; omega
         · rw [if_pos (by omega)]; simp only [wSs, sepW, List.length_append, List.length_cons]; omega
   · omega
theorem one_paren {t : Tree} (hc : StartOk t) (n : Nat) (l rest : List Tok) (hl : Texts (wLp :: (wS t ++ [wRp])) l) (hn : (l ++ rest).length < n) : oneF n (l ++ rest) = .ok (t, rest) := by
 obtain ⟨t0, l1, rfl, h0, hl1⟩ := hl.cons
 obtain ⟨l2, l3, rfl, h2, h3⟩ := hl1.app
 obtain ⟨t3, l4, rfl, h4, h5⟩ := h3.cons
 obtain rfl := h5.nil
 cases n with
 | zero => simp at hn
 | succ n =>
   have hi := hc n l2 (t3 :: rest) h2 (NotIn.mk h4 (by decide)) (by simp at hn ⊢; omega)
   have e : t0 :: (l2 ++ [t3]) ++ rest = t0 :: (l2 ++ t3 :: rest) := by simp
   rw [e]
   unfold oneF
   simp only [mustF, optF]
   rw [take_hit h0 (wordK_const (by decide)) (i := 3) (by decide)]
   have hi' : orF (oneF n) 8 9 n (l2 ++ t3 :: rest) = .ok (t, rest.cons t3) := hi
   simp only [bindR]
   rw [hi']
   simp only [mustF, optF]
   rw [take_hit h4 (wordK_const (by decide)) (i := 0) (by decide)]
theorem kw_hit {op : Nat} (h : op = 4 ∨ op = 5 ∨ op = 6 ∨ op = 7) : WordK (startW.getD op []) ∧ startW.idxOf? (startW.getD op []) = some op := by
 rcases h with rfl | rfl | rfl | rfl <;> exact ⟨wordK_const (by decide), by decide⟩
theorem forms_S : ∀ (s : Nat) (t : Tree), t.size ≤ s → okS t = true → OneOk t ∧ AllOk t ∧ StartOk t
 | 0, t, h, _ => by have := tree_pos t; omega
 | s + 1, .mk op name cmp n ks, hs, hok => by
   have hok0 := hok
   rw [okS] at hok
   simp only [Bool.and_eq_true] at hok
   obtain ⟨⟨⟨h1, h2⟩, h3⟩, h4⟩ := hok
   rw [Tree.size] at hs
   have hk := okSs_all h4
   have ih : ∀ k ∈ ks, OneOk k ∧ AllOk k ∧ StartOk k := fun k hm => forms_S s k (by have := kid_size hm; omega) (hk k hm)
   have lens : ∀ b, ∀ x ∈ wSs b ks, 1 ≤ x.length := fun b x hx => by
    rw [wSs_map] at hx
    obtain ⟨k, hm, rfl⟩ := List.mem_map.1 hx
    exact wrap_lenS (wS_len k (hk k hm))
   have hc0 : cmp = 0 := by simpa using h1.1
   have hop := opS h3
   have hand : op = 8 → ∀ n' l rest, Texts (sepW wAnd (wSs false ks)) l → NotIn [wAnd] rest → (l ++ rest).length < n' → andF (oneF n') 8 n' (l ++ rest) = .ok (.mk op name cmp n ks, rest) := by
    intro ho n' l rest hl hr hn
    subst ho
    have hk2 : 2 ≤ ks.length := by omega
    have hn0 : n = 0 := by simpa using h1.2
    have hnm : name = [] := by simpa using h2
    have hlen := hl.len
    have h5 := sepW_len wAnd (lens false)
    rw [wSs_map, List.length_map] at h5
    rw [wSs_map] at hl hlen
    have := several_words (one := oneF n') (w := wAnd) (A := []) (M := (l ++ rest).length) (wordK_const (by decide)) (by simp) (fun k => wrapW false k 8 9 (wS k)) ks n' l rest (by rintro rfl; simp at hk2) (by simp at hn; omega) hl hr (Nat.le_refl _)
     (fun k hm l' rest' ht' hr' hM' => (ih k hm).1 n' l' rest' ht' (by omega))
    unfold andF severalF
    rw [this]
    simp only [bindR]
    subst hc0 hn0 hnm
    cases ks with
    | nil => simp at hk2
    | cons a r => cases r with
      | nil => simp at hk2
      | cons b r => rfl
   have hatom : op ≠ 8 → op ≠ 9 → ∀ n' l rest, Texts (wS (.mk op name cmp n ks)) l → (l ++ rest).length < n' → oneF n' (l ++ rest) = .ok (.mk op name cmp n ks, rest) := by
    intro o8 o9 n' l rest hl hn
    have hk0 : ks = [] := List.length_eq_zero_iff.1 (by omega)
    subst hc0 hk0
    cases n' with
    | zero => simp at hn
    | succ n' =>
      rw [wS] at hl
      by_cases o1 : op = 1
      · subst o1
        rw [if_pos rfl] at hl
        have hn0 : n = 0 := by simpa using h1.2
        have hnm : name = [] := by simpa using h2
        obtain ⟨t0, l1, rfl, h0, hl1⟩ := hl.cons
        obtain rfl := hl1.nil
        subst hn0 hnm
        unfold oneF
        simp only [mustF, optF, List.cons_append, List.nil_append]
        rw [take_hit h0 (wordK_const (by decide)) (i := 0) (by decide)]
        rfl
      by_cases o2 : op = 2
      · subst o2
        rw [if_neg (by decide), if_pos rfl] at hl
        have hn0 : n = 0 := by simpa using h1.2
        have hnm : name = [] := by simpa using h2
        obtain ⟨t0, l1, rfl, h0, hl1⟩ := hl.cons
        obtain rfl := hl1.nil
        subst hn0 hnm
        unfold oneF
        simp only [mustF, optF, List.cons_append, List.nil_append]
        rw [take_hit h0 (wordK_const (by decide)) (i := 1) (by decide)]
        rfl
      by_cases o3 : op = 3
      · subst o3
        rw [if_neg (by decide), if_neg (by decide), if_pos rfl] at hl
        have hn0 : n ≤ 1000000 := by simpa using h1.2
        have hnm : name = [] := by simpa using h2
        obtain ⟨t0, l1, rfl, h0, hl1⟩ := hl.cons
        obtain ⟨t1, l2, rfl, hh1, hl2⟩ := hl1.cons
        obtain rfl := hl2.nil
        subst hnm
        unfold oneF
        simp only [mustF, optF, List.cons_append, List.nil_append]
        rw [take_hit h0 (wordK_const (by decide)) (i := 2) (by decide)]
        simp only [bindR]
        rw [number_hit (by omega) hn0 hh1]
      · have o4 : op = 4 ∨ op = 5 ∨ op = 6 ∨ op = 7 := by omega
        rw [if_neg o1, if_neg o2, if_neg o3, if_pos o4] at hl
        rw [if_pos o4] at h2
        have hn0 : n = 0 := by have := h1.2; rw [if_neg o3] at this; simpa using this
        obtain ⟨t0, l1, rfl, h0, hl1⟩ := hl.cons
        obtain ⟨t1, l2, rfl, hh1, hl2⟩ := hl1.cons
        obtain rfl := hl2.nil
        subst hn0
        obtain ⟨g1, g2⟩ := kw_hit o4
        obtain ⟨k, rfl⟩ : ∃ k, op = k + 4 := ⟨op - 4, by omega⟩
        unfold oneF
        simp only [mustF, optF, List.cons_append, List.nil_append]
        rw [take_hit (ws := [[97, 108, 119, 97, 121, 115], [110, 101, 118, 101, 114], [100, 97, 121], [40], [111, 114, 100, 101, 114], [101, 118, 101, 110, 116], [98, 101, 103, 117, 110], [111, 118, 101, 114]]) h0 g1 g2]
        simp only [bindR]
        rw [name_hit h2 hh1]
        simp only []
        rw [Nat.add_comm 4 k]
   have handof : ∀ {n' : Nat} {l rest : List Tok}, NotIn [wAnd] rest → (l ++ rest).length < n' → oneF n' (l ++ rest) = .ok (.mk op name cmp n ks, rest) → andF (oneF n') 8 n' (l ++ rest) = .ok (.mk op name cmp n ks, rest) := by
    intro n' l rest hr hn ha
    cases n' with
    | zero => simp at hn
    | succ n' =>
      unfold andF severalF
      rw [severalL, ha]
      simp only [bindR, optF]
      rw [take_rest hr (by simp)]
      rfl
   have horof : ∀ {n' : Nat} {l rest : List Tok}, NotIn [wOr, wAnd] rest → (l ++ rest).length < n' → andF (oneF n') 8 n' (l ++ rest) = .ok (.mk op name cmp n ks, rest) → startF n' (l ++ rest) = .ok (.mk op name cmp n ks, rest) := by
    intro n' l rest hr hn ha
    cases n' with
    | zero => simp at hn
    | succ n' =>
      unfold startF orF severalF
      rw [severalL, ha]
      simp only [bindR, optF]
      rw [take_rest hr (by simp)]
      rfl
   have hwf8 : op = 8 → wS (.mk op name cmp n ks) = sepW wAnd (wSs false ks) := by
    intro ho; subst ho; rw [wS]; simp
   have hwf9 : op = 9 → wS (.mk op name cmp n ks) = sepW wOr (wSs true ks) := by
    intro ho; subst ho; rw [wS]; simp
   have hcond : StartOk (.mk op name cmp n ks) := by
    intro n' l rest hl hr hn
    by_cases o9 : op = 9
    · rw [hwf9 o9] at hl
      subst o9
      have hk2 : 2 ≤ ks.length := by omega
      have hn0 : n = 0 := by simpa using h1.2
      have hnm : name = [] := by simpa using h2
      have hlen := hl.len
      have h5 := sepW_len wOr (lens true)
      rw [wSs_map, List.length_map] at h5
      rw [wSs_map] at hl hlen
      have := several_words (one := andF (oneF n') 8 n') (w := wOr) (A := [wAnd]) (M := (l ++ rest).length) (wordK_const (by decide)) (by decide) (fun k => wrapW true k 8 9 (wS k)) ks n' l rest (by rintro rfl; simp at hk2) (by simp at hn; omega) hl hr (Nat.le_refl _)
       (fun k hm l' rest' ht' hr' hM' => (ih k hm).2.1 n' l' rest' ht' hr' (by omega))
      unfold startF orF severalF
      rw [this]
      simp only [bindR]
      subst hc0 hn0 hnm
      cases ks with
      | nil => simp at hk2
      | cons a r => cases r with
        | nil => simp at hk2
        | cons b r => rfl
    · refine horof hr hn ?_
      have hr2 : NotIn [wAnd] rest := hr.sub (fun x hx => List.mem_cons_of_mem _ hx)
      by_cases o8 : op = 8
      · rw [hwf8 o8] at hl
        exact hand o8 n' l rest hl hr2 hn
      · exact handof hr2 hn (hatom o8 o9 n' l rest hl hn)
   refine ⟨fun n' l rest hl hn => ?_, fun n' l rest hl hr hn => ?_, hcond⟩
   · unfold wrapW at hl
     by_cases ho : op = 8 ∨ op = 9
     · rw [if_pos (ho.elim (fun h => Or.inr ⟨h, rfl⟩) (fun h => Or.inl h))] at hl
       exact one_paren hcond n' l rest hl hn
     · rw [if_neg (fun h => ho (h.elim (fun h => Or.inr h) (fun h => Or.inl h.1)))] at hl
       exact hatom (by omega) (by omega) n' l rest hl hn
   · unfold wrapW at hl
     by_cases o9 : op = 9
     · rw [if_pos (Or.inl o9)] at hl
       exact handof hr hn (one_paren hcond n' l rest hl hn)
     · rw [if_neg (fun h => h.elim o9 (fun h => by cases h.2))] at hl
       by_cases o8 : op = 8
       · rw [hwf8 o8] at hl
         exact hand o8 n' l rest hl hr hn
       · exact handof hr hn (hatom o8 o9 n' l rest hl hn)
end Go.Proofs.YtbicmjmcdnkjhaaGreatDoor
