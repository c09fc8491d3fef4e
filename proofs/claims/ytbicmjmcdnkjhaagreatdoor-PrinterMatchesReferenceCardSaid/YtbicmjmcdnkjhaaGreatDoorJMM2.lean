/- Words of a text and their tokens; words taken, names and numbers read; things joined by a word: plain words. A formula written in the first language is read again. A condition of commencement written in the first language is read again. A provision written in the first language is read again, as tokens. Words put together to a text are its tokens. Blanks taken away behind opening brackets and ahead of closing signs: plain words. A provision written in the first language is read again, as a text. The parser of the second language as plain functions on lists. -/
import Derived.Test.YtbicmjmcdnkjhaaGreatDoorJMM1
import Derived.Lib.ItoaNum
set_option linter.unusedVariables false
set_option linter.unusedSimpArgs false
namespace Go.Proofs.YtbicmjmcdnkjhaaGreatDoor
/- the token that a word is, without its place -/
def coreW (w : Bytes) : Nat × Bytes × Nat :=
 match w with
 | [] => (0, [], 0)
 | c :: r => match lexOne c r with | .ok (k, m, v) => if m = r.length + 1 then (k, c :: r, v) else (0, c :: r, 0) | .error _ => (0, c :: r, 0)
def Texts (W : List Bytes) (ts : List Tok) : Prop := ts.map core = W.map coreW
/- a word that is taken by name -/
/- what stands behind is none of some words -/
def nameOk (s : Bytes) : Bool := (coreW s).1 == 1 && !keyF s
/- numbers -/
abbrev dec (n : Nat) : Bytes := Lib.decDigits n
theorem digit_of {d : Nat} (h : d < 10) : digitB (UInt8.ofNat (48 + d)) = true ∧ (UInt8.ofNat (48 + d)).toNat - 48 = d ∧ letterB (UInt8.ofNat (48 + d)) = false := by
 have : d = 0 ∨ d = 1 ∨ d = 2 ∨ d = 3 ∨ d = 4 ∨ d = 5 ∨ d = 6 ∨ d = 7 ∨ d = 8 ∨ d = 9 := by omega
 rcases this with rfl | rfl | rfl | rfl | rfl | rfl | rfl | rfl | rfl | rfl <;> decide
theorem dec_small {n : Nat} (h : n < 10) : dec n = [UInt8.ofNat (48 + n)] := by
 show Lib.decDigits n = _
 rw [Lib.decDigits, dif_pos h]
theorem dec_big {n : Nat} (h : ¬ n < 10) : dec n = dec (n / 10) ++ [UInt8.ofNat (48 + n % 10)] := by
 show Lib.decDigits n = _
 conv => lhs; rw [Lib.decDigits, dif_neg h]
theorem dec_spec : ∀ (k n : Nat), n < 10 ^ k → 1 ≤ k → (∀ b ∈ dec n, digitB b = true) ∧ valN (dec n) = n ∧ 1 ≤ (dec n).length ∧ (dec n).length ≤ k
 | 0, n, _, hk => absurd hk (by decide)
 | k + 1, n, h, _ => by
   by_cases h10 : n < 10
   · obtain ⟨d1, d2, d3⟩ := digit_of h10
     rw [dec_small h10]
     refine ⟨fun b hb => ?_, ?_, by simp, by simp⟩
     · rw [List.mem_singleton.1 hb]; exact d1
     · show 10 * 0 + ((UInt8.ofNat (48 + n)).toNat - 48) = n
       rw [d2]; omega
   · have hk : 1 ≤ k := by
       rcases Nat.eq_zero_or_pos k with rfl | h'
       · simp at h; omega
       · exact h'
     obtain ⟨a1, a2, a3, a4⟩ := dec_spec k (n / 10) (by
      rw [Nat.pow_succ] at h
      exact Nat.div_lt_of_lt_mul (by rw [Nat.mul_comm]; exact h)) hk
     obtain ⟨d1, d2, d3⟩ := digit_of (show n % 10 < 10 by omega)
     rw [dec_big h10]
     refine ⟨fun b hb => ?_, ?_, by simp, by simp; omega⟩
     · rw [List.mem_append] at hb
       rcases hb with hb | hb
       · exact a1 b hb
       · rw [List.mem_singleton.1 hb]; exact d1
     · unfold valN at a2 ⊢
       rw [List.foldl_append, a2]
       simp only [List.foldl_cons, List.foldl_nil, d2]
       omega
theorem takeWhile_each {α : Type} {p : α → Bool} {l : List α} (h : ∀ x ∈ l, p x = true) : l.takeWhile p = l := by
 induction l with
 | nil => rfl
 | cons a r ih =>
   rw [List.takeWhile_cons, if_pos (h a (by simp)), ih (fun x hx => h x (by simp [hx]))]
theorem dec_core {n : Nat} (h : n ≤ 9999999) : coreW (dec n) = (2, dec n, n) := by
 obtain ⟨a1, a2, a3, a4⟩ := dec_spec 7 n (by have : (10 : Nat) ^ 7 = 10000000 := rfl; omega) (by decide)
 generalize dec n = l at *
 cases l with
 | nil => simp at a3
 | cons c r =>
   have hc := a1 c (by simp)
   have hr : r.takeWhile digitB = r := takeWhile_each (fun x hx => a1 x (by simp [hx]))
   have hl : letterB c = false := by
    revert hc
    unfold letterB digitB
    simp only [Bool.and_eq_true, decide_eq_true_eq, Bool.or_eq_false_iff, Bool.and_eq_false_iff, decide_eq_false_iff_not, UInt8.le_iff_toNat_le]
    intro hc
    have e1 : (57 : UInt8).toNat = 57 := rfl
    have e2 : (48 : UInt8).toNat = 48 := rfl
    have e3 : (97 : UInt8).toNat = 97 := rfl
    have e4 : (65 : UInt8).toNat = 65 := rfl
    omega
   have h2 : lexOne c r = .ok (2, r.length + 1, valN (c :: r)) := by
    unfold lexOne
    rw [if_neg (by simp [hl]), if_pos hc, hr]
    rw [if_neg (by simp only [List.drop_length, List.head?_nil, Option.any_none]; simp at a4 ⊢; omega)]
   unfold coreW
   simp only [h2, a2, if_true]
/- things one after the other, a word between them -/
def sepW (w : Bytes) : List (List Bytes) → List Bytes
 | [] => []
 | [a] => a
 | a :: b :: r => a ++ w :: sepW w (b :: r)
abbrev wAnd : Bytes := [97, 110, 100]
abbrev wOr : Bytes := [111, 114]
abbrev wLp : Bytes := [40]
abbrev wRp : Bytes := [41]
abbrev Tree.op : Tree → Nat | .mk o _ _ _ _ => o
/- the brackets around a kid; b: its parent is an or -/
def wrapW (b : Bool) (k : Tree) (oa oo : Nat) (l : List Bytes) : List Bytes := if k.op = oo ∨ (k.op = oa ∧ b = false) then wLp :: (l ++ [wRp]) else l
def signs : List Bytes := [[61], [33, 61], [60], [60, 61], [62], [62, 61]]
mutual
def wF : Tree → List Bytes
 | .mk op name cmp n ks =>
   if op = 1 then [[116, 114, 117, 101]] else if op = 2 then [[102, 97, 108, 115, 101]]
   else if op = 3 then [name, signs.getD (cmp - 1) [], dec n] else if op = 4 then [name]
   else if op = 5 then [110, 111, 116] :: (wFs false ks).flatten
   else if op = 6 then sepW wAnd (wFs false ks) else if op = 7 then sepW wOr (wFs true ks) else []
def wFs (b : Bool) : List Tree → List (List Bytes)
 | [] => []
 | k :: r => wrapW b k 6 7 (wF k) :: wFs b r
end
theorem wFs_map (b : Bool) : ∀ ks : List Tree, wFs b ks = ks.map fun k => wrapW b k 6 7 (wF k)
 | [] => rfl
 | k :: r => by rw [wFs, wFs_map b r]; rfl
mutual
/- a formula that can be written -/
def okF : Tree → Bool
 | .mk op name cmp n ks =>
   (if op = 3 then decide (1 ≤ cmp) && decide (cmp ≤ 6) && decide (n ≤ 1000000) else decide (cmp = 0) && decide (n = 0)) &&
   (if op = 3 ∨ op = 4 then nameOk name else decide (name = [])) &&
   (if op = 1 ∨ op = 2 ∨ op = 3 ∨ op = 4 then decide (ks.length = 0) else if op = 5 then decide (ks.length = 1) else if op = 6 ∨ op = 7 then decide (2 ≤ ks.length) else false) && okFs ks
def okFs : List Tree → Bool
 | [] => true
 | k :: r => okF k && okFs r
end
theorem okFs_all : ∀ {ks : List Tree}, okFs ks = true → ∀ k ∈ ks, okF k = true
 | [], _, k, hk => by simp at hk
 | a :: r, h, k, hk => by
   rw [okFs, Bool.and_eq_true] at h
   rcases List.mem_cons.1 hk with rfl | hk
   · exact h.1
   · exact okFs_all h.2 k hk
theorem tree_pos : ∀ t : Tree, 1 ≤ t.size
 | .mk _ _ _ _ ks => by rw [Tree.size]; omega
theorem kid_size : ∀ {ks : List Tree} {k : Tree}, k ∈ ks → k.size ≤ sizes ks
 | [], k, hk => by simp at hk
 | a :: r, k, hk => by
   rw [sizes]
   rcases List.mem_cons.1 hk with rfl | hk
   · omega
   · have := kid_size hk; omega
/- a bracketed condition -/
def startW : List Bytes := [[97, 108, 119, 97, 121, 115], [110, 101, 118, 101, 114], [100, 97, 121], [40], [111, 114, 100, 101, 114], [101, 118, 101, 110, 116], [98, 101, 103, 117, 110], [111, 118, 101, 114]]
mutual
def wS : Tree → List Bytes
 | .mk op name cmp n ks =>
   if op = 1 then [[97, 108, 119, 97, 121, 115]] else if op = 2 then [[110, 101, 118, 101, 114]]
   else if op = 3 then [[100, 97, 121], dec n] else if op = 4 ∨ op = 5 ∨ op = 6 ∨ op = 7 then [startW.getD op [], name]
   else if op = 8 then sepW wAnd (wSs false ks) else if op = 9 then sepW wOr (wSs true ks) else []
def wSs (b : Bool) : List Tree → List (List Bytes)
 | [] => []
 | k :: r => wrapW b k 8 9 (wS k) :: wSs b r
end
theorem wSs_map (b : Bool) : ∀ ks : List Tree, wSs b ks = ks.map fun k => wrapW b k 8 9 (wS k)
 | [] => rfl
 | k :: r => by rw [wSs, wSs_map b r]; rfl
mutual
/- a condition that can be written -/
def okS : Tree → Bool
 | .mk op name cmp n ks =>
   (decide (cmp = 0) && (if op = 3 then decide (n ≤ 1000000) else decide (n = 0))) &&
   (if op = 4 ∨ op = 5 ∨ op = 6 ∨ op = 7 then nameOk name else decide (name = [])) &&
   (if op = 8 ∨ op = 9 then decide (2 ≤ ks.length) else if 1 ≤ op ∧ op ≤ 7 then decide (ks.length = 0) else false) && okSs ks
def okSs : List Tree → Bool
 | [] => true
 | k :: r => okS k && okSs r
end
theorem okSs_all : ∀ {ks : List Tree}, okSs ks = true → ∀ k ∈ ks, okS k = true
 | [], _, k, hk => by simp at hk
 | a :: r, h, k, hk => by
   rw [okSs, Bool.and_eq_true] at h
   rcases List.mem_cons.1 hk with rfl | hk
   · exact h.1
   · exact okSs_all h.2 k hk
def ranksN : List Bytes := [[99, 111, 110, 115, 116, 105, 116, 117, 116, 105, 111, 110], [97, 99, 116], [114, 101, 103, 117, 108, 97, 116, 105, 111, 110], [98, 121, 108, 97, 119]]
abbrev wIf : Bytes := [105, 102]
abbrev wNot2 : Bytes := [110, 111, 116, 119, 105, 116, 104, 115, 116, 97, 110, 100, 105, 110, 103]
abbrev wComma : Bytes := [44]
abbrev wFrom : Bytes := [102, 114, 111, 109]
abbrev wUntil : Bytes := [117, 110, 116, 105, 108]
abbrev wAgain : Bytes := [97, 103, 97, 105, 110]
abbrev wDot : Bytes := [46]
def partW (b : Bool) (w : Bytes) (l : List Bytes) : List Bytes := if b then w :: l else []
def excW (exc : List Bytes) : List Bytes := if exc = [] then [] else wNot2 :: sepW wComma (exc.map fun s => [s])
def kindW (p : Prov) : List Bytes := if p.kind = 1 then [[100, 101, 102, 105, 110, 101], p.name] else [[97, 110, 115, 119, 101, 114], p.name, [105, 115], dec p.value]
def tail3 (p : Prov) : List Bytes := partW (p.aga.op != 2) wAgain (wS p.aga) ++ [wDot]
def tail2 (p : Prov) : List Bytes := partW (p.fin.op != 2) wUntil (wS p.fin) ++ tail3 p
def tail1 (p : Prov) : List Bytes := partW (p.beg.op != 1) wFrom (wS p.beg) ++ tail2 p
def tail0 (p : Prov) : List Bytes := excW p.exc ++ tail1 p
def wP (p : Prov) : List Bytes := ranksN.getD (p.rank - 1) [] :: p.id :: [58] :: (kindW p ++ (partW (p.cond.op != 1) wIf (wF p.cond) ++ tail0 p))
def small (t : Tree) : Bool := decide (t.size ≤ 200) && decide (t.deep ≤ 20)
structure WriteOk (p : Prov) : Prop where
 rank : 1 ≤ p.rank ∧ p.rank ≤ 4
 id : nameOk p.id = true
 kind : p.kind = 1 ∧ p.value = 0 ∨ p.kind = 2
 name : nameOk p.name = true
 value : p.value ≤ 1000000
 cond : okF p.cond = true
 condS : small p.cond = true
 exc : ∀ s ∈ p.exc, nameOk s = true
 excN : p.exc.Nodup
 excL : p.exc.length ≤ 20
 beg : okS p.beg = true
 begS : small p.beg = true
 fin : okS p.fin = true
 finS : small p.fin = true
 aga : okS p.aga = true
 agaS : small p.aga = true
/- brackets that open, signs that close: no blank behind the one, none ahead of the other -/
def tightW (op cl : List Bytes) (w w' : Bytes) : Bool := op.contains w || cl.contains w'
def glue (op cl : List Bytes) : List Bytes → Bytes
 | [] => []
 | [w] => w
 | w :: w' :: r => w ++ ((if tightW op cl w w' then [] else [32]) ++ glue op cl (w' :: r))
theorem coreW_lex {w : Bytes} (h : (coreW w).1 ≠ 0) : ∃ c r k v, w = c :: r ∧ lexOne c r = .ok (k, r.length + 1, v) ∧ coreW w = (k, w, v) := by
 unfold coreW at *
 cases w with
 | nil => simp at h
 | cons c r =>
   simp only at h ⊢
   cases hl : lexOne c r with
   | error e => rw [hl] at h; simp at h
   | ok x =>
     obtain ⟨k, m, v⟩ := x
     rw [hl] at h
     simp only at h ⊢
     by_cases hm : m = r.length + 1
     · rw [if_pos hm] at h ⊢
       exact ⟨c, r, k, v, rfl, by rw [hl, hm], rfl⟩
     · rw [if_neg hm] at h; simp at h
theorem lexOne_start {c : UInt8} {r : Bytes} {x : Nat × Nat × Nat} (h : lexOne c r = .ok x) : blankB c = false ∧ c ≠ 35 := by
 constructor
 · cases hb : blankB c with
   | false => rfl
   | true =>
     have hc : c = 32 ∨ c = 9 ∨ c = 10 := by
      unfold blankB at hb
      simp only [Bool.or_eq_true, beq_iff_eq] at hb
      rcases hb with (hb | hb) | hb
      · exact Or.inl hb
      · exact Or.inr (Or.inl hb)
      · exact Or.inr (Or.inr hb)
     rcases hc with rfl | rfl | rfl <;> (unfold lexOne at h; simp [letterB, digitB, symB, preB] at h)
 · rintro rfl
   unfold lexOne at h
   simp [letterB, digitB, symB, preB] at h
/- an opening bracket is a token whatever follows; a closing sign ends the word ahead of it -/
structure Signs (op cl : List Bytes) : Prop where
 opn : ∀ w ∈ op, ∃ c, w = [c] ∧ ∀ r, lexOne c r = .ok (3, 1, 0)
 cls : ∀ w ∈ cl, ∃ c, w = [c] ∧ wordB c = false ∧ c ≠ 61
theorem glue_head {op cl : List Bytes} {c : UInt8} {r : Bytes} (W : List Bytes) : ∃ b, glue op cl ((c :: r) :: W) = c :: b := by
 cases W with
 | nil => exact ⟨r, rfl⟩
 | cons w W => exact ⟨r ++ ((if tightW op cl (c :: r) w then [] else [32]) ++ glue op cl (w :: W)), rfl⟩
theorem sc_glue {op cl : List Bytes} (hs : Signs op cl) : ∀ (W : List Bytes) (p : Nat), (∀ w ∈ W, (coreW w).1 ≠ 0) → (sc (glue op cl W) p).1.map core = W.map coreW ∧ (sc (glue op cl W) p).2 = none
 | [], p, _ => ⟨rfl, rfl⟩
 | [w], p, h => by
   obtain ⟨c, r, k, v, rfl, hl, hc⟩ := coreW_lex (h w (by simp))
   obtain ⟨h1, h2⟩ := lexOne_start hl
   rw [show glue op cl [c :: r] = c :: r from rfl, sc_tok p h1 h2 hl]
   have e1 : (c :: r).take (r.length + 1) = c :: r := List.take_length (l := c :: r)
   have e2 : r.drop (r.length + 1 - 1) = [] := by rw [Nat.add_sub_cancel]; exact List.drop_length
   rw [e1, e2]
   simp only [sc_nil, List.map_cons, List.map_nil, hc]
   exact ⟨rfl, trivial⟩
 | w :: w' :: W, p, h => by
   obtain ⟨c, r, k, v, rfl, hl, hc⟩ := coreW_lex (h w (by simp))
   obtain ⟨c', r', k', v', rfl, hl', hc'⟩ := coreW_lex (h w' (by simp))
   obtain ⟨h1, h2⟩ := lexOne_start hl
   obtain ⟨b, hb⟩ := glue_head (op := op) (cl := cl) (c := c') (r := r') W
   have ih := fun q => sc_glue hs ((c' :: r') :: W) q (fun x hx => h x (by simp at hx ⊢; right; exact hx))
   rw [show glue op cl ((c :: r) :: (c' :: r') :: W) = c :: (r ++ ((if tightW op cl (c :: r) (c' :: r') then [] else [32]) ++ glue op cl ((c' :: r') :: W))) from rfl]
   have hstep : ∀ rest : Bytes, lexOne c (r ++ rest) = .ok (k, r.length + 1, v) → (sc (c :: (r ++ rest)) p).1.map core = coreW (c :: r) :: (sc rest (p + (r.length + 1))).1.map core ∧ (sc (c :: (r ++ rest)) p).2 = (sc rest (p + (r.length + 1))).2 := by
    intro rest hx
    rw [sc_tok p h1 h2 hx]
    have e1 : (c :: (r ++ rest)).take (r.length + 1) = c :: r := by simp
    have e2 : (r ++ rest).drop (r.length + 1 - 1) = rest := by rw [Nat.add_sub_cancel]; simp
    rw [e1, e2, hc]
    exact ⟨rfl, rfl⟩
   cases ht : tightW op cl (c :: r) (c' :: r') with
   | true =>
     simp only [if_true, List.nil_append]
     have hx : lexOne c (r ++ glue op cl ((c' :: r') :: W)) = .ok (k, r.length + 1, v) := by
      unfold tightW at ht
      rw [Bool.or_eq_true] at ht
      rcases ht with ht | ht
      · obtain ⟨c0, e, hc0⟩ := hs.opn _ (by simpa using ht)
        cases e
        have := hc0 []
        rw [hl] at this
        rw [List.nil_append, hc0]
        exact this.symm
      · obtain ⟨c0, e, hc0, h61⟩ := hs.cls _ (by simpa using ht)
        cases e
        rw [hb, lexOne_sep r b hc0 h61]
        exact hl
     obtain ⟨a1, a2⟩ := hstep _ hx
     obtain ⟨b1, b2⟩ := ih (p + (r.length + 1))
     exact ⟨by rw [a1, b1]; rfl, by rw [a2, b2]⟩
   | false =>
     simp only [Bool.false_eq_true, if_false, List.cons_append, List.nil_append]
     have hx : lexOne c (r ++ 32 :: glue op cl ((c' :: r') :: W)) = .ok (k, r.length + 1, v) := by
      rw [lexOne_sep r _ (by decide) (by decide)]
      exact hl
     obtain ⟨a1, a2⟩ := hstep _ hx
     rw [sc_blank (c := 32) (glue op cl ((c' :: r') :: W)) (p + (r.length + 1)) (by decide)] at a1 a2
     obtain ⟨b1, b2⟩ := ih (p + (r.length + 1) + 1)
     exact ⟨by rw [a1, b1]; rfl, by rw [a2, b2]⟩
theorem lexF_glue {op cl : List Bytes} (hs : Signs op cl) {W : List Bytes} (hW : ∀ w ∈ W, (coreW w).1 ≠ 0) :
 (∀ ts, lexF (glue op cl W) = .ok ts → Texts W ts) ∧ ((∃ ts, lexF (glue op cl W) = .ok ts) ↔ (glue op cl W).length ≤ 20000 ∧ W.length ≤ 5000) ∧ (∀ e, lexF (glue op cl W) = .error e → e.1 = 2) := by
 obtain ⟨h1, h2⟩ := sc_glue hs W 0 hW
 have hl : (sc (glue op cl W) 0).1.length = W.length := by
  have := congrArg List.length h1
  simpa using this
 refine ⟨fun ts ht => ?_, ⟨fun ⟨ts, ht⟩ => ?_, fun ⟨ha, hb⟩ => ?_⟩, fun e he => ?_⟩
 · have := (lexF_ok ht).1
   unfold Texts
   rw [this] at h1
   exact h1
 · obtain ⟨a, b, c⟩ := lexF_ok ht
   have hl2 : ts.length = W.length := by rw [a] at hl; exact hl
   exact ⟨c, by omega⟩
 · exact ⟨_, lexF_mk (ts := (sc (glue op cl W) 0).1) (by rw [← h2]) (by omega) ha⟩
 · unfold lexF at he
   split at he
   · injection he with he; rw [← he]
   · split at he
     · injection he with he; rw [← he]
     · have : (scan (glue op cl W).length (glue op cl W) 0).2 = none := h2
       rw [this] at he
       cases he
/- what the replacer does: o: the bytes that open, c: the bytes that close -/
def replF (o c : List UInt8) : Bytes → Bytes
 | [] => []
 | [x] => [x]
 | x :: y :: r => if x = 32 ∧ y ∈ c then y :: replF o c r else if x ∈ o ∧ y = 32 then x :: replF o c r else x :: replF o c (y :: r)
def joinB : List Bytes → Bytes
 | [] => []
 | [w] => w
 | w :: w' :: r => w ++ 32 :: joinB (w' :: r)
/- a word as they stand in a text: no blank in it; an opening bracket or a closing sign stands alone -/
structure WordR (o c : List UInt8) (w : Bytes) : Prop where
 ne : w ≠ []
 blank : 32 ∉ w
 opn : (∃ x ∈ o, w = [x]) ∨ ∀ x ∈ o, x ∉ w
 cls : (∃ x ∈ c, w = [x]) ∨ ∀ x ∈ c, w.head? ≠ some x
theorem replF_word (o c : List UInt8) (h32 : 32 ∉ o) : ∀ (w rest : Bytes), w ≠ [] → 32 ∉ w → (∀ x ∈ o, x ∉ w) → replF o c (w ++ 32 :: rest) = w ++ replF o c (32 :: rest)
 | [], rest, h, _, _ => absurd rfl h
 | [x], rest, _, hb, ho => by
   simp only [List.cons_append, List.nil_append]
   rw [replF]
   rw [if_neg (fun h => hb (by rw [← h.1]; simp)), if_neg (fun h => ho x h.1 (by simp))]
 | x :: y :: r, rest, _, hb, ho => by
   simp only [List.cons_append]
   rw [replF]
   rw [if_neg (fun h => hb (by rw [← h.1]; simp)), if_neg (fun h => ho x h.1 (by simp))]
   have := replF_word o c h32 (y :: r) rest (by simp) (fun h => hb (by simp at h ⊢; right; exact h)) (fun z hz h => ho z hz (by simp at h ⊢; right; exact h))
   exact congrArg (x :: ·) this
theorem replF_end (o c : List UInt8) : ∀ (w : Bytes), 32 ∉ w → replF o c w = w
 | [], _ => rfl
 | [x], _ => rfl
 | x :: y :: r, hb => by
   rw [replF]
   rw [if_neg (fun h => hb (by rw [← h.1]; simp)), if_neg (fun h => hb (by rw [← h.2]; simp))]
   rw [replF_end o c (y :: r) (fun h => hb (by simp at h ⊢; right; exact h))]
theorem joinB_head {c : UInt8} {r : Bytes} (W : List Bytes) : ∃ b, joinB ((c :: r) :: W) = c :: b := by
 cases W with
 | nil => exact ⟨r, rfl⟩
 | cons w W => exact ⟨r ++ 32 :: joinB (w :: W), rfl⟩
theorem repl_glue {o c : List UInt8} (ho : 32 ∉ o) (hc : 32 ∉ c) (hoc : ∀ x ∈ o, x ∉ c) : ∀ (W : List Bytes), (∀ w ∈ W, WordR o c w) → replF o c (joinB W) = glue (o.map fun x => [x]) (c.map fun x => [x]) W ∧ ∀ x r, W = [x] :: r → x ∈ c → ∃ b, joinB W = x :: b ∧ glue (o.map fun x => [x]) (c.map fun x => [x]) W = x :: replF o c b
 | [], _ => ⟨rfl, fun x r e => by simp at e⟩
 | [w], h => by
   refine ⟨replF_end o c w (h w (by simp)).blank, fun x r e hx => ?_⟩
   cases e
   exact ⟨[], rfl, rfl⟩
 | w :: w' :: W, h => by
   have hw := h w (by simp)
   have hw' := h w' (by simp)
   obtain ⟨i1, i2⟩ := repl_glue ho hc hoc (w' :: W) (fun x hx => h x (by simp at hx ⊢; right; exact hx))
   rw [show joinB (w :: w' :: W) = w ++ 32 :: joinB (w' :: W) from rfl]
   rw [show glue (o.map fun x => [x]) (c.map fun x => [x]) (w :: w' :: W) = w ++ ((if tightW (o.map fun x => [x]) (c.map fun x => [x]) w w' then [] else [32]) ++ glue (o.map fun x => [x]) (c.map fun x => [x]) (w' :: W)) from rfl]
   obtain ⟨c', r', rfl⟩ : ∃ c' r', w' = c' :: r' := by
    cases w' with
    | nil => exact absurd rfl hw'.ne
    | cons a b => exact ⟨a, b, rfl⟩
   have hc32 : c' ≠ 32 := fun e => hw'.blank (by rw [e]; simp)
   -- behind the word, its blank
   have hblank : replF o c (32 :: joinB ((c' :: r') :: W)) = (if (c.map fun x => [x]).contains (c' :: r') then [] else [32]) ++ glue (o.map fun x => [x]) (c.map fun x => [x]) ((c' :: r') :: W) := by
    obtain ⟨b, hb⟩ := joinB_head (c := c') (r := r') W
    cases hcl : (c.map fun x => [x]).contains (c' :: r') with
    | true =>
      simp only [if_true, List.nil_append]
      have : ∃ x ∈ c, [x] = c' :: r' := by simpa using hcl
      obtain ⟨x, hx, e⟩ := this
      cases e
      obtain ⟨b2, e1, e2⟩ := i2 c' W rfl hx
      rw [e1, e2, replF, if_pos ⟨rfl, hx⟩]
    | false =>
      simp only [Bool.false_eq_true, if_false, List.cons_append, List.nil_append]
      rw [← i1, hb]
      rw [replF]
      have hn : c' ∉ c := by
       rcases hw'.cls with ⟨x, hx, e⟩ | hh
       · exfalso
         have : ¬ ∃ x ∈ c, [x] = c' :: r' := by
          intro hex
          have h1 : (c.map fun x => [x]).contains (c' :: r') = true := by simpa using hex
          rw [hcl] at h1
          cases h1
         exact this ⟨x, hx, e.symm⟩
       · exact fun hm => hh c' hm rfl
      rw [if_neg (fun h => hn h.2), if_neg (fun h => ho h.1)]
   rcases hw.opn with ⟨x, hx, rfl⟩ | hno
   · have hx32 : x ≠ 32 := fun e => ho (e ▸ hx)
     have ht : tightW (o.map fun x => [x]) (c.map fun x => [x]) [x] (c' :: r') = true := by
      unfold tightW
      rw [Bool.or_eq_true]
      exact Or.inl (by simpa using hx)
     have hstep : replF o c (x :: 32 :: joinB ((c' :: r') :: W)) = x :: replF o c (joinB ((c' :: r') :: W)) := by
      rw [replF, if_neg (fun h => hx32 h.1), if_pos ⟨hx, rfl⟩]
     rw [ht]
     simp only [if_true, List.nil_append, List.cons_append]
     refine ⟨by rw [hstep, i1], fun y r e hy => ?_⟩
     cases e
     refine ⟨_, rfl, ?_⟩
     -- an opening bracket that closes, too
     exact absurd hy (hoc x hx)
   · have hstep := replF_word o c ho w (joinB ((c' :: r') :: W)) hw.ne hw.blank hno
     have htt : tightW (o.map fun x => [x]) (c.map fun x => [x]) w (c' :: r') = (c.map fun x => [x]).contains (c' :: r') := by
      unfold tightW
      have : (o.map fun x => [x]).contains w = false := by
       cases hb : (o.map fun x => [x]).contains w with
       | false => rfl
       | true =>
         have : ∃ x ∈ o, [x] = w := by simpa using hb
         obtain ⟨x, hx, e⟩ := this
         exact absurd (by rw [← e]; simp) (hno x hx)
      rw [this, Bool.false_or]
     rw [htt, hstep, hblank]
     refine ⟨rfl, fun y r e hy => ?_⟩
     cases e
     refine ⟨32 :: joinB ((c' :: r') :: W), rfl, ?_⟩
     rw [hblank]
     rfl
theorem mem_sepW {w x : Bytes} : ∀ {l : List (List Bytes)}, x ∈ sepW w l → x = w ∨ ∃ a ∈ l, x ∈ a
 | [], h => by simp [sepW] at h
 | [a], h => Or.inr ⟨a, by simp, h⟩
 | a :: b :: r, h => by
   rw [show sepW w (a :: b :: r) = a ++ w :: sepW w (b :: r) from rfl] at h
   rw [List.mem_append, List.mem_cons] at h
   rcases h with h | h | h
   · exact Or.inr ⟨a, by simp, h⟩
   · exact Or.inl h
   · rcases mem_sepW h with h | ⟨c, hc, hx⟩
     · exact Or.inl h
     · exact Or.inr ⟨c, by simp at hc ⊢; right; exact hc, hx⟩
theorem mem_wrapW {b : Bool} {k : Tree} {oa oo : Nat} {l : List Bytes} {x : Bytes} (h : x ∈ wrapW b k oa oo l) : x = wLp ∨ x = wRp ∨ x ∈ l := by
 unfold wrapW at h
 split at h
 · simp only [List.mem_cons, List.mem_append, List.not_mem_nil, or_false] at h
   rcases h with h | h | h
   · exact Or.inl h
   · exact Or.inr (Or.inr h)
   · exact Or.inr (Or.inl h)
 · exact Or.inr (Or.inr h)
def GoodW (S : List Bytes) (w : Bytes) : Prop := (coreW w).1 = 1 ∨ (coreW w).1 = 2 ∨ w ∈ S
theorem good_name {S : List Bytes} {s : Bytes} (h : nameOk s = true) : GoodW S s := by
 unfold nameOk at h
 rw [Bool.and_eq_true] at h
 exact Or.inl (by simpa using h.1)
theorem good_dec {S : List Bytes} {n : Nat} (h : n ≤ 1000000) : GoodW S (dec n) := Or.inr (Or.inl (by rw [dec_core (by omega)]))
theorem gKy {S : List Bytes} {w : Bytes} (h : ((coreW w).1 == 1) = true) : GoodW S w := Or.inl (by simpa using h)
theorem good_sym {S : List Bytes} {w : Bytes} (h : S.contains w = true) : GoodW S w := Or.inr (Or.inr (by simpa using h))
def symsN : List Bytes := [[61], [33, 61], [60], [60, 61], [62], [62, 61], [40], [41], [58], [44], [46]]
theorem good_F : ∀ (s : Nat) (t : Tree), t.size ≤ s → okF t = true → ∀ w ∈ wF t, GoodW symsN w
 | 0, t, h, _ => by have := tree_pos t; omega
 | s + 1, .mk op name cmp n ks, hs, hok => by
   rw [okF] at hok
   simp only [Bool.and_eq_true] at hok
   obtain ⟨⟨⟨h1, h2⟩, h3⟩, h4⟩ := hok
   rw [Tree.size] at hs
   have hk := okFs_all h4
   have ih : ∀ b, ∀ a ∈ wFs b ks, ∀ w ∈ a, GoodW symsN w := fun b a ha w hw => by
    rw [wFs_map] at ha
    obtain ⟨k, hm, rfl⟩ := List.mem_map.1 ha
    rcases mem_wrapW hw with rfl | rfl | hw
    · exact good_sym (by decide)
    · exact good_sym (by decide)
    · exact good_F s k (by have := kid_size hm; omega) (hk k hm) w hw
   intro w hw
   rw [wF] at hw
   by_cases o1 : op = 1
   · rw [if_pos o1] at hw; rw [List.mem_singleton.1 hw]; exact gKy (by decide)
   by_cases o2 : op = 2
   · rw [if_neg o1, if_pos o2] at hw; rw [List.mem_singleton.1 hw]; exact gKy (by decide)
   by_cases o3 : op = 3
   · rw [if_neg o1, if_neg o2, if_pos o3] at hw
     rw [if_pos o3] at h1
     rw [if_pos (Or.inl o3)] at h2
     simp only [Bool.and_eq_true, decide_eq_true_eq] at h1
     simp only [List.mem_cons, List.not_mem_nil, or_false] at hw
     rcases hw with rfl | rfl | rfl
     · exact good_name h2
     · have : cmp = 1 ∨ cmp = 2 ∨ cmp = 3 ∨ cmp = 4 ∨ cmp = 5 ∨ cmp = 6 := by omega
       rcases this with rfl | rfl | rfl | rfl | rfl | rfl <;> exact good_sym (by decide)
     · exact good_dec h1.2
   by_cases o4 : op = 4
   · rw [if_neg o1, if_neg o2, if_neg o3, if_pos o4] at hw
     rw [if_pos (Or.inr o4)] at h2
     rw [List.mem_singleton.1 hw]; exact good_name h2
   by_cases o5 : op = 5
   · rw [if_neg o1, if_neg o2, if_neg o3, if_neg o4, if_pos o5] at hw
     rcases List.mem_cons.1 hw with rfl | hw
     · exact gKy (by decide)
     · obtain ⟨a, ha, hw⟩ := List.mem_flatten.1 hw
       exact ih false a ha w hw
   by_cases o6 : op = 6
   · rw [if_neg o1, if_neg o2, if_neg o3, if_neg o4, if_neg o5, if_pos o6] at hw
     rcases mem_sepW hw with rfl | ⟨a, ha, hw⟩
     · exact gKy (by decide)
     · exact ih false a ha w hw
   by_cases o7 : op = 7
   · rw [if_neg o1, if_neg o2, if_neg o3, if_neg o4, if_neg o5, if_neg o6, if_pos o7] at hw
     rcases mem_sepW hw with rfl | ⟨a, ha, hw⟩
     · exact gKy (by decide)
     · exact ih true a ha w hw
   · rw [if_neg o1, if_neg o2, if_neg o3, if_neg o4, if_neg o5, if_neg o6, if_neg o7] at hw
     simp at hw
theorem good_S : ∀ (s : Nat) (t : Tree), t.size ≤ s → okS t = true → ∀ w ∈ wS t, GoodW symsN w
 | 0, t, h, _ => by have := tree_pos t; omega
 | s + 1, .mk op name cmp n ks, hs, hok => by
   rw [okS] at hok
   simp only [Bool.and_eq_true] at hok
   obtain ⟨⟨⟨h1, h2⟩, h3⟩, h4⟩ := hok
   rw [Tree.size] at hs
   have hk := okSs_all h4
   have ih : ∀ b, ∀ a ∈ wSs b ks, ∀ w ∈ a, GoodW symsN w := fun b a ha w hw => by
    rw [wSs_map] at ha
    obtain ⟨k, hm, rfl⟩ := List.mem_map.1 ha
    rcases mem_wrapW hw with rfl | rfl | hw
    · exact good_sym (by decide)
    · exact good_sym (by decide)
    · exact good_S s k (by have := kid_size hm; omega) (hk k hm) w hw
   intro w hw
   rw [wS] at hw
   by_cases o1 : op = 1
   · rw [if_pos o1] at hw; rw [List.mem_singleton.1 hw]; exact gKy (by decide)
   by_cases o2 : op = 2
   · rw [if_neg o1, if_pos o2] at hw; rw [List.mem_singleton.1 hw]; exact gKy (by decide)
   by_cases o3 : op = 3
   · rw [if_neg o1, if_neg o2, if_pos o3] at hw
     have hn0 : n ≤ 1000000 := by have := h1.2; rw [if_pos o3] at this; simpa using this
     simp only [List.mem_cons, List.not_mem_nil, or_false] at hw
     rcases hw with rfl | rfl
     · exact gKy (by decide)
     · exact good_dec hn0
   by_cases o4 : op = 4 ∨ op = 5 ∨ op = 6 ∨ op = 7
   · rw [if_neg o1, if_neg o2, if_neg o3, if_pos o4] at hw
     rw [if_pos o4] at h2
     simp only [List.mem_cons, List.not_mem_nil, or_false] at hw
     rcases hw with rfl | rfl
     · rcases o4 with rfl | rfl | rfl | rfl <;> exact gKy (by decide)
     · exact good_name h2
   by_cases o8 : op = 8
   · rw [if_neg o1, if_neg o2, if_neg o3, if_neg o4, if_pos o8] at hw
     rcases mem_sepW hw with rfl | ⟨a, ha, hw⟩
     · exact gKy (by decide)
     · exact ih false a ha w hw
   by_cases o9 : op = 9
   · rw [if_neg o1, if_neg o2, if_neg o3, if_neg o4, if_neg o8, if_pos o9] at hw
     rcases mem_sepW hw with rfl | ⟨a, ha, hw⟩
     · exact gKy (by decide)
     · exact ih true a ha w hw
   · rw [if_neg o1, if_neg o2, if_neg o3, if_neg o4, if_neg o8, if_neg o9] at hw
     simp at hw
theorem good_part {S : List Bytes} {b : Bool} {k : Bytes} {l : List Bytes} (hk : GoodW S k) (hl : ∀ w ∈ l, GoodW S w) : ∀ w ∈ partW b k l, GoodW S w := by
 unfold partW
 intro w hw
 split at hw
 · rcases List.mem_cons.1 hw with rfl | hw
   · exact hk
   · exact hl w hw
 · simp at hw
theorem good_P {p : Prov} (hp : WriteOk p) : ∀ w ∈ wP p, GoodW symsN w := by
 intro w hw
 unfold wP tail0 tail1 tail2 tail3 at hw
 simp only [List.mem_cons, List.mem_append, List.not_mem_nil, or_false] at hw
 rcases hw with rfl | rfl | rfl | hw | hw | hw | hw | hw | hw | rfl
 · have hr := hp.rank
   have : p.rank = 1 ∨ p.rank = 2 ∨ p.rank = 3 ∨ p.rank = 4 := by omega
   rcases this with h | h | h | h <;> rw [h] <;> exact gKy (by decide)
 · exact good_name hp.id
 · exact good_sym (by decide)
 · unfold kindW at hw
   split at hw
   · simp only [List.mem_cons, List.not_mem_nil, or_false] at hw
     rcases hw with rfl | rfl
     · exact gKy (by decide)
     · exact good_name hp.name
   · simp only [List.mem_cons, List.not_mem_nil, or_false] at hw
     rcases hw with rfl | rfl | rfl | rfl
     · exact gKy (by decide)
     · exact good_name hp.name
     · exact gKy (by decide)
     · exact good_dec hp.value
 · exact good_part (gKy (by decide)) (good_F _ _ (lR _) hp.cond) w hw
 · unfold excW at hw
   split at hw
   · simp at hw
   · rcases List.mem_cons.1 hw with rfl | hw
     · exact gKy (by decide)
     · rcases mem_sepW hw with rfl | ⟨a, ha, hw⟩
       · exact good_sym (by decide)
       · obtain ⟨s, hs, rfl⟩ := List.mem_map.1 ha
         rw [List.mem_singleton.1 hw]
         exact good_name (hp.exc s hs)
 · exact good_part (gKy (by decide)) (good_S _ _ (lR _) hp.beg) w hw
 · exact good_part (gKy (by decide)) (good_S _ _ (lR _) hp.fin) w hw
 · exact good_part (gKy (by decide)) (good_S _ _ (lR _) hp.aga) w hw
 · exact good_sym (by decide)
theorem takeWhile_full {α : Type} {p : α → Bool} : ∀ {l : List α}, (l.takeWhile p).length = l.length → ∀ x ∈ l, p x = true
 | [], _, x, hx => by simp at hx
 | a :: r, h, x, hx => by
   rw [List.takeWhile_cons] at h
   by_cases ha : p a = true
   · rw [if_pos ha] at h
     rcases List.mem_cons.1 hx with rfl | hx
     · exact ha
     · exact takeWhile_full (by simpa using h) x hx
   · rw [if_neg ha] at h; simp at h
theorem word_bytes {w : Bytes} (h : (coreW w).1 = 1 ∨ (coreW w).1 = 2) : w ≠ [] ∧ ∀ b ∈ w, wordB b = true := by
 obtain ⟨c, r, k, v, rfl, hl, hc⟩ := coreW_lex (w := w) (by omega)
 rw [hc] at h
 refine ⟨by simp, ?_⟩
 unfold lexOne at hl
 by_cases h1 : letterB c = true
 · rw [if_pos h1] at hl
   split at hl
   · cases hl
   · injection hl with hl
     simp only [Prod.mk.injEq] at hl
     have := takeWhile_full (p := wordB) (l := r) (by omega)
     intro b hb
     rcases List.mem_cons.1 hb with rfl | hb
     · unfold wordB; rw [h1]; rfl
     · exact this b hb
 · rw [if_neg h1] at hl
   by_cases h2 : digitB c = true
   · rw [if_pos h2] at hl
     split at hl
     · cases hl
     · injection hl with hl
       simp only [Prod.mk.injEq] at hl
       have := takeWhile_full (p := digitB) (l := r) (by omega)
       intro b hb
       rcases List.mem_cons.1 hb with rfl | hb
       · unfold wordB; rw [h2]; simp
       · unfold wordB; rw [this b hb]; simp
   · exfalso
     rw [if_neg h2] at hl
     split at hl
     · injection hl with hl
       simp only [Prod.mk.injEq] at hl
       simp only at h
       omega
     · split at hl
       · split at hl <;> (injection hl with hl; simp only [Prod.mk.injEq] at hl; simp only at h; omega)
       · split at hl
         · split at hl
           · injection hl with hl; simp only [Prod.mk.injEq] at hl; simp only at h; omega
           · cases hl
         · cases hl
theorem wordR_of {o c : List UInt8} (ho : ∀ x ∈ o, wordB x = false) (hc : ∀ x ∈ c, wordB x = false) {w : Bytes} (h : (coreW w).1 = 1 ∨ (coreW w).1 = 2) : WordR o c w := by
 obtain ⟨h1, h2⟩ := word_bytes h
 refine ⟨h1, fun hm => ?_, Or.inr (fun x hx hm => ?_), Or.inr (fun x hx e => ?_)⟩
 · have := h2 32 hm
   revert this; decide
 · have := h2 x hm
   rw [ho x hx] at this
   cases this
 · have := h2 x (List.mem_of_head? e)
   rw [hc x hx] at this
   cases this
abbrev opN : List UInt8 := [40]
abbrev clN : List UInt8 := [58, 44, 46, 41]
theorem lp_lex (r : Bytes) : lexOne 40 r = .ok (3, 1, 0) := by
 unfold lexOne
 rw [if_neg (by decide), if_neg (by decide), if_pos (by decide)]
theorem signsN : Signs (opN.map fun x => [x]) (clN.map fun x => [x]) where
 opn := by
  intro w hw
  simp only [List.map_cons, List.map_nil, List.mem_singleton] at hw
  subst hw
  exact ⟨40, rfl, lp_lex⟩
 cls := by
  intro w hw
  simp only [List.map_cons, List.map_nil, List.mem_cons, List.not_mem_nil, or_false] at hw
  rcases hw with rfl | rfl | rfl | rfl
  · exact ⟨58, rfl, by decide, by decide⟩
  · exact ⟨44, rfl, by decide, by decide⟩
  · exact ⟨46, rfl, by decide, by decide⟩
  · exact ⟨41, rfl, by decide, by decide⟩
theorem symR : ∀ w ∈ symsN, WordR opN clN w ∧ (coreW w).1 ≠ 0 := by
 intro w hw
 unfold symsN at hw
 simp only [List.mem_cons, List.not_mem_nil, or_false] at hw
 rcases hw with rfl | rfl | rfl | rfl | rfl | rfl | rfl | rfl | rfl | rfl | rfl <;> exact ⟨⟨by decide, by decide, by decide, by decide⟩, by decide⟩
theorem goodN {w : Bytes} (h : GoodW symsN w) : WordR opN clN w ∧ (coreW w).1 ≠ 0 := by
 rcases h with h | h | h
 · exact ⟨wordR_of (by decide) (by decide) (Or.inl h), by omega⟩
 · exact ⟨wordR_of (by decide) (by decide) (Or.inr h), by omega⟩
 · exact symR w h
/- the canonical text -/
def textN (p : Prov) : Bytes := glue (opN.map fun x => [x]) (clN.map fun x => [x]) (wP p)
theorem north_text {p : Prov} (hp : WriteOk p) : replF opN clN (joinB (wP p)) = textN p := (repl_glue (by decide) (by decide) (by decide) (wP p) (fun w hw => (goodN (good_P hp w hw)).1)).1
theorem north_lex {p : Prov} (hp : WriteOk p) : (∀ ts, lexF (textN p) = .ok ts → Texts (wP p) ts) ∧ ((∃ ts, lexF (textN p) = .ok ts) ↔ (textN p).length ≤ 20000 ∧ (wP p).length ≤ 5000) ∧ (∀ e, lexF (textN p) = .error e → e.1 = 2) := lexF_glue signsN (fun w hw => (goodN (good_P hp w hw)).2)
/- two provisions with one text are one -/
namespace So
def keyWords : List (List UInt8) := [[119, 104, 101, 114, 101], [116, 101, 114, 109], [113, 117, 101, 115, 116, 105, 111, 110], [103, 105, 118, 101, 115], [111, 118, 101, 114, 114, 105, 100, 101, 115], [115, 116, 97, 114, 116, 115], [101, 110, 100, 115], [114, 101, 116, 117, 114, 110, 115], [99, 104, 97, 114, 116, 101, 114], [115, 116, 97, 116, 117, 116, 101], [111, 114, 100, 101, 114], [114, 117, 108, 101], [121, 101, 115], [110, 111], [101, 113, 117, 97, 108], [117, 110, 108, 105, 107, 101], [98, 101, 108, 111, 119], [109, 111, 115, 116], [97, 98, 111, 118, 101], [108, 101, 97, 115, 116], [100, 101, 102, 105, 110, 101, 100], [110, 101, 103, 97, 116, 101, 100], [97, 108, 108], [97, 110, 121], [97, 108, 119, 97, 121, 115], [110, 101, 118, 101, 114], [100, 97, 121], [100, 101, 99, 114, 101, 101], [101, 118, 101, 110, 116], [98, 101, 103, 117, 110], [111, 118, 101, 114]]
def keyF (s : List UInt8) : Bool := keyWords.contains s
/- is the next token one of these words? -/
/- the number behind all or any: at' begins with this word -/
/- what stands in braces: f - 1 items may still come -/
/- kind, name, value -/
/- Parse: the provision, or an error and its offset -/
end So
end Go.Proofs.YtbicmjmcdnkjhaaGreatDoor
