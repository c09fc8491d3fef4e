/- A provision written in the first language is read again, as tokens. Words put together to a text are its tokens. Blanks taken away behind opening brackets and ahead of closing signs: plain words. -/
import Derived.Test.YtbicmjmcdnkjhaaGreatDoorJNN3
set_option linter.unusedVariables false
set_option linter.unusedSimpArgs false
namespace Go.Proofs.YtbicmjmcdnkjhaaGreatDoor
def ranksN : List Bytes := [[99, 111, 110, 115, 116, 105, 116, 117, 116, 105, 111, 110], [97, 99, 116], [114, 101, 103, 117, 108, 97, 116, 105, 111, 110], [98, 121, 108, 97, 119]]
abbrev wIf : Bytes := [105, 102]
abbrev wNot2 : Bytes := [110, 111, 116, 119, 105, 116, 104, 115, 116, 97, 110, 100, 105, 110, 103]
abbrev wComma : Bytes := [44]
abbrev wFrom : Bytes := [102, 114, 111, 109]
abbrev wUntil : Bytes := [117, 110, 116, 105, 108]
abbrev wAgain : Bytes := [97, 103, 97, 105, 110]
abbrev wDot : Bytes := [46]
def partW (b : Bool) (w : Bytes) (l : List Bytes) : List Bytes := if b then w :: l else []
def excW (exc : List Bytes) : List Bytes := if exc = [] then [] else wNot2 :: sepW wComma (exc.map fun s => [s])
def kindW (p : Prov) : List Bytes := if p.kind = 1 then [[100, 101, 102, 105, 110, 101], p.name] else [[97, 110, 115, 119, 101, 114], p.name, [105, 115], dec p.value]
def tail3 (p : Prov) : List Bytes := partW (p.aga.op != 2) wAgain (wS p.aga) ++ [wDot]
def tail2 (p : Prov) : List Bytes := partW (p.fin.op != 2) wUntil (wS p.fin) ++ tail3 p
def tail1 (p : Prov) : List Bytes := partW (p.beg.op != 1) wFrom (wS p.beg) ++ tail2 p
def tail0 (p : Prov) : List Bytes := excW p.exc ++ tail1 p
def wP (p : Prov) : List Bytes := ranksN.getD (p.rank - 1) [] :: p.id :: [58] :: (kindW p ++ (partW (p.cond.op != 1) wIf (wF p.cond) ++ tail0 p))
def small (t : Tree) : Bool := decide (t.size ≤ 200) && decide (t.deep ≤ 20)
structure WriteOk (p : Prov) : Prop where
 rank : 1 ≤ p.rank ∧ p.rank ≤ 4
 id : nameOk p.id = true
 kind : p.kind = 1 ∧ p.value = 0 ∨ p.kind = 2
 name : nameOk p.name = true
 value : p.value ≤ 1000000
 cond : okF p.cond = true
 condS : small p.cond = true
 exc : ∀ s ∈ p.exc, nameOk s = true
 excN : p.exc.Nodup
 excL : p.exc.length ≤ 20
 beg : okS p.beg = true
 begS : small p.beg = true
 fin : okS p.fin = true
 finS : small p.fin = true
 aga : okS p.aga = true
 agaS : small p.aga = true
theorem NotIn.of {A W : List Bytes} {l : List Tok} (h : Texts W l) (hw : ∀ w r, W = w :: r → w ∉ A) : NotIn A l := by
 intro t r e
 subst e
 unfold Texts at h
 cases W with
 | nil => simp at h
 | cons w W' =>
   simp only [List.map_cons, List.cons.injEq] at h
   rw [core_text h.1]
   exact hw w W' rfl
def heads : List Bytes := [wNot2, wFrom, wUntil, wAgain, wDot]
def HeadIn (W : List Bytes) (H : List Bytes) : Prop := ∀ w r, W = w :: r → w ∈ H
theorem HeadIn.part {b : Bool} {w : Bytes} {l T H : List Bytes} (hw : w ∈ H) (hT : HeadIn T H) : HeadIn (partW b w l ++ T) H := by
 unfold partW
 split
 · intro w' r e
   simp only [List.cons_append, List.cons.injEq] at e
   rw [← e.1]; exact hw
 · simpa using hT
theorem head3 (p : Prov) : HeadIn (tail3 p) [wAgain, wDot] := HeadIn.part (by simp) (fun w r e => by simp at e; simp [← e.1])
theorem HeadIn.sub {W H K : List Bytes} (h : HeadIn W H) (hs : ∀ x ∈ H, x ∈ K) : HeadIn W K := fun w r e => hs _ (h w r e)
theorem head2 (p : Prov) : HeadIn (tail2 p) [wUntil, wAgain, wDot] := HeadIn.part (by simp) ((head3 p).sub (fun x hx => List.mem_cons_of_mem _ hx))
theorem head1 (p : Prov) : HeadIn (tail1 p) [wFrom, wUntil, wAgain, wDot] := HeadIn.part (by simp) ((head2 p).sub (fun x hx => List.mem_cons_of_mem _ hx))
theorem head0 (p : Prov) : HeadIn (tail0 p) heads := by
 unfold tail0 excW
 split
 · exact (head1 p).sub (fun x hx => List.mem_cons_of_mem _ hx)
 · intro w r e
   simp only [List.cons_append, List.cons.injEq] at e
   rw [← e.1]; simp [heads]
theorem HeadIn.notIn {W H A : List Bytes} {l : List Tok} (h : HeadIn W H) (ht : Texts W l) (hd : ∀ w ∈ H, w ∉ A) : NotIn A l := NotIn.of ht (fun w r e => hd w (h w r e))
theorem bound_ok {x : Tree} (h : small x = true) : boundC x = 0 := by
 unfold small at h
 rw [Bool.and_eq_true] at h
 simp only [decide_eq_true_eq] at h
 unfold boundC
 rw [if_neg (by omega)]
theorem absS {t : Tree} {o : Nat} (h : okS t = true) (ho : (t.op != o) = false) (h12 : o = 1 ∨ o = 2) : t = .mk o [] 0 0 [] := by
 cases t with
 | mk op name cmp n ks =>
   have e : op = o := by simpa using ho
   subst e
   rw [okS] at h
   simp only [Bool.and_eq_true] at h
   obtain ⟨⟨⟨⟨h0, h1⟩, h2⟩, h3⟩, h4⟩ := h
   rw [if_neg (by omega)] at h1 h2
   rcases opS h3 with ⟨h5, _⟩ | ⟨_, h5⟩
   · omega
   · simp only [decide_eq_true_eq] at h0 h1 h2
     rw [h0, h1, h2, List.length_eq_zero_iff.1 h5]
theorem absF {t : Tree} (h : okF t = true) (ho : (t.op != 1) = false) : t = .mk 1 [] 0 0 [] := by
 cases t with
 | mk op name cmp n ks =>
   have e : op = 1 := by simpa using ho
   subst e
   rw [okF] at h
   simp only [Bool.and_eq_true] at h
   obtain ⟨⟨⟨h1, h2⟩, h3⟩, h4⟩ := h
   rw [if_neg (by decide)] at h1 h2
   rw [if_pos (by decide)] at h3
   simp only [Bool.and_eq_true, decide_eq_true_eq] at h1 h2 h3
   rw [h1.1, h1.2, h2, List.length_eq_zero_iff.1 h3]
theorem when_ok {t : Tree} {o n : Nat} {w : Bytes} {T : List Bytes} {H : List Bytes} {l : List Tok} (hw : WordK w) (h12 : o = 1 ∨ o = 2) (hok : okS t = true) (hsm : small t = true) (hT : HeadIn T H) (hH : ∀ x ∈ H, x ∉ [w, wOr, wAnd]) (hl : Texts (partW (t.op != o) w (wS t) ++ T) l) (hn : l.length < n) :
 ∃ r, whenF n w o l = .ok (t, r) ∧ Texts T r ∧ r.length ≤ l.length := by
 unfold whenF
 cases hp : (t.op != o) with
 | false =>
   rw [hp] at hl
   simp only [partW, Bool.false_eq_true, if_false, List.nil_append] at hl
   refine ⟨l, ?_, hl, Nat.le_refl _⟩
   simp only [optF]
   rw [take_rest (hT.notIn hl hH) (by simp)]
   rw [absS hok hp h12]
 | true =>
   rw [hp] at hl
   simp only [partW, if_true, List.cons_append] at hl
   obtain ⟨t0, l1, rfl, h0, hl1⟩ := hl.cons
   obtain ⟨l2, r, rfl, h2, h3⟩ := hl1.app
   have hc := (forms_S t.size t (Nat.le_refl _) hok).2.2 n l2 r h2 (hT.notIn h3 (fun x hx h => hH x hx (List.mem_cons_of_mem _ h))) (by simp at hn ⊢; omega)
   refine ⟨r, ?_, h3, by simp; omega⟩
   simp only [optF]
   rw [take_hit h0 hw (i := 0) (by simp [List.idxOf?, List.findIdx?_cons])]
   simp only [boundedF]
   rw [hc]
   simp only [bindR, guardR]
   rw [bound_ok hsm, if_pos rfl]
theorem if_ok {t : Tree} {n : Nat} {T H : List Bytes} {l : List Tok} (hok : okF t = true) (hsm : small t = true) (hT : HeadIn T H) (hH : ∀ x ∈ H, x ∉ wIf :: wOr :: wAnd :: fA) (hl : Texts (partW (t.op != 1) wIf (wF t) ++ T) l) (hn : l.length < n) :
 ∃ r, ifF n l = .ok (t, r) ∧ Texts T r ∧ r.length ≤ l.length := by
 unfold ifF
 cases hp : (t.op != 1) with
 | false =>
   rw [hp] at hl
   simp only [partW, Bool.false_eq_true, if_false, List.nil_append] at hl
   refine ⟨l, ?_, hl, Nat.le_refl _⟩
   simp only [optF]
   rw [take_rest (hT.notIn hl hH) (by simp)]
   rw [absF hok hp]
 | true =>
   rw [hp] at hl
   simp only [partW, if_true, List.cons_append] at hl
   obtain ⟨t0, l1, rfl, h0, hl1⟩ := hl.cons
   obtain ⟨l2, r, rfl, h2, h3⟩ := hl1.app
   have hc := (forms_F t.size t (Nat.le_refl _) hok).2.2 n l2 r h2 (hT.notIn h3 (fun x hx h => hH x hx (List.mem_cons_of_mem _ h))) (by simp at hn ⊢; omega)
   refine ⟨r, ?_, h3, by simp; omega⟩
   simp only [optF]
   rw [take_hit h0 (wordK_const (by decide)) (i := 0) (by decide)]
   simp only [boundedF]
   rw [hc]
   simp only [bindR, guardR]
   rw [bound_ok hsm, if_pos rfl]
theorem except_ok : ∀ (xs : List Bytes) (n : Nat) (out : List Bytes) (T : List Bytes) (l : List Tok), xs ≠ [] → xs.length ≤ n → (∀ s ∈ xs, nameOk s = true) → (out ++ xs).Nodup → (out ++ xs).length ≤ 20 → (∀ w r, T = w :: r → w ∉ [wComma]) → Texts (sepW wComma (xs.map fun s => [s]) ++ T) l →
 ∃ r, exceptF n out l = .ok (out ++ xs, r) ∧ Texts T r ∧ r.length ≤ l.length
 | [], _, _, _, _, h, _, _, _, _, _, _ => absurd rfl h
 | x :: xs, 0, _, _, _, _, hn, _, _, _, _, _ => by simp at hn
 | [x], n + 1, out, T, l, _, _, hok, hnd, hlen, hT, hl => by
   obtain ⟨t0, r, rfl, h0, h1⟩ := Texts.cons (w := x) (W := T) hl
   refine ⟨r, ?_, h1, by simp⟩
   unfold exceptF
   rw [name_hit (hok x (by simp)) h0]
   have hx : x ∉ out := by
    have := (List.nodup_append.1 hnd).2.2
    exact fun hm => this x hm x (by simp) rfl
   have he : excC out x = 0 := by
    unfold excC
    rw [if_neg (by simpa using hx), if_neg (by simp at hlen; omega)]
   simp only [bindR, guardR, he, if_true, optF]
   rw [take_rest (NotIn.of h1 hT) (by simp)]
 | x :: y :: xs, n + 1, out, T, l, _, hn, hok, hnd, hlen, hT, hl => by
   obtain ⟨t0, l1, rfl, h0, h1⟩ := Texts.cons (w := x) (W := wComma :: (sepW wComma ((y :: xs).map fun s => [s]) ++ T)) hl
   obtain ⟨t1, l2, rfl, h2, h3⟩ := h1.cons
   have e : out ++ x :: y :: xs = (out ++ [x]) ++ y :: xs := by simp
   rw [e] at hnd hlen ⊢
   obtain ⟨r, hr, hr2, hr3⟩ := except_ok (y :: xs) n (out ++ [x]) T l2 (by simp) (by simp at hn ⊢; omega) (fun s hs => hok s (by simp at hs ⊢; right; exact hs)) hnd hlen hT h3
   refine ⟨r, ?_, hr2, by simp; omega⟩
   unfold exceptF
   rw [name_hit (hok x (by simp)) h0]
   have hx : x ∉ out := by
    have := (List.nodup_append.1 ((List.nodup_append.1 hnd).1)).2.2
    exact fun hm => this x hm x (by simp) rfl
   have he : excC out x = 0 := by
    unfold excC
    rw [if_neg (by simpa using hx), if_neg (by simp at hlen; omega)]
   simp only [bindR, guardR, he, if_true, optF]
   rw [take_hit h2 (wordK_const (by decide)) (i := 0) (by decide)]
   exact hr
theorem exc_ok {p : Prov} (hp : WriteOk p) {l : List Tok} (hl : Texts (tail0 p) l) : ∃ r, excF l = .ok (p.exc, r) ∧ Texts (tail1 p) r ∧ r.length ≤ l.length := by
 unfold excF
 unfold tail0 excW at hl
 by_cases he : p.exc = []
 · rw [if_pos he] at hl
   simp only [List.nil_append] at hl
   refine ⟨l, ?_, hl, Nat.le_refl _⟩
   simp only [optF]
   rw [take_rest (A := [wNot2]) ((head1 p).notIn hl (by decide)) (by simp)]
   rw [he]
 · rw [if_neg he] at hl
   obtain ⟨t0, l1, rfl, h0, h1⟩ := Texts.cons (w := wNot2) hl
   obtain ⟨r, h2, h3, h4⟩ := except_ok p.exc 22 [] (tail1 p) l1 he (by have := hp.excL; omega) hp.exc (by simpa using hp.excN) (by simpa using hp.excL) (fun w r e => by
    have := head1 p w r e
    revert this
    intro hm
    simp only [List.mem_cons, List.not_mem_nil, or_false] at hm
    rcases hm with rfl | rfl | rfl | rfl <;> decide) h1
   refine ⟨r, ?_, h3, by simp; omega⟩
   simp only [optF]
   rw [take_hit h0 (wordK_const (by decide)) (i := 0) (by decide)]
   simpa using h2
theorem rank_hit {k : Nat} (h : 1 ≤ k ∧ k ≤ 4) : WordK (ranksN.getD (k - 1) []) ∧ ranksN.idxOf? (ranksN.getD (k - 1) []) = some (k - 1) := by
 have : k = 1 ∨ k = 2 ∨ k = 3 ∨ k = 4 := by omega
 rcases this with rfl | rfl | rfl | rfl <;> exact ⟨wordK_const (by decide), by decide⟩
theorem kind_ok {p : Prov} (hp : WriteOk p) {T : List Bytes} {l : List Tok} (hl : Texts (kindW p ++ T) l) : ∃ r, kindF l = .ok ((p.kind, p.name, p.value), r) ∧ Texts T r ∧ r.length ≤ l.length := by
 unfold kindF
 unfold kindW at hl
 rcases hp.kind with ⟨h1, h2⟩ | h1
 · rw [if_pos h1] at hl
   obtain ⟨t0, l1, rfl, h3, hl1⟩ := Texts.cons (w := [100, 101, 102, 105, 110, 101]) hl
   obtain ⟨t1, l2, rfl, h4, hl2⟩ := Texts.cons (w := p.name) (W := T) hl1
   refine ⟨l2, ?_, hl2, by simp; omega⟩
   simp only [mustF, optF]
   rw [take_hit h3 (wordK_const (by decide)) (i := 0) (by decide)]
   simp only [bindR]
   rw [name_hit hp.name h4, h1, h2]
 · rw [if_neg (by omega)] at hl
   obtain ⟨t0, l1, rfl, h3, hl1⟩ := Texts.cons (w := [97, 110, 115, 119, 101, 114]) hl
   obtain ⟨t1, l2, rfl, h4, hl2⟩ := Texts.cons (w := p.name) hl1
   obtain ⟨t2, l3, rfl, h5, hl3⟩ := Texts.cons (w := [105, 115]) hl2
   obtain ⟨t3, l4, rfl, h6, hl4⟩ := Texts.cons (w := dec p.value) (W := T) hl3
   refine ⟨l4, ?_, hl4, by simp; omega⟩
   simp only [mustF, optF]
   rw [take_hit h3 (wordK_const (by decide)) (i := 1) (by decide)]
   simp only [bindR]
   rw [name_hit hp.name h4]
   simp only []
   rw [take_hit h5 (wordK_const (by decide)) (i := 0) (by decide)]
   simp only []
   rw [number_hit (by have := hp.value; omega) hp.value h6, h1]
theorem prov_ok {p : Prov} (hp : WriteOk p) {l : List Tok} {n : Nat} (hl : Texts (wP p) l) (hn : l.length < n) : provF n l = .ok (p, []) := by
 unfold wP at hl
 obtain ⟨t0, l1, rfl, h0, hl1⟩ := hl.cons
 obtain ⟨t1, l2, rfl, h1, hl2⟩ := hl1.cons
 obtain ⟨t2, l3, rfl, h2, hl3⟩ := hl2.cons
 simp only [List.length_cons] at hn
 obtain ⟨l4, k4, hl4, n4⟩ := kind_ok hp hl3
 obtain ⟨l5, k5, hl5, n5⟩ := if_ok (n := n) hp.cond hp.condS (head0 p) (by decide) hl4 (by omega)
 obtain ⟨l6, k6, hl6, n6⟩ := exc_ok hp hl5
 obtain ⟨l7, k7, hl7, n7⟩ := when_ok (n := n) (w := wFrom) (o := 1) (wordK_const (by decide)) (Or.inl rfl) hp.beg hp.begS (head2 p) (by decide) hl6 (by omega)
 obtain ⟨l8, k8, hl8, n8⟩ := when_ok (n := n) (w := wUntil) (o := 2) (wordK_const (by decide)) (Or.inr rfl) hp.fin hp.finS (head3 p) (by decide) hl7 (by omega)
 obtain ⟨l9, k9, hl9, n9⟩ := when_ok (n := n) (w := wAgain) (o := 2) (T := [wDot]) (H := [wDot]) (wordK_const (by decide)) (Or.inr rfl) hp.aga hp.agaS (fun w r e => by simp at e; simp [← e.1]) (by decide) hl8 (by omega)
 obtain ⟨t9, l10, rfl, h9, hl10⟩ := hl9.cons
 obtain rfl := hl10.nil
 obtain ⟨g1, g2⟩ := rank_hit hp.rank
 unfold provF bodyF
 simp only [mustF, optF]
 rw [take_hit (ws := [[99, 111, 110, 115, 116, 105, 116, 117, 116, 105, 111, 110], [97, 99, 116], [114, 101, 103, 117, 108, 97, 116, 105, 111, 110], [98, 121, 108, 97, 119]]) h0 g1 g2]
 simp only [bindR]
 rw [name_hit hp.id h1]
 simp only []
 rw [take_hit h2 (wordK_const (by decide)) (i := 0) (by decide)]
 simp only []
 rw [k4]
 simp only []
 rw [k5]
 simp only []
 rw [k6]
 simp only []
 rw [k7]
 simp only []
 rw [k8]
 simp only []
 rw [k9]
 simp only []
 rw [take_hit h9 (wordK_const (by decide)) (i := 0) (by decide)]
 simp only []
 rw [show 1 + (p.rank - 1) = p.rank by have := hp.rank; omega]
end Go.Proofs.YtbicmjmcdnkjhaaGreatDoor
namespace Go.Proofs.YtbicmjmcdnkjhaaGreatDoor
/- brackets that open, signs that close: no blank behind the one, none ahead of the other -/
def tightW (op cl : List Bytes) (w w' : Bytes) : Bool := op.contains w || cl.contains w'
def glue (op cl : List Bytes) : List Bytes → Bytes
 | [] => []
 | [w] => w
 | w :: w' :: r => w ++ ((if tightW op cl w w' then [] else [32]) ++ glue op cl (w' :: r))
theorem coreW_lex {w : Bytes} (h : (coreW w).1 ≠ 0) : ∃ c r k v, w = c :: r ∧ lexOne c r = .ok (k, r.length + 1, v) ∧ coreW w = (k, w, v) := by
 unfold coreW at *
 cases w with
 | nil => simp at h
 | cons c r =>
   simp only at h ⊢
   cases hl : lexOne c r with
   | error e => rw [hl] at h; simp at h
   | ok x =>
     obtain ⟨k, m, v⟩ := x
     rw [hl] at h
     simp only at h ⊢
     by_cases hm : m = r.length + 1
     · rw [if_pos hm] at h ⊢
       exact ⟨c, r, k, v, rfl, by rw [hl, hm], rfl⟩
     · rw [if_neg hm] at h; simp at h
theorem lexOne_start {c : UInt8} {r : Bytes} {x : Nat × Nat × Nat} (h : lexOne c r = .ok x) : blankB c = false ∧ c ≠ 35 := by
 constructor
 · cases hb : blankB c with
   | false => rfl
   | true =>
     have hc : c = 32 ∨ c = 9 ∨ c = 10 := by
      unfold blankB at hb
      simp only [Bool.or_eq_true, beq_iff_eq] at hb
      rcases hb with (hb | hb) | hb
      · exact Or.inl hb
      · exact Or.inr (Or.inl hb)
      · exact Or.inr (Or.inr hb)
     rcases hc with rfl | rfl | rfl <;> (unfold lexOne at h; simp [letterB, digitB, symB, preB] at h)
 · rintro rfl
   unfold lexOne at h
   simp [letterB, digitB, symB, preB] at h
/- an opening bracket is a token whatever follows; a closing sign ends the word ahead of it -/
structure Signs (op cl : List Bytes) : Prop where
 opn : ∀ w ∈ op, ∃ c, w = [c] ∧ ∀ r, lexOne c r = .ok (3, 1, 0)
 cls : ∀ w ∈ cl, ∃ c, w = [c] ∧ wordB c = false ∧ c ≠ 61
theorem glue_head {op cl : List Bytes} {c : UInt8} {r : Bytes} (W : List Bytes) : ∃ b, glue op cl ((c :: r) :: W) = c :: b := by
 cases W with
 | nil => exact ⟨r, rfl⟩
 | cons w W => exact ⟨r ++ ((if tightW op cl (c :: r) w then [] else [32]) ++ glue op cl (w :: W)), rfl⟩
theorem sc_glue {op cl : List Bytes} (hs : Signs op cl) : ∀ (W : List Bytes) (p : Nat), (∀ w ∈ W, (coreW w).1 ≠ 0) → (sc (glue op cl W) p).1.map core = W.map coreW ∧ (sc (glue op cl W) p).2 = none
 | [], p, _ => ⟨rfl, rfl⟩
 | [w], p, h => by
   obtain ⟨c, r, k, v, rfl, hl, hc⟩ := coreW_lex (h w (by simp))
   obtain ⟨h1, h2⟩ := lexOne_start hl
   rw [show glue op cl [c :: r] = c :: r from rfl, sc_tok p h1 h2 hl]
   have e1 : (c :: r).take (r.length + 1) = c :: r := List.take_length (l := c :: r)
   have e2 : r.drop (r.length + 1 - 1) = [] := by rw [Nat.add_sub_cancel]; exact List.drop_length
   rw [e1, e2]
   simp only [sc_nil, List.map_cons, List.map_nil, hc]
   exact ⟨rfl, trivial⟩
 | w :: w' :: W, p, h => by
   obtain ⟨c, r, k, v, rfl, hl, hc⟩ := coreW_lex (h w (by simp))
   obtain ⟨c', r', k', v', rfl, hl', hc'⟩ := coreW_lex (h w' (by simp))
   obtain ⟨h1, h2⟩ := lexOne_start hl
   obtain ⟨b, hb⟩ := glue_head (op := op) (cl := cl) (c := c') (r := r') W
   have ih := fun q => sc_glue hs ((c' :: r') :: W) q (fun x hx => h x (by simp at hx ⊢; right; exact hx))
   rw [show glue op cl ((c :: r) :: (c' :: r') :: W) = c :: (r ++ ((if tightW op cl (c :: r) (c' :: r') then [] else [32]) ++ glue op cl ((c' :: r') :: W))) from rfl]
   have hstep : ∀ rest : Bytes, lexOne c (r ++ rest) = .ok (k, r.length + 1, v) → (sc (c :: (r ++ rest)) p).1.map core = coreW (c :: r) :: (sc rest (p + (r.length + 1))).1.map core ∧ (sc (c :: (r ++ rest)) p).2 = (sc rest (p + (r.length + 1))).2 := by
    intro rest hx
    rw [sc_tok p h1 h2 hx]
    have e1 : (c :: (r ++ rest)).take (r.length + 1) = c :: r := by simp
    have e2 : (r ++ rest).drop (r.length + 1 - 1) = rest := by rw [Nat.add_sub_cancel]; simp
    rw [e1, e2, hc]
    exact ⟨rfl, rfl⟩
   cases ht : tightW op cl (c :: r) (c' :: r') with
   | true =>
     simp only [if_true, List.nil_append]
     have hx : lexOne c (r ++ glue op cl ((c' :: r') :: W)) = .ok (k, r.length + 1, v) := by
      unfold tightW at ht
      rw [Bool.or_eq_true] at ht
      rcases ht with ht | ht
      · obtain ⟨c0, e, hc0⟩ := hs.opn _ (by simpa using ht)
        cases e
        have := hc0 []
        rw [hl] at this
        rw [List.nil_append, hc0]
        exact this.symm
      · obtain ⟨c0, e, hc0, h61⟩ := hs.cls _ (by simpa using ht)
        cases e
        rw [hb, lexOne_sep r b hc0 h61]
        exact hl
     obtain ⟨a1, a2⟩ := hstep _ hx
     obtain ⟨b1, b2⟩ := ih (p + (r.length + 1))
     exact ⟨by rw [a1, b1]; rfl, by rw [a2, b2]⟩
   | false =>
     simp only [Bool.false_eq_true, if_false, List.cons_append, List.nil_append]
     have hx : lexOne c (r ++ 32 :: glue op cl ((c' :: r') :: W)) = .ok (k, r.length + 1, v) := by
      rw [lexOne_sep r _ (by decide) (by decide)]
      exact hl
     obtain ⟨a1, a2⟩ := hstep _ hx
     rw [sc_blank (c := 32) (glue op cl ((c' :: r') :: W)) (p + (r.length + 1)) (by decide)] at a1 a2
     obtain ⟨b1, b2⟩ := ih (p + (r.length + 1) + 1)
     exact ⟨by rw [a1, b1]; rfl, by rw [a2, b2]⟩
theorem lexF_glue {op cl : List Bytes} (hs : Signs op cl) {W : List Bytes} (hW : ∀ w ∈ W, (coreW w).1 ≠ 0) :
 (∀ ts, lexF (glue op cl W) = .ok ts → Texts W ts) ∧ ((∃ ts, lexF (glue op cl W) = .ok ts) ↔ (glue op cl W).length ≤ 20000 ∧ W.length ≤ 5000) ∧ (∀ e, lexF (glue op cl W) = .error e → e.1 = 2) := by
 obtain ⟨h1, h2⟩ := sc_glue hs W 0 hW
 have hl : (sc (glue op cl W) 0).1.length = W.length := by
  have := congrArg List.length h1
  simpa using this
 refine ⟨fun ts ht => ?_, ⟨fun ⟨ts, ht⟩ => ?_, fun ⟨ha, hb⟩ => ?_⟩, fun e he => ?_⟩
 · have := (lexF_ok ht).1
   unfold Texts
   rw [this] at h1
   exact h1
 · obtain ⟨a, b, c⟩ := lexF_ok ht
   have hl2 : ts.length = W.length := by rw [a] at hl; exact hl
   exact ⟨c, by omega⟩
 · exact ⟨_, lexF_mk (ts := (sc (glue op cl W) 0).1) (by rw [← h2]) (by omega) ha⟩
 · unfold lexF at he
   split at he
   · injection he with he; rw [← he]
   · split at he
     · injection he with he; rw [← he]
     · have : (scan (glue op cl W).length (glue op cl W) 0).2 = none := h2
       rw [this] at he
       cases he
end Go.Proofs.YtbicmjmcdnkjhaaGreatDoor
namespace Go.Proofs.YtbicmjmcdnkjhaaGreatDoor
/- what the replacer does: o: the bytes that open, c: the bytes that close -/
def replF (o c : List UInt8) : Bytes → Bytes
 | [] => []
 | [x] => [x]
 | x :: y :: r => if x = 32 ∧ y ∈ c then y :: replF o c r else if x ∈ o ∧ y = 32 then x :: replF o c r else x :: replF o c (y :: r)
def joinB : List Bytes → Bytes
 | [] => []
 | [w] => w
 | w :: w' :: r => w ++ 32 :: joinB (w' :: r)
/- a word as they stand in a text: no blank in it; an opening bracket or a closing sign stands alone -/
structure WordR (o c : List UInt8) (w : Bytes) : Prop where
 ne : w ≠ []
 blank : 32 ∉ w
 opn : (∃ x ∈ o, w = [x]) ∨ ∀ x ∈ o, x ∉ w
 cls : (∃ x ∈ c, w = [x]) ∨ ∀ x ∈ c, w.head? ≠ some x
theorem replF_word (o c : List UInt8) (h32 : 32 ∉ o) : ∀ (w rest : Bytes), w ≠ [] → 32 ∉ w → (∀ x ∈ o, x ∉ w) → replF o c (w ++ 32 :: rest) = w ++ replF o c (32 :: rest)
 | [], rest, h, _, _ => absurd rfl h
 | [x], rest, _, hb, ho => by
   simp only [List.cons_append, List.nil_append]
   rw [replF]
   rw [if_neg (fun h => hb (by rw [← h.1]; simp)), if_neg (fun h => ho x h.1 (by simp))]
 | x :: y :: r, rest, _, hb, ho => by
   simp only [List.cons_append]
   rw [replF]
   rw [if_neg (fun h => hb (by rw [← h.1]; simp)), if_neg (fun h => ho x h.1 (by simp))]
   have := replF_word o c h32 (y :: r) rest (by simp) (fun h => hb (by simp at h ⊢; right; exact h)) (fun z hz h => ho z hz (by simp at h ⊢; right; exact h))
   exact congrArg (x :: ·) this
theorem replF_end (o c : List UInt8) : ∀ (w : Bytes), 32 ∉ w → replF o c w = w
 | [], _ => rfl
 | [x], _ => rfl
 | x :: y :: r, hb => by
   rw [replF]
   rw [if_neg (fun h => hb (by rw [← h.1]; simp)), if_neg (fun h => hb (by rw [← h.2]; simp))]
   rw [replF_end o c (y :: r) (fun h => hb (by simp at h ⊢; right; exact h))]
theorem joinB_head {c : UInt8} {r : Bytes} (W : List Bytes) : ∃ b, joinB ((c :: r) :: W) = c :: b := by
 cases W with
 | nil => exact ⟨r, rfl⟩
 | cons w W => exact ⟨r ++ 32 :: joinB (w :: W), rfl⟩
theorem repl_glue {o c : List UInt8} (ho : 32 ∉ o) (hc : 32 ∉ c) (hoc : ∀ x ∈ o, x ∉ c) : ∀ (W : List Bytes), (∀ w ∈ W, WordR o c w) → replF o c (joinB W) = glue (o.map fun x => [x]) (c.map fun x => [x]) W ∧ ∀ x r, W = [x] :: r → x ∈ c → ∃ b, joinB W = x :: b ∧ glue (o.map fun x => [x]) (c.map fun x => [x]) W = x :: replF o c b
 | [], _ => ⟨rfl, fun x r e => by simp at e⟩
 | [w], h => by
   refine ⟨replF_end o c w (h w (by simp)).blank, fun x r e hx => ?_⟩
   cases e
   exact ⟨[], rfl, rfl⟩
 | w :: w' :: W, h => by
   have hw := h w (by simp)
   have hw' := h w' (by simp)
   obtain ⟨i1, i2⟩ := repl_glue ho hc hoc (w' :: W) (fun x hx => h x (by simp at hx ⊢; right; exact hx))
   rw [show joinB (w :: w' :: W) = w ++ 32 :: joinB (w' :: W) from rfl]
   rw [show glue (o.map fun x => [x]) (c.map fun x => [x]) (w :: w' :: W) = w ++ ((if tightW (o.map fun x => [x]) (c.map fun x => [x]) w w' then [] else [32]) ++ glue (o.map fun x => [x]) (c.map fun x => [x]) (w' :: W)) from rfl]
   obtain ⟨c', r', rfl⟩ : ∃ c' r', w' = c' :: r' := by
    cases w' with
    | nil => exact absurd rfl hw'.ne
    | cons a b => exact ⟨a, b, rfl⟩
   have hc32 : c' ≠ 32 := fun e => hw'.blank (by rw [e]; simp)
   -- behind the word, its blank
   have hblank : replF o c (32 :: joinB ((c' :: r') :: W)) = (if (c.map fun x => [x]).contains (c' :: r') then [] else [32]) ++ glue (o.map fun x => [x]) (c.map fun x => [x]) ((c' :: r') :: W) := by
    obtain ⟨b, hb⟩ := joinB_head (c := c') (r := r') W
    cases hcl : (c.map fun x => [x]).contains (c' :: r') with
    | true =>
      simp only [if_true, List.nil_append]
      have : ∃ x ∈ c, [x] = c' :: r' := by simpa using hcl
      obtain ⟨x, hx, e⟩ := this
      cases e
      obtain ⟨b2, e1, e2⟩ := i2 c' W rfl hx
      rw [e1, e2, replF, if_pos ⟨rfl, hx⟩]
    | false =>
      simp only [Bool.false_eq_true, if_false, List.cons_append, List.nil_append]
      rw [← i1, hb]
      rw [replF]
      have hn : c' ∉ c := by
       rcases hw'.cls with ⟨x, hx, e⟩ | hh
       · exfalso
         have : ¬ ∃ x ∈ c, [x] = c' :: r' := by
          intro hex
          have h1 : (c.map fun x => [x]).contains (c' :: r') = true := by simpa using hex
          rw [hcl] at h1
          cases h1
         exact this ⟨x, hx, e.symm⟩
       · exact fun hm => hh c' hm rfl
      rw [if_neg (fun h => hn h.2), if_neg (fun h => ho h.1)]
   rcases hw.opn with ⟨x, hx, rfl⟩ | hno
   · have hx32 : x ≠ 32 := fun e => ho (e ▸ hx)
     have ht : tightW (o.map fun x => [x]) (c.map fun x => [x]) [x] (c' :: r') = true := by
      unfold tightW
      rw [Bool.or_eq_true]
      exact Or.inl (by simpa using hx)
     have hstep : replF o c (x :: 32 :: joinB ((c' :: r') :: W)) = x :: replF o c (joinB ((c' :: r') :: W)) := by
      rw [replF, if_neg (fun h => hx32 h.1), if_pos ⟨hx, rfl⟩]
     rw [ht]
     simp only [if_true, List.nil_append, List.cons_append]
     refine ⟨by rw [hstep, i1], fun y r e hy => ?_⟩
     cases e
     refine ⟨_, rfl, ?_⟩
     -- an opening bracket that closes, too
     exact absurd hy (hoc x hx)
   · have hstep := replF_word o c ho w (joinB ((c' :: r') :: W)) hw.ne hw.blank hno
     have htt : tightW (o.map fun x => [x]) (c.map fun x => [x]) w (c' :: r') = (c.map fun x => [x]).contains (c' :: r') := by
      unfold tightW
      have : (o.map fun x => [x]).contains w = false := by
       cases hb : (o.map fun x => [x]).contains w with
       | false => rfl
       | true =>
         have : ∃ x ∈ o, [x] = w := by simpa using hb
         obtain ⟨x, hx, e⟩ := this
         exact absurd (by rw [← e]; simp) (hno x hx)
      rw [this, Bool.false_or]
     rw [htt, hstep, hblank]
     refine ⟨rfl, fun y r e hy => ?_⟩
     cases e
     refine ⟨32 :: joinB ((c' :: r') :: W), rfl, ?_⟩
     rw [hblank]
     rfl
end Go.Proofs.YtbicmjmcdnkjhaaGreatDoor
