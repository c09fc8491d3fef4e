/- Texts put together bit by bit; their tokens counted: plain words. The reference's text in the first language, bit by bit: the same one. -/
import Derived.Test.YtbicmjmcdnkjhaaGreatDoorJMM4
import Derived.Test.YtbicmjmcdnkjhaaGreatDoorJMM1
set_option linter.unusedVariables false
set_option linter.unusedSimpArgs false
namespace Go.Proofs.YtbicmjmcdnkjhaaGreatDoor
/- a run of words that no bracket and no closing sign touches at its ends -/
def Fit (op cl : List Bytes) (W : List Bytes) : Prop := (∃ a r, W = a :: r ∧ a ∉ cl) ∧ ∃ i z, W = i ++ [z] ∧ z ∉ op
theorem Fit.app {op cl : List Bytes} {A B : List Bytes} (hA : Fit op cl A) (hB : Fit op cl B) : Fit op cl (A ++ B) := by
 obtain ⟨⟨a, r, rfl, ha⟩, -⟩ := hA
 obtain ⟨-, i, z, rfl, hz⟩ := hB
 exact ⟨⟨a, r ++ (i ++ [z]), rfl, ha⟩, (a :: r) ++ i, z, by simp, hz⟩
theorem Fit.one {op cl : List Bytes} {w : Bytes} (h1 : w ∉ cl) (h2 : w ∉ op) : Fit op cl [w] := ⟨⟨w, [], rfl, h1⟩, [], w, rfl, h2⟩
theorem glue_snoc (op cl : List Bytes) : ∀ (i : List Bytes) (z b : Bytes) (r : List Bytes), glue op cl (i ++ z :: b :: r) = glue op cl (i ++ [z]) ++ ((if tightW op cl z b then [] else [32]) ++ glue op cl (b :: r))
 | [], z, b, r => rfl
 | [x], z, b, r => by
   show x ++ ((if tightW op cl x z then [] else [32]) ++ (z ++ ((if tightW op cl z b then [] else [32]) ++ glue op cl (b :: r)))) = x ++ ((if tightW op cl x z then [] else [32]) ++ z) ++ _
   simp only [List.append_assoc]
 | x :: y :: i, z, b, r => by
   have := glue_snoc op cl (y :: i) z b r
   simp only [List.cons_append, glue] at this ⊢
   rw [this]
   simp only [List.append_assoc]
theorem tight_no {op cl : List Bytes} {z b : Bytes} (h1 : z ∉ op) (h2 : b ∉ cl) : tightW op cl z b = false := by
 unfold tightW
 rw [Bool.or_eq_false_iff]
 exact ⟨by simpa using h1, by simpa using h2⟩
theorem glue_sp {op cl : List Bytes} {A B : List Bytes} (hA : ∃ i z, A = i ++ [z] ∧ z ∉ op) (hB : ∃ b r, B = b :: r ∧ b ∉ cl) : glue op cl (A ++ B) = glue op cl A ++ 32 :: glue op cl B := by
 obtain ⟨i, z, rfl, hz⟩ := hA
 obtain ⟨b, r, rfl, hb⟩ := hB
 rw [List.append_assoc, List.singleton_append, glue_snoc, tight_no hz hb]
 rfl
theorem glue_tightL {op cl : List Bytes} {w b : Bytes} {r : List Bytes} (h : w ∈ op) : glue op cl (w :: b :: r) = w ++ glue op cl (b :: r) := by
 have : tightW op cl w b = true := by
  unfold tightW
  rw [Bool.or_eq_true]
  exact Or.inl (by simpa using h)
 show w ++ ((if tightW op cl w b then [] else [32]) ++ _) = _
 rw [this]
 rfl
theorem glue_tightR {op cl : List Bytes} {i : List Bytes} {z b : Bytes} {r : List Bytes} (h : b ∈ cl) : glue op cl (i ++ z :: b :: r) = glue op cl (i ++ [z]) ++ glue op cl (b :: r) := by
 have : tightW op cl z b = true := by
  unfold tightW
  rw [Bool.or_eq_true]
  exact Or.inr (by simpa using h)
 rw [glue_snoc, this]
 rfl
theorem glue_tightE {op cl : List Bytes} {A : List Bytes} {b : Bytes} {r : List Bytes} (hA : A ≠ []) (h : b ∈ cl) : glue op cl (A ++ b :: r) = glue op cl A ++ glue op cl (b :: r) := by
 obtain ⟨i, z, rfl⟩ : ∃ i z, A = i ++ [z] := ⟨A.dropLast, A.getLast hA, (List.dropLast_concat_getLast hA).symm⟩
 rw [List.append_assoc, List.singleton_append, glue_tightR h]
/- in brackets -/
theorem glue_wrap {op cl : List Bytes} {W : List Bytes} {o c : Bytes} (hW : W ≠ []) (ho : o ∈ op) (hc : c ∈ cl) : glue op cl (o :: (W ++ [c])) = o ++ (glue op cl W ++ c) := by
 have : ∃ b r, W = b :: r := by
  cases W with
  | nil => exact absurd rfl hW
  | cons b r => exact ⟨b, r, rfl⟩
 obtain ⟨b, r, rfl⟩ := this
 rw [show o :: ((b :: r) ++ [c]) = o :: b :: (r ++ [c]) from rfl, glue_tightL ho, show b :: (r ++ [c]) = (b :: r) ++ [c] from rfl, glue_tightE (by simp) hc]
 rfl
/- a list of texts joined by a text -/
def joinT' (by' : Bytes) : List Bytes → Bytes
 | [] => []
 | [w] => w
 | w :: w' :: r => w ++ (by' ++ joinT' by' (w' :: r))
theorem fit_sep {op cl : List Bytes} {w : Bytes} (h1 : w ∉ cl) (h2 : w ∉ op) : ∀ {l : List (List Bytes)}, l ≠ [] → (∀ a ∈ l, Fit op cl a) → Fit op cl (sepW w l)
 | [], h, _ => absurd rfl h
 | [a], _, h => h a (by simp)
 | a :: b :: r, _, h => by
   rw [show sepW w (a :: b :: r) = a ++ ([w] ++ sepW w (b :: r)) from rfl]
   exact (h a (by simp)).app ((Fit.one h1 h2).app (fit_sep h1 h2 (by simp) fun x hx => h x (by simp at hx ⊢; right; exact hx)))
theorem glue_sep {op cl : List Bytes} {w : Bytes} (h1 : w ∉ cl) (h2 : w ∉ op) : ∀ {l : List (List Bytes)}, (∀ a ∈ l, Fit op cl a) → glue op cl (sepW w l) = joinT' (32 :: (w ++ [32])) (l.map (glue op cl))
 | [], _ => rfl
 | [a], _ => rfl
 | a :: b :: r, h => by
   have hr := fit_sep (l := b :: r) h1 h2 (by simp) fun x hx => h x (by simp at hx ⊢; right; exact hx)
   rw [show sepW w (a :: b :: r) = a ++ ([w] ++ sepW w (b :: r)) from rfl]
   rw [glue_sp (h a (by simp)).2 ((Fit.one h1 h2).app hr).1, glue_sp (Fit.one h1 h2).2 hr.1, glue_sep h1 h2 fun x hx => h x (by simp at hx ⊢; right; exact hx)]
   simp only [List.map_cons, joinT', glue, List.cons_append, List.append_assoc, List.singleton_append]
   rfl
/- tokens counted -/
def wordR (c : UInt8) : Bool := (97 ≤ c && c ≤ 122) || (65 ≤ c && c ≤ 90) || (48 ≤ c && c ≤ 57) || c == 95 || c == 60 || c == 62 || c == 61 || c == 33
def tkn : Bool → Bytes → Nat
 | _, [] => 0
 | p, c :: r => (if c != 32 && (!wordR c || !p) then 1 else 0) + tkn (wordR c) r
def WordT (w : Bytes) : Prop := (w ≠ [] ∧ ∀ c ∈ w, wordR c = true) ∨ ∃ c, w = [c] ∧ wordR c = false ∧ c ≠ 32
theorem tk_words : ∀ (w s : Bytes), (∀ c ∈ w, wordR c = true) → tkn true (w ++ s) = tkn true s
 | [], s, _ => rfl
 | c :: r, s, h => by
   have hc := h c (by simp)
   rw [List.cons_append, tkn, hc, tk_words r s fun x hx => h x (by simp [hx])]
   simp
theorem tk_word {w s : Bytes} (h0 : w ≠ []) (h : ∀ c ∈ w, wordR c = true) : tkn false (w ++ s) = 1 + tkn true s := by
 cases w with
 | nil => exact absurd rfl h0
 | cons c r =>
   have hc := h c (by simp)
   have h32 : (c != 32) = true := by
    cases hb : c != 32 with
    | true => rfl
    | false =>
      have : c = 32 := by simpa using hb
      subst this
      revert hc
      decide
   rw [List.cons_append, tkn, hc, tk_words r s fun x hx => h x (by simp [hx]), h32]
   rfl
theorem tk_any {c : UInt8} {r : Bytes} (h : wordR c = false) (p : Bool) : tkn p (c :: r) = (if c != 32 then 1 else 0) + tkn false r := by
 rw [tkn, h]
 simp
theorem tk_glue {op cl : List Bytes} (ho : ∀ w ∈ op, ∃ c, w = [c] ∧ wordR c = false ∧ c ≠ 32) (hc : ∀ w ∈ cl, ∃ c, w = [c] ∧ wordR c = false ∧ c ≠ 32) : ∀ (W : List Bytes), (∀ w ∈ W, WordT w) → tkn false (glue op cl W) = W.length
 | [], _ => rfl
 | [w], h => by
   show tkn false w = 1
   rcases h w (by simp) with ⟨h0, h1⟩ | ⟨c, rfl, h1, h2⟩
   · have := tk_word (s := []) h0 h1
     rw [List.append_nil] at this
     rw [this]
     rfl
   · rw [tk_any h1, if_pos (by simpa using h2)]
     rfl
 | w :: w' :: r, h => by
   have ih := tk_glue ho hc (w' :: r) fun x hx => h x (by simp at hx ⊢; right; exact hx)
   show tkn false (w ++ ((if tightW op cl w w' then [] else [32]) ++ glue op cl (w' :: r))) = _
   have hsp : ∀ s : Bytes, tkn true (32 :: s) = tkn false s := fun s => by rw [tk_any (by decide)]; simp
   have hsp' : ∀ s : Bytes, tkn false (32 :: s) = tkn false s := fun s => by rw [tk_any (by decide)]; simp
   rcases h w (by simp) with ⟨h0, h1⟩ | ⟨c, rfl, h1, h2⟩
   · rw [tk_word h0 h1]
     cases ht : tightW op cl w w' with
     | false =>
       simp only [Bool.false_eq_true, if_false, List.singleton_append]
       rw [hsp, ih]
       simp only [List.length_cons]
       omega
     | true =>
       simp only [if_true, List.nil_append]
       unfold tightW at ht
       rw [Bool.or_eq_true] at ht
       rcases ht with ht | ht
       · obtain ⟨c, rfl, hc1, -⟩ := ho w (by simpa using ht)
         have := h1 c (by simp)
         rw [hc1] at this
         cases this
       · obtain ⟨c, rfl, hc1, hc2⟩ := hc w' (by simpa using ht)
         obtain ⟨b, hb⟩ := glue_head (op := op) (cl := cl) (c := c) (r := []) r
         rw [hb] at ih ⊢
         rw [tk_any hc1] at ih ⊢
         rw [ih]
         simp only [List.length_cons]
         omega
   · rw [List.singleton_append, tk_any h1, if_pos (by simpa using h2)]
     cases ht : tightW op cl [c] w' with
     | false =>
       simp only [Bool.false_eq_true, if_false, List.singleton_append]
       rw [hsp', ih]
       simp only [List.length_cons]
       omega
     | true =>
       simp only [if_true, List.nil_append]
       rw [ih]
       simp only [List.length_cons]
       omega
/- names and numbers are words -/
def nameB (s : Bytes) : Bool := s.head?.any letterB && s.all wordB && decide (s.length ≤ 24)
theorem core_one {w : Bytes} (h : (coreW w).1 = 1) : nameB w = true := by
 obtain ⟨c, r, k, v, rfl, hl, hc⟩ := coreW_lex (w := w) (by omega)
 rw [hc] at h
 have hk : k = 1 := h
 subst hk
 unfold lexOne at hl
 split at hl
 · rename_i hc'
   split at hl
   · cases hl
   · rename_i h24
     injection hl with hl
     injection hl with _ hl
     injection hl with hl _
     have hr : (r.takeWhile wordB).length = r.length := by omega
     have hall : ∀ x ∈ r, wordB x = true := takeWhile_all hr
     have hw : wordB c = true := by simp [wordB, hc']
     unfold nameB
     simp [hc', hw]
     exact ⟨fun x hx => hall x hx, by omega⟩
 · exfalso
   repeat' split at hl
   all_goals (first | (cases hl; done) | (simp only [Except.ok.injEq, Prod.mk.injEq] at hl; omega))
theorem core_two {w : Bytes} (h : (coreW w).1 = 2) : w ≠ [] ∧ ∀ c ∈ w, digitB c = true := by
 obtain ⟨c, r, k, v, rfl, hl, hc⟩ := coreW_lex (w := w) (by omega)
 rw [hc] at h
 have hk : k = 2 := h
 subst hk
 refine ⟨by simp, ?_⟩
 unfold lexOne at hl
 split at hl
 · split at hl
   · cases hl
   · simp only [Except.ok.injEq, Prod.mk.injEq] at hl; omega
 · split at hl
   · rename_i hc'
     split at hl
     · cases hl
     · injection hl with hl
       injection hl with _ hl
       injection hl with hl _
       have hr : (r.takeWhile digitB).length = r.length := by omega
       have hall : ∀ x ∈ r, digitB x = true := takeWhile_all hr
       intro x hx
       rcases List.mem_cons.1 hx with rfl | hx
       · exact hc'
       · exact hall x hx
   · exfalso
     repeat' split at hl
     all_goals (first | (cases hl; done) | (simp only [Except.ok.injEq, Prod.mk.injEq] at hl; omega))
theorem name_core {w : Bytes} : nameB w = true ↔ (coreW w).1 = 1 := by
 refine ⟨fun h => ?_, core_one⟩
 unfold nameB at h
 simp only [Bool.and_eq_true, decide_eq_true_eq, List.all_eq_true] at h
 obtain ⟨⟨h1, h2⟩, h3⟩ := h
 cases w with
 | nil => simp at h1
 | cons c r =>
   have hc : letterB c = true := by simpa using h1
   have ht : r.takeWhile wordB = r := takeWhile_each fun x hx => h2 x (by simp [hx])
   have hl : lexOne c r = .ok (1, r.length + 1, 0) := by
    unfold lexOne
    rw [if_pos hc, ht, if_neg (by simp at h3; omega)]
   unfold coreW
   simp only [hl, if_true]
theorem wordR_mk {c : UInt8} (h : wordB c = true) : wordR c = true := by
 unfold wordB letterB digitB at h
 unfold wordR
 simp only [Bool.or_eq_true, Bool.and_eq_true] at h ⊢
 rcases h with ((h | h) | h) | h
 · exact Or.inl (Or.inl (Or.inl (Or.inl (Or.inl (Or.inl (Or.inl h))))))
 · exact Or.inl (Or.inl (Or.inl (Or.inl (Or.inl (Or.inl (Or.inr h))))))
 · exact Or.inl (Or.inl (Or.inl (Or.inl (Or.inl (Or.inr h)))))
 · exact Or.inl (Or.inl (Or.inl (Or.inl (Or.inr h))))
theorem wordT_good {S : List Bytes} (hS : ∀ w ∈ S, WordT w) {w : Bytes} (h : GoodW S w) : WordT w := by
 rcases h with h | h | h
 · have h1 := core_one h
   unfold nameB at h1
   simp only [Bool.and_eq_true, decide_eq_true_eq, List.all_eq_true] at h1
   refine Or.inl ⟨?_, fun c hc => wordR_mk (h1.1.2 c hc)⟩
   rintro rfl
   simp at h1
 · obtain ⟨h1, h2⟩ := core_two h
   refine Or.inl ⟨h1, fun c hc => wordR_mk ?_⟩
   unfold wordB
   rw [h2 c hc]
   simp
 · exact hS w h
theorem symsN_word : ∀ w ∈ symsN, WordT w := by
 intro w hw
 unfold symsN at hw
 simp only [List.mem_cons, List.not_mem_nil, or_false] at hw
 rcases hw with rfl | rfl | rfl | rfl | rfl | rfl | rfl | rfl | rfl | rfl | rfl
 · exact Or.inl ⟨by decide, by decide⟩
 · exact Or.inl ⟨by decide, by decide⟩
 · exact Or.inl ⟨by decide, by decide⟩
 · exact Or.inl ⟨by decide, by decide⟩
 · exact Or.inl ⟨by decide, by decide⟩
 · exact Or.inl ⟨by decide, by decide⟩
 · exact Or.inr ⟨_, rfl, by decide, by decide⟩
 · exact Or.inr ⟨_, rfl, by decide, by decide⟩
 · exact Or.inr ⟨_, rfl, by decide, by decide⟩
 · exact Or.inr ⟨_, rfl, by decide, by decide⟩
 · exact Or.inr ⟨_, rfl, by decide, by decide⟩
theorem tk_north {p : Prov} (hp : WriteOk p) : tkn false (textN p) = (wP p).length := by
 refine tk_glue ?_ ?_ (wP p) fun w hw => wordT_good symsN_word (good_P hp w hw)
 · intro w hw
   simp only [List.map_cons, List.map_nil, List.mem_cons, List.not_mem_nil, or_false] at hw
   rw [hw]
   exact ⟨_, rfl, by decide, by decide⟩
 · intro w hw
   simp only [List.map_cons, List.map_nil, List.mem_cons, List.not_mem_nil, or_false] at hw
   rcases hw with rfl | rfl | rfl | rfl <;> exact ⟨_, rfl, by decide, by decide⟩
theorem symsS_word : ∀ w ∈ So.symsS, WordT w := by
 intro w hw
 unfold So.symsS at hw
 simp only [List.mem_cons, List.not_mem_nil, or_false] at hw
 rcases hw with rfl | rfl | rfl | rfl | rfl | rfl <;> exact Or.inr ⟨_, rfl, by decide, by decide⟩
theorem tk_south {p : Prov} (hp : So.WriteOk p) : tkn false (So.textS p) = (So.wP p).length := by
 refine tk_glue ?_ ?_ (So.wP p) fun w hw => wordT_good symsS_word (So.good_P hp w hw)
 · intro w hw
   simp only [List.map_cons, List.map_nil, List.mem_cons, List.not_mem_nil, or_false] at hw
   rcases hw with rfl | rfl <;> exact ⟨_, rfl, by decide, by decide⟩
 · intro w hw
   simp only [List.map_cons, List.map_nil, List.mem_cons, List.not_mem_nil, or_false] at hw
   rcases hw with rfl | rfl <;> exact ⟨_, rfl, by decide, by decide⟩
/- an answer at which the text is too long -/
def shortA (s : Bytes) : Bytes × Nat := if 20000 < s.length ∨ 5000 < tkn false s then ([], 2) else (s, 0)
theorem short_north {p : Prov} (hp : WriteOk p) : (match lexF (textN p) with | .ok _ => (textN p, 0) | .error _ => ([], 2)) = shortA (textN p) := by
 have h := (north_lex hp).2.1
 unfold shortA
 rw [tk_north hp]
 cases hl : lexF (textN p) with
 | ok ts =>
   have := h.1 ⟨ts, hl⟩
   simp only
   rw [if_neg (by omega)]
 | error e =>
   simp only
   rw [if_pos]
   have : ¬ ((textN p).length ≤ 20000 ∧ (wP p).length ≤ 5000) := fun hh => by
    obtain ⟨ts, h2⟩ := h.2 hh
    rw [hl] at h2
    cases h2
   omega
theorem short_south {p : Prov} (hp : So.WriteOk p) : (match lexF (So.textS p) with | .ok _ => (So.textS p, 0) | .error _ => ([], 2)) = shortA (So.textS p) := by
 have h := (So.south_lex hp).2.1
 unfold shortA
 rw [tk_south hp]
 cases hl : lexF (So.textS p) with
 | ok ts =>
   have := h.1 ⟨ts, hl⟩
   simp only
   rw [if_neg (by omega)]
 | error e =>
   simp only
   rw [if_pos]
   have : ¬ ((So.textS p).length ≤ 20000 ∧ (So.wP p).length ≤ 5000) := fun hh => by
    obtain ⟨ts, h2⟩ := h.2 hh
    rw [hl] at h2
    cases h2
   omega
abbrev oN : List Bytes := opN.map fun x => [x]
abbrev cN : List Bytes := clN.map fun x => [x]
def wrapB (b : Bool) (k : Tree) (oa oo : Nat) (s : Bytes) : Bytes := if k.op = oo ∨ (k.op = oa ∧ b = false) then 40 :: (s ++ [41]) else s
mutual
def rF : Tree → Bytes
 | .mk op name cmp n ks =>
   if op = 1 then [116, 114, 117, 101] else if op = 2 then [102, 97, 108, 115, 101]
   else if op = 3 then name ++ 32 :: (signs.getD (cmp - 1) [] ++ 32 :: dec n) else if op = 4 then name
   else if op = 5 then [110, 111, 116, 32] ++ (rFs false ks).headD []
   else if op = 6 then joinT' [32, 97, 110, 100, 32] (rFs false ks) else joinT' [32, 111, 114, 32] (rFs true ks)
def rFs (b : Bool) : List Tree → List Bytes
 | [] => []
 | k :: r => wrapB b k 6 7 (rF k) :: rFs b r
end
mutual
def rS : Tree → Bytes
 | .mk op name cmp n ks =>
   if op = 1 then [97, 108, 119, 97, 121, 115] else if op = 2 then [110, 101, 118, 101, 114]
   else if op = 3 then [100, 97, 121, 32] ++ dec n else if op = 4 ∨ op = 5 ∨ op = 6 ∨ op = 7 then startW.getD op [] ++ 32 :: name
   else if op = 8 then joinT' [32, 97, 110, 100, 32] (rSs false ks) else joinT' [32, 111, 114, 32] (rSs true ks)
def rSs (b : Bool) : List Tree → List Bytes
 | [] => []
 | k :: r => wrapB b k 8 9 (rS k) :: rSs b r
end
theorem fit_name {s : Bytes} (h : (coreW s).1 = 1) {op cl : List Bytes} (ho : ∀ w ∈ op, (coreW w).1 ≠ 1) (hc : ∀ w ∈ cl, (coreW w).1 ≠ 1) : s ∉ cl ∧ s ∉ op := ⟨fun hm => hc s hm h, fun hm => ho s hm h⟩
theorem fit_num {n : Nat} (h : n ≤ 1000000) {op cl : List Bytes} (ho : ∀ w ∈ op, (coreW w).1 ≠ 2) (hc : ∀ w ∈ cl, (coreW w).1 ≠ 2) : dec n ∉ cl ∧ dec n ∉ op := by
 have h2 : (coreW (dec n)).1 = 2 := by rw [dec_core (by omega)]
 exact ⟨fun hm => hc _ hm h2, fun hm => ho _ hm h2⟩
theorem oN_1 : ∀ w ∈ oN, (coreW w).1 ≠ 1 := by decide
theorem cN_1 : ∀ w ∈ cN, (coreW w).1 ≠ 1 := by decide
theorem oN_2 : ∀ w ∈ oN, (coreW w).1 ≠ 2 := by decide
theorem cN_2 : ∀ w ∈ cN, (coreW w).1 ≠ 2 := by decide
theorem okName {s : Bytes} (h : nameOk s = true) : (coreW s).1 = 1 := by
 unfold nameOk at h
 rw [Bool.and_eq_true] at h
 simpa using h.1
theorem fitN {s : Bytes} (h : nameOk s = true) : s ∉ cN ∧ s ∉ oN := fit_name (okName h) oN_1 cN_1
theorem fitD {n : Nat} (h : n ≤ 1000000) : dec n ∉ cN ∧ dec n ∉ oN := fit_num h oN_2 cN_2
theorem Fit.cons {op cl : List Bytes} {w : Bytes} {W : List Bytes} (h1 : w ∉ cl) (h2 : w ∉ op) (h : Fit op cl W) : Fit op cl (w :: W) := (Fit.one h1 h2).app h
theorem gCn {op cl : List Bytes} {w : Bytes} {W : List Bytes} (h2 : w ∉ op) (h : ∃ b r, W = b :: r ∧ b ∉ cl) : glue op cl (w :: W) = w ++ 32 :: glue op cl W := glue_sp ⟨[], w, rfl, h2⟩ h
/- a kid, in brackets or not -/
theorem wrap_fit {b : Bool} {k : Tree} {oa oo : Nat} {W : List Bytes} (h : Fit oN cN W) : Fit oN cN (wrapW b k oa oo W) ∧ glue oN cN (wrapW b k oa oo W) = wrapB b k oa oo (glue oN cN W) := by
 unfold wrapW wrapB
 split
 · have hne : W ≠ [] := by
     obtain ⟨⟨a, r, rfl, _⟩, -⟩ := h
     simp
   exact ⟨⟨⟨wLp, W ++ [wRp], rfl, by decide⟩, wLp :: W, wRp, rfl, by decide⟩, glue_wrap hne (by decide) (by decide)⟩
 · exact ⟨h, rfl⟩
theorem rF_eq : ∀ (s : Nat) (t : Tree), t.size ≤ s → okF t = true → Fit oN cN (wF t) ∧ glue oN cN (wF t) = rF t
 | 0, t, h, _ => by have := tree_pos t; omega
 | s + 1, .mk op name cmp n ks, hs, hok => by
   rw [okF] at hok
   simp only [Bool.and_eq_true] at hok
   obtain ⟨⟨⟨h1, h2⟩, h3⟩, h4⟩ := hok
   rw [Tree.size] at hs
   have hk := okFs_all h4
   have ih : ∀ b, ∀ k ∈ ks, Fit oN cN (wrapW b k 6 7 (wF k)) ∧ glue oN cN (wrapW b k 6 7 (wF k)) = wrapB b k 6 7 (rF k) := fun b k hm => by
    obtain ⟨a1, a2⟩ := rF_eq s k (by have := kid_size hm; omega) (hk k hm)
    obtain ⟨b1, b2⟩ := wrap_fit (b := b) (k := k) (oa := 6) (oo := 7) a1
    exact ⟨b1, by rw [b2, a2]⟩
   have hmap : ∀ b, ∀ l : List Tree, (∀ k ∈ l, k ∈ ks) → (wFs b l).map (glue oN cN) = rFs b l := fun b l => by
    induction l with
    | nil => intro _; rfl
    | cons k r ihl =>
      intro hl
      rw [wFs, rFs, List.map_cons, ihl fun x hx => hl x (by simp [hx]), (ih b k (hl k (by simp))).2]
   have hfit : ∀ b, ∀ a ∈ wFs b ks, Fit oN cN a := fun b a ha => by
    rw [wFs_map] at ha
    obtain ⟨k, hm, rfl⟩ := List.mem_map.1 ha
    exact (ih b k hm).1
   have hne : ∀ b, ks ≠ [] → wFs b ks ≠ [] := fun b h => by
    cases ks with
    | nil => exact absurd rfl h
    | cons k r => rw [wFs]; simp
   rw [wF, rF]
   by_cases o1 : op = 1
   · rw [if_pos o1, if_pos o1]; exact ⟨Fit.one (by decide) (by decide), rfl⟩
   by_cases o2 : op = 2
   · rw [if_neg o1, if_neg o1, if_pos o2, if_pos o2]; exact ⟨Fit.one (by decide) (by decide), rfl⟩
   by_cases o3 : op = 3
   · rw [if_neg o1, if_neg o1, if_neg o2, if_neg o2, if_pos o3, if_pos o3]
     rw [if_pos o3] at h1
     rw [if_pos (Or.inl o3)] at h2
     simp only [Bool.and_eq_true, decide_eq_true_eq] at h1
     obtain ⟨n1, n2⟩ := fitN h2
     obtain ⟨d1, d2⟩ := fitD h1.2
     have hc : signs.getD (cmp - 1) [] ∉ cN ∧ signs.getD (cmp - 1) [] ∉ oN := by
      have : cmp = 1 ∨ cmp = 2 ∨ cmp = 3 ∨ cmp = 4 ∨ cmp = 5 ∨ cmp = 6 := by omega
      rcases this with rfl | rfl | rfl | rfl | rfl | rfl <;> exact ⟨by decide, by decide⟩
     refine ⟨Fit.cons n1 n2 (Fit.cons hc.1 hc.2 (Fit.one d1 d2)), ?_⟩
     rw [gCn n2 ⟨_, _, rfl, hc.1⟩, gCn hc.2 ⟨_, _, rfl, d1⟩]
     rfl
   by_cases o4 : op = 4
   · rw [if_neg o1, if_neg o1, if_neg o2, if_neg o2, if_neg o3, if_neg o3, if_pos o4, if_pos o4]
     rw [if_pos (Or.inr o4)] at h2
     exact ⟨Fit.one (fitN h2).1 (fitN h2).2, rfl⟩
   rw [if_neg (by omega)] at h3
   by_cases o5 : op = 5
   · rw [if_neg o1, if_neg o1, if_neg o2, if_neg o2, if_neg o3, if_neg o3, if_neg o4, if_neg o4, if_pos o5, if_pos o5]
     rw [if_pos o5] at h3
     have hl : ks.length = 1 := by simpa using h3
     obtain ⟨k, rfl⟩ : ∃ k, ks = [k] := by
      match ks, hl with
      | [k], _ => exact ⟨k, rfl⟩
     obtain ⟨a1, a2⟩ := ih false k (by simp)
     rw [wFs, wFs, rFs, rFs]
     simp only [List.flatten_cons, List.flatten_nil, List.append_nil, List.headD_cons]
     refine ⟨Fit.cons (by decide) (by decide) a1, ?_⟩
     rw [gCn (by decide) a1.1, a2]
     rfl
   rw [if_neg o5] at h3
   have h67 : op = 6 ∨ op = 7 := by
    by_cases h : op = 6 ∨ op = 7
    · exact h
    · rw [if_neg h] at h3; cases h3
   rw [if_pos h67] at h3
   have hl : 2 ≤ ks.length := by simpa using h3
   have hks : ks ≠ [] := by rintro rfl; simp at hl
   by_cases o6 : op = 6
   · rw [if_neg o1, if_neg o1, if_neg o2, if_neg o2, if_neg o3, if_neg o3, if_neg o4, if_neg o4, if_neg o5, if_neg o5, if_pos o6, if_pos o6]
     refine ⟨fit_sep (by decide) (by decide) (hne _ hks) (hfit false), ?_⟩
     rw [glue_sep (by decide) (by decide) (hfit false), hmap false ks fun _ h => h]
     rfl
   · have o7 : op = 7 := by omega
     rw [if_neg o1, if_neg o1, if_neg o2, if_neg o2, if_neg o3, if_neg o3, if_neg o4, if_neg o4, if_neg o5, if_neg o5, if_neg o6, if_neg o6, if_pos o7]
     refine ⟨fit_sep (by decide) (by decide) (hne _ hks) (hfit true), ?_⟩
     rw [glue_sep (by decide) (by decide) (hfit true), hmap true ks fun _ h => h]
     rfl
theorem rS_eq : ∀ (s : Nat) (t : Tree), t.size ≤ s → okS t = true → Fit oN cN (wS t) ∧ glue oN cN (wS t) = rS t
 | 0, t, h, _ => by have := tree_pos t; omega
 | s + 1, .mk op name cmp n ks, hs, hok => by
   rw [okS] at hok
   simp only [Bool.and_eq_true] at hok
   obtain ⟨⟨⟨h1, h2⟩, h3⟩, h4⟩ := hok
   rw [Tree.size] at hs
   have hk := okSs_all h4
   have ih : ∀ b, ∀ k ∈ ks, Fit oN cN (wrapW b k 8 9 (wS k)) ∧ glue oN cN (wrapW b k 8 9 (wS k)) = wrapB b k 8 9 (rS k) := fun b k hm => by
    obtain ⟨a1, a2⟩ := rS_eq s k (by have := kid_size hm; omega) (hk k hm)
    obtain ⟨b1, b2⟩ := wrap_fit (b := b) (k := k) (oa := 8) (oo := 9) a1
    exact ⟨b1, by rw [b2, a2]⟩
   have hmap : ∀ b, ∀ l : List Tree, (∀ k ∈ l, k ∈ ks) → (wSs b l).map (glue oN cN) = rSs b l := fun b l => by
    induction l with
    | nil => intro _; rfl
    | cons k r ihl =>
      intro hl
      rw [wSs, rSs, List.map_cons, ihl fun x hx => hl x (by simp [hx]), (ih b k (hl k (by simp))).2]
   have hfit : ∀ b, ∀ a ∈ wSs b ks, Fit oN cN a := fun b a ha => by
    rw [wSs_map] at ha
    obtain ⟨k, hm, rfl⟩ := List.mem_map.1 ha
    exact (ih b k hm).1
   have hne : ∀ b, ks ≠ [] → wSs b ks ≠ [] := fun b h => by
    cases ks with
    | nil => exact absurd rfl h
    | cons k r => rw [wSs]; simp
   rw [wS, rS]
   by_cases o1 : op = 1
   · rw [if_pos o1, if_pos o1]; exact ⟨Fit.one (by decide) (by decide), rfl⟩
   by_cases o2 : op = 2
   · rw [if_neg o1, if_neg o1, if_pos o2, if_pos o2]; exact ⟨Fit.one (by decide) (by decide), rfl⟩
   by_cases o3 : op = 3
   · rw [if_neg o1, if_neg o1, if_neg o2, if_neg o2, if_pos o3, if_pos o3]
     have hn0 : n ≤ 1000000 := by have := h1.2; rw [if_pos o3] at this; simpa using this
     obtain ⟨d1, d2⟩ := fitD hn0
     refine ⟨Fit.cons (by decide) (by decide) (Fit.one d1 d2), ?_⟩
     rw [gCn (by decide) ⟨_, _, rfl, d1⟩]
     rfl
   by_cases o4 : op = 4 ∨ op = 5 ∨ op = 6 ∨ op = 7
   · rw [if_neg o1, if_neg o1, if_neg o2, if_neg o2, if_neg o3, if_neg o3, if_pos o4, if_pos o4]
     rw [if_pos o4] at h2
     obtain ⟨n1, n2⟩ := fitN h2
     have hc : startW.getD op [] ∉ cN ∧ startW.getD op [] ∉ oN := by
      rcases o4 with rfl | rfl | rfl | rfl <;> exact ⟨by decide, by decide⟩
     refine ⟨Fit.cons hc.1 hc.2 (Fit.one n1 n2), ?_⟩
     rw [gCn hc.2 ⟨_, _, rfl, n1⟩]
     rfl
   have h89 : op = 8 ∨ op = 9 := by
    by_cases h : op = 8 ∨ op = 9
    · exact h
    · rw [if_neg h] at h3
      split at h3
      · omega
      · cases h3
   rw [if_pos h89] at h3
   have hl : 2 ≤ ks.length := by simpa using h3
   have hks : ks ≠ [] := by rintro rfl; simp at hl
   by_cases o8 : op = 8
   · rw [if_neg o1, if_neg o1, if_neg o2, if_neg o2, if_neg o3, if_neg o3, if_neg o4, if_neg o4, if_pos o8, if_pos o8]
     refine ⟨fit_sep (by decide) (by decide) (hne _ hks) (hfit false), ?_⟩
     rw [glue_sep (by decide) (by decide) (hfit false), hmap false ks fun _ h => h]
     rfl
   · have o9 : op = 9 := by omega
     rw [if_neg o1, if_neg o1, if_neg o2, if_neg o2, if_neg o3, if_neg o3, if_neg o4, if_neg o4, if_neg o8, if_neg o8, if_pos o9]
     refine ⟨fit_sep (by decide) (by decide) (hne _ hks) (hfit true), ?_⟩
     rw [glue_sep (by decide) (by decide) (hfit true), hmap true ks fun _ h => h]
     rfl
/- a part put behind -/
theorem part_acc {op cl : List Bytes} {A l : List Bytes} {w : Bytes} {b : Bool} (hA : Fit op cl A) (h1 : w ∉ cl) (h2 : w ∉ op) (hl : b = true → Fit op cl l) : Fit op cl (A ++ partW b w l) ∧ glue op cl (A ++ partW b w l) = glue op cl A ++ (if b = true then 32 :: (w ++ 32 :: glue op cl l) else []) := by
 unfold partW
 cases b with
 | true =>
   simp only [if_true]
   have hw := Fit.cons h1 h2 (hl rfl)
   refine ⟨hA.app hw, ?_⟩
   rw [glue_sp hA.2 hw.1, gCn h2 (hl rfl).1]
 | false => simp only [Bool.false_eq_true, if_false, List.append_nil]; exact ⟨hA, trivial⟩
/- names with commas -/
theorem comma_glue : ∀ {l : List Bytes}, l ≠ [] → (∀ s ∈ l, s ∉ cN ∧ s ∉ oN) → Fit oN cN (sepW wComma (l.map fun s => [s])) ∧ glue oN cN (sepW wComma (l.map fun s => [s])) = joinT' [44, 32] l
 | [], h, _ => absurd rfl h
 | [a], _, h => ⟨Fit.one (h a (by simp)).1 (h a (by simp)).2, rfl⟩
 | a :: b :: r, _, h => by
   obtain ⟨i1, i2⟩ := comma_glue (l := b :: r) (by simp) fun x hx => h x (by simp at hx ⊢; right; exact hx)
   obtain ⟨a1, a2⟩ := h a (by simp)
   rw [show sepW wComma ((a :: b :: r).map fun s => [s]) = [a] ++ wComma :: sepW wComma ((b :: r).map fun s => [s]) from rfl]
   constructor
   · obtain ⟨-, i, z, e, hz⟩ := i1
     exact ⟨⟨a, _, rfl, a1⟩, a :: wComma :: i, z, by rw [e]; rfl, hz⟩
   · rw [glue_tightE (by simp) (by decide), gCn (by decide) i1.1, i2]
     rfl
def rText (p : Prov) : Bytes :=
 ranksN.getD (p.rank - 1) [] ++ 32 :: (p.id ++ [58, 32]) ++ (if p.kind = 1 then [100, 101, 102, 105, 110, 101, 32] ++ p.name else [97, 110, 115, 119, 101, 114, 32] ++ (p.name ++ ([32, 105, 115, 32] ++ dec p.value)))
 ++ (if (p.cond.op != 1) = true then [32, 105, 102, 32] ++ rF p.cond else [])
 ++ (if p.exc = [] then [] else [32, 110, 111, 116, 119, 105, 116, 104, 115, 116, 97, 110, 100, 105, 110, 103, 32] ++ joinT' [44, 32] p.exc)
 ++ (if (p.beg.op != 1) = true then [32, 102, 114, 111, 109, 32] ++ rS p.beg else [])
 ++ (if (p.fin.op != 2) = true then [32, 117, 110, 116, 105, 108, 32] ++ rS p.fin else [])
 ++ (if (p.aga.op != 2) = true then [32, 97, 103, 97, 105, 110, 32] ++ rS p.aga else [])
 ++ [46]
theorem text_north {p : Prov} (hp : WriteOk p) : textN p = rText p := by
 have hr : ranksN.getD (p.rank - 1) [] ∉ cN ∧ ranksN.getD (p.rank - 1) [] ∉ oN := by
  have := hp.rank
  have : p.rank = 1 ∨ p.rank = 2 ∨ p.rank = 3 ∨ p.rank = 4 := by omega
  rcases this with h | h | h | h <;> rw [h] <;> exact ⟨by decide, by decide⟩
 obtain ⟨i1, i2⟩ := fitN hp.id
 obtain ⟨n1, n2⟩ := fitN hp.name
 obtain ⟨v1, v2⟩ := fitD hp.value
 have hk : Fit oN cN (kindW p) ∧ glue oN cN (kindW p) = (if p.kind = 1 then [100, 101, 102, 105, 110, 101, 32] ++ p.name else [97, 110, 115, 119, 101, 114, 32] ++ (p.name ++ ([32, 105, 115, 32] ++ dec p.value))) := by
  unfold kindW
  split
  · refine ⟨Fit.cons (by decide) (by decide) (Fit.one n1 n2), ?_⟩
    rw [gCn (by decide) ⟨_, _, rfl, n1⟩]
    rfl
  · refine ⟨Fit.cons (by decide) (by decide) (Fit.cons n1 n2 (Fit.cons (by decide) (by decide) (Fit.one v1 v2))), ?_⟩
    rw [gCn (by decide) ⟨_, _, rfl, n1⟩, gCn n2 ⟨_, _, rfl, by decide⟩, gCn (by decide) ⟨_, _, rfl, v1⟩]
    rfl
 obtain ⟨k1, k2⟩ := hk
 have h0 : Fit oN cN (ranksN.getD (p.rank - 1) [] :: p.id :: [58] :: kindW p) ∧ glue oN cN (ranksN.getD (p.rank - 1) [] :: p.id :: [58] :: kindW p) = ranksN.getD (p.rank - 1) [] ++ 32 :: (p.id ++ [58, 32]) ++ glue oN cN (kindW p) := by
  constructor
  · obtain ⟨-, i, z, e, hz⟩ := k1
    exact ⟨⟨_, _, rfl, hr.1⟩, ranksN.getD (p.rank - 1) [] :: p.id :: [58] :: i, z, by rw [e]; rfl, hz⟩
  · rw [gCn hr.2 ⟨_, _, rfl, i1⟩]
    rw [show p.id :: [58] :: kindW p = [p.id] ++ [58] :: kindW p from rfl, glue_tightE (by simp) (by decide), gCn (by decide) k1.1]
    simp only [glue, List.append_assoc, List.cons_append, List.nil_append]
 obtain ⟨a1, e1⟩ := h0
 obtain ⟨f1, f2⟩ := rF_eq _ p.cond (lR _) hp.cond
 obtain ⟨b1, b2⟩ := rS_eq _ p.beg (lR _) hp.beg
 obtain ⟨g1, g2⟩ := rS_eq _ p.fin (lR _) hp.fin
 obtain ⟨h1, h2⟩ := rS_eq _ p.aga (lR _) hp.aga
 obtain ⟨a2, e2⟩ := part_acc (b := p.cond.op != 1) (w := wIf) (l := wF p.cond) a1 (by decide) (by decide) fun _ => f1
 have hx : Fit oN cN ((ranksN.getD (p.rank - 1) [] :: p.id :: [58] :: kindW p) ++ partW (p.cond.op != 1) wIf (wF p.cond) ++ excW p.exc) ∧ glue oN cN ((ranksN.getD (p.rank - 1) [] :: p.id :: [58] :: kindW p) ++ partW (p.cond.op != 1) wIf (wF p.cond) ++ excW p.exc) = glue oN cN ((ranksN.getD (p.rank - 1) [] :: p.id :: [58] :: kindW p) ++ partW (p.cond.op != 1) wIf (wF p.cond)) ++ (if p.exc = [] then [] else [32, 110, 111, 116, 119, 105, 116, 104, 115, 116, 97, 110, 100, 105, 110, 103, 32] ++ joinT' [44, 32] p.exc) := by
  unfold excW
  split
  · simp only [List.append_nil]; exact ⟨a2, trivial⟩
  · rename_i hne
    obtain ⟨c1, c2⟩ := comma_glue hne fun s hs => fitN (hp.exc s hs)
    have hw : Fit oN cN (wNot2 :: sepW wComma (p.exc.map fun s => [s])) := Fit.cons (by decide) (by decide) c1
    refine ⟨a2.app hw, ?_⟩
    rw [glue_sp a2.2 hw.1, gCn (by decide) c1.1, c2]
    rfl
 obtain ⟨a3, e3⟩ := hx
 obtain ⟨a4, e4⟩ := part_acc (b := p.beg.op != 1) (w := wFrom) (l := wS p.beg) a3 (by decide) (by decide) fun _ => b1
 obtain ⟨a5, e5⟩ := part_acc (b := p.fin.op != 2) (w := wUntil) (l := wS p.fin) a4 (by decide) (by decide) fun _ => g1
 obtain ⟨a6, e6⟩ := part_acc (b := p.aga.op != 2) (w := wAgain) (l := wS p.aga) a5 (by decide) (by decide) fun _ => h1
 have hP : wP p = ((ranksN.getD (p.rank - 1) [] :: p.id :: [58] :: kindW p) ++ partW (p.cond.op != 1) wIf (wF p.cond) ++ excW p.exc ++ partW (p.beg.op != 1) wFrom (wS p.beg) ++ partW (p.fin.op != 2) wUntil (wS p.fin) ++ partW (p.aga.op != 2) wAgain (wS p.aga)) ++ wDot :: [] := by
  unfold wP tail0 tail1 tail2 tail3
  simp only [List.append_assoc, List.cons_append]
 unfold textN
 show glue oN cN (wP p) = _
 rw [hP, glue_tightE (by simp) (by decide), e6, e5, e4, e3, e2, e1, k2, f2, b2, g2, h2]
 rfl
end Go.Proofs.YtbicmjmcdnkjhaaGreatDoor
