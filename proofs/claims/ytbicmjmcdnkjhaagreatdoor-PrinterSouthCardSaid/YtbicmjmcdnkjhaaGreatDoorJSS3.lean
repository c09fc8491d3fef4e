/- Blanks taken away behind opening brackets and ahead of closing signs: plain words. A provision written in the first language is read again, as a text. The parser of the second language as plain functions on lists. -/
import Derived.Test.YtbicmjmcdnkjhaaGreatDoorJSS2
import Derived.Test.YtbicmjmcdnkjhaaGreatDoorJSS1
set_option linter.unusedVariables false
set_option linter.unusedSimpArgs false
namespace Go.Proofs.YtbicmjmcdnkjhaaGreatDoor
/- what the replacer does: o: the bytes that open, c: the bytes that close -/
def replF (o c : List UInt8) : Bytes → Bytes
 | [] => []
 | [x] => [x]
 | x :: y :: r => if x = 32 ∧ y ∈ c then y :: replF o c r else if x ∈ o ∧ y = 32 then x :: replF o c r else x :: replF o c (y :: r)
def joinB : List Bytes → Bytes
 | [] => []
 | [w] => w
 | w :: w' :: r => w ++ 32 :: joinB (w' :: r)
/- a word as they stand in a text: no blank in it; an opening bracket or a closing sign stands alone -/
structure WordR (o c : List UInt8) (w : Bytes) : Prop where
 ne : w ≠ []
 blank : 32 ∉ w
 opn : (∃ x ∈ o, w = [x]) ∨ ∀ x ∈ o, x ∉ w
 cls : (∃ x ∈ c, w = [x]) ∨ ∀ x ∈ c, w.head? ≠ some x
theorem replF_word (o c : List UInt8) (h32 : 32 ∉ o) : ∀ (w rest : Bytes), w ≠ [] → 32 ∉ w → (∀ x ∈ o, x ∉ w) → replF o c (w ++ 32 :: rest) = w ++ replF o c (32 :: rest)
 | [], rest, h, _, _ => absurd rfl h
 | [x], rest, _, hb, ho => by
   simp only [List.cons_append, List.nil_append]
   rw [replF]
   rw [if_neg (fun h => hb (by rw [← h.1]; simp)), if_neg (fun h => ho x h.1 (by simp))]
 | x :: y :: r, rest, _, hb, ho => by
   simp only [List.cons_append]
   rw [replF]
   rw [if_neg (fun h => hb (by rw [← h.1]; simp)), if_neg (fun h => ho x h.1 (by simp))]
   have := replF_word o c h32 (y :: r) rest (by simp) (fun h => hb (by simp at h ⊢; right; exact h)) (fun z hz h => ho z hz (by simp at h ⊢; right; exact h))
   exact congrArg (x :: ·) this
theorem replF_end (o c : List UInt8) : ∀ (w : Bytes), 32 ∉ w → replF o c w = w
 | [], _ => rfl
 | [x], _ => rfl
 | x :: y :: r, hb => by
   rw [replF]
   rw [if_neg (fun h => hb (by rw [← h.1]; simp)), if_neg (fun h => hb (by rw [← h.2]; simp))]
   rw [replF_end o c (y :: r) (fun h => hb (by simp at h ⊢; right; exact h))]
theorem joinB_head {c : UInt8} {r : Bytes} (W : List Bytes) : ∃ b, joinB ((c :: r) :: W) = c :: b := by
 cases W with
 | nil => exact ⟨r, rfl⟩
 | cons w W => exact ⟨r ++ 32 :: joinB (w :: W), rfl⟩
theorem repl_glue {o c : List UInt8} (ho : 32 ∉ o) (hc : 32 ∉ c) (hoc : ∀ x ∈ o, x ∉ c) : ∀ (W : List Bytes), (∀ w ∈ W, WordR o c w) → replF o c (joinB W) = glue (o.map fun x => [x]) (c.map fun x => [x]) W ∧ ∀ x r, W = [x] :: r → x ∈ c → ∃ b, joinB W = x :: b ∧ glue (o.map fun x => [x]) (c.map fun x => [x]) W = x :: replF o c b
 | [], _ => ⟨rfl, fun x r e => by simp at e⟩
 | [w], h => by
   refine ⟨replF_end o c w (h w (by simp)).blank, fun x r e hx => ?_⟩
   cases e
   exact ⟨[], rfl, rfl⟩
 | w :: w' :: W, h => by
   have hw := h w (by simp)
   have hw' := h w' (by simp)
   obtain ⟨i1, i2⟩ := repl_glue ho hc hoc (w' :: W) (fun x hx => h x (by simp at hx ⊢; right; exact hx))
   rw [show joinB (w :: w' :: W) = w ++ 32 :: joinB (w' :: W) from rfl]
   rw [show glue (o.map fun x => [x]) (c.map fun x => [x]) (w :: w' :: W) = w ++ ((if tightW (o.map fun x => [x]) (c.map fun x => [x]) w w' then [] else [32]) ++ glue (o.map fun x => [x]) (c.map fun x => [x]) (w' :: W)) from rfl]
   obtain ⟨c', r', rfl⟩ : ∃ c' r', w' = c' :: r' := by
    cases w' with
    | nil => exact absurd rfl hw'.ne
    | cons a b => exact ⟨a, b, rfl⟩
   have hc32 : c' ≠ 32 := fun e => hw'.blank (by rw [e]; simp)
   -- behind the word, its blank
   have hblank : replF o c (32 :: joinB ((c' :: r') :: W)) = (if (c.map fun x => [x]).contains (c' :: r') then [] else [32]) ++ glue (o.map fun x => [x]) (c.map fun x => [x]) ((c' :: r') :: W) := by
    obtain ⟨b, hb⟩ := joinB_head (c := c') (r := r') W
    cases hcl : (c.map fun x => [x]).contains (c' :: r') with
    | true =>
      simp only [if_true, List.nil_append]
      have : ∃ x ∈ c, [x] = c' :: r' := by simpa using hcl
      obtain ⟨x, hx, e⟩ := this
      cases e
      obtain ⟨b2, e1, e2⟩ := i2 c' W rfl hx
      rw [e1, e2, replF, if_pos ⟨rfl, hx⟩]
    | false =>
      simp only [Bool.false_eq_true, if_false, List.cons_append, List.nil_append]
      rw [← i1, hb]
      rw [replF]
      have hn : c' ∉ c := by
       rcases hw'.cls with ⟨x, hx, e⟩ | hh
       · exfalso
         have : ¬ ∃ x ∈ c, [x] = c' :: r' := by
          intro hex
          have h1 : (c.map fun x => [x]).contains (c' :: r') = true := by simpa using hex
          rw [hcl] at h1
          cases h1
         exact this ⟨x, hx, e.symm⟩
       · exact fun hm => hh c' hm rfl
      rw [if_neg (fun h => hn h.2), if_neg (fun h => ho h.1)]
   rcases hw.opn with ⟨x, hx, rfl⟩ | hno
   · have hx32 : x ≠ 32 := fun e => ho (e ▸ hx)
     have ht : tightW (o.map fun x => [x]) (c.map fun x => [x]) [x] (c' :: r') = true := by
      unfold tightW
      rw [Bool.or_eq_true]
      exact Or.inl (by simpa using hx)
     have hstep : replF o c (x :: 32 :: joinB ((c' :: r') :: W)) = x :: replF o c (joinB ((c' :: r') :: W)) := by
      rw [replF, if_neg (fun h => hx32 h.1), if_pos ⟨hx, rfl⟩]
     rw [ht]
     simp only [if_true, List.nil_append, List.cons_append]
     refine ⟨by rw [hstep, i1], fun y r e hy => ?_⟩
     cases e
     refine ⟨_, rfl, ?_⟩
     -- an opening bracket that closes, too
     exact absurd hy (hoc x hx)
   · have hstep := replF_word o c ho w (joinB ((c' :: r') :: W)) hw.ne hw.blank hno
     have htt : tightW (o.map fun x => [x]) (c.map fun x => [x]) w (c' :: r') = (c.map fun x => [x]).contains (c' :: r') := by
      unfold tightW
      have : (o.map fun x => [x]).contains w = false := by
       cases hb : (o.map fun x => [x]).contains w with
       | false => rfl
       | true =>
         have : ∃ x ∈ o, [x] = w := by simpa using hb
         obtain ⟨x, hx, e⟩ := this
         exact absurd (by rw [← e]; simp) (hno x hx)
      rw [this, Bool.false_or]
     rw [htt, hstep, hblank]
     refine ⟨rfl, fun y r e hy => ?_⟩
     cases e
     refine ⟨32 :: joinB ((c' :: r') :: W), rfl, ?_⟩
     rw [hblank]
     rfl
theorem mem_sepW {w x : Bytes} : ∀ {l : List (List Bytes)}, x ∈ sepW w l → x = w ∨ ∃ a ∈ l, x ∈ a
 | [], h => by simp [sepW] at h
 | [a], h => Or.inr ⟨a, by simp, h⟩
 | a :: b :: r, h => by
   rw [show sepW w (a :: b :: r) = a ++ w :: sepW w (b :: r) from rfl] at h
   rw [List.mem_append, List.mem_cons] at h
   rcases h with h | h | h
   · exact Or.inr ⟨a, by simp, h⟩
   · exact Or.inl h
   · rcases mem_sepW h with h | ⟨c, hc, hx⟩
     · exact Or.inl h
     · exact Or.inr ⟨c, by simp at hc ⊢; right; exact hc, hx⟩
theorem mem_wrapW {b : Bool} {k : Tree} {oa oo : Nat} {l : List Bytes} {x : Bytes} (h : x ∈ wrapW b k oa oo l) : x = wLp ∨ x = wRp ∨ x ∈ l := by
 unfold wrapW at h
 split at h
 · simp only [List.mem_cons, List.mem_append, List.not_mem_nil, or_false] at h
   rcases h with h | h | h
   · exact Or.inl h
   · exact Or.inr (Or.inr h)
   · exact Or.inr (Or.inl h)
 · exact Or.inr (Or.inr h)
def GoodW (S : List Bytes) (w : Bytes) : Prop := (coreW w).1 = 1 ∨ (coreW w).1 = 2 ∨ w ∈ S
theorem good_name {S : List Bytes} {s : Bytes} (h : nameOk s = true) : GoodW S s := by
 unfold nameOk at h
 rw [Bool.and_eq_true] at h
 exact Or.inl (by simpa using h.1)
theorem good_dec {S : List Bytes} {n : Nat} (h : n ≤ 1000000) : GoodW S (dec n) := Or.inr (Or.inl (by rw [dec_core (by omega)]))
theorem gKy {S : List Bytes} {w : Bytes} (h : ((coreW w).1 == 1) = true) : GoodW S w := Or.inl (by simpa using h)
theorem good_sym {S : List Bytes} {w : Bytes} (h : S.contains w = true) : GoodW S w := Or.inr (Or.inr (by simpa using h))
def symsN : List Bytes := [[61], [33, 61], [60], [60, 61], [62], [62, 61], [40], [41], [58], [44], [46]]
theorem good_F : ∀ (s : Nat) (t : Tree), t.size ≤ s → okF t = true → ∀ w ∈ wF t, GoodW symsN w
 | 0, t, h, _ => by have := tree_pos t; omega
 | s + 1, .mk op name cmp n ks, hs, hok => by
   rw [okF] at hok
   simp only [Bool.and_eq_true] at hok
   obtain ⟨⟨⟨h1, h2⟩, h3⟩, h4⟩ := hok
   rw [Tree.size] at hs
   have hk := okFs_all h4
   have ih : ∀ b, ∀ a ∈ wFs b ks, ∀ w ∈ a, GoodW symsN w := fun b a ha w hw => by
    rw [wFs_map] at ha
    obtain ⟨k, hm, rfl⟩ := List.mem_map.1 ha
    rcases mem_wrapW hw with rfl | rfl | hw
    · exact good_sym (by decide)
    · exact good_sym (by decide)
    · exact good_F s k (by have := kid_size hm; omega) (hk k hm) w hw
   intro w hw
   rw [wF] at hw
   by_cases o1 : op = 1
   · rw [if_pos o1] at hw; rw [List.mem_singleton.1 hw]; exact gKy (by decide)
   by_cases o2 : op = 2
   · rw [if_neg o1, if_pos o2] at hw; rw [List.mem_singleton.1 hw]; exact gKy (by decide)
   by_cases o3 : op = 3
   · rw [if_neg o1, if_neg o2, if_pos o3] at hw
     rw [if_pos o3] at h1
     rw [if_pos (Or.inl o3)] at h2
     simp only [Bool.and_eq_true, decide_eq_true_eq] at h1
     simp only [List.mem_cons, List.not_mem_nil, or_false] at hw
     rcases hw with rfl | rfl | rfl
     · exact good_name h2
     · have : cmp = 1 ∨ cmp = 2 ∨ cmp = 3 ∨ cmp = 4 ∨ cmp = 5 ∨ cmp = 6 := by omega
       rcases this with rfl | rfl | rfl | rfl | rfl | rfl <;> exact good_sym (by decide)
     · exact good_dec h1.2
   by_cases o4 : op = 4
   · rw [if_neg o1, if_neg o2, if_neg o3, if_pos o4] at hw
     rw [if_pos (Or.inr o4)] at h2
     rw [List.mem_singleton.1 hw]; exact good_name h2
   by_cases o5 : op = 5
   · rw [if_neg o1, if_neg o2, if_neg o3, if_neg o4, if_pos o5] at hw
     rcases List.mem_cons.1 hw with rfl | hw
     · exact gKy (by decide)
     · obtain ⟨a, ha, hw⟩ := List.mem_flatten.1 hw
       exact ih false a ha w hw
   by_cases o6 : op = 6
   · rw [if_neg o1, if_neg o2, if_neg o3, if_neg o4, if_neg o5, if_pos o6] at hw
     rcases mem_sepW hw with rfl | ⟨a, ha, hw⟩
     · exact gKy (by decide)
     · exact ih false a ha w hw
   by_cases o7 : op = 7
   · rw [if_neg o1, if_neg o2, if_neg o3, if_neg o4, if_neg o5, if_neg o6, if_pos o7] at hw
     rcases mem_sepW hw with rfl | ⟨a, ha, hw⟩
     · exact gKy (by decide)
     · exact ih true a ha w hw
   · rw [if_neg o1, if_neg o2, if_neg o3, if_neg o4, if_neg o5, if_neg o6, if_neg o7] at hw
     simp at hw
theorem good_S : ∀ (s : Nat) (t : Tree), t.size ≤ s → okS t = true → ∀ w ∈ wS t, GoodW symsN w
 | 0, t, h, _ => by have := tree_pos t; omega
 | s + 1, .mk op name cmp n ks, hs, hok => by
   rw [okS] at hok
   simp only [Bool.and_eq_true] at hok
   obtain ⟨⟨⟨h1, h2⟩, h3⟩, h4⟩ := hok
   rw [Tree.size] at hs
   have hk := okSs_all h4
   have ih : ∀ b, ∀ a ∈ wSs b ks, ∀ w ∈ a, GoodW symsN w := fun b a ha w hw => by
    rw [wSs_map] at ha
    obtain ⟨k, hm, rfl⟩ := List.mem_map.1 ha
    rcases mem_wrapW hw with rfl | rfl | hw
    · exact good_sym (by decide)
    · exact good_sym (by decide)
    · exact good_S s k (by have := kid_size hm; omega) (hk k hm) w hw
   intro w hw
   rw [wS] at hw
   by_cases o1 : op = 1
   · rw [if_pos o1] at hw; rw [List.mem_singleton.1 hw]; exact gKy (by decide)
   by_cases o2 : op = 2
   · rw [if_neg o1, if_pos o2] at hw; rw [List.mem_singleton.1 hw]; exact gKy (by decide)
   by_cases o3 : op = 3
   · rw [if_neg o1, if_neg o2, if_pos o3] at hw
     have hn0 : n ≤ 1000000 := by have := h1.2; rw [if_pos o3] at this; simpa using this
     simp only [List.mem_cons, List.not_mem_nil, or_false] at hw
     rcases hw with rfl | rfl
     · exact gKy (by decide)
     · exact good_dec hn0
   by_cases o4 : op = 4 ∨ op = 5 ∨ op = 6 ∨ op = 7
   · rw [if_neg o1, if_neg o2, if_neg o3, if_pos o4] at hw
     rw [if_pos o4] at h2
     simp only [List.mem_cons, List.not_mem_nil, or_false] at hw
     rcases hw with rfl | rfl
     · rcases o4 with rfl | rfl | rfl | rfl <;> exact gKy (by decide)
     · exact good_name h2
   by_cases o8 : op = 8
   · rw [if_neg o1, if_neg o2, if_neg o3, if_neg o4, if_pos o8] at hw
     rcases mem_sepW hw with rfl | ⟨a, ha, hw⟩
     · exact gKy (by decide)
     · exact ih false a ha w hw
   by_cases o9 : op = 9
   · rw [if_neg o1, if_neg o2, if_neg o3, if_neg o4, if_neg o8, if_pos o9] at hw
     rcases mem_sepW hw with rfl | ⟨a, ha, hw⟩
     · exact gKy (by decide)
     · exact ih true a ha w hw
   · rw [if_neg o1, if_neg o2, if_neg o3, if_neg o4, if_neg o8, if_neg o9] at hw
     simp at hw
theorem good_part {S : List Bytes} {b : Bool} {k : Bytes} {l : List Bytes} (hk : GoodW S k) (hl : ∀ w ∈ l, GoodW S w) : ∀ w ∈ partW b k l, GoodW S w := by
 unfold partW
 intro w hw
 split at hw
 · rcases List.mem_cons.1 hw with rfl | hw
   · exact hk
   · exact hl w hw
 · simp at hw
theorem good_P {p : Prov} (hp : WriteOk p) : ∀ w ∈ wP p, GoodW symsN w := by
 intro w hw
 unfold wP tail0 tail1 tail2 tail3 at hw
 simp only [List.mem_cons, List.mem_append, List.not_mem_nil, or_false] at hw
 rcases hw with rfl | rfl | rfl | hw | hw | hw | hw | hw | hw | rfl
 · have hr := hp.rank
   have : p.rank = 1 ∨ p.rank = 2 ∨ p.rank = 3 ∨ p.rank = 4 := by omega
   rcases this with h | h | h | h <;> rw [h] <;> exact gKy (by decide)
 · exact good_name hp.id
 · exact good_sym (by decide)
 · unfold kindW at hw
   split at hw
   · simp only [List.mem_cons, List.not_mem_nil, or_false] at hw
     rcases hw with rfl | rfl
     · exact gKy (by decide)
     · exact good_name hp.name
   · simp only [List.mem_cons, List.not_mem_nil, or_false] at hw
     rcases hw with rfl | rfl | rfl | rfl
     · exact gKy (by decide)
     · exact good_name hp.name
     · exact gKy (by decide)
     · exact good_dec hp.value
 · exact good_part (gKy (by decide)) (good_F _ _ (lR _) hp.cond) w hw
 · unfold excW at hw
   split at hw
   · simp at hw
   · rcases List.mem_cons.1 hw with rfl | hw
     · exact gKy (by decide)
     · rcases mem_sepW hw with rfl | ⟨a, ha, hw⟩
       · exact good_sym (by decide)
       · obtain ⟨s, hs, rfl⟩ := List.mem_map.1 ha
         rw [List.mem_singleton.1 hw]
         exact good_name (hp.exc s hs)
 · exact good_part (gKy (by decide)) (good_S _ _ (lR _) hp.beg) w hw
 · exact good_part (gKy (by decide)) (good_S _ _ (lR _) hp.fin) w hw
 · exact good_part (gKy (by decide)) (good_S _ _ (lR _) hp.aga) w hw
 · exact good_sym (by decide)
theorem takeWhile_full {α : Type} {p : α → Bool} : ∀ {l : List α}, (l.takeWhile p).length = l.length → ∀ x ∈ l, p x = true
 | [], _, x, hx => by simp at hx
 | a :: r, h, x, hx => by
   rw [List.takeWhile_cons] at h
   by_cases ha : p a = true
   · rw [if_pos ha] at h
     rcases List.mem_cons.1 hx with rfl | hx
     · exact ha
     · exact takeWhile_full (by simpa using h) x hx
   · rw [if_neg ha] at h; simp at h
theorem word_bytes {w : Bytes} (h : (coreW w).1 = 1 ∨ (coreW w).1 = 2) : w ≠ [] ∧ ∀ b ∈ w, wordB b = true := by
 obtain ⟨c, r, k, v, rfl, hl, hc⟩ := coreW_lex (w := w) (by omega)
 rw [hc] at h
 refine ⟨by simp, ?_⟩
 unfold lexOne at hl
 by_cases h1 : letterB c = true
 · rw [if_pos h1] at hl
   split at hl
   · cases hl
   · injection hl with hl
     simp only [Prod.mk.injEq] at hl
     have := takeWhile_full (p := wordB) (l := r) (by omega)
     intro b hb
     rcases List.mem_cons.1 hb with rfl | hb
     · unfold wordB; rw [h1]; rfl
     · exact this b hb
 · rw [if_neg h1] at hl
   by_cases h2 : digitB c = true
   · rw [if_pos h2] at hl
     split at hl
     · cases hl
     · injection hl with hl
       simp only [Prod.mk.injEq] at hl
       have := takeWhile_full (p := digitB) (l := r) (by omega)
       intro b hb
       rcases List.mem_cons.1 hb with rfl | hb
       · unfold wordB; rw [h2]; simp
       · unfold wordB; rw [this b hb]; simp
   · exfalso
     rw [if_neg h2] at hl
     split at hl
     · injection hl with hl
       simp only [Prod.mk.injEq] at hl
       simp only at h
       omega
     · split at hl
       · split at hl <;> (injection hl with hl; simp only [Prod.mk.injEq] at hl; simp only at h; omega)
       · split at hl
         · split at hl
           · injection hl with hl; simp only [Prod.mk.injEq] at hl; simp only at h; omega
           · cases hl
         · cases hl
theorem wordR_of {o c : List UInt8} (ho : ∀ x ∈ o, wordB x = false) (hc : ∀ x ∈ c, wordB x = false) {w : Bytes} (h : (coreW w).1 = 1 ∨ (coreW w).1 = 2) : WordR o c w := by
 obtain ⟨h1, h2⟩ := word_bytes h
 refine ⟨h1, fun hm => ?_, Or.inr (fun x hx hm => ?_), Or.inr (fun x hx e => ?_)⟩
 · have := h2 32 hm
   revert this; decide
 · have := h2 x hm
   rw [ho x hx] at this
   cases this
 · have := h2 x (List.mem_of_head? e)
   rw [hc x hx] at this
   cases this
abbrev opN : List UInt8 := [40]
abbrev clN : List UInt8 := [58, 44, 46, 41]
theorem lp_lex (r : Bytes) : lexOne 40 r = .ok (3, 1, 0) := by
 unfold lexOne
 rw [if_neg (by decide), if_neg (by decide), if_pos (by decide)]
theorem signsN : Signs (opN.map fun x => [x]) (clN.map fun x => [x]) where
 opn := by
  intro w hw
  simp only [List.map_cons, List.map_nil, List.mem_singleton] at hw
  subst hw
  exact ⟨40, rfl, lp_lex⟩
 cls := by
  intro w hw
  simp only [List.map_cons, List.map_nil, List.mem_cons, List.not_mem_nil, or_false] at hw
  rcases hw with rfl | rfl | rfl | rfl
  · exact ⟨58, rfl, by decide, by decide⟩
  · exact ⟨44, rfl, by decide, by decide⟩
  · exact ⟨46, rfl, by decide, by decide⟩
  · exact ⟨41, rfl, by decide, by decide⟩
theorem symR : ∀ w ∈ symsN, WordR opN clN w ∧ (coreW w).1 ≠ 0 := by
 intro w hw
 unfold symsN at hw
 simp only [List.mem_cons, List.not_mem_nil, or_false] at hw
 rcases hw with rfl | rfl | rfl | rfl | rfl | rfl | rfl | rfl | rfl | rfl | rfl <;> exact ⟨⟨by decide, by decide, by decide, by decide⟩, by decide⟩
theorem goodN {w : Bytes} (h : GoodW symsN w) : WordR opN clN w ∧ (coreW w).1 ≠ 0 := by
 rcases h with h | h | h
 · exact ⟨wordR_of (by decide) (by decide) (Or.inl h), by omega⟩
 · exact ⟨wordR_of (by decide) (by decide) (Or.inr h), by omega⟩
 · exact symR w h
/- the canonical text -/
def textN (p : Prov) : Bytes := glue (opN.map fun x => [x]) (clN.map fun x => [x]) (wP p)
theorem north_text {p : Prov} (hp : WriteOk p) : replF opN clN (joinB (wP p)) = textN p := (repl_glue (by decide) (by decide) (by decide) (wP p) (fun w hw => (goodN (good_P hp w hw)).1)).1
theorem north_lex {p : Prov} (hp : WriteOk p) : (∀ ts, lexF (textN p) = .ok ts → Texts (wP p) ts) ∧ ((∃ ts, lexF (textN p) = .ok ts) ↔ (textN p).length ≤ 20000 ∧ (wP p).length ≤ 5000) ∧ (∀ e, lexF (textN p) = .error e → e.1 = 2) := lexF_glue signsN (fun w hw => (goodN (good_P hp w hw)).2)
/- two provisions with one text are one -/
namespace So
def keyWords : List (List UInt8) := [[119, 104, 101, 114, 101], [116, 101, 114, 109], [113, 117, 101, 115, 116, 105, 111, 110], [103, 105, 118, 101, 115], [111, 118, 101, 114, 114, 105, 100, 101, 115], [115, 116, 97, 114, 116, 115], [101, 110, 100, 115], [114, 101, 116, 117, 114, 110, 115], [99, 104, 97, 114, 116, 101, 114], [115, 116, 97, 116, 117, 116, 101], [111, 114, 100, 101, 114], [114, 117, 108, 101], [121, 101, 115], [110, 111], [101, 113, 117, 97, 108], [117, 110, 108, 105, 107, 101], [98, 101, 108, 111, 119], [109, 111, 115, 116], [97, 98, 111, 118, 101], [108, 101, 97, 115, 116], [100, 101, 102, 105, 110, 101, 100], [110, 101, 103, 97, 116, 101, 100], [97, 108, 108], [97, 110, 121], [97, 108, 119, 97, 121, 115], [110, 101, 118, 101, 114], [100, 97, 121], [100, 101, 99, 114, 101, 101], [101, 118, 101, 110, 116], [98, 101, 103, 117, 110], [111, 118, 101, 114]]
def keyF (s : List UInt8) : Bool := keyWords.contains s
/- is the next token one of these words? -/
def seesF (ws : List (List UInt8)) (l : List Tok) : Bool := match l with | [] => false | t :: _ => isWord t && ws.contains t.text
def isF {α : Type} (w : List UInt8) (l : List Tok) (yes no : List Tok → R α) : R α := if seesF [w] l then yes l.tail else no l
def mustF (w : List UInt8) (l : List Tok) : R Unit := isF w l (fun r => .ok ((), r)) failR
def isNameF (l : List Tok) : Bool := match l with | [] => false | t :: _ => t.kind == 1 && !keyF t.text
def nameF (l : List Tok) : R (List UInt8) :=
 match l with
 | [] => failR []
 | t :: r => if t.kind == 1 && !keyF t.text then .ok (t.text, r) else failR (t :: r)
def numberF (l : List Tok) : R Nat :=
 match l with
 | [] => failR []
 | t :: r => if t.kind == 2 then .ok (t.n, r) else failR (t :: r)
def limitF (most : Nat) (l : List Tok) : R Nat := bindR (numberF l) fun v r => if most < v then .error (10, l) else .ok (v, r)
def chooseF (ws : List (List UInt8)) (l : List Tok) : R Nat :=
 match l with
 | [] => failR []
 | t :: r => if t.kind == 1 then (match ws.idxOf? t.text with | some i => .ok (i, r) | none => failR (t :: r)) else failR (t :: r)
abbrev Stack := List (Tree × Nat)
def deepK (l : Stack) : Nat := l.foldl (fun d x => max d (x.2 + 1)) 1
def combineF (op k : Nat) (at' : List Tok) (st : Stack) (r : List Tok) : R Stack :=
 if st.length < k then .error (5, at')
 else if 20 < deepK (st.drop (st.length - k)) then .error (2, at')
 else .ok (st.take (st.length - k) ++ [(.mk op [] 0 0 ((st.drop (st.length - k)).map (·.1)), deepK (st.drop (st.length - k)))], r)
/- the number behind all or any: at' begins with this word -/
def groupF (op : Nat) (at' : List Tok) (st : Stack) (l : List Tok) : R Stack :=
 bindR (numberF l) fun k r => if k < 2 then .error (5, at') else combineF op k at' st r
def pushF (st : Stack) (t : Tree) (r : List Tok) : R Stack := .ok (st ++ [(t, 1)], r)
def testF (st : Stack) (s : List UInt8) (r : List Tok) : R Stack :=
 bindR (limitF 1000000 r) fun v r2 => bindR (chooseF [[101, 113, 117, 97, 108], [117, 110, 108, 105, 107, 101], [98, 101, 108, 111, 119], [109, 111, 115, 116], [97, 98, 111, 118, 101], [108, 101, 97, 115, 116]] r2) fun c r3 => pushF st (.mk 3 s (1 + c) v []) r3
def itemF (st : Stack) (l : List Tok) : R Stack :=
 isF [121, 101, 115] l (fun r => pushF st (.mk 1 [] 0 0 []) r) fun l =>
 isF [110, 111] l (fun r => pushF st (.mk 2 [] 0 0 []) r) fun l =>
 isF [110, 101, 103, 97, 116, 101, 100] l (fun r => combineF 5 1 l st r) fun l =>
 isF [97, 108, 108] l (fun r => groupF 6 l st r) fun l =>
 isF [97, 110, 121] l (fun r => groupF 7 l st r) fun l =>
 bindR (nameF l) fun s r =>
 isF [100, 101, 102, 105, 110, 101, 100] r (fun r => pushF st (.mk 4 s 0 0 []) r) (testF st s)
def sitemF (st : Stack) (l : List Tok) : R Stack :=
 isF [97, 108, 119, 97, 121, 115] l (fun r => pushF st (.mk 1 [] 0 0 []) r) fun l =>
 isF [110, 101, 118, 101, 114] l (fun r => pushF st (.mk 2 [] 0 0 []) r) fun l =>
 isF [97, 108, 108] l (fun r => groupF 8 l st r) fun l =>
 isF [97, 110, 121] l (fun r => groupF 9 l st r) fun l =>
 if (l.head?.any fun t => t.kind == 2) then bindR (limitF 1000000 l) fun v r => bindR (mustF [100, 97, 121] r) fun _ r => pushF st (.mk 3 [] 0 v []) r
 else bindR (nameF l) fun s r => bindR (chooseF [[100, 101, 99, 114, 101, 101], [101, 118, 101, 110, 116], [98, 101, 103, 117, 110], [111, 118, 101, 114]] r) fun c r => pushF st (.mk (4 + c) s 0 0 []) r
def beginsF (l : List Tok) : Bool := isNameF l || seesF [[121, 101, 115], [110, 111], [110, 101, 103, 97, 116, 101, 100], [97, 108, 108], [97, 110, 121]] l
def beginsS (l : List Tok) : Bool := isNameF l || seesF [[97, 108, 119, 97, 121, 115], [110, 101, 118, 101, 114], [97, 108, 108], [97, 110, 121]] l || (l.head?.any fun t => t.kind == 2)
/- what stands in braces: f - 1 items may still come -/
def loopF (begins : List Tok → Bool) (item : Stack → List Tok → R Stack) : Nat → Stack → List Tok → R Stack
 | 0, _, l => .error (0, l)
 | f + 1, st, l =>
   if seesF [[125]] l then .ok (st, l)
   else if begins l then (if f = 0 then .error (2, l) else bindR (item st l) fun st r => loopF begins item f st r)
   else failR l
def topF (st : Stack) (l : List Tok) : R Tree := match st with | [x] => bindR (mustF [125] l) fun _ r => .ok (x.1, r) | _ => failR l
def bracesF (begins : List Tok → Bool) (item : Stack → List Tok → R Stack) (l : List Tok) : R Tree :=
 bindR (mustF [123] l) fun _ r => bindR (loopF begins item 201 [] r) topF
def formulaF : List Tok → R Tree := bracesF beginsF itemF
def startF : List Tok → R Tree := bracesF beginsS sitemF
def guardR {α : Type} (l : List Tok) (e : Nat) (x : R α) : R α := if e = 0 then x else .error (e, l)
def excC (out : List (List UInt8)) (s : List UInt8) : Nat := if out.contains s then 9 else if out.length = 20 then 2 else 0
def namesF : Nat → List (List UInt8) → List Tok → R (List (List UInt8))
 | 0, _, l => .error (0, l)
 | n + 1, out, l => bindR (nameF l) fun s r => guardR l (excC out s) <| isF [41] r (fun r => .ok (out ++ [s], r)) fun r => namesF n (out ++ [s]) r
def excF (l : List Tok) : R (List (List UInt8)) := bindR (mustF [40] l) fun _ r => namesF 22 [] r
def optR {α : Type} (w : List UInt8) (d : α) (p : List Tok → R α) (l : List Tok) : R α := isF w l p fun r => .ok (d, r)
def leafT (op : Nat) : Tree := .mk op [] 0 0 []
/- kind, name, value -/
def kindF (l : List Tok) : R (Nat × List UInt8 × Nat) :=
 isF [116, 101, 114, 109] l (fun r => bindR (nameF r) fun s r => .ok ((1, s, 0), r)) fun l =>
 bindR (mustF [113, 117, 101, 115, 116, 105, 111, 110] l) fun _ r => bindR (nameF r) fun s r => bindR (mustF [103, 105, 118, 101, 115] r) fun _ r => bindR (limitF 1000000 r) fun v r => .ok ((2, s, v), r)
def provF (l : List Tok) : R Prov :=
 bindR (optR [119, 104, 101, 114, 101] (leafT 1) formulaF l) fun cond r1 =>
 bindR (kindF r1) fun k r2 =>
 bindR (optR [111, 118, 101, 114, 114, 105, 100, 101, 115] [] excF r2) fun exc r3 =>
 bindR (optR [115, 116, 97, 114, 116, 115] (leafT 1) startF r3) fun beg r4 =>
 bindR (optR [101, 110, 100, 115] (leafT 2) startF r4) fun fin r5 =>
 bindR (optR [114, 101, 116, 117, 114, 110, 115] (leafT 2) startF r5) fun aga r6 =>
 bindR (mustF [91] r6) fun _ r7 =>
 bindR (chooseF [[99, 104, 97, 114, 116, 101, 114], [115, 116, 97, 116, 117, 116, 101], [111, 114, 100, 101, 114], [114, 117, 108, 101]] r7) fun rank r8 =>
 bindR (nameF r8) fun id r9 =>
 bindR (mustF [93] r9) fun _ r10 =>
 .ok (⟨id, 1 + rank, k.1, k.2.1, k.2.2, cond, exc, beg, fin, aga⟩, r10)
def endF {α : Type} (p : R α) : R α := bindR p fun x r => match r with | [] => .ok (x, []) | _ :: _ => failR r
def posAt (fin : Nat) (l : List Tok) : Nat := match l with | [] => fin | t :: _ => t.pos
def pr (l : List Tok) : R Prov := endF (provF l)
/- Parse: the provision, or an error and its offset -/
def parseF (l : List UInt8) : Except (Nat × Int) Prov :=
 match lexF l with
 | .error e => .error e
 | .ok ts => match pr ts with
   | .error (e, s) => .error (e, posAt l.length s)
   | .ok (p, _) => .ok p
end So
end Go.Proofs.YtbicmjmcdnkjhaaGreatDoor
