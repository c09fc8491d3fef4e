/- A provision written in the first language is read again, as a text. The parser of the second language as plain functions on lists. Formulas and conditions of the second language, written and read again. -/
import Derived.Test.YtbicmjmcdnkjhaaGreatDoorJNN4
import Derived.Test.YtbicmjmcdnkjhaaGreatDoorJNN1
set_option linter.unusedVariables false
set_option linter.unusedSimpArgs false
namespace Go.Proofs.YtbicmjmcdnkjhaaGreatDoor
theorem mem_sepW {w x : Bytes} : ∀ {l : List (List Bytes)}, x ∈ sepW w l → x = w ∨ ∃ a ∈ l, x ∈ a
 | [], h => by simp [sepW] at h
 | [a], h => Or.inr ⟨a, by simp, h⟩
 | a :: b :: r, h => by
   rw [show sepW w (a :: b :: r) = a ++ w :: sepW w (b :: r) from rfl] at h
   rw [List.mem_append, List.mem_cons] at h
   rcases h with h | h | h
   · exact Or.inr ⟨a, by simp, h⟩
   · exact Or.inl h
   · rcases mem_sepW h with h | ⟨c, hc, hx⟩
     · exact Or.inl h
     · exact Or.inr ⟨c, by simp at hc ⊢; right; exact hc, hx⟩
theorem mem_wrapW {b : Bool} {k : Tree} {oa oo : Nat} {l : List Bytes} {x : Bytes} (h : x ∈ wrapW b k oa oo l) : x = wLp ∨ x = wRp ∨ x ∈ l := by
 unfold wrapW at h
 split at h
 · simp only [List.mem_cons, List.mem_append, List.not_mem_nil, or_false] at h
   rcases h with h | h | h
   · exact Or.inl h
   · exact Or.inr (Or.inr h)
   · exact Or.inr (Or.inl h)
 · exact Or.inr (Or.inr h)
def GoodW (S : List Bytes) (w : Bytes) : Prop := (coreW w).1 = 1 ∨ (coreW w).1 = 2 ∨ w ∈ S
theorem good_name {S : List Bytes} {s : Bytes} (h : nameOk s = true) : GoodW S s := by
 unfold nameOk at h
 rw [Bool.and_eq_true] at h
 exact Or.inl (by simpa using h.1)
theorem good_dec {S : List Bytes} {n : Nat} (h : n ≤ 1000000) : GoodW S (dec n) := Or.inr (Or.inl (by rw [dec_core (by omega)]))
theorem good_key {S : List Bytes} {w : Bytes} (h : ((coreW w).1 == 1) = true) : GoodW S w := Or.inl (by simpa using h)
theorem good_sym {S : List Bytes} {w : Bytes} (h : S.contains w = true) : GoodW S w := Or.inr (Or.inr (by simpa using h))
def symsN : List Bytes := [[61], [33, 61], [60], [60, 61], [62], [62, 61], [40], [41], [58], [44], [46]]
theorem good_F : ∀ (s : Nat) (t : Tree), t.size ≤ s → okF t = true → ∀ w ∈ wF t, GoodW symsN w
 | 0, t, h, _ => by have := tree_pos t; omega
 | s + 1, .mk op name cmp n ks, hs, hok => by
   rw [okF] at hok
   simp only [Bool.and_eq_true] at hok
   obtain ⟨⟨⟨h1, h2⟩, h3⟩, h4⟩ := hok
   rw [Tree.size] at hs
   have hk := okFs_all h4
   have ih : ∀ b, ∀ a ∈ wFs b ks, ∀ w ∈ a, GoodW symsN w := fun b a ha w hw => by
    rw [wFs_map] at ha
    obtain ⟨k, hm, rfl⟩ := List.mem_map.1 ha
    rcases mem_wrapW hw with rfl | rfl | hw
    · exact good_sym (by decide)
    · exact good_sym (by decide)
    · exact good_F s k (by have := kid_size hm; omega) (hk k hm) w hw
   intro w hw
   rw [wF] at hw
   by_cases o1 : op = 1
   · rw [if_pos o1] at hw; rw [List.mem_singleton.1 hw]; exact good_key (by decide)
   by_cases o2 : op = 2
   · rw [if_neg o1, if_pos o2] at hw; rw [List.mem_singleton.1 hw]; exact good_key (by decide)
   by_cases o3 : op = 3
   · rw [if_neg o1, if_neg o2, if_pos o3] at hw
     rw [if_pos o3] at h1
     rw [if_pos (Or.inl o3)] at h2
     simp only [Bool.and_eq_true, decide_eq_true_eq] at h1
     simp only [List.mem_cons, List.not_mem_nil, or_false] at hw
     rcases hw with rfl | rfl | rfl
     · exact good_name h2
     · have : cmp = 1 ∨ cmp = 2 ∨ cmp = 3 ∨ cmp = 4 ∨ cmp = 5 ∨ cmp = 6 := by omega
       rcases this with rfl | rfl | rfl | rfl | rfl | rfl <;> exact good_sym (by decide)
     · exact good_dec h1.2
   by_cases o4 : op = 4
   · rw [if_neg o1, if_neg o2, if_neg o3, if_pos o4] at hw
     rw [if_pos (Or.inr o4)] at h2
     rw [List.mem_singleton.1 hw]; exact good_name h2
   by_cases o5 : op = 5
   · rw [if_neg o1, if_neg o2, if_neg o3, if_neg o4, if_pos o5] at hw
     rcases List.mem_cons.1 hw with rfl | hw
     · exact good_key (by decide)
     · obtain ⟨a, ha, hw⟩ := List.mem_flatten.1 hw
       exact ih false a ha w hw
   by_cases o6 : op = 6
   · rw [if_neg o1, if_neg o2, if_neg o3, if_neg o4, if_neg o5, if_pos o6] at hw
     rcases mem_sepW hw with rfl | ⟨a, ha, hw⟩
     · exact good_key (by decide)
     · exact ih false a ha w hw
   by_cases o7 : op = 7
   · rw [if_neg o1, if_neg o2, if_neg o3, if_neg o4, if_neg o5, if_neg o6, if_pos o7] at hw
     rcases mem_sepW hw with rfl | ⟨a, ha, hw⟩
     · exact good_key (by decide)
     · exact ih true a ha w hw
   · rw [if_neg o1, if_neg o2, if_neg o3, if_neg o4, if_neg o5, if_neg o6, if_neg o7] at hw
     simp at hw
theorem good_S : ∀ (s : Nat) (t : Tree), t.size ≤ s → okS t = true → ∀ w ∈ wS t, GoodW symsN w
 | 0, t, h, _ => by have := tree_pos t; omega
 | s + 1, .mk op name cmp n ks, hs, hok => by
   rw [okS] at hok
   simp only [Bool.and_eq_true] at hok
   obtain ⟨⟨⟨h1, h2⟩, h3⟩, h4⟩ := hok
   rw [Tree.size] at hs
   have hk := okSs_all h4
   have ih : ∀ b, ∀ a ∈ wSs b ks, ∀ w ∈ a, GoodW symsN w := fun b a ha w hw => by
    rw [wSs_map] at ha
    obtain ⟨k, hm, rfl⟩ := List.mem_map.1 ha
    rcases mem_wrapW hw with rfl | rfl | hw
    · exact good_sym (by decide)
    · exact good_sym (by decide)
    · exact good_S s k (by have := kid_size hm; omega) (hk k hm) w hw
   intro w hw
   rw [wS] at hw
   by_cases o1 : op = 1
   · rw [if_pos o1] at hw; rw [List.mem_singleton.1 hw]; exact good_key (by decide)
   by_cases o2 : op = 2
   · rw [if_neg o1, if_pos o2] at hw; rw [List.mem_singleton.1 hw]; exact good_key (by decide)
   by_cases o3 : op = 3
   · rw [if_neg o1, if_neg o2, if_pos o3] at hw
     have hn0 : n ≤ 1000000 := by have := h1.2; rw [if_pos o3] at this; simpa using this
     simp only [List.mem_cons, List.not_mem_nil, or_false] at hw
     rcases hw with rfl | rfl
     · exact good_key (by decide)
     · exact good_dec hn0
   by_cases o4 : op = 4 ∨ op = 5 ∨ op = 6 ∨ op = 7
   · rw [if_neg o1, if_neg o2, if_neg o3, if_pos o4] at hw
     rw [if_pos o4] at h2
     simp only [List.mem_cons, List.not_mem_nil, or_false] at hw
     rcases hw with rfl | rfl
     · rcases o4 with rfl | rfl | rfl | rfl <;> exact good_key (by decide)
     · exact good_name h2
   by_cases o8 : op = 8
   · rw [if_neg o1, if_neg o2, if_neg o3, if_neg o4, if_pos o8] at hw
     rcases mem_sepW hw with rfl | ⟨a, ha, hw⟩
     · exact good_key (by decide)
     · exact ih false a ha w hw
   by_cases o9 : op = 9
   · rw [if_neg o1, if_neg o2, if_neg o3, if_neg o4, if_neg o8, if_pos o9] at hw
     rcases mem_sepW hw with rfl | ⟨a, ha, hw⟩
     · exact good_key (by decide)
     · exact ih true a ha w hw
   · rw [if_neg o1, if_neg o2, if_neg o3, if_neg o4, if_neg o8, if_neg o9] at hw
     simp at hw
theorem good_part {S : List Bytes} {b : Bool} {k : Bytes} {l : List Bytes} (hk : GoodW S k) (hl : ∀ w ∈ l, GoodW S w) : ∀ w ∈ partW b k l, GoodW S w := by
 unfold partW
 intro w hw
 split at hw
 · rcases List.mem_cons.1 hw with rfl | hw
   · exact hk
   · exact hl w hw
 · simp at hw
theorem good_P {p : Prov} (hp : WriteOk p) : ∀ w ∈ wP p, GoodW symsN w := by
 intro w hw
 unfold wP tail0 tail1 tail2 tail3 at hw
 simp only [List.mem_cons, List.mem_append, List.not_mem_nil, or_false] at hw
 rcases hw with rfl | rfl | rfl | hw | hw | hw | hw | hw | hw | rfl
 · have hr := hp.rank
   have : p.rank = 1 ∨ p.rank = 2 ∨ p.rank = 3 ∨ p.rank = 4 := by omega
   rcases this with h | h | h | h <;> rw [h] <;> exact good_key (by decide)
 · exact good_name hp.id
 · exact good_sym (by decide)
 · unfold kindW at hw
   split at hw
   · simp only [List.mem_cons, List.not_mem_nil, or_false] at hw
     rcases hw with rfl | rfl
     · exact good_key (by decide)
     · exact good_name hp.name
   · simp only [List.mem_cons, List.not_mem_nil, or_false] at hw
     rcases hw with rfl | rfl | rfl | rfl
     · exact good_key (by decide)
     · exact good_name hp.name
     · exact good_key (by decide)
     · exact good_dec hp.value
 · exact good_part (good_key (by decide)) (good_F _ _ (Nat.le_refl _) hp.cond) w hw
 · unfold excW at hw
   split at hw
   · simp at hw
   · rcases List.mem_cons.1 hw with rfl | hw
     · exact good_key (by decide)
     · rcases mem_sepW hw with rfl | ⟨a, ha, hw⟩
       · exact good_sym (by decide)
       · obtain ⟨s, hs, rfl⟩ := List.mem_map.1 ha
         rw [List.mem_singleton.1 hw]
         exact good_name (hp.exc s hs)
 · exact good_part (good_key (by decide)) (good_S _ _ (Nat.le_refl _) hp.beg) w hw
 · exact good_part (good_key (by decide)) (good_S _ _ (Nat.le_refl _) hp.fin) w hw
 · exact good_part (good_key (by decide)) (good_S _ _ (Nat.le_refl _) hp.aga) w hw
 · exact good_sym (by decide)
theorem takeWhile_full {α : Type} {p : α → Bool} : ∀ {l : List α}, (l.takeWhile p).length = l.length → ∀ x ∈ l, p x = true
 | [], _, x, hx => by simp at hx
 | a :: r, h, x, hx => by
   rw [List.takeWhile_cons] at h
   by_cases ha : p a = true
   · rw [if_pos ha] at h
     rcases List.mem_cons.1 hx with rfl | hx
     · exact ha
     · exact takeWhile_full (by simpa using h) x hx
   · rw [if_neg ha] at h; simp at h
theorem word_bytes {w : Bytes} (h : (coreW w).1 = 1 ∨ (coreW w).1 = 2) : w ≠ [] ∧ ∀ b ∈ w, wordB b = true := by
 obtain ⟨c, r, k, v, rfl, hl, hc⟩ := coreW_lex (w := w) (by omega)
 rw [hc] at h
 refine ⟨by simp, ?_⟩
 unfold lexOne at hl
 by_cases h1 : letterB c = true
 · rw [if_pos h1] at hl
   split at hl
   · cases hl
   · injection hl with hl
     simp only [Prod.mk.injEq] at hl
     have := takeWhile_full (p := wordB) (l := r) (by omega)
     intro b hb
     rcases List.mem_cons.1 hb with rfl | hb
     · unfold wordB; rw [h1]; rfl
     · exact this b hb
 · rw [if_neg h1] at hl
   by_cases h2 : digitB c = true
   · rw [if_pos h2] at hl
     split at hl
     · cases hl
     · injection hl with hl
       simp only [Prod.mk.injEq] at hl
       have := takeWhile_full (p := digitB) (l := r) (by omega)
       intro b hb
       rcases List.mem_cons.1 hb with rfl | hb
       · unfold wordB; rw [h2]; simp
       · unfold wordB; rw [this b hb]; simp
   · exfalso
     rw [if_neg h2] at hl
     split at hl
     · injection hl with hl
       simp only [Prod.mk.injEq] at hl
       simp only at h
       omega
     · split at hl
       · split at hl <;> (injection hl with hl; simp only [Prod.mk.injEq] at hl; simp only at h; omega)
       · split at hl
         · split at hl
           · injection hl with hl; simp only [Prod.mk.injEq] at hl; simp only at h; omega
           · cases hl
         · cases hl
theorem wordR_of {o c : List UInt8} (ho : ∀ x ∈ o, wordB x = false) (hc : ∀ x ∈ c, wordB x = false) {w : Bytes} (h : (coreW w).1 = 1 ∨ (coreW w).1 = 2) : WordR o c w := by
 obtain ⟨h1, h2⟩ := word_bytes h
 refine ⟨h1, fun hm => ?_, Or.inr (fun x hx hm => ?_), Or.inr (fun x hx e => ?_)⟩
 · have := h2 32 hm
   revert this; decide
 · have := h2 x hm
   rw [ho x hx] at this
   cases this
 · have := h2 x (List.mem_of_head? e)
   rw [hc x hx] at this
   cases this
abbrev opN : List UInt8 := [40]
abbrev clN : List UInt8 := [58, 44, 46, 41]
theorem lp_lex (r : Bytes) : lexOne 40 r = .ok (3, 1, 0) := by
 unfold lexOne
 rw [if_neg (by decide), if_neg (by decide), if_pos (by decide)]
theorem signsN : Signs (opN.map fun x => [x]) (clN.map fun x => [x]) where
 opn := by
  intro w hw
  simp only [List.map_cons, List.map_nil, List.mem_singleton] at hw
  subst hw
  exact ⟨40, rfl, lp_lex⟩
 cls := by
  intro w hw
  simp only [List.map_cons, List.map_nil, List.mem_cons, List.not_mem_nil, or_false] at hw
  rcases hw with rfl | rfl | rfl | rfl
  · exact ⟨58, rfl, by decide, by decide⟩
  · exact ⟨44, rfl, by decide, by decide⟩
  · exact ⟨46, rfl, by decide, by decide⟩
  · exact ⟨41, rfl, by decide, by decide⟩
theorem symR : ∀ w ∈ symsN, WordR opN clN w ∧ (coreW w).1 ≠ 0 := by
 intro w hw
 unfold symsN at hw
 simp only [List.mem_cons, List.not_mem_nil, or_false] at hw
 rcases hw with rfl | rfl | rfl | rfl | rfl | rfl | rfl | rfl | rfl | rfl | rfl <;> exact ⟨⟨by decide, by decide, by decide, by decide⟩, by decide⟩
theorem goodN {w : Bytes} (h : GoodW symsN w) : WordR opN clN w ∧ (coreW w).1 ≠ 0 := by
 rcases h with h | h | h
 · exact ⟨wordR_of (by decide) (by decide) (Or.inl h), by omega⟩
 · exact ⟨wordR_of (by decide) (by decide) (Or.inr h), by omega⟩
 · exact symR w h
/- the canonical text -/
def textN (p : Prov) : Bytes := glue (opN.map fun x => [x]) (clN.map fun x => [x]) (wP p)
theorem north_text {p : Prov} (hp : WriteOk p) : replF opN clN (joinB (wP p)) = textN p := (repl_glue (by decide) (by decide) (by decide) (wP p) (fun w hw => (goodN (good_P hp w hw)).1)).1
theorem north_lex {p : Prov} (hp : WriteOk p) : (∀ ts, lexF (textN p) = .ok ts → Texts (wP p) ts) ∧ ((∃ ts, lexF (textN p) = .ok ts) ↔ (textN p).length ≤ 20000 ∧ (wP p).length ≤ 5000) ∧ (∀ e, lexF (textN p) = .error e → e.1 = 2) := lexF_glue signsN (fun w hw => (goodN (good_P hp w hw)).2)
theorem north_round {p : Prov} (hp : WriteOk p) {ts : List Tok} (h : lexF (textN p) = .ok ts) : parseF (textN p) = .ok p := by
 have h1 := (north_lex hp).1 ts h
 have h2 := (lexF_ok h).2.1
 unfold parseF
 rw [h]
 simp only []
 rw [prov_ok hp h1 (fuel_enough h2)]
 rfl
/- two provisions with one text are one -/
end Go.Proofs.YtbicmjmcdnkjhaaGreatDoor
namespace Go.Proofs.YtbicmjmcdnkjhaaGreatDoor
namespace So
def keyWords : List (List UInt8) := [[119, 104, 101, 114, 101], [116, 101, 114, 109], [113, 117, 101, 115, 116, 105, 111, 110], [103, 105, 118, 101, 115], [111, 118, 101, 114, 114, 105, 100, 101, 115], [115, 116, 97, 114, 116, 115], [101, 110, 100, 115], [114, 101, 116, 117, 114, 110, 115], [99, 104, 97, 114, 116, 101, 114], [115, 116, 97, 116, 117, 116, 101], [111, 114, 100, 101, 114], [114, 117, 108, 101], [121, 101, 115], [110, 111], [101, 113, 117, 97, 108], [117, 110, 108, 105, 107, 101], [98, 101, 108, 111, 119], [109, 111, 115, 116], [97, 98, 111, 118, 101], [108, 101, 97, 115, 116], [100, 101, 102, 105, 110, 101, 100], [110, 101, 103, 97, 116, 101, 100], [97, 108, 108], [97, 110, 121], [97, 108, 119, 97, 121, 115], [110, 101, 118, 101, 114], [100, 97, 121], [100, 101, 99, 114, 101, 101], [101, 118, 101, 110, 116], [98, 101, 103, 117, 110], [111, 118, 101, 114]]
def keyF (s : List UInt8) : Bool := keyWords.contains s
/- is the next token one of these words? -/
def seesF (ws : List (List UInt8)) (l : List Tok) : Bool := match l with | [] => false | t :: _ => isWord t && ws.contains t.text
def isF {α : Type} (w : List UInt8) (l : List Tok) (yes no : List Tok → R α) : R α := if seesF [w] l then yes l.tail else no l
def mustF (w : List UInt8) (l : List Tok) : R Unit := isF w l (fun r => .ok ((), r)) failR
def isNameF (l : List Tok) : Bool := match l with | [] => false | t :: _ => t.kind == 1 && !keyF t.text
def nameF (l : List Tok) : R (List UInt8) :=
 match l with
 | [] => failR []
 | t :: r => if t.kind == 1 && !keyF t.text then .ok (t.text, r) else failR (t :: r)
def numberF (l : List Tok) : R Nat :=
 match l with
 | [] => failR []
 | t :: r => if t.kind == 2 then .ok (t.n, r) else failR (t :: r)
def limitF (most : Nat) (l : List Tok) : R Nat := bindR (numberF l) fun v r => if most < v then .error (10, l) else .ok (v, r)
def chooseF (ws : List (List UInt8)) (l : List Tok) : R Nat :=
 match l with
 | [] => failR []
 | t :: r => if t.kind == 1 then (match ws.idxOf? t.text with | some i => .ok (i, r) | none => failR (t :: r)) else failR (t :: r)
abbrev Stack := List (Tree × Nat)
def deepK (l : Stack) : Nat := l.foldl (fun d x => max d (x.2 + 1)) 1
def combineF (op k : Nat) (at' : List Tok) (st : Stack) (r : List Tok) : R Stack :=
 if st.length < k then .error (5, at')
 else if 20 < deepK (st.drop (st.length - k)) then .error (2, at')
 else .ok (st.take (st.length - k) ++ [(.mk op [] 0 0 ((st.drop (st.length - k)).map (·.1)), deepK (st.drop (st.length - k)))], r)
/- the number behind all or any: at' begins with this word -/
def groupF (op : Nat) (at' : List Tok) (st : Stack) (l : List Tok) : R Stack :=
 bindR (numberF l) fun k r => if k < 2 then .error (5, at') else combineF op k at' st r
def pushF (st : Stack) (t : Tree) (r : List Tok) : R Stack := .ok (st ++ [(t, 1)], r)
def testF (st : Stack) (s : List UInt8) (r : List Tok) : R Stack :=
 bindR (limitF 1000000 r) fun v r2 => bindR (chooseF [[101, 113, 117, 97, 108], [117, 110, 108, 105, 107, 101], [98, 101, 108, 111, 119], [109, 111, 115, 116], [97, 98, 111, 118, 101], [108, 101, 97, 115, 116]] r2) fun c r3 => pushF st (.mk 3 s (1 + c) v []) r3
def itemF (st : Stack) (l : List Tok) : R Stack :=
 isF [121, 101, 115] l (fun r => pushF st (.mk 1 [] 0 0 []) r) fun l =>
 isF [110, 111] l (fun r => pushF st (.mk 2 [] 0 0 []) r) fun l =>
 isF [110, 101, 103, 97, 116, 101, 100] l (fun r => combineF 5 1 l st r) fun l =>
 isF [97, 108, 108] l (fun r => groupF 6 l st r) fun l =>
 isF [97, 110, 121] l (fun r => groupF 7 l st r) fun l =>
 bindR (nameF l) fun s r =>
 isF [100, 101, 102, 105, 110, 101, 100] r (fun r => pushF st (.mk 4 s 0 0 []) r) (testF st s)
def sitemF (st : Stack) (l : List Tok) : R Stack :=
 isF [97, 108, 119, 97, 121, 115] l (fun r => pushF st (.mk 1 [] 0 0 []) r) fun l =>
 isF [110, 101, 118, 101, 114] l (fun r => pushF st (.mk 2 [] 0 0 []) r) fun l =>
 isF [97, 108, 108] l (fun r => groupF 8 l st r) fun l =>
 isF [97, 110, 121] l (fun r => groupF 9 l st r) fun l =>
 if (l.head?.any fun t => t.kind == 2) then bindR (limitF 1000000 l) fun v r => bindR (mustF [100, 97, 121] r) fun _ r => pushF st (.mk 3 [] 0 v []) r
 else bindR (nameF l) fun s r => bindR (chooseF [[100, 101, 99, 114, 101, 101], [101, 118, 101, 110, 116], [98, 101, 103, 117, 110], [111, 118, 101, 114]] r) fun c r => pushF st (.mk (4 + c) s 0 0 []) r
def beginsF (l : List Tok) : Bool := isNameF l || seesF [[121, 101, 115], [110, 111], [110, 101, 103, 97, 116, 101, 100], [97, 108, 108], [97, 110, 121]] l
def beginsS (l : List Tok) : Bool := isNameF l || seesF [[97, 108, 119, 97, 121, 115], [110, 101, 118, 101, 114], [97, 108, 108], [97, 110, 121]] l || (l.head?.any fun t => t.kind == 2)
/- what stands in braces: f - 1 items may still come -/
def loopF (begins : List Tok → Bool) (item : Stack → List Tok → R Stack) : Nat → Stack → List Tok → R Stack
 | 0, _, l => .error (0, l)
 | f + 1, st, l =>
   if seesF [[125]] l then .ok (st, l)
   else if begins l then (if f = 0 then .error (2, l) else bindR (item st l) fun st r => loopF begins item f st r)
   else failR l
def topF (st : Stack) (l : List Tok) : R Tree := match st with | [x] => bindR (mustF [125] l) fun _ r => .ok (x.1, r) | _ => failR l
def bracesF (begins : List Tok → Bool) (item : Stack → List Tok → R Stack) (l : List Tok) : R Tree :=
 bindR (mustF [123] l) fun _ r => bindR (loopF begins item 201 [] r) topF
def formulaF : List Tok → R Tree := bracesF beginsF itemF
def startF : List Tok → R Tree := bracesF beginsS sitemF
def guardR {α : Type} (l : List Tok) (e : Nat) (x : R α) : R α := if e = 0 then x else .error (e, l)
def excC (out : List (List UInt8)) (s : List UInt8) : Nat := if out.contains s then 9 else if out.length = 20 then 2 else 0
def namesF : Nat → List (List UInt8) → List Tok → R (List (List UInt8))
 | 0, _, l => .error (0, l)
 | n + 1, out, l => bindR (nameF l) fun s r => guardR l (excC out s) <| isF [41] r (fun r => .ok (out ++ [s], r)) fun r => namesF n (out ++ [s]) r
def excF (l : List Tok) : R (List (List UInt8)) := bindR (mustF [40] l) fun _ r => namesF 22 [] r
def optR {α : Type} (w : List UInt8) (d : α) (p : List Tok → R α) (l : List Tok) : R α := isF w l p fun r => .ok (d, r)
def leafT (op : Nat) : Tree := .mk op [] 0 0 []
/- kind, name, value -/
def kindF (l : List Tok) : R (Nat × List UInt8 × Nat) :=
 isF [116, 101, 114, 109] l (fun r => bindR (nameF r) fun s r => .ok ((1, s, 0), r)) fun l =>
 bindR (mustF [113, 117, 101, 115, 116, 105, 111, 110] l) fun _ r => bindR (nameF r) fun s r => bindR (mustF [103, 105, 118, 101, 115] r) fun _ r => bindR (limitF 1000000 r) fun v r => .ok ((2, s, v), r)
def provF (l : List Tok) : R Prov :=
 bindR (optR [119, 104, 101, 114, 101] (leafT 1) formulaF l) fun cond r1 =>
 bindR (kindF r1) fun k r2 =>
 bindR (optR [111, 118, 101, 114, 114, 105, 100, 101, 115] [] excF r2) fun exc r3 =>
 bindR (optR [115, 116, 97, 114, 116, 115] (leafT 1) startF r3) fun beg r4 =>
 bindR (optR [101, 110, 100, 115] (leafT 2) startF r4) fun fin r5 =>
 bindR (optR [114, 101, 116, 117, 114, 110, 115] (leafT 2) startF r5) fun aga r6 =>
 bindR (mustF [91] r6) fun _ r7 =>
 bindR (chooseF [[99, 104, 97, 114, 116, 101, 114], [115, 116, 97, 116, 117, 116, 101], [111, 114, 100, 101, 114], [114, 117, 108, 101]] r7) fun rank r8 =>
 bindR (nameF r8) fun id r9 =>
 bindR (mustF [93] r9) fun _ r10 =>
 .ok (⟨id, 1 + rank, k.1, k.2.1, k.2.2, cond, exc, beg, fin, aga⟩, r10)
def endF {α : Type} (p : R α) : R α := bindR p fun x r => match r with | [] => .ok (x, []) | _ :: _ => failR r
def posAt (fin : Nat) (l : List Tok) : Nat := match l with | [] => fin | t :: _ => t.pos
def pr (l : List Tok) : R Prov := endF (provF l)
/- Parse: the provision, or an error and its offset -/
def parseF (l : List UInt8) : Except (Nat × Int) Prov :=
 match lexF l with
 | .error e => .error e
 | .ok ts => match pr ts with
   | .error (e, s) => .error (e, posAt l.length s)
   | .ok (p, _) => .ok p
end So
end Go.Proofs.YtbicmjmcdnkjhaaGreatDoor
namespace Go.Proofs.YtbicmjmcdnkjhaaGreatDoor
namespace So
def nameOk (s : Bytes) : Bool := (coreW s).1 == 1 && !keyF s
theorem name_is {s : Bytes} {t : Tok} {r : List Tok} (hn : nameOk s = true) (h : core t = coreW s) : isNameF (t :: r) = true ∧ nameF (t :: r) = .ok (s, r) := by
 unfold nameOk at hn
 rw [Bool.and_eq_true] at hn
 have h1 : t.kind = 1 := by rw [core_kind h]; simpa using hn.1
 have h2 : (t.kind == 1 && !keyF t.text) = true := by rw [core_text h, h1, hn.2]; rfl
 constructor
 · simpa [isNameF] using h2
 · simp only [nameF]
   rw [if_pos h2, core_text h]
theorem num_hit {n : Nat} {t : Tok} {r : List Tok} (hn : n ≤ 9999999) (h : core t = coreW (dec n)) : numberF (t :: r) = .ok (n, r) := by
 have h1 : t.kind = 2 := by rw [core_kind h, dec_core hn]
 have h2 : t.n = n := by rw [core_n h, dec_core hn]
 simp only [numberF]
 rw [if_pos (by rw [h1]; rfl), h2]
theorem lim_hit {n most : Nat} {t : Tok} {r : List Tok} (hn : n ≤ 9999999) (hm : n ≤ most) (h : core t = coreW (dec n)) : limitF most (t :: r) = .ok (n, r) := by
 unfold limitF
 rw [num_hit hn h]
 simp only [bindR]
 rw [if_neg (by omega)]
theorem choose_hit {ws : List Bytes} {w : Bytes} {i : Nat} {t : Tok} {r : List Tok} (h : core t = coreW w) (hk : (coreW w).1 = 1) (hi : ws.idxOf? w = some i) : chooseF ws (t :: r) = .ok (i, r) := by
 simp only [chooseF]
 rw [if_pos (by rw [core_kind h, hk]; rfl), core_text h, hi]
theorem sees_of {ws : List Bytes} {w : Bytes} {t : Tok} {r : List Tok} (h : core t = coreW w) (hk : WordK w) (hw : ws.contains w = true) : seesF ws (t :: r) = true := by
 simp only [seesF]
 have : isWord t = true := by
  unfold isWord
  rw [core_kind h]
  rcases hk with h | h <;> rw [h] <;> rfl
 rw [this, core_text h, hw]
 rfl
theorem sees_not {ws : List Bytes} {t : Tok} {r : List Tok} (hw : t.text ∉ ws) : seesF ws (t :: r) = false := by
 simp only [seesF]
 rw [show ws.contains t.text = false by simpa using hw, Bool.and_false]
theorem is_hit {α : Type} {w : Bytes} {t : Tok} {r : List Tok} {yes no : List Tok → R α} (h : core t = coreW w) (hk : WordK w) : isF w (t :: r) yes no = yes r := by
 unfold isF
 rw [if_pos (sees_of h hk (by simp))]
 rfl
theorem is_miss {α : Type} {w : Bytes} {t : Tok} {r : List Tok} {yes no : List Tok → R α} (h : t.text ≠ w) : isF w (t :: r) yes no = no (t :: r) := by
 unfold isF
 rw [if_neg (by rw [sees_not (by simpa using h)]; simp)]
theorem must_hit {w : Bytes} {t : Tok} {r : List Tok} (h : core t = coreW w) (hk : WordK w) : mustF w (t :: r) = .ok ((), r) := is_hit h hk
def cmpW : List Bytes := [[101, 113, 117, 97, 108], [117, 110, 108, 105, 107, 101], [98, 101, 108, 111, 119], [109, 111, 115, 116], [97, 98, 111, 118, 101], [108, 101, 97, 115, 116]]
abbrev wAll : Bytes := [97, 108, 108]
abbrev wAny : Bytes := [97, 110, 121]
mutual
def wF : Tree → List Bytes
 | .mk op name cmp n ks => wFs ks ++
   (if op = 1 then [[121, 101, 115]] else if op = 2 then [[110, 111]]
   else if op = 3 then [name, dec n, cmpW.getD (cmp - 1) []] else if op = 4 then [name, [100, 101, 102, 105, 110, 101, 100]]
   else if op = 5 then [[110, 101, 103, 97, 116, 101, 100]]
   else if op = 6 then [wAll, dec ks.length] else if op = 7 then [wAny, dec ks.length] else [])
def wFs : List Tree → List Bytes
 | [] => []
 | k :: r => wF k ++ wFs r
end
mutual
def okF : Tree → Bool
 | .mk op name cmp n ks =>
   (if op = 3 then decide (1 ≤ cmp) && decide (cmp ≤ 6) && decide (n ≤ 1000000) else decide (cmp = 0) && decide (n = 0)) &&
   (if op = 3 ∨ op = 4 then nameOk name else decide (name = [])) &&
   (if op = 1 ∨ op = 2 ∨ op = 3 ∨ op = 4 then decide (ks.length = 0) else if op = 5 then decide (ks.length = 1) else if op = 6 ∨ op = 7 then decide (2 ≤ ks.length) else false) && okFs ks
def okFs : List Tree → Bool
 | [] => true
 | k :: r => okF k && okFs r
end
theorem okFs_all : ∀ {ks : List Tree}, okFs ks = true → ∀ k ∈ ks, okF k = true
 | [], _, k, hk => by simp at hk
 | a :: r, h, k, hk => by
   rw [okFs, Bool.and_eq_true] at h
   rcases List.mem_cons.1 hk with rfl | hk
   · exact h.1
   · exact okFs_all h.2 k hk
theorem kid_deep : ∀ {ks : List Tree} {k : Tree}, k ∈ ks → k.deep ≤ deeps ks
 | [], k, hk => by simp at hk
 | a :: r, k, hk => by
   rw [deeps]
   rcases List.mem_cons.1 hk with rfl | hk
   · omega
   · have := kid_deep hk; omega
def entry (k : Tree) : Tree × Nat := (k, k.deep)
theorem deepK_fold : ∀ (ks : List Tree) (d : Nat), (ks.map entry).foldl (fun d x => max d (x.2 + 1)) d = max d (if ks = [] then 0 else deeps ks + 1)
 | [], d => by simp
 | k :: r, d => by
   rw [List.map_cons, List.foldl_cons, deepK_fold r]
   simp only [entry, deeps, if_neg (List.cons_ne_nil k r)]
   by_cases hr : r = []
   · subst hr; simp [deeps]
   · rw [if_neg hr]; omega
theorem deepK_kids {ks : List Tree} (h : ks ≠ []) : deepK (ks.map entry) = deeps ks + 1 := by
 unfold deepK
 rw [deepK_fold, if_neg h]
 omega
theorem combine_ok {op k : Nat} {at' r : List Tok} {st : Stack} {ks : List Tree} (hk : k = ks.length) (hne : ks ≠ []) (hd : deeps ks + 1 ≤ 20) :
 combineF op k at' (st ++ ks.map entry) r = .ok (st ++ [(.mk op [] 0 0 ks, deeps ks + 1)], r) := by
 unfold combineF
 have e1 : (st ++ ks.map entry).length - k = st.length := by simp [hk]
 have e2 : (st ++ ks.map entry).drop st.length = ks.map entry := by simp
 have e3 : (st ++ ks.map entry).take st.length = st := by simp
 rw [if_neg (by simp [hk]), e1, e2, e3, deepK_kids hne, if_neg (by omega)]
 have e4 : (ks.map entry).map (·.1) = ks := by
  rw [List.map_map]
  exact List.map_id ks
 rw [e4]
theorem group_ok {op n : Nat} {at' r : List Tok} {t : Tok} {st : Stack} {ks : List Tree} (hn : n = ks.length) (h2 : 2 ≤ ks.length) (hm : ks.length ≤ 9999999) (hd : deeps ks + 1 ≤ 20) (h : core t = coreW (dec n)) :
 groupF op at' (st ++ ks.map entry) (t :: r) = .ok (st ++ [(.mk op [] 0 0 ks, deeps ks + 1)], r) := by
 unfold groupF
 rw [num_hit (by omega) h]
 simp only [bindR]
 rw [if_neg (by omega)]
 exact combine_ok hn (by rintro rfl; simp at h2) hd
theorem loop_item {begins : List Tok → Bool} {item : Stack → List Tok → R Stack} {f : Nat} {st st' : Stack} {t : Tok} {l r : List Tok} (h1 : t.text ∉ ([[125]] : List Bytes)) (h2 : begins (t :: l) = true) (hf : 0 < f) (h3 : item st (t :: l) = .ok (st', r)) :
 loopF begins item (f + 1) st (t :: l) = loopF begins item f st' r := by
 conv => lhs; unfold loopF
 rw [if_neg (by rw [sees_not h1]; simp), if_pos h2, if_neg (by omega), h3]
 rfl
theorem name_not {s : Bytes} (h : nameOk s = true) {A : List Bytes} (hA : ∀ w ∈ A, ((coreW w).1 == 1 && !keyF w) = false) : s ∉ A := fun hm => by
 have := hA s hm
 unfold nameOk at h
 rw [h] at this
 cases this
theorem cmp_hit {c : Nat} (h1 : 1 ≤ c) (h2 : c ≤ 6) : (coreW (cmpW.getD (c - 1) [])).1 = 1 ∧ cmpW.idxOf? (cmpW.getD (c - 1) []) = some (c - 1) := by
 have : c = 1 ∨ c = 2 ∨ c = 3 ∨ c = 4 ∨ c = 5 ∨ c = 6 := by omega
 rcases this with rfl | rfl | rfl | rfl | rfl | rfl <;> exact ⟨by decide, by decide⟩
theorem kids_len : ∀ (ks : List Tree), ks.length ≤ sizes ks
 | [] => by simp
 | k :: r => by rw [sizes]; have := kids_len r; have := tree_pos k; simp; omega
theorem run_kids {begins : List Tok → Bool} {item : Stack → List Tok → R Stack} {w : Tree → List Bytes} : ∀ (ks : List Tree) (f : Nat) (st : Stack) (l rest : List Tok), Texts (ks.flatMap w) l → sizes ks ≤ f →
 (∀ k ∈ ks, ∀ f st l rest, Texts (w k) l → k.size ≤ f → loopF begins item (f + 1) st (l ++ rest) = loopF begins item (f + 1 - k.size) (st ++ [entry k]) rest) →
 loopF begins item (f + 1) st (l ++ rest) = loopF begins item (f + 1 - sizes ks) (st ++ ks.map entry) rest
 | [], f, st, l, rest, hl, _, _ => by
   obtain rfl := hl.nil
   simp [sizes]
 | k :: r, f, st, l, rest, hl, hf, ih => by
   rw [List.flatMap_cons] at hl
   obtain ⟨l1, l2, rfl, h1, h2⟩ := hl.app
   rw [sizes] at hf
   have hs := tree_pos k
   rw [List.append_assoc, ih k (by simp) f st l1 (l2 ++ rest) h1 (by omega)]
   obtain ⟨g, hg⟩ : ∃ g, f + 1 - k.size = g + 1 := ⟨f - k.size, by omega⟩
   rw [hg, run_kids r g (st ++ [entry k]) l2 rest h2 (by omega) (fun x hx => ih x (by simp [hx]))]
   rw [sizes]
   rw [show g + 1 - sizes r = f + 1 - (k.size + sizes r) by omega]
   simp
theorem wFs_flat : ∀ ks : List Tree, wFs ks = ks.flatMap wF
 | [] => rfl
 | k :: r => by rw [wFs, wFs_flat r, List.flatMap_cons]
theorem run_F : ∀ (s : Nat) (t : Tree), t.size ≤ s → okF t = true → t.deep ≤ 20 → ∀ f st l rest, Texts (wF t) l → t.size ≤ f → t.size ≤ 200 → loopF beginsF itemF (f + 1) st (l ++ rest) = loopF beginsF itemF (f + 1 - t.size) (st ++ [entry t]) rest
 | 0, t, h, _, _ => by have := tree_pos t; omega
 | s + 1, .mk op name cmp n ks, hs, hok, hd => by
   rw [okF] at hok
   simp only [Bool.and_eq_true] at hok
   obtain ⟨⟨⟨h1, h2⟩, h3⟩, h4⟩ := hok
   have hd0 := hd
   rw [Tree.deep] at hd
   rw [Tree.size] at hs
   have hk := okFs_all h4
   intro f st l rest hl hf h200
   rw [Tree.size] at hf h200 ⊢
   rw [wF, wFs_flat] at hl
   obtain ⟨l1, l2, rfl, hl1, hl2⟩ := hl.app
   have hkids := run_kids ks f st l1 (l2 ++ rest) hl1 (by omega) (fun k hm f' st' l' rest' ht hf' => run_F s k (by have := kid_size hm; omega) (hk k hm) (by have := kid_deep hm; omega) f' st' l' rest' ht hf' (by have := kid_size hm; omega))
   rw [List.append_assoc, hkids]
   obtain ⟨g, hg⟩ : ∃ g, f + 1 - sizes ks = (g + 1) + 1 := ⟨f - sizes ks - 1, by omega⟩
   rw [hg, show f + 1 - (1 + sizes ks) = g + 1 by omega]
   have hent : entry (.mk op name cmp n ks) = (.mk op name cmp n ks, deeps ks + 1) := by unfold entry; rw [Tree.deep]
   rw [hent]
   by_cases o1 : op = 1
   · subst o1
     rw [if_pos rfl] at hl2
     rw [if_neg (by decide)] at h1 h2
     rw [if_pos (by decide)] at h3
     simp only [Bool.and_eq_true, decide_eq_true_eq] at h1 h2 h3
     obtain ⟨t0, l3, rfl, h0, hl3⟩ := hl2.cons
     obtain rfl := hl3.nil
     obtain ⟨hc, hnn⟩ := h1
     obtain rfl := List.length_eq_zero_iff.1 h3
     subst hc hnn h2
     simp only [List.cons_append, List.nil_append]
     refine loop_item (by rw [core_text h0]; decide) ?_ (by omega) ?_
     · unfold beginsF
       rw [sees_of h0 (wordK_const (by decide)) (by decide), Bool.or_true]
     · unfold itemF
       rw [is_hit h0 (wordK_const (by decide))]
       simp [pushF, deeps]
   by_cases o2 : op = 2
   · subst o2
     rw [if_neg (by decide), if_pos rfl] at hl2
     rw [if_neg (by decide)] at h1 h2
     rw [if_pos (by decide)] at h3
     simp only [Bool.and_eq_true, decide_eq_true_eq] at h1 h2 h3
     obtain ⟨t0, l3, rfl, h0, hl3⟩ := hl2.cons
     obtain rfl := hl3.nil
     obtain ⟨hc, hnn⟩ := h1
     obtain rfl := List.length_eq_zero_iff.1 h3
     subst hc hnn h2
     simp only [List.cons_append, List.nil_append]
     refine loop_item (by rw [core_text h0]; decide) ?_ (by omega) ?_
     · unfold beginsF
       rw [sees_of h0 (wordK_const (by decide)) (by decide), Bool.or_true]
     · unfold itemF
       rw [is_miss (by rw [core_text h0]; decide), is_hit h0 (wordK_const (by decide))]
       simp [pushF, deeps]
   by_cases o3 : op = 3
   · subst o3
     rw [if_neg (by decide), if_neg (by decide), if_pos rfl] at hl2
     rw [if_pos rfl] at h1
     rw [if_pos (by decide)] at h2 h3
     simp only [Bool.and_eq_true, decide_eq_true_eq] at h1 h3
     obtain ⟨⟨c1, c2⟩, c3⟩ := h1
     obtain rfl := List.length_eq_zero_iff.1 h3
     obtain ⟨t0, l3, rfl, h0, hl3⟩ := hl2.cons
     obtain ⟨t1, l4, rfl, hh1, hl4⟩ := hl3.cons
     obtain ⟨t2, l5, rfl, hh2, hl5⟩ := hl4.cons
     obtain rfl := hl5.nil
     obtain ⟨g1, g2⟩ := cmp_hit c1 c2
     obtain ⟨n1, n2⟩ := name_is (r := t1 :: t2 :: rest) h2 h0
     have nt : ∀ w, ((coreW w).1 == 1 && !keyF w) = false → t0.text ≠ w := fun w hw e => by
      rw [core_text h0] at e
      have := name_not h2 (A := [w]) (by simpa using hw)
      exact this (by simp [e])
     simp only [List.cons_append, List.nil_append]
     refine loop_item (by simpa using nt [125] (by decide)) ?_ (by omega) ?_
     · unfold beginsF
       try simp only [List.cons_append] at n1 ⊢
       rw [n1, Bool.true_or]
     · unfold itemF
       try simp only [List.cons_append] at n2 ⊢
       rw [is_miss (nt _ (by decide)), is_miss (nt _ (by decide)), is_miss (nt _ (by decide)), is_miss (nt _ (by decide)), is_miss (nt _ (by decide)), n2]
       simp only [bindR]
       rw [is_miss (by
        rw [core_text hh1]; intro e
        have h9 : (coreW (dec n)).1 = 2 := by rw [dec_core (by omega)]
        rw [e] at h9; exact absurd h9 (by decide))]
       unfold testF
       rw [lim_hit (by omega) c3 hh1]
       simp only [bindR]
       rw [choose_hit (ws := [[101, 113, 117, 97, 108], [117, 110, 108, 105, 107, 101], [98, 101, 108, 111, 119], [109, 111, 115, 116], [97, 98, 111, 118, 101], [108, 101, 97, 115, 116]]) hh2 g1 g2]
       simp only [pushF, deeps]
       rw [show 1 + (cmp - 1) = cmp by omega]
       simp
   by_cases o4 : op = 4
   · subst o4
     rw [if_neg (by decide), if_neg (by decide), if_neg (by decide), if_pos rfl] at hl2
     rw [if_neg (by decide)] at h1
     rw [if_pos (by decide)] at h2 h3
     simp only [Bool.and_eq_true, decide_eq_true_eq] at h1 h3
     obtain ⟨hc, hnn⟩ := h1
     obtain rfl := List.length_eq_zero_iff.1 h3
     obtain ⟨t0, l3, rfl, h0, hl3⟩ := hl2.cons
     obtain ⟨t1, l4, rfl, hh1, hl4⟩ := hl3.cons
     obtain rfl := hl4.nil
     subst hc hnn
     obtain ⟨n1, n2⟩ := name_is (r := t1 :: rest) h2 h0
     have nt : ∀ w, ((coreW w).1 == 1 && !keyF w) = false → t0.text ≠ w := fun w hw e => by
      rw [core_text h0] at e
      have := name_not h2 (A := [w]) (by simpa using hw)
      exact this (by simp [e])
     simp only [List.cons_append, List.nil_append]
     refine loop_item (by simpa using nt [125] (by decide)) ?_ (by omega) ?_
     · unfold beginsF
       try simp only [List.cons_append] at n1 ⊢
       rw [n1, Bool.true_or]
     · unfold itemF
       try simp only [List.cons_append] at n2 ⊢
       rw [is_miss (nt _ (by decide)), is_miss (nt _ (by decide)), is_miss (nt _ (by decide)), is_miss (nt _ (by decide)), is_miss (nt _ (by decide)), n2]
       simp only [bindR]
       rw [is_hit hh1 (wordK_const (by decide))]
       simp [pushF, deeps]
   have hnn : cmp = 0 ∧ n = 0 := by rw [if_neg o3] at h1; simpa using h1
   have hnm : name = [] := by rw [if_neg (by omega)] at h2; simpa using h2
   obtain ⟨hc, hn0⟩ := hnn
   subst hc hn0 hnm
   have hkl := kids_len ks
   by_cases o5 : op = 5
   · subst o5
     rw [if_neg (by decide), if_neg (by decide), if_neg (by decide), if_neg (by decide), if_pos rfl] at hl2
     rw [if_neg (by decide), if_pos rfl] at h3
     have h3' : ks.length = 1 := by simpa using h3
     obtain ⟨t0, l3, rfl, h0, hl3⟩ := hl2.cons
     obtain rfl := hl3.nil
     simp only [List.cons_append, List.nil_append]
     refine loop_item (by rw [core_text h0]; decide) ?_ (by omega) ?_
     · unfold beginsF
       rw [sees_of h0 (wordK_const (by decide)) (by decide), Bool.or_true]
     · unfold itemF
       rw [is_miss (by rw [core_text h0]; decide), is_miss (by rw [core_text h0]; decide), is_hit h0 (wordK_const (by decide))]
       exact combine_ok h3'.symm (by rintro rfl; simp at h3') hd
   by_cases o6 : op = 6
   · subst o6
     rw [if_neg (by decide), if_neg (by decide), if_neg (by decide), if_neg (by decide), if_neg (by decide), if_pos rfl] at hl2
     rw [if_neg (by decide), if_neg (by decide), if_pos (by decide)] at h3
     have h3' : 2 ≤ ks.length := by simpa using h3
     obtain ⟨t0, l3, rfl, h0, hl3⟩ := hl2.cons
     obtain ⟨t1, l4, rfl, hh1, hl4⟩ := hl3.cons
     obtain rfl := hl4.nil
     simp only [List.cons_append, List.nil_append]
     refine loop_item (by rw [core_text h0]; decide) ?_ (by omega) ?_
     · unfold beginsF
       rw [sees_of h0 (wordK_const (by decide)) (by decide), Bool.or_true]
     · unfold itemF
       rw [is_miss (by rw [core_text h0]; decide), is_miss (by rw [core_text h0]; decide), is_miss (by rw [core_text h0]; decide), is_hit h0 (wordK_const (by decide))]
       exact group_ok rfl h3' (by omega) hd hh1
   by_cases o7 : op = 7
   · subst o7
     rw [if_neg (by decide), if_neg (by decide), if_neg (by decide), if_neg (by decide), if_neg (by decide), if_neg (by decide), if_pos rfl] at hl2
     rw [if_neg (by decide), if_neg (by decide), if_pos (by decide)] at h3
     have h3' : 2 ≤ ks.length := by simpa using h3
     obtain ⟨t0, l3, rfl, h0, hl3⟩ := hl2.cons
     obtain ⟨t1, l4, rfl, hh1, hl4⟩ := hl3.cons
     obtain rfl := hl4.nil
     simp only [List.cons_append, List.nil_append]
     refine loop_item (by rw [core_text h0]; decide) ?_ (by omega) ?_
     · unfold beginsF
       rw [sees_of h0 (wordK_const (by decide)) (by decide), Bool.or_true]
     · unfold itemF
       rw [is_miss (by rw [core_text h0]; decide), is_miss (by rw [core_text h0]; decide), is_miss (by rw [core_text h0]; decide), is_miss (by rw [core_text h0]; decide), is_hit h0 (wordK_const (by decide))]
       exact group_ok rfl h3' (by omega) hd hh1
   · exfalso
     rw [if_neg (by omega), if_neg o5, if_neg (by omega)] at h3
     cases h3
theorem formula_ok {t : Tree} (hok : okF t = true) (hsm : small t = true) {l rest : List Tok} (hl : Texts ([123] :: (wF t ++ [[125]])) l) : formulaF (l ++ rest) = .ok (t, rest) := by
 unfold small at hsm
 rw [Bool.and_eq_true] at hsm
 simp only [decide_eq_true_eq] at hsm
 obtain ⟨t0, l1, rfl, h0, hl1⟩ := hl.cons
 obtain ⟨l2, l3, rfl, h2, h3⟩ := hl1.app
 obtain ⟨t3, l4, rfl, h4, h5⟩ := h3.cons
 obtain rfl := h5.nil
 have e : t0 :: (l2 ++ [t3]) ++ rest = t0 :: (l2 ++ t3 :: rest) := by simp
 rw [e]
 unfold formulaF bracesF
 rw [must_hit h0 (wordK_const (by decide))]
 simp only [bindR]
 have hr := run_F t.size t (Nat.le_refl _) hok hsm.2 200 [] l2 (t3 :: rest) h2 hsm.1 hsm.1
 obtain ⟨g, hg⟩ : ∃ g, 200 + 1 - t.size = g + 1 := ⟨200 - t.size, by omega⟩
 rw [hg] at hr
 rw [hr]
 unfold loopF
 rw [if_pos (sees_of h4 (wordK_const (by decide)) (by decide))]
 simp only [List.nil_append, topF]
 rw [must_hit h4 (wordK_const (by decide))]
 rfl
end So
end Go.Proofs.YtbicmjmcdnkjhaaGreatDoor
