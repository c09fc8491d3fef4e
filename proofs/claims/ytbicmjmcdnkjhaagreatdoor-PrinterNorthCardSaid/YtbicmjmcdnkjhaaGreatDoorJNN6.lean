/- Conditions of commencement of the second language, written and read again; provisions. A provision written in the second language is read again, as a text. -/
import Derived.Test.YtbicmjmcdnkjhaaGreatDoorJNN5
set_option linter.unusedVariables false
set_option linter.unusedSimpArgs false
namespace Go.Proofs.YtbicmjmcdnkjhaaGreatDoor
namespace So
def opsW : List Bytes := [[100, 101, 99, 114, 101, 101], [101, 118, 101, 110, 116], [98, 101, 103, 117, 110], [111, 118, 101, 114]]
mutual
def wS : Tree → List Bytes
 | .mk op name cmp n ks => wSs ks ++
   (if op = 1 then [[97, 108, 119, 97, 121, 115]] else if op = 2 then [[110, 101, 118, 101, 114]]
   else if op = 3 then [dec n, [100, 97, 121]] else if op = 4 ∨ op = 5 ∨ op = 6 ∨ op = 7 then [name, opsW.getD (op - 4) []]
   else if op = 8 then [wAll, dec ks.length] else if op = 9 then [wAny, dec ks.length] else [])
def wSs : List Tree → List Bytes
 | [] => []
 | k :: r => wS k ++ wSs r
end
mutual
def okS : Tree → Bool
 | .mk op name cmp n ks =>
   (decide (cmp = 0) && (if op = 3 then decide (n ≤ 1000000) else decide (n = 0))) &&
   (if op = 4 ∨ op = 5 ∨ op = 6 ∨ op = 7 then nameOk name else decide (name = [])) &&
   (if op = 8 ∨ op = 9 then decide (2 ≤ ks.length) else if 1 ≤ op ∧ op ≤ 7 then decide (ks.length = 0) else false) && okSs ks
def okSs : List Tree → Bool
 | [] => true
 | k :: r => okS k && okSs r
end
theorem okSs_all : ∀ {ks : List Tree}, okSs ks = true → ∀ k ∈ ks, okS k = true
 | [], _, k, hk => by simp at hk
 | a :: r, h, k, hk => by
   rw [okSs, Bool.and_eq_true] at h
   rcases List.mem_cons.1 hk with rfl | hk
   · exact h.1
   · exact okSs_all h.2 k hk
theorem wSs_flat : ∀ ks : List Tree, wSs ks = ks.flatMap wS
 | [] => rfl
 | k :: r => by rw [wSs, wSs_flat r, List.flatMap_cons]
theorem op_hit {op : Nat} (h : op = 4 ∨ op = 5 ∨ op = 6 ∨ op = 7) : (coreW (opsW.getD (op - 4) [])).1 = 1 ∧ opsW.idxOf? (opsW.getD (op - 4) []) = some (op - 4) := by
 rcases h with rfl | rfl | rfl | rfl <;> exact ⟨by decide, by decide⟩
theorem dec_not {n : Nat} (h : n ≤ 9999999) {t : Tok} (ht : core t = coreW (dec n)) {w : Bytes} (hw : (coreW w).1 ≠ 2) : t.text ≠ w := by
 rw [core_text ht]
 intro e
 have h9 : (coreW (dec n)).1 = 2 := by rw [dec_core h]
 rw [e] at h9
 exact hw h9
theorem run_S : ∀ (s : Nat) (t : Tree), t.size ≤ s → okS t = true → t.deep ≤ 20 → ∀ f st l rest, Texts (wS t) l → t.size ≤ f → t.size ≤ 200 → loopF beginsS sitemF (f + 1) st (l ++ rest) = loopF beginsS sitemF (f + 1 - t.size) (st ++ [entry t]) rest
 | 0, t, h, _, _ => by have := tree_pos t; omega
 | s + 1, .mk op name cmp n ks, hs, hok, hd => by
   rw [okS] at hok
   simp only [Bool.and_eq_true] at hok
   obtain ⟨⟨⟨h1, h2⟩, h3⟩, h4⟩ := hok
   have hop := opS h3
   rw [Tree.deep] at hd
   rw [Tree.size] at hs
   have hk := okSs_all h4
   have hc0 : cmp = 0 := by simpa using h1.1
   intro f st l rest hl hf h200
   rw [Tree.size] at hf h200 ⊢
   rw [wS, wSs_flat] at hl
   obtain ⟨l1, l2, rfl, hl1, hl2⟩ := hl.app
   have hkids := run_kids ks f st l1 (l2 ++ rest) hl1 (by omega) (fun k hm f' st' l' rest' ht hf' => run_S s k (by have := kid_size hm; omega) (hk k hm) (by have := kid_deep hm; omega) f' st' l' rest' ht hf' (by have := kid_size hm; omega))
   rw [List.append_assoc, hkids]
   obtain ⟨g, hg⟩ : ∃ g, f + 1 - sizes ks = (g + 1) + 1 := ⟨f - sizes ks - 1, by omega⟩
   rw [hg, show f + 1 - (1 + sizes ks) = g + 1 by omega]
   have hent : entry (.mk op name cmp n ks) = (.mk op name cmp n ks, deeps ks + 1) := by unfold entry; rw [Tree.deep]
   rw [hent]
   subst hc0
   by_cases o1 : op = 1
   · subst o1
     rw [if_pos rfl] at hl2
     have hn0 : n = 0 := by simpa using h1.2
     have hnm : name = [] := by simpa using h2
     have hk0 : ks = [] := List.length_eq_zero_iff.1 (by omega)
     obtain ⟨t0, l3, rfl, h0, hl3⟩ := hl2.cons
     obtain rfl := hl3.nil
     subst hn0 hnm hk0
     simp only [List.cons_append, List.nil_append]
     refine loop_item (by rw [core_text h0]; decide) ?_ (by omega) ?_
     · unfold beginsS
       rw [sees_of h0 (wordK_const (by decide)) (by decide), Bool.or_true, Bool.true_or]
     · unfold sitemF
       rw [is_hit h0 (wordK_const (by decide))]
       simp [pushF, deeps]
   by_cases o2 : op = 2
   · subst o2
     rw [if_neg (by decide), if_pos rfl] at hl2
     have hn0 : n = 0 := by simpa using h1.2
     have hnm : name = [] := by simpa using h2
     have hk0 : ks = [] := List.length_eq_zero_iff.1 (by omega)
     obtain ⟨t0, l3, rfl, h0, hl3⟩ := hl2.cons
     obtain rfl := hl3.nil
     subst hn0 hnm hk0
     simp only [List.cons_append, List.nil_append]
     refine loop_item (by rw [core_text h0]; decide) ?_ (by omega) ?_
     · unfold beginsS
       rw [sees_of h0 (wordK_const (by decide)) (by decide), Bool.or_true, Bool.true_or]
     · unfold sitemF
       rw [is_miss (by rw [core_text h0]; decide), is_hit h0 (wordK_const (by decide))]
       simp [pushF, deeps]
   by_cases o3 : op = 3
   · subst o3
     rw [if_neg (by decide), if_neg (by decide), if_pos rfl] at hl2
     have hn0 : n ≤ 1000000 := by simpa using h1.2
     have hnm : name = [] := by simpa using h2
     have hk0 : ks = [] := List.length_eq_zero_iff.1 (by omega)
     obtain ⟨t0, l3, rfl, h0, hl3⟩ := hl2.cons
     obtain ⟨t1, l4, rfl, hh1, hl4⟩ := hl3.cons
     obtain rfl := hl4.nil
     subst hnm hk0
     have hk2 : t0.kind = 2 := by rw [core_kind h0, dec_core (by omega)]
     have nt : ∀ w, (coreW w).1 ≠ 2 → t0.text ≠ w := fun w hw => dec_not (by omega) h0 hw
     simp only [List.cons_append, List.nil_append]
     refine loop_item (by simpa using nt [125] (by decide)) ?_ (by omega) ?_
     · unfold beginsS
       simp [hk2]
     · unfold sitemF
       rw [is_miss (nt _ (by decide)), is_miss (nt _ (by decide)), is_miss (nt _ (by decide)), is_miss (nt _ (by decide))]
       rw [if_pos (by simp [hk2]), lim_hit (by omega) hn0 h0]
       simp only [bindR]
       rw [must_hit hh1 (wordK_const (by decide))]
       simp [pushF, deeps]
   by_cases o4 : op = 4 ∨ op = 5 ∨ op = 6 ∨ op = 7
   · rw [if_neg o1, if_neg o2, if_neg o3, if_pos o4] at hl2
     rw [if_pos o4] at h2
     have hn0 : n = 0 := by have := h1.2; rw [if_neg o3] at this; simpa using this
     have hk0 : ks = [] := List.length_eq_zero_iff.1 (by omega)
     obtain ⟨t0, l3, rfl, h0, hl3⟩ := hl2.cons
     obtain ⟨t1, l4, rfl, hh1, hl4⟩ := hl3.cons
     obtain rfl := hl4.nil
     subst hn0 hk0
     obtain ⟨g1, g2⟩ := op_hit o4
     obtain ⟨n1, n2⟩ := name_is (r := t1 :: rest) h2 h0
     have nt : ∀ w, ((coreW w).1 == 1 && !keyF w) = false → t0.text ≠ w := fun w hw e => by
      rw [core_text h0] at e
      have := name_not h2 (A := [w]) (by simpa using hw)
      exact this (by simp [e])
     have hk1 : t0.kind = 1 := by
      rw [core_kind h0]
      unfold nameOk at h2
      rw [Bool.and_eq_true] at h2
      simpa using h2.1
     simp only [List.cons_append, List.nil_append]
     refine loop_item (by simpa using nt [125] (by decide)) ?_ (by omega) ?_
     · unfold beginsS
       rw [n1, Bool.true_or, Bool.true_or]
     · unfold sitemF
       rw [is_miss (nt _ (by decide)), is_miss (nt _ (by decide)), is_miss (nt _ (by decide)), is_miss (nt _ (by decide))]
       rw [if_neg (by simp [hk1]), n2]
       simp only [bindR]
       rw [choose_hit (ws := [[100, 101, 99, 114, 101, 101], [101, 118, 101, 110, 116], [98, 101, 103, 117, 110], [111, 118, 101, 114]]) hh1 g1 g2]
       simp only [pushF, deeps]
       rw [show 4 + (op - 4) = op by omega]
       simp
   have hn0 : n = 0 := by have := h1.2; rw [if_neg o3] at this; simpa using this
   have hnm : name = [] := by rw [if_neg o4] at h2; simpa using h2
   have hkl := kids_len ks
   subst hn0 hnm
   by_cases o8 : op = 8
   · subst o8
     rw [if_neg (by decide), if_neg (by decide), if_neg (by decide), if_neg (by decide), if_pos rfl] at hl2
     obtain ⟨t0, l3, rfl, h0, hl3⟩ := hl2.cons
     obtain ⟨t1, l4, rfl, hh1, hl4⟩ := hl3.cons
     obtain rfl := hl4.nil
     simp only [List.cons_append, List.nil_append]
     refine loop_item (by rw [core_text h0]; decide) ?_ (by omega) ?_
     · unfold beginsS
       rw [sees_of h0 (wordK_const (by decide)) (by decide), Bool.or_true, Bool.true_or]
     · unfold sitemF
       rw [is_miss (by rw [core_text h0]; decide), is_miss (by rw [core_text h0]; decide), is_hit h0 (wordK_const (by decide))]
       exact group_ok rfl (by omega) (by omega) hd hh1
   · have o9 : op = 9 := by omega
     subst o9
     rw [if_neg (by decide), if_neg (by decide), if_neg (by decide), if_neg (by decide), if_neg (by decide), if_pos rfl] at hl2
     obtain ⟨t0, l3, rfl, h0, hl3⟩ := hl2.cons
     obtain ⟨t1, l4, rfl, hh1, hl4⟩ := hl3.cons
     obtain rfl := hl4.nil
     simp only [List.cons_append, List.nil_append]
     refine loop_item (by rw [core_text h0]; decide) ?_ (by omega) ?_
     · unfold beginsS
       rw [sees_of h0 (wordK_const (by decide)) (by decide), Bool.or_true, Bool.true_or]
     · unfold sitemF
       rw [is_miss (by rw [core_text h0]; decide), is_miss (by rw [core_text h0]; decide), is_miss (by rw [core_text h0]; decide), is_hit h0 (wordK_const (by decide))]
       exact group_ok rfl (by omega) (by omega) hd hh1
theorem start_ok {t : Tree} (hok : okS t = true) (hsm : small t = true) {l rest : List Tok} (hl : Texts ([123] :: (wS t ++ [[125]])) l) : startF (l ++ rest) = .ok (t, rest) := by
 unfold small at hsm
 rw [Bool.and_eq_true] at hsm
 simp only [decide_eq_true_eq] at hsm
 obtain ⟨t0, l1, rfl, h0, hl1⟩ := hl.cons
 obtain ⟨l2, l3, rfl, h2, h3⟩ := hl1.app
 obtain ⟨t3, l4, rfl, h4, h5⟩ := h3.cons
 obtain rfl := h5.nil
 have e : t0 :: (l2 ++ [t3]) ++ rest = t0 :: (l2 ++ t3 :: rest) := by simp
 rw [e]
 unfold startF bracesF
 rw [must_hit h0 (wordK_const (by decide))]
 simp only [bindR]
 have hr := run_S t.size t (Nat.le_refl _) hok hsm.2 200 [] l2 (t3 :: rest) h2 hsm.1 hsm.1
 obtain ⟨g, hg⟩ : ∃ g, 200 + 1 - t.size = g + 1 := ⟨200 - t.size, by omega⟩
 rw [hg] at hr
 rw [hr]
 unfold loopF
 rw [if_pos (sees_of h4 (wordK_const (by decide)) (by decide))]
 simp only [List.nil_append, topF]
 rw [must_hit h4 (wordK_const (by decide))]
 rfl
/- provisions -/
def ranksS : List Bytes := [[99, 104, 97, 114, 116, 101, 114], [115, 116, 97, 116, 117, 116, 101], [111, 114, 100, 101, 114], [114, 117, 108, 101]]
abbrev wWhere : Bytes := [119, 104, 101, 114, 101]
abbrev wOver : Bytes := [111, 118, 101, 114, 114, 105, 100, 101, 115]
abbrev wStarts : Bytes := [115, 116, 97, 114, 116, 115]
abbrev wEnds : Bytes := [101, 110, 100, 115]
abbrev wRet : Bytes := [114, 101, 116, 117, 114, 110, 115]
def brW (l : List Bytes) : List Bytes := [123] :: (l ++ [[125]])
def excW (exc : List Bytes) : List Bytes := if exc = [] then [] else wOver :: [40] :: (exc ++ [[41]])
def kindW (p : Prov) : List Bytes := if p.kind = 1 then [[116, 101, 114, 109], p.name] else [[113, 117, 101, 115, 116, 105, 111, 110], p.name, [103, 105, 118, 101, 115], dec p.value]
def endW (p : Prov) : List Bytes := [[91], ranksS.getD (p.rank - 1) [], p.id, [93]]
def tail3 (p : Prov) : List Bytes := partW (p.aga.op != 2) wRet (brW (wS p.aga)) ++ endW p
def tail2 (p : Prov) : List Bytes := partW (p.fin.op != 2) wEnds (brW (wS p.fin)) ++ tail3 p
def tail1 (p : Prov) : List Bytes := partW (p.beg.op != 1) wStarts (brW (wS p.beg)) ++ tail2 p
def tail0 (p : Prov) : List Bytes := excW p.exc ++ tail1 p
def wP (p : Prov) : List Bytes := partW (p.cond.op != 1) wWhere (brW (wF p.cond)) ++ (kindW p ++ tail0 p)
structure WriteOk (p : Prov) : Prop where
 rank : 1 ≤ p.rank ∧ p.rank ≤ 4
 id : nameOk p.id = true
 kind : p.kind = 1 ∧ p.value = 0 ∨ p.kind = 2
 name : nameOk p.name = true
 value : p.value ≤ 1000000
 cond : okF p.cond = true
 condS : small p.cond = true
 exc : ∀ s ∈ p.exc, nameOk s = true
 excN : p.exc.Nodup
 excL : p.exc.length ≤ 20
 beg : okS p.beg = true
 begS : small p.beg = true
 fin : okS p.fin = true
 finS : small p.fin = true
 aga : okS p.aga = true
 agaS : small p.aga = true
theorem head3 (p : Prov) : HeadIn (tail3 p) [wRet, [91]] := HeadIn.part (by simp) (fun w r e => by unfold endW at e; simp at e; simp [← e.1])
theorem head2 (p : Prov) : HeadIn (tail2 p) [wEnds, wRet, [91]] := HeadIn.part (by simp) ((head3 p).sub (fun x hx => List.mem_cons_of_mem _ hx))
theorem head1 (p : Prov) : HeadIn (tail1 p) [wStarts, wEnds, wRet, [91]] := HeadIn.part (by simp) ((head2 p).sub (fun x hx => List.mem_cons_of_mem _ hx))
theorem is_rest {α : Type} {w : Bytes} {l : List Tok} {yes no : List Tok → R α} (h : NotIn [w] l) : isF w l yes no = no l := by
 cases l with
 | nil => rfl
 | cons t r => exact is_miss (fun e => h t r rfl (by simp [e]))
theorem absS {t : Tree} {o : Nat} (h : okS t = true) (ho : (t.op != o) = false) (h12 : o = 1 ∨ o = 2) : t = leafT o := by
 cases t with
 | mk op name cmp n ks =>
   have e : op = o := by simpa using ho
   subst e
   rw [okS] at h
   simp only [Bool.and_eq_true] at h
   obtain ⟨⟨⟨⟨h0, h1⟩, h2⟩, h3⟩, h4⟩ := h
   rw [if_neg (by omega)] at h1 h2
   rcases opS h3 with ⟨h5, _⟩ | ⟨_, h5⟩
   · omega
   · simp only [decide_eq_true_eq] at h0 h1 h2
     rw [h0, h1, h2, List.length_eq_zero_iff.1 h5]; rfl
theorem absF {t : Tree} (h : okF t = true) (ho : (t.op != 1) = false) : t = leafT 1 := by
 cases t with
 | mk op name cmp n ks =>
   have e : op = 1 := by simpa using ho
   subst e
   rw [okF] at h
   simp only [Bool.and_eq_true] at h
   obtain ⟨⟨⟨h1, h2⟩, h3⟩, h4⟩ := h
   rw [if_neg (by decide)] at h1 h2
   rw [if_pos (by decide)] at h3
   simp only [Bool.and_eq_true, decide_eq_true_eq] at h1 h2 h3
   rw [h1.1, h1.2, h2, List.length_eq_zero_iff.1 h3]; rfl
theorem when_ok {t : Tree} {o : Nat} {w : Bytes} {T H : List Bytes} {l : List Tok} (hw : WordK w) (h12 : o = 1 ∨ o = 2) (hok : okS t = true) (hsm : small t = true) (hT : HeadIn T H) (hH : ∀ x ∈ H, x ∉ [w]) (hl : Texts (partW (t.op != o) w (brW (wS t)) ++ T) l) :
 ∃ r, optR w (leafT o) startF l = .ok (t, r) ∧ Texts T r := by
 unfold optR
 cases hp : (t.op != o) with
 | false =>
   rw [hp] at hl
   simp only [partW, Bool.false_eq_true, if_false, List.nil_append] at hl
   refine ⟨l, ?_, hl⟩
   rw [is_rest (hT.notIn hl hH), absS hok hp h12]
 | true =>
   rw [hp] at hl
   simp only [partW, if_true, List.cons_append] at hl
   obtain ⟨t0, l1, rfl, h0, hl1⟩ := hl.cons
   obtain ⟨l2, r, rfl, h2, h3⟩ := hl1.app
   refine ⟨r, ?_, h3⟩
   rw [is_hit h0 hw]
   exact start_ok hok hsm h2
theorem if_ok {t : Tree} {T H : List Bytes} {l : List Tok} (hok : okF t = true) (hsm : small t = true) (hT : HeadIn T H) (hH : ∀ x ∈ H, x ∉ [wWhere]) (hl : Texts (partW (t.op != 1) wWhere (brW (wF t)) ++ T) l) :
 ∃ r, optR wWhere (leafT 1) formulaF l = .ok (t, r) ∧ Texts T r := by
 unfold optR
 cases hp : (t.op != 1) with
 | false =>
   rw [hp] at hl
   simp only [partW, Bool.false_eq_true, if_false, List.nil_append] at hl
   refine ⟨l, ?_, hl⟩
   rw [is_rest (hT.notIn hl hH), absF hok hp]
 | true =>
   rw [hp] at hl
   simp only [partW, if_true, List.cons_append] at hl
   obtain ⟨t0, l1, rfl, h0, hl1⟩ := hl.cons
   obtain ⟨l2, r, rfl, h2, h3⟩ := hl1.app
   refine ⟨r, ?_, h3⟩
   rw [is_hit h0 (wordK_const (by decide))]
   exact formula_ok hok hsm h2
theorem names_ok : ∀ (xs : List Bytes) (n : Nat) (out : List Bytes) (T : List Bytes) (l : List Tok), xs ≠ [] → xs.length ≤ n → (∀ s ∈ xs, nameOk s = true) → (out ++ xs).Nodup → (out ++ xs).length ≤ 20 → Texts (xs ++ [41] :: T) l →
 ∃ r, namesF n out l = .ok (out ++ xs, r) ∧ Texts T r
 | [], _, _, _, _, h, _, _, _, _, _ => absurd rfl h
 | x :: xs, 0, _, _, _, _, hn, _, _, _, _ => by simp at hn
 | [x], n + 1, out, T, l, _, _, hok, hnd, hlen, hl => by
   obtain ⟨t0, l1, rfl, h0, h1⟩ := Texts.cons (w := x) (W := [41] :: T) hl
   obtain ⟨t1, r, rfl, h2, h3⟩ := h1.cons
   refine ⟨r, ?_, h3⟩
   unfold namesF
   rw [(name_is (hok x (by simp)) h0).2]
   have hx : x ∉ out := by
    have := (List.nodup_append.1 hnd).2.2
    exact fun hm => this x hm x (by simp) rfl
   have he : excC out x = 0 := by
    unfold excC
    rw [if_neg (by simpa using hx), if_neg (by simp at hlen; omega)]
   simp only [bindR, guardR, he, if_true]
   rw [is_hit h2 (wordK_const (by decide))]
 | x :: y :: xs, n + 1, out, T, l, _, hn, hok, hnd, hlen, hl => by
   obtain ⟨t0, l1, rfl, h0, h1⟩ := Texts.cons (w := x) (W := (y :: xs) ++ [41] :: T) hl
   have e : out ++ x :: y :: xs = (out ++ [x]) ++ y :: xs := by simp
   rw [e] at hnd hlen ⊢
   obtain ⟨r, hr, hr2⟩ := names_ok (y :: xs) n (out ++ [x]) T l1 (by simp) (by simp at hn ⊢; omega) (fun s hs => hok s (by simp at hs ⊢; right; exact hs)) hnd hlen h1
   refine ⟨r, ?_, hr2⟩
   unfold namesF
   rw [(name_is (hok x (by simp)) h0).2]
   have hx : x ∉ out := by
    have := (List.nodup_append.1 ((List.nodup_append.1 hnd).1)).2.2
    exact fun hm => this x hm x (by simp) rfl
   have he : excC out x = 0 := by
    unfold excC
    rw [if_neg (by simpa using hx), if_neg (by simp at hlen; omega)]
   simp only [bindR, guardR, he, if_true]
   rw [is_rest]
   · exact hr
   · obtain ⟨t1, l2, rfl, h2, h3⟩ := Texts.cons (w := y) (W := xs ++ [41] :: T) h1
     exact NotIn.mk h2 (name_not (hok y (by simp)) (by decide))
theorem exc_ok {p : Prov} (hp : WriteOk p) {l : List Tok} (hl : Texts (tail0 p) l) : ∃ r, optR wOver [] excF l = .ok (p.exc, r) ∧ Texts (tail1 p) r := by
 unfold optR
 unfold tail0 excW at hl
 by_cases he : p.exc = []
 · rw [if_pos he] at hl
   simp only [List.nil_append] at hl
   refine ⟨l, ?_, hl⟩
   rw [is_rest ((head1 p).notIn hl (by decide)), he]
 · rw [if_neg he] at hl
   obtain ⟨t0, l1, rfl, h0, h1⟩ := Texts.cons (w := wOver) hl
   obtain ⟨t1, l2, rfl, h2, h3⟩ := Texts.cons (w := [40]) h1
   have h3' : Texts (p.exc ++ [41] :: tail1 p) l2 := by simpa using h3
   obtain ⟨r, h4, h5⟩ := names_ok p.exc 22 [] (tail1 p) l2 he (by have := hp.excL; omega) hp.exc (by simpa using hp.excN) (by simpa using hp.excL) h3'
   refine ⟨r, ?_, h5⟩
   rw [is_hit h0 (wordK_const (by decide))]
   unfold excF
   rw [must_hit h2 (wordK_const (by decide))]
   simpa [bindR] using h4
theorem rank_hit {k : Nat} (h : 1 ≤ k ∧ k ≤ 4) : (coreW (ranksS.getD (k - 1) [])).1 = 1 ∧ ranksS.idxOf? (ranksS.getD (k - 1) []) = some (k - 1) := by
 have : k = 1 ∨ k = 2 ∨ k = 3 ∨ k = 4 := by omega
 rcases this with rfl | rfl | rfl | rfl <;> exact ⟨by decide, by decide⟩
theorem kind_ok {p : Prov} (hp : WriteOk p) {T : List Bytes} {l : List Tok} (hl : Texts (kindW p ++ T) l) : ∃ r, kindF l = .ok ((p.kind, p.name, p.value), r) ∧ Texts T r := by
 unfold kindF
 unfold kindW at hl
 rcases hp.kind with ⟨h1, h2⟩ | h1
 · rw [if_pos h1] at hl
   obtain ⟨t0, l1, rfl, h3, hl1⟩ := Texts.cons (w := [116, 101, 114, 109]) hl
   obtain ⟨t1, l2, rfl, h4, hl2⟩ := Texts.cons (w := p.name) (W := T) hl1
   refine ⟨l2, ?_, hl2⟩
   rw [is_hit h3 (wordK_const (by decide)), (name_is hp.name h4).2]
   simp only [bindR]
   rw [h1, h2]
 · rw [if_neg (by omega)] at hl
   obtain ⟨t0, l1, rfl, h3, hl1⟩ := Texts.cons (w := [113, 117, 101, 115, 116, 105, 111, 110]) hl
   obtain ⟨t1, l2, rfl, h4, hl2⟩ := Texts.cons (w := p.name) hl1
   obtain ⟨t2, l3, rfl, h5, hl3⟩ := Texts.cons (w := [103, 105, 118, 101, 115]) hl2
   obtain ⟨t3, l4, rfl, h6, hl4⟩ := Texts.cons (w := dec p.value) (W := T) hl3
   refine ⟨l4, ?_, hl4⟩
   rw [is_miss (by rw [core_text h3]; decide), must_hit h3 (wordK_const (by decide))]
   simp only [bindR]
   rw [(name_is hp.name h4).2]
   simp only []
   rw [must_hit h5 (wordK_const (by decide))]
   simp only []
   rw [lim_hit (by have := hp.value; omega) hp.value h6, h1]
theorem head_kind (p : Prov) (T : List Bytes) : HeadIn (kindW p ++ T) [[116, 101, 114, 109], [113, 117, 101, 115, 116, 105, 111, 110]] := by
 unfold kindW
 split <;> (intro w r e; simp only [List.cons_append, List.cons.injEq] at e; rw [← e.1]; simp)
theorem prov_ok {p : Prov} (hp : WriteOk p) {l : List Tok} (hl : Texts (wP p) l) : provF l = .ok (p, []) := by
 unfold wP at hl
 obtain ⟨l1, k1, hl1⟩ := if_ok hp.cond hp.condS (head_kind p (tail0 p)) (by decide) hl
 obtain ⟨l2, k2, hl2⟩ := kind_ok hp hl1
 obtain ⟨l3, k3, hl3⟩ := exc_ok hp hl2
 obtain ⟨l4, k4, hl4⟩ := when_ok (w := wStarts) (o := 1) (wordK_const (by decide)) (Or.inl rfl) hp.beg hp.begS (head2 p) (by decide) hl3
 obtain ⟨l5, k5, hl5⟩ := when_ok (w := wEnds) (o := 2) (wordK_const (by decide)) (Or.inr rfl) hp.fin hp.finS (head3 p) (by decide) hl4
 obtain ⟨l6, k6, hl6⟩ := when_ok (w := wRet) (o := 2) (T := endW p) (H := [[91]]) (wordK_const (by decide)) (Or.inr rfl) hp.aga hp.agaS (fun w r e => by unfold endW at e; simp at e; simp [← e.1]) (by decide) hl5
 unfold endW at hl6
 obtain ⟨t0, l7, rfl, h0, hl7⟩ := hl6.cons
 obtain ⟨t1, l8, rfl, h1, hl8⟩ := hl7.cons
 obtain ⟨t2, l9, rfl, h2, hl9⟩ := hl8.cons
 obtain ⟨t3, l10, rfl, h3, hl10⟩ := hl9.cons
 obtain rfl := hl10.nil
 obtain ⟨g1, g2⟩ := rank_hit hp.rank
 unfold provF
 rw [k1]
 simp only [bindR]
 rw [k2]
 simp only []
 rw [k3]
 simp only []
 rw [k4]
 simp only []
 rw [k5]
 simp only []
 rw [k6]
 simp only []
 rw [must_hit h0 (wordK_const (by decide))]
 simp only []
 rw [choose_hit (ws := [[99, 104, 97, 114, 116, 101, 114], [115, 116, 97, 116, 117, 116, 101], [111, 114, 100, 101, 114], [114, 117, 108, 101]]) h1 g1 g2]
 simp only []
 rw [(name_is hp.id h2).2]
 simp only []
 rw [must_hit h3 (wordK_const (by decide))]
 simp only []
 rw [show 1 + (p.rank - 1) = p.rank by have := hp.rank; omega]
end So
end Go.Proofs.YtbicmjmcdnkjhaaGreatDoor
namespace Go.Proofs.YtbicmjmcdnkjhaaGreatDoor
namespace So
theorem good_name {S : List Bytes} {s : Bytes} (h : nameOk s = true) : GoodW S s := by
 unfold nameOk at h
 rw [Bool.and_eq_true] at h
 exact Or.inl (by simpa using h.1)
def symsS : List Bytes := [[123], [125], [40], [41], [91], [93]]
theorem good_F : ∀ (s : Nat) (t : Tree), t.size ≤ s → t.size ≤ 200 → okF t = true → ∀ w ∈ wF t, GoodW symsS w
 | 0, t, h, _, _ => by have := tree_pos t; omega
 | s + 1, .mk op name cmp n ks, hs, h200, hok => by
   rw [okF] at hok
   simp only [Bool.and_eq_true] at hok
   obtain ⟨⟨⟨h1, h2⟩, h3⟩, h4⟩ := hok
   rw [Tree.size] at hs h200
   have hk := okFs_all h4
   have hkl := kids_len ks
   intro w hw
   rw [wF, wFs_flat, List.mem_append] at hw
   rcases hw with hw | hw
   · obtain ⟨k, hm, hw⟩ := List.mem_flatMap.1 hw
     exact good_F s k (by have := kid_size hm; omega) (by have := kid_size hm; omega) (hk k hm) w hw
   by_cases o1 : op = 1
   · rw [if_pos o1] at hw; rw [List.mem_singleton.1 hw]; exact good_key (by decide)
   by_cases o2 : op = 2
   · rw [if_neg o1, if_pos o2] at hw; rw [List.mem_singleton.1 hw]; exact good_key (by decide)
   by_cases o3 : op = 3
   · rw [if_neg o1, if_neg o2, if_pos o3] at hw
     rw [if_pos o3] at h1
     rw [if_pos (Or.inl o3)] at h2
     simp only [Bool.and_eq_true, decide_eq_true_eq] at h1
     simp only [List.mem_cons, List.not_mem_nil, or_false] at hw
     rcases hw with rfl | rfl | rfl
     · exact good_name h2
     · exact good_dec h1.2
     · have : cmp = 1 ∨ cmp = 2 ∨ cmp = 3 ∨ cmp = 4 ∨ cmp = 5 ∨ cmp = 6 := by omega
       rcases this with rfl | rfl | rfl | rfl | rfl | rfl <;> exact good_key (by decide)
   by_cases o4 : op = 4
   · rw [if_neg o1, if_neg o2, if_neg o3, if_pos o4] at hw
     rw [if_pos (Or.inr o4)] at h2
     simp only [List.mem_cons, List.not_mem_nil, or_false] at hw
     rcases hw with rfl | rfl
     · exact good_name h2
     · exact good_key (by decide)
   by_cases o5 : op = 5
   · rw [if_neg o1, if_neg o2, if_neg o3, if_neg o4, if_pos o5] at hw
     rw [List.mem_singleton.1 hw]; exact good_key (by decide)
   by_cases o6 : op = 6
   · rw [if_neg o1, if_neg o2, if_neg o3, if_neg o4, if_neg o5, if_pos o6] at hw
     simp only [List.mem_cons, List.not_mem_nil, or_false] at hw
     rcases hw with rfl | rfl
     · exact good_key (by decide)
     · exact good_dec (by omega)
   by_cases o7 : op = 7
   · rw [if_neg o1, if_neg o2, if_neg o3, if_neg o4, if_neg o5, if_neg o6, if_pos o7] at hw
     simp only [List.mem_cons, List.not_mem_nil, or_false] at hw
     rcases hw with rfl | rfl
     · exact good_key (by decide)
     · exact good_dec (by omega)
   · rw [if_neg o1, if_neg o2, if_neg o3, if_neg o4, if_neg o5, if_neg o6, if_neg o7] at hw
     simp at hw
theorem good_S : ∀ (s : Nat) (t : Tree), t.size ≤ s → t.size ≤ 200 → okS t = true → ∀ w ∈ wS t, GoodW symsS w
 | 0, t, h, _, _ => by have := tree_pos t; omega
 | s + 1, .mk op name cmp n ks, hs, h200, hok => by
   rw [okS] at hok
   simp only [Bool.and_eq_true] at hok
   obtain ⟨⟨⟨h1, h2⟩, h3⟩, h4⟩ := hok
   rw [Tree.size] at hs h200
   have hk := okSs_all h4
   have hkl := kids_len ks
   intro w hw
   rw [wS, wSs_flat, List.mem_append] at hw
   rcases hw with hw | hw
   · obtain ⟨k, hm, hw⟩ := List.mem_flatMap.1 hw
     exact good_S s k (by have := kid_size hm; omega) (by have := kid_size hm; omega) (hk k hm) w hw
   by_cases o1 : op = 1
   · rw [if_pos o1] at hw; rw [List.mem_singleton.1 hw]; exact good_key (by decide)
   by_cases o2 : op = 2
   · rw [if_neg o1, if_pos o2] at hw; rw [List.mem_singleton.1 hw]; exact good_key (by decide)
   by_cases o3 : op = 3
   · rw [if_neg o1, if_neg o2, if_pos o3] at hw
     have hn0 : n ≤ 1000000 := by have := h1.2; rw [if_pos o3] at this; simpa using this
     simp only [List.mem_cons, List.not_mem_nil, or_false] at hw
     rcases hw with rfl | rfl
     · exact good_dec hn0
     · exact good_key (by decide)
   by_cases o4 : op = 4 ∨ op = 5 ∨ op = 6 ∨ op = 7
   · rw [if_neg o1, if_neg o2, if_neg o3, if_pos o4] at hw
     rw [if_pos o4] at h2
     simp only [List.mem_cons, List.not_mem_nil, or_false] at hw
     rcases hw with rfl | rfl
     · exact good_name h2
     · rcases o4 with rfl | rfl | rfl | rfl <;> exact good_key (by decide)
   by_cases o8 : op = 8
   · rw [if_neg o1, if_neg o2, if_neg o3, if_neg o4, if_pos o8] at hw
     simp only [List.mem_cons, List.not_mem_nil, or_false] at hw
     rcases hw with rfl | rfl
     · exact good_key (by decide)
     · exact good_dec (by omega)
   by_cases o9 : op = 9
   · rw [if_neg o1, if_neg o2, if_neg o3, if_neg o4, if_neg o8, if_pos o9] at hw
     simp only [List.mem_cons, List.not_mem_nil, or_false] at hw
     rcases hw with rfl | rfl
     · exact good_key (by decide)
     · exact good_dec (by omega)
   · rw [if_neg o1, if_neg o2, if_neg o3, if_neg o4, if_neg o8, if_neg o9] at hw
     simp at hw
theorem small_200 {t : Tree} (h : small t = true) : t.size ≤ 200 := by
 unfold small at h
 rw [Bool.and_eq_true] at h
 simpa using h.1
theorem good_br {l : List Bytes} (h : ∀ w ∈ l, GoodW symsS w) : ∀ w ∈ brW l, GoodW symsS w := by
 intro w hw
 unfold brW at hw
 simp only [List.mem_cons, List.mem_append, List.not_mem_nil, or_false] at hw
 rcases hw with rfl | hw | rfl
 · exact good_sym (by decide)
 · exact h w hw
 · exact good_sym (by decide)
theorem good_P {p : Prov} (hp : WriteOk p) : ∀ w ∈ wP p, GoodW symsS w := by
 intro w hw
 unfold wP tail0 tail1 tail2 tail3 at hw
 simp only [List.mem_append] at hw
 rcases hw with hw | hw | hw | hw | hw | hw | hw
 · exact good_part (good_key (by decide)) (good_br (good_F _ _ (Nat.le_refl _) (small_200 hp.condS) hp.cond)) w hw
 · unfold kindW at hw
   split at hw
   · simp only [List.mem_cons, List.not_mem_nil, or_false] at hw
     rcases hw with rfl | rfl
     · exact good_key (by decide)
     · exact good_name hp.name
   · simp only [List.mem_cons, List.not_mem_nil, or_false] at hw
     rcases hw with rfl | rfl | rfl | rfl
     · exact good_key (by decide)
     · exact good_name hp.name
     · exact good_key (by decide)
     · exact good_dec hp.value
 · unfold excW at hw
   split at hw
   · simp at hw
   · simp only [List.mem_cons, List.mem_append, List.not_mem_nil, or_false] at hw
     rcases hw with rfl | rfl | hw | rfl
     · exact good_key (by decide)
     · exact good_sym (by decide)
     · exact good_name (hp.exc w hw)
     · exact good_sym (by decide)
 · exact good_part (good_key (by decide)) (good_br (good_S _ _ (Nat.le_refl _) (small_200 hp.begS) hp.beg)) w hw
 · exact good_part (good_key (by decide)) (good_br (good_S _ _ (Nat.le_refl _) (small_200 hp.finS) hp.fin)) w hw
 · exact good_part (good_key (by decide)) (good_br (good_S _ _ (Nat.le_refl _) (small_200 hp.agaS) hp.aga)) w hw
 · unfold endW at hw
   simp only [List.mem_cons, List.not_mem_nil, or_false] at hw
   rcases hw with rfl | rfl | rfl | rfl
   · exact good_sym (by decide)
   · have hr := hp.rank
     have : p.rank = 1 ∨ p.rank = 2 ∨ p.rank = 3 ∨ p.rank = 4 := by omega
     rcases this with h | h | h | h <;> rw [h] <;> exact good_key (by decide)
   · exact good_name hp.id
   · exact good_sym (by decide)
abbrev opS' : List UInt8 := [40, 91]
abbrev clS' : List UInt8 := [41, 93]
theorem lb_lex (r : Bytes) : lexOne 91 r = .ok (3, 1, 0) := by
 unfold lexOne
 rw [if_neg (by decide), if_neg (by decide), if_pos (by decide)]
theorem signsS : Signs (opS'.map fun x => [x]) (clS'.map fun x => [x]) where
 opn := by
  intro w hw
  simp only [List.map_cons, List.map_nil, List.mem_cons, List.not_mem_nil, or_false] at hw
  rcases hw with rfl | rfl
  · exact ⟨40, rfl, lp_lex⟩
  · exact ⟨91, rfl, lb_lex⟩
 cls := by
  intro w hw
  simp only [List.map_cons, List.map_nil, List.mem_cons, List.not_mem_nil, or_false] at hw
  rcases hw with rfl | rfl
  · exact ⟨41, rfl, by decide, by decide⟩
  · exact ⟨93, rfl, by decide, by decide⟩
theorem symR : ∀ w ∈ symsS, WordR opS' clS' w ∧ (coreW w).1 ≠ 0 := by
 intro w hw
 unfold symsS at hw
 simp only [List.mem_cons, List.not_mem_nil, or_false] at hw
 rcases hw with rfl | rfl | rfl | rfl | rfl | rfl <;> exact ⟨⟨by decide, by decide, by decide, by decide⟩, by decide⟩
theorem goodS {w : Bytes} (h : GoodW symsS w) : WordR opS' clS' w ∧ (coreW w).1 ≠ 0 := by
 rcases h with h | h | h
 · exact ⟨wordR_of (by decide) (by decide) (Or.inl h), by omega⟩
 · exact ⟨wordR_of (by decide) (by decide) (Or.inr h), by omega⟩
 · exact symR w h
/- the canonical text -/
def textS (p : Prov) : Bytes := glue (opS'.map fun x => [x]) (clS'.map fun x => [x]) (wP p)
theorem south_text {p : Prov} (hp : WriteOk p) : replF opS' clS' (joinB (wP p)) = textS p := (repl_glue (by decide) (by decide) (by decide) (wP p) (fun w hw => (goodS (good_P hp w hw)).1)).1
theorem south_lex {p : Prov} (hp : WriteOk p) : (∀ ts, lexF (textS p) = .ok ts → Texts (wP p) ts) ∧ ((∃ ts, lexF (textS p) = .ok ts) ↔ (textS p).length ≤ 20000 ∧ (wP p).length ≤ 5000) ∧ (∀ e, lexF (textS p) = .error e → e.1 = 2) := lexF_glue signsS (fun w hw => (goodS (good_P hp w hw)).2)
end So
end Go.Proofs.YtbicmjmcdnkjhaaGreatDoor
