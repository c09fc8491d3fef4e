/- Formulas and conditions of the second language, written and read again. Conditions of commencement of the second language, written and read again; provisions. -/
import Derived.Test.YtbicmjmcdnkjhaaGreatDoorJSS1
import Derived.Test.YtbicmjmcdnkjhaaGreatDoorJSS3
set_option linter.unusedVariables false
set_option linter.unusedSimpArgs false
namespace Go.Proofs.YtbicmjmcdnkjhaaGreatDoor
namespace So
def nameOk (s : Bytes) : Bool := (coreW s).1 == 1 && !keyF s
theorem name_is {s : Bytes} {t : Tok} {r : List Tok} (hn : nameOk s = true) (h : core t = coreW s) : isNameF (t :: r) = true ∧ nameF (t :: r) = .ok (s, r) := by
 unfold nameOk at hn
 rw [Bool.and_eq_true] at hn
 have h1 : t.kind = 1 := by rw [core_kind h]; simpa using hn.1
 have h2 : (t.kind == 1 && !keyF t.text) = true := by rw [cTx h, h1, hn.2]; rfl
 constructor
 · simpa [isNameF] using h2
 · simp only [nameF]
   rw [if_pos h2, cTx h]
theorem num_hit {n : Nat} {t : Tok} {r : List Tok} (hn : n ≤ 9999999) (h : core t = coreW (dec n)) : numberF (t :: r) = .ok (n, r) := by
 have h1 : t.kind = 2 := by rw [core_kind h, dec_core hn]
 have h2 : t.n = n := by rw [core_n h, dec_core hn]
 simp only [numberF]
 rw [if_pos (by rw [h1]; rfl), h2]
theorem lim_hit {n most : Nat} {t : Tok} {r : List Tok} (hn : n ≤ 9999999) (hm : n ≤ most) (h : core t = coreW (dec n)) : limitF most (t :: r) = .ok (n, r) := by
 unfold limitF
 rw [num_hit hn h]
 simp only [bindR]
 rw [if_neg (by omega)]
theorem choose_hit {ws : List Bytes} {w : Bytes} {i : Nat} {t : Tok} {r : List Tok} (h : core t = coreW w) (hk : (coreW w).1 = 1) (hi : ws.idxOf? w = some i) : chooseF ws (t :: r) = .ok (i, r) := by
 simp only [chooseF]
 rw [if_pos (by rw [core_kind h, hk]; rfl), cTx h, hi]
theorem sees_of {ws : List Bytes} {w : Bytes} {t : Tok} {r : List Tok} (h : core t = coreW w) (hk : WordK w) (hw : ws.contains w = true) : seesF ws (t :: r) = true := by
 simp only [seesF]
 have : isWord t = true := by
  unfold isWord
  rw [core_kind h]
  rcases hk with h | h <;> rw [h] <;> rfl
 rw [this, cTx h, hw]
 rfl
theorem sees_not {ws : List Bytes} {t : Tok} {r : List Tok} (hw : t.text ∉ ws) : seesF ws (t :: r) = false := by
 simp only [seesF]
 rw [show ws.contains t.text = false by simpa using hw, Bool.and_false]
theorem is_hit {α : Type} {w : Bytes} {t : Tok} {r : List Tok} {yes no : List Tok → R α} (h : core t = coreW w) (hk : WordK w) : isF w (t :: r) yes no = yes r := by
 unfold isF
 rw [if_pos (sees_of h hk (by simp))]
 rfl
theorem is_miss {α : Type} {w : Bytes} {t : Tok} {r : List Tok} {yes no : List Tok → R α} (h : t.text ≠ w) : isF w (t :: r) yes no = no (t :: r) := by
 unfold isF
 rw [if_neg (by rw [sees_not (by simpa using h)]; simp)]
theorem must_hit {w : Bytes} {t : Tok} {r : List Tok} (h : core t = coreW w) (hk : WordK w) : mustF w (t :: r) = .ok ((), r) := is_hit h hk
def cmpW : List Bytes := [[101, 113, 117, 97, 108], [117, 110, 108, 105, 107, 101], [98, 101, 108, 111, 119], [109, 111, 115, 116], [97, 98, 111, 118, 101], [108, 101, 97, 115, 116]]
abbrev wAll : Bytes := [97, 108, 108]
abbrev wAny : Bytes := [97, 110, 121]
mutual
def wF : Tree → List Bytes
 | .mk op name cmp n ks => wFs ks ++
   (if op = 1 then [[121, 101, 115]] else if op = 2 then [[110, 111]]
   else if op = 3 then [name, dec n, cmpW.getD (cmp - 1) []] else if op = 4 then [name, [100, 101, 102, 105, 110, 101, 100]]
   else if op = 5 then [[110, 101, 103, 97, 116, 101, 100]]
   else if op = 6 then [wAll, dec ks.length] else if op = 7 then [wAny, dec ks.length] else [])
def wFs : List Tree → List Bytes
 | [] => []
 | k :: r => wF k ++ wFs r
end
mutual
def okF : Tree → Bool
 | .mk op name cmp n ks =>
   (if op = 3 then decide (1 ≤ cmp) && decide (cmp ≤ 6) && decide (n ≤ 1000000) else decide (cmp = 0) && decide (n = 0)) &&
   (if op = 3 ∨ op = 4 then nameOk name else decide (name = [])) &&
   (if op = 1 ∨ op = 2 ∨ op = 3 ∨ op = 4 then decide (ks.length = 0) else if op = 5 then decide (ks.length = 1) else if op = 6 ∨ op = 7 then decide (2 ≤ ks.length) else false) && okFs ks
def okFs : List Tree → Bool
 | [] => true
 | k :: r => okF k && okFs r
end
theorem okFs_all : ∀ {ks : List Tree}, okFs ks = true → ∀ k ∈ ks, okF k = true
 | [], _, k, hk => by simp at hk
 | a :: r, h, k, hk => by
   rw [okFs, Bool.and_eq_true] at h
   rcases List.mem_cons.1 hk with rfl | hk
   · exact h.1
   · exact okFs_all h.2 k hk
theorem kid_deep : ∀ {ks : List Tree} {k : Tree}, k ∈ ks → k.deep ≤ deeps ks
 | [], k, hk => by simp at hk
 | a :: r, k, hk => by
   rw [deeps]
   rcases List.mem_cons.1 hk with rfl | hk
   · omega
   · have := kid_deep hk; omega
def entry (k : Tree) : Tree × Nat := (k, k.deep)
theorem deepK_fold : ∀ (ks : List Tree) (d : Nat), (ks.map entry).foldl (fun d x => max d (x.2 + 1)) d = max d (if ks = [] then 0 else deeps ks + 1)
 | [], d => by simp
 | k :: r, d => by
   rw [List.map_cons, List.foldl_cons, deepK_fold r]
   simp only [entry, deeps, if_neg (List.cons_ne_nil k r)]
   by_cases hr : r = []
   · subst hr; simp [deeps]
   · rw [if_neg hr]; omega
theorem deepK_kids {ks : List Tree} (h : ks ≠ []) : deepK (ks.map entry) = deeps ks + 1 := by
 unfold deepK
 rw [deepK_fold, if_neg h]
 omega
theorem combine_ok {op k : Nat} {at' r : List Tok} {st : Stack} {ks : List Tree} (hk : k = ks.length) (hne : ks ≠ []) (hd : deeps ks + 1 ≤ 20) :
 combineF op k at' (st ++ ks.map entry) r = .ok (st ++ [(.mk op [] 0 0 ks, deeps ks + 1)], r) := by
 unfold combineF
 have e1 : (st ++ ks.map entry).length - k = st.length := by simp [hk]
 have e2 : (st ++ ks.map entry).drop st.length = ks.map entry := by simp
 have e3 : (st ++ ks.map entry).take st.length = st := by simp
 rw [if_neg (by simp [hk]), e1, e2, e3, deepK_kids hne, if_neg (by omega)]
 have e4 : (ks.map entry).map (·.1) = ks := by
  rw [List.map_map]
  exact List.map_id ks
 rw [e4]
theorem group_ok {op n : Nat} {at' r : List Tok} {t : Tok} {st : Stack} {ks : List Tree} (hn : n = ks.length) (h2 : 2 ≤ ks.length) (hm : ks.length ≤ 9999999) (hd : deeps ks + 1 ≤ 20) (h : core t = coreW (dec n)) :
 groupF op at' (st ++ ks.map entry) (t :: r) = .ok (st ++ [(.mk op [] 0 0 ks, deeps ks + 1)], r) := by
 unfold groupF
 rw [num_hit (by omega) h]
 simp only [bindR]
 rw [if_neg (by omega)]
 exact combine_ok hn (by rintro rfl; simp at h2) hd
theorem loop_item {begins : List Tok → Bool} {item : Stack → List Tok → R Stack} {f : Nat} {st st' : Stack} {t : Tok} {l r : List Tok} (h1 : t.text ∉ ([[125]] : List Bytes)) (h2 : begins (t :: l) = true) (hf : 0 < f) (h3 : item st (t :: l) = .ok (st', r)) :
 loopF begins item (f + 1) st (t :: l) = loopF begins item f st' r := by
 conv => lhs; unfold loopF
 rw [if_neg (by rw [sees_not h1]; simp), if_pos h2, if_neg (by omega), h3]
 rfl
theorem name_not {s : Bytes} (h : nameOk s = true) {A : List Bytes} (hA : ∀ w ∈ A, ((coreW w).1 == 1 && !keyF w) = false) : s ∉ A := fun hm => by
 have := hA s hm
 unfold nameOk at h
 rw [h] at this
 cases this
theorem cmp_hit {c : Nat} (h1 : 1 ≤ c) (h2 : c ≤ 6) : (coreW (cmpW.getD (c - 1) [])).1 = 1 ∧ cmpW.idxOf? (cmpW.getD (c - 1) []) = some (c - 1) := by
 have : c = 1 ∨ c = 2 ∨ c = 3 ∨ c = 4 ∨ c = 5 ∨ c = 6 := by omega
 rcases this with rfl | rfl | rfl | rfl | rfl | rfl <;> exact ⟨by decide, by decide⟩
theorem kids_len : ∀ (ks : List Tree), ks.length ≤ sizes ks
 | [] => by simp
 | k :: r => by rw [sizes]; have := kids_len r; have := tree_pos k; simp; omega
theorem run_kids {begins : List Tok → Bool} {item : Stack → List Tok → R Stack} {w : Tree → List Bytes} : ∀ (ks : List Tree) (f : Nat) (st : Stack) (l rest : List Tok), Texts (ks.flatMap w) l → sizes ks ≤ f →
 (∀ k ∈ ks, ∀ f st l rest, Texts (w k) l → k.size ≤ f → loopF begins item (f + 1) st (l ++ rest) = loopF begins item (f + 1 - k.size) (st ++ [entry k]) rest) →
 loopF begins item (f + 1) st (l ++ rest) = loopF begins item (f + 1 - sizes ks) (st ++ ks.map entry) rest
 | [], f, st, l, rest, hl, _, _ => by
   obtain rfl := hl.nil
   simp [sizes]
 | k :: r, f, st, l, rest, hl, hf, ih => by
   rw [List.flatMap_cons] at hl
   obtain ⟨l1, l2, rfl, h1, h2⟩ := hl.app
   rw [sizes] at hf
   have hs := tree_pos k
   rw [List.append_assoc, ih k (by simp) f st l1 (l2 ++ rest) h1 (by omega)]
   obtain ⟨g, hg⟩ : ∃ g, f + 1 - k.size = g + 1 := ⟨f - k.size, by omega⟩
   rw [hg, run_kids r g (st ++ [entry k]) l2 rest h2 (by omega) (fun x hx => ih x (by simp [hx]))]
   rw [sizes]
   rw [show g + 1 - sizes r = f + 1 - (k.size + sizes r) by omega]
   simp
theorem wFs_flat : ∀ ks : List Tree, wFs ks = ks.flatMap wF
 | [] => rfl
 | k :: r => by rw [wFs, wFs_flat r, List.flatMap_cons]
theorem run_F : ∀ (s : Nat) (t : Tree), t.size ≤ s → okF t = true → t.deep ≤ 20 → ∀ f st l rest, Texts (wF t) l → t.size ≤ f → t.size ≤ 200 → loopF beginsF itemF (f + 1) st (l ++ rest) = loopF beginsF itemF (f + 1 - t.size) (st ++ [entry t]) rest
 | 0, t, h, _, _ => by have := tree_pos t; omega
 | s + 1, .mk op name cmp n ks, hs, hok, hd => by
   rw [okF] at hok
   simp only [Bool.and_eq_true] at hok
   obtain ⟨⟨⟨h1, h2⟩, h3⟩, h4⟩ := hok
   have hd0 := hd
   rw [Tree.deep] at hd
   rw [Tree.size] at hs
   have hk := okFs_all h4
   intro f st l rest hl hf h200
   rw [Tree.size] at hf h200 ⊢
   rw [wF, wFs_flat] at hl
   obtain ⟨l1, l2, rfl, hl1, hl2⟩ := hl.app
   have hkids := run_kids ks f st l1 (l2 ++ rest) hl1 (by omega) (fun k hm f' st' l' rest' ht hf' => run_F s k (by have := kid_size hm; omega) (hk k hm) (by have := kid_deep hm; omega) f' st' l' rest' ht hf' (by have := kid_size hm; omega))
   rw [List.append_assoc, hkids]
   obtain ⟨g, hg⟩ : ∃ g, f + 1 - sizes ks = (g + 1) + 1 := ⟨f - sizes ks - 1, by omega⟩
   rw [hg, show f + 1 - (1 + sizes ks) = g + 1 by omega]
   have hent : entry (.mk op name cmp n ks) = (.mk op name cmp n ks, deeps ks + 1) := by unfold entry; rw [Tree.deep]
   rw [hent]
   by_cases o1 : op = 1
   · subst o1
     rw [if_pos rfl] at hl2
     rw [if_neg (by decide)] at h1 h2
     rw [if_pos (by decide)] at h3
     simp only [Bool.and_eq_true, decide_eq_true_eq] at h1 h2 h3
     obtain ⟨t0, l3, rfl, h0, hl3⟩ := hl2.cons
     obtain rfl := hl3.nil
     obtain ⟨hc, hnn⟩ := h1
     obtain rfl := List.length_eq_zero_iff.1 h3
     subst hc hnn h2
     simp only [List.cons_append, List.nil_append]
     refine loop_item (by rw [cTx h0]; decide) ?_ (by omega) ?_
     · unfold beginsF
       rw [sees_of h0 (wKc (by decide)) (by decide), Bool.or_true]
     · unfold itemF
       rw [is_hit h0 (wKc (by decide))]
       simp [pushF, deeps]
   by_cases o2 : op = 2
   · subst o2
     rw [if_neg (by decide), if_pos rfl] at hl2
     rw [if_neg (by decide)] at h1 h2
     rw [if_pos (by decide)] at h3
     simp only [Bool.and_eq_true, decide_eq_true_eq] at h1 h2 h3
     obtain ⟨t0, l3, rfl, h0, hl3⟩ := hl2.cons
     obtain rfl := hl3.nil
     obtain ⟨hc, hnn⟩ := h1
     obtain rfl := List.length_eq_zero_iff.1 h3
     subst hc hnn h2
     simp only [List.cons_append, List.nil_append]
     refine loop_item (by rw [cTx h0]; decide) ?_ (by omega) ?_
     · unfold beginsF
       rw [sees_of h0 (wKc (by decide)) (by decide), Bool.or_true]
     · unfold itemF
       rw [is_miss (by rw [cTx h0]; decide), is_hit h0 (wKc (by decide))]
       simp [pushF, deeps]
   by_cases o3 : op = 3
   · subst o3
     rw [if_neg (by decide), if_neg (by decide), if_pos rfl] at hl2
     rw [if_pos rfl] at h1
     rw [if_pos (by decide)] at h2 h3
     simp only [Bool.and_eq_true, decide_eq_true_eq] at h1 h3
     obtain ⟨⟨c1, c2⟩, c3⟩ := h1
     obtain rfl := List.length_eq_zero_iff.1 h3
     obtain ⟨t0, l3, rfl, h0, hl3⟩ := hl2.cons
     obtain ⟨t1, l4, rfl, hh1, hl4⟩ := hl3.cons
     obtain ⟨t2, l5, rfl, hh2, hl5⟩ := hl4.cons
     obtain rfl := hl5.nil
     obtain ⟨g1, g2⟩ := cmp_hit c1 c2
     obtain ⟨n1, n2⟩ := name_is (r := t1 :: t2 :: rest) h2 h0
     have nt : ∀ w, ((coreW w).1 == 1 && !keyF w) = false → t0.text ≠ w := fun w hw e => by
      rw [cTx h0] at e
      have := name_not h2 (A := [w]) (by simpa using hw)
      exact this (by simp [e])
     simp only [List.cons_append, List.nil_append]
     refine loop_item (by simpa using nt [125] (by decide)) ?_ (by omega) ?_
     · unfold beginsF
       try simp only [List.cons_append] at n1 ⊢
       rw [n1, Bool.true_or]
     · unfold itemF
       try simp only [List.cons_append] at n2 ⊢
       rw [is_miss (nt _ (by decide)), is_miss (nt _ (by decide)), is_miss (nt _ (by decide)), is_miss (nt _ (by decide)), is_miss (nt _ (by decide)), n2]
       simp only [bindR]
       rw [is_miss (by
        rw [cTx hh1]; intro e
        have h9 : (coreW (dec n)).1 = 2 := by rw [dec_core (by omega)]
        rw [e] at h9; exact absurd h9 (by decide))]
       unfold testF
       rw [lim_hit (by omega) c3 hh1]
       simp only [bindR]
       rw [choose_hit (ws := [[101, 113, 117, 97, 108], [117, 110, 108, 105, 107, 101], [98, 101, 108, 111, 119], [109, 111, 115, 116], [97, 98, 111, 118, 101], [108, 101, 97, 115, 116]]) hh2 g1 g2]
       simp only [pushF, deeps]
       rw [show 1 + (cmp - 1) = cmp by omega]
       simp
   by_cases o4 : op = 4
   · subst o4
     rw [if_neg (by decide), if_neg (by decide), if_neg (by decide), if_pos rfl] at hl2
     rw [if_neg (by decide)] at h1
     rw [if_pos (by decide)] at h2 h3
     simp only [Bool.and_eq_true, decide_eq_true_eq] at h1 h3
     obtain ⟨hc, hnn⟩ := h1
     obtain rfl := List.length_eq_zero_iff.1 h3
     obtain ⟨t0, l3, rfl, h0, hl3⟩ := hl2.cons
     obtain ⟨t1, l4, rfl, hh1, hl4⟩ := hl3.cons
     obtain rfl := hl4.nil
     subst hc hnn
     obtain ⟨n1, n2⟩ := name_is (r := t1 :: rest) h2 h0
     have nt : ∀ w, ((coreW w).1 == 1 && !keyF w) = false → t0.text ≠ w := fun w hw e => by
      rw [cTx h0] at e
      have := name_not h2 (A := [w]) (by simpa using hw)
      exact this (by simp [e])
     simp only [List.cons_append, List.nil_append]
     refine loop_item (by simpa using nt [125] (by decide)) ?_ (by omega) ?_
     · unfold beginsF
       try simp only [List.cons_append] at n1 ⊢
       rw [n1, Bool.true_or]
     · unfold itemF
       try simp only [List.cons_append] at n2 ⊢
       rw [is_miss (nt _ (by decide)), is_miss (nt _ (by decide)), is_miss (nt _ (by decide)), is_miss (nt _ (by decide)), is_miss (nt _ (by decide)), n2]
       simp only [bindR]
       rw [is_hit hh1 (wKc (by decide))]
       simp [pushF, deeps]
   have hnn : cmp = 0 ∧ n = 0 := by rw [if_neg o3] at h1; simpa using h1
   have hnm : name = [] := by rw [if_neg (by omega)] at h2; simpa using h2
   obtain ⟨hc, hn0⟩ := hnn
   subst hc hn0 hnm
   have hkl := kids_len ks
   by_cases o5 : op = 5
   · subst o5
     rw [if_neg (by decide), if_neg (by decide), if_neg (by decide), if_neg (by decide), if_pos rfl] at hl2
     rw [if_neg (by decide), if_pos rfl] at h3
     have h3' : ks.length = 1 := by simpa using h3
     obtain ⟨t0, l3, rfl, h0, hl3⟩ := hl2.cons
     obtain rfl := hl3.nil
     simp only [List.cons_append, List.nil_append]
     refine loop_item (by rw [cTx h0]; decide) ?_ (by omega) ?_
     · unfold beginsF
       rw [sees_of h0 (wKc (by decide)) (by decide), Bool.or_true]
     · unfold itemF
       rw [is_miss (by rw [cTx h0]; decide), is_miss (by rw [cTx h0]; decide), is_hit h0 (wKc (by decide))]
       exact combine_ok h3'.symm (by rintro rfl; simp at h3') hd
   by_cases o6 : op = 6
   · subst o6
     rw [if_neg (by decide), if_neg (by decide), if_neg (by decide), if_neg (by decide), if_neg (by decide), if_pos rfl] at hl2
     rw [if_neg (by decide), if_neg (by decide), if_pos (by decide)] at h3
     have h3' : 2 ≤ ks.length := by simpa using h3
     obtain ⟨t0, l3, rfl, h0, hl3⟩ := hl2.cons
     obtain ⟨t1, l4, rfl, hh1, hl4⟩ := hl3.cons
     obtain rfl := hl4.nil
     simp only [List.cons_append, List.nil_append]
     refine loop_item (by rw [cTx h0]; decide) ?_ (by omega) ?_
     · unfold beginsF
       rw [sees_of h0 (wKc (by decide)) (by decide), Bool.or_true]
     · unfold itemF
       rw [is_miss (by rw [cTx h0]; decide), is_miss (by rw [cTx h0]; decide), is_miss (by rw [cTx h0]; decide), is_hit h0 (wKc (by decide))]
       exact group_ok rfl h3' (by omega) hd hh1
   by_cases o7 : op = 7
   · subst o7
     rw [if_neg (by decide), if_neg (by decide), if_neg (by decide), if_neg (by decide), if_neg (by decide), if_neg (by decide), if_pos rfl] at hl2
     rw [if_neg (by decide), if_neg (by decide), if_pos (by decide)] at h3
     have h3' : 2 ≤ ks.length := by simpa using h3
     obtain ⟨t0, l3, rfl, h0, hl3⟩ := hl2.cons
     obtain ⟨t1, l4, rfl, hh1, hl4⟩ := hl3.cons
     obtain rfl := hl4.nil
     simp only [List.cons_append, List.nil_append]
     refine loop_item (by rw [cTx h0]; decide) ?_ (by omega) ?_
     · unfold beginsF
       rw [sees_of h0 (wKc (by decide)) (by decide), Bool.or_true]
     · unfold itemF
       rw [is_miss (by rw [cTx h0]; decide), is_miss (by rw [cTx h0]; decide), is_miss (by rw [cTx h0]; decide), is_miss (by rw [cTx h0]; decide), is_hit h0 (wKc (by decide))]
       exact group_ok rfl h3' (by omega) hd hh1
   · exfalso
     rw [if_neg (by omega), if_neg o5, if_neg (by omega)] at h3
     cases h3
theorem formula_ok {t : Tree} (hok : okF t = true) (hsm : small t = true) {l rest : List Tok} (hl : Texts ([123] :: (wF t ++ [[125]])) l) : formulaF (l ++ rest) = .ok (t, rest) := by
 unfold small at hsm
 rw [Bool.and_eq_true] at hsm
 simp only [decide_eq_true_eq] at hsm
 obtain ⟨t0, l1, rfl, h0, hl1⟩ := hl.cons
 obtain ⟨l2, l3, rfl, h2, h3⟩ := hl1.app
 obtain ⟨t3, l4, rfl, h4, h5⟩ := h3.cons
 obtain rfl := h5.nil
 have e : t0 :: (l2 ++ [t3]) ++ rest = t0 :: (l2 ++ t3 :: rest) := by simp
 rw [e]
 unfold formulaF bracesF
 rw [must_hit h0 (wKc (by decide))]
 simp only [bindR]
 have hr := run_F t.size t (lR _) hok hsm.2 200 [] l2 (t3 :: rest) h2 hsm.1 hsm.1
 obtain ⟨g, hg⟩ : ∃ g, 200 + 1 - t.size = g + 1 := ⟨200 - t.size, by omega⟩
 rw [hg] at hr
 rw [hr]
 unfold loopF
 rw [if_pos (sees_of h4 (wKc (by decide)) (by decide))]
 simp only [List.nil_append, topF]
 rw [must_hit h4 (wKc (by decide))]
 rfl
end So
namespace So
def opsW : List Bytes := [[100, 101, 99, 114, 101, 101], [101, 118, 101, 110, 116], [98, 101, 103, 117, 110], [111, 118, 101, 114]]
mutual
def wS : Tree → List Bytes
 | .mk op name cmp n ks => wSs ks ++
   (if op = 1 then [[97, 108, 119, 97, 121, 115]] else if op = 2 then [[110, 101, 118, 101, 114]]
   else if op = 3 then [dec n, [100, 97, 121]] else if op = 4 ∨ op = 5 ∨ op = 6 ∨ op = 7 then [name, opsW.getD (op - 4) []]
   else if op = 8 then [wAll, dec ks.length] else if op = 9 then [wAny, dec ks.length] else [])
def wSs : List Tree → List Bytes
 | [] => []
 | k :: r => wS k ++ wSs r
end
mutual
def okS : Tree → Bool
 | .mk op name cmp n ks =>
   (decide (cmp = 0) && (if op = 3 then decide (n ≤ 1000000) else decide (n = 0))) &&
   (if op = 4 ∨ op = 5 ∨ op = 6 ∨ op = 7 then nameOk name else decide (name = [])) &&
   (if op = 8 ∨ op = 9 then decide (2 ≤ ks.length) else if 1 ≤ op ∧ op ≤ 7 then decide (ks.length = 0) else false) && okSs ks
def okSs : List Tree → Bool
 | [] => true
 | k :: r => okS k && okSs r
end
theorem okSs_all : ∀ {ks : List Tree}, okSs ks = true → ∀ k ∈ ks, okS k = true
 | [], _, k, hk => by simp at hk
 | a :: r, h, k, hk => by
   rw [okSs, Bool.and_eq_true] at h
   rcases List.mem_cons.1 hk with rfl | hk
   · exact h.1
   · exact okSs_all h.2 k hk
theorem wSs_flat : ∀ ks : List Tree, wSs ks = ks.flatMap wS
 | [] => rfl
 | k :: r => by rw [wSs, wSs_flat r, List.flatMap_cons]
theorem op_hit {op : Nat} (h : op = 4 ∨ op = 5 ∨ op = 6 ∨ op = 7) : (coreW (opsW.getD (op - 4) [])).1 = 1 ∧ opsW.idxOf? (opsW.getD (op - 4) []) = some (op - 4) := by
 rcases h with rfl | rfl | rfl | rfl <;> exact ⟨by decide, by decide⟩
theorem dec_not {n : Nat} (h : n ≤ 9999999) {t : Tok} (ht : core t = coreW (dec n)) {w : Bytes} (hw : (coreW w).1 ≠ 2) : t.text ≠ w := by
 rw [cTx ht]
 intro e
 have h9 : (coreW (dec n)).1 = 2 := by rw [dec_core h]
 rw [e] at h9
 exact hw h9
theorem run_S : ∀ (s : Nat) (t : Tree), t.size ≤ s → okS t = true → t.deep ≤ 20 → ∀ f st l rest, Texts (wS t) l → t.size ≤ f → t.size ≤ 200 → loopF beginsS sitemF (f + 1) st (l ++ rest) = loopF beginsS sitemF (f + 1 - t.size) (st ++ [entry t]) rest
 | 0, t, h, _, _ => by have := tree_pos t; omega
 | s + 1, .mk op name cmp n ks, hs, hok, hd => by
   rw [okS] at hok
   simp only [Bool.and_eq_true] at hok
   obtain ⟨⟨⟨h1, h2⟩, h3⟩, h4⟩ := hok
   have hop := opS h3
   rw [Tree.deep] at hd
   rw [Tree.size] at hs
   have hk := okSs_all h4
   have hc0 : cmp = 0 := by simpa using h1.1
   intro f st l rest hl hf h200
   rw [Tree.size] at hf h200 ⊢
   rw [wS, wSs_flat] at hl
   obtain ⟨l1, l2, rfl, hl1, hl2⟩ := hl.app
   have hkids := run_kids ks f st l1 (l2 ++ rest) hl1 (by omega) (fun k hm f' st' l' rest' ht hf' => run_S s k (by have := kid_size hm; omega) (hk k hm) (by have := kid_deep hm; omega) f' st' l' rest' ht hf' (by have := kid_size hm; omega))
   rw [List.append_assoc, hkids]
   obtain ⟨g, hg⟩ : ∃ g, f + 1 - sizes ks = (g + 1) + 1 := ⟨f - sizes ks - 1, by omega⟩
   rw [hg, show f + 1 - (1 + sizes ks) = g + 1 by omega]
   have hent : entry (.mk op name cmp n ks) = (.mk op name cmp n ks, deeps ks + 1) := by unfold entry; rw [Tree.deep]
   rw [hent]
   subst hc0
   by_cases o1 : op = 1
   · subst o1
     rw [if_pos rfl] at hl2
     have hn0 : n = 0 := by simpa using h1.2
     have hnm : name = [] := by simpa using h2
     have hk0 : ks = [] := List.length_eq_zero_iff.1 (by omega)
     obtain ⟨t0, l3, rfl, h0, hl3⟩ := hl2.cons
     obtain rfl := hl3.nil
     subst hn0 hnm hk0
     simp only [List.cons_append, List.nil_append]
     refine loop_item (by rw [cTx h0]; decide) ?_ (by omega) ?_
     · unfold beginsS
       rw [sees_of h0 (wKc (by decide)) (by decide), Bool.or_true, Bool.true_or]
     · unfold sitemF
       rw [is_hit h0 (wKc (by decide))]
       simp [pushF, deeps]
   by_cases o2 : op = 2
   · subst o2
     rw [if_neg (by decide), if_pos rfl] at hl2
     have hn0 : n = 0 := by simpa using h1.2
     have hnm : name = [] := by simpa using h2
     have hk0 : ks = [] := List.length_eq_zero_iff.1 (by omega)
     obtain ⟨t0, l3, rfl, h0, hl3⟩ := hl2.cons
     obtain rfl := hl3.nil
     subst hn0 hnm hk0
     simp only [List.cons_append, List.nil_append]
     refine loop_item (by rw [cTx h0]; decide) ?_ (by omega) ?_
     · unfold beginsS
       rw [sees_of h0 (wKc (by decide)) (by decide), Bool.or_true, Bool.true_or]
     · unfold sitemF
       rw [is_miss (by rw [cTx h0]; decide), is_hit h0 (wKc (by decide))]
       simp [pushF, deeps]
   by_cases o3 : op = 3
   · subst o3
     rw [if_neg (by decide), if_neg (by decide), if_pos rfl] at hl2
     have hn0 : n ≤ 1000000 := by simpa using h1.2
     have hnm : name = [] := by simpa using h2
     have hk0 : ks = [] := List.length_eq_zero_iff.1 (by omega)
     obtain ⟨t0, l3, rfl, h0, hl3⟩ := hl2.cons
     obtain ⟨t1, l4, rfl, hh1, hl4⟩ := hl3.cons
     obtain rfl := hl4.nil
     subst hnm hk0
     have hk2 : t0.kind = 2 := by rw [core_kind h0, dec_core (by omega)]
     have nt : ∀ w, (coreW w).1 ≠ 2 → t0.text ≠ w := fun w hw => dec_not (by omega) h0 hw
     simp only [List.cons_append, List.nil_append]
     refine loop_item (by simpa using nt [125] (by decide)) ?_ (by omega) ?_
     · unfold beginsS
       simp [hk2]
     · unfold sitemF
       rw [is_miss (nt _ (by decide)), is_miss (nt _ (by decide)), is_miss (nt _ (by decide)), is_miss (nt _ (by decide))]
       rw [if_pos (by simp [hk2]), lim_hit (by omega) hn0 h0]
       simp only [bindR]
       rw [must_hit hh1 (wKc (by decide))]
       simp [pushF, deeps]
   by_cases o4 : op = 4 ∨ op = 5 ∨ op = 6 ∨ op = 7
   · rw [if_neg o1, if_neg o2, if_neg o3, if_pos o4] at hl2
     rw [if_pos o4] at h2
     have hn0 : n = 0 := by have := h1.2; rw [if_neg o3] at this; simpa using this
     have hk0 : ks = [] := List.length_eq_zero_iff.1 (by omega)
     obtain ⟨t0, l3, rfl, h0, hl3⟩ := hl2.cons
     obtain ⟨t1, l4, rfl, hh1, hl4⟩ := hl3.cons
     obtain rfl := hl4.nil
     subst hn0 hk0
     obtain ⟨g1, g2⟩ := op_hit o4
     obtain ⟨n1, n2⟩ := name_is (r := t1 :: rest) h2 h0
     have nt : ∀ w, ((coreW w).1 == 1 && !keyF w) = false → t0.text ≠ w := fun w hw e => by
      rw [cTx h0] at e
      have := name_not h2 (A := [w]) (by simpa using hw)
      exact this (by simp [e])
     have hk1 : t0.kind = 1 := by
      rw [core_kind h0]
      unfold nameOk at h2
      rw [Bool.and_eq_true] at h2
      simpa using h2.1
     simp only [List.cons_append, List.nil_append]
     refine loop_item (by simpa using nt [125] (by decide)) ?_ (by omega) ?_
     · unfold beginsS
       rw [n1, Bool.true_or, Bool.true_or]
     · unfold sitemF
       rw [is_miss (nt _ (by decide)), is_miss (nt _ (by decide)), is_miss (nt _ (by decide)), is_miss (nt _ (by decide))]
       rw [if_neg (by simp [hk1]), n2]
       simp only [bindR]
       rw [choose_hit (ws := [[100, 101, 99, 114, 101, 101], [101, 118, 101, 110, 116], [98, 101, 103, 117, 110], [111, 118, 101, 114]]) hh1 g1 g2]
       simp only [pushF, deeps]
       rw [show 4 + (op - 4) = op by omega]
       simp
   have hn0 : n = 0 := by have := h1.2; rw [if_neg o3] at this; simpa using this
   have hnm : name = [] := by rw [if_neg o4] at h2; simpa using h2
   have hkl := kids_len ks
   subst hn0 hnm
   by_cases o8 : op = 8
   · subst o8
     rw [if_neg (by decide), if_neg (by decide), if_neg (by decide), if_neg (by decide), if_pos rfl] at hl2
     obtain ⟨t0, l3, rfl, h0, hl3⟩ := hl2.cons
     obtain ⟨t1, l4, rfl, hh1, hl4⟩ := hl3.cons
     obtain rfl := hl4.nil
     simp only [List.cons_append, List.nil_append]
     refine loop_item (by rw [cTx h0]; decide) ?_ (by omega) ?_
     · unfold beginsS
       rw [sees_of h0 (wKc (by decide)) (by decide), Bool.or_true, Bool.true_or]
     · unfold sitemF
       rw [is_miss (by rw [cTx h0]; decide), is_miss (by rw [cTx h0]; decide), is_hit h0 (wKc (by decide))]
       exact group_ok rfl (by omega) (by omega) hd hh1
   · have o9 : op = 9 := by omega
     subst o9
     rw [if_neg (by decide), if_neg (by decide), if_neg (by decide), if_neg (by decide), if_neg (by decide), if_pos rfl] at hl2
     obtain ⟨t0, l3, rfl, h0, hl3⟩ := hl2.cons
     obtain ⟨t1, l4, rfl, hh1, hl4⟩ := hl3.cons
     obtain rfl := hl4.nil
     simp only [List.cons_append, List.nil_append]
     refine loop_item (by rw [cTx h0]; decide) ?_ (by omega) ?_
     · unfold beginsS
       rw [sees_of h0 (wKc (by decide)) (by decide), Bool.or_true, Bool.true_or]
     · unfold sitemF
       rw [is_miss (by rw [cTx h0]; decide), is_miss (by rw [cTx h0]; decide), is_miss (by rw [cTx h0]; decide), is_hit h0 (wKc (by decide))]
       exact group_ok rfl (by omega) (by omega) hd hh1
theorem start_ok {t : Tree} (hok : okS t = true) (hsm : small t = true) {l rest : List Tok} (hl : Texts ([123] :: (wS t ++ [[125]])) l) : startF (l ++ rest) = .ok (t, rest) := by
 unfold small at hsm
 rw [Bool.and_eq_true] at hsm
 simp only [decide_eq_true_eq] at hsm
 obtain ⟨t0, l1, rfl, h0, hl1⟩ := hl.cons
 obtain ⟨l2, l3, rfl, h2, h3⟩ := hl1.app
 obtain ⟨t3, l4, rfl, h4, h5⟩ := h3.cons
 obtain rfl := h5.nil
 have e : t0 :: (l2 ++ [t3]) ++ rest = t0 :: (l2 ++ t3 :: rest) := by simp
 rw [e]
 unfold startF bracesF
 rw [must_hit h0 (wKc (by decide))]
 simp only [bindR]
 have hr := run_S t.size t (lR _) hok hsm.2 200 [] l2 (t3 :: rest) h2 hsm.1 hsm.1
 obtain ⟨g, hg⟩ : ∃ g, 200 + 1 - t.size = g + 1 := ⟨200 - t.size, by omega⟩
 rw [hg] at hr
 rw [hr]
 unfold loopF
 rw [if_pos (sees_of h4 (wKc (by decide)) (by decide))]
 simp only [List.nil_append, topF]
 rw [must_hit h4 (wKc (by decide))]
 rfl
/- provisions -/
def ranksS : List Bytes := [[99, 104, 97, 114, 116, 101, 114], [115, 116, 97, 116, 117, 116, 101], [111, 114, 100, 101, 114], [114, 117, 108, 101]]
abbrev wWhere : Bytes := [119, 104, 101, 114, 101]
abbrev wOver : Bytes := [111, 118, 101, 114, 114, 105, 100, 101, 115]
abbrev wStarts : Bytes := [115, 116, 97, 114, 116, 115]
abbrev wEnds : Bytes := [101, 110, 100, 115]
abbrev wRet : Bytes := [114, 101, 116, 117, 114, 110, 115]
def brW (l : List Bytes) : List Bytes := [123] :: (l ++ [[125]])
def excW (exc : List Bytes) : List Bytes := if exc = [] then [] else wOver :: [40] :: (exc ++ [[41]])
def kindW (p : Prov) : List Bytes := if p.kind = 1 then [[116, 101, 114, 109], p.name] else [[113, 117, 101, 115, 116, 105, 111, 110], p.name, [103, 105, 118, 101, 115], dec p.value]
def endW (p : Prov) : List Bytes := [[91], ranksS.getD (p.rank - 1) [], p.id, [93]]
def tail3 (p : Prov) : List Bytes := partW (p.aga.op != 2) wRet (brW (wS p.aga)) ++ endW p
def tail2 (p : Prov) : List Bytes := partW (p.fin.op != 2) wEnds (brW (wS p.fin)) ++ tail3 p
def tail1 (p : Prov) : List Bytes := partW (p.beg.op != 1) wStarts (brW (wS p.beg)) ++ tail2 p
def tail0 (p : Prov) : List Bytes := excW p.exc ++ tail1 p
def wP (p : Prov) : List Bytes := partW (p.cond.op != 1) wWhere (brW (wF p.cond)) ++ (kindW p ++ tail0 p)
structure WriteOk (p : Prov) : Prop where
 rank : 1 ≤ p.rank ∧ p.rank ≤ 4
 id : nameOk p.id = true
 kind : p.kind = 1 ∧ p.value = 0 ∨ p.kind = 2
 name : nameOk p.name = true
 value : p.value ≤ 1000000
 cond : okF p.cond = true
 condS : small p.cond = true
 exc : ∀ s ∈ p.exc, nameOk s = true
 excN : p.exc.Nodup
 excL : p.exc.length ≤ 20
 beg : okS p.beg = true
 begS : small p.beg = true
 fin : okS p.fin = true
 finS : small p.fin = true
 aga : okS p.aga = true
 agaS : small p.aga = true
theorem head3 (p : Prov) : HeadIn (tail3 p) [wRet, [91]] := HeadIn.part (by simp) (fun w r e => by unfold endW at e; simp at e; simp [← e.1])
theorem head2 (p : Prov) : HeadIn (tail2 p) [wEnds, wRet, [91]] := HeadIn.part (by simp) ((head3 p).sub (fun x hx => List.mem_cons_of_mem _ hx))
theorem head1 (p : Prov) : HeadIn (tail1 p) [wStarts, wEnds, wRet, [91]] := HeadIn.part (by simp) ((head2 p).sub (fun x hx => List.mem_cons_of_mem _ hx))
theorem is_rest {α : Type} {w : Bytes} {l : List Tok} {yes no : List Tok → R α} (h : NotIn [w] l) : isF w l yes no = no l := by
 cases l with
 | nil => rfl
 | cons t r => exact is_miss (fun e => h t r rfl (by simp [e]))
theorem absS {t : Tree} {o : Nat} (h : okS t = true) (ho : (t.op != o) = false) (h12 : o = 1 ∨ o = 2) : t = leafT o := by
 cases t with
 | mk op name cmp n ks =>
   have e : op = o := by simpa using ho
   subst e
   rw [okS] at h
   simp only [Bool.and_eq_true] at h
   obtain ⟨⟨⟨⟨h0, h1⟩, h2⟩, h3⟩, h4⟩ := h
   rw [if_neg (by omega)] at h1 h2
   rcases opS h3 with ⟨h5, _⟩ | ⟨_, h5⟩
   · omega
   · simp only [decide_eq_true_eq] at h0 h1 h2
     rw [h0, h1, h2, List.length_eq_zero_iff.1 h5]; rfl
theorem absF {t : Tree} (h : okF t = true) (ho : (t.op != 1) = false) : t = leafT 1 := by
 cases t with
 | mk op name cmp n ks =>
   have e : op = 1 := by simpa using ho
   subst e
   rw [okF] at h
   simp only [Bool.and_eq_true] at h
   obtain ⟨⟨⟨h1, h2⟩, h3⟩, h4⟩ := h
   rw [if_neg (by decide)] at h1 h2
   rw [if_pos (by decide)] at h3
   simp only [Bool.and_eq_true, decide_eq_true_eq] at h1 h2 h3
   rw [h1.1, h1.2, h2, List.length_eq_zero_iff.1 h3]; rfl
theorem when_ok {t : Tree} {o : Nat} {w : Bytes} {T H : List Bytes} {l : List Tok} (hw : WordK w) (h12 : o = 1 ∨ o = 2) (hok : okS t = true) (hsm : small t = true) (hT : HeadIn T H) (hH : ∀ x ∈ H, x ∉ [w]) (hl : Texts (partW (t.op != o) w (brW (wS t)) ++ T) l) :
 ∃ r, optR w (leafT o) startF l = .ok (t, r) ∧ Texts T r := by
 unfold optR
 cases hp : (t.op != o) with
 | false =>
   rw [hp] at hl
   simp only [partW, Bool.false_eq_true, if_false, List.nil_append] at hl
   refine ⟨l, ?_, hl⟩
   rw [is_rest (hT.notIn hl hH), absS hok hp h12]
 | true =>
   rw [hp] at hl
   simp only [partW, if_true, List.cons_append] at hl
   obtain ⟨t0, l1, rfl, h0, hl1⟩ := hl.cons
   obtain ⟨l2, r, rfl, h2, h3⟩ := hl1.app
   refine ⟨r, ?_, h3⟩
   rw [is_hit h0 hw]
   exact start_ok hok hsm h2
theorem if_ok {t : Tree} {T H : List Bytes} {l : List Tok} (hok : okF t = true) (hsm : small t = true) (hT : HeadIn T H) (hH : ∀ x ∈ H, x ∉ [wWhere]) (hl : Texts (partW (t.op != 1) wWhere (brW (wF t)) ++ T) l) :
 ∃ r, optR wWhere (leafT 1) formulaF l = .ok (t, r) ∧ Texts T r := by
 unfold optR
 cases hp : (t.op != 1) with
 | false =>
   rw [hp] at hl
   simp only [partW, Bool.false_eq_true, if_false, List.nil_append] at hl
   refine ⟨l, ?_, hl⟩
   rw [is_rest (hT.notIn hl hH), absF hok hp]
 | true =>
   rw [hp] at hl
   simp only [partW, if_true, List.cons_append] at hl
   obtain ⟨t0, l1, rfl, h0, hl1⟩ := hl.cons
   obtain ⟨l2, r, rfl, h2, h3⟩ := hl1.app
   refine ⟨r, ?_, h3⟩
   rw [is_hit h0 (wKc (by decide))]
   exact formula_ok hok hsm h2
theorem names_ok : ∀ (xs : List Bytes) (n : Nat) (out : List Bytes) (T : List Bytes) (l : List Tok), xs ≠ [] → xs.length ≤ n → (∀ s ∈ xs, nameOk s = true) → (out ++ xs).Nodup → (out ++ xs).length ≤ 20 → Texts (xs ++ [41] :: T) l →
 ∃ r, namesF n out l = .ok (out ++ xs, r) ∧ Texts T r
 | [], _, _, _, _, h, _, _, _, _, _ => absurd rfl h
 | x :: xs, 0, _, _, _, _, hn, _, _, _, _ => by simp at hn
 | [x], n + 1, out, T, l, _, _, hok, hnd, hlen, hl => by
   obtain ⟨t0, l1, rfl, h0, h1⟩ := Texts.cons (w := x) (W := [41] :: T) hl
   obtain ⟨t1, r, rfl, h2, h3⟩ := h1.cons
   refine ⟨r, ?_, h3⟩
   unfold namesF
   rw [(name_is (hok x (by simp)) h0).2]
   have hx : x ∉ out := by
    have := (List.nodup_append.1 hnd).2.2
    exact fun hm => this x hm x (by simp) rfl
   have he : excC out x = 0 := by
    unfold excC
    rw [if_neg (by simpa using hx), if_neg (by simp at hlen; omega)]
   simp only [bindR, guardR, he, if_true]
   rw [is_hit h2 (wKc (by decide))]
 | x :: y :: xs, n + 1, out, T, l, _, hn, hok, hnd, hlen, hl => by
   obtain ⟨t0, l1, rfl, h0, h1⟩ := Texts.cons (w := x) (W := (y :: xs) ++ [41] :: T) hl
   have e : out ++ x :: y :: xs = (out ++ [x]) ++ y :: xs := by simp
   rw [e] at hnd hlen ⊢
   obtain ⟨r, hr, hr2⟩ := names_ok (y :: xs) n (out ++ [x]) T l1 (by simp) (by simp at hn ⊢; omega) (fun s hs => hok s (by simp at hs ⊢; right; exact hs)) hnd hlen h1
   refine ⟨r, ?_, hr2⟩
   unfold namesF
   rw [(name_is (hok x (by simp)) h0).2]
   have hx : x ∉ out := by
    have := (List.nodup_append.1 ((List.nodup_append.1 hnd).1)).2.2
    exact fun hm => this x hm x (by simp) rfl
   have he : excC out x = 0 := by
    unfold excC
    rw [if_neg (by simpa using hx), if_neg (by simp at hlen; omega)]
   simp only [bindR, guardR, he, if_true]
   rw [is_rest]
   · exact hr
   · obtain ⟨t1, l2, rfl, h2, h3⟩ := Texts.cons (w := y) (W := xs ++ [41] :: T) h1
     exact NotIn.mk h2 (name_not (hok y (by simp)) (by decide))
theorem exc_ok {p : Prov} (hp : WriteOk p) {l : List Tok} (hl : Texts (tail0 p) l) : ∃ r, optR wOver [] excF l = .ok (p.exc, r) ∧ Texts (tail1 p) r := by
 unfold optR
 unfold tail0 excW at hl
 by_cases he : p.exc = []
 · rw [if_pos he] at hl
   simp only [List.nil_append] at hl
   refine ⟨l, ?_, hl⟩
   rw [is_rest ((head1 p).notIn hl (by decide)), he]
 · rw [if_neg he] at hl
   obtain ⟨t0, l1, rfl, h0, h1⟩ := Texts.cons (w := wOver) hl
   obtain ⟨t1, l2, rfl, h2, h3⟩ := Texts.cons (w := [40]) h1
   have h3' : Texts (p.exc ++ [41] :: tail1 p) l2 := by simpa using h3
   obtain ⟨r, h4, h5⟩ := names_ok p.exc 22 [] (tail1 p) l2 he (by have := hp.excL; omega) hp.exc (by simpa using hp.excN) (by simpa using hp.excL) h3'
   refine ⟨r, ?_, h5⟩
   rw [is_hit h0 (wKc (by decide))]
   unfold excF
   rw [must_hit h2 (wKc (by decide))]
   simpa [bindR] using h4
theorem rank_hit {k : Nat} (h : 1 ≤ k ∧ k ≤ 4) : (coreW (ranksS.getD (k - 1) [])).1 = 1 ∧ ranksS.idxOf? (ranksS.getD (k - 1) []) = some (k - 1) := by
 have : k = 1 ∨ k = 2 ∨ k = 3 ∨ k = 4 := by omega
 rcases this with rfl | rfl | rfl | rfl <;> exact ⟨by decide, by decide⟩
theorem kind_ok {p : Prov} (hp : WriteOk p) {T : List Bytes} {l : List Tok} (hl : Texts (kindW p ++ T) l) : ∃ r, kindF l = .ok ((p.kind, p.name, p.value), r) ∧ Texts T r := by
 unfold kindF
 unfold kindW at hl
 rcases hp.kind with ⟨h1, h2⟩ | h1
 · rw [if_pos h1] at hl
   obtain ⟨t0, l1, rfl, h3, hl1⟩ := Texts.cons (w := [116, 101, 114, 109]) hl
   obtain ⟨t1, l2, rfl, h4, hl2⟩ := Texts.cons (w := p.name) (W := T) hl1
   refine ⟨l2, ?_, hl2⟩
   rw [is_hit h3 (wKc (by decide)), (name_is hp.name h4).2]
   simp only [bindR]
   rw [h1, h2]
 · rw [if_neg (by omega)] at hl
   obtain ⟨t0, l1, rfl, h3, hl1⟩ := Texts.cons (w := [113, 117, 101, 115, 116, 105, 111, 110]) hl
   obtain ⟨t1, l2, rfl, h4, hl2⟩ := Texts.cons (w := p.name) hl1
   obtain ⟨t2, l3, rfl, h5, hl3⟩ := Texts.cons (w := [103, 105, 118, 101, 115]) hl2
   obtain ⟨t3, l4, rfl, h6, hl4⟩ := Texts.cons (w := dec p.value) (W := T) hl3
   refine ⟨l4, ?_, hl4⟩
   rw [is_miss (by rw [cTx h3]; decide), must_hit h3 (wKc (by decide))]
   simp only [bindR]
   rw [(name_is hp.name h4).2]
   simp only []
   rw [must_hit h5 (wKc (by decide))]
   simp only []
   rw [lim_hit (by have := hp.value; omega) hp.value h6, h1]
theorem head_kind (p : Prov) (T : List Bytes) : HeadIn (kindW p ++ T) [[116, 101, 114, 109], [113, 117, 101, 115, 116, 105, 111, 110]] := by
 unfold kindW
 split <;> (intro w r e; simp only [List.cons_append, List.cons.injEq] at e; rw [← e.1]; simp)
theorem prov_ok {p : Prov} (hp : WriteOk p) {l : List Tok} (hl : Texts (wP p) l) : provF l = .ok (p, []) := by
 unfold wP at hl
 obtain ⟨l1, k1, hl1⟩ := if_ok hp.cond hp.condS (head_kind p (tail0 p)) (by decide) hl
 obtain ⟨l2, k2, hl2⟩ := kind_ok hp hl1
 obtain ⟨l3, k3, hl3⟩ := exc_ok hp hl2
 obtain ⟨l4, k4, hl4⟩ := when_ok (w := wStarts) (o := 1) (wKc (by decide)) (Or.inl rfl) hp.beg hp.begS (head2 p) (by decide) hl3
 obtain ⟨l5, k5, hl5⟩ := when_ok (w := wEnds) (o := 2) (wKc (by decide)) (Or.inr rfl) hp.fin hp.finS (head3 p) (by decide) hl4
 obtain ⟨l6, k6, hl6⟩ := when_ok (w := wRet) (o := 2) (T := endW p) (H := [[91]]) (wKc (by decide)) (Or.inr rfl) hp.aga hp.agaS (fun w r e => by unfold endW at e; simp at e; simp [← e.1]) (by decide) hl5
 unfold endW at hl6
 obtain ⟨t0, l7, rfl, h0, hl7⟩ := hl6.cons
 obtain ⟨t1, l8, rfl, h1, hl8⟩ := hl7.cons
 obtain ⟨t2, l9, rfl, h2, hl9⟩ := hl8.cons
 obtain ⟨t3, l10, rfl, h3, hl10⟩ := hl9.cons
 obtain rfl := hl10.nil
 obtain ⟨g1, g2⟩ := rank_hit hp.rank
 unfold provF
 rw [k1]
 simp only [bindR]
 rw [k2]
 simp only []
 rw [k3]
 simp only []
 rw [k4]
 simp only []
 rw [k5]
 simp only []
 rw [k6]
 simp only []
 rw [must_hit h0 (wKc (by decide))]
 simp only []
 rw [choose_hit (ws := [[99, 104, 97, 114, 116, 101, 114], [115, 116, 97, 116, 117, 116, 101], [111, 114, 100, 101, 114], [114, 117, 108, 101]]) h1 g1 g2]
 simp only []
 rw [(name_is hp.id h2).2]
 simp only []
 rw [must_hit h3 (wKc (by decide))]
 simp only []
 rw [show 1 + (p.rank - 1) = p.rank by have := hp.rank; omega]
end So
end Go.Proofs.YtbicmjmcdnkjhaaGreatDoor
