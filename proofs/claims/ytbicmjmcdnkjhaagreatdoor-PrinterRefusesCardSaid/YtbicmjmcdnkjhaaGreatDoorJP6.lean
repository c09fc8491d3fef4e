/- Formulas and conditions of the second language, written and read again. -/
import Derived.Test.YtbicmjmcdnkjhaaGreatDoorJP5
set_option linter.unusedVariables false
set_option linter.unusedSimpArgs false
namespace Go.Proofs.YtbicmjmcdnkjhaaGreatDoor
namespace So
def nameOk (s : Bytes) : Bool := (coreW s).1 == 1 && !keyF s
theorem name_is {s : Bytes} {t : Tok} {r : List Tok} (hn : nameOk s = true) (h : core t = coreW s) : isNameF (t :: r) = true ∧ nameF (t :: r) = .ok (s, r) := by
  unfold nameOk at hn
  rw [Bool.and_eq_true] at hn
  have h1 : t.kind = 1 := by rw [core_kind h]; simpa using hn.1
  have h2 : (t.kind == 1 && !keyF t.text) = true := by rw [core_text h, h1, hn.2]; rfl
  constructor
  · simpa [isNameF] using h2
  · simp only [nameF]
    rw [if_pos h2, core_text h]
theorem num_hit {n : Nat} {t : Tok} {r : List Tok} (hn : n ≤ 9999999) (h : core t = coreW (dec n)) : numberF (t :: r) = .ok (n, r) := by
  have h1 : t.kind = 2 := by rw [core_kind h, dec_core hn]
  have h2 : t.n = n := by rw [core_n h, dec_core hn]
  simp only [numberF]
  rw [if_pos (by rw [h1]; rfl), h2]
theorem lim_hit {n most : Nat} {t : Tok} {r : List Tok} (hn : n ≤ 9999999) (hm : n ≤ most) (h : core t = coreW (dec n)) : limitF most (t :: r) = .ok (n, r) := by
  unfold limitF
  rw [num_hit hn h]
  simp only [bindR]
  rw [if_neg (by omega)]
theorem choose_hit {ws : List Bytes} {w : Bytes} {i : Nat} {t : Tok} {r : List Tok} (h : core t = coreW w) (hk : (coreW w).1 = 1) (hi : ws.idxOf? w = some i) : chooseF ws (t :: r) = .ok (i, r) := by
  simp only [chooseF]
  rw [if_pos (by rw [core_kind h, hk]; rfl), core_text h, hi]
theorem sees_of {ws : List Bytes} {w : Bytes} {t : Tok} {r : List Tok} (h : core t = coreW w) (hk : WordK w) (hw : ws.contains w = true) : seesF ws (t :: r) = true := by
  simp only [seesF]
  have : isWord t = true := by
    unfold isWord
    rw [core_kind h]
    rcases hk with h | h <;> rw [h] <;> rfl
  rw [this, core_text h, hw]
  rfl
theorem sees_not {ws : List Bytes} {t : Tok} {r : List Tok} (hw : t.text ∉ ws) : seesF ws (t :: r) = false := by
  simp only [seesF]
  rw [show ws.contains t.text = false by simpa using hw, Bool.and_false]
theorem is_hit {α : Type} {w : Bytes} {t : Tok} {r : List Tok} {yes no : List Tok → R α} (h : core t = coreW w) (hk : WordK w) : isF w (t :: r) yes no = yes r := by
  unfold isF
  rw [if_pos (sees_of h hk (by simp))]
  rfl
theorem is_miss {α : Type} {w : Bytes} {t : Tok} {r : List Tok} {yes no : List Tok → R α} (h : t.text ≠ w) : isF w (t :: r) yes no = no (t :: r) := by
  unfold isF
  rw [if_neg (by rw [sees_not (by simpa using h)]; simp)]
theorem must_hit {w : Bytes} {t : Tok} {r : List Tok} (h : core t = coreW w) (hk : WordK w) : mustF w (t :: r) = .ok ((), r) := is_hit h hk
def cmpW : List Bytes := [[101, 113, 117, 97, 108], [117, 110, 108, 105, 107, 101], [98, 101, 108, 111, 119], [109, 111, 115, 116], [97, 98, 111, 118, 101], [108, 101, 97, 115, 116]]
abbrev wAll : Bytes := [97, 108, 108]
abbrev wAny : Bytes := [97, 110, 121]
mutual
def wF : Tree → List Bytes
  | .mk op name cmp n ks => wFs ks ++
    (if op = 1 then [[121, 101, 115]] else if op = 2 then [[110, 111]]
    else if op = 3 then [name, dec n, cmpW.getD (cmp - 1) []] else if op = 4 then [name, [100, 101, 102, 105, 110, 101, 100]]
    else if op = 5 then [[110, 101, 103, 97, 116, 101, 100]]
    else if op = 6 then [wAll, dec ks.length] else if op = 7 then [wAny, dec ks.length] else [])
def wFs : List Tree → List Bytes
  | [] => []
  | k :: r => wF k ++ wFs r
end
mutual
def okF : Tree → Bool
  | .mk op name cmp n ks =>
    (if op = 3 then decide (1 ≤ cmp) && decide (cmp ≤ 6) && decide (n ≤ 1000000) else decide (cmp = 0) && decide (n = 0)) &&
    (if op = 3 ∨ op = 4 then nameOk name else decide (name = [])) &&
    (if op = 1 ∨ op = 2 ∨ op = 3 ∨ op = 4 then decide (ks.length = 0) else if op = 5 then decide (ks.length = 1) else if op = 6 ∨ op = 7 then decide (2 ≤ ks.length) else false) && okFs ks
def okFs : List Tree → Bool
  | [] => true
  | k :: r => okF k && okFs r
end
theorem okFs_all : ∀ {ks : List Tree}, okFs ks = true → ∀ k ∈ ks, okF k = true
  | [], _, k, hk => by simp at hk
  | a :: r, h, k, hk => by
    rw [okFs, Bool.and_eq_true] at h
    rcases List.mem_cons.1 hk with rfl | hk
    · exact h.1
    · exact okFs_all h.2 k hk
theorem kid_deep : ∀ {ks : List Tree} {k : Tree}, k ∈ ks → k.deep ≤ deeps ks
  | [], k, hk => by simp at hk
  | a :: r, k, hk => by
    rw [deeps]
    rcases List.mem_cons.1 hk with rfl | hk
    · omega
    · have := kid_deep hk; omega
def entry (k : Tree) : Tree × Nat := (k, k.deep)
theorem deepK_fold : ∀ (ks : List Tree) (d : Nat), (ks.map entry).foldl (fun d x => max d (x.2 + 1)) d = max d (if ks = [] then 0 else deeps ks + 1)
  | [], d => by simp
  | k :: r, d => by
    rw [List.map_cons, List.foldl_cons, deepK_fold r]
    simp only [entry, deeps, if_neg (List.cons_ne_nil k r)]
    by_cases hr : r = []
    · subst hr; simp [deeps]
    · rw [if_neg hr]; omega
theorem deepK_kids {ks : List Tree} (h : ks ≠ []) : deepK (ks.map entry) = deeps ks + 1 := by
  unfold deepK
  rw [deepK_fold, if_neg h]
  omega
theorem combine_ok {op k : Nat} {at' r : List Tok} {st : Stack} {ks : List Tree} (hk : k = ks.length) (hne : ks ≠ []) (hd : deeps ks + 1 ≤ 20) :
    combineF op k at' (st ++ ks.map entry) r = .ok (st ++ [(.mk op [] 0 0 ks, deeps ks + 1)], r) := by
  unfold combineF
  have e1 : (st ++ ks.map entry).length - k = st.length := by simp [hk]
  have e2 : (st ++ ks.map entry).drop st.length = ks.map entry := by simp
  have e3 : (st ++ ks.map entry).take st.length = st := by simp
  rw [if_neg (by simp [hk]), e1, e2, e3, deepK_kids hne, if_neg (by omega)]
  have e4 : (ks.map entry).map (·.1) = ks := by
    rw [List.map_map]
    exact List.map_id ks
  rw [e4]
theorem group_ok {op n : Nat} {at' r : List Tok} {t : Tok} {st : Stack} {ks : List Tree} (hn : n = ks.length) (h2 : 2 ≤ ks.length) (hm : ks.length ≤ 9999999) (hd : deeps ks + 1 ≤ 20) (h : core t = coreW (dec n)) :
    groupF op at' (st ++ ks.map entry) (t :: r) = .ok (st ++ [(.mk op [] 0 0 ks, deeps ks + 1)], r) := by
  unfold groupF
  rw [num_hit (by omega) h]
  simp only [bindR]
  rw [if_neg (by omega)]
  exact combine_ok hn (by rintro rfl; simp at h2) hd
theorem loop_item {begins : List Tok → Bool} {item : Stack → List Tok → R Stack} {f : Nat} {st st' : Stack} {t : Tok} {l r : List Tok} (h1 : t.text ∉ ([[125]] : List Bytes)) (h2 : begins (t :: l) = true) (hf : 0 < f) (h3 : item st (t :: l) = .ok (st', r)) :
    loopF begins item (f + 1) st (t :: l) = loopF begins item f st' r := by
  conv => lhs; unfold loopF
  rw [if_neg (by rw [sees_not h1]; simp), if_pos h2, if_neg (by omega), h3]
  rfl
theorem name_not {s : Bytes} (h : nameOk s = true) {A : List Bytes} (hA : ∀ w ∈ A, ((coreW w).1 == 1 && !keyF w) = false) : s ∉ A := fun hm => by
  have := hA s hm
  unfold nameOk at h
  rw [h] at this
  cases this
theorem cmp_hit {c : Nat} (h1 : 1 ≤ c) (h2 : c ≤ 6) : (coreW (cmpW.getD (c - 1) [])).1 = 1 ∧ cmpW.idxOf? (cmpW.getD (c - 1) []) = some (c - 1) := by
  have : c = 1 ∨ c = 2 ∨ c = 3 ∨ c = 4 ∨ c = 5 ∨ c = 6 := by omega
  rcases this with rfl | rfl | rfl | rfl | rfl | rfl <;> exact ⟨by decide, by decide⟩
theorem kids_len : ∀ (ks : List Tree), ks.length ≤ sizes ks
  | [] => by simp
  | k :: r => by rw [sizes]; have := kids_len r; have := tree_pos k; simp; omega
theorem run_kids {begins : List Tok → Bool} {item : Stack → List Tok → R Stack} {w : Tree → List Bytes} : ∀ (ks : List Tree) (f : Nat) (st : Stack) (l rest : List Tok), Texts (ks.flatMap w) l → sizes ks ≤ f →
    (∀ k ∈ ks, ∀ f st l rest, Texts (w k) l → k.size ≤ f → loopF begins item (f + 1) st (l ++ rest) = loopF begins item (f + 1 - k.size) (st ++ [entry k]) rest) →
    loopF begins item (f + 1) st (l ++ rest) = loopF begins item (f + 1 - sizes ks) (st ++ ks.map entry) rest
  | [], f, st, l, rest, hl, _, _ => by
    obtain rfl := hl.nil
    simp [sizes]
  | k :: r, f, st, l, rest, hl, hf, ih => by
    rw [List.flatMap_cons] at hl
    obtain ⟨l1, l2, rfl, h1, h2⟩ := hl.app
    rw [sizes] at hf
    have hs := tree_pos k
    rw [List.append_assoc, ih k (by simp) f st l1 (l2 ++ rest) h1 (by omega)]
    obtain ⟨g, hg⟩ : ∃ g, f + 1 - k.size = g + 1 := ⟨f - k.size, by omega⟩
    rw [hg, run_kids r g (st ++ [entry k]) l2 rest h2 (by omega) (fun x hx => ih x (by simp [hx]))]
    rw [sizes]
    rw [show g + 1 - sizes r = f + 1 - (k.size + sizes r) by omega]
    simp
theorem wFs_flat : ∀ ks : List Tree, wFs ks = ks.flatMap wF
  | [] => rfl
  | k :: r => by rw [wFs, wFs_flat r, List.flatMap_cons]
theorem run_F : ∀ (s : Nat) (t : Tree), t.size ≤ s → okF t = true → t.deep ≤ 20 → ∀ f st l rest, Texts (wF t) l → t.size ≤ f → t.size ≤ 200 → loopF beginsF itemF (f + 1) st (l ++ rest) = loopF beginsF itemF (f + 1 - t.size) (st ++ [entry t]) rest
  | 0, t, h, _, _ => by have := tree_pos t; omega
  | s + 1, .mk op name cmp n ks, hs, hok, hd => by
    rw [okF] at hok
    simp only [Bool.and_eq_true] at hok
    obtain ⟨⟨⟨h1, h2⟩, h3⟩, h4⟩ := hok
    have hd0 := hd
    rw [Tree.deep] at hd
    rw [Tree.size] at hs
    have hk := okFs_all h4
    intro f st l rest hl hf h200
    rw [Tree.size] at hf h200 ⊢
    rw [wF, wFs_flat] at hl
    obtain ⟨l1, l2, rfl, hl1, hl2⟩ := hl.app
    have hkids := run_kids ks f st l1 (l2 ++ rest) hl1 (by omega) (fun k hm f' st' l' rest' ht hf' => run_F s k (by have := kid_size hm; omega) (hk k hm) (by have := kid_deep hm; omega) f' st' l' rest' ht hf' (by have := kid_size hm; omega))
    rw [List.append_assoc, hkids]
    obtain ⟨g, hg⟩ : ∃ g, f + 1 - sizes ks = (g + 1) + 1 := ⟨f - sizes ks - 1, by omega⟩
    rw [hg, show f + 1 - (1 + sizes ks) = g + 1 by omega]
    have hent : entry (.mk op name cmp n ks) = (.mk op name cmp n ks, deeps ks + 1) := by unfold entry; rw [Tree.deep]
    rw [hent]
    by_cases o1 : op = 1
    · subst o1
      rw [if_pos rfl] at hl2
      rw [if_neg (by decide)] at h1 h2
      rw [if_pos (by decide)] at h3
      simp only [Bool.and_eq_true, decide_eq_true_eq] at h1 h2 h3
      obtain ⟨t0, l3, rfl, h0, hl3⟩ := hl2.cons
      obtain rfl := hl3.nil
      obtain ⟨hc, hnn⟩ := h1
      obtain rfl := List.length_eq_zero_iff.1 h3
      subst hc hnn h2
      simp only [List.cons_append, List.nil_append]
      refine loop_item (by rw [core_text h0]; decide) ?_ (by omega) ?_
      · unfold beginsF
        rw [sees_of h0 (wordK_const (by decide)) (by decide), Bool.or_true]
      · unfold itemF
        rw [is_hit h0 (wordK_const (by decide))]
        simp [pushF, deeps]
    by_cases o2 : op = 2
    · subst o2
      rw [if_neg (by decide), if_pos rfl] at hl2
      rw [if_neg (by decide)] at h1 h2
      rw [if_pos (by decide)] at h3
      simp only [Bool.and_eq_true, decide_eq_true_eq] at h1 h2 h3
      obtain ⟨t0, l3, rfl, h0, hl3⟩ := hl2.cons
      obtain rfl := hl3.nil
      obtain ⟨hc, hnn⟩ := h1
      obtain rfl := List.length_eq_zero_iff.1 h3
      subst hc hnn h2
      simp only [List.cons_append, List.nil_append]
      refine loop_item (by rw [core_text h0]; decide) ?_ (by omega) ?_
      · unfold beginsF
        rw [sees_of h0 (wordK_const (by decide)) (by decide), Bool.or_true]
      · unfold itemF
        rw [is_miss (by rw [core_text h0]; decide), is_hit h0 (wordK_const (by decide))]
        simp [pushF, deeps]
    by_cases o3 : op = 3
    · subst o3
      rw [if_neg (by decide), if_neg (by decide), if_pos rfl] at hl2
      rw [if_pos rfl] at h1
      rw [if_pos (by decide)] at h2 h3
      simp only [Bool.and_eq_true, decide_eq_true_eq] at h1 h3
      obtain ⟨⟨c1, c2⟩, c3⟩ := h1
      obtain rfl := List.length_eq_zero_iff.1 h3
      obtain ⟨t0, l3, rfl, h0, hl3⟩ := hl2.cons
      obtain ⟨t1, l4, rfl, hh1, hl4⟩ := hl3.cons
      obtain ⟨t2, l5, rfl, hh2, hl5⟩ := hl4.cons
      obtain rfl := hl5.nil
      obtain ⟨g1, g2⟩ := cmp_hit c1 c2
      obtain ⟨n1, n2⟩ := name_is (r := t1 :: t2 :: rest) h2 h0
      have nt : ∀ w, ((coreW w).1 == 1 && !keyF w) = false → t0.text ≠ w := fun w hw e => by
        rw [core_text h0] at e
        have := name_not h2 (A := [w]) (by simpa using hw)
        exact this (by simp [e])
      simp only [List.cons_append, List.nil_append]
      refine loop_item (by simpa using nt [125] (by decide)) ?_ (by omega) ?_
      · unfold beginsF
        try simp only [List.cons_append] at n1 ⊢
        rw [n1, Bool.true_or]
      · unfold itemF
        try simp only [List.cons_append] at n2 ⊢
        rw [is_miss (nt _ (by decide)), is_miss (nt _ (by decide)), is_miss (nt _ (by decide)), is_miss (nt _ (by decide)), is_miss (nt _ (by decide)), n2]
        simp only [bindR]
        rw [is_miss (by
                    rw [core_text hh1]; intro e
                    have h9 : (coreW (dec n)).1 = 2 := by rw [dec_core (by omega)]
                    rw [e] at h9; exact absurd h9 (by decide))]
        unfold testF
        rw [lim_hit (by omega) c3 hh1]
        simp only [bindR]
        rw [choose_hit (ws := [[101, 113, 117, 97, 108], [117, 110, 108, 105, 107, 101], [98, 101, 108, 111, 119], [109, 111, 115, 116], [97, 98, 111, 118, 101], [108, 101, 97, 115, 116]]) hh2 g1 g2]
        simp only [pushF, deeps]
        rw [show 1 + (cmp - 1) = cmp by omega]
        simp
    by_cases o4 : op = 4
    · subst o4
      rw [if_neg (by decide), if_neg (by decide), if_neg (by decide), if_pos rfl] at hl2
      rw [if_neg (by decide)] at h1
      rw [if_pos (by decide)] at h2 h3
      simp only [Bool.and_eq_true, decide_eq_true_eq] at h1 h3
      obtain ⟨hc, hnn⟩ := h1
      obtain rfl := List.length_eq_zero_iff.1 h3
      obtain ⟨t0, l3, rfl, h0, hl3⟩ := hl2.cons
      obtain ⟨t1, l4, rfl, hh1, hl4⟩ := hl3.cons
      obtain rfl := hl4.nil
      subst hc hnn
      obtain ⟨n1, n2⟩ := name_is (r := t1 :: rest) h2 h0
      have nt : ∀ w, ((coreW w).1 == 1 && !keyF w) = false → t0.text ≠ w := fun w hw e => by
        rw [core_text h0] at e
        have := name_not h2 (A := [w]) (by simpa using hw)
        exact this (by simp [e])
      simp only [List.cons_append, List.nil_append]
      refine loop_item (by simpa using nt [125] (by decide)) ?_ (by omega) ?_
      · unfold beginsF
        try simp only [List.cons_append] at n1 ⊢
        rw [n1, Bool.true_or]
      · unfold itemF
        try simp only [List.cons_append] at n2 ⊢
        rw [is_miss (nt _ (by decide)), is_miss (nt _ (by decide)), is_miss (nt _ (by decide)), is_miss (nt _ (by decide)), is_miss (nt _ (by decide)), n2]
        simp only [bindR]
        rw [is_hit hh1 (wordK_const (by decide))]
        simp [pushF, deeps]
    have hnn : cmp = 0 ∧ n = 0 := by rw [if_neg o3] at h1; simpa using h1
    have hnm : name = [] := by rw [if_neg (by omega)] at h2; simpa using h2
    obtain ⟨hc, hn0⟩ := hnn
    subst hc hn0 hnm
    have hkl := kids_len ks
    by_cases o5 : op = 5
    · subst o5
      rw [if_neg (by decide), if_neg (by decide), if_neg (by decide), if_neg (by decide), if_pos rfl] at hl2
      rw [if_neg (by decide), if_pos rfl] at h3
      have h3' : ks.length = 1 := by simpa using h3
      obtain ⟨t0, l3, rfl, h0, hl3⟩ := hl2.cons
      obtain rfl := hl3.nil
      simp only [List.cons_append, List.nil_append]
      refine loop_item (by rw [core_text h0]; decide) ?_ (by omega) ?_
      · unfold beginsF
        rw [sees_of h0 (wordK_const (by decide)) (by decide), Bool.or_true]
      · unfold itemF
        rw [is_miss (by rw [core_text h0]; decide), is_miss (by rw [core_text h0]; decide), is_hit h0 (wordK_const (by decide))]
        exact combine_ok h3'.symm (by rintro rfl; simp at h3') hd
    by_cases o6 : op = 6
    · subst o6
      rw [if_neg (by decide), if_neg (by decide), if_neg (by decide), if_neg (by decide), if_neg (by decide), if_pos rfl] at hl2
      rw [if_neg (by decide), if_neg (by decide), if_pos (by decide)] at h3
      have h3' : 2 ≤ ks.length := by simpa using h3
      obtain ⟨t0, l3, rfl, h0, hl3⟩ := hl2.cons
      obtain ⟨t1, l4, rfl, hh1, hl4⟩ := hl3.cons
      obtain rfl := hl4.nil
      simp only [List.cons_append, List.nil_append]
      refine loop_item (by rw [core_text h0]; decide) ?_ (by omega) ?_
      · unfold beginsF
        rw [sees_of h0 (wordK_const (by decide)) (by decide), Bool.or_true]
      · unfold itemF
        rw [is_miss (by rw [core_text h0]; decide), is_miss (by rw [core_text h0]; decide), is_miss (by rw [core_text h0]; decide), is_hit h0 (wordK_const (by decide))]
        exact group_ok rfl h3' (by omega) hd hh1
    by_cases o7 : op = 7
    · subst o7
      rw [if_neg (by decide), if_neg (by decide), if_neg (by decide), if_neg (by decide), if_neg (by decide), if_neg (by decide), if_pos rfl] at hl2
      rw [if_neg (by decide), if_neg (by decide), if_pos (by decide)] at h3
      have h3' : 2 ≤ ks.length := by simpa using h3
      obtain ⟨t0, l3, rfl, h0, hl3⟩ := hl2.cons
      obtain ⟨t1, l4, rfl, hh1, hl4⟩ := hl3.cons
      obtain rfl := hl4.nil
      simp only [List.cons_append, List.nil_append]
      refine loop_item (by rw [core_text h0]; decide) ?_ (by omega) ?_
      · unfold beginsF
        rw [sees_of h0 (wordK_const (by decide)) (by decide), Bool.or_true]
      · unfold itemF
        rw [is_miss (by rw [core_text h0]; decide), is_miss (by rw [core_text h0]; decide), is_miss (by rw [core_text h0]; decide), is_miss (by rw [core_text h0]; decide), is_hit h0 (wordK_const (by decide))]
        exact group_ok rfl h3' (by omega) hd hh1
    · exfalso
      rw [if_neg (by omega), if_neg o5, if_neg (by omega)] at h3
      cases h3
theorem formula_ok {t : Tree} (hok : okF t = true) (hsm : small t = true) {l rest : List Tok} (hl : Texts ([123] :: (wF t ++ [[125]])) l) : formulaF (l ++ rest) = .ok (t, rest) := by
  unfold small at hsm
  rw [Bool.and_eq_true] at hsm
  simp only [decide_eq_true_eq] at hsm
  obtain ⟨t0, l1, rfl, h0, hl1⟩ := hl.cons
  obtain ⟨l2, l3, rfl, h2, h3⟩ := hl1.app
  obtain ⟨t3, l4, rfl, h4, h5⟩ := h3.cons
  obtain rfl := h5.nil
  have e : t0 :: (l2 ++ [t3]) ++ rest = t0 :: (l2 ++ t3 :: rest) := by simp
  rw [e]
  unfold formulaF bracesF
  rw [must_hit h0 (wordK_const (by decide))]
  simp only [bindR]
  have hr := run_F t.size t (Nat.le_refl _) hok hsm.2 200 [] l2 (t3 :: rest) h2 hsm.1 hsm.1
  obtain ⟨g, hg⟩ : ∃ g, 200 + 1 - t.size = g + 1 := ⟨200 - t.size, by omega⟩
  rw [hg] at hr
  rw [hr]
  unfold loopF
  rw [if_pos (sees_of h4 (wordK_const (by decide)) (by decide))]
  simp only [List.nil_append, topF]
  rw [must_hit h4 (wordK_const (by decide))]
  rfl
end So
end Go.Proofs.YtbicmjmcdnkjhaaGreatDoor
