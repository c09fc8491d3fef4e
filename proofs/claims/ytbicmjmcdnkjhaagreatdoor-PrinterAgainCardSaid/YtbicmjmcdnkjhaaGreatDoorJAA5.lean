/- Formulas and conditions of the second language, written and read again. -/
import Derived.Test.YtbicmjmcdnkjhaaGreatDoorJAA4
set_option linter.unusedVariables false
set_option linter.unusedSimpArgs false
namespace Go.Proofs.YtbicmjmcdnkjhaaGreatDoor
namespace So
def Qp (s : Qa) : Bool := (Qv s).1 == 1 && !Wq s
theorem Yu {s : Qa} {t : Tok} {r : List Tok} (hn : Qp s = true) (h : Y5 t = Qv s) : X6 (t :: r) = true /\ Jb (t :: r) = .ok (s, r) := by
 unfold Qp at hn; rw [Bool.and_eq_true] at hn; have h1 : t.kind = 1 := by rw [Kf h]; simpa using hn.1
 have h2 : (t.kind == 1 && !Wq t.text) = true := by rw [cTx h, h1, hn.2]; rfl
 constructor
 · simpa [X6] using h2
 · simp only [Jb]; rw [if_pos h2, cTx h]
theorem qbg {n : Nat} {t : Tok} {r : List Tok} (hn : n <= 9999999) (h : Y5 t = Qv (dec n)) : Q6 (t :: r) = .ok (n, r) := by
 have h1 : t.kind = 2 := by rw [Kf h, Vl hn]
 have h2 : t.n = n := by rw [qgz h, Vl hn]
 simp only [Q6]; rw [if_pos (by rw [h1]; rfl), h2]
theorem Cr {n most : Nat} {t : Tok} {r : List Tok} (hn : n <= 9999999) (hm : n <= most) (h : Y5 t = Qv (dec n)) : Xf most (t :: r) = .ok (n, r) := by
 unfold Xf; rw [qbg hn h]; simp only [Qc]; rw [if_neg (by omega)]
theorem G9 {ws : List Qa} {w : Qa} {i : Nat} {t : Tok} {r : List Tok} (h : Y5 t = Qv w) (hk : (Qv w).1 = 1) (hi : ws.idxOf? w = some i) : Zl ws (t :: r) = .ok (i, r) := by
 simp only [Zl]; rw [if_pos (by rw [Kf h, hk]; rfl), cTx h, hi]
theorem Ks {ws : List Qa} {w : Qa} {t : Tok} {r : List Tok} (h : Y5 t = Qv w) (hk : Oo w) (hw : ws.contains w = true) : Ji ws (t :: r) = true := by
 simp only [Ji]
 have : Yg t = true := by
  unfold Yg; rw [Kf h]; rcases hk with h | h <;> rw [h] <;> rfl
 rw [this, cTx h, hw]; rfl
theorem Dz {ws : List Qa} {t : Tok} {r : List Tok} (hw : t.text ∉ ws) : Ji ws (t :: r) = false := by
 simp only [Ji]; rw [show ws.contains t.text = false by simpa using hw, Bool.and_false]
theorem Kh {α : Type} {w : Qa} {t : Tok} {r : List Tok} {yes no : List Tok -> R α} (h : Y5 t = Qv w) (hk : Oo w) : isF w (t :: r) yes no = yes r := by
 unfold isF; rw [if_pos (Ks h hk (by simp))]; rfl
theorem Q5 {α : Type} {w : Qa} {t : Tok} {r : List Tok} {yes no : List Tok -> R α} (h : t.text ≠ w) : isF w (t :: r) yes no = no (t :: r) := by
 unfold isF; rw [if_neg (by rw [Dz (by simpa using h)]; simp)]
theorem Kn {w : Qa} {t : Tok} {r : List Tok} (h : Y5 t = Qv w) (hk : Oo w) : Q3 w (t :: r) = .ok ((), r) := Kh h hk
def qdy : List Qa := [[101, 113, 117, 97, 108], [117, 110, 108, 105, 107, 101], [98, 101, 108, 111, 119], [109, 111, 115, 116], [97, 98, 111, 118, 101], [108, 101, 97, 115, 116]]
abbrev wAll : Qa := [97, 108, 108]
abbrev wAny : Qa := [97, 110, 121]
mutual
def wF : Qb -> List Qa
 | .mk op name cmp n ks => wFs ks ++
   (if op = 1 then [[121, 101, 115]] else if op = 2 then [[110, 111]]
   else if op = 3 then [name, dec n, qdy.getD (cmp - 1) []] else if op = 4 then [name, [100, 101, 102, 105, 110, 101, 100]]
   else if op = 5 then [[110, 101, 103, 97, 116, 101, 100]]
   else if op = 6 then [wAll, dec ks.length] else if op = 7 then [wAny, dec ks.length] else [])
def wFs : List Qb -> List Qa
 | [] => []
 | k :: r => wF k ++ wFs r
end
mutual
def okF : Qb -> Bool
 | .mk op name cmp n ks =>
   (if op = 3 then decide (1 <= cmp) && decide (cmp <= 6) && decide (n <= 1000000) else decide (cmp = 0) && decide (n = 0)) &&
   (if op = 3 \/ op = 4 then Qp name else decide (name = [])) &&
   (if op = 1 \/ op = 2 \/ op = 3 \/ op = 4 then decide (ks.length = 0) else if op = 5 then decide (ks.length = 1) else if op = 6 \/ op = 7 then decide (2 <= ks.length) else false) && Kv ks
def Kv : List Qb -> Bool
 | [] => true
 | k :: r => okF k && Kv r
end
theorem V9 : ∀ {ks : List Qb}, Kv ks = true -> ∀ k ∈ ks, okF k = true
 | [], _, k, hk => by simp at hk
 | a :: r, h, k, hk => by
   rw [Kv, Bool.and_eq_true] at h; rcases List.mem_cons.1 hk with rfl | hk
   · exact h.1
   · exact V9 h.2 k hk
theorem Mp : ∀ {ks : List Qb} {k : Qb}, k ∈ ks -> k.deep <= deeps ks
 | [], k, hk => by simp at hk
 | a :: r, k, hk => by
   rw [deeps]; rcases List.mem_cons.1 hk with rfl | hk
   · omega
   · have := Mp hk; omega
def entry (k : Qb) : Qb × Nat := (k, k.deep)
theorem Nb : ∀ (ks : List Qb) (d : Nat), (ks.map entry).foldl (fun d x => max d (x.2 + 1)) d = max d (if ks = [] then 0 else deeps ks + 1)
 | [], d => by simp
 | k :: r, d => by
   rw [List.map_cons, List.foldl_cons, Nb r]; simp only [entry, deeps, if_neg (List.cons_ne_nil k r)]
   by_cases hr : r = []
   · subst hr; simp [deeps]
   · rw [if_neg hr]; omega
theorem qab {ks : List Qb} (h : ks ≠ []) : Qx (ks.map entry) = deeps ks + 1 := by
 unfold Qx; rw [Nb, if_neg h]; omega
theorem Nd {op k : Nat} {at' r : List Tok} {st : Qm} {ks : List Qb} (hk : k = ks.length) (aZ : ks ≠ []) (hd : deeps ks + 1 <= 20) :
 Jo op k at' (st ++ ks.map entry) r = .ok (st ++ [(.mk op [] 0 0 ks, deeps ks + 1)], r) := by
 unfold Jo; have e1 : (st ++ ks.map entry).length - k = st.length := by simp [hk]
 have e2 : (st ++ ks.map entry).drop st.length = ks.map entry := by simp
 have e3 : (st ++ ks.map entry).take st.length = st := by simp
 rw [if_neg (by simp [hk]), e1, e2, e3, qab aZ, if_neg (by omega)]
 have e4 : (ks.map entry).map (·.1) = ks := by
  rw [List.map_map]; exact List.map_id ks
 rw [e4]
theorem Rh {op n : Nat} {at' r : List Tok} {t : Tok} {st : Qm} {ks : List Qb} (hn : n = ks.length) (h2 : 2 <= ks.length) (hm : ks.length <= 9999999) (hd : deeps ks + 1 <= 20) (h : Y5 t = Qv (dec n)) :
 Jv op at' (st ++ ks.map entry) (t :: r) = .ok (st ++ [(.mk op [] 0 0 ks, deeps ks + 1)], r) := by
 unfold Jv; rw [qbg (by omega) h]; simp only [Qc]; rw [if_neg (by omega)]; exact Nd hn (by rintro rfl; simp at h2) hd
theorem Z6 {begins : List Tok -> Bool} {item : Qm -> List Tok -> R Qm} {f : Nat} {st st' : Qm} {t : Tok} {l r : List Tok} (h1 : t.text ∉ ([[125]] : List Qa)) (h2 : begins (t :: l) = true) (hf : 0 < f) (h3 : item st (t :: l) = .ok (st', r)) :
 Zh begins item (f + 1) st (t :: l) = Zh begins item f st' r := by
 conv => lhs; unfold Zh
 rw [if_neg (by rw [Dz h1]; simp), if_pos h2, if_neg (by omega), h3]; rfl
theorem Yc {s : Qa} (h : Qp s = true) {A : List Qa} (hA : ∀ w ∈ A, ((Qv w).1 == 1 && !Wq w) = false) : s ∉ A := fun hm => by
 have := hA s hm; unfold Qp at h; rw [h] at this; cases this
theorem qiv {c : Nat} (h1 : 1 <= c) (h2 : c <= 6) : (Qv (qdy.getD (c - 1) [])).1 = 1 /\ qdy.idxOf? (qdy.getD (c - 1) []) = some (c - 1) := by
 have : c = 1 \/ c = 2 \/ c = 3 \/ c = 4 \/ c = 5 \/ c = 6 := by omega
 rcases this with rfl | rfl | rfl | rfl | rfl | rfl <;> exact ⟨by decide, by decide⟩
theorem Yf : ∀ (ks : List Qb), ks.length <= sizes ks
 | [] => by simp
 | k :: r => by rw [sizes]; have := Yf r; have := Zj k; simp; omega
theorem Lu {begins : List Tok -> Bool} {item : Qm -> List Tok -> R Qm} {w : Qb -> List Qa} : ∀ (ks : List Qb) (f : Nat) (st : Qm) (l rest : List Tok), Qs (ks.flatMap w) l -> sizes ks <= f ->
 (∀ k ∈ ks, ∀ f st l rest, Qs (w k) l -> k.size <= f -> Zh begins item (f + 1) st (l ++ rest) = Zh begins item (f + 1 - k.size) (st ++ [entry k]) rest) ->
 Zh begins item (f + 1) st (l ++ rest) = Zh begins item (f + 1 - sizes ks) (st ++ ks.map entry) rest
 | [], f, st, l, rest, hl, _, _ => by
   obtain rfl := hl.nil; simp [sizes]
 | k :: r, f, st, l, rest, hl, hf, ih => by
   rw [List.flatMap_cons] at hl; obtain ⟨l1, l2, rfl, h1, h2⟩ := hl.app; rw [sizes] at hf; have hs := Zj k; rw [List.append_assoc, ih k (by simp) f st l1 (l2 ++ rest) h1 (by omega)]; obtain ⟨g, hg⟩ : ∃ g, f + 1 - k.size = g + 1 := ⟨f - k.size, by omega⟩
   rw [hg, Lu r g (st ++ [entry k]) l2 rest h2 (by omega) (fun x hx => ih x (by simp [hx]))]; rw [sizes]; rw [show g + 1 - sizes r = f + 1 - (k.size + sizes r) by omega]; simp
theorem Hg : ∀ ks : List Qb, wFs ks = ks.flatMap wF
 | [] => rfl
 | k :: r => by rw [wFs, Hg r, List.flatMap_cons]
theorem qi6 : ∀ (s : Nat) (t : Qb), t.size <= s -> okF t = true -> t.deep <= 20 -> ∀ f st l rest, Qs (wF t) l -> t.size <= f -> t.size <= 200 -> Zh Zv Zb (f + 1) st (l ++ rest) = Zh Zv Zb (f + 1 - t.size) (st ++ [entry t]) rest
 | 0, t, h, _, _ => by have := Zj t; omega
 | s + 1, .mk op name cmp n ks, hs, aB, hd => by
   rw [okF] at aB; simp only [Bool.and_eq_true] at aB; obtain ⟨⟨⟨h1, h2⟩, h3⟩, h4⟩ := aB; have aW := hd; rw [Qb.deep] at hd; rw [Qb.size] at hs; have hk := V9 h4; intro f st l rest hl hf aI; rw [Qb.size] at hf aI ⊢; rw [wF, Hg] at hl; obtain ⟨l1, l2, rfl, aF, aA⟩ := hl.app; have aK := Lu ks f st l1 (l2 ++ rest) aF (by omega) (fun k hm f' st' l' rest' ht aT => qi6 s k (by have := Zk hm; omega) (hk k hm) (by have := Mp hm; omega) f' st' l' rest' ht aT (by have := Zk hm; omega)); rw [List.append_assoc, aK]; obtain ⟨g, hg⟩ : ∃ g, f + 1 - sizes ks = (g + 1) + 1 := ⟨f - sizes ks - 1, by omega⟩
   rw [hg, show f + 1 - (1 + sizes ks) = g + 1 by omega]; have aP : entry (.mk op name cmp n ks) = (.mk op name cmp n ks, deeps ks + 1) := by unfold entry; rw [Qb.deep]
   rw [aP]
   by_cases o1 : op = 1
   · subst o1; rw [if_pos rfl] at aA; rw [if_neg (by decide)] at h1 h2; rw [if_pos (by decide)] at h3; simp only [Bool.and_eq_true, decide_eq_true_eq] at h1 h2 h3; obtain ⟨t0, l3, rfl, h0, aC⟩ := aA.cons; obtain rfl := aC.nil; obtain ⟨hc, aN⟩ := h1; obtain rfl := List.length_eq_zero_iff.1 h3; subst hc aN h2; simp only [List.cons_append, List.nil_append]; refine Z6 (by rw [cTx h0]; decide) ?_ (by omega) ?_
     · unfold Zv; rw [Ks h0 (wKc (by decide)) (by decide), Bool.or_true]
     · unfold Zb; rw [Kh h0 (wKc (by decide))]; simp [Xc, deeps]
   by_cases o2 : op = 2
   · subst o2; rw [if_neg (by decide), if_pos rfl] at aA; rw [if_neg (by decide)] at h1 h2; rw [if_pos (by decide)] at h3; simp only [Bool.and_eq_true, decide_eq_true_eq] at h1 h2 h3; obtain ⟨t0, l3, rfl, h0, aC⟩ := aA.cons; obtain rfl := aC.nil; obtain ⟨hc, aN⟩ := h1; obtain rfl := List.length_eq_zero_iff.1 h3; subst hc aN h2; simp only [List.cons_append, List.nil_append]; refine Z6 (by rw [cTx h0]; decide) ?_ (by omega) ?_
     · unfold Zv; rw [Ks h0 (wKc (by decide)) (by decide), Bool.or_true]
     · unfold Zb; rw [Q5 (by rw [cTx h0]; decide), Kh h0 (wKc (by decide))]; simp [Xc, deeps]
   by_cases o3 : op = 3
   · subst o3; rw [if_neg (by decide), if_neg (by decide), if_pos rfl] at aA; rw [if_pos rfl] at h1; rw [if_pos (by decide)] at h2 h3; simp only [Bool.and_eq_true, decide_eq_true_eq] at h1 h3; obtain ⟨⟨c1, c2⟩, c3⟩ := h1; obtain rfl := List.length_eq_zero_iff.1 h3; obtain ⟨t0, l3, rfl, h0, aC⟩ := aA.cons; obtain ⟨t1, l4, rfl, aG, aD⟩ := aC.cons; obtain ⟨t2, l5, rfl, bE, aQ⟩ := aD.cons; obtain rfl := aQ.nil; obtain ⟨g1, g2⟩ := qiv c1 c2; obtain ⟨n1, n2⟩ := Yu (r := t1 :: t2 :: rest) h2 h0
     have nt : ∀ w, ((Qv w).1 == 1 && !Wq w) = false -> t0.text ≠ w := fun w hw e => by
      rw [cTx h0] at e; have := Yc h2 (A := [w]) (by simpa using hw); exact this (by simp [e])
     simp only [List.cons_append, List.nil_append]; refine Z6 (by simpa using nt [125] (by decide)) ?_ (by omega) ?_
     · unfold Zv
       try simp only [List.cons_append] at n1 ⊢
       rw [n1, Bool.true_or]
     · unfold Zb
       try simp only [List.cons_append] at n2 ⊢
       rw [Q5 (nt _ (by decide)), Q5 (nt _ (by decide)), Q5 (nt _ (by decide)), Q5 (nt _ (by decide)), Q5 (nt _ (by decide)), n2]; simp only [Qc]
       rw [Q5 (by
        rw [cTx aG]; intro e; have h9 : (Qv (dec n)).1 = 2 := by rw [Vl (by omega)]
        rw [e] at h9; exact absurd h9 (by decide))]
       unfold Hj; rw [Cr (by omega) c3 aG]; simp only [Qc]; rw [G9 (ws := [[101, 113, 117, 97, 108], [117, 110, 108, 105, 107, 101], [98, 101, 108, 111, 119], [109, 111, 115, 116], [97, 98, 111, 118, 101], [108, 101, 97, 115, 116]]) bE g1 g2]; simp only [Xc, deeps]; rw [show 1 + (cmp - 1) = cmp by omega]; simp
   by_cases o4 : op = 4
   · subst o4; rw [if_neg (by decide), if_neg (by decide), if_neg (by decide), if_pos rfl] at aA; rw [if_neg (by decide)] at h1; rw [if_pos (by decide)] at h2 h3; simp only [Bool.and_eq_true, decide_eq_true_eq] at h1 h3; obtain ⟨hc, aN⟩ := h1; obtain rfl := List.length_eq_zero_iff.1 h3; obtain ⟨t0, l3, rfl, h0, aC⟩ := aA.cons; obtain ⟨t1, l4, rfl, aG, aD⟩ := aC.cons; obtain rfl := aD.nil; subst hc aN; obtain ⟨n1, n2⟩ := Yu (r := t1 :: rest) h2 h0
     have nt : ∀ w, ((Qv w).1 == 1 && !Wq w) = false -> t0.text ≠ w := fun w hw e => by
      rw [cTx h0] at e; have := Yc h2 (A := [w]) (by simpa using hw); exact this (by simp [e])
     simp only [List.cons_append, List.nil_append]; refine Z6 (by simpa using nt [125] (by decide)) ?_ (by omega) ?_
     · unfold Zv
       try simp only [List.cons_append] at n1 ⊢
       rw [n1, Bool.true_or]
     · unfold Zb
       try simp only [List.cons_append] at n2 ⊢
       rw [Q5 (nt _ (by decide)), Q5 (nt _ (by decide)), Q5 (nt _ (by decide)), Q5 (nt _ (by decide)), Q5 (nt _ (by decide)), n2]; simp only [Qc]; rw [Kh aG (wKc (by decide))]; simp [Xc, deeps]
   have aN : cmp = 0 /\ n = 0 := by rw [if_neg o3] at h1; simpa using h1
   have aL : name = [] := by rw [if_neg (by omega)] at h2; simpa using h2
   obtain ⟨hc, aJ⟩ := aN; subst hc aJ aL; have aS := Yf ks
   by_cases o5 : op = 5
   · subst o5; rw [if_neg (by decide), if_neg (by decide), if_neg (by decide), if_neg (by decide), if_pos rfl] at aA; rw [if_neg (by decide), if_pos rfl] at h3; have aM : ks.length = 1 := by simpa using h3
     obtain ⟨t0, l3, rfl, h0, aC⟩ := aA.cons; obtain rfl := aC.nil; simp only [List.cons_append, List.nil_append]; refine Z6 (by rw [cTx h0]; decide) ?_ (by omega) ?_
     · unfold Zv; rw [Ks h0 (wKc (by decide)) (by decide), Bool.or_true]
     · unfold Zb; rw [Q5 (by rw [cTx h0]; decide), Q5 (by rw [cTx h0]; decide), Kh h0 (wKc (by decide))]; exact Nd aM.symm (by rintro rfl; simp at aM) hd
   by_cases o6 : op = 6
   · subst o6; rw [if_neg (by decide), if_neg (by decide), if_neg (by decide), if_neg (by decide), if_neg (by decide), if_pos rfl] at aA; rw [if_neg (by decide), if_neg (by decide), if_pos (by decide)] at h3; have aM : 2 <= ks.length := by simpa using h3
     obtain ⟨t0, l3, rfl, h0, aC⟩ := aA.cons; obtain ⟨t1, l4, rfl, aG, aD⟩ := aC.cons; obtain rfl := aD.nil; simp only [List.cons_append, List.nil_append]; refine Z6 (by rw [cTx h0]; decide) ?_ (by omega) ?_
     · unfold Zv; rw [Ks h0 (wKc (by decide)) (by decide), Bool.or_true]
     · unfold Zb; rw [Q5 (by rw [cTx h0]; decide), Q5 (by rw [cTx h0]; decide), Q5 (by rw [cTx h0]; decide), Kh h0 (wKc (by decide))]; exact Rh rfl aM (by omega) hd aG
   by_cases o7 : op = 7
   · subst o7; rw [if_neg (by decide), if_neg (by decide), if_neg (by decide), if_neg (by decide), if_neg (by decide), if_neg (by decide), if_pos rfl] at aA; rw [if_neg (by decide), if_neg (by decide), if_pos (by decide)] at h3; have aM : 2 <= ks.length := by simpa using h3
     obtain ⟨t0, l3, rfl, h0, aC⟩ := aA.cons; obtain ⟨t1, l4, rfl, aG, aD⟩ := aC.cons; obtain rfl := aD.nil; simp only [List.cons_append, List.nil_append]; refine Z6 (by rw [cTx h0]; decide) ?_ (by omega) ?_
     · unfold Zv; rw [Ks h0 (wKc (by decide)) (by decide), Bool.or_true]
     · unfold Zb; rw [Q5 (by rw [cTx h0]; decide), Q5 (by rw [cTx h0]; decide), Q5 (by rw [cTx h0]; decide), Q5 (by rw [cTx h0]; decide), Kh h0 (wKc (by decide))]; exact Rh rfl aM (by omega) hd aG
   · exfalso; rw [if_neg (by omega), if_neg o5, if_neg (by omega)] at h3; cases h3
theorem Ty {t : Qb} (aB : okF t = true) (aE : small t = true) {l rest : List Tok} (hl : Qs ([123] :: (wF t ++ [[125]])) l) : Zc (l ++ rest) = .ok (t, rest) := by
 unfold small at aE; rw [Bool.and_eq_true] at aE; simp only [decide_eq_true_eq] at aE; obtain ⟨t0, l1, rfl, h0, aF⟩ := hl.cons; obtain ⟨l2, l3, rfl, h2, h3⟩ := aF.app; obtain ⟨t3, l4, rfl, h4, h5⟩ := h3.cons; obtain rfl := h5.nil; have e : t0 :: (l2 ++ [t3]) ++ rest = t0 :: (l2 ++ t3 :: rest) := by simp
 rw [e]; unfold Zc Wl; rw [Kn h0 (wKc (by decide))]; simp only [Qc]; have hr := qi6 t.size t (lR _) aB aE.2 200 [] l2 (t3 :: rest) h2 aE.1 aE.1; obtain ⟨g, hg⟩ : ∃ g, 200 + 1 - t.size = g + 1 := ⟨200 - t.size, by omega⟩
 rw [hg] at hr; rw [hr]; unfold Zh; rw [if_pos (Ks h4 (wKc (by decide)) (by decide))]; simp only [List.nil_append, Hh]; rw [Kn h4 (wKc (by decide))]; rfl
end So
namespace So
def Cl : List Qa := [[100, 101, 99, 114, 101, 101], [101, 118, 101, 110, 116], [98, 101, 103, 117, 110], [111, 118, 101, 114]]
mutual
def wS : Qb -> List Qa
 | .mk op name cmp n ks => wSs ks ++
   (if op = 1 then [[97, 108, 119, 97, 121, 115]] else if op = 2 then [[110, 101, 118, 101, 114]]
   else if op = 3 then [dec n, [100, 97, 121]] else if op = 4 \/ op = 5 \/ op = 6 \/ op = 7 then [name, Cl.getD (op - 4) []]
   else if op = 8 then [wAll, dec ks.length] else if op = 9 then [wAny, dec ks.length] else [])
def wSs : List Qb -> List Qa
 | [] => []
 | k :: r => wS k ++ wSs r
end
mutual
def okS : Qb -> Bool
 | .mk op name cmp n ks =>
   (decide (cmp = 0) && (if op = 3 then decide (n <= 1000000) else decide (n = 0))) &&
   (if op = 4 \/ op = 5 \/ op = 6 \/ op = 7 then Qp name else decide (name = [])) &&
   (if op = 8 \/ op = 9 then decide (2 <= ks.length) else if 1 <= op /\ op <= 7 then decide (ks.length = 0) else false) && Ku ks
def Ku : List Qb -> Bool
 | [] => true
 | k :: r => okS k && Ku r
end
theorem V8 : ∀ {ks : List Qb}, Ku ks = true -> ∀ k ∈ ks, okS k = true
 | [], _, k, hk => by simp at hk
 | a :: r, h, k, hk => by
   rw [Ku, Bool.and_eq_true] at h; rcases List.mem_cons.1 hk with rfl | hk
   · exact h.1
   · exact V8 h.2 k hk
theorem He : ∀ ks : List Qb, wSs ks = ks.flatMap wS
 | [] => rfl
 | k :: r => by rw [wSs, He r, List.flatMap_cons]
theorem qj1 {op : Nat} (h : op = 4 \/ op = 5 \/ op = 6 \/ op = 7) : (Qv (Cl.getD (op - 4) [])).1 = 1 /\ Cl.idxOf? (Cl.getD (op - 4) []) = some (op - 4) := by
 rcases h with rfl | rfl | rfl | rfl <;> exact ⟨by decide, by decide⟩
theorem qit {n : Nat} (h : n <= 9999999) {t : Tok} (ht : Y5 t = Qv (dec n)) {w : Qa} (hw : (Qv w).1 ≠ 2) : t.text ≠ w := by
 rw [cTx ht]; intro e; have h9 : (Qv (dec n)).1 = 2 := by rw [Vl h]
 rw [e] at h9; exact hw h9
theorem qi5 : ∀ (s : Nat) (t : Qb), t.size <= s -> okS t = true -> t.deep <= 20 -> ∀ f st l rest, Qs (wS t) l -> t.size <= f -> t.size <= 200 -> Zh Zg Q9 (f + 1) st (l ++ rest) = Zh Zg Q9 (f + 1 - t.size) (st ++ [entry t]) rest
 | 0, t, h, _, _ => by have := Zj t; omega
 | s + 1, .mk op name cmp n ks, hs, aB, hd => by
   rw [okS] at aB; simp only [Bool.and_eq_true] at aB; obtain ⟨⟨⟨h1, h2⟩, h3⟩, h4⟩ := aB; have bH := opS h3; rw [Qb.deep] at hd; rw [Qb.size] at hs; have hk := V8 h4; have bF : cmp = 0 := by simpa using h1.1
   intro f st l rest hl hf aI; rw [Qb.size] at hf aI ⊢; rw [wS, He] at hl; obtain ⟨l1, l2, rfl, aF, aA⟩ := hl.app; have aK := Lu ks f st l1 (l2 ++ rest) aF (by omega) (fun k hm f' st' l' rest' ht aT => qi5 s k (by have := Zk hm; omega) (hk k hm) (by have := Mp hm; omega) f' st' l' rest' ht aT (by have := Zk hm; omega)); rw [List.append_assoc, aK]; obtain ⟨g, hg⟩ : ∃ g, f + 1 - sizes ks = (g + 1) + 1 := ⟨f - sizes ks - 1, by omega⟩
   rw [hg, show f + 1 - (1 + sizes ks) = g + 1 by omega]; have aP : entry (.mk op name cmp n ks) = (.mk op name cmp n ks, deeps ks + 1) := by unfold entry; rw [Qb.deep]
   rw [aP]; subst bF
   by_cases o1 : op = 1
   · subst o1; rw [if_pos rfl] at aA; have aJ : n = 0 := by simpa using h1.2
     have aL : name = [] := by simpa using h2
     have aO : ks = [] := List.length_eq_zero_iff.1 (by omega); obtain ⟨t0, l3, rfl, h0, aC⟩ := aA.cons; obtain rfl := aC.nil; subst aJ aL aO; simp only [List.cons_append, List.nil_append]; refine Z6 (by rw [cTx h0]; decide) ?_ (by omega) ?_
     · unfold Zg; rw [Ks h0 (wKc (by decide)) (by decide), Bool.or_true, Bool.true_or]
     · unfold Q9; rw [Kh h0 (wKc (by decide))]; simp [Xc, deeps]
   by_cases o2 : op = 2
   · subst o2; rw [if_neg (by decide), if_pos rfl] at aA; have aJ : n = 0 := by simpa using h1.2
     have aL : name = [] := by simpa using h2
     have aO : ks = [] := List.length_eq_zero_iff.1 (by omega); obtain ⟨t0, l3, rfl, h0, aC⟩ := aA.cons; obtain rfl := aC.nil; subst aJ aL aO; simp only [List.cons_append, List.nil_append]; refine Z6 (by rw [cTx h0]; decide) ?_ (by omega) ?_
     · unfold Zg; rw [Ks h0 (wKc (by decide)) (by decide), Bool.or_true, Bool.true_or]
     · unfold Q9; rw [Q5 (by rw [cTx h0]; decide), Kh h0 (wKc (by decide))]; simp [Xc, deeps]
   by_cases o3 : op = 3
   · subst o3; rw [if_neg (by decide), if_neg (by decide), if_pos rfl] at aA; have aJ : n <= 1000000 := by simpa using h1.2
     have aL : name = [] := by simpa using h2
     have aO : ks = [] := List.length_eq_zero_iff.1 (by omega); obtain ⟨t0, l3, rfl, h0, aC⟩ := aA.cons; obtain ⟨t1, l4, rfl, aG, aD⟩ := aC.cons; obtain rfl := aD.nil; subst aL aO; have aV : t0.kind = 2 := by rw [Kf h0, Vl (by omega)]
     have nt : ∀ w, (Qv w).1 ≠ 2 -> t0.text ≠ w := fun w hw => qit (by omega) h0 hw; simp only [List.cons_append, List.nil_append]; refine Z6 (by simpa using nt [125] (by decide)) ?_ (by omega) ?_
     · unfold Zg; simp [aV]
     · unfold Q9; rw [Q5 (nt _ (by decide)), Q5 (nt _ (by decide)), Q5 (nt _ (by decide)), Q5 (nt _ (by decide))]; rw [if_pos (by simp [aV]), Cr (by omega) aJ h0]; simp only [Qc]; rw [Kn aG (wKc (by decide))]; simp [Xc, deeps]
   by_cases o4 : op = 4 \/ op = 5 \/ op = 6 \/ op = 7
   · rw [if_neg o1, if_neg o2, if_neg o3, if_pos o4] at aA; rw [if_pos o4] at h2; have aJ : n = 0 := by have := h1.2; rw [if_neg o3] at this; simpa using this
     have aO : ks = [] := List.length_eq_zero_iff.1 (by omega); obtain ⟨t0, l3, rfl, h0, aC⟩ := aA.cons; obtain ⟨t1, l4, rfl, aG, aD⟩ := aC.cons; obtain rfl := aD.nil; subst aJ aO; obtain ⟨g1, g2⟩ := qj1 o4; obtain ⟨n1, n2⟩ := Yu (r := t1 :: rest) h2 h0
     have nt : ∀ w, ((Qv w).1 == 1 && !Wq w) = false -> t0.text ≠ w := fun w hw e => by
      rw [cTx h0] at e; have := Yc h2 (A := [w]) (by simpa using hw); exact this (by simp [e])
     have bD : t0.kind = 1 := by
      rw [Kf h0]; unfold Qp at h2; rw [Bool.and_eq_true] at h2; simpa using h2.1
     simp only [List.cons_append, List.nil_append]; refine Z6 (by simpa using nt [125] (by decide)) ?_ (by omega) ?_
     · unfold Zg; rw [n1, Bool.true_or, Bool.true_or]
     · unfold Q9; rw [Q5 (nt _ (by decide)), Q5 (nt _ (by decide)), Q5 (nt _ (by decide)), Q5 (nt _ (by decide))]; rw [if_neg (by simp [bD]), n2]; simp only [Qc]; rw [G9 (ws := [[100, 101, 99, 114, 101, 101], [101, 118, 101, 110, 116], [98, 101, 103, 117, 110], [111, 118, 101, 114]]) aG g1 g2]; simp only [Xc, deeps]; rw [show 4 + (op - 4) = op by omega]; simp
   have aJ : n = 0 := by have := h1.2; rw [if_neg o3] at this; simpa using this
   have aL : name = [] := by rw [if_neg o4] at h2; simpa using h2
   have aS := Yf ks; subst aJ aL
   by_cases o8 : op = 8
   · subst o8; rw [if_neg (by decide), if_neg (by decide), if_neg (by decide), if_neg (by decide), if_pos rfl] at aA; obtain ⟨t0, l3, rfl, h0, aC⟩ := aA.cons; obtain ⟨t1, l4, rfl, aG, aD⟩ := aC.cons; obtain rfl := aD.nil; simp only [List.cons_append, List.nil_append]; refine Z6 (by rw [cTx h0]; decide) ?_ (by omega) ?_
     · unfold Zg; rw [Ks h0 (wKc (by decide)) (by decide), Bool.or_true, Bool.true_or]
     · unfold Q9; rw [Q5 (by rw [cTx h0]; decide), Q5 (by rw [cTx h0]; decide), Kh h0 (wKc (by decide))]; exact Rh rfl (by omega) (by omega) hd aG
   · have o9 : op = 9 := by omega
     subst o9; rw [if_neg (by decide), if_neg (by decide), if_neg (by decide), if_neg (by decide), if_neg (by decide), if_pos rfl] at aA; obtain ⟨t0, l3, rfl, h0, aC⟩ := aA.cons; obtain ⟨t1, l4, rfl, aG, aD⟩ := aC.cons; obtain rfl := aD.nil; simp only [List.cons_append, List.nil_append]; refine Z6 (by rw [cTx h0]; decide) ?_ (by omega) ?_
     · unfold Zg; rw [Ks h0 (wKc (by decide)) (by decide), Bool.or_true, Bool.true_or]
     · unfold Q9; rw [Q5 (by rw [cTx h0]; decide), Q5 (by rw [cTx h0]; decide), Q5 (by rw [cTx h0]; decide), Kh h0 (wKc (by decide))]; exact Rh rfl (by omega) (by omega) hd aG
theorem qe2 {t : Qb} (aB : okS t = true) (aE : small t = true) {l rest : List Tok} (hl : Qs ([123] :: (wS t ++ [[125]])) l) : Jk (l ++ rest) = .ok (t, rest) := by
 unfold small at aE; rw [Bool.and_eq_true] at aE; simp only [decide_eq_true_eq] at aE; obtain ⟨t0, l1, rfl, h0, aF⟩ := hl.cons; obtain ⟨l2, l3, rfl, h2, h3⟩ := aF.app; obtain ⟨t3, l4, rfl, h4, h5⟩ := h3.cons; obtain rfl := h5.nil; have e : t0 :: (l2 ++ [t3]) ++ rest = t0 :: (l2 ++ t3 :: rest) := by simp
 rw [e]; unfold Jk Wl; rw [Kn h0 (wKc (by decide))]; simp only [Qc]; have hr := qi5 t.size t (lR _) aB aE.2 200 [] l2 (t3 :: rest) h2 aE.1 aE.1; obtain ⟨g, hg⟩ : ∃ g, 200 + 1 - t.size = g + 1 := ⟨200 - t.size, by omega⟩
 rw [hg] at hr; rw [hr]; unfold Zh; rw [if_pos (Ks h4 (wKc (by decide)) (by decide))]; simp only [List.nil_append, Hh]; rw [Kn h4 (wKc (by decide))]; rfl
def Rz : List Qa := [[99, 104, 97, 114, 116, 101, 114], [115, 116, 97, 116, 117, 116, 101], [111, 114, 100, 101, 114], [114, 117, 108, 101]]
abbrev Ut : Qa := [119, 104, 101, 114, 101]
abbrev qen : Qa := [111, 118, 101, 114, 114, 105, 100, 101, 115]
abbrev Xs : Qa := [115, 116, 97, 114, 116, 115]
abbrev Vp : Qa := [101, 110, 100, 115]
abbrev Iq : Qa := [114, 101, 116, 117, 114, 110, 115]
def brW (l : List Qa) : List Qa := [123] :: (l ++ [[125]])
def Kw (exc : List Qa) : List Qa := if exc = [] then [] else qen :: [40] :: (exc ++ [[41]])
def Wi (p : Qf) : List Qa := if p.kind = 1 then [[116, 101, 114, 109], p.name] else [[113, 117, 101, 115, 116, 105, 111, 110], p.name, [103, 105, 118, 101, 115], dec p.value]
def C1 (p : Qf) : List Qa := [[91], Rz.getD (p.rank - 1) [], p.id, [93]]
def Ub (p : Qf) : List Qa := Qr (p.aga.op != 2) Iq (brW (wS p.aga)) ++ C1 p
def Uc (p : Qf) : List Qa := Qr (p.fin.op != 2) Vp (brW (wS p.fin)) ++ Ub p
def Ws (p : Qf) : List Qa := Qr (p.beg.op != 1) Xs (brW (wS p.beg)) ++ Uc p
def Wt (p : Qf) : List Qa := Kw p.exc ++ Ws p
def wP (p : Qf) : List Qa := Qr (p.cond.op != 1) Ut (brW (wF p.cond)) ++ (Wi p ++ Wt p)
structure Zo (p : Qf) : Prop where
 rank : 1 <= p.rank /\ p.rank <= 4
 id : Qp p.id = true
 kind : p.kind = 1 /\ p.value = 0 \/ p.kind = 2
 name : Qp p.name = true
 value : p.value <= 1000000
 cond : okF p.cond = true
 condS : small p.cond = true
 exc : ∀ s ∈ p.exc, Qp s = true
 excN : p.exc.Nodup
 excL : p.exc.length <= 20
 beg : okS p.beg = true
 begS : small p.beg = true
 fin : okS p.fin = true
 finS : small p.fin = true
 aga : okS p.aga = true
 agaS : small p.aga = true
theorem Fm (p : Qf) : Zz (Ub p) [Iq, [91]] := Zz.part (by simp) (fun w r e => by unfold C1 at e; simp at e; simp [<- e.1])
theorem Fo (p : Qf) : Zz (Uc p) [Vp, Iq, [91]] := Zz.part (by simp) ((Fm p).sub (fun x hx => List.mem_cons_of_mem _ hx))
theorem Fp (p : Qf) : Zz (Ws p) [Xs, Vp, Iq, [91]] := Zz.part (by simp) ((Fo p).sub (fun x hx => List.mem_cons_of_mem _ hx))
theorem Ld {α : Type} {w : Qa} {l : List Tok} {yes no : List Tok -> R α} (h : Z4 [w] l) : isF w l yes no = no l := by
 cases l with
 | nil => rfl
 | cons t r => exact Q5 (fun e => h t r rfl (by simp [e]))
theorem absS {t : Qb} {o : Nat} (h : okS t = true) (ho : (t.op != o) = false) (aX : o = 1 \/ o = 2) : t = Vq o := by
 cases t with
 | mk op name cmp n ks =>
   have e : op = o := by simpa using ho
   subst e; rw [okS] at h; simp only [Bool.and_eq_true] at h; obtain ⟨⟨⟨⟨h0, h1⟩, h2⟩, h3⟩, h4⟩ := h; rw [if_neg (by omega)] at h1 h2; rcases opS h3 with ⟨h5, _⟩ | ⟨_, h5⟩
   · omega
   · simp only [decide_eq_true_eq] at h0 h1 h2; rw [h0, h1, h2, List.length_eq_zero_iff.1 h5]; rfl
theorem absF {t : Qb} (h : okF t = true) (ho : (t.op != 1) = false) : t = Vq 1 := by
 cases t with
 | mk op name cmp n ks =>
   have e : op = 1 := by simpa using ho
   subst e; rw [okF] at h; simp only [Bool.and_eq_true] at h; obtain ⟨⟨⟨h1, h2⟩, h3⟩, h4⟩ := h; rw [if_neg (by decide)] at h1 h2; rw [if_pos (by decide)] at h3; simp only [Bool.and_eq_true, decide_eq_true_eq] at h1 h2 h3; rw [h1.1, h1.2, h2, List.length_eq_zero_iff.1 h3]; rfl
theorem Us {t : Qb} {o : Nat} {w : Qa} {T H : List Qa} {l : List Tok} (hw : Oo w) (aX : o = 1 \/ o = 2) (aB : okS t = true) (aE : small t = true) (hT : Zz T H) (hH : ∀ x ∈ H, x ∉ [w]) (hl : Qs (Qr (t.op != o) w (brW (wS t)) ++ T) l) :
 ∃ r, H8 w (Vq o) Jk l = .ok (t, r) /\ Qs T r := by
 unfold H8; cases hp : (t.op != o) with
 | false =>
   rw [hp] at hl; simp only [Qr, Bool.false_eq_true, if_false, List.nil_append] at hl; refine ⟨l, ?_, hl⟩; rw [Ld (hT.notIn hl hH), absS aB hp aX]
 | true =>
   rw [hp] at hl; simp only [Qr, if_true, List.cons_append] at hl; obtain ⟨t0, l1, rfl, h0, aF⟩ := hl.cons; obtain ⟨l2, r, rfl, h2, h3⟩ := aF.app; refine ⟨r, ?_, h3⟩; rw [Kh h0 hw]; exact qe2 aB aE h2
theorem qgh {t : Qb} {T H : List Qa} {l : List Tok} (aB : okF t = true) (aE : small t = true) (hT : Zz T H) (hH : ∀ x ∈ H, x ∉ [Ut]) (hl : Qs (Qr (t.op != 1) Ut (brW (wF t)) ++ T) l) :
 ∃ r, H8 Ut (Vq 1) Zc l = .ok (t, r) /\ Qs T r := by
 unfold H8; cases hp : (t.op != 1) with
 | false =>
   rw [hp] at hl; simp only [Qr, Bool.false_eq_true, if_false, List.nil_append] at hl; refine ⟨l, ?_, hl⟩; rw [Ld (hT.notIn hl hH), absF aB hp]
 | true =>
   rw [hp] at hl; simp only [Qr, if_true, List.cons_append] at hl; obtain ⟨t0, l1, rfl, h0, aF⟩ := hl.cons; obtain ⟨l2, r, rfl, h2, h3⟩ := aF.app; refine ⟨r, ?_, h3⟩; rw [Kh h0 (wKc (by decide))]; exact Ty aB aE h2
theorem Fb : ∀ (xs : List Qa) (n : Nat) (out : List Qa) (T : List Qa) (l : List Tok), xs ≠ [] -> xs.length <= n -> (∀ s ∈ xs, Qp s = true) -> (out ++ xs).Nodup -> (out ++ xs).length <= 20 -> Qs (xs ++ [41] :: T) l ->
 ∃ r, Ql n out l = .ok (out ++ xs, r) /\ Qs T r
 | [], _, _, _, _, h, _, _, _, _, _ => absurd rfl h
 | x :: xs, 0, _, _, _, _, hn, _, _, _, _ => by simp at hn
 | [x], n + 1, out, T, l, _, _, aB, hnd, aH, hl => by
   obtain ⟨t0, l1, rfl, h0, h1⟩ := Qs.cons (w := x) (W := [41] :: T) hl; obtain ⟨t1, r, rfl, h2, h3⟩ := h1.cons; refine ⟨r, ?_, h3⟩; unfold Ql; rw [(Yu (aB x (by simp)) h0).2]
   have hx : x ∉ out := by
    have := (List.nodup_append.1 hnd).2.2; exact fun hm => this x hm x (by simp) rfl
   have he : Xv out x = 0 := by
    unfold Xv; rw [if_neg (by simpa using hx), if_neg (by simp at aH; omega)]
   simp only [Qc, Js, he, if_true]; rw [Kh h2 (wKc (by decide))]
 | x :: y :: xs, n + 1, out, T, l, _, hn, aB, hnd, aH, hl => by
   obtain ⟨t0, l1, rfl, h0, h1⟩ := Qs.cons (w := x) (W := (y :: xs) ++ [41] :: T) hl; have e : out ++ x :: y :: xs = (out ++ [x]) ++ y :: xs := by simp
   rw [e] at hnd aH ⊢; obtain ⟨r, hr, aY⟩ := Fb (y :: xs) n (out ++ [x]) T l1 (by simp) (by simp at hn ⊢; omega) (fun s hs => aB s (by simp at hs ⊢; right; exact hs)) hnd aH h1; refine ⟨r, ?_, aY⟩; unfold Ql; rw [(Yu (aB x (by simp)) h0).2]
   have hx : x ∉ out := by
    have := (List.nodup_append.1 ((List.nodup_append.1 hnd).1)).2.2; exact fun hm => this x hm x (by simp) rfl
   have he : Xv out x = 0 := by
    unfold Xv; rw [if_neg (by simpa using hx), if_neg (by simp at aH; omega)]
   simp only [Qc, Js, he, if_true]; rw [Ld]
   · exact hr
   · obtain ⟨t1, l2, rfl, h2, h3⟩ := Qs.cons (w := y) (W := xs ++ [41] :: T) h1; exact Z4.mk h2 (Yc (aB y (by simp)) (by decide))
theorem T6 {p : Qf} (hp : Zo p) {l : List Tok} (hl : Qs (Wt p) l) : ∃ r, H8 qen [] Kx l = .ok (p.exc, r) /\ Qs (Ws p) r := by
 unfold H8; unfold Wt Kw at hl
 by_cases he : p.exc = []
 · rw [if_pos he] at hl; simp only [List.nil_append] at hl; refine ⟨l, ?_, hl⟩; rw [Ld ((Fp p).notIn hl (by decide)), he]
 · rw [if_neg he] at hl; obtain ⟨t0, l1, rfl, h0, h1⟩ := Qs.cons (w := qen) hl; obtain ⟨t1, l2, rfl, h2, h3⟩ := Qs.cons (w := [40]) h1; have aM : Qs (p.exc ++ [41] :: Ws p) l2 := by simpa using h3
   obtain ⟨r, h4, h5⟩ := Fb p.exc 22 [] (Ws p) l2 he (by have := hp.excL; omega) hp.exc (by simpa using hp.excN) (by simpa using hp.excL) aM; refine ⟨r, ?_, h5⟩; rw [Kh h0 (wKc (by decide))]; unfold Kx; rw [Kn h2 (wKc (by decide))]; simpa [Qc] using h4
theorem L0 {k : Nat} (h : 1 <= k /\ k <= 4) : (Qv (Rz.getD (k - 1) [])).1 = 1 /\ Rz.idxOf? (Rz.getD (k - 1) []) = some (k - 1) := by
 have : k = 1 \/ k = 2 \/ k = 3 \/ k = 4 := by omega
 rcases this with rfl | rfl | rfl | rfl <;> exact ⟨by decide, by decide⟩
theorem Cv {p : Qf} (hp : Zo p) {T : List Qa} {l : List Tok} (hl : Qs (Wi p ++ T) l) : ∃ r, K3 l = .ok ((p.kind, p.name, p.value), r) /\ Qs T r := by
 unfold K3; unfold Wi at hl; rcases hp.kind with ⟨h1, h2⟩ | h1
 · rw [if_pos h1] at hl; obtain ⟨t0, l1, rfl, h3, aF⟩ := Qs.cons (w := [116, 101, 114, 109]) hl; obtain ⟨t1, l2, rfl, h4, aA⟩ := Qs.cons (w := p.name) (W := T) aF; refine ⟨l2, ?_, aA⟩; rw [Kh h3 (wKc (by decide)), (Yu hp.name h4).2]; simp only [Qc]; rw [h1, h2]
 · rw [if_neg (by omega)] at hl; obtain ⟨t0, l1, rfl, h3, aF⟩ := Qs.cons (w := [113, 117, 101, 115, 116, 105, 111, 110]) hl; obtain ⟨t1, l2, rfl, h4, aA⟩ := Qs.cons (w := p.name) aF; obtain ⟨t2, l3, rfl, h5, aC⟩ := Qs.cons (w := [103, 105, 118, 101, 115]) aA; obtain ⟨t3, l4, rfl, h6, aD⟩ := Qs.cons (w := dec p.value) (W := T) aC; refine ⟨l4, ?_, aD⟩; rw [Q5 (by rw [cTx h3]; decide), Kn h3 (wKc (by decide))]; simp only [Qc]; rw [(Yu hp.name h4).2]; simp only []; rw [Kn h5 (wKc (by decide))]; simp only []; rw [Cr (by have := hp.value; omega) hp.value h6, h1]
theorem qdm (p : Qf) (T : List Qa) : Zz (Wi p ++ T) [[116, 101, 114, 109], [113, 117, 101, 115, 116, 105, 111, 110]] := by
 unfold Wi
 split <;> (intro w r e; simp only [List.cons_append, List.cons.injEq] at e; rw [<- e.1]; simp)
theorem Ck {p : Qf} (hp : Zo p) {l : List Tok} (hl : Qs (wP p) l) : Qk l = .ok (p, []) := by
 unfold wP at hl; obtain ⟨l1, k1, aF⟩ := qgh hp.cond hp.condS (qdm p (Wt p)) (by decide) hl; obtain ⟨l2, k2, aA⟩ := Cv hp aF; obtain ⟨l3, k3, aC⟩ := T6 hp aA; obtain ⟨l4, k4, aD⟩ := Us (w := Xs) (o := 1) (wKc (by decide)) (Or.inl rfl) hp.beg hp.begS (Fo p) (by decide) aC; obtain ⟨l5, k5, aQ⟩ := Us (w := Vp) (o := 2) (wKc (by decide)) (Or.inr rfl) hp.fin hp.finS (Fm p) (by decide) aD; obtain ⟨l6, k6, aU⟩ := Us (w := Iq) (o := 2) (T := C1 p) (H := [[91]]) (wKc (by decide)) (Or.inr rfl) hp.aga hp.agaS (fun w r e => by unfold C1 at e; simp at e; simp [<- e.1]) (by decide) aQ; unfold C1 at aU; obtain ⟨t0, l7, rfl, h0, bC⟩ := aU.cons; obtain ⟨t1, l8, rfl, h1, bB⟩ := bC.cons; obtain ⟨t2, l9, rfl, h2, bA⟩ := bB.cons; obtain ⟨t3, bG, rfl, h3, aR⟩ := bA.cons; obtain rfl := aR.nil; obtain ⟨g1, g2⟩ := L0 hp.rank; unfold Qk; rw [k1]; simp only [Qc]; rw [k2]; simp only []; rw [k3]; simp only []; rw [k4]; simp only []; rw [k5]; simp only []; rw [k6]; simp only []; rw [Kn h0 (wKc (by decide))]; simp only []; rw [G9 (ws := [[99, 104, 97, 114, 116, 101, 114], [115, 116, 97, 116, 117, 116, 101], [111, 114, 100, 101, 114], [114, 117, 108, 101]]) h1 g1 g2]; simp only []; rw [(Yu hp.id h2).2]; simp only []; rw [Kn h3 (wKc (by decide))]; simp only []; rw [show 1 + (p.rank - 1) = p.rank by have := hp.rank; omega]
end So
namespace So
theorem Zs {S : List Qa} {s : Qa} (h : Qp s = true) : K9 S s := by
 unfold Qp at h; rw [Bool.and_eq_true] at h; exact Or.inl (by simpa using h.1)
def Ph : List Qa := [[123], [125], [40], [41], [91], [93]]
theorem Mu : ∀ (s : Nat) (t : Qb), t.size <= s -> t.size <= 200 -> okF t = true -> ∀ w ∈ wF t, K9 Ph w
 | 0, t, h, _, _ => by have := Zj t; omega
 | s + 1, .mk op name cmp n ks, hs, aI, aB => by
   rw [okF] at aB; simp only [Bool.and_eq_true] at aB; obtain ⟨⟨⟨h1, h2⟩, h3⟩, h4⟩ := aB; rw [Qb.size] at hs aI; have hk := V9 h4; have aS := Yf ks; intro w hw; rw [wF, Hg, List.mem_append] at hw; rcases hw with hw | hw
   · obtain ⟨k, hm, hw⟩ := List.mem_flatMap.1 hw; exact Mu s k (by have := Zk hm; omega) (by have := Zk hm; omega) (hk k hm) w hw
   by_cases o1 : op = 1
   · rw [if_pos o1] at hw; rw [List.mem_singleton.1 hw]; exact gKy (by decide)
   by_cases o2 : op = 2
   · rw [if_neg o1, if_pos o2] at hw; rw [List.mem_singleton.1 hw]; exact gKy (by decide)
   by_cases o3 : op = 3
   · rw [if_neg o1, if_neg o2, if_pos o3] at hw; rw [if_pos o3] at h1; rw [if_pos (Or.inl o3)] at h2; simp only [Bool.and_eq_true, decide_eq_true_eq] at h1; simp only [List.mem_cons, List.not_mem_nil, or_false] at hw; rcases hw with rfl | rfl | rfl
     · exact Zs h2
     · exact Ko h1.2
     · have : cmp = 1 \/ cmp = 2 \/ cmp = 3 \/ cmp = 4 \/ cmp = 5 \/ cmp = 6 := by omega
       rcases this with rfl | rfl | rfl | rfl | rfl | rfl <;> exact gKy (by decide)
   by_cases o4 : op = 4
   · rw [if_neg o1, if_neg o2, if_neg o3, if_pos o4] at hw; rw [if_pos (Or.inr o4)] at h2; simp only [List.mem_cons, List.not_mem_nil, or_false] at hw; rcases hw with rfl | rfl
     · exact Zs h2
     · exact gKy (by decide)
   by_cases o5 : op = 5
   · rw [if_neg o1, if_neg o2, if_neg o3, if_neg o4, if_pos o5] at hw; rw [List.mem_singleton.1 hw]; exact gKy (by decide)
   by_cases o6 : op = 6
   · rw [if_neg o1, if_neg o2, if_neg o3, if_neg o4, if_neg o5, if_pos o6] at hw; simp only [List.mem_cons, List.not_mem_nil, or_false] at hw; rcases hw with rfl | rfl
     · exact gKy (by decide)
     · exact Ko (by omega)
   by_cases o7 : op = 7
   · rw [if_neg o1, if_neg o2, if_neg o3, if_neg o4, if_neg o5, if_neg o6, if_pos o7] at hw; simp only [List.mem_cons, List.not_mem_nil, or_false] at hw; rcases hw with rfl | rfl
     · exact gKy (by decide)
     · exact Ko (by omega)
   · rw [if_neg o1, if_neg o2, if_neg o3, if_neg o4, if_neg o5, if_neg o6, if_neg o7] at hw; simp at hw
theorem U8 : ∀ (s : Nat) (t : Qb), t.size <= s -> t.size <= 200 -> okS t = true -> ∀ w ∈ wS t, K9 Ph w
 | 0, t, h, _, _ => by have := Zj t; omega
 | s + 1, .mk op name cmp n ks, hs, aI, aB => by
   rw [okS] at aB; simp only [Bool.and_eq_true] at aB; obtain ⟨⟨⟨h1, h2⟩, h3⟩, h4⟩ := aB; rw [Qb.size] at hs aI; have hk := V8 h4; have aS := Yf ks; intro w hw; rw [wS, He, List.mem_append] at hw; rcases hw with hw | hw
   · obtain ⟨k, hm, hw⟩ := List.mem_flatMap.1 hw; exact U8 s k (by have := Zk hm; omega) (by have := Zk hm; omega) (hk k hm) w hw
   by_cases o1 : op = 1
   · rw [if_pos o1] at hw; rw [List.mem_singleton.1 hw]; exact gKy (by decide)
   by_cases o2 : op = 2
   · rw [if_neg o1, if_pos o2] at hw; rw [List.mem_singleton.1 hw]; exact gKy (by decide)
   by_cases o3 : op = 3
   · rw [if_neg o1, if_neg o2, if_pos o3] at hw; have aJ : n <= 1000000 := by have := h1.2; rw [if_pos o3] at this; simpa using this
     simp only [List.mem_cons, List.not_mem_nil, or_false] at hw; rcases hw with rfl | rfl
     · exact Ko aJ
     · exact gKy (by decide)
   by_cases o4 : op = 4 \/ op = 5 \/ op = 6 \/ op = 7
   · rw [if_neg o1, if_neg o2, if_neg o3, if_pos o4] at hw; rw [if_pos o4] at h2; simp only [List.mem_cons, List.not_mem_nil, or_false] at hw; rcases hw with rfl | rfl
     · exact Zs h2
     · rcases o4 with rfl | rfl | rfl | rfl <;> exact gKy (by decide)
   by_cases o8 : op = 8
   · rw [if_neg o1, if_neg o2, if_neg o3, if_neg o4, if_pos o8] at hw; simp only [List.mem_cons, List.not_mem_nil, or_false] at hw; rcases hw with rfl | rfl
     · exact gKy (by decide)
     · exact Ko (by omega)
   by_cases o9 : op = 9
   · rw [if_neg o1, if_neg o2, if_neg o3, if_neg o4, if_neg o8, if_pos o9] at hw; simp only [List.mem_cons, List.not_mem_nil, or_false] at hw; rcases hw with rfl | rfl
     · exact gKy (by decide)
     · exact Ko (by omega)
   · rw [if_neg o1, if_neg o2, if_neg o3, if_neg o4, if_neg o8, if_neg o9] at hw; simp at hw
theorem Ky {t : Qb} (h : small t = true) : t.size <= 200 := by
 unfold small at h; rw [Bool.and_eq_true] at h; simpa using h.1
theorem Le {l : List Qa} (h : ∀ w ∈ l, K9 Ph w) : ∀ w ∈ brW l, K9 Ph w := by
 intro w hw; unfold brW at hw; simp only [List.mem_cons, List.mem_append, List.not_mem_nil, or_false] at hw; rcases hw with rfl | hw | rfl
 · exact Xe (by decide)
 · exact h w hw
 · exact Xe (by decide)
theorem Mt {p : Qf} (hp : Zo p) : ∀ w ∈ wP p, K9 Ph w := by
 intro w hw; unfold wP Wt Ws Uc Ub at hw; simp only [List.mem_append] at hw; rcases hw with hw | hw | hw | hw | hw | hw | hw
 · exact K4 (gKy (by decide)) (Le (Mu _ _ (lR _) (Ky hp.condS) hp.cond)) w hw
 · unfold Wi at hw
   split at hw
   · simp only [List.mem_cons, List.not_mem_nil, or_false] at hw; rcases hw with rfl | rfl
     · exact gKy (by decide)
     · exact Zs hp.name
   · simp only [List.mem_cons, List.not_mem_nil, or_false] at hw; rcases hw with rfl | rfl | rfl | rfl
     · exact gKy (by decide)
     · exact Zs hp.name
     · exact gKy (by decide)
     · exact Ko hp.value
 · unfold Kw at hw
   split at hw
   · simp at hw
   · simp only [List.mem_cons, List.mem_append, List.not_mem_nil, or_false] at hw; rcases hw with rfl | rfl | hw | rfl
     · exact gKy (by decide)
     · exact Xe (by decide)
     · exact Zs (hp.exc w hw)
     · exact Xe (by decide)
 · exact K4 (gKy (by decide)) (Le (U8 _ _ (lR _) (Ky hp.begS) hp.beg)) w hw
 · exact K4 (gKy (by decide)) (Le (U8 _ _ (lR _) (Ky hp.finS) hp.fin)) w hw
 · exact K4 (gKy (by decide)) (Le (U8 _ _ (lR _) (Ky hp.agaS) hp.aga)) w hw
 · unfold C1 at hw; simp only [List.mem_cons, List.not_mem_nil, or_false] at hw; rcases hw with rfl | rfl | rfl | rfl
   · exact Xe (by decide)
   · have hr := hp.rank; have : p.rank = 1 \/ p.rank = 2 \/ p.rank = 3 \/ p.rank = 4 := (by omega)
     rcases this with h | h | h | h <;> rw [h] <;> exact gKy (by decide)
   · exact Zs hp.id
   · exact Xe (by decide)
abbrev qc4 : List UInt8 := [40, 91]
abbrev qd2 : List UInt8 := [41, 93]
theorem qj8 (r : Qa) : Qt 91 r = .ok (3, 1, 0) := by
 unfold Qt; rw [if_neg (by decide), if_neg (by decide), if_pos (by decide)]
theorem qjo : qb8 (qc4.map fun x => [x]) (qd2.map fun x => [x]) where
 opn := by
  intro w hw; simp only [List.map_cons, List.map_nil, List.mem_cons, List.not_mem_nil, or_false] at hw; rcases hw with rfl | rfl
  · exact ⟨40, rfl, qf3⟩
  · exact ⟨91, rfl, qj8⟩
 cls := by
  intro w hw; simp only [List.map_cons, List.map_nil, List.mem_cons, List.not_mem_nil, or_false] at hw; rcases hw with rfl | rfl
  · exact ⟨41, rfl, by decide, by decide⟩
  · exact ⟨93, rfl, by decide, by decide⟩
theorem symR : ∀ w ∈ Ph, Bu qc4 qd2 w /\ (Qv w).1 ≠ 0 := by
 intro w hw; unfold Ph at hw; simp only [List.mem_cons, List.not_mem_nil, or_false] at hw; rcases hw with rfl | rfl | rfl | rfl | rfl | rfl <;> exact ⟨⟨by decide, by decide, by decide, by decide⟩, by decide⟩
theorem qjc {w : Qa} (h : K9 Ph w) : Bu qc4 qd2 w /\ (Qv w).1 ≠ 0 := by
 rcases h with h | h | h
 · exact ⟨Hc (by decide) (by decide) (Or.inl h), by omega⟩
 · exact ⟨Hc (by decide) (by decide) (Or.inr h), by omega⟩
 · exact symR w h
def Ik (p : Qf) : Qa := Vk (qc4.map fun x => [x]) (qd2.map fun x => [x]) (wP p)
theorem S8 {p : Qf} (hp : Zo p) : Jl qc4 qd2 (Ju (wP p)) = Ik p := (Rx (by decide) (by decide) (by decide) (wP p) (fun w hw => (qjc (Mt hp w hw)).1)).1
theorem qci {p : Qf} (hp : Zo p) : (∀ ts, Zr (Ik p) = .ok ts -> Qs (wP p) ts) /\ ((∃ ts, Zr (Ik p) = .ok ts) ↔ (Ik p).length <= 20000 /\ (wP p).length <= 5000) /\ (∀ e, Zr (Ik p) = .error e -> e.1 = 2) := Bg qjo (fun w hw => (qjc (Mt hp w hw)).2)
theorem Dt {p : Qf} (hp : Zo p) {ts : List Tok} (h : Zr (Ik p) = .ok ts) : Qu (Ik p) = .ok p := by
 have h1 := (qci hp).1 ts h; unfold Qu pr; rw [h]; simp only []; rw [Ck hp h1]; rfl
end So
inductive TreeI where
 | mk (op : Int) (name : List UInt8) (cmp n : Int) (kids : List TreeI)
mutual
def up : Qb -> TreeI
 | .mk op name cmp n ks => .mk op name cmp n (ups ks)
def ups : List Qb -> List TreeI
 | [] => []
 | k :: r => up k :: ups r
end
mutual
def down : TreeI -> Qb
 | .mk op name cmp n ks => .mk op.toNat name cmp.toNat n.toNat (F0 ks)
def F0 : List TreeI -> List Qb
 | [] => []
 | k :: r => down k :: F0 r
end
mutual
theorem Lf : ∀ t : Qb, down (up t) = t
 | .mk op name cmp n ks => by rw [up, down, Bq ks]; rfl
theorem Bq : ∀ ks : List Qb, F0 (ups ks) = ks
 | [] => by rw [ups, F0]
 | k :: r => by rw [ups, F0, Lf k, Bq r]
end
theorem Z3 : ∀ ks : List Qb, (ups ks).length = ks.length
 | [] => by rw [ups]; rfl
 | k :: r => by rw [ups, List.length_cons, List.length_cons, Z3 r]
def Lm (op cmp n : Int) : Bool := op == 3 && decide (1 <= cmp) && decide (cmp <= 6) && decide (0 <= n) && decide (n <= 1000000)
def Nw (op : Int) (name : List UInt8) (cmp n : Int) : Bool := !Lm op cmp n && (op == 3 || cmp != 0 || n != 0) || name != [] && op != 3 && op != 4
mutual
def Jg : TreeI -> Int -> Int -> Bool × Int
 | .mk op name cmp n ks, l, d =>
   if l - 1 < 0 \/ d = 0 \/ Nw op name cmp n = true then (false, l - 1)
   else if op = 1 \/ op = 2 \/ op = 3 \/ op = 4 then (decide (ks.length = 0), l - 1)
   else if op = 5 /\ ks.length = 1 \/ (op = 6 \/ op = 7) /\ 2 <= ks.length then J6 ks (l - 1) (d - 1)
   else (false, l - 1)
def J6 : List TreeI -> Int -> Int -> Bool × Int
 | [], l, _ => (true, l)
 | k :: r, l, d => if (Jg k l d).1 = true then J6 r (Jg k l d).2 d else (false, (Jg k l d).2)
end
def Nv (op : Int) (name : List UInt8) (n : Int) : Bool := name != [] && !(decide (4 <= op) && decide (op <= 7)) || op != 3 && n != 0 || decide (n < 0) || decide (1000000 < n)
mutual
def Q0 : TreeI -> Int -> Int -> Bool × Int
 | .mk op name _ n ks, l, d =>
   if l - 1 < 0 \/ d = 0 \/ Nv op name n = true then (false, l - 1)
   else if op = 8 \/ op = 9 then (if 2 <= ks.length then Jr ks (l - 1) (d - 1) else (false, l - 1))
   else if 1 <= op /\ op <= 7 then (decide (ks.length = 0), l - 1)
   else (false, l - 1)
def Jr : List TreeI -> Int -> Int -> Bool × Int
 | [], l, _ => (true, l)
 | k :: r, l, d => if (Q0 k l d).1 = true then Jr r (Q0 k l d).2 d else (false, (Q0 k l d).2)
end
mutual
def V7 : TreeI -> Prop
 | .mk _ _ cmp _ ks => cmp = 0 /\ W9 ks
def W9 : List TreeI -> Prop
 | [] => True
 | k :: r => V7 k /\ W9 r
end
mutual
def Jn : Qb -> Bool
 | .mk op name cmp n ks =>
   (if op = 3 then decide (1 <= cmp) && decide (cmp <= 6) && decide (n <= 1000000) else decide (cmp = 0) && decide (n = 0)) &&
   (if op = 3 \/ op = 4 then true else decide (name = [])) &&
   (if op = 1 \/ op = 2 \/ op = 3 \/ op = 4 then decide (ks.length = 0) else if op = 5 then decide (ks.length = 1) else if op = 6 \/ op = 7 then decide (2 <= ks.length) else false) && Ze ks
def Ze : List Qb -> Bool
 | [] => true
 | k :: r => Jn k && Ze r
end
mutual
def Ja : Qb -> Bool
 | .mk op name cmp n ks =>
   (decide (cmp = 0) && (if op = 3 then decide (n <= 1000000) else decide (n = 0))) &&
   (if op = 4 \/ op = 5 \/ op = 6 \/ op = 7 then true else decide (name = [])) &&
   (if op = 8 \/ op = 9 then decide (2 <= ks.length) else if 1 <= op /\ op <= 7 then decide (ks.length = 0) else false) && Jz ks
def Jz : List Qb -> Bool
 | [] => true
 | k :: r => Ja k && Jz r
end
mutual
def Ql : Qb -> List Qa
 | .mk op name _ _ ks => (if op = 3 \/ op = 4 then [name] else []) ++ Qy ks
def Qy : List Qb -> List Qa
 | [] => []
 | k :: r => Ql k ++ Qy r
end
mutual
def Qo : Qb -> List Qa
 | .mk op name _ _ ks => (if op = 4 \/ op = 5 \/ op = 6 \/ op = 7 then [name] else []) ++ Qz ks
def Qz : List Qb -> List Qa
 | [] => []
 | k :: r => Qo k ++ Qz r
end
mutual
theorem Th : ∀ t : Qb, okF t = (Jn t && (Ql t).all Qp)
 | .mk op name cmp n ks => by
   rw [okF, Jn, Ql, qbf ks, List.all_append]
   by_cases h : op = 3 \/ op = 4
   · rw [if_pos h, if_pos h, if_pos h]; simp only [List.all_cons, List.all_nil, Bool.and_true]; cases Qp name <;> cases Ze ks <;> cases (Qy ks).all Qp <;> simp
   · rw [if_neg h, if_neg h, if_neg h]; simp only [List.all_nil, Bool.true_and, Bool.and_assoc]
theorem qbf : ∀ ks : List Qb, Kv ks = (Ze ks && (Qy ks).all Qp)
 | [] => by rw [Kv, Ze, Qy]; rfl
 | k :: r => by
   rw [Kv, Ze, Qy, Th k, qbf r, List.all_append]; cases Jn k <;> cases Ze r <;> cases (Ql k).all Qp <;> cases (Qy r).all Qp <;> rfl
end
mutual
theorem L9 : ∀ t : Qb, okS t = (Ja t && (Qo t).all Qp)
 | .mk op name cmp n ks => by
   rw [okS, Ja, Qo, qbd ks, List.all_append]
   by_cases h : op = 4 \/ op = 5 \/ op = 6 \/ op = 7
   · rw [if_pos h, if_pos h, if_pos h]; simp only [List.all_cons, List.all_nil, Bool.and_true]; cases Qp name <;> cases Jz ks <;> cases (Qz ks).all Qp <;> simp
   · rw [if_neg h, if_neg h, if_neg h]; simp only [List.all_nil, Bool.true_and, Bool.and_assoc]
theorem qbd : ∀ ks : List Qb, Ku ks = (Jz ks && (Qz ks).all Qp)
 | [] => by rw [Ku, Jz, Qz]; rfl
 | k :: r => by
   rw [Ku, Jz, Qz, L9 k, qbd r, List.all_append]; cases Ja k <;> cases Jz r <;> cases (Qo k).all Qp <;> cases (Qz r).all Qp <;> rfl
end
mutual
theorem Cm : ∀ t : Qb, So.okF t = (Jn t && (Ql t).all So.Qp)
 | .mk op name cmp n ks => by
   rw [So.okF, Jn, Ql, D7 ks, List.all_append]
   by_cases h : op = 3 \/ op = 4
   · rw [if_pos h, if_pos h, if_pos h]; simp only [List.all_cons, List.all_nil, Bool.and_true]; cases So.Qp name <;> cases Ze ks <;> cases (Qy ks).all So.Qp <;> simp
   · rw [if_neg h, if_neg h, if_neg h]; simp only [List.all_nil, Bool.true_and, Bool.and_assoc]
theorem D7 : ∀ ks : List Qb, So.Kv ks = (Ze ks && (Qy ks).all So.Qp)
 | [] => by rw [So.Kv, Ze, Qy]; rfl
 | k :: r => by
   rw [So.Kv, Ze, Qy, Cm k, D7 r, List.all_append]; cases Jn k <;> cases Ze r <;> cases (Ql k).all So.Qp <;> cases (Qy r).all So.Qp <;> rfl
end
mutual
theorem Ra : ∀ t : Qb, So.okS t = (Ja t && (Qo t).all So.Qp)
 | .mk op name cmp n ks => by
   rw [So.okS, Ja, Qo, D6 ks, List.all_append]
   by_cases h : op = 4 \/ op = 5 \/ op = 6 \/ op = 7
   · rw [if_pos h, if_pos h, if_pos h]; simp only [List.all_cons, List.all_nil, Bool.and_true]; cases So.Qp name <;> cases Jz ks <;> cases (Qz ks).all So.Qp <;> simp
   · rw [if_neg h, if_neg h, if_neg h]; simp only [List.all_nil, Bool.true_and, Bool.and_assoc]
theorem D6 : ∀ ks : List Qb, So.Ku ks = (Jz ks && (Qz ks).all So.Qp)
 | [] => by rw [So.Ku, Jz, Qz]; rfl
 | k :: r => by
   rw [So.Ku, Jz, Qz, Ra k, D6 r, List.all_append]; cases Ja k <;> cases Jz r <;> cases (Qo k).all So.Qp <;> cases (Qz r).all So.Qp <;> rfl
end
theorem qh4 {op : Int} {name : List UInt8} {cmp n : Int} (h : Nw op name cmp n = false) : (if op = 3 then 1 <= cmp /\ cmp <= 6 /\ 0 <= n /\ n <= 1000000 else cmp = 0 /\ n = 0) /\ (op = 3 \/ op = 4 \/ name = []) := by
 unfold Nw Lm at h; simp only [Bool.or_eq_false_iff, Bool.and_eq_false_iff, Bool.not_eq_false', Bool.and_eq_true, decide_eq_true_eq, beq_iff_eq, bne_eq_false_iff_eq, beq_eq_false_iff_ne] at h; obtain ⟨h1, h2⟩ := h; constructor
 · split
   · rename_i h3; rcases h1 with h1 | h1
     · exact ⟨h1.1.1.1.2, h1.1.1.2, h1.1.2, h1.2⟩
     · exact absurd h3 h1.1.1
   · rename_i h3; rcases h1 with h1 | h1
     · exact absurd h1.1.1.1.1 h3
     · exact ⟨h1.1.2, h1.2⟩
 · rcases h2 with (h2 | h2) | h2
   · exact Or.inr (Or.inr h2)
   · exact Or.inl h2
   · exact Or.inr (Or.inl h2)
mutual
theorem Mw : ∀ (t : TreeI) (l d : Int), 0 <= d -> (Jg t l d).1 = true -> ∃ t', t = up t' /\ Jn t' = true /\ (t'.size : Int) <= l /\ (t'.deep : Int) <= d /\ (Jg t l d).2 = l - t'.size
 | .mk op name cmp n ks, l, d, hd, h => by
   rw [Jg] at h ⊢
   by_cases h0 : l - 1 < 0 \/ d = 0 \/ Nw op name cmp n = true
   · rw [if_pos h0] at h; cases h
   rw [if_neg h0] at h ⊢; simp only [not_or, Bool.not_eq_true] at h0; obtain ⟨hl, aW, hr⟩ := h0; obtain ⟨r1, r2⟩ := qh4 hr; have hc : 0 <= cmp /\ 0 <= n := by split at r1 <;> omega
   by_cases h1 : op = 1 \/ op = 2 \/ op = 3 \/ op = 4
   · rw [if_pos h1] at h ⊢; have hk : ks = [] := by simpa using h
     subst hk; refine ⟨.mk op.toNat name cmp.toNat n.toNat [], ?_, ?_, ?_, ?_, ?_⟩
     · rw [up, ups]
       congr 1 <;> omega
     · rw [Jn, Ze]; have e1 : op.toNat = 1 \/ op.toNat = 2 \/ op.toNat = 3 \/ op.toNat = 4 := (by omega)
       rw [if_pos e1]
       by_cases h3 : op = 3
       · have e3 : op.toNat = 3 := by omega
         rw [if_pos h3] at r1; rw [if_pos e3, if_pos (Or.inl e3)]; simp; omega
       · have e3 : op.toNat ≠ 3 := by omega
         rw [if_neg h3] at r1; rw [if_neg e3]
         by_cases h4 : op = 4
         · rw [if_pos (Or.inr (by omega))]; simp; omega
         · rw [if_neg (by omega)]; have : name = [] := by rcases r2 with r2 | r2 | r2 <;> first | exact r2 | omega
           subst this; simp; omega
     · rw [Qb.size, sizes]; omega
     · rw [Qb.deep, deeps]; omega
     · rw [Qb.size, sizes]; rfl
   · rw [if_neg h1] at h ⊢
     by_cases h2 : op = 5 /\ ks.length = 1 \/ (op = 6 \/ op = 7) /\ 2 <= ks.length
     · rw [if_pos h2] at h ⊢; obtain ⟨ks', e1, e2, e3, e4, e5⟩ := Pt ks (l - 1) (d - 1) (by omega) (by omega) h; have aH : ks.length = ks'.length := by rw [e1, Z3]
       refine ⟨.mk op.toNat name cmp.toNat n.toNat ks', ?_, ?_, ?_, ?_, ?_⟩
       · rw [up, <- e1]
         congr 1 <;> omega
       · rw [Jn, e2]; have e6 : ¬ (op.toNat = 1 \/ op.toNat = 2 \/ op.toNat = 3 \/ op.toNat = 4) := (by omega)
         have e3 : op.toNat ≠ 3 := (by omega)
         rw [if_neg (by omega)] at r1; rw [if_neg e6, if_neg e3, if_neg (by omega)]; have : name = [] := by rcases r2 with r2 | r2 | r2 <;> first | exact r2 | omega
         subst this; rcases h2 with ⟨h5, h6⟩ | ⟨h5, h6⟩
         · rw [if_pos (by omega)]; simp; omega
         · rw [if_neg (by omega), if_pos (by omega)]; simp; omega
       · rw [Qb.size]; omega
       · rw [Qb.deep]; omega
       · rw [Qb.size, e5]; omega
     · rw [if_neg h2] at h; cases h
theorem Pt : ∀ (ks : List TreeI) (l d : Int), 0 <= d -> 0 <= l -> (J6 ks l d).1 = true -> ∃ ks', ks = ups ks' /\ Ze ks' = true /\ (sizes ks' : Int) <= l /\ ((deeps ks' : Nat) : Int) <= d /\ (J6 ks l d).2 = l - sizes ks'
 | [], l, d, hd, hl, h => ⟨[], by rw [ups], by rw [Ze], by rw [sizes]; omega, by rw [deeps]; omega, by rw [J6, sizes]; simp⟩
 | k :: r, l, d, hd, hl, h => by
   rw [J6] at h ⊢
   by_cases hk : (Jg k l d).1 = true
   · rw [if_pos hk] at h ⊢; obtain ⟨k', a1, a2, a3, a4, a5⟩ := Mw k l d hd hk; obtain ⟨r', b1, b2, b3, b4, b5⟩ := Pt r _ d hd (by omega) h; refine ⟨k' :: r', by rw [ups, a1, b1], by rw [Ze, a2, b2]; rfl, by rw [sizes]; omega, by rw [deeps]; omega, by rw [b5, a5, sizes]; omega⟩
   · rw [if_neg hk] at h; cases h
end
theorem qh2 {op : Int} {name : List UInt8} {n : Int} (h : Nv op name n = false) : (4 <= op /\ op <= 7 \/ name = []) /\ (op = 3 \/ n = 0) /\ 0 <= n /\ n <= 1000000 := by
 unfold Nv at h; simp only [Bool.or_eq_false_iff, Bool.and_eq_false_iff, Bool.not_eq_false', Bool.and_eq_true, decide_eq_true_eq, decide_eq_false_iff_not, bne_eq_false_iff_eq] at h; obtain ⟨⟨⟨h1, h2⟩, h3⟩, h4⟩ := h; refine ⟨?_, h2, by omega, by omega⟩; rcases h1 with h1 | h1
 · exact Or.inr h1
 · exact Or.inl h1
mutual
theorem Yo : ∀ (t : TreeI) (l d : Int), 0 <= d -> V7 t -> (Q0 t l d).1 = true -> ∃ t', t = up t' /\ Ja t' = true /\ (t'.size : Int) <= l /\ (t'.deep : Int) <= d /\ (Q0 t l d).2 = l - t'.size
 | .mk op name cmp n ks, l, d, hd, hp, h => by
   rw [V7] at hp; obtain ⟨rfl, hp⟩ := hp; rw [Q0] at h ⊢
   by_cases h0 : l - 1 < 0 \/ d = 0 \/ Nv op name n = true
   · rw [if_pos h0] at h; cases h
   rw [if_neg h0] at h ⊢; simp only [not_or, Bool.not_eq_true] at h0; obtain ⟨hl, aW, hr⟩ := h0; obtain ⟨r1, r2, r3, r4⟩ := qh2 hr
   by_cases h8 : op = 8 \/ op = 9
   · rw [if_pos h8] at h ⊢
     by_cases h2 : 2 <= ks.length
     · rw [if_pos h2] at h ⊢; obtain ⟨ks', e1, e2, e3, e4, e5⟩ := Ho ks (l - 1) (d - 1) (by omega) (by omega) hp h; have aH : ks.length = ks'.length := by rw [e1, Z3]
       refine ⟨.mk op.toNat name 0 n.toNat ks', ?_, ?_, ?_, ?_, ?_⟩
       · rw [up, <- e1]
         congr 1 <;> omega
       · rw [Ja, e2]; have : name = [] := by rcases r1 with r1 | r1 <;> first | exact r1 | omega
         subst this; rw [if_neg (by omega), if_neg (by omega), if_pos (by omega)]; simp; omega
       · rw [Qb.size]; omega
       · rw [Qb.deep]; omega
       · rw [Qb.size, e5]; omega
     · rw [if_neg h2] at h; cases h
   · rw [if_neg h8] at h ⊢
     by_cases h1 : 1 <= op /\ op <= 7
     · rw [if_pos h1] at h ⊢; have hk : ks = [] := by simpa using h
       subst hk; refine ⟨.mk op.toNat name 0 n.toNat [], ?_, ?_, ?_, ?_, ?_⟩
       · rw [up, ups]
         congr 1 <;> omega
       · rw [Ja, Jz]; rw [if_neg (show ¬ (op.toNat = 8 \/ op.toNat = 9) by omega), if_pos (show 1 <= op.toNat /\ op.toNat <= 7 by omega)]
         by_cases h4 : 4 <= op
         · rw [if_pos (show op.toNat = 4 \/ op.toNat = 5 \/ op.toNat = 6 \/ op.toNat = 7 by omega), if_neg (by omega)]; simp; omega
         · have : name = [] := by rcases r1 with r1 | r1 <;> first | exact r1 | omega
           subst this; rw [if_neg (show ¬ (op.toNat = 4 \/ op.toNat = 5 \/ op.toNat = 6 \/ op.toNat = 7) by omega)]
           by_cases h3 : op = 3
           · rw [if_pos (by omega)]; simp; omega
           · rw [if_neg (by omega)]; simp; omega
       · rw [Qb.size, sizes]; omega
       · rw [Qb.deep, deeps]; omega
       · rw [Qb.size, sizes]; rfl
     · rw [if_neg h1] at h; cases h
theorem Ho : ∀ (ks : List TreeI) (l d : Int), 0 <= d -> 0 <= l -> W9 ks -> (Jr ks l d).1 = true -> ∃ ks', ks = ups ks' /\ Jz ks' = true /\ (sizes ks' : Int) <= l /\ ((deeps ks' : Nat) : Int) <= d /\ (Jr ks l d).2 = l - sizes ks'
 | [], l, d, hd, hl, hp, h => ⟨[], by rw [ups], by rw [Jz], by rw [sizes]; omega, by rw [deeps]; omega, by rw [Jr, sizes]; simp⟩
 | k :: r, l, d, hd, hl, hp, h => by
   rw [W9] at hp; rw [Jr] at h ⊢
   by_cases hk : (Q0 k l d).1 = true
   · rw [if_pos hk] at h ⊢; obtain ⟨k', a1, a2, a3, a4, a5⟩ := Yo k l d hd hp.1 hk; obtain ⟨r', b1, b2, b3, b4, b5⟩ := Ho r _ d hd (by omega) hp.2 h; refine ⟨k' :: r', by rw [ups, a1, b1], by rw [Jz, a2, b2]; rfl, by rw [sizes]; omega, by rw [deeps]; omega, by rw [b5, a5, sizes]; omega⟩
   · rw [if_neg hk] at h; cases h
end
