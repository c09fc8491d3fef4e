/- A formula written in the first language is read again. -/
import Derived.Test.YtbicmjmcdnkjhaaGreatDoorJAA3
set_option linter.unusedVariables false
set_option linter.unusedSimpArgs false
namespace Go.Proofs.YtbicmjmcdnkjhaaGreatDoor
abbrev wAnd : Qa := [97, 110, 100]
abbrev wOr : Qa := [111, 114]
abbrev wLp : Qa := [40]
abbrev wRp : Qa := [41]
abbrev Qb.op : Qb -> Nat | .mk o _ _ _ _ => o
def Jt (b : Bool) (k : Qb) (oa oo : Nat) (l : List Qa) : List Qa := if k.op = oo \/ (k.op = oa /\ b = false) then wLp :: (l ++ [wRp]) else l
def Ht : List Qa := [[61], [33, 61], [60], [60, 61], [62], [62, 61]]
mutual
def wF : Qb -> List Qa
 | .mk op name cmp n ks =>
   if op = 1 then [[116, 114, 117, 101]] else if op = 2 then [[102, 97, 108, 115, 101]]
   else if op = 3 then [name, Ht.getD (cmp - 1) [], dec n] else if op = 4 then [name]
   else if op = 5 then [110, 111, 116] :: (wFs false ks).flatten
   else if op = 6 then J1 wAnd (wFs false ks) else if op = 7 then J1 wOr (wFs true ks) else []
def wFs (b : Bool) : List Qb -> List (List Qa)
 | [] => []
 | k :: r => Jt b k 6 7 (wF k) :: wFs b r
end
theorem Wg (b : Bool) : ∀ ks : List Qb, wFs b ks = ks.map fun k => Jt b k 6 7 (wF k)
 | [] => rfl
 | k :: r => by rw [wFs, Wg b r]; rfl
mutual
def okF : Qb -> Bool
 | .mk op name cmp n ks =>
   (if op = 3 then decide (1 <= cmp) && decide (cmp <= 6) && decide (n <= 1000000) else decide (cmp = 0) && decide (n = 0)) &&
   (if op = 3 \/ op = 4 then Qp name else decide (name = [])) &&
   (if op = 1 \/ op = 2 \/ op = 3 \/ op = 4 then decide (ks.length = 0) else if op = 5 then decide (ks.length = 1) else if op = 6 \/ op = 7 then decide (2 <= ks.length) else false) && Kv ks
def Kv : List Qb -> Bool
 | [] => true
 | k :: r => okF k && Kv r
end
theorem V9 : ∀ {ks : List Qb}, Kv ks = true -> ∀ k ∈ ks, okF k = true
 | [], _, k, hk => by simp at hk
 | a :: r, h, k, hk => by
   rw [Kv, Bool.and_eq_true] at h; rcases List.mem_cons.1 hk with rfl | hk
   · exact h.1
   · exact V9 h.2 k hk
theorem Zj : ∀ t : Qb, 1 <= t.size
 | .mk _ _ _ _ ks => by rw [Qb.size]; omega
theorem Zk : ∀ {ks : List Qb} {k : Qb}, k ∈ ks -> k.size <= sizes ks
 | [], k, hk => by simp at hk
 | a :: r, k, hk => by
   rw [sizes]; rcases List.mem_cons.1 hk with rfl | hk
   · omega
   · have := Zk hk; omega
theorem I4 (w : Qa) : ∀ {l : List (List Qa)}, (∀ x ∈ l, 1 <= x.length) -> l.length <= (J1 w l).length
 | [], _ => by simp [J1]
 | [a], h => by have := h a (by simp); simpa [J1] using this
 | a :: b :: r, h => by
   have := I4 w (l := b :: r) (fun x hx => h x (by simp at hx ⊢; right; exact hx)); have h1 := h a (by simp); rw [show J1 w (a :: b :: r) = a ++ w :: J1 w (b :: r) from rfl]; simp only [List.length_append, List.length_cons] at this ⊢; omega
abbrev fA : List Qa := Ht
def qhn (t : Qb) : Prop := ∀ n l rest, Qs (Jt false t 6 7 (wF t)) l -> Z4 fA rest -> (l ++ rest).length < n -> Jj n (l ++ rest) = .ok (t, rest)
def qjf (t : Qb) : Prop := ∀ n l rest, Qs (Jt true t 6 7 (wF t)) l -> Z4 (wAnd :: fA) rest -> (l ++ rest).length < n -> Y7 (Jj n) 6 n (l ++ rest) = .ok (t, rest)
def Dc (t : Qb) : Prop := ∀ n l rest, Qs (wF t) l -> Z4 (wOr :: wAnd :: fA) rest -> (l ++ rest).length < n -> Rl n (l ++ rest) = .ok (t, rest)
theorem qel {b : Bool} {t : Qb} {l : List Qa} (h : 1 <= l.length) : 1 <= (Jt b t 6 7 l).length := by
 unfold Jt
 split
 · simp only [List.length_cons]; omega
 · exact h
theorem qjj : ∀ t : Qb, okF t = true -> 1 <= (wF t).length
 | .mk op name cmp n ks, h => by
   rw [okF] at h; simp only [Bool.and_eq_true] at h; obtain ⟨⟨⟨h1, h2⟩, h3⟩, h4⟩ := h; rw [wF]
   by_cases o1 : op = 1
   · rw [if_pos o1]; simp
   by_cases o2 : op = 2
   · rw [if_neg o1, if_pos o2]; simp
   by_cases o3 : op = 3
   · rw [if_neg o1, if_neg o2, if_pos o3]; simp
   by_cases o4 : op = 4
   · rw [if_neg o1, if_neg o2, if_neg o3, if_pos o4]; simp
   by_cases o5 : op = 5
   · rw [if_neg o1, if_neg o2, if_neg o3, if_neg o4, if_pos o5]; simp
   have hk : 2 <= ks.length /\ (op = 6 \/ op = 7) := by
    rw [if_neg (by omega), if_neg o5] at h3
    split at h3
    · rename_i ho; exact ⟨by simpa using h3, ho⟩
    · cases h3
   obtain ⟨hk, ho⟩ := hk; cases ks with
   | nil => simp at hk
   | cons a r =>
     cases r with
     | nil => simp at hk
     | cons b s =>
       rw [if_neg o1, if_neg o2, if_neg o3, if_neg o4, if_neg o5]
       split
       · simp [wFs, J1]; omega
       · rw [if_pos (by omega)]; simp [wFs, J1]; omega
theorem Nj {t : Qb} (hc : Dc t) (n : Nat) (l rest : List Tok) (hl : Qs (wLp :: (wF t ++ [wRp])) l) (hn : (l ++ rest).length < n) : Jj n (l ++ rest) = .ok (t, rest) := by
 obtain ⟨t0, l1, rfl, h0, aA⟩ := hl.cons; obtain ⟨l2, l3, rfl, h2, h3⟩ := aA.app; obtain ⟨t3, l4, rfl, h4, h5⟩ := h3.cons; obtain rfl := h5.nil; cases n with
 | zero => simp at hn
 | succ n =>
   have hi := hc n l2 (t3 :: rest) h2 (Z4.mk h4 (by decide)) (by simp at hn ⊢; omega); have e : t0 :: (l2 ++ [t3]) ++ rest = t0 :: (l2 ++ t3 :: rest) := by simp
   rw [e]; unfold Jj; simp only [Jc]; rw [Jm h0 (wKc (by decide)) (i := 1) (by decide)]; simp only []; have bF : orF (Jj n) 6 7 n (l2 ++ t3 :: rest) = .ok (t, rest.cons t3) := hi; rw [bF]; simp only [Qc, Q3, Jc]; rw [Jm h4 (wKc (by decide)) (i := 0) (by decide)]
theorem qfb {c : Nat} (h1 : 1 <= c) (h2 : c <= 6) : Oo (Ht.getD (c - 1) []) /\ Ht.idxOf? (Ht.getD (c - 1) []) = some (c - 1) := by
 have : c = 1 \/ c = 2 \/ c = 3 \/ c = 4 \/ c = 5 \/ c = 6 := by omega
 rcases this with rfl | rfl | rfl | rfl | rfl | rfl <;> exact ⟨wKc (by decide), by decide⟩
theorem Yc {s : Qa} (h : Qp s = true) {A : List Qa} (hA : ∀ w ∈ A, ((Qv w).1 == 1 && !Wq w) = false) : s ∉ A := fun hm => by
 have := hA s hm; unfold Qp at h; rw [h] at this; cases this
theorem qb0 : ∀ (s : Nat) (t : Qb), t.size <= s -> okF t = true -> qhn t /\ qjf t /\ Dc t
 | 0, t, h, _ => by have := Zj t; omega
 | s + 1, .mk op name cmp n ks, hs, aC => by
   have bC := aC; rw [okF] at aC; simp only [Bool.and_eq_true] at aC; obtain ⟨⟨⟨h1, h2⟩, h3⟩, h4⟩ := aC; rw [Qb.size] at hs; have hk := V9 h4; have ih : ∀ k ∈ ks, qhn k /\ qjf k /\ Dc k := fun k hm => qb0 s k (by have := Zk hm; omega) (hk k hm)
   have lens : ∀ b, ∀ x ∈ wFs b ks, 1 <= x.length := fun b x hx => by
    rw [Wg] at hx; obtain ⟨k, hm, rfl⟩ := List.mem_map.1 hx; exact qel (qjj k (hk k hm))
   -- the level of an and
   have aM : op = 6 -> ∀ n' l rest, Qs (J1 wAnd (wFs false ks)) l -> Z4 (wAnd :: fA) rest -> (l ++ rest).length < n' -> Y7 (Jj n') 6 n' (l ++ rest) = .ok (.mk op name cmp n ks, rest) := by
    intro ho n' l rest hl hr hn; subst ho; rw [if_neg (by decide), if_neg (by decide), if_pos (by decide)] at h3; rw [if_neg (by decide)] at h1 h2; simp only [Bool.and_eq_true, decide_eq_true_eq] at h1 h2 h3; have aD := hl.len; have h5 := I4 wAnd (lens false); rw [Wg, List.length_map] at h5; rw [Wg] at hl aD
    have := Kk (one := Jj n') (w := wAnd) (A := fA) (M := (l ++ rest).length) (wKc (by decide)) (by decide) (fun k => Jt false k 6 7 (wF k)) ks n' l rest (by rintro rfl; simp at h3) (by simp at hn; omega) hl hr (lR _)
     (fun k hm l' rest' aQ aS bG => (ih k hm).1 n' l' rest' aQ aS (by omega))
    unfold Y7 severalF; rw [this]; simp only [Qc]; obtain ⟨hc, aK⟩ := h1; subst hc aK h2; cases ks with
    | nil => simp at h3
    | cons a r => cases r with
      | nil => simp at h3
      | cons b r => rfl
   -- what is no and and no or
   have aF : op ≠ 6 -> op ≠ 7 -> ∀ n' l rest, Qs (wF (.mk op name cmp n ks)) l -> Z4 fA rest -> (l ++ rest).length < n' -> Jj n' (l ++ rest) = .ok (.mk op name cmp n ks, rest) := by
    intro o6 o7 n' l rest hl hr hn; cases n' with
    | zero => simp at hn
    | succ n' =>
      rw [wF] at hl
      by_cases o1 : op = 1
      · subst o1; rw [if_pos rfl] at hl; rw [if_neg (by decide)] at h1 h2; rw [if_pos (by decide)] at h3; simp only [Bool.and_eq_true, decide_eq_true_eq] at h1 h2 h3; obtain ⟨t0, l1, rfl, h0, aA⟩ := hl.cons; obtain rfl := aA.nil; obtain ⟨hc, aK⟩ := h1; obtain rfl := List.length_eq_zero_iff.1 h3; subst hc aK h2; unfold Jj; simp only [Jc, List.cons_append, List.nil_append]; rw [Jm h0 (wKc (by decide)) (i := 2) (by decide)]; rfl
      by_cases o2 : op = 2
      · subst o2; rw [if_neg (by decide), if_pos rfl] at hl; rw [if_neg (by decide)] at h1 h2; rw [if_pos (by decide)] at h3; simp only [Bool.and_eq_true, decide_eq_true_eq] at h1 h2 h3; obtain ⟨t0, l1, rfl, h0, aA⟩ := hl.cons; obtain rfl := aA.nil; obtain ⟨hc, aK⟩ := h1; obtain rfl := List.length_eq_zero_iff.1 h3; subst hc aK h2; unfold Jj; simp only [Jc, List.cons_append, List.nil_append]; rw [Jm h0 (wKc (by decide)) (i := 3) (by decide)]; rfl
      by_cases o3 : op = 3
      · subst o3; rw [if_neg (by decide), if_neg (by decide), if_pos rfl] at hl; rw [if_pos rfl] at h1; rw [if_pos (by decide)] at h2 h3; simp only [Bool.and_eq_true, decide_eq_true_eq] at h1 h3; obtain ⟨⟨c1, c2⟩, c3⟩ := h1; obtain rfl := List.length_eq_zero_iff.1 h3; obtain ⟨t0, l1, rfl, h0, aA⟩ := hl.cons; obtain ⟨t1, l2, rfl, aW, aH⟩ := aA.cons; obtain ⟨t2, l3, rfl, bT, aV⟩ := aH.cons; obtain rfl := aV.nil; obtain ⟨g1, g2⟩ := qfb c1 c2; unfold Jj; simp only [Jc, List.cons_append, List.nil_append]; rw [Rp (by rw [cTx h0]; exact Yc h2 (by decide))]; simp only []; rw [Vh h2 h0]; simp only [Qc]; rw [Jm (ws := [[61], [33, 61], [60], [60, 61], [62], [62, 61]]) aW g1 g2]; simp only []; rw [Gy (by omega) c3 bT]; simp only [Qc]; rw [show 1 + (cmp - 1) = cmp by omega]
      by_cases o4 : op = 4
      · subst o4; rw [if_neg (by decide), if_neg (by decide), if_neg (by decide), if_pos rfl] at hl; rw [if_neg (by decide)] at h1; rw [if_pos (by decide)] at h2 h3; simp only [Bool.and_eq_true, decide_eq_true_eq] at h1 h3; obtain ⟨hc, aK⟩ := h1; obtain rfl := List.length_eq_zero_iff.1 h3; obtain ⟨t0, l1, rfl, h0, aA⟩ := hl.cons; obtain rfl := aA.nil; subst hc aK; unfold Jj; simp only [Jc, List.cons_append, List.nil_append]; rw [Rp (by rw [cTx h0]; exact Yc h2 (by decide))]; simp only []; rw [Vh h2 h0]; simp only [Qc]; rw [Xw hr (by unfold fA Ht; exact fun _ h => h)]
      by_cases o5 : op = 5
      · subst o5; rw [if_neg (by decide), if_neg (by decide), if_neg (by decide), if_neg (by decide), if_pos rfl] at hl; rw [if_neg (by decide)] at h1 h2; rw [if_neg (by decide), if_pos rfl] at h3; simp only [Bool.and_eq_true, decide_eq_true_eq] at h1 h2 h3; obtain ⟨hc, aK⟩ := h1; obtain ⟨k, rfl⟩ := List.length_eq_one_iff.1 h3; obtain ⟨t0, l1, rfl, h0, aA⟩ := hl.cons; subst hc aK h2; have aH : Qs (Jt false k 6 7 (wF k)) l1 := by simpa [wFs] using aA
        have := (ih k (by simp)).1 n' l1 rest aH hr (by simp at hn ⊢; omega); unfold Jj; simp only [Jc, List.cons_append, List.nil_append]; rw [Jm h0 (wKc (by decide)) (i := 0) (by decide)]; simp only []; rw [this]; simp only [Qc]
      · exfalso; rw [if_neg (by omega), if_neg o5, if_neg (by omega)] at h3; cases h3
   -- one of the level of an and
   have aB : ∀ {n' : Nat} {l rest : List Tok}, Z4 (wAnd :: fA) rest -> (l ++ rest).length < n' -> Jj n' (l ++ rest) = .ok (.mk op name cmp n ks, rest) -> Y7 (Jj n') 6 n' (l ++ rest) = .ok (.mk op name cmp n ks, rest) := by
    intro n' l rest hr hn ha; cases n' with
    | zero => simp at hn
    | succ n' =>
      unfold Y7 severalF; rw [severalL, ha]; simp only [Qc, Jc]; rw [Xw hr (by simp)]; rfl
   have aJ : ∀ {n' : Nat} {l rest : List Tok}, Z4 (wOr :: wAnd :: fA) rest -> (l ++ rest).length < n' -> Y7 (Jj n') 6 n' (l ++ rest) = .ok (.mk op name cmp n ks, rest) -> Rl n' (l ++ rest) = .ok (.mk op name cmp n ks, rest) := by
    intro n' l rest hr hn ha; cases n' with
    | zero => simp at hn
    | succ n' =>
      unfold Rl orF severalF; rw [severalL, ha]; simp only [Qc, Jc]; rw [Xw hr (by simp)]; rfl
   have aU : op = 6 -> wF (.mk op name cmp n ks) = J1 wAnd (wFs false ks) := by
    intro ho; subst ho; rw [wF]; simp
   have aZ : op = 7 -> wF (.mk op name cmp n ks) = J1 wOr (wFs true ks) := by
    intro ho; subst ho; rw [wF]; simp
   have aE : Dc (.mk op name cmp n ks) := by
    intro n' l rest hl hr hn
    by_cases o7 : op = 7
    · rw [aZ o7] at hl; subst o7; rw [if_neg (by decide), if_neg (by decide), if_pos (by decide)] at h3; rw [if_neg (by decide)] at h1 h2; simp only [Bool.and_eq_true, decide_eq_true_eq] at h1 h2 h3; have aD := hl.len; have h5 := I4 wOr (lens true); rw [Wg, List.length_map] at h5; rw [Wg] at hl aD
      have := Kk (one := Y7 (Jj n') 6 n') (w := wOr) (A := wAnd :: fA) (M := (l ++ rest).length) (wKc (by decide)) (by decide) (fun k => Jt true k 6 7 (wF k)) ks n' l rest (by rintro rfl; simp at h3) (by simp at hn; omega) hl hr (lR _)
       (fun k hm l' rest' aQ aS bG => (ih k hm).2.1 n' l' rest' aQ aS (by omega))
      unfold Rl orF severalF; rw [this]; simp only [Qc]; obtain ⟨hc, aK⟩ := h1; subst hc aK h2; cases ks with
      | nil => simp at h3
      | cons a r => cases r with
        | nil => simp at h3
        | cons b r => rfl
    · refine aJ hr hn ?_; have aO : Z4 (wAnd :: fA) rest := hr.sub (fun x hx => List.mem_cons_of_mem _ hx)
      by_cases o6 : op = 6
      · rw [aU o6] at hl; exact aM o6 n' l rest hl aO hn
      · exact aB aO hn (aF o6 o7 n' l rest hl (aO.sub (fun x hx => List.mem_cons_of_mem _ hx)) hn)
   refine ⟨fun n' l rest hl hr hn => ?_, fun n' l rest hl hr hn => ?_, aE⟩
   · unfold Jt at hl
     by_cases ho : op = 6 \/ op = 7
     · rw [if_pos (ho.elim (fun h => Or.inr ⟨h, rfl⟩) (fun h => Or.inl h))] at hl; exact Nj aE n' l rest hl hn
     · rw [if_neg (fun h => ho (h.elim (fun h => Or.inr h) (fun h => Or.inl h.1)))] at hl; exact aF (by omega) (by omega) n' l rest hl hr hn
   · unfold Jt at hl
     by_cases o7 : op = 7
     · rw [if_pos (Or.inl o7)] at hl; exact aB hr hn (Nj aE n' l rest hl hn)
     · rw [if_neg (fun h => h.elim o7 (fun h => by cases h.2))] at hl
       by_cases o6 : op = 6
       · rw [aU o6] at hl; exact aM o6 n' l rest hl hr hn
       · exact aB hr hn (aF o6 o7 n' l rest hl (hr.sub (fun x hx => List.mem_cons_of_mem _ hx)) hn)
def Uv : List Qa := [[97, 108, 119, 97, 121, 115], [110, 101, 118, 101, 114], [100, 97, 121], [40], [111, 114, 100, 101, 114], [101, 118, 101, 110, 116], [98, 101, 103, 117, 110], [111, 118, 101, 114]]
mutual
def wS : Qb -> List Qa
 | .mk op name cmp n ks =>
   if op = 1 then [[97, 108, 119, 97, 121, 115]] else if op = 2 then [[110, 101, 118, 101, 114]]
   else if op = 3 then [[100, 97, 121], dec n] else if op = 4 \/ op = 5 \/ op = 6 \/ op = 7 then [Uv.getD op [], name]
   else if op = 8 then J1 wAnd (wSs false ks) else if op = 9 then J1 wOr (wSs true ks) else []
def wSs (b : Bool) : List Qb -> List (List Qa)
 | [] => []
 | k :: r => Jt b k 8 9 (wS k) :: wSs b r
end
theorem We (b : Bool) : ∀ ks : List Qb, wSs b ks = ks.map fun k => Jt b k 8 9 (wS k)
 | [] => rfl
 | k :: r => by rw [wSs, We b r]; rfl
mutual
def okS : Qb -> Bool
 | .mk op name cmp n ks =>
   (decide (cmp = 0) && (if op = 3 then decide (n <= 1000000) else decide (n = 0))) &&
   (if op = 4 \/ op = 5 \/ op = 6 \/ op = 7 then Qp name else decide (name = [])) &&
   (if op = 8 \/ op = 9 then decide (2 <= ks.length) else if 1 <= op /\ op <= 7 then decide (ks.length = 0) else false) && Ku ks
def Ku : List Qb -> Bool
 | [] => true
 | k :: r => okS k && Ku r
end
theorem V8 : ∀ {ks : List Qb}, Ku ks = true -> ∀ k ∈ ks, okS k = true
 | [], _, k, hk => by simp at hk
 | a :: r, h, k, hk => by
   rw [Ku, Bool.and_eq_true] at h; rcases List.mem_cons.1 hk with rfl | hk
   · exact h.1
   · exact V8 h.2 k hk
def qje (t : Qb) : Prop := ∀ n l rest, Qs (Jt false t 8 9 (wS t)) l -> (l ++ rest).length < n -> X8 n (l ++ rest) = .ok (t, rest)
def qjg (t : Qb) : Prop := ∀ n l rest, Qs (Jt true t 8 9 (wS t)) l -> Z4 [wAnd] rest -> (l ++ rest).length < n -> Y7 (X8 n) 8 n (l ++ rest) = .ok (t, rest)
def Lg (t : Qb) : Prop := ∀ n l rest, Qs (wS t) l -> Z4 [wOr, wAnd] rest -> (l ++ rest).length < n -> Jk n (l ++ rest) = .ok (t, rest)
theorem qcf {b : Bool} {t : Qb} {l : List Qa} (h : 1 <= l.length) : 1 <= (Jt b t 8 9 l).length := by
 unfold Jt
 split
 · simp only [List.length_cons]; omega
 · exact h
theorem opS {op : Nat} {k : Nat} (h : (if op = 8 \/ op = 9 then decide (2 <= k) else if 1 <= op /\ op <= 7 then decide (k = 0) else false) = true) : ((op = 8 \/ op = 9) /\ 2 <= k) \/ ((1 <= op /\ op <= 7) /\ k = 0) := by
 split at h
 · rename_i ho; exact Or.inl ⟨ho, by simpa using h⟩
 · split at h
   · rename_i ho; exact Or.inr ⟨ho, by simpa using h⟩
   · cases h
theorem qjh : ∀ t : Qb, okS t = true -> 1 <= (wS t).length
 | .mk op name cmp n ks, h => by
   rw [okS] at h; simp only [Bool.and_eq_true] at h; obtain ⟨⟨⟨h1, h2⟩, h3⟩, h4⟩ := h; rw [wS]
   by_cases o1 : op = 1
   · rw [if_pos o1]; simp
   by_cases o2 : op = 2
   · rw [if_neg o1, if_pos o2]; simp
   by_cases o3 : op = 3
   · rw [if_neg o1, if_neg o2, if_pos o3]; simp
   by_cases o4 : op = 4 \/ op = 5 \/ op = 6 \/ op = 7
   · rw [if_neg o1, if_neg o2, if_neg o3, if_pos o4]; simp
   rcases opS h3 with ⟨ho, hk⟩ | ⟨ho, _⟩
   · cases ks with
     | nil => simp at hk
     | cons a r =>
       cases r with
       | nil => simp at hk
       | cons b s =>
         rw [if_neg o1, if_neg o2, if_neg o3, if_neg o4]
         split
         · simp only [wSs, J1, List.length_append, List.length_cons]; omega
         · rw [if_pos (by omega)]; simp only [wSs, J1, List.length_append, List.length_cons]; omega
   · omega
theorem Bd {t : Qb} (hc : Lg t) (n : Nat) (l rest : List Tok) (hl : Qs (wLp :: (wS t ++ [wRp])) l) (hn : (l ++ rest).length < n) : X8 n (l ++ rest) = .ok (t, rest) := by
 obtain ⟨t0, l1, rfl, h0, aA⟩ := hl.cons; obtain ⟨l2, l3, rfl, h2, h3⟩ := aA.app; obtain ⟨t3, l4, rfl, h4, h5⟩ := h3.cons; obtain rfl := h5.nil; cases n with
 | zero => simp at hn
 | succ n =>
   have hi := hc n l2 (t3 :: rest) h2 (Z4.mk h4 (by decide)) (by simp at hn ⊢; omega); have e : t0 :: (l2 ++ [t3]) ++ rest = t0 :: (l2 ++ t3 :: rest) := by simp
   rw [e]; unfold X8; simp only [Q3, Jc]; rw [Jm h0 (wKc (by decide)) (i := 3) (by decide)]; have bF : orF (X8 n) 8 9 n (l2 ++ t3 :: rest) = .ok (t, rest.cons t3) := hi; simp only [Qc]; rw [bF]; simp only [Q3, Jc]; rw [Jm h4 (wKc (by decide)) (i := 0) (by decide)]
theorem qj9 {op : Nat} (h : op = 4 \/ op = 5 \/ op = 6 \/ op = 7) : Oo (Uv.getD op []) /\ Uv.idxOf? (Uv.getD op []) = some op := by
 rcases h with rfl | rfl | rfl | rfl <;> exact ⟨wKc (by decide), by decide⟩
theorem qbz : ∀ (s : Nat) (t : Qb), t.size <= s -> okS t = true -> qje t /\ qjg t /\ Lg t
 | 0, t, h, _ => by have := Zj t; omega
 | s + 1, .mk op name cmp n ks, hs, aC => by
   have bC := aC; rw [okS] at aC; simp only [Bool.and_eq_true] at aC; obtain ⟨⟨⟨h1, h2⟩, h3⟩, h4⟩ := aC; rw [Qb.size] at hs; have hk := V8 h4; have ih : ∀ k ∈ ks, qje k /\ qjg k /\ Lg k := fun k hm => qbz s k (by have := Zk hm; omega) (hk k hm)
   have lens : ∀ b, ∀ x ∈ wSs b ks, 1 <= x.length := fun b x hx => by
    rw [We] at hx; obtain ⟨k, hm, rfl⟩ := List.mem_map.1 hx; exact qcf (qjh k (hk k hm))
   have aP : cmp = 0 := by simpa using h1.1
   have cA := opS h3
   have aM : op = 8 -> ∀ n' l rest, Qs (J1 wAnd (wSs false ks)) l -> Z4 [wAnd] rest -> (l ++ rest).length < n' -> Y7 (X8 n') 8 n' (l ++ rest) = .ok (.mk op name cmp n ks, rest) := by
    intro ho n' l rest hl hr hn; subst ho; have aR : 2 <= ks.length := by omega
    have aI : n = 0 := by simpa using h1.2
    have aN : name = [] := by simpa using h2
    have aD := hl.len; have h5 := I4 wAnd (lens false); rw [We, List.length_map] at h5; rw [We] at hl aD
    have := Kk (one := X8 n') (w := wAnd) (A := []) (M := (l ++ rest).length) (wKc (by decide)) (by simp) (fun k => Jt false k 8 9 (wS k)) ks n' l rest (by rintro rfl; simp at aR) (by simp at hn; omega) hl hr (lR _)
     (fun k hm l' rest' aQ aS bG => (ih k hm).1 n' l' rest' aQ (by omega))
    unfold Y7 severalF; rw [this]; simp only [Qc]; subst aP aI aN; cases ks with
    | nil => simp at aR
    | cons a r => cases r with
      | nil => simp at aR
      | cons b r => rfl
   have aF : op ≠ 8 -> op ≠ 9 -> ∀ n' l rest, Qs (wS (.mk op name cmp n ks)) l -> (l ++ rest).length < n' -> X8 n' (l ++ rest) = .ok (.mk op name cmp n ks, rest) := by
    intro o8 o9 n' l rest hl hn; have bS : ks = [] := List.length_eq_zero_iff.1 (by omega); subst aP bS; cases n' with
    | zero => simp at hn
    | succ n' =>
      rw [wS] at hl
      by_cases o1 : op = 1
      · subst o1; rw [if_pos rfl] at hl; have aI : n = 0 := by simpa using h1.2
        have aN : name = [] := by simpa using h2
        obtain ⟨t0, l1, rfl, h0, aA⟩ := hl.cons; obtain rfl := aA.nil; subst aI aN; unfold X8; simp only [Q3, Jc, List.cons_append, List.nil_append]; rw [Jm h0 (wKc (by decide)) (i := 0) (by decide)]; rfl
      by_cases o2 : op = 2
      · subst o2; rw [if_neg (by decide), if_pos rfl] at hl; have aI : n = 0 := by simpa using h1.2
        have aN : name = [] := by simpa using h2
        obtain ⟨t0, l1, rfl, h0, aA⟩ := hl.cons; obtain rfl := aA.nil; subst aI aN; unfold X8; simp only [Q3, Jc, List.cons_append, List.nil_append]; rw [Jm h0 (wKc (by decide)) (i := 1) (by decide)]; rfl
      by_cases o3 : op = 3
      · subst o3; rw [if_neg (by decide), if_neg (by decide), if_pos rfl] at hl; have aI : n <= 1000000 := by simpa using h1.2
        have aN : name = [] := by simpa using h2
        obtain ⟨t0, l1, rfl, h0, aA⟩ := hl.cons; obtain ⟨t1, l2, rfl, aW, aH⟩ := aA.cons; obtain rfl := aH.nil; subst aN; unfold X8; simp only [Q3, Jc, List.cons_append, List.nil_append]; rw [Jm h0 (wKc (by decide)) (i := 2) (by decide)]; simp only [Qc]; rw [Gy (by omega) aI aW]
      · have o4 : op = 4 \/ op = 5 \/ op = 6 \/ op = 7 := by omega
        rw [if_neg o1, if_neg o2, if_neg o3, if_pos o4] at hl; rw [if_pos o4] at h2; have aI : n = 0 := by have := h1.2; rw [if_neg o3] at this; simpa using this
        obtain ⟨t0, l1, rfl, h0, aA⟩ := hl.cons; obtain ⟨t1, l2, rfl, aW, aH⟩ := aA.cons; obtain rfl := aH.nil; subst aI; obtain ⟨g1, g2⟩ := qj9 o4; obtain ⟨k, rfl⟩ : ∃ k, op = k + 4 := ⟨op - 4, by omega⟩
        unfold X8; simp only [Q3, Jc, List.cons_append, List.nil_append]; rw [Jm (ws := [[97, 108, 119, 97, 121, 115], [110, 101, 118, 101, 114], [100, 97, 121], [40], [111, 114, 100, 101, 114], [101, 118, 101, 110, 116], [98, 101, 103, 117, 110], [111, 118, 101, 114]]) h0 g1 g2]; simp only [Qc]; rw [Vh h2 aW]; simp only []; rw [Nat.add_comm 4 k]
   have aB : ∀ {n' : Nat} {l rest : List Tok}, Z4 [wAnd] rest -> (l ++ rest).length < n' -> X8 n' (l ++ rest) = .ok (.mk op name cmp n ks, rest) -> Y7 (X8 n') 8 n' (l ++ rest) = .ok (.mk op name cmp n ks, rest) := by
    intro n' l rest hr hn ha; cases n' with
    | zero => simp at hn
    | succ n' =>
      unfold Y7 severalF; rw [severalL, ha]; simp only [Qc, Jc]; rw [Xw hr (by simp)]; rfl
   have aJ : ∀ {n' : Nat} {l rest : List Tok}, Z4 [wOr, wAnd] rest -> (l ++ rest).length < n' -> Y7 (X8 n') 8 n' (l ++ rest) = .ok (.mk op name cmp n ks, rest) -> Jk n' (l ++ rest) = .ok (.mk op name cmp n ks, rest) := by
    intro n' l rest hr hn ha; cases n' with
    | zero => simp at hn
    | succ n' =>
      unfold Jk orF severalF; rw [severalL, ha]; simp only [Qc, Jc]; rw [Xw hr (by simp)]; rfl
   have aT : op = 8 -> wS (.mk op name cmp n ks) = J1 wAnd (wSs false ks) := by
    intro ho; subst ho; rw [wS]; simp
   have aY : op = 9 -> wS (.mk op name cmp n ks) = J1 wOr (wSs true ks) := by
    intro ho; subst ho; rw [wS]; simp
   have aE : Lg (.mk op name cmp n ks) := by
    intro n' l rest hl hr hn
    by_cases o9 : op = 9
    · rw [aY o9] at hl; subst o9; have aR : 2 <= ks.length := (by omega)
      have aI : n = 0 := by simpa using h1.2
      have aN : name = [] := by simpa using h2
      have aD := hl.len; have h5 := I4 wOr (lens true); rw [We, List.length_map] at h5; rw [We] at hl aD
      have := Kk (one := Y7 (X8 n') 8 n') (w := wOr) (A := [wAnd]) (M := (l ++ rest).length) (wKc (by decide)) (by decide) (fun k => Jt true k 8 9 (wS k)) ks n' l rest (by rintro rfl; simp at aR) (by simp at hn; omega) hl hr (lR _)
       (fun k hm l' rest' aQ aS bG => (ih k hm).2.1 n' l' rest' aQ aS (by omega))
      unfold Jk orF severalF; rw [this]; simp only [Qc]; subst aP aI aN; cases ks with
      | nil => simp at aR
      | cons a r => cases r with
        | nil => simp at aR
        | cons b r => rfl
    · refine aJ hr hn ?_; have aO : Z4 [wAnd] rest := hr.sub (fun x hx => List.mem_cons_of_mem _ hx)
      by_cases o8 : op = 8
      · rw [aT o8] at hl; exact aM o8 n' l rest hl aO hn
      · exact aB aO hn (aF o8 o9 n' l rest hl hn)
   refine ⟨fun n' l rest hl hn => ?_, fun n' l rest hl hr hn => ?_, aE⟩
   · unfold Jt at hl
     by_cases ho : op = 8 \/ op = 9
     · rw [if_pos (ho.elim (fun h => Or.inr ⟨h, rfl⟩) (fun h => Or.inl h))] at hl; exact Bd aE n' l rest hl hn
     · rw [if_neg (fun h => ho (h.elim (fun h => Or.inr h) (fun h => Or.inl h.1)))] at hl; exact aF (by omega) (by omega) n' l rest hl hn
   · unfold Jt at hl
     by_cases o9 : op = 9
     · rw [if_pos (Or.inl o9)] at hl; exact aB hr hn (Bd aE n' l rest hl hn)
     · rw [if_neg (fun h => h.elim o9 (fun h => by cases h.2))] at hl
       by_cases o8 : op = 8
       · rw [aT o8] at hl; exact aM o8 n' l rest hl hr hn
       · exact aB hr hn (aF o8 o9 n' l rest hl hn)
def R0 : List Qa := [[99, 111, 110, 115, 116, 105, 116, 117, 116, 105, 111, 110], [97, 99, 116], [114, 101, 103, 117, 108, 97, 116, 105, 111, 110], [98, 121, 108, 97, 119]]
abbrev wIf : Qa := [105, 102]
abbrev N7 : Qa := [110, 111, 116, 119, 105, 116, 104, 115, 116, 97, 110, 100, 105, 110, 103]
abbrev Is : Qa := [44]
abbrev Vo : Qa := [102, 114, 111, 109]
abbrev X9 : Qa := [117, 110, 116, 105, 108]
abbrev Xz : Qa := [97, 103, 97, 105, 110]
abbrev Sp : Qa := [46]
def Qr (b : Bool) (w : Qa) (l : List Qa) : List Qa := if b then w :: l else []
def Kw (exc : List Qa) : List Qa := if exc = [] then [] else N7 :: J1 Is (exc.map fun s => [s])
def Wi (p : Qf) : List Qa := if p.kind = 1 then [[100, 101, 102, 105, 110, 101], p.name] else [[97, 110, 115, 119, 101, 114], p.name, [105, 115], dec p.value]
def Ub (p : Qf) : List Qa := Qr (p.aga.op != 2) Xz (wS p.aga) ++ [Sp]
def Uc (p : Qf) : List Qa := Qr (p.fin.op != 2) X9 (wS p.fin) ++ Ub p
def Ws (p : Qf) : List Qa := Qr (p.beg.op != 1) Vo (wS p.beg) ++ Uc p
def Wt (p : Qf) : List Qa := Kw p.exc ++ Ws p
def wP (p : Qf) : List Qa := R0.getD (p.rank - 1) [] :: p.id :: [58] :: (Wi p ++ (Qr (p.cond.op != 1) wIf (wF p.cond) ++ Wt p))
def small (t : Qb) : Bool := decide (t.size <= 200) && decide (t.deep <= 20)
structure Zo (p : Qf) : Prop where
 rank : 1 <= p.rank /\ p.rank <= 4
 id : Qp p.id = true
 kind : p.kind = 1 /\ p.value = 0 \/ p.kind = 2
 name : Qp p.name = true
 value : p.value <= 1000000
 cond : okF p.cond = true
 condS : small p.cond = true
 exc : ∀ s ∈ p.exc, Qp s = true
 excN : p.exc.Nodup
 excL : p.exc.length <= 20
 beg : okS p.beg = true
 begS : small p.beg = true
 fin : okS p.fin = true
 finS : small p.fin = true
 aga : okS p.aga = true
 agaS : small p.aga = true
theorem Z4.of {A W : List Qa} {l : List Tok} (h : Qs W l) (hw : ∀ w r, W = w :: r -> w ∉ A) : Z4 A l := by
 intro t r e; subst e; unfold Qs at h; cases W with
 | nil => simp at h
 | cons w W' =>
   simp only [List.map_cons, List.cons.injEq] at h; rw [cTx h.1]; exact hw w W' rfl
def qjb : List Qa := [N7, Vo, X9, Xz, Sp]
def Zz (W : List Qa) (H : List Qa) : Prop := ∀ w r, W = w :: r -> w ∈ H
theorem Zz.part {b : Bool} {w : Qa} {l T H : List Qa} (hw : w ∈ H) (hT : Zz T H) : Zz (Qr b w l ++ T) H := by
 unfold Qr
 split
 · intro w' r e; simp only [List.cons_append, List.cons.injEq] at e; rw [<- e.1]; exact hw
 · simpa using hT
theorem Fm (p : Qf) : Zz (Ub p) [Xz, Sp] := Zz.part (by simp) (fun w r e => by simp at e; simp [<- e.1])
theorem Zz.sub {W H K : List Qa} (h : Zz W H) (hs : ∀ x ∈ H, x ∈ K) : Zz W K := fun w r e => hs _ (h w r e)
theorem Fo (p : Qf) : Zz (Uc p) [X9, Xz, Sp] := Zz.part (by simp) ((Fm p).sub (fun x hx => List.mem_cons_of_mem _ hx))
theorem Fp (p : Qf) : Zz (Ws p) [Vo, X9, Xz, Sp] := Zz.part (by simp) ((Fo p).sub (fun x hx => List.mem_cons_of_mem _ hx))
theorem head0 (p : Qf) : Zz (Wt p) qjb := by
 unfold Wt Kw
 split
 · exact (Fp p).sub (fun x hx => List.mem_cons_of_mem _ hx)
 · intro w r e; simp only [List.cons_append, List.cons.injEq] at e; rw [<- e.1]; simp [qjb]
theorem Zz.notIn {W H A : List Qa} {l : List Tok} (h : Zz W H) (ht : Qs W l) (hd : ∀ w ∈ H, w ∉ A) : Z4 A l := Z4.of ht (fun w r e => hd w (h w r e))
theorem Sb {x : Qb} (h : small x = true) : Wn x = 0 := by
 unfold small at h; rw [Bool.and_eq_true] at h; simp only [decide_eq_true_eq] at h; unfold Wn; rw [if_neg (by omega)]
theorem absS {t : Qb} {o : Nat} (h : okS t = true) (ho : (t.op != o) = false) (bK : o = 1 \/ o = 2) : t = .mk o [] 0 0 [] := by
 cases t with
 | mk op name cmp n ks =>
   have e : op = o := by simpa using ho
   subst e; rw [okS] at h; simp only [Bool.and_eq_true] at h; obtain ⟨⟨⟨⟨h0, h1⟩, h2⟩, h3⟩, h4⟩ := h; rw [if_neg (by omega)] at h1 h2; rcases opS h3 with ⟨h5, _⟩ | ⟨_, h5⟩
   · omega
   · simp only [decide_eq_true_eq] at h0 h1 h2; rw [h0, h1, h2, List.length_eq_zero_iff.1 h5]
theorem absF {t : Qb} (h : okF t = true) (ho : (t.op != 1) = false) : t = .mk 1 [] 0 0 [] := by
 cases t with
 | mk op name cmp n ks =>
   have e : op = 1 := by simpa using ho
   subst e; rw [okF] at h; simp only [Bool.and_eq_true] at h; obtain ⟨⟨⟨h1, h2⟩, h3⟩, h4⟩ := h; rw [if_neg (by decide)] at h1 h2; rw [if_pos (by decide)] at h3; simp only [Bool.and_eq_true, decide_eq_true_eq] at h1 h2 h3; rw [h1.1, h1.2, h2, List.length_eq_zero_iff.1 h3]
theorem Us {t : Qb} {o n : Nat} {w : Qa} {T : List Qa} {H : List Qa} {l : List Tok} (hw : Oo w) (bK : o = 1 \/ o = 2) (aC : okS t = true) (bB : small t = true) (hT : Zz T H) (hH : ∀ x ∈ H, x ∉ [w, wOr, wAnd]) (hl : Qs (Qr (t.op != o) w (wS t) ++ T) l) (hn : l.length < n) :
 ∃ r, Ym n w o l = .ok (t, r) /\ Qs T r /\ r.length <= l.length := by
 unfold Ym; cases hp : (t.op != o) with
 | false =>
   rw [hp] at hl; simp only [Qr, Bool.false_eq_true, if_false, List.nil_append] at hl; refine ⟨l, ?_, hl, lR _⟩; simp only [Jc]; rw [Xw (hT.notIn hl hH) (by simp)]; rw [absS aC hp bK]
 | true =>
   rw [hp] at hl; simp only [Qr, if_true, List.cons_append] at hl; obtain ⟨t0, l1, rfl, h0, aA⟩ := hl.cons; obtain ⟨l2, r, rfl, h2, h3⟩ := aA.app; have hc := (qbz t.size t (lR _) aC).2.2 n l2 r h2 (hT.notIn h3 (fun x hx h => hH x hx (List.mem_cons_of_mem _ h))) (by simp at hn ⊢; omega); refine ⟨r, ?_, h3, by simp; omega⟩; simp only [Jc]; rw [Jm h0 hw (i := 0) (by simp [List.idxOf?, List.findIdx?_cons])]; simp only [Zn]; rw [hc]; simp only [Qc, Js]; rw [Sb bB, if_pos rfl]
theorem qgh {t : Qb} {n : Nat} {T H : List Qa} {l : List Tok} (aC : okF t = true) (bB : small t = true) (hT : Zz T H) (hH : ∀ x ∈ H, x ∉ wIf :: wOr :: wAnd :: fA) (hl : Qs (Qr (t.op != 1) wIf (wF t) ++ T) l) (hn : l.length < n) :
 ∃ r, ifF n l = .ok (t, r) /\ Qs T r /\ r.length <= l.length := by
 unfold ifF; cases hp : (t.op != 1) with
 | false =>
   rw [hp] at hl; simp only [Qr, Bool.false_eq_true, if_false, List.nil_append] at hl; refine ⟨l, ?_, hl, lR _⟩; simp only [Jc]; rw [Xw (hT.notIn hl hH) (by simp)]; rw [absF aC hp]
 | true =>
   rw [hp] at hl; simp only [Qr, if_true, List.cons_append] at hl; obtain ⟨t0, l1, rfl, h0, aA⟩ := hl.cons; obtain ⟨l2, r, rfl, h2, h3⟩ := aA.app; have hc := (qb0 t.size t (lR _) aC).2.2 n l2 r h2 (hT.notIn h3 (fun x hx h => hH x hx (List.mem_cons_of_mem _ h))) (by simp at hn ⊢; omega); refine ⟨r, ?_, h3, by simp; omega⟩; simp only [Jc]; rw [Jm h0 (wKc (by decide)) (i := 0) (by decide)]; simp only [Zn]; rw [hc]; simp only [Qc, Js]; rw [Sb bB, if_pos rfl]
theorem Bm : ∀ (xs : List Qa) (n : Nat) (out : List Qa) (T : List Qa) (l : List Tok), xs ≠ [] -> xs.length <= n -> (∀ s ∈ xs, Qp s = true) -> (out ++ xs).Nodup -> (out ++ xs).length <= 20 -> (∀ w r, T = w :: r -> w ∉ [Is]) -> Qs (J1 Is (xs.map fun s => [s]) ++ T) l ->
 ∃ r, Zf n out l = .ok (out ++ xs, r) /\ Qs T r /\ r.length <= l.length
 | [], _, _, _, _, h, _, _, _, _, _, _ => absurd rfl h
 | x :: xs, 0, _, _, _, _, hn, _, _, _, _, _ => by simp at hn
 | [x], n + 1, out, T, l, _, _, aC, hnd, aD, hT, hl => by
   obtain ⟨t0, r, rfl, h0, h1⟩ := Qs.cons (w := x) (W := T) hl; refine ⟨r, ?_, h1, by simp⟩; unfold Zf; rw [Vh (aC x (by simp)) h0]
   have hx : x ∉ out := by
    have := (List.nodup_append.1 hnd).2.2; exact fun hm => this x hm x (by simp) rfl
   have he : Xv out x = 0 := by
    unfold Xv; rw [if_neg (by simpa using hx), if_neg (by simp at aD; omega)]
   simp only [Qc, Js, he, if_true, Jc]; rw [Xw (Z4.of h1 hT) (by simp)]
 | x :: y :: xs, n + 1, out, T, l, _, hn, aC, hnd, aD, hT, hl => by
   obtain ⟨t0, l1, rfl, h0, h1⟩ := Qs.cons (w := x) (W := Is :: (J1 Is ((y :: xs).map fun s => [s]) ++ T)) hl; obtain ⟨t1, l2, rfl, h2, h3⟩ := h1.cons; have e : out ++ x :: y :: xs = (out ++ [x]) ++ y :: xs := by simp
   rw [e] at hnd aD ⊢; obtain ⟨r, hr, aO, bZ⟩ := Bm (y :: xs) n (out ++ [x]) T l2 (by simp) (by simp at hn ⊢; omega) (fun s hs => aC s (by simp at hs ⊢; right; exact hs)) hnd aD hT h3; refine ⟨r, ?_, aO, by simp; omega⟩; unfold Zf; rw [Vh (aC x (by simp)) h0]
   have hx : x ∉ out := by
    have := (List.nodup_append.1 ((List.nodup_append.1 hnd).1)).2.2; exact fun hm => this x hm x (by simp) rfl
   have he : Xv out x = 0 := by
    unfold Xv; rw [if_neg (by simpa using hx), if_neg (by simp at aD; omega)]
   simp only [Qc, Js, he, if_true, Jc]; rw [Jm h2 (wKc (by decide)) (i := 0) (by decide)]; exact hr
theorem T6 {p : Qf} (hp : Zo p) {l : List Tok} (hl : Qs (Wt p) l) : ∃ r, Kx l = .ok (p.exc, r) /\ Qs (Ws p) r /\ r.length <= l.length := by
 unfold Kx; unfold Wt Kw at hl
 by_cases he : p.exc = []
 · rw [if_pos he] at hl; simp only [List.nil_append] at hl; refine ⟨l, ?_, hl, lR _⟩; simp only [Jc]; rw [Xw (A := [N7]) ((Fp p).notIn hl (by decide)) (by simp)]; rw [he]
 · rw [if_neg he] at hl; obtain ⟨t0, l1, rfl, h0, h1⟩ := Qs.cons (w := N7) hl
   obtain ⟨r, h2, h3, h4⟩ := Bm p.exc 22 [] (Ws p) l1 he (by have := hp.excL; omega) hp.exc (by simpa using hp.excN) (by simpa using hp.excL) (fun w r e => by
    have := Fp p w r e
    revert this
    intro hm; simp only [List.mem_cons, List.not_mem_nil, or_false] at hm; rcases hm with rfl | rfl | rfl | rfl <;> decide) h1
   refine ⟨r, ?_, h3, by simp; omega⟩; simp only [Jc]; rw [Jm h0 (wKc (by decide)) (i := 0) (by decide)]; simpa using h2
theorem L0 {k : Nat} (h : 1 <= k /\ k <= 4) : Oo (R0.getD (k - 1) []) /\ R0.idxOf? (R0.getD (k - 1) []) = some (k - 1) := by
 have : k = 1 \/ k = 2 \/ k = 3 \/ k = 4 := by omega
 rcases this with rfl | rfl | rfl | rfl <;> exact ⟨wKc (by decide), by decide⟩
theorem Cv {p : Qf} (hp : Zo p) {T : List Qa} {l : List Tok} (hl : Qs (Wi p ++ T) l) : ∃ r, K3 l = .ok ((p.kind, p.name, p.value), r) /\ Qs T r /\ r.length <= l.length := by
 unfold K3; unfold Wi at hl; rcases hp.kind with ⟨h1, h2⟩ | h1
 · rw [if_pos h1] at hl; obtain ⟨t0, l1, rfl, h3, aA⟩ := Qs.cons (w := [100, 101, 102, 105, 110, 101]) hl; obtain ⟨t1, l2, rfl, h4, aH⟩ := Qs.cons (w := p.name) (W := T) aA; refine ⟨l2, ?_, aH, by simp; omega⟩; simp only [Q3, Jc]; rw [Jm h3 (wKc (by decide)) (i := 0) (by decide)]; simp only [Qc]; rw [Vh hp.name h4, h1, h2]
 · rw [if_neg (by omega)] at hl; obtain ⟨t0, l1, rfl, h3, aA⟩ := Qs.cons (w := [97, 110, 115, 119, 101, 114]) hl; obtain ⟨t1, l2, rfl, h4, aH⟩ := Qs.cons (w := p.name) aA; obtain ⟨t2, l3, rfl, h5, aV⟩ := Qs.cons (w := [105, 115]) aH; obtain ⟨t3, l4, rfl, h6, bD⟩ := Qs.cons (w := dec p.value) (W := T) aV; refine ⟨l4, ?_, bD, by simp; omega⟩; simp only [Q3, Jc]; rw [Jm h3 (wKc (by decide)) (i := 1) (by decide)]; simp only [Qc]; rw [Vh hp.name h4]; simp only []; rw [Jm h5 (wKc (by decide)) (i := 0) (by decide)]; simp only []; rw [Gy (by have := hp.value; omega) hp.value h6, h1]
theorem Ck {p : Qf} (hp : Zo p) {l : List Tok} {n : Nat} (hl : Qs (wP p) l) (hn : l.length < n) : Qk n l = .ok (p, []) := by
 unfold wP at hl; obtain ⟨t0, l1, rfl, h0, aA⟩ := hl.cons; obtain ⟨t1, l2, rfl, h1, aH⟩ := aA.cons; obtain ⟨t2, l3, rfl, h2, aV⟩ := aH.cons; simp only [List.length_cons] at hn; obtain ⟨l4, k4, bD, n4⟩ := Cv hp aV; obtain ⟨l5, k5, bR, n5⟩ := qgh (n := n) hp.cond hp.condS (head0 p) (by decide) bD (by omega); obtain ⟨l6, k6, bQ, n6⟩ := T6 hp bR; obtain ⟨l7, k7, bP, n7⟩ := Us (n := n) (w := Vo) (o := 1) (wKc (by decide)) (Or.inl rfl) hp.beg hp.begS (Fo p) (by decide) bQ (by omega); obtain ⟨l8, k8, bO, n8⟩ := Us (n := n) (w := X9) (o := 2) (wKc (by decide)) (Or.inr rfl) hp.fin hp.finS (Fm p) (by decide) bP (by omega); obtain ⟨l9, k9, bN, n9⟩ := Us (n := n) (w := Xz) (o := 2) (T := [Sp]) (H := [Sp]) (wKc (by decide)) (Or.inr rfl) hp.aga hp.agaS (fun w r e => by simp at e; simp [<- e.1]) (by decide) bO (by omega); obtain ⟨t9, bY, rfl, h9, bE⟩ := bN.cons; obtain rfl := bE.nil; obtain ⟨g1, g2⟩ := L0 hp.rank; unfold Qk K6; simp only [Q3, Jc]; rw [Jm (ws := [[99, 111, 110, 115, 116, 105, 116, 117, 116, 105, 111, 110], [97, 99, 116], [114, 101, 103, 117, 108, 97, 116, 105, 111, 110], [98, 121, 108, 97, 119]]) h0 g1 g2]; simp only [Qc]; rw [Vh hp.id h1]; simp only []; rw [Jm h2 (wKc (by decide)) (i := 0) (by decide)]; simp only []; rw [k4]; simp only []; rw [k5]; simp only []; rw [k6]; simp only []; rw [k7]; simp only []; rw [k8]; simp only []; rw [k9]; simp only []; rw [Jm h9 (wKc (by decide)) (i := 0) (by decide)]; simp only []; rw [show 1 + (p.rank - 1) = p.rank by have := hp.rank; omega]
def Yz (op cl : List Qa) (w w' : Qa) : Bool := op.contains w || cl.contains w'
def Vk (op cl : List Qa) : List Qa -> Qa
 | [] => []
 | [w] => w
 | w :: w' :: r => w ++ ((if Yz op cl w w' then [] else [32]) ++ Vk op cl (w' :: r))
theorem V3 {w : Qa} (h : (Qv w).1 ≠ 0) : ∃ c r k v, w = c :: r /\ Qt c r = .ok (k, r.length + 1, v) /\ Qv w = (k, w, v) := by
 unfold Qv at *; cases w with
 | nil => simp at h
 | cons c r =>
   simp only at h ⊢; cases hl : Qt c r with
   | error e => rw [hl] at h; simp at h
   | ok x =>
     obtain ⟨k, m, v⟩ := x; rw [hl] at h; simp only at h ⊢
     by_cases hm : m = r.length + 1
     · rw [if_pos hm] at h ⊢; exact ⟨c, r, k, v, rfl, by rw [hl, hm], rfl⟩
     · rw [if_neg hm] at h; simp at h
theorem U3 {c : UInt8} {r : Qa} {x : Nat × Nat × Nat} (h : Qt c r = .ok x) : Z2 c = false /\ c ≠ 35 := by
 constructor
 · cases hb : Z2 c with
   | false => rfl
   | true =>
     have hc : c = 32 \/ c = 9 \/ c = 10 := by
      unfold Z2 at hb; simp only [Bool.or_eq_true, beq_iff_eq] at hb; rcases hb with (hb | hb) | hb
      · exact Or.inl hb
      · exact Or.inr (Or.inl hb)
      · exact Or.inr (Or.inr hb)
     rcases hc with rfl | rfl | rfl <;> (unfold Qt at h; simp [Ke, digitB, qch, qcz] at h)
 · rintro rfl; unfold Qt at h; simp [Ke, digitB, qch, qcz] at h
structure qb8 (op cl : List Qa) : Prop where
 opn : ∀ w ∈ op, ∃ c, w = [c] /\ ∀ r, Qt c r = .ok (3, 1, 0)
 cls : ∀ w ∈ cl, ∃ c, w = [c] /\ wordB c = false /\ c ≠ 61
theorem qdn {op cl : List Qa} {c : UInt8} {r : Qa} (W : List Qa) : ∃ b, Vk op cl ((c :: r) :: W) = c :: b := by
 cases W with
 | nil => exact ⟨r, rfl⟩
 | cons w W => exact ⟨r ++ ((if Yz op cl (c :: r) w then [] else [32]) ++ Vk op cl (w :: W)), rfl⟩
theorem qa7 {op cl : List Qa} (hs : qb8 op cl) : ∀ (W : List Qa) (p : Nat), (∀ w ∈ W, (Qv w).1 ≠ 0) -> (sc (Vk op cl W) p).1.map Y5 = W.map Qv /\ (sc (Vk op cl W) p).2 = none
 | [], p, _ => ⟨rfl, rfl⟩
 | [w], p, h => by
   obtain ⟨c, r, k, v, rfl, hl, hc⟩ := V3 (h w (by simp)); obtain ⟨h1, h2⟩ := U3 hl; rw [show Vk op cl [c :: r] = c :: r from rfl, Gu p h1 h2 hl]; have e1 : (c :: r).take (r.length + 1) = c :: r := List.take_length (l := c :: r); have e2 : r.drop (r.length + 1 - 1) = [] := by rw [Nat.add_sub_cancel]; exact List.drop_length
   rw [e1, e2]; simp only [Cf, List.map_cons, List.map_nil, hc]; exact ⟨rfl, trivial⟩
 | w :: w' :: W, p, h => by
   obtain ⟨c, r, k, v, rfl, hl, hc⟩ := V3 (h w (by simp)); obtain ⟨c', r', k', v', rfl, cC, cD⟩ := V3 (h w' (by simp)); obtain ⟨h1, h2⟩ := U3 hl; obtain ⟨b, hb⟩ := qdn (op := op) (cl := cl) (c := c') (r := r') W; have ih := fun q => qa7 hs ((c' :: r') :: W) q (fun x hx => h x (by simp at hx ⊢; right; exact hx)); rw [show Vk op cl ((c :: r) :: (c' :: r') :: W) = c :: (r ++ ((if Yz op cl (c :: r) (c' :: r') then [] else [32]) ++ Vk op cl ((c' :: r') :: W))) from rfl]
   have aG : ∀ rest : Qa, Qt c (r ++ rest) = .ok (k, r.length + 1, v) -> (sc (c :: (r ++ rest)) p).1.map Y5 = Qv (c :: r) :: (sc rest (p + (r.length + 1))).1.map Y5 /\ (sc (c :: (r ++ rest)) p).2 = (sc rest (p + (r.length + 1))).2 := by
    intro rest hx; rw [Gu p h1 h2 hx]; have e1 : (c :: (r ++ rest)).take (r.length + 1) = c :: r := by simp
    have e2 : (r ++ rest).drop (r.length + 1 - 1) = rest := by rw [Nat.add_sub_cancel]; simp
    rw [e1, e2, hc]; exact ⟨rfl, rfl⟩
   cases ht : Yz op cl (c :: r) (c' :: r') with
   | true =>
     simp only [if_true, List.nil_append]
     have hx : Qt c (r ++ Vk op cl ((c' :: r') :: W)) = .ok (k, r.length + 1, v) := by
      unfold Yz at ht; rw [Bool.or_eq_true] at ht; rcases ht with ht | ht
      · obtain ⟨c0, e, aP⟩ := hs.opn _ (by simpa using ht); cases e; have := aP []; rw [hl] at this; rw [List.nil_append, aP]; exact this.symm
      · obtain ⟨c0, e, aP, bW⟩ := hs.cls _ (by simpa using ht); cases e; rw [hb, Mn r b aP bW]; exact hl
     obtain ⟨a1, a2⟩ := aG _ hx; obtain ⟨b1, b2⟩ := ih (p + (r.length + 1)); exact ⟨by rw [a1, b1]; rfl, by rw [a2, b2]⟩
   | false =>
     simp only [Bool.false_eq_true, if_false, List.cons_append, List.nil_append]
     have hx : Qt c (r ++ 32 :: Vk op cl ((c' :: r') :: W)) = .ok (k, r.length + 1, v) := by
      rw [Mn r _ (by decide) (by decide)]; exact hl
     obtain ⟨a1, a2⟩ := aG _ hx; rw [I5 (c := 32) (Vk op cl ((c' :: r') :: W)) (p + (r.length + 1)) (by decide)] at a1 a2; obtain ⟨b1, b2⟩ := ih (p + (r.length + 1) + 1); exact ⟨by rw [a1, b1]; rfl, by rw [a2, b2]⟩
theorem Bg {op cl : List Qa} (hs : qb8 op cl) {W : List Qa} (hW : ∀ w ∈ W, (Qv w).1 ≠ 0) :
 (∀ ts, Zr (Vk op cl W) = .ok ts -> Qs W ts) /\ ((∃ ts, Zr (Vk op cl W) = .ok ts) ↔ (Vk op cl W).length <= 20000 /\ W.length <= 5000) /\ (∀ e, Zr (Vk op cl W) = .error e -> e.1 = 2) := by
 obtain ⟨h1, h2⟩ := qa7 hs W 0 hW
 have hl : (sc (Vk op cl W) 0).1.length = W.length := by
  have := congrArg List.length h1; simpa using this
 refine ⟨fun ts ht => ?_, ⟨fun ⟨ts, ht⟩ => ?_, fun ⟨ha, hb⟩ => ?_⟩, fun e he => ?_⟩
 · have := (Kt ht).1; unfold Qs; rw [this] at h1; exact h1
 · obtain ⟨a, b, c⟩ := Kt ht; have aH : ts.length = W.length := by rw [a] at hl; exact hl
   exact ⟨c, by omega⟩
 · exact ⟨_, Cu (ts := (sc (Vk op cl W) 0).1) (by rw [<- h2]) (by omega) ha⟩
 · unfold Zr at he
   split at he
   · injection he with he; rw [<- he]
   · split at he
     · injection he with he; rw [<- he]
     · have : (Uh (Vk op cl W).length (Vk op cl W) 0).2 = none := h2; rw [this] at he; cases he
def Jl (o c : List UInt8) : Qa -> Qa
 | [] => []
 | [x] => [x]
 | x :: y :: r => if x = 32 /\ y ∈ c then y :: Jl o c r else if x ∈ o /\ y = 32 then x :: Jl o c r else x :: Jl o c (y :: r)
def Ju : List Qa -> Qa
 | [] => []
 | [w] => w
 | w :: w' :: r => w ++ 32 :: Ju (w' :: r)
structure Bu (o c : List UInt8) (w : Qa) : Prop where
 ne : w ≠ []
 blank : 32 ∉ w
 opn : (∃ x ∈ o, w = [x]) \/ ∀ x ∈ o, x ∉ w
 cls : (∃ x ∈ c, w = [x]) \/ ∀ x ∈ c, w.head? ≠ some x
theorem Lw (o c : List UInt8) (bX : 32 ∉ o) : ∀ (w rest : Qa), w ≠ [] -> 32 ∉ w -> (∀ x ∈ o, x ∉ w) -> Jl o c (w ++ 32 :: rest) = w ++ Jl o c (32 :: rest)
 | [], rest, h, _, _ => absurd rfl h
 | [x], rest, _, hb, ho => by
   simp only [List.cons_append, List.nil_append]; rw [Jl]; rw [if_neg (fun h => hb (by rw [<- h.1]; simp)), if_neg (fun h => ho x h.1 (by simp))]
 | x :: y :: r, rest, _, hb, ho => by
   simp only [List.cons_append]; rw [Jl]; rw [if_neg (fun h => hb (by rw [<- h.1]; simp)), if_neg (fun h => ho x h.1 (by simp))]; have := Lw o c bX (y :: r) rest (by simp) (fun h => hb (by simp at h ⊢; right; exact h)) (fun z hz h => ho z hz (by simp at h ⊢; right; exact h)); exact congrArg (x :: ·) this
theorem Bc (o c : List UInt8) : ∀ (w : Qa), 32 ∉ w -> Jl o c w = w
 | [], _ => rfl
 | [x], _ => rfl
 | x :: y :: r, hb => by
   rw [Jl]; rw [if_neg (fun h => hb (by rw [<- h.1]; simp)), if_neg (fun h => hb (by rw [<- h.2]; simp))]; rw [Bc o c (y :: r) (fun h => hb (by simp at h ⊢; right; exact h))]
theorem Tv {c : UInt8} {r : Qa} (W : List Qa) : ∃ b, Ju ((c :: r) :: W) = c :: b := by
 cases W with
 | nil => exact ⟨r, rfl⟩
 | cons w W => exact ⟨r ++ 32 :: Ju (w :: W), rfl⟩
theorem Rx {o c : List UInt8} (ho : 32 ∉ o) (hc : 32 ∉ c) (bH : ∀ x ∈ o, x ∉ c) : ∀ (W : List Qa), (∀ w ∈ W, Bu o c w) -> Jl o c (Ju W) = Vk (o.map fun x => [x]) (c.map fun x => [x]) W /\ ∀ x r, W = [x] :: r -> x ∈ c -> ∃ b, Ju W = x :: b /\ Vk (o.map fun x => [x]) (c.map fun x => [x]) W = x :: Jl o c b
 | [], _ => ⟨rfl, fun x r e => by simp at e⟩
 | [w], h => by
   refine ⟨Bc o c w (h w (by simp)).blank, fun x r e hx => ?_⟩; cases e; exact ⟨[], rfl, rfl⟩
 | w :: w' :: W, h => by
   have hw := h w (by simp); have bA := h w' (by simp); obtain ⟨i1, i2⟩ := Rx ho hc bH (w' :: W) (fun x hx => h x (by simp at hx ⊢; right; exact hx)); rw [show Ju (w :: w' :: W) = w ++ 32 :: Ju (w' :: W) from rfl]; rw [show Vk (o.map fun x => [x]) (c.map fun x => [x]) (w :: w' :: W) = w ++ ((if Yz (o.map fun x => [x]) (c.map fun x => [x]) w w' then [] else [32]) ++ Vk (o.map fun x => [x]) (c.map fun x => [x]) (w' :: W)) from rfl]
   obtain ⟨c', r', rfl⟩ : ∃ c' r', w' = c' :: r' := by
    cases w' with
    | nil => exact absurd rfl bA.ne
    | cons a b => exact ⟨a, b, rfl⟩
   have bV : c' ≠ 32 := fun e => bA.blank (by rw [e]; simp)
   -- behind the word, its blank
   have aL : Jl o c (32 :: Ju ((c' :: r') :: W)) = (if (c.map fun x => [x]).contains (c' :: r') then [] else [32]) ++ Vk (o.map fun x => [x]) (c.map fun x => [x]) ((c' :: r') :: W) := by
    obtain ⟨b, hb⟩ := Tv (c := c') (r := r') W; cases bJ : (c.map fun x => [x]).contains (c' :: r') with
    | true =>
      simp only [if_true, List.nil_append]; have : ∃ x ∈ c, [x] = c' :: r' := by simpa using bJ
      obtain ⟨x, hx, e⟩ := this; cases e; obtain ⟨b2, e1, e2⟩ := i2 c' W rfl hx; rw [e1, e2, Jl, if_pos ⟨rfl, hx⟩]
    | false =>
      simp only [Bool.false_eq_true, if_false, List.cons_append, List.nil_append]; rw [<- i1, hb]; rw [Jl]
      have hn : c' ∉ c := by
       rcases bA.cls with ⟨x, hx, e⟩ | hh
       · exfalso
         have : ¬ ∃ x ∈ c, [x] = c' :: r' := by
          intro bU; have h1 : (c.map fun x => [x]).contains (c' :: r') = true := by simpa using bU
          rw [bJ] at h1; cases h1
         exact this ⟨x, hx, e.symm⟩
       · exact fun hm => hh c' hm rfl
      rw [if_neg (fun h => hn h.2), if_neg (fun h => ho h.1)]
   rcases hw.opn with ⟨x, hx, rfl⟩ | bI
   · have aX : x ≠ 32 := fun e => ho (e ▸ hx)
     have ht : Yz (o.map fun x => [x]) (c.map fun x => [x]) [x] (c' :: r') = true := by
      unfold Yz; rw [Bool.or_eq_true]; exact Or.inl (by simpa using hx)
     have aG : Jl o c (x :: 32 :: Ju ((c' :: r') :: W)) = x :: Jl o c (Ju ((c' :: r') :: W)) := by
      rw [Jl, if_neg (fun h => aX h.1), if_pos ⟨hx, rfl⟩]
     rw [ht]; simp only [if_true, List.nil_append, List.cons_append]; refine ⟨by rw [aG, i1], fun y r e hy => ?_⟩; cases e; refine ⟨_, rfl, ?_⟩
     -- an opening bracket that closes, too
     exact absurd hy (bH x hx)
   · have aG := Lw o c ho w (Ju ((c' :: r') :: W)) hw.ne hw.blank bI
     have bM : Yz (o.map fun x => [x]) (c.map fun x => [x]) w (c' :: r') = (c.map fun x => [x]).contains (c' :: r') := by
      unfold Yz
      have : (o.map fun x => [x]).contains w = false := by
       cases hb : (o.map fun x => [x]).contains w with
       | false => rfl
       | true =>
         have : ∃ x ∈ o, [x] = w := by simpa using hb
         obtain ⟨x, hx, e⟩ := this; exact absurd (by rw [<- e]; simp) (bI x hx)
      rw [this, Bool.false_or]
     rw [bM, aG, aL]; refine ⟨rfl, fun y r e hy => ?_⟩; cases e; refine ⟨32 :: Ju ((c' :: r') :: W), rfl, ?_⟩; rw [aL]; rfl
theorem Kc {w x : Qa} : ∀ {l : List (List Qa)}, x ∈ J1 w l -> x = w \/ ∃ a ∈ l, x ∈ a
 | [], h => by simp [J1] at h
 | [a], h => Or.inr ⟨a, by simp, h⟩
 | a :: b :: r, h => by
   rw [show J1 w (a :: b :: r) = a ++ w :: J1 w (b :: r) from rfl] at h; rw [List.mem_append, List.mem_cons] at h; rcases h with h | h | h
   · exact Or.inr ⟨a, by simp, h⟩
   · exact Or.inl h
   · rcases Kc h with h | ⟨c, hc, hx⟩
     · exact Or.inl h
     · exact Or.inr ⟨c, by simp at hc ⊢; right; exact hc, hx⟩
theorem O6 {b : Bool} {k : Qb} {oa oo : Nat} {l : List Qa} {x : Qa} (h : x ∈ Jt b k oa oo l) : x = wLp \/ x = wRp \/ x ∈ l := by
 unfold Jt at h
 split at h
 · simp only [List.mem_cons, List.mem_append, List.not_mem_nil, or_false] at h; rcases h with h | h | h
   · exact Or.inl h
   · exact Or.inr (Or.inr h)
   · exact Or.inr (Or.inl h)
 · exact Or.inr (Or.inr h)
def K9 (S : List Qa) (w : Qa) : Prop := (Qv w).1 = 1 \/ (Qv w).1 = 2 \/ w ∈ S
theorem Zs {S : List Qa} {s : Qa} (h : Qp s = true) : K9 S s := by
 unfold Qp at h; rw [Bool.and_eq_true] at h; exact Or.inl (by simpa using h.1)
theorem Ko {S : List Qa} {n : Nat} (h : n <= 1000000) : K9 S (dec n) := Or.inr (Or.inl (by rw [Vl (by omega)]))
theorem gKy {S : List Qa} {w : Qa} (h : ((Qv w).1 == 1) = true) : K9 S w := Or.inl (by simpa using h)
theorem Xe {S : List Qa} {w : Qa} (h : S.contains w = true) : K9 S w := Or.inr (Or.inr (by simpa using h))
def Pi : List Qa := [[61], [33, 61], [60], [60, 61], [62], [62, 61], [40], [41], [58], [44], [46]]
theorem Mu : ∀ (s : Nat) (t : Qb), t.size <= s -> okF t = true -> ∀ w ∈ wF t, K9 Pi w
 | 0, t, h, _ => by have := Zj t; omega
 | s + 1, .mk op name cmp n ks, hs, aC => by
   rw [okF] at aC; simp only [Bool.and_eq_true] at aC; obtain ⟨⟨⟨h1, h2⟩, h3⟩, h4⟩ := aC; rw [Qb.size] at hs; have hk := V9 h4
   have ih : ∀ b, ∀ a ∈ wFs b ks, ∀ w ∈ a, K9 Pi w := fun b a ha w hw => by
    rw [Wg] at ha; obtain ⟨k, hm, rfl⟩ := List.mem_map.1 ha; rcases O6 hw with rfl | rfl | hw
    · exact Xe (by decide)
    · exact Xe (by decide)
    · exact Mu s k (by have := Zk hm; omega) (hk k hm) w hw
   intro w hw; rw [wF] at hw
   by_cases o1 : op = 1
   · rw [if_pos o1] at hw; rw [List.mem_singleton.1 hw]; exact gKy (by decide)
   by_cases o2 : op = 2
   · rw [if_neg o1, if_pos o2] at hw; rw [List.mem_singleton.1 hw]; exact gKy (by decide)
   by_cases o3 : op = 3
   · rw [if_neg o1, if_neg o2, if_pos o3] at hw; rw [if_pos o3] at h1; rw [if_pos (Or.inl o3)] at h2; simp only [Bool.and_eq_true, decide_eq_true_eq] at h1; simp only [List.mem_cons, List.not_mem_nil, or_false] at hw; rcases hw with rfl | rfl | rfl
     · exact Zs h2
     · have : cmp = 1 \/ cmp = 2 \/ cmp = 3 \/ cmp = 4 \/ cmp = 5 \/ cmp = 6 := by omega
       rcases this with rfl | rfl | rfl | rfl | rfl | rfl <;> exact Xe (by decide)
     · exact Ko h1.2
   by_cases o4 : op = 4
   · rw [if_neg o1, if_neg o2, if_neg o3, if_pos o4] at hw; rw [if_pos (Or.inr o4)] at h2; rw [List.mem_singleton.1 hw]; exact Zs h2
   by_cases o5 : op = 5
   · rw [if_neg o1, if_neg o2, if_neg o3, if_neg o4, if_pos o5] at hw; rcases List.mem_cons.1 hw with rfl | hw
     · exact gKy (by decide)
     · obtain ⟨a, ha, hw⟩ := List.mem_flatten.1 hw; exact ih false a ha w hw
   by_cases o6 : op = 6
   · rw [if_neg o1, if_neg o2, if_neg o3, if_neg o4, if_neg o5, if_pos o6] at hw; rcases Kc hw with rfl | ⟨a, ha, hw⟩
     · exact gKy (by decide)
     · exact ih false a ha w hw
   by_cases o7 : op = 7
   · rw [if_neg o1, if_neg o2, if_neg o3, if_neg o4, if_neg o5, if_neg o6, if_pos o7] at hw; rcases Kc hw with rfl | ⟨a, ha, hw⟩
     · exact gKy (by decide)
     · exact ih true a ha w hw
   · rw [if_neg o1, if_neg o2, if_neg o3, if_neg o4, if_neg o5, if_neg o6, if_neg o7] at hw; simp at hw
theorem U8 : ∀ (s : Nat) (t : Qb), t.size <= s -> okS t = true -> ∀ w ∈ wS t, K9 Pi w
 | 0, t, h, _ => by have := Zj t; omega
 | s + 1, .mk op name cmp n ks, hs, aC => by
   rw [okS] at aC; simp only [Bool.and_eq_true] at aC; obtain ⟨⟨⟨h1, h2⟩, h3⟩, h4⟩ := aC; rw [Qb.size] at hs; have hk := V8 h4
   have ih : ∀ b, ∀ a ∈ wSs b ks, ∀ w ∈ a, K9 Pi w := fun b a ha w hw => by
    rw [We] at ha; obtain ⟨k, hm, rfl⟩ := List.mem_map.1 ha; rcases O6 hw with rfl | rfl | hw
    · exact Xe (by decide)
    · exact Xe (by decide)
    · exact U8 s k (by have := Zk hm; omega) (hk k hm) w hw
   intro w hw; rw [wS] at hw
   by_cases o1 : op = 1
   · rw [if_pos o1] at hw; rw [List.mem_singleton.1 hw]; exact gKy (by decide)
   by_cases o2 : op = 2
   · rw [if_neg o1, if_pos o2] at hw; rw [List.mem_singleton.1 hw]; exact gKy (by decide)
   by_cases o3 : op = 3
   · rw [if_neg o1, if_neg o2, if_pos o3] at hw; have aI : n <= 1000000 := by have := h1.2; rw [if_pos o3] at this; simpa using this
     simp only [List.mem_cons, List.not_mem_nil, or_false] at hw; rcases hw with rfl | rfl
     · exact gKy (by decide)
     · exact Ko aI
   by_cases o4 : op = 4 \/ op = 5 \/ op = 6 \/ op = 7
   · rw [if_neg o1, if_neg o2, if_neg o3, if_pos o4] at hw; rw [if_pos o4] at h2; simp only [List.mem_cons, List.not_mem_nil, or_false] at hw; rcases hw with rfl | rfl
     · rcases o4 with rfl | rfl | rfl | rfl <;> exact gKy (by decide)
     · exact Zs h2
   by_cases o8 : op = 8
   · rw [if_neg o1, if_neg o2, if_neg o3, if_neg o4, if_pos o8] at hw; rcases Kc hw with rfl | ⟨a, ha, hw⟩
     · exact gKy (by decide)
     · exact ih false a ha w hw
   by_cases o9 : op = 9
   · rw [if_neg o1, if_neg o2, if_neg o3, if_neg o4, if_neg o8, if_pos o9] at hw; rcases Kc hw with rfl | ⟨a, ha, hw⟩
     · exact gKy (by decide)
     · exact ih true a ha w hw
   · rw [if_neg o1, if_neg o2, if_neg o3, if_neg o4, if_neg o8, if_neg o9] at hw; simp at hw
theorem K4 {S : List Qa} {b : Bool} {k : Qa} {l : List Qa} (hk : K9 S k) (hl : ∀ w ∈ l, K9 S w) : ∀ w ∈ Qr b k l, K9 S w := by
 unfold Qr; intro w hw
 split at hw
 · rcases List.mem_cons.1 hw with rfl | hw
   · exact hk
   · exact hl w hw
 · simp at hw
theorem Mt {p : Qf} (hp : Zo p) : ∀ w ∈ wP p, K9 Pi w := by
 intro w hw; unfold wP Wt Ws Uc Ub at hw; simp only [List.mem_cons, List.mem_append, List.not_mem_nil, or_false] at hw; rcases hw with rfl | rfl | rfl | hw | hw | hw | hw | hw | hw | rfl
 · have hr := hp.rank; have : p.rank = 1 \/ p.rank = 2 \/ p.rank = 3 \/ p.rank = 4 := by omega
   rcases this with h | h | h | h <;> rw [h] <;> exact gKy (by decide)
 · exact Zs hp.id
 · exact Xe (by decide)
 · unfold Wi at hw
   split at hw
   · simp only [List.mem_cons, List.not_mem_nil, or_false] at hw; rcases hw with rfl | rfl
     · exact gKy (by decide)
     · exact Zs hp.name
   · simp only [List.mem_cons, List.not_mem_nil, or_false] at hw; rcases hw with rfl | rfl | rfl | rfl
     · exact gKy (by decide)
     · exact Zs hp.name
     · exact gKy (by decide)
     · exact Ko hp.value
 · exact K4 (gKy (by decide)) (Mu _ _ (lR _) hp.cond) w hw
 · unfold Kw at hw
   split at hw
   · simp at hw
   · rcases List.mem_cons.1 hw with rfl | hw
     · exact gKy (by decide)
     · rcases Kc hw with rfl | ⟨a, ha, hw⟩
       · exact Xe (by decide)
       · obtain ⟨s, hs, rfl⟩ := List.mem_map.1 ha; rw [List.mem_singleton.1 hw]; exact Zs (hp.exc s hs)
 · exact K4 (gKy (by decide)) (U8 _ _ (lR _) hp.beg) w hw
 · exact K4 (gKy (by decide)) (U8 _ _ (lR _) hp.fin) w hw
 · exact K4 (gKy (by decide)) (U8 _ _ (lR _) hp.aga) w hw
 · exact Xe (by decide)
theorem V5 {α : Type} {p : α -> Bool} : ∀ {l : List α}, (l.takeWhile p).length = l.length -> ∀ x ∈ l, p x = true
 | [], _, x, hx => by simp at hx
 | a :: r, h, x, hx => by
   rw [List.takeWhile_cons] at h
   by_cases ha : p a = true
   · rw [if_pos ha] at h; rcases List.mem_cons.1 hx with rfl | hx
     · exact ha
     · exact V5 (by simpa using h) x hx
   · rw [if_neg ha] at h; simp at h
theorem Sm {w : Qa} (h : (Qv w).1 = 1 \/ (Qv w).1 = 2) : w ≠ [] /\ ∀ b ∈ w, wordB b = true := by
 obtain ⟨c, r, k, v, rfl, hl, hc⟩ := V3 (w := w) (by omega); rw [hc] at h; refine ⟨by simp, ?_⟩; unfold Qt at hl
 by_cases h1 : Ke c = true
 · rw [if_pos h1] at hl
   split at hl
   · cases hl
   · injection hl with hl; simp only [Prod.mk.injEq] at hl; have := V5 (p := wordB) (l := r) (by omega); intro b hb; rcases List.mem_cons.1 hb with rfl | hb
     · unfold wordB; rw [h1]; rfl
     · exact this b hb
 · rw [if_neg h1] at hl
   by_cases h2 : digitB c = true
   · rw [if_pos h2] at hl
     split at hl
     · cases hl
     · injection hl with hl; simp only [Prod.mk.injEq] at hl; have := V5 (p := digitB) (l := r) (by omega); intro b hb; rcases List.mem_cons.1 hb with rfl | hb
       · unfold wordB; rw [h2]; simp
       · unfold wordB; rw [this b hb]; simp
   · exfalso; rw [if_neg h2] at hl
     split at hl
     · injection hl with hl; simp only [Prod.mk.injEq] at hl; simp only at h; omega
     · split at hl
       · split at hl <;> (injection hl with hl; simp only [Prod.mk.injEq] at hl; simp only at h; omega)
       · split at hl
         · split at hl
           · injection hl with hl; simp only [Prod.mk.injEq] at hl; simp only at h; omega
           · cases hl
         · cases hl
theorem Hc {o c : List UInt8} (ho : ∀ x ∈ o, wordB x = false) (hc : ∀ x ∈ c, wordB x = false) {w : Qa} (h : (Qv w).1 = 1 \/ (Qv w).1 = 2) : Bu o c w := by
 obtain ⟨h1, h2⟩ := Sm h; refine ⟨h1, fun hm => ?_, Or.inr (fun x hx hm => ?_), Or.inr (fun x hx e => ?_)⟩
 · have := h2 32 hm
   revert this; decide
 · have := h2 x hm; rw [ho x hx] at this; cases this
 · have := h2 x (List.mem_of_head? e); rw [hc x hx] at this; cases this
abbrev opN : List UInt8 := [40]
abbrev clN : List UInt8 := [58, 44, 46, 41]
theorem qf3 (r : Qa) : Qt 40 r = .ok (3, 1, 0) := by
 unfold Qt; rw [if_neg (by decide), if_neg (by decide), if_pos (by decide)]
theorem qjp : qb8 (opN.map fun x => [x]) (clN.map fun x => [x]) where
 opn := by
  intro w hw; simp only [List.map_cons, List.map_nil, List.mem_singleton] at hw; subst hw; exact ⟨40, rfl, qf3⟩
 cls := by
  intro w hw; simp only [List.map_cons, List.map_nil, List.mem_cons, List.not_mem_nil, or_false] at hw; rcases hw with rfl | rfl | rfl | rfl
  · exact ⟨58, rfl, by decide, by decide⟩
  · exact ⟨44, rfl, by decide, by decide⟩
  · exact ⟨46, rfl, by decide, by decide⟩
  · exact ⟨41, rfl, by decide, by decide⟩
theorem symR : ∀ w ∈ Pi, Bu opN clN w /\ (Qv w).1 ≠ 0 := by
 intro w hw; unfold Pi at hw; simp only [List.mem_cons, List.not_mem_nil, or_false] at hw; rcases hw with rfl | rfl | rfl | rfl | rfl | rfl | rfl | rfl | rfl | rfl | rfl <;> exact ⟨⟨by decide, by decide, by decide, by decide⟩, by decide⟩
theorem qjd {w : Qa} (h : K9 Pi w) : Bu opN clN w /\ (Qv w).1 ≠ 0 := by
 rcases h with h | h | h
 · exact ⟨Hc (by decide) (by decide) (Or.inl h), by omega⟩
 · exact ⟨Hc (by decide) (by decide) (Or.inr h), by omega⟩
 · exact symR w h
def Yn (p : Qf) : Qa := Vk (opN.map fun x => [x]) (clN.map fun x => [x]) (wP p)
theorem Tn {p : Qf} (hp : Zo p) : Jl opN clN (Ju (wP p)) = Yn p := (Rx (by decide) (by decide) (by decide) (wP p) (fun w hw => (qjd (Mt hp w hw)).1)).1
theorem qc5 {p : Qf} (hp : Zo p) : (∀ ts, Zr (Yn p) = .ok ts -> Qs (wP p) ts) /\ ((∃ ts, Zr (Yn p) = .ok ts) ↔ (Yn p).length <= 20000 /\ (wP p).length <= 5000) /\ (∀ e, Zr (Yn p) = .error e -> e.1 = 2) := Bg qjp (fun w hw => (qjd (Mt hp w hw)).2)
theorem D9 {p : Qf} (hp : Zo p) {ts : List Tok} (h : Zr (Yn p) = .ok ts) : Qu (Yn p) = .ok p := by
 have h1 := (qc5 hp).1 ts h; have h2 := (Kt h).2.1; unfold Qu; rw [h]; simp only []; rw [Ck hp h1 (Yw h2)]; rfl
namespace So
def Qw : List (List UInt8) := [[119, 104, 101, 114, 101], [116, 101, 114, 109], [113, 117, 101, 115, 116, 105, 111, 110], [103, 105, 118, 101, 115], [111, 118, 101, 114, 114, 105, 100, 101, 115], [115, 116, 97, 114, 116, 115], [101, 110, 100, 115], [114, 101, 116, 117, 114, 110, 115], [99, 104, 97, 114, 116, 101, 114], [115, 116, 97, 116, 117, 116, 101], [111, 114, 100, 101, 114], [114, 117, 108, 101], [121, 101, 115], [110, 111], [101, 113, 117, 97, 108], [117, 110, 108, 105, 107, 101], [98, 101, 108, 111, 119], [109, 111, 115, 116], [97, 98, 111, 118, 101], [108, 101, 97, 115, 116], [100, 101, 102, 105, 110, 101, 100], [110, 101, 103, 97, 116, 101, 100], [97, 108, 108], [97, 110, 121], [97, 108, 119, 97, 121, 115], [110, 101, 118, 101, 114], [100, 97, 121], [100, 101, 99, 114, 101, 101], [101, 118, 101, 110, 116], [98, 101, 103, 117, 110], [111, 118, 101, 114]]
def Wq (s : List UInt8) : Bool := Qw.contains s
def Ji (ws : List (List UInt8)) (l : List Tok) : Bool := match l with | [] => false | t :: _ => Yg t && ws.contains t.text
def isF {α : Type} (w : List UInt8) (l : List Tok) (yes no : List Tok -> R α) : R α := if Ji [w] l then yes l.tail else no l
def Q3 (w : List UInt8) (l : List Tok) : R Unit := isF w l (fun r => .ok ((), r)) failR
def X6 (l : List Tok) : Bool := match l with | [] => false | t :: _ => t.kind == 1 && !Wq t.text
def Jb (l : List Tok) : R (List UInt8) :=
 match l with
 | [] => failR []
 | t :: r => if t.kind == 1 && !Wq t.text then .ok (t.text, r) else failR (t :: r)
def Q6 (l : List Tok) : R Nat :=
 match l with
 | [] => failR []
 | t :: r => if t.kind == 2 then .ok (t.n, r) else failR (t :: r)
def Xf (most : Nat) (l : List Tok) : R Nat := Qc (Q6 l) fun v r => if most < v then .error (10, l) else .ok (v, r)
def Zl (ws : List (List UInt8)) (l : List Tok) : R Nat :=
 match l with
 | [] => failR []
 | t :: r => if t.kind == 1 then (match ws.idxOf? t.text with | some i => .ok (i, r) | none => failR (t :: r)) else failR (t :: r)
abbrev Qm := List (Qb × Nat)
def Qx (l : Qm) : Nat := l.foldl (fun d x => max d (x.2 + 1)) 1
def Jo (op k : Nat) (at' : List Tok) (st : Qm) (r : List Tok) : R Qm :=
 if st.length < k then .error (5, at')
 else if 20 < Qx (st.drop (st.length - k)) then .error (2, at')
 else .ok (st.take (st.length - k) ++ [(.mk op [] 0 0 ((st.drop (st.length - k)).map (·.1)), Qx (st.drop (st.length - k)))], r)
def Jv (op : Nat) (at' : List Tok) (st : Qm) (l : List Tok) : R Qm :=
 Qc (Q6 l) fun k r => if k < 2 then .error (5, at') else Jo op k at' st r
def Xc (st : Qm) (t : Qb) (r : List Tok) : R Qm := .ok (st ++ [(t, 1)], r)
def Hj (st : Qm) (s : List UInt8) (r : List Tok) : R Qm :=
 Qc (Xf 1000000 r) fun v r2 => Qc (Zl [[101, 113, 117, 97, 108], [117, 110, 108, 105, 107, 101], [98, 101, 108, 111, 119], [109, 111, 115, 116], [97, 98, 111, 118, 101], [108, 101, 97, 115, 116]] r2) fun c r3 => Xc st (.mk 3 s (1 + c) v []) r3
def Zb (st : Qm) (l : List Tok) : R Qm :=
 isF [121, 101, 115] l (fun r => Xc st (.mk 1 [] 0 0 []) r) fun l =>
 isF [110, 111] l (fun r => Xc st (.mk 2 [] 0 0 []) r) fun l =>
 isF [110, 101, 103, 97, 116, 101, 100] l (fun r => Jo 5 1 l st r) fun l =>
 isF [97, 108, 108] l (fun r => Jv 6 l st r) fun l =>
 isF [97, 110, 121] l (fun r => Jv 7 l st r) fun l =>
 Qc (Jb l) fun s r =>
 isF [100, 101, 102, 105, 110, 101, 100] r (fun r => Xc st (.mk 4 s 0 0 []) r) (Hj st s)
def Q9 (st : Qm) (l : List Tok) : R Qm :=
 isF [97, 108, 119, 97, 121, 115] l (fun r => Xc st (.mk 1 [] 0 0 []) r) fun l =>
 isF [110, 101, 118, 101, 114] l (fun r => Xc st (.mk 2 [] 0 0 []) r) fun l =>
 isF [97, 108, 108] l (fun r => Jv 8 l st r) fun l =>
 isF [97, 110, 121] l (fun r => Jv 9 l st r) fun l =>
 if (l.head?.any fun t => t.kind == 2) then Qc (Xf 1000000 l) fun v r => Qc (Q3 [100, 97, 121] r) fun _ r => Xc st (.mk 3 [] 0 v []) r
 else Qc (Jb l) fun s r => Qc (Zl [[100, 101, 99, 114, 101, 101], [101, 118, 101, 110, 116], [98, 101, 103, 117, 110], [111, 118, 101, 114]] r) fun c r => Xc st (.mk (4 + c) s 0 0 []) r
def Zv (l : List Tok) : Bool := X6 l || Ji [[121, 101, 115], [110, 111], [110, 101, 103, 97, 116, 101, 100], [97, 108, 108], [97, 110, 121]] l
def Zg (l : List Tok) : Bool := X6 l || Ji [[97, 108, 119, 97, 121, 115], [110, 101, 118, 101, 114], [97, 108, 108], [97, 110, 121]] l || (l.head?.any fun t => t.kind == 2)
def Zh (begins : List Tok -> Bool) (item : Qm -> List Tok -> R Qm) : Nat -> Qm -> List Tok -> R Qm
 | 0, _, l => .error (0, l)
 | f + 1, st, l =>
   if Ji [[125]] l then .ok (st, l)
   else if begins l then (if f = 0 then .error (2, l) else Qc (item st l) fun st r => Zh begins item f st r)
   else failR l
def Hh (st : Qm) (l : List Tok) : R Qb := match st with | [x] => Qc (Q3 [125] l) fun _ r => .ok (x.1, r) | _ => failR l
def Wl (begins : List Tok -> Bool) (item : Qm -> List Tok -> R Qm) (l : List Tok) : R Qb :=
 Qc (Q3 [123] l) fun _ r => Qc (Zh begins item 201 [] r) Hh
def Zc : List Tok -> R Qb := Wl Zv Zb
def Jk : List Tok -> R Qb := Wl Zg Q9
def Js {α : Type} (l : List Tok) (e : Nat) (x : R α) : R α := if e = 0 then x else .error (e, l)
def Xv (out : List (List UInt8)) (s : List UInt8) : Nat := if out.contains s then 9 else if out.length = 20 then 2 else 0
def Ql : Nat -> List (List UInt8) -> List Tok -> R (List (List UInt8))
 | 0, _, l => .error (0, l)
 | n + 1, out, l => Qc (Jb l) fun s r => Js l (Xv out s) <| isF [41] r (fun r => .ok (out ++ [s], r)) fun r => Ql n (out ++ [s]) r
def Kx (l : List Tok) : R (List (List UInt8)) := Qc (Q3 [40] l) fun _ r => Ql 22 [] r
def H8 {α : Type} (w : List UInt8) (d : α) (p : List Tok -> R α) (l : List Tok) : R α := isF w l p fun r => .ok (d, r)
def Vq (op : Nat) : Qb := .mk op [] 0 0 []
def K3 (l : List Tok) : R (Nat × List UInt8 × Nat) :=
 isF [116, 101, 114, 109] l (fun r => Qc (Jb r) fun s r => .ok ((1, s, 0), r)) fun l =>
 Qc (Q3 [113, 117, 101, 115, 116, 105, 111, 110] l) fun _ r => Qc (Jb r) fun s r => Qc (Q3 [103, 105, 118, 101, 115] r) fun _ r => Qc (Xf 1000000 r) fun v r => .ok ((2, s, v), r)
def Qk (l : List Tok) : R Qf :=
 Qc (H8 [119, 104, 101, 114, 101] (Vq 1) Zc l) fun cond r1 =>
 Qc (K3 r1) fun k r2 =>
 Qc (H8 [111, 118, 101, 114, 114, 105, 100, 101, 115] [] Kx r2) fun exc r3 =>
 Qc (H8 [115, 116, 97, 114, 116, 115] (Vq 1) Jk r3) fun beg r4 =>
 Qc (H8 [101, 110, 100, 115] (Vq 2) Jk r4) fun fin r5 =>
 Qc (H8 [114, 101, 116, 117, 114, 110, 115] (Vq 2) Jk r5) fun aga r6 =>
 Qc (Q3 [91] r6) fun _ r7 =>
 Qc (Zl [[99, 104, 97, 114, 116, 101, 114], [115, 116, 97, 116, 117, 116, 101], [111, 114, 100, 101, 114], [114, 117, 108, 101]] r7) fun rank r8 =>
 Qc (Jb r8) fun id r9 =>
 Qc (Q3 [93] r9) fun _ bL =>
 .ok (⟨id, 1 + rank, k.1, k.2.1, k.2.2, cond, exc, beg, fin, aga⟩, bL)
def Q4 {α : Type} (p : R α) : R α := Qc p fun x r => match r with | [] => .ok (x, []) | _ :: _ => failR r
def Xd (fin : Nat) (l : List Tok) : Nat := match l with | [] => fin | t :: _ => t.pos
def pr (l : List Tok) : R Qf := Q4 (Qk l)
def Qu (l : List UInt8) : Except (Nat × Int) Qf :=
 match Zr l with
 | .error e => .error e
 | .ok ts => match pr ts with
   | .error (e, s) => .error (e, Xd l.length s)
   | .ok (p, _) => .ok p
end So
