/- The reference's text in the first language, bit by bit: the same one. The reference's text in the second language, bit by bit: the same one. -/
import Derived.Test.YtbicmjmcdnkjhaaGreatDoorJP12
set_option linter.unusedVariables false
set_option linter.unusedSimpArgs false
namespace Go.Proofs.YtbicmjmcdnkjhaaGreatDoor
abbrev oN : List Bytes := opN.map fun x => [x]
abbrev cN : List Bytes := clN.map fun x => [x]
def wrapB (b : Bool) (k : Tree) (oa oo : Nat) (s : Bytes) : Bytes := if k.op = oo ∨ (k.op = oa ∧ b = false) then 40 :: (s ++ [41]) else s
mutual
def rF : Tree → Bytes
  | .mk op name cmp n ks =>
    if op = 1 then [116, 114, 117, 101] else if op = 2 then [102, 97, 108, 115, 101]
    else if op = 3 then name ++ 32 :: (signs.getD (cmp - 1) [] ++ 32 :: dec n) else if op = 4 then name
    else if op = 5 then [110, 111, 116, 32] ++ (rFs false ks).headD []
    else if op = 6 then joinT' [32, 97, 110, 100, 32] (rFs false ks) else joinT' [32, 111, 114, 32] (rFs true ks)
def rFs (b : Bool) : List Tree → List Bytes
  | [] => []
  | k :: r => wrapB b k 6 7 (rF k) :: rFs b r
end
mutual
def rS : Tree → Bytes
  | .mk op name cmp n ks =>
    if op = 1 then [97, 108, 119, 97, 121, 115] else if op = 2 then [110, 101, 118, 101, 114]
    else if op = 3 then [100, 97, 121, 32] ++ dec n else if op = 4 ∨ op = 5 ∨ op = 6 ∨ op = 7 then startW.getD op [] ++ 32 :: name
    else if op = 8 then joinT' [32, 97, 110, 100, 32] (rSs false ks) else joinT' [32, 111, 114, 32] (rSs true ks)
def rSs (b : Bool) : List Tree → List Bytes
  | [] => []
  | k :: r => wrapB b k 8 9 (rS k) :: rSs b r
end
theorem fit_name {s : Bytes} (h : (coreW s).1 = 1) {op cl : List Bytes} (ho : ∀ w ∈ op, (coreW w).1 ≠ 1) (hc : ∀ w ∈ cl, (coreW w).1 ≠ 1) : s ∉ cl ∧ s ∉ op := ⟨fun hm => hc s hm h, fun hm => ho s hm h⟩
theorem fit_num {n : Nat} (h : n ≤ 1000000) {op cl : List Bytes} (ho : ∀ w ∈ op, (coreW w).1 ≠ 2) (hc : ∀ w ∈ cl, (coreW w).1 ≠ 2) : dec n ∉ cl ∧ dec n ∉ op := by
  have h2 : (coreW (dec n)).1 = 2 := by rw [dec_core (by omega)]
  exact ⟨fun hm => hc _ hm h2, fun hm => ho _ hm h2⟩
theorem oN_1 : ∀ w ∈ oN, (coreW w).1 ≠ 1 := by decide
theorem cN_1 : ∀ w ∈ cN, (coreW w).1 ≠ 1 := by decide
theorem oN_2 : ∀ w ∈ oN, (coreW w).1 ≠ 2 := by decide
theorem cN_2 : ∀ w ∈ cN, (coreW w).1 ≠ 2 := by decide
theorem okName {s : Bytes} (h : nameOk s = true) : (coreW s).1 = 1 := by
  unfold nameOk at h
  rw [Bool.and_eq_true] at h
  simpa using h.1
theorem fitN {s : Bytes} (h : nameOk s = true) : s ∉ cN ∧ s ∉ oN := fit_name (okName h) oN_1 cN_1
theorem fitD {n : Nat} (h : n ≤ 1000000) : dec n ∉ cN ∧ dec n ∉ oN := fit_num h oN_2 cN_2
theorem Fit.cons {op cl : List Bytes} {w : Bytes} {W : List Bytes} (h1 : w ∉ cl) (h2 : w ∉ op) (h : Fit op cl W) : Fit op cl (w :: W) := (Fit.one h1 h2).app h
theorem glue_cons {op cl : List Bytes} {w : Bytes} {W : List Bytes} (h2 : w ∉ op) (h : ∃ b r, W = b :: r ∧ b ∉ cl) : glue op cl (w :: W) = w ++ 32 :: glue op cl W := glue_sp ⟨[], w, rfl, h2⟩ h
/- a kid, in brackets or not -/
theorem wrap_fit {b : Bool} {k : Tree} {oa oo : Nat} {W : List Bytes} (h : Fit oN cN W) : Fit oN cN (wrapW b k oa oo W) ∧ glue oN cN (wrapW b k oa oo W) = wrapB b k oa oo (glue oN cN W) := by
  unfold wrapW wrapB
  split
  · have hne : W ≠ [] := by
      obtain ⟨⟨a, r, rfl, _⟩, -⟩ := h
      simp
    exact ⟨⟨⟨wLp, W ++ [wRp], rfl, by decide⟩, wLp :: W, wRp, rfl, by decide⟩, glue_wrap hne (by decide) (by decide)⟩
  · exact ⟨h, rfl⟩
theorem rF_eq : ∀ (s : Nat) (t : Tree), t.size ≤ s → okF t = true → Fit oN cN (wF t) ∧ glue oN cN (wF t) = rF t
  | 0, t, h, _ => by have := tree_pos t; omega
  | s + 1, .mk op name cmp n ks, hs, hok => by
    rw [okF] at hok
    simp only [Bool.and_eq_true] at hok
    obtain ⟨⟨⟨h1, h2⟩, h3⟩, h4⟩ := hok
    rw [Tree.size] at hs
    have hk := okFs_all h4
    have ih : ∀ b, ∀ k ∈ ks, Fit oN cN (wrapW b k 6 7 (wF k)) ∧ glue oN cN (wrapW b k 6 7 (wF k)) = wrapB b k 6 7 (rF k) := fun b k hm => by
      obtain ⟨a1, a2⟩ := rF_eq s k (by have := kid_size hm; omega) (hk k hm)
      obtain ⟨b1, b2⟩ := wrap_fit (b := b) (k := k) (oa := 6) (oo := 7) a1
      exact ⟨b1, by rw [b2, a2]⟩
    have hmap : ∀ b, ∀ l : List Tree, (∀ k ∈ l, k ∈ ks) → (wFs b l).map (glue oN cN) = rFs b l := fun b l => by
      induction l with
      | nil => intro _; rfl
      | cons k r ihl =>
        intro hl
        rw [wFs, rFs, List.map_cons, ihl fun x hx => hl x (by simp [hx]), (ih b k (hl k (by simp))).2]
    have hfit : ∀ b, ∀ a ∈ wFs b ks, Fit oN cN a := fun b a ha => by
      rw [wFs_map] at ha
      obtain ⟨k, hm, rfl⟩ := List.mem_map.1 ha
      exact (ih b k hm).1
    have hne : ∀ b, ks ≠ [] → wFs b ks ≠ [] := fun b h => by
      cases ks with
      | nil => exact absurd rfl h
      | cons k r => rw [wFs]; simp
    rw [wF, rF]
    by_cases o1 : op = 1
    · rw [if_pos o1, if_pos o1]; exact ⟨Fit.one (by decide) (by decide), rfl⟩
    by_cases o2 : op = 2
    · rw [if_neg o1, if_neg o1, if_pos o2, if_pos o2]; exact ⟨Fit.one (by decide) (by decide), rfl⟩
    by_cases o3 : op = 3
    · rw [if_neg o1, if_neg o1, if_neg o2, if_neg o2, if_pos o3, if_pos o3]
      rw [if_pos o3] at h1
      rw [if_pos (Or.inl o3)] at h2
      simp only [Bool.and_eq_true, decide_eq_true_eq] at h1
      obtain ⟨n1, n2⟩ := fitN h2
      obtain ⟨d1, d2⟩ := fitD h1.2
      have hc : signs.getD (cmp - 1) [] ∉ cN ∧ signs.getD (cmp - 1) [] ∉ oN := by
        have : cmp = 1 ∨ cmp = 2 ∨ cmp = 3 ∨ cmp = 4 ∨ cmp = 5 ∨ cmp = 6 := by omega
        rcases this with rfl | rfl | rfl | rfl | rfl | rfl <;> exact ⟨by decide, by decide⟩
      refine ⟨Fit.cons n1 n2 (Fit.cons hc.1 hc.2 (Fit.one d1 d2)), ?_⟩
      rw [glue_cons n2 ⟨_, _, rfl, hc.1⟩, glue_cons hc.2 ⟨_, _, rfl, d1⟩]
      rfl
    by_cases o4 : op = 4
    · rw [if_neg o1, if_neg o1, if_neg o2, if_neg o2, if_neg o3, if_neg o3, if_pos o4, if_pos o4]
      rw [if_pos (Or.inr o4)] at h2
      exact ⟨Fit.one (fitN h2).1 (fitN h2).2, rfl⟩
    rw [if_neg (by omega)] at h3
    by_cases o5 : op = 5
    · rw [if_neg o1, if_neg o1, if_neg o2, if_neg o2, if_neg o3, if_neg o3, if_neg o4, if_neg o4, if_pos o5, if_pos o5]
      rw [if_pos o5] at h3
      have hl : ks.length = 1 := by simpa using h3
      obtain ⟨k, rfl⟩ : ∃ k, ks = [k] := by
        match ks, hl with
        | [k], _ => exact ⟨k, rfl⟩
      obtain ⟨a1, a2⟩ := ih false k (by simp)
      rw [wFs, wFs, rFs, rFs]
      simp only [List.flatten_cons, List.flatten_nil, List.append_nil, List.headD_cons]
      refine ⟨Fit.cons (by decide) (by decide) a1, ?_⟩
      rw [glue_cons (by decide) a1.1, a2]
      rfl
    rw [if_neg o5] at h3
    have h67 : op = 6 ∨ op = 7 := by
      by_cases h : op = 6 ∨ op = 7
      · exact h
      · rw [if_neg h] at h3; cases h3
    rw [if_pos h67] at h3
    have hl : 2 ≤ ks.length := by simpa using h3
    have hks : ks ≠ [] := by rintro rfl; simp at hl
    by_cases o6 : op = 6
    · rw [if_neg o1, if_neg o1, if_neg o2, if_neg o2, if_neg o3, if_neg o3, if_neg o4, if_neg o4, if_neg o5, if_neg o5, if_pos o6, if_pos o6]
      refine ⟨fit_sep (by decide) (by decide) (hne _ hks) (hfit false), ?_⟩
      rw [glue_sep (by decide) (by decide) (hfit false), hmap false ks fun _ h => h]
      rfl
    · have o7 : op = 7 := by omega
      rw [if_neg o1, if_neg o1, if_neg o2, if_neg o2, if_neg o3, if_neg o3, if_neg o4, if_neg o4, if_neg o5, if_neg o5, if_neg o6, if_neg o6, if_pos o7]
      refine ⟨fit_sep (by decide) (by decide) (hne _ hks) (hfit true), ?_⟩
      rw [glue_sep (by decide) (by decide) (hfit true), hmap true ks fun _ h => h]
      rfl
theorem rS_eq : ∀ (s : Nat) (t : Tree), t.size ≤ s → okS t = true → Fit oN cN (wS t) ∧ glue oN cN (wS t) = rS t
  | 0, t, h, _ => by have := tree_pos t; omega
  | s + 1, .mk op name cmp n ks, hs, hok => by
    rw [okS] at hok
    simp only [Bool.and_eq_true] at hok
    obtain ⟨⟨⟨h1, h2⟩, h3⟩, h4⟩ := hok
    rw [Tree.size] at hs
    have hk := okSs_all h4
    have ih : ∀ b, ∀ k ∈ ks, Fit oN cN (wrapW b k 8 9 (wS k)) ∧ glue oN cN (wrapW b k 8 9 (wS k)) = wrapB b k 8 9 (rS k) := fun b k hm => by
      obtain ⟨a1, a2⟩ := rS_eq s k (by have := kid_size hm; omega) (hk k hm)
      obtain ⟨b1, b2⟩ := wrap_fit (b := b) (k := k) (oa := 8) (oo := 9) a1
      exact ⟨b1, by rw [b2, a2]⟩
    have hmap : ∀ b, ∀ l : List Tree, (∀ k ∈ l, k ∈ ks) → (wSs b l).map (glue oN cN) = rSs b l := fun b l => by
      induction l with
      | nil => intro _; rfl
      | cons k r ihl =>
        intro hl
        rw [wSs, rSs, List.map_cons, ihl fun x hx => hl x (by simp [hx]), (ih b k (hl k (by simp))).2]
    have hfit : ∀ b, ∀ a ∈ wSs b ks, Fit oN cN a := fun b a ha => by
      rw [wSs_map] at ha
      obtain ⟨k, hm, rfl⟩ := List.mem_map.1 ha
      exact (ih b k hm).1
    have hne : ∀ b, ks ≠ [] → wSs b ks ≠ [] := fun b h => by
      cases ks with
      | nil => exact absurd rfl h
      | cons k r => rw [wSs]; simp
    rw [wS, rS]
    by_cases o1 : op = 1
    · rw [if_pos o1, if_pos o1]; exact ⟨Fit.one (by decide) (by decide), rfl⟩
    by_cases o2 : op = 2
    · rw [if_neg o1, if_neg o1, if_pos o2, if_pos o2]; exact ⟨Fit.one (by decide) (by decide), rfl⟩
    by_cases o3 : op = 3
    · rw [if_neg o1, if_neg o1, if_neg o2, if_neg o2, if_pos o3, if_pos o3]
      have hn0 : n ≤ 1000000 := by have := h1.2; rw [if_pos o3] at this; simpa using this
      obtain ⟨d1, d2⟩ := fitD hn0
      refine ⟨Fit.cons (by decide) (by decide) (Fit.one d1 d2), ?_⟩
      rw [glue_cons (by decide) ⟨_, _, rfl, d1⟩]
      rfl
    by_cases o4 : op = 4 ∨ op = 5 ∨ op = 6 ∨ op = 7
    · rw [if_neg o1, if_neg o1, if_neg o2, if_neg o2, if_neg o3, if_neg o3, if_pos o4, if_pos o4]
      rw [if_pos o4] at h2
      obtain ⟨n1, n2⟩ := fitN h2
      have hc : startW.getD op [] ∉ cN ∧ startW.getD op [] ∉ oN := by
        rcases o4 with rfl | rfl | rfl | rfl <;> exact ⟨by decide, by decide⟩
      refine ⟨Fit.cons hc.1 hc.2 (Fit.one n1 n2), ?_⟩
      rw [glue_cons hc.2 ⟨_, _, rfl, n1⟩]
      rfl
    have h89 : op = 8 ∨ op = 9 := by
      by_cases h : op = 8 ∨ op = 9
      · exact h
      · rw [if_neg h] at h3
        split at h3
        · omega
        · cases h3
    rw [if_pos h89] at h3
    have hl : 2 ≤ ks.length := by simpa using h3
    have hks : ks ≠ [] := by rintro rfl; simp at hl
    by_cases o8 : op = 8
    · rw [if_neg o1, if_neg o1, if_neg o2, if_neg o2, if_neg o3, if_neg o3, if_neg o4, if_neg o4, if_pos o8, if_pos o8]
      refine ⟨fit_sep (by decide) (by decide) (hne _ hks) (hfit false), ?_⟩
      rw [glue_sep (by decide) (by decide) (hfit false), hmap false ks fun _ h => h]
      rfl
    · have o9 : op = 9 := by omega
      rw [if_neg o1, if_neg o1, if_neg o2, if_neg o2, if_neg o3, if_neg o3, if_neg o4, if_neg o4, if_neg o8, if_neg o8, if_pos o9]
      refine ⟨fit_sep (by decide) (by decide) (hne _ hks) (hfit true), ?_⟩
      rw [glue_sep (by decide) (by decide) (hfit true), hmap true ks fun _ h => h]
      rfl
/- a part put behind -/
theorem part_acc {op cl : List Bytes} {A l : List Bytes} {w : Bytes} {b : Bool} (hA : Fit op cl A) (h1 : w ∉ cl) (h2 : w ∉ op) (hl : b = true → Fit op cl l) : Fit op cl (A ++ partW b w l) ∧ glue op cl (A ++ partW b w l) = glue op cl A ++ (if b = true then 32 :: (w ++ 32 :: glue op cl l) else []) := by
  unfold partW
  cases b with
  | true =>
    simp only [if_true]
    have hw := Fit.cons h1 h2 (hl rfl)
    refine ⟨hA.app hw, ?_⟩
    rw [glue_sp hA.2 hw.1, glue_cons h2 (hl rfl).1]
  | false => simp only [Bool.false_eq_true, if_false, List.append_nil]; exact ⟨hA, trivial⟩
/- names with commas -/
theorem comma_glue : ∀ {l : List Bytes}, l ≠ [] → (∀ s ∈ l, s ∉ cN ∧ s ∉ oN) → Fit oN cN (sepW wComma (l.map fun s => [s])) ∧ glue oN cN (sepW wComma (l.map fun s => [s])) = joinT' [44, 32] l
  | [], h, _ => absurd rfl h
  | [a], _, h => ⟨Fit.one (h a (by simp)).1 (h a (by simp)).2, rfl⟩
  | a :: b :: r, _, h => by
    obtain ⟨i1, i2⟩ := comma_glue (l := b :: r) (by simp) fun x hx => h x (by simp at hx ⊢; right; exact hx)
    obtain ⟨a1, a2⟩ := h a (by simp)
    rw [show sepW wComma ((a :: b :: r).map fun s => [s]) = [a] ++ wComma :: sepW wComma ((b :: r).map fun s => [s]) from rfl]
    constructor
    · obtain ⟨-, i, z, e, hz⟩ := i1
      exact ⟨⟨a, _, rfl, a1⟩, a :: wComma :: i, z, by rw [e]; rfl, hz⟩
    · rw [glue_tightE (by simp) (by decide), glue_cons (by decide) i1.1, i2]
      rfl
def rText (p : Prov) : Bytes :=
  ranksN.getD (p.rank - 1) [] ++ 32 :: (p.id ++ [58, 32]) ++ (if p.kind = 1 then [100, 101, 102, 105, 110, 101, 32] ++ p.name else [97, 110, 115, 119, 101, 114, 32] ++ (p.name ++ ([32, 105, 115, 32] ++ dec p.value)))
  ++ (if (p.cond.op != 1) = true then [32, 105, 102, 32] ++ rF p.cond else [])
  ++ (if p.exc = [] then [] else [32, 110, 111, 116, 119, 105, 116, 104, 115, 116, 97, 110, 100, 105, 110, 103, 32] ++ joinT' [44, 32] p.exc)
  ++ (if (p.beg.op != 1) = true then [32, 102, 114, 111, 109, 32] ++ rS p.beg else [])
  ++ (if (p.fin.op != 2) = true then [32, 117, 110, 116, 105, 108, 32] ++ rS p.fin else [])
  ++ (if (p.aga.op != 2) = true then [32, 97, 103, 97, 105, 110, 32] ++ rS p.aga else [])
  ++ [46]
theorem text_north {p : Prov} (hp : WriteOk p) : textN p = rText p := by
  have hr : ranksN.getD (p.rank - 1) [] ∉ cN ∧ ranksN.getD (p.rank - 1) [] ∉ oN := by
    have := hp.rank
    have : p.rank = 1 ∨ p.rank = 2 ∨ p.rank = 3 ∨ p.rank = 4 := by omega
    rcases this with h | h | h | h <;> rw [h] <;> exact ⟨by decide, by decide⟩
  obtain ⟨i1, i2⟩ := fitN hp.id
  obtain ⟨n1, n2⟩ := fitN hp.name
  obtain ⟨v1, v2⟩ := fitD hp.value
  have hk : Fit oN cN (kindW p) ∧ glue oN cN (kindW p) = (if p.kind = 1 then [100, 101, 102, 105, 110, 101, 32] ++ p.name else [97, 110, 115, 119, 101, 114, 32] ++ (p.name ++ ([32, 105, 115, 32] ++ dec p.value))) := by
    unfold kindW
    split
    · refine ⟨Fit.cons (by decide) (by decide) (Fit.one n1 n2), ?_⟩
      rw [glue_cons (by decide) ⟨_, _, rfl, n1⟩]
      rfl
    · refine ⟨Fit.cons (by decide) (by decide) (Fit.cons n1 n2 (Fit.cons (by decide) (by decide) (Fit.one v1 v2))), ?_⟩
      rw [glue_cons (by decide) ⟨_, _, rfl, n1⟩, glue_cons n2 ⟨_, _, rfl, by decide⟩, glue_cons (by decide) ⟨_, _, rfl, v1⟩]
      rfl
  obtain ⟨k1, k2⟩ := hk
  have h0 : Fit oN cN (ranksN.getD (p.rank - 1) [] :: p.id :: [58] :: kindW p) ∧ glue oN cN (ranksN.getD (p.rank - 1) [] :: p.id :: [58] :: kindW p) = ranksN.getD (p.rank - 1) [] ++ 32 :: (p.id ++ [58, 32]) ++ glue oN cN (kindW p) := by
    constructor
    · obtain ⟨-, i, z, e, hz⟩ := k1
      exact ⟨⟨_, _, rfl, hr.1⟩, ranksN.getD (p.rank - 1) [] :: p.id :: [58] :: i, z, by rw [e]; rfl, hz⟩
    · rw [glue_cons hr.2 ⟨_, _, rfl, i1⟩]
      rw [show p.id :: [58] :: kindW p = [p.id] ++ [58] :: kindW p from rfl, glue_tightE (by simp) (by decide), glue_cons (by decide) k1.1]
      simp only [glue, List.append_assoc, List.cons_append, List.nil_append]
  obtain ⟨a1, e1⟩ := h0
  obtain ⟨f1, f2⟩ := rF_eq _ p.cond (Nat.le_refl _) hp.cond
  obtain ⟨b1, b2⟩ := rS_eq _ p.beg (Nat.le_refl _) hp.beg
  obtain ⟨g1, g2⟩ := rS_eq _ p.fin (Nat.le_refl _) hp.fin
  obtain ⟨h1, h2⟩ := rS_eq _ p.aga (Nat.le_refl _) hp.aga
  obtain ⟨a2, e2⟩ := part_acc (b := p.cond.op != 1) (w := wIf) (l := wF p.cond) a1 (by decide) (by decide) fun _ => f1
  have hx : Fit oN cN ((ranksN.getD (p.rank - 1) [] :: p.id :: [58] :: kindW p) ++ partW (p.cond.op != 1) wIf (wF p.cond) ++ excW p.exc) ∧ glue oN cN ((ranksN.getD (p.rank - 1) [] :: p.id :: [58] :: kindW p) ++ partW (p.cond.op != 1) wIf (wF p.cond) ++ excW p.exc) = glue oN cN ((ranksN.getD (p.rank - 1) [] :: p.id :: [58] :: kindW p) ++ partW (p.cond.op != 1) wIf (wF p.cond)) ++ (if p.exc = [] then [] else [32, 110, 111, 116, 119, 105, 116, 104, 115, 116, 97, 110, 100, 105, 110, 103, 32] ++ joinT' [44, 32] p.exc) := by
    unfold excW
    split
    · simp only [List.append_nil]; exact ⟨a2, trivial⟩
    · rename_i hne
      obtain ⟨c1, c2⟩ := comma_glue hne fun s hs => fitN (hp.exc s hs)
      have hw : Fit oN cN (wNot2 :: sepW wComma (p.exc.map fun s => [s])) := Fit.cons (by decide) (by decide) c1
      refine ⟨a2.app hw, ?_⟩
      rw [glue_sp a2.2 hw.1, glue_cons (by decide) c1.1, c2]
      rfl
  obtain ⟨a3, e3⟩ := hx
  obtain ⟨a4, e4⟩ := part_acc (b := p.beg.op != 1) (w := wFrom) (l := wS p.beg) a3 (by decide) (by decide) fun _ => b1
  obtain ⟨a5, e5⟩ := part_acc (b := p.fin.op != 2) (w := wUntil) (l := wS p.fin) a4 (by decide) (by decide) fun _ => g1
  obtain ⟨a6, e6⟩ := part_acc (b := p.aga.op != 2) (w := wAgain) (l := wS p.aga) a5 (by decide) (by decide) fun _ => h1
  have hP : wP p = ((ranksN.getD (p.rank - 1) [] :: p.id :: [58] :: kindW p) ++ partW (p.cond.op != 1) wIf (wF p.cond) ++ excW p.exc ++ partW (p.beg.op != 1) wFrom (wS p.beg) ++ partW (p.fin.op != 2) wUntil (wS p.fin) ++ partW (p.aga.op != 2) wAgain (wS p.aga)) ++ wDot :: [] := by
    unfold wP tail0 tail1 tail2 tail3
    simp only [List.append_assoc, List.cons_append]
  unfold textN
  show glue oN cN (wP p) = _
  rw [hP, glue_tightE (by simp) (by decide), e6, e5, e4, e3, e2, e1, k2, f2, b2, g2, h2]
  rfl
end Go.Proofs.YtbicmjmcdnkjhaaGreatDoor
namespace Go.Proofs.YtbicmjmcdnkjhaaGreatDoor
namespace So
abbrev oS : List Bytes := opS'.map fun x => [x]
abbrev cS : List Bytes := clS'.map fun x => [x]
mutual
def rF : Tree → Bytes
  | .mk op name cmp n ks =>
    if op = 1 then [121, 101, 115] else if op = 2 then [110, 111]
    else if op = 3 then name ++ 32 :: (dec n ++ 32 :: cmpW.getD (cmp - 1) []) else if op = 4 then name ++ [32, 100, 101, 102, 105, 110, 101, 100]
    else rFs ks ++ (if op = 5 then [110, 101, 103, 97, 116, 101, 100] else if op = 6 then [97, 108, 108, 32] ++ dec ks.length else [97, 110, 121, 32] ++ dec ks.length)
def rFs : List Tree → Bytes
  | [] => []
  | k :: r => rF k ++ 32 :: rFs r
end
mutual
def rS : Tree → Bytes
  | .mk op name cmp n ks =>
    if op = 1 then [97, 108, 119, 97, 121, 115] else if op = 2 then [110, 101, 118, 101, 114]
    else if op = 3 then dec n ++ [32, 100, 97, 121] else if op = 4 ∨ op = 5 ∨ op = 6 ∨ op = 7 then name ++ 32 :: opsW.getD (op - 4) []
    else rSs ks ++ (if op = 8 then [97, 108, 108, 32] ++ dec ks.length else [97, 110, 121, 32] ++ dec ks.length)
def rSs : List Tree → Bytes
  | [] => []
  | k :: r => rS k ++ 32 :: rSs r
end
theorem oS_1 : ∀ w ∈ oS, (coreW w).1 ≠ 1 := by decide
theorem cS_1 : ∀ w ∈ cS, (coreW w).1 ≠ 1 := by decide
theorem oS_2 : ∀ w ∈ oS, (coreW w).1 ≠ 2 := by decide
theorem cS_2 : ∀ w ∈ cS, (coreW w).1 ≠ 2 := by decide
theorem okName {s : Bytes} (h : nameOk s = true) : (coreW s).1 = 1 := by
  unfold nameOk at h
  rw [Bool.and_eq_true] at h
  simpa using h.1
theorem fitN {s : Bytes} (h : nameOk s = true) : s ∉ cS ∧ s ∉ oS := fit_name (okName h) oS_1 cS_1
theorem fitD {n : Nat} (h : n ≤ 1000000) : dec n ∉ cS ∧ dec n ∉ oS := fit_num h oS_2 cS_2
theorem kidsF {W : List Bytes} (hW : Fit oS cS W) : ∀ {ks : List Tree}, (∀ k ∈ ks, Fit oS cS (wF k) ∧ glue oS cS (wF k) = rF k) → Fit oS cS (wFs ks ++ W) ∧ glue oS cS (wFs ks ++ W) = rFs ks ++ glue oS cS W
  | [], _ => by rw [wFs, rFs]; exact ⟨hW, rfl⟩
  | k :: r, h => by
    obtain ⟨a1, a2⟩ := h k (by simp)
    obtain ⟨b1, b2⟩ := kidsF hW (ks := r) fun x hx => h x (by simp [hx])
    rw [wFs, rFs, List.append_assoc]
    refine ⟨a1.app b1, ?_⟩
    rw [glue_sp a1.2 b1.1, a2, b2]
    simp only [List.append_assoc, List.cons_append]
theorem kidsS {W : List Bytes} (hW : Fit oS cS W) : ∀ {ks : List Tree}, (∀ k ∈ ks, Fit oS cS (wS k) ∧ glue oS cS (wS k) = rS k) → Fit oS cS (wSs ks ++ W) ∧ glue oS cS (wSs ks ++ W) = rSs ks ++ glue oS cS W
  | [], _ => by rw [wSs, rSs]; exact ⟨hW, rfl⟩
  | k :: r, h => by
    obtain ⟨a1, a2⟩ := h k (by simp)
    obtain ⟨b1, b2⟩ := kidsS hW (ks := r) fun x hx => h x (by simp [hx])
    rw [wSs, rSs, List.append_assoc]
    refine ⟨a1.app b1, ?_⟩
    rw [glue_sp a1.2 b1.1, a2, b2]
    simp only [List.append_assoc, List.cons_append]
theorem rF_eq : ∀ (s : Nat) (t : Tree), t.size ≤ s → s ≤ 1000000 → okF t = true → Fit oS cS (wF t) ∧ glue oS cS (wF t) = rF t
  | 0, t, h, _, _ => by have := tree_pos t; omega
  | s + 1, .mk op name cmp n ks, hs, hm, hok => by
    rw [okF] at hok
    simp only [Bool.and_eq_true] at hok
    obtain ⟨⟨⟨h1, h2⟩, h3⟩, h4⟩ := hok
    rw [Tree.size] at hs
    have hk := okFs_all h4
    have ih : ∀ k ∈ ks, Fit oS cS (wF k) ∧ glue oS cS (wF k) = rF k := fun k hmm => rF_eq s k (by have := kid_size hmm; omega) (by omega) (hk k hmm)
    have hlen := kids_len ks
    obtain ⟨l1, l2⟩ := fitD (n := ks.length) (by omega)
    rw [wF, rF]
    by_cases hleaf : op = 1 ∨ op = 2 ∨ op = 3 ∨ op = 4
    · rw [if_pos hleaf] at h3
      have : ks = [] := by simpa using h3
      subst this
      rw [wFs, List.nil_append]
      by_cases o1 : op = 1
      · rw [if_pos o1, if_pos o1]; exact ⟨Fit.one (by decide) (by decide), rfl⟩
      by_cases o2 : op = 2
      · rw [if_neg o1, if_neg o1, if_pos o2, if_pos o2]; exact ⟨Fit.one (by decide) (by decide), rfl⟩
      by_cases o3 : op = 3
      · rw [if_neg o1, if_neg o1, if_neg o2, if_neg o2, if_pos o3, if_pos o3]
        rw [if_pos o3] at h1
        rw [if_pos (Or.inl o3)] at h2
        simp only [Bool.and_eq_true, decide_eq_true_eq] at h1
        obtain ⟨n1, n2⟩ := fitN h2
        obtain ⟨d1, d2⟩ := fitD h1.2
        have hc : cmpW.getD (cmp - 1) [] ∉ cS ∧ cmpW.getD (cmp - 1) [] ∉ oS := by
          have : cmp = 1 ∨ cmp = 2 ∨ cmp = 3 ∨ cmp = 4 ∨ cmp = 5 ∨ cmp = 6 := by omega
          rcases this with rfl | rfl | rfl | rfl | rfl | rfl <;> exact ⟨by decide, by decide⟩
        refine ⟨Fit.cons n1 n2 (Fit.cons d1 d2 (Fit.one hc.1 hc.2)), ?_⟩
        rw [glue_cons n2 ⟨_, _, rfl, d1⟩, glue_cons d2 ⟨_, _, rfl, hc.1⟩]
        rfl
      · have o4 : op = 4 := by omega
        rw [if_neg o1, if_neg o1, if_neg o2, if_neg o2, if_neg o3, if_neg o3, if_pos o4, if_pos o4]
        rw [if_pos (Or.inr o4)] at h2
        obtain ⟨n1, n2⟩ := fitN h2
        refine ⟨Fit.cons n1 n2 (Fit.one (by decide) (by decide)), ?_⟩
        rw [glue_cons n2 ⟨_, _, rfl, by decide⟩]
        rfl
    · rw [if_neg hleaf] at h3
      have o1 : op ≠ 1 := by omega
      have o2 : op ≠ 2 := by omega
      have o3 : op ≠ 3 := by omega
      have o4 : op ≠ 4 := by omega
      rw [if_neg o1, if_neg o1, if_neg o2, if_neg o2, if_neg o3, if_neg o3, if_neg o4, if_neg o4]
      by_cases o5 : op = 5
      · rw [if_pos o5, if_pos o5]
        obtain ⟨a1, a2⟩ := kidsF (W := [[110, 101, 103, 97, 116, 101, 100]]) (Fit.one (by decide) (by decide)) ih
        exact ⟨a1, by rw [a2]; rfl⟩
      by_cases o6 : op = 6
      · rw [if_neg o5, if_neg o5, if_pos o6, if_pos o6]
        obtain ⟨a1, a2⟩ := kidsF (W := [wAll, dec ks.length]) (Fit.cons (by decide) (by decide) (Fit.one l1 l2)) ih
        refine ⟨a1, ?_⟩
        rw [a2, glue_cons (by decide) ⟨_, _, rfl, l1⟩]
        rfl
      · have o7 : op = 7 := by
          rw [if_neg o5] at h3
          by_cases h : op = 6 ∨ op = 7
          · omega
          · rw [if_neg h] at h3; cases h3
        rw [if_neg o5, if_neg o5, if_neg o6, if_neg o6, if_pos o7]
        obtain ⟨a1, a2⟩ := kidsF (W := [wAny, dec ks.length]) (Fit.cons (by decide) (by decide) (Fit.one l1 l2)) ih
        refine ⟨a1, ?_⟩
        rw [a2, glue_cons (by decide) ⟨_, _, rfl, l1⟩]
        rfl
theorem rS_eq : ∀ (s : Nat) (t : Tree), t.size ≤ s → s ≤ 1000000 → okS t = true → Fit oS cS (wS t) ∧ glue oS cS (wS t) = rS t
  | 0, t, h, _, _ => by have := tree_pos t; omega
  | s + 1, .mk op name cmp n ks, hs, hm, hok => by
    rw [okS] at hok
    simp only [Bool.and_eq_true] at hok
    obtain ⟨⟨⟨h1, h2⟩, h3⟩, h4⟩ := hok
    rw [Tree.size] at hs
    have hk := okSs_all h4
    have ih : ∀ k ∈ ks, Fit oS cS (wS k) ∧ glue oS cS (wS k) = rS k := fun k hmm => rS_eq s k (by have := kid_size hmm; omega) (by omega) (hk k hmm)
    have hlen := kids_len ks
    obtain ⟨l1, l2⟩ := fitD (n := ks.length) (by omega)
    rw [wS, rS]
    by_cases h89 : op = 8 ∨ op = 9
    · have o1 : op ≠ 1 := by omega
      have o2 : op ≠ 2 := by omega
      have o3 : op ≠ 3 := by omega
      have o4 : ¬ (op = 4 ∨ op = 5 ∨ op = 6 ∨ op = 7) := by omega
      rw [if_neg o1, if_neg o1, if_neg o2, if_neg o2, if_neg o3, if_neg o3, if_neg o4, if_neg o4]
      by_cases o8 : op = 8
      · rw [if_pos o8, if_pos o8]
        obtain ⟨a1, a2⟩ := kidsS (W := [wAll, dec ks.length]) (Fit.cons (by decide) (by decide) (Fit.one l1 l2)) ih
        refine ⟨a1, ?_⟩
        rw [a2, glue_cons (by decide) ⟨_, _, rfl, l1⟩]
        rfl
      · rw [if_neg o8, if_neg o8, if_pos (by omega)]
        obtain ⟨a1, a2⟩ := kidsS (W := [wAny, dec ks.length]) (Fit.cons (by decide) (by decide) (Fit.one l1 l2)) ih
        refine ⟨a1, ?_⟩
        rw [a2, glue_cons (by decide) ⟨_, _, rfl, l1⟩]
        rfl
    · rw [if_neg h89] at h3
      have h17 : 1 ≤ op ∧ op ≤ 7 := by
        by_cases h : 1 ≤ op ∧ op ≤ 7
        · exact h
        · rw [if_neg h] at h3; cases h3
      rw [if_pos h17] at h3
      have : ks = [] := by simpa using h3
      subst this
      rw [wSs, List.nil_append]
      by_cases o1 : op = 1
      · rw [if_pos o1, if_pos o1]; exact ⟨Fit.one (by decide) (by decide), rfl⟩
      by_cases o2 : op = 2
      · rw [if_neg o1, if_neg o1, if_pos o2, if_pos o2]; exact ⟨Fit.one (by decide) (by decide), rfl⟩
      by_cases o3 : op = 3
      · rw [if_neg o1, if_neg o1, if_neg o2, if_neg o2, if_pos o3, if_pos o3]
        have hn0 : n ≤ 1000000 := by have := h1.2; rw [if_pos o3] at this; simpa using this
        obtain ⟨d1, d2⟩ := fitD hn0
        refine ⟨Fit.cons d1 d2 (Fit.one (by decide) (by decide)), ?_⟩
        rw [glue_cons d2 ⟨_, _, rfl, by decide⟩]
        rfl
      · have o4 : op = 4 ∨ op = 5 ∨ op = 6 ∨ op = 7 := by omega
        rw [if_neg o1, if_neg o1, if_neg o2, if_neg o2, if_neg o3, if_neg o3, if_pos o4, if_pos o4]
        rw [if_pos o4] at h2
        obtain ⟨n1, n2⟩ := fitN h2
        have hc : opsW.getD (op - 4) [] ∉ cS ∧ opsW.getD (op - 4) [] ∉ oS := by
          rcases o4 with rfl | rfl | rfl | rfl <;> exact ⟨by decide, by decide⟩
        refine ⟨Fit.cons n1 n2 (Fit.one hc.1 hc.2), ?_⟩
        rw [glue_cons n2 ⟨_, _, rfl, hc.1⟩]
        rfl
theorem br_fit {W : List Bytes} (h : Fit oS cS W) : Fit oS cS (brW W) ∧ glue oS cS (brW W) = [123, 32] ++ (glue oS cS W ++ [32, 125]) := by
  have hr : Fit oS cS (W ++ [[125]]) := h.app (Fit.one (by decide) (by decide))
  unfold brW
  refine ⟨Fit.cons (by decide) (by decide) hr, ?_⟩
  rw [glue_cons (by decide) hr.1, glue_sp h.2 ⟨_, _, rfl, by decide⟩]
  rfl
theorem names_glue : ∀ {l : List Bytes}, l ≠ [] → (∀ s ∈ l, s ∉ cS ∧ s ∉ oS) → Fit oS cS l ∧ glue oS cS l = joinT' [32] l
  | [], h, _ => absurd rfl h
  | [a], _, h => ⟨Fit.one (h a (by simp)).1 (h a (by simp)).2, rfl⟩
  | a :: b :: r, _, h => by
    obtain ⟨i1, i2⟩ := names_glue (l := b :: r) (by simp) fun x hx => h x (by simp at hx ⊢; right; exact hx)
    obtain ⟨a1, a2⟩ := h a (by simp)
    refine ⟨Fit.cons a1 a2 i1, ?_⟩
    rw [glue_cons a2 i1.1, i2]
    rfl
def rText (p : Prov) : Bytes :=
  (if (p.cond.op != 1) = true then [119, 104, 101, 114, 101, 32, 123, 32] ++ (rF p.cond ++ [32, 125, 32]) else [])
  ++ (if p.kind = 1 then [116, 101, 114, 109, 32] ++ p.name else [113, 117, 101, 115, 116, 105, 111, 110, 32] ++ (p.name ++ ([32, 103, 105, 118, 101, 115, 32] ++ dec p.value)))
  ++ (if p.exc = [] then [] else [32, 111, 118, 101, 114, 114, 105, 100, 101, 115, 32, 40] ++ (joinT' [32] p.exc ++ [41]))
  ++ (if (p.beg.op != 1) = true then [32, 115, 116, 97, 114, 116, 115, 32, 123, 32] ++ (rS p.beg ++ [32, 125]) else [])
  ++ (if (p.fin.op != 2) = true then [32, 101, 110, 100, 115, 32, 123, 32] ++ (rS p.fin ++ [32, 125]) else [])
  ++ (if (p.aga.op != 2) = true then [32, 114, 101, 116, 117, 114, 110, 115, 32, 123, 32] ++ (rS p.aga ++ [32, 125]) else [])
  ++ ([32, 91] ++ (ranksS.getD (p.rank - 1) [] ++ 32 :: (p.id ++ [93])))
theorem part_br {A l : List Bytes} {w : Bytes} {b : Bool} (hA : Fit oS cS A) (h1 : w ∉ cS) (h2 : w ∉ oS) (hl : Fit oS cS l) : Fit oS cS (A ++ partW b w (brW l)) ∧ glue oS cS (A ++ partW b w (brW l)) = glue oS cS A ++ (if b = true then (32 :: (w ++ [32, 123, 32])) ++ (glue oS cS l ++ [32, 125]) else []) := by
  obtain ⟨b1, b2⟩ := br_fit hl
  obtain ⟨a1, a2⟩ := part_acc (b := b) hA h1 h2 fun _ => b1
  refine ⟨a1, ?_⟩
  rw [a2, b2]
  cases b
  · rfl
  · simp only [if_true, List.append_assoc, List.cons_append, List.nil_append]
theorem text_south {p : Prov} (hp : WriteOk p) : textS p = rText p := by
  have hr : ranksS.getD (p.rank - 1) [] ∉ cS ∧ ranksS.getD (p.rank - 1) [] ∉ oS := by
    have := hp.rank
    have : p.rank = 1 ∨ p.rank = 2 ∨ p.rank = 3 ∨ p.rank = 4 := by omega
    rcases this with h | h | h | h <;> rw [h] <;> exact ⟨by decide, by decide⟩
  obtain ⟨i1, i2⟩ := fitN hp.id
  obtain ⟨n1, n2⟩ := fitN hp.name
  obtain ⟨v1, v2⟩ := fitD hp.value
  have hk : Fit oS cS (kindW p) ∧ glue oS cS (kindW p) = (if p.kind = 1 then [116, 101, 114, 109, 32] ++ p.name else [113, 117, 101, 115, 116, 105, 111, 110, 32] ++ (p.name ++ ([32, 103, 105, 118, 101, 115, 32] ++ dec p.value))) := by
    unfold kindW
    split
    · refine ⟨Fit.cons (by decide) (by decide) (Fit.one n1 n2), ?_⟩
      rw [glue_cons (by decide) ⟨_, _, rfl, n1⟩]
      rfl
    · refine ⟨Fit.cons (by decide) (by decide) (Fit.cons n1 n2 (Fit.cons (by decide) (by decide) (Fit.one v1 v2))), ?_⟩
      rw [glue_cons (by decide) ⟨_, _, rfl, n1⟩, glue_cons n2 ⟨_, _, rfl, by decide⟩, glue_cons (by decide) ⟨_, _, rfl, v1⟩]
      rfl
  obtain ⟨k1, k2⟩ := hk
  have sm : ∀ {t : Tree}, small t = true → t.size ≤ 1000000 := fun h => by have := (of_small h).1; omega
  obtain ⟨f1, f2⟩ := rF_eq _ p.cond (Nat.le_refl _) (sm hp.condS) hp.cond
  obtain ⟨b1, b2⟩ := rS_eq _ p.beg (Nat.le_refl _) (sm hp.begS) hp.beg
  obtain ⟨g1, g2⟩ := rS_eq _ p.fin (Nat.le_refl _) (sm hp.finS) hp.fin
  obtain ⟨h1, h2⟩ := rS_eq _ p.aga (Nat.le_refl _) (sm hp.agaS) hp.aga
  have h0 : Fit oS cS (partW (p.cond.op != 1) wWhere (brW (wF p.cond)) ++ kindW p) ∧ glue oS cS (partW (p.cond.op != 1) wWhere (brW (wF p.cond)) ++ kindW p) = (if (p.cond.op != 1) = true then [119, 104, 101, 114, 101, 32, 123, 32] ++ (rF p.cond ++ [32, 125, 32]) else []) ++ glue oS cS (kindW p) := by
    cases p.cond.op != 1 with
    | false => exact ⟨k1, rfl⟩
    | true =>
      obtain ⟨c1, c2⟩ := br_fit f1
      have hw : Fit oS cS (wWhere :: brW (wF p.cond)) := Fit.cons (by decide) (by decide) c1
      refine ⟨hw.app k1, ?_⟩
      rw [show partW true wWhere (brW (wF p.cond)) = wWhere :: brW (wF p.cond) from rfl, glue_sp hw.2 k1.1, glue_cons (by decide) c1.1, c2, f2]
      simp only [if_true, List.append_assoc, List.cons_append, List.nil_append]
  obtain ⟨a1, e1⟩ := h0
  have hx : Fit oS cS (partW (p.cond.op != 1) wWhere (brW (wF p.cond)) ++ kindW p ++ excW p.exc) ∧ glue oS cS (partW (p.cond.op != 1) wWhere (brW (wF p.cond)) ++ kindW p ++ excW p.exc) = glue oS cS (partW (p.cond.op != 1) wWhere (brW (wF p.cond)) ++ kindW p) ++ (if p.exc = [] then [] else [32, 111, 118, 101, 114, 114, 105, 100, 101, 115, 32, 40] ++ (joinT' [32] p.exc ++ [41])) := by
    unfold excW
    split
    · simp only [List.append_nil]; exact ⟨a1, trivial⟩
    · rename_i hne
      obtain ⟨c1, c2⟩ := names_glue hne fun s hs => fitN (hp.exc s hs)
      have hb : Fit oS cS ([40] :: (p.exc ++ [[41]])) := ⟨⟨_, _, rfl, by decide⟩, [40] :: p.exc, [41], rfl, by decide⟩
      have hw : Fit oS cS (wOver :: [40] :: (p.exc ++ [[41]])) := Fit.cons (by decide) (by decide) hb
      refine ⟨a1.app hw, ?_⟩
      rw [glue_sp a1.2 hw.1, glue_cons (by decide) hb.1, glue_wrap hne (by decide) (by decide), c2]
      rfl
  obtain ⟨a3, e3⟩ := hx
  obtain ⟨a4, e4⟩ := part_br (b := p.beg.op != 1) (w := wStarts) a3 (by decide) (by decide) b1
  obtain ⟨a5, e5⟩ := part_br (b := p.fin.op != 2) (w := wEnds) a4 (by decide) (by decide) g1
  obtain ⟨a6, e6⟩ := part_br (b := p.aga.op != 2) (w := wRet) a5 (by decide) (by decide) h1
  have hE : (∃ b r, endW p = b :: r ∧ b ∉ cS) ∧ glue oS cS (endW p) = 91 :: (ranksS.getD (p.rank - 1) [] ++ 32 :: (p.id ++ [93])) := by
    refine ⟨⟨_, _, rfl, by decide⟩, ?_⟩
    unfold endW
    rw [show [[91], ranksS.getD (p.rank - 1) [], p.id, [93]] = [91] :: ([ranksS.getD (p.rank - 1) [], p.id] ++ [[93]]) from rfl, glue_wrap (by simp) (by decide) (by decide), glue_cons hr.2 ⟨_, _, rfl, i1⟩]
    simp only [glue, List.append_assoc, List.cons_append, List.nil_append]
  have hP : wP p = (partW (p.cond.op != 1) wWhere (brW (wF p.cond)) ++ kindW p ++ excW p.exc ++ partW (p.beg.op != 1) wStarts (brW (wS p.beg)) ++ partW (p.fin.op != 2) wEnds (brW (wS p.fin)) ++ partW (p.aga.op != 2) wRet (brW (wS p.aga))) ++ endW p := by
    unfold wP tail0 tail1 tail2 tail3
    simp only [List.append_assoc]
  unfold textS
  show glue oS cS (wP p) = _
  rw [hP, glue_sp a6.2 hE.1, hE.2, e6, e5, e4, e3, e1, k2, b2, g2, h2]
  rfl
end So
end Go.Proofs.YtbicmjmcdnkjhaaGreatDoor
