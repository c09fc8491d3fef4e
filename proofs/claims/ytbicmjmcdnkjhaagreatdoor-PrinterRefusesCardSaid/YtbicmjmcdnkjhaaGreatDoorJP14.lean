/- What the reference takes for written: the same provisions; its answer is the printer's. Two conditions compared: pandectref07.Same, pandectref10.SameStart. -/
import Derived.Test.YtbicmjmcdnkjhaaGreatDoorJP13
import Derived.Test.YtbicmjmcdnkjhaaGreatDoorJP1
import Derived.Test.YtbicmjmcdnkjhaaGreatDoorJP8
import Derived.Test.YtbicmjmcdnkjhaaGreatDoorJP9
set_option linter.unusedVariables false
set_option linter.unusedSimpArgs false
namespace Go.Proofs.YtbicmjmcdnkjhaaGreatDoor
mutual
def TreeI.size : TreeI → Nat
  | .mk _ _ _ _ ks => 1 + sizesI ks
def sizesI : List TreeI → Nat
  | [] => 0
  | t :: r => t.size + sizesI r
end
mutual
def TreeI.deep : TreeI → Nat
  | .mk _ _ _ _ ks => deepsI ks + 1
def deepsI : List TreeI → Nat
  | [] => 0
  | t :: r => max t.deep (deepsI r)
end
mutual
theorem size_up : ∀ t : Tree, (up t).size = t.size
  | .mk _ _ _ _ ks => by rw [up, TreeI.size, Tree.size, sizes_up ks]
theorem sizes_up : ∀ ks : List Tree, sizesI (ups ks) = sizes ks
  | [] => by rw [ups, sizesI, sizes]
  | k :: r => by rw [ups, sizesI, sizes, size_up k, sizes_up r]
end
mutual
theorem deep_up : ∀ t : Tree, (up t).deep = t.deep
  | .mk _ _ _ _ ks => by rw [up, TreeI.deep, Tree.deep, deeps_up ks]
theorem deeps_up : ∀ ks : List Tree, deepsI (ups ks) = deeps ks
  | [] => by rw [ups, deepsI, deeps]
  | k :: r => by rw [ups, deepsI, deeps, deep_up k, deeps_up r]
end
/- nodes counted up to a bound -/
mutual
def cntI : TreeI → Int → Int
  | .mk _ _ _ _ ks, m => cntsI ks 1 m
def cntsI : List TreeI → Int → Int → Int
  | [], n, _ => n
  | k :: r, n, m => if n ≤ m then cntsI r (n + cntI k (m - n)) m else n
end
mutual
theorem cnt_spec : ∀ (t : TreeI) (m : Int), 1 ≤ cntI t m ∧ (cntI t m ≤ m + 1 ∨ m < 0 ∧ cntI t m = 1) ∧ ((t.size : Int) ≤ m → cntI t m = t.size) ∧ (m < t.size → m < cntI t m)
  | .mk _ _ _ _ ks, m => by
    rw [cntI, TreeI.size]
    obtain ⟨h1, h2, h3, h4⟩ := cnts_spec ks 1 m (by omega)
    refine ⟨by omega, ?_, fun h => ?_, fun h => ?_⟩
    · rcases h2 with h2 | h2
      · exact Or.inl h2
      · by_cases hm : m < 0
        · exact Or.inr ⟨hm, h2.2⟩
        · omega
    · rw [h3 (by omega)]; omega
    · exact h4 (by omega)
theorem cnts_spec : ∀ (ks : List TreeI) (n m : Int), 1 ≤ n → n ≤ cntsI ks n m ∧ (cntsI ks n m ≤ m + 1 ∨ m < n ∧ cntsI ks n m = n) ∧ (n + sizesI ks ≤ m → cntsI ks n m = n + sizesI ks) ∧ (m < n + sizesI ks → m < cntsI ks n m)
  | [], n, m, hn => by
    rw [cntsI, sizesI]
    refine ⟨by omega, ?_, fun h => by omega, fun h => by omega⟩
    by_cases h : m < n
    · exact Or.inr ⟨h, rfl⟩
    · exact Or.inl (by omega)
  | k :: r, n, m, hn => by
    rw [cntsI, sizesI]
    by_cases h : n ≤ m
    · rw [if_pos h]
      obtain ⟨a1, a2, a3, a4⟩ := cnt_spec k (m - n)
      obtain ⟨b1, b2, b3, b4⟩ := cnts_spec r (n + cntI k (m - n)) m (by omega)
      refine ⟨by omega, ?_, fun hh => ?_, fun hh => ?_⟩
      · rcases b2 with b2 | b2
        · exact Or.inl b2
        · left; omega
      · have e := a3 (by omega)
        rw [b3 (by omega), e]
        omega
      · by_cases hk : (k.size : Int) ≤ m - n
        · have e := a3 hk
          exact b4 (by omega)
        · have := a4 (by omega)
          omega
    · rw [if_neg h]
      refine ⟨by omega, Or.inr ⟨by omega, rfl⟩, fun hh => by omega, fun hh => by omega⟩
end
theorem cnt_le {t : TreeI} {m : Int} : cntI t m ≤ m ↔ (t.size : Int) ≤ m := by
  obtain ⟨h1, h2, h3, h4⟩ := cnt_spec t m
  constructor
  · intro h
    by_cases hh : (t.size : Int) ≤ m
    · exact hh
    · have := h4 (by omega); omega
  · intro h
    rw [h3 h]
    exact h
/- the nodes as the reference wants them -/
mutual
def formR : TreeI → Bool
  | .mk op name cmp n ks =>
    !(decide (op < 1) || decide (7 < op) || !(testI op cmp n || (op != 3 && cmp == 0 && n == 0)) || !(op == 5 && ks.length == 1 || (op == 6 || op == 7) && decide (2 ≤ ks.length) || decide (op < 5) && ks.length == 0) || (!(op == 3 || op == 4) && name != [])) && formsR ks
def formsR : List TreeI → Bool
  | [] => true
  | k :: r => formR k && formsR r
end
mutual
def startR : TreeI → Bool
  | .mk op name cmp n ks =>
    !(decide (op < 1) || decide (9 < op) || !(decide (4 ≤ op) && decide (op ≤ 7)) && name != [] || op != 3 && n != 0 || decide (n < 0) || decide (1000000 < n) || (op == 8 || op == 9) && decide (ks.length < 2) || !(op == 8 || op == 9) && decide (0 < ks.length)) && startsR ks
def startsR : List TreeI → Bool
  | [] => true
  | k :: r => startR k && startsR r
end
mutual
theorem formR_down : ∀ t : TreeI, formR t = true → ∃ t', t = up t' ∧ shapeF t' = true
  | .mk op name cmp n ks, h => by
    rw [formR] at h
    simp only [Bool.and_eq_true, Bool.not_eq_true', Bool.or_eq_false_iff, decide_eq_false_iff_not, Bool.not_eq_false', Bool.or_eq_true, Bool.and_eq_false_iff, beq_iff_eq, bne_iff_ne, bne_eq_false_iff_eq, decide_eq_true_eq] at h
    obtain ⟨⟨⟨⟨⟨a1, a2⟩, a3⟩, a4⟩, a5⟩, hk⟩ := h
    obtain ⟨ks', e, hs⟩ := formsR_down ks hk
    have hlen : ks.length = ks'.length := by rw [e, ups_len]
    have h3 : (op = 3 ∧ 1 ≤ cmp ∧ cmp ≤ 6 ∧ 0 ≤ n ∧ n ≤ 1000000) ∨ (op ≠ 3 ∧ cmp = 0 ∧ n = 0) := by
      unfold testI at a3
      simp only [Bool.and_eq_true, decide_eq_true_eq, beq_iff_eq] at a3
      rcases a3 with a3 | a3
      · exact Or.inl ⟨a3.1.1.1.1, a3.1.1.1.2, a3.1.1.2, a3.1.2, a3.2⟩
      · exact Or.inr ⟨a3.1.1, a3.1.2, a3.2⟩
    have hn : op = 3 ∨ op = 4 ∨ name = [] := by
      rcases a5 with a5 | a5
      · rcases a5 with a5 | a5
        · exact Or.inl a5
        · exact Or.inr (Or.inl a5)
      · exact Or.inr (Or.inr a5)
    refine ⟨.mk op.toNat name cmp.toNat n.toNat ks', ?_, ?_⟩
    · rw [up, ← e]
      congr 1 <;> omega
    · rw [shapeF, hs]
      have e1 : (if op.toNat = 3 then decide (1 ≤ cmp.toNat) && decide (cmp.toNat ≤ 6) && decide (n.toNat ≤ 1000000) else decide (cmp.toNat = 0) && decide (n.toNat = 0)) = true := by
        rcases h3 with h3 | h3
        · rw [if_pos (by omega)]
          simp only [Bool.and_eq_true, decide_eq_true_eq]
          omega
        · rw [if_neg (by omega)]
          simp only [Bool.and_eq_true, decide_eq_true_eq]
          omega
      have e2 : (if op.toNat = 3 ∨ op.toNat = 4 then true else decide (name = [])) = true := by
        rcases hn with hn | hn | hn
        · rw [if_pos (by omega)]
        · rw [if_pos (by omega)]
        · subst hn
          split <;> rfl
      have e3 : (if op.toNat = 1 ∨ op.toNat = 2 ∨ op.toNat = 3 ∨ op.toNat = 4 then decide (ks'.length = 0) else if op.toNat = 5 then decide (ks'.length = 1) else if op.toNat = 6 ∨ op.toNat = 7 then decide (2 ≤ ks'.length) else false) = true := by
        rcases a4 with (a4 | a4) | a4
        · rw [if_neg (by omega), if_pos (by omega)]; simp; omega
        · rw [if_neg (by omega), if_neg (by omega), if_pos (by omega)]; simp; omega
        · rw [if_pos (by omega)]
          rw [decide_eq_true_eq]
          omega
      rw [e1, e2, e3]
      rfl
theorem formsR_down : ∀ ks : List TreeI, formsR ks = true → ∃ ks', ks = ups ks' ∧ shapeFs ks' = true
  | [], _ => ⟨[], by rw [ups], by rw [shapeFs]⟩
  | k :: r, h => by
    rw [formsR, Bool.and_eq_true] at h
    obtain ⟨k', e, hs⟩ := formR_down k h.1
    obtain ⟨r', e2, hs2⟩ := formsR_down r h.2
    exact ⟨k' :: r', by rw [ups, e, e2], by rw [shapeFs, hs, hs2]; rfl⟩
end
mutual
theorem formR_up : ∀ t : Tree, shapeF t = true → formR (up t) = true
  | .mk op name cmp n ks, h => by
    rw [shapeF] at h
    simp only [Bool.and_eq_true] at h
    obtain ⟨⟨⟨h1, h2⟩, h3⟩, h4⟩ := h
    rw [up, formR, formsR_up ks h4, ups_len]
    have b1 : (op = 3 ∧ 1 ≤ cmp ∧ cmp ≤ 6 ∧ n ≤ 1000000) ∨ (op ≠ 3 ∧ cmp = 0 ∧ n = 0) := by
      split at h1
      · simp only [Bool.and_eq_true, decide_eq_true_eq] at h1
        exact Or.inl ⟨by assumption, h1.1.1, h1.1.2, h1.2⟩
      · simp only [Bool.and_eq_true, decide_eq_true_eq] at h1
        exact Or.inr ⟨by assumption, h1.1, h1.2⟩
    have b2 : (op = 3 ∨ op = 4) ∨ name = [] := by
      split at h2
      · exact Or.inl (by assumption)
      · exact Or.inr (by simpa using h2)
    have b3 : (op = 5 ∧ ks.length = 1) ∨ ((op = 6 ∨ op = 7) ∧ 2 ≤ ks.length) ∨ (1 ≤ op ∧ op < 5 ∧ ks.length = 0) := by
      split at h3
      · rw [decide_eq_true_eq] at h3
        exact Or.inr (Or.inr ⟨by omega, by omega, h3⟩)
      · split at h3
        · rw [decide_eq_true_eq] at h3
          exact Or.inl ⟨by assumption, h3⟩
        · split at h3
          · rw [decide_eq_true_eq] at h3
            exact Or.inr (Or.inl ⟨by assumption, h3⟩)
          · cases h3
    simp only [Bool.and_eq_true, Bool.not_eq_true', Bool.or_eq_false_iff, decide_eq_false_iff_not, Bool.not_eq_false', Bool.or_eq_true, Bool.and_eq_false_iff, beq_iff_eq, bne_iff_ne, bne_eq_false_iff_eq, decide_eq_true_eq, and_true]
    refine ⟨⟨⟨⟨by omega, by omega⟩, ?_⟩, ?_⟩, ?_⟩
    · rcases b1 with b1 | b1
      · left
        unfold testI
        simp only [Bool.and_eq_true, decide_eq_true_eq, beq_iff_eq]
        omega
      · right
        omega
    · rcases b3 with b3 | b3 | b3
      · left; left; omega
      · left; right; omega
      · right; omega
    · rcases b2 with b2 | b2
      · left; omega
      · right; exact b2
theorem formsR_up : ∀ ks : List Tree, shapeFs ks = true → formsR (ups ks) = true
  | [], _ => by rw [ups, formsR]
  | k :: r, h => by
    rw [shapeFs, Bool.and_eq_true] at h
    rw [ups, formsR, formR_up k h.1, formsR_up r h.2]
    rfl
end
mutual
theorem startR_down : ∀ t : TreeI, plainS t → startR t = true → ∃ t', t = up t' ∧ shapeS t' = true
  | .mk op name cmp n ks, hp, h => by
    rw [plainS] at hp
    obtain ⟨rfl, hp⟩ := hp
    rw [startR] at h
    simp only [Bool.and_eq_true, Bool.not_eq_true', Bool.or_eq_false_iff, decide_eq_false_iff_not, Bool.not_eq_false', Bool.or_eq_true, Bool.and_eq_false_iff, beq_iff_eq, bne_iff_ne, bne_eq_false_iff_eq, decide_eq_true_eq, beq_eq_false_iff_ne] at h
    obtain ⟨⟨⟨⟨⟨⟨⟨⟨a1, a2⟩, a3⟩, a4⟩, a5⟩, a6⟩, a7⟩, a8⟩, hk⟩ := h
    obtain ⟨ks', e, hs⟩ := startsR_down ks hp hk
    have hlen : ks.length = ks'.length := by rw [e, ups_len]
    refine ⟨.mk op.toNat name 0 n.toNat ks', ?_, ?_⟩
    · rw [up, ← e]
      congr 1 <;> omega
    · rw [shapeS, hs]
      have e1 : (decide ((0 : Nat) = 0) && (if op.toNat = 3 then decide (n.toNat ≤ 1000000) else decide (n.toNat = 0))) = true := by
        rw [show decide ((0 : Nat) = 0) = true from rfl, Bool.true_and]
        split
        · rw [decide_eq_true_eq]; omega
        · rw [decide_eq_true_eq]
          rcases a4 with a4 | a4 <;> omega
      have e2 : (if op.toNat = 4 ∨ op.toNat = 5 ∨ op.toNat = 6 ∨ op.toNat = 7 then true else decide (name = [])) = true := by
        split
        · rfl
        · rw [decide_eq_true_eq]
          rcases a3 with a3 | a3
          · omega
          · exact a3
      have e3 : (if op.toNat = 8 ∨ op.toNat = 9 then decide (2 ≤ ks'.length) else if 1 ≤ op.toNat ∧ op.toNat ≤ 7 then decide (ks'.length = 0) else false) = true := by
        split
        · rw [decide_eq_true_eq]
          rcases a7 with a7 | a7 <;> omega
        · rw [if_pos (by omega), decide_eq_true_eq]
          rcases a8 with a8 | a8 <;> omega
      rw [e1, e2, e3]
      rfl
theorem startsR_down : ∀ ks : List TreeI, plainSs ks → startsR ks = true → ∃ ks', ks = ups ks' ∧ shapeSs ks' = true
  | [], _, _ => ⟨[], by rw [ups], by rw [shapeSs]⟩
  | k :: r, hp, h => by
    rw [plainSs] at hp
    rw [startsR, Bool.and_eq_true] at h
    obtain ⟨k', e, hs⟩ := startR_down k hp.1 h.1
    obtain ⟨r', e2, hs2⟩ := startsR_down r hp.2 h.2
    exact ⟨k' :: r', by rw [ups, e, e2], by rw [shapeSs, hs, hs2]; rfl⟩
end
mutual
theorem startR_up : ∀ t : Tree, shapeS t = true → startR (up t) = true
  | .mk op name cmp n ks, h => by
    rw [shapeS] at h
    simp only [Bool.and_eq_true, decide_eq_true_eq] at h
    obtain ⟨⟨⟨⟨h0, h1⟩, h2⟩, h3⟩, h4⟩ := h
    rw [up, startR, startsR_up ks h4, ups_len]
    have b1 : (op = 3 ∧ n ≤ 1000000) ∨ (op ≠ 3 ∧ n = 0) := by
      split at h1
      · exact Or.inl ⟨by assumption, by simpa using h1⟩
      · exact Or.inr ⟨by assumption, by simpa using h1⟩
    have b2 : (4 ≤ op ∧ op ≤ 7) ∨ name = [] := by
      split at h2
      · exact Or.inl (by omega)
      · exact Or.inr (by simpa using h2)
    have b3 : ((op = 8 ∨ op = 9) ∧ 2 ≤ ks.length) ∨ (1 ≤ op ∧ op ≤ 7 ∧ ks.length = 0) := by
      split at h3
      · rw [decide_eq_true_eq] at h3; exact Or.inl ⟨by assumption, h3⟩
      · split at h3
        · rw [decide_eq_true_eq] at h3; exact Or.inr ⟨by omega, by omega, h3⟩
        · cases h3
    simp only [Bool.and_eq_true, Bool.not_eq_true', Bool.or_eq_false_iff, decide_eq_false_iff_not, Bool.not_eq_false', Bool.or_eq_true, Bool.and_eq_false_iff, beq_iff_eq, bne_iff_ne, bne_eq_false_iff_eq, decide_eq_true_eq, beq_eq_false_iff_ne, and_true]
    refine ⟨⟨⟨⟨⟨⟨⟨by omega, by omega⟩, ?_⟩, by omega⟩, by omega⟩, by omega⟩, by omega⟩, by omega⟩
    rcases b2 with b2 | b2
    · left; omega
    · right; exact b2
theorem startsR_up : ∀ ks : List Tree, shapeSs ks = true → startsR (ups ks) = true
  | [], _ => by rw [ups, startsR]
  | k :: r, h => by
    rw [shapeSs, Bool.and_eq_true] at h
    rw [ups, startsR, startR_up k h.1, startsR_up r h.2]
    rfl
end
def FormulaR (t : TreeI) : Bool := decide (cntI t 200 ≤ 200) && decide (t.deep ≤ 20) && formR t
def StartR (t : TreeI) : Bool := decide (cntI t 200 ≤ 200) && decide (t.deep ≤ 20) && startR t
theorem formulaR_eq (t : TreeI) : FormulaR t = (formI t 200 20).1 := by
  rw [Bool.eq_iff_iff]
  unfold FormulaR
  simp only [Bool.and_eq_true, decide_eq_true_eq]
  constructor
  · rintro ⟨⟨h1, h2⟩, h3⟩
    obtain ⟨t', rfl, hs⟩ := formR_down t h3
    have h1 := cnt_le.1 h1
    rw [size_up] at h1
    rw [deep_up] at h2
    rw [formI_up t' 200 20 hs h1 (by omega)]
  · intro h
    obtain ⟨t', rfl, hs, h1, h2, -⟩ := formI_true t 200 20 (by omega) h
    refine ⟨⟨cnt_le.2 (by rw [size_up]; exact h1), by rw [deep_up]; omega⟩, formR_up t' hs⟩
theorem startR_eq {t : TreeI} (hp : plainS t) : StartR t = (startI t 200 20).1 := by
  rw [Bool.eq_iff_iff]
  unfold StartR
  simp only [Bool.and_eq_true, decide_eq_true_eq]
  constructor
  · rintro ⟨⟨h1, h2⟩, h3⟩
    obtain ⟨t', rfl, hs⟩ := startR_down t hp h3
    have h1 := cnt_le.1 h1
    rw [size_up] at h1
    rw [deep_up] at h2
    rw [startI_up t' 200 20 hs h1 (by omega)]
  · intro h
    obtain ⟨t', rfl, hs, h1, h2, -⟩ := startI_true t 200 20 (by omega) hp h
    refine ⟨⟨cnt_le.2 (by rw [size_up]; exact h1), by rw [deep_up]; omega⟩, startR_up t' hs⟩
/- the reference's answer -/
def writtenR (p : ProvI) : Bool := !refP p && decide p.exc.Nodup && FormulaR p.cond && StartR p.beg && StartR p.fin && StartR p.aga
theorem writtenR_eq {p : ProvI} (hp : plainP p) : writtenR p = writtenI p := by
  unfold writtenR writtenI
  rw [formulaR_eq, startR_eq hp.1, startR_eq hp.2.1, startR_eq hp.2.2]
def namedR (words : List Bytes) (l : List Bytes) : Bool := l.all fun s => nameB s && !words.contains s
theorem named_north (l : List Bytes) : namedR keyWords l = l.all nameOk := by
  unfold namedR
  congr 1
  funext s
  unfold nameOk keyF
  congr 1
  rw [Bool.eq_iff_iff, beq_iff_eq]
  exact name_core
theorem named_south (l : List Bytes) : namedR So.keyWords l = l.all So.nameOk := by
  unfold namedR
  congr 1
  funext s
  unfold So.nameOk So.keyF
  congr 1
  rw [Bool.eq_iff_iff, beq_iff_eq]
  exact name_core
def refA (words : List Bytes) (text : Prov → Bytes) (p : ProvI) : Bytes × Nat :=
  if writtenR p = true then (if namedR words (namesP (downP p)) = true then shortA (text (downP p)) else ([], 7)) else ([], 1)
theorem refA_north {p : ProvI} (hp : plainP p) : refA keyWords rText p = northA p := by
  unfold refA northA ansP
  rw [writtenR_eq hp, named_north]
  by_cases h1 : writtenI p = true
  · rw [if_pos h1, if_pos h1]
    by_cases h2 : (namesP (downP p)).all nameOk = true
    · rw [if_pos h2, if_pos h2]
      have hok := ok_wr.2 ⟨(written_down hp h1).2, fun s hs => List.all_eq_true.1 h2 s hs⟩
      rw [← text_north hok]
      exact (short_north hok).symm
    · rw [if_neg h2, if_neg h2]
  · rw [if_neg h1, if_neg h1]
theorem refA_south {p : ProvI} (hp : plainP p) : refA So.keyWords So.rText p = southA p := by
  unfold refA southA ansP
  rw [writtenR_eq hp, named_south]
  by_cases h1 : writtenI p = true
  · rw [if_pos h1, if_pos h1]
    by_cases h2 : (namesP (downP p)).all So.nameOk = true
    · rw [if_pos h2, if_pos h2]
      have hok := ok_wrS.2 ⟨(written_down hp h1).2, fun s hs => List.all_eq_true.1 h2 s hs⟩
      rw [← So.text_south hok]
      exact (short_south hok).symm
    · rw [if_neg h2, if_neg h2]
  · rw [if_neg h1, if_neg h1]
end Go.Proofs.YtbicmjmcdnkjhaaGreatDoor
namespace Go.Proofs.YtbicmjmcdnkjhaaGreatDoor
open Go.RowKit
theorem sizeI_pos : ∀ t : TreeI, 1 ≤ t.size
  | .mk _ _ _ _ ks => by rw [TreeI.size]; omega
theorem kidsI_le : ∀ (ks : List TreeI), ks.length ≤ sizesI ks
  | [] => by rw [sizesI]; simp
  | t :: r => by
    have h1 := kidsI_le r
    have h2 := sizeI_pos t
    rw [sizesI, List.length_cons]
    omega
theorem memI_size : ∀ {ks : List TreeI} {k : Nat} {x : TreeI}, ks[k]? = some x → x.size ≤ sizesI ks
  | [], k, x, h => by simp at h
  | t :: r, 0, x, h => by
    simp at h
    subst h
    rw [sizesI]
    omega
  | t :: r, k + 1, x, h => by
    have := memI_size (ks := r) (k := k) (by simpa using h)
    rw [sizesI]
    omega
theorem plainSs_at : ∀ {ks : List TreeI} {k : Nat} {x : TreeI}, plainSs ks → ks[k]? = some x → plainS x
  | [], k, x, _, h => by simp at h
  | t :: r, 0, x, hp, h => by
    rw [plainSs] at hp
    simp at h
    subst h
    exact hp.1
  | t :: r, k + 1, x, hp, h => by
    rw [plainSs] at hp
    exact plainSs_at hp.2 (k := k) (by simpa using h)
set_option maxRecDepth 20000 in
set_option maxHeartbeats 4000000 in
theorem sameX_f : ∀ (N : Nat) (t u : TreeI) (cs1 cs2 : List Value) (w : World), t.size ≤ N → t.size ≤ 1000000 → RdX true w cs1 t → RdX true w cs2 u →
    Calls Tryz.prog 50 #[.agg cs1.toArray, .agg cs2.toArray] w fun e w' => e = .returned (.bool (eqX t u)) ∧ Below w.heap.size w w' := by
  intro N
  induction N with
  | zero =>
    intro t u cs1 cs2 w hN
    cases t
    simp [TreeI.size] at hN
  | succ N ih =>
    intro t u cs1 cs2 w hN hs hr1 hr2
    have IH := Lib.hid ih
    obtain ⟨op, name, cm, m, ks⟩ := t
    obtain ⟨op2, name2, cm2, m2, us⟩ := u
    have HR1 := Lib.hid hr1
    have HR2 := Lib.hid hr2
    obtain ⟨A1, p1, rfl, -, hk1⟩ := hr1
    obtain ⟨A2, p2, rfl, -, hk2⟩ := hr2
    have HK1 := Lib.hid hk1
    have HK2 := Lib.hid hk2
    simp only [TreeI.size] at hN hs
    have hkl := kidsI_le ks
    simp only [tcX]
    clear ih hk1 hk2
    by_cases h0 : op = op2
    case neg =>
      have hd : (op != op2) = true := by simpa using h0
      have hres : eqX (.mk op name cm m ks) (.mk op2 name2 cm2 m2 us) = false := by
        rw [Bool.eq_false_iff]
        intro hh
        rw [eqX_iff] at hh
        injection hh
        contradiction
      rw [hres]
      clear hres HR1 HR2 HK1 HK2 IH
      go_enter Tryz.func50, Tryz.ntmps50
      go_wp2_with fail
      go_ret
      exact ⟨rfl, ((Below.refl _ _).alloc (Nat.le_refl _) _).alloc (by simp) _⟩
    subst h0
    by_cases h1 : name = name2
    case neg =>
      have hd : (name != name2) = true := by simpa using h1
      have hres : eqX (.mk op name cm m ks) (.mk op name2 cm2 m2 us) = false := by
        rw [Bool.eq_false_iff]
        intro hh
        rw [eqX_iff] at hh
        injection hh
        contradiction
      rw [hres]
      clear hres HR1 HR2 HK1 HK2 IH
      go_enter Tryz.func50, Tryz.ntmps50
      go_wp2_with fail
      go_ret
      exact ⟨rfl, ((Below.refl _ _).alloc (Nat.le_refl _) _).alloc (by simp) _⟩
    subst h1
    by_cases h2 : cm = cm2
    case neg =>
      have hd : (cm != cm2) = true := by simpa using h2
      have hres : eqX (.mk op name cm m ks) (.mk op name cm2 m2 us) = false := by
        rw [Bool.eq_false_iff]
        intro hh
        rw [eqX_iff] at hh
        injection hh
        contradiction
      rw [hres]
      clear hres HR1 HR2 HK1 HK2 IH
      go_enter Tryz.func50, Tryz.ntmps50
      go_wp2_with fail
      go_ret
      exact ⟨rfl, ((Below.refl _ _).alloc (Nat.le_refl _) _).alloc (by simp) _⟩
    subst h2
    by_cases h3 : m = m2
    case neg =>
      have hd : (m != m2) = true := by simpa using h3
      have hres : eqX (.mk op name cm m ks) (.mk op name cm m2 us) = false := by
        rw [Bool.eq_false_iff]
        intro hh
        rw [eqX_iff] at hh
        injection hh
        contradiction
      rw [hres]
      clear hres HR1 HR2 HK1 HK2 IH
      go_enter Tryz.func50, Tryz.ntmps50
      go_wp2_with fail
      go_ret
      exact ⟨rfl, ((Below.refl _ _).alloc (Nat.le_refl _) _).alloc (by simp) _⟩
    subst h3
    by_cases hl : ks.length = us.length
    case neg =>
      have hd : ((ks.length : Int) != (us.length : Int)) = true := by simp; omega
      have hres : eqX (.mk op name cm m ks) (.mk op name cm m us) = false := by
        rw [Bool.eq_false_iff]
        intro hh
        rw [eqX_iff] at hh
        injection hh with _ _ _ _ hh
        exact hl (by rw [hh])
      rw [hres]
      clear hres HR1 HR2 HK1 HK2 IH
      go_enter Tryz.func50, Tryz.ntmps50
      go_wp2_with fail
      go_ret
      exact ⟨rfl, ((Below.refl _ _).alloc (Nat.le_refl _) _).alloc (by simp) _⟩
    have hres : eqX (.mk op name cm m ks) (.mk op name cm m us) = eqXs ks us := by rw [eqX]; simp [hl]
    rw [hres]
    have HL := Lib.hid hl
    have hdl : ((ks.length : Int) != (us.length : Int)) = false := by simp; omega
    clear hres hl
    go_enter Tryz.func50, Tryz.ntmps50
    go_wp2_with fail
    go_loopw [5] (fun v wr => ∃ k : Nat, k ≤ ks.length ∧ v = .int .i64 k ∧ eqXs ks us = eqXs (ks.drop k) (us.drop k) ∧ Below ((w.alloc (.cells #[.int .i64 op, vs name, .int .i64 cm, .int .i64 m, .slice A1 ks.length p1] 24)).alloc (.cells #[.int .i64 op, vs name, .int .i64 cm, .int .i64 m, .slice A2 us.length p2] 24)).heap.size ((w.alloc (.cells #[.int .i64 op, vs name, .int .i64 cm, .int .i64 m, .slice A1 ks.length p1] 24)).alloc (.cells #[.int .i64 op, vs name, .int .i64 cm, .int .i64 m, .slice A2 us.length p2] 24)) wr) (fun v _ => ks.length - (intOf v).toNat)
    case atStart => exact ⟨0, Nat.zero_le _, rfl, rfl, Below.refl _ _⟩
    case round =>
      obtain ⟨k, hk, rfl, heq, hb⟩ := hrel
      have HEQ := Lib.hid heq
      have e1 : wr.heap[w.heap.size]? = some (.cells #[.int .i64 op, vs name, .int .i64 cm, .int .i64 m, .slice A1 ks.length p1] 24 (0, 0)) := (hb.block _ (by simp; omega)).trans (kept_at (new_at rfl))
      have e2 : wr.heap[w.heap.size + 1]? = some (.cells #[.int .i64 op, vs name, .int .i64 cm, .int .i64 m, .slice A2 us.length p2] 24 (0, 0)) := (hb.block _ (by simp)).trans (new_at (by simp))
      have c1 : wr.cell? ⟨w.heap.size, 4, none⟩ = some (.slice A1 ks.length p1) := cell_of_blk (o := 4) e1 rfl
      have c2 : wr.cell? ⟨w.heap.size + 1, 4, none⟩ = some (.slice A2 us.length p2) := cell_of_blk (o := 4) e2 rfl
      have l2 := lt_of_heap' e2
      have l1 : w.heap.size < wr.heap.size := by omega
      have hbw : Below w.heap.size w wr := ((Below.refl _ _).alloc (Nat.le_refl _) _ |>.alloc (by simp) _).trans (hb.mono (by simp; omega))
      have HB := Lib.hid hb
      have HBW := Lib.hid hbw
      clear hb e1 e2 hbw heq
      by_cases hlt : k < ks.length
      · obtain ⟨x, hx⟩ := get_of_lt hlt
        have hltu : k < us.length := by have := HL.out; omega
        obtain ⟨y, hy⟩ := get_of_lt hltu
        have hxs := memI_size hx
        have hne : ks ≠ [] := by rintro rfl; simp at hlt
        have hnu : us ≠ [] := by rintro rfl; simp at hltu
        have hstep := eqXs_drop hx hy
        have HSTEP := Lib.hid hstep
        clear hstep
        obtain ⟨b1, o1, rfl, hb1, hkd1⟩ := HK1.out.resolve_left hne
        obtain ⟨b2, o2, rfl, hb2, hkd2⟩ := HK2.out.resolve_left hnu
        obtain ⟨xs1, hc1, ht1⟩ := hkd1.get hx
        obtain ⟨xs2, hc2, ht2⟩ := hkd2.get hy
        have HT1 := Lib.hid ht1
        have HT2 := Lib.hid ht2
        obtain ⟨o0, n0, d0, m0, ks0⟩ := x
        obtain ⟨o9, n9, d9, m9, ks9⟩ := y
        obtain ⟨B1, q1, rfl, -, -⟩ := ht1
        obtain ⟨B2, q2, rfl, -, -⟩ := ht2
        have z10 : wr.cell? ⟨b1, o1 + k * 5, none⟩ = some (.int .i64 o0) := (HBW.out.cell (p := ⟨b1, o1 + k * 5, none⟩) hb1).trans (hc1 0 _ rfl)
        have z11 : wr.cell? ⟨b1, o1 + k * 5 + 1, none⟩ = some (vs n0) := (HBW.out.cell (p := ⟨b1, o1 + k * 5 + 1, none⟩) hb1).trans (hc1 1 _ rfl)
        have z12 : wr.cell? ⟨b1, o1 + k * 5 + 2, none⟩ = some (.int .i64 d0) := (HBW.out.cell (p := ⟨b1, o1 + k * 5 + 2, none⟩) hb1).trans (hc1 2 _ rfl)
        have z13 : wr.cell? ⟨b1, o1 + k * 5 + 3, none⟩ = some (.int .i64 m0) := (HBW.out.cell (p := ⟨b1, o1 + k * 5 + 3, none⟩) hb1).trans (hc1 3 _ rfl)
        have z14 : wr.cell? ⟨b1, o1 + k * 5 + 4, none⟩ = some (.slice B1 ks0.length q1) := (HBW.out.cell (p := ⟨b1, o1 + k * 5 + 4, none⟩) hb1).trans (hc1 4 _ rfl)
        have z20 : wr.cell? ⟨b2, o2 + k * 5, none⟩ = some (.int .i64 o9) := (HBW.out.cell (p := ⟨b2, o2 + k * 5, none⟩) hb2).trans (hc2 0 _ rfl)
        have z21 : wr.cell? ⟨b2, o2 + k * 5 + 1, none⟩ = some (vs n9) := (HBW.out.cell (p := ⟨b2, o2 + k * 5 + 1, none⟩) hb2).trans (hc2 1 _ rfl)
        have z22 : wr.cell? ⟨b2, o2 + k * 5 + 2, none⟩ = some (.int .i64 d9) := (HBW.out.cell (p := ⟨b2, o2 + k * 5 + 2, none⟩) hb2).trans (hc2 2 _ rfl)
        have z23 : wr.cell? ⟨b2, o2 + k * 5 + 3, none⟩ = some (.int .i64 m9) := (HBW.out.cell (p := ⟨b2, o2 + k * 5 + 3, none⟩) hb2).trans (hc2 3 _ rfl)
        have z24 : wr.cell? ⟨b2, o2 + k * 5 + 4, none⟩ = some (.slice B2 ks9.length q2) := (HBW.out.cell (p := ⟨b2, o2 + k * 5 + 4, none⟩) hb2).trans (hc2 4 _ rfl)
        have hb1' : b1 < wr.heap.size := by have := HBW.out.size; omega
        have hb2' : b2 < wr.heap.size := by have := HBW.out.size; omega
        have hk1 : (k : Int) < ks.length := by omega
        have hk2 : (k : Int) < us.length := by omega
        have hk0 : (0 : Int) ≤ k := by omega
        have HI : ∀ y, Hid (Calls Tryz.prog 50 #[.agg #[.int .i64 o0, vs n0, .int .i64 d0, .int .i64 m0, .slice B1 ks0.length q1], .agg #[.int .i64 o9, vs n9, .int .i64 d9, .int .i64 m9, .slice B2 ks9.length q2]] (World.grew wr y) fun e w' => e = .returned (.bool (eqX (.mk o0 n0 d0 m0 ks0) (.mk o9 n9 d9 m9 ks9))) ∧ Below (World.grew wr y).heap.size (World.grew wr y) w') := fun y => Lib.hid (by
          have hb' : Below w.heap.size w (World.grew wr y) := HBW.out.trans ((grew_below wr y).mono (by have := HBW.out.size; omega))
          exact IH.out (.mk o0 n0 d0 m0 ks0) (.mk o9 n9 d9 m9 ks9) _ _ _ (by omega) (by omega) (HT1.out.keep hb') (HT2.out.keep hb'))
        clear hc1 hc2 hkd1 hkd2 hx hy hxs hne hnu
        cases hv : eqX (.mk o0 n0 d0 m0 ks0) (.mk o9 n9 d9 m9 ks9) with
        | true =>
          rw [hv] at HSTEP
          simp only [hv] at HI
          clear hv
          go_wp2_with fail
          refine wp_region_grew (by kernel_rfl) (by as_aux_lemma => kernel_rfl) ?_
          repeat (go_big_quiet_step ((exact Calls_grew (HI _).out)))
          refine wpQuiet_nil ?_
          rintro _ ⟨y, rfl⟩
          go_wp2_with fail
          exact ⟨⟨k + 1, by omega, by go_num, by rw [HEQ.out, HSTEP.out, Bool.true_and], HB.out.trans ((grew_below wr y).mono HB.out.size)⟩, by simp [intOf]; omega⟩
        | false =>
          rw [hv] at HSTEP
          simp only [hv] at HI
          clear hv
          go_wp2_with fail
          refine wp_region_grew (by kernel_rfl) (by as_aux_lemma => kernel_rfl) ?_
          repeat (go_big_quiet_step ((exact Calls_grew (HI _).out)))
          refine wpQuiet_nil ?_
          rintro _ ⟨y, rfl⟩
          go_wp2_with fail
          go_ret
          exact ⟨by rw [HEQ.out, HSTEP.out, Bool.false_and]; rfl, HBW.out.trans ((grew_below wr y).mono HBW.out.size)⟩
      · have hk' : k = ks.length := by omega
        subst hk'
        have hlt2 : ¬ ((ks.length : Nat) : Int) < ks.length := by omega
        go_wp2_with fail
        go_ret
        exact ⟨by rw [HEQ.out, List.drop_length, eqXs]; rfl, HBW.out⟩
set_option maxRecDepth 20000 in
set_option maxHeartbeats 4000000 in
theorem sameX_s : ∀ (N : Nat) (t u : TreeI) (cs1 cs2 : List Value) (w : World), t.size ≤ N → t.size ≤ 1000000 → plainS t → plainS u → RdX false w cs1 t → RdX false w cs2 u →
    Calls Tryz.prog 51 #[.agg cs1.toArray, .agg cs2.toArray] w fun e w' => e = .returned (.bool (eqX t u)) ∧ Below w.heap.size w w' := by
  intro N
  induction N with
  | zero =>
    intro t u cs1 cs2 w hN
    cases t
    simp [TreeI.size] at hN
  | succ N ih =>
    intro t u cs1 cs2 w hN hs hp1 hp2 hr1 hr2
    have IH := Lib.hid ih
    obtain ⟨op, name, cm, m, ks⟩ := t
    obtain ⟨op2, name2, cm2, m2, us⟩ := u
    have HR1 := Lib.hid hr1
    have HR2 := Lib.hid hr2
    obtain ⟨A1, p1, rfl, -, hk1⟩ := hr1
    obtain ⟨A2, p2, rfl, -, hk2⟩ := hr2
    obtain ⟨rfl, hps⟩ := hp1
    obtain ⟨rfl, hpu⟩ := hp2
    have HPS := Lib.hid hps
    have HPU := Lib.hid hpu
    clear hps hpu
    have HK1 := Lib.hid hk1
    have HK2 := Lib.hid hk2
    simp only [TreeI.size] at hN hs
    have hkl := kidsI_le ks
    simp only [tcX]
    clear ih hk1 hk2
    by_cases h0 : op = op2
    case neg =>
      have hd : (op != op2) = true := by simpa using h0
      have hres : eqX (.mk op name 0 m ks) (.mk op2 name2 0 m2 us) = false := by
        rw [Bool.eq_false_iff]
        intro hh
        rw [eqX_iff] at hh
        injection hh
        contradiction
      rw [hres]
      clear hres HR1 HR2 HK1 HK2 IH HPS HPU
      go_enter Tryz.func51, Tryz.ntmps51
      go_wp2_with fail
      go_ret
      exact ⟨rfl, ((Below.refl _ _).alloc (Nat.le_refl _) _).alloc (by simp) _⟩
    subst h0
    by_cases h1 : name = name2
    case neg =>
      have hd : (name != name2) = true := by simpa using h1
      have hres : eqX (.mk op name 0 m ks) (.mk op name2 0 m2 us) = false := by
        rw [Bool.eq_false_iff]
        intro hh
        rw [eqX_iff] at hh
        injection hh
        contradiction
      rw [hres]
      clear hres HR1 HR2 HK1 HK2 IH HPS HPU
      go_enter Tryz.func51, Tryz.ntmps51
      go_wp2_with fail
      go_ret
      exact ⟨rfl, ((Below.refl _ _).alloc (Nat.le_refl _) _).alloc (by simp) _⟩
    subst h1
    by_cases h2 : m = m2
    case neg =>
      have hd : (m != m2) = true := by simpa using h2
      have hres : eqX (.mk op name 0 m ks) (.mk op name 0 m2 us) = false := by
        rw [Bool.eq_false_iff]
        intro hh
        rw [eqX_iff] at hh
        injection hh
        contradiction
      rw [hres]
      clear hres HR1 HR2 HK1 HK2 IH HPS HPU
      go_enter Tryz.func51, Tryz.ntmps51
      go_wp2_with fail
      go_ret
      exact ⟨rfl, ((Below.refl _ _).alloc (Nat.le_refl _) _).alloc (by simp) _⟩
    subst h2
    by_cases hl : ks.length = us.length
    case neg =>
      have hd : ((ks.length : Int) != (us.length : Int)) = true := by simp; omega
      have hres : eqX (.mk op name 0 m ks) (.mk op name 0 m us) = false := by
        rw [Bool.eq_false_iff]
        intro hh
        rw [eqX_iff] at hh
        injection hh with _ _ _ _ hh
        exact hl (by rw [hh])
      rw [hres]
      clear hres HR1 HR2 HK1 HK2 IH HPS HPU
      go_enter Tryz.func51, Tryz.ntmps51
      go_wp2_with fail
      go_ret
      exact ⟨rfl, ((Below.refl _ _).alloc (Nat.le_refl _) _).alloc (by simp) _⟩
    have hres : eqX (.mk op name 0 m ks) (.mk op name 0 m us) = eqXs ks us := by rw [eqX]; simp [hl]
    rw [hres]
    have HL := Lib.hid hl
    have hdl : ((ks.length : Int) != (us.length : Int)) = false := by simp; omega
    clear hres hl
    go_enter Tryz.func51, Tryz.ntmps51
    go_wp2_with fail
    go_loopw [5] (fun v wr => ∃ k : Nat, k ≤ ks.length ∧ v = .int .i64 k ∧ eqXs ks us = eqXs (ks.drop k) (us.drop k) ∧ Below ((w.alloc (.cells #[.int .i64 op, vs name, .int .i64 m, .slice A1 ks.length p1] 28)).alloc (.cells #[.int .i64 op, vs name, .int .i64 m, .slice A2 us.length p2] 28)).heap.size ((w.alloc (.cells #[.int .i64 op, vs name, .int .i64 m, .slice A1 ks.length p1] 28)).alloc (.cells #[.int .i64 op, vs name, .int .i64 m, .slice A2 us.length p2] 28)) wr) (fun v _ => ks.length - (intOf v).toNat)
    case atStart => exact ⟨0, Nat.zero_le _, rfl, rfl, Below.refl _ _⟩
    case round =>
      obtain ⟨k, hk, rfl, heq, hb⟩ := hrel
      have HEQ := Lib.hid heq
      have e1 : wr.heap[w.heap.size]? = some (.cells #[.int .i64 op, vs name, .int .i64 m, .slice A1 ks.length p1] 28 (0, 0)) := (hb.block _ (by simp; omega)).trans (kept_at (new_at rfl))
      have e2 : wr.heap[w.heap.size + 1]? = some (.cells #[.int .i64 op, vs name, .int .i64 m, .slice A2 us.length p2] 28 (0, 0)) := (hb.block _ (by simp)).trans (new_at (by simp))
      have c1 : wr.cell? ⟨w.heap.size, 3, none⟩ = some (.slice A1 ks.length p1) := cell_of_blk (o := 3) e1 rfl
      have c2 : wr.cell? ⟨w.heap.size + 1, 3, none⟩ = some (.slice A2 us.length p2) := cell_of_blk (o := 3) e2 rfl
      have l2 := lt_of_heap' e2
      have l1 : w.heap.size < wr.heap.size := by omega
      have hbw : Below w.heap.size w wr := ((Below.refl _ _).alloc (Nat.le_refl _) _ |>.alloc (by simp) _).trans (hb.mono (by simp; omega))
      have HB := Lib.hid hb
      have HBW := Lib.hid hbw
      clear hb e1 e2 hbw heq
      by_cases hlt : k < ks.length
      · obtain ⟨x, hx⟩ := get_of_lt hlt
        have hltu : k < us.length := by have := HL.out; omega
        obtain ⟨y, hy⟩ := get_of_lt hltu
        have hxs := memI_size hx
        have hne : ks ≠ [] := by rintro rfl; simp at hlt
        have hnu : us ≠ [] := by rintro rfl; simp at hltu
        have hstep := eqXs_drop hx hy
        have HSTEP := Lib.hid hstep
        clear hstep
        have HPX := Lib.hid (plainSs_at HPS.out hx)
        have HPY := Lib.hid (plainSs_at HPU.out hy)
        obtain ⟨b1, o1, rfl, hb1, hkd1⟩ := HK1.out.resolve_left hne
        obtain ⟨b2, o2, rfl, hb2, hkd2⟩ := HK2.out.resolve_left hnu
        obtain ⟨xs1, hc1, ht1⟩ := hkd1.get hx
        obtain ⟨xs2, hc2, ht2⟩ := hkd2.get hy
        have HT1 := Lib.hid ht1
        have HT2 := Lib.hid ht2
        obtain ⟨o0, n0, d0, m0, ks0⟩ := x
        obtain ⟨o9, n9, d9, m9, ks9⟩ := y
        obtain ⟨B1, q1, rfl, -, -⟩ := ht1
        obtain ⟨B2, q2, rfl, -, -⟩ := ht2
        have z10 : wr.cell? ⟨b1, o1 + k * 4, none⟩ = some (.int .i64 o0) := (HBW.out.cell (p := ⟨b1, o1 + k * 4, none⟩) hb1).trans (hc1 0 _ rfl)
        have z11 : wr.cell? ⟨b1, o1 + k * 4 + 1, none⟩ = some (vs n0) := (HBW.out.cell (p := ⟨b1, o1 + k * 4 + 1, none⟩) hb1).trans (hc1 1 _ rfl)
        have z12 : wr.cell? ⟨b1, o1 + k * 4 + 2, none⟩ = some (.int .i64 m0) := (HBW.out.cell (p := ⟨b1, o1 + k * 4 + 2, none⟩) hb1).trans (hc1 2 _ rfl)
        have z13 : wr.cell? ⟨b1, o1 + k * 4 + 3, none⟩ = some (.slice B1 ks0.length q1) := (HBW.out.cell (p := ⟨b1, o1 + k * 4 + 3, none⟩) hb1).trans (hc1 3 _ rfl)
        have z20 : wr.cell? ⟨b2, o2 + k * 4, none⟩ = some (.int .i64 o9) := (HBW.out.cell (p := ⟨b2, o2 + k * 4, none⟩) hb2).trans (hc2 0 _ rfl)
        have z21 : wr.cell? ⟨b2, o2 + k * 4 + 1, none⟩ = some (vs n9) := (HBW.out.cell (p := ⟨b2, o2 + k * 4 + 1, none⟩) hb2).trans (hc2 1 _ rfl)
        have z22 : wr.cell? ⟨b2, o2 + k * 4 + 2, none⟩ = some (.int .i64 m9) := (HBW.out.cell (p := ⟨b2, o2 + k * 4 + 2, none⟩) hb2).trans (hc2 2 _ rfl)
        have z23 : wr.cell? ⟨b2, o2 + k * 4 + 3, none⟩ = some (.slice B2 ks9.length q2) := (HBW.out.cell (p := ⟨b2, o2 + k * 4 + 3, none⟩) hb2).trans (hc2 3 _ rfl)
        have hb1' : b1 < wr.heap.size := by have := HBW.out.size; omega
        have hb2' : b2 < wr.heap.size := by have := HBW.out.size; omega
        have hk1 : (k : Int) < ks.length := by omega
        have hk2 : (k : Int) < us.length := by omega
        have hk0 : (0 : Int) ≤ k := by omega
        have HI : ∀ y, Hid (Calls Tryz.prog 51 #[.agg #[.int .i64 o0, vs n0, .int .i64 m0, .slice B1 ks0.length q1], .agg #[.int .i64 o9, vs n9, .int .i64 m9, .slice B2 ks9.length q2]] (World.grew wr y) fun e w' => e = .returned (.bool (eqX (.mk o0 n0 d0 m0 ks0) (.mk o9 n9 d9 m9 ks9))) ∧ Below (World.grew wr y).heap.size (World.grew wr y) w') := fun y => Lib.hid (by
          have hb' : Below w.heap.size w (World.grew wr y) := HBW.out.trans ((grew_below wr y).mono (by have := HBW.out.size; omega))
          exact IH.out (.mk o0 n0 d0 m0 ks0) (.mk o9 n9 d9 m9 ks9) _ _ _ (by omega) (by omega) HPX.out HPY.out (HT1.out.keep hb') (HT2.out.keep hb'))
        clear hc1 hc2 hkd1 hkd2 hx hy hxs hne hnu
        cases hv : eqX (.mk o0 n0 d0 m0 ks0) (.mk o9 n9 d9 m9 ks9) with
        | true =>
          rw [hv] at HSTEP
          simp only [hv] at HI
          clear hv
          go_wp2_with fail
          refine wp_region_grew (by kernel_rfl) (by as_aux_lemma => kernel_rfl) ?_
          repeat (go_big_quiet_step ((exact Calls_grew (HI _).out)))
          refine wpQuiet_nil ?_
          rintro _ ⟨y, rfl⟩
          go_wp2_with fail
          exact ⟨⟨k + 1, by omega, by go_num, by rw [HEQ.out, HSTEP.out, Bool.true_and], HB.out.trans ((grew_below wr y).mono HB.out.size)⟩, by simp [intOf]; omega⟩
        | false =>
          rw [hv] at HSTEP
          simp only [hv] at HI
          clear hv
          go_wp2_with fail
          refine wp_region_grew (by kernel_rfl) (by as_aux_lemma => kernel_rfl) ?_
          repeat (go_big_quiet_step ((exact Calls_grew (HI _).out)))
          refine wpQuiet_nil ?_
          rintro _ ⟨y, rfl⟩
          go_wp2_with fail
          go_ret
          exact ⟨by rw [HEQ.out, HSTEP.out, Bool.false_and]; rfl, HBW.out.trans ((grew_below wr y).mono HBW.out.size)⟩
      · have hk' : k = ks.length := by omega
        subst hk'
        have hlt2 : ¬ ((ks.length : Nat) : Int) < ks.length := by omega
        go_wp2_with fail
        go_ret
        exact ⟨by rw [HEQ.out, List.drop_length, eqXs]; rfl, HBW.out⟩
end Go.Proofs.YtbicmjmcdnkjhaaGreatDoor
