/- The reference's text in the second language, bit by bit: the same one. What the reference takes for written: the same provisions; its answer is the printer's. Two conditions compared: pandectref07.Same, pandectref10.SameStart. Small provisions and their names: plain words. -/
import Derived.Test.YtbicmjmcdnkjhaaGreatDoorJMM1
import Derived.Test.YtbicmjmcdnkjhaaGreatDoorJMM5
import Derived.Test.YtbicmjmcdnkjhaaGreatDoorJMM4
set_option linter.unusedVariables false
set_option linter.unusedSimpArgs false
namespace Go.Proofs.YtbicmjmcdnkjhaaGreatDoor
namespace So
abbrev oS : List Bytes := opS'.map fun x => [x]
abbrev cS : List Bytes := clS'.map fun x => [x]
mutual
def rF : Tree → Bytes
 | .mk op name cmp n ks =>
   if op = 1 then [121, 101, 115] else if op = 2 then [110, 111]
   else if op = 3 then name ++ 32 :: (dec n ++ 32 :: cmpW.getD (cmp - 1) []) else if op = 4 then name ++ [32, 100, 101, 102, 105, 110, 101, 100]
   else rFs ks ++ (if op = 5 then [110, 101, 103, 97, 116, 101, 100] else if op = 6 then [97, 108, 108, 32] ++ dec ks.length else [97, 110, 121, 32] ++ dec ks.length)
def rFs : List Tree → Bytes
 | [] => []
 | k :: r => rF k ++ 32 :: rFs r
end
mutual
def rS : Tree → Bytes
 | .mk op name cmp n ks =>
   if op = 1 then [97, 108, 119, 97, 121, 115] else if op = 2 then [110, 101, 118, 101, 114]
   else if op = 3 then dec n ++ [32, 100, 97, 121] else if op = 4 ∨ op = 5 ∨ op = 6 ∨ op = 7 then name ++ 32 :: opsW.getD (op - 4) []
   else rSs ks ++ (if op = 8 then [97, 108, 108, 32] ++ dec ks.length else [97, 110, 121, 32] ++ dec ks.length)
def rSs : List Tree → Bytes
 | [] => []
 | k :: r => rS k ++ 32 :: rSs r
end
theorem oS_1 : ∀ w ∈ oS, (coreW w).1 ≠ 1 := by decide
theorem cS_1 : ∀ w ∈ cS, (coreW w).1 ≠ 1 := by decide
theorem oS_2 : ∀ w ∈ oS, (coreW w).1 ≠ 2 := by decide
theorem cS_2 : ∀ w ∈ cS, (coreW w).1 ≠ 2 := by decide
theorem okName {s : Bytes} (h : nameOk s = true) : (coreW s).1 = 1 := by
 unfold nameOk at h
 rw [Bool.and_eq_true] at h
 simpa using h.1
theorem fitN {s : Bytes} (h : nameOk s = true) : s ∉ cS ∧ s ∉ oS := fit_name (okName h) oS_1 cS_1
theorem fitD {n : Nat} (h : n ≤ 1000000) : dec n ∉ cS ∧ dec n ∉ oS := fit_num h oS_2 cS_2
theorem kidsF {W : List Bytes} (hW : Fit oS cS W) : ∀ {ks : List Tree}, (∀ k ∈ ks, Fit oS cS (wF k) ∧ glue oS cS (wF k) = rF k) → Fit oS cS (wFs ks ++ W) ∧ glue oS cS (wFs ks ++ W) = rFs ks ++ glue oS cS W
 | [], _ => by rw [wFs, rFs]; exact ⟨hW, rfl⟩
 | k :: r, h => by
   obtain ⟨a1, a2⟩ := h k (by simp)
   obtain ⟨b1, b2⟩ := kidsF hW (ks := r) fun x hx => h x (by simp [hx])
   rw [wFs, rFs, List.append_assoc]
   refine ⟨a1.app b1, ?_⟩
   rw [glue_sp a1.2 b1.1, a2, b2]
   simp only [List.append_assoc, List.cons_append]
theorem kidsS {W : List Bytes} (hW : Fit oS cS W) : ∀ {ks : List Tree}, (∀ k ∈ ks, Fit oS cS (wS k) ∧ glue oS cS (wS k) = rS k) → Fit oS cS (wSs ks ++ W) ∧ glue oS cS (wSs ks ++ W) = rSs ks ++ glue oS cS W
 | [], _ => by rw [wSs, rSs]; exact ⟨hW, rfl⟩
 | k :: r, h => by
   obtain ⟨a1, a2⟩ := h k (by simp)
   obtain ⟨b1, b2⟩ := kidsS hW (ks := r) fun x hx => h x (by simp [hx])
   rw [wSs, rSs, List.append_assoc]
   refine ⟨a1.app b1, ?_⟩
   rw [glue_sp a1.2 b1.1, a2, b2]
   simp only [List.append_assoc, List.cons_append]
theorem rF_eq : ∀ (s : Nat) (t : Tree), t.size ≤ s → s ≤ 1000000 → okF t = true → Fit oS cS (wF t) ∧ glue oS cS (wF t) = rF t
 | 0, t, h, _, _ => by have := tree_pos t; omega
 | s + 1, .mk op name cmp n ks, hs, hm, hok => by
   rw [okF] at hok
   simp only [Bool.and_eq_true] at hok
   obtain ⟨⟨⟨h1, h2⟩, h3⟩, h4⟩ := hok
   rw [Tree.size] at hs
   have hk := okFs_all h4
   have ih : ∀ k ∈ ks, Fit oS cS (wF k) ∧ glue oS cS (wF k) = rF k := fun k hmm => rF_eq s k (by have := kid_size hmm; omega) (by omega) (hk k hmm)
   have hlen := kids_len ks
   obtain ⟨l1, l2⟩ := fitD (n := ks.length) (by omega)
   rw [wF, rF]
   by_cases hleaf : op = 1 ∨ op = 2 ∨ op = 3 ∨ op = 4
   · rw [if_pos hleaf] at h3
     have : ks = [] := by simpa using h3
     subst this
     rw [wFs, List.nil_append]
     by_cases o1 : op = 1
     · rw [if_pos o1, if_pos o1]; exact ⟨Fit.one (by decide) (by decide), rfl⟩
     by_cases o2 : op = 2
     · rw [if_neg o1, if_neg o1, if_pos o2, if_pos o2]; exact ⟨Fit.one (by decide) (by decide), rfl⟩
     by_cases o3 : op = 3
     · rw [if_neg o1, if_neg o1, if_neg o2, if_neg o2, if_pos o3, if_pos o3]
       rw [if_pos o3] at h1
       rw [if_pos (Or.inl o3)] at h2
       simp only [Bool.and_eq_true, decide_eq_true_eq] at h1
       obtain ⟨n1, n2⟩ := fitN h2
       obtain ⟨d1, d2⟩ := fitD h1.2
       have hc : cmpW.getD (cmp - 1) [] ∉ cS ∧ cmpW.getD (cmp - 1) [] ∉ oS := by
        have : cmp = 1 ∨ cmp = 2 ∨ cmp = 3 ∨ cmp = 4 ∨ cmp = 5 ∨ cmp = 6 := by omega
        rcases this with rfl | rfl | rfl | rfl | rfl | rfl <;> exact ⟨by decide, by decide⟩
       refine ⟨Fit.cons n1 n2 (Fit.cons d1 d2 (Fit.one hc.1 hc.2)), ?_⟩
       rw [gCn n2 ⟨_, _, rfl, d1⟩, gCn d2 ⟨_, _, rfl, hc.1⟩]
       rfl
     · have o4 : op = 4 := by omega
       rw [if_neg o1, if_neg o1, if_neg o2, if_neg o2, if_neg o3, if_neg o3, if_pos o4, if_pos o4]
       rw [if_pos (Or.inr o4)] at h2
       obtain ⟨n1, n2⟩ := fitN h2
       refine ⟨Fit.cons n1 n2 (Fit.one (by decide) (by decide)), ?_⟩
       rw [gCn n2 ⟨_, _, rfl, by decide⟩]
       rfl
   · rw [if_neg hleaf] at h3
     have o1 : op ≠ 1 := by omega
     have o2 : op ≠ 2 := by omega
     have o3 : op ≠ 3 := by omega
     have o4 : op ≠ 4 := by omega
     rw [if_neg o1, if_neg o1, if_neg o2, if_neg o2, if_neg o3, if_neg o3, if_neg o4, if_neg o4]
     by_cases o5 : op = 5
     · rw [if_pos o5, if_pos o5]
       obtain ⟨a1, a2⟩ := kidsF (W := [[110, 101, 103, 97, 116, 101, 100]]) (Fit.one (by decide) (by decide)) ih
       exact ⟨a1, by rw [a2]; rfl⟩
     by_cases o6 : op = 6
     · rw [if_neg o5, if_neg o5, if_pos o6, if_pos o6]
       obtain ⟨a1, a2⟩ := kidsF (W := [wAll, dec ks.length]) (Fit.cons (by decide) (by decide) (Fit.one l1 l2)) ih
       refine ⟨a1, ?_⟩
       rw [a2, gCn (by decide) ⟨_, _, rfl, l1⟩]
       rfl
     · have o7 : op = 7 := by
         rw [if_neg o5] at h3
         by_cases h : op = 6 ∨ op = 7
         · omega
         · rw [if_neg h] at h3; cases h3
       rw [if_neg o5, if_neg o5, if_neg o6, if_neg o6, if_pos o7]
       obtain ⟨a1, a2⟩ := kidsF (W := [wAny, dec ks.length]) (Fit.cons (by decide) (by decide) (Fit.one l1 l2)) ih
       refine ⟨a1, ?_⟩
       rw [a2, gCn (by decide) ⟨_, _, rfl, l1⟩]
       rfl
theorem rS_eq : ∀ (s : Nat) (t : Tree), t.size ≤ s → s ≤ 1000000 → okS t = true → Fit oS cS (wS t) ∧ glue oS cS (wS t) = rS t
 | 0, t, h, _, _ => by have := tree_pos t; omega
 | s + 1, .mk op name cmp n ks, hs, hm, hok => by
   rw [okS] at hok
   simp only [Bool.and_eq_true] at hok
   obtain ⟨⟨⟨h1, h2⟩, h3⟩, h4⟩ := hok
   rw [Tree.size] at hs
   have hk := okSs_all h4
   have ih : ∀ k ∈ ks, Fit oS cS (wS k) ∧ glue oS cS (wS k) = rS k := fun k hmm => rS_eq s k (by have := kid_size hmm; omega) (by omega) (hk k hmm)
   have hlen := kids_len ks
   obtain ⟨l1, l2⟩ := fitD (n := ks.length) (by omega)
   rw [wS, rS]
   by_cases h89 : op = 8 ∨ op = 9
   · have o1 : op ≠ 1 := by omega
     have o2 : op ≠ 2 := by omega
     have o3 : op ≠ 3 := by omega
     have o4 : ¬ (op = 4 ∨ op = 5 ∨ op = 6 ∨ op = 7) := by omega
     rw [if_neg o1, if_neg o1, if_neg o2, if_neg o2, if_neg o3, if_neg o3, if_neg o4, if_neg o4]
     by_cases o8 : op = 8
     · rw [if_pos o8, if_pos o8]
       obtain ⟨a1, a2⟩ := kidsS (W := [wAll, dec ks.length]) (Fit.cons (by decide) (by decide) (Fit.one l1 l2)) ih
       refine ⟨a1, ?_⟩
       rw [a2, gCn (by decide) ⟨_, _, rfl, l1⟩]
       rfl
     · rw [if_neg o8, if_neg o8, if_pos (by omega)]
       obtain ⟨a1, a2⟩ := kidsS (W := [wAny, dec ks.length]) (Fit.cons (by decide) (by decide) (Fit.one l1 l2)) ih
       refine ⟨a1, ?_⟩
       rw [a2, gCn (by decide) ⟨_, _, rfl, l1⟩]
       rfl
   · rw [if_neg h89] at h3
     have h17 : 1 ≤ op ∧ op ≤ 7 := by
      by_cases h : 1 ≤ op ∧ op ≤ 7
      · exact h
      · rw [if_neg h] at h3; cases h3
     rw [if_pos h17] at h3
     have : ks = [] := by simpa using h3
     subst this
     rw [wSs, List.nil_append]
     by_cases o1 : op = 1
     · rw [if_pos o1, if_pos o1]; exact ⟨Fit.one (by decide) (by decide), rfl⟩
     by_cases o2 : op = 2
     · rw [if_neg o1, if_neg o1, if_pos o2, if_pos o2]; exact ⟨Fit.one (by decide) (by decide), rfl⟩
     by_cases o3 : op = 3
     · rw [if_neg o1, if_neg o1, if_neg o2, if_neg o2, if_pos o3, if_pos o3]
       have hn0 : n ≤ 1000000 := by have := h1.2; rw [if_pos o3] at this; simpa using this
       obtain ⟨d1, d2⟩ := fitD hn0
       refine ⟨Fit.cons d1 d2 (Fit.one (by decide) (by decide)), ?_⟩
       rw [gCn d2 ⟨_, _, rfl, by decide⟩]
       rfl
     · have o4 : op = 4 ∨ op = 5 ∨ op = 6 ∨ op = 7 := by omega
       rw [if_neg o1, if_neg o1, if_neg o2, if_neg o2, if_neg o3, if_neg o3, if_pos o4, if_pos o4]
       rw [if_pos o4] at h2
       obtain ⟨n1, n2⟩ := fitN h2
       have hc : opsW.getD (op - 4) [] ∉ cS ∧ opsW.getD (op - 4) [] ∉ oS := by
        rcases o4 with rfl | rfl | rfl | rfl <;> exact ⟨by decide, by decide⟩
       refine ⟨Fit.cons n1 n2 (Fit.one hc.1 hc.2), ?_⟩
       rw [gCn n2 ⟨_, _, rfl, hc.1⟩]
       rfl
theorem br_fit {W : List Bytes} (h : Fit oS cS W) : Fit oS cS (brW W) ∧ glue oS cS (brW W) = [123, 32] ++ (glue oS cS W ++ [32, 125]) := by
 have hr : Fit oS cS (W ++ [[125]]) := h.app (Fit.one (by decide) (by decide))
 unfold brW
 refine ⟨Fit.cons (by decide) (by decide) hr, ?_⟩
 rw [gCn (by decide) hr.1, glue_sp h.2 ⟨_, _, rfl, by decide⟩]
 rfl
theorem names_glue : ∀ {l : List Bytes}, l ≠ [] → (∀ s ∈ l, s ∉ cS ∧ s ∉ oS) → Fit oS cS l ∧ glue oS cS l = joinT' [32] l
 | [], h, _ => absurd rfl h
 | [a], _, h => ⟨Fit.one (h a (by simp)).1 (h a (by simp)).2, rfl⟩
 | a :: b :: r, _, h => by
   obtain ⟨i1, i2⟩ := names_glue (l := b :: r) (by simp) fun x hx => h x (by simp at hx ⊢; right; exact hx)
   obtain ⟨a1, a2⟩ := h a (by simp)
   refine ⟨Fit.cons a1 a2 i1, ?_⟩
   rw [gCn a2 i1.1, i2]
   rfl
def rText (p : Prov) : Bytes :=
 (if (p.cond.op != 1) = true then [119, 104, 101, 114, 101, 32, 123, 32] ++ (rF p.cond ++ [32, 125, 32]) else [])
 ++ (if p.kind = 1 then [116, 101, 114, 109, 32] ++ p.name else [113, 117, 101, 115, 116, 105, 111, 110, 32] ++ (p.name ++ ([32, 103, 105, 118, 101, 115, 32] ++ dec p.value)))
 ++ (if p.exc = [] then [] else [32, 111, 118, 101, 114, 114, 105, 100, 101, 115, 32, 40] ++ (joinT' [32] p.exc ++ [41]))
 ++ (if (p.beg.op != 1) = true then [32, 115, 116, 97, 114, 116, 115, 32, 123, 32] ++ (rS p.beg ++ [32, 125]) else [])
 ++ (if (p.fin.op != 2) = true then [32, 101, 110, 100, 115, 32, 123, 32] ++ (rS p.fin ++ [32, 125]) else [])
 ++ (if (p.aga.op != 2) = true then [32, 114, 101, 116, 117, 114, 110, 115, 32, 123, 32] ++ (rS p.aga ++ [32, 125]) else [])
 ++ ([32, 91] ++ (ranksS.getD (p.rank - 1) [] ++ 32 :: (p.id ++ [93])))
theorem part_br {A l : List Bytes} {w : Bytes} {b : Bool} (hA : Fit oS cS A) (h1 : w ∉ cS) (h2 : w ∉ oS) (hl : Fit oS cS l) : Fit oS cS (A ++ partW b w (brW l)) ∧ glue oS cS (A ++ partW b w (brW l)) = glue oS cS A ++ (if b = true then (32 :: (w ++ [32, 123, 32])) ++ (glue oS cS l ++ [32, 125]) else []) := by
 obtain ⟨b1, b2⟩ := br_fit hl
 obtain ⟨a1, a2⟩ := part_acc (b := b) hA h1 h2 fun _ => b1
 refine ⟨a1, ?_⟩
 rw [a2, b2]
 cases b
 · rfl
 · simp only [if_true, List.append_assoc, List.cons_append, List.nil_append]
theorem text_south {p : Prov} (hp : WriteOk p) : textS p = rText p := by
 have hr : ranksS.getD (p.rank - 1) [] ∉ cS ∧ ranksS.getD (p.rank - 1) [] ∉ oS := by
  have := hp.rank
  have : p.rank = 1 ∨ p.rank = 2 ∨ p.rank = 3 ∨ p.rank = 4 := by omega
  rcases this with h | h | h | h <;> rw [h] <;> exact ⟨by decide, by decide⟩
 obtain ⟨i1, i2⟩ := fitN hp.id
 obtain ⟨n1, n2⟩ := fitN hp.name
 obtain ⟨v1, v2⟩ := fitD hp.value
 have hk : Fit oS cS (kindW p) ∧ glue oS cS (kindW p) = (if p.kind = 1 then [116, 101, 114, 109, 32] ++ p.name else [113, 117, 101, 115, 116, 105, 111, 110, 32] ++ (p.name ++ ([32, 103, 105, 118, 101, 115, 32] ++ dec p.value))) := by
  unfold kindW
  split
  · refine ⟨Fit.cons (by decide) (by decide) (Fit.one n1 n2), ?_⟩
    rw [gCn (by decide) ⟨_, _, rfl, n1⟩]
    rfl
  · refine ⟨Fit.cons (by decide) (by decide) (Fit.cons n1 n2 (Fit.cons (by decide) (by decide) (Fit.one v1 v2))), ?_⟩
    rw [gCn (by decide) ⟨_, _, rfl, n1⟩, gCn n2 ⟨_, _, rfl, by decide⟩, gCn (by decide) ⟨_, _, rfl, v1⟩]
    rfl
 obtain ⟨k1, k2⟩ := hk
 have sm : ∀ {t : Tree}, small t = true → t.size ≤ 1000000 := fun h => by have := (of_small h).1; omega
 obtain ⟨f1, f2⟩ := rF_eq _ p.cond (lR _) (sm hp.condS) hp.cond
 obtain ⟨b1, b2⟩ := rS_eq _ p.beg (lR _) (sm hp.begS) hp.beg
 obtain ⟨g1, g2⟩ := rS_eq _ p.fin (lR _) (sm hp.finS) hp.fin
 obtain ⟨h1, h2⟩ := rS_eq _ p.aga (lR _) (sm hp.agaS) hp.aga
 have h0 : Fit oS cS (partW (p.cond.op != 1) wWhere (brW (wF p.cond)) ++ kindW p) ∧ glue oS cS (partW (p.cond.op != 1) wWhere (brW (wF p.cond)) ++ kindW p) = (if (p.cond.op != 1) = true then [119, 104, 101, 114, 101, 32, 123, 32] ++ (rF p.cond ++ [32, 125, 32]) else []) ++ glue oS cS (kindW p) := by
  cases p.cond.op != 1 with
  | false => exact ⟨k1, rfl⟩
  | true =>
    obtain ⟨c1, c2⟩ := br_fit f1
    have hw : Fit oS cS (wWhere :: brW (wF p.cond)) := Fit.cons (by decide) (by decide) c1
    refine ⟨hw.app k1, ?_⟩
    rw [show partW true wWhere (brW (wF p.cond)) = wWhere :: brW (wF p.cond) from rfl, glue_sp hw.2 k1.1, gCn (by decide) c1.1, c2, f2]
    simp only [if_true, List.append_assoc, List.cons_append, List.nil_append]
 obtain ⟨a1, e1⟩ := h0
 have hx : Fit oS cS (partW (p.cond.op != 1) wWhere (brW (wF p.cond)) ++ kindW p ++ excW p.exc) ∧ glue oS cS (partW (p.cond.op != 1) wWhere (brW (wF p.cond)) ++ kindW p ++ excW p.exc) = glue oS cS (partW (p.cond.op != 1) wWhere (brW (wF p.cond)) ++ kindW p) ++ (if p.exc = [] then [] else [32, 111, 118, 101, 114, 114, 105, 100, 101, 115, 32, 40] ++ (joinT' [32] p.exc ++ [41])) := by
  unfold excW
  split
  · simp only [List.append_nil]; exact ⟨a1, trivial⟩
  · rename_i hne
    obtain ⟨c1, c2⟩ := names_glue hne fun s hs => fitN (hp.exc s hs)
    have hb : Fit oS cS ([40] :: (p.exc ++ [[41]])) := ⟨⟨_, _, rfl, by decide⟩, [40] :: p.exc, [41], rfl, by decide⟩
    have hw : Fit oS cS (wOver :: [40] :: (p.exc ++ [[41]])) := Fit.cons (by decide) (by decide) hb
    refine ⟨a1.app hw, ?_⟩
    rw [glue_sp a1.2 hw.1, gCn (by decide) hb.1, glue_wrap hne (by decide) (by decide), c2]
    rfl
 obtain ⟨a3, e3⟩ := hx
 obtain ⟨a4, e4⟩ := part_br (b := p.beg.op != 1) (w := wStarts) a3 (by decide) (by decide) b1
 obtain ⟨a5, e5⟩ := part_br (b := p.fin.op != 2) (w := wEnds) a4 (by decide) (by decide) g1
 obtain ⟨a6, e6⟩ := part_br (b := p.aga.op != 2) (w := wRet) a5 (by decide) (by decide) h1
 have hE : (∃ b r, endW p = b :: r ∧ b ∉ cS) ∧ glue oS cS (endW p) = 91 :: (ranksS.getD (p.rank - 1) [] ++ 32 :: (p.id ++ [93])) := by
  refine ⟨⟨_, _, rfl, by decide⟩, ?_⟩
  unfold endW
  rw [show [[91], ranksS.getD (p.rank - 1) [], p.id, [93]] = [91] :: ([ranksS.getD (p.rank - 1) [], p.id] ++ [[93]]) from rfl, glue_wrap (by simp) (by decide) (by decide), gCn hr.2 ⟨_, _, rfl, i1⟩]
  simp only [glue, List.append_assoc, List.cons_append, List.nil_append]
 have hP : wP p = (partW (p.cond.op != 1) wWhere (brW (wF p.cond)) ++ kindW p ++ excW p.exc ++ partW (p.beg.op != 1) wStarts (brW (wS p.beg)) ++ partW (p.fin.op != 2) wEnds (brW (wS p.fin)) ++ partW (p.aga.op != 2) wRet (brW (wS p.aga))) ++ endW p := by
  unfold wP tail0 tail1 tail2 tail3
  simp only [List.append_assoc]
 unfold textS
 show glue oS cS (wP p) = _
 rw [hP, glue_sp a6.2 hE.1, hE.2, e6, e5, e4, e3, e1, k2, b2, g2, h2]
 rfl
end So
mutual
def TreeI.size : TreeI → Nat
 | .mk _ _ _ _ ks => 1 + sizesI ks
def sizesI : List TreeI → Nat
 | [] => 0
 | t :: r => t.size + sizesI r
end
mutual
def TreeI.deep : TreeI → Nat
 | .mk _ _ _ _ ks => deepsI ks + 1
def deepsI : List TreeI → Nat
 | [] => 0
 | t :: r => max t.deep (deepsI r)
end
mutual
theorem size_up : ∀ t : Tree, (up t).size = t.size
 | .mk _ _ _ _ ks => by rw [up, TreeI.size, Tree.size, sizes_up ks]
theorem sizes_up : ∀ ks : List Tree, sizesI (ups ks) = sizes ks
 | [] => by rw [ups, sizesI, sizes]
 | k :: r => by rw [ups, sizesI, sizes, size_up k, sizes_up r]
end
mutual
theorem deep_up : ∀ t : Tree, (up t).deep = t.deep
 | .mk _ _ _ _ ks => by rw [up, TreeI.deep, Tree.deep, deeps_up ks]
theorem deeps_up : ∀ ks : List Tree, deepsI (ups ks) = deeps ks
 | [] => by rw [ups, deepsI, deeps]
 | k :: r => by rw [ups, deepsI, deeps, deep_up k, deeps_up r]
end
/- nodes counted up to a bound -/
mutual
def cntI : TreeI → Int → Int
 | .mk _ _ _ _ ks, m => cntsI ks 1 m
def cntsI : List TreeI → Int → Int → Int
 | [], n, _ => n
 | k :: r, n, m => if n ≤ m then cntsI r (n + cntI k (m - n)) m else n
end
mutual
theorem cnt_spec : ∀ (t : TreeI) (m : Int), 1 ≤ cntI t m ∧ (cntI t m ≤ m + 1 ∨ m < 0 ∧ cntI t m = 1) ∧ ((t.size : Int) ≤ m → cntI t m = t.size) ∧ (m < t.size → m < cntI t m)
 | .mk _ _ _ _ ks, m => by
   rw [cntI, TreeI.size]
   obtain ⟨h1, h2, h3, h4⟩ := cnts_spec ks 1 m (by omega)
   refine ⟨by omega, ?_, fun h => ?_, fun h => ?_⟩
   · rcases h2 with h2 | h2
     · exact Or.inl h2
     · by_cases hm : m < 0
       · exact Or.inr ⟨hm, h2.2⟩
       · omega
   · rw [h3 (by omega)]; omega
   · exact h4 (by omega)
theorem cnts_spec : ∀ (ks : List TreeI) (n m : Int), 1 ≤ n → n ≤ cntsI ks n m ∧ (cntsI ks n m ≤ m + 1 ∨ m < n ∧ cntsI ks n m = n) ∧ (n + sizesI ks ≤ m → cntsI ks n m = n + sizesI ks) ∧ (m < n + sizesI ks → m < cntsI ks n m)
 | [], n, m, hn => by
   rw [cntsI, sizesI]
   refine ⟨by omega, ?_, fun h => by omega, fun h => by omega⟩
   by_cases h : m < n
   · exact Or.inr ⟨h, rfl⟩
   · exact Or.inl (by omega)
 | k :: r, n, m, hn => by
   rw [cntsI, sizesI]
   by_cases h : n ≤ m
   · rw [if_pos h]
     obtain ⟨a1, a2, a3, a4⟩ := cnt_spec k (m - n)
     obtain ⟨b1, b2, b3, b4⟩ := cnts_spec r (n + cntI k (m - n)) m (by omega)
     refine ⟨by omega, ?_, fun hh => ?_, fun hh => ?_⟩
     · rcases b2 with b2 | b2
       · exact Or.inl b2
       · left; omega
     · have e := a3 (by omega)
       rw [b3 (by omega), e]
       omega
     · by_cases hk : (k.size : Int) ≤ m - n
       · have e := a3 hk
         exact b4 (by omega)
       · have := a4 (by omega)
         omega
   · rw [if_neg h]
     refine ⟨by omega, Or.inr ⟨by omega, rfl⟩, fun hh => by omega, fun hh => by omega⟩
end
theorem cnt_le {t : TreeI} {m : Int} : cntI t m ≤ m ↔ (t.size : Int) ≤ m := by
 obtain ⟨h1, h2, h3, h4⟩ := cnt_spec t m
 constructor
 · intro h
   by_cases hh : (t.size : Int) ≤ m
   · exact hh
   · have := h4 (by omega); omega
 · intro h
   rw [h3 h]
   exact h
/- the nodes as the reference wants them -/
mutual
def formR : TreeI → Bool
 | .mk op name cmp n ks =>
   !(decide (op < 1) || decide (7 < op) || !(testI op cmp n || (op != 3 && cmp == 0 && n == 0)) || !(op == 5 && ks.length == 1 || (op == 6 || op == 7) && decide (2 ≤ ks.length) || decide (op < 5) && ks.length == 0) || (!(op == 3 || op == 4) && name != [])) && formsR ks
def formsR : List TreeI → Bool
 | [] => true
 | k :: r => formR k && formsR r
end
mutual
def startR : TreeI → Bool
 | .mk op name cmp n ks =>
   !(decide (op < 1) || decide (9 < op) || !(decide (4 ≤ op) && decide (op ≤ 7)) && name != [] || op != 3 && n != 0 || decide (n < 0) || decide (1000000 < n) || (op == 8 || op == 9) && decide (ks.length < 2) || !(op == 8 || op == 9) && decide (0 < ks.length)) && startsR ks
def startsR : List TreeI → Bool
 | [] => true
 | k :: r => startR k && startsR r
end
mutual
theorem formR_down : ∀ t : TreeI, formR t = true → ∃ t', t = up t' ∧ shapeF t' = true
 | .mk op name cmp n ks, h => by
   rw [formR] at h
   simp only [Bool.and_eq_true, Bool.not_eq_true', Bool.or_eq_false_iff, decide_eq_false_iff_not, Bool.not_eq_false', Bool.or_eq_true, Bool.and_eq_false_iff, beq_iff_eq, bne_iff_ne, bne_eq_false_iff_eq, decide_eq_true_eq] at h
   obtain ⟨⟨⟨⟨⟨a1, a2⟩, a3⟩, a4⟩, a5⟩, hk⟩ := h
   obtain ⟨ks', e, hs⟩ := formsR_down ks hk
   have hlen : ks.length = ks'.length := by rw [e, ups_len]
   have h3 : (op = 3 ∧ 1 ≤ cmp ∧ cmp ≤ 6 ∧ 0 ≤ n ∧ n ≤ 1000000) ∨ (op ≠ 3 ∧ cmp = 0 ∧ n = 0) := by
    unfold testI at a3
    simp only [Bool.and_eq_true, decide_eq_true_eq, beq_iff_eq] at a3
    rcases a3 with a3 | a3
    · exact Or.inl ⟨a3.1.1.1.1, a3.1.1.1.2, a3.1.1.2, a3.1.2, a3.2⟩
    · exact Or.inr ⟨a3.1.1, a3.1.2, a3.2⟩
   have hn : op = 3 ∨ op = 4 ∨ name = [] := by
    rcases a5 with a5 | a5
    · rcases a5 with a5 | a5
      · exact Or.inl a5
      · exact Or.inr (Or.inl a5)
    · exact Or.inr (Or.inr a5)
   refine ⟨.mk op.toNat name cmp.toNat n.toNat ks', ?_, ?_⟩
   · rw [up, ← e]
     congr 1 <;> omega
   · rw [shapeF, hs]
     have e1 : (if op.toNat = 3 then decide (1 ≤ cmp.toNat) && decide (cmp.toNat ≤ 6) && decide (n.toNat ≤ 1000000) else decide (cmp.toNat = 0) && decide (n.toNat = 0)) = true := by
      rcases h3 with h3 | h3
      · rw [if_pos (by omega)]
        simp only [Bool.and_eq_true, decide_eq_true_eq]
        omega
      · rw [if_neg (by omega)]
        simp only [Bool.and_eq_true, decide_eq_true_eq]
        omega
     have e2 : (if op.toNat = 3 ∨ op.toNat = 4 then true else decide (name = [])) = true := by
      rcases hn with hn | hn | hn
      · rw [if_pos (by omega)]
      · rw [if_pos (by omega)]
      · subst hn
        split <;> rfl
     have e3 : (if op.toNat = 1 ∨ op.toNat = 2 ∨ op.toNat = 3 ∨ op.toNat = 4 then decide (ks'.length = 0) else if op.toNat = 5 then decide (ks'.length = 1) else if op.toNat = 6 ∨ op.toNat = 7 then decide (2 ≤ ks'.length) else false) = true := by
      rcases a4 with (a4 | a4) | a4
      · rw [if_neg (by omega), if_pos (by omega)]; simp; omega
      · rw [if_neg (by omega), if_neg (by omega), if_pos (by omega)]; simp; omega
      · rw [if_pos (by omega)]
        rw [decide_eq_true_eq]
        omega
     rw [e1, e2, e3]
     rfl
theorem formsR_down : ∀ ks : List TreeI, formsR ks = true → ∃ ks', ks = ups ks' ∧ shapeFs ks' = true
 | [], _ => ⟨[], by rw [ups], by rw [shapeFs]⟩
 | k :: r, h => by
   rw [formsR, Bool.and_eq_true] at h
   obtain ⟨k', e, hs⟩ := formR_down k h.1
   obtain ⟨r', e2, hs2⟩ := formsR_down r h.2
   exact ⟨k' :: r', by rw [ups, e, e2], by rw [shapeFs, hs, hs2]; rfl⟩
end
mutual
theorem formR_up : ∀ t : Tree, shapeF t = true → formR (up t) = true
 | .mk op name cmp n ks, h => by
   rw [shapeF] at h
   simp only [Bool.and_eq_true] at h
   obtain ⟨⟨⟨h1, h2⟩, h3⟩, h4⟩ := h
   rw [up, formR, formsR_up ks h4, ups_len]
   have b1 : (op = 3 ∧ 1 ≤ cmp ∧ cmp ≤ 6 ∧ n ≤ 1000000) ∨ (op ≠ 3 ∧ cmp = 0 ∧ n = 0) := by
    split at h1
    · simp only [Bool.and_eq_true, decide_eq_true_eq] at h1
      exact Or.inl ⟨by assumption, h1.1.1, h1.1.2, h1.2⟩
    · simp only [Bool.and_eq_true, decide_eq_true_eq] at h1
      exact Or.inr ⟨by assumption, h1.1, h1.2⟩
   have b2 : (op = 3 ∨ op = 4) ∨ name = [] := by
    split at h2
    · exact Or.inl (by assumption)
    · exact Or.inr (by simpa using h2)
   have b3 : (op = 5 ∧ ks.length = 1) ∨ ((op = 6 ∨ op = 7) ∧ 2 ≤ ks.length) ∨ (1 ≤ op ∧ op < 5 ∧ ks.length = 0) := by
    split at h3
    · rw [decide_eq_true_eq] at h3
      exact Or.inr (Or.inr ⟨by omega, by omega, h3⟩)
    · split at h3
      · rw [decide_eq_true_eq] at h3
        exact Or.inl ⟨by assumption, h3⟩
      · split at h3
        · rw [decide_eq_true_eq] at h3
          exact Or.inr (Or.inl ⟨by assumption, h3⟩)
        · cases h3
   simp only [Bool.and_eq_true, Bool.not_eq_true', Bool.or_eq_false_iff, decide_eq_false_iff_not, Bool.not_eq_false', Bool.or_eq_true, Bool.and_eq_false_iff, beq_iff_eq, bne_iff_ne, bne_eq_false_iff_eq, decide_eq_true_eq, and_true]
   refine ⟨⟨⟨⟨by omega, by omega⟩, ?_⟩, ?_⟩, ?_⟩
   · rcases b1 with b1 | b1
     · left
       unfold testI
       simp only [Bool.and_eq_true, decide_eq_true_eq, beq_iff_eq]
       omega
     · right
       omega
   · rcases b3 with b3 | b3 | b3
     · left; left; omega
     · left; right; omega
     · right; omega
   · rcases b2 with b2 | b2
     · left; omega
     · right; exact b2
theorem formsR_up : ∀ ks : List Tree, shapeFs ks = true → formsR (ups ks) = true
 | [], _ => by rw [ups, formsR]
 | k :: r, h => by
   rw [shapeFs, Bool.and_eq_true] at h
   rw [ups, formsR, formR_up k h.1, formsR_up r h.2]
   rfl
end
mutual
theorem startR_down : ∀ t : TreeI, plainS t → startR t = true → ∃ t', t = up t' ∧ shapeS t' = true
 | .mk op name cmp n ks, hp, h => by
   rw [plainS] at hp
   obtain ⟨rfl, hp⟩ := hp
   rw [startR] at h
   simp only [Bool.and_eq_true, Bool.not_eq_true', Bool.or_eq_false_iff, decide_eq_false_iff_not, Bool.not_eq_false', Bool.or_eq_true, Bool.and_eq_false_iff, beq_iff_eq, bne_iff_ne, bne_eq_false_iff_eq, decide_eq_true_eq, beq_eq_false_iff_ne] at h
   obtain ⟨⟨⟨⟨⟨⟨⟨⟨a1, a2⟩, a3⟩, a4⟩, a5⟩, a6⟩, a7⟩, a8⟩, hk⟩ := h
   obtain ⟨ks', e, hs⟩ := startsR_down ks hp hk
   have hlen : ks.length = ks'.length := by rw [e, ups_len]
   refine ⟨.mk op.toNat name 0 n.toNat ks', ?_, ?_⟩
   · rw [up, ← e]
     congr 1 <;> omega
   · rw [shapeS, hs]
     have e1 : (decide ((0 : Nat) = 0) && (if op.toNat = 3 then decide (n.toNat ≤ 1000000) else decide (n.toNat = 0))) = true := by
      rw [show decide ((0 : Nat) = 0) = true from rfl, Bool.true_and]
      split
      · rw [decide_eq_true_eq]; omega
      · rw [decide_eq_true_eq]
        rcases a4 with a4 | a4 <;> omega
     have e2 : (if op.toNat = 4 ∨ op.toNat = 5 ∨ op.toNat = 6 ∨ op.toNat = 7 then true else decide (name = [])) = true := by
      split
      · rfl
      · rw [decide_eq_true_eq]
        rcases a3 with a3 | a3
        · omega
        · exact a3
     have e3 : (if op.toNat = 8 ∨ op.toNat = 9 then decide (2 ≤ ks'.length) else if 1 ≤ op.toNat ∧ op.toNat ≤ 7 then decide (ks'.length = 0) else false) = true := by
      split
      · rw [decide_eq_true_eq]
        rcases a7 with a7 | a7 <;> omega
      · rw [if_pos (by omega), decide_eq_true_eq]
        rcases a8 with a8 | a8 <;> omega
     rw [e1, e2, e3]
     rfl
theorem startsR_down : ∀ ks : List TreeI, plainSs ks → startsR ks = true → ∃ ks', ks = ups ks' ∧ shapeSs ks' = true
 | [], _, _ => ⟨[], by rw [ups], by rw [shapeSs]⟩
 | k :: r, hp, h => by
   rw [plainSs] at hp
   rw [startsR, Bool.and_eq_true] at h
   obtain ⟨k', e, hs⟩ := startR_down k hp.1 h.1
   obtain ⟨r', e2, hs2⟩ := startsR_down r hp.2 h.2
   exact ⟨k' :: r', by rw [ups, e, e2], by rw [shapeSs, hs, hs2]; rfl⟩
end
mutual
theorem startR_up : ∀ t : Tree, shapeS t = true → startR (up t) = true
 | .mk op name cmp n ks, h => by
   rw [shapeS] at h
   simp only [Bool.and_eq_true, decide_eq_true_eq] at h
   obtain ⟨⟨⟨⟨h0, h1⟩, h2⟩, h3⟩, h4⟩ := h
   rw [up, startR, startsR_up ks h4, ups_len]
   have b1 : (op = 3 ∧ n ≤ 1000000) ∨ (op ≠ 3 ∧ n = 0) := by
    split at h1
    · exact Or.inl ⟨by assumption, by simpa using h1⟩
    · exact Or.inr ⟨by assumption, by simpa using h1⟩
   have b2 : (4 ≤ op ∧ op ≤ 7) ∨ name = [] := by
    split at h2
    · exact Or.inl (by omega)
    · exact Or.inr (by simpa using h2)
   have b3 : ((op = 8 ∨ op = 9) ∧ 2 ≤ ks.length) ∨ (1 ≤ op ∧ op ≤ 7 ∧ ks.length = 0) := by
    split at h3
    · rw [decide_eq_true_eq] at h3; exact Or.inl ⟨by assumption, h3⟩
    · split at h3
      · rw [decide_eq_true_eq] at h3; exact Or.inr ⟨by omega, by omega, h3⟩
      · cases h3
   simp only [Bool.and_eq_true, Bool.not_eq_true', Bool.or_eq_false_iff, decide_eq_false_iff_not, Bool.not_eq_false', Bool.or_eq_true, Bool.and_eq_false_iff, beq_iff_eq, bne_iff_ne, bne_eq_false_iff_eq, decide_eq_true_eq, beq_eq_false_iff_ne, and_true]
   refine ⟨⟨⟨⟨⟨⟨⟨by omega, by omega⟩, ?_⟩, by omega⟩, by omega⟩, by omega⟩, by omega⟩, by omega⟩
   rcases b2 with b2 | b2
   · left; omega
   · right; exact b2
theorem startsR_up : ∀ ks : List Tree, shapeSs ks = true → startsR (ups ks) = true
 | [], _ => by rw [ups, startsR]
 | k :: r, h => by
   rw [shapeSs, Bool.and_eq_true] at h
   rw [ups, startsR, startR_up k h.1, startsR_up r h.2]
   rfl
end
def FormulaR (t : TreeI) : Bool := decide (cntI t 200 ≤ 200) && decide (t.deep ≤ 20) && formR t
def StartR (t : TreeI) : Bool := decide (cntI t 200 ≤ 200) && decide (t.deep ≤ 20) && startR t
theorem formulaR_eq (t : TreeI) : FormulaR t = (formI t 200 20).1 := by
 rw [Bool.eq_iff_iff]
 unfold FormulaR
 simp only [Bool.and_eq_true, decide_eq_true_eq]
 constructor
 · rintro ⟨⟨h1, h2⟩, h3⟩
   obtain ⟨t', rfl, hs⟩ := formR_down t h3
   have h1 := cnt_le.1 h1
   rw [size_up] at h1
   rw [deep_up] at h2
   rw [formI_up t' 200 20 hs h1 (by omega)]
 · intro h
   obtain ⟨t', rfl, hs, h1, h2, -⟩ := formI_true t 200 20 (by omega) h
   refine ⟨⟨cnt_le.2 (by rw [size_up]; exact h1), by rw [deep_up]; omega⟩, formR_up t' hs⟩
theorem startR_eq {t : TreeI} (hp : plainS t) : StartR t = (startI t 200 20).1 := by
 rw [Bool.eq_iff_iff]
 unfold StartR
 simp only [Bool.and_eq_true, decide_eq_true_eq]
 constructor
 · rintro ⟨⟨h1, h2⟩, h3⟩
   obtain ⟨t', rfl, hs⟩ := startR_down t hp h3
   have h1 := cnt_le.1 h1
   rw [size_up] at h1
   rw [deep_up] at h2
   rw [startI_up t' 200 20 hs h1 (by omega)]
 · intro h
   obtain ⟨t', rfl, hs, h1, h2, -⟩ := startI_true t 200 20 (by omega) hp h
   refine ⟨⟨cnt_le.2 (by rw [size_up]; exact h1), by rw [deep_up]; omega⟩, startR_up t' hs⟩
/- the reference's answer -/
def writtenR (p : ProvI) : Bool := !refP p && decide p.exc.Nodup && FormulaR p.cond && StartR p.beg && StartR p.fin && StartR p.aga
theorem writtenR_eq {p : ProvI} (hp : plainP p) : writtenR p = writtenI p := by
 unfold writtenR writtenI
 rw [formulaR_eq, startR_eq hp.1, startR_eq hp.2.1, startR_eq hp.2.2]
def namedR (words : List Bytes) (l : List Bytes) : Bool := l.all fun s => nameB s && !words.contains s
theorem named_north (l : List Bytes) : namedR keyWords l = l.all nameOk := by
 unfold namedR
 congr 1
 funext s
 unfold nameOk keyF
 congr 1
 rw [Bool.eq_iff_iff, beq_iff_eq]
 exact name_core
theorem named_south (l : List Bytes) : namedR So.keyWords l = l.all So.nameOk := by
 unfold namedR
 congr 1
 funext s
 unfold So.nameOk So.keyF
 congr 1
 rw [Bool.eq_iff_iff, beq_iff_eq]
 exact name_core
def refA (words : List Bytes) (text : Prov → Bytes) (p : ProvI) : Bytes × Nat :=
 if writtenR p = true then (if namedR words (namesP (downP p)) = true then shortA (text (downP p)) else ([], 7)) else ([], 1)
theorem refA_north {p : ProvI} (hp : plainP p) : refA keyWords rText p = northA p := by
 unfold refA northA ansP
 rw [writtenR_eq hp, named_north]
 by_cases h1 : writtenI p = true
 · rw [if_pos h1, if_pos h1]
   by_cases h2 : (namesP (downP p)).all nameOk = true
   · rw [if_pos h2, if_pos h2]
     have hok := ok_wr.2 ⟨(written_down hp h1).2, fun s hs => List.all_eq_true.1 h2 s hs⟩
     rw [← text_north hok]
     exact (short_north hok).symm
   · rw [if_neg h2, if_neg h2]
 · rw [if_neg h1, if_neg h1]
theorem refA_south {p : ProvI} (hp : plainP p) : refA So.keyWords So.rText p = southA p := by
 unfold refA southA ansP
 rw [writtenR_eq hp, named_south]
 by_cases h1 : writtenI p = true
 · rw [if_pos h1, if_pos h1]
   by_cases h2 : (namesP (downP p)).all So.nameOk = true
   · rw [if_pos h2, if_pos h2]
     have hok := ok_wrS.2 ⟨(written_down hp h1).2, fun s hs => List.all_eq_true.1 h2 s hs⟩
     rw [← So.text_south hok]
     exact (short_south hok).symm
   · rw [if_neg h2, if_neg h2]
 · rw [if_neg h1, if_neg h1]
open Go.RowKit
theorem sizeI_pos : ∀ t : TreeI, 1 ≤ t.size
 | .mk _ _ _ _ ks => by rw [TreeI.size]; omega
theorem kidsI_le : ∀ (ks : List TreeI), ks.length ≤ sizesI ks
 | [] => by rw [sizesI]; simp
 | t :: r => by
   have h1 := kidsI_le r
   have h2 := sizeI_pos t
   rw [sizesI, List.length_cons]
   omega
theorem memI_size : ∀ {ks : List TreeI} {k : Nat} {x : TreeI}, ks[k]? = some x → x.size ≤ sizesI ks
 | [], k, x, h => by simp at h
 | t :: r, 0, x, h => by
   simp at h
   subst h
   rw [sizesI]
   omega
 | t :: r, k + 1, x, h => by
   have := memI_size (ks := r) (k := k) (by simpa using h)
   rw [sizesI]
   omega
end Go.Proofs.YtbicmjmcdnkjhaaGreatDoor
namespace Go.Proofs.YtbicmjmcdnkjhaaGreatDoor
mutual
def nmF : TreeI → List Bytes
 | .mk op name _ _ ks => (if op = 3 ∨ op = 4 then [name] else []) ++ nmFs ks
def nmFs : List TreeI → List Bytes
 | [] => []
 | k :: r => nmF k ++ nmFs r
end
mutual
def nmS : TreeI → List Bytes
 | .mk op name _ _ ks => (if 4 ≤ op ∧ op ≤ 7 then [name] else []) ++ nmSs ks
def nmSs : List TreeI → List Bytes
 | [] => []
 | k :: r => nmS k ++ nmSs r
end
mutual
theorem nmF_up : ∀ t : Tree, nmF (up t) = namesF t
 | .mk op name c n ks => by
   rw [up, nmF, namesF, nmFs_up ks]
   by_cases h : op = 3 ∨ op = 4
   · rw [if_pos h, if_pos (by omega)]
   · rw [if_neg h, if_neg (by omega)]
theorem nmFs_up : ∀ ks : List Tree, nmFs (ups ks) = namesFs ks
 | [] => by rw [ups, nmFs, namesFs]
 | k :: r => by rw [ups, nmFs, namesFs, nmF_up k, nmFs_up r]
end
mutual
theorem nmS_up : ∀ t : Tree, nmS (up t) = namesS t
 | .mk op name c n ks => by
   rw [up, nmS, namesS, nmSs_up ks]
   by_cases h : op = 4 ∨ op = 5 ∨ op = 6 ∨ op = 7
   · rw [if_pos h, if_pos (by omega)]
   · rw [if_neg h, if_neg (by omega)]
theorem nmSs_up : ∀ ks : List Tree, nmSs (ups ks) = namesSs ks
 | [] => by rw [ups, nmSs, namesSs]
 | k :: r => by rw [ups, nmSs, namesSs, nmS_up k, nmSs_up r]
end
mutual
theorem nmF_len : ∀ t : TreeI, (nmF t).length ≤ t.size
 | .mk op name c n ks => by
   have := nmFs_len ks
   rw [nmF, TreeI.size, List.length_append]
   split <;> simp <;> omega
theorem nmFs_len : ∀ ks : List TreeI, (nmFs ks).length ≤ sizesI ks
 | [] => by rw [nmFs, sizesI]; simp
 | k :: r => by
   have := nmF_len k
   have := nmFs_len r
   rw [nmFs, sizesI, List.length_append]
   omega
end
mutual
theorem nmS_len : ∀ t : TreeI, (nmS t).length ≤ t.size
 | .mk op name c n ks => by
   have := nmSs_len ks
   rw [nmS, TreeI.size, List.length_append]
   split <;> simp <;> omega
theorem nmSs_len : ∀ ks : List TreeI, (nmSs ks).length ≤ sizesI ks
 | [] => by rw [nmSs, sizesI]; simp
 | k :: r => by
   have := nmS_len k
   have := nmSs_len r
   rw [nmSs, sizesI, List.length_append]
   omega
end
def namesI (p : ProvI) : List Bytes := p.id :: p.name :: (p.exc ++ (nmF p.cond ++ (nmS p.beg ++ (nmS p.fin ++ nmS p.aga))))
theorem namesI_up (p : Prov) : namesI (upP p) = namesP p := by
 unfold namesI namesP upP
 simp only [nmF_up, nmS_up]
def fewI (p : ProvI) : Bool := decide (cntI p.cond 300 ≤ 300) && decide (cntI p.beg 300 ≤ 300) && decide (cntI p.fin 300 ≤ 300) && decide (cntI p.aga 300 ≤ 300) && decide (p.exc.length ≤ 30) && (namesI p).all fun s => decide (s.length ≤ 60)
structure FewP (p : ProvI) : Prop where
 cond : p.cond.size ≤ 300
 beg : p.beg.size ≤ 300
 fin : p.fin.size ≤ 300
 aga : p.aga.size ≤ 300
 exc : p.exc.length ≤ 30
 names : ∀ s ∈ namesI p, s.length ≤ 60
theorem fewI_iff {p : ProvI} : fewI p = true ↔ FewP p := by
 unfold fewI
 simp only [Bool.and_eq_true, decide_eq_true_eq, List.all_eq_true, cnt_le]
 constructor
 · rintro ⟨⟨⟨⟨⟨h1, h2⟩, h3⟩, h4⟩, h5⟩, h6⟩
   exact ⟨by omega, by omega, by omega, by omega, h5, h6⟩
 · intro h
   have := h.cond
   have := h.beg
   have := h.fin
   have := h.aga
   exact ⟨⟨⟨⟨⟨by omega, by omega⟩, by omega⟩, by omega⟩, h.exc⟩, h.names⟩
/- names in conditions are short, too -/
end Go.Proofs.YtbicmjmcdnkjhaaGreatDoor
