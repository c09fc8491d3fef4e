/- Provisions that came in: which of them can be written; what the printer answers: plain functions. What the printer answers, as a plain function; its laws. Conditions and provisions with whatever numbers, in memory. -/
import Derived.Test.YtbicmjmcdnkjhaaGreatDoorJNN5
import Derived.Test.YtbicmjmcdnkjhaaGreatDoorJNN6
import Derived.Test.YtbicmjmcdnkjhaaGreatDoorJNN1
set_option linter.unusedVariables false
set_option linter.unusedSimpArgs false
namespace Go.Proofs.YtbicmjmcdnkjhaaGreatDoor
/- conditions with whatever numbers -/
inductive TreeI where
 | mk (op : Int) (name : List UInt8) (cmp n : Int) (kids : List TreeI)
mutual
def up : Tree → TreeI
 | .mk op name cmp n ks => .mk op name cmp n (ups ks)
def ups : List Tree → List TreeI
 | [] => []
 | k :: r => up k :: ups r
end
mutual
def down : TreeI → Tree
 | .mk op name cmp n ks => .mk op.toNat name cmp.toNat n.toNat (downs ks)
def downs : List TreeI → List Tree
 | [] => []
 | k :: r => down k :: downs r
end
mutual
theorem down_up : ∀ t : Tree, down (up t) = t
 | .mk op name cmp n ks => by rw [up, down, downs_ups ks]; rfl
theorem downs_ups : ∀ ks : List Tree, downs (ups ks) = ks
 | [] => by rw [ups, downs]
 | k :: r => by rw [ups, downs, down_up k, downs_ups r]
end
theorem ups_len : ∀ ks : List Tree, (ups ks).length = ks.length
 | [] => by rw [ups]; rfl
 | k :: r => by rw [ups, List.length_cons, List.length_cons, ups_len r]
/- the nodes of a formula are as required: what is left is counted down -/
def testI (op cmp n : Int) : Bool := op == 3 && decide (1 ≤ cmp) && decide (cmp ≤ 6) && decide (0 ≤ n) && decide (n ≤ 1000000)
def refF (op : Int) (name : List UInt8) (cmp n : Int) : Bool := !testI op cmp n && (op == 3 || cmp != 0 || n != 0) || name != [] && op != 3 && op != 4
mutual
def formI : TreeI → Int → Int → Bool × Int
 | .mk op name cmp n ks, l, d =>
   if l - 1 < 0 ∨ d = 0 ∨ refF op name cmp n = true then (false, l - 1)
   else if op = 1 ∨ op = 2 ∨ op = 3 ∨ op = 4 then (decide (ks.length = 0), l - 1)
   else if op = 5 ∧ ks.length = 1 ∨ (op = 6 ∨ op = 7) ∧ 2 ≤ ks.length then formsI ks (l - 1) (d - 1)
   else (false, l - 1)
def formsI : List TreeI → Int → Int → Bool × Int
 | [], l, _ => (true, l)
 | k :: r, l, d => if (formI k l d).1 = true then formsI r (formI k l d).2 d else (false, (formI k l d).2)
end
def refS (op : Int) (name : List UInt8) (n : Int) : Bool := name != [] && !(decide (4 ≤ op) && decide (op ≤ 7)) || op != 3 && n != 0 || decide (n < 0) || decide (1000000 < n)
mutual
def startI : TreeI → Int → Int → Bool × Int
 | .mk op name _ n ks, l, d =>
   if l - 1 < 0 ∨ d = 0 ∨ refS op name n = true then (false, l - 1)
   else if op = 8 ∨ op = 9 then (if 2 ≤ ks.length then startsI ks (l - 1) (d - 1) else (false, l - 1))
   else if 1 ≤ op ∧ op ≤ 7 then (decide (ks.length = 0), l - 1)
   else (false, l - 1)
def startsI : List TreeI → Int → Int → Bool × Int
 | [], l, _ => (true, l)
 | k :: r, l, d => if (startI k l d).1 = true then startsI r (startI k l d).2 d else (false, (startI k l d).2)
end
/- a start has no sign: cmp is 0 all through -/
mutual
def plainS : TreeI → Prop
 | .mk _ _ cmp _ ks => cmp = 0 ∧ plainSs ks
def plainSs : List TreeI → Prop
 | [] => True
 | k :: r => plainS k ∧ plainSs r
end
/- the same, of conditions with natural numbers; the names apart -/
mutual
def shapeF : Tree → Bool
 | .mk op name cmp n ks =>
   (if op = 3 then decide (1 ≤ cmp) && decide (cmp ≤ 6) && decide (n ≤ 1000000) else decide (cmp = 0) && decide (n = 0)) &&
   (if op = 3 ∨ op = 4 then true else decide (name = [])) &&
   (if op = 1 ∨ op = 2 ∨ op = 3 ∨ op = 4 then decide (ks.length = 0) else if op = 5 then decide (ks.length = 1) else if op = 6 ∨ op = 7 then decide (2 ≤ ks.length) else false) && shapeFs ks
def shapeFs : List Tree → Bool
 | [] => true
 | k :: r => shapeF k && shapeFs r
end
mutual
def shapeS : Tree → Bool
 | .mk op name cmp n ks =>
   (decide (cmp = 0) && (if op = 3 then decide (n ≤ 1000000) else decide (n = 0))) &&
   (if op = 4 ∨ op = 5 ∨ op = 6 ∨ op = 7 then true else decide (name = [])) &&
   (if op = 8 ∨ op = 9 then decide (2 ≤ ks.length) else if 1 ≤ op ∧ op ≤ 7 then decide (ks.length = 0) else false) && shapeSs ks
def shapeSs : List Tree → Bool
 | [] => true
 | k :: r => shapeS k && shapeSs r
end
mutual
def namesF : Tree → List Bytes
 | .mk op name _ _ ks => (if op = 3 ∨ op = 4 then [name] else []) ++ namesFs ks
def namesFs : List Tree → List Bytes
 | [] => []
 | k :: r => namesF k ++ namesFs r
end
mutual
def namesS : Tree → List Bytes
 | .mk op name _ _ ks => (if op = 4 ∨ op = 5 ∨ op = 6 ∨ op = 7 then [name] else []) ++ namesSs ks
def namesSs : List Tree → List Bytes
 | [] => []
 | k :: r => namesS k ++ namesSs r
end
mutual
theorem okF_eq : ∀ t : Tree, okF t = (shapeF t && (namesF t).all nameOk)
 | .mk op name cmp n ks => by
   rw [okF, shapeF, namesF, okFs_eq ks, List.all_append]
   by_cases h : op = 3 ∨ op = 4
   · rw [if_pos h, if_pos h, if_pos h]
     simp only [List.all_cons, List.all_nil, Bool.and_true]
     cases nameOk name <;> cases shapeFs ks <;> cases (namesFs ks).all nameOk <;> simp
   · rw [if_neg h, if_neg h, if_neg h]
     simp only [List.all_nil, Bool.true_and, Bool.and_assoc]
theorem okFs_eq : ∀ ks : List Tree, okFs ks = (shapeFs ks && (namesFs ks).all nameOk)
 | [] => by rw [okFs, shapeFs, namesFs]; rfl
 | k :: r => by
   rw [okFs, shapeFs, namesFs, okF_eq k, okFs_eq r, List.all_append]
   cases shapeF k <;> cases shapeFs r <;> cases (namesF k).all nameOk <;> cases (namesFs r).all nameOk <;> rfl
end
mutual
theorem okS_eq : ∀ t : Tree, okS t = (shapeS t && (namesS t).all nameOk)
 | .mk op name cmp n ks => by
   rw [okS, shapeS, namesS, okSs_eq ks, List.all_append]
   by_cases h : op = 4 ∨ op = 5 ∨ op = 6 ∨ op = 7
   · rw [if_pos h, if_pos h, if_pos h]
     simp only [List.all_cons, List.all_nil, Bool.and_true]
     cases nameOk name <;> cases shapeSs ks <;> cases (namesSs ks).all nameOk <;> simp
   · rw [if_neg h, if_neg h, if_neg h]
     simp only [List.all_nil, Bool.true_and, Bool.and_assoc]
theorem okSs_eq : ∀ ks : List Tree, okSs ks = (shapeSs ks && (namesSs ks).all nameOk)
 | [] => by rw [okSs, shapeSs, namesSs]; rfl
 | k :: r => by
   rw [okSs, shapeSs, namesSs, okS_eq k, okSs_eq r, List.all_append]
   cases shapeS k <;> cases shapeSs r <;> cases (namesS k).all nameOk <;> cases (namesSs r).all nameOk <;> rfl
end
mutual
theorem okF_eqS : ∀ t : Tree, So.okF t = (shapeF t && (namesF t).all So.nameOk)
 | .mk op name cmp n ks => by
   rw [So.okF, shapeF, namesF, okFs_eqS ks, List.all_append]
   by_cases h : op = 3 ∨ op = 4
   · rw [if_pos h, if_pos h, if_pos h]
     simp only [List.all_cons, List.all_nil, Bool.and_true]
     cases So.nameOk name <;> cases shapeFs ks <;> cases (namesFs ks).all So.nameOk <;> simp
   · rw [if_neg h, if_neg h, if_neg h]
     simp only [List.all_nil, Bool.true_and, Bool.and_assoc]
theorem okFs_eqS : ∀ ks : List Tree, So.okFs ks = (shapeFs ks && (namesFs ks).all So.nameOk)
 | [] => by rw [So.okFs, shapeFs, namesFs]; rfl
 | k :: r => by
   rw [So.okFs, shapeFs, namesFs, okF_eqS k, okFs_eqS r, List.all_append]
   cases shapeF k <;> cases shapeFs r <;> cases (namesF k).all So.nameOk <;> cases (namesFs r).all So.nameOk <;> rfl
end
mutual
theorem okS_eqS : ∀ t : Tree, So.okS t = (shapeS t && (namesS t).all So.nameOk)
 | .mk op name cmp n ks => by
   rw [So.okS, shapeS, namesS, okSs_eqS ks, List.all_append]
   by_cases h : op = 4 ∨ op = 5 ∨ op = 6 ∨ op = 7
   · rw [if_pos h, if_pos h, if_pos h]
     simp only [List.all_cons, List.all_nil, Bool.and_true]
     cases So.nameOk name <;> cases shapeSs ks <;> cases (namesSs ks).all So.nameOk <;> simp
   · rw [if_neg h, if_neg h, if_neg h]
     simp only [List.all_nil, Bool.true_and, Bool.and_assoc]
theorem okSs_eqS : ∀ ks : List Tree, So.okSs ks = (shapeSs ks && (namesSs ks).all So.nameOk)
 | [] => by rw [So.okSs, shapeSs, namesSs]; rfl
 | k :: r => by
   rw [So.okSs, shapeSs, namesSs, okS_eqS k, okSs_eqS r, List.all_append]
   cases shapeS k <;> cases shapeSs r <;> cases (namesS k).all So.nameOk <;> cases (namesSs r).all So.nameOk <;> rfl
end
/- what is as required is a condition with natural numbers; its nodes are counted -/
theorem refF_no {op : Int} {name : List UInt8} {cmp n : Int} (h : refF op name cmp n = false) : (if op = 3 then 1 ≤ cmp ∧ cmp ≤ 6 ∧ 0 ≤ n ∧ n ≤ 1000000 else cmp = 0 ∧ n = 0) ∧ (op = 3 ∨ op = 4 ∨ name = []) := by
 unfold refF testI at h
 simp only [Bool.or_eq_false_iff, Bool.and_eq_false_iff, Bool.not_eq_false', Bool.and_eq_true, decide_eq_true_eq, beq_iff_eq, bne_eq_false_iff_eq, beq_eq_false_iff_ne] at h
 obtain ⟨h1, h2⟩ := h
 constructor
 · split
   · rename_i h3
     rcases h1 with h1 | h1
     · exact ⟨h1.1.1.1.2, h1.1.1.2, h1.1.2, h1.2⟩
     · exact absurd h3 h1.1.1
   · rename_i h3
     rcases h1 with h1 | h1
     · exact absurd h1.1.1.1.1 h3
     · exact ⟨h1.1.2, h1.2⟩
 · rcases h2 with (h2 | h2) | h2
   · exact Or.inr (Or.inr h2)
   · exact Or.inl h2
   · exact Or.inr (Or.inl h2)
mutual
theorem formI_true : ∀ (t : TreeI) (l d : Int), 0 ≤ d → (formI t l d).1 = true → ∃ t', t = up t' ∧ shapeF t' = true ∧ (t'.size : Int) ≤ l ∧ (t'.deep : Int) ≤ d ∧ (formI t l d).2 = l - t'.size
 | .mk op name cmp n ks, l, d, hd, h => by
   rw [formI] at h ⊢
   by_cases h0 : l - 1 < 0 ∨ d = 0 ∨ refF op name cmp n = true
   · rw [if_pos h0] at h; cases h
   rw [if_neg h0] at h ⊢
   simp only [not_or, Bool.not_eq_true] at h0
   obtain ⟨hl, hd0, hr⟩ := h0
   obtain ⟨r1, r2⟩ := refF_no hr
   have hc : 0 ≤ cmp ∧ 0 ≤ n := by split at r1 <;> omega
   by_cases h1 : op = 1 ∨ op = 2 ∨ op = 3 ∨ op = 4
   · rw [if_pos h1] at h ⊢
     have hk : ks = [] := by simpa using h
     subst hk
     refine ⟨.mk op.toNat name cmp.toNat n.toNat [], ?_, ?_, ?_, ?_, ?_⟩
     · rw [up, ups]
       congr 1 <;> omega
     · rw [shapeF, shapeFs]
       have e1 : op.toNat = 1 ∨ op.toNat = 2 ∨ op.toNat = 3 ∨ op.toNat = 4 := by omega
       rw [if_pos e1]
       by_cases h3 : op = 3
       · have e3 : op.toNat = 3 := by omega
         rw [if_pos h3] at r1
         rw [if_pos e3, if_pos (Or.inl e3)]
         simp
         omega
       · have e3 : op.toNat ≠ 3 := by omega
         rw [if_neg h3] at r1
         rw [if_neg e3]
         by_cases h4 : op = 4
         · rw [if_pos (Or.inr (by omega))]
           simp
           omega
         · rw [if_neg (by omega)]
           have : name = [] := by rcases r2 with r2 | r2 | r2 <;> first | exact r2 | omega
           subst this
           simp
           omega
     · rw [Tree.size, sizes]; omega
     · rw [Tree.deep, deeps]; omega
     · rw [Tree.size, sizes]; rfl
   · rw [if_neg h1] at h ⊢
     by_cases h2 : op = 5 ∧ ks.length = 1 ∨ (op = 6 ∨ op = 7) ∧ 2 ≤ ks.length
     · rw [if_pos h2] at h ⊢
       obtain ⟨ks', e1, e2, e3, e4, e5⟩ := formsI_true ks (l - 1) (d - 1) (by omega) (by omega) h
       have hlen : ks.length = ks'.length := by rw [e1, ups_len]
       refine ⟨.mk op.toNat name cmp.toNat n.toNat ks', ?_, ?_, ?_, ?_, ?_⟩
       · rw [up, ← e1]
         congr 1 <;> omega
       · rw [shapeF, e2]
         have e6 : ¬ (op.toNat = 1 ∨ op.toNat = 2 ∨ op.toNat = 3 ∨ op.toNat = 4) := by omega
         have e3 : op.toNat ≠ 3 := by omega
         rw [if_neg (by omega)] at r1
         rw [if_neg e6, if_neg e3, if_neg (by omega)]
         have : name = [] := by rcases r2 with r2 | r2 | r2 <;> first | exact r2 | omega
         subst this
         rcases h2 with ⟨h5, h6⟩ | ⟨h5, h6⟩
         · rw [if_pos (by omega)]
           simp
           omega
         · rw [if_neg (by omega), if_pos (by omega)]
           simp
           omega
       · rw [Tree.size]; omega
       · rw [Tree.deep]; omega
       · rw [Tree.size, e5]; omega
     · rw [if_neg h2] at h; cases h
theorem formsI_true : ∀ (ks : List TreeI) (l d : Int), 0 ≤ d → 0 ≤ l → (formsI ks l d).1 = true → ∃ ks', ks = ups ks' ∧ shapeFs ks' = true ∧ (sizes ks' : Int) ≤ l ∧ ((deeps ks' : Nat) : Int) ≤ d ∧ (formsI ks l d).2 = l - sizes ks'
 | [], l, d, hd, hl, h => ⟨[], by rw [ups], by rw [shapeFs], by rw [sizes]; omega, by rw [deeps]; omega, by rw [formsI, sizes]; simp⟩
 | k :: r, l, d, hd, hl, h => by
   rw [formsI] at h ⊢
   by_cases hk : (formI k l d).1 = true
   · rw [if_pos hk] at h ⊢
     obtain ⟨k', a1, a2, a3, a4, a5⟩ := formI_true k l d hd hk
     obtain ⟨r', b1, b2, b3, b4, b5⟩ := formsI_true r _ d hd (by omega) h
     refine ⟨k' :: r', by rw [ups, a1, b1], by rw [shapeFs, a2, b2]; rfl, by rw [sizes]; omega, by rw [deeps]; omega, by rw [b5, a5, sizes]; omega⟩
   · rw [if_neg hk] at h; cases h
end
theorem refS_no {op : Int} {name : List UInt8} {n : Int} (h : refS op name n = false) : (4 ≤ op ∧ op ≤ 7 ∨ name = []) ∧ (op = 3 ∨ n = 0) ∧ 0 ≤ n ∧ n ≤ 1000000 := by
 unfold refS at h
 simp only [Bool.or_eq_false_iff, Bool.and_eq_false_iff, Bool.not_eq_false', Bool.and_eq_true, decide_eq_true_eq, decide_eq_false_iff_not, bne_eq_false_iff_eq] at h
 obtain ⟨⟨⟨h1, h2⟩, h3⟩, h4⟩ := h
 refine ⟨?_, h2, by omega, by omega⟩
 rcases h1 with h1 | h1
 · exact Or.inr h1
 · exact Or.inl h1
mutual
theorem startI_true : ∀ (t : TreeI) (l d : Int), 0 ≤ d → plainS t → (startI t l d).1 = true → ∃ t', t = up t' ∧ shapeS t' = true ∧ (t'.size : Int) ≤ l ∧ (t'.deep : Int) ≤ d ∧ (startI t l d).2 = l - t'.size
 | .mk op name cmp n ks, l, d, hd, hp, h => by
   rw [plainS] at hp
   obtain ⟨rfl, hp⟩ := hp
   rw [startI] at h ⊢
   by_cases h0 : l - 1 < 0 ∨ d = 0 ∨ refS op name n = true
   · rw [if_pos h0] at h; cases h
   rw [if_neg h0] at h ⊢
   simp only [not_or, Bool.not_eq_true] at h0
   obtain ⟨hl, hd0, hr⟩ := h0
   obtain ⟨r1, r2, r3, r4⟩ := refS_no hr
   by_cases h8 : op = 8 ∨ op = 9
   · rw [if_pos h8] at h ⊢
     by_cases h2 : 2 ≤ ks.length
     · rw [if_pos h2] at h ⊢
       obtain ⟨ks', e1, e2, e3, e4, e5⟩ := startsI_true ks (l - 1) (d - 1) (by omega) (by omega) hp h
       have hlen : ks.length = ks'.length := by rw [e1, ups_len]
       refine ⟨.mk op.toNat name 0 n.toNat ks', ?_, ?_, ?_, ?_, ?_⟩
       · rw [up, ← e1]
         congr 1 <;> omega
       · rw [shapeS, e2]
         have : name = [] := by rcases r1 with r1 | r1 <;> first | exact r1 | omega
         subst this
         rw [if_neg (by omega), if_neg (by omega), if_pos (by omega)]
         simp
         omega
       · rw [Tree.size]; omega
       · rw [Tree.deep]; omega
       · rw [Tree.size, e5]; omega
     · rw [if_neg h2] at h; cases h
   · rw [if_neg h8] at h ⊢
     by_cases h1 : 1 ≤ op ∧ op ≤ 7
     · rw [if_pos h1] at h ⊢
       have hk : ks = [] := by simpa using h
       subst hk
       refine ⟨.mk op.toNat name 0 n.toNat [], ?_, ?_, ?_, ?_, ?_⟩
       · rw [up, ups]
         congr 1 <;> omega
       · rw [shapeS, shapeSs]
         rw [if_neg (show ¬ (op.toNat = 8 ∨ op.toNat = 9) by omega), if_pos (show 1 ≤ op.toNat ∧ op.toNat ≤ 7 by omega)]
         by_cases h4 : 4 ≤ op
         · rw [if_pos (show op.toNat = 4 ∨ op.toNat = 5 ∨ op.toNat = 6 ∨ op.toNat = 7 by omega), if_neg (by omega)]
           simp
           omega
         · have : name = [] := by rcases r1 with r1 | r1 <;> first | exact r1 | omega
           subst this
           rw [if_neg (show ¬ (op.toNat = 4 ∨ op.toNat = 5 ∨ op.toNat = 6 ∨ op.toNat = 7) by omega)]
           by_cases h3 : op = 3
           · rw [if_pos (by omega)]
             simp
             omega
           · rw [if_neg (by omega)]
             simp
             omega
       · rw [Tree.size, sizes]; omega
       · rw [Tree.deep, deeps]; omega
       · rw [Tree.size, sizes]; rfl
     · rw [if_neg h1] at h; cases h
theorem startsI_true : ∀ (ks : List TreeI) (l d : Int), 0 ≤ d → 0 ≤ l → plainSs ks → (startsI ks l d).1 = true → ∃ ks', ks = ups ks' ∧ shapeSs ks' = true ∧ (sizes ks' : Int) ≤ l ∧ ((deeps ks' : Nat) : Int) ≤ d ∧ (startsI ks l d).2 = l - sizes ks'
 | [], l, d, hd, hl, hp, h => ⟨[], by rw [ups], by rw [shapeSs], by rw [sizes]; omega, by rw [deeps]; omega, by rw [startsI, sizes]; simp⟩
 | k :: r, l, d, hd, hl, hp, h => by
   rw [plainSs] at hp
   rw [startsI] at h ⊢
   by_cases hk : (startI k l d).1 = true
   · rw [if_pos hk] at h ⊢
     obtain ⟨k', a1, a2, a3, a4, a5⟩ := startI_true k l d hd hp.1 hk
     obtain ⟨r', b1, b2, b3, b4, b5⟩ := startsI_true r _ d hd (by omega) hp.2 h
     refine ⟨k' :: r', by rw [ups, a1, b1], by rw [shapeSs, a2, b2]; rfl, by rw [sizes]; omega, by rw [deeps]; omega, by rw [b5, a5, sizes]; omega⟩
   · rw [if_neg hk] at h; cases h
end
end Go.Proofs.YtbicmjmcdnkjhaaGreatDoor
namespace Go.Proofs.YtbicmjmcdnkjhaaGreatDoor
mutual
theorem formI_up : ∀ (t : Tree) (l d : Int), shapeF t = true → (t.size : Int) ≤ l → (t.deep : Int) ≤ d → formI (up t) l d = (true, l - t.size)
 | .mk op name cmp n ks, l, d, hs, hl, hd => by
   rw [shapeF] at hs
   simp only [Bool.and_eq_true] at hs
   obtain ⟨⟨⟨h1, h2⟩, h3⟩, h4⟩ := hs
   rw [Tree.size] at hl ⊢
   rw [Tree.deep] at hd
   rw [up, formI]
   have hr : refF op name cmp n = false := by
    unfold refF testI
    by_cases o3 : op = 3
    · rw [if_pos o3] at h1
      simp only [Bool.and_eq_true, decide_eq_true_eq] at h1
      subst o3
      have e1 : (1 : Int) ≤ cmp := by omega
      have e2 : (cmp : Int) ≤ 6 := by omega
      have e3 : (n : Int) ≤ 1000000 := by omega
      simp [e1, e2, e3]
    · rw [if_neg o3] at h1
      simp only [Bool.and_eq_true, decide_eq_true_eq] at h1
      obtain ⟨rfl, rfl⟩ := h1
      have e1 : ¬ (op : Int) = 3 := by omega
      by_cases o4 : op = 4
      · subst o4
        simp
      · have e4 : ¬ (op : Int) = 4 := by omega
        rw [if_neg (by omega)] at h2
        have : name = [] := by simpa using h2
        subst this
        simp [e1, e4]
   rw [if_neg (by simp only [not_or, Bool.not_eq_true]; exact ⟨by omega, by omega, hr⟩), ups_len]
   by_cases o1 : op = 1 ∨ op = 2 ∨ op = 3 ∨ op = 4
   · rw [if_pos o1] at h3
     have : ks = [] := by simpa using h3
     subst this
     rw [if_pos (by omega), sizes]
     simp
   · rw [if_neg o1] at h3
     rw [if_neg (by omega), if_pos, formsI_up ks (l - 1) (d - 1) h4 (by omega) (by omega)]
     · apply Prod.ext
       · rfl
       · show l - 1 - _ = _
         omega
     · split at h3
       · have : ks.length = 1 := by simpa using h3
         omega
       · split at h3
         · have : 2 ≤ ks.length := by simpa using h3
           omega
         · cases h3
theorem formsI_up : ∀ (ks : List Tree) (l d : Int), shapeFs ks = true → (sizes ks : Int) ≤ l → ((deeps ks : Nat) : Int) ≤ d → formsI (ups ks) l d = (true, l - sizes ks)
 | [], l, d, _, _, _ => by rw [ups, formsI, sizes]; simp
 | k :: r, l, d, hs, hl, hd => by
   rw [shapeFs, Bool.and_eq_true] at hs
   rw [sizes] at hl ⊢
   rw [deeps] at hd
   rw [ups, formsI, formI_up k l d hs.1 (by omega) (by omega)]
   simp only [if_true]
   rw [formsI_up r _ d hs.2 (by omega) (by omega)]
   apply Prod.ext
   · rfl
   · show l - k.size - sizes r = _
     omega
end
mutual
theorem startI_up : ∀ (t : Tree) (l d : Int), shapeS t = true → (t.size : Int) ≤ l → (t.deep : Int) ≤ d → startI (up t) l d = (true, l - t.size)
 | .mk op name cmp n ks, l, d, hs, hl, hd => by
   rw [shapeS] at hs
   simp only [Bool.and_eq_true, decide_eq_true_eq] at hs
   obtain ⟨⟨⟨⟨hc, h1⟩, h2⟩, h3⟩, h4⟩ := hs
   rw [Tree.size] at hl ⊢
   rw [Tree.deep] at hd
   rw [up, startI]
   have hn : op = 3 ∧ n ≤ 1000000 ∨ op ≠ 3 ∧ n = 0 := by
    split at h1
    · exact Or.inl ⟨by assumption, by simpa using h1⟩
    · exact Or.inr ⟨by assumption, by simpa using h1⟩
   have hm : 4 ≤ op ∧ op ≤ 7 ∨ name = [] := by
    split at h2
    · exact Or.inl (by omega)
    · exact Or.inr (by simpa using h2)
   have hr : refS op name n = false := by
    unfold refS
    have e1 : ¬ (n : Int) < 0 := by omega
    have e2 : ¬ (1000000 : Int) < n := by omega
    have e3 : (op != (3 : Int) && (n : Int) != 0) = false := by
     rcases hn with ⟨a, b⟩ | ⟨a, b⟩
     · subst a; rfl
     · subst b; simp
    have e4 : (name != [] && !(decide ((4 : Int) ≤ op) && decide ((op : Int) ≤ 7))) = false := by
     rcases hm with ⟨a, b⟩ | a
     · have a1 : (4 : Int) ≤ op := by omega
       have a2 : (op : Int) ≤ 7 := by omega
       simp [a1, a2]
     · subst a; rfl
    have e3' : (((op : Nat) : Int) != 3 && ((n : Nat) : Int) != 0) = false := e3
    rw [e4, e3', decide_eq_false e1, decide_eq_false e2]
    rfl
   rw [if_neg (by simp only [not_or, Bool.not_eq_true]; exact ⟨by omega, by omega, hr⟩), ups_len]
   by_cases o8 : op = 8 ∨ op = 9
   · rw [if_pos o8] at h3
     have : 2 ≤ ks.length := by simpa using h3
     rw [if_pos (by omega), if_pos this, startsI_up ks (l - 1) (d - 1) h4 (by omega) (by omega)]
     apply Prod.ext
     · rfl
     · show l - 1 - _ = _
       omega
   · rw [if_neg o8] at h3
     split at h3
     · have : ks = [] := by simpa using h3
       subst this
       rw [if_neg (by omega), if_pos (by omega), sizes]
       simp
     · cases h3
theorem startsI_up : ∀ (ks : List Tree) (l d : Int), shapeSs ks = true → (sizes ks : Int) ≤ l → ((deeps ks : Nat) : Int) ≤ d → startsI (ups ks) l d = (true, l - sizes ks)
 | [], l, d, _, _, _ => by rw [ups, startsI, sizes]; simp
 | k :: r, l, d, hs, hl, hd => by
   rw [shapeSs, Bool.and_eq_true] at hs
   rw [sizes] at hl ⊢
   rw [deeps] at hd
   rw [ups, startsI, startI_up k l d hs.1 (by omega) (by omega)]
   simp only [if_true]
   rw [startsI_up r _ d hs.2 (by omega) (by omega)]
   apply Prod.ext
   · rfl
   · show l - k.size - sizes r = _
     omega
end
/- provisions -/
structure ProvI where
 id : List UInt8
 rank : Int
 kind : Int
 name : List UInt8
 value : Int
 cond : TreeI
 exc : List (List UInt8)
 beg : TreeI
 fin : TreeI
 aga : TreeI
def upP (p : Prov) : ProvI := ⟨p.id, p.rank, p.kind, p.name, p.value, up p.cond, p.exc, up p.beg, up p.fin, up p.aga⟩
def downP (p : ProvI) : Prov := ⟨p.id, p.rank.toNat, p.kind.toNat, p.name, p.value.toNat, down p.cond, p.exc, down p.beg, down p.fin, down p.aga⟩
theorem down_upP (p : Prov) : downP (upP p) = p := by
 cases p
 simp only [downP, upP, down_up, Int.toNat_natCast]
def refP (p : ProvI) : Bool := decide (p.rank < 1) || decide (4 < p.rank) || (p.kind != 1 && p.kind != 2) || decide (p.value < 0) || decide (1000000 < p.value) || (p.kind == 1 && p.value != 0) || decide (20 < p.exc.length)
def writtenI (p : ProvI) : Bool := !refP p && decide p.exc.Nodup && (formI p.cond 200 20).1 && (startI p.beg 200 20).1 && (startI p.fin 200 20).1 && (startI p.aga 200 20).1
/- what can be written, but for the names -/
structure WrOk (p : Prov) : Prop where
 rank : 1 ≤ p.rank ∧ p.rank ≤ 4
 kind : p.kind = 1 ∧ p.value = 0 ∨ p.kind = 2
 value : p.value ≤ 1000000
 cond : shapeF p.cond = true
 condS : small p.cond = true
 excN : p.exc.Nodup
 excL : p.exc.length ≤ 20
 beg : shapeS p.beg = true
 begS : small p.beg = true
 fin : shapeS p.fin = true
 finS : small p.fin = true
 aga : shapeS p.aga = true
 agaS : small p.aga = true
def namesP (p : Prov) : List Bytes := p.id :: p.name :: (p.exc ++ (namesF p.cond ++ (namesS p.beg ++ (namesS p.fin ++ namesS p.aga))))
theorem ok_wr {p : Prov} : WriteOk p ↔ WrOk p ∧ ∀ s ∈ namesP p, nameOk s = true := by
 constructor
 · intro h
   have h1 := h.cond
   have h2 := h.beg
   have h3 := h.fin
   have h4 := h.aga
   rw [okF_eq, Bool.and_eq_true, List.all_eq_true] at h1
   rw [okS_eq, Bool.and_eq_true, List.all_eq_true] at h2 h3 h4
   refine ⟨⟨h.rank, h.kind, h.value, h1.1, h.condS, h.excN, h.excL, h2.1, h.begS, h3.1, h.finS, h4.1, h.agaS⟩, fun s hs => ?_⟩
   unfold namesP at hs
   simp only [List.mem_cons, List.mem_append] at hs
   rcases hs with rfl | rfl | hs | hs | hs | hs | hs
   · exact h.id
   · exact h.name
   · exact h.exc s hs
   · exact h1.2 s hs
   · exact h2.2 s hs
   · exact h3.2 s hs
   · exact h4.2 s hs
 · intro ⟨h, hn⟩
   unfold namesP at hn
   simp only [List.mem_cons, List.mem_append] at hn
   refine ⟨h.rank, hn _ (Or.inl rfl), h.kind, hn _ (Or.inr (Or.inl rfl)), h.value, ?_, h.condS, fun s hs => hn s (Or.inr (Or.inr (Or.inl hs))), h.excN, h.excL, ?_, h.begS, ?_, h.finS, ?_, h.agaS⟩
   · rw [okF_eq, Bool.and_eq_true, List.all_eq_true]; exact ⟨h.cond, fun s hs => hn s (by simp [hs])⟩
   · rw [okS_eq, Bool.and_eq_true, List.all_eq_true]; exact ⟨h.beg, fun s hs => hn s (by simp [hs])⟩
   · rw [okS_eq, Bool.and_eq_true, List.all_eq_true]; exact ⟨h.fin, fun s hs => hn s (by simp [hs])⟩
   · rw [okS_eq, Bool.and_eq_true, List.all_eq_true]; exact ⟨h.aga, fun s hs => hn s (by simp [hs])⟩
theorem ok_wrS {p : Prov} : So.WriteOk p ↔ WrOk p ∧ ∀ s ∈ namesP p, So.nameOk s = true := by
 constructor
 · intro h
   have h1 := h.cond
   have h2 := h.beg
   have h3 := h.fin
   have h4 := h.aga
   rw [okF_eqS, Bool.and_eq_true, List.all_eq_true] at h1
   rw [okS_eqS, Bool.and_eq_true, List.all_eq_true] at h2 h3 h4
   refine ⟨⟨h.rank, h.kind, h.value, h1.1, h.condS, h.excN, h.excL, h2.1, h.begS, h3.1, h.finS, h4.1, h.agaS⟩, fun s hs => ?_⟩
   unfold namesP at hs
   simp only [List.mem_cons, List.mem_append] at hs
   rcases hs with rfl | rfl | hs | hs | hs | hs | hs
   · exact h.id
   · exact h.name
   · exact h.exc s hs
   · exact h1.2 s hs
   · exact h2.2 s hs
   · exact h3.2 s hs
   · exact h4.2 s hs
 · intro ⟨h, hn⟩
   unfold namesP at hn
   simp only [List.mem_cons, List.mem_append] at hn
   refine ⟨h.rank, hn _ (Or.inl rfl), h.kind, hn _ (Or.inr (Or.inl rfl)), h.value, ?_, h.condS, fun s hs => hn s (Or.inr (Or.inr (Or.inl hs))), h.excN, h.excL, ?_, h.begS, ?_, h.finS, ?_, h.agaS⟩
   · rw [okF_eqS, Bool.and_eq_true, List.all_eq_true]; exact ⟨h.cond, fun s hs => hn s (by simp [hs])⟩
   · rw [okS_eqS, Bool.and_eq_true, List.all_eq_true]; exact ⟨h.beg, fun s hs => hn s (by simp [hs])⟩
   · rw [okS_eqS, Bool.and_eq_true, List.all_eq_true]; exact ⟨h.fin, fun s hs => hn s (by simp [hs])⟩
   · rw [okS_eqS, Bool.and_eq_true, List.all_eq_true]; exact ⟨h.aga, fun s hs => hn s (by simp [hs])⟩
def plainP (p : ProvI) : Prop := plainS p.beg ∧ plainS p.fin ∧ plainS p.aga
theorem small_mk {t : Tree} (h1 : (t.size : Int) ≤ 200) (h2 : (t.deep : Int) ≤ 20) : small t = true := by
 unfold small
 rw [Bool.and_eq_true, decide_eq_true_eq, decide_eq_true_eq]
 omega
theorem of_small {t : Tree} (h : small t = true) : (t.size : Int) ≤ 200 ∧ (t.deep : Int) ≤ 20 := by
 unfold small at h
 rw [Bool.and_eq_true, decide_eq_true_eq, decide_eq_true_eq] at h
 omega
theorem refP_no {p : ProvI} (h : refP p = false) : 1 ≤ p.rank ∧ p.rank ≤ 4 ∧ (p.kind = 1 ∧ p.value = 0 ∨ p.kind = 2) ∧ 0 ≤ p.value ∧ p.value ≤ 1000000 ∧ p.exc.length ≤ 20 := by
 unfold refP at h
 simp only [Bool.or_eq_false_iff, decide_eq_false_iff_not, Bool.and_eq_false_iff, bne_eq_false_iff_eq, beq_eq_false_iff_ne] at h
 obtain ⟨⟨⟨⟨⟨⟨h1, h2⟩, h3⟩, h4⟩, h5⟩, h6⟩, h7⟩ := h
 refine ⟨by omega, by omega, ?_, by omega, by omega, by omega⟩
 rcases h3 with h3 | h3
 · rcases h6 with h6 | h6
   · exact absurd h3 h6
   · exact Or.inl ⟨h3, h6⟩
 · exact Or.inr h3
theorem written_down {p : ProvI} (hp : plainP p) (h : writtenI p = true) : p = upP (downP p) ∧ WrOk (downP p) := by
 unfold writtenI at h
 simp only [Bool.and_eq_true, Bool.not_eq_true', decide_eq_true_eq] at h
 obtain ⟨⟨⟨⟨⟨h1, h2⟩, h3⟩, h4⟩, h5⟩, h6⟩ := h
 obtain ⟨r1, r2, r3, r4, r5, r6⟩ := refP_no h1
 obtain ⟨hb, hf, ha⟩ := hp
 obtain ⟨id, rank, kind, name, value, cond, exc, beg, fin, aga⟩ := p
 simp only at *
 obtain ⟨c', c1, c2, c3, c4, -⟩ := formI_true cond 200 20 (by omega) h3
 obtain ⟨b', b1, b2, b3, b4, -⟩ := startI_true beg 200 20 (by omega) hb h4
 obtain ⟨f', f1, f2, f3, f4, -⟩ := startI_true fin 200 20 (by omega) hf h5
 obtain ⟨a', a1, a2, a3, a4, -⟩ := startI_true aga 200 20 (by omega) ha h6
 subst c1 b1 f1 a1
 have hk : 0 ≤ kind := by omega
 constructor
 · simp only [downP, upP, down_up, ProvI.mk.injEq, true_and, and_true]
   refine ⟨by omega, by omega, by omega⟩
 · refine ⟨?_, ?_, ?_, ?_, ?_, h2, r6, ?_, ?_, ?_, ?_, ?_, ?_⟩ <;> simp only [downP, down_up]
   · omega
   · omega
   · omega
   · exact c2
   · exact small_mk c3 c4
   · exact b2
   · exact small_mk b3 b4
   · exact f2
   · exact small_mk f3 f4
   · exact a2
   · exact small_mk a3 a4
theorem written_up {p : Prov} (h : WrOk p) : writtenI (upP p) = true := by
 unfold writtenI
 have e1 := formI_up p.cond 200 20 h.cond (of_small h.condS).1 (of_small h.condS).2
 have e2 := startI_up p.beg 200 20 h.beg (of_small h.begS).1 (of_small h.begS).2
 have e3 := startI_up p.fin 200 20 h.fin (of_small h.finS).1 (of_small h.finS).2
 have e4 := startI_up p.aga 200 20 h.aga (of_small h.agaS).1 (of_small h.agaS).2
 have e5 : refP (upP p) = false := by
  have := h.rank
  have := h.kind
  have := h.value
  have := h.excL
  rw [show refP (upP p) = (decide ((p.rank : Int) < 1) || decide (4 < (p.rank : Int)) || (((p.kind : Nat) : Int) != 1 && ((p.kind : Nat) : Int) != 2) || decide (((p.value : Nat) : Int) < 0) || decide (1000000 < ((p.value : Nat) : Int)) || (((p.kind : Nat) : Int) == 1 && ((p.value : Nat) : Int) != 0) || decide (20 < p.exc.length)) from rfl]
  simp only [Bool.or_eq_false_iff, decide_eq_false_iff_not, Bool.and_eq_false_iff, bne_eq_false_iff_eq, beq_eq_false_iff_ne]
  refine ⟨⟨⟨⟨⟨⟨by omega, by omega⟩, ?_⟩, by omega⟩, by omega⟩, ?_⟩, by omega⟩
  · rcases h.kind with ⟨k, _⟩ | k
    · exact Or.inl (by omega)
    · exact Or.inr (by omega)
  · rcases h.kind with ⟨k, v⟩ | k
    · exact Or.inr (by omega)
    · exact Or.inl (by omega)
 have e6 : (upP p).exc.Nodup := h.excN
 rw [e5, decide_eq_true e6]
 show (!false && true && (formI (up p.cond) 200 20).1 && (startI (up p.beg) 200 20).1 && (startI (up p.fin) 200 20).1 && (startI (up p.aga) 200 20).1) = true
 rw [e1, e2, e3, e4]
 rfl
theorem lexOne_short {c : UInt8} {r : Bytes} {n v : Nat} (h : lexOne c r = .ok (1, n, v)) : n ≤ 24 := by
 unfold lexOne at h
 split at h
 · split at h
   · cases h
   · simp only [Except.ok.injEq, Prod.mk.injEq] at h
     omega
 · repeat' split at h
   all_goals first | (cases h; done) | (simp only [Except.ok.injEq, Prod.mk.injEq] at h; omega)
/- a name is one token -/
theorem one_name {s : Bytes} : (∃ t, lexF s = .ok [t] ∧ t.kind = 1 ∧ t.text = s) ↔ (coreW s).1 = 1 := by
 constructor
 · intro ⟨t, h1, h2, h3⟩
   have h4 := (lexF_ok h1).1
   have h5 := sc_ok s 0 t (by rw [h4]; simp)
   obtain ⟨c, r, e, _, _, hl⟩ := h5
   rw [h3] at e
   subst e
   unfold coreW
   simp only [hl, if_true]
   exact h2
 · intro h
   obtain ⟨c, r, k, v, rfl, hl, hc⟩ := coreW_lex (w := s) (by omega)
   rw [hc] at h
   obtain ⟨h1, h2⟩ := lexOne_start hl
   have hk : k = 1 := h
   subst hk
   have hlen := lexOne_short hl
   refine ⟨⟨1, c :: r, v, 0⟩, lexF_mk ?_ (by simp) (by simp; omega), rfl, rfl⟩
   rw [sc_tok 0 h1 h2 hl]
   have e1 : (c :: r).take (r.length + 1) = c :: r := List.take_length (l := c :: r)
   have e2 : r.drop (r.length + 1 - 1) = [] := by rw [Nat.add_sub_cancel]; exact List.drop_length
   rw [e1, e2]
   rfl
/- what the printer answers -/
def ansP (ok : Bytes → Bool) (text : Prov → Bytes) (p : ProvI) : Bytes × Nat :=
 if writtenI p = true then
  if (namesP (downP p)).all ok = true then (match lexF (text (downP p)) with | .ok _ => (text (downP p), 0) | .error _ => ([], 2)) else ([], 7)
 else ([], 1)
def northA (p : ProvI) : Bytes × Nat := ansP nameOk textN p
def southA (p : ProvI) : Bytes × Nat := ansP So.nameOk So.textS p
theorem ansP_err (ok : Bytes → Bool) (text : Prov → Bytes) (p : ProvI) (h : (ansP ok text p).2 ≠ 0) : (ansP ok text p).1 = [] ∧ ((ansP ok text p).2 = 1 ∨ (ansP ok text p).2 = 2 ∨ (ansP ok text p).2 = 7) := by
 unfold ansP at *
 by_cases h1 : writtenI p = true
 · rw [if_pos h1] at h ⊢
   by_cases h2 : (namesP (downP p)).all ok = true
   · rw [if_pos h2] at h ⊢
     cases h3 : lexF (text (downP p)) with
     | error e => exact ⟨rfl, Or.inr (Or.inl rfl)⟩
     | ok ts => rw [h3] at h; exact absurd rfl h
   · rw [if_neg h2]; exact ⟨rfl, Or.inr (Or.inr rfl)⟩
 · rw [if_neg h1]; exact ⟨rfl, Or.inl rfl⟩
theorem ansP_ok {ok : Bytes → Bool} {text : Prov → Bytes} {p : ProvI} (h : (ansP ok text p).2 = 0) : writtenI p = true ∧ (∀ s ∈ namesP (downP p), ok s = true) ∧ (∃ ts, lexF (text (downP p)) = .ok ts) ∧ (ansP ok text p).1 = text (downP p) := by
 unfold ansP at *
 by_cases h1 : writtenI p = true
 · rw [if_pos h1] at h ⊢
   by_cases h2 : (namesP (downP p)).all ok = true
   · rw [if_pos h2] at h ⊢
     cases h3 : lexF (text (downP p)) with
     | error e => rw [h3] at h; cases h
     | ok ts => exact ⟨h1, fun s hs => List.all_eq_true.1 h2 s hs, ⟨ts, rfl⟩, rfl⟩
   · rw [if_neg h2] at h; cases h
 · rw [if_neg h1] at h; cases h
end Go.Proofs.YtbicmjmcdnkjhaaGreatDoor
namespace Go.Proofs.YtbicmjmcdnkjhaaGreatDoor
open Go.RowKit
theorem new_at {w : World} {b : Nat} {o : Obj} (h : b = w.heap.size) : (w.alloc o).heap[b]? = some o := h ▸ heap_alloc_new w o
theorem kept_at {w : World} {b : Nat} {o x : Obj} (h : w.heap[b]? = some x) : (w.alloc o).heap[b]? = some x := (Below.heap_alloc _ _ _ (lt_of_heap' h)).trans h
def tszX (fm : Bool) : Nat := if fm then 5 else 4
def tcX (fm : Bool) (op : Int) (name : List UInt8) (cmp n : Int) (s : Value) : List Value :=
 match fm with
 | true => [.int .i64 op, vs name, .int .i64 cmp, .int .i64 n, s]
 | false => [.int .i64 op, vs name, .int .i64 n, s]
mutual
def RdX (fm : Bool) (w : World) (cs : List Value) : TreeI → Prop
 | .mk op name cmp n ks => ∃ A cap, cs = tcX fm op name cmp n (.slice A ks.length cap) ∧ ks.length ≤ cap ∧ (ks = [] ∨ ∃ b o, A = some ⟨b, o, none⟩ ∧ b < w.heap.size ∧ RdXs fm w b o ks)
def RdXs (fm : Bool) (w : World) (b : Nat) (o : Nat) : List TreeI → Prop
 | [] => True
 | t :: r => (∃ cs, (∀ j v, cs[j]? = some v → w.cell? ⟨b, o + j, none⟩ = some v) ∧ RdX fm w cs t) ∧ RdXs fm w b (o + tszX fm) r
end
mutual
theorem RdX.keep {fm : Bool} {w w' : World} (hb : Below w.heap.size w w') : ∀ {cs : List Value} {t : TreeI}, RdX fm w cs t → RdX fm w' cs t
 | cs, .mk op name cmp n ks, h => by
   obtain ⟨A, cap, h1, h2, h3⟩ := h
   refine ⟨A, cap, h1, h2, ?_⟩
   rcases h3 with h3 | ⟨b, o, hA, hlt, h3⟩
   · exact .inl h3
   · exact .inr ⟨b, o, hA, Nat.lt_of_lt_of_le hlt hb.size, RdXs.keep hb hlt h3⟩
theorem RdXs.keep {fm : Bool} {w w' : World} (hb : Below w.heap.size w w') {b : Nat} (hlt : b < w.heap.size) : ∀ {o : Nat} {ks : List TreeI}, RdXs fm w b o ks → RdXs fm w' b o ks
 | o, [], h => by rw [RdXs]; trivial
 | o, t :: r, h => by
   rw [RdXs] at h ⊢
   obtain ⟨⟨cs, h1, h2⟩, h3⟩ := h
   exact ⟨⟨cs, fun j v hv => (hb.cell (p := ⟨b, o + j, none⟩) hlt).trans (h1 j v hv), RdX.keep hb h2⟩, RdXs.keep hb hlt h3⟩
end
theorem RdX.len {fm : Bool} {w : World} {cs : List Value} {t : TreeI} (h : RdX fm w cs t) : cs.length = tszX fm := by
 cases t with
 | mk op name cmp n ks =>
   obtain ⟨A, cap, rfl, _⟩ := h
   cases fm <;> rfl
theorem RdX.one {fm : Bool} {w : World} {cs : List Value} {t : TreeI} (h : RdX fm w cs t) : ∀ u ∈ cs, u.oneCell' = true := by
 cases t with
 | mk op name cmp n ks =>
   obtain ⟨A, cap, rfl, _⟩ := h
   intro u hu
   cases fm <;> simp [tcX] at hu
   · rcases hu with rfl | rfl | rfl | rfl <;> rfl
   · rcases hu with rfl | rfl | rfl | rfl | rfl <;> rfl
theorem RdXs.get {fm : Bool} {w : World} {b : Nat} : ∀ {ks : List TreeI} {o k : Nat} {t : TreeI}, RdXs fm w b o ks → ks[k]? = some t → ∃ cs, (∀ j v, cs[j]? = some v → w.cell? ⟨b, o + k * tszX fm + j, none⟩ = some v) ∧ RdX fm w cs t
 | [], o, k, t, _, h => by simp at h
 | x :: r, o, 0, t, h, hx => by
   rw [RdXs] at h
   simp at hx
   subst hx
   simpa using h.1
 | x :: r, o, k + 1, t, h, hx => by
   rw [RdXs] at h
   obtain ⟨cs, h1, h2⟩ := RdXs.get (k := k) h.2 (by simpa using hx)
   refine ⟨cs, fun j v hv => ?_, h2⟩
   have := h1 j v hv
   rwa [show o + tszX fm + k * tszX fm = o + (k + 1) * tszX fm by rw [Nat.add_mul, Nat.one_mul]; omega] at this
theorem RdXs.mk {fm : Bool} {w : World} {b : Nat} : ∀ {ks : List TreeI} {o : Nat}, (∀ (k : Nat) (t : TreeI), ks[k]? = some t → ∃ cs, (∀ j v, cs[j]? = some v → w.cell? ⟨b, o + k * tszX fm + j, none⟩ = some v) ∧ RdX fm w cs t) → RdXs fm w b o ks
 | [], o, _ => by rw [RdXs]; trivial
 | x :: r, o, h => by
   rw [RdXs]
   refine ⟨by simpa using h 0 x rfl, RdXs.mk fun k t ht => ?_⟩
   obtain ⟨cs, h1, h2⟩ := h (k + 1) t (by simpa using ht)
   refine ⟨cs, fun j v hv => ?_, h2⟩
   have := h1 j v hv
   rwa [show o + (k + 1) * tszX fm = o + tszX fm + k * tszX fm by rw [Nat.add_mul, Nat.one_mul]; omega] at this
/- a provision -/
def RdPX (w : World) (cs : List Value) (p : ProvI) : Prop := ∃ cc A cap cb cf ca, cs = [vs p.id, .int .i64 p.rank, .int .i64 p.kind, vs p.name, .int .i64 p.value] ++ (cc ++ (.slice A p.exc.length cap :: (cb ++ (cf ++ ca)))) ∧ p.exc.length ≤ cap ∧
 RdX true w cc p.cond ∧ RdS w A p.exc ∧ RdX false w cb p.beg ∧ RdX false w cf p.fin ∧ RdX false w ca p.aga
theorem RdPX.keep {w w' : World} {cs : List Value} {p : ProvI} (h : RdPX w cs p) (hb : Below w.heap.size w w') : RdPX w' cs p := by
 obtain ⟨cc, A, cap, cb, cf, ca, h1, h2, h3, h4, h5, h6, h7⟩ := h
 exact ⟨cc, A, cap, cb, cf, ca, h1, h2, h3.keep hb, h4.below hb, h5.keep hb, h6.keep hb, h7.keep hb⟩
theorem RdPX.len {w : World} {cs : List Value} {p : ProvI} (h : RdPX w cs p) : cs.length = 23 := by
 obtain ⟨cc, A, cap, cb, cf, ca, rfl, h2, h3, h4, h5, h6, h7⟩ := h
 have a := h3.len
 have b := h5.len
 have c := h6.len
 have d := h7.len
 simp [a, b, c, d, tszX]
end Go.Proofs.YtbicmjmcdnkjhaaGreatDoor
