/- Formulas and conditions of the second language, written and read again. Conditions of commencement of the second language, written and read again; provisions. A provision written in the second language is read again, as a text. Provisions that came in: which of them can be written; what the printer answers: plain functions. -/
import Derived.Test.YtbicmjmcdnkjhaaGreatDoorJMM2
import Derived.Test.YtbicmjmcdnkjhaaGreatDoorJMM1
set_option linter.unusedVariables false
set_option linter.unusedSimpArgs false
namespace Go.Proofs.YtbicmjmcdnkjhaaGreatDoor
namespace So
def nameOk (s : Bytes) : Bool := (coreW s).1 == 1 && !keyF s
def cmpW : List Bytes := [[101, 113, 117, 97, 108], [117, 110, 108, 105, 107, 101], [98, 101, 108, 111, 119], [109, 111, 115, 116], [97, 98, 111, 118, 101], [108, 101, 97, 115, 116]]
abbrev wAll : Bytes := [97, 108, 108]
abbrev wAny : Bytes := [97, 110, 121]
mutual
def wF : Tree → List Bytes
 | .mk op name cmp n ks => wFs ks ++
   (if op = 1 then [[121, 101, 115]] else if op = 2 then [[110, 111]]
   else if op = 3 then [name, dec n, cmpW.getD (cmp - 1) []] else if op = 4 then [name, [100, 101, 102, 105, 110, 101, 100]]
   else if op = 5 then [[110, 101, 103, 97, 116, 101, 100]]
   else if op = 6 then [wAll, dec ks.length] else if op = 7 then [wAny, dec ks.length] else [])
def wFs : List Tree → List Bytes
 | [] => []
 | k :: r => wF k ++ wFs r
end
mutual
def okF : Tree → Bool
 | .mk op name cmp n ks =>
   (if op = 3 then decide (1 ≤ cmp) && decide (cmp ≤ 6) && decide (n ≤ 1000000) else decide (cmp = 0) && decide (n = 0)) &&
   (if op = 3 ∨ op = 4 then nameOk name else decide (name = [])) &&
   (if op = 1 ∨ op = 2 ∨ op = 3 ∨ op = 4 then decide (ks.length = 0) else if op = 5 then decide (ks.length = 1) else if op = 6 ∨ op = 7 then decide (2 ≤ ks.length) else false) && okFs ks
def okFs : List Tree → Bool
 | [] => true
 | k :: r => okF k && okFs r
end
theorem okFs_all : ∀ {ks : List Tree}, okFs ks = true → ∀ k ∈ ks, okF k = true
 | [], _, k, hk => by simp at hk
 | a :: r, h, k, hk => by
   rw [okFs, Bool.and_eq_true] at h
   rcases List.mem_cons.1 hk with rfl | hk
   · exact h.1
   · exact okFs_all h.2 k hk
theorem kids_len : ∀ (ks : List Tree), ks.length ≤ sizes ks
 | [] => by simp
 | k :: r => by rw [sizes]; have := kids_len r; have := tree_pos k; simp; omega
theorem wFs_flat : ∀ ks : List Tree, wFs ks = ks.flatMap wF
 | [] => rfl
 | k :: r => by rw [wFs, wFs_flat r, List.flatMap_cons]
end So
namespace So
def opsW : List Bytes := [[100, 101, 99, 114, 101, 101], [101, 118, 101, 110, 116], [98, 101, 103, 117, 110], [111, 118, 101, 114]]
mutual
def wS : Tree → List Bytes
 | .mk op name cmp n ks => wSs ks ++
   (if op = 1 then [[97, 108, 119, 97, 121, 115]] else if op = 2 then [[110, 101, 118, 101, 114]]
   else if op = 3 then [dec n, [100, 97, 121]] else if op = 4 ∨ op = 5 ∨ op = 6 ∨ op = 7 then [name, opsW.getD (op - 4) []]
   else if op = 8 then [wAll, dec ks.length] else if op = 9 then [wAny, dec ks.length] else [])
def wSs : List Tree → List Bytes
 | [] => []
 | k :: r => wS k ++ wSs r
end
mutual
def okS : Tree → Bool
 | .mk op name cmp n ks =>
   (decide (cmp = 0) && (if op = 3 then decide (n ≤ 1000000) else decide (n = 0))) &&
   (if op = 4 ∨ op = 5 ∨ op = 6 ∨ op = 7 then nameOk name else decide (name = [])) &&
   (if op = 8 ∨ op = 9 then decide (2 ≤ ks.length) else if 1 ≤ op ∧ op ≤ 7 then decide (ks.length = 0) else false) && okSs ks
def okSs : List Tree → Bool
 | [] => true
 | k :: r => okS k && okSs r
end
theorem okSs_all : ∀ {ks : List Tree}, okSs ks = true → ∀ k ∈ ks, okS k = true
 | [], _, k, hk => by simp at hk
 | a :: r, h, k, hk => by
   rw [okSs, Bool.and_eq_true] at h
   rcases List.mem_cons.1 hk with rfl | hk
   · exact h.1
   · exact okSs_all h.2 k hk
theorem wSs_flat : ∀ ks : List Tree, wSs ks = ks.flatMap wS
 | [] => rfl
 | k :: r => by rw [wSs, wSs_flat r, List.flatMap_cons]
/- provisions -/
def ranksS : List Bytes := [[99, 104, 97, 114, 116, 101, 114], [115, 116, 97, 116, 117, 116, 101], [111, 114, 100, 101, 114], [114, 117, 108, 101]]
abbrev wWhere : Bytes := [119, 104, 101, 114, 101]
abbrev wOver : Bytes := [111, 118, 101, 114, 114, 105, 100, 101, 115]
abbrev wStarts : Bytes := [115, 116, 97, 114, 116, 115]
abbrev wEnds : Bytes := [101, 110, 100, 115]
abbrev wRet : Bytes := [114, 101, 116, 117, 114, 110, 115]
def brW (l : List Bytes) : List Bytes := [123] :: (l ++ [[125]])
def excW (exc : List Bytes) : List Bytes := if exc = [] then [] else wOver :: [40] :: (exc ++ [[41]])
def kindW (p : Prov) : List Bytes := if p.kind = 1 then [[116, 101, 114, 109], p.name] else [[113, 117, 101, 115, 116, 105, 111, 110], p.name, [103, 105, 118, 101, 115], dec p.value]
def endW (p : Prov) : List Bytes := [[91], ranksS.getD (p.rank - 1) [], p.id, [93]]
def tail3 (p : Prov) : List Bytes := partW (p.aga.op != 2) wRet (brW (wS p.aga)) ++ endW p
def tail2 (p : Prov) : List Bytes := partW (p.fin.op != 2) wEnds (brW (wS p.fin)) ++ tail3 p
def tail1 (p : Prov) : List Bytes := partW (p.beg.op != 1) wStarts (brW (wS p.beg)) ++ tail2 p
def tail0 (p : Prov) : List Bytes := excW p.exc ++ tail1 p
def wP (p : Prov) : List Bytes := partW (p.cond.op != 1) wWhere (brW (wF p.cond)) ++ (kindW p ++ tail0 p)
structure WriteOk (p : Prov) : Prop where
 rank : 1 ≤ p.rank ∧ p.rank ≤ 4
 id : nameOk p.id = true
 kind : p.kind = 1 ∧ p.value = 0 ∨ p.kind = 2
 name : nameOk p.name = true
 value : p.value ≤ 1000000
 cond : okF p.cond = true
 condS : small p.cond = true
 exc : ∀ s ∈ p.exc, nameOk s = true
 excN : p.exc.Nodup
 excL : p.exc.length ≤ 20
 beg : okS p.beg = true
 begS : small p.beg = true
 fin : okS p.fin = true
 finS : small p.fin = true
 aga : okS p.aga = true
 agaS : small p.aga = true
end So
namespace So
theorem good_name {S : List Bytes} {s : Bytes} (h : nameOk s = true) : GoodW S s := by
 unfold nameOk at h
 rw [Bool.and_eq_true] at h
 exact Or.inl (by simpa using h.1)
def symsS : List Bytes := [[123], [125], [40], [41], [91], [93]]
theorem good_F : ∀ (s : Nat) (t : Tree), t.size ≤ s → t.size ≤ 200 → okF t = true → ∀ w ∈ wF t, GoodW symsS w
 | 0, t, h, _, _ => by have := tree_pos t; omega
 | s + 1, .mk op name cmp n ks, hs, h200, hok => by
   rw [okF] at hok
   simp only [Bool.and_eq_true] at hok
   obtain ⟨⟨⟨h1, h2⟩, h3⟩, h4⟩ := hok
   rw [Tree.size] at hs h200
   have hk := okFs_all h4
   have hkl := kids_len ks
   intro w hw
   rw [wF, wFs_flat, List.mem_append] at hw
   rcases hw with hw | hw
   · obtain ⟨k, hm, hw⟩ := List.mem_flatMap.1 hw
     exact good_F s k (by have := kid_size hm; omega) (by have := kid_size hm; omega) (hk k hm) w hw
   by_cases o1 : op = 1
   · rw [if_pos o1] at hw; rw [List.mem_singleton.1 hw]; exact gKy (by decide)
   by_cases o2 : op = 2
   · rw [if_neg o1, if_pos o2] at hw; rw [List.mem_singleton.1 hw]; exact gKy (by decide)
   by_cases o3 : op = 3
   · rw [if_neg o1, if_neg o2, if_pos o3] at hw
     rw [if_pos o3] at h1
     rw [if_pos (Or.inl o3)] at h2
     simp only [Bool.and_eq_true, decide_eq_true_eq] at h1
     simp only [List.mem_cons, List.not_mem_nil, or_false] at hw
     rcases hw with rfl | rfl | rfl
     · exact good_name h2
     · exact good_dec h1.2
     · have : cmp = 1 ∨ cmp = 2 ∨ cmp = 3 ∨ cmp = 4 ∨ cmp = 5 ∨ cmp = 6 := by omega
       rcases this with rfl | rfl | rfl | rfl | rfl | rfl <;> exact gKy (by decide)
   by_cases o4 : op = 4
   · rw [if_neg o1, if_neg o2, if_neg o3, if_pos o4] at hw
     rw [if_pos (Or.inr o4)] at h2
     simp only [List.mem_cons, List.not_mem_nil, or_false] at hw
     rcases hw with rfl | rfl
     · exact good_name h2
     · exact gKy (by decide)
   by_cases o5 : op = 5
   · rw [if_neg o1, if_neg o2, if_neg o3, if_neg o4, if_pos o5] at hw
     rw [List.mem_singleton.1 hw]; exact gKy (by decide)
   by_cases o6 : op = 6
   · rw [if_neg o1, if_neg o2, if_neg o3, if_neg o4, if_neg o5, if_pos o6] at hw
     simp only [List.mem_cons, List.not_mem_nil, or_false] at hw
     rcases hw with rfl | rfl
     · exact gKy (by decide)
     · exact good_dec (by omega)
   by_cases o7 : op = 7
   · rw [if_neg o1, if_neg o2, if_neg o3, if_neg o4, if_neg o5, if_neg o6, if_pos o7] at hw
     simp only [List.mem_cons, List.not_mem_nil, or_false] at hw
     rcases hw with rfl | rfl
     · exact gKy (by decide)
     · exact good_dec (by omega)
   · rw [if_neg o1, if_neg o2, if_neg o3, if_neg o4, if_neg o5, if_neg o6, if_neg o7] at hw
     simp at hw
theorem good_S : ∀ (s : Nat) (t : Tree), t.size ≤ s → t.size ≤ 200 → okS t = true → ∀ w ∈ wS t, GoodW symsS w
 | 0, t, h, _, _ => by have := tree_pos t; omega
 | s + 1, .mk op name cmp n ks, hs, h200, hok => by
   rw [okS] at hok
   simp only [Bool.and_eq_true] at hok
   obtain ⟨⟨⟨h1, h2⟩, h3⟩, h4⟩ := hok
   rw [Tree.size] at hs h200
   have hk := okSs_all h4
   have hkl := kids_len ks
   intro w hw
   rw [wS, wSs_flat, List.mem_append] at hw
   rcases hw with hw | hw
   · obtain ⟨k, hm, hw⟩ := List.mem_flatMap.1 hw
     exact good_S s k (by have := kid_size hm; omega) (by have := kid_size hm; omega) (hk k hm) w hw
   by_cases o1 : op = 1
   · rw [if_pos o1] at hw; rw [List.mem_singleton.1 hw]; exact gKy (by decide)
   by_cases o2 : op = 2
   · rw [if_neg o1, if_pos o2] at hw; rw [List.mem_singleton.1 hw]; exact gKy (by decide)
   by_cases o3 : op = 3
   · rw [if_neg o1, if_neg o2, if_pos o3] at hw
     have hn0 : n ≤ 1000000 := by have := h1.2; rw [if_pos o3] at this; simpa using this
     simp only [List.mem_cons, List.not_mem_nil, or_false] at hw
     rcases hw with rfl | rfl
     · exact good_dec hn0
     · exact gKy (by decide)
   by_cases o4 : op = 4 ∨ op = 5 ∨ op = 6 ∨ op = 7
   · rw [if_neg o1, if_neg o2, if_neg o3, if_pos o4] at hw
     rw [if_pos o4] at h2
     simp only [List.mem_cons, List.not_mem_nil, or_false] at hw
     rcases hw with rfl | rfl
     · exact good_name h2
     · rcases o4 with rfl | rfl | rfl | rfl <;> exact gKy (by decide)
   by_cases o8 : op = 8
   · rw [if_neg o1, if_neg o2, if_neg o3, if_neg o4, if_pos o8] at hw
     simp only [List.mem_cons, List.not_mem_nil, or_false] at hw
     rcases hw with rfl | rfl
     · exact gKy (by decide)
     · exact good_dec (by omega)
   by_cases o9 : op = 9
   · rw [if_neg o1, if_neg o2, if_neg o3, if_neg o4, if_neg o8, if_pos o9] at hw
     simp only [List.mem_cons, List.not_mem_nil, or_false] at hw
     rcases hw with rfl | rfl
     · exact gKy (by decide)
     · exact good_dec (by omega)
   · rw [if_neg o1, if_neg o2, if_neg o3, if_neg o4, if_neg o8, if_neg o9] at hw
     simp at hw
theorem small_200 {t : Tree} (h : small t = true) : t.size ≤ 200 := by
 unfold small at h
 rw [Bool.and_eq_true] at h
 simpa using h.1
theorem good_br {l : List Bytes} (h : ∀ w ∈ l, GoodW symsS w) : ∀ w ∈ brW l, GoodW symsS w := by
 intro w hw
 unfold brW at hw
 simp only [List.mem_cons, List.mem_append, List.not_mem_nil, or_false] at hw
 rcases hw with rfl | hw | rfl
 · exact good_sym (by decide)
 · exact h w hw
 · exact good_sym (by decide)
theorem good_P {p : Prov} (hp : WriteOk p) : ∀ w ∈ wP p, GoodW symsS w := by
 intro w hw
 unfold wP tail0 tail1 tail2 tail3 at hw
 simp only [List.mem_append] at hw
 rcases hw with hw | hw | hw | hw | hw | hw | hw
 · exact good_part (gKy (by decide)) (good_br (good_F _ _ (lR _) (small_200 hp.condS) hp.cond)) w hw
 · unfold kindW at hw
   split at hw
   · simp only [List.mem_cons, List.not_mem_nil, or_false] at hw
     rcases hw with rfl | rfl
     · exact gKy (by decide)
     · exact good_name hp.name
   · simp only [List.mem_cons, List.not_mem_nil, or_false] at hw
     rcases hw with rfl | rfl | rfl | rfl
     · exact gKy (by decide)
     · exact good_name hp.name
     · exact gKy (by decide)
     · exact good_dec hp.value
 · unfold excW at hw
   split at hw
   · simp at hw
   · simp only [List.mem_cons, List.mem_append, List.not_mem_nil, or_false] at hw
     rcases hw with rfl | rfl | hw | rfl
     · exact gKy (by decide)
     · exact good_sym (by decide)
     · exact good_name (hp.exc w hw)
     · exact good_sym (by decide)
 · exact good_part (gKy (by decide)) (good_br (good_S _ _ (lR _) (small_200 hp.begS) hp.beg)) w hw
 · exact good_part (gKy (by decide)) (good_br (good_S _ _ (lR _) (small_200 hp.finS) hp.fin)) w hw
 · exact good_part (gKy (by decide)) (good_br (good_S _ _ (lR _) (small_200 hp.agaS) hp.aga)) w hw
 · unfold endW at hw
   simp only [List.mem_cons, List.not_mem_nil, or_false] at hw
   rcases hw with rfl | rfl | rfl | rfl
   · exact good_sym (by decide)
   · have hr := hp.rank
     have : p.rank = 1 ∨ p.rank = 2 ∨ p.rank = 3 ∨ p.rank = 4 := by omega
     rcases this with h | h | h | h <;> rw [h] <;> exact gKy (by decide)
   · exact good_name hp.id
   · exact good_sym (by decide)
abbrev opS' : List UInt8 := [40, 91]
abbrev clS' : List UInt8 := [41, 93]
theorem lb_lex (r : Bytes) : lexOne 91 r = .ok (3, 1, 0) := by
 unfold lexOne
 rw [if_neg (by decide), if_neg (by decide), if_pos (by decide)]
theorem signsS : Signs (opS'.map fun x => [x]) (clS'.map fun x => [x]) where
 opn := by
  intro w hw
  simp only [List.map_cons, List.map_nil, List.mem_cons, List.not_mem_nil, or_false] at hw
  rcases hw with rfl | rfl
  · exact ⟨40, rfl, lp_lex⟩
  · exact ⟨91, rfl, lb_lex⟩
 cls := by
  intro w hw
  simp only [List.map_cons, List.map_nil, List.mem_cons, List.not_mem_nil, or_false] at hw
  rcases hw with rfl | rfl
  · exact ⟨41, rfl, by decide, by decide⟩
  · exact ⟨93, rfl, by decide, by decide⟩
theorem symR : ∀ w ∈ symsS, WordR opS' clS' w ∧ (coreW w).1 ≠ 0 := by
 intro w hw
 unfold symsS at hw
 simp only [List.mem_cons, List.not_mem_nil, or_false] at hw
 rcases hw with rfl | rfl | rfl | rfl | rfl | rfl <;> exact ⟨⟨by decide, by decide, by decide, by decide⟩, by decide⟩
theorem goodS {w : Bytes} (h : GoodW symsS w) : WordR opS' clS' w ∧ (coreW w).1 ≠ 0 := by
 rcases h with h | h | h
 · exact ⟨wordR_of (by decide) (by decide) (Or.inl h), by omega⟩
 · exact ⟨wordR_of (by decide) (by decide) (Or.inr h), by omega⟩
 · exact symR w h
/- the canonical text -/
def textS (p : Prov) : Bytes := glue (opS'.map fun x => [x]) (clS'.map fun x => [x]) (wP p)
theorem south_text {p : Prov} (hp : WriteOk p) : replF opS' clS' (joinB (wP p)) = textS p := (repl_glue (by decide) (by decide) (by decide) (wP p) (fun w hw => (goodS (good_P hp w hw)).1)).1
theorem south_lex {p : Prov} (hp : WriteOk p) : (∀ ts, lexF (textS p) = .ok ts → Texts (wP p) ts) ∧ ((∃ ts, lexF (textS p) = .ok ts) ↔ (textS p).length ≤ 20000 ∧ (wP p).length ≤ 5000) ∧ (∀ e, lexF (textS p) = .error e → e.1 = 2) := lexF_glue signsS (fun w hw => (goodS (good_P hp w hw)).2)
end So
/- conditions with whatever numbers -/
inductive TreeI where
 | mk (op : Int) (name : List UInt8) (cmp n : Int) (kids : List TreeI)
mutual
def up : Tree → TreeI
 | .mk op name cmp n ks => .mk op name cmp n (ups ks)
def ups : List Tree → List TreeI
 | [] => []
 | k :: r => up k :: ups r
end
mutual
def down : TreeI → Tree
 | .mk op name cmp n ks => .mk op.toNat name cmp.toNat n.toNat (downs ks)
def downs : List TreeI → List Tree
 | [] => []
 | k :: r => down k :: downs r
end
mutual
theorem down_up : ∀ t : Tree, down (up t) = t
 | .mk op name cmp n ks => by rw [up, down, downs_ups ks]; rfl
theorem downs_ups : ∀ ks : List Tree, downs (ups ks) = ks
 | [] => by rw [ups, downs]
 | k :: r => by rw [ups, downs, down_up k, downs_ups r]
end
theorem ups_len : ∀ ks : List Tree, (ups ks).length = ks.length
 | [] => by rw [ups]; rfl
 | k :: r => by rw [ups, List.length_cons, List.length_cons, ups_len r]
/- the nodes of a formula are as required: what is left is counted down -/
def testI (op cmp n : Int) : Bool := op == 3 && decide (1 ≤ cmp) && decide (cmp ≤ 6) && decide (0 ≤ n) && decide (n ≤ 1000000)
def refF (op : Int) (name : List UInt8) (cmp n : Int) : Bool := !testI op cmp n && (op == 3 || cmp != 0 || n != 0) || name != [] && op != 3 && op != 4
mutual
def formI : TreeI → Int → Int → Bool × Int
 | .mk op name cmp n ks, l, d =>
   if l - 1 < 0 ∨ d = 0 ∨ refF op name cmp n = true then (false, l - 1)
   else if op = 1 ∨ op = 2 ∨ op = 3 ∨ op = 4 then (decide (ks.length = 0), l - 1)
   else if op = 5 ∧ ks.length = 1 ∨ (op = 6 ∨ op = 7) ∧ 2 ≤ ks.length then formsI ks (l - 1) (d - 1)
   else (false, l - 1)
def formsI : List TreeI → Int → Int → Bool × Int
 | [], l, _ => (true, l)
 | k :: r, l, d => if (formI k l d).1 = true then formsI r (formI k l d).2 d else (false, (formI k l d).2)
end
def refS (op : Int) (name : List UInt8) (n : Int) : Bool := name != [] && !(decide (4 ≤ op) && decide (op ≤ 7)) || op != 3 && n != 0 || decide (n < 0) || decide (1000000 < n)
mutual
def startI : TreeI → Int → Int → Bool × Int
 | .mk op name _ n ks, l, d =>
   if l - 1 < 0 ∨ d = 0 ∨ refS op name n = true then (false, l - 1)
   else if op = 8 ∨ op = 9 then (if 2 ≤ ks.length then startsI ks (l - 1) (d - 1) else (false, l - 1))
   else if 1 ≤ op ∧ op ≤ 7 then (decide (ks.length = 0), l - 1)
   else (false, l - 1)
def startsI : List TreeI → Int → Int → Bool × Int
 | [], l, _ => (true, l)
 | k :: r, l, d => if (startI k l d).1 = true then startsI r (startI k l d).2 d else (false, (startI k l d).2)
end
/- a start has no sign: cmp is 0 all through -/
mutual
def plainS : TreeI → Prop
 | .mk _ _ cmp _ ks => cmp = 0 ∧ plainSs ks
def plainSs : List TreeI → Prop
 | [] => True
 | k :: r => plainS k ∧ plainSs r
end
/- the same, of conditions with natural numbers; the names apart -/
mutual
def shapeF : Tree → Bool
 | .mk op name cmp n ks =>
   (if op = 3 then decide (1 ≤ cmp) && decide (cmp ≤ 6) && decide (n ≤ 1000000) else decide (cmp = 0) && decide (n = 0)) &&
   (if op = 3 ∨ op = 4 then true else decide (name = [])) &&
   (if op = 1 ∨ op = 2 ∨ op = 3 ∨ op = 4 then decide (ks.length = 0) else if op = 5 then decide (ks.length = 1) else if op = 6 ∨ op = 7 then decide (2 ≤ ks.length) else false) && shapeFs ks
def shapeFs : List Tree → Bool
 | [] => true
 | k :: r => shapeF k && shapeFs r
end
mutual
def shapeS : Tree → Bool
 | .mk op name cmp n ks =>
   (decide (cmp = 0) && (if op = 3 then decide (n ≤ 1000000) else decide (n = 0))) &&
   (if op = 4 ∨ op = 5 ∨ op = 6 ∨ op = 7 then true else decide (name = [])) &&
   (if op = 8 ∨ op = 9 then decide (2 ≤ ks.length) else if 1 ≤ op ∧ op ≤ 7 then decide (ks.length = 0) else false) && shapeSs ks
def shapeSs : List Tree → Bool
 | [] => true
 | k :: r => shapeS k && shapeSs r
end
mutual
def namesF : Tree → List Bytes
 | .mk op name _ _ ks => (if op = 3 ∨ op = 4 then [name] else []) ++ namesFs ks
def namesFs : List Tree → List Bytes
 | [] => []
 | k :: r => namesF k ++ namesFs r
end
mutual
def namesS : Tree → List Bytes
 | .mk op name _ _ ks => (if op = 4 ∨ op = 5 ∨ op = 6 ∨ op = 7 then [name] else []) ++ namesSs ks
def namesSs : List Tree → List Bytes
 | [] => []
 | k :: r => namesS k ++ namesSs r
end
mutual
theorem okF_eq : ∀ t : Tree, okF t = (shapeF t && (namesF t).all nameOk)
 | .mk op name cmp n ks => by
   rw [okF, shapeF, namesF, okFs_eq ks, List.all_append]
   by_cases h : op = 3 ∨ op = 4
   · rw [if_pos h, if_pos h, if_pos h]
     simp only [List.all_cons, List.all_nil, Bool.and_true]
     cases nameOk name <;> cases shapeFs ks <;> cases (namesFs ks).all nameOk <;> simp
   · rw [if_neg h, if_neg h, if_neg h]
     simp only [List.all_nil, Bool.true_and, Bool.and_assoc]
theorem okFs_eq : ∀ ks : List Tree, okFs ks = (shapeFs ks && (namesFs ks).all nameOk)
 | [] => by rw [okFs, shapeFs, namesFs]; rfl
 | k :: r => by
   rw [okFs, shapeFs, namesFs, okF_eq k, okFs_eq r, List.all_append]
   cases shapeF k <;> cases shapeFs r <;> cases (namesF k).all nameOk <;> cases (namesFs r).all nameOk <;> rfl
end
mutual
theorem okS_eq : ∀ t : Tree, okS t = (shapeS t && (namesS t).all nameOk)
 | .mk op name cmp n ks => by
   rw [okS, shapeS, namesS, okSs_eq ks, List.all_append]
   by_cases h : op = 4 ∨ op = 5 ∨ op = 6 ∨ op = 7
   · rw [if_pos h, if_pos h, if_pos h]
     simp only [List.all_cons, List.all_nil, Bool.and_true]
     cases nameOk name <;> cases shapeSs ks <;> cases (namesSs ks).all nameOk <;> simp
   · rw [if_neg h, if_neg h, if_neg h]
     simp only [List.all_nil, Bool.true_and, Bool.and_assoc]
theorem okSs_eq : ∀ ks : List Tree, okSs ks = (shapeSs ks && (namesSs ks).all nameOk)
 | [] => by rw [okSs, shapeSs, namesSs]; rfl
 | k :: r => by
   rw [okSs, shapeSs, namesSs, okS_eq k, okSs_eq r, List.all_append]
   cases shapeS k <;> cases shapeSs r <;> cases (namesS k).all nameOk <;> cases (namesSs r).all nameOk <;> rfl
end
mutual
theorem okF_eqS : ∀ t : Tree, So.okF t = (shapeF t && (namesF t).all So.nameOk)
 | .mk op name cmp n ks => by
   rw [So.okF, shapeF, namesF, okFs_eqS ks, List.all_append]
   by_cases h : op = 3 ∨ op = 4
   · rw [if_pos h, if_pos h, if_pos h]
     simp only [List.all_cons, List.all_nil, Bool.and_true]
     cases So.nameOk name <;> cases shapeFs ks <;> cases (namesFs ks).all So.nameOk <;> simp
   · rw [if_neg h, if_neg h, if_neg h]
     simp only [List.all_nil, Bool.true_and, Bool.and_assoc]
theorem okFs_eqS : ∀ ks : List Tree, So.okFs ks = (shapeFs ks && (namesFs ks).all So.nameOk)
 | [] => by rw [So.okFs, shapeFs, namesFs]; rfl
 | k :: r => by
   rw [So.okFs, shapeFs, namesFs, okF_eqS k, okFs_eqS r, List.all_append]
   cases shapeF k <;> cases shapeFs r <;> cases (namesF k).all So.nameOk <;> cases (namesFs r).all So.nameOk <;> rfl
end
mutual
theorem okS_eqS : ∀ t : Tree, So.okS t = (shapeS t && (namesS t).all So.nameOk)
 | .mk op name cmp n ks => by
   rw [So.okS, shapeS, namesS, okSs_eqS ks, List.all_append]
   by_cases h : op = 4 ∨ op = 5 ∨ op = 6 ∨ op = 7
   · rw [if_pos h, if_pos h, if_pos h]
     simp only [List.all_cons, List.all_nil, Bool.and_true]
     cases So.nameOk name <;> cases shapeSs ks <;> cases (namesSs ks).all So.nameOk <;> simp
   · rw [if_neg h, if_neg h, if_neg h]
     simp only [List.all_nil, Bool.true_and, Bool.and_assoc]
theorem okSs_eqS : ∀ ks : List Tree, So.okSs ks = (shapeSs ks && (namesSs ks).all So.nameOk)
 | [] => by rw [So.okSs, shapeSs, namesSs]; rfl
 | k :: r => by
   rw [So.okSs, shapeSs, namesSs, okS_eqS k, okSs_eqS r, List.all_append]
   cases shapeS k <;> cases shapeSs r <;> cases (namesS k).all So.nameOk <;> cases (namesSs r).all So.nameOk <;> rfl
end
/- what is as required is a condition with natural numbers; its nodes are counted -/
theorem refF_no {op : Int} {name : List UInt8} {cmp n : Int} (h : refF op name cmp n = false) : (if op = 3 then 1 ≤ cmp ∧ cmp ≤ 6 ∧ 0 ≤ n ∧ n ≤ 1000000 else cmp = 0 ∧ n = 0) ∧ (op = 3 ∨ op = 4 ∨ name = []) := by
 unfold refF testI at h
 simp only [Bool.or_eq_false_iff, Bool.and_eq_false_iff, Bool.not_eq_false', Bool.and_eq_true, decide_eq_true_eq, beq_iff_eq, bne_eq_false_iff_eq, beq_eq_false_iff_ne] at h
 obtain ⟨h1, h2⟩ := h
 constructor
 · split
   · rename_i h3
     rcases h1 with h1 | h1
     · exact ⟨h1.1.1.1.2, h1.1.1.2, h1.1.2, h1.2⟩
     · exact absurd h3 h1.1.1
   · rename_i h3
     rcases h1 with h1 | h1
     · exact absurd h1.1.1.1.1 h3
     · exact ⟨h1.1.2, h1.2⟩
 · rcases h2 with (h2 | h2) | h2
   · exact Or.inr (Or.inr h2)
   · exact Or.inl h2
   · exact Or.inr (Or.inl h2)
mutual
theorem formI_true : ∀ (t : TreeI) (l d : Int), 0 ≤ d → (formI t l d).1 = true → ∃ t', t = up t' ∧ shapeF t' = true ∧ (t'.size : Int) ≤ l ∧ (t'.deep : Int) ≤ d ∧ (formI t l d).2 = l - t'.size
 | .mk op name cmp n ks, l, d, hd, h => by
   rw [formI] at h ⊢
   by_cases h0 : l - 1 < 0 ∨ d = 0 ∨ refF op name cmp n = true
   · rw [if_pos h0] at h; cases h
   rw [if_neg h0] at h ⊢
   simp only [not_or, Bool.not_eq_true] at h0
   obtain ⟨hl, hd0, hr⟩ := h0
   obtain ⟨r1, r2⟩ := refF_no hr
   have hc : 0 ≤ cmp ∧ 0 ≤ n := by split at r1 <;> omega
   by_cases h1 : op = 1 ∨ op = 2 ∨ op = 3 ∨ op = 4
   · rw [if_pos h1] at h ⊢
     have hk : ks = [] := by simpa using h
     subst hk
     refine ⟨.mk op.toNat name cmp.toNat n.toNat [], ?_, ?_, ?_, ?_, ?_⟩
     · rw [up, ups]
       congr 1 <;> omega
     · rw [shapeF, shapeFs]
       have e1 : op.toNat = 1 ∨ op.toNat = 2 ∨ op.toNat = 3 ∨ op.toNat = 4 := by omega
       rw [if_pos e1]
       by_cases h3 : op = 3
       · have e3 : op.toNat = 3 := by omega
         rw [if_pos h3] at r1
         rw [if_pos e3, if_pos (Or.inl e3)]
         simp
         omega
       · have e3 : op.toNat ≠ 3 := by omega
         rw [if_neg h3] at r1
         rw [if_neg e3]
         by_cases h4 : op = 4
         · rw [if_pos (Or.inr (by omega))]
           simp
           omega
         · rw [if_neg (by omega)]
           have : name = [] := by rcases r2 with r2 | r2 | r2 <;> first | exact r2 | omega
           subst this
           simp
           omega
     · rw [Tree.size, sizes]; omega
     · rw [Tree.deep, deeps]; omega
     · rw [Tree.size, sizes]; rfl
   · rw [if_neg h1] at h ⊢
     by_cases h2 : op = 5 ∧ ks.length = 1 ∨ (op = 6 ∨ op = 7) ∧ 2 ≤ ks.length
     · rw [if_pos h2] at h ⊢
       obtain ⟨ks', e1, e2, e3, e4, e5⟩ := formsI_true ks (l - 1) (d - 1) (by omega) (by omega) h
       have hlen : ks.length = ks'.length := by rw [e1, ups_len]
       refine ⟨.mk op.toNat name cmp.toNat n.toNat ks', ?_, ?_, ?_, ?_, ?_⟩
       · rw [up, ← e1]
         congr 1 <;> omega
       · rw [shapeF, e2]
         have e6 : ¬ (op.toNat = 1 ∨ op.toNat = 2 ∨ op.toNat = 3 ∨ op.toNat = 4) := by omega
         have e3 : op.toNat ≠ 3 := by omega
         rw [if_neg (by omega)] at r1
         rw [if_neg e6, if_neg e3, if_neg (by omega)]
         have : name = [] := by rcases r2 with r2 | r2 | r2 <;> first | exact r2 | omega
         subst this
         rcases h2 with ⟨h5, h6⟩ | ⟨h5, h6⟩
         · rw [if_pos (by omega)]
           simp
           omega
         · rw [if_neg (by omega), if_pos (by omega)]
           simp
           omega
       · rw [Tree.size]; omega
       · rw [Tree.deep]; omega
       · rw [Tree.size, e5]; omega
     · rw [if_neg h2] at h; cases h
theorem formsI_true : ∀ (ks : List TreeI) (l d : Int), 0 ≤ d → 0 ≤ l → (formsI ks l d).1 = true → ∃ ks', ks = ups ks' ∧ shapeFs ks' = true ∧ (sizes ks' : Int) ≤ l ∧ ((deeps ks' : Nat) : Int) ≤ d ∧ (formsI ks l d).2 = l - sizes ks'
 | [], l, d, hd, hl, h => ⟨[], by rw [ups], by rw [shapeFs], by rw [sizes]; omega, by rw [deeps]; omega, by rw [formsI, sizes]; simp⟩
 | k :: r, l, d, hd, hl, h => by
   rw [formsI] at h ⊢
   by_cases hk : (formI k l d).1 = true
   · rw [if_pos hk] at h ⊢
     obtain ⟨k', a1, a2, a3, a4, a5⟩ := formI_true k l d hd hk
     obtain ⟨r', b1, b2, b3, b4, b5⟩ := formsI_true r _ d hd (by omega) h
     refine ⟨k' :: r', by rw [ups, a1, b1], by rw [shapeFs, a2, b2]; rfl, by rw [sizes]; omega, by rw [deeps]; omega, by rw [b5, a5, sizes]; omega⟩
   · rw [if_neg hk] at h; cases h
end
theorem refS_no {op : Int} {name : List UInt8} {n : Int} (h : refS op name n = false) : (4 ≤ op ∧ op ≤ 7 ∨ name = []) ∧ (op = 3 ∨ n = 0) ∧ 0 ≤ n ∧ n ≤ 1000000 := by
 unfold refS at h
 simp only [Bool.or_eq_false_iff, Bool.and_eq_false_iff, Bool.not_eq_false', Bool.and_eq_true, decide_eq_true_eq, decide_eq_false_iff_not, bne_eq_false_iff_eq] at h
 obtain ⟨⟨⟨h1, h2⟩, h3⟩, h4⟩ := h
 refine ⟨?_, h2, by omega, by omega⟩
 rcases h1 with h1 | h1
 · exact Or.inr h1
 · exact Or.inl h1
mutual
theorem startI_true : ∀ (t : TreeI) (l d : Int), 0 ≤ d → plainS t → (startI t l d).1 = true → ∃ t', t = up t' ∧ shapeS t' = true ∧ (t'.size : Int) ≤ l ∧ (t'.deep : Int) ≤ d ∧ (startI t l d).2 = l - t'.size
 | .mk op name cmp n ks, l, d, hd, hp, h => by
   rw [plainS] at hp
   obtain ⟨rfl, hp⟩ := hp
   rw [startI] at h ⊢
   by_cases h0 : l - 1 < 0 ∨ d = 0 ∨ refS op name n = true
   · rw [if_pos h0] at h; cases h
   rw [if_neg h0] at h ⊢
   simp only [not_or, Bool.not_eq_true] at h0
   obtain ⟨hl, hd0, hr⟩ := h0
   obtain ⟨r1, r2, r3, r4⟩ := refS_no hr
   by_cases h8 : op = 8 ∨ op = 9
   · rw [if_pos h8] at h ⊢
     by_cases h2 : 2 ≤ ks.length
     · rw [if_pos h2] at h ⊢
       obtain ⟨ks', e1, e2, e3, e4, e5⟩ := startsI_true ks (l - 1) (d - 1) (by omega) (by omega) hp h
       have hlen : ks.length = ks'.length := by rw [e1, ups_len]
       refine ⟨.mk op.toNat name 0 n.toNat ks', ?_, ?_, ?_, ?_, ?_⟩
       · rw [up, ← e1]
         congr 1 <;> omega
       · rw [shapeS, e2]
         have : name = [] := by rcases r1 with r1 | r1 <;> first | exact r1 | omega
         subst this
         rw [if_neg (by omega), if_neg (by omega), if_pos (by omega)]
         simp
         omega
       · rw [Tree.size]; omega
       · rw [Tree.deep]; omega
       · rw [Tree.size, e5]; omega
     · rw [if_neg h2] at h; cases h
   · rw [if_neg h8] at h ⊢
     by_cases h1 : 1 ≤ op ∧ op ≤ 7
     · rw [if_pos h1] at h ⊢
       have hk : ks = [] := by simpa using h
       subst hk
       refine ⟨.mk op.toNat name 0 n.toNat [], ?_, ?_, ?_, ?_, ?_⟩
       · rw [up, ups]
         congr 1 <;> omega
       · rw [shapeS, shapeSs]
         rw [if_neg (show ¬ (op.toNat = 8 ∨ op.toNat = 9) by omega), if_pos (show 1 ≤ op.toNat ∧ op.toNat ≤ 7 by omega)]
         by_cases h4 : 4 ≤ op
         · rw [if_pos (show op.toNat = 4 ∨ op.toNat = 5 ∨ op.toNat = 6 ∨ op.toNat = 7 by omega), if_neg (by omega)]
           simp
           omega
         · have : name = [] := by rcases r1 with r1 | r1 <;> first | exact r1 | omega
           subst this
           rw [if_neg (show ¬ (op.toNat = 4 ∨ op.toNat = 5 ∨ op.toNat = 6 ∨ op.toNat = 7) by omega)]
           by_cases h3 : op = 3
           · rw [if_pos (by omega)]
             simp
             omega
           · rw [if_neg (by omega)]
             simp
             omega
       · rw [Tree.size, sizes]; omega
       · rw [Tree.deep, deeps]; omega
       · rw [Tree.size, sizes]; rfl
     · rw [if_neg h1] at h; cases h
theorem startsI_true : ∀ (ks : List TreeI) (l d : Int), 0 ≤ d → 0 ≤ l → plainSs ks → (startsI ks l d).1 = true → ∃ ks', ks = ups ks' ∧ shapeSs ks' = true ∧ (sizes ks' : Int) ≤ l ∧ ((deeps ks' : Nat) : Int) ≤ d ∧ (startsI ks l d).2 = l - sizes ks'
 | [], l, d, hd, hl, hp, h => ⟨[], by rw [ups], by rw [shapeSs], by rw [sizes]; omega, by rw [deeps]; omega, by rw [startsI, sizes]; simp⟩
 | k :: r, l, d, hd, hl, hp, h => by
   rw [plainSs] at hp
   rw [startsI] at h ⊢
   by_cases hk : (startI k l d).1 = true
   · rw [if_pos hk] at h ⊢
     obtain ⟨k', a1, a2, a3, a4, a5⟩ := startI_true k l d hd hp.1 hk
     obtain ⟨r', b1, b2, b3, b4, b5⟩ := startsI_true r _ d hd (by omega) hp.2 h
     refine ⟨k' :: r', by rw [ups, a1, b1], by rw [shapeSs, a2, b2]; rfl, by rw [sizes]; omega, by rw [deeps]; omega, by rw [b5, a5, sizes]; omega⟩
   · rw [if_neg hk] at h; cases h
end
end Go.Proofs.YtbicmjmcdnkjhaaGreatDoor
