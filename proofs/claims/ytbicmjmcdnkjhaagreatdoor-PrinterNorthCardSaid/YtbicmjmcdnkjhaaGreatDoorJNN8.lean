/- The writer's add and name. Conditions compared node by node: plain words. Plain laws of the lexer and the parser. Plain laws of the lexer and the parser. The printer's laws, of the plain functions. What the first language's parser reads can be written. What the second language's parser reads can be written. -/
import Derived.Test.YtbicmjmcdnkjhaaGreatDoorJNN1
import Derived.Test.YtbicmjmcdnkjhaaGreatDoorJNN7
import Derived.OwnWalk
import Derived.Test.YtbicmjmcdnkjhaaGreatDoorJNN2
set_option linter.unusedVariables false
set_option linter.unusedSimpArgs false
set_option maxRecDepth 20000
set_option maxHeartbeats 1000000
namespace Go.Proofs.YtbicmjmcdnkjhaaGreatDoor
open Go.RowKit
theorem wpList_append_words {ops : Array Oper} {rest : List Oper} {o : Oper} {a : Act} {w : World} {Q : Exit → Act → World → Prop} (hgd : o.guard = none) (s x : Operand) (hop : o.op = Op.call { callee := Callee.builtin Builtin.append, args := #[s, x], argTypes := #[25, 25] })
 (v : Value) (l X : List (List UInt8)) (g0 c : Nat) (hs : a.eval s = v) (hx : a.eval x = .slice (some ⟨g0, 0, none⟩) X.length c) (hown : OwnS w 0 v l) (hc : ∀ (j : Nat) x, X[j]? = some x → w.cell? ⟨g0, j, none⟩ = some (vs x))
 (hlen : l.length + X.length ≤ 1000000) (h : ∀ v' w', OwnS w' 0 v' (l ++ X) → w.grownBy w' v.ownBlock → (v'.ownBlock = v.ownBlock ∨ v'.ownBlock = some w.heap.size) → wpList Tryz.prog ops Q rest (a.put o.dst v') w') : wpList Tryz.prog ops Q (o :: rest) a w := by
 obtain ⟨i0, hi0, hz0, hz1, hz2⟩ := info_parts info_str
 refine wpList_append_own_at _ hgd s x _ hop 0 9 i0 (.string ⟨#[]⟩) 1 16 Tryz.underlying25 hi0 hz0 hz1 hz2 rfl (by decide) v l.length (l.map vs) hs hown ⟨g0, 0, none⟩ X.length c (X.map vs) hx (by simp) (fun j u hu => ?_) (fun u hu => ?_) (by unfold maxLen; omega) (by omega) (Nat.zero_le _) ?_
 · rw [List.getElem?_map] at hu
   cases hj : X[j]? with
   | none => rw [hj] at hu; cases hu
   | some x =>
     rw [hj] at hu
     cases hu
     rw [Addr.add_lit, Nat.zero_add]
     exact hc j x hj
 · rw [List.mem_map] at hu
   obtain ⟨x, -, rfl⟩ := hu
   rfl
 · intro v' w' ho hg _ hb
   exact h v' w' (by unfold OwnS; simpa using ho) hg hb
theorem WrV.cells {W w : World} {p : Nat} {T : TypeId} {S : Nat → Prop} {v1 v2 : Value} {L N : List (List UInt8)} (h : WrV W w p T S v1 v2 L N) : w.cell? ⟨p, 0, none⟩ = some v1 ∧ w.cell? ⟨p, 1, none⟩ = some v2 ∧ w.frozen? ⟨p, 0, none⟩ = false ∧ w.frozen? ⟨p, 1, none⟩ = false ∧ p < w.heap.size :=
 ⟨cell_of_blk h.is rfl, cell_of_blk h.is rfl, frozen_of_blk h.is, frozen_of_blk h.is, h.lt p h.mem⟩
theorem grown_cells {w w' : World} {p : Nat} {T : TypeId} {C : Array Value} {row : Option Nat} (hp : w.heap[p]? = some (.cells C T (0, 0))) (hg : w.grownBy w' row) (hne : some p ≠ row) : w'.heap[p]? = some (.cells C T (0, 0)) := (hg.block p (lt_of_heap' hp) hne).trans hp
theorem OwnS.sl {w : World} {b : Nat} {v : Value} {l : List (List UInt8)} (h : OwnS w b v l) : ∃ A n c, v = .slice A n c := by
 obtain ⟨A, c, h, -⟩ := h.form
 exact ⟨A, _, c, h⟩
theorem add_any (W w : World) (p : Nat) (T : TypeId) (S : Nat → Prop) (L N X : List (List UInt8)) (g c : Nat) (h : Wr W w p T S L N) (hX : ∀ (j : Nat) x, X[j]? = some x → w.cell? ⟨g, j, none⟩ = some (vs x)) (hlen : L.length + X.length ≤ 1000000) :
 Calls Tryz.prog 27 #[.pointer (some ⟨p, 0, none⟩), .slice (some ⟨g, 0, none⟩) X.length c] w (WrPost W w p T S (L ++ X) N) := by
 obtain ⟨v1, v2, h⟩ := h
 obtain ⟨c1, c2, f1, f2, hpl⟩ := h.cells
 have H := Lib.hid h
 have HX := Lib.hid hX
 clear h hX
 go_enter Tryz.func27, Tryz.ntmps27
 go_wp2_with (at_builtin; refine wpList_append_words rfl (.tmp 8) (.tmp 9) rfl v1 L X g c rfl rfl H.out.l HX.out hlen ?_; intro v' w2 ho hg hb; have hk := grown_cells H.out.is hg (fun e => (H.out.ol p e.symm).2 rfl); have k1 : w2.cell? ⟨p, 0, none⟩ = some v1 := cell_of_blk (o := 0) hk rfl; have kl := lt_of_heap' hk; obtain ⟨A', n', cap', rfl⟩ := ho.sl; have k2 := frozen_of_blk (o := 0) hk; have HO := Lib.hid (And.intro ho (And.intro hg hb)); clear ho hg hb hk c1 c2 f1 f2)
 go_end0
 obtain ⟨ho, hg, hb⟩ := HO.out
 exact ⟨rfl, _, ⟨_, _, (H.out.put1 ho hg hb).1⟩, (H.out.put1 ho hg hb).2⟩
theorem cells_one {w : World} {s : List UInt8} {t : TypeId} : ∀ (j : Nat) x, [s][j]? = some x → (w.alloc (.cells #[vs s] t)).cell? ⟨w.heap.size, j, none⟩ = some (vs x) := by
 intro j x hx
 cases j with
 | succ j => simp at hx
 | zero =>
   simp at hx
   subst hx
   exact cell_of_blk (new_at rfl) rfl
theorem name_w (W w : World) (p : Nat) (T : TypeId) (S : Nat → Prop) (L N : List (List UInt8)) (s : List UInt8) (h : Wr W w p T S L N) (hlen : L.length + 1 ≤ 1000000) (hlen2 : N.length + 1 ≤ 1000000) :
 Calls Tryz.prog 28 #[.pointer (some ⟨p, 0, none⟩), vs s] w (WrPost W w p T S (L ++ [s]) (N ++ [s])) := by
 obtain ⟨v1, v2, h⟩ := h
 have H0 := Lib.hid h
 have H := Lib.hid (h.keep ((Below.refl _ _).alloc (Nat.le_refl _) (.cells #[vs s] 9)))
 obtain ⟨c1, c2, f1, f2, hpl⟩ := h.cells
 clear h
 go_enter Tryz.func28, Tryz.ntmps28
 go_wp2_with (at_builtin; refine wpList_append_words rfl (.tmp 8) (.tmp 10) rfl v2 N [s] w.heap.size 1 rfl rfl H.out.n cells_one (by simpa using hlen2) ?_; intro v' w2 ho hg hb; have hk := grown_cells H.out.is hg (fun e => (H.out.on p e.symm).2.1 rfl); have k1 : w2.cell? ⟨p, 1, none⟩ = some v2 := cell_of_blk (o := 1) hk rfl; obtain ⟨A', n', cap', rfl⟩ := ho.sl; have k2 := frozen_of_blk (o := 1) hk; have kl := lt_of_heap' hk; have HO := Lib.hid (And.intro ho (And.intro hg hb)); clear ho hg hb hk c1 c2 f1 f2 hpl)
 obtain ⟨ho, hg, hb⟩ := HO.out
 obtain ⟨q1, q2⟩ := H.out.put2 ho hg hb
 have Q1 := Lib.hid q1
 have Q2 := Lib.hid q2
 clear ho hg hb q1 q2
 refine (add_any W _ p T _ L (N ++ [s]) [s] _ 1 ⟨_, _, Q1.out.keep ((Below.refl _ _).alloc (Nat.le_refl _) (.cells #[vs s] 9))⟩ (by simpa using cells_one (w := w2.setCell ⟨p, 1, none⟩ (.slice A' n' cap')) (s := s) (t := 9)) (by simpa using hlen)).mono ?_
 rintro e w3 ⟨rfl, S', hw, hf⟩
 have HW := Lib.hid hw
 have HF := Lib.hid hf
 clear hw hf
 go_wp2_with fail
 go_end0
 refine ⟨rfl, S', HW.out, ?_⟩
 exact ((WrFr.of_below S ((Below.refl _ _).alloc (Nat.le_refl _) _)).trans Q2.out).trans ((WrFr.of_below _ ((Below.refl _ _).alloc (Nat.le_refl _) _)).trans HF.out)
end Go.Proofs.YtbicmjmcdnkjhaaGreatDoor
namespace Go.Proofs.YtbicmjmcdnkjhaaGreatDoor
mutual
def eqX : TreeI → TreeI → Bool
 | .mk op name cmp n ks, .mk op' name' cmp' n' ks' => op == op' && name == name' && cmp == cmp' && n == n' && decide (ks.length = ks'.length) && eqXs ks ks'
def eqXs : List TreeI → List TreeI → Bool
 | [], _ => true
 | _ :: _, [] => true
 | k :: r, k' :: r' => eqX k k' && eqXs r r'
end
mutual
theorem eqX_iff : ∀ (t u : TreeI), eqX t u = true ↔ t = u
 | .mk op name cmp n ks, .mk op' name' cmp' n' ks' => by
   rw [eqX]
   simp only [Bool.and_eq_true, beq_iff_eq, decide_eq_true_eq, TreeI.mk.injEq]
   constructor
   · rintro ⟨⟨⟨⟨⟨h1, h2⟩, h3⟩, h4⟩, h5⟩, h6⟩
     exact ⟨h1, h2, h3, h4, (eqXs_iff ks ks' h5).1 h6⟩
   · rintro ⟨h1, h2, h3, h4, h5⟩
     have hl : ks.length = ks'.length := by rw [h5]
     exact ⟨⟨⟨⟨⟨h1, h2⟩, h3⟩, h4⟩, hl⟩, (eqXs_iff ks ks' hl).2 h5⟩
theorem eqXs_iff : ∀ (ks us : List TreeI), ks.length = us.length → (eqXs ks us = true ↔ ks = us)
 | [], [], _ => by rw [eqXs]; simp
 | [], _ :: _, h => by simp at h
 | _ :: _, [], h => by simp at h
 | k :: r, k' :: r', h => by
   rw [eqXs, Bool.and_eq_true, eqX_iff k k', eqXs_iff r r' (by simpa using h)]
   simp
end
/- from a place on -/
theorem eqXs_drop {ks us : List TreeI} {k : Nat} {x y : TreeI} (hx : ks[k]? = some x) (hy : us[k]? = some y) : eqXs (ks.drop k) (us.drop k) = (eqX x y && eqXs (ks.drop (k + 1)) (us.drop (k + 1))) := by
 obtain ⟨h1, rfl⟩ := List.getElem?_eq_some_iff.1 hx
 obtain ⟨h2, rfl⟩ := List.getElem?_eq_some_iff.1 hy
 rw [List.drop_eq_getElem_cons h1, List.drop_eq_getElem_cons h2, eqXs]
def eqP (p q : ProvI) : Bool := p.id == q.id && p.rank == q.rank && p.kind == q.kind && p.name == q.name && p.value == q.value && p.exc == q.exc && eqX p.cond q.cond && eqX p.beg q.beg && eqX p.fin q.fin && eqX p.aga q.aga
theorem eqP_iff (p q : ProvI) : eqP p q = true ↔ p = q := by
 unfold eqP
 simp only [Bool.and_eq_true, beq_iff_eq, eqX_iff]
 constructor
 · rintro ⟨⟨⟨⟨⟨⟨⟨⟨⟨h1, h2⟩, h3⟩, h4⟩, h5⟩, h6⟩, h7⟩, h8⟩, h9⟩, h10⟩
   cases p
   cases q
   simp only at *
   subst h1 h2 h3 h4 h5 h6 h7 h8 h9 h10
   rfl
 · rintro rfl
   simp
end Go.Proofs.YtbicmjmcdnkjhaaGreatDoor
namespace Go.Proofs.YtbicmjmcdnkjhaaGreatDoor
/- What stands before a condition, and behind it; conditions joined. -/
/- a separator: a blank, where the first text has no comment -/
/- a symbol of one byte -/
/- the words before a condition -/
/- the parser behind those words -/
/- a whole condition -/
def leafT (op : Nat) : Tree := .mk op [] 0 0 []
/- one that ends the list goes on before a token that no condition takes there -/
/- conditions in parentheses -/
/- NorthJoins in plain words. -/
theorem parseF_pr {l : List UInt8} {ts : List Tok} (h : lexF l = .ok ts) : parseF l = match pr ts with | .error (e, s) => .error (e, (posAt l.length s : Nat)) | .ok (p, _) => .ok p := by
 unfold parseF
 rw [h]
 rfl
theorem pr_nil {ts : List Tok} {p : Prov} {r : List Tok} (h : pr ts = .ok (p, r)) : r = [] := by
 rcases pr_cases ts with ⟨p', h1, h2⟩ | ⟨p', t', v', h1, h2⟩ | ⟨e, s, h1, h2⟩
 · rw [h2] at h; cases h; rfl
 · rw [h2] at h; cases h
 · rw [h2] at h; cases h
theorem parseF_mk {l : List UInt8} {ts : List Tok} {p : Prov} (h : lexF l = .ok ts) (hp : pr ts = .ok (p, [])) : parseF l = .ok p := by
 rw [parseF_pr h, hp]
theorem parseF_err {l : List UInt8} {ts : List Tok} {e : Nat} {s : List Tok} (h : lexF l = .ok ts) (hp : pr ts = .error (e, s)) : parseF l = .error (e, (posAt l.length s : Nat)) := by
 rw [parseF_pr h, hp]
/- what such a text comes to -/
/- what a condition makes that is read whole -/
/- NorthAbsent in plain words: parts that are left out. -/
def ansR {α : Type} (p : R α) : Nat × Option α := match p with | .ok (x, _) => (0, some x) | .error (e, _) => (e, none)
/- the words that end a part -/
def stopW : List (List UInt8) := [[105, 102], [110, 111, 116, 119, 105, 116, 104, 115, 116, 97, 110, 100, 105, 110, 103], [102, 114, 111, 109], [117, 110, 116, 105, 108], [97, 103, 97, 105, 110], [46]]
/- a stage: a part, or its default -/
def stage (w : List UInt8) (P : List Tok → R Tree) (d : Tree) (K : Tree → List Tok → R Prov) (l : List Tok) : R Prov :=
 bindR (optF [w] l (fun _ r => boundedF P r) (fun r => .ok (d, r))) K
theorem take_not {w : List UInt8} {t : Tok} {r : List Tok} (h : t.text ≠ w) : takeF [w] (t :: r) = (none, t :: r) := by
 rcases takeF_cases [w] (t :: r) with ht | ⟨t', r', i, he, ht, hw', hi⟩
 · exact ht
 · exfalso
   cases he
   have : List.idxOf? t.text [w] = none := by rw [List.idxOf?_eq_none_iff]; simpa using h
   rw [this] at hi; cases hi
/- the stages behind 'act a: define b' -/
def K4 (n : Nat) (c : Tree) (x : List (List UInt8)) (b f : Tree) (a : Tree) (l : List Tok) : R Prov := bindR (mustF [[46]] l) fun _ r' => endF (.ok (⟨[97], 2, 1, [98], 0, c, x, b, f, a⟩, r'))
def K3 (n : Nat) (c : Tree) (x : List (List UInt8)) (b f : Tree) (l : List Tok) : R Prov := stage [97, 103, 97, 105, 110] (startF n) (leafT 2) (K4 n c x b f) l
def K2 (n : Nat) (c : Tree) (x : List (List UInt8)) (b : Tree) (l : List Tok) : R Prov := stage [117, 110, 116, 105, 108] (startF n) (leafT 2) (K3 n c x b) l
def K1 (n : Nat) (c : Tree) (l : List Tok) : R Prov := bindR (excF l) fun x r => stage [102, 114, 111, 109] (startF n) (leafT 1) (K2 n c x) r
theorem not_in_stop {h : Tok} (hh : h.text ∉ stopW) : h.text ≠ [105, 102] ∧ h.text ≠ [110, 111, 116, 119, 105, 116, 104, 115, 116, 97, 110, 100, 105, 110, 103] ∧ h.text ≠ [102, 114, 111, 109] ∧ h.text ≠ [117, 110, 116, 105, 108] ∧ h.text ≠ [97, 103, 97, 105, 110] ∧ h.text ≠ [46] := by
 simpa [stopW] using hh
theorem B4 (n : Nat) (c : Tree) (x : List (List UInt8)) (b f : Tree) (a : Tree) (h : Tok) (l : List Tok) (hh : h.text ∉ stopW) : ansR (K4 n c x b f a (h :: l)) = (5, none) := by
 obtain ⟨-, -, -, -, -, h6⟩ := not_in_stop hh
 simp only [K4, mustF, optF, take_not h6, failR, bindR, ansR, failC]
theorem B3 (n : Nat) (c : Tree) (x : List (List UInt8)) (b f : Tree) (h : Tok) (l : List Tok) (hh : h.text ∉ stopW) : ansR (K3 n c x b f (h :: l)) = (5, none) := by
 obtain ⟨-, -, -, -, h5, -⟩ := not_in_stop hh
 simp only [K3, stage, optF, take_not h5, bindR]
 exact B4 n c x b f _ h l hh
theorem B2 (n : Nat) (c : Tree) (x : List (List UInt8)) (b : Tree) (h : Tok) (l : List Tok) (hh : h.text ∉ stopW) : ansR (K2 n c x b (h :: l)) = (5, none) := by
 obtain ⟨-, -, -, h4, -, -⟩ := not_in_stop hh
 simp only [K2, stage, optF, take_not h4, bindR]
 exact B3 n c x b _ h l hh
theorem B1 (n : Nat) (c : Tree) (h : Tok) (l : List Tok) (hh : h.text ∉ stopW) : ansR (K1 n c (h :: l)) = (5, none) := by
 obtain ⟨-, h2, h3, -, -, -⟩ := not_in_stop hh
 simp only [K1, excF, stage, optF, take_not h2, take_not h3, bindR]
 exact B2 n c _ _ h l hh
/- a part as tokens: nothing, its default, or what it has -/
/- the default of a part is read as it -/
/- NorthAbsent, from texts. -/
/- before anything that is no part of a word -/
def partB (w o text : List UInt8) (out : Bool) : List UInt8 := if text ≠ [] then 32 :: (w ++ 32 :: (text ++ [10])) else if out then [] else 32 :: (w ++ 32 :: o)
/- what stands behind a part begins so -/
def SepB (s : List UInt8) : Prop := ∃ x r, s = x :: r ∧ (x = 32 ∨ x = 46)
theorem SepB.part {s : List UInt8} (h : SepB s) (w o text : List UInt8) (out : Bool) : SepB (partB w o text out ++ s) := by
 unfold partB
 split
 · exact ⟨32, _, rfl, .inl rfl⟩
 · split
   · exact h
   · exact ⟨32, _, rfl, .inl rfl⟩
/- a free text -/
end Go.Proofs.YtbicmjmcdnkjhaaGreatDoor
namespace Go.Proofs.YtbicmjmcdnkjhaaGreatDoor
/- What a provision that was read is like. -/
def goodName (s : List UInt8) : Bool := s.head?.any letterB && s.all wordB && decide (s.length ≤ 24) && !keyF s
def TokN (t : Tok) : Prop := t.kind = 1 → keyF t.text = false → goodName t.text = true
theorem takeWhile_all {α : Type} {p : α → Bool} : ∀ {l : List α}, (l.takeWhile p).length = l.length → ∀ x ∈ l, p x = true
 | [], _, x, hx => by cases hx
 | a :: l, h, x, hx => by
   by_cases ha : p a = true
   · rw [List.takeWhile_cons_of_pos ha] at h
     rcases List.mem_cons.1 hx with rfl | hx
     · exact ha
     · exact takeWhile_all (by simpa using h) x hx
   · rw [List.takeWhile_cons_of_neg ha] at h; simp at h
def AllN (l : List Tok) : Prop := ∀ t ∈ l, TokN t
/- what a parser answers, from tokens of the lexer -/
def Gives {α : Type} (V : α → Prop) (P : List Tok → R α) : Prop := ∀ l x r, AllN l → P l = .ok (x, r) → V x ∧ AllN r
theorem Gives.mono {α : Type} {V V' : α → Prop} {P : List Tok → R α} (h : Gives V P) (hv : ∀ x, V x → V' x) : Gives V' P := fun l x r hl hp => ⟨hv _ (h l x r hl hp).1, (h l x r hl hp).2⟩
theorem Gives.pure {α : Type} {V : α → Prop} {x : α} (h : V x) : Gives V (fun l => .ok (x, l)) := fun l y r hl hp => by cases hp; exact ⟨h, hl⟩
theorem Gives.fail {α : Type} {V : α → Prop} : Gives V (fun l => (failR l : R α)) := fun l y r hl hp => by cases hp
theorem Gives.bind {α β : Type} {V : α → Prop} {U : β → Prop} {P : List Tok → R α} {Q : α → List Tok → R β} (hP : Gives V P) (hQ : ∀ x, V x → Gives U (Q x)) : Gives U (fun l => bindR (P l) Q) := by
 intro l y r hl hp
 cases hq : P l with
 | error e => simp only [hq, bindR] at hp; cases hp
 | ok v =>
   obtain ⟨x, r1⟩ := v
   simp only [hq, bindR] at hp
   obtain ⟨h1, h2⟩ := hP l x r1 hl hq
   exact hQ x h1 r1 y r h2 hp
theorem Gives.opt {α : Type} {V : α → Prop} {ws : List (List UInt8)} {yes : Nat → List Tok → R α} {no : List Tok → R α} (hy : ∀ i, i < ws.length → Gives V (yes i)) (hn : Gives V no) : Gives V (fun l => optF ws l yes no) := by
 intro l y r hl hp
 rcases takeF_cases ws l with ht | ⟨t, r0, i, rfl, ht, -, hi⟩
 · simp only [optF, ht] at hp
   exact hn l y r hl hp
 · simp only [optF, ht] at hp
   have : i < ws.length := by
    unfold List.idxOf? at hi
    rw [List.findIdx?_eq_some_iff_getElem] at hi
    exact hi.1
   exact hy i this r0 y r (fun x hx => hl x (by simp [hx])) hp
theorem Gives.must {ws : List (List UInt8)} : Gives (fun i => i < ws.length) (mustF ws) := Gives.opt (fun i hi => Gives.pure hi) Gives.fail
theorem Gives.name : Gives (fun s => goodName s = true) nameF := by
 intro l x r hl hp
 cases l with
 | nil => cases hp
 | cons t r0 =>
   simp only [nameF] at hp
   split at hp
   · rename_i hk
     cases hp
     simp at hk
     exact ⟨hl t (by simp) hk.1 hk.2, fun x hx => hl x (by simp [hx])⟩
   · cases hp
theorem Gives.number (most : Nat) : Gives (fun n => n ≤ most) (numberF most) := by
 intro l x r hl hp
 cases l with
 | nil => cases hp
 | cons t r0 =>
   simp only [numberF] at hp
   split at hp
   · split at hp
     · cases hp
     · cases hp
       exact ⟨by omega, fun x hx => hl x (by simp [hx])⟩
   · cases hp
theorem Gives.severalL {α : Type} {V : α → Prop} {one : List Tok → R α} (w : List UInt8) (h : Gives V one) : ∀ n, Gives (fun l => l ≠ [] ∧ ∀ x ∈ l, V x) (severalL one w n)
 | 0 => fun l x r _ hp => by cases hp
 | n + 1 => Gives.bind h fun x hx => Gives.opt (fun i _ => Gives.bind (Gives.severalL w h n) fun xs hxs => Gives.pure ⟨by simp, fun y hy => by rcases List.mem_cons.1 hy with rfl | hy; exact hx; exact hxs.2 y hy⟩) (Gives.pure ⟨by simp, fun y hy => by simp at hy; rw [hy]; exact hx⟩)
/- different names -/
def ExcOk (l : List (List UInt8)) : Prop := l.length ≤ 20 ∧ (∀ s ∈ l, goodName s = true) ∧ ∀ (i : Nat) s, l[i]? = some s → s ∉ l.take i
/- where an error is -/
/- Bounds of the lexer's tokens. -/
theorem valN_bound : ∀ (s : List UInt8) (acc k : Nat), (∀ c ∈ s, digitB c = true) → acc < 10 ^ k → s.foldl (fun a c => 10 * a + (c.toNat - 48)) acc < 10 ^ (k + s.length)
 | [], acc, k, _, h => by simpa using h
 | c :: s, acc, k, hd, h => by
   have hc : digitB c = true := hd c (by simp)
   simp only [digitB, Bool.and_eq_true, decide_eq_true_eq] at hc
   have h1 : c.toNat ≤ 57 := by have := UInt8.le_iff_toNat_le.1 hc.2; simpa using this
   have h2 : 10 * acc + (c.toNat - 48) < 10 ^ (k + 1) := by rw [Nat.pow_succ]; omega
   have := valN_bound s _ (k + 1) (fun x hx => hd x (by simp [hx])) h2
   simpa [Nat.add_assoc, Nat.add_comm 1] using this
theorem twd_all {r : List UInt8} : ∀ x ∈ r.takeWhile digitB, digitB x = true := by
 intro x hx
 induction r with
 | nil => simp at hx
 | cons a r ih =>
   by_cases ha : digitB a = true
   · rw [List.takeWhile_cons_of_pos ha] at hx
     rcases List.mem_cons.1 hx with rfl | hx
     · exact ha
     · exact ih hx
   · rw [List.takeWhile_cons_of_neg ha] at hx; simp at hx
theorem lexOne_fit {c : UInt8} {r : List UInt8} {k n v : Nat} (h : lexOne c r = .ok (k, n, v)) : (k = 1 ∨ k = 2 ∨ k = 3) ∧ n ≤ 30 ∧ v ≤ 10000000 := by
 unfold lexOne at h
 split at h
 · split at h
   · cases h
   · injection h with h; injection h with h1 h; injection h with h2 h3; omega
 · split at h
   · rename_i hd
     split at h
     · cases h
     · rename_i hl
       injection h with h; injection h with h1 h; injection h with h2 h3
       have hb := valN_bound (c :: r.takeWhile digitB) 0 0 (fun x hx => by rcases List.mem_cons.1 hx with rfl | hx; exact hd; exact twd_all x hx) (by decide)
       have hl2 : (c :: r.takeWhile digitB).length ≤ 7 := by simp; omega
       have h7 : 10 ^ (0 + (c :: r.takeWhile digitB).length) ≤ 10 ^ 7 := Nat.pow_le_pow_right (by decide) (by omega)
       have : valN (c :: r.takeWhile digitB) < 10 ^ 7 := Nat.lt_of_lt_of_le hb h7
       refine ⟨by omega, by omega, ?_⟩
       rw [← h3]
       exact Nat.le_of_lt (Nat.lt_of_lt_of_le this (by decide))
   · split at h
     · injection h with h; injection h with h1 h; injection h with h2 h3; omega
     · split at h
       · split at h <;> (injection h with h; injection h with h1 h; injection h with h2 h3; omega)
       · split at h
         · split at h
           · injection h with h; injection h with h1 h; injection h with h2 h3; omega
           · cases h
         · cases h
theorem name_word {t : Tok} (h : TokOk t) (hk : t.kind = 1) : ∀ c ∈ t.text, wordB c = true := by
 obtain ⟨c, r, ht, h1, h2, h3⟩ := h
 rw [hk] at h3
 unfold lexOne at h3
 split at h3
 · rename_i hc
   split at h3
   · cases h3
   · injection h3 with h3; injection h3 with _ h3; injection h3 with h3 _
     have hall := takeWhile_all (p := wordB) (l := r) (by omega)
     rw [ht]
     intro x hx
     rcases List.mem_cons.1 hx with rfl | hx
     · simp [wordB, hc]
     · exact hall x hx
 · exfalso
   split at h3
   · split at h3
     · cases h3
     · injection h3 with h3; injection h3 with h3 _; exact absurd h3 (by decide)
   · split at h3
     · injection h3 with h3; injection h3 with h3 _; exact absurd h3 (by decide)
     · split at h3
       · split at h3 <;> (injection h3 with h3; injection h3 with h3 _; exact absurd h3 (by decide))
       · split at h3
         · split at h3
           · injection h3 with h3; injection h3 with h3 _; exact absurd h3 (by decide)
           · cases h3
         · cases h3
theorem word_nospace {c : UInt8} (h : wordB c = true) : c ≠ 32 := by rintro rfl; revert h; decide
theorem tok_fit {l : List UInt8} {ts : List Tok} (h : lexF l = .ok ts) : ∀ t ∈ ts, (t.kind = 1 ∨ t.kind = 2 ∨ t.kind = 3) ∧ t.text.length ≤ 30 ∧ t.n ≤ 10000000 ∧ t.pos ≤ 1000000 ∧ (t.kind = 1 → ∀ c ∈ t.text, c ≠ 32) := by
 intro t ht
 have hl := lexF_ok h
 have hm : t ∈ (sc l 0).1 := by rw [hl.1]; exact ht
 have hk := sc_ok l 0 t hm
 have hp := (sc_placed l 0).mem t hm
 have hn := fun hk1 c hc => word_nospace (name_word hk hk1 c hc)
 obtain ⟨c, r, h0, h1, h2, h3⟩ := hk
 obtain ⟨a, b, d⟩ := lexOne_fit h3
 refine ⟨a, ?_, d, by omega, hn⟩
 rw [h0]; simp; omega
theorem lexOne_err {c : UInt8} {r : List UInt8} {e : Nat} (h : lexOne c r = .error e) : e ≠ 0 := by
 unfold lexOne at h
 split at h
 · split at h
   · cases h; decide
   · cases h
 · split at h
   · split at h
     · cases h; decide
     · cases h
   · split at h
     · cases h
     · split at h
       · split at h <;> cases h
       · split at h
         · split at h
           · cases h
           · cases h; decide
         · cases h; decide
theorem sc_err_ne (l : List UInt8) (p : Nat) : ∀ e q, (sc l p).2 = some (e, q) → e ≠ 0 := by
 refine sc_ind (M := fun l p => ∀ e q, (sc l p).2 = some (e, q) → e ≠ 0) ?_ ?_ ?_ ?_ ?_ l.length l p (Nat.le_refl _)
 · intro p e q h; simp [sc_nil] at h
 · intro c r p h ih e q hq; rw [sc_blank _ _ h] at hq; exact ih e q hq
 · intro r p ih e q hq; rw [sc_hash] at hq; exact ih e q hq
 · intro c r p e h1 h2 h3 e' q hq; rw [sc_err _ h1 h2 h3] at hq; simp at hq; rw [← hq.1]; exact lexOne_err h3
 · intro c r p j n v h1 h2 h3 ih e q hq
   rw [sc_tok _ h1 h2 h3] at hq
   exact ih e q hq
theorem lexF_err_ne {l : List UInt8} {e : Nat} {at' : Int} (h : lexF l = .error (e, at')) : e ≠ 0 := by
 unfold lexF at h
 rw [show scan l.length l 0 = sc l 0 from rfl] at h
 split at h
 · cases h; decide
 · split at h
   · cases h; decide
   · split at h
     · rename_i e' p' he
       cases h
       exact sc_err_ne l 0 _ _ he
     · cases h
end Go.Proofs.YtbicmjmcdnkjhaaGreatDoor
namespace Go.Proofs.YtbicmjmcdnkjhaaGreatDoor
theorem north_law {p : ProvI} (hp : plainP p) (h : (northA p).2 = 0) : p = upP (downP p) ∧ WriteOk (downP p) ∧ parseF (northA p).1 = .ok (downP p) ∧ ∃ ts, lexF (northA p).1 = .ok ts := by
 obtain ⟨h1, h2, ⟨ts, h3⟩, h4⟩ := ansP_ok h
 obtain ⟨e, hw⟩ := written_down hp h1
 have hok := ok_wr.2 ⟨hw, h2⟩
 refine ⟨e, hok, ?_, ts, ?_⟩
 · rw [show (northA p).1 = textN (downP p) from h4]
   exact north_round hok h3
 · rw [show (northA p).1 = textN (downP p) from h4]
   exact h3
/- the key words of both languages are words -/
/- what is refused -/
theorem refuses_ref {p : ProvI} (h : refP p = true) : writtenI p = false := by
 unfold writtenI
 rw [h]
 rfl
theorem ans_arg {p : ProvI} (h : writtenI p = false) : northA p = ([], 1) ∧ southA p = ([], 1) := by
 have hn : ¬ writtenI p = true := by rw [h]; simp
 exact ⟨by unfold northA ansP; rw [if_neg hn], by unfold southA ansP; rw [if_neg hn]⟩
end Go.Proofs.YtbicmjmcdnkjhaaGreatDoor
namespace Go.Proofs.YtbicmjmcdnkjhaaGreatDoor
theorem okFs_of : ∀ {l : List Tree}, (∀ t ∈ l, okF t = true) → okFs l = true
 | [], _ => by rw [okFs]
 | t :: r, h => by rw [okFs, h t (by simp), okFs_of fun x hx => h x (by simp [hx])]; rfl
/- written again -/
mutual
theorem plainS_up : ∀ {t : Tree}, shapeS t = true → plainS (up t)
 | .mk op name cmp n ks, h => by
   rw [shapeS] at h
   simp only [Bool.and_eq_true, decide_eq_true_eq] at h
   rw [up, plainS]
   exact ⟨by omega, plainSs_up h.2⟩
theorem plainSs_up : ∀ {ks : List Tree}, shapeSs ks = true → plainSs (ups ks)
 | [], _ => by rw [ups, plainSs]; trivial
 | k :: r, h => by
   rw [shapeSs, Bool.and_eq_true] at h
   rw [ups, plainSs]
   exact ⟨plainS_up h.1, plainSs_up h.2⟩
end
theorem plainP_up {p : Prov} (h : WrOk p) : plainP (upP p) := ⟨plainS_up h.beg, plainS_up h.fin, plainS_up h.aga⟩
/- a text of the first language, written again in both -/
end Go.Proofs.YtbicmjmcdnkjhaaGreatDoor
namespace Go.Proofs.YtbicmjmcdnkjhaaGreatDoor
namespace So
def AllT (l : List Tok) : Prop := ∀ t ∈ l, TokOk t
theorem AllT.tail {l : List Tok} (h : AllT l) : AllT l.tail := fun t ht => h t (List.mem_of_mem_tail ht)
def G {α : Type} (V : α → Prop) (P : List Tok → R α) : Prop := ∀ l x r, AllT l → P l = .ok (x, r) → V x ∧ AllT r
theorem G.pure {α : Type} {V : α → Prop} {x : α} (h : V x) : G V (fun l => .ok (x, l)) := fun l y r hl hp => by cases hp; exact ⟨h, hl⟩
theorem G.fail {α : Type} {V : α → Prop} : G V (fun l => (failR l : R α)) := fun l y r hl hp => by cases hp
theorem G.bind {α β : Type} {V : α → Prop} {U : β → Prop} {P : List Tok → R α} {Q : α → List Tok → R β} (hP : G V P) (hQ : ∀ x, V x → G U (Q x)) : G U (fun l => bindR (P l) Q) := by
 intro l y r hl hp
 cases hq : P l with
 | error e => simp only [hq, bindR] at hp; cases hp
 | ok v =>
   obtain ⟨x, r1⟩ := v
   simp only [hq, bindR] at hp
   obtain ⟨h1, h2⟩ := hP l x r1 hl hq
   exact hQ x h1 r1 y r h2 hp
theorem G.is {α : Type} {V : α → Prop} {w : List UInt8} {yes : List Tok → List Tok → R α} {no : List Tok → R α} (hy : ∀ a, G V (yes a)) (hn : G V no) : G V (fun l => isF w l (yes l) no) := by
 intro l y r hl hp
 simp only [isF] at hp
 split at hp
 · exact hy l l.tail y r hl.tail hp
 · exact hn l y r hl hp
theorem G.guard {α : Type} {V : α → Prop} {e : Nat} {P : List Tok → R α} (h : e = 0 → G V P) : ∀ a, G V (fun l => guardR a e (P l)) := by
 intro a l y r hl hp
 simp only [guardR] at hp
 split at hp
 · rename_i h0; exact h h0 l y r hl hp
 · cases hp
theorem G.must {w : List UInt8} : G (fun _ => True) (mustF w) := G.is (fun _ => G.pure trivial) G.fail
theorem G.name : G (fun s => nameOk s = true) nameF := by
 intro l x r hl hp
 cases l with
 | nil => cases hp
 | cons t r0 =>
   simp only [nameF] at hp
   split at hp
   · rename_i hk
     cases hp
     refine ⟨?_, fun x hx => hl x (by simp [hx])⟩
     simp at hk
     obtain ⟨c, r', e, _, _, h3⟩ := hl t (by simp)
     unfold nameOk
     rw [hk.2]
     have : (coreW t.text).1 = 1 := by
      rw [e]
      unfold coreW
      simp only [h3, if_true]
      exact hk.1
     rw [this]
     rfl
   · cases hp
theorem G.number : G (fun _ => True) numberF := by
 intro l x r hl hp
 cases l with
 | nil => cases hp
 | cons t r0 =>
   simp only [numberF] at hp
   split at hp
   · cases hp; exact ⟨trivial, fun x hx => hl x (by simp [hx])⟩
   · cases hp
theorem G.limit (most : Nat) : G (fun n => n ≤ most) (limitF most) := by
 intro l y r hl hp
 unfold limitF at hp
 cases hq : numberF l with
 | error e => simp only [hq, bindR] at hp; cases hp
 | ok v =>
   obtain ⟨x, r1⟩ := v
   simp only [hq, bindR] at hp
   split at hp
   · cases hp
   · cases hp
     exact ⟨by omega, (G.number l _ _ hl hq).2⟩
theorem G.choose (ws : List (List UInt8)) : G (fun i => i < ws.length) (chooseF ws) := by
 intro l x r hl hp
 cases l with
 | nil => cases hp
 | cons t r0 =>
   simp only [chooseF] at hp
   split at hp
   · split at hp
     · rename_i j hj
       cases hp
       unfold List.idxOf? at hj
       rw [List.findIdx?_eq_some_iff_getElem] at hj
       exact ⟨hj.1, fun x hx => hl x (by simp [hx])⟩
     · cases hp
   · cases hp
/- the stack -/
structure St (ok : Tree → Bool) (n : Nat) (st : Stack) : Prop where
 all : ∀ x ∈ st, ok x.1 = true ∧ x.1.deep = x.2 ∧ x.2 ≤ 20
 size : sizes (st.map (·.1)) ≤ n
theorem sizes_app : ∀ (a b : List Tree), sizes (a ++ b) = sizes a + sizes b
 | [], b => by simp [sizes]
 | x :: a, b => by rw [List.cons_append, sizes, sizes, sizes_app a b]; omega
theorem foldl_deep : ∀ (st : Stack) (d : Nat), (∀ x ∈ st, x.1.deep = x.2) → st.foldl (fun d x => max d (x.2 + 1)) d = max d (if st = [] then 0 else deeps (st.map (·.1)) + 1)
 | [], d, _ => by simp
 | x :: r, d, h => by
   rw [List.foldl_cons, foldl_deep r _ (fun y hy => h y (by simp [hy])), List.map_cons]
   simp only [deeps, h x (by simp)]
   cases r with
   | nil => simp [deeps]
   | cons y r => simp <;> omega
theorem deepK_eq {st : Stack} (h : ∀ x ∈ st, x.1.deep = x.2) : deepK st = deeps (st.map (·.1)) + 1 := by
 unfold deepK
 rw [foldl_deep st 1 h]
 cases st with
 | nil => simp [deeps]
 | cons x r => simp
theorem St.snoc {ok : Tree → Bool} {n m : Nat} {st : Stack} {t : Tree} {d : Nat} (h : St ok n st) (h1 : ok t = true) (h2 : t.deep = d) (h3 : d ≤ 20) (h4 : t.size + n ≤ m) : St ok m (st ++ [(t, d)]) := by
 refine ⟨fun y hy => ?_, ?_⟩
 · simp at hy
   rcases hy with hy | rfl
   · exact h.all y hy
   · exact ⟨h1, h2, h3⟩
 · rw [List.map_append, sizes_app]
   have := h.size
   simp only [List.map_cons, List.map_nil, sizes]
   omega
theorem G.combine {ok : Tree → Bool} {n op k : Nat} {st : Stack} (hs : St ok n st) (hk : ∀ l : List Tree, (∀ t ∈ l, ok t = true) → l.length = k → ok (.mk op [] 0 0 l) = true) (a : List Tok) : G (St ok (n + 1)) (combineF op k a st) := by
 intro r y r' hr hp
 unfold combineF at hp
 split at hp
 · cases hp
 split at hp
 · cases hp
 · rename_i h1 h2
   cases hp
   refine ⟨?_, hr⟩
   have hd : ∀ x ∈ st.drop (st.length - k), ok x.1 = true ∧ x.1.deep = x.2 ∧ x.2 ≤ 20 := fun x hx => hs.all x (List.mem_of_mem_drop hx)
   have hz : sizes ((st.take (st.length - k)).map (·.1)) + sizes ((st.drop (st.length - k)).map (·.1)) ≤ n := by
    rw [← sizes_app, ← List.map_append, List.take_append_drop]
    exact hs.size
   have ht : St ok (sizes ((st.take (st.length - k)).map (·.1))) (st.take (st.length - k)) := ⟨fun x hx => hs.all x (List.mem_of_mem_take hx), Nat.le_refl _⟩
   refine ht.snoc (hk _ (fun t ht => ?_) (by simp; omega)) ?_ (by omega) ?_
   · obtain ⟨x, hx, rfl⟩ := List.mem_map.1 ht
     exact (hd x hx).1
   · rw [deepK_eq fun x hx => (hd x hx).2.1, Tree.deep]
   · rw [Tree.size]; omega
theorem G.group {ok : Tree → Bool} {n op : Nat} {st : Stack} (hs : St ok n st) (hk : ∀ l : List Tree, (∀ t ∈ l, ok t = true) → 2 ≤ l.length → ok (.mk op [] 0 0 l) = true) (a : List Tok) : G (St ok (n + 1)) (groupF op a st) := by
 unfold groupF
 refine G.bind G.number fun k _ => ?_
 intro l y r hl hp
 simp only at hp
 split at hp
 · cases hp
 · exact G.combine hs (fun l h1 h2 => hk l h1 (by omega)) a l y r hl hp
theorem G.push {ok : Tree → Bool} {n op c v : Nat} {nm : List UInt8} {st : Stack} (hs : St ok n st) (h : ok (.mk op nm c v []) = true) : G (St ok (n + 1)) (pushF st (.mk op nm c v [])) := by
 unfold pushF
 exact G.pure (hs.snoc h (by simp [Tree.deep, deeps]) (by omega) (by simp [Tree.size, sizes]; omega))
theorem okFs_of : ∀ {l : List Tree}, (∀ t ∈ l, okF t = true) → okFs l = true
 | [], _ => by rw [okFs]
 | t :: r, h => by rw [okFs, h t (by simp), okFs_of fun x hx => h x (by simp [hx])]; rfl
theorem manyF {op : Nat} (ho : op = 6 ∨ op = 7) (l : List Tree) (h : ∀ t ∈ l, okF t = true) (h2 : 2 ≤ l.length) : okF (.mk op [] 0 0 l) = true := by
 rw [okF, okFs_of h]
 rcases ho with rfl | rfl <;> simp [h2]
theorem G.item {n : Nat} {st : Stack} (hs : St okF n st) : G (St okF (n + 1)) (itemF st) := by
 unfold itemF
 refine G.is (fun _ => G.push hs (by rw [okF, okFs]; simp)) ?_
 refine G.is (fun _ => G.push hs (by rw [okF, okFs]; simp)) ?_
 refine G.is (fun a => G.combine hs (fun l h1 h2 => by rw [okF, okFs_of h1]; simp [h2]) a) ?_
 refine G.is (fun a => G.group hs (manyF (Or.inl rfl)) a) ?_
 refine G.is (fun a => G.group hs (manyF (Or.inr rfl)) a) ?_
 refine G.bind G.name fun s hg => ?_
 refine G.is (fun _ => G.push hs (by rw [okF, okFs]; simp [hg])) ?_
 unfold testF
 exact G.bind (G.limit _) fun v hv => G.bind (G.choose _) fun c hc => G.push hs (by simp at hc; rw [okF, okFs]; simp [hg, hv]; omega)
theorem G.loop {ok : Tree → Bool} {begins : List Tok → Bool} {item : Stack → List Tok → R Stack} (hi : ∀ n st, St ok n st → G (St ok (n + 1)) (item st)) : ∀ (f n : Nat) (st : Stack), St ok n st → n + f ≤ 201 → G (St ok 200) (loopF begins item f st)
 | 0, n, st, _, _ => fun l x r _ hp => by cases hp
 | f + 1, n, st, hs, hn => by
   intro l y r hl hp
   unfold loopF at hp
   split at hp
   · cases hp; exact ⟨⟨hs.all, by have := hs.size; omega⟩, hl⟩
   split at hp
   · split at hp
     · cases hp
     · exact (G.bind (hi n st hs) fun s2 h2 => G.loop hi f (n + 1) s2 h2 (by omega)) l y r hl hp
   · cases hp
theorem G.opt {α : Type} {V : α → Prop} {w : List UInt8} {d : α} {p : List Tok → R α} (hp : G V p) (hd : V d) : G V (optR w d p) := G.is (fun _ => hp) (G.pure hd)
def ExcOk (l : List (List UInt8)) : Prop := (∀ s ∈ l, nameOk s = true) ∧ l.Nodup ∧ l.length ≤ 20
theorem ExcOk.snoc {l : List (List UInt8)} {s : List UInt8} (h : ExcOk l) (hs : nameOk s = true) (he : excC l s = 0) : ExcOk (l ++ [s]) := by
 unfold excC at he
 split at he
 · cases he
 · rename_i hc
   split at he
   · cases he
   · rename_i h20
     obtain ⟨h1, h2, h3⟩ := h
     refine ⟨fun x hx => ?_, ?_, by simp; omega⟩
     · simp at hx
       rcases hx with hx | rfl
       · exact h1 x hx
       · exact hs
     · rw [List.nodup_append]
       refine ⟨h2, by simp, fun a ha b hb => ?_⟩
       simp at hb
       subst hb
       rintro rfl
       exact hc (by simpa using ha)
theorem G.names : ∀ (n : Nat) (out : List (List UInt8)), ExcOk out → G ExcOk (So.namesF n out)
 | 0, out, _ => fun l x r _ hp => by cases hp
 | n + 1, out, ho => by
   intro l y r hl hp
   unfold So.namesF at hp
   exact (G.bind G.name fun s hs => G.guard (fun h0 => G.is (fun _ => G.pure (ho.snoc hs h0)) (G.names n _ (ho.snoc hs h0))) l) l y r hl hp
theorem G.exc : G ExcOk excF := G.bind G.must fun _ _ => G.names 22 [] ⟨by simp, by simp, by simp⟩
theorem G.kind : G (fun k => (k.1 = 1 ∧ k.2.2 = 0 ∨ k.1 = 2) ∧ nameOk k.2.1 = true ∧ k.2.2 ≤ 1000000) kindF :=
 G.is (fun _ => G.bind G.name fun s hs => G.pure ⟨.inl ⟨rfl, rfl⟩, hs, by show 0 ≤ _; omega⟩)
  (G.bind G.must fun _ _ => G.bind G.name fun s hs => G.bind G.must fun _ _ => G.bind (G.limit _) fun v hv => G.pure ⟨.inr rfl, hs, hv⟩)
/- a text of the second language, written again in both -/
end So
end Go.Proofs.YtbicmjmcdnkjhaaGreatDoor
