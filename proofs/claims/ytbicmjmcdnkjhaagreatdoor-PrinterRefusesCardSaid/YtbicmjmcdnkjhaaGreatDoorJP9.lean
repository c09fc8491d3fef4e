/- The writer's add and name. Conditions compared node by node: plain words. -/
import Derived.Test.YtbicmjmcdnkjhaaGreatDoorJP1
import Derived.Test.YtbicmjmcdnkjhaaGreatDoorJP8
import Derived.OwnWalk
set_option linter.unusedVariables false
set_option linter.unusedSimpArgs false
namespace Go.Proofs.YtbicmjmcdnkjhaaGreatDoor
open Go.RowKit
theorem wpList_append_words {ops : Array Oper} {rest : List Oper} {o : Oper} {a : Act} {w : World} {Q : Exit → Act → World → Prop} (hgd : o.guard = none) (s x : Operand) (hop : o.op = Op.call { callee := Callee.builtin Builtin.append, args := #[s, x], argTypes := #[25, 25] })
    (v : Value) (l X : List (List UInt8)) (g0 c : Nat) (hs : a.eval s = v) (hx : a.eval x = .slice (some ⟨g0, 0, none⟩) X.length c) (hown : OwnS w 0 v l) (hc : ∀ (j : Nat) x, X[j]? = some x → w.cell? ⟨g0, j, none⟩ = some (vs x))
    (hlen : l.length + X.length ≤ 1000000) (h : ∀ v' w', OwnS w' 0 v' (l ++ X) → w.grownBy w' v.ownBlock → (v'.ownBlock = v.ownBlock ∨ v'.ownBlock = some w.heap.size) → wpList Tryz.prog ops Q rest (a.put o.dst v') w') : wpList Tryz.prog ops Q (o :: rest) a w := by
  obtain ⟨i0, hi0, hz0, hz1, hz2⟩ := info_parts info_str
  refine wpList_append_own_at _ hgd s x _ hop 0 9 i0 (.string ⟨#[]⟩) 1 16 Tryz.underlying25 hi0 hz0 hz1 hz2 rfl (by decide) v l.length (l.map vs) hs hown ⟨g0, 0, none⟩ X.length c (X.map vs) hx (by simp) (fun j u hu => ?_) (fun u hu => ?_) (by unfold maxLen; omega) (by omega) (Nat.zero_le _) ?_
  · rw [List.getElem?_map] at hu
    cases hj : X[j]? with
    | none => rw [hj] at hu; cases hu
    | some x =>
      rw [hj] at hu
      cases hu
      rw [Addr.add_lit, Nat.zero_add]
      exact hc j x hj
  · rw [List.mem_map] at hu
    obtain ⟨x, -, rfl⟩ := hu
    rfl
  · intro v' w' ho hg _ hb
    exact h v' w' (by unfold OwnS; simpa using ho) hg hb
theorem WrV.cells {W w : World} {p : Nat} {T : TypeId} {S : Nat → Prop} {v1 v2 : Value} {L N : List (List UInt8)} (h : WrV W w p T S v1 v2 L N) : w.cell? ⟨p, 0, none⟩ = some v1 ∧ w.cell? ⟨p, 1, none⟩ = some v2 ∧ w.frozen? ⟨p, 0, none⟩ = false ∧ w.frozen? ⟨p, 1, none⟩ = false ∧ p < w.heap.size :=
  ⟨cell_of_blk h.is rfl, cell_of_blk h.is rfl, frozen_of_blk h.is, frozen_of_blk h.is, h.lt p h.mem⟩
theorem grown_cells {w w' : World} {p : Nat} {T : TypeId} {C : Array Value} {row : Option Nat} (hp : w.heap[p]? = some (.cells C T (0, 0))) (hg : w.grownBy w' row) (hne : some p ≠ row) : w'.heap[p]? = some (.cells C T (0, 0)) := (hg.block p (lt_of_heap' hp) hne).trans hp
theorem OwnS.sl {w : World} {b : Nat} {v : Value} {l : List (List UInt8)} (h : OwnS w b v l) : ∃ A n c, v = .slice A n c := by
  obtain ⟨A, c, h, -⟩ := h.form
  exact ⟨A, _, c, h⟩
set_option maxRecDepth 20000 in
set_option maxHeartbeats 1000000 in
theorem add_any (W w : World) (p : Nat) (T : TypeId) (S : Nat → Prop) (L N X : List (List UInt8)) (g c : Nat) (h : Wr W w p T S L N) (hX : ∀ (j : Nat) x, X[j]? = some x → w.cell? ⟨g, j, none⟩ = some (vs x)) (hlen : L.length + X.length ≤ 1000000) :
    Calls Tryz.prog 27 #[.pointer (some ⟨p, 0, none⟩), .slice (some ⟨g, 0, none⟩) X.length c] w (WrPost W w p T S (L ++ X) N) := by
  obtain ⟨v1, v2, h⟩ := h
  obtain ⟨c1, c2, f1, f2, hpl⟩ := h.cells
  have H := Lib.hid h
  have HX := Lib.hid hX
  clear h hX
  go_enter Tryz.func27, Tryz.ntmps27
  go_wp2_with (at_builtin; refine wpList_append_words rfl (.tmp 8) (.tmp 9) rfl v1 L X g c rfl rfl H.out.l HX.out hlen ?_; intro v' w2 ho hg hb; have hk := grown_cells H.out.is hg (fun e => (H.out.ol p e.symm).2 rfl); have k1 : w2.cell? ⟨p, 0, none⟩ = some v1 := cell_of_blk (o := 0) hk rfl; have kl := lt_of_heap' hk; obtain ⟨A', n', cap', rfl⟩ := ho.sl; have k2 := frozen_of_blk (o := 0) hk; have HO := Lib.hid (And.intro ho (And.intro hg hb)); clear ho hg hb hk c1 c2 f1 f2)
  go_end0
  obtain ⟨ho, hg, hb⟩ := HO.out
  exact ⟨rfl, _, ⟨_, _, (H.out.put1 ho hg hb).1⟩, (H.out.put1 ho hg hb).2⟩
theorem cells_one {w : World} {s : List UInt8} {t : TypeId} : ∀ (j : Nat) x, [s][j]? = some x → (w.alloc (.cells #[vs s] t)).cell? ⟨w.heap.size, j, none⟩ = some (vs x) := by
  intro j x hx
  cases j with
  | succ j => simp at hx
  | zero =>
    simp at hx
    subst hx
    exact cell_of_blk (new_at rfl) rfl
set_option maxRecDepth 20000 in
set_option maxHeartbeats 1000000 in
theorem name_w (W w : World) (p : Nat) (T : TypeId) (S : Nat → Prop) (L N : List (List UInt8)) (s : List UInt8) (h : Wr W w p T S L N) (hlen : L.length + 1 ≤ 1000000) (hlen2 : N.length + 1 ≤ 1000000) :
    Calls Tryz.prog 28 #[.pointer (some ⟨p, 0, none⟩), vs s] w (WrPost W w p T S (L ++ [s]) (N ++ [s])) := by
  obtain ⟨v1, v2, h⟩ := h
  have H0 := Lib.hid h
  have H := Lib.hid (h.keep ((Below.refl _ _).alloc (Nat.le_refl _) (.cells #[vs s] 9)))
  obtain ⟨c1, c2, f1, f2, hpl⟩ := h.cells
  clear h
  go_enter Tryz.func28, Tryz.ntmps28
  go_wp2_with (at_builtin; refine wpList_append_words rfl (.tmp 8) (.tmp 10) rfl v2 N [s] w.heap.size 1 rfl rfl H.out.n cells_one (by simpa using hlen2) ?_; intro v' w2 ho hg hb; have hk := grown_cells H.out.is hg (fun e => (H.out.on p e.symm).2.1 rfl); have k1 : w2.cell? ⟨p, 1, none⟩ = some v2 := cell_of_blk (o := 1) hk rfl; obtain ⟨A', n', cap', rfl⟩ := ho.sl; have k2 := frozen_of_blk (o := 1) hk; have kl := lt_of_heap' hk; have HO := Lib.hid (And.intro ho (And.intro hg hb)); clear ho hg hb hk c1 c2 f1 f2 hpl)
  obtain ⟨ho, hg, hb⟩ := HO.out
  obtain ⟨q1, q2⟩ := H.out.put2 ho hg hb
  have Q1 := Lib.hid q1
  have Q2 := Lib.hid q2
  clear ho hg hb q1 q2
  refine (add_any W _ p T _ L (N ++ [s]) [s] _ 1 ⟨_, _, Q1.out.keep ((Below.refl _ _).alloc (Nat.le_refl _) (.cells #[vs s] 9))⟩ (by simpa using cells_one (w := w2.setCell ⟨p, 1, none⟩ (.slice A' n' cap')) (s := s) (t := 9)) (by simpa using hlen)).mono ?_
  rintro e w3 ⟨rfl, S', hw, hf⟩
  have HW := Lib.hid hw
  have HF := Lib.hid hf
  clear hw hf
  go_wp2_with fail
  go_end0
  refine ⟨rfl, S', HW.out, ?_⟩
  exact ((WrFr.of_below S ((Below.refl _ _).alloc (Nat.le_refl _) _)).trans Q2.out).trans ((WrFr.of_below _ ((Below.refl _ _).alloc (Nat.le_refl _) _)).trans HF.out)
end Go.Proofs.YtbicmjmcdnkjhaaGreatDoor
namespace Go.Proofs.YtbicmjmcdnkjhaaGreatDoor
mutual
def eqX : TreeI → TreeI → Bool
  | .mk op name cmp n ks, .mk op' name' cmp' n' ks' => op == op' && name == name' && cmp == cmp' && n == n' && decide (ks.length = ks'.length) && eqXs ks ks'
def eqXs : List TreeI → List TreeI → Bool
  | [], _ => true
  | _ :: _, [] => true
  | k :: r, k' :: r' => eqX k k' && eqXs r r'
end
mutual
theorem eqX_iff : ∀ (t u : TreeI), eqX t u = true ↔ t = u
  | .mk op name cmp n ks, .mk op' name' cmp' n' ks' => by
    rw [eqX]
    simp only [Bool.and_eq_true, beq_iff_eq, decide_eq_true_eq, TreeI.mk.injEq]
    constructor
    · rintro ⟨⟨⟨⟨⟨h1, h2⟩, h3⟩, h4⟩, h5⟩, h6⟩
      exact ⟨h1, h2, h3, h4, (eqXs_iff ks ks' h5).1 h6⟩
    · rintro ⟨h1, h2, h3, h4, h5⟩
      have hl : ks.length = ks'.length := by rw [h5]
      exact ⟨⟨⟨⟨⟨h1, h2⟩, h3⟩, h4⟩, hl⟩, (eqXs_iff ks ks' hl).2 h5⟩
theorem eqXs_iff : ∀ (ks us : List TreeI), ks.length = us.length → (eqXs ks us = true ↔ ks = us)
  | [], [], _ => by rw [eqXs]; simp
  | [], _ :: _, h => by simp at h
  | _ :: _, [], h => by simp at h
  | k :: r, k' :: r', h => by
    rw [eqXs, Bool.and_eq_true, eqX_iff k k', eqXs_iff r r' (by simpa using h)]
    simp
end
/- from a place on -/
theorem eqXs_drop {ks us : List TreeI} {k : Nat} {x y : TreeI} (hx : ks[k]? = some x) (hy : us[k]? = some y) : eqXs (ks.drop k) (us.drop k) = (eqX x y && eqXs (ks.drop (k + 1)) (us.drop (k + 1))) := by
  obtain ⟨h1, rfl⟩ := List.getElem?_eq_some_iff.1 hx
  obtain ⟨h2, rfl⟩ := List.getElem?_eq_some_iff.1 hy
  rw [List.drop_eq_getElem_cons h1, List.drop_eq_getElem_cons h2, eqXs]
def eqP (p q : ProvI) : Bool := p.id == q.id && p.rank == q.rank && p.kind == q.kind && p.name == q.name && p.value == q.value && p.exc == q.exc && eqX p.cond q.cond && eqX p.beg q.beg && eqX p.fin q.fin && eqX p.aga q.aga
theorem eqP_iff (p q : ProvI) : eqP p q = true ↔ p = q := by
  unfold eqP
  simp only [Bool.and_eq_true, beq_iff_eq, eqX_iff]
  constructor
  · rintro ⟨⟨⟨⟨⟨⟨⟨⟨⟨h1, h2⟩, h3⟩, h4⟩, h5⟩, h6⟩, h7⟩, h8⟩, h9⟩, h10⟩
    cases p
    cases q
    simp only at *
    subst h1 h2 h3 h4 h5 h6 h7 h8 h9 h10
    rfl
  · rintro rfl
    simp
end Go.Proofs.YtbicmjmcdnkjhaaGreatDoor
