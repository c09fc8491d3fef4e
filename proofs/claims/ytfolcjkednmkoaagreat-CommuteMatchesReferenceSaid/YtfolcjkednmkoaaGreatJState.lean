/- The state of a code: its items by Id, the order of the children of each, and how many there are; what patches do to it. What a patch that is possible does to the state of a code; codes with one state are one. What a patch does to the state of a code. Two patches that commute: both orders lead to one state. Two patches that commute, and two inserts that are exchanged: both orders lead to one code. -/
import Derived.Test.YtfolcjkednmkoaaGreatLaw
set_option linter.unusedVariables false
set_option linter.unusedSimpArgs false
namespace Go.Proofs.YtfolcjkednmkoaaGreat
abbrev Its := Str → Item
structure Inv (it : Its) : Prop where
 closed : ∀ y, (it y).kind ≠ 0 → (it y).par ≠ [] → (it (it y).par).kind = 1
 none : ∀ y, (it y).kind = 0 → (it y).par = []
 nil : (it []).kind = 0
/- the items of a code -/
theorem Good.it_kind {l : List Item} {R : List Row} (hg : Good l R) {i : Str} (h : (itemF l i).kind ≠ 0) : itemF l i ∈ l ∧ (itemF l i).id = i ∧ ∃ o, (itemF l i, o) ∈ R := by
 rcases hg.look i with ⟨_, h2, _⟩ | ⟨a, x, o, r, b, hx, hB, _, hi, _⟩
 · rw [h2] at h; exact absurd rfl h
 · have hm : (x, o) ∈ R := by rw [hB.eq]; simp
   rw [hi]
   exact ⟨hg.mem hm, hx, o, hm⟩
theorem Good.it_none {l : List Item} {R : List Row} (hg : Good l R) {i : Str} (h : (itemF l i).kind = 0) : itemF l i = noItem ∧ findI l i = -1 ∧ ∀ x ∈ l, x.id ≠ i := by
 rcases hg.look i with ⟨h1, h2, h3⟩ | ⟨a, x, o, r, b, hx, hB, _, hi, _⟩
 · exact ⟨h2, h1, h3⟩
 · have hm : (x, o) ∈ R := by rw [hB.eq]; simp
   have := proper_kind (hg.proper hm)
   rw [hi] at h
   simp only at this
   omega
/- the row of the parent -/
theorem Good.parent {l : List Item} {R : List Row} (hg : Good l R) {y : Row} (hy : y ∈ R) (hne : y.1.par ≠ []) : ∃ u, y.2 = u ++ [y.1.par] ∧ ∃ w ∈ R, w.1.id = y.1.par ∧ w.2 = u ∧ w.1.kind = 1 := by
 obtain ⟨h1, h2⟩ := hg.par_last hy
 have hn : y.2 ≠ [] := by
  intro h
  rw [h] at h1
  exact hne h1.symm
 obtain ⟨u, hu⟩ := last_split hn
 rw [h1] at hu
 exact ⟨u, hu, hg.anc y hy u y.1.par [] hu⟩
theorem Good.inv {l : List Item} {R : List Row} (hg : Good l R) : Inv (itemF l) := by
 refine ⟨?_, ?_, ?_⟩
 · intro y hy hp
   obtain ⟨hm, hi, o, ho⟩ := hg.it_kind hy
   obtain ⟨u, _, w, hw, hwi, _, hk⟩ := hg.parent ho hp
   rw [← hwi, hg.item_of (hg.mem hw)]
   exact hk
 · intro y hy
   rw [(hg.it_none hy).1]; rfl
 · cases Classical.em ((itemF l []).kind = 0) with
   | inl h => exact h
   | inr h =>
     obtain ⟨hm, hi, _⟩ := hg.it_kind h
     exact absurd hi (proper_id (hg.pr _ hm))
/- which patches are possible -/
end Go.Proofs.YtfolcjkednmkoaaGreat
namespace Go.Proofs.YtfolcjkednmkoaaGreat
/- rows are known by their items -/
/- who comes next stands as deep as he may -/
/- the order of the children -/
end Go.Proofs.YtfolcjkednmkoaaGreat
namespace Go.Proofs.YtfolcjkednmkoaaGreat
/- where the items of a block have their parents -/
end Go.Proofs.YtfolcjkednmkoaaGreat
namespace Go.Proofs.YtfolcjkednmkoaaGreat
def placesK (k : Int) : Bool := k == 1 || k == 4
def namesF (p : Patch) (id : Str) : Bool := p.par == id || p.aft == id
def ownF (j k : Int) : Bool := (j == 2 && k == 3) || ((j == 2 && k == 4) || ((j == 3 && k == 4) || ((j == 3 && k == 7) || (j == 4 && k == 7))))
def thereF (a b : Patch) : Bool := a.par == b.par && a.aft == b.aft
def commO (a b : Patch) : Bool :=
 if !formedF a || !formedF b then false
 else if patEq a b then true
 else if a.id == b.id then (a.kind == b.kind && (a.kind == 2 && a.lang != b.lang)) || ownF a.kind b.kind
 else if !placesK a.kind || !placesK b.kind then true
 else if b.kind == 1 then !thereF a b && (!namesF a b.id && !namesF b a.id)
 else if a.kind == 1 then !thereF a b && (!namesF b a.id && a.aft != b.id)
 else a.par == b.par && (!thereF a b && (a.aft != b.id && b.aft != a.id))
def commF (a b : Patch) : Bool := if b.kind < a.kind then commO b a else commO a b
theorem bool_ne {α : Type} [BEq α] [LawfulBEq α] {a b : α} : (a == b) = (b == a) := by
 rw [Bool.eq_iff_iff, beq_iff_eq, beq_iff_eq]; exact ⟨Eq.symm, Eq.symm⟩
theorem patEq_symm (a b : Patch) : patEq a b = patEq b a := by
 rw [Bool.eq_iff_iff, patEq_iff, patEq_iff, eq_comm]
theorem commF_symm (a b : Patch) : commF a b = commF b a := by
 unfold commF
 rcases Int.lt_trichotomy a.kind b.kind with h | h | h
 · rw [if_neg (by omega), if_pos h]
 · rw [if_neg (by omega), if_neg (by omega)]
   unfold commO thereF namesF
   rw [patEq_symm a b, h, bool_ne (a := a.id) (b := b.id), bool_ne (a := a.par) (b := b.par), bool_ne (a := a.aft) (b := b.aft), Bool.or_comm (!formedF a)]
   have e : (a.lang != b.lang) = (b.lang != a.lang) := by unfold bne; rw [bool_ne]
   rw [e]
   by_cases hk : b.kind = 1
   · simp only [hk]
     cases formedF a <;> cases formedF b <;> simp [Bool.and_comm, Bool.and_left_comm, Bool.and_assoc]
   · have : (b.kind == 1) = false := by simpa using hk
     simp only [this]
     cases formedF a <;> cases formedF b <;> simp [Bool.and_comm, Bool.and_left_comm, Bool.and_assoc]
 · rw [if_pos h, if_neg (by omega)]
/- how two patches commute, the first one of the lesser kind -/
inductive CommP (a b : Patch) : Prop
 | same : a = b → CommP a b
 | words : a.id = b.id → a.kind = 2 → b.kind = 2 → a.lang ≠ b.lang → CommP a b
 | own : a.id = b.id → ownF a.kind b.kind = true → CommP a b
 | own' : a.id = b.id → ownF b.kind a.kind = true → CommP a b
 | left : a.id ≠ b.id → (a.kind ≠ 1 ∧ a.kind ≠ 4) → CommP a b
 | right : a.id ≠ b.id → (b.kind ≠ 1 ∧ b.kind ≠ 4) → CommP a b
 | ins : a.id ≠ b.id → a.kind = 1 → b.kind = 1 → (a.par = b.par → a.aft ≠ b.aft) → a.par ≠ b.id → a.aft ≠ b.id → b.par ≠ a.id → b.aft ≠ a.id → CommP a b
 | mix : a.id ≠ b.id → a.kind = 1 → b.kind = 4 → (a.par = b.par → a.aft ≠ b.aft) → b.par ≠ a.id → b.aft ≠ a.id → a.aft ≠ b.id → CommP a b
 | mix' : a.id ≠ b.id → a.kind = 4 → b.kind = 1 → (a.par = b.par → a.aft ≠ b.aft) → a.par ≠ b.id → a.aft ≠ b.id → b.aft ≠ a.id → CommP a b
 | mov : a.id ≠ b.id → a.kind = 4 → b.kind = 4 → a.par = b.par → a.aft ≠ b.aft → a.aft ≠ b.id → b.aft ≠ a.id → CommP a b
theorem CommP.symm {a b : Patch} (h : CommP a b) : CommP b a := by
 cases h with
 | same h => exact .same h.symm
 | words h1 h2 h3 h4 => exact .words h1.symm h3 h2 (Ne.symm h4)
 | own h1 h2 => exact .own' h1.symm h2
 | own' h1 h2 => exact .own h1.symm h2
 | left h1 h2 => exact .right (Ne.symm h1) h2
 | right h1 h2 => exact .left (Ne.symm h1) h2
 | ins h1 h2 h3 h4 h5 h6 h7 h8 => exact .ins (Ne.symm h1) h3 h2 (fun e => Ne.symm (h4 e.symm)) h7 h8 h5 h6
 | mix h1 h2 h3 h4 h5 h6 h7 => exact .mix' (Ne.symm h1) h3 h2 (fun e => Ne.symm (h4 e.symm)) h5 h6 h7
 | mix' h1 h2 h3 h4 h5 h6 h7 => exact .mix (Ne.symm h1) h3 h2 (fun e => Ne.symm (h4 e.symm)) h5 h6 h7
 | mov h1 h2 h3 h4 h5 h6 h7 => exact .mov (Ne.symm h1) h3 h2 h4.symm (Ne.symm h5) h7 h6
/- the laws of orders -/
/- the laws of items -/
/- nothing that a change asks turns with changes of other kinds -/
end Go.Proofs.YtfolcjkednmkoaaGreat
namespace Go.Proofs.YtfolcjkednmkoaaGreat
/- two patches for one item -/
def Pair (a b : Patch) : Prop := a.id = b.id ∧ ((a.kind = 2 ∧ b.kind = 2 ∧ a.lang ≠ b.lang) ∨ ownF a.kind b.kind = true ∨ ownF b.kind a.kind = true)
theorem Pair.symm {a b : Patch} (h : Pair a b) : Pair b a := by
 refine ⟨h.1.symm, ?_⟩
 rcases h.2 with ⟨h1, h2, h3⟩ | h | h
 · exact .inl ⟨h2, h1, Ne.symm h3⟩
 · exact .inr (.inr h)
 · exact .inr (.inl h)
/- the kinds of a pair -/
/- both orders -/
/- what one code answers, another order answers -/
/- two inserts -/
/- two inserts at one place -/
/- an insert after another one -/
end Go.Proofs.YtfolcjkednmkoaaGreat
