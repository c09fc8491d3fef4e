/- Results of the parser's functions; conditions in memory. -/
import Derived.Test.YtpagkakplmeokaaDoorNMust
import Derived.Test.YtpagkakplmeokaaDoorNPlain
import Derived.Laws.AppendOwn
set_option linter.unusedVariables false
set_option linter.unusedSimpArgs false
namespace Go.Proofs.YtpagkakplmeokaaDoor
open Go.RowKit
/- what a function of the parser answers -/
def OutR {α : Type} (p fin : Nat) (w : World) (res : R α) (V : α → Value → World → Prop) (e : Ending) (w' : World) : Prop :=
  match res with
  | .ok (x, r) => ∃ v, e = .returned v ∧ V x v w' ∧ PS w' p fin r ∧ Eff p w w'
  | .error (er, s) => e = stopE er (posAt fin s) ∧ Eff p w w'
theorem must_any (ws : List (List UInt8)) (W : Option Addr) (cw : Nat) (p fin : Nat) (l : List Tok) (w : World) (hp : PS w p fin l) (hr : RdS w W ws) (hl : ws.length ≤ 100) :
    Calls Tryd.prog 37 #[.pointer (some ⟨p, 0, none⟩), .slice W ws.length cw] w (OutR p fin w (mustF ws l) (fun i v _ => v = .int .i64 i)) := by
  rcases takeF_cases ws l with ht | ⟨t, r, i, rfl, ht, -, -⟩
  · have h : mustF ws l = .error (failC l, l) := by simp only [mustF, optF, ht, failR]
    rw [h]
    exact (must_no ws W cw p fin l w hp hr hl ht).mono fun e w' ⟨h1, h2⟩ => ⟨h1, Eff.of_below h2⟩
  · have h : mustF ws (t :: r) = .ok (i, r) := by simp only [mustF, optF, ht]
    rw [h]
    exact (must_ok ws W cw p fin t r w hp hr hl i ht).mono fun e w' ⟨h1, h2, h3⟩ => ⟨_, h1, rfl, h2, h3⟩
theorem name_any (p fin : Nat) (l : List Tok) (w : World) (hp : PS w p fin l) :
    Calls Tryd.prog 38 #[.pointer (some ⟨p, 0, none⟩)] w (OutR p fin w (nameF l) (fun s v _ => v = vs s)) := by
  cases l with
  | nil => exact (name_nil p fin w hp).mono fun e w' ⟨h1, h2⟩ => ⟨h1, Eff.of_below h2⟩
  | cons t r =>
    by_cases hk : t.kind = 1
    · cases hq : keyF t.text with
      | false =>
        have h : nameF (t :: r) = .ok (t.text, r) := by simp [nameF, hk, hq]
        rw [h]
        exact (name_ok p fin t r w hp hk hq).mono fun e w' ⟨h1, h2, h3⟩ => ⟨_, h1, rfl, h2, h3⟩
      | true =>
        have h : nameF (t :: r) = .error (5, t :: r) := by simp [nameF, hk, hq, failR, failC]
        rw [h]
        exact (name_key p fin t r w hp hk hq).mono fun e w' ⟨h1, h2⟩ => ⟨h1, Eff.of_below h2⟩
    · have h : nameF (t :: r) = .error (5, t :: r) := by simp [nameF, hk, failR, failC]
      rw [h]
      exact (name_kind p fin t r w hp hk).mono fun e w' ⟨h1, h2⟩ => ⟨h1, Eff.of_below h2⟩
theorem number_any (most : Nat) (p fin : Nat) (l : List Tok) (w : World) (hp : PS w p fin l) :
    Calls Tryd.prog 39 #[.pointer (some ⟨p, 0, none⟩), .int .i64 most] w (OutR p fin w (numberF most l) (fun n v _ => v = .int .i64 n)) := by
  cases l with
  | nil => exact (number_nil most p fin w hp).mono fun e w' ⟨h1, h2⟩ => ⟨h1, Eff.of_below h2⟩
  | cons t r =>
    by_cases hk : t.kind = 2
    · by_cases hm : most < t.n
      · have h : numberF most (t :: r) = .error (10, t :: r) := by simp [numberF, hk, hm]
        rw [h]
        exact (number_big most p fin t r w hp hk hm).mono fun e w' ⟨h1, h2⟩ => ⟨h1, Eff.of_below h2⟩
      · have h : numberF most (t :: r) = .ok (t.n, r) := by simp [numberF, hk, hm]
        rw [h]
        exact (number_ok most p fin t r w hp hk (by omega)).mono fun e w' ⟨h1, h2, h3⟩ => ⟨_, h1, rfl, h2, h3⟩
    · have h : numberF most (t :: r) = .error (5, t :: r) := by simp [numberF, hk, failR, failC]
      rw [h]
      exact (number_kind most p fin t r w hp hk).mono fun e w' ⟨h1, h2⟩ => ⟨h1, Eff.of_below h2⟩
/- the cells of a condition: a formula (true), or one of commencement (false) -/
def tsz (fm : Bool) : Nat := if fm then 5 else 4
def tcs (fm : Bool) (op : Nat) (name : List UInt8) (cmp n : Nat) (s : Value) : List Value :=
  match fm with
  | true => [.int .i64 op, vs name, .int .i64 cmp, .int .i64 n, s]
  | false => [.int .i64 op, vs name, .int .i64 n, s]
mutual
def RdTree (fm : Bool) (S : Nat → Prop) (w : World) (cs : List Value) : Tree → Prop
  | .mk op name cmp n ks => ∃ A cap, cs = tcs fm op name cmp n (.slice A ks.length cap) ∧ ks.length ≤ cap ∧ (ks = [] ∨ ∃ b o, A = some ⟨b, o, none⟩ ∧ S b ∧ b < w.heap.size ∧ RdKids fm S w b o ks)
def RdKids (fm : Bool) (S : Nat → Prop) (w : World) (b : Nat) (o : Nat) : List Tree → Prop
  | [] => True
  | t :: r => (∃ cs, (∀ j v, cs[j]? = some v → w.cell? ⟨b, o + j, none⟩ = some v) ∧ RdTree fm S w cs t) ∧ RdKids fm S w b (o + tsz fm) r
end
mutual
theorem RdTree.keep {fm : Bool} {S S' : Nat → Prop} {w w' : World} (hs : w.heap.size ≤ w'.heap.size) (hk : ∀ b, S b → b < w.heap.size → S' b ∧ w'.heap[b]? = w.heap[b]?) : ∀ {cs : List Value} {t : Tree}, RdTree fm S w cs t → RdTree fm S' w' cs t
  | cs, .mk op name cmp n ks, h => by
    obtain ⟨A, cap, h1, h2, h3⟩ := h
    refine ⟨A, cap, h1, h2, ?_⟩
    rcases h3 with h3 | ⟨b, o, hA, hS, hb, h3⟩
    · exact .inl h3
    · exact .inr ⟨b, o, hA, (hk b hS hb).1, Nat.lt_of_lt_of_le hb hs, RdKids.keep hs hk (hk b hS hb).2 h3⟩
theorem RdKids.keep {fm : Bool} {S S' : Nat → Prop} {w w' : World} (hs : w.heap.size ≤ w'.heap.size) (hk : ∀ b, S b → b < w.heap.size → S' b ∧ w'.heap[b]? = w.heap[b]?) {b : Nat} (hb : w'.heap[b]? = w.heap[b]?) : ∀ {o : Nat} {ks : List Tree}, RdKids fm S w b o ks → RdKids fm S' w' b o ks
  | o, [], h => trivial
  | o, t :: r, h => by
    obtain ⟨⟨cs, h1, h2⟩, h3⟩ := h
    exact ⟨⟨cs, fun j v hv => (cell_of_heap hb _).trans (h1 j v hv), RdTree.keep hs hk h2⟩, RdKids.keep hs hk hb h3⟩
end
theorem RdTree.eff {fm : Bool} {base p : Nat} {w w' : World} (he : Eff p w w') (hp : p < base) {cs : List Value} {t : Tree} (h : RdTree fm (fun b => base ≤ b) w cs t) : RdTree fm (fun b => base ≤ b) w' cs t :=
  h.keep he.size (fun b hb hlt => ⟨hb, he.block b hlt (by omega)⟩)
theorem RdTree.len {fm : Bool} {S : Nat → Prop} {w : World} {cs : List Value} {t : Tree} (h : RdTree fm S w cs t) : cs.length = tsz fm := by
  cases t with
  | mk op name cmp n ks =>
    obtain ⟨A, cap, rfl, _⟩ := h
    cases fm <;> rfl
theorem RdTree.one {fm : Bool} {S : Nat → Prop} {w : World} {cs : List Value} {t : Tree} (h : RdTree fm S w cs t) : ∀ u ∈ cs, u.oneCell' = true := by
  cases t with
  | mk op name cmp n ks =>
    obtain ⟨A, cap, rfl, _⟩ := h
    intro u hu
    cases fm <;> simp [tcs] at hu
    · rcases hu with rfl | rfl | rfl | rfl <;> rfl
    · rcases hu with rfl | rfl | rfl | rfl | rfl <;> rfl
theorem RdTree.leaf {fm : Bool} {S : Nat → Prop} {w : World} (op : Nat) (name : List UInt8) (cmp n : Nat) (A : Option Addr) (cap : Nat) : RdTree fm S w (tcs fm op name cmp n (.slice A 0 cap)) (.mk op name cmp n []) :=
  ⟨A, cap, rfl, Nat.zero_le _, .inl rfl⟩
/- kids that lie in a row of the call's own -/
theorem kids_of_row {fm : Bool} {S : Nat → Prop} {w : World} {b : Nat} : ∀ {l : List Tree} {css : List (List Value)} {o : Nat}, css.length = l.length → (∀ (i : Nat) (cs : List Value) (t : Tree), css[i]? = some cs → l[i]? = some t → RdTree fm S w cs t) → (∀ j v, css.flatten[j]? = some v → w.cell? ⟨b, o + j, none⟩ = some v) → RdKids fm S w b o l
  | [], css, o, _, _, _ => trivial
  | t :: r, [], o, h, _, _ => by simp at h
  | t :: r, cs :: css, o, h, hr, hc => by
    have h0 := hr 0 cs t rfl rfl
    have hl := h0.len
    refine ⟨⟨cs, fun j v hv => hc j v ?_, h0⟩, kids_of_row (css := css) (by simpa using h) (fun i c x h1 h2 => hr (i + 1) c x (by simpa using h1) (by simpa using h2)) (fun j v hv => ?_)⟩
    · rw [List.flatten_cons, List.getElem?_append_left (List.getElem?_eq_some_iff.1 hv).1]; exact hv
    · rw [Nat.add_assoc]
      refine hc (tsz fm + j) v ?_
      rw [List.flatten_cons, List.getElem?_append_right (by omega), hl, Nat.add_sub_cancel_left]; exact hv
end Go.Proofs.YtpagkakplmeokaaDoor
