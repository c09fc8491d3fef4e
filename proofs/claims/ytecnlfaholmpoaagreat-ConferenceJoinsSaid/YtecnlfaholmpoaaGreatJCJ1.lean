/- pandectref38.Moved: a clause of the second chamber as it is joined. What is joined, by places: plain words. -/
import Derived.Test.YtecnlfaholmpoaaGreatJC25
import Derived.Test.YtecnlfaholmpoaaGreatJC22
import Derived.Test.YtecnlfaholmpoaaGreatJC41
import Derived.Test.YtecnlfaholmpoaaGreatJC30
set_option linter.unusedVariables false
set_option linter.unusedSimpArgs false
set_option maxRecDepth 20000
set_option maxHeartbeats 4000000
namespace Go.Proofs.YtecnlfaholmpoaaGreat
open Go.RowKit
theorem results_cell1 {fn : Func} {p : Tmp} {ty : TypeId} (h : fn.results = #[.cell p ty]) (tmps : Array Value) (P : Program) (w : World) :
 (results fn tmps).run P w = ((asAddr (tmps.getD p undef)).run P w).andThen fun a w₁ => ((loadVar ty a).run P w₁).andThen fun v w₂ => .ok v w₂ := by
 simp only [results, h]
 simp [Sem.run_bind, Result.andThen]
 cases Sem.run P (asAddr (tmps[p]?.getD undef)) w with
 | ok a w1 =>
   simp only
   cases Sem.run P (loadVar ty a) w1 <;> rfl
 | halt e w1 => rfl
theorem results_one_cla {fn : Func} {k : Nat} (hres : fn.results = #[.cell k 51]) {tmps : Array Value} {g : Nat} {q : Clause} {W : World} (hp : tmps.getD k undef = .pointer (some ⟨g, 0, none⟩)) (hg : W.blk g = some (.cells (claCs q) 51 (0, 0))) :
 (results fn tmps).run Tryz.prog W = .ok q.agg W := by
 rw [results_cell1 hres, hp]
 simp only [asAddr, Sem.run_pure, Result.andThen_ok, load_cla hg]
theorem end_moved {w : World} {C D : Array Value} {q : Clause} {t : TypeId} (hq : claCs q = C) :
 (((w.alloc (.cells C 51)).alloc (.cells D t)).setRow (w.heap.size + 1) C).blk (w.heap.size + 1) = some (.cells (claCs q) t (0, 0)) ∧ Below w.heap.size w (((w.alloc (.cells C 51)).alloc (.cells D t)).setRow (w.heap.size + 1) C) := by
 constructor
 · rw [hq]
   exact setRow_heap _ _ _ _ _ _ (heap_new_at (by simp))
 · exact below_setRow (((Below.refl _ _).alloc (Nat.le_refl _) _).alloc (by simp) _) (by simp) _
theorem rmoved_a (i s : Stamp) (p : Patch) (g : Bool) (h1 : 0 ≤ i.seat ∧ i.seat < 100) (hs : sEq s.seat s.count 0 0 = true) (w : World) :
 Calls Tryz.prog 24 #[(⟨i, s, p, g⟩ : Clause).agg] w fun e w' => e = .returned (⟨⟨i.seat + 100, i.count⟩, s, p, g⟩ : Clause).agg ∧ Below w.heap.size w w' := by
 have hw : IntKind.i64.wrap (i.seat + 100) = i.seat + 100 := by rw [IntKind.wrap_i64]; omega
 go_enter Tryz.func24, Tryz.ntmps24
 go_wp2_with fail
 obtain ⟨e1, e2⟩ := end_moved (w := w) (q := (⟨⟨i.seat + 100, i.count⟩, s, p, g⟩ : Clause)) (D := claCs zeroCl) (t := 51) rfl
 exact bodyPost_ret (v := (⟨⟨i.seat + 100, i.count⟩, s, p, g⟩ : Clause).agg) (results_one_cla Tryz.results24 rfl e1) rfl ⟨rfl, e2⟩
theorem rmoved_b (i s : Stamp) (p : Patch) (g : Bool) (h1 : 0 ≤ i.seat ∧ i.seat < 100) (h2 : 0 ≤ s.seat ∧ s.seat < 100) (hs : sEq s.seat s.count 0 0 = false) (w : World) :
 Calls Tryz.prog 24 #[(⟨i, s, p, g⟩ : Clause).agg] w fun e w' => e = .returned (⟨⟨i.seat + 100, i.count⟩, ⟨s.seat + 100, s.count⟩, p, g⟩ : Clause).agg ∧ Below w.heap.size w w' := by
 have hw : IntKind.i64.wrap (i.seat + 100) = i.seat + 100 := by rw [IntKind.wrap_i64]; omega
 have hw2 : IntKind.i64.wrap (s.seat + 100) = s.seat + 100 := by rw [IntKind.wrap_i64]; omega
 go_enter Tryz.func24, Tryz.ntmps24
 go_wp2_with fail
 obtain ⟨e1, e2⟩ := end_moved (w := w) (q := (⟨⟨i.seat + 100, i.count⟩, ⟨s.seat + 100, s.count⟩, p, g⟩ : Clause)) (D := claCs zeroCl) (t := 51) rfl
 exact bodyPost_ret (v := (⟨⟨i.seat + 100, i.count⟩, ⟨s.seat + 100, s.count⟩, p, g⟩ : Clause).agg) (results_one_cla Tryz.results24 rfl e1) rfl ⟨rfl, e2⟩
def seatOk2 (c : Clause) : Bool := seat c.id.seat && (decide (c.after = noStamp) || seat c.after.seat)
theorem rmoved_any (c : Clause) (h : seatOk2 c = true) (w : World) : Calls Tryz.prog 24 #[c.agg] w fun e w' => e = .returned c.moved.agg ∧ Below w.heap.size w w' := by
 obtain ⟨i, s, p, g⟩ := c
 unfold seatOk2 seat at h
 simp only [Bool.and_eq_true, Bool.or_eq_true, decide_eq_true_eq] at h
 cases hs : sEq s.seat s.count 0 0 with
 | true =>
   have e : s = noStamp := by rw [sEq_iff (b := noStamp)] at hs; simpa using hs
   have := rmoved_a i s p g h.1 hs w
   unfold Clause.moved Stamp.move
   simpa [e] using this
 | false =>
   have hno : s ≠ noStamp := by intro e; rw [sEq_iff (b := noStamp)] at hs; simp [e] at hs
   have := rmoved_b i s p g h.1 (h.2.elim (fun h2 => absurd h2 hno) id) hs w
   unfold Clause.moved Stamp.move
   simpa [hno] using this
end Go.Proofs.YtecnlfaholmpoaaGreat
namespace Go.Proofs.YtecnlfaholmpoaaGreat
open Go.RowKit
theorem joins_err {a b : List Clause} (h : (joinF a b).2 ≠ 0) : (joinF a b).1 = [] := by
 unfold joinF at *
 split at h <;> rename_i h1
 · split at h <;> rename_i h2
   · exact absurd rfl h
   · rw [if_pos h1, if_neg h2]
 · rw [if_neg h1]
theorem joins_seats {a b : List Clause} (h : (joinF a b).2 = 0) : seatsB b = true := by
 cases hb : seatsB b with
 | true => rfl
 | false =>
   rw [join_bad (Or.inr hb)] at h
   simp at h
theorem seats_at {b : List Clause} (h : seatsB b = true) {x : Clause} (hx : x ∈ b) : seatOk2 x = true := by
 unfold seatsB at h
 rw [List.all_eq_true] at h
 exact h x hx
structure JoinedOk (M L : List Clause) : Prop where
 once : ∀ x ∈ M, L.countP (fun c => decide (c.id = x.id)) = 1
 same : ∀ x ∈ M, ∀ c ∈ L, c.id = x.id → c.after = x.after ∧ c.patch = x.patch ∧ (x.gone = true → c.gone = true)
 frm : ∀ (k : Nat) c, L[k]? = some c → (M.any fun x => decide (x.id = c.id)) = true
 gone : ∀ (k : Nat) c, L[k]? = some c → (M.any fun x => decide (x.id = c.id) && x.gone) = c.gone
 aft : ∀ (k : Nat) c, L[k]? = some c → (decide (c.after = noStamp) || (L.take k).any fun p => decide (p.id = c.after)) = true
theorem joined_ok {a b L : List Clause} (h : joinF a b = (L, 0)) : JoinedOk (a ++ b.map Clause.moved) L := by
 obtain ⟨h1, h2⟩ := join_holds h
 have h3 : ∀ (k : Nat) c, L[k]? = some c → (∃ x ∈ a ++ b.map Clause.moved, x.id = c.id) ∧ (c.after = noStamp ∨ ∃ p ∈ L.take k, p.id = c.after) ∧ (c.gone = true ↔ ∃ x ∈ a ++ b.map Clause.moved, x.id = c.id ∧ x.gone = true) := fun k c hc => by
  obtain ⟨hk, he⟩ := List.getElem?_eq_some_iff.1 hc
  exact h2 (L.take k) c (L.drop (k + 1)) (by rw [← he, ← List.drop_eq_getElem_cons hk, List.take_append_drop])
 refine ⟨fun x hx => (h1 x hx).1, fun x hx c hc e => (h1 x hx).2 c hc e, fun k c hc => ?_, fun k c hc => ?_, fun k c hc => ?_⟩
 · obtain ⟨x, hx, e⟩ := (h3 k c hc).1
   exact List.any_eq_true.2 ⟨x, hx, by simpa using e⟩
 · rw [Bool.eq_iff_iff, List.any_eq_true, (h3 k c hc).2.2]
   simp only [Bool.and_eq_true, decide_eq_true_eq]
 · rw [Bool.or_eq_true, decide_eq_true_eq, List.any_eq_true]
   rcases (h3 k c hc).2.1 with h | ⟨p, hp, e⟩
   · exact Or.inl h
   · exact Or.inr ⟨p, hp, by simpa using e⟩
theorem any_take {M : List Clause} {i : Nat} {x : Clause} (f : Clause → Bool) (hx : M[i]? = some x) : (M.take (i + 1)).any f = ((M.take i).any f || f x) := by
 rw [List.take_add_one, hx, List.any_append]
 simp
theorem count_take {L : List Clause} {k : Nat} {c : Clause} (f : Clause → Bool) (hc : L[k]? = some c) : (L.take (k + 1)).countP f = (L.take k).countP f + (if f c = true then 1 else 0) := by
 rw [List.take_add_one, hc, List.countP_append]
 simp [List.countP_cons]
theorem moved_take {b : List Clause} {k : Nat} {x : Clause} (hx : b[k]? = some x) (a : List Clause) : a ++ (b.take (k + 1)).map Clause.moved = (a ++ (b.take k).map Clause.moved) ++ [x.moved] := by
 rw [List.take_add_one, hx]
 simp
theorem RdC.goneAt {w : World} {b o : Nat} {l : List Clause} (h : RdC w (some ⟨b, o, none⟩) l) {k : Nat} {p : Clause} (hp : l[k]? = some p) : w.cell? ⟨b, o + k * 20 + 19, none⟩ = some (.bool p.gone) := by
 obtain ⟨b', o', hA, hlt, hc⟩ := h (by rintro rfl; simp at hp)
 cases hA
 exact hc k p hp 19 _ rfl
theorem RdC.some_at {w : World} {A : Option Addr} {l : List Clause} (h : RdC w A l) {k : Nat} {p : Clause} (hp : l[k]? = some p) : ∃ b o, A = some ⟨b, o, none⟩ ∧ b < w.heap.size := by
 obtain ⟨b', o', hA, hlt, _⟩ := h (by rintro rfl; simp at hp)
 exact ⟨b', o', hA, hlt⟩
end Go.Proofs.YtecnlfaholmpoaaGreat
