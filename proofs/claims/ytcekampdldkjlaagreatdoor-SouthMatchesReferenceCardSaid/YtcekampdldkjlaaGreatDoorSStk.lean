/- The stack of conditions in memory; push. -/
import Derived.Test.YtcekampdldkjlaaGreatDoorSTree
import Derived.Deep.RegionLaw
import Derived.Deep.RegionLawGrows
set_option linter.unusedVariables false
set_option linter.unusedSimpArgs false
namespace Go.Proofs.YtcekampdldkjlaaGreatDoor
open Go.RowKit
def eE (fm : Bool) : TypeId := if fm then 117 else 119
def sE (fm : Bool) : TypeId := if fm then 93 else 104
def esz (fm : Bool) : Nat := tsz fm + 1
/- an entry's cells -/
def RdE (fm : Bool) (S : Nat → Prop) (w : World) (cs : List Value) (x : Tree × Nat) : Prop := ∃ tc, cs = tc ++ [.int .i64 (x.2 : Int)] ∧ RdTree fm S w tc x.1
theorem RdE.len {fm : Bool} {S : Nat → Prop} {w : World} {cs : List Value} {x : Tree × Nat} (h : RdE fm S w cs x) : cs.length = esz fm := by
  obtain ⟨tc, rfl, h⟩ := h
  rw [List.length_append, h.len]; rfl
theorem RdE.one {fm : Bool} {S : Nat → Prop} {w : World} {cs : List Value} {x : Tree × Nat} (h : RdE fm S w cs x) : ∀ u ∈ cs, u.oneCell' = true := by
  obtain ⟨tc, rfl, h⟩ := h
  intro u hu
  rcases List.mem_append.1 hu with hu | hu
  · exact h.one u hu
  · simp at hu; subst hu; rfl
theorem RdE.keep {fm : Bool} {S S' : Nat → Prop} {w w' : World} (hs : w.heap.size ≤ w'.heap.size) (hk : ∀ b, S b → b < w.heap.size → S' b ∧ w'.heap[b]? = w.heap[b]?) {cs : List Value} {x : Tree × Nat} (h : RdE fm S w cs x) : RdE fm S' w' cs x := by
  obtain ⟨tc, rfl, h⟩ := h
  exact ⟨tc, rfl, h.keep hs hk⟩
structure OwnE (fm : Bool) (w : World) (base : Nat) (v : Value) (st : Stack) : Prop where
  is : ∃ css : List (List Value), css.length = st.length ∧ (∀ (i : Nat) (cs : List Value) (x : Tree × Nat), css[i]? = some cs → st[i]? = some x → RdE fm (fun b => base ≤ b ∧ v.ownBlock ≠ some b) w cs x) ∧ w.ownsRow base (eE fm) (esz fm) v st.length css.flatten
theorem OwnE.nil {fm : Bool} {w : World} {base : Nat} : OwnE fm w base (.slice none 0 0) [] := ⟨[], rfl, fun i cs x h => by simp at h, by simp, .inl ⟨rfl, rfl⟩⟩
theorem OwnE.own {fm : Bool} {w : World} {base : Nat} {v : Value} {st : Stack} (h : OwnE fm w base v st) : ∀ b, v.ownBlock = some b → base ≤ b ∧ b < w.heap.size := by
  obtain ⟨css, h1, h2, h3⟩ := h.is
  rcases h3.2 with ⟨hv, h0⟩ | ⟨g, cap, cur, rfl, r2, r3, r4⟩
  · intro b hb
    rw [hv] at hb
    simp [Value.ownBlock] at hb
  · intro b hb
    simp [Value.ownBlock] at hb
    subst hb
    exact ⟨r2, lt_of_heap' r3⟩
theorem OwnE.form {fm : Bool} {w : World} {base : Nat} {v : Value} {st : Stack} (h : OwnE fm w base v st) : ∃ A cap, v = .slice A st.length cap := by
  obtain ⟨css, h1, h2, h3⟩ := h.is
  rcases h3.2 with ⟨hv, h0⟩ | ⟨g, cap, cur, rfl, r2, r3, r4⟩
  · exact ⟨none, 0, by rw [hv, h0]⟩
  · exact ⟨_, cap, rfl⟩
theorem OwnE.keep {fm : Bool} {w w' : World} {base : Nat} {v : Value} {st : Stack} (h : OwnE fm w base v st) (hs : w.heap.size ≤ w'.heap.size) (hk : ∀ b, base ≤ b → b < w.heap.size → w'.heap[b]? = w.heap[b]?) : OwnE fm w' base v st := by
  obtain ⟨css, h1, h2, h3⟩ := h.is
  refine ⟨css, h1, fun i cs t a b => (h2 i cs t a b).keep hs (fun b hb hlt => ⟨hb, hk b hb.1 hlt⟩), h3.1, ?_⟩
  rcases h3.2 with h | ⟨g, cap, cur, rfl, r2, r3, r4⟩
  · exact .inl h
  · exact .inr ⟨g, cap, cur, rfl, r2, (hk g r2 (lt_of_heap' r3)).trans r3, r4⟩
theorem OwnE.of_heap {fm : Bool} {w w' : World} {base : Nat} {v : Value} {st : Stack} (h : OwnE fm w base v st) (hh : w'.heap = w.heap) : OwnE fm w' base v st :=
  h.keep (by rw [hh]; exact Nat.le_refl _) (fun b _ _ => by rw [hh])
/- an entry by its number -/
theorem flat_at {α : Type} {n : Nat} : ∀ {css : List (List α)} {k j : Nat} {cs : List α} {u : α}, (∀ (i : Nat) (c : List α), css[i]? = some c → c.length = n) → css[k]? = some cs → cs[j]? = some u → css.flatten[k * n + j]? = some u
  | [], k, j, cs, u, _, h, _ => by simp at h
  | c :: r, 0, j, cs, u, hl, h, hu => by
    simp at h
    subst h
    rw [List.flatten_cons, Nat.zero_mul, Nat.zero_add, List.getElem?_append_left (List.getElem?_eq_some_iff.1 hu).1]; exact hu
  | c :: r, k + 1, j, cs, u, hl, h, hu => by
    have h0 := hl 0 c rfl
    have := flat_at (k := k) (j := j) (css := r) (fun i c hi => hl (i + 1) c (by simpa using hi)) (by simpa using h) hu
    rw [List.flatten_cons, List.getElem?_append_right (by rw [h0, Nat.add_mul, Nat.one_mul]; omega), h0]
    rw [show (k + 1) * n + j - n = k * n + j by rw [Nat.add_mul, Nat.one_mul]; omega]
    exact this
theorem OwnE.at {fm : Bool} {w : World} {base : Nat} {v : Value} {st : Stack} (h : OwnE fm w base v st) (hne : st ≠ []) : ∃ g cap, v = .slice (some ⟨g, 0, none⟩) st.length cap ∧ base ≤ g ∧ g < w.heap.size ∧ st.length ≤ cap ∧ cap ≤ maxLen ∧ ∀ (k : Nat) x, st[k]? = some x → ∃ cs, (∀ j u, cs[j]? = some u → w.cell? ⟨g, k * esz fm + j, none⟩ = some u) ∧ RdE fm (fun b => base ≤ b ∧ b ≠ g) w cs x := by
  obtain ⟨css, h1, h2, h3⟩ := h.is
  have hl : 0 < st.length := List.length_pos_iff.2 hne
  rcases h3.2 with ⟨-, h0⟩ | ⟨g, cap, cur, rfl, r2, r3, r4, r5, r6, r7⟩
  · omega
  · refine ⟨g, cap, rfl, r2, lt_of_heap' r3, r4, r5, fun k x hx => ?_⟩
    have hk := (List.getElem?_eq_some_iff.1 hx).1
    obtain ⟨cs, hc⟩ : ∃ cs, css[k]? = some cs := ⟨css[k]'(by omega), List.getElem?_eq_getElem _⟩
    have hrd := h2 k cs x hc hx
    refine ⟨cs, fun j u hu => ?_, hrd.keep (Nat.le_refl _) (fun b hb _ => ⟨⟨hb.1, fun e => hb.2 (by rw [e]; rfl)⟩, rfl⟩)⟩
    have hf : css.flatten[k * esz fm + j]? = some u := flat_at (n := esz fm) (fun i c hi => by
      obtain ⟨x', hx'⟩ : ∃ x', st[i]? = some x' := ⟨st[i]'(by have := (List.getElem?_eq_some_iff.1 hi).1; omega), List.getElem?_eq_getElem _⟩
      exact (h2 i c x' hi hx').len) hc hu
    refine cell_of_blk r3 ?_
    rw [← r7, List.getElem?_take] at hf
    split at hf
    · rw [← Array.getElem?_toList]; exact hf
    · cases hf
/- one more -/
theorem OwnE.snoc {fm : Bool} {w w' : World} {base : Nat} {v v' : Value} {st : Stack} {cs : List Value} {x : Tree × Nat} {css : List (List Value)} (h1 : css.length = st.length)
    (h2 : ∀ (i : Nat) (cs : List Value) (x : Tree × Nat), css[i]? = some cs → st[i]? = some x → RdE fm (fun b => base ≤ b ∧ v.ownBlock ≠ some b) w cs x) (hr : RdE fm (fun b => base ≤ b ∧ v.ownBlock ≠ some b) w cs x)
    (hv : w'.ownsRow base (eE fm) (esz fm) v' (st.length + 1) (css.flatten ++ cs)) (hs : w.heap.size ≤ w'.heap.size) (hg : ∀ b, v.ownBlock ≠ some b → b < w.heap.size → w'.heap[b]? = w.heap[b]?) (hb : v'.ownBlock = v.ownBlock ∨ v'.ownBlock = some w.heap.size) : OwnE fm w' base v' (st ++ [x]) := by
  have key : ∀ {c : List Value} {x : Tree × Nat}, RdE fm (fun b => base ≤ b ∧ v.ownBlock ≠ some b) w c x → RdE fm (fun b => base ≤ b ∧ v'.ownBlock ≠ some b) w' c x := fun hx =>
    hx.keep hs (fun b hb' hlt => ⟨⟨hb'.1, by rcases hb with e | e <;> rw [e]; exact hb'.2; intro e2; injection e2 with e2; omega⟩, hg b hb'.2 hlt⟩)
  refine ⟨css ++ [cs], by simp [h1], fun i c x a b => ?_, ?_⟩
  · rcases Nat.lt_or_ge i css.length with hi | hi
    · rw [List.getElem?_append_left hi] at a
      rw [List.getElem?_append_left (by omega)] at b
      exact key (h2 i c x a b)
    · rw [List.getElem?_append_right hi] at a
      rw [List.getElem?_append_right (by omega), ← h1] at b
      cases hq : i - css.length with
      | zero =>
        rw [hq] at a b
        simp at a b
        subst a b
        exact key hr
      | succ n => rw [hq] at a; simp at a
  · simpa using hv
/- the stack's block -/
structure SK (fm : Bool) (w : World) (sb p base fj : Nat) (st : Stack) : Prop where
  is : ∃ v, w.heap[sb]? = some (.cells #[.pointer (some ⟨p, 0, none⟩), v, .func (.func fj) #[] #[]] (sE fm) (0, 0)) ∧ OwnE fm w base v st
  lt : sb < base
  ne : p < sb
  few : st.length ≤ 200
  dep : ∀ x ∈ st, x.2 ≤ 20
theorem SK.size {fm : Bool} {w : World} {sb p base fj : Nat} {st : Stack} (h : SK fm w sb p base fj st) : sb < w.heap.size := by obtain ⟨v, h1, h2⟩ := h.is; exact lt_of_heap' h1
theorem SK.keep {fm : Bool} {w w' : World} {sb p base fj : Nat} {st : Stack} (h : SK fm w sb p base fj st) (hs : w.heap.size ≤ w'.heap.size) (hk : ∀ b, b = sb ∨ base ≤ b → b < w.heap.size → w'.heap[b]? = w.heap[b]?) : SK fm w' sb p base fj st := by
  obtain ⟨v, h1, h2⟩ := h.is
  exact ⟨⟨v, (hk sb (.inl rfl) (lt_of_heap' h1)).trans h1, h2.keep hs (fun b hb hlt => hk b (.inr hb) hlt)⟩, h.lt, h.ne, h.few, h.dep⟩
theorem SK.eff {fm : Bool} {w w' : World} {sb p base fj : Nat} {st : Stack} (h : SK fm w sb p base fj st) (he : Eff p w w') : SK fm w' sb p base fj st :=
  h.keep he.size (fun b hb hlt => he.block b hlt (by have := h.ne; have := h.lt; omega))
theorem info_ef : (Tryz.prog.info? 117).map (fun i => (i.zero, i.size, i.bytes)) = some (some (.agg #[.int .i64 0, .string ⟨#[]⟩, .int .i64 0, .int .i64 0, .slice none 0 0, .int .i64 0]), 6, 72) := by kernel_rfl
theorem step_push_f {ops : Array Oper} {o : Oper} {a : Act} {W : World} {K : Act → World → Prop} {Q : Exit → Act → World → Prop} {E : Prop} (hg : o.guard = none) (s x : Operand) (hop : o.op = Op.call { callee := Callee.builtin Builtin.append, args := #[s, x], argTypes := #[91, 91] })
    (w0 : World) (hh : W.heap = w0.heap) (base : Nat) (v : Value) (st : Stack) (g0 : Nat) (cs : List Value) (y : Tree × Nat) (hs : a.eval s = v) (hx : a.eval x = .slice (some ⟨g0, 0, none⟩) 1 1) (hown : OwnE true w0 base v st)
    (hcs : ∀ (j : Nat) u, cs[j]? = some u → w0.cell? ⟨g0, 0 + j, none⟩ = some u) (hr : RdE true (fun b => base ≤ b ∧ v.ownBlock ≠ some b) w0 cs y) (hlen : st.length + 1 ≤ 1000000) (hb : base ≤ w0.heap.size)
    (hK : ∀ v' w', OwnE true w' base v' (st ++ [y]) → W.grownBy w' v.ownBlock → K (a.put o.dst v') w') : if Region.wanted o (yielded ops a.tmps) = true then Oper.wp Tryz.prog o a W K Q else E := by
  obtain ⟨i0, hi0, hz0, hz1, hz2⟩ := info_parts info_ef
  obtain ⟨css, h1, h2, h3⟩ := (hown.of_heap hh).is
  have hr' : RdE true (fun b => base ≤ b ∧ v.ownBlock ≠ some b) W cs y := hr.keep (by rw [hh]; exact Nat.le_refl _) (fun b hb _ => ⟨hb, by rw [hh]⟩)
  have e1 : eE true = 117 := rfl
  have e2 : esz true = 6 := rfl
  have hl := hr'.len
  rw [e1, e2] at h3
  have hw : Region.wanted o (yielded ops a.tmps) = true := by simp [Region.wanted, hg]
  rw [if_pos hw]
  obtain ⟨v', w', hrun, r1, r2, -, r4⟩ := run_append_own_at (P := Tryz.prog) W base 91 o.type 117 i0 (.agg #[.int .i64 0, .string ⟨#[]⟩, .int .i64 0, .int .i64 0, .slice none 0 0, .int .i64 0]) 6 72 Tryz.underlying91 hi0 hz0 hz1 hz2 rfl (by decide) v st.length css.flatten h3 ⟨g0, 0, none⟩ 1 1 cs (by rw [hl, e2]) (fun j u hu => by rw [Addr.add_lit]; exact (cell_of_heap (by rw [hh]) _).trans (hcs j u hu)) hr'.one (by unfold maxLen; omega) (by omega) (by rw [hh]; exact hb)
  unfold Oper.wp
  simp [execOp, hop, resolve, invoke, builtin, hs, hx, hrun, Result.andThen]
  exact hK v' w' (OwnE.snoc h1 h2 hr' (by rw [e1, e2]; exact r1) r2.size (fun b hb hlt => r2.block b hlt (fun e => hb e.symm)) r4) r2
theorem info_es : (Tryz.prog.info? 119).map (fun i => (i.zero, i.size, i.bytes)) = some (some (.agg #[.int .i64 0, .string ⟨#[]⟩, .int .i64 0, .slice none 0 0, .int .i64 0]), 5, 64) := by kernel_rfl
theorem step_push_s {ops : Array Oper} {o : Oper} {a : Act} {W : World} {K : Act → World → Prop} {Q : Exit → Act → World → Prop} {E : Prop} (hg : o.guard = none) (s x : Operand) (hop : o.op = Op.call { callee := Callee.builtin Builtin.append, args := #[s, x], argTypes := #[102, 102] })
    (w0 : World) (hh : W.heap = w0.heap) (base : Nat) (v : Value) (st : Stack) (g0 : Nat) (cs : List Value) (y : Tree × Nat) (hs : a.eval s = v) (hx : a.eval x = .slice (some ⟨g0, 0, none⟩) 1 1) (hown : OwnE false w0 base v st)
    (hcs : ∀ (j : Nat) u, cs[j]? = some u → w0.cell? ⟨g0, 0 + j, none⟩ = some u) (hr : RdE false (fun b => base ≤ b ∧ v.ownBlock ≠ some b) w0 cs y) (hlen : st.length + 1 ≤ 1000000) (hb : base ≤ w0.heap.size)
    (hK : ∀ v' w', OwnE false w' base v' (st ++ [y]) → W.grownBy w' v.ownBlock → K (a.put o.dst v') w') : if Region.wanted o (yielded ops a.tmps) = true then Oper.wp Tryz.prog o a W K Q else E := by
  obtain ⟨i0, hi0, hz0, hz1, hz2⟩ := info_parts info_es
  obtain ⟨css, h1, h2, h3⟩ := (hown.of_heap hh).is
  have hr' : RdE false (fun b => base ≤ b ∧ v.ownBlock ≠ some b) W cs y := hr.keep (by rw [hh]; exact Nat.le_refl _) (fun b hb _ => ⟨hb, by rw [hh]⟩)
  have e1 : eE false = 119 := rfl
  have e2 : esz false = 5 := rfl
  have hl := hr'.len
  rw [e1, e2] at h3
  have hw : Region.wanted o (yielded ops a.tmps) = true := by simp [Region.wanted, hg]
  rw [if_pos hw]
  obtain ⟨v', w', hrun, r1, r2, -, r4⟩ := run_append_own_at (P := Tryz.prog) W base 102 o.type 119 i0 (.agg #[.int .i64 0, .string ⟨#[]⟩, .int .i64 0, .slice none 0 0, .int .i64 0]) 5 64 Tryz.underlying102 hi0 hz0 hz1 hz2 rfl (by decide) v st.length css.flatten h3 ⟨g0, 0, none⟩ 1 1 cs (by rw [hl, e2]) (fun j u hu => by rw [Addr.add_lit]; exact (cell_of_heap (by rw [hh]) _).trans (hcs j u hu)) hr'.one (by unfold maxLen; omega) (by omega) (by rw [hh]; exact hb)
  unfold Oper.wp
  simp [execOp, hop, resolve, invoke, builtin, hs, hx, hrun, Result.andThen]
  exact hK v' w' (OwnE.snoc h1 h2 hr' (by rw [e1, e2]; exact r1) r2.size (fun b hb hlt => r2.block b hlt (fun e => hb e.symm)) r4) r2
end Go.Proofs.YtcekampdldkjlaaGreatDoor
