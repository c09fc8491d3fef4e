/- The reference's trees in memory; rows of them that a call owns. The reference's reader: combine. The reference's reader: group. -/
import Derived.Test.YtcekampdldkjlaaGreatDoorJRd
import Derived.Laws.AppendOwn
import Derived.Maps.AppendAt
import Derived.OwnWalk
import Derived.Deep.RegionLaw
import Derived.Deep.RegionLawGrows
import Derived.StillTailTactics
import Derived.RegionTactic
import Derived.ChangeAlike
import Derived.BigRegion
import Derived.Outline
import Derived.IntWalk
import Derived.Deep.CutRange
set_option linter.unusedVariables false
set_option linter.unusedSimpArgs false
namespace Go.Proofs.YtcekampdldkjlaaGreatDoor
open Go.RowKit
def ucs (op : Nat) (name : List UInt8) (cmp n : Nat) (s : Value) (d : Nat) : List Value := [.int .i64 op, vs name, .int .i64 cmp, .int .i64 n, s, .int .i64 d]
mutual
def RdU (S : Nat → Prop) (w : World) (cs : List Value) (d : Nat) : Tree → Prop
  | .mk op name cmp n ks => ∃ A cap, cs = ucs op name cmp n (.slice A ks.length cap) d ∧ ks.length ≤ cap ∧ (ks = [] ∨ ∃ b o, A = some ⟨b, o, none⟩ ∧ S b ∧ b < w.heap.size ∧ RdUs S w b o ks)
def RdUs (S : Nat → Prop) (w : World) (b : Nat) (o : Nat) : List Tree → Prop
  | [] => True
  | t :: r => (∃ cs d, (∀ (j : Nat) v, cs[j]? = some v → w.cell? ⟨b, o + j, none⟩ = some v) ∧ RdU S w cs d t) ∧ RdUs S w b (o + 6) r
end
mutual
theorem RdU.keep {S S' : Nat → Prop} {w w' : World} (hs : w.heap.size ≤ w'.heap.size) (hk : ∀ b, S b → b < w.heap.size → S' b ∧ w'.heap[b]? = w.heap[b]?) : ∀ {cs : List Value} {d : Nat} {t : Tree}, RdU S w cs d t → RdU S' w' cs d t
  | cs, d, .mk op name cmp n ks, h => by
    obtain ⟨A, cap, h1, h2, h3⟩ := h
    refine ⟨A, cap, h1, h2, ?_⟩
    rcases h3 with h3 | ⟨b, o, hA, hS, hb, h3⟩
    · exact .inl h3
    · exact .inr ⟨b, o, hA, (hk b hS hb).1, Nat.lt_of_lt_of_le hb hs, RdUs.keep hs hk (hk b hS hb).2 h3⟩
theorem RdUs.keep {S S' : Nat → Prop} {w w' : World} (hs : w.heap.size ≤ w'.heap.size) (hk : ∀ b, S b → b < w.heap.size → S' b ∧ w'.heap[b]? = w.heap[b]?) {b : Nat} (hb : w'.heap[b]? = w.heap[b]?) : ∀ {o : Nat} {ks : List Tree}, RdUs S w b o ks → RdUs S' w' b o ks
  | o, [], h => trivial
  | o, t :: r, h => by
    obtain ⟨⟨cs, d, h1, h2⟩, h3⟩ := h
    exact ⟨⟨cs, d, fun j v hv => (cell_of_heap hb _).trans (h1 j v hv), RdU.keep hs hk h2⟩, RdUs.keep hs hk hb h3⟩
end
theorem RdU.len {S : Nat → Prop} {w : World} {cs : List Value} {d : Nat} {t : Tree} (h : RdU S w cs d t) : cs.length = 6 := by
  cases t with
  | mk op name cmp n ks =>
    obtain ⟨A, cap, rfl, _⟩ := h
    rfl
theorem RdU.one {S : Nat → Prop} {w : World} {cs : List Value} {d : Nat} {t : Tree} (h : RdU S w cs d t) : ∀ u ∈ cs, u.oneCell' = true := by
  cases t with
  | mk op name cmp n ks =>
    obtain ⟨A, cap, rfl, _⟩ := h
    intro u hu
    simp [ucs] at hu
    rcases hu with rfl | rfl | rfl | rfl | rfl | rfl <;> rfl
theorem RdU.leaf {S : Nat → Prop} {w : World} (op : Nat) (name : List UInt8) (cmp n d : Nat) (A : Option Addr) (cap : Nat) : RdU S w (ucs op name cmp n (.slice A 0 cap) d) d (.mk op name cmp n []) :=
  ⟨A, cap, rfl, Nat.zero_le _, .inl rfl⟩
theorem us_of_row {S : Nat → Prop} {w : World} {b : Nat} : ∀ {l : Stack} {css : List (List Value)} {o : Nat}, css.length = l.length → (∀ (i : Nat) (cs : List Value) (x : Tree × Nat), css[i]? = some cs → l[i]? = some x → RdU S w cs x.2 x.1) → (∀ (j : Nat) v, css.flatten[j]? = some v → w.cell? ⟨b, o + j, none⟩ = some v) → RdUs S w b o (l.map (·.1))
  | [], css, o, _, _, _ => trivial
  | t :: r, [], o, h, _, _ => by simp at h
  | t :: r, cs :: css, o, h, hr, hc => by
    have h0 := hr 0 cs t rfl rfl
    have hl := h0.len
    refine ⟨⟨cs, t.2, fun j v hv => hc j v ?_, h0⟩, us_of_row (css := css) (by simpa using h) (fun i c x h1 h2 => hr (i + 1) c x (by simpa using h1) (by simpa using h2)) (fun j v hv => ?_)⟩
    · rw [List.flatten_cons, List.getElem?_append_left (List.getElem?_eq_some_iff.1 hv).1]; exact hv
    · rw [Nat.add_assoc]
      refine hc (6 + j) v ?_
      rw [List.flatten_cons, List.getElem?_append_right (by omega), hl, Nat.add_sub_cancel_left]; exact hv
theorem RdUs.get {S : Nat → Prop} {w : World} {b : Nat} : ∀ {ks : List Tree} {o k : Nat} {t : Tree}, RdUs S w b o ks → ks[k]? = some t → ∃ (cs : List Value) (d : Nat), (∀ (j : Nat) v, cs[j]? = some v → w.cell? ⟨b, o + k * 6 + j, none⟩ = some v) ∧ RdU S w cs d t
  | [], o, k, t, h, hk => by simp at hk
  | x :: ks, o, 0, t, h, hk => by
    simp at hk
    subst hk
    obtain ⟨⟨cs, d, h1, h2⟩, -⟩ := h
    exact ⟨cs, d, fun j v hv => by rw [Nat.zero_mul, Nat.add_zero]; exact h1 j v hv, h2⟩
  | x :: ks, o, k + 1, t, h, hk => by
    obtain ⟨cs, d, h1, h2⟩ := RdUs.get (k := k) h.2 (by simpa using hk)
    refine ⟨cs, d, fun j v hv => ?_, h2⟩
    have := h1 j v hv
    rwa [show o + (k + 1) * 6 + j = o + 6 + k * 6 + j by rw [Nat.add_mul]; omega]
structure OwnU (S : Nat → Prop) (w : World) (base : Nat) (v : Value) (st : Stack) : Prop where
  is : ∃ css : List (List Value), css.length = st.length ∧ (∀ (i : Nat) (cs : List Value) (x : Tree × Nat), css[i]? = some cs → st[i]? = some x → RdU (fun b => S b ∧ v.ownBlock ≠ some b) w cs x.2 x.1) ∧ w.ownsRow base 52 6 v st.length css.flatten
theorem OwnU.nil {S : Nat → Prop} {w : World} {base : Nat} : OwnU S w base (.slice none 0 0) [] := ⟨[], rfl, fun i cs x h => by simp at h, by simp, .inl ⟨rfl, rfl⟩⟩
theorem OwnU.empty {S : Nat → Prop} {w : World} {base g cap : Nat} {cur : Array Value} (hb : base ≤ g) (hg : w.heap[g]? = some (.cells cur 52 (0, 0))) (hc : cap ≤ maxLen) (hs : cur.size = cap * 6) : OwnU S w base (.slice (some ⟨g, 0, none⟩) 0 cap) [] :=
  ⟨[], rfl, fun i cs x h => by simp at h, by simp, .inr ⟨g, cap, cur, rfl, hb, hg, Nat.zero_le _, hc, hs, by simp⟩⟩
theorem OwnU.own {S : Nat → Prop} {w : World} {base : Nat} {v : Value} {st : Stack} (h : OwnU S w base v st) : ∀ b, v.ownBlock = some b → base ≤ b ∧ b < w.heap.size := by
  obtain ⟨css, h1, h2, h3⟩ := h.is
  rcases h3.2 with ⟨hv, h0⟩ | ⟨g, cap, cur, rfl, r2, r3, r4⟩
  · intro b hb
    rw [hv] at hb
    simp [Value.ownBlock] at hb
  · intro b hb
    simp [Value.ownBlock] at hb
    subst hb
    exact ⟨r2, lt_of_heap' r3⟩
theorem OwnU.form {S : Nat → Prop} {w : World} {base : Nat} {v : Value} {st : Stack} (h : OwnU S w base v st) : ∃ A cap, v = .slice A st.length cap := by
  obtain ⟨css, h1, h2, h3⟩ := h.is
  rcases h3.2 with ⟨hv, h0⟩ | ⟨g, cap, cur, rfl, r2, r3, r4⟩
  · exact ⟨none, 0, by rw [hv, h0]⟩
  · exact ⟨_, cap, rfl⟩
theorem OwnU.keep {S S' : Nat → Prop} {w w' : World} {base : Nat} {v : Value} {st : Stack} (h : OwnU S w base v st) (hs : w.heap.size ≤ w'.heap.size) (hS : ∀ b, S b → S' b) (hk : ∀ b, S b → b < w.heap.size → w'.heap[b]? = w.heap[b]?) (hk2 : ∀ b, v.ownBlock = some b → w'.heap[b]? = w.heap[b]?) : OwnU S' w' base v st := by
  obtain ⟨css, h1, h2, h3⟩ := h.is
  refine ⟨css, h1, fun i cs t a b => (h2 i cs t a b).keep hs (fun b hb hlt => ⟨⟨hS b hb.1, hb.2⟩, hk b hb.1 hlt⟩), h3.1, ?_⟩
  rcases h3.2 with h | ⟨g, cap, cur, rfl, r2, r3, r4⟩
  · exact .inl h
  · exact .inr ⟨g, cap, cur, rfl, r2, (hk2 g rfl).trans r3, r4⟩
theorem OwnU.base {w w' : World} {base : Nat} {v : Value} {st : Stack} (h : OwnU (fun b => base ≤ b) w base v st) (hs : w.heap.size ≤ w'.heap.size) (hk : ∀ b, base ≤ b → b < w.heap.size → w'.heap[b]? = w.heap[b]?) : OwnU (fun b => base ≤ b) w' base v st :=
  h.keep hs (fun _ h => h) hk (fun b hb => hk b (h.own b hb).1 (h.own b hb).2)
/- an entry by its number -/
theorem uflat_at {α : Type} {n : Nat} : ∀ {css : List (List α)} {k j : Nat} {cs : List α} {u : α}, (∀ (i : Nat) (c : List α), css[i]? = some c → c.length = n) → css[k]? = some cs → cs[j]? = some u → css.flatten[k * n + j]? = some u
  | [], k, j, cs, u, _, h, _ => by simp at h
  | c :: r, 0, j, cs, u, hl, h, hu => by
    simp at h
    subst h
    rw [List.flatten_cons, Nat.zero_mul, Nat.zero_add, List.getElem?_append_left (List.getElem?_eq_some_iff.1 hu).1]; exact hu
  | c :: r, k + 1, j, cs, u, hl, h, hu => by
    have h0 := hl 0 c rfl
    have := uflat_at (k := k) (j := j) (css := r) (fun i c hi => hl (i + 1) c (by simpa using hi)) (by simpa using h) hu
    rw [List.flatten_cons, List.getElem?_append_right (by rw [h0, Nat.add_mul, Nat.one_mul]; omega), h0]
    rw [show (k + 1) * n + j - n = k * n + j by rw [Nat.add_mul, Nat.one_mul]; omega]
    exact this
theorem OwnU.at {S : Nat → Prop} {w : World} {base : Nat} {v : Value} {st : Stack} (h : OwnU S w base v st) (hne : st ≠ []) : ∃ g cap, v = .slice (some ⟨g, 0, none⟩) st.length cap ∧ base ≤ g ∧ g < w.heap.size ∧ st.length ≤ cap ∧ cap ≤ maxLen ∧
    (∃ css : List (List Value), css.length = st.length ∧ (∀ (i : Nat) (cs : List Value) (x : Tree × Nat), css[i]? = some cs → st[i]? = some x → RdU (fun b => S b ∧ b ≠ g) w cs x.2 x.1) ∧ ∀ (j : Nat) u, css.flatten[j]? = some u → w.cell? ⟨g, j, none⟩ = some u) := by
  obtain ⟨css, h1, h2, h3⟩ := h.is
  have hl : 0 < st.length := List.length_pos_iff.2 hne
  rcases h3.2 with ⟨-, h0⟩ | ⟨g, cap, cur, rfl, r2, r3, r4, r5, r6, r7⟩
  · omega
  · refine ⟨g, cap, rfl, r2, lt_of_heap' r3, r4, r5, css, h1, fun i cs x a b => (h2 i cs x a b).keep (Nat.le_refl _) (fun b hb _ => ⟨⟨hb.1, fun e => hb.2 (by rw [e]; rfl)⟩, rfl⟩), fun j u hu => ?_⟩
    refine cell_of_blk r3 ?_
    rw [← r7, List.getElem?_take] at hu
    split at hu
    · rw [← Array.getElem?_toList]; exact hu
    · cases hu
/- some more -/
theorem OwnU.app {S : Nat → Prop} {w w' : World} {base : Nat} {v v' : Value} {st st2 : Stack} {css css2 : List (List Value)} (h1 : css.length = st.length)
    (h2 : ∀ (i : Nat) (cs : List Value) (x : Tree × Nat), css[i]? = some cs → st[i]? = some x → RdU (fun b => S b ∧ v.ownBlock ≠ some b) w cs x.2 x.1) (k1 : css2.length = st2.length)
    (k2 : ∀ (i : Nat) (cs : List Value) (x : Tree × Nat), css2[i]? = some cs → st2[i]? = some x → RdU (fun b => S b ∧ v.ownBlock ≠ some b) w cs x.2 x.1)
    (hv : w'.ownsRow base 52 6 v' (st.length + st2.length) (css.flatten ++ css2.flatten)) (hg : w.grownBy w' v.ownBlock) (hb : v'.ownBlock = v.ownBlock ∨ v'.ownBlock = some w.heap.size) : OwnU S w' base v' (st ++ st2) := by
  have key : ∀ {c : List Value} {x : Tree × Nat}, RdU (fun b => S b ∧ v.ownBlock ≠ some b) w c x.2 x.1 → RdU (fun b => S b ∧ v'.ownBlock ≠ some b) w' c x.2 x.1 := fun hx =>
    hx.keep hg.size (fun b hb' hlt => ⟨⟨hb'.1, by rcases hb with e | e <;> rw [e]; exact hb'.2; intro e2; injection e2 with e2; omega⟩, hg.block b hlt (fun e => hb'.2 e.symm)⟩)
  refine ⟨css ++ css2, by simp [h1, k1], fun i c x a b => ?_, ?_⟩
  · rcases Nat.lt_or_ge i css.length with hi | hi
    · rw [List.getElem?_append_left hi] at a
      rw [List.getElem?_append_left (by omega)] at b
      exact key (h2 i c x a b)
    · rw [List.getElem?_append_right hi] at a
      rw [List.getElem?_append_right (by omega), ← h1] at b
      exact key (k2 _ c x a b)
  · simpa using hv
theorem ulen {css : List (List Value)} {st : Stack} {S : Nat → Prop} {w : World} (h1 : css.length = st.length) (h2 : ∀ (i : Nat) (cs : List Value) (x : Tree × Nat), css[i]? = some cs → st[i]? = some x → RdU S w cs x.2 x.1) : css.flatten.length = st.length * 6 := by
  induction css generalizing st with
  | nil => simp at h1; rw [← h1]; simp
  | cons c r ih =>
    cases st with
    | nil => simp at h1
    | cons x s =>
      rw [List.flatten_cons, List.length_append, (h2 0 c x rfl rfl).len, ih (st := s) (by simpa using h1) (fun i cs y a b => h2 (i + 1) cs y (by simpa using a) (by simpa using b)), List.length_cons]
      omega
theorem uone {css : List (List Value)} {st : Stack} {S : Nat → Prop} {w : World} (h1 : css.length = st.length) (h2 : ∀ (i : Nat) (cs : List Value) (x : Tree × Nat), css[i]? = some cs → st[i]? = some x → RdU S w cs x.2 x.1) : ∀ u ∈ css.flatten, u.oneCell' = true := by
  intro u hu
  obtain ⟨c, hc, huc⟩ := List.mem_flatten.1 hu
  obtain ⟨i, hi⟩ := List.getElem?_of_mem hc
  obtain ⟨x, hx⟩ : ∃ x, st[i]? = some x := ⟨st[i]'(by have := (List.getElem?_eq_some_iff.1 hi).1; omega), List.getElem?_eq_getElem _⟩
  exact (h2 i c x hi hx).one u huc
theorem info_u : (Tryz.prog.info? 52).map (fun i => (i.zero, i.size, i.bytes)) = some (some (.agg #[.int .i64 0, .string ⟨#[]⟩, .int .i64 0, .int .i64 0, .slice none 0 0, .int .i64 0]), 6, 72) := by kernel_rfl
/- append: what the row becomes -/
theorem run_app_u (W : World) (ty : TypeId) (S : Nat → Prop) (base : Nat) (v : Value) (st st2 : Stack) (a : Addr) (cap : Nat) (css2 : List (List Value)) (hown : OwnU S W base v st) (k1 : css2.length = st2.length)
    (k2 : ∀ (i : Nat) (cs : List Value) (x : Tree × Nat), css2[i]? = some cs → st2[i]? = some x → RdU (fun b => S b ∧ v.ownBlock ≠ some b) W cs x.2 x.1) (hc : ∀ (j : Nat) u, css2.flatten[j]? = some u → W.cell? (a.add j) = some u) (hlen : st.length + st2.length ≤ 1000000) (hb : base ≤ W.heap.size) :
    ∃ v' w', (Builtin.append_ #[50, 50] ty #[v, .slice (some a) st2.length cap]).run Tryz.prog W = .ok v' w' ∧ OwnU S w' base v' (st ++ st2) ∧ W.grownBy w' v.ownBlock ∧ (v'.ownBlock = v.ownBlock ∨ v'.ownBlock = some W.heap.size) := by
  obtain ⟨i0, hi0, hz0, hz1, hz2⟩ := info_parts info_u
  obtain ⟨css, h1, h2, h3⟩ := hown.is
  obtain ⟨v', w', hrun, r1, r2, -, r4⟩ := run_append_own_at (P := Tryz.prog) W base 50 ty 52 i0 (.agg #[.int .i64 0, .string ⟨#[]⟩, .int .i64 0, .int .i64 0, .slice none 0 0, .int .i64 0]) 6 72 Tryz.underlying50 hi0 hz0 hz1 hz2 rfl (by decide) v st.length css.flatten h3 a st2.length cap css2.flatten (ulen k1 k2) hc (uone k1 k2) (by unfold maxLen; omega) (by omega) hb
  exact ⟨v', w', hrun, OwnU.app h1 h2 k1 k2 r1 r2 r4, r2, r4⟩
theorem wpList_push_u {ops : Array Oper} {rest : List Oper} {o : Oper} {a : Act} {w : World} {Q : Exit → Act → World → Prop} (hgd : o.guard = none) (s x : Operand) (hop : o.op = Op.call { callee := Callee.builtin Builtin.append, args := #[s, x], argTypes := #[50, 50] })
    (S : Nat → Prop) (base : Nat) (v : Value) (st : Stack) (g0 : Nat) (cs : List Value) (y : Tree × Nat) (hs : a.eval s = v) (hx : a.eval x = .slice (some ⟨g0, 0, none⟩) 1 1) (hown : OwnU S w base v st)
    (hcs : ∀ (j : Nat) u, cs[j]? = some u → w.cell? ⟨g0, 0 + j, none⟩ = some u) (hr : RdU (fun b => S b ∧ v.ownBlock ≠ some b) w cs y.2 y.1) (hlen : st.length + 1 ≤ 1000000) (hb : base ≤ w.heap.size)
    (h : ∀ v' w', OwnU S w' base v' (st ++ [y]) → w.grownBy w' v.ownBlock → wpList Tryz.prog ops Q rest (a.put o.dst v') w') : wpList Tryz.prog ops Q (o :: rest) a w := by
  obtain ⟨i0, hi0, hz0, hz1, hz2⟩ := info_parts info_u
  obtain ⟨css, h1, h2, h3⟩ := hown.is
  have k2 : ∀ (i : Nat) (c : List Value) (x : Tree × Nat), [cs][i]? = some c → [y][i]? = some x → RdU (fun b => S b ∧ v.ownBlock ≠ some b) w c x.2 x.1 := by
    intro i c x a b
    cases i with
    | zero => simp at a b; subst a b; exact hr
    | succ i => simp at a
  refine wpList_append_own_at _ hgd s x _ hop base 52 i0 (.agg #[.int .i64 0, .string ⟨#[]⟩, .int .i64 0, .int .i64 0, .slice none 0 0, .int .i64 0]) 6 72 Tryz.underlying50 hi0 hz0 hz1 hz2 rfl (by decide) v st.length css.flatten hs h3 ⟨g0, 0, none⟩ 1 1 cs hx (by rw [hr.len]) (fun j u hu => ?_) hr.one (by unfold maxLen; omega) (by omega) hb ?_
  · rw [Addr.add_lit]; exact hcs j u hu
  · intro v' w' ho hg _ hbk
    exact h v' w' (OwnU.app (css2 := [cs]) (st2 := [y]) h1 h2 rfl k2 (by simpa using ho) hg hbk) hg
theorem step_app_u {ops : Array Oper} {o : Oper} {a : Act} {W : World} {K : Act → World → Prop} {Q : Exit → Act → World → Prop} {E : Prop} (hg : o.guard = none) (s x : Operand) (hop : o.op = Op.call { callee := Callee.builtin Builtin.append, args := #[s, x], argTypes := #[50, 50] })
    (S : Nat → Prop) (base : Nat) (v : Value) (st st2 : Stack) (A : Addr) (n cap : Nat) (css2 : List (List Value)) (hs : a.eval s = v) (hx : a.eval x = .slice (some A) n cap) (hn : n = st2.length) (hown : OwnU S W base v st) (k1 : css2.length = st2.length)
    (k2 : ∀ (i : Nat) (cs : List Value) (x : Tree × Nat), css2[i]? = some cs → st2[i]? = some x → RdU (fun b => S b ∧ v.ownBlock ≠ some b) W cs x.2 x.1) (hc : ∀ (j : Nat) u, css2.flatten[j]? = some u → W.cell? (A.add j) = some u) (hlen : st.length + st2.length ≤ 1000000) (hb : base ≤ W.heap.size)
    (hK : ∀ v' w', OwnU S w' base v' (st ++ st2) → W.grownBy w' v.ownBlock → (v'.ownBlock = v.ownBlock ∨ v'.ownBlock = some W.heap.size) → K (a.put o.dst v') w') : if Region.wanted o (yielded ops a.tmps) = true then Oper.wp Tryz.prog o a W K Q else E := by
  subst hn
  obtain ⟨v', w', hrun, r1, r2, r3⟩ := run_app_u W o.type S base v st st2 A cap css2 hown k1 k2 hc hlen hb
  have hw : Region.wanted o (yielded ops a.tmps) = true := by simp [Region.wanted, hg]
  rw [if_pos hw]
  unfold Oper.wp
  simp [execOp, hop, resolve, invoke, builtin, hs, hx, hrun, Result.andThen]
  exact hK v' w' r1 r2 r3
end Go.Proofs.YtcekampdldkjlaaGreatDoor
namespace Go.Proofs.YtcekampdldkjlaaGreatDoor
open Go.RowKit
/- blocks below base, but the reader's, stay -/
structure EffB (p base : Nat) (w w' : World) : Prop where
  os : w'.os = w.os
  tape : w'.tape = w.tape
  output : w'.output = w.output
  size : w.heap.size ≤ w'.heap.size
  block : ∀ i, i < base → i ≠ p → w'.heap[i]? = w.heap[i]?
theorem EffB.refl (p base : Nat) (w : World) : EffB p base w w := ⟨rfl, rfl, rfl, Nat.le_refl _, fun _ _ _ => rfl⟩
theorem EffB.trans {p base : Nat} {a b c : World} (h : EffB p base a b) (k : EffB p base b c) : EffB p base a c := ⟨k.os.trans h.os, k.tape.trans h.tape, k.output.trans h.output, Nat.le_trans h.size k.size, fun i h1 h2 => (k.block i h1 h2).trans (h.block i h1 h2)⟩
theorem EffB.of {p base : Nat} {w w' : World} (h : Eff p w w') (hb : base ≤ w.heap.size) : EffB p base w w' := ⟨h.os, h.tape, h.output, h.size, fun i h1 h2 => h.block i (by omega) h2⟩
theorem EffB.below {p base : Nat} {w w' : World} (h : Below w.heap.size w w') (hb : base ≤ w.heap.size) : EffB p base w w' := EffB.of (Eff.of_below h) hb
theorem EffB.grown {p base : Nat} {w w' : World} {row : Option Nat} (h : w.grownBy w' row) (hb : base ≤ w.heap.size) (hr : ∀ k, row = some k → base ≤ k) : EffB p base w w' := ⟨h.os, h.tape, h.output, h.size, fun i h1 _ => h.block i (by omega) (fun e => by have := hr i e.symm; omega)⟩
theorem EffB.set {p base : Nat} {w : World} {b o : Nat} (hb : base ≤ b) (v : Value) : EffB p base w (w.setCell ⟨b, o, none⟩ v) := ⟨rfl, rfl, rfl, by simp, fun i h1 _ => Below.heap_setCell _ _ _ _ (by simp; omega)⟩
theorem RR.effB {w w' : World} {p base fin : Nat} {ts : List Tok} {s : Rs} (h : RR w p fin ts s) (he : EffB base base w w') (hp : p < base) : RR w' p fin ts s := h.keep he.size (fun b hb => he.block b (by omega) (by omega))
theorem OwnU.later {p base : Nat} {w w' : World} {v : Value} {st : Stack} (h : OwnU (fun b => base ≤ b) w base v st) (he : Eff p w w') (hp : p < base) : OwnU (fun b => base ≤ b) w' base v st := h.base he.size (fun b hb hlt => he.block b hlt (by omega))
theorem udeep_snoc (l : Stack) (x : Tree × Nat) : deepK (l ++ [x]) = max (deepK l) (x.2 + 1) := by unfold deepK; rw [List.foldl_append]; rfl
theorem udeep_le {l : Stack} {D : Nat} (h : ∀ x ∈ l, x.2 ≤ D) : deepK l ≤ D + 1 := by
  unfold deepK
  suffices ∀ (l : Stack) (d : Nat), (∀ x ∈ l, x.2 ≤ D) → d ≤ D + 1 → l.foldl (fun d x => max d (x.2 + 1)) d ≤ D + 1 from this l 1 h (by omega)
  intro l
  induction l with
  | nil => intro d _ hd; exact hd
  | cons a r ih =>
    intro d h hd
    rw [List.foldl_cons]
    exact ih _ (fun x hx => h x (by simp [hx])) (by have := h a (by simp); omega)
theorem take_step {l : Stack} {n i : Nat} {x : Tree × Nat} (h : l[i]? = some x) (hn : n ≤ i) : (l.drop n).take (i + 1 - n) = (l.drop n).take (i - n) ++ [x] := by
  rw [show i + 1 - n = i - n + 1 by omega, List.take_add_one, List.getElem?_drop, show n + (i - n) = i by omega, h]; rfl
theorem step_app_u' {ops : Array Oper} {o : Oper} {a : Act} {W : World} {K : Act → World → Prop} {Q : Exit → Act → World → Prop} {E : Prop} (hg : o.guard = none) (s x : Operand) (hop : o.op = Op.call { callee := Callee.builtin Builtin.append, args := #[s, x], argTypes := #[50, 50] })
    (w0 : World) (hh : W.heap = w0.heap) (S : Nat → Prop) (base : Nat) (v : Value) (st st2 : Stack) (A : Addr) (n cap : Nat) (css2 : List (List Value)) (hs : a.eval s = v) (hx : a.eval x = .slice (some A) n cap) (hn : n = st2.length) (hown : OwnU S w0 base v st) (k1 : css2.length = st2.length)
    (k2 : ∀ (i : Nat) (cs : List Value) (x : Tree × Nat), css2[i]? = some cs → st2[i]? = some x → RdU (fun b => S b ∧ v.ownBlock ≠ some b) w0 cs x.2 x.1) (hc : ∀ (j : Nat) u, css2.flatten[j]? = some u → w0.cell? (A.add j) = some u) (hlen : st.length + st2.length ≤ 1000000) (hb : base ≤ w0.heap.size)
    (hK : ∀ v' w', OwnU S w' base v' (st ++ st2) → W.grownBy w' v.ownBlock → (v'.ownBlock = v.ownBlock ∨ v'.ownBlock = some w0.heap.size) → K (a.put o.dst v') w') : if Region.wanted o (yielded ops a.tmps) = true then Oper.wp Tryz.prog o a W K Q else E :=
  step_app_u hg s x hop S base v st st2 A n cap css2 hs hx hn (hown.keep (S' := S) (by rw [hh]; exact Nat.le_refl _) (fun _ h => h) (fun b _ _ => by rw [hh]) (fun b _ => by rw [hh])) k1
    (fun i cs x a b => (k2 i cs x a b).keep (S' := fun b => S b ∧ v.ownBlock ≠ some b) (by rw [hh]; exact Nat.le_refl _) (fun b hb _ => ⟨hb, by rw [hh]⟩)) (fun j u hu => (World.cell?_of_block (by rw [hh])).trans (hc j u hu)) hlen (by rw [hh]; exact hb) (fun v' w' h1 h2 h3 => hK v' w' h1 h2 (by rw [hh] at h3; exact h3))
theorem OwnU.form' {S : Nat → Prop} {w : World} {base m : Nat} {v : Value} {st : Stack} (h : OwnU S w base v st) (hl : st.length = m) : ∃ A cap, v = .slice A m cap := by subst hl; exact h.form
theorem ubox {w0 W w' : World} {tb base : Nat} {v : Value} {C : Array Value} {t : TypeId} (hob : ∀ b, v.ownBlock = some b → base ≤ b) (hx : w0.heap[tb]? = some (.cells C t (0, 0))) (hg : W.grownBy w' v.ownBlock) (hW : W.heap[tb]? = w0.heap[tb]?) (hlt : tb < base := by omega) :
    w'.frozen? ⟨tb, 4, none⟩ = false ∧ w'.heap[tb]? = some (.cells C t (0, 0)) ∧ tb < w'.heap.size := by
  have h1 : w'.heap[tb]? = _ := (hg.block tb (lt_of_heap' (hW.trans hx)) (fun e => by have := hob tb e.symm; omega)).trans (hW.trans hx)
  exact ⟨frozen_of_blk h1, h1, lt_of_heap' h1⟩
theorem below_grow {wz w0 W w1 : World} {row : Option Nat} (h : Below wz.heap.size wz w0) (hg : W.grownBy w1 row) (hr : ∀ k, row = some k → wz.heap.size ≤ k) (h1 : W.heap = w0.heap) (h2 : W.os = w0.os) (h3 : W.tape = w0.tape) (h4 : W.output = w0.output) : Below wz.heap.size wz w1 :=
  ⟨hg.os.trans (h2.trans h.os), hg.tape.trans (h3.trans h.tape), hg.output.trans (h4.trans h.output), by have := hg.size; rw [h1] at this; have := h.size; omega, fun b hb => (hg.block b (by rw [h1]; have := h.size; omega) (fun e => by have := hr b e.symm; omega)).trans ((congrArg (·[b]?) h1).trans (h.block b hb))⟩
theorem ubase {wz w0 : World} {base : Nat} (h : Below wz.heap.size wz w0) (hb : base ≤ wz.heap.size) : base ≤ w0.heap.size := by have := h.size; omega
theorem ub {z w n c : Nat} (h : w ≤ z) : ∀ k, (Value.slice (some ⟨z, 0, none⟩) n c).ownBlock = some k → w ≤ k := by intro k e; simp [Value.ownBlock] at e; omega
theorem uflat_take {α : Type} {css : List (List α)} {n j : Nat} {u : α} (h : (css.take n).flatten[j]? = some u) : css.flatten[j]? = some u := by
  conv => lhs; rw [← List.take_append_drop n css]
  rw [List.flatten_append, List.getElem?_append_left (List.getElem?_eq_some_iff.1 h).1]
  exact h
theorem uown {v' : Value} {z N n c M : Nat} (h : v'.ownBlock = (Value.slice (some ⟨z, 0, none⟩) n c).ownBlock ∨ v'.ownBlock = some M) (hm : N ≤ z ∧ N ≤ M) : ∀ b, v'.ownBlock = some b → N ≤ b := by
  intro b hb
  rcases h with h | h
  · rw [h] at hb; simp [Value.ownBlock] at hb; omega
  · rw [h] at hb; injection hb with hb; omega
theorem utbox {wz w1 : World} {tb : Nat} {v0 v1 v2 v3 v4 v5 : Value} {t : TypeId} (hb : Below wz.heap.size wz w1) (hx : wz.heap[tb]? = some (.cells #[v0, v1, v2, v3, v4, v5] t (0, 0))) :
    w1.cell? ⟨tb, 0, none⟩ = some v0 ∧ w1.cell? ⟨tb, 1, none⟩ = some v1 ∧ w1.cell? ⟨tb, 2, none⟩ = some v2 ∧ w1.cell? ⟨tb, 3, none⟩ = some v3 ∧ w1.cell? ⟨tb, 4, none⟩ = some v4 ∧ w1.cell? ⟨tb, 5, none⟩ = some v5 ∧ tb < w1.heap.size := by
  have h := (hb.block _ (lt_of_heap' hx)).trans hx
  exact ⟨cell_of_blk (o := 0) h rfl, cell_of_blk (o := 1) h rfl, cell_of_blk (o := 2) h rfl, cell_of_blk (o := 3) h rfl, cell_of_blk (o := 4) h rfl, cell_of_blk (o := 5) h rfl, lt_of_heap' h⟩
theorem ukids {wz w0 : World} {base lo op k cB d : Nat} {B : Option Addr} {v1 : Value} {l : Stack} (h : OwnU (fun b => base ≤ b ∧ b < lo) wz (lo + 1) (.slice B k cB) l) (hk : k = l.length) (hne : l ≠ []) (hlo : base ≤ lo ∧ lo < wz.heap.size) (hb : Below wz.heap.size wz w0) (hv : ∀ b, v1.ownBlock = some b → wz.heap.size ≤ b) :
    RdU (fun b => base ≤ b ∧ v1.ownBlock ≠ some b) w0 (ucs op [] 0 0 (.slice B k cB) d) d (.mk op [] 0 0 (l.map (·.1))) := by
  obtain ⟨g, cap, he, hg1, hg2, hg3, hg4, css, k1, k2, k3⟩ := h.at hne
  injection he with he1 he2 he3
  subst he1 he3
  refine ⟨some ⟨g, 0, none⟩, cB, by simp [hk], by simp; omega, .inr ⟨g, 0, rfl, ⟨by omega, fun e => by have := hv g e; omega⟩, by have := hb.size; omega, ?_⟩⟩
  refine us_of_row k1 (fun i cs x a b => (k2 i cs x a b).keep hb.size (fun b hb2 hlt => ⟨⟨hb2.1.1, fun e => by have := hv b e; omega⟩, hb.block b hlt⟩)) (fun j u hu => ?_)
  rw [Nat.zero_add]
  exact (hb.cell (p := ⟨g, j, none⟩) hg2).trans (k3 j u hu)
/- the older part of a row -/
structure OldR (w wr : World) : Prop where
  size : w.heap.size < wr.heap.size
  os : wr.os = w.os
  tape : wr.tape = w.tape
  output : wr.output = w.output
  block : ∀ b, b < w.heap.size → wr.heap[b]? = w.heap[b]?
theorem OldR.grown {w wr w' : World} {W : World} {v : Value} (h : OldR w wr) (hg : W.grownBy w' v.ownBlock) (hob : ∀ b, v.ownBlock = some b → w.heap.size + 1 ≤ b) (hW : W.heap.size ≤ W.heap.size) (hb : ∀ b, b < wr.heap.size → W.heap[b]? = wr.heap[b]? := by intro b hb; exact Below.heap_alloc _ _ _ hb) (h0 : W.os = wr.os ∧ W.tape = wr.tape ∧ W.output = wr.output ∧ wr.heap.size ≤ W.heap.size := by exact ⟨rfl, rfl, rfl, by simp⟩) : OldR w w' :=
  ⟨Nat.lt_of_lt_of_le (Nat.lt_of_lt_of_le h.size h0.2.2.2) hg.size, hg.os.trans (h0.1.trans h.os), hg.tape.trans (h0.2.1.trans h.tape), hg.output.trans (h0.2.2.1.trans h.output), fun b hlt => (hg.block b (by have := h.size; have := h0.2.2.2; omega) (fun e => by have := hob b e.symm; omega)).trans ((hb b (by have := h.size; omega)).trans (h.block b hlt))⟩
theorem OldR.set {w wr : World} (h : OldR w wr) {o : Nat} (v : Value) : OldR w (wr.setCell ⟨w.heap.size, o, none⟩ v) := ⟨by have := h.size; simpa using this, h.os, h.tape, h.output, fun b hb => (Below.heap_setCell _ _ _ _ (by simp; omega)).trans (h.block b hb)⟩
theorem OldR.drew {w wr : World} (h : OldR w wr) : OldR w wr.drew := ⟨h.size, h.os, h.tape, h.output, h.block⟩
theorem OldR.below {w wr : World} (h : OldR w wr) : Below w.heap.size w wr := ⟨h.os, h.tape, h.output, Nat.le_of_lt h.size, fun b hb => h.block b hb⟩
set_option maxRecDepth 20000 in
set_option maxHeartbeats 400000 in
theorem rcombine_err (op k : Nat) (at' : Int) (p base fin D : Nat) (ts : List Tok) (s : Rs) (v : Value) (st : Stack) (w : World) (hp : RR w p fin ts s) (ho : OwnU (fun b => base ≤ b) w base v st) (hpb : p < base) (hbw : base ≤ w.heap.size) (he : s.e ≠ 0) :
    Calls Tryz.prog 71 #[.pointer (some ⟨p, 0, none⟩), v, .int .i64 op, .int .i64 k, .int .i64 at'] w fun r w' => ∃ v', r = .returned v' ∧ OwnU (fun b => base ≤ b) w' base v' (combineA st op k at' s).1 ∧ RR w' p fin ts (combineA st op k at' s).2 ∧ EffB p base w w' := by
  obtain ⟨A, c, hh, hr, hn, h1⟩ := hp.is
  obtain ⟨si, es, av⟩ := s
  have HP := Lib.hid hp
  have HO := Lib.hid ho
  have c3 := cell_of_blk (o := 3) hh rfl
  have hlt := lt_of_heap' hh
  simp only at c3
  obtain ⟨VA, vc, rfl⟩ := ho.form
  have h0' : ((es : Int) != 0) = true := by simp at he ⊢; omega
  have HM : Hid (combineA st op k at' ⟨si, es, av⟩ = (st, ⟨si, es, av⟩)) := Lib.hid (by unfold combineA; rw [if_pos he])
  clear hp ho hh hr hn h1 he
  go_enter Tryz.func71, Tryz.ntmps71
  go_wp2_with fail
  go_ret
  exact ⟨_, rfl, by rw [HM.out]; exact HO.out, by rw [HM.out]; exact HP.out, EffB.refl _ _ _⟩
set_option maxRecDepth 20000 in
set_option maxHeartbeats 400000 in
theorem rcombine_few (op k : Nat) (at' : Int) (p base fin D : Nat) (ts : List Tok) (s : Rs) (v : Value) (st : Stack) (w : World) (hp : RR w p fin ts s) (ho : OwnU (fun b => base ≤ b) w base v st) (hpb : p < base) (hbw : base ≤ w.heap.size) (he : s.e = 0) (hk : st.length < k) :
    Calls Tryz.prog 71 #[.pointer (some ⟨p, 0, none⟩), v, .int .i64 op, .int .i64 k, .int .i64 at'] w fun r w' => ∃ v', r = .returned v' ∧ OwnU (fun b => base ≤ b) w' base v' (combineA st op k at' s).1 ∧ RR w' p fin ts (combineA st op k at' s).2 ∧ EffB p base w w' := by
  obtain ⟨A, c, hh, hr, hn, h1⟩ := hp.is
  obtain ⟨si, es, av⟩ := s
  have HP := Lib.hid hp
  have HO := Lib.hid ho
  have c3 := cell_of_blk (o := 3) hh rfl
  have hlt := lt_of_heap' hh
  simp only at c3
  obtain ⟨VA, vc, rfl⟩ := ho.form
  simp only at he
  subst he
  have hk' : (st.length : Int) < k := by omega
  have HM : Hid (combineA st op k at' ⟨si, 0, av⟩ = (st, Rs.flt ⟨si, 0, av⟩ 5 at')) := Lib.hid (by unfold combineA; rw [if_neg (by simp), if_pos hk])
  clear hp ho hh hr hn h1 hk
  go_enter Tryz.func71, Tryz.ntmps71
  go_wp2_with fail
  refine (fault_any 5 at' p fin ts ⟨si, 0, av⟩ _ HP.out).mono ?_
  rintro r w1 ⟨rfl, hr1, he1⟩
  have HR1 := Lib.hid hr1
  have HE1 := Lib.hid he1
  clear hr1 he1
  go_wp2_with fail
  go_ret
  exact ⟨_, rfl, by rw [HM.out]; exact HO.out.later HE1.out hpb, by rw [HM.out]; exact HR1.out, EffB.of HE1.out hbw⟩
set_option maxRecDepth 20000 in
set_option maxHeartbeats 4000000 in
theorem rcombine_yes (op k : Nat) (at' : Int) (p base fin D : Nat) (ts : List Tok) (s : Rs) (v : Value) (st : Stack) (w : World) (hp : RR w p fin ts s) (ho : OwnU (fun b => base ≤ b) w base v st) (hpb : p < base) (hbw : base ≤ w.heap.size) (he : s.e = 0) (hk1 : 1 ≤ k) (hk : k ≤ st.length) (hl : st.length ≤ 1000) (hD : D ≤ 1000) (hd : ∀ x ∈ st, x.2 ≤ D) :
    Calls Tryz.prog 71 #[.pointer (some ⟨p, 0, none⟩), v, .int .i64 op, .int .i64 k, .int .i64 at'] w fun r w' => ∃ v', r = .returned v' ∧ OwnU (fun b => base ≤ b) w' base v' (combineA st op k at' s).1 ∧ RR w' p fin ts (combineA st op k at' s).2 ∧ EffB p base w w' := by
  obtain ⟨A, c, hh, hr, hn, h1⟩ := hp.is
  obtain ⟨si, es, av⟩ := s
  have HP := Lib.hid hp
  have HO := Lib.hid ho
  have c3 := cell_of_blk (o := 3) hh rfl
  have hlt := lt_of_heap' hh
  simp only at c3
  obtain ⟨VA, vc, rfl⟩ := ho.form
  simp only at he
  subst he
  have hk' : ¬ (st.length : Int) < k := by omega
  obtain ⟨n, hn'⟩ : ∃ n, st.length = n + k := ⟨st.length - k, by omega⟩
  have HN : Hid (st.length - k = n) := Lib.hid (by omega)
  obtain ⟨g, cap, hv, hg1, hg2, hg3, hg4, css, k1, k2, k3⟩ := ho.at (by intro h; rw [h] at hk; simp at hk; omega)
  injection hv with hv1 hv2 hv3
  subst hv1 hv3
  have HK1 := Lib.hid k1
  have HK2 := Lib.hid k2
  have HK3 := Lib.hid k3
  have HDD := Lib.hid hd
  have n1 : (n : Int) ≤ st.length := by omega
  have n2 : (st.length : Int) - k = n := by omega
  have HNK := Lib.hid hn'
  have HKK := Lib.hid hk
  clear hp ho hh hr hn h1 hk hd k1 k2 k3 hv2 hn'
  go_enter Tryz.func71, Tryz.ntmps71
  go_wp2_with fail
  have HX1 := Lib.hid (heap_alloc_new w (.cells #[.int .i64 op, vs [], .int .i64 0, .int .i64 0, .slice none 0 0, .int .i64 1] 52 (0, 0)))
  have HO1 : Hid (OldR w (w.alloc (.cells #[.int .i64 op, vs [], .int .i64 0, .int .i64 0, .slice none 0 0, .int .i64 1] 52 (0, 0)))) := Lib.hid ⟨by simp, rfl, rfl, rfl, fun b hb => Below.heap_alloc _ _ _ hb⟩
  generalize w.alloc (.cells #[.int .i64 op, vs [], .int .i64 0, .int .i64 0, .slice none 0 0, .int .i64 1] 52 (0, 0)) = w1 at *
  have HLT := Lib.hid hlt
  clear c3 hlt
  have RelD : True := trivial
  go_loopw [13] (fun v13 wr => ∃ (i : Nat) (B : Option Addr) (cB : Nat), n ≤ i ∧ i ≤ st.length ∧ v13 = .int .i64 i ∧ OldR w wr ∧ OwnU (fun b => base ≤ b ∧ b < w.heap.size) wr (w.heap.size + 1) (.slice B (i - n) cB) ((st.drop n).take (i - n)) ∧ wr.heap[w.heap.size]? = some (.cells #[.int .i64 op, vs [], .int .i64 0, .int .i64 0, .slice B (i - n) cB, .int .i64 (deepK ((st.drop n).take (i - n)) : Nat)] 52 (0, 0))) (fun v13 _ => st.length - (intOf v13).toNat)
  case atStart =>
    refine ⟨n, none, 0, Nat.le_refl _, by have := HNK.out; omega, rfl, HO1.out, ?_, ?_⟩
    · rw [Nat.sub_self]; exact OwnU.nil
    · rw [Nat.sub_self]; exact HX1.out
  case round =>
    obtain ⟨i, B, cB, hi1, hi2, rfl, hold, hown, hx⟩ := hrel
    have HOLD := Lib.hid hold
    have HOWN := Lib.hid hown
    have HX := Lib.hid hx
    have hz := hold.size
    clear hold hown hx
    by_cases hlt : i < st.length
    · obtain ⟨x, hxi⟩ := get_of_lt hlt
      obtain ⟨csx, hcx⟩ := get_of_lt (l := css) (k := i) (by rw [HK1.out]; exact hlt)
      have hrd := HK2.out i csx x hcx hxi
      have hfl : ∀ (j : Nat) u, csx[j]? = some u → w.cell? ⟨g, i * 6 + j, none⟩ = some u := fun j u hu => HK3.out _ _ (uflat_at (n := 6) (fun i c hi => by
        obtain ⟨y, hy⟩ : ∃ y, st[i]? = some y := ⟨st[i]'(by have := (List.getElem?_eq_some_iff.1 hi).1; have := HK1.out; omega), List.getElem?_eq_getElem _⟩
        exact (HK2.out i c y hi hy).len) hcx hu)
      have HXI := Lib.hid hxi
      have HTK := Lib.hid (take_step (n := n) hxi hi1)
      have hdx : x.2 ≤ D := HDD.out x (List.mem_of_getElem? hxi)
      have hdk : deepK ((st.drop n).take (i - n)) ≤ D + 1 := udeep_le (fun y hy => HDD.out y (List.mem_of_mem_drop (List.mem_of_mem_take hy)))
      have HRD := Lib.hid hrd
      obtain ⟨⟨o', nm', cm', m', ks'⟩, d'⟩ := x
      obtain ⟨K, q, rfl, -, -⟩ := hrd
      have ef : ∀ (j : Nat) u, (ucs o' nm' cm' m' (.slice K ks'.length q) d')[j]? = some u → wr.cell? ⟨g, i * 6 + j, none⟩ = some u := fun j u hu => (HOLD.out.below.cell (p := ⟨g, i * 6 + j, none⟩) hg2).trans (hfl j u hu)
      have EF := Lib.hid ef
      have HEO := Lib.hid hfl
      have e0 : wr.cell? ⟨g, i * 6, none⟩ = some (.int .i64 o') := ef 0 _ rfl
      have e1 : wr.cell? ⟨g, i * 6 + 1, none⟩ = some (vs nm') := ef 1 _ rfl
      have e2 : wr.cell? ⟨g, i * 6 + 2, none⟩ = some (.int .i64 cm') := ef 2 _ rfl
      have e3 : wr.cell? ⟨g, i * 6 + 3, none⟩ = some (.int .i64 m') := ef 3 _ rfl
      have e4 : wr.cell? ⟨g, i * 6 + 4, none⟩ = some (.slice K ks'.length q) := ef 4 _ rfl
      have e5 : wr.cell? ⟨g, i * 6 + 5, none⟩ = some (.int .i64 d') := ef 5 _ rfl
      have hgr : g < wr.heap.size := by omega
      have hgr1 : g < wr.heap.size + 1 := by omega
      have c0 := cell_of_blk (o := 4) HX.out rfl
      have c5 := cell_of_blk (o := 5) HX.out rfl
      have hil : (i : Int) < st.length := by omega
      have hi0 : (0 : Int) ≤ i := by omega
      simp only at hdx
      clear hxi hcx hfl ef
      go_upto_region 11 with fail
      have hal : Below wr.heap.size wr (wr.alloc (.cells (ucs o' nm' cm' m' (.slice K ks'.length q) d').toArray 52 (0, 0))) := (Below.refl _ _).alloc (Nat.le_refl _) _
      have HOA : Hid (OwnU (fun b => base ≤ b ∧ b < w.heap.size) (wr.alloc (.cells #[.int .i64 o', vs nm', .int .i64 cm', .int .i64 m', .slice K ks'.length q, .int .i64 d'] 52 (0, 0))) (w.heap.size + 1) (.slice B (i - n) cB) ((st.drop n).take (i - n))) := Lib.hid (HOWN.out.keep hal.size (fun _ h => h) (fun b _ hlt => hal.block b hlt) (fun b hb => hal.block b (HOWN.out.own b hb).2))
      have HCA : Hid (∀ (j : Nat) u, ([ucs o' nm' cm' m' (.slice K ks'.length q) d'] : List (List Value)).flatten[j]? = some u → (wr.alloc (.cells #[.int .i64 o', vs nm', .int .i64 cm', .int .i64 m', .slice K ks'.length q, .int .i64 d'] 52 (0, 0))).cell? (Addr.add ⟨wr.heap.size, 0, none⟩ j) = some u) := Lib.hid (fun j u hu => by
        rw [Addr.add_lit, Nat.zero_add]
        exact cell_of_blk (heap_alloc_new wr _) (by simpa [ucs] using hu))
      have HRA : Hid (∀ (y : Nat) (cs : List Value) (x : Tree × Nat), [ucs o' nm' cm' m' (.slice K ks'.length q) d'][y]? = some cs → [((Tree.mk o' nm' cm' m' ks', d') : Tree × Nat)][y]? = some x → RdU (fun b => (base ≤ b ∧ b < w.heap.size) ∧ (Value.slice B (i - n) cB).ownBlock ≠ some b) (wr.alloc (.cells #[.int .i64 o', vs nm', .int .i64 cm', .int .i64 m', .slice K ks'.length q, .int .i64 d'] 52 (0, 0))) cs x.2 x.1) := Lib.hid (fun y cs x h1 h2 => by
        cases y with
        | succ y => simp at h1
        | zero =>
          simp at h1 h2
          subst h1 h2
          refine HRD.out.keep (by have := HOLD.out.size; simp; omega) (fun b hb hlt => ⟨⟨⟨hb.1, hlt⟩, fun e => by have := (HOWN.out.own b e).1; omega⟩, (Below.heap_alloc _ _ _ (by omega)).trans (HOLD.out.block b hlt)⟩))
      have hlen : ((st.drop n).take (i - n)).length + [((Tree.mk o' nm' cm' m' ks', d') : Tree × Nat)].length ≤ 1000000 := by simp; omega
      have HLEN := Lib.hid hlen
      have HHB : Hid (w.heap.size + 1 ≤ (wr.alloc (.cells #[.int .i64 o', vs nm', .int .i64 cm', .int .i64 m', .slice K ks'.length q, .int .i64 d'] 52 (0, 0))).heap.size) := Lib.hid (by simp; omega)
      have HOB : Hid (∀ b, (Value.slice B (i - n) cB).ownBlock = some b → w.heap.size + 1 ≤ b) := Lib.hid (fun b hb => (HOWN.out.own b hb).1)
      have hbx : w.heap.size < wr.heap.size + 1 := by omega
      have HWS := Lib.hid (hal.block _ hz)
      have HLL : Hid (((st.drop n).take (i - n) ++ [((Tree.mk o' nm' cm' m' ks', d') : Tree × Nat)]).length = i + 1 - n) := Lib.hid (by simp; omega)
      clear hal hlen
      go_region_law (refine step_app_u' rfl (.tmp 42) (.tmp 47) rfl (wr.alloc (.cells #[.int .i64 o', vs nm', .int .i64 cm', .int .i64 m', .slice K ks'.length q, .int .i64 d'] 52 (0, 0))) rfl (fun b => base ≤ b ∧ b < w.heap.size) (w.heap.size + 1) (.slice B (i - n) cB) ((st.drop n).take (i - n)) [(Tree.mk o' nm' cm' m' ks', d')] ⟨wr.heap.size, 0, none⟩ 1 1 [ucs o' nm' cm' m' (.slice K ks'.length q) d'] rfl rfl rfl HOA.out rfl HRA.out HCA.out HLEN.out HHB.out ?_; intro v' w' ho hg hbk; obtain ⟨B', cB', rfl⟩ := ho.form' HLL.out; have HHO := Lib.hid ho; have HHG := Lib.hid hg; have hbox := ubox HOB.out HX.out HHG.out HWS.out; obtain ⟨f4, c4', hl4⟩ := hbox; have cc4 := cell_of_blk (o := 4) c4' rfl; have HC4 := Lib.hid c4'; clear c4'; clear ho hg hbk)
      all_goals
        have hx2 : (w'.setCell ⟨w.heap.size, 4, none⟩ (.slice B' (i + 1 - n) cB')).heap[w.heap.size]? = some (.cells #[.int .i64 op, vs [], .int .i64 0, .int .i64 0, .slice B' (i + 1 - n) cB', .int .i64 (deepK ((st.drop n).take (i - n)) : Nat)] 52 (0, 0)) := row_setCell HC4.out
        have hold2 : OldR w (w'.setCell ⟨w.heap.size, 4, none⟩ (.slice B' (i + 1 - n) cB')) := (HOLD.out.grown (HHG.out) HOB.out (Nat.le_refl _)).set _
        have hown2 : OwnU (fun b => base ≤ b ∧ b < w.heap.size) (w'.setCell ⟨w.heap.size, 4, none⟩ (.slice B' (i + 1 - n) cB')) (w.heap.size + 1) (.slice B' (i + 1 - n) cB') ((st.drop n).take (i - n) ++ [(Tree.mk o' nm' cm' m' ks', d')]) := HHO.out.keep (by simp) (fun _ h => h) (fun b hb _ => Below.heap_setCell _ _ _ _ (by simp; omega)) (fun b hb => Below.heap_setCell _ _ _ _ (by have := (HHO.out.own b hb).1; simp; omega))
        have HX2 := Lib.hid hx2
        have HOLD2 := Lib.hid hold2
        have HOWN2 := Lib.hid hown2
        generalize w'.setCell ⟨w.heap.size, 4, none⟩ (.slice B' (i + 1 - n) cB') = w2 at *
        clear hx2 hold2 hown2 c0 c5 e0 e1 e2 e3 e4 e5 f4 cc4 hl4
        have c5 := cell_of_blk (o := 5) HX2.out rfl
        have f5 := frozen_of_blk (o := 5) HX2.out
        have hl5 := lt_of_heap' HX2.out
        have e5 : w2.cell? ⟨g, i * 6 + 5, none⟩ = some (.int .i64 d') := (HOLD2.out.below.cell (p := ⟨g, i * 6 + 5, none⟩) hg2).trans (HEO.out 5 _ rfl)
        have hg5 : g < w2.heap.size := by omega
        have kw : IntKind.i64.wrap ((d' : Int) + 1) = (d' : Int) + 1 := IntWalk.i64_in _ (by omega)
        have HKW := Lib.hid hdk
        clear hdk
        go_wp2_with fail
        go_still_tail 10, (by kernel_rfl)
        change wpList _ _ _ _ _ w2.drew
        go_wp2_with fail
        refine ⟨⟨i + 1, B', cB', by omega, hlt, by go_num, HOLD2.out.drew.set _, ?_, ?_⟩, by simp [intOf]; omega⟩
        · rw [HTK.out]
          exact HOWN2.out.keep (by simp) (fun _ h => h) (fun b hb _ => Below.heap_setCell _ _ _ _ (by simp; omega)) (fun b hb => Below.heap_setCell _ _ _ _ (by have := (HOWN2.out.own b hb).1; simp; omega))
        · rw [HTK.out, udeep_snoc]
          refine (row_setCell HX2.out).trans ?_
          rw [show max (deepK ((st.drop n).take (i - n)) : Int) ((d' : Int) + 1) = ((max (deepK ((st.drop n).take (i - n))) (d' + 1) : Nat) : Int) by omega]
          rfl
    · obtain rfl : i = st.length := by omega
      have hik : ¬ (st.length : Int) < st.length := by omega
      have htk : (st.drop n).take (st.length - n) = st.drop n := List.take_of_length_le (by simp)
      have hkn : st.length - n = k := by have := HNK.out; omega
      have hown := HOWN.out
      have hx := HX.out
      rw [htk, hkn] at hown hx
      clear HOWN HX htk hkn
      have HOWN := Lib.hid hown
      have HX := Lib.hid hx
      have c5 := cell_of_blk (o := 5) hx rfl
      clear hown hx
      by_cases hdp : 20 < deepK (st.drop n)
      · have hdp' : (20 : Int) < deepK (st.drop n) := by omega
        have HM : Hid (combineA st op k at' ⟨si, 0, av⟩ = (st.take n ++ [(.mk op [] 0 0 ((st.drop n).map (·.1)), deepK (st.drop n))], Rs.flt ⟨si, 0, av⟩ 2 at')) := Lib.hid (by
          unfold combineA
          rw [if_neg (by simp), if_neg (by have := HNK.out; omega), HN.out]
          rw [if_pos hdp])
        clear hdp
        go_wp2_with fail
        refine (fault_any 2 at' p fin ts ⟨si, 0, av⟩ _ (HP.out.below HOLD.out.below)).mono ?_
        rintro r wz ⟨rfl, hr1, he1⟩
        have HRZ := Lib.hid hr1
        have HEZ : Hid (EffB p base w wz) := Lib.hid ((EffB.below HOLD.out.below hbw).trans (EffB.of he1 (by omega)))
        have hpz : w.heap.size ≠ p := by have := HLT.out; omega
        have HXZ := Lib.hid ((he1.block _ hz hpz).trans HX.out)
        have HOZ : Hid (OwnU (fun b => base ≤ b ∧ b < w.heap.size) wz (w.heap.size + 1) (.slice B k cB) (st.drop n)) := Lib.hid (HOWN.out.keep he1.size (fun _ h => h) (fun b hb hlt => he1.block b hlt (by omega)) (fun b hb => he1.block b (HOWN.out.own b hb).2 (by have := (HOWN.out.own b hb).1; have := HLT.out; omega)))
        have HBZ : Hid (∀ b, base ≤ b → b < w.heap.size → wz.heap[b]? = w.heap[b]?) := Lib.hid (fun b h1 h2 => (he1.block b (by omega) (by omega)).trans (HOLD.out.block b h2))
        have hzz : w.heap.size < wz.heap.size := by have := he1.size; omega
        clear hr1 he1 c5 hpz
        go_wp2_with fail
        clear HOLD HOWN HX hz
        have t0 := cell_of_blk (o := 0) HXZ.out rfl
        have t1 := cell_of_blk (o := 1) HXZ.out rfl
        have t2 := cell_of_blk (o := 2) HXZ.out rfl
        have t3 := cell_of_blk (o := 3) HXZ.out rfl
        have t4 := cell_of_blk (o := 4) HXZ.out rfl
        have t5 := cell_of_blk (o := 5) HXZ.out rfl
        have t6 : w.heap.size < wz.heap.size + 1 := by omega
        have t7 : w.heap.size < wz.heap.size + 1 + 1 := by omega
        have s1 : (0 : Int) ≤ n := by omega
        have s2 : (n : Int) ≤ vc := by have := HNK.out; omega
        have HE1 : Hid (Below wz.heap.size wz (wz.alloc (.cells #[] 52 (0, 0)))) := Lib.hid ((Below.refl _ _).alloc (Nat.le_refl _) _)
        have HE2 : Hid (Below wz.heap.size wz ((wz.alloc (.cells #[] 52 (0, 0))).alloc (.cells #[.int .i64 op, vs [], .int .i64 0, .int .i64 0, .slice B k cB, .int .i64 (deepK (st.drop n) : Nat)] 52 (0, 0)))) := Lib.hid (HE1.out.alloc (by simp) _)
        have HE4 : Hid (Below wz.heap.size wz ((wz.alloc (.cells #[.int .i64 op, vs [], .int .i64 0, .int .i64 0, .slice B k cB, .int .i64 (deepK (st.drop n) : Nat)] 52 (0, 0))).alloc (.cells #[] 52 (0, 0)))) := Lib.hid (((Below.refl _ _).alloc (Nat.le_refl _) _).alloc (by simp) _)
        have HBB : Hid (base ≤ wz.heap.size) := Lib.hid (by omega)
        have HA1 : Hid (∀ (w0 : World) (z : Nat), Below wz.heap.size wz w0 → wz.heap.size ≤ z → w0.heap[z]? = some (.cells #[] 52 (0, 0)) → OwnU (fun b => base ≤ b) w0 base (.slice (some ⟨z, 0, none⟩) 0 0) [] ∧
            (∀ (j : Nat) (cs : List Value) (x : Tree × Nat), (css.take n)[j]? = some cs → (st.take n)[j]? = some x → RdU (fun b => base ≤ b ∧ (Value.slice (some ⟨z, 0, none⟩) 0 0).ownBlock ≠ some b) w0 cs x.2 x.1) ∧
            (∀ (j : Nat) u, (css.take n).flatten[j]? = some u → w0.cell? (Addr.add ⟨g, 0, none⟩ j) = some u) ∧ base ≤ w0.heap.size) := Lib.hid (fun w0 z hb hz he => ⟨OwnU.empty (by omega) he (by unfold maxLen; omega) rfl, fun j cs x h1 h2 => (by
              rw [List.getElem?_take] at h1 h2
              split at h1
              · rename_i hj
                rw [if_pos hj] at h2
                refine (HK2.out j cs x h1 h2).keep (by have := hb.size; omega) (fun b hb2 hlt => ⟨⟨hb2.1, fun e => ?_⟩, (hb.block b (by omega)).trans (HBZ.out b hb2.1 hlt)⟩)
                simp [Value.ownBlock] at e
                omega
              · cases h1), fun j u hu => (by
              rw [Addr.add_lit, Nat.zero_add]
              exact (cell_of_heap ((hb.block g (by omega)).trans (HBZ.out g hg1 hg2)) _).trans (HK3.out j u (uflat_take hu))), by have := hb.size; omega⟩)
        have HA2 : Hid (∀ (w0 : World) (v1 : Value), Below wz.heap.size wz w0 → (∀ b, v1.ownBlock = some b → wz.heap.size ≤ b) → ∀ (j : Nat) (cs : List Value) (x : Tree × Nat), [ucs op [] 0 0 (.slice B k cB) (deepK (st.drop n))][j]? = some cs → [((Tree.mk op [] 0 0 ((st.drop n).map (·.1)), deepK (st.drop n)) : Tree × Nat)][j]? = some x → RdU (fun b => base ≤ b ∧ v1.ownBlock ≠ some b) w0 cs x.2 x.1) := Lib.hid (fun w0 v1 hb hv j cs x h1 h2 => (by
              cases j with
              | succ j => simp at h1
              | zero =>
                simp only [List.getElem?_cons_zero, Option.some.injEq] at h1 h2
                subst h1 h2
                exact ukids HOZ.out (by have := HNK.out; simp; omega) (by have := HNK.out; intro h; have := congrArg List.length h; simp at this; omega) (by omega) hb hv))
        have HCR : Hid (∀ (w0 : World) (z : Nat), w0.heap[z]? = some (.cells #[.int .i64 op, vs [], .int .i64 0, .int .i64 0, .slice B k cB, .int .i64 (deepK (st.drop n) : Nat)] 52 (0, 0)) → ∀ (j : Nat) u, ([ucs op [] 0 0 (.slice B k cB) (deepK (st.drop n))] : List (List Value)).flatten[j]? = some u → w0.cell? (Addr.add ⟨z, 0, none⟩ j) = some u) := Lib.hid (fun w0 z hz j u hu => (by
              rw [Addr.add_lit, Nat.zero_add]
              exact cell_of_blk hz (by simpa [ucs] using hu)))
        have HTL : Hid (n = (st.take n).length) := Lib.hid (by have := HNK.out; simp; omega)
        have HCL : Hid ((css.take n).length = (st.take n).length) := Lib.hid (by have := HK1.out; simp [this])
        have HL1 : Hid (([] : Stack).length + (st.take n).length ≤ 1000000) := Lib.hid (by simp; omega)
        have HL2 : Hid ((st.take n).length + [((Tree.mk op [] 0 0 ((st.drop n).map (·.1)), deepK (st.drop n)) : Tree × Nat)].length ≤ 1000000) := Lib.hid (by simp; omega)
        clear HK2 HK3
        go_region_law (first
          | (refine step_app_u' rfl (.tmp 66) (.tmp 69) rfl (wz.alloc (.cells #[] 52 (0, 0))) rfl (fun b => base ≤ b) base (.slice (some ⟨wz.heap.size, 0, none⟩) 0 0) [] (st.take n) ⟨g, 0, none⟩ n vc (css.take n) rfl rfl HTL.out (HA1.out _ _ HE1.out (Nat.le_refl _) (heap_alloc_new wz _)).1 HCL.out (HA1.out _ _ HE1.out (Nat.le_refl _) (heap_alloc_new wz _)).2.1 (HA1.out _ _ HE1.out (Nat.le_refl _) (heap_alloc_new wz _)).2.2.1 HL1.out (HA1.out _ _ HE1.out (Nat.le_refl _) (heap_alloc_new wz _)).2.2.2 ?_; intro v1 w1 ho1 hg1 hk1; obtain ⟨B1, c1, rfl⟩ := ho1.form' HTL.out.symm; have HB1 := Lib.hid (below_grow HE1.out hg1 (ub (w := wz.heap.size) (z := wz.heap.size) (by omega)) rfl rfl rfl rfl); have HO1 := Lib.hid ho1; have HV1 := Lib.hid (uown (N := wz.heap.size) hk1 (by constructor <;> simp <;> omega)); obtain ⟨y0, y1, y2, y3, y4, y5, y6⟩ := utbox HB1.out HXZ.out; have y7 : w.heap.size < w1.heap.size + 1 := (by omega); clear hg1 hk1 ho1)
          | (refine step_app_u' rfl (.tmp 66) (.tmp 69) rfl ((wz.alloc (.cells #[] 52 (0, 0))).alloc (.cells #[.int .i64 op, vs [], .int .i64 0, .int .i64 0, .slice B k cB, .int .i64 (deepK (st.drop n) : Nat)] 52 (0, 0))) rfl (fun b => base ≤ b) base (.slice (some ⟨wz.heap.size, 0, none⟩) 0 0) [] (st.take n) ⟨g, 0, none⟩ n vc (css.take n) rfl rfl HTL.out (HA1.out _ _ HE2.out (Nat.le_refl _) (old_at (heap_alloc_new wz _))).1 HCL.out (HA1.out _ _ HE2.out (Nat.le_refl _) (old_at (heap_alloc_new wz _))).2.1 (HA1.out _ _ HE2.out (Nat.le_refl _) (old_at (heap_alloc_new wz _))).2.2.1 HL1.out (HA1.out _ _ HE2.out (Nat.le_refl _) (old_at (heap_alloc_new wz _))).2.2.2 ?_; intro v1 w1 ho1 hg1 hk1; obtain ⟨B1, c1, rfl⟩ := ho1.form' HTL.out.symm; have HB1 := Lib.hid (below_grow HE2.out hg1 (ub (w := wz.heap.size) (z := wz.heap.size) (by omega)) rfl rfl rfl rfl); have HO1 := Lib.hid ho1; have HV1 := Lib.hid (uown (N := wz.heap.size) hk1 (by constructor <;> simp <;> omega)); obtain ⟨y0, y1, y2, y3, y4, y5, y6⟩ := utbox HB1.out HXZ.out; have y7 : w.heap.size < w1.heap.size + 1 := (by omega); have HRW : Hid (w1.heap[wz.heap.size + 1]? = some (.cells #[.int .i64 op, vs [], .int .i64 0, .int .i64 0, .slice B k cB, .int .i64 (deepK (st.drop n) : Nat)] 52 (0, 0))) := Lib.hid ((hg1.block (wz.heap.size + 1) (by simp) (by simp [Value.ownBlock])).trans (alloc_at (by simp))); clear hg1 hk1 ho1)
          | (refine step_app_u' rfl (.tmp 66) (.tmp 69) rfl ((wz.alloc (.cells #[.int .i64 op, vs [], .int .i64 0, .int .i64 0, .slice B k cB, .int .i64 (deepK (st.drop n) : Nat)] 52 (0, 0))).alloc (.cells #[] 52 (0, 0))) rfl (fun b => base ≤ b) base (.slice (some ⟨wz.heap.size + 1, 0, none⟩) 0 0) [] (st.take n) ⟨g, 0, none⟩ n vc (css.take n) rfl rfl HTL.out (HA1.out _ (wz.heap.size + 1) HE4.out (Nat.le_succ _) (alloc_at (by simp))).1 HCL.out (HA1.out _ (wz.heap.size + 1) HE4.out (Nat.le_succ _) (alloc_at (by simp))).2.1 (HA1.out _ (wz.heap.size + 1) HE4.out (Nat.le_succ _) (alloc_at (by simp))).2.2.1 HL1.out (HA1.out _ (wz.heap.size + 1) HE4.out (Nat.le_succ _) (alloc_at (by simp))).2.2.2 ?_; intro v1 w1 ho1 hg1 hk1; obtain ⟨B1, c1, rfl⟩ := ho1.form' HTL.out.symm; have HB1 := Lib.hid (below_grow HE4.out hg1 (ub (w := wz.heap.size) (z := wz.heap.size + 1) (by omega)) rfl rfl rfl rfl); have HO1 := Lib.hid ho1; have HV1 := Lib.hid (uown (N := wz.heap.size) hk1 (by constructor <;> simp <;> omega)); obtain ⟨y0, y1, y2, y3, y4, y5, y6⟩ := utbox HB1.out HXZ.out; have y7 : w.heap.size < w1.heap.size + 1 := (by omega); have HRW : Hid (w1.heap[wz.heap.size]? = some (.cells #[.int .i64 op, vs [], .int .i64 0, .int .i64 0, .slice B k cB, .int .i64 (deepK (st.drop n) : Nat)] 52 (0, 0))) := Lib.hid ((hg1.block wz.heap.size (by simp <;> omega) (by simp [Value.ownBlock])).trans (old_at (heap_alloc_new wz _))); clear hg1 hk1 ho1)
          | (refine step_app_u' rfl (.tmp 70) (.tmp 72) rfl (w1.alloc (.cells #[.int .i64 op, vs [], .int .i64 0, .int .i64 0, .slice B k cB, .int .i64 (deepK (st.drop n) : Nat)] 52 (0, 0))) rfl (fun b => base ≤ b) base (.slice B1 n c1) (st.take n) [((Tree.mk op [] 0 0 ((st.drop n).map (·.1)), deepK (st.drop n)) : Tree × Nat)] ⟨w1.heap.size, 0, none⟩ 1 1 [ucs op [] 0 0 (.slice B k cB) (deepK (st.drop n))] rfl rfl rfl (HO1.out.base (by simp) (fun b _ hlt => Below.heap_alloc _ _ _ hlt)) rfl (HA2.out _ _ (HB1.out.alloc HB1.out.size _) HV1.out) (HCR.out _ _ (heap_alloc_new w1 _)) HL2.out (ubase (HB1.out.alloc HB1.out.size _) HBB.out) ?_; intro v2 w2 ho2 hg2 hk2; have HO2 := Lib.hid ho2; have HB2 := Lib.hid (below_grow (HB1.out.alloc HB1.out.size _) hg2 HV1.out rfl rfl rfl rfl); clear hg2 hk2 ho2)
          | (refine step_app_u' rfl (.tmp 70) (.tmp 72) rfl w1 rfl (fun b => base ≤ b) base (.slice B1 n c1) (st.take n) [((Tree.mk op [] 0 0 ((st.drop n).map (·.1)), deepK (st.drop n)) : Tree × Nat)] ⟨wz.heap.size + 1, 0, none⟩ 1 1 [ucs op [] 0 0 (.slice B k cB) (deepK (st.drop n))] rfl rfl rfl HO1.out rfl (HA2.out _ _ HB1.out HV1.out) (HCR.out _ _ HRW.out) HL2.out (ubase HB1.out HBB.out) ?_; intro v2 w2 ho2 hg2 hk2; have HO2 := Lib.hid ho2; have HB2 := Lib.hid (below_grow HB1.out hg2 HV1.out rfl rfl rfl rfl); clear hg2 hk2 ho2)
          | (refine step_app_u' rfl (.tmp 70) (.tmp 72) rfl w1 rfl (fun b => base ≤ b) base (.slice B1 n c1) (st.take n) [((Tree.mk op [] 0 0 ((st.drop n).map (·.1)), deepK (st.drop n)) : Tree × Nat)] ⟨wz.heap.size, 0, none⟩ 1 1 [ucs op [] 0 0 (.slice B k cB) (deepK (st.drop n))] rfl rfl rfl HO1.out rfl (HA2.out _ _ HB1.out HV1.out) (HCR.out _ _ HRW.out) HL2.out (ubase HB1.out HBB.out) ?_; intro v2 w2 ho2 hg2 hk2; have HO2 := Lib.hid ho2; have HB2 := Lib.hid (below_grow HB1.out hg2 HV1.out rfl rfl rfl rfl); clear hg2 hk2 ho2))
        all_goals
          go_wp2_with fail
          go_ret
          exact ⟨_, rfl, by rw [HM.out]; exact HO2.out, by rw [HM.out]; exact HRZ.out.below HB2.out, HEZ.out.trans (EffB.below HB2.out HBB.out)⟩
      · have hdp' : ¬ (20 : Int) < deepK (st.drop n) := by omega
        have HM : Hid (combineA st op k at' ⟨si, 0, av⟩ = (st.take n ++ [(.mk op [] 0 0 ((st.drop n).map (·.1)), deepK (st.drop n))], ⟨si, 0, av⟩)) := Lib.hid (by
          unfold combineA
          rw [if_neg (by simp), if_neg (by have := HNK.out; omega), HN.out]
          rw [if_neg hdp])
        clear hdp
        go_wp2_with fail
        have HRZ := Lib.hid (HP.out.below HOLD.out.below)
        have HEZ : Hid (EffB p base w wr) := Lib.hid (EffB.below HOLD.out.below hbw)
        have HXZ := HX
        have HOZ := HOWN
        have HBZ : Hid (∀ b, base ≤ b → b < w.heap.size → wr.heap[b]? = w.heap[b]?) := Lib.hid (fun b h1 h2 => HOLD.out.block b h2)
        have hzz := hz
        obtain ⟨wz, hwz⟩ : ∃ x, x = wr := ⟨_, rfl⟩
        subst hwz
        clear c5
        clear HOLD HOWN HX hz
        have t0 := cell_of_blk (o := 0) HXZ.out rfl
        have t1 := cell_of_blk (o := 1) HXZ.out rfl
        have t2 := cell_of_blk (o := 2) HXZ.out rfl
        have t3 := cell_of_blk (o := 3) HXZ.out rfl
        have t4 := cell_of_blk (o := 4) HXZ.out rfl
        have t5 := cell_of_blk (o := 5) HXZ.out rfl
        have t6 : w.heap.size < wz.heap.size + 1 := by omega
        have t7 : w.heap.size < wz.heap.size + 1 + 1 := by omega
        have s1 : (0 : Int) ≤ n := by omega
        have s2 : (n : Int) ≤ vc := by have := HNK.out; omega
        have HE1 : Hid (Below wz.heap.size wz (wz.alloc (.cells #[] 52 (0, 0)))) := Lib.hid ((Below.refl _ _).alloc (Nat.le_refl _) _)
        have HE2 : Hid (Below wz.heap.size wz ((wz.alloc (.cells #[] 52 (0, 0))).alloc (.cells #[.int .i64 op, vs [], .int .i64 0, .int .i64 0, .slice B k cB, .int .i64 (deepK (st.drop n) : Nat)] 52 (0, 0)))) := Lib.hid (HE1.out.alloc (by simp) _)
        have HE4 : Hid (Below wz.heap.size wz ((wz.alloc (.cells #[.int .i64 op, vs [], .int .i64 0, .int .i64 0, .slice B k cB, .int .i64 (deepK (st.drop n) : Nat)] 52 (0, 0))).alloc (.cells #[] 52 (0, 0)))) := Lib.hid (((Below.refl _ _).alloc (Nat.le_refl _) _).alloc (by simp) _)
        have HBB : Hid (base ≤ wz.heap.size) := Lib.hid (by omega)
        have HA1 : Hid (∀ (w0 : World) (z : Nat), Below wz.heap.size wz w0 → wz.heap.size ≤ z → w0.heap[z]? = some (.cells #[] 52 (0, 0)) → OwnU (fun b => base ≤ b) w0 base (.slice (some ⟨z, 0, none⟩) 0 0) [] ∧
            (∀ (j : Nat) (cs : List Value) (x : Tree × Nat), (css.take n)[j]? = some cs → (st.take n)[j]? = some x → RdU (fun b => base ≤ b ∧ (Value.slice (some ⟨z, 0, none⟩) 0 0).ownBlock ≠ some b) w0 cs x.2 x.1) ∧
            (∀ (j : Nat) u, (css.take n).flatten[j]? = some u → w0.cell? (Addr.add ⟨g, 0, none⟩ j) = some u) ∧ base ≤ w0.heap.size) := Lib.hid (fun w0 z hb hz he => ⟨OwnU.empty (by omega) he (by unfold maxLen; omega) rfl, fun j cs x h1 h2 => (by
              rw [List.getElem?_take] at h1 h2
              split at h1
              · rename_i hj
                rw [if_pos hj] at h2
                refine (HK2.out j cs x h1 h2).keep (by have := hb.size; omega) (fun b hb2 hlt => ⟨⟨hb2.1, fun e => ?_⟩, (hb.block b (by omega)).trans (HBZ.out b hb2.1 hlt)⟩)
                simp [Value.ownBlock] at e
                omega
              · cases h1), fun j u hu => (by
              rw [Addr.add_lit, Nat.zero_add]
              exact (cell_of_heap ((hb.block g (by omega)).trans (HBZ.out g hg1 hg2)) _).trans (HK3.out j u (uflat_take hu))), by have := hb.size; omega⟩)
        have HA2 : Hid (∀ (w0 : World) (v1 : Value), Below wz.heap.size wz w0 → (∀ b, v1.ownBlock = some b → wz.heap.size ≤ b) → ∀ (j : Nat) (cs : List Value) (x : Tree × Nat), [ucs op [] 0 0 (.slice B k cB) (deepK (st.drop n))][j]? = some cs → [((Tree.mk op [] 0 0 ((st.drop n).map (·.1)), deepK (st.drop n)) : Tree × Nat)][j]? = some x → RdU (fun b => base ≤ b ∧ v1.ownBlock ≠ some b) w0 cs x.2 x.1) := Lib.hid (fun w0 v1 hb hv j cs x h1 h2 => (by
              cases j with
              | succ j => simp at h1
              | zero =>
                simp only [List.getElem?_cons_zero, Option.some.injEq] at h1 h2
                subst h1 h2
                exact ukids HOZ.out (by have := HNK.out; simp; omega) (by have := HNK.out; intro h; have := congrArg List.length h; simp at this; omega) (by omega) hb hv))
        have HCR : Hid (∀ (w0 : World) (z : Nat), w0.heap[z]? = some (.cells #[.int .i64 op, vs [], .int .i64 0, .int .i64 0, .slice B k cB, .int .i64 (deepK (st.drop n) : Nat)] 52 (0, 0)) → ∀ (j : Nat) u, ([ucs op [] 0 0 (.slice B k cB) (deepK (st.drop n))] : List (List Value)).flatten[j]? = some u → w0.cell? (Addr.add ⟨z, 0, none⟩ j) = some u) := Lib.hid (fun w0 z hz j u hu => (by
              rw [Addr.add_lit, Nat.zero_add]
              exact cell_of_blk hz (by simpa [ucs] using hu)))
        have HTL : Hid (n = (st.take n).length) := Lib.hid (by have := HNK.out; simp; omega)
        have HCL : Hid ((css.take n).length = (st.take n).length) := Lib.hid (by have := HK1.out; simp [this])
        have HL1 : Hid (([] : Stack).length + (st.take n).length ≤ 1000000) := Lib.hid (by simp; omega)
        have HL2 : Hid ((st.take n).length + [((Tree.mk op [] 0 0 ((st.drop n).map (·.1)), deepK (st.drop n)) : Tree × Nat)].length ≤ 1000000) := Lib.hid (by simp; omega)
        clear HK2 HK3
        go_region_law (first
          | (refine step_app_u' rfl (.tmp 66) (.tmp 69) rfl (wz.alloc (.cells #[] 52 (0, 0))) rfl (fun b => base ≤ b) base (.slice (some ⟨wz.heap.size, 0, none⟩) 0 0) [] (st.take n) ⟨g, 0, none⟩ n vc (css.take n) rfl rfl HTL.out (HA1.out _ _ HE1.out (Nat.le_refl _) (heap_alloc_new wz _)).1 HCL.out (HA1.out _ _ HE1.out (Nat.le_refl _) (heap_alloc_new wz _)).2.1 (HA1.out _ _ HE1.out (Nat.le_refl _) (heap_alloc_new wz _)).2.2.1 HL1.out (HA1.out _ _ HE1.out (Nat.le_refl _) (heap_alloc_new wz _)).2.2.2 ?_; intro v1 w1 ho1 hg1 hk1; obtain ⟨B1, c1, rfl⟩ := ho1.form' HTL.out.symm; have HB1 := Lib.hid (below_grow HE1.out hg1 (ub (w := wz.heap.size) (z := wz.heap.size) (by omega)) rfl rfl rfl rfl); have HO1 := Lib.hid ho1; have HV1 := Lib.hid (uown (N := wz.heap.size) hk1 (by constructor <;> simp <;> omega)); obtain ⟨y0, y1, y2, y3, y4, y5, y6⟩ := utbox HB1.out HXZ.out; have y7 : w.heap.size < w1.heap.size + 1 := (by omega); clear hg1 hk1 ho1)
          | (refine step_app_u' rfl (.tmp 66) (.tmp 69) rfl ((wz.alloc (.cells #[] 52 (0, 0))).alloc (.cells #[.int .i64 op, vs [], .int .i64 0, .int .i64 0, .slice B k cB, .int .i64 (deepK (st.drop n) : Nat)] 52 (0, 0))) rfl (fun b => base ≤ b) base (.slice (some ⟨wz.heap.size, 0, none⟩) 0 0) [] (st.take n) ⟨g, 0, none⟩ n vc (css.take n) rfl rfl HTL.out (HA1.out _ _ HE2.out (Nat.le_refl _) (old_at (heap_alloc_new wz _))).1 HCL.out (HA1.out _ _ HE2.out (Nat.le_refl _) (old_at (heap_alloc_new wz _))).2.1 (HA1.out _ _ HE2.out (Nat.le_refl _) (old_at (heap_alloc_new wz _))).2.2.1 HL1.out (HA1.out _ _ HE2.out (Nat.le_refl _) (old_at (heap_alloc_new wz _))).2.2.2 ?_; intro v1 w1 ho1 hg1 hk1; obtain ⟨B1, c1, rfl⟩ := ho1.form' HTL.out.symm; have HB1 := Lib.hid (below_grow HE2.out hg1 (ub (w := wz.heap.size) (z := wz.heap.size) (by omega)) rfl rfl rfl rfl); have HO1 := Lib.hid ho1; have HV1 := Lib.hid (uown (N := wz.heap.size) hk1 (by constructor <;> simp <;> omega)); obtain ⟨y0, y1, y2, y3, y4, y5, y6⟩ := utbox HB1.out HXZ.out; have y7 : w.heap.size < w1.heap.size + 1 := (by omega); have HRW : Hid (w1.heap[wz.heap.size + 1]? = some (.cells #[.int .i64 op, vs [], .int .i64 0, .int .i64 0, .slice B k cB, .int .i64 (deepK (st.drop n) : Nat)] 52 (0, 0))) := Lib.hid ((hg1.block (wz.heap.size + 1) (by simp) (by simp [Value.ownBlock])).trans (alloc_at (by simp))); clear hg1 hk1 ho1)
          | (refine step_app_u' rfl (.tmp 66) (.tmp 69) rfl ((wz.alloc (.cells #[.int .i64 op, vs [], .int .i64 0, .int .i64 0, .slice B k cB, .int .i64 (deepK (st.drop n) : Nat)] 52 (0, 0))).alloc (.cells #[] 52 (0, 0))) rfl (fun b => base ≤ b) base (.slice (some ⟨wz.heap.size + 1, 0, none⟩) 0 0) [] (st.take n) ⟨g, 0, none⟩ n vc (css.take n) rfl rfl HTL.out (HA1.out _ (wz.heap.size + 1) HE4.out (Nat.le_succ _) (alloc_at (by simp))).1 HCL.out (HA1.out _ (wz.heap.size + 1) HE4.out (Nat.le_succ _) (alloc_at (by simp))).2.1 (HA1.out _ (wz.heap.size + 1) HE4.out (Nat.le_succ _) (alloc_at (by simp))).2.2.1 HL1.out (HA1.out _ (wz.heap.size + 1) HE4.out (Nat.le_succ _) (alloc_at (by simp))).2.2.2 ?_; intro v1 w1 ho1 hg1 hk1; obtain ⟨B1, c1, rfl⟩ := ho1.form' HTL.out.symm; have HB1 := Lib.hid (below_grow HE4.out hg1 (ub (w := wz.heap.size) (z := wz.heap.size + 1) (by omega)) rfl rfl rfl rfl); have HO1 := Lib.hid ho1; have HV1 := Lib.hid (uown (N := wz.heap.size) hk1 (by constructor <;> simp <;> omega)); obtain ⟨y0, y1, y2, y3, y4, y5, y6⟩ := utbox HB1.out HXZ.out; have y7 : w.heap.size < w1.heap.size + 1 := (by omega); have HRW : Hid (w1.heap[wz.heap.size]? = some (.cells #[.int .i64 op, vs [], .int .i64 0, .int .i64 0, .slice B k cB, .int .i64 (deepK (st.drop n) : Nat)] 52 (0, 0))) := Lib.hid ((hg1.block wz.heap.size (by simp <;> omega) (by simp [Value.ownBlock])).trans (old_at (heap_alloc_new wz _))); clear hg1 hk1 ho1)
          | (refine step_app_u' rfl (.tmp 70) (.tmp 72) rfl (w1.alloc (.cells #[.int .i64 op, vs [], .int .i64 0, .int .i64 0, .slice B k cB, .int .i64 (deepK (st.drop n) : Nat)] 52 (0, 0))) rfl (fun b => base ≤ b) base (.slice B1 n c1) (st.take n) [((Tree.mk op [] 0 0 ((st.drop n).map (·.1)), deepK (st.drop n)) : Tree × Nat)] ⟨w1.heap.size, 0, none⟩ 1 1 [ucs op [] 0 0 (.slice B k cB) (deepK (st.drop n))] rfl rfl rfl (HO1.out.base (by simp) (fun b _ hlt => Below.heap_alloc _ _ _ hlt)) rfl (HA2.out _ _ (HB1.out.alloc HB1.out.size _) HV1.out) (HCR.out _ _ (heap_alloc_new w1 _)) HL2.out (ubase (HB1.out.alloc HB1.out.size _) HBB.out) ?_; intro v2 w2 ho2 hg2 hk2; have HO2 := Lib.hid ho2; have HB2 := Lib.hid (below_grow (HB1.out.alloc HB1.out.size _) hg2 HV1.out rfl rfl rfl rfl); clear hg2 hk2 ho2)
          | (refine step_app_u' rfl (.tmp 70) (.tmp 72) rfl w1 rfl (fun b => base ≤ b) base (.slice B1 n c1) (st.take n) [((Tree.mk op [] 0 0 ((st.drop n).map (·.1)), deepK (st.drop n)) : Tree × Nat)] ⟨wz.heap.size + 1, 0, none⟩ 1 1 [ucs op [] 0 0 (.slice B k cB) (deepK (st.drop n))] rfl rfl rfl HO1.out rfl (HA2.out _ _ HB1.out HV1.out) (HCR.out _ _ HRW.out) HL2.out (ubase HB1.out HBB.out) ?_; intro v2 w2 ho2 hg2 hk2; have HO2 := Lib.hid ho2; have HB2 := Lib.hid (below_grow HB1.out hg2 HV1.out rfl rfl rfl rfl); clear hg2 hk2 ho2)
          | (refine step_app_u' rfl (.tmp 70) (.tmp 72) rfl w1 rfl (fun b => base ≤ b) base (.slice B1 n c1) (st.take n) [((Tree.mk op [] 0 0 ((st.drop n).map (·.1)), deepK (st.drop n)) : Tree × Nat)] ⟨wz.heap.size, 0, none⟩ 1 1 [ucs op [] 0 0 (.slice B k cB) (deepK (st.drop n))] rfl rfl rfl HO1.out rfl (HA2.out _ _ HB1.out HV1.out) (HCR.out _ _ HRW.out) HL2.out (ubase HB1.out HBB.out) ?_; intro v2 w2 ho2 hg2 hk2; have HO2 := Lib.hid ho2; have HB2 := Lib.hid (below_grow HB1.out hg2 HV1.out rfl rfl rfl rfl); clear hg2 hk2 ho2))
        all_goals
          go_wp2_with fail
          go_ret
          exact ⟨_, rfl, by rw [HM.out]; exact HO2.out, by rw [HM.out]; exact HRZ.out.below HB2.out, HEZ.out.trans (EffB.below HB2.out HBB.out)⟩
end Go.Proofs.YtcekampdldkjlaaGreatDoor
namespace Go.Proofs.YtcekampdldkjlaaGreatDoor
open Go.RowKit
theorem rcombine_any (op k : Nat) (at' : Int) (p base fin D : Nat) (ts : List Tok) (s : Rs) (v : Value) (st : Stack) (w : World) (hp : RR w p fin ts s) (ho : OwnU (fun b => base ≤ b) w base v st) (hpb : p < base) (hbw : base ≤ w.heap.size) (hl : st.length ≤ 300) (hD : D ≤ 900) (hd : ∀ x ∈ st, x.2 ≤ D) (hk : s.e = 0 → 1 ≤ k) :
    Calls Tryz.prog 71 #[.pointer (some ⟨p, 0, none⟩), v, .int .i64 op, .int .i64 k, .int .i64 at'] w fun r w' => ∃ v', r = .returned v' ∧ OwnU (fun b => base ≤ b) w' base v' (combineA st op k at' s).1 ∧ RR w' p fin ts (combineA st op k at' s).2 ∧ EffB p base w w' := by
  by_cases he : s.e = 0
  · by_cases hf : st.length < k
    · exact rcombine_few op k at' p base fin D ts s v st w hp ho hpb hbw he hf
    · exact rcombine_yes op k at' p base fin D ts s v st w hp ho hpb hbw he (hk he) (by omega) (by omega) (by omega) hd
  · exact rcombine_err op k at' p base fin D ts s v st w hp ho hpb hbw he
theorem one_two {ts : List Tok} {fin : Nat} {s : Rs} {a b : List UInt8} (h : (seesA ts s a || seesA ts s b) = true) : oneA ts fin s [a, b] = (if seesA ts s a then 0 else 1, s.next) := by
  unfold oneA
  cases ha : seesA ts s a with
  | true => simp [List.findIdx?_cons, ha]
  | false =>
    rw [ha] at h
    simp at h
    simp [List.findIdx?_cons, ha, h]
theorem flt_ne {s : Rs} {e : Nat} {a : Int} (h : e ≠ 0) : (s.flt e a).e ≠ 0 := by unfold Rs.flt; split <;> assumption
theorem failA_ne (ts : List Tok) (fin : Nat) (s : Rs) : (failA ts fin s).e ≠ 0 := by
  unfold failA
  split
  · exact flt_ne (by decide)
  · exact flt_ne (by decide)
theorem numberA_cases (ts : List Tok) (fin : Nat) (s : Rs) (most : Nat) (hn : ∀ t ∈ ts, t.n ≤ 9999999) (hm : 9999999 ≤ most) : ((numberA ts fin s most).2.e ≠ 0 ∧ (numberA ts fin s most).1 = 0 ∨ (numberA ts fin s most).2.e = 0 ∧ (numberA ts fin s most).1 ≤ 9999999) := by
  unfold numberA
  cases hb : isNumA ts s with
  | true =>
    obtain ⟨h1, h2, h3⟩ := num_lt hb
    have := hn _ (List.mem_of_getElem? h3)
    right
    rw [if_pos rfl, if_neg (by omega)]
    exact ⟨h2, this⟩
  | false =>
    left
    refine ⟨?_, rfl⟩
    simp only [Bool.false_eq_true, if_false]
    exact failA_ne ts fin s
set_option maxRecDepth 20000 in
set_option maxHeartbeats 2000000 in
theorem rgroup_any (o1 o2 bo : Nat) (p base fin D : Nat) (ts : List Tok) (s : Rs) (v : Value) (st : Stack) (w : World) (hp : RR w p fin ts s) (ho : OwnU (fun b => base ≤ b) w base v st) (hpb : p < base) (hbw : base ≤ w.heap.size) (hl : st.length ≤ 300) (hD : D ≤ 900) (hd : ∀ x ∈ st, x.2 ≤ D) (hn : ∀ t ∈ ts, t.n ≤ 9999999) (hs : (seesA ts s [97, 108, 108] || seesA ts s [97, 110, 121]) = true) (hb0 : w.cell? ⟨bo, 0, none⟩ = some (.int .i64 o1)) (hb1 : w.cell? ⟨bo, 1, none⟩ = some (.int .i64 o2)) (hbp : bo ≠ p) :
    Calls Tryz.prog 70 #[.pointer (some ⟨p, 0, none⟩), v, .slice (some ⟨bo, 0, none⟩) 2 2] w fun r w' => ∃ v', r = .returned v' ∧ OwnU (fun b => base ≤ b) w' base v' (groupA ts fin st o1 o2 s).1 ∧ RR w' p fin ts (groupA ts fin st o1 o2 s).2 ∧ EffB p base w w' := by
  have HP := Lib.hid hp
  have HO := Lib.hid ho
  have HD := Lib.hid hd
  obtain ⟨VA, vc, rfl⟩ := ho.form
  have hi : s.i + 1 ≤ ts.length := by
    cases ha : seesA ts s [97, 108, 108] with
    | true => exact sees_lt ha
    | false => rw [ha] at hs; exact sees_lt (by simpa using hs)
  obtain ⟨t, hx⟩ : ∃ t, ts[s.i]? = some t := get_of_lt (by omega)
  have HT : Hid (tokA ts s = t) := Lib.hid (by simp [tokA, hx])
  obtain ⟨A, c, hh, hr, hnn, h1⟩ := hp.is
  obtain ⟨bt, ot, rfl, hbl, t0, t1, t2, t3⟩ := tok_cells hr hx
  have c0 := cell_of_blk (o := 0) hh rfl
  have c1 := cell_of_blk (o := 1) hh rfl
  have hlt := lt_of_heap' hh
  have hi1 : (s.i : Int) < ts.length := by omega
  have hi0 : (0 : Int) ≤ s.i := by omega
  have HX := Lib.hid (one_two (fin := fin) hs)
  have HC := Lib.hid (numberA_cases ts fin (oneA ts fin s [[97, 108, 108], [97, 110, 121]]).2 100000000 hn (by omega))
  have HBO := Lib.hid hb0
  have HB1 := Lib.hid hb1
  clear hp ho hd hh hr hnn h1 hx hi hn hs hb0 hb1 t0 t1 t2
  go_enter Tryz.func70, Tryz.ntmps70
  go_wp2_with fail
  refine wp_region_grew (by kernel_rfl) (by as_aux_lemma => kernel_rfl) ?_
  repeat (go_big_quiet_step (fail))
  refine wpQuiet_nil ?_
  rintro _ ⟨y, rfl⟩
  have HEG := Lib.hid (Eff.of_below (p := p) (grew_below w y))
  have HPG := Lib.hid (HP.out.below (grew_below w y))
  have hzg := (grew_below w y).size
  generalize World.grew w y = wg at *
  clear c0 c1 hlt hbl t3
  have hrw : RdS (wg.alloc (.cells #[vs [97, 108, 108], vs [97, 110, 121]] 9 (0, 0))) (some ⟨wg.heap.size, 0, none⟩) [[97, 108, 108], [97, 110, 121]] := RdS.new (heap_alloc_new wg _)
  have HRW := Lib.hid hrw
  clear hrw
  go_wp2_with fail
  refine (rone_any [[97, 108, 108], [97, 110, 121]] (some ⟨wg.heap.size, 0, none⟩) 2 p fin ts s _ (HPG.out.alloc _) HRW.out (by simp) (by intro b o e; injection e with e; injection e with e _; have := HPG.out.lt; omega)).mono ?_
  rintro r w1 ⟨rfl, hr1, he1⟩
  have HR1 := Lib.hid hr1
  have HE1 := Lib.hid ((HEG.out.alloc _).trans he1)
  have hbb : bo < w.heap.size := World.block_lt_of_cell? _ _ HBO.out
  have g0 := HE1.out.cell HBO.out hbp
  have g1 := HE1.out.cell HB1.out hbp
  have gl : bo < w1.heap.size := Nat.lt_of_lt_of_le hbb HE1.out.size
  have hb2 : ((oneA ts fin s [[97, 108, 108], [97, 110, 121]]).1 : Int) < 2 := by rw [HX.out]; show ((if seesA ts s [97, 108, 108] then (0 : Nat) else 1 : Nat) : Int) < 2; split <;> decide
  have hb3 : (0 : Int) ≤ ((oneA ts fin s [[97, 108, 108], [97, 110, 121]]).1 : Int) := by omega
  have gk : w1.cell? ⟨bo, (oneA ts fin s [[97, 108, 108], [97, 110, 121]]).1, none⟩ = some (.int .i64 ((if (oneA ts fin s [[97, 108, 108], [97, 110, 121]]).1 = 0 then o1 else o2 : Nat) : Int)) := by
    rw [HX.out]
    by_cases ha : seesA ts s [97, 108, 108] = true
    · rw [if_pos ha]; exact g0
    · rw [if_neg ha]; exact g1
  have HQ : Hid (groupA ts fin st o1 o2 s = combineA st (if (oneA ts fin s [[97, 108, 108], [97, 110, 121]]).1 = 0 then o1 else o2) (numberA ts fin (oneA ts fin s [[97, 108, 108], [97, 110, 121]]).2 100000000).1 (tokA ts s).pos (groupB (tokA ts s).pos (numberA ts fin (oneA ts fin s [[97, 108, 108], [97, 110, 121]]).2 100000000))) := Lib.hid rfl
  clear hr1 he1 g0 g1 HX
  generalize oneA ts fin s [[97, 108, 108], [97, 110, 121]] = X at *
  generalize (if X.1 = 0 then o1 else o2) = OP at *
  go_wp2_with fail
  refine (rnumber_any 100000000 p fin ts X.2 _ HR1.out).mono ?_
  rintro r w2 ⟨rfl, hr2, he2⟩
  have HR2 := Lib.hid hr2
  have HE2 := Lib.hid (HE1.out.trans he2)
  clear hr2 he2 gk gl hb2 hb3
  generalize numberA ts fin X.2 100000000 = Y at *
  obtain ⟨y1, ⟨yi, ye, ya⟩⟩ := Y
  simp only at HC HR2 HQ ⊢
  obtain ⟨A', c', hh, -⟩ := HR2.out.is
  have c3 := cell_of_blk (o := 3) hh rfl
  have hlt2 := lt_of_heap' hh
  simp only at c3
  have HO2 := Lib.hid (HO.out.later HE2.out hpb)
  have HB2 : Hid (base ≤ w2.heap.size) := Lib.hid (Nat.le_trans hbw HE2.out.size)
  clear hh
  by_cases h0 : ye = 0
  · subst h0
    by_cases h2 : y1 < 2
    · have h2' : (y1 : Int) < 2 := by omega
      have HG : Hid (groupB (tokA ts s).pos (y1, ⟨yi, 0, ya⟩) = Rs.flt ⟨yi, 0, ya⟩ 5 (tokA ts s).pos) := Lib.hid (by unfold groupB; rw [if_pos ⟨rfl, h2⟩])
      rw [HT.out] at HG HQ
      clear h2 HC
      go_wp2_with fail
      refine (fault_any 5 t.pos p fin ts ⟨yi, 0, ya⟩ _ HR2.out).mono ?_
      rintro r w3 ⟨rfl, hr3, he3⟩
      have HR3 := Lib.hid hr3
      have HE3 := Lib.hid (HE2.out.trans he3)
      have HO3 := Lib.hid (HO2.out.later he3 hpb)
      have HB3 : Hid (base ≤ w3.heap.size) := Lib.hid (Nat.le_trans hbw HE3.out.size)
      clear hr3 he3 c3
      go_wp2_with fail
      refine (rcombine_any OP y1 t.pos p base fin D ts _ _ st _ HR3.out HO3.out hpb HB3.out hl hD HD.out (fun h => absurd h (flt_ne (by decide)))).mono ?_
      rintro r w4 ⟨v4, rfl, ho4, hr4, he4⟩
      have HO4 := Lib.hid ho4
      have HR4 := Lib.hid hr4
      have HE4 := Lib.hid ((EffB.of HE3.out hbw).trans he4)
      clear ho4 hr4 he4
      go_wp2_with fail
      go_ret
      exact ⟨_, rfl, by rw [HQ.out, HG.out]; exact HO4.out, by rw [HQ.out, HG.out]; exact HR4.out, HE4.out⟩
    · have h2' : ¬ (y1 : Int) < 2 := by omega
      have HG : Hid (groupB (tokA ts s).pos (y1, ⟨yi, 0, ya⟩) = ⟨yi, 0, ya⟩) := Lib.hid (by unfold groupB; rw [if_neg (fun h => h2 h.2)])
      have hy : 1 ≤ y1 := by omega
      rw [HT.out] at HG HQ
      clear h2 HC
      go_wp2_with fail
      refine (rcombine_any OP y1 t.pos p base fin D ts _ _ st _ HR2.out HO2.out hpb HB2.out hl hD HD.out (fun _ => hy)).mono ?_
      rintro r w4 ⟨v4, rfl, ho4, hr4, he4⟩
      have HO4 := Lib.hid ho4
      have HR4 := Lib.hid hr4
      have HE4 := Lib.hid ((EffB.of HE2.out hbw).trans he4)
      clear ho4 hr4 he4
      go_wp2_with fail
      go_ret
      exact ⟨_, rfl, by rw [HQ.out, HG.out]; exact HO4.out, by rw [HQ.out, HG.out]; exact HR4.out, HE4.out⟩
  · have h0' : ((ye : Int) == 0) = false := by simp; omega
    have HG : Hid (groupB (tokA ts s).pos (y1, ⟨yi, ye, ya⟩) = ⟨yi, ye, ya⟩) := Lib.hid (by unfold groupB; rw [if_neg (fun h => h0 h.1)])
    have H0 := Lib.hid h0
    rw [HT.out] at HG HQ
    clear h0 HC
    go_wp2_with fail
    refine (rcombine_any OP y1 t.pos p base fin D ts _ _ st _ HR2.out HO2.out hpb HB2.out hl hD HD.out (fun h => absurd h H0.out)).mono ?_
    rintro r w4 ⟨v4, rfl, ho4, hr4, he4⟩
    have HO4 := Lib.hid ho4
    have HR4 := Lib.hid hr4
    have HE4 := Lib.hid ((EffB.of HE2.out hbw).trans he4)
    clear ho4 hr4 he4
    go_wp2_with fail
    go_ret
    exact ⟨_, rfl, by rw [HQ.out, HG.out]; exact HO4.out, by rw [HQ.out, HG.out]; exact HR4.out, HE4.out⟩
end Go.Proofs.YtcekampdldkjlaaGreatDoor
