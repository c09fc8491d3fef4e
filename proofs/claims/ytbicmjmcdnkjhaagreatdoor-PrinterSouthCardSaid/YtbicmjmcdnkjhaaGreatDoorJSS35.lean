/- The stack of conditions in memory; push. choose: a word out of a map. push. -/
import Derived.Test.YtbicmjmcdnkjhaaGreatDoorJSS1
import Derived.Test.YtbicmjmcdnkjhaaGreatDoorJSS34
import Derived.Deep.RegionLaw
import Derived.Deep.RegionLawGrows
import Derived.Maps.Own
import Derived.Maps.OwnOps
import Derived.Maps.OwnSet
import Derived.Maps.Views
import Derived.RegionTactic
import Derived.BigRegion
set_option linter.unusedVariables false
set_option linter.unusedSimpArgs false
namespace Go.Proofs.YtbicmjmcdnkjhaaGreatDoor
namespace So
open Go.RowKit
def eE (fm : Bool) : TypeId := if fm then 223 else 225
def sE (fm : Bool) : TypeId := if fm then 181 else 189
def esz (fm : Bool) : Nat := tsz fm + 1
/- an entry's cells -/
def RdE (fm : Bool) (S : Nat → Prop) (w : World) (cs : List Value) (x : Tree × Nat) : Prop := ∃ tc, cs = tc ++ [.int .i64 (x.2 : Int)] ∧ RdTree fm S w tc x.1
theorem RdE.len {fm : Bool} {S : Nat → Prop} {w : World} {cs : List Value} {x : Tree × Nat} (h : RdE fm S w cs x) : cs.length = esz fm := by
 obtain ⟨tc, rfl, h⟩ := h
 rw [List.length_append, h.len]; rfl
theorem RdE.one {fm : Bool} {S : Nat → Prop} {w : World} {cs : List Value} {x : Tree × Nat} (h : RdE fm S w cs x) : ∀ u ∈ cs, u.oneCell' = true := by
 obtain ⟨tc, rfl, h⟩ := h
 intro u hu
 rcases List.mem_append.1 hu with hu | hu
 · exact h.one u hu
 · simp at hu; subst hu; rfl
theorem RdE.keep {fm : Bool} {S S' : Nat → Prop} {w w' : World} (hs : w.heap.size ≤ w'.heap.size) (hk : ∀ b, S b → b < w.heap.size → S' b ∧ w'.heap[b]? = w.heap[b]?) {cs : List Value} {x : Tree × Nat} (h : RdE fm S w cs x) : RdE fm S' w' cs x := by
 obtain ⟨tc, rfl, h⟩ := h
 exact ⟨tc, rfl, h.keep hs hk⟩
structure OwnE (fm : Bool) (w : World) (base : Nat) (v : Value) (st : Stack) : Prop where
 is : ∃ css : List (List Value), css.length = st.length ∧ (∀ (i : Nat) (cs : List Value) (x : Tree × Nat), css[i]? = some cs → st[i]? = some x → RdE fm (fun b => base ≤ b ∧ v.ownBlock ≠ some b) w cs x) ∧ w.ownsRow base (eE fm) (esz fm) v st.length css.flatten
theorem OwnE.nil {fm : Bool} {w : World} {base : Nat} : OwnE fm w base (.slice none 0 0) [] := ⟨[], rfl, fun i cs x h => by simp at h, by simp, .inl ⟨rfl, rfl⟩⟩
theorem OwnE.own {fm : Bool} {w : World} {base : Nat} {v : Value} {st : Stack} (h : OwnE fm w base v st) : ∀ b, v.ownBlock = some b → base ≤ b ∧ b < w.heap.size := by
 obtain ⟨css, h1, h2, h3⟩ := h.is
 rcases h3.2 with ⟨hv, h0⟩ | ⟨g, cap, cur, rfl, r2, r3, r4⟩
 · intro b hb
   rw [hv] at hb
   simp [Value.ownBlock] at hb
 · intro b hb
   simp [Value.ownBlock] at hb
   subst hb
   exact ⟨r2, lHp r3⟩
theorem OwnE.form {fm : Bool} {w : World} {base : Nat} {v : Value} {st : Stack} (h : OwnE fm w base v st) : ∃ A cap, v = .slice A st.length cap := by
 obtain ⟨css, h1, h2, h3⟩ := h.is
 rcases h3.2 with ⟨hv, h0⟩ | ⟨g, cap, cur, rfl, r2, r3, r4⟩
 · exact ⟨none, 0, by rw [hv, h0]⟩
 · exact ⟨_, cap, rfl⟩
theorem OwnE.keep {fm : Bool} {w w' : World} {base : Nat} {v : Value} {st : Stack} (h : OwnE fm w base v st) (hs : w.heap.size ≤ w'.heap.size) (hk : ∀ b, base ≤ b → b < w.heap.size → w'.heap[b]? = w.heap[b]?) : OwnE fm w' base v st := by
 obtain ⟨css, h1, h2, h3⟩ := h.is
 refine ⟨css, h1, fun i cs t a b => (h2 i cs t a b).keep hs (fun b hb hlt => ⟨hb, hk b hb.1 hlt⟩), h3.1, ?_⟩
 rcases h3.2 with h | ⟨g, cap, cur, rfl, r2, r3, r4⟩
 · exact .inl h
 · exact .inr ⟨g, cap, cur, rfl, r2, (hk g r2 (lHp r3)).trans r3, r4⟩
theorem OwnE.of_heap {fm : Bool} {w w' : World} {base : Nat} {v : Value} {st : Stack} (h : OwnE fm w base v st) (hh : w'.heap = w.heap) : OwnE fm w' base v st :=
 h.keep (by rw [hh]; exact lR _) (fun b _ _ => by rw [hh])
/- an entry by its number -/
theorem flat_at {α : Type} {n : Nat} : ∀ {css : List (List α)} {k j : Nat} {cs : List α} {u : α}, (∀ (i : Nat) (c : List α), css[i]? = some c → c.length = n) → css[k]? = some cs → cs[j]? = some u → css.flatten[k * n + j]? = some u
 | [], k, j, cs, u, _, h, _ => by simp at h
 | c :: r, 0, j, cs, u, hl, h, hu => by
   simp at h
   subst h
   rw [List.flatten_cons, Nat.zero_mul, Nat.zero_add, List.getElem?_append_left (List.getElem?_eq_some_iff.1 hu).1]; exact hu
 | c :: r, k + 1, j, cs, u, hl, h, hu => by
   have h0 := hl 0 c rfl
   have := flat_at (k := k) (j := j) (css := r) (fun i c hi => hl (i + 1) c (by simpa using hi)) (by simpa using h) hu
   rw [List.flatten_cons, List.getElem?_append_right (by rw [h0, Nat.add_mul, Nat.one_mul]; omega), h0]
   rw [show (k + 1) * n + j - n = k * n + j by rw [Nat.add_mul, Nat.one_mul]; omega]
   exact this
theorem OwnE.at {fm : Bool} {w : World} {base : Nat} {v : Value} {st : Stack} (h : OwnE fm w base v st) (hne : st ≠ []) : ∃ g cap, v = .slice (some ⟨g, 0, none⟩) st.length cap ∧ base ≤ g ∧ g < w.heap.size ∧ st.length ≤ cap ∧ cap ≤ maxLen ∧ ∀ (k : Nat) x, st[k]? = some x → ∃ cs, (∀ j u, cs[j]? = some u → w.cell? ⟨g, k * esz fm + j, none⟩ = some u) ∧ RdE fm (fun b => base ≤ b ∧ b ≠ g) w cs x := by
 obtain ⟨css, h1, h2, h3⟩ := h.is
 have hl : 0 < st.length := List.length_pos_iff.2 hne
 rcases h3.2 with ⟨-, h0⟩ | ⟨g, cap, cur, rfl, r2, r3, r4, r5, r6, r7⟩
 · omega
 · refine ⟨g, cap, rfl, r2, lHp r3, r4, r5, fun k x hx => ?_⟩
   have hk := (List.getElem?_eq_some_iff.1 hx).1
   obtain ⟨cs, hc⟩ : ∃ cs, css[k]? = some cs := ⟨css[k]'(by omega), List.getElem?_eq_getElem _⟩
   have hrd := h2 k cs x hc hx
   refine ⟨cs, fun j u hu => ?_, hrd.keep (lR _) (fun b hb _ => ⟨⟨hb.1, fun e => hb.2 (by rw [e]; rfl)⟩, rfl⟩)⟩
   have hf : css.flatten[k * esz fm + j]? = some u := flat_at (n := esz fm) (fun i c hi => by
    obtain ⟨x', hx'⟩ : ∃ x', st[i]? = some x' := ⟨st[i]'(by have := (List.getElem?_eq_some_iff.1 hi).1; omega), List.getElem?_eq_getElem _⟩
    exact (h2 i c x' hi hx').len) hc hu
   refine cOb r3 ?_
   rw [← r7, List.getElem?_take] at hf
   split at hf
   · rw [← Array.getElem?_toList]; exact hf
   · cases hf
/- one more -/
theorem OwnE.snoc {fm : Bool} {w w' : World} {base : Nat} {v v' : Value} {st : Stack} {cs : List Value} {x : Tree × Nat} {css : List (List Value)} (h1 : css.length = st.length)
 (h2 : ∀ (i : Nat) (cs : List Value) (x : Tree × Nat), css[i]? = some cs → st[i]? = some x → RdE fm (fun b => base ≤ b ∧ v.ownBlock ≠ some b) w cs x) (hr : RdE fm (fun b => base ≤ b ∧ v.ownBlock ≠ some b) w cs x)
 (hv : w'.ownsRow base (eE fm) (esz fm) v' (st.length + 1) (css.flatten ++ cs)) (hs : w.heap.size ≤ w'.heap.size) (hg : ∀ b, v.ownBlock ≠ some b → b < w.heap.size → w'.heap[b]? = w.heap[b]?) (hb : v'.ownBlock = v.ownBlock ∨ v'.ownBlock = some w.heap.size) : OwnE fm w' base v' (st ++ [x]) := by
 have key : ∀ {c : List Value} {x : Tree × Nat}, RdE fm (fun b => base ≤ b ∧ v.ownBlock ≠ some b) w c x → RdE fm (fun b => base ≤ b ∧ v'.ownBlock ≠ some b) w' c x := fun hx =>
  hx.keep hs (fun b hb' hlt => ⟨⟨hb'.1, by rcases hb with e | e <;> rw [e]; exact hb'.2; intro e2; injection e2 with e2; omega⟩, hg b hb'.2 hlt⟩)
 refine ⟨css ++ [cs], by simp [h1], fun i c x a b => ?_, ?_⟩
 · rcases Nat.lt_or_ge i css.length with hi | hi
   · rw [List.getElem?_append_left hi] at a
     rw [List.getElem?_append_left (by omega)] at b
     exact key (h2 i c x a b)
   · rw [List.getElem?_append_right hi] at a
     rw [List.getElem?_append_right (by omega), ← h1] at b
     cases hq : i - css.length with
     | zero =>
       rw [hq] at a b
       simp at a b
       subst a b
       exact key hr
     | succ n => rw [hq] at a; simp at a
 · simpa using hv
/- the stack's block -/
structure SK (fm : Bool) (w : World) (sb p base fj : Nat) (st : Stack) : Prop where
 is : ∃ v, w.heap[sb]? = some (.cells #[.pointer (some ⟨p, 0, none⟩), v, .func (.func fj) #[] #[]] (sE fm) (0, 0)) ∧ OwnE fm w base v st
 lt : sb < base
 ne : p < sb
 few : st.length ≤ 200
 dep : ∀ x ∈ st, x.2 ≤ 20
theorem SK.keep {fm : Bool} {w w' : World} {sb p base fj : Nat} {st : Stack} (h : SK fm w sb p base fj st) (hs : w.heap.size ≤ w'.heap.size) (hk : ∀ b, b = sb ∨ base ≤ b → b < w.heap.size → w'.heap[b]? = w.heap[b]?) : SK fm w' sb p base fj st := by
 obtain ⟨v, h1, h2⟩ := h.is
 exact ⟨⟨v, (hk sb (.inl rfl) (lHp h1)).trans h1, h2.keep hs (fun b hb hlt => hk b (.inr hb) hlt)⟩, h.lt, h.ne, h.few, h.dep⟩
theorem SK.eff {fm : Bool} {w w' : World} {sb p base fj : Nat} {st : Stack} (h : SK fm w sb p base fj st) (he : Eff p w w') : SK fm w' sb p base fj st :=
 h.keep he.size (fun b hb hlt => he.block b hlt (by have := h.ne; have := h.lt; omega))
theorem info_ef : (Tryz.prog.info? 223).map (fun i => (i.zero, i.size, i.bytes)) = some (some (.agg #[.int .i64 0, .string ⟨#[]⟩, .int .i64 0, .int .i64 0, .slice none 0 0, .int .i64 0]), 6, 72) := by kernel_rfl
theorem step_push_f {ops : Array Oper} {o : Oper} {a : Act} {W : World} {K : Act → World → Prop} {Q : Exit → Act → World → Prop} {E : Prop} (hg : o.guard = none) (s x : Operand) (hop : o.op = Op.call { callee := Callee.builtin Builtin.append, args := #[s, x], argTypes := #[179, 179] })
 (w0 : World) (hh : W.heap = w0.heap) (base : Nat) (v : Value) (st : Stack) (g0 : Nat) (cs : List Value) (y : Tree × Nat) (hs : a.eval s = v) (hx : a.eval x = .slice (some ⟨g0, 0, none⟩) 1 1) (hown : OwnE true w0 base v st)
 (hcs : ∀ (j : Nat) u, cs[j]? = some u → w0.cell? ⟨g0, 0 + j, none⟩ = some u) (hr : RdE true (fun b => base ≤ b ∧ v.ownBlock ≠ some b) w0 cs y) (hlen : st.length + 1 ≤ 1000000) (hb : base ≤ w0.heap.size)
 (hK : ∀ v' w', OwnE true w' base v' (st ++ [y]) → W.grownBy w' v.ownBlock → K (a.put o.dst v') w') : if Region.wanted o (yielded ops a.tmps) = true then Oper.wp Tryz.prog o a W K Q else E := by
 obtain ⟨i0, hi0, hz0, hz1, hz2⟩ := info_parts info_ef
 obtain ⟨css, h1, h2, h3⟩ := (hown.of_heap hh).is
 have hr' : RdE true (fun b => base ≤ b ∧ v.ownBlock ≠ some b) W cs y := hr.keep (by rw [hh]; exact lR _) (fun b hb _ => ⟨hb, by rw [hh]⟩)
 have e1 : eE true = 223 := rfl
 have e2 : esz true = 6 := rfl
 have hl := hr'.len
 rw [e1, e2] at h3
 have hw : Region.wanted o (yielded ops a.tmps) = true := by simp [Region.wanted, hg]
 rw [if_pos hw]
 obtain ⟨v', w', hrun, r1, r2, -, r4⟩ := run_append_own_at (P := Tryz.prog) W base 179 o.type 223 i0 (.agg #[.int .i64 0, .string ⟨#[]⟩, .int .i64 0, .int .i64 0, .slice none 0 0, .int .i64 0]) 6 72 Tryz.underlying179 hi0 hz0 hz1 hz2 rfl (by decide) v st.length css.flatten h3 ⟨g0, 0, none⟩ 1 1 cs (by rw [hl, e2]) (fun j u hu => by rw [Addr.add_lit]; exact (cOh (by rw [hh]) _).trans (hcs j u hu)) hr'.one (by unfold maxLen; omega) (by omega) (by rw [hh]; exact hb)
 unfold Oper.wp
 simp [execOp, hop, resolve, invoke, builtin, hs, hx, hrun, Result.andThen]
 exact hK v' w' (OwnE.snoc h1 h2 hr' (by rw [e1, e2]; exact r1) r2.size (fun b hb hlt => r2.block b hlt (fun e => hb e.symm)) r4) r2
theorem info_es : (Tryz.prog.info? 225).map (fun i => (i.zero, i.size, i.bytes)) = some (some (.agg #[.int .i64 0, .string ⟨#[]⟩, .int .i64 0, .slice none 0 0, .int .i64 0]), 5, 64) := by kernel_rfl
theorem step_push_s {ops : Array Oper} {o : Oper} {a : Act} {W : World} {K : Act → World → Prop} {Q : Exit → Act → World → Prop} {E : Prop} (hg : o.guard = none) (s x : Operand) (hop : o.op = Op.call { callee := Callee.builtin Builtin.append, args := #[s, x], argTypes := #[187, 187] })
 (w0 : World) (hh : W.heap = w0.heap) (base : Nat) (v : Value) (st : Stack) (g0 : Nat) (cs : List Value) (y : Tree × Nat) (hs : a.eval s = v) (hx : a.eval x = .slice (some ⟨g0, 0, none⟩) 1 1) (hown : OwnE false w0 base v st)
 (hcs : ∀ (j : Nat) u, cs[j]? = some u → w0.cell? ⟨g0, 0 + j, none⟩ = some u) (hr : RdE false (fun b => base ≤ b ∧ v.ownBlock ≠ some b) w0 cs y) (hlen : st.length + 1 ≤ 1000000) (hb : base ≤ w0.heap.size)
 (hK : ∀ v' w', OwnE false w' base v' (st ++ [y]) → W.grownBy w' v.ownBlock → K (a.put o.dst v') w') : if Region.wanted o (yielded ops a.tmps) = true then Oper.wp Tryz.prog o a W K Q else E := by
 obtain ⟨i0, hi0, hz0, hz1, hz2⟩ := info_parts info_es
 obtain ⟨css, h1, h2, h3⟩ := (hown.of_heap hh).is
 have hr' : RdE false (fun b => base ≤ b ∧ v.ownBlock ≠ some b) W cs y := hr.keep (by rw [hh]; exact lR _) (fun b hb _ => ⟨hb, by rw [hh]⟩)
 have e1 : eE false = 225 := rfl
 have e2 : esz false = 5 := rfl
 have hl := hr'.len
 rw [e1, e2] at h3
 have hw : Region.wanted o (yielded ops a.tmps) = true := by simp [Region.wanted, hg]
 rw [if_pos hw]
 obtain ⟨v', w', hrun, r1, r2, -, r4⟩ := run_append_own_at (P := Tryz.prog) W base 187 o.type 225 i0 (.agg #[.int .i64 0, .string ⟨#[]⟩, .int .i64 0, .slice none 0 0, .int .i64 0]) 5 64 Tryz.underlying187 hi0 hz0 hz1 hz2 rfl (by decide) v st.length css.flatten h3 ⟨g0, 0, none⟩ 1 1 cs (by rw [hl, e2]) (fun j u hu => by rw [Addr.add_lit]; exact (cOh (by rw [hh]) _).trans (hcs j u hu)) hr'.one (by unfold maxLen; omega) (by omega) (by rw [hh]; exact hb)
 unfold Oper.wp
 simp [execOp, hop, resolve, invoke, builtin, hs, hx, hrun, Result.andThen]
 exact hK v' w' (OwnE.snoc h1 h2 hr' (by rw [e1, e2]; exact r1) r2.size (fun b hb hlt => r2.block b hlt (fun e => hb e.symm)) r4) r2
end So
end Go.Proofs.YtbicmjmcdnkjhaaGreatDoor
set_option maxRecDepth 20000
set_option maxHeartbeats 800000
namespace Go.Proofs.YtbicmjmcdnkjhaaGreatDoor
namespace So
open Go.RowKit Go.Maps
abbrev MD := DataW Unit
def mapD : MD → Nat → List (List UInt8) → MD
 | D, _, [] => D
 | D, i, s :: r => mapD (D.put (.string s) (.lit (.int .i64 (i : Int)))) (i + 1) r
theorem str_key (s : List UInt8) : WideAt.IsKeyLit (.string s) := trivial
theorem mapD_none : ∀ (ws : List (List UInt8)) (D : MD) (i : Nat) (s : List UInt8), s ∉ ws → has (mapD D i ws) (.string s) = has D (.string s) ∧ ∀ z, (mapD D i ws).atKey (.string s) z = D.atKey (.string s) z
 | [], D, i, s, _ => ⟨rfl, fun _ => rfl⟩
 | x :: r, D, i, s, h => by
   simp at h
   have hne : (Lit.string s) ≠ .string x := by intro e; injection e with e; exact h.1 e
   obtain ⟨h1, h2⟩ := mapD_none r (D.put (.string x) (.lit (.int .i64 (i : Int)))) (i + 1) s h.2
   exact ⟨h1.trans (has_put_other hne _), fun z => (h2 z).trans (atKey_put_other hne _ z)⟩
theorem mapD_some : ∀ (ws : List (List UInt8)) (D : MD) (i k : Nat) (s : List UInt8), IsMap D → ws.Nodup → ws[k]? = some s → has (mapD D i ws) (.string s) = true ∧ ∀ z, (mapD D i ws).atKey (.string s) z = .lit (.int .i64 ((i + k : Nat) : Int))
 | [], D, i, k, s, _, _, h => by simp at h
 | x :: r, D, i, 0, s, hm, hn, h => by
   simp at h
   subst h
   obtain ⟨h1, h2⟩ := mapD_none r (D.put (.string x) (.lit (.int .i64 (i : Int)))) (i + 1) x (List.nodup_cons.1 hn).1
   exact ⟨h1.trans (has_put_same hm (str_key x) _), fun z => (h2 z).trans (by rw [atKey_put_same hm (str_key x)]; rfl)⟩
 | x :: r, D, i, k + 1, s, hm, hn, h => by
   obtain ⟨h1, h2⟩ := mapD_some r (D.put (.string x) (.lit (.int .i64 (i : Int)))) (i + 1) k s (hm.put _ _) (List.nodup_cons.1 hn).2 (by simpa using h)
   exact ⟨h1, fun z => (h2 z).trans (by rw [show i + 1 + k = i + (k + 1) by omega])⟩
abbrev MapW (w : World) (b n base : Nat) (ws : List (List UInt8)) : Prop := w.ownsMap Tryz.prog 9 (plainElem (H := Unit) Tryz.prog 3) b n (mapD (.map []) base ws)
theorem MapW.of_heap {w w' : World} {b n base : Nat} {ws : List (List UInt8)} (h : MapW w b n base ws) (hh : w'.heap[b]? = w.heap[b]?) : MapW w' b n base ws := by
 obtain ⟨es, clock, hb, h1, h2, h3⟩ := h
 exact ⟨es, clock, hh.trans hb, h1, h2, h3⟩
theorem MapW.lt {w : World} {b n base : Nat} {ws : List (List UInt8)} (h : MapW w b n base ws) : b < w.heap.size := World.ownsMap.lt h
theorem zero_int (w : World) : (zeroValue 3).run Tryz.prog w = .ok (.int .i64 0) w := by kernel_rfl
theorem str_law : Keyed Tryz.prog 9 := string_keyed Tryz.underlying9
theorem choose_cases (ws : List (List UInt8)) (hn : ws.Nodup) (s : List UInt8) (base : Nat) : (∃ i, ws.idxOf? s = some i ∧ has (mapD (.map []) base ws) (.string s) = true ∧ ∀ z, (mapD (.map []) base ws).atKey (.string s) z = .lit (.int .i64 ((base + i : Nat) : Int))) ∨ (ws.idxOf? s = none ∧ has (mapD (.map []) base ws) (.string s) = false) := by
 cases h : ws.idxOf? s with
 | some i =>
   left
   have hi : ws[i]? = some s := by
    rw [List.idxOf?, List.findIdx?_eq_some_iff_getElem] at h
    obtain ⟨h1, h2, -⟩ := h
    rw [List.getElem?_eq_getElem h1]
    simpa using h2
   obtain ⟨h1, h2⟩ := mapD_some ws (.map []) base i s ⟨[], rfl⟩ hn hi
   exact ⟨i, rfl, h1, h2⟩
 | none =>
   right
   have hs : s ∉ ws := by
    intro hm
    have := List.isSome_idxOf?.2 hm
    rw [h] at this
    cases this
   exact ⟨rfl, (mapD_none ws _ base s hs).1⟩
theorem at_int {D : MD} {k : Lit} {i c : Int} (h : ∀ z, D.atKey k z = .lit (.int .i64 i)) (hc : D.atKey k (.lit (.int .i64 0)) = .lit (.int .i64 c)) : c = i := by
 rw [h] at hc
 cases hc
 rfl
theorem choose_no (ws : List (List UInt8)) (base b n : Nat) (p fin : Nat) (ts l : List Tok) (w : World) (hp : PS w p fin ts l) (hm : MapW w b n base ws) (hno : (headT fin l).kind ≠ 1 ∨ has (mapD (.map []) base ws) (.string (headT fin l).text) = false) :
 Calls Tryz.prog 95 #[.pointer (some ⟨p, 0, none⟩), .map (some b)] w fun e w' => e = stopE (failC l) (posAt fin l) ∧ Below w.heap.size w w' := by
 have HP := Hi hp
 have HM := Hi hm
 have HNO := Hi hno
 have HF := Hi (headT_fit hp)
 clear hp hm hno
 go_enter Tryz.func95, Tryz.ntmps95
 go_wp2_with fail
 refine (peek_any p fin ts l _ HP.out).mono ?_
 rintro e w1 ⟨rfl, hb1⟩
 generalize headT fin l = T at HNO HF ⊢
 have HB2 := Hi (hb1.alloc hb1.size (.cells #[.int .i64 T.kind, vs T.text, .int .i64 T.n, .int .i64 T.pos] 122 (0, 0)))
 have HP2 := Hi (HP.out.below HB2.out)
 have HM2 := Hi (HM.out.of_heap (HB2.out.block _ HM.out.lt))
 have hx := heap_alloc_new w1 (.cells #[.int .i64 T.kind, vs T.text, .int .i64 T.n, .int .i64 T.pos] 122 (0, 0))
 clear hb1
 simp only [Tok.agg]
 go_upto_region 2 with fail
 generalize w1.alloc (.cells #[.int .i64 T.kind, vs T.text, .int .i64 T.n, .int .i64 T.pos] 122 (0, 0)) = w2 at HB2 HP2 HM2 hx ⊢
 have d0 := cOb (o := 0) hx rfl
 have d1 := cOb (o := 1) hx rfl
 have dl := lHp hx
 have hkey : keyOf Tryz.prog 9 (vs T.text) = some (.string T.text) := by
  have := Go.WideMaps.keyOf_string_mk Tryz.underlying9 (s := ⟨T.text.toArray⟩) (by have := HF.out.1; show T.text.toArray.size ≤ _; unfold maxLen; simp; omega)
  simpa using this
 have HKEY := Hi hkey
 clear hx hkey
 cases hh : has (mapD (.map []) base ws) (.string T.text) with
 | false =>
   have HH := Hi hh
   clear hh
   go_wp2_with (at_lookup; refine wpList_lookup_own_ok_int _ rfl _ _ 154 rfl 9 3 .i64 str_law Tryz.underlying154 Tryz.underlying3 (zero_int _) b n (mapD (.map []) base ws) rfl HM2.out _ _ rfl HKEY.out ?_; intro c hat hwc; clear hat hwc; rw [HH.out])
   refine (fail_any p fin ts l _ HP2.out).mono ?_
   rintro e w3 ⟨rfl, hb3⟩
   have HB3 := Hi (HB2.out.trans (hb3.mono HB2.out.size))
   clear hb3
   go_wp2_with fail
   exact ⟨rfl, rfl, HB3.out⟩
 | true =>
   have HH := Hi hh
   have hk : T.kind ≠ 1 := HNO.out.elim id (fun h => by rw [hh] at h; cases h)
   have i1 : ((T.kind : Int) == 1) = false := by simp; omega
   have i2 : ((T.kind : Int) != 1) = true := by simp; omega
   clear hh hk
   go_wp2_with (at_lookup; refine wpList_lookup_own_ok_int _ rfl _ _ 154 rfl 9 3 .i64 str_law Tryz.underlying154 Tryz.underlying3 (zero_int _) b n (mapD (.map []) base ws) rfl HM2.out _ _ rfl HKEY.out ?_; intro c hat hwc; clear hat hwc; rw [HH.out])
   refine (fail_any p fin ts l _ HP2.out).mono ?_
   rintro e w3 ⟨rfl, hb3⟩
   have HB3 := Hi (HB2.out.trans (hb3.mono HB2.out.size))
   clear hb3
   go_wp2_with fail
   exact ⟨rfl, rfl, HB3.out⟩
theorem choose_ok (ws : List (List UInt8)) (base b n i : Nat) (p fin : Nat) (ts : List Tok) (t : Tok) (l : List Tok) (w : World) (hp : PS w p fin ts (t :: l)) (hm : MapW w b n base ws) (hk : t.kind = 1) (hh : has (mapD (.map []) base ws) (.string t.text) = true)
 (hat : ∀ z, (mapD (.map []) base ws).atKey (.string t.text) z = .lit (.int .i64 ((base + i : Nat) : Int))) :
 Calls Tryz.prog 95 #[.pointer (some ⟨p, 0, none⟩), .map (some b)] w fun e w' => e = .returned (.int .i64 ((base + i : Nat) : Int)) ∧ PS w' p fin ts l ∧ Eff p w w' := by
 have HP := Hi hp
 have HM := Hi hm
 have HK := Hi hk
 have HH := Hi hh
 have HAT := Hi hat
 have HF := Hi (headT_fit (fin := fin) hp)
 clear hp hm hk hh hat
 go_enter Tryz.func95, Tryz.ntmps95
 go_wp2_with fail
 refine (peek_cons p fin ts t l _ HP.out).mono ?_
 rintro e w1 ⟨rfl, hb1⟩
 have HB2 := Hi (hb1.alloc hb1.size (.cells #[.int .i64 t.kind, vs t.text, .int .i64 t.n, .int .i64 t.pos] 122 (0, 0)))
 have HM2 := Hi (HM.out.of_heap (HB2.out.block _ HM.out.lt))
 have hx := heap_alloc_new w1 (.cells #[.int .i64 t.kind, vs t.text, .int .i64 t.n, .int .i64 t.pos] 122 (0, 0))
 clear hb1
 simp only [Tok.agg]
 go_upto_region 2 with fail
 generalize w1.alloc (.cells #[.int .i64 t.kind, vs t.text, .int .i64 t.n, .int .i64 t.pos] 122 (0, 0)) = w2 at HB2 HM2 hx ⊢
 have d0 := cOb (o := 0) hx rfl
 have d1 := cOb (o := 1) hx rfl
 have dl0 := lHp hx
 have hkey : keyOf Tryz.prog 9 (vs t.text) = some (.string t.text) := by
  have hq : t.text.length ≤ 30 := HF.out.1
  have := Go.WideMaps.keyOf_string_mk Tryz.underlying9 (s := ⟨t.text.toArray⟩) (by show t.text.toArray.size ≤ _; unfold maxLen; simp; omega)
  simpa using this
 have HKEY := Hi hkey
 obtain ⟨A, c, u, hh, hu, hr, hn, h1, h2⟩ := HP.out.is
 have HST := Hi (fun i hi => PS.step HP.out HB2.out hh hu hr hn h1 h2 (i := i) hi)
 have hk := (HB2.out.block _ (lHp hh)).trans hh
 have c1 : w2.cell? ⟨p, 1, none⟩ = some (.int .i64 u.length) := cOb (o := 1) hk rfl
 have f1 := fOb (o := 1) hk
 have dl := lHp hk
 have hlen : u.length < 5000 := by have := HP.out.few; rw [hu] at this; simp at this; omega
 have i1 : ((t.kind : Int) == 1) = true := by have := HK.out; simp; omega
 have i2 : ((t.kind : Int) != 1) = false := by have := HK.out; simp; omega
 clear hx hkey hh hu hr hn hk h1 h2
 go_wp2_with (at_lookup; refine wpList_lookup_own_ok_int _ rfl _ _ 154 rfl 9 3 .i64 str_law Tryz.underlying154 Tryz.underlying3 (zero_int _) b n (mapD (.map []) base ws) rfl HM2.out _ _ rfl HKEY.out ?_; intro c hat hwc; obtain rfl := at_int HAT.out hat; clear hat hwc; rw [HH.out])
 go_ret
 exact ⟨rfl, HST.out _ (by simp)⟩
theorem choose_any (ws : List (List UInt8)) (hn : ws.Nodup) (base b n : Nat) (p fin : Nat) (ts l : List Tok) (w : World) (hp : PS w p fin ts l) (hm : MapW w b n base ws) :
 Calls Tryz.prog 95 #[.pointer (some ⟨p, 0, none⟩), .map (some b)] w (OutR p fin ts w (chooseF ws l) (fun i v _ => v = .int .i64 ((base + i : Nat) : Int))) := by
 cases l with
 | nil => exact (choose_no ws base b n p fin ts [] w hp hm (.inl (by simp [headT]))).mono fun e w' ⟨h1, h2⟩ => ⟨h1, Eff.of_below h2⟩
 | cons t r =>
   by_cases hk : t.kind = 1
   · rcases choose_cases ws hn t.text base with ⟨i, h1, h2, h3⟩ | ⟨h1, h2⟩
     · rw [show chooseF ws (t :: r) = .ok (i, r) by unfold chooseF; simp only [hk, h1]; rfl]
       exact (choose_ok ws base b n i p fin ts t r w hp hm hk h2 h3).mono fun e w' ⟨h1, h2, h3⟩ => ⟨_, h1, rfl, h2, h3⟩
     · rw [show chooseF ws (t :: r) = .error (5, t :: r) by unfold chooseF; simp only [hk, h1]; rfl]
       exact (choose_no ws base b n p fin ts (t :: r) w hp hm (.inr h2)).mono fun e w' ⟨h1, h2⟩ => ⟨h1, Eff.of_below h2⟩
   · rw [show chooseF ws (t :: r) = .error (5, t :: r) by unfold chooseF; simp [hk, failR, failC]]
     exact (choose_no ws base b n p fin ts (t :: r) w hp hm (.inl hk)).mono fun e w' ⟨h1, h2⟩ => ⟨h1, Eff.of_below h2⟩
end So
end Go.Proofs.YtbicmjmcdnkjhaaGreatDoor
set_option maxRecDepth 20000
set_option maxHeartbeats 2000000
namespace Go.Proofs.YtbicmjmcdnkjhaaGreatDoor
namespace So
open Go.RowKit
/- what an item does: the parser's block, the stack's, and what lies from base on -/
structure EffS (p sb base : Nat) (w w' : World) : Prop where
 os : w'.os = w.os
 tape : w'.tape = w.tape
 output : w'.output = w.output
 size : w.heap.size ≤ w'.heap.size
 block : ∀ k, k < w.heap.size → k ≠ p → k ≠ sb → k < base → w'.heap[k]? = w.heap[k]?
theorem EffS.refl (p sb base : Nat) (w : World) : EffS p sb base w w := ⟨rfl, rfl, rfl, lR _, fun _ _ _ _ _ => rfl⟩
theorem _root_.Go.Proofs.YtbicmjmcdnkjhaaGreatDoor.Eff.toS {p : Nat} {w w' : World} (h : Eff p w w') (sb base : Nat) : EffS p sb base w w' := ⟨h.os, h.tape, h.output, h.size, fun k hk h1 _ _ => h.block k hk h1⟩
theorem EffS.trans {p sb base : Nat} {a b c : World} (h : EffS p sb base a b) (k : EffS p sb base b c) : EffS p sb base a c :=
 ⟨k.os.trans h.os, k.tape.trans h.tape, k.output.trans h.output, Nat.le_trans h.size k.size, fun i hi h1 h2 h3 => (k.block i (Nat.lt_of_lt_of_le hi h.size) h1 h2 h3).trans (h.block i hi h1 h2 h3)⟩
/- an append to the stack's row, and the store behind it -/
theorem SK.pushed {fm : Bool} {w W w' : World} {sb p base fj fin : Nat} {ts l : List Tok} {st st' : Stack} {v v' : Value} (hs : SK fm w sb p base fj st) (hp : PS w p fin ts l) (hbw : base ≤ w.heap.size) (hw : Below w.heap.size w W)
 (hown : ∀ b, v.ownBlock = some b → base ≤ b) (ho : OwnE fm w' base v' st') (hg : W.grownBy w' v.ownBlock) (hf : st'.length ≤ 200) (hd : ∀ x ∈ st', x.2 ≤ 20) :
 SK fm (w'.setCell ⟨sb, 1, none⟩ v') sb p base fj st' ∧ PS (w'.setCell ⟨sb, 1, none⟩ v') p fin ts l ∧ EffS p sb base w (w'.setCell ⟨sb, 1, none⟩ v') := by
 obtain ⟨v0, hb, ho0⟩ := hs.is
 have hsz := lHp hb
 have hlow : ∀ k, k < base → k < w.heap.size → w'.heap[k]? = w.heap[k]? := fun k h1 h2 => (hg.block k (Nat.lt_of_lt_of_le h2 hw.size) (fun e => by have := hown k e.symm; omega)).trans (hw.block k h2)
 have hb' : w'.heap[sb]? = _ := (hlow sb hs.lt hsz).trans hb
 have hset : ∀ k, k ≠ sb → (w'.setCell ⟨sb, 1, none⟩ v').heap[k]? = w'.heap[k]? := fun k hk => Below.heap_setCell _ _ _ _ (by simpa using hk)
 have hsize : (w'.setCell ⟨sb, 1, none⟩ v').heap.size = w'.heap.size := by simp
 refine ⟨⟨⟨v', ?_, ho.keep (by rw [hsize]; exact lR _) (fun b hb2 _ => hset b (by have := hs.lt; omega))⟩, hs.lt, hs.ne, hf, hd⟩, ?_, ?_⟩
 · rw [rSc (o := 1) hb']; simp
 · exact hp.keep (by rw [hsize]; exact Nat.le_trans hw.size hg.size) (fun b hb2 => by
     have hne : b ≠ sb ∨ b = sb := by omega
     rcases hne with hne | rfl
     · exact (hset b hne).trans (hlow b (by have := hs.ne; have := hs.lt; omega) (Nat.lt_of_le_of_lt hb2 hp.lt))
     · exact absurd hs.ne (by omega))
 · exact ⟨(hg.os.trans hw.os), (hg.tape.trans hw.tape), (hg.output.trans hw.output), by rw [hsize]; exact Nat.le_trans hw.size hg.size, fun k hk h1 h2 h3 => (hset k h2).trans (hlow k h3 hk)⟩
theorem dep_snoc {st : Stack} {t : Tree} {d : Nat} (h : ∀ x ∈ st, x.2 ≤ 20) (hd : d ≤ 20) : ∀ x ∈ st ++ [(t, d)], x.2 ≤ 20 := by
 intro x hx
 rcases List.mem_append.1 hx with hx | hx
 · exact h x hx
 · simp at hx; subst hx; exact hd
theorem store_cell {w W w' : World} {sb p fj base : Nat} {fm : Bool} {v : Value} (hb : w.heap[sb]? = some (.cells #[.pointer (some ⟨p, 0, none⟩), v, .func (.func fj) #[] #[]] (sE fm) (0, 0))) (hlt : sb < base) (hown : ∀ b, v.ownBlock = some b → base ≤ b) (hg : W.grownBy w' v.ownBlock) (hW : W.heap[sb]? = w.heap[sb]?) :
 w'.cell? ⟨sb, 1, none⟩ = some v ∧ w'.frozen? ⟨sb, 1, none⟩ = false ∧ sb < w'.heap.size := by
 have h1 : w'.heap[sb]? = _ := (hg.block sb (lHp (hW.trans hb)) (fun e => by have := hown sb e.symm; omega)).trans (hW.trans hb)
 exact ⟨cOb (o := 1) h1 rfl, fOb h1, lHp h1⟩
theorem push_f (op : Nat) (name : List UInt8) (cm m : Nat) (sb p base fj fin : Nat) (ts l : List Tok) (st : Stack) (w : World) (hp : PS w p fin ts l) (hs : SK true w sb p base fj st) (hf : st.length < 200) (hbw : base ≤ w.heap.size) :
 Calls Tryz.prog 135 #[.pointer (some ⟨sb, 0, none⟩), .agg #[.int .i64 op, vs name, .int .i64 cm, .int .i64 m, .slice none 0 0]] w fun e w' => e = .returned (.tuple #[]) ∧ SK true w' sb p base fj (st ++ [(.mk op name cm m [], 1)]) ∧ PS w' p fin ts l ∧ EffS p sb base w w' := by
 have HS := Hi hs
 have HP := Hi hp
 obtain ⟨v, hb, hown⟩ := hs.is
 obtain ⟨A, cap, rfl⟩ := hown.form
 have HOWN := Hi hown
 have HOB := Hi (fun b hb => (hown.own b hb).1)
 have HX : Hid (w.heap[sb]? = some (.cells #[.pointer (some ⟨p, 0, none⟩), .slice A st.length cap, .func (.func fj) #[] #[]] (sE true) (0, 0))) := Hi hb
 have hal : Below w.heap.size w (w.alloc (.cells #[.int .i64 op, vs name, .int .i64 cm, .int .i64 m, .slice none 0 0] 24 (0, 0))) := (Below.refl _ _).alloc (lR _) _
 have c1 := cOb (o := 1) hb rfl
 have dl := lHp hb
 have dl1 : sb < w.heap.size + 1 := Nat.lt_succ_of_lt dl
 have dl2 : sb < w.heap.size + 1 + 1 := Nat.lt_succ_of_lt dl1
 have hal2 : Below w.heap.size w ((w.alloc (.cells #[.int .i64 op, vs name, .int .i64 cm, .int .i64 m, .slice none 0 0] 24 (0, 0))).alloc (.cells #[.int .i64 op, vs name, .int .i64 cm, .int .i64 m, .slice none 0 0, .int .i64 1] 223 (0, 0))) := hal.alloc hal.size _
 have HO2 : Hid (OwnE true ((w.alloc (.cells #[.int .i64 op, vs name, .int .i64 cm, .int .i64 m, .slice none 0 0] 24 (0, 0))).alloc (.cells #[.int .i64 op, vs name, .int .i64 cm, .int .i64 m, .slice none 0 0, .int .i64 1] 223 (0, 0))) base (.slice A st.length cap) st) := Hi (hown.keep hal2.size (fun b _ hlt => hal2.block b hlt))
 have HC2 : Hid (∀ (j : Nat) u, ([.int .i64 op, vs name, .int .i64 cm, .int .i64 m, .slice none 0 0, .int .i64 1] : List Value)[j]? = some u → ((w.alloc (.cells #[.int .i64 op, vs name, .int .i64 cm, .int .i64 m, .slice none 0 0] 24 (0, 0))).alloc (.cells #[.int .i64 op, vs name, .int .i64 cm, .int .i64 m, .slice none 0 0, .int .i64 1] 223 (0, 0))).cell? ⟨w.heap.size + 1, 0 + j, none⟩ = some u) := Hi (fun j u hu => by
  rw [Nat.zero_add]
  exact cOb (alloc_at (by simp)) (by simpa using hu))
 have HR2 : Hid (RdE true (fun b => base ≤ b ∧ (Value.slice A st.length cap).ownBlock ≠ some b) ((w.alloc (.cells #[.int .i64 op, vs name, .int .i64 cm, .int .i64 m, .slice none 0 0] 24 (0, 0))).alloc (.cells #[.int .i64 op, vs name, .int .i64 cm, .int .i64 m, .slice none 0 0, .int .i64 1] 223 (0, 0))) [.int .i64 op, vs name, .int .i64 cm, .int .i64 m, .slice none 0 0, .int .i64 1] (.mk op name cm m [], 1)) := Hi ⟨tcs true op name cm m (.slice none 0 0), rfl, RdTree.leaf _ _ _ _ _ _⟩
 have HB2 : Hid (base ≤ ((w.alloc (.cells #[.int .i64 op, vs name, .int .i64 cm, .int .i64 m, .slice none 0 0] 24 (0, 0))).alloc (.cells #[.int .i64 op, vs name, .int .i64 cm, .int .i64 m, .slice none 0 0, .int .i64 1] 223 (0, 0))).heap.size) := Hi (Nat.le_trans hbw hal2.size)
 have HFEW : Hid (st.length + 1 ≤ 1000000) := Hi (by omega)
 have HWS := Hi (hal2.block sb dl)
 have HWB := Hi hal2.drew
 have HBW := Hi hbw
 have HHS := Hi (show sb < base from hs.lt)
 clear hp hs hb hown hal hal2
 go_enter Tryz.func135, Tryz.ntmps135
 go_wp2_with fail
 go_region_law (refine step_push_f rfl (.tmp 8) (.tmp 11) rfl ((w.alloc (.cells #[.int .i64 op, vs name, .int .i64 cm, .int .i64 m, .slice none 0 0] 24 (0, 0))).alloc (.cells #[.int .i64 op, vs name, .int .i64 cm, .int .i64 m, .slice none 0 0, .int .i64 1] 223 (0, 0))) rfl base (.slice A st.length cap) st (w.heap.size + 1) [.int .i64 op, vs name, .int .i64 cm, .int .i64 m, .slice none 0 0, .int .i64 1] (.mk op name cm m [], 1) rfl rfl HO2.out HC2.out HR2.out HFEW.out HB2.out ?_; intro v' w' ho hg; obtain ⟨A', cap', hv'⟩ := ho.form; subst hv'; have HHO := Hi ho; have HHG := Hi hg; have c1' := store_cell HX.out HHS.out HOB.out hg HWS.out; obtain ⟨c2', f2', l2'⟩ := c1'; clear ho hg)
 all_goals
  go_end0
  have hq := SK.pushed HS.out HP.out HBW.out HWB.out HOB.out HHO.out HHG.out (by simp; omega) (dep_snoc HS.out.dep (by decide))
  simp only [List.length_append, List.length_cons, List.length_nil, Nat.zero_add] at hq
  exact ⟨rfl, hq⟩
theorem push_s (op : Nat) (name : List UInt8) (cm m : Nat) (sb p base fj fin : Nat) (ts l : List Tok) (st : Stack) (w : World) (hp : PS w p fin ts l) (hs : SK false w sb p base fj st) (hf : st.length < 200) (hbw : base ≤ w.heap.size) :
 Calls Tryz.prog 145 #[.pointer (some ⟨sb, 0, none⟩), .agg #[.int .i64 op, vs name, .int .i64 m, .slice none 0 0]] w fun e w' => e = .returned (.tuple #[]) ∧ SK false w' sb p base fj (st ++ [(.mk op name cm m [], 1)]) ∧ PS w' p fin ts l ∧ EffS p sb base w w' := by
 have HS := Hi hs
 have HP := Hi hp
 obtain ⟨v, hb, hown⟩ := hs.is
 obtain ⟨A, cap, rfl⟩ := hown.form
 have HOWN := Hi hown
 have HOB := Hi (fun b hb => (hown.own b hb).1)
 have HX : Hid (w.heap[sb]? = some (.cells #[.pointer (some ⟨p, 0, none⟩), .slice A st.length cap, .func (.func fj) #[] #[]] (sE false) (0, 0))) := Hi hb
 have hal : Below w.heap.size w (w.alloc (.cells #[.int .i64 op, vs name, .int .i64 m, .slice none 0 0] 28 (0, 0))) := (Below.refl _ _).alloc (lR _) _
 have c1 := cOb (o := 1) hb rfl
 have dl := lHp hb
 have dl1 : sb < w.heap.size + 1 := Nat.lt_succ_of_lt dl
 have dl2 : sb < w.heap.size + 1 + 1 := Nat.lt_succ_of_lt dl1
 have hal2 : Below w.heap.size w ((w.alloc (.cells #[.int .i64 op, vs name, .int .i64 m, .slice none 0 0] 28 (0, 0))).alloc (.cells #[.int .i64 op, vs name, .int .i64 m, .slice none 0 0, .int .i64 1] 225 (0, 0))) := hal.alloc hal.size _
 have HO2 : Hid (OwnE false ((w.alloc (.cells #[.int .i64 op, vs name, .int .i64 m, .slice none 0 0] 28 (0, 0))).alloc (.cells #[.int .i64 op, vs name, .int .i64 m, .slice none 0 0, .int .i64 1] 225 (0, 0))) base (.slice A st.length cap) st) := Hi (hown.keep hal2.size (fun b _ hlt => hal2.block b hlt))
 have HC2 : Hid (∀ (j : Nat) u, ([.int .i64 op, vs name, .int .i64 m, .slice none 0 0, .int .i64 1] : List Value)[j]? = some u → ((w.alloc (.cells #[.int .i64 op, vs name, .int .i64 m, .slice none 0 0] 28 (0, 0))).alloc (.cells #[.int .i64 op, vs name, .int .i64 m, .slice none 0 0, .int .i64 1] 225 (0, 0))).cell? ⟨w.heap.size + 1, 0 + j, none⟩ = some u) := Hi (fun j u hu => by
  rw [Nat.zero_add]
  exact cOb (alloc_at (by simp)) (by simpa using hu))
 have HR2 : Hid (RdE false (fun b => base ≤ b ∧ (Value.slice A st.length cap).ownBlock ≠ some b) ((w.alloc (.cells #[.int .i64 op, vs name, .int .i64 m, .slice none 0 0] 28 (0, 0))).alloc (.cells #[.int .i64 op, vs name, .int .i64 m, .slice none 0 0, .int .i64 1] 225 (0, 0))) [.int .i64 op, vs name, .int .i64 m, .slice none 0 0, .int .i64 1] (.mk op name cm m [], 1)) := Hi ⟨tcs false op name cm m (.slice none 0 0), rfl, RdTree.leaf _ _ _ _ _ _⟩
 have HB2 : Hid (base ≤ ((w.alloc (.cells #[.int .i64 op, vs name, .int .i64 m, .slice none 0 0] 28 (0, 0))).alloc (.cells #[.int .i64 op, vs name, .int .i64 m, .slice none 0 0, .int .i64 1] 225 (0, 0))).heap.size) := Hi (Nat.le_trans hbw hal2.size)
 have HFEW : Hid (st.length + 1 ≤ 1000000) := Hi (by omega)
 have HWS := Hi (hal2.block sb dl)
 have HWB := Hi hal2.drew
 have HBW := Hi hbw
 have HHS := Hi (show sb < base from hs.lt)
 clear hp hs hb hown hal hal2
 go_enter Tryz.func145, Tryz.ntmps145
 go_wp2_with fail
 go_region_law (refine step_push_s rfl (.tmp 8) (.tmp 11) rfl ((w.alloc (.cells #[.int .i64 op, vs name, .int .i64 m, .slice none 0 0] 28 (0, 0))).alloc (.cells #[.int .i64 op, vs name, .int .i64 m, .slice none 0 0, .int .i64 1] 225 (0, 0))) rfl base (.slice A st.length cap) st (w.heap.size + 1) [.int .i64 op, vs name, .int .i64 m, .slice none 0 0, .int .i64 1] (.mk op name cm m [], 1) rfl rfl HO2.out HC2.out HR2.out HFEW.out HB2.out ?_; intro v' w' ho hg; obtain ⟨A', cap', hv'⟩ := ho.form; subst hv'; have HHO := Hi ho; have HHG := Hi hg; have c1' := store_cell HX.out HHS.out HOB.out hg HWS.out; obtain ⟨c2', f2', l2'⟩ := c1'; clear ho hg)
 all_goals
  go_end0
  have hq := SK.pushed HS.out HP.out HBW.out HWB.out HOB.out HHO.out HHG.out (by simp; omega) (dep_snoc HS.out.dep (by decide))
  simp only [List.length_append, List.length_cons, List.length_nil, Nat.zero_add] at hq
  exact ⟨rfl, hq⟩
end So
end Go.Proofs.YtbicmjmcdnkjhaaGreatDoor
