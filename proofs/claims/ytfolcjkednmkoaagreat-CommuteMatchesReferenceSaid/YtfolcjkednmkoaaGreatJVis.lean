/- What holds in memory while commute.Groups searches. commute.Groups' closure: a visit does what vis says. commute.Groups answers groupsF. Groups in memory, to be read. -/
import Derived.Test.YtfolcjkednmkoaaGreatJCm
import Derived.Test.YtfolcjkednmkoaaGreatJGr
import Derived.Maps.AppendAt
import Derived.OwnWalk
import Derived.Deep.QuietTactic
import Derived.BigQuiet
import Derived.Carry
import Derived.Test.YtfolcjkednmkoaaGreatSortC
import Derived.Deep.OwnRows
import Derived.Deep.DeepCutAuto
import Derived.Sort.OwnSortedInts
set_option linter.unusedVariables false
set_option linter.unusedSimpArgs false
namespace Go.Proofs.YtfolcjkednmkoaaGreat
open Go.RowKit
theorem lt_of_heap' {w : World} {b : Nat} {x : Obj} (h : w.heap[b]? = some x) : b < w.heap.size := (Array.getElem?_eq_some_iff.1 h).1
theorem cellH {w : World} {b o : Nat} {C : Array Value} {t : TypeId} {fr : Nat × Nat} {v : Value} (h : w.heap[b]? = some (.cells C t fr)) (hv : C[o]? = some v) : w.cell? ⟨b, o, none⟩ = some v := (cell_of_row _ _ _ _ _ _ h).trans hv
theorem frozenH {w : World} {b o : Nat} {C : Array Value} {t : TypeId} (h : w.heap[b]? = some (.cells C t (0, 0))) : w.frozen? ⟨b, o, none⟩ = false := by
 simp [World.frozen?, h]
/- a row of numbers that the call owns -/
def OwnG (w : World) (base : Nat) (v : Value) (g : List Nat) : Prop := w.ownsRow base 3 1 v g.length (g.map fun (n : Nat) => Value.int .i64 (n : Int))
theorem OwnG.keep {w w' : World} {base : Nat} {v : Value} {g : List Nat} (h : OwnG w base v g) (hk : ∀ b, v.ownBlock = some b → w'.heap[b]? = w.heap[b]?) : OwnG w' base v g := by
 refine ⟨h.1, ?_⟩
 rcases h.2 with h | ⟨b, cap, cur, rfl, r2, r3, r4⟩
 · exact .inl h
 · exact .inr ⟨b, cap, cur, rfl, r2, (hk b rfl).trans r3, r4⟩
theorem OwnG.own {w : World} {base : Nat} {v : Value} {g : List Nat} (h : OwnG w base v g) : ∀ b, v.ownBlock = some b → base ≤ b ∧ b < w.heap.size := by
 rcases h.2 with ⟨hv, h0⟩ | ⟨b, cap, cur, rfl, r2, r3, r4⟩
 · intro b hb
   rw [hv] at hb
   simp [Value.ownBlock] at hb
 · intro c hc
   simp [Value.ownBlock] at hc
   subst hc
   exact ⟨r2, lt_of_heap' r3⟩
theorem OwnG.nil (w : World) (base : Nat) : OwnG w base (.slice none 0 0) [] := ⟨rfl, .inl ⟨rfl, rfl⟩⟩
theorem info_parts {t : TypeId} {z : Value} {s b : Nat} (h : (Tryz.prog.info? t).map (fun i => (i.zero, i.size, i.bytes)) = some (some z, s, b)) : ∃ i, Tryz.prog.info? t = some i ∧ i.zero = some z ∧ i.size = s ∧ i.bytes = b := by
 cases hi : Tryz.prog.info? t with
 | none => rw [hi] at h; cases h
 | some i =>
   rw [hi] at h
   simp at h
   exact ⟨i, rfl, h.1, h.2.1, h.2.2⟩
theorem info_int : (Tryz.prog.info? 3).map (fun i => (i.zero, i.size, i.bytes)) = some (some (.int .i64 0), 1, 8) := by kernel_rfl
theorem info_bool : (Tryz.prog.info? 4).map (fun i => (i.zero, i.size, i.bytes)) = some (some (.bool false), 1, 1) := by kernel_rfl
theorem info_ints : (Tryz.prog.info? 42).map (fun i => (i.zero, i.size, i.bytes)) = some (some (.slice none 0 0), 1, 24) := by kernel_rfl
theorem wpList_append_int {ops : Array Oper} {rest : List Oper} {o : Oper} {a : Act} {w : World} {Q : Exit → Act → World → Prop} (hgd : o.guard = none) (s x : Operand) (hop : o.op = Op.call { callee := Callee.builtin Builtin.append, args := #[s, x], argTypes := #[42, 42] })
 (base : Nat) (v : Value) (l : List Nat) (g0 : Nat) (t : Nat) (hs : a.eval s = v) (hx : a.eval x = .slice (some ⟨g0, 0, none⟩) 1 1) (hown : OwnG w base v l) (hc : w.cell? ⟨g0, 0, none⟩ = some (.int .i64 (t : Int)))
 (hlen : l.length + 1 ≤ 1000000) (hb : base ≤ w.heap.size) (h : ∀ v' w', OwnG w' base v' (l ++ [t]) → w.grownBy w' v.ownBlock → (∀ b, v'.ownBlock = some b → v.ownBlock = some b ∨ w.heap.size ≤ b) → wpList Tryz.prog ops Q rest (a.put o.dst v') w') : wpList Tryz.prog ops Q (o :: rest) a w := by
 obtain ⟨i0, hi0, hz0, hz1, hz2⟩ := info_parts info_int
 refine wpList_append_own_at _ hgd s x _ hop base 3 i0 (.int .i64 0) 1 8 Tryz.underlying42 hi0 hz0 hz1 hz2 rfl (by decide) v l.length (l.map fun (n : Nat) => Value.int .i64 (n : Int)) hs hown ⟨g0, 0, none⟩ 1 1 [.int .i64 (t : Int)] hx rfl (fun j u hu => ?_) (by simp [Value.oneCell']) (by unfold maxLen; omega) (by omega) hb ?_
 · cases j with
   | succ j => simp at hu
   | zero => simp at hu; subst hu; rw [Addr.add_lit]; exact hc
 · intro v' w' ho hg h1 h2
   exact h v' w' (by unfold OwnG; simpa using ho) hg (fun b hb => h2.elim (fun e => .inl (by rw [← e]; exact hb)) (fun e => .inr (by rw [e] at hb; cases hb; exact Nat.le_refl _)))
/- where the closure's variables lie -/
structure Lay where
 lc : Nat
 sc : Nat
 gc : Nat
 vc : Nat
 sb : Nat
 base : Nat
/- what holds while it searches -/
structure VS (w : World) (L : Lay) (ps : List Patch) (B : Option Addr) (dc : Nat) (m : Int) (s : List Bool) (g : List Nat) (gv : Value) : Prop where
 lcell : ∃ ty, w.heap[L.lc]? = some (.cells #[.slice B ps.length dc] ty (0, 0))
 scell : ∃ ty, w.heap[L.sc]? = some (.cells #[.slice (some ⟨L.sb, 0, none⟩) ps.length ps.length] ty (0, 0))
 gcell : ∃ ty, w.heap[L.gc]? = some (.cells #[gv] ty (0, 0))
 vcell : ∃ ty, w.heap[L.vc]? = some (.cells #[.func (.func 31) #[] #[.pointer (some ⟨L.sc, 0, none⟩), .pointer (some ⟨L.gc, 0, none⟩), .pointer (some ⟨L.lc, 0, none⟩), .pointer (some ⟨L.vc, 0, none⟩)]] ty (0, 0))
 srow : ∃ ty, w.heap[L.sb]? = some (.cells (s.map Value.bool).toArray ty (0, 0))
 slen : s.length = ps.length
 own : OwnG w L.base gv g
 rd : RdP w B ps
 low : ∀ b f, B = some ⟨b, f, none⟩ → ps ≠ [] → b < L.base
 max : w.cell? ⟨0, 0, none⟩ = some (.int .i64 m)
 apart : L.sb ≠ L.lc ∧ L.sb ≠ L.sc ∧ L.sb ≠ L.gc ∧ L.sb ≠ L.vc ∧ L.gc ≠ L.lc ∧ L.gc ≠ L.sc ∧ L.gc ≠ L.vc
 old : 0 < L.sb ∧ 0 < L.gc ∧ L.lc < L.base ∧ L.sc < L.base ∧ L.gc < L.base ∧ L.vc < L.base ∧ L.sb < L.base
 far : ∀ b f, B = some ⟨b, f, none⟩ → ps ≠ [] → b ≠ L.sb ∧ b ≠ L.gc
 le : L.base ≤ w.heap.size
/- what a visit may write -/
def visW (L : Lay) (gv : Value) : List Nat := [L.sb, L.gc] ++ gv.ownBlock.toList
theorem RdP.keepB {w w' : World} {B : Option Addr} {ps : List Patch} (h : RdP w B ps) (hs : w.heap.size ≤ w'.heap.size) (hk : ∀ b f, B = some ⟨b, f, none⟩ → ps ≠ [] → w'.heap[b]? = w.heap[b]?) : RdP w' B ps := by
 by_cases h0 : ps = []
 · subst h0; exact Sl.nil
 · exact Sl.keep h hs (fun b f hB _ => hk b f hB h0)
theorem VS.move {w w' : World} {L : Lay} {ps : List Patch} {B : Option Addr} {dc : Nat} {m : Int} {s : List Bool} {g : List Nat} {gv : Value} (h : VS w L ps B dc m s g gv) (hs : w.heap.size ≤ w'.heap.size)
 (hk : ∀ b, b < w.heap.size → b < L.base → b ≠ L.sb → b ≠ L.gc → w'.heap[b]? = w.heap[b]?) {s' : List Bool} {g' : List Nat} {gv' : Value}
 (hsr : ∃ ty, w'.heap[L.sb]? = some (.cells (s'.map Value.bool).toArray ty (0, 0))) (hsl : s'.length = s.length) (hgc : ∃ ty, w'.heap[L.gc]? = some (.cells #[gv'] ty (0, 0))) (hown : OwnG w' L.base gv' g') : VS w' L ps B dc m s' g' gv' := by
 obtain ⟨a1, a2, a3, a4, a5, a6, a7⟩ := h.apart
 obtain ⟨o1, o2, o3, o4, o5, o6, o7⟩ := h.old
 have hle := h.le
 have keep : ∀ b, b < L.base → b ≠ L.sb → b ≠ L.gc → w'.heap[b]? = w.heap[b]? := fun b hb h1 h2 => hk b (by omega) hb h1 h2
 refine ⟨?_, ?_, hgc, ?_, hsr, hsl.trans h.slen, hown, ?_, h.low, ?_, h.apart, h.old, h.far, by omega⟩
 · obtain ⟨ty, e⟩ := h.lcell
   exact ⟨ty, (keep _ o3 (Ne.symm a1) (Ne.symm a5)).trans e⟩
 · obtain ⟨ty, e⟩ := h.scell
   exact ⟨ty, (keep _ o4 (Ne.symm a2) (Ne.symm a6)).trans e⟩
 · obtain ⟨ty, e⟩ := h.vcell
   exact ⟨ty, (keep _ o6 (Ne.symm a4) (Ne.symm a7)).trans e⟩
 · refine h.rd.keepB hs fun b f hB h0 => ?_
   obtain ⟨f1, f2⟩ := h.far b f hB h0
   exact keep b (h.low b f hB h0) f1 f2
 · rw [World.cell?_of_block (a := ⟨0, 0, none⟩) (keep 0 (by omega) (by omega) (by omega))]
   exact h.max
theorem VS.below {w w' : World} {L : Lay} {ps : List Patch} {B : Option Addr} {dc : Nat} {m : Int} {s : List Bool} {g : List Nat} {gv : Value} (h : VS w L ps B dc m s g gv) (hb : Below w.heap.size w w') : VS w' L ps B dc m s g gv := by
 have hle := h.le
 have ho := h.old
 refine h.move hb.size (fun b hb1 _ _ _ => hb.block b hb1) ?_ rfl ?_ ?_
 · obtain ⟨ty, e⟩ := h.srow
   exact ⟨ty, (hb.block _ (by omega)).trans e⟩
 · obtain ⟨ty, e⟩ := h.gcell
   exact ⟨ty, (hb.block _ (by omega)).trans e⟩
 · exact h.own.keep fun b hb1 => hb.block b (h.own.own b hb1).2
/- an item is marked -/
theorem VS.mark {w : World} {L : Lay} {ps : List Patch} {B : Option Addr} {dc : Nat} {m : Int} {s : List Bool} {g : List Nat} {gv : Value} (h : VS w L ps B dc m s g gv) (i : Nat) : VS (w.setCell ⟨L.sb, i, none⟩ (.bool true)) L ps B dc m (s.set i true) g gv := by
 have hle := h.le
 have ho := h.old
 have ha := h.apart
 refine h.move (by simp) (fun b hb1 _ h1 _ => Below.heap_setCell _ _ _ _ h1) ?_ (by simp) ?_ ?_
 · obtain ⟨ty, e⟩ := h.srow
   refine ⟨ty, (row_setCell e).trans ?_⟩
   congr 2
   apply Array.ext'
   simp [List.map_set]
 · obtain ⟨ty, e⟩ := h.gcell
   exact ⟨ty, (Below.heap_setCell _ _ _ _ (Ne.symm ha.2.2.1)).trans e⟩
 · refine h.own.keep fun b hb1 => Below.heap_setCell _ _ _ _ ?_
   have := (h.own.own b hb1).1
   show b ≠ L.sb
   omega
/- the group has grown -/
theorem VS.app {w w' : World} {L : Lay} {ps : List Patch} {B : Option Addr} {dc : Nat} {m : Int} {s : List Bool} {g : List Nat} {gv : Value} (h : VS w L ps B dc m s g gv) {g' : List Nat} {gv' : Value} (hg : w.grownBy w' gv.ownBlock) (ho' : OwnG w' L.base gv' g') :
 VS (w'.setCell ⟨L.gc, 0, none⟩ gv') L ps B dc m s g' gv' := by
 have hle := h.le
 have ho := h.old
 have ha := h.apart
 have hne : ∀ b, b < L.base → some b ≠ gv.ownBlock := fun b hb e => by
  have := (h.own.own b e.symm).1
  omega
 have keep : ∀ b, b < L.base → w'.heap[b]? = w.heap[b]? := fun b hb => hg.block b (by omega) (hne b hb)
 have hsz := hg.size
 refine ⟨?_, ?_, ?_, ?_, ?_, h.slen, ?_, ?_, h.low, ?_, h.apart, h.old, h.far, by simp; omega⟩
 · obtain ⟨ty, e⟩ := h.lcell
   exact ⟨ty, (Below.heap_setCell _ _ _ _ (Ne.symm ha.2.2.2.2.1)).trans ((keep _ ho.2.2.1).trans e)⟩
 · obtain ⟨ty, e⟩ := h.scell
   exact ⟨ty, (Below.heap_setCell _ _ _ _ (Ne.symm ha.2.2.2.2.2.1)).trans ((keep _ ho.2.2.2.1).trans e)⟩
 · obtain ⟨ty, e⟩ := h.gcell
   exact ⟨ty, (row_setCell ((keep _ ho.2.2.2.2.1).trans e)).trans (by simp)⟩
 · obtain ⟨ty, e⟩ := h.vcell
   exact ⟨ty, (Below.heap_setCell _ _ _ _ (Ne.symm ha.2.2.2.2.2.2)).trans ((keep _ ho.2.2.2.2.2.1).trans e)⟩
 · obtain ⟨ty, e⟩ := h.srow
   exact ⟨ty, (Below.heap_setCell _ _ _ _ ha.2.2.1).trans ((keep _ ho.2.2.2.2.2.2).trans e)⟩
 · refine ho'.keep fun b hb1 => Below.heap_setCell _ _ _ _ ?_
   have := (ho'.own b hb1).1
   show b ≠ L.gc
   omega
 · refine h.rd.keepB (by simp; omega) fun b f hB h0 => ?_
   exact (Below.heap_setCell _ _ _ _ (h.far b f hB h0).2).trans (keep b (h.low b f hB h0))
 · rw [World.cell?_of_block (a := ⟨0, 0, none⟩) ((Below.heap_setCell _ _ _ _ (show (0 : Nat) ≠ L.gc by omega)).trans (keep 0 (by omega)))]
   exact h.max
/- a search makes what is left less -/
theorem vis_mono (adj : Adj) (n : Nat) : ∀ (f : Nat) (i : Nat) (st : VSt), st.1.length = n → i < n → seenF st.1 i = false →
 (vis adj n f i st).1.length = n ∧ (∀ k, seenF st.1 k = true → seenF (vis adj n f i st).1 k = true) ∧ (vis adj n f i st).2.length + left n (vis adj n f i st).1 ≤ st.2.length + left n st.1 := by
 intro f
 induction f with
 | zero => intro i st h1 _ _; exact ⟨h1, fun _ h => h, Nat.le_refl _⟩
 | succ f ih =>
   intro i st hn hi hu
   have hlt := left_set hn hi hu
   have key : ∀ m, m ≤ n → ∀ st0 : VSt, st0.1.length = n → ((List.range m).foldl (fun st k => if !seenF st.1 k && adj i k then vis adj n f k st else st) st0).1.length = n ∧
    (∀ k, seenF st0.1 k = true → seenF ((List.range m).foldl (fun st k => if !seenF st.1 k && adj i k then vis adj n f k st else st) st0).1 k = true) ∧
    ((List.range m).foldl (fun st k => if !seenF st.1 k && adj i k then vis adj n f k st else st) st0).2.length + left n ((List.range m).foldl (fun st k => if !seenF st.1 k && adj i k then vis adj n f k st else st) st0).1 ≤ st0.2.length + left n st0.1 := by
    intro m
    induction m with
    | zero => intro _ st0 h0; exact ⟨h0, fun _ h => h, Nat.le_refl _⟩
    | succ m ihm =>
      intro hm st0 h0
      obtain ⟨k1, k2, k3⟩ := ihm (by omega) st0 h0
      rw [List.range_succ, List.foldl_append, List.foldl_cons, List.foldl_nil]
      generalize (List.range m).foldl (fun st k => if !seenF st.1 k && adj i k then vis adj n f k st else st) st0 = st1 at k1 k2 k3
      by_cases hc : (!seenF st1.1 m && adj i m) = true
      · rw [if_pos hc]
        simp only [Bool.and_eq_true, Bool.not_eq_true'] at hc
        obtain ⟨j1, j2, j3⟩ := ih m st1 k1 (by omega) hc.1
        exact ⟨j1, fun k hk => j2 k (k2 k hk), by omega⟩
      · rw [if_neg hc]
        exact ⟨k1, k2, k3⟩
   obtain ⟨k1, k2, k3⟩ := key n (Nat.le_refl n) (st.1.set i true, st.2 ++ [i]) (by simpa using hn)
   refine ⟨k1, fun k hk => k2 k (by rw [seen_set (by omega), hk]; rfl), ?_⟩
   simp only [List.length_append, List.length_cons, List.length_nil] at k3
   have e : vis adj n (f + 1) i st = (List.range n).foldl (fun st k => if !seenF st.1 k && adj i k then vis adj n f k st else st) (st.1.set i true, st.2 ++ [i]) := rfl
   rw [e]
   omega
/- the search as far as the number m -/
def visTo (adj : Adj) (n f i m : Nat) (st : VSt) : VSt := (List.range m).foldl (fun st k => if !seenF st.1 k && adj i k then vis adj n f k st else st) (st.1.set i true, st.2 ++ [i])
theorem visTo_zero (adj : Adj) (n f i : Nat) (st : VSt) : visTo adj n f i 0 st = (st.1.set i true, st.2 ++ [i]) := rfl
theorem visTo_succ (adj : Adj) (n f i m : Nat) (st : VSt) : visTo adj n f i (m + 1) st = if !seenF (visTo adj n f i m st).1 m && adj i m then vis adj n f m (visTo adj n f i m st) else visTo adj n f i m st := by
 unfold visTo
 rw [List.range_succ, List.foldl_append, List.foldl_cons, List.foldl_nil]
theorem visTo_all (adj : Adj) (n f i : Nat) (st : VSt) : visTo adj n f i n st = vis adj n (f + 1) i st := rfl
theorem visTo_mono {adj : Adj} {n f i : Nat} {st : VSt} (hn : st.1.length = n) (hi : i < n) (hu : seenF st.1 i = false) : ∀ m, m ≤ n → (visTo adj n f i m st).1.length = n ∧ left n (visTo adj n f i m st).1 < left n st.1 ∧
 (visTo adj n f i m st).2.length + left n (visTo adj n f i m st).1 ≤ st.2.length + left n st.1 := by
 intro m
 induction m with
 | zero =>
   intro _
   have := left_set hn hi hu
   rw [visTo_zero]
   refine ⟨by simpa using hn, this, ?_⟩
   simp only [List.length_append, List.length_cons, List.length_nil]
   omega
 | succ m ih =>
   intro hm
   obtain ⟨h1, h2, h3⟩ := ih (by omega)
   rw [visTo_succ]
   split
   · rename_i hc
     simp only [Bool.and_eq_true, Bool.not_eq_true'] at hc
     obtain ⟨k1, k2, k3⟩ := vis_mono adj n f m (visTo adj n f i m st) h1 (by omega) hc.1
     have := left_mono (n := n) k2
     exact ⟨k1, by omega, by omega⟩
   · exact ⟨h1, h2, h3⟩
end Go.Proofs.YtfolcjkednmkoaaGreat
set_option maxRecDepth 20000
set_option maxHeartbeats 4000000
namespace Go.Proofs.YtfolcjkednmkoaaGreat
open Go.RowKit
def VisP (L : Lay) (ps : List Patch) (B : Option Addr) (dc : Nat) (m : Int) (gv : Value) (st : VSt) (w : World) (e : Ending) (w' : World) : Prop :=
 e = .returned (.tuple #[]) ∧ ∃ gv', VS w' L ps B dc m st.1 st.2 gv' ∧ VEff (visW L gv) w w' ∧ (∀ b, gv'.ownBlock = some b → gv.ownBlock = some b ∨ w.heap.size ≤ b)
theorem seen_at {s : List Bool} {k : Nat} (h : k < s.length) : s[k]? = some (seenF s k) := by
 unfold seenF
 rw [List.getD_eq_getElem?_getD, List.getElem?_eq_getElem h]; rfl
theorem OwnG.shape {w : World} {base : Nat} {v : Value} {g : List Nat} (h : OwnG w base v g) : ∃ A c, v = .slice A g.length c := by
 rcases h.2 with ⟨hv, h0⟩ | ⟨b, cap, cur, rfl, _⟩
 · exact ⟨none, 0, by rw [hv, h0]⟩
 · exact ⟨_, _, rfl⟩
theorem VS.gc_kept {w w' : World} {L : Lay} {ps : List Patch} {B : Option Addr} {dc : Nat} {m : Int} {s : List Bool} {g : List Nat} {gv : Value} (h : VS w L ps B dc m s g gv) (hg : w.grownBy w' gv.ownBlock) : ∃ ty, w'.heap[L.gc]? = some (.cells #[gv] ty (0, 0)) := by
 obtain ⟨ty, e⟩ := h.gcell
 have hle := h.le
 have ho := h.old
 refine ⟨ty, (hg.block _ (by omega) fun e => ?_).trans e⟩
 have := (h.own.own _ e.symm).1
 omega
/- what the marking and the append have written -/
theorem visW_app {w w2 : World} {L : Lay} {gv : Value} {i : Nat} {o : Obj} (v : Value) (hg : ((w.setCell ⟨L.sb, i, none⟩ (.bool true)).alloc o).grownBy w2 gv.ownBlock) : VEff (visW L gv) w (w2.setCell ⟨L.gc, 0, none⟩ v) := by
 have h1 : VEff (visW L gv) w ((w.setCell ⟨L.sb, i, none⟩ (.bool true)).alloc o) :=
  ⟨rfl, rfl, rfl, by simp, fun k hk hn => by
    have h2 : k ≠ L.sb := fun e => hn (by simp [visW, e])
    exact (Below.heap_alloc _ o k (by simpa using hk)).trans (Below.heap_setCell _ _ _ _ h2)⟩
 refine ⟨hg.os.trans h1.os, hg.tape.trans h1.tape, hg.output.trans h1.output, ?_, ?_⟩
 · have := hg.size
   have := h1.size
   simp at this ⊢
   simp at *
   omega
 · intro k hk hn
   have h2 : k ≠ L.gc := fun e => hn (by simp [visW, e])
   have h3 : some k ≠ gv.ownBlock := fun e => hn (by simp [visW, ← e])
   have hs := h1.size
   exact (Below.heap_setCell _ _ _ _ h2).trans ((hg.block k (by omega) h3).trans (h1.block k hk hn))
theorem visit_any (ps : List Patch) (hrd : ∀ p ∈ ps, p.Ready) (hps : ps.length ≤ 1000) (B : Option Addr) (dc : Nat) (m : Int) (L : Lay) : ∀ (f i : Nat) (s : List Bool) (g : List Nat) (gv : Value) (w : World), VS w L ps B dc m s g gv → i < ps.length → seenF s i = false →
 left ps.length s ≤ f → g.length + left ps.length s ≤ 1000 →
 Calls Tryz.prog 31 #[.int .i64 (i : Int), .pointer (some ⟨L.sc, 0, none⟩), .pointer (some ⟨L.gc, 0, none⟩), .pointer (some ⟨L.lc, 0, none⟩), .pointer (some ⟨L.vc, 0, none⟩)] w (VisP L ps B dc m gv (vis (adjF ps) ps.length f i (s, g)) w) := by
 intro f
 induction f with
 | zero =>
   intro i s g gv w hv hi hu hf _
   have := left_set hv.slen hi hu
   omega
 | succ f ih =>
   intro i s g gv w hv hi hu hf hg
   have IH := Lib.hid ih; clear ih
   have HV := Lib.hid hv
   have HRD := Lib.hid hrd; clear hrd
   have hlt := left_set hv.slen hi hu
   have HU := Lib.hid hu
   have HF := Lib.hid hf
   have HG := Lib.hid hg
   have HLT := Lib.hid hlt
   obtain ⟨t1, e1⟩ := hv.scell
   have c1 := cellH (o := 0) e1 rfl
   have l1 := lt_of_heap' e1
   obtain ⟨t2, e2⟩ := hv.gcell
   have c2 := cellH (o := 0) e2 rfl
   have g2 := frozenH (o := 0) e2
   have l2 := lt_of_heap' e2
   obtain ⟨t3, e3⟩ := hv.lcell
   have c3 := cellH (o := 0) e3 rfl
   have l3 := lt_of_heap' e3
   obtain ⟨t5, e5⟩ := hv.srow
   have c5 : w.cell? ⟨L.sb, i, none⟩ = some (.bool false) := cellH (o := i) e5 (by simp [seen_at (s := s) (k := i) (by have := hv.slen; omega), hu])
   have g5 := frozenH (o := i) e5
   have l5 := lt_of_heap' e5
   have hi1 : (0 : Int) ≤ i := by omega
   have hi2 : (i : Int) < ps.length := by omega
   have ha := hv.apart
   obtain ⟨a1, a2, a3, a4, a5, a6, a7⟩ := ha
   have hsl := hv.slen
   clear hu hf hg hlt e1 e2 e3 e5 hv
   go_enter Tryz.func31, Tryz.ntmps31
   go_upto_region 1 with fail
   have HV2 := Lib.hid ((HV.out.mark i).below ((Below.refl _ _).alloc (Nat.le_refl _) (.cells #[.int .i64 (i : Int)] 3)))
   have HW := Lib.hid (fun (w2 : World) (v : Value) h => visW_app (w := w) (L := L) (gv := gv) (i := i) (o := .cells #[.int .i64 (i : Int)] 3) (w2 := w2) v h)
   have HSZ : Hid (L.base ≤ ((w.setCell ⟨L.sb, i, none⟩ (.bool true)).alloc (.cells #[.int .i64 (i : Int)] 3)).heap.size) := Lib.hid HV2.out.le
   have HLEN : Hid (g.length + 1 ≤ 1000000) := Lib.hid (by have := HG.out; omega)
   have HCELL : Hid (((w.setCell ⟨L.sb, i, none⟩ (.bool true)).alloc (.cells #[.int .i64 (i : Int)] 3)).cell? ⟨w.heap.size, 0, none⟩ = some (.int .i64 (i : Int))) := Lib.hid (by
    have := cellH (o := 0) (heap_alloc_new (w.setCell ⟨L.sb, i, none⟩ (.bool true)) (.cells #[.int .i64 (i : Int)] 3)) rfl
    simpa using this)
   obtain ⟨t9, e9⟩ := (HV.out.mark i).gcell
   have k2 := cellH (o := 0) e9 rfl
   clear c1 c5 g5 c3 c2 g2 a1 a2 a3 a4 a5 a6 a7 e9
   go_upto_region 2 with (at_builtin; refine wpList_append_int rfl (.tmp 10) (.tmp 12) rfl L.base gv g w.heap.size i rfl rfl HV2.out.own HCELL.out HLEN.out HSZ.out ?_; intro gv1 w2 ho hgb hob; obtain ⟨A1, k1, hsh⟩ := ho.shape; subst hsh; have HVA := Lib.hid (HV2.out.app hgb ho); have HWA := Lib.hid (HW.out w2 (.slice A1 (g ++ [i]).length k1) hgb); have HOB := Lib.hid hob; obtain ⟨t2, e2⟩ := VS.gc_kept HV2.out hgb; have c6 := cellH (o := 0) e2 rfl; have g6 := frozenH (o := 0) e2; have l6 := lt_of_heap' e2; clear e2 ho hgb hob)
   simp only [List.length_append, List.length_cons, List.length_nil, Nat.zero_add] at HVA HWA
   clear c6 g6 l6 k2 HV2 HW HSZ HCELL
   generalize w2.setCell ⟨L.gc, 0, none⟩ (.slice A1 (g.length + 1) k1) = w3 at HVA HWA ⊢
   obtain ⟨t3, e3⟩ := HVA.out.lcell
   have c3 := cellH (o := 0) e3 rfl
   clear e3 l1 l2 l3 l5
   have HOB1 : Hid (∀ b, (Value.slice A1 (g.length + 1) k1).ownBlock = some b → gv.ownBlock = some b ∨ w.heap.size ≤ b) := Lib.hid (fun b hb => (HOB.out b (by simpa using hb)).imp id (fun h => by simp at h; omega))
   clear HOB
   go_wp2_with fail
   go_loopw [16] (fun v16 wr => ∃ k : Nat, k ≤ ps.length ∧ v16 = .int .i64 k ∧ ∃ gv', VS wr L ps B dc m (visTo (adjF ps) ps.length f i k (s, g)).1 (visTo (adjF ps) ps.length f i k (s, g)).2 gv' ∧ VEff (visW L gv) w wr ∧ (∀ b, gv'.ownBlock = some b → gv.ownBlock = some b ∨ w.heap.size ≤ b)) (fun v16 _ => ps.length - (intOf v16).toNat)
   case atStart => exact ⟨0, Nat.zero_le _, rfl, _, HVA.out, HWA.out, HOB1.out⟩
   case round =>
    obtain ⟨k, hk, rfl, gv2, hv2, he2, ho2⟩ := hrel
    have HV2 := Lib.hid hv2
    have HE2 := Lib.hid he2
    have HO2 := Lib.hid ho2
    clear c3 HVA HWA HOB1 he2 ho2
    obtain ⟨m1, m2, m3⟩ := visTo_mono (adj := adjF ps) (f := f) (st := (s, g)) hsl hi HU.out k hk
    have HM := Lib.hid (And.intro m1 (And.intro m2 m3)); clear m1 m2 m3
    by_cases hlt : k < ps.length
    · generalize hst : visTo (adjF ps) ps.length f i k (s, g) = st at HV2 HM hv2
      have HST := Lib.hid hst; clear hst
      obtain ⟨t1, e1⟩ := hv2.scell
      have c1 := cellH (o := 0) e1 rfl
      have l1 := lt_of_heap' e1
      obtain ⟨t3, e3⟩ := hv2.lcell
      have c3 := cellH (o := 0) e3 rfl
      have l3 := lt_of_heap' e3
      obtain ⟨t4, e4⟩ := hv2.vcell
      have c4 := cellH (o := 0) e4 rfl
      have l4 := lt_of_heap' e4
      obtain ⟨t5, e5⟩ := hv2.srow
      have c5 : wr.cell? ⟨L.sb, k, none⟩ = some (.bool (seenF st.1 k)) := cellH (o := k) e5 (by simp [seen_at (s := st.1) (k := k) (by rw [HM.out.1]; exact hlt)])
      have l5 := lt_of_heap' e5
      have hk0 : (0 : Int) ≤ k := by omega
      have hk1 : (k : Int) < ps.length := by omega
      clear e1 e3 e4 e5
      cases hse : seenF st.1 k with
      | true =>
        clear hv2
        go_upto_region 5 with fail
        refine wp_region_grew (by kernel_rfl) (by as_aux_lemma => kernel_rfl) ?_
        repeat (go_big_quiet_step (fail))
        refine wpQuiet_nil ?_
        rintro _ ⟨W, rfl⟩
        have HVG := Lib.hid (HV2.out.below (grew_below wr W))
        have HEG := Lib.hid (grew_below wr W)
        clear c1 c3 c4 c5
        go_wp2_with fail
        refine ⟨⟨k + 1, by omega, by go_num, gv2, ?_, HE2.out.trans (VEff.of_below (F := []) HEG.out) (by simp), HO2.out⟩, by simp [intOf]; omega⟩
        rw [visTo_succ, HST.out, hse]
        exact HVG.out
      | false =>
        obtain ⟨pi, hpi⟩ := get_of_lt hi
        obtain ⟨pk, hpk⟩ := get_of_lt hlt
        obtain ⟨b2, o2, C, t, fr, rfl, hbs, hblk, hC, hex⟩ := hv2.rd.row hpi
        obtain ⟨b3, o3, C3, t3, fr3, hB3, -, hblk3, hC3, hex3⟩ := hv2.rd.row hpk
        cases hB3
        rw [hblk] at hblk3
        cases hblk3
        have hmax := hv2.max
        have HCM := Lib.hid (fun x => comm_any pi pk (HRD.out pi (List.mem_of_getElem? hpi)) (HRD.out pk (List.mem_of_getElem? hpk)) (World.grew wr x) m (step_cell (grew_below wr x) hmax))
        have HADJ : Hid (adjF ps i k = !commF pi pk) := Lib.hid (by unfold adjF; rw [hpi, hpk])
        clear hv2 hmax hpi hpk
        cases hcm : commF pi pk with
        | true =>
          rw [hcm] at HCM HADJ
          clear hcm
          go_upto_region 5 with fail
          refine wp_region_grew (by kernel_rfl) (by as_aux_lemma => kernel_rfl) ?_
          repeat (go_big_quiet_step ((exact Calls_grew (HCM.out _))))
          refine wpQuiet_nil ?_
          rintro _ ⟨W, rfl⟩
          have HVG := Lib.hid (HV2.out.below (grew_below wr W))
          have HEG := Lib.hid (grew_below wr W)
          clear c1 c3 c4 c5
          go_wp2_with fail
          refine ⟨⟨k + 1, by omega, by go_num, gv2, ?_, HE2.out.trans (VEff.of_below (F := []) HEG.out) (by simp), HO2.out⟩, by simp [intOf]; omega⟩
          rw [visTo_succ, HST.out, HADJ.out]
          simpa using HVG.out
        | false =>
          rw [hcm] at HCM HADJ
          clear hcm
          go_upto_region 5 with fail
          refine wp_region_grew (by kernel_rfl) (by as_aux_lemma => kernel_rfl) ?_
          repeat (go_big_quiet_step ((exact Calls_grew (HCM.out _))))
          refine wpQuiet_nil ?_
          rintro _ ⟨W, rfl⟩
          have HVG := Lib.hid (HV2.out.below (grew_below wr W))
          have HEG := Lib.hid (grew_below wr W)
          have c7 : (World.grew wr W).cell? ⟨L.vc, 0, none⟩ = some (.func (.func 31) #[] #[.pointer (some ⟨L.sc, 0, none⟩), .pointer (some ⟨L.gc, 0, none⟩), .pointer (some ⟨L.lc, 0, none⟩), .pointer (some ⟨L.vc, 0, none⟩)]) := step_cell HEG.out c4
          have HSE := Lib.hid hse
          clear c1 c3 c4 c5 hse
          go_wp2_with fail
          refine (IH.out k st.1 st.2 gv2 _ HVG.out hlt HSE.out (by have := HM.out.2.1; have := HF.out; omega) (by have := HM.out.2.2; have := HG.out; omega)).mono ?_
          rintro e w4 ⟨rfl, gv3, hv3, he3, ho3⟩
          have HV3 := Lib.hid hv3
          have HE3 := Lib.hid he3
          have HO3 := Lib.hid ho3
          clear hv3 he3 ho3 c7
          go_wp2_with fail
          refine ⟨⟨k + 1, by omega, by go_num, gv3, ?_, ?_, ?_⟩, by simp [intOf]; omega⟩
          · rw [visTo_succ, HST.out, HSE.out, HADJ.out]
            exact HV3.out
          · refine HE2.out.trans ((VEff.of_below (F := visW L gv2) HEG.out).trans HE3.out (fun x hx => .inl hx)) (fun x hx => ?_)
            unfold visW at hx ⊢
            rcases List.mem_append.1 hx with h | h
            · exact .inl (List.mem_append_left _ h)
            · rw [Option.mem_toList] at h
              rcases HO2.out x h with h | h
              · exact .inl (List.mem_append_right _ (by rw [Option.mem_toList]; exact h))
              · exact .inr h
          · intro b hb
            rcases HO3.out b hb with h | h
            · exact HO2.out b h
            · right
              have := HEG.out.size
              have := HE2.out.size
              omega
    · have : k = ps.length := by omega
      subst this
      rw [visTo_all] at HV2
      clear hv2
      go_wp2_with fail
      go_end0
      exact ⟨rfl, gv2, HV2.out, HE2.out, HO2.out⟩
end Go.Proofs.YtfolcjkednmkoaaGreat
set_option maxRecDepth 20000
set_option maxHeartbeats 4000000
namespace Go.Proofs.YtfolcjkednmkoaaGreat
open Go.RowKit
/- a row of slices that the call owns -/
def OwnO (w : World) (base : Nat) (v : Value) (vals : List Value) : Prop := w.ownsRow base 42 1 v vals.length vals
theorem OwnO.keep {w w' : World} {base : Nat} {v : Value} {g : List Value} (h : OwnO w base v g) (hk : ∀ b, v.ownBlock = some b → w'.heap[b]? = w.heap[b]?) : OwnO w' base v g := by
 refine ⟨h.1, ?_⟩
 rcases h.2 with h | ⟨b, cap, cur, rfl, r2, r3, r4⟩
 · exact .inl h
 · exact .inr ⟨b, cap, cur, rfl, r2, (hk b rfl).trans r3, r4⟩
theorem OwnO.own {w : World} {base : Nat} {v : Value} {g : List Value} (h : OwnO w base v g) : ∀ b, v.ownBlock = some b → base ≤ b ∧ b < w.heap.size := by
 rcases h.2 with ⟨hv, h0⟩ | ⟨b, cap, cur, rfl, r2, r3, r4⟩
 · intro b hb
   rw [hv] at hb
   simp [Value.ownBlock] at hb
 · intro c hc
   simp [Value.ownBlock] at hc
   subst hc
   exact ⟨r2, lt_of_heap' r3⟩
theorem OwnO.nil (w : World) (base : Nat) : OwnO w base (.slice none 0 0) [] := ⟨rfl, .inl ⟨rfl, rfl⟩⟩
theorem wpList_append_row {ops : Array Oper} {rest : List Oper} {o : Oper} {a : Act} {w : World} {Q : Exit → Act → World → Prop} (hgd : o.guard = none) (s x : Operand) (hop : o.op = Op.call { callee := Callee.builtin Builtin.append, args := #[s, x], argTypes := #[36, 36] })
 (base : Nat) (v : Value) (l : List Value) (g0 : Nat) (t : Value) (ht : t.oneCell' = true) (hs : a.eval s = v) (hx : a.eval x = .slice (some ⟨g0, 0, none⟩) 1 1) (hown : OwnO w base v l) (hc : w.cell? ⟨g0, 0, none⟩ = some t)
 (hlen : l.length + 1 ≤ 1000000) (hb : base ≤ w.heap.size) (h : ∀ v' w', OwnO w' base v' (l ++ [t]) → w.grownBy w' v.ownBlock → (v'.ownBlock = v.ownBlock ∨ v'.ownBlock = some w.heap.size) → wpList Tryz.prog ops Q rest (a.put o.dst v') w') : wpList Tryz.prog ops Q (o :: rest) a w := by
 obtain ⟨i0, hi0, hz0, hz1, hz2⟩ := info_parts info_ints
 refine wpList_append_own_at _ hgd s x _ hop base 42 i0 (.slice none 0 0) 1 24 Tryz.underlying36 hi0 hz0 hz1 hz2 rfl (by decide) v l.length l hs hown ⟨g0, 0, none⟩ 1 1 [t] hx rfl (fun j u hu => ?_) (by simpa using ht) (by unfold maxLen; omega) (by omega) hb ?_
 · cases j with
   | succ j => simp at hu
   | zero => simp at hu; subst hu; rw [Addr.add_lit]; exact hc
 · intro v' w' ho hg h1 h2
   exact h v' w' (by unfold OwnO; simpa using ho) hg h2
/- the groups found so far -/
structure GsR (w : World) (base : Nat) (ov : Value) (vals : List Value) (gs : List (List Nat)) : Prop where
 own : OwnO w base ov vals
 len : vals.length = gs.length
 each : ∀ (k : Nat) v g, vals[k]? = some v → gs[k]? = some g → OwnG w base v g ∧ g ≠ [] ∧ ∀ b, v.ownBlock = some b → ov.ownBlock ≠ some b
theorem GsR.keep {w w' : World} {base : Nat} {ov : Value} {vals : List Value} {gs : List (List Nat)} (h : GsR w base ov vals gs) (hk : ∀ b, base ≤ b → b < w.heap.size → w'.heap[b]? = w.heap[b]?) : GsR w' base ov vals gs :=
 ⟨h.own.keep fun b hb => hk b (h.own.own b hb).1 (h.own.own b hb).2, h.len, fun k v g hv hg => by
   obtain ⟨h1, h2, h3⟩ := h.each k v g hv hg
   exact ⟨h1.keep fun b hb => hk b (h1.own b hb).1 (h1.own b hb).2, h2, h3⟩⟩
/- what Groups answers -/
def GrpP (ps : List Patch) (w : World) (e : Ending) (w' : World) : Prop :=
 ∃ ov vals, e = .returned ov ∧ GsR w' w.heap.size ov vals (groupsF (adjF ps) ps.length) ∧ Below w.heap.size w w'
/- sorted -/
theorem srt_sort (n : Nat) (g : List Nat) (hn : g.Nodup) (hl : ∀ x ∈ g, x < n) : (g.map fun (n : Nat) => (n : Int)).mergeSort (fun x y => decide (x ≤ y)) = (srt n g).map fun (n : Nat) => (n : Int) := by
 have hp : (srt n g).Perm g := by
  unfold srt
  rw [List.perm_ext_iff_of_nodup ((List.nodup_range).sublist List.filter_sublist) hn]
  intro a
  simp only [List.mem_filter, List.mem_range, List.contains_iff_mem]
  exact ⟨fun h => h.2, fun h => ⟨hl a h, h⟩⟩
 have h1 : ((g.map fun (n : Nat) => (n : Int)).mergeSort (fun x y => decide (x ≤ y))).Perm ((srt n g).map fun (n : Nat) => (n : Int)) := (List.mergeSort_perm _ _).trans (hp.symm.map _)
 have s1 : ((g.map fun (n : Nat) => (n : Int)).mergeSort (fun x y => decide (x ≤ y))).Pairwise (fun x y => (decide (x ≤ y)) = true) := List.pairwise_mergeSort (fun a b c h1 h2 => by simp at *; omega) (fun a b => by simp; omega) _
 have s2 : ((srt n g).map fun (n : Nat) => (n : Int)).Pairwise (fun x y => (decide (x ≤ y)) = true) := by
  rw [List.pairwise_map]
  unfold srt
  refine (List.pairwise_lt_range.sublist List.filter_sublist).imp ?_
  intro a b h
  simp; omega
 refine List.Perm.eq_of_pairwise ?_ s1 s2 h1
 intro a b _ _ h1 h2
 simp at h1 h2
 omega
def grpL (w : World) : Lay := ⟨w.heap.size, w.heap.size + 1 + 1, w.heap.size + 1 + 1 + 1, w.heap.size + 1 + 1 + 1 + 1, w.heap.size + 1, w.heap.size + 5⟩
theorem old_at {w : World} {b : Nat} {x o : Obj} (h : w.heap[b]? = some x) : (w.alloc o).heap[b]? = some x := (Below.heap_alloc w o b (lt_of_heap' h)).trans h
theorem new_at {w : World} {b : Nat} {o : Obj} (h : b = w.heap.size) : (w.alloc o).heap[b]? = some o := h ▸ heap_alloc_new w o
theorem grp_start {ps : List Patch} {B : Option Addr} {dc : Nat} {m : Int} {w : World} (hr : RdP w B ps) (hg : w.cell? ⟨0, 0, none⟩ = some (.int .i64 m)) : Below w.heap.size w (((((w.alloc (.cells #[.slice B ps.length dc] 25)).alloc (.cells (madeCells #[.bool false] ps.length) 4)).alloc (.cells #[.slice (some ⟨w.heap.size + 1, 0, none⟩) ps.length ps.length] 54)).alloc (.cells #[.slice none 0 0] 42)).alloc (.cells #[.func (.func 31) #[] #[.pointer (some ⟨w.heap.size + 1 + 1, 0, none⟩), .pointer (some ⟨w.heap.size + 1 + 1 + 1, 0, none⟩), .pointer (some ⟨w.heap.size, 0, none⟩), .pointer (some ⟨w.heap.size + 1 + 1 + 1 + 1, 0, none⟩)]] 55)) ∧
 VS (((((w.alloc (.cells #[.slice B ps.length dc] 25)).alloc (.cells (madeCells #[.bool false] ps.length) 4)).alloc (.cells #[.slice (some ⟨w.heap.size + 1, 0, none⟩) ps.length ps.length] 54)).alloc (.cells #[.slice none 0 0] 42)).alloc (.cells #[.func (.func 31) #[] #[.pointer (some ⟨w.heap.size + 1 + 1, 0, none⟩), .pointer (some ⟨w.heap.size + 1 + 1 + 1, 0, none⟩), .pointer (some ⟨w.heap.size, 0, none⟩), .pointer (some ⟨w.heap.size + 1 + 1 + 1 + 1, 0, none⟩)]] 55)) (grpL w) ps B dc m (List.replicate ps.length false) [] (.slice none 0 0) := by
 have hz := World.block_lt_of_cell? _ _ hg
 have hb : Below w.heap.size w (((((w.alloc (.cells #[.slice B ps.length dc] 25)).alloc (.cells (madeCells #[.bool false] ps.length) 4)).alloc (.cells #[.slice (some ⟨w.heap.size + 1, 0, none⟩) ps.length ps.length] 54)).alloc (.cells #[.slice none 0 0] 42)).alloc (.cells #[.func (.func 31) #[] #[.pointer (some ⟨w.heap.size + 1 + 1, 0, none⟩), .pointer (some ⟨w.heap.size + 1 + 1 + 1, 0, none⟩), .pointer (some ⟨w.heap.size, 0, none⟩), .pointer (some ⟨w.heap.size + 1 + 1 + 1 + 1, 0, none⟩)]] 55)) := (((((Below.refl _ _).alloc (Nat.le_refl _) _).alloc (by simp) _).alloc (by simp; omega) _).alloc (by simp; omega) _).alloc (by simp; omega) _
 have hmc : madeCells #[Value.bool false] ps.length = ((List.replicate ps.length false).map Value.bool).toArray := by
  apply Array.ext'
  rw [toList_madeCells_one]
  simp
 have hrow := old_at (o := .cells #[.func (.func 31) #[] #[.pointer (some ⟨w.heap.size + 1 + 1, 0, none⟩), .pointer (some ⟨w.heap.size + 1 + 1 + 1, 0, none⟩), .pointer (some ⟨w.heap.size, 0, none⟩), .pointer (some ⟨w.heap.size + 1 + 1 + 1 + 1, 0, none⟩)]] 55) (old_at (o := .cells #[.slice none 0 0] 42) (old_at (o := .cells #[.slice (some ⟨w.heap.size + 1, 0, none⟩) ps.length ps.length] 54) (new_at (w := w.alloc (.cells #[.slice B ps.length dc] 25)) (b := w.heap.size + 1) (o := .cells (madeCells #[.bool false] ps.length) 4) (by simp))))
 rw [hmc] at hrow hb ⊢
 refine ⟨hb, ⟨_, old_at (old_at (old_at (old_at (new_at rfl))))⟩, ⟨_, old_at (old_at (new_at (by simp [grpL])))⟩, ⟨_, old_at (new_at (by simp [grpL]))⟩, ⟨_, new_at (by simp [grpL])⟩, ⟨4, hrow⟩, by simp, OwnG.nil _ _, Sl.below hr hb, ?_, step_cell hb hg, ?_, ?_, ?_, ?_⟩
 · intro b f hB h0
   obtain ⟨b', o, hA, hlt, _⟩ := hr h0
   rw [hB] at hA
   cases hA
   show b < w.heap.size + 5
   omega
 · refine ⟨?_, ?_, ?_, ?_, ?_, ?_, ?_⟩ <;> (simp only [grpL]; omega)
 · refine ⟨?_, ?_, ?_, ?_, ?_, ?_, ?_⟩ <;> (simp only [grpL]; omega)
 · intro b f hB h0
   obtain ⟨b', o, hA, hlt, _⟩ := hr h0
   rw [hB] at hA
   cases hA
   simp only [grpL]
   omega
 · simp only [grpL]
   simp
theorem groupsS_succ (adj : Adj) (n m : Nat) : groupsS adj n (m + 1) = if seenF (groupsS adj n m).1 m then groupsS adj n m else ((vis adj n n m ((groupsS adj n m).1, [])).1, (groupsS adj n m).2 ++ [srt n (vis adj n n m ((groupsS adj n m).1, [])).2]) := by
 unfold groupsS
 rw [List.range_succ, List.foldl_append, List.foldl_cons, List.foldl_nil]
theorem OwnG.mono {w : World} {b b' : Nat} {v : Value} {g : List Nat} (h : OwnG w b v g) (hb : b' ≤ b) : OwnG w b' v g := by
 refine ⟨h.1, ?_⟩
 rcases h.2 with h | ⟨b, cap, cur, rfl, r2, r3, r4⟩
 · exact .inl h
 · exact .inr ⟨b, cap, cur, rfl, by omega, r3, r4⟩
theorem OwnO.mono {w : World} {b b' : Nat} {v : Value} {g : List Value} (h : OwnO w b v g) (hb : b' ≤ b) : OwnO w b' v g := by
 refine ⟨h.1, ?_⟩
 rcases h.2 with h | ⟨b, cap, cur, rfl, r2, r3, r4⟩
 · exact .inl h
 · exact .inr ⟨b, cap, cur, rfl, by omega, r3, r4⟩
theorem GsR.mono {w : World} {b b' : Nat} {ov : Value} {vals : List Value} {gs : List (List Nat)} (h : GsR w b ov vals gs) (hb : b' ≤ b) : GsR w b' ov vals gs :=
 ⟨h.own.mono hb, h.len, fun k v g hv hg => by
   obtain ⟨h1, h2, h3⟩ := h.each k v g hv hg
   exact ⟨h1.mono hb, h2, h3⟩⟩
/- the group's variable is emptied -/
theorem VS.clear {w : World} {L : Lay} {ps : List Patch} {B : Option Addr} {dc : Nat} {m : Int} {s : List Bool} {g : List Nat} {gv : Value} (h : VS w L ps B dc m s g gv) : VS (w.setCell ⟨L.gc, 0, none⟩ (.slice none 0 0)) L ps B dc m s [] (.slice none 0 0) := by
 have ha := h.apart
 refine h.move (by simp) (fun b hb1 _ _ h2 => Below.heap_setCell _ _ _ _ h2) ?_ rfl ?_ (OwnG.nil _ _)
 · obtain ⟨ty, e⟩ := h.srow
   exact ⟨ty, (Below.heap_setCell _ _ _ _ ha.2.2.1).trans e⟩
 · obtain ⟨ty, e⟩ := h.gcell
   exact ⟨ty, (row_setCell e).trans (by simp)⟩
/- a block beyond the variables is written -/
theorem VS.far_write {w w' : World} {L : Lay} {ps : List Patch} {B : Option Addr} {dc : Nat} {m : Int} {s : List Bool} {g g' : List Nat} {gv : Value} {row : Option Nat} (h : VS w L ps B dc m s g gv) (hg : w.grownBy w' row) (hrow : ∀ b, row = some b → L.base ≤ b) (ho : OwnG w' L.base gv g') : VS w' L ps B dc m s g' gv := by
 have hle := h.le
 have hol := h.old
 have keep : ∀ b, b < L.base → w'.heap[b]? = w.heap[b]? := fun b hb => hg.block b (by omega) fun e => by
  have := hrow b e.symm
  omega
 refine h.move hg.size (fun b _ h1 _ _ => keep b h1) ?_ rfl ?_ ho
 · obtain ⟨ty, e⟩ := h.srow
   exact ⟨ty, (keep _ hol.2.2.2.2.2.2).trans e⟩
 · obtain ⟨ty, e⟩ := h.gcell
   exact ⟨ty, (keep _ hol.2.2.2.2.1).trans e⟩
open Go.Sort in
/- the library's sort -/
theorem sort_own (g : List Nat) (n : Nat) (hn : g.Nodup) (hl : ∀ x ∈ g, x < n) (hne : g ≠ []) (hlen : g.length ≤ 1000000) (base : Nat) (gv : Value) (w : World) (ho : OwnG w base gv g) :
 Calls Tryz.prog 32 #[gv] w fun e w' => e = .returned (.tuple #[]) ∧ OwnG w' base gv (srt n g) ∧ w.grownBy w' gv.ownBlock := by
 rcases ho.2 with ⟨_, h0⟩ | ⟨blk, cap, cur, rfl, r2, r3, r4, r5, r6, r7⟩
 · exact absurd (List.eq_nil_of_length_eq_zero h0) hne
 · have hzl : (g.map fun (n : Nat) => (n : Int)).length = g.length := by simp
   have ht : cur.toList.take (g.map fun (n : Nat) => (n : Int)).length = (g.map fun (n : Nat) => (n : Int)).map (Value.int .i64) := by
    rw [hzl]
    rw [Nat.mul_one] at r7
    rw [r7]
    simp
   have hc := Tryz.slices_Sort_int blk 0 cap (g.map fun (n : Nat) => (n : Int)) w (holds_of_blockI r3 ht) (lt_of_heap' r3) (by rw [hzl]; omega)
   rw [hzl] at hc
   refine hc.mono ?_
   rintro e w' ⟨rfl, k, os, rfl⟩
   refine ⟨rfl, ?_, grownBy_sortedI _⟩
   have hsl : (srt n g).length = g.length := by
    have := congrArg List.length (srt_sort n g hn hl)
    simpa using this.symm
   have := ownsRow_sortedI (e := 3) (n := k) (os := os) (ss := g.map fun (n : Nat) => (n : Int)) (ts := (srt n g).map fun (n : Nat) => (n : Int)) (by simp [hsl]) r2 r3 (by rw [hzl]; exact r4) r5 r6
   rw [srt_sort n g hn hl]
   rw [hzl] at this
   unfold OwnG
   rw [hsl]
   simpa [Function.comp_def] using this
theorem groups_any (ps : List Patch) (hrd : ∀ p ∈ ps, p.Ready) (hps : ps.length ≤ 1000) (B : Option Addr) (dc : Nat) (m : Int) (w : World) (hr : RdP w B ps) (hg : w.cell? ⟨0, 0, none⟩ = some (.int .i64 m)) :
 Calls Tryz.prog 11 #[.slice B ps.length dc] w (GrpP ps w) := by
 have HR := Lib.hid hr
 have HG := Lib.hid hg
 have HRD := Lib.hid hrd
 have hmk := fun W => run_make_row' (P := Tryz.prog) 54 4 (.bool false) 1 Tryz.underlying54 info_bool rfl .i64 .i64 ps.length (by omega) (by omega) W
 have hz := World.block_lt_of_cell? _ _ hg
 clear hr hg hrd
 go_enter Tryz.func11, Tryz.ntmps11
 go_wp2_with fail
 obtain ⟨hb0, hv0⟩ := grp_start (dc := dc) HR.out HG.out
 generalize (((((w.alloc (.cells #[.slice B ps.length dc] 25)).alloc (.cells (madeCells #[.bool false] ps.length) 4)).alloc (.cells #[.slice (some ⟨w.heap.size + 1, 0, none⟩) ps.length ps.length] 54)).alloc (.cells #[.slice none 0 0] 42)).alloc (.cells #[.func (.func 31) #[] #[.pointer (some ⟨w.heap.size + 1 + 1, 0, none⟩), .pointer (some ⟨w.heap.size + 1 + 1 + 1, 0, none⟩), .pointer (some ⟨w.heap.size, 0, none⟩), .pointer (some ⟨w.heap.size + 1 + 1 + 1 + 1, 0, none⟩)]] 55)) = W0 at hb0 hv0 ⊢
 have HB0 := Lib.hid hb0
 have HV0 := Lib.hid hv0
 have hadj : ∀ i k, adjF ps i k = true → k < ps.length := fun i k h => (adjF_lt h).2
 have HADJ := Lib.hid hadj
 clear hb0 hv0 hmk hadj
 go_loopw [3, 14] (fun v3 v14 wr => ∃ k : Nat, k ≤ ps.length ∧ v14 = .int .i64 k ∧ ∃ g gv vals, VS wr (grpL w) ps B dc m (groupsS (adjF ps) ps.length k).1 g gv ∧ GsR wr (w.heap.size + 5) v3 vals (groupsS (adjF ps) ps.length k).2 ∧ Below w.heap.size w wr) (fun _ v14 _ => ps.length - (intOf v14).toNat)
 case atStart => exact ⟨0, Nat.zero_le _, rfl, [], _, [], HV0.out, ⟨OwnO.nil _ _, rfl, by simp⟩, HB0.out⟩
 case round =>
  obtain ⟨k, hk, rfl, g, gv, vals, hv, hgs, hbw⟩ := hrel
  by_cases hlt : k < ps.length
  · obtain ⟨m1, -, -⟩ := groups_are (adjF ps) ps.length HADJ.out (adjF_symm ps) k hk
    generalize hst : groupsS (adjF ps) ps.length k = st at hv hgs m1
    have HST := Lib.hid hst
    have HV := Lib.hid hv
    have HGS := Lib.hid hgs
    have HBW := Lib.hid hbw
    obtain ⟨t1, e1⟩ := hv.scell
    have c1 : wr.cell? ⟨w.heap.size + 1 + 1, 0, none⟩ = some (.slice (some ⟨w.heap.size + 1, 0, none⟩) ps.length ps.length) := cellH (o := 0) e1 rfl
    have l1 := lt_of_heap' e1
    obtain ⟨t2, e2⟩ := hv.gcell
    have c2 : wr.cell? ⟨w.heap.size + 1 + 1 + 1, 0, none⟩ = some gv := cellH (o := 0) e2 rfl
    have g2 : wr.frozen? ⟨w.heap.size + 1 + 1 + 1, 0, none⟩ = false := frozenH (o := 0) e2
    have l2 := lt_of_heap' e2
    obtain ⟨t4, e4⟩ := hv.vcell
    have l4 := lt_of_heap' e4
    obtain ⟨t5, e5⟩ := hv.srow
    have c5 : wr.cell? ⟨w.heap.size + 1, k, none⟩ = some (.bool (seenF st.1 k)) := cellH (o := k) e5 (by simp [seen_at (s := st.1) (k := k) (by rw [m1]; exact hlt)])
    have hk0 : (0 : Int) ≤ k := by omega
    have hk1 : (k : Int) < ps.length := by omega
    have HM := Lib.hid m1
    clear e1 e2 e4 e5 hv hgs hbw hst m1
    simp only [grpL] at l1 l2 l4
    cases hse : seenF st.1 k with
    | true =>
      go_wp2_with fail
      exact ⟨⟨k + 1, by omega, by go_num, g, gv, vals, by rw [groupsS_succ, HST.out, hse]; exact HV.out, by rw [groupsS_succ, HST.out, hse]; exact HGS.out, HBW.out⟩, by simp [intOf]; omega⟩
    | false =>
      have HSE := Lib.hid hse
      go_upto_region 11 with fail
      have hv1 : VS (wr.setCell ⟨w.heap.size + 1 + 1 + 1, 0, none⟩ (.slice none 0 0)) (grpL w) ps B dc m st.1 [] (.slice none 0 0) := HV.out.clear
      have hb1 : VEff [w.heap.size + 1 + 1 + 1] wr (wr.setCell ⟨w.heap.size + 1 + 1 + 1, 0, none⟩ (.slice none 0 0)) := (VEff.refl _ _).setCell (.inl (by simp)) _
      clear c1 c2 g2 c5 hse
      generalize wr.setCell ⟨w.heap.size + 1 + 1 + 1, 0, none⟩ (.slice none 0 0) = w1 at hv1 hb1 ⊢
      obtain ⟨t4, e4⟩ := hv1.vcell
      have c4 : w1.cell? ⟨w.heap.size + 1 + 1 + 1 + 1, 0, none⟩ = some (.func (.func 31) #[] #[.pointer (some ⟨w.heap.size + 1 + 1, 0, none⟩), .pointer (some ⟨w.heap.size + 1 + 1 + 1, 0, none⟩), .pointer (some ⟨w.heap.size, 0, none⟩), .pointer (some ⟨w.heap.size + 1 + 1 + 1 + 1, 0, none⟩)]) := cellH (o := 0) e4 rfl
      have HV1 := Lib.hid hv1
      have HB1 := Lib.hid hb1
      clear hv1 hb1 e4
      have hleft : left ps.length st.1 ≤ ps.length := by
       unfold left
       refine Nat.le_trans (List.length_filter_le _ _) ?_
       simp
      have HLE := Lib.hid hleft; clear hleft
      go_wp2_with fail
      refine (visit_any ps HRD.out hps B dc m (grpL w) ps.length k st.1 [] (.slice none 0 0) w1 HV1.out hlt HSE.out HLE.out (by have := HLE.out; simp; omega)).mono ?_
      rintro e w4 ⟨rfl, gv4, hv4, he4, ho4⟩
      obtain ⟨new, n1, n2⟩ := vis_ok (adjF ps) ps.length HADJ.out ps.length st.1 [] k HM.out hlt HSE.out HLE.out
      rw [List.nil_append] at n1
      generalize hvis : vis (adjF ps) ps.length ps.length k (st.1, []) = st4 at hv4 n1 n2
      rw [n1] at hv4
      obtain ⟨A4, k4, hsh⟩ := hv4.own.shape
      have HSH := Lib.hid hsh; clear hsh
      have HVIS := Lib.hid (And.intro hvis n1)
      have HNEW := Lib.hid n2
      have HV4 := Lib.hid hv4
      have HE4 := Lib.hid he4
      have HO4 := Lib.hid ho4
      obtain ⟨t6, e6⟩ := hv4.gcell
      have c6 : w4.cell? ⟨w.heap.size + 1 + 1 + 1, 0, none⟩ = some gv4 := cellH (o := 0) e6 rfl
      clear hvis n1 n2 hv4 he4 ho4 e6 c4
      go_wp2_with fail
      have hnl : new.length ≤ 1000000 := by
       have h1 := (vis_mono (adjF ps) ps.length ps.length k (st.1, []) HM.out hlt HSE.out).2.2
       have h2 := HLE.out
       rw [HVIS.out.1, HVIS.out.2] at h1
       simp at h1
       omega
      refine (sort_own new ps.length HNEW.out.nd (fun x hx => (HNEW.out.ok x hx).1) (List.ne_nil_of_mem HNEW.out.me) hnl (w.heap.size + 5) gv4 w4 HV4.out.own).mono ?_
      rintro e w5 ⟨rfl, hg5, hgb5⟩
      have HG5 := Lib.hid hg5
      have hkeep : ∀ b, b < wr.heap.size → b ≠ w.heap.size + 1 → b ≠ w.heap.size + 1 + 1 + 1 → w5.heap[b]? = wr.heap[b]? := by
       intro b h1 h2 h3
       have z1 := HB1.out.size
       have z4 := HE4.out.size
       refine (hgb5.block b (by omega) fun e => ?_).trans ((HE4.out.block b (by omega) ?_).trans (HB1.out.block b h1 (by simpa using h3)))
       · rcases HO4.out b e.symm with h | h
         · simp [Value.ownBlock] at h
         · omega
       · unfold visW grpL
         simp [Value.ownBlock]
         exact ⟨h2, h3⟩
      have HK := Lib.hid hkeep
      have hv5 : VS w5 (grpL w) ps B dc m st4.1 (srt ps.length new) gv4 := HV4.out.far_write hgb5 (fun b hb => (HV4.out.own.own b hb).1) hg5
      have HV5 := Lib.hid hv5
      have hsz5 : wr.heap.size ≤ w5.heap.size := Nat.le_trans HB1.out.size (Nat.le_trans HE4.out.size hgb5.size)
      have HZ5 := Lib.hid hsz5
      have HGB5 := Lib.hid hgb5
      obtain ⟨t6, e6⟩ := hv5.gcell
      have c6 : w5.cell? ⟨w.heap.size + 1 + 1 + 1, 0, none⟩ = some gv4 := cellH (o := 0) e6 rfl
      have l6 := lt_of_heap' e6
      simp only [grpL] at l6
      have hgs5 : GsR w5 (w.heap.size + 5) u3 vals st.2 := HGS.out.keep fun b h1 h2 => HK.out b h2 (by omega) (by omega)
      have hgs6 := hgs5.keep (w' := w5.alloc (.cells #[gv4] 42)) fun b _ h2 => Below.heap_alloc _ _ b h2
      have HGS6 := Lib.hid hgs6
      have hcell6 : (w5.alloc (.cells #[gv4] 42)).cell? ⟨w5.heap.size, 0, none⟩ = some gv4 := cellH (o := 0) (heap_alloc_new w5 (.cells #[gv4] 42)) rfl
      have HC6 := Lib.hid hcell6
      have hone : gv4.oneCell' = true := by
       obtain ⟨A, c, e⟩ := hg5.shape
       rw [e]; rfl
      have HONE := Lib.hid hone
      have hvl : vals.length + 1 ≤ 1000000 := by
       have h1 := HGS.out.len
       have h2 := (groups_are (adjF ps) ps.length HADJ.out (adjF_symm ps) k hk).2.2
       rw [HST.out] at h2
       have h3 : (heads (adjF ps) k).length ≤ k := by
        unfold heads
        refine Nat.le_trans (List.length_filter_le _ _) ?_
        simp
       rw [h1, h2, List.length_map]
       omega
      have HVL := Lib.hid hvl
      have hle6 : w.heap.size + 5 ≤ (w5.alloc (.cells #[gv4] 42)).heap.size := by
       have := HV5.out.le
       simp only [grpL] at this
       simp
       omega
      have HLE6 := Lib.hid hle6
      clear hg5 hgb5 hkeep hv5 hsz5 e6 hgs5 hgs6 hcell6 hone hvl hle6 c6
      obtain ⟨t6, e6⟩ := HV5.out.gcell
      have c6 : w5.cell? ⟨w.heap.size + 1 + 1 + 1, 0, none⟩ = some gv4 := cellH (o := 0) e6 rfl
      clear e6
      have hsh := HSH.out
      clear HSH
      subst hsh
      go_wp2_with (at_builtin; refine wpList_append_row rfl (.tmp 27) (.tmp 29) rfl (w.heap.size + 5) u3 vals w5.heap.size (.slice A4 new.length k4) HONE.out rfl rfl HGS6.out.own HC6.out HVL.out HLE6.out ?_; intro ov7 w7 ho hgb7 hob; have HO7 := Lib.hid ho; have HGB7 := Lib.hid hgb7; have HOB7 := Lib.hid hob; clear ho hgb7 hob)
      have hlow : ∀ b, u3.ownBlock = some b → w.heap.size + 5 ≤ b ∧ b < wr.heap.size := fun b hb => HGS.out.own.own b hb
      have hhigh : ∀ b, (Value.slice A4 new.length k4).ownBlock = some b → wr.heap.size ≤ b := fun b hb => by
       have z1 := HB1.out.size
       rcases HO4.out b hb with h | h
       · simp [Value.ownBlock] at h
       · omega
      have hown5 := HG5.out.own
      have hz6 : (w5.alloc (.cells #[.slice A4 new.length k4] 42)).heap.size = w5.heap.size + 1 := by simp
      have hg7 : OwnG w7 (w.heap.size + 5) (.slice A4 new.length k4) (srt ps.length new) := HG5.out.keep fun b hb => by
       refine (HGB7.out.block b (by have := (hown5 b hb).2; omega) fun e => ?_).trans (Below.heap_alloc _ _ b (hown5 b hb).2)
       have h1 := (hlow b e.symm).2
       have h2 := hhigh b hb
       omega
      have hsne : srt ps.length new ≠ [] := by
       refine List.ne_nil_of_mem (a := k) ?_
       unfold srt
       simp [hlt, HNEW.out.me]
      have hsucc : groupsS (adjF ps) ps.length (k + 1) = (st4.1, st.2 ++ [srt ps.length new]) := by
       rw [groupsS_succ, HST.out, HSE.out, if_neg (by simp), HVIS.out.1, HVIS.out.2]
      refine ⟨⟨k + 1, by omega, by go_num, srt ps.length new, .slice A4 new.length k4, vals ++ [.slice A4 new.length k4], ?_, ?_, ?_⟩, by simp [intOf]; omega⟩
      · rw [hsucc]
        exact (HV5.out.below ((Below.refl _ _).alloc (Nat.le_refl _) (.cells #[.slice A4 new.length k4] 42))).far_write HGB7.out (fun b hb => (hlow b hb).1) hg7
      · rw [hsucc]
        refine ⟨HO7.out, by simp [HGS.out.len], ?_⟩
        intro j v g' hv hg'
        by_cases hj : j < vals.length
        · rw [List.getElem?_append_left hj] at hv
          rw [List.getElem?_append_left (by rw [← HGS.out.len]; exact hj)] at hg'
          obtain ⟨e1, e2, e3⟩ := HGS6.out.each j v g' hv hg'
          have hvo := e1.own
          refine ⟨e1.keep fun b hb => HGB7.out.block b (hvo b hb).2 (fun e => e3 b hb e.symm), e2, ?_⟩
          intro b hb e
          rcases HOB7.out with h | h
          · rw [h] at e; exact e3 b hb e
          · rw [h] at e
            cases e
            have := (hvo _ hb).2
            omega
        · have hvj : j = vals.length := by
            have := (List.getElem?_eq_some_iff.1 hv).1
            simp at this
            omega
          subst hvj
          rw [List.getElem?_append_right (Nat.le_refl _)] at hv
          rw [HGS.out.len, List.getElem?_append_right (Nat.le_refl _)] at hg'
          simp at hv hg'
          subst hv hg'
          refine ⟨hg7, hsne, ?_⟩
          intro b hb e
          rcases HOB7.out with h | h
          · rw [h] at e
            have h1 := (hlow b e).2
            have h2 := hhigh b hb
            omega
          · rw [h] at e
            cases e
            have := (hown5 _ hb).2
            omega
      · refine HBW.out.trans ⟨?_, ?_, ?_, ?_, ?_⟩
        · exact HGB7.out.os.trans (HGB5.out.os.trans (HE4.out.os.trans HB1.out.os))
        · exact HGB7.out.tape.trans (HGB5.out.tape.trans (HE4.out.tape.trans HB1.out.tape))
        · exact HGB7.out.output.trans (HGB5.out.output.trans (HE4.out.output.trans HB1.out.output))
        · have := HGB7.out.size
          have := HZ5.out
          omega
        · intro b hb
          have hsz := HBW.out.size
          have h0 := HK.out b (by omega) (by omega) (by omega)
          have h5 : b < w5.heap.size := by have := HZ5.out; omega
          refine (HGB7.out.block b (by omega) fun e => ?_).trans ((Below.heap_alloc _ _ b h5).trans h0)
          have := (hlow b e.symm).1
          omega
  · have : k = ps.length := by omega
    subst this
    have HGS := Lib.hid hgs
    have HBW := Lib.hid hbw
    clear hv hgs hbw
    go_wp2_with fail
    go_ret
    exact ⟨_, vals, rfl, HGS.out.mono (by omega), HBW.out⟩
end Go.Proofs.YtfolcjkednmkoaaGreat
namespace Go.Proofs.YtfolcjkednmkoaaGreat
open Go.RowKit
theorem row_cell {w : World} {b : Nat} {cur : Array Value} {t : TypeId} {fr : Nat × Nat} {n : Nat} {xs : List Value} (h : w.heap[b]? = some (.cells cur t fr)) (hx : cur.toList.take n = xs) {k : Nat} {v : Value} (hk : xs[k]? = some v) : w.cell? ⟨b, k, none⟩ = some v := by
 rw [cell_of_row _ _ _ _ _ _ h]
 subst hx
 rw [List.getElem?_take] at hk
 split at hk
 · rw [← Array.getElem?_toList]; exact hk
 · cases hk
theorem OwnG.reads {w : World} {base : Nat} {v : Value} {g : List Nat} (h : OwnG w base v g) (hne : g ≠ []) : ∃ b' c', v = .slice (some ⟨b', 0, none⟩) g.length c' ∧ g.length ≤ c' ∧ b' < w.heap.size ∧ v.ownBlock = some b' ∧ ∀ (k : Nat) x, g[k]? = some x → w.cell? ⟨b', k, none⟩ = some (.int .i64 (x : Int)) := by
 obtain ⟨h1, h2⟩ := h
 rcases h2 with ⟨hv, h0⟩ | ⟨b, cap, cur, rfl, r2, r3, r4, r5, r6, r7⟩
 · exact absurd (List.length_eq_zero_iff.1 h0) hne
 · exact ⟨b, cap, rfl, r4, lt_of_heap' r3, rfl, fun k x hx => row_cell r3 r7 (by simp [hx])⟩
theorem GsR.reads {w : World} {base : Nat} {ov : Value} {vals : List Value} {G : List (List Nat)} (h : GsR w base ov vals G) : ∃ A c, ov = .slice A G.length c ∧ G.length ≤ c ∧ RdG w A G ∧ ∀ b, A = some ⟨b, 0, none⟩ → base ≤ b := by
 obtain ⟨ho, hlen, he⟩ := h
 obtain ⟨h1, h2⟩ := ho
 rcases h2 with ⟨hv, h0⟩ | ⟨b, cap, cur, rfl, r2, r3, r4, r5, r6, r7⟩
 · have : G = [] := by rw [← List.length_eq_zero_iff, ← hlen]; exact h0
   subst this
   exact ⟨none, 0, by simpa using hv, by simp, fun h => absurd rfl h, fun b hb => by cases hb⟩
 · refine ⟨some ⟨b, 0, none⟩, cap, by rw [hlen], by omega, fun hne => ⟨b, rfl, lt_of_heap' r3, fun i g hg => ?_⟩, fun b' hb => by cases hb; exact r2⟩
   obtain ⟨v, hv⟩ : ∃ v, vals[i]? = some v := get_of_lt (by rw [hlen]; exact (List.getElem?_eq_some_iff.1 hg).1)
   obtain ⟨hg1, hg2, hg3⟩ := he i v g hv hg
   obtain ⟨b', c', rfl, k1, k2, k3, k4⟩ := hg1.reads hg2
   exact ⟨b', c', row_cell r3 r7 hv, k1, k2, fun e => hg3 b' k3 (by rw [e]; rfl), k4⟩
theorem groups_read (ps : List Patch) (hrd : ∀ p ∈ ps, p.Ready) (hps : ps.length ≤ 1000) (B : Option Addr) (dc n : Nat) (hn : n = ps.length) (m : Int) (w : World) (hr : RdP w B ps) (hg : w.cell? ⟨0, 0, none⟩ = some (.int .i64 m)) :
 Calls Tryz.prog 11 #[.slice B n dc] w fun e w' => ∃ A c, e = .returned (.slice A (groupsF (adjF ps) ps.length).length c) ∧ (groupsF (adjF ps) ps.length).length ≤ c ∧ RdG w' A (groupsF (adjF ps) ps.length) ∧ (∀ b, A = some ⟨b, 0, none⟩ → w.heap.size ≤ b) ∧ Below w.heap.size w w' := by
 subst hn
 refine (groups_any ps hrd hps B dc m w hr hg).mono ?_
 rintro e w' ⟨ov, vals, rfl, hG, hb⟩
 obtain ⟨A, c, rfl, h1, h2, h3⟩ := hG.reads
 exact ⟨A, c, rfl, h1, h2, h3, hb⟩
end Go.Proofs.YtfolcjkednmkoaaGreat
