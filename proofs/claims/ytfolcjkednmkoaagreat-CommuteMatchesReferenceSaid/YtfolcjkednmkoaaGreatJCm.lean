/- commute.formed and commute.Commute answer formedF and commF. Groups of numbers in memory, to be read; pandectref20.Lists at equal lists. Whole patches stored and handed back; boxes made ahead of a call. -/
import Derived.Test.YtfolcjkednmkoaaGreatCComm
import Derived.Test.YtfolcjkednmkoaaGreatAll
import Derived.Test.YtfolcjkednmkoaaGreatJPt
import Derived.Test.YtfolcjkednmkoaaGreatUnder
import Derived.Test.YtfolcjkednmkoaaGreatWords
import Derived.Laws.ResultCell
set_option linter.unusedVariables false
set_option linter.unusedSimpArgs false
set_option maxRecDepth 20000
set_option maxHeartbeats 1000000
namespace Go.Proofs.YtfolcjkednmkoaaGreat
open Go.RowKit
theorem apply_nil (p : Patch) : ((applyF [] p).2 != 1) = formedF p := by
 have hw : walkB ([] : List Item) = true := rfl
 unfold applyF
 cases hf : formedF p with
 | false => simp
 | true =>
   rw [if_neg (by rw [hw]; simp)]
   have hfi : findI ([] : List Item) p.id = -1 := rfl
   have hit : itemF ([] : List Item) p.id = noItem := rfl
   by_cases h1 : p.kind = 1
   · rw [if_pos h1]
     unfold insertF
     rw [hfi, if_neg (by omega)]
     split
     · rfl
     · rfl
   · rw [if_neg h1, hit, if_pos (.inl rfl)]; rfl
theorem formC (p : Patch) (hrd : p.Ready) (w : World) (m : Int) (hg : w.cell? ⟨0, 0, none⟩ = some (.int .i64 m)) : FormC p w := by
 intro W hb
 have hgW := step_cell hb hg
 have HA := fun W' (h : Below W.heap.size W W') => Lib.hid (apply_any [] none 0 p W' Sl.nil (by simp) (by simp) (by simp) hrd.item hrd.num m (step_cell h hgW) hrd.tlen)
 clear hg hgW hb
 go_enter Tryz.func21, Tryz.ntmps21
 go_wp2_with fail
 have hb1 := (Below.refl W.heap.size W).alloc (Nat.le_refl _) (.cells #[.int .i64 p.kind, vs p.id, vs p.par, vs p.aft, vs p.num, .int .i64 p.item.kind, vs p.item.id, vs p.item.par, vs p.item.num, vs p.item.no, vs p.item.so, .bool p.item.gone, .int .i64 p.lang, vs p.fr, vs p.to] 29)
 refine (HA _ hb1).out.mono ?_
 rintro e w1 ⟨v, rfl, hres, hb2⟩
 obtain ⟨A', c', rfl, -⟩ := hres
 have HB := Lib.hid (hb1.trans (hb2.mono hb1.size))
 clear hb1 hb2
 go_wp2_with fail
 go_ret
 exact ⟨ret_bool (apply_nil p), HB.out.alloc HB.out.size _⟩
theorem comm_any (a b : Patch) (ra : a.Ready) (rb : b.Ready) (w : World) (m : Int) (hg : w.cell? ⟨0, 0, none⟩ = some (.int .i64 m)) :
 Calls Tryz.prog 8 #[a.agg, b.agg] w fun e w' => e = .returned (.bool (commF a b)) ∧ Below w.heap.size w w' :=
 comm_mid a b w (formC a ra w m hg) (formC b rb w m hg)
end Go.Proofs.YtfolcjkednmkoaaGreat
set_option maxRecDepth 20000
set_option maxHeartbeats 2000000
namespace Go.Proofs.YtfolcjkednmkoaaGreat
open Go.RowKit
theorem keepw {wp wn : World} {b o : Nat} {v : Value} (hb : Below wp.heap.size wp wn) (h : wp.cell? ⟨b, o, none⟩ = some v) : wn.cell? ⟨b, o, none⟩ = some v := (hb.cell (p := ⟨b, o, none⟩) (World.block_lt_of_cell? _ _ h)).trans h
theorem rkeepk {wp wn : World} {b : Nat} {x : Obj} (hb : Below wp.heap.size wp wn) (h : wp.blk b = some x) : wn.blk b = some x := (hb.block b (lt_of_heap h)).trans h
def RdG (w : World) (A : Option Addr) (G : List (List Nat)) : Prop :=
 G ≠ [] → ∃ b, A = some ⟨b, 0, none⟩ ∧ b < w.heap.size ∧ ∀ (i : Nat) g, G[i]? = some g → ∃ b' c', w.cell? ⟨b, i, none⟩ = some (.slice (some ⟨b', 0, none⟩) g.length c') ∧ g.length ≤ c' ∧ b' < w.heap.size ∧ b' ≠ b ∧
  ∀ (k : Nat) x, g[k]? = some x → w.cell? ⟨b', k, none⟩ = some (.int .i64 (x : Int))
theorem RdG.keep {w w' : World} {A : Option Addr} {G : List (List Nat)} (h : RdG w A G) (hs : w.heap.size ≤ w'.heap.size) (base : Nat) (hA : ∀ b, A = some ⟨b, 0, none⟩ → b < base)
 (hk : ∀ b, b < w.heap.size → w'.heap[b]? = w.heap[b]?) : RdG w' A G := by
 intro hne
 obtain ⟨b, rfl, hb, hi⟩ := h hne
 refine ⟨b, rfl, by omega, fun i g hg => ?_⟩
 obtain ⟨b', c', h1, h2, h3, h4, h5⟩ := hi i g hg
 exact ⟨b', c', (cell_of_heap (hk b hb) _).trans h1, h2, by omega, h4, fun k x hx => (cell_of_heap (hk b' h3) _).trans (h5 k x hx)⟩
theorem RdG.below {w w' : World} {A : Option Addr} {G : List (List Nat)} (h : RdG w A G) (hb : Below w.heap.size w w') : RdG w' A G := by
 intro hne
 obtain ⟨b, rfl, hlt, hi⟩ := h hne
 refine ⟨b, rfl, Nat.lt_of_lt_of_le hlt hb.size, fun i g hg => ?_⟩
 obtain ⟨b', c', h1, h2, h3, h4, h5⟩ := hi i g hg
 exact ⟨b', c', keepw hb h1, h2, Nat.lt_of_lt_of_le h3 hb.size, h4, fun k x hx => keepw hb (h5 k x hx)⟩
theorem get_ne {α : Type} {l : List α} {k : Nat} {x : α} (h : l[k]? = some x) : l ≠ [] := by rintro rfl; simp at h
theorem lists_refl (G : List (List Nat)) (A B : Option Addr) (c d : Nat) (w : World) (hr : RdG w A G) (hs : RdG w B G) (hl : G.length ≤ 1000) (hgl : ∀ g ∈ G, g.length ≤ 1000) :
 Calls Tryz.prog 10 #[.slice A G.length c, .slice B G.length d] w fun e w' => e = .returned (.bool true) ∧ Below w.heap.size w w' := by
 have HR := Lib.hid hr; clear hr
 have HS := Lib.hid hs; clear hs
 have HGL := Lib.hid hgl; clear hgl
 have hd : ((G.length : Int) != (G.length : Int)) = false := by simp
 go_enter Tryz.func10, Tryz.ntmps10
 go_wp2_with fail
 go_loopw [5] (fun i wr => ∃ k : Nat, k ≤ G.length ∧ i = .int .i64 k ∧ Below w.heap.size w wr) (fun i _ => G.length - (intOf i).toNat)
 case atStart => exact ⟨0, Nat.zero_le _, rfl, Below.refl _ _⟩
 case round =>
  obtain ⟨k, hk, rfl, hb⟩ := hrel
  have HB := Lib.hid hb; clear hb
  by_cases hlt : k < G.length
  · obtain ⟨g, hx⟩ := get_of_lt hlt
    have hi1 : (k : Int) < G.length := by omega
    have hi0 : (0 : Int) ≤ k := by omega
    obtain ⟨b1, rfl, hs1, h1⟩ := (HR.out.below HB.out) (get_ne hx)
    obtain ⟨b2, rfl, hs2, h2⟩ := (HS.out.below HB.out) (get_ne hx)
    obtain ⟨c1, d1, e1, l1, t1, n1, x1⟩ := h1 k g hx
    obtain ⟨c2, d2, e2, l2, t2, n2, x2⟩ := h2 k g hx
    have hgn := HGL.out g (List.mem_of_getElem? hx)
    have hq : ((g.length : Int) != (g.length : Int)) = false := by simp
    have HX1 := Lib.hid x1; clear x1 h1
    have HX2 := Lib.hid x2; clear x2 h2
    have HX := Lib.hid hx; clear hx
    go_wp2_with fail
    go_quiet (fail)
    go_wp2_with fail
    obtain ⟨wA, hwA⟩ : ∃ x, x = wr := ⟨_, rfl⟩
    subst hwA
    go_loopw [6] (fun j wr => ∃ q : Nat, q ≤ g.length ∧ j = .int .i64 q ∧ Below wA.heap.size wA wr) (fun j _ => g.length - (intOf j).toNat)
    case atStart => exact ⟨0, Nat.zero_le _, rfl, Below.drewN' _ (Below.refl _ _)⟩
    case round =>
     obtain ⟨q, hqk, rfl, hb2⟩ := hrel
     have E1 := keepw hb2 e1
     have E2 := keepw hb2 e2
     have HB2 := Lib.hid hb2; clear hb2 e1 e2
     by_cases hl2 : q < g.length
     · obtain ⟨x, hxq⟩ := get_of_lt hl2
       have f1 := keepw HB2.out (HX1.out q x hxq)
       have f2 := keepw HB2.out (HX2.out q x hxq)
       have j1 : (q : Int) < g.length := by omega
       have j0 : (0 : Int) ≤ q := by omega
       have hqq : ((x : Int) != (x : Int)) = false := by simp
       clear hxq
       go_wp2_with fail
       go_quiet (fail)
       go_wp2_with fail
       exact ⟨⟨q + 1, by omega, by go_num, Below.drewN' _ HB2.out⟩, by simp [intOf]; omega⟩
     · obtain rfl : q = g.length := by omega
       go_wp2_with fail
       exact ⟨⟨k + 1, by omega, by go_num, HB.out.trans (HB2.out.mono HB.out.size)⟩, by simp [intOf]; omega⟩
  · have : k = G.length := by omega
    subst this
    go_wp2_with fail
    go_ret
    exact ⟨rfl, HB.out⟩
end Go.Proofs.YtfolcjkednmkoaaGreat
namespace Go.Proofs.YtfolcjkednmkoaaGreat
open Go.RowKit
theorem size28 : (Tryz.prog.info? 29).map (·.size) = some 15 := by kernel_rfl
theorem patCs_one (q : Patch) : ∀ v ∈ (patCs q).toList, v.oneCell' = true := by
 intro v hv
 simp at hv
 rcases hv with rfl | rfl | rfl | rfl | rfl | rfl | rfl | rfl | rfl | rfl | rfl | rfl | rfl | rfl | rfl <;> rfl
theorem wpList_store_pat {ops : Array Oper} {rest : List Oper} {op : Oper} {a : Act} {w : World} {Q : Exit → Act → World → Prop} (hgd : op.guard = none) (x y : Operand) (ho : op.op = .store 29 x y)
 (g : Nat) (q cur : Patch) (hx : a.eval x = .pointer (some ⟨g, 0, none⟩)) (hy : a.eval y = .agg (patCs q)) (hg : w.blk g = some (.cells (patCs cur) 29 (0, 0)))
 (h : wpList Tryz.prog ops Q rest (a.put op.dst undef) (w.setRow g (patCs q))) : wpList Tryz.prog ops Q (op :: rest) a w := by
 refine wpList_store_row hgd 29 x y ho g 0 (patCs q).toList (patCs cur).toList 29 hx hy hg (by simp) size28 (patCs_one q) ?_
 simpa using h
theorem step_store_pat {ops : Array Oper} {o : Oper} {a : Act} {w : World} {K : Act → World → Prop} {Q : Exit → Act → World → Prop} {E : Prop} (hgd : o.guard = none) (x y : Operand) (ho : o.op = .store 29 x y)
 (g : Nat) (q cur : Patch) (hx : a.eval x = .pointer (some ⟨g, 0, none⟩)) (hy : a.eval y = .agg (patCs q)) (hg : w.blk g = some (.cells (patCs cur) 29 (0, 0)))
 (hK : K (a.put o.dst undef) (w.setRow g (patCs q))) : if Region.wanted o (yielded ops a.tmps) = true then Oper.wp Tryz.prog o a w K Q else E := by
 have hw : Region.wanted o (yielded ops a.tmps) = true := by simp [Region.wanted, hgd]
 rw [if_pos hw]
 exact wp_store_row 29 x y ho g (patCs q) hx hy 29 (patCs cur) hg size28 rfl (Array.all_eq_true'.2 fun v hv => patCs_one q v (by simpa using hv)) hK
theorem blk_setCell_at {w : World} {b k : Nat} {v : Value} {C : Array Value} {t : TypeId} {fr : Nat × Nat} (h : w.blk b = some (.cells C t fr)) : (w.setCell ⟨b, k, none⟩ v).blk b = some (.cells (C.setIfInBounds k v) t fr) := by
 unfold World.blk at h ⊢
 simp [World.setCell, Array.getElem?_modify, h]
theorem blk_setRow_at {w : World} {b : Nat} {C D : Array Value} {t : TypeId} {fr : Nat × Nat} (h : w.blk b = some (.cells C t fr)) : (w.setRow b D).blk b = some (.cells D t fr) := setRow_heap _ _ _ _ _ _ h
theorem blk_setRow_ne {w : World} {b k : Nat} {D : Array Value} (h : k ≠ b) : (w.setRow b D).blk k = w.blk k := setRow_other _ _ _ _ h
theorem blk_cell {W : World} {b o : Nat} {C : Array Value} {t : TypeId} {fr : Nat × Nat} {v : Value} (h : W.blk b = some (.cells C t fr)) (hv : C[o]? = some v) : W.cell? ⟨b, o, none⟩ = some v := (cell_of_row _ _ _ _ _ _ h).trans hv
theorem blk_frozen {W : World} {b o : Nat} {C : Array Value} {t : TypeId} (h : W.blk b = some (.cells C t (0, 0))) : W.frozen? ⟨b, o, none⟩ = false := by
 have h' : W.heap[b]? = some (.cells C t (0, 0)) := h
 simp [World.frozen?, h']
theorem load_pat {X : World} {q : Patch} {b : Nat} (hb : X.blk b = some (.cells (patCs q) 29 (0, 0))) : (loadVar 29 ⟨b, 0, none⟩).run Tryz.prog X = .ok q.agg X := by
 rw [loadVar_row X 29 b 0 15 Tryz.underlying29 rfl (by kernel_rfl), hb]
 exact rowLoad_cells _ _ _ _ _ _ _ rfl
theorem gcell {W w : World} {m : Int} (hb : Below w.heap.size w W) (h : w.cell? ⟨0, 0, none⟩ = some (.int .i64 m)) : W.cell? ⟨0, 0, none⟩ = some (.int .i64 m) := step_cell hb h
/- one after the other, from world to world -/
theorem chain2 {a b c : World} (h : Below a.heap.size a b) (k : Below b.heap.size b c) : Below a.heap.size a c := h.trans (k.mono (by have := h.size; omega))
abbrev twoCs (a b : Patch) : Array Value := #[.int .i64 a.kind, vs a.id, vs a.par, vs a.aft, vs a.num, .int .i64 a.item.kind, vs a.item.id, vs a.item.par, vs a.item.num, vs a.item.no, vs a.item.so, .bool a.item.gone, .int .i64 a.lang, vs a.fr, vs a.to, .int .i64 b.kind, vs b.id, vs b.par, vs b.aft, vs b.num, .int .i64 b.item.kind, vs b.item.id, vs b.item.par, vs b.item.num, vs b.item.no, vs b.item.so, .bool b.item.gone, .int .i64 b.lang, vs b.fr, vs b.to]
theorem RdP.lit2 (W : World) (a b : Patch) (g : Nat) (hgg : g = W.heap.size) : RdP (W.alloc (.cells (twoCs a b) 29)) (some ⟨g, 0, none⟩) [a, b] := by
 subst hgg
 rw [show twoCs a b = (a.cells ++ b.cells).toArray from rfl]
 intro _
 refine ⟨W.heap.size, 0, rfl, by simp, fun k x hx j v hv => ?_⟩
 have hn := heap_alloc_new W (.cells (a.cells ++ b.cells).toArray 29)
 rw [cell_of_row _ _ _ _ _ _ hn]
 have hj : j < 15 := by
  have := (List.getElem?_eq_some_iff.1 hv).1
  simpa using this
 match k, hx with
 | 0, hx =>
   simp at hx
   subst hx
   rw [List.getElem?_toArray, Nat.zero_mul, Nat.zero_add]
   rw [List.getElem?_append_left (by simpa using hj)]
   exact hv
 | 1, hx =>
   simp at hx
   subst hx
   rw [List.getElem?_toArray, Nat.one_mul, Nat.zero_add, List.getElem?_append_right (by simp)]
   simpa using hv
 | k + 2, hx => simp at hx
theorem all_lit {l : List Item} {ps : List Patch} {r : List Item} {i e : Int} (h : allR l ps = (r, i, e)) (A B : Option Addr) (n c d : Nat) (w : World) (hn : n = ps.length) (hr : RdI w A l) (hs : RdP w B ps) (hl : l.length ≤ 100000) (hlc : l.length ≤ c) (hsh : ∀ x ∈ l, x.Short) (hps : ps.length ≤ 1000000) (hrd : ∀ p ∈ ps, p.Ready) (m : Int) (hg : w.cell? ⟨0, 0, none⟩ = some (.int .i64 m)) :
 Calls Tryz.prog 17 #[.agg #[.slice A l.length c], .slice B n d] w fun en w' => ∃ A' c', en = .returned (.tuple #[.agg #[.slice A' r.length c'], .int .i64 i, .int .i64 e]) ∧ RdI w' A' r ∧ r.length ≤ c' ∧ Below w.heap.size w w' := by
 subst hn
 have := all_any l ps A B c d w hr hs hl hlc hsh hps hrd m hg
 unfold Alls at this
 rw [h] at this
 refine this.mono ?_
 rintro en w' ⟨v, rfl, ⟨A', c', rfl, hr', hlc', -⟩, hb⟩
 exact ⟨A', c', rfl, hr', hlc', hb⟩
theorem two_ready {a b : Patch} (ra : a.Ready) (rb : b.Ready) : ∀ p ∈ [a, b], p.Ready := by
 intro p hp
 simp at hp
 rcases hp with rfl | rfl <;> assumption
end Go.Proofs.YtfolcjkednmkoaaGreat
