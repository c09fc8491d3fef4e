/- The rows of clauses behind each stamp; what the walk over them has listed so far. Rows of stamps. One element put behind a row that the call owns; where the new row lies. -/
import Derived.Test.YtecnlfaholmpoaaGreatJC27
import Derived.Test.YtecnlfaholmpoaaGreatJC25
import Derived.Maps.AppendAt
import Derived.Test.YtecnlfaholmpoaaGreatJC22
set_option linter.unusedVariables false
set_option linter.unusedSimpArgs false
namespace Go.Proofs.YtecnlfaholmpoaaGreat
open Go.RowKit
structure Kin (w : World) (mb base lim : Nat) (ent : List (Stamp × Value)) (L : Stamp → List Clause) : Prop where
 map : KMap Tryz.prog 45 w mb (ent.map fun p => (p.1.agg, p.2))
 own : ∀ p ∈ ent, OwnCs w base p.2 (L p.1)
 inl : ∀ p ∈ ent, ∃ b, p.2.ownBlock = some b ∧ b < lim
 out : ∀ s, (∀ p ∈ ent, p.1 ≠ s) → L s = []
 apart : ∀ p ∈ ent, ∀ q ∈ ent, p.1 ≠ q.1 → p.2.ownBlock ≠ q.2.ownBlock
 mbb : mb < base
 bl : base ≤ lim
theorem Kin.below {w w' : World} {mb base lim : Nat} {ent : List (Stamp × Value)} {L : Stamp → List Clause} (h : Kin w mb base lim ent L) (hb : ∀ k, k < lim → w'.heap[k]? = w.heap[k]?) : Kin w' mb base lim ent L := by
 refine ⟨h.map.keep (hb _ (Nat.lt_of_lt_of_le h.mbb h.bl)), fun p hp => (h.own p hp).keep fun b hb1 => ?_, h.inl, h.out, h.apart, h.mbb, h.bl⟩
 obtain ⟨b', h1, h2⟩ := h.inl p hp
 rw [hb1] at h1
 cases h1
 exact hb _ h2
theorem Kin.keep2 {w w' : World} {mb base lim lim' : Nat} {ent : List (Stamp × Value)} {L : Stamp → List Clause} (h : Kin w mb base lim ent L) (hl : lim ≤ lim') (hm : w'.heap[mb]? = w.heap[mb]?) (hb : ∀ k, base ≤ k → k < lim → w'.heap[k]? = w.heap[k]?) : Kin w' mb base lim' ent L := by
 refine ⟨h.map.keep hm, fun p hp => (h.own p hp).keep fun b hb1 => ?_, fun p hp => ?_, h.out, h.apart, h.mbb, Nat.le_trans h.bl hl⟩
 · obtain ⟨b', h1, h2⟩ := h.inl p hp
   have hge := (h.own p hp).ge b hb1
   rw [hb1] at h1
   cases h1
   exact hb _ hge h2
 · obtain ⟨b', h1, h2⟩ := h.inl p hp
   exact ⟨b', h1, by omega⟩
theorem Kin.ids {w : World} {mb base lim : Nat} {ent : List (Stamp × Value)} {L : Stamp → List Clause} (h : Kin w mb base lim ent L) : ∀ p ∈ ent, ∀ q ∈ ent, p.1 = q.1 → p = q := by
 intro p hp q hq e
 have hn := h.map.nodup
 have h1 : (p.1.agg, p.2) ∈ ent.map fun p => (p.1.agg, p.2) := List.mem_map.2 ⟨p, hp, rfl⟩
 have h2 : (p.1.agg, q.2) ∈ ent.map fun p => (p.1.agg, p.2) := List.mem_map.2 ⟨q, hq, by rw [e]⟩
 have := kv_one hn h1 h2
 cases p; cases q
 simp only at e this
 rw [e, this]
def setL (L : Stamp → List Clause) (s : Stamp) (l : List Clause) : Stamp → List Clause := fun t => if t = s then l else L t
theorem zero_sl (w : World) : (zeroValue 25).run Tryz.prog w = .ok (.slice none 0 0) w := by kernel_rfl
theorem Kin.look {w : World} {mb base lim : Nat} {ent : List (Stamp × Value)} {L : Stamp → List Clause} (h : Kin w mb base lim ent L) {s : Stamp} (hk : ∃ l, keyOf Tryz.prog 45 s.agg = some l) :
 ∃ v, (∀ w' : World, w'.heap[mb]? = w.heap[mb]? → (Instr.lookup 107 (.map (some mb)) s.agg false).run Tryz.prog w' = .ok v w') ∧ OwnCs w base v (L s) ∧ ((s, v) ∈ ent ∨ (v = .slice none 0 0 ∧ ∀ p ∈ ent, p.1 ≠ s)) := by
 obtain ⟨l, hl⟩ := hk
 by_cases hm : ∃ p ∈ ent, p.1 = s
 · obtain ⟨p, hp, rfl⟩ := hm
   refine ⟨p.2, fun w' hw => ?_, h.own p hp, Or.inl hp⟩
   have := (h.map.keep hw).hit stamp_law Tryz.underlying107 hl (List.mem_map.2 ⟨p, hp, rfl⟩) false
   simpa using this
 · have hm' : ∀ p ∈ ent, p.1 ≠ s := fun p hp e => hm ⟨p, hp, e⟩
   refine ⟨.slice none 0 0, fun w' hw => ?_, by rw [h.out s hm']; exact OwnCs.nil _ _, Or.inr ⟨rfl, hm'⟩⟩
   have := (h.map.keep hw).miss stamp_law Tryz.underlying107 hl (fun p hp e => by
    obtain ⟨x, hx, rfl⟩ := List.mem_map.1 hp
    exact hm' x hx (stamp_agg e)) (zero_sl w') false
   simpa using this
theorem Kin.turn {w w' : World} {mb base lim : Nat} {ent : List (Stamp × Value)} {L : Stamp → List Clause} (h : Kin w mb base lim ent L) (hlw : lim ≤ w.heap.size) {s : Stamp} {v : Value} (hv : (s, v) ∈ ent ∨ (v = .slice none 0 0 ∧ ∀ p ∈ ent, p.1 ≠ s)) {l : List Clause} (ho : OwnCs w' base v l) (hg : w.grownBy w' v.ownBlock) (hl : l.length = (L s).length) : Kin w' mb base lim ent (setL L s l) := by
 rcases hv with hv | ⟨rfl, hv⟩
 · obtain ⟨b, hb1, hb2⟩ := h.inl _ hv
   have hge := (h.own _ hv).ge b hb1
   have hmb := h.mbb
   have hbl := h.bl
   simp only at hb1
   refine ⟨h.map.keep (hg.block _ (by omega) (by rw [hb1]; simp; omega)), fun p hp => ?_, h.inl, fun t ht => ?_, h.apart, h.mbb, h.bl⟩
   · unfold setL
     split
     · rename_i e
       have := h.ids p hp _ hv e
       subst this
       exact ho
     · rename_i e
       refine (h.own p hp).keep fun k hk => hg.block k ?_ ?_
       · exact (h.own p hp).lt k hk
       · rw [← hk]
         exact h.apart p hp _ hv e
   · unfold setL
     rw [if_neg (fun e => ht _ hv e.symm)]
     exact h.out t ht
 · have e : setL L s l = L := by
     funext t
     unfold setL
     split
     · rename_i e
       subst e
       rw [h.out t hv] at hl ⊢
       exact List.length_eq_zero_iff.1 hl
     · rfl
   rw [e]
   exact h.below fun k hk => hg.block k (by omega) (by simp [Value.ownBlock])
theorem Kin.add {w w3 : World} {mb base : Nat} {ent ent' : List (Stamp × Value)} {L : Stamp → List Clause} (h : Kin w mb base w.heap.size ent L) {s : Stamp} {v v' : Value} {l : List Clause}
 (hv : (s, v) ∈ ent ∨ (v = .slice none 0 0 ∧ ∀ p ∈ ent, p.1 ≠ s)) (ho : OwnCs w3 base v' l) (hl : l ≠ []) (hm : KMap Tryz.prog 45 w3 mb (ent'.map fun p => (p.1.agg, p.2)))
 (he : ∀ p, p ∈ ent' ↔ (p = (s, v') ∨ (p ∈ ent ∧ p.1 ≠ s))) (hk : ∀ k, k < w.heap.size → k ≠ mb → some k ≠ v.ownBlock → w3.heap[k]? = w.heap[k]?) (hat : v'.ownBlock = v.ownBlock ∨ ∃ b, v'.ownBlock = some b ∧ w.heap.size ≤ b) (hsz : w.heap.size ≤ w3.heap.size) : Kin w3 mb base w3.heap.size ent' (setL L s l) := by
 have hmb := h.mbb
 have hbl := h.bl
 have hv' : ∀ p ∈ ent, p.1 ≠ s → p.2.ownBlock ≠ v'.ownBlock := by
  intro p hp hne e
  rcases hat with e1 | ⟨b, e1, e2⟩
  · rcases hv with hv | ⟨rfl, _⟩
    · exact h.apart p hp _ hv hne (e.trans e1)
    · obtain ⟨b, b1, _⟩ := h.inl p hp
      rw [b1, e1] at e
      simp [Value.ownBlock] at e
  · obtain ⟨b', b1, b2⟩ := h.inl p hp
    rw [b1, e1] at e
    simp only [Option.some.injEq] at e
    omega
 refine ⟨hm, fun p hp => ?_, fun p hp => ?_, fun t ht => ?_, fun p hp q hq hne => ?_, h.mbb, by omega⟩
 · rcases (he p).1 hp with rfl | ⟨hp1, hp2⟩
   · simpa [setL] using ho
   · unfold setL
     rw [if_neg hp2]
     refine (h.own p hp1).keep fun k hk1 => ?_
     have hge := (h.own p hp1).ge k hk1
     refine hk k ((h.own p hp1).lt k hk1) (by omega) ?_
     rw [← hk1]
     rcases hv with hv | ⟨rfl, _⟩
     · exact h.apart p hp1 _ hv hp2
     · rw [hk1]; simp [Value.ownBlock]
 · rcases (he p).1 hp with rfl | ⟨hp1, hp2⟩
   · rcases ho.2 with ⟨_, h0⟩ | ⟨g, cap, cur, e, _, r3, _⟩
     · exact absurd (List.length_eq_zero_iff.1 h0) hl
     · exact ⟨g, by rw [e]; rfl, lt_of_heap r3⟩
   · obtain ⟨b, b1, b2⟩ := h.inl p hp1
     exact ⟨b, b1, by omega⟩
 · have hts : t ≠ s := fun e => ht (s, v') ((he _).2 (Or.inl rfl)) e.symm
   unfold setL
   rw [if_neg hts]
   refine h.out t fun p hp e => ?_
   exact ht p ((he p).2 (Or.inr ⟨hp, by rw [e]; exact hts⟩)) e
 · rcases (he p).1 hp with rfl | ⟨hp1, hp2⟩
   · rcases (he q).1 hq with rfl | ⟨hq1, hq2⟩
     · exact absurd rfl hne
     · exact (hv' q hq1 hq2).symm
   · rcases (he q).1 hq with rfl | ⟨hq1, hq2⟩
     · exact hv' p hp1 hp2
     · exact h.apart p hp1 q hq1 hne
structure WSt (w : World) (pg : List Clause) (cb ob wb mb base : Nat) (ent : List (Stamp × Value)) (L : Stamp → List Clause) (acc : List Clause) (v : Value) : Prop where
 kin : Kin w mb base ob ent L
 perm : ∀ s, (L s).Perm (pg.filter fun c => decide (c.after = s))
 cbx : w.heap[cb]? = some (.cells #[.map (some mb)] 107 (0, 0))
 obx : w.heap[ob]? = some (.cells #[v] 25 (0, 0))
 wbx : w.heap[wb]? = some (.cells #[.func (.func 71) #[] #[.pointer (some ⟨cb, 0, none⟩), .pointer (some ⟨ob, 0, none⟩), .pointer (some ⟨wb, 0, none⟩)]] 108 (0, 0))
 own : OwnCs w (wb + 1) v acc
 cbb : cb < base
 ow : ob < wb
theorem WSt.keep {w w' : World} {pg : List Clause} {cb ob wb mb base : Nat} {ent : List (Stamp × Value)} {L : Stamp → List Clause} {acc : List Clause} {v : Value} (h : WSt w pg cb ob wb mb base ent L acc v) (hb : Below w.heap.size w w') : WSt w' pg cb ob wb mb base ent L acc v := by
 have lo := lt_of_heap h.obx
 exact ⟨h.kin.below fun k hk => hb.block k (by omega), h.perm, (hb.block _ (lt_of_heap h.cbx)).trans h.cbx, (hb.block _ lo).trans h.obx, (hb.block _ (lt_of_heap h.wbx)).trans h.wbx, h.own.below hb, h.cbb, h.ow⟩
theorem WSt.turn {w w' : World} {pg : List Clause} {cb ob wb mb base : Nat} {ent : List (Stamp × Value)} {L : Stamp → List Clause} {acc : List Clause} {v : Value} (hn : (pg.map (·.id)).Nodup) (h : WSt w pg cb ob wb mb base ent L acc v) {s : Stamp} {u : Value}
 (hv : (s, u) ∈ ent ∨ (u = .slice none 0 0 ∧ ∀ p ∈ ent, p.1 ≠ s)) (ho : OwnCs w' base u (sortB later (L s))) (hg : w.grownBy w' u.ownBlock) : WSt w' pg cb ob wb mb base ent (setL L s (kids pg s)) acc v ∧ OwnCs w' base u (kids pg s) ∧ Below base w w' := by
 have lo := lt_of_heap h.obx
 have lw := lt_of_heap h.wbx
 have hmb := h.kin.mbb
 have hbl := h.kin.bl
 have how := h.ow
 have hcb := h.cbb
 have hub : ∀ b, u.ownBlock = some b → base ≤ b ∧ b < ob := by
  intro b hb
  rcases hv with hv | ⟨rfl, _⟩
  · obtain ⟨b', h1, h2⟩ := h.kin.inl _ hv
    rw [hb] at h1
    cases h1
    exact ⟨(h.kin.own _ hv).ge b hb, h2⟩
  · simp [Value.ownBlock] at hb
 have hkeep : ∀ k, k < w.heap.size → (k < base ∨ ob ≤ k) → w'.heap[k]? = w.heap[k]? := fun k h1 h2 => hg.block k h1 (fun e => by have := hub k e.symm; omega)
 have e := kids_sort hn (h.perm s)
 refine ⟨⟨?_, fun t => ?_, (hkeep _ (by omega) (by omega)).trans h.cbx, (hkeep _ lo (by omega)).trans h.obx, (hkeep _ lw (by omega)).trans h.wbx, h.own.keep fun b hb => hkeep b (h.own.lt b hb) (by have := h.own.ge b hb; omega), h.cbb, h.ow⟩, by rw [← e]; exact ho, ⟨hg.os, hg.tape, hg.output, hg.size, fun k hk => hkeep k (by omega) (by omega)⟩⟩
 · exact h.kin.turn (by omega) hv (by rw [← e]; exact ho) hg (by rw [← e]; exact (sortB_perm _ _).length_eq)
 · unfold setL
   split
   · rename_i e1
     subst e1
     exact kids_perm_filter pg t
   · exact h.perm t
theorem WSt.list {w W w1 : World} {pg : List Clause} {cb ob wb mb base : Nat} {ent : List (Stamp × Value)} {L : Stamp → List Clause} {acc acc' : List Clause} {v v' : Value} (h : WSt w pg cb ob wb mb base ent L acc v) (hb : Below w.heap.size w W)
 (ho : OwnCs w1 (wb + 1) v' acc') (hg : W.grownBy w1 v.ownBlock) : WSt (w1.setCell ⟨ob, 0, none⟩ v') pg cb ob wb mb base ent L acc' v' ∧ Below base w (w1.setCell ⟨ob, 0, none⟩ v') := by
 have lo := lt_of_heap h.obx
 have lw := lt_of_heap h.wbx
 have hmb := h.kin.mbb
 have hbl := h.kin.bl
 have how := h.ow
 have hcb := h.cbb
 have hsz := hb.size
 have hk : ∀ k, k < wb + 1 → w1.heap[k]? = w.heap[k]? := fun k hk => (hg.block k (by omega) (fun e => by have := h.own.ge k e.symm; omega)).trans (hb.block k (by omega))
 have hk2 : ∀ k, k < wb + 1 → k ≠ ob → (w1.setCell ⟨ob, 0, none⟩ v').heap[k]? = w.heap[k]? := fun k h1 h2 => (Below.heap_setCell w1 ⟨ob, 0, none⟩ v' k h2).trans (hk k h1)
 refine ⟨⟨h.kin.below fun k h1 => hk2 k (by omega) (by omega), h.perm, (hk2 _ (by omega) (by omega)).trans h.cbx, ?_, (hk2 _ (by omega) (by omega)).trans h.wbx, ho.keep fun b hb1 => Below.heap_setCell w1 ⟨ob, 0, none⟩ v' b (by have := ho.ge b hb1; simp; omega), h.cbb, h.ow⟩, ⟨hg.os.trans hb.os, hg.tape.trans hb.tape, hg.output.trans hb.output, ?_, fun k h1 => hk2 k (by omega) (by omega)⟩⟩
 · exact row_setCell ((hk ob (by omega)).trans h.obx)
 · have := hg.size
   simp only [World.size_setCell]
   omega
end Go.Proofs.YtecnlfaholmpoaaGreat
namespace Go.Proofs.YtecnlfaholmpoaaGreat
open Go.RowKit
abbrev Stamp.cells (s : Stamp) : List Value := [.int .i64 s.seat, .int .i64 s.count]
abbrev staCs (s : Stamp) : Array Value := #[.int .i64 s.seat, .int .i64 s.count]
def RdSt (w : World) (A : Option Addr) (l : List Stamp) : Prop := Sl Stamp.cells 2 w A l
theorem RdSt.below {w w' : World} {A : Option Addr} {l : List Stamp} (h : RdSt w A l) (hb : Below w.heap.size w w') : RdSt w' A l := Sl.below h hb
theorem staCs_one (q : Stamp) : ∀ v ∈ (staCs q).toList, v.oneCell' = true := by
 intro v hv
 simp at hv
 rcases hv with rfl | rfl <;> rfl
def sflat (l : List Stamp) : List Value := l.flatMap Stamp.cells
theorem sfl_get : ∀ (ps : List Stamp) (k : Nat) (p : Stamp) (j : Nat) (v : Value), ps[k]? = some p → p.cells[j]? = some v → (sflat ps)[k * 2 + j]? = some v
 | [], k, p, j, v, h, _ => by simp at h
 | q :: r, 0, p, j, v, h, hv => by
   simp at h
   subst h
   have hj : j < q.cells.length := (List.getElem?_eq_some_iff.1 hv).1
   unfold sflat
   rw [List.flatMap_cons, Nat.zero_mul, Nat.zero_add, List.getElem?_append_left hj]
   exact hv
 | q :: r, k + 1, p, j, v, h, hv => by
   have hq : q.cells.length = 2 := rfl
   unfold sflat
   rw [List.flatMap_cons, List.getElem?_append_right (by rw [hq]; omega), hq, show (k + 1) * 2 + j - 2 = k * 2 + j by omega]
   exact sfl_get r k p j v (by simpa using h) hv
theorem sflat_len (l : List Stamp) : (sflat l).length = l.length * 2 := by
 induction l with
 | nil => rfl
 | cons a r ih =>
   have : (sflat (a :: r)).length = 2 + (sflat r).length := by unfold sflat; rw [List.flatMap_cons, List.length_append]; rfl
   rw [this, ih, List.length_cons]
   omega
theorem sflat_app (l r : List Stamp) : sflat (l ++ r) = sflat l ++ sflat r := by simp [sflat]
theorem sflat_at {l : List Stamp} {i : Nat} {v : Value} (h : (sflat l)[i]? = some v) : ∃ k j p, i = k * 2 + j ∧ l[k]? = some p ∧ p.cells[j]? = some v := by
 induction l generalizing i with
 | nil => simp [sflat] at h
 | cons a r ih =>
   have hq : a.cells.length = 2 := rfl
   unfold sflat at h
   rw [List.flatMap_cons] at h
   by_cases hi : i < 2
   · rw [List.getElem?_append_left (by rw [hq]; exact hi)] at h
     exact ⟨0, i, a, by omega, rfl, h⟩
   · rw [List.getElem?_append_right (by rw [hq]; omega), hq] at h
     obtain ⟨k, j, p, e, h1, h2⟩ := ih h
     exact ⟨k + 1, j, p, by omega, by simpa using h1, h2⟩
theorem sflat_one {l : List Stamp} : ∀ v ∈ sflat l, v.oneCell' = true := by
 intro v hv
 obtain ⟨p, _, hm⟩ := List.mem_flatMap.1 hv
 exact staCs_one p v (by simpa using hm)
def OwnSs (w : World) (base : Nat) (v : Value) (l : List Stamp) : Prop := w.ownsRow base 45 2 v l.length (sflat l)
theorem OwnSs.empty {w : World} {base g : Nat} (h : w.heap[g]? = some (.cells #[] 45 (0, 0))) (hb : base ≤ g) : OwnSs w base (.slice (some ⟨g, 0, none⟩) 0 0) [] := ⟨rfl, .inr ⟨g, 0, #[], rfl, hb, h, Nat.le_refl _, by decide, rfl, rfl⟩⟩
theorem OwnSs.nil (w : World) (base : Nat) : OwnSs w base (.slice none 0 0) [] := ⟨rfl, .inl ⟨rfl, rfl⟩⟩
theorem OwnSs.ge {w : World} {base : Nat} {v : Value} {l : List Stamp} (h : OwnSs w base v l) : ∀ b, v.ownBlock = some b → base ≤ b := by
 rcases h.2 with ⟨hv, h0⟩ | ⟨b, cap, cur, rfl, r2, r3, r4⟩
 · intro b hb
   rw [hv] at hb
   simp [Value.ownBlock] at hb
 · intro c hc
   simp [Value.ownBlock] at hc
   subst hc
   exact r2
theorem OwnSs.keep {w w' : World} {base : Nat} {v : Value} {l : List Stamp} (h : OwnSs w base v l) (hk : ∀ b, v.ownBlock = some b → w'.heap[b]? = w.heap[b]?) : OwnSs w' base v l := by
 refine ⟨h.1, ?_⟩
 rcases h.2 with h | ⟨b, cap, cur, rfl, r2, r3, r4⟩
 · exact .inl h
 · exact .inr ⟨b, cap, cur, rfl, r2, (hk b rfl).trans r3, r4⟩
theorem OwnSs.lt {w : World} {base : Nat} {v : Value} {l : List Stamp} (h : OwnSs w base v l) : ∀ b, v.ownBlock = some b → b < w.heap.size := by
 rcases h.2 with ⟨hv, h0⟩ | ⟨b, cap, cur, rfl, r2, r3, r4⟩
 · intro b hb
   rw [hv] at hb
   simp [Value.ownBlock] at hb
 · intro c hc
   simp [Value.ownBlock] at hc
   subst hc
   exact lt_of_heap r3
theorem OwnSs.below {w w' : World} {base : Nat} {v : Value} {l : List Stamp} (h : OwnSs w base v l) (hb : Below w.heap.size w w') : OwnSs w' base v l := h.keep fun b hb1 => hb.block b (h.lt b hb1)
theorem OwnSs.reads {w : World} {base : Nat} {v : Value} {l : List Stamp} (h : OwnSs w base v l) : ∃ A c, v = .slice A l.length c ∧ l.length ≤ c ∧ c ≤ maxLen ∧ RdSt w A l := by
 rcases h.2 with ⟨hv, h0⟩ | ⟨b, cap, cur, rfl, r2, r3, r4, r5, r6, r7⟩
 · have : l = [] := List.length_eq_zero_iff.1 h0
   subst this
   exact ⟨none, 0, by simpa using hv, Nat.le_refl _, by decide, fun h => absurd rfl h⟩
 · refine ⟨some ⟨b, 0, none⟩, cap, rfl, r4, r5, fun _ => ⟨b, 0, rfl, lt_of_heap r3, fun k x hx j v hv => ?_⟩⟩
   rw [cell_of_row _ _ _ _ _ _ r3, Nat.zero_add]
   have h1 := sfl_get l k x j v hx hv
   rw [← r7, List.getElem?_take] at h1
   split at h1
   · rw [← Array.getElem?_toList]; exact h1
   · cases h1
theorem info_sta : (Tryz.prog.info? 45).map (fun i => (i.zero, i.size, i.bytes)) = some (some noStamp.agg, 2, 16) := by kernel_rfl
theorem RdSt.one (w : World) (p : Stamp) (g : Nat) (h : w.heap[g]? = some (.cells (staCs p) 45 (0, 0))) : RdSt w (some ⟨g, 0, none⟩) [p] := by
 intro _
 refine ⟨g, 0, rfl, lt_of_heap h, fun k x hx j v hv => ?_⟩
 cases k with
 | succ k => simp at hx
 | zero =>
   simp at hx
   subst hx
   rw [show 0 + 0 * 2 + j = j by omega, cell_of_row _ _ _ _ _ _ h, List.getElem?_toArray]
   exact hv
end Go.Proofs.YtecnlfaholmpoaaGreat
namespace Go.Proofs.YtecnlfaholmpoaaGreat
open Go.RowKit
theorem run_append_cla1 (w : World) (base : Nat) (v : Value) (l : List Clause) (c : Clause) (g cc : Nat) (hown : OwnCs w base v l) (hg : w.heap[g]? = some (.cells (claCs c) 51 (0, 0))) (hlen : (l.length + 1) * 248 ≤ 140737488355328) (hb : base ≤ w.heap.size) :
 ∃ v' w', (Builtin.append_ #[25, 25] 25 #[v, .slice (some ⟨g, 0, none⟩) 1 cc]).run Tryz.prog w = .ok v' w' ∧ OwnCs w' base v' (l ++ [c]) ∧ w.grownBy w' v.ownBlock ∧ (v'.ownBlock = v.ownBlock ∨ v'.ownBlock = some w.heap.size) := by
 have h9 : (140737488355328 : Nat) ≤ maxLen := by unfold maxLen; omega
 obtain ⟨i0, hi0, hz⟩ := Option.map_eq_some_iff.1 info_cla
 simp only [Prod.mk.injEq] at hz
 obtain ⟨hz0, hz1, hz2⟩ := hz
 have hn : ∀ j u, (cflat [c])[j]? = some u → w.cell? ((⟨g, 0, none⟩ : Addr).add j) = some u := by
  intro j u hu
  obtain ⟨k, i, p, rfl, hp, hv⟩ := cflat_at hu
  obtain ⟨b, o, hA, _, hc⟩ := (RdC.one w c g hg) (by simp)
  cases hA
  have := hc k p hp i u hv
  rw [Go.WideShapes.add_plain, ← Nat.add_assoc]
  exact this
 obtain ⟨v', w', h1, h2, h3, _, h5⟩ := run_append_own_at (P := Tryz.prog) w base 25 25 51 i0 zeroC.agg 20 248 Tryz.underlying25 hi0 hz0 hz1 hz2 rfl (by decide) v l.length (cflat l) hown ⟨g, 0, none⟩ 1 cc (cflat [c]) (cflat_len [c]) hn cflat_one (by omega) (by omega) hb
 refine ⟨v', w', h1, ?_, h3, h5⟩
 unfold OwnCs
 rw [List.length_append, cflat_app]
 exact h2
theorem wpList_append_cla1 {ops : Array Oper} {rest : List Oper} {o : Oper} {a : Act} {w : World} {Q : Exit → Act → World → Prop} (hgd : o.guard = none) (d x : Operand) (hop : o.op = Op.call { callee := Callee.builtin Builtin.append, args := #[d, x], argTypes := #[25, 25] }) (ht : o.type = 25)
 (base : Nat) (v : Value) (l : List Clause) (c : Clause) (g cc : Nat) (hd : a.eval d = v) (hx : a.eval x = .slice (some ⟨g, 0, none⟩) 1 cc) (hown : OwnCs w base v l) (hg : w.heap[g]? = some (.cells (claCs c) 51 (0, 0))) (hlen : (l.length + 1) * 248 ≤ 140737488355328) (hb : base ≤ w.heap.size)
 (h : ∀ v' w', OwnCs w' base v' (l ++ [c]) → w.grownBy w' v.ownBlock → (v'.ownBlock = v.ownBlock ∨ v'.ownBlock = some w.heap.size) → wpList Tryz.prog ops Q rest (a.put o.dst v') w') : wpList Tryz.prog ops Q (o :: rest) a w := by
 obtain ⟨v', w', h1, h2, h3, h4⟩ := run_append_cla1 w base v l c g cc hown hg hlen hb
 refine wpList_plain hgd fun K hK => ?_
 unfold Oper.wp
 simp [execOp, hop, ht, resolve, invoke, builtin, hd, hx, h1, Result.andThen]
 exact hK _ _ (h _ _ h2 h3 h4)
theorem run_append_sta1 (w : World) (base : Nat) (v : Value) (l : List Stamp) (c : Stamp) (g cc : Nat) (hown : OwnSs w base v l) (hg : w.heap[g]? = some (.cells (staCs c) 45 (0, 0))) (hlen : (l.length + 1) * 16 ≤ 140737488355328) (hb : base ≤ w.heap.size) :
 ∃ v' w', (Builtin.append_ #[36, 36] 36 #[v, .slice (some ⟨g, 0, none⟩) 1 cc]).run Tryz.prog w = .ok v' w' ∧ OwnSs w' base v' (l ++ [c]) ∧ w.grownBy w' v.ownBlock ∧ (v'.ownBlock = v.ownBlock ∨ v'.ownBlock = some w.heap.size) := by
 have h9 : (140737488355328 : Nat) ≤ maxLen := by unfold maxLen; omega
 obtain ⟨i0, hi0, hz⟩ := Option.map_eq_some_iff.1 info_sta
 simp only [Prod.mk.injEq] at hz
 obtain ⟨hz0, hz1, hz2⟩ := hz
 have hn : ∀ j u, (sflat [c])[j]? = some u → w.cell? ((⟨g, 0, none⟩ : Addr).add j) = some u := by
  intro j u hu
  obtain ⟨k, i, p, rfl, hp, hv⟩ := sflat_at hu
  obtain ⟨b, o, hA, _, hc⟩ := (RdSt.one w c g hg) (by simp)
  cases hA
  have := hc k p hp i u hv
  rw [Go.WideShapes.add_plain, ← Nat.add_assoc]
  exact this
 obtain ⟨v', w', h1, h2, h3, _, h5⟩ := run_append_own_at (P := Tryz.prog) w base 36 36 45 i0 noStamp.agg 2 16 Tryz.underlying36 hi0 hz0 hz1 hz2 rfl (by decide) v l.length (sflat l) hown ⟨g, 0, none⟩ 1 cc (sflat [c]) (sflat_len [c]) hn sflat_one (by omega) (by omega) hb
 refine ⟨v', w', h1, ?_, h3, h5⟩
 unfold OwnSs
 rw [List.length_append, sflat_app]
 exact h2
theorem wpList_append_sta1 {ops : Array Oper} {rest : List Oper} {o : Oper} {a : Act} {w : World} {Q : Exit → Act → World → Prop} (hgd : o.guard = none) (d x : Operand) (hop : o.op = Op.call { callee := Callee.builtin Builtin.append, args := #[d, x], argTypes := #[36, 36] }) (ht : o.type = 36)
 (base : Nat) (v : Value) (l : List Stamp) (c : Stamp) (g cc : Nat) (hd : a.eval d = v) (hx : a.eval x = .slice (some ⟨g, 0, none⟩) 1 cc) (hown : OwnSs w base v l) (hg : w.heap[g]? = some (.cells (staCs c) 45 (0, 0))) (hlen : (l.length + 1) * 16 ≤ 140737488355328) (hb : base ≤ w.heap.size)
 (h : ∀ v' w', OwnSs w' base v' (l ++ [c]) → w.grownBy w' v.ownBlock → (v'.ownBlock = v.ownBlock ∨ v'.ownBlock = some w.heap.size) → wpList Tryz.prog ops Q rest (a.put o.dst v') w') : wpList Tryz.prog ops Q (o :: rest) a w := by
 obtain ⟨v', w', h1, h2, h3, h4⟩ := run_append_sta1 w base v l c g cc hown hg hlen hb
 refine wpList_plain hgd fun K hK => ?_
 unfold Oper.wp
 simp [execOp, hop, ht, resolve, invoke, builtin, hd, hx, h1, Result.andThen]
 exact hK _ _ (h _ _ h2 h3 h4)
theorem run_append_pat1 (w : World) (base : Nat) (v : Value) (l : List Patch) (c : Patch) (g cc : Nat) (hown : OwnPs w base v l) (hg : w.heap[g]? = some (.cells (patCs c) 49 (0, 0))) (hlen : (l.length + 1) * 208 ≤ 140737488355328) (hb : base ≤ w.heap.size) :
 ∃ v' w', (Builtin.append_ #[35, 35] 35 #[v, .slice (some ⟨g, 0, none⟩) 1 cc]).run Tryz.prog w = .ok v' w' ∧ OwnPs w' base v' (l ++ [c]) ∧ w.grownBy w' v.ownBlock ∧ (v'.ownBlock = v.ownBlock ∨ v'.ownBlock = some w.heap.size) := by
 have h9 : (140737488355328 : Nat) ≤ maxLen := by unfold maxLen; omega
 obtain ⟨i0, hi0, hz⟩ := Option.map_eq_some_iff.1 info_pat
 simp only [Prod.mk.injEq] at hz
 obtain ⟨hz0, hz1, hz2⟩ := hz
 have hn : ∀ j u, (pflat [c])[j]? = some u → w.cell? ((⟨g, 0, none⟩ : Addr).add j) = some u := by
  intro j u hu
  obtain ⟨k, i, p, rfl, hp, hv⟩ := pflat_at hu
  obtain ⟨b, o, hA, _, hc⟩ := (RdP.one w c g hg) (by simp)
  cases hA
  have := hc k p hp i u hv
  rw [Go.WideShapes.add_plain, ← Nat.add_assoc]
  exact this
 obtain ⟨v', w', h1, h2, h3, _, h5⟩ := run_append_own_at (P := Tryz.prog) w base 35 35 49 i0 zeroP.agg 15 208 Tryz.underlying35 hi0 hz0 hz1 hz2 rfl (by decide) v l.length (pflat l) hown ⟨g, 0, none⟩ 1 cc (pflat [c]) (pflat_len [c]) hn pflat_one (by omega) (by omega) hb
 refine ⟨v', w', h1, ?_, h3, h5⟩
 unfold OwnPs
 rw [List.length_append, pflat_app]
 exact h2
theorem wpList_append_pat1 {ops : Array Oper} {rest : List Oper} {o : Oper} {a : Act} {w : World} {Q : Exit → Act → World → Prop} (hgd : o.guard = none) (d x : Operand) (hop : o.op = Op.call { callee := Callee.builtin Builtin.append, args := #[d, x], argTypes := #[35, 35] }) (ht : o.type = 35)
 (base : Nat) (v : Value) (l : List Patch) (c : Patch) (g cc : Nat) (hd : a.eval d = v) (hx : a.eval x = .slice (some ⟨g, 0, none⟩) 1 cc) (hown : OwnPs w base v l) (hg : w.heap[g]? = some (.cells (patCs c) 49 (0, 0))) (hlen : (l.length + 1) * 208 ≤ 140737488355328) (hb : base ≤ w.heap.size)
 (h : ∀ v' w', OwnPs w' base v' (l ++ [c]) → w.grownBy w' v.ownBlock → (v'.ownBlock = v.ownBlock ∨ v'.ownBlock = some w.heap.size) → wpList Tryz.prog ops Q rest (a.put o.dst v') w') : wpList Tryz.prog ops Q (o :: rest) a w := by
 obtain ⟨v', w', h1, h2, h3, h4⟩ := run_append_pat1 w base v l c g cc hown hg hlen hb
 refine wpList_plain hgd fun K hK => ?_
 unfold Oper.wp
 simp [execOp, hop, ht, resolve, invoke, builtin, hd, hx, h1, Result.andThen]
 exact hK _ _ (h _ _ h2 h3 h4)
theorem step_append_pat1 {ops : Array Oper} {o : Oper} {a : Act} {w : World} {K : Act → World → Prop} {Q : Exit → Act → World → Prop} {E : Prop}
 (hgd : o.guard = none) (d x : Operand) (hop : o.op = Op.call { callee := Callee.builtin Builtin.append, args := #[d, x], argTypes := #[35, 35] }) (ht : o.type = 35)
 (base : Nat) (v : Value) (l : List Patch) (c : Patch) (g cc : Nat) (hd : a.eval d = v) (hx : a.eval x = .slice (some ⟨g, 0, none⟩) 1 cc) (hown : OwnPs w base v l) (hg : w.heap[g]? = some (.cells (patCs c) 49 (0, 0))) (hlen : (l.length + 1) * 208 ≤ 140737488355328) (hb : base ≤ w.heap.size) (dst : Option Nat) (hdst : o.dst = dst)
 (hK : ∀ v' w', OwnPs w' base v' (l ++ [c]) → w.grownBy w' v.ownBlock → (v'.ownBlock = v.ownBlock ∨ v'.ownBlock = some w.heap.size) → K (a.put dst v') w') :
 if Region.wanted o (yielded ops a.tmps) = true then Oper.wp Tryz.prog o a w K Q else E := by
 subst hdst
 obtain ⟨v', w', h1, h2, h3, h4⟩ := run_append_pat1 w base v l c g cc hown hg hlen hb
 have hw : Region.wanted o (yielded ops a.tmps) = true := by simp [Region.wanted, hgd]
 rw [if_pos hw]
 unfold Oper.wp
 simp [execOp, hop, ht, resolve, invoke, builtin, hd, hx, h1, Result.andThen]
 exact hK _ _ h2 h3 h4
end Go.Proofs.YtecnlfaholmpoaaGreat
