/- Rows of clauses. slices.Clone at clauses. Two clauses of one Id put together. A map as the list of its entries; a range over it. A stamp as a key. -/
import Derived.Test.YtecnlfaholmpoaaGreatJC13
import Derived.Test.YtecnlfaholmpoaaGreatJC14
import Derived.Test.YtecnlfaholmpoaaGreatJC21
import Derived.Test.YtecnlfaholmpoaaGreatJC4
import Derived.Maps.RangeRun
import Derived.Maps.Keyed
import Derived.Maps.Own
import Derived.DeepKeys4
set_option linter.unusedVariables false
set_option linter.unusedSimpArgs false
namespace Go.Proofs.YtecnlfaholmpoaaGreat
open Go.RowKit
def zeroC : Clause := ⟨noStamp, noStamp, zeroP, false⟩
def RdC (w : World) (A : Option Addr) (l : List Clause) : Prop := Sl Clause.cells 20 w A l
theorem RdC.below {w w' : World} {A : Option Addr} {l : List Clause} (h : RdC w A l) (hb : Below w.heap.size w w') : RdC w' A l := Sl.below h hb
def cflat (l : List Clause) : List Value := l.flatMap Clause.cells
theorem cfl_get : ∀ (ps : List Clause) (k : Nat) (p : Clause) (j : Nat) (v : Value), ps[k]? = some p → p.cells[j]? = some v → (cflat ps)[k * 20 + j]? = some v
 | [], k, p, j, v, h, _ => by simp at h
 | q :: r, 0, p, j, v, h, hv => by
   simp at h
   subst h
   have hj : j < q.cells.length := (List.getElem?_eq_some_iff.1 hv).1
   unfold cflat
   rw [List.flatMap_cons, Nat.zero_mul, Nat.zero_add, List.getElem?_append_left hj]
   exact hv
 | q :: r, k + 1, p, j, v, h, hv => by
   have hq : q.cells.length = 20 := rfl
   unfold cflat
   rw [List.flatMap_cons, List.getElem?_append_right (by rw [hq]; omega), hq, show (k + 1) * 20 + j - 20 = k * 20 + j by omega]
   exact cfl_get r k p j v (by simpa using h) hv
theorem cflat_len (l : List Clause) : (cflat l).length = l.length * 20 := by
 induction l with
 | nil => rfl
 | cons a r ih =>
   have : (cflat (a :: r)).length = 20 + (cflat r).length := by unfold cflat; rw [List.flatMap_cons, List.length_append]; rfl
   rw [this, ih, List.length_cons]
   omega
theorem cflat_app (l r : List Clause) : cflat (l ++ r) = cflat l ++ cflat r := by simp [cflat]
theorem cflat_at {l : List Clause} {i : Nat} {v : Value} (h : (cflat l)[i]? = some v) : ∃ k j p, i = k * 20 + j ∧ l[k]? = some p ∧ p.cells[j]? = some v := by
 induction l generalizing i with
 | nil => simp [cflat] at h
 | cons a r ih =>
   have hq : a.cells.length = 20 := rfl
   unfold cflat at h
   rw [List.flatMap_cons] at h
   by_cases hi : i < 20
   · rw [List.getElem?_append_left (by rw [hq]; exact hi)] at h
     exact ⟨0, i, a, by omega, rfl, h⟩
   · rw [List.getElem?_append_right (by rw [hq]; omega), hq] at h
     obtain ⟨k, j, p, e, h1, h2⟩ := ih h
     exact ⟨k + 1, j, p, by omega, by simpa using h1, h2⟩
theorem cflat_one {l : List Clause} : ∀ v ∈ cflat l, v.oneCell' = true := by
 intro v hv
 obtain ⟨p, _, hm⟩ := List.mem_flatMap.1 hv
 exact claCs_one p v (by simpa using hm)
def OwnCs (w : World) (base : Nat) (v : Value) (l : List Clause) : Prop := w.ownsRow base 51 20 v l.length (cflat l)
theorem OwnCs.empty {w : World} {base g : Nat} (h : w.heap[g]? = some (.cells #[] 51 (0, 0))) (hb : base ≤ g) : OwnCs w base (.slice (some ⟨g, 0, none⟩) 0 0) [] := ⟨rfl, .inr ⟨g, 0, #[], rfl, hb, h, Nat.le_refl _, by decide, rfl, rfl⟩⟩
theorem OwnCs.nil (w : World) (base : Nat) : OwnCs w base (.slice none 0 0) [] := ⟨rfl, .inl ⟨rfl, rfl⟩⟩
theorem OwnCs.ge {w : World} {base : Nat} {v : Value} {l : List Clause} (h : OwnCs w base v l) : ∀ b, v.ownBlock = some b → base ≤ b := by
 rcases h.2 with ⟨hv, h0⟩ | ⟨b, cap, cur, rfl, r2, r3, r4⟩
 · intro b hb
   rw [hv] at hb
   simp [Value.ownBlock] at hb
 · intro c hc
   simp [Value.ownBlock] at hc
   subst hc
   exact r2
theorem OwnCs.keep {w w' : World} {base : Nat} {v : Value} {l : List Clause} (h : OwnCs w base v l) (hk : ∀ b, v.ownBlock = some b → w'.heap[b]? = w.heap[b]?) : OwnCs w' base v l := by
 refine ⟨h.1, ?_⟩
 rcases h.2 with h | ⟨b, cap, cur, rfl, r2, r3, r4⟩
 · exact .inl h
 · exact .inr ⟨b, cap, cur, rfl, r2, (hk b rfl).trans r3, r4⟩
theorem OwnCs.lt {w : World} {base : Nat} {v : Value} {l : List Clause} (h : OwnCs w base v l) : ∀ b, v.ownBlock = some b → b < w.heap.size := by
 rcases h.2 with ⟨hv, h0⟩ | ⟨b, cap, cur, rfl, r2, r3, r4⟩
 · intro b hb
   rw [hv] at hb
   simp [Value.ownBlock] at hb
 · intro c hc
   simp [Value.ownBlock] at hc
   subst hc
   exact lt_of_heap r3
theorem OwnCs.below {w w' : World} {base : Nat} {v : Value} {l : List Clause} (h : OwnCs w base v l) (hb : Below w.heap.size w w') : OwnCs w' base v l := h.keep fun b hb1 => hb.block b (h.lt b hb1)
theorem OwnCs.reads {w : World} {base : Nat} {v : Value} {l : List Clause} (h : OwnCs w base v l) : ∃ A c, v = .slice A l.length c ∧ l.length ≤ c ∧ c ≤ maxLen ∧ RdC w A l := by
 rcases h.2 with ⟨hv, h0⟩ | ⟨b, cap, cur, rfl, r2, r3, r4, r5, r6, r7⟩
 · have : l = [] := List.length_eq_zero_iff.1 h0
   subst this
   exact ⟨none, 0, by simpa using hv, Nat.le_refl _, by decide, fun h => absurd rfl h⟩
 · refine ⟨some ⟨b, 0, none⟩, cap, rfl, r4, r5, fun _ => ⟨b, 0, rfl, lt_of_heap r3, fun k x hx j v hv => ?_⟩⟩
   rw [cell_of_row _ _ _ _ _ _ r3, Nat.zero_add]
   have h1 := cfl_get l k x j v hx hv
   rw [← r7, List.getElem?_take] at h1
   split at h1
   · rw [← Array.getElem?_toList]; exact h1
   · cases h1
theorem info_cla : (Tryz.prog.info? 51).map (fun i => (i.zero, i.size, i.bytes)) = some (some zeroC.agg, 20, 248) := by kernel_rfl
theorem run_append_clas (w : World) (base : Nat) (v : Value) (l1 l2 : List Clause) (B : Option Addr) (cc : Nat) (hown : OwnCs w base v l1) (hr : RdC w B l2) (hlen : (l1.length + l2.length) * 248 ≤ 140737488355328) (hb : base ≤ w.heap.size) :
 ∃ v' w', (Builtin.append_ #[25, 25] 25 #[v, .slice B l2.length cc]).run Tryz.prog w = .ok v' w' ∧ OwnCs w' base v' (l1 ++ l2) ∧ w.grownBy w' v.ownBlock := by
 have h9 : (140737488355328 : Nat) ≤ maxLen := by unfold maxLen; omega
 obtain ⟨i0, hi0, hz⟩ := Option.map_eq_some_iff.1 info_cla
 simp only [Prod.mk.injEq] at hz
 obtain ⟨hz0, hz1, hz2⟩ := hz
 cases B with
 | none =>
   have : l2 = [] := by
    by_cases h : l2 = []
    · exact h
    · obtain ⟨b, o, hA, _⟩ := hr h; cases hA
   subst this
   refine ⟨v, w, ?_, by simpa using hown, ⟨rfl, rfl, rfl, Nat.le_refl _, fun _ _ _ => rfl⟩⟩
   rcases hown.2 with ⟨rfl, h0⟩ | ⟨g, cap, cur, rfl, _, _, hnc, _⟩
   · simp [Builtin.append_, run_underlying Tryz.underlying25, sizeOf, typeInfo, hi0, Builtin.lenOf, Builtin.firstCells]
   · simp [Builtin.append_, run_underlying Tryz.underlying25, sizeOf, typeInfo, hi0, Builtin.lenOf, Builtin.firstCells, hnc, storeCells]
 | some a =>
   have hn : ∀ j u, (cflat l2)[j]? = some u → w.cell? (a.add j) = some u := by
    intro j u hu
    obtain ⟨k, i, p, rfl, hp, hv⟩ := cflat_at hu
    obtain ⟨b, o, hA, _, hc⟩ := hr (by rintro rfl; simp at hp)
    cases hA
    have := hc k p hp i u hv
    rw [Go.WideShapes.add_plain, ← Nat.add_assoc]
    exact this
   obtain ⟨v', w', h1, h2, h3, _⟩ := run_append_own (P := Tryz.prog) w base 25 25 51 i0 zeroC.agg 20 248 Tryz.underlying25 hi0 hz0 hz1 hz2 rfl (by decide) v l1.length (cflat l1) hown a l2.length cc (cflat l2) (cflat_len l2) hn cflat_one (by omega) (by omega) hb
   refine ⟨v', w', h1, ?_, h3⟩
   unfold OwnCs
   rw [List.length_append, cflat_app]
   exact h2
theorem wpList_append_clas {ops : Array Oper} {rest : List Oper} {o : Oper} {a : Act} {w : World} {Q : Exit → Act → World → Prop} (hgd : o.guard = none) (d x : Operand) (hop : o.op = Op.call { callee := Callee.builtin Builtin.append, args := #[d, x], argTypes := #[25, 25] }) (ht : o.type = 25)
 (base : Nat) (v : Value) (l1 l2 : List Clause) (B : Option Addr) (n cc : Nat) (hnn : n = l2.length) (hd : a.eval d = v) (hx : a.eval x = .slice B n cc) (hown : OwnCs w base v l1) (hr : RdC w B l2) (hlen : (l1.length + l2.length) * 248 ≤ 140737488355328) (hb : base ≤ w.heap.size)
 (h : ∀ v' w', OwnCs w' base v' (l1 ++ l2) → w.grownBy w' v.ownBlock → wpList Tryz.prog ops Q rest (a.put o.dst v') w') : wpList Tryz.prog ops Q (o :: rest) a w := by
 subst hnn
 obtain ⟨v', w', h1, h2, h3⟩ := run_append_clas w base v l1 l2 B cc hown hr hlen hb
 refine wpList_plain hgd fun K hK => ?_
 unfold Oper.wp
 simp [execOp, hop, ht, resolve, invoke, builtin, hd, hx, h1, Result.andThen]
 exact hK _ _ (h _ _ h2 h3)
theorem RdC.one (w : World) (p : Clause) (g : Nat) (h : w.heap[g]? = some (.cells (claCs p) 51 (0, 0))) : RdC w (some ⟨g, 0, none⟩) [p] := by
 intro _
 refine ⟨g, 0, rfl, lt_of_heap h, fun k x hx j v hv => ?_⟩
 cases k with
 | succ k => simp at hx
 | zero =>
   simp at hx
   subst hx
   rw [show 0 + 0 * 20 + j = j by omega, cell_of_row _ _ _ _ _ _ h, List.getElem?_toArray]
   exact hv
end Go.Proofs.YtecnlfaholmpoaaGreat
namespace Go.Proofs.YtecnlfaholmpoaaGreat
open Go.RowKit
theorem RdC.add_cell {w : World} {a : Addr} {l : List Clause} (hr : RdC w (some a) l) : ∀ j u, (cflat l)[j]? = some u → w.cell? (a.add j) = some u := by
 intro j u hu
 obtain ⟨k, i, p, rfl, hp, hv⟩ := cflat_at hu
 obtain ⟨b, o, hA, _, hc⟩ := hr (by rintro rfl; simp at hp)
 cases hA
 have := hc k p hp i u hv
 rw [Go.WideShapes.add_plain, ← Nat.add_assoc]
 exact this
theorem clone_clas (l : List Clause) (A : Option Addr) (c : Nat) (w : World) (hr : RdC w A l) (hl : l.length ≤ 100000) :
 Calls Tryz.prog 79 #[.slice A l.length c] w fun e w' => ∃ v, e = .returned v ∧ OwnCs w' w.heap.size v l ∧ Below w.heap.size w w' := by
 cases A with
 | none =>
   have hl0 : l = [] := by
    cases l with
    | nil => rfl
    | cons x r => obtain ⟨b, o, hA, _⟩ := hr (by simp); cases hA
   subst hl0
   have heq := fun W n => Lib.run_eql_slice_nil (P := Tryz.prog) W 25 51 none n c 0 0 Tryz.underlying25
   go_enter Tryz.func79, Tryz.ntmps79
   go_wp2
   go_ret
   exact ⟨_, rfl, World.ownsRow_nil _ _ _ _, Below.refl _ _⟩
 | some a =>
   obtain ⟨i0, hi0, hz0, hz1, hz2⟩ := info_parts info_cla
   have Hi0 := Lib.hid hi0; clear hi0
   have Hz0 := Lib.hid hz0; clear hz0
   have Hz1 := Lib.hid hz1; clear hz1
   have Hz2 := Lib.hid hz2; clear hz2
   have HR := Lib.hid hr; clear hr
   have heq := fun W => Lib.run_eql_slice_nil (P := Tryz.prog) W 25 51 (some a) l.length c 0 0 Tryz.underlying25
   go_enter Tryz.func79, Tryz.ntmps79
   go_wp2_with (at_builtin; refine wpList_append_own _ rfl (.tmp 5) (.tmp 6) _ rfl w.heap.size 51 i0 zeroC.agg 20 248 Tryz.underlying25 Hi0.out Hz0.out Hz1.out Hz2.out rfl (by decide) (.slice (some ⟨w.heap.size, 0, none⟩) 0 0) 0 [] rfl (OwnCs.empty (heap_alloc_new _ _) (Nat.le_refl _)) a l.length c (cflat l) rfl (by rw [cflat_len]) (RdC.add_cell (HR.out.below ((Below.refl _ _).alloc (Nat.le_refl _) _))) cflat_one (le_maxLen (by omega)) (by omega) (by simp) ?_; intro v' w1 hown hgr _)
   go_ret
   exact ⟨v', rfl, by simpa [OwnCs] using hown, ((Below.refl _ _).alloc (Nat.le_refl _) _).grown hgr (by simp) (by simp [Value.ownBlock])⟩
end Go.Proofs.YtecnlfaholmpoaaGreat
set_option maxRecDepth 20000
set_option maxHeartbeats 4000000
namespace Go.Proofs.YtecnlfaholmpoaaGreat
open Go.RowKit
theorem blk_setRow_ne' {w : World} {b k : Nat} {D : Array Value} (h : k ≠ b) : (w.setRow b D).blk k = w.blk k := setRow_other _ _ _ _ h
theorem below3 (w : World) (x y z : Obj) : Below w.heap.size w (((w.alloc x).alloc y).alloc z) := (((Below.refl w.heap.size w).alloc (Nat.le_refl _) x).alloc (by simp) y).alloc (by simp; omega) z
theorem merge_true (i s : Stamp) (p : Patch) (b : Clause) (r : Bool) (hr : clEq (⟨i, s, p, true⟩ : Clause) ({ b with gone := true } : Clause) = r) (w : World) : Calls Tryz.prog 69 #[(⟨i, s, p, true⟩ : Clause).agg, b.agg] w fun e w' => e = .returned (.tuple #[(⟨i, s, p, true⟩ : Clause).agg, .bool r]) ∧ Below w.heap.size w w' := by
 have HR := Lib.hid hr; clear hr
 go_enter Tryz.func69, Tryz.ntmps69
 go_wp2_with fail
 generalize hW : World.alloc (World.alloc (World.alloc w _) _) _ = w3
 have h9 : Below w.heap.size w w3 ∧ w3.blk (w.heap.size) = some (.cells (claCs (⟨i, s, p, true⟩ : Clause)) 51 (0, 0)) ∧ w3.blk (w.heap.size + 1) = some (.cells (claCs ({ b with gone := true } : Clause)) 51 (0, 0)) ∧ w3.blk (w.heap.size + 1 + 1) = some (.cells (claCs zeroCl) 51 (0, 0)) := by
  rw [← hW]
  exact ⟨below3 _ _ _ _, by simp [go_sem], by simp [go_sem], by simp [go_sem, zeroCl]⟩
 clear hW
 obtain ⟨hb, k0, k1, k2⟩ := h9
 refine wp_region_held_drew (S := (fun X => X.blk (w.heap.size) = some (.cells (claCs (⟨i, s, p, true⟩ : Clause)) 51 (0, 0)) ∧ X.blk (w.heap.size + 1) = some (.cells (claCs ({ b with gone := true } : Clause)) 51 (0, 0)))) (by kernel_rfl) ⟨k0, k1⟩ (fun hHeld => ?_)
 refine takeF (i := 0) (v := (⟨i, s, p, true⟩ : Clause).agg) (k := 17) rfl rfl (by kernel_rfl) (by kernel_rfl) (by kernel_rfl) (fun _ _ _ h => h) (Or.inl ⟨by rfl, fun z hz => by (obtain ⟨z0, z1⟩ := hz; go_simp)⟩) hHeld ?_
 try simp only [Act.put, sia, sc0, scs]
 refine takeF (i := 1) (v := (⟨i, s, p, true⟩ : Clause).agg) (k := 18) rfl rfl (by kernel_rfl) (by kernel_rfl) (by kernel_rfl) (fun _ _ _ h => h) (Or.inl ⟨by rfl, fun z hz => by (obtain ⟨z0, z1⟩ := hz; go_simp)⟩) hHeld ?_
 try simp only [Act.put, sia, sc0, scs]
 refine takeF (i := 2) (v := ({ b with gone := true } : Clause).agg) (k := 19) rfl rfl (by kernel_rfl) (by kernel_rfl) (by kernel_rfl) (fun _ _ _ h => h) (Or.inl ⟨by rfl, fun z hz => by (obtain ⟨z0, z1⟩ := hz; go_simp)⟩) hHeld ?_
 try simp only [Act.put, sia, sc0, scs]
 refine takeF (i := 3) (v := .bool r) (k := 20) rfl rfl (by kernel_rfl) (by kernel_rfl) (by kernel_rfl) (fun _ _ _ h => h) (Or.inl ⟨by rfl, fun z hz => by (clear hz; have hq := run_eqlCl (⟨i, s, p, true⟩ : Clause) ({ b with gone := true } : Clause) z; rw [HR.out] at hq; go_simp)⟩) hHeld ?_
 try simp only [Act.put, sia, sc0, scs]
 refine wpAnyH_ready (rs := [4]) (by kernel_rfl) (by simp) (AllReadyH.cons rfl (fun K hK => ?_) AllReadyH.nil)
 refine step_store_cla rfl (.tmp 4) (.tmp 17) rfl (w.heap.size + 1 + 1) (⟨i, s, p, true⟩ : Clause) zeroCl rfl rfl k2 ?_
 refine hK.out _ _ ⟨(blk_setRow_ne' (by omega)).trans hHeld.1, (blk_setRow_ne' (by omega)).trans hHeld.2⟩ (fun hHeld => ?_)
 clear hK K
 try simp only [Act.put, sia, sc0, scs]
 refine takeF (i := 5) (v := .bool r) (k := 5) rfl rfl (by kernel_rfl) (by kernel_rfl) (by kernel_rfl) (fun _ _ _ h => h) (Or.inl ⟨by rfl, fun z hz => by (obtain ⟨z0, z1⟩ := hz; go_simp)⟩) hHeld ?_
 try simp only [Act.put, sia, sc0, scs]
 refine wpAnyH_done (by kernel_rfl) ?_ _
 go_wp2_with fail
 have D2 : w3.drew.blk (w.heap.size + 1 + 1) = some (.cells (claCs zeroCl) 51 (0, 0)) := k2
 refine bodyPost_ret (v := .tuple #[(⟨i, s, p, true⟩ : Clause).agg, .bool r]) (results_cla Tryz.results69 rfl rfl (setRow_heap _ _ _ _ _ _ D2)) rfl ⟨rfl, ?_⟩
 exact below_setRow hb.drew (by omega) _
theorem merge_false (i s : Stamp) (p : Patch) (b : Clause) (r : Bool) (hr : clEq (⟨i, s, p, b.gone⟩ : Clause) b = r) (w : World) : Calls Tryz.prog 69 #[(⟨i, s, p, false⟩ : Clause).agg, b.agg] w fun e w' => e = .returned (.tuple #[(⟨i, s, p, b.gone⟩ : Clause).agg, .bool r]) ∧ Below w.heap.size w w' := by
 have HR := Lib.hid hr; clear hr
 go_enter Tryz.func69, Tryz.ntmps69
 go_wp2_with fail
 generalize hW : World.alloc (World.alloc (World.alloc w _) _) _ = w3
 have h9 : Below w.heap.size w w3 ∧ w3.blk (w.heap.size) = some (.cells (claCs (⟨i, s, p, b.gone⟩ : Clause)) 51 (0, 0)) ∧ w3.blk (w.heap.size + 1) = some (.cells (claCs b) 51 (0, 0)) ∧ w3.blk (w.heap.size + 1 + 1) = some (.cells (claCs zeroCl) 51 (0, 0)) := by
  rw [← hW]
  exact ⟨below3 _ _ _ _, by simp [go_sem], by simp [go_sem], by simp [go_sem, zeroCl]⟩
 clear hW
 obtain ⟨hb, k0, k1, k2⟩ := h9
 refine wp_region_held_drew (S := (fun X => X.blk (w.heap.size) = some (.cells (claCs (⟨i, s, p, b.gone⟩ : Clause)) 51 (0, 0)) ∧ X.blk (w.heap.size + 1) = some (.cells (claCs b) 51 (0, 0)))) (by kernel_rfl) ⟨k0, k1⟩ (fun hHeld => ?_)
 refine takeF (i := 0) (v := (⟨i, s, p, b.gone⟩ : Clause).agg) (k := 17) rfl rfl (by kernel_rfl) (by kernel_rfl) (by kernel_rfl) (fun _ _ _ h => h) (Or.inl ⟨by rfl, fun z hz => by (obtain ⟨z0, z1⟩ := hz; go_simp)⟩) hHeld ?_
 try simp only [Act.put, sia, sc0, scs]
 refine takeF (i := 1) (v := (⟨i, s, p, b.gone⟩ : Clause).agg) (k := 18) rfl rfl (by kernel_rfl) (by kernel_rfl) (by kernel_rfl) (fun _ _ _ h => h) (Or.inl ⟨by rfl, fun z hz => by (obtain ⟨z0, z1⟩ := hz; go_simp)⟩) hHeld ?_
 try simp only [Act.put, sia, sc0, scs]
 refine takeF (i := 2) (v := b.agg) (k := 19) rfl rfl (by kernel_rfl) (by kernel_rfl) (by kernel_rfl) (fun _ _ _ h => h) (Or.inl ⟨by rfl, fun z hz => by (obtain ⟨z0, z1⟩ := hz; go_simp)⟩) hHeld ?_
 try simp only [Act.put, sia, sc0, scs]
 refine takeF (i := 3) (v := .bool r) (k := 20) rfl rfl (by kernel_rfl) (by kernel_rfl) (by kernel_rfl) (fun _ _ _ h => h) (Or.inl ⟨by rfl, fun z hz => by (clear hz; have hq := run_eqlCl (⟨i, s, p, b.gone⟩ : Clause) b z; rw [HR.out] at hq; go_simp)⟩) hHeld ?_
 try simp only [Act.put, sia, sc0, scs]
 refine wpAnyH_ready (rs := [4]) (by kernel_rfl) (by simp) (AllReadyH.cons rfl (fun K hK => ?_) AllReadyH.nil)
 refine step_store_cla rfl (.tmp 4) (.tmp 17) rfl (w.heap.size + 1 + 1) (⟨i, s, p, b.gone⟩ : Clause) zeroCl rfl rfl k2 ?_
 refine hK.out _ _ ⟨(blk_setRow_ne' (by omega)).trans hHeld.1, (blk_setRow_ne' (by omega)).trans hHeld.2⟩ (fun hHeld => ?_)
 clear hK K
 try simp only [Act.put, sia, sc0, scs]
 refine takeF (i := 5) (v := .bool r) (k := 5) rfl rfl (by kernel_rfl) (by kernel_rfl) (by kernel_rfl) (fun _ _ _ h => h) (Or.inl ⟨by rfl, fun z hz => by (obtain ⟨z0, z1⟩ := hz; go_simp)⟩) hHeld ?_
 try simp only [Act.put, sia, sc0, scs]
 refine wpAnyH_done (by kernel_rfl) ?_ _
 go_wp2_with fail
 have D2 : w3.drew.blk (w.heap.size + 1 + 1) = some (.cells (claCs zeroCl) 51 (0, 0)) := k2
 refine bodyPost_ret (v := .tuple #[(⟨i, s, p, b.gone⟩ : Clause).agg, .bool r]) (results_cla Tryz.results69 rfl rfl (setRow_heap _ _ _ _ _ _ D2)) rfl ⟨rfl, ?_⟩
 exact below_setRow hb.drew (by omega) _
def Clause.or (a b : Clause) : Clause := { a with gone := a.gone || b.gone }
theorem merge_any (a b : Clause) (w : World) : Calls Tryz.prog 69 #[a.agg, b.agg] w fun e w' => e = .returned (.tuple #[(a.or b).agg, .bool (decide (a.id = b.id) && (decide (a.after = b.after) && patEq a.patch b.patch))]) ∧ Below w.heap.size w w' := by
 obtain ⟨i, s, p, g⟩ := a
 cases g with
 | true =>
   have := merge_true i s p b _ rfl w
   simpa [clEq, Clause.or] using this
 | false =>
   have := merge_false i s p b _ rfl w
   simpa [clEq, Clause.or] using this
end Go.Proofs.YtecnlfaholmpoaaGreat
namespace Go.Proofs.YtecnlfaholmpoaaGreat
open Go.ChangeMaps (setBlock modify_eq_set)
open Go.MapKept (Stamped stamped_iff stamped_push stamped_modify stamped_empty)
open Go.Maps (Keyed)
variable {P : Program} {k t e : TypeId}
structure KMap (P : Program) (k : TypeId) (w : World) (b : Nat) (kv : List (Value × Value)) : Prop where
 is : ∃ es clock, w.heap[b]? = some (.map es clock) ∧ es.toList.map (fun e => (e.key, e.val)) = kv ∧ Stamped es clock
 keys : ∀ p ∈ kv, ∃ l, keyOf P k p.1 = some l
theorem KMap.lt {w : World} {b : Nat} {kv : List (Value × Value)} (h : KMap P k w b kv) : b < w.heap.size := by
 obtain ⟨es, clock, hh, _⟩ := h.is
 exact (Array.getElem?_eq_some_iff.1 hh).1
theorem KMap.keep {w w' : World} {b : Nat} {kv : List (Value × Value)} (h : KMap P k w b kv) (hk : w'.heap[b]? = w.heap[b]?) : KMap P k w' b kv := by
 obtain ⟨es, clock, hh, he⟩ := h.is
 exact ⟨⟨es, clock, hk.trans hh, he⟩, h.keys⟩
theorem KMap.made (w : World) (c : Nat) : KMap P k (w.alloc (.map #[] c)) w.heap.size [] := ⟨⟨#[], c, heap_alloc_new w _, rfl, stamped_empty c⟩, by simp⟩
theorem kv_one {kv : List (Value × Value)} (h : (kv.map (·.1)).Nodup) {x v v' : Value} (h1 : (x, v) ∈ kv) (h2 : (x, v') ∈ kv) : v = v' := by
 induction kv with
 | nil => cases h1
 | cons a r ih =>
   simp only [List.map_cons, List.nodup_cons, List.mem_map, not_exists, not_and] at h
   rcases List.mem_cons.1 h1 with e1 | e1
   · rcases List.mem_cons.1 h2 with e2 | e2
     · rw [← e1] at e2; cases e2; rfl
     · exact absurd (by rw [← e1]) (h.1 _ e2)
   · rcases List.mem_cons.1 h2 with e2 | e2
     · exact absurd (by rw [← e2]) (h.1 _ e1)
     · exact ih h.2 e1 e2
theorem KMap.nodup {w : World} {b : Nat} {kv : List (Value × Value)} (h : KMap P k w b kv) : (kv.map (·.1)).Nodup := by
 obtain ⟨es, clock, hh, rfl, hs⟩ := h.is
 rw [List.map_map]
 exact hs.2.2
theorem find_hit (K : Keyed P k) {w : World} {es : List MapEntry} {kv : List (Value × Value)} (he : es.map (fun e => (e.key, e.val)) = kv) (hkeys : ∀ p ∈ kv, ∃ l, keyOf P k p.1 = some l) (hn : (kv.map (·.1)).Nodup) {key v : Value} {l : Lit} (hk : keyOf P k key = some l) (hm : (key, v) ∈ kv) :
 ∃ j e0, (Instr.findKey k key es).run P w = .ok (some (j, v)) w ∧ es[j]? = some e0 ∧ e0.key = key ∧ e0.val = v := by
 subst he
 rcases K.find w hk es (fun x hx => hkeys (x.key, x.val) (List.mem_map.2 ⟨x, hx, rfl⟩)) with ⟨h1, h2⟩ | ⟨j, e0, h1, h2, h3⟩
 · obtain ⟨x, hx, hxe⟩ := List.mem_map.1 hm
   exact absurd (congrArg Prod.fst hxe) (h2 x hx)
 · have hv : e0.val = v := kv_one hn (List.mem_map.2 ⟨e0, List.mem_of_getElem? h2, by rw [← h3]⟩) hm
   exact ⟨j, e0, by rw [h1, hv], h2, h3, hv⟩
theorem find_miss (K : Keyed P k) {w : World} {es : List MapEntry} {kv : List (Value × Value)} (he : es.map (fun e => (e.key, e.val)) = kv) (hkeys : ∀ p ∈ kv, ∃ l, keyOf P k p.1 = some l) {key : Value} {l : Lit} (hk : keyOf P k key = some l) (hm : ∀ p ∈ kv, p.1 ≠ key) :
 (Instr.findKey k key es).run P w = .ok none w := by
 subst he
 rcases K.find w hk es (fun x hx => hkeys (x.key, x.val) (List.mem_map.2 ⟨x, hx, rfl⟩)) with ⟨h1, h2⟩ | ⟨j, e0, h1, h2, h3⟩
 · exact h1
 · exact absurd h3 (hm (e0.key, e0.val) (List.mem_map.2 ⟨e0, List.mem_of_getElem? h2, rfl⟩))
theorem KMap.hit (K : Keyed P k) (ht : P.underlying t = some (.map k e)) {w : World} {b : Nat} {kv : List (Value × Value)} (h : KMap P k w b kv) {key v : Value} {l : Lit} (hk : keyOf P k key = some l) (hm : (key, v) ∈ kv) (ok : Bool) :
 (Instr.lookup t (.map (some b)) key ok).run P w = .ok (if ok then .tuple #[v, .bool true] else v) w := by
 have hn := h.nodup
 obtain ⟨es, clock, hb, he, hs⟩ := h.is
 obtain ⟨j, e0, h1, _, _, _⟩ := find_hit K (w := w) he h.keys hn hk hm
 simp [Instr.lookup, run_underlying ht, MapKept.run_getObj_map hb, K.check w _ hk, h1, Result.andThen]
theorem KMap.miss (K : Keyed P k) (ht : P.underlying t = some (.map k e)) {w : World} {b : Nat} {kv : List (Value × Value)} (h : KMap P k w b kv) {key z : Value} {l : Lit} (hk : keyOf P k key = some l) (hm : ∀ p ∈ kv, p.1 ≠ key) (hz : (zeroValue e).run P w = .ok z w) (ok : Bool) :
 (Instr.lookup t (.map (some b)) key ok).run P w = .ok (if ok then .tuple #[z, .bool false] else z) w := by
 obtain ⟨es, clock, hb, he, hs⟩ := h.is
 have h1 := find_miss K (w := w) he h.keys hk hm
 simp [Instr.lookup, run_underlying ht, MapKept.run_getObj_map hb, K.check w _ hk, h1, hz, Result.andThen]
theorem KMap.put_new (K : Keyed P k) (ht : P.underlying t = some (.map k e)) {w : World} {b : Nat} {kv : List (Value × Value)} (h : KMap P k w b kv) {key : Value} (v : Value) {l : Lit} (hk : keyOf P k key = some l) (hm : ∀ p ∈ kv, p.1 ≠ key) :
 ∃ o, (Instr.mapUpdate t (.map (some b)) key v).run P w = .ok () (setBlock w b o) ∧ KMap P k (setBlock w b o) b (kv ++ [(key, v)]) := by
 obtain ⟨es, clock, hb, he, hs⟩ := h.is
 have h1 := find_miss K (w := w) he h.keys hk hm
 refine ⟨.map (es.push ⟨key, v, clock⟩) (clock + 1), ?_, ⟨⟨_, _, ChangeMaps.heap_setBlock_same hb _, by simp [he], stamped_push hs (fun x hx e1 => hm (x.key, x.val) (by rw [← he]; exact List.mem_map.2 ⟨x, hx, rfl⟩) e1)⟩, ?_⟩⟩
 · simp [Instr.mapUpdate, run_underlying ht, MapKept.run_getObj_map hb, K.check w false hk, h1, MapKept.run_setObj_map _ hb, Result.andThen, setBlock]
 · intro p hp
   rcases List.mem_append.1 hp with hp | hp
   · exact h.keys p hp
   · obtain rfl : p = (key, v) := by simpa using hp
     exact ⟨l, hk⟩
theorem KMap.put_old (K : Keyed P k) (ht : P.underlying t = some (.map k e)) {w : World} {b : Nat} {kv : List (Value × Value)} (h : KMap P k w b kv) {key v0 : Value} (v : Value) {l : Lit} (hk : keyOf P k key = some l) (hm : (key, v0) ∈ kv) :
 ∃ o, (Instr.mapUpdate t (.map (some b)) key v).run P w = .ok () (setBlock w b o) ∧ ∃ kv', KMap P k (setBlock w b o) b kv' ∧ ∀ u r, kv = u ++ (key, v0) :: r → kv' = u ++ (key, v) :: r := by
 have hn := h.nodup
 obtain ⟨es, clock, hb, he, hs⟩ := h.is
 obtain ⟨j, e0, h1, h2, h3, h4⟩ := find_hit K (w := w) he h.keys hn hk hm
 have hj : es[j]? = some e0 := by simpa using h2
 have hlist : (es.modify j (fun e' => { e' with key := key, val := v })).toList = es.toList.set j { e0 with key := key, val := v } := by rw [Array.toList_modify, modify_eq_set _ _ _ _ h2]
 have hjk : kv[j]? = some (key, v0) := by rw [← he, List.getElem?_map, h2]; simp [h3, h4]
 have hkv : (es.toList.set j { e0 with key := key, val := v }).map (fun e => (e.key, e.val)) = kv.set j (key, v) := by rw [List.map_set, he]
 refine ⟨.map (es.modify j fun e' => { e' with key := key, val := v }) clock, ?_, kv.set j (key, v), ⟨⟨_, _, ChangeMaps.heap_setBlock_same hb _, by rw [hlist, hkv], stamped_modify hs _ _ (fun _ _ => rfl) (fun e' _ he' => by rw [hj] at he'; cases he'; exact h3.symm)⟩, ?_⟩, ?_⟩
 · simp [Instr.mapUpdate, run_underlying ht, MapKept.run_getObj_map hb, K.check w false hk, h1, hj, h3, K.stays w hk, MapKept.run_setObj_map _ hb, Result.andThen, setBlock]
 · intro p hp
   rcases List.mem_or_eq_of_mem_set hp with hp | rfl
   · exact h.keys p hp
   · exact ⟨l, hk⟩
 · rintro u r rfl
   have hju : j = u.length := by
    rcases Nat.lt_trichotomy j u.length with h5 | h5 | h5
    · exfalso
      rw [List.getElem?_append_left h5] at hjk
      have hu := List.mem_of_getElem? hjk
      rw [List.map_append, List.nodup_append] at hn
      exact hn.2.2 key (List.mem_map.2 ⟨_, hu, rfl⟩) key (by simp) rfl
    · exact h5
    · exfalso
      rw [List.getElem?_append_right (by omega)] at hjk
      obtain ⟨i, hi⟩ : ∃ i, j - u.length = i + 1 := ⟨j - u.length - 1, by omega⟩
      rw [hi, List.getElem?_cons_succ] at hjk
      have hr := List.mem_of_getElem? hjk
      rw [List.map_append, List.nodup_append, List.map_cons, List.nodup_cons] at hn
      exact hn.2.1.1 (List.mem_map.2 ⟨_, hr, rfl⟩)
   subst hju
   rw [List.set_append_right _ _ (Nat.le_refl _)]
   simp
structure KIter (P : Program) (k : TypeId) (w : World) (b r : Nat) (kv left : List (Value × Value)) : Prop where
 is : ∃ es clock seen, w.heap[b]? = some (.map es clock) ∧ es.toList.map (fun e => (e.key, e.val)) = kv ∧ Stamped es clock ∧ w.heap[r]? = some (.mapIter (some b) clock seen clock) ∧
  (leftOf es seen).toList.map (fun e => (e.key, e.val)) = left
 keys : ∀ p ∈ kv, ∃ l, keyOf P k p.1 = some l
theorem KIter.map {w : World} {b r : Nat} {kv left : List (Value × Value)} (h : KIter P k w b r kv left) : KMap P k w b kv := by
 obtain ⟨es, clock, seen, h1, h2, h3, _⟩ := h.is
 exact ⟨⟨es, clock, h1, h2, h3⟩, h.keys⟩
theorem KIter.lt {w : World} {b r : Nat} {kv left : List (Value × Value)} (h : KIter P k w b r kv left) : b < w.heap.size ∧ r < w.heap.size ∧ b ≠ r := by
 obtain ⟨es, clock, seen, h1, h2, h3, h4, h5⟩ := h.is
 refine ⟨(Array.getElem?_eq_some_iff.1 h1).1, (Array.getElem?_eq_some_iff.1 h4).1, fun e => ?_⟩
 subst e
 rw [h1] at h4
 cases h4
theorem KIter.keep {w w' : World} {b r : Nat} {kv left : List (Value × Value)} (h : KIter P k w b r kv left) (hb : w'.heap[b]? = w.heap[b]?) (hr : w'.heap[r]? = w.heap[r]?) : KIter P k w' b r kv left := by
 obtain ⟨es, clock, seen, h1, h2, h3, h4, h5⟩ := h.is
 exact ⟨⟨es, clock, seen, hb.trans h1, h2, h3, hr.trans h4, h5⟩, h.keys⟩
theorem KMap.range (ht : P.underlying t = some (.map k e)) {w : World} {b : Nat} {kv : List (Value × Value)} (h : KMap P k w b kv) :
 ∃ o, (Instr.range t (.map (some b))).run P w = .ok (.pointer (some ⟨w.heap.size, 0, none⟩)) (w.alloc o) ∧ KIter P k (w.alloc o) b w.heap.size kv kv := by
 have hlt := h.lt
 obtain ⟨es, clock, hb, he, hs⟩ := h.is
 refine ⟨.mapIter (some b) clock #[] clock, ?_, ⟨⟨es, clock, #[], ?_, he, hs, heap_alloc_new w _, ?_⟩, h.keys⟩⟩
 · simp [Instr.range, run_underlying ht, MapKept.run_getObj_map hb, newObj, Sem.run, Result.andThen]
 · show (w.heap.push _)[b]? = _
   rw [Array.getElem?_push_lt hlt, ← hb, Array.getElem?_eq_getElem hlt]
 · have : (fun e : MapEntry => !(#[] : Array Nat).contains e.born) = fun _ => true := by funext x; simp
   unfold leftOf
   rw [this, Array.toList_filter, List.filter_eq_self.2 (fun _ _ => rfl), he]
theorem strike_perm : ∀ (L : List MapEntry) (e0 : MapEntry), (L.map (·.born)).Nodup → e0 ∈ L → L.Perm (e0 :: L.filter fun x => !(x.born == e0.born))
 | [], _, _, h => by cases h
 | a :: r, e0, hn, h => by
   simp only [List.map_cons, List.nodup_cons, List.mem_map, not_exists, not_and] at hn
   rcases List.mem_cons.1 h with h | h
   · subst h
     have : r.filter (fun x => !(x.born == e0.born)) = r := List.filter_eq_self.2 fun x hx => by simpa using hn.1 x hx
     simp [this]
   · have hne : (a.born == e0.born) = false := by simpa using fun e1 => hn.1 e0 h e1.symm
     rw [List.filter_cons]
     simp only [hne, Bool.not_false, if_true]
     exact ((strike_perm r e0 hn.2 h).cons a).trans (List.Perm.swap _ _ _)
theorem KIter.next {w : World} {b r : Nat} {kv left : List (Value × Value)} (ty : TypeId) (h : KIter P k w b r kv left) :
 (left = [] ∧ (Instr.next (.pointer (some ⟨r, 0, none⟩)) false ty).run P w = .ok (.tuple #[.bool false]) w) ∨
 ∃ p left' w1 o, (w1 = w ∨ w1 = w.drew) ∧ left.Perm (p :: left') ∧ (Instr.next (.pointer (some ⟨r, 0, none⟩)) false ty).run P w = .ok (.tuple #[.bool true, p.1, p.2]) (setBlock w1 r o) ∧
  KIter P k (setBlock w1 r o) b r kv left' ∧ (∀ w' : World, w'.heap[b]? = (setBlock w1 r o).heap[b]? → w'.heap[r]? = (setBlock w1 r o).heap[r]? → (Instr.entry (.pointer (some ⟨r, 0, none⟩))).run P w' = .ok (.tuple #[p.1, p.2]) w') := by
 obtain ⟨l1, l2, hne⟩ := h.lt
 obtain ⟨es, clock, seen, h1, h2, h3, h4, h5⟩ := h.is
 have hst := (stamped_iff es clock).1 h3
 rcases run_next_at (P := P) w ty r b clock clock seen es clock h4 h1 hst.1 (Nat.le_refl _) with ⟨a1, a2⟩ | ⟨e0, he0, w1, hw1, hrun⟩
 · refine Or.inl ⟨?_, a2⟩
   rw [← h5, Array.eq_empty_of_size_eq_zero a1]
   rfl
 · refine Or.inr ⟨(e0.key, e0.val), (leftOf es (seen.push e0.born)).toList.map (fun e => (e.key, e.val)), w1, _, hw1, ?_, hrun, ?_⟩
   · rw [← h5]
     have hn : ((leftOf es seen).toList.map (·.born)).Nodup := by
      unfold leftOf
      rw [Array.toList_filter]
      exact (List.filter_sublist.map _).nodup hst.2.1
     have := (strike_perm _ e0 hn he0).map fun e : MapEntry => (e.key, e.val)
     refine this.trans ?_
     rw [List.map_cons]
     refine List.Perm.cons _ ?_
     have e1 : ((leftOf es seen).toList.filter fun x => !(x.born == e0.born)) = (leftOf es (seen.push e0.born)).toList := by
      unfold leftOf
      rw [Array.toList_filter, Array.toList_filter, List.filter_filter]
      refine List.filter_congr fun x _ => ?_
      simp only [Array.contains_push]
      cases seen.contains x.born <;> cases hx : (x.born == e0.born) <;> simp_all
     rw [e1]
   · have hw : w1.heap = w.heap := by rcases hw1 with rfl | rfl <;> rfl
     have q1 : (setBlock w1 r (.mapIter (some b) clock (seen.push e0.born) clock)).heap[b]? = some (.map es clock) := by
      simp only [setBlock, Array.getElem?_setIfInBounds]
      rw [if_neg (fun e => hne e.symm), hw]
      exact h1
     have q2 : (setBlock w1 r (.mapIter (some b) clock (seen.push e0.born) clock)).heap[r]? = some (.mapIter (some b) clock (seen.push e0.born) clock) := by
      simp only [setBlock, Array.getElem?_setIfInBounds]
      rw [if_pos trivial, hw, if_pos l2]
     refine ⟨⟨⟨es, clock, seen.push e0.born, q1, h2, h3, q2, rfl⟩, h.keys⟩, fun w' e1 e2 => ?_⟩
     have hem : e0 ∈ es.toList := by
      unfold leftOf at he0
      rw [Array.toList_filter] at he0
      exact (List.mem_filter.1 he0).1
     exact run_entry_at w' r b clock seen es clock e0 (e2.trans q2) (e1.trans q1) hem hst.2.1
end Go.Proofs.YtecnlfaholmpoaaGreat
set_option maxRecDepth 100000
namespace Go.Proofs.YtecnlfaholmpoaaGreat
open Go.RowKit
theorem stamp_laid : laidOutB Tryz.prog = true := by kernel_rfl
theorem stamp_row : (45 : TypeId) < Tryz.prog.types.size := of_decide_eq_true (by kernel_rfl)
theorem stamp_wide : (match Tryz.prog.underlying 45 with | some (.array _ _) | some (.struct _) => true | _ => false) = true := by rw [Tryz.underlying45]
theorem stamp_law : Go.Maps.Keyed Tryz.prog 45 := Go.Maps.Keyed.of_law (deep_law_laid stamp_laid (m := 2) (by omega) stamp_row (by kernel_rfl) stamp_wide)
theorem stamp_types : ∃ n, Tryz.prog.types.size = n + 1 := Nat.exists_eq_succ_of_ne_zero (Nat.ne_of_gt (Nat.lt_of_le_of_lt (Nat.zero_le _) stamp_row))
theorem stamp_key (s : Stamp) (h1 : (Lit.int .i64 s.seat).wf = true) (h2 : (Lit.int .i64 s.count).wf = true) : ∃ l, keyOf Tryz.prog 45 s.agg = some l := by
 obtain ⟨n, hn⟩ := stamp_types
 have k1 : Tryz.prog.keyType 45 = true := by kernel_rfl
 have c45 : Tryz.prog.cellsOf 45 = 2 := by kernel_rfl
 have c3 : Tryz.prog.cellsOf 3 = 1 := by kernel_rfl
 have hf : Value.formed Tryz.prog 45 s.agg = true := by simp [Value.formed, Tryz.underlying45, c45]
 refine Option.isSome_iff_exists.1 ?_
 unfold keyOf
 rw [Tryz.underlying45]
 simp only [k1, hf, Bool.and_self, if_true, hn]
 unfold Program.keyLits
 simp only [Tryz.underlying45]
 simp [Value.cells, c45, c3, Program.keyLits, Tryz.underlying3, h1, h2]
end Go.Proofs.YtecnlfaholmpoaaGreat
