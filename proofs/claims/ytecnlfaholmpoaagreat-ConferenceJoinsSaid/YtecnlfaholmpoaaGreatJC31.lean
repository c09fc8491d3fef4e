/- Rows of pairs of stamps. conference.pairs: the iterator's contract. The laws' helpers: Same, samePatch at equal arguments; ids. Items compared; slices.Equal at items; Same at any codes. Groups of patches whose order matters: a search in depth finds what hangs together. Patches in another order that keeps those in order that do not commute. -/
import Derived.Test.YtecnlfaholmpoaaGreatJC28
import Derived.Maps.AppendAt
import Derived.Maps.OwnIn
import Derived.RangeFuncNested
import Derived.RangeFuncLeaves
import Derived.RangeFuncBox
import Derived.Shelf.Abstract
import Derived.WalkKit
import Derived.OwnWalkIn
import Derived.TacticsInMore
import Derived.LoopNIn
import Derived.LoopIn
import Derived.Deep.CutBlock
import Derived.ScopeJumps
import Derived.WalkMore
import Derived.Test.YtecnlfaholmpoaaGreatJC27
import Derived.Test.YtecnlfaholmpoaaGreatJC10
import Derived.Test.YtecnlfaholmpoaaGreatJC14
import Derived.Test.YtecnlfaholmpoaaGreatJC16
set_option linter.unusedVariables false
set_option linter.unusedSimpArgs false
namespace Go.Proofs.YtecnlfaholmpoaaGreat
open Go.RowKit
abbrev parCells (s : Stamp × Stamp) : List Value := [.int .i64 s.1.seat, .int .i64 s.1.count, .int .i64 s.2.seat, .int .i64 s.2.count]
abbrev parCs (s : Stamp × Stamp) : Array Value := #[.int .i64 s.1.seat, .int .i64 s.1.count, .int .i64 s.2.seat, .int .i64 s.2.count]
abbrev zeroPr : Value := .agg #[.int .i64 0, .int .i64 0, .int .i64 0, .int .i64 0]
def RdPr (w : World) (A : Option Addr) (l : List (Stamp × Stamp)) : Prop := Sl parCells 4 w A l
theorem RdPr.below {w w' : World} {A : Option Addr} {l : List (Stamp × Stamp)} (h : RdPr w A l) (hb : Below w.heap.size w w') : RdPr w' A l := Sl.below h hb
theorem parCs_one (q : Stamp × Stamp) : ∀ v ∈ (parCs q).toList, v.oneCell' = true := by
 intro v hv
 simp at hv
 rcases hv with rfl | rfl | rfl | rfl <;> rfl
def rflat (l : List (Stamp × Stamp)) : List Value := l.flatMap parCells
theorem rflp_get : ∀ (ps : List (Stamp × Stamp)) (k : Nat) (p : Stamp × Stamp) (j : Nat) (v : Value), ps[k]? = some p → (parCells p)[j]? = some v → (rflat ps)[k * 4 + j]? = some v
 | [], k, p, j, v, h, _ => by simp at h
 | q :: r, 0, p, j, v, h, hv => by
   simp at h
   subst h
   have hj : j < (parCells q).length := (List.getElem?_eq_some_iff.1 hv).1
   unfold rflat
   rw [List.flatMap_cons, Nat.zero_mul, Nat.zero_add, List.getElem?_append_left hj]
   exact hv
 | q :: r, k + 1, p, j, v, h, hv => by
   have hq : (parCells q).length = 4 := rfl
   unfold rflat
   rw [List.flatMap_cons, List.getElem?_append_right (by rw [hq]; omega), hq, show (k + 1) * 4 + j - 4 = k * 4 + j by omega]
   exact rflp_get r k p j v (by simpa using h) hv
theorem rflat_len (l : List (Stamp × Stamp)) : (rflat l).length = l.length * 4 := by
 induction l with
 | nil => rfl
 | cons a r ih =>
   have : (rflat (a :: r)).length = 4 + (rflat r).length := by unfold rflat; rw [List.flatMap_cons, List.length_append]; rfl
   rw [this, ih, List.length_cons]
   omega
theorem rflat_app (l r : List (Stamp × Stamp)) : rflat (l ++ r) = rflat l ++ rflat r := by simp [rflat]
theorem rflat_at {l : List (Stamp × Stamp)} {i : Nat} {v : Value} (h : (rflat l)[i]? = some v) : ∃ k j p, i = k * 4 + j ∧ l[k]? = some p ∧ (parCells p)[j]? = some v := by
 induction l generalizing i with
 | nil => simp [rflat] at h
 | cons a r ih =>
   have hq : (parCells a).length = 4 := rfl
   unfold rflat at h
   rw [List.flatMap_cons] at h
   by_cases hi : i < 4
   · rw [List.getElem?_append_left (by rw [hq]; exact hi)] at h
     exact ⟨0, i, a, by omega, rfl, h⟩
   · rw [List.getElem?_append_right (by rw [hq]; omega), hq] at h
     obtain ⟨k, j, p, e, h1, h2⟩ := ih h
     exact ⟨k + 1, j, p, by omega, by simpa using h1, h2⟩
theorem rflat_one {l : List (Stamp × Stamp)} : ∀ v ∈ rflat l, v.oneCell' = true := by
 intro v hv
 obtain ⟨p, _, hm⟩ := List.mem_flatMap.1 hv
 exact parCs_one p v (by simpa using hm)
def OwnRs (w : World) (base : Nat) (v : Value) (l : List (Stamp × Stamp)) : Prop := w.ownsRow base 62 4 v l.length (rflat l)
theorem OwnRs.empty {w : World} {base g : Nat} (h : w.heap[g]? = some (.cells #[] 62 (0, 0))) (hb : base ≤ g) : OwnRs w base (.slice (some ⟨g, 0, none⟩) 0 0) [] := ⟨rfl, .inr ⟨g, 0, #[], rfl, hb, h, Nat.le_refl _, by decide, rfl, rfl⟩⟩
theorem OwnRs.nil (w : World) (base : Nat) : OwnRs w base (.slice none 0 0) [] := ⟨rfl, .inl ⟨rfl, rfl⟩⟩
theorem OwnRs.ge {w : World} {base : Nat} {v : Value} {l : List (Stamp × Stamp)} (h : OwnRs w base v l) : ∀ b, v.ownBlock = some b → base ≤ b := by
 rcases h.2 with ⟨hv, h0⟩ | ⟨b, cap, cur, rfl, r2, r3, r4⟩
 · intro b hb
   rw [hv] at hb
   simp [Value.ownBlock] at hb
 · intro c hc
   simp [Value.ownBlock] at hc
   subst hc
   exact r2
theorem OwnRs.keep {w w' : World} {base : Nat} {v : Value} {l : List (Stamp × Stamp)} (h : OwnRs w base v l) (hk : ∀ b, v.ownBlock = some b → w'.heap[b]? = w.heap[b]?) : OwnRs w' base v l := by
 refine ⟨h.1, ?_⟩
 rcases h.2 with h | ⟨b, cap, cur, rfl, r2, r3, r4⟩
 · exact .inl h
 · exact .inr ⟨b, cap, cur, rfl, r2, (hk b rfl).trans r3, r4⟩
theorem OwnRs.lt {w : World} {base : Nat} {v : Value} {l : List (Stamp × Stamp)} (h : OwnRs w base v l) : ∀ b, v.ownBlock = some b → b < w.heap.size := by
 rcases h.2 with ⟨hv, h0⟩ | ⟨b, cap, cur, rfl, r2, r3, r4⟩
 · intro b hb
   rw [hv] at hb
   simp [Value.ownBlock] at hb
 · intro c hc
   simp [Value.ownBlock] at hc
   subst hc
   exact lt_of_heap r3
theorem OwnRs.below {w w' : World} {base : Nat} {v : Value} {l : List (Stamp × Stamp)} (h : OwnRs w base v l) (hb : Below w.heap.size w w') : OwnRs w' base v l := h.keep fun b hb1 => hb.block b (h.lt b hb1)
theorem OwnRs.reads {w : World} {base : Nat} {v : Value} {l : List (Stamp × Stamp)} (h : OwnRs w base v l) : ∃ A c, v = .slice A l.length c ∧ l.length ≤ c ∧ c ≤ maxLen ∧ RdPr w A l := by
 rcases h.2 with ⟨hv, h0⟩ | ⟨b, cap, cur, rfl, r2, r3, r4, r5, r6, r7⟩
 · have : l = [] := List.length_eq_zero_iff.1 h0
   subst this
   exact ⟨none, 0, by simpa using hv, Nat.le_refl _, by decide, fun h => absurd rfl h⟩
 · refine ⟨some ⟨b, 0, none⟩, cap, rfl, r4, r5, fun _ => ⟨b, 0, rfl, lt_of_heap r3, fun k x hx j v hv => ?_⟩⟩
   rw [cell_of_row _ _ _ _ _ _ r3, Nat.zero_add]
   have h1 := rflp_get l k x j v hx hv
   rw [← r7, List.getElem?_take] at h1
   split at h1
   · rw [← Array.getElem?_toList]; exact h1
   · cases h1
theorem info_par : (Tryz.prog.info? 62).map (fun i => (i.zero, i.size, i.bytes)) = some (some zeroPr, 4, 32) := by kernel_rfl
theorem run_append_pars (w : World) (base : Nat) (v : Value) (l1 l2 : List (Stamp × Stamp)) (B : Option Addr) (cc : Nat) (hown : OwnRs w base v l1) (hr : RdPr w B l2) (hlen : (l1.length + l2.length) * 32 ≤ 140737488355328) (hb : base ≤ w.heap.size) :
 ∃ v' w', (Builtin.append_ #[32, 32] 32 #[v, .slice B l2.length cc]).run Tryz.prog w = .ok v' w' ∧ OwnRs w' base v' (l1 ++ l2) ∧ w.grownBy w' v.ownBlock := by
 have h9 : (140737488355328 : Nat) ≤ maxLen := by unfold maxLen; omega
 obtain ⟨i0, hi0, hz⟩ := Option.map_eq_some_iff.1 info_par
 simp only [Prod.mk.injEq] at hz
 obtain ⟨hz0, hz1, hz2⟩ := hz
 cases B with
 | none =>
   have : l2 = [] := by
    by_cases h : l2 = []
    · exact h
    · obtain ⟨b, o, hA, _⟩ := hr h; cases hA
   subst this
   refine ⟨v, w, ?_, by simpa using hown, ⟨rfl, rfl, rfl, Nat.le_refl _, fun _ _ _ => rfl⟩⟩
   rcases hown.2 with ⟨rfl, h0⟩ | ⟨g, cap, cur, rfl, _, _, hnc, _⟩
   · simp [Builtin.append_, run_underlying Tryz.underlying32, sizeOf, typeInfo, hi0, Builtin.lenOf, Builtin.firstCells]
   · simp [Builtin.append_, run_underlying Tryz.underlying32, sizeOf, typeInfo, hi0, Builtin.lenOf, Builtin.firstCells, hnc, storeCells]
 | some a =>
   have hn : ∀ j u, (rflat l2)[j]? = some u → w.cell? (a.add j) = some u := by
    intro j u hu
    obtain ⟨k, i, p, rfl, hp, hv⟩ := rflat_at hu
    obtain ⟨b, o, hA, _, hc⟩ := hr (by rintro rfl; simp at hp)
    cases hA
    have := hc k p hp i u hv
    rw [Go.WideShapes.add_plain, ← Nat.add_assoc]
    exact this
   obtain ⟨v', w', h1, h2, h3, _⟩ := run_append_own (P := Tryz.prog) w base 32 32 62 i0 zeroPr 4 32 Tryz.underlying32 hi0 hz0 hz1 hz2 rfl (by decide) v l1.length (rflat l1) hown a l2.length cc (rflat l2) (rflat_len l2) hn rflat_one (by omega) (by omega) hb
   refine ⟨v', w', h1, ?_, h3⟩
   unfold OwnRs
   rw [List.length_append, rflat_app]
   exact h2
theorem RdPr.one (w : World) (p : Stamp × Stamp) (g : Nat) (h : w.heap[g]? = some (.cells (parCs p) 62 (0, 0))) : RdPr w (some ⟨g, 0, none⟩) [p] := by
 intro _
 refine ⟨g, 0, rfl, lt_of_heap h, fun k x hx j v hv => ?_⟩
 cases k with
 | succ k => simp at hx
 | zero =>
   simp at hx
   subst hx
   rw [show 0 + 0 * 4 + j = j by omega, cell_of_row _ _ _ _ _ _ h, List.getElem?_toArray]
   exact hv
theorem run_append_par1 (w : World) (base : Nat) (v : Value) (l : List (Stamp × Stamp)) (c : Stamp × Stamp) (g cc : Nat) (hown : OwnRs w base v l) (hg : w.heap[g]? = some (.cells (parCs c) 62 (0, 0))) (hlen : (l.length + 1) * 32 ≤ 140737488355328) (hb : base ≤ w.heap.size) :
 ∃ v' w', (Builtin.append_ #[32, 32] 32 #[v, .slice (some ⟨g, 0, none⟩) 1 cc]).run Tryz.prog w = .ok v' w' ∧ OwnRs w' base v' (l ++ [c]) ∧ w.grownBy w' v.ownBlock :=
 run_append_pars w base v l [c] (some ⟨g, 0, none⟩) cc hown (RdPr.one w c g hg) hlen hb
theorem wpListIn_append_par1 {F : Fence} {nF : Nat} {ops : Array Oper} {rest : List Oper} {o : Oper} {a : Act} {w : World} {Q : Exit → Act → World → Prop} (hgd : o.guard = none) (d x : Operand) (hop : o.op = Op.call { callee := Callee.builtin Builtin.append, args := #[d, x], argTypes := #[32, 32] }) (ht : o.type = 32)
 (base : Nat) (v : Value) (l : List (Stamp × Stamp)) (c : Stamp × Stamp) (g cc : Nat) (hd : a.eval d = v) (hx : a.eval x = .slice (some ⟨g, 0, none⟩) 1 cc) (hown : OwnRs w base v l) (hg : w.heap[g]? = some (.cells (parCs c) 62 (0, 0))) (hlen : (l.length + 1) * 32 ≤ 140737488355328) (hb : base ≤ w.heap.size)
 (h : ∀ v' w', OwnRs w' base v' (l ++ [c]) → w.grownBy w' v.ownBlock → wpListIn F nF Tryz.prog ops Q rest (a.put o.dst v') w') : wpListIn F nF Tryz.prog ops Q (o :: rest) a w := by
 obtain ⟨v', w', h1, h2, h3⟩ := run_append_par1 w base v l c g cc hown hg hlen hb
 refine wpListIn_plain hgd fun K hK => ?_
 unfold Oper.wpIn
 refine ⟨by simp [Oper.about, hop, resolve, Target.leads, Sem.run_pure], ?_⟩
 rw [Oper.semAt_plain F _ _ (by rw [hop]; intro c hc'; cases hc')]
 simp [execOp, hop, ht, resolve, invoke, builtin, hd, hx, h1, Result.andThen]
 exact hK _ _ (h _ _ h2 h3)
end Go.Proofs.YtecnlfaholmpoaaGreat
set_option maxRecDepth 100000
set_option maxHeartbeats 4000000
namespace Go.Proofs.YtecnlfaholmpoaaGreat
open Go.RowKit Go.Shelf
attribute [local go_sem] Oper.semAt_some
def pairsL : List Clause → List (Clause × Clause)
 | [] => []
 | a :: r => (r.map fun b => (a, b)) ++ pairsL r
abbrev PairOf (O : List Clause) := { x : Clause × Clause // x.1 ∈ O ∧ x.2 ∈ O }
def encP {O : List Clause} (x : PairOf O) : Array Value := #[x.1.1.agg, x.1.2.agg]
/- what a round keeps: clauses, and slices of clauses -/
structure KpP (A B : World) : Prop where
 size : A.heap.size ≤ B.heap.size
 cla : ∀ (k : Nat) (C : Array Value) (fr : Nat × Nat), A.heap[k]? = some (.cells C 51 fr) → B.heap[k]? = some (.cells C 51 fr)
 sl : ∀ (k : Nat) (C : Array Value) (fr : Nat × Nat), A.heap[k]? = some (.cells C 25 fr) → B.heap[k]? = some (.cells C 25 fr)
theorem KpP.refl (A : World) : KpP A A := ⟨Nat.le_refl _, fun _ _ _ h => h, fun _ _ _ h => h⟩
theorem KpP.of_below {A B : World} (h : Below A.heap.size A B) : KpP A B := ⟨h.size, fun k _ _ hk => (h.block k (lt_of_heap hk)).trans hk, fun k _ _ hk => (h.block k (lt_of_heap hk)).trans hk⟩
theorem OwnCs.kp {w w' : World} {base : Nat} {v : Value} {l : List Clause} (h : OwnCs w base v l) (hk : KpP w w') : OwnCs w' base v l := by
 refine ⟨h.1, ?_⟩
 rcases h.2 with h | ⟨b, cap, cur, rfl, r2, r3, r4⟩
 · exact .inl h
 · exact .inr ⟨b, cap, cur, rfl, r2, hk.cla _ _ _ r3, r4⟩
theorem pairs_at {O : List Clause} {i : Nat} {a : Clause} (h : O[i]? = some a) : pairsL (O.drop i) = ((O.drop (i + 1)).map fun b => (a, b)) ++ pairsL (O.drop (i + 1)) := by
 obtain ⟨hi, rfl⟩ := List.getElem?_eq_some_iff.1 h
 rw [List.drop_eq_getElem_cons hi]
 rfl
theorem pairs_in {O : List Clause} {i j : Nat} {a b : Clause} (h : O[i + 1 + j]? = some b) : ((O.drop (i + 1)).drop j).map (fun b => (a, b)) = (a, b) :: ((O.drop (i + 1)).drop (j + 1)).map fun b => (a, b) := by
 have h2 : (O.drop (i + 1))[j]? = some b := by rw [List.getElem?_drop]; exact h
 obtain ⟨hi, rfl⟩ := List.getElem?_eq_some_iff.1 h2
 rw [List.drop_eq_getElem_cons hi]
 rfl
theorem KpP.trans {A B C : World} (h : KpP A B) (k : KpP B C) : KpP A C := ⟨Nat.le_trans h.size k.size, fun b C fr hb => k.cla _ _ _ (h.cla _ _ _ hb), fun b C fr hb => k.sl _ _ _ (h.sl _ _ _ hb)⟩
theorem below_grownN {w w' : World} (h : Below w.heap.size w w') : w.grownBy w' none := ⟨h.os, h.tape, h.output, h.size, fun k hk _ => h.block k hk⟩
theorem pairs_it (lp Bs c base : Nat) (A : Option Addr) (O : List Clause) (hl : O.length ≤ 64) (hlc : O.length ≤ c) (J Jx : List (PairOf O) → World → Prop) (W : World) (hBs : W.heap[Bs]? = some (.cells #[.slice A O.length c] 25 (0, 0)))
 (hrow : OwnCs W base (.slice A O.length c) O) (hJ : AbidesFrom W.heap.size J)
 (hY : ∀ pre x W1, J pre W1 → pre.length < (pairsL O).length → YieldAt Fence.wide 7 Tryz.prog lp (encP x) W1 fun e W' =>
   (e = .returned (.bool true) ∧ J (pre ++ [x]) W' ∧ KpP W1 W') ∨ (e = .returned (.bool false) ∧ Jx (pre ++ [x]) W')) (h0 : J [] W) :
 Calls Tryz.prog 89 #[.func (.yield lp) #[] #[], .pointer (some ⟨Bs, 0, none⟩)] W fun e W' => (∃ v, e = .returned v) ∧
  ((∃ xs : List (PairOf O), xs.map (·.1) = pairsL O ∧ J xs W') ∨ (∃ pre : List (PairOf O), (∃ r, pre.map (·.1) ++ r = pairsL O) ∧ Jx pre W')) := by
 have HBS := Lib.hid hBs
 have HROW := Lib.hid hrow
 have HJ := Lib.hid hJ
 have HY := Lib.hid hY
 have k0 : W.cell? ⟨Bs, 0, none⟩ = some (.slice A O.length c) := (cell_of_row _ _ _ _ _ _ hBs).trans rfl
 clear hBs hrow hJ hY
 go_enter Tryz.func89, Tryz.ntmps89
 go_wp2_with fail
 go_step3
 go_wp2_with fail
 go_step3
 go_wp2_with fail
 go_loopw [9] (fun v wr => ∃ (i : Nat) (xs : List (PairOf O)), i ≤ O.length ∧ v = .int .i64 i ∧ xs.map (·.1) ++ pairsL (O.drop i) = pairsL O ∧ J xs wr ∧ KpP W wr) (fun v _ => O.length - (intOf v).toNat)
 case atStart => exact ⟨0, [], Nat.zero_le _, rfl, rfl, h0, KpP.refl _⟩
 case round =>
  obtain ⟨i, xs, hi, rfl, hxs, hj, hb⟩ := hrel
  have hbo : OwnCs wr base (.slice A O.length c) O := HROW.out.kp hb
  have kb : wr.heap[Bs]? = some (.cells #[.slice A O.length c] 25 (0, 0)) := hb.sl _ _ _ HBS.out
  have k1 : wr.cell? ⟨Bs, 0, none⟩ = some (.slice A O.length c) := (cell_of_row _ _ _ _ _ _ kb).trans rfl
  have kl := lt_of_heap kb
  have HXS := Lib.hid hxs; clear hxs
  have HJT := Lib.hid hj; clear hj
  have HB := Lib.hid hb; clear hb
  have HBO := Lib.hid hbo; clear hbo kb
  by_cases hlt : i < O.length
  · have hi1 : (i : Int) < O.length := by omega
    have hi0 : (0 : Int) ≤ i := by omega
    obtain ⟨a, ha⟩ := get_of_lt hlt
    obtain ⟨b, rfl⟩ : ∃ b, A = some ⟨b, 0, none⟩ := by
     rcases HBO.out.2 with ⟨hv, h0⟩ | ⟨g, cap', cur, hv, r2, _⟩
     · omega
     · simp only [Value.slice.injEq] at hv; exact ⟨g, hv.1⟩
    have hq := HBO.out.load ha
    have HA := Lib.hid ha; clear ha
    have w1 : IntKind.i64.wrap ((i : Int) + 1) = (i : Int) + 1 := wrap_small _ (by omega) (by omega)
    have w2 : (0 : Int) ≤ (i : Int) + 1 := by omega
    have w3 : (i : Int) + 1 ≤ O.length := by omega
    have hxi := HXS.out
    rw [pairs_at HA.out] at hxi
    have HXI := Lib.hid hxi; clear hxi
    have hxn : O.length = i + 1 → xs.map (·.1) ++ pairsL (O.drop (i + 1)) = pairsL O := by
     intro e
     have := HXI.out
     have e2 : O.drop (i + 1) = [] := List.drop_of_length_le (by omega)
     rw [e2] at this ⊢
     simpa using this
    have HXN := Lib.hid hxn; clear hxn
    have hb1 : Below wr.heap.size wr (wr.alloc (.cells (claCs a) 51)) := (Below.refl _ _).alloc (Nat.le_refl _) _
    have hJ1 := HJ.out _ _ _ _ HJT.out (below_grownN hb1) (fun r e => by cases e)
    have HB1 := Lib.hid hb1; clear hb1
    have HJ1 := Lib.hid hJ1; clear hJ1
    obtain ⟨ai, aa, ap, ag⟩ := a
    by_cases hcap : c = i + 1
    · subst hcap
      have hOl : O.length = i + 1 := by omega
      have HOL := Lib.hid hOl; clear hOl
      go_wp2_with fail
      refine wp_loop_rounds 1 ?_
      rw [rounds_succ]
      have hz : ¬ (0 : Int) < ((O.length - (i + 1) : Nat) : Int) := by have := HOL.out; omega
      go_wp2_with fail
      exact ⟨⟨i + 1, xs, by omega, by go_num, HXN.out HOL.out, HJ1.out, HB.out.trans (KpP.of_below HB1.out)⟩, by simp [intOf]; omega⟩
    · go_wp2_with fail
      obtain ⟨wA, rfl⟩ : ∃ x, x = wr := ⟨wr, rfl⟩
      go_loopw [19] (fun v wr => ∃ (j : Nat) (ys : List (PairOf O)), i + 1 + j ≤ O.length ∧ v = .int .i64 j ∧ ys.map (·.1) ++ (((O.drop (i + 1)).drop j).map fun b => ((⟨ai, aa, ap, ag⟩ : Clause), b)) ++ pairsL (O.drop (i + 1)) = pairsL O ∧ J ys wr ∧ KpP W wr ∧ wr.heap[wA.heap.size]? = some (.cells (claCs ⟨ai, aa, ap, ag⟩) 51 (0, 0))) (fun v _ => O.length - (intOf v).toNat)
      case atStart => exact ⟨0, xs, by omega, rfl, by rw [List.drop_zero, List.append_assoc]; exact HXI.out, HJ1.out, HB.out.trans (KpP.of_below HB1.out), heap_alloc_new _ _⟩
      case round =>
       obtain ⟨j, ys, hj, rfl, hys, hJy, hby, hx4⟩ := hrel
       have HYS := Lib.hid hys; clear hys
       have HJY := Lib.hid hJy; clear hJy
       have HBY := Lib.hid hby; clear hby
       by_cases hlt2 : i + 1 + j < O.length
       · have hj1 : (j : Int) < ((O.length - (i + 1) : Nat) : Int) := by omega
         have hj0 : (0 : Int) ≤ j := by omega
         obtain ⟨y, hy0⟩ := get_of_lt hlt2
         have hq2 := (HROW.out.kp HBY.out).load hy0
         rw [show (i + 1 + j) * 20 = (i + 1) * 20 + j * 20 by omega] at hq2
         have HY0 := Lib.hid hy0; clear hy0
         have hins := HYS.out
         rw [pairs_in HY0.out] at hins
         have hlen : ys.length < (pairsL O).length := by rw [← hins]; simp
         have hmem : (⟨ai, aa, ap, ag⟩ : Clause) ∈ O ∧ y ∈ O := ⟨List.mem_of_getElem? HA.out, List.mem_of_getElem? HY0.out⟩
         obtain ⟨yi, ya, yp, yg⟩ := y
         have hbw : Below wr.heap.size wr (wr.alloc (.cells (claCs ⟨yi, ya, yp, yg⟩) 51)) := (Below.refl _ _).alloc (Nat.le_refl _) _
         have hJ2 := HJ.out _ _ _ _ HJY.out (below_grownN hbw) (fun r e => by cases e)
         have HBW := Lib.hid hbw; clear hbw
         have HINS := Lib.hid hins; clear hins
         obtain ⟨fn, tmps, assign, body, hyy, hR⟩ := HY.out ys ⟨(⟨ai, aa, ap, ag⟩, ⟨yi, ya, yp, yg⟩), hmem⟩ _ hJ2 hlen
         simp only [encP] at hyy
         have l4 := lt_of_heap hx4
         have k4 : wr.blk wA.heap.size = some (.cells (claCs ⟨ai, aa, ap, ag⟩) 51 (0, 0)) := hx4
         have HX4 := Lib.hid hx4; clear hx4
         refine (wpIn_wide (n := 8)).1 ?_
         gi_wp2
         refine hR.mono ?_
         clear hyy hR
         rintro e W3 (⟨rfl, hJ3, hk3⟩ | ⟨rfl, hJx3⟩)
         · have hx3 := hk3.cla _ _ _ ((Below.heap_alloc _ _ _ l4).trans HX4.out)
           have hb3 : KpP W W3 := (HBY.out.trans (KpP.of_below HBW.out)).trans hk3
           have HJ3 := Lib.hid hJ3; clear hJ3 hk3
           have HX3 := Lib.hid hx3; clear hx3
           have HB3 := Lib.hid hb3; clear hb3
           gi_wp2
           go_wp2_with fail
           exact ⟨⟨j + 1, _, by omega, by go_num, by rw [← HINS.out]; simp, HJ3.out, HB3.out, HX3.out⟩, by simp [intOf]; omega⟩
         · have HJX := Lib.hid hJx3; clear hJx3
           gi_wp2
           go_wp2_with fail
           rw [Exit.noGoto_normal]
           go_end0
           exact ⟨⟨_, rfl⟩, .inr ⟨ys ++ [⟨((⟨ai, aa, ap, ag⟩ : Clause), (⟨yi, ya, yp, yg⟩ : Clause)), hmem⟩], ⟨(((O.drop (i + 1)).drop (j + 1)).map fun b => ((⟨ai, aa, ap, ag⟩ : Clause), b)) ++ pairsL (O.drop (i + 1)), by rw [← HINS.out]; simp⟩, HJX.out⟩⟩
       · have hj1 : ¬ (j : Int) < ((O.length - (i + 1) : Nat) : Int) := by omega
         go_wp2_with fail
         refine ⟨⟨i + 1, ys, by omega, by go_num, ?_, HJY.out, HBY.out⟩, by simp [intOf]; omega⟩
         have := HYS.out
         rwa [show (O.drop (i + 1)).drop j = [] from List.drop_of_length_le (by simp; omega), List.map_nil, List.append_nil] at this
  · have hi1 : ¬ (i : Int) < O.length := by omega
    go_wp2_with fail
    go_end0
    refine ⟨⟨_, rfl⟩, .inl ⟨xs, ?_, HJT.out⟩⟩
    have := HXS.out
    rwa [List.drop_of_length_le (by omega), show pairsL [] = [] from rfl, List.append_nil] at this
end Go.Proofs.YtecnlfaholmpoaaGreat
namespace Go.Proofs.YtecnlfaholmpoaaGreat
open Go.RowKit
end Go.Proofs.YtecnlfaholmpoaaGreat
set_option maxRecDepth 20000
set_option maxHeartbeats 2000000
namespace Go.Proofs.YtecnlfaholmpoaaGreat
open Go.RowKit
def itEq (a b : Item) : Bool := a.kind == b.kind && (a.id == b.id && (a.par == b.par && (a.num == b.num && (a.no == b.no && (a.so == b.so && a.gone == b.gone)))))
theorem itEq_iff {a b : Item} : itEq a b = true ↔ a = b := by
 cases a; cases b
 unfold itEq
 simp
instance instItem : DecidableEq Item := fun a b => decidable_of_iff (itEq a b = true) itEq_iff
def neqIt (A B : Array Value) : Sem Value := binOp .neq 47 (.agg A) (.agg B)
theorem run_neqIt0 (a0 b0 : Int) (a1 b1 : Str) (a2 b2 : Str) (a3 b3 : Str) (a4 b4 : Str) (a5 b5 : Str) (a6 b6 : Bool) (W : World) : (neqIt #[.int .i64 a0, vs a1, vs a2, vs a3, vs a4, vs a5, .bool a6] #[.int .i64 b0, vs b1, vs b2, vs b3, vs b4, vs b5, .bool b6]).run Tryz.prog W = .ok (.bool (!(a0 == b0 && (a1 == b1 && (a2 == b2 && (a3 == b3 && (a4 == b4 && (a5 == b5 && a6 == b6)))))))) W := by
 unfold neqIt
 by_cases h0 : a0 = b0
 · by_cases h1 : a1 = b1
   · by_cases h2 : a2 = b2
     · by_cases h3 : a3 = b3
       · by_cases h4 : a4 = b4
         · by_cases h5 : a5 = b5
           · by_cases h6 : a6 = b6
             · simp [go_sem, h0, h1, h2, h3, h4, h5, h6]
             · simp [go_sem, h0, h1, h2, h3, h4, h5, h6]
           · simp [go_sem, h0, h1, h2, h3, h4, h5]
         · simp [go_sem, h0, h1, h2, h3, h4]
       · simp [go_sem, h0, h1, h2, h3]
     · simp [go_sem, h0, h1, h2]
   · simp [go_sem, h0, h1]
 · simp [go_sem, h0]
@[go_sem] theorem run_neqIt (a b : Item) (W : World) : (neqIt #[.int .i64 a.kind, vs a.id, vs a.par, vs a.num, vs a.no, vs a.so, .bool a.gone] #[.int .i64 b.kind, vs b.id, vs b.par, vs b.num, vs b.no, vs b.so, .bool b.gone]).run Tryz.prog W = .ok (.bool (!itEq a b)) W := by
 rw [run_neqIt0]
 rfl
@[go_sem high] theorem fold_neqIt (A B : Array Value) : binOp .neq 47 (.agg A) (.agg B) = neqIt A B := rfl
theorem eq_step {xs ys : List Item} {k : Nat} {x y : Item} (h : xs.take k = ys.take k) (hx : xs[k]? = some x) (hy : ys[k]? = some y) (he : itEq x y = true) : xs.take (k + 1) = ys.take (k + 1) := by
 obtain ⟨h1, rfl⟩ := List.getElem?_eq_some_iff.1 hx
 obtain ⟨h2, rfl⟩ := List.getElem?_eq_some_iff.1 hy
 rw [List.take_succ_eq_append_getElem h1, List.take_succ_eq_append_getElem h2, h, itEq_iff.1 he]
theorem ne_step {xs ys : List Item} {k : Nat} {x y : Item} (hx : xs[k]? = some x) (hy : ys[k]? = some y) (he : itEq x y = false) : decide (xs = ys) = false := by
 rw [decide_eq_false_iff_not]
 rintro rfl
 rw [hx] at hy
 cases hy
 rw [itEq_iff.2 rfl] at he
 cases he
theorem seq_any (xs ys : List Item) (A B : Option Addr) (c d : Nat) (w : World) (hr : RdI w A xs) (hs : RdI w B ys) (hl : xs.length ≤ 100000) (hm : ys.length ≤ 100000) :
 Calls Tryz.prog 50 #[.slice A xs.length c, .slice B ys.length d] w fun e w' => e = .returned (.bool (decide (xs = ys))) ∧ Below w.heap.size w w' := by
 have HR := Lib.hid hr; clear hr
 have HS := Lib.hid hs; clear hs
 by_cases hn : xs.length = ys.length
 · have hd : ((xs.length : Int) != (ys.length : Int)) = false := by simp; omega
   have HN := Lib.hid hn; clear hn
   go_enter Tryz.func50, Tryz.ntmps50
   go_wp2_with fail
   go_loopw [13] (fun i wr => ∃ k : Nat, k ≤ xs.length ∧ i = .int .i64 k ∧ xs.take k = ys.take k ∧ Below w.heap.size w wr) (fun i _ => xs.length - (intOf i).toNat)
   case atStart => exact ⟨0, Nat.zero_le _, rfl, rfl, Below.refl _ _⟩
   case round =>
    obtain ⟨k, hk, rfl, htk, hb⟩ := hrel
    have HTK := Lib.hid htk; clear htk
    by_cases hlt : k < xs.length
    · obtain ⟨x, hx⟩ := get_of_lt hlt
      obtain ⟨y, hy⟩ := get_of_lt (l := ys) (k := k) (by have := HN.out; omega)
      have hi1 : (k : Int) < xs.length := by omega
      have hi2 : (k : Int) < ys.length := by have := HN.out; omega
      have hi0 : (0 : Int) ≤ k := by omega
      obtain ⟨b1, o1, rfl, hbs1, c0, c1, c2, c3, c4, c5, c6⟩ := (HR.out.below hb).item hx
      obtain ⟨b2, o2, rfl, hbs2, d0, d1, d2, d3, d4, d5, d6⟩ := (HS.out.below hb).item hy
      have HX := Lib.hid hx; clear hx
      have HY := Lib.hid hy; clear hy
      have HB := Lib.hid hb; clear hb
      cases he : itEq x y with
      | true =>
        have HE := Lib.hid he
        go_wp2_with fail
        go_quiet (fail)
        go_wp2_with fail
        exact ⟨⟨k + 1, by omega, by go_num, eq_step HTK.out HX.out HY.out HE.out, Below.drewN' _ HB.out⟩, by simp [intOf]; omega⟩
      | false =>
        have HE := Lib.hid he
        go_wp2_with fail
        go_quiet (fail)
        go_wp2_with fail
        go_ret
        exact ⟨by rw [ne_step HX.out HY.out HE.out]; rfl, Below.drewN' _ HB.out⟩
    · have hke : k = xs.length := by omega
      have hi1 : ¬ (k : Int) < xs.length := by omega
      go_wp2_with fail
      go_ret
      subst hke
      have : xs = ys := by
       have h := HTK.out
       rwa [List.take_length, List.take_of_length_le (by have := HN.out; omega)] at h
      exact ⟨by rw [this, decide_eq_true rfl]; rfl, hb⟩
 · have hd : ((xs.length : Int) != (ys.length : Int)) = true := by simp; omega
   have hne : decide (xs = ys) = false := by
    rw [decide_eq_false_iff_not]
    rintro rfl
    exact hn rfl
   have HNE := Lib.hid hne; clear hne hn
   go_enter Tryz.func50, Tryz.ntmps50
   go_wp2_with fail
   go_ret
   exact ⟨by rw [HNE.out]; rfl, Below.refl _ _⟩
theorem same_any (xs ys : List Item) (A B : Option Addr) (c d : Nat) (w : World) (hr : RdI w A xs) (hs : RdI w B ys) (hl : xs.length ≤ 100000) (hm : ys.length ≤ 100000) :
 Calls Tryz.prog 34 #[.agg #[.slice A xs.length c], .agg #[.slice B ys.length d]] w fun e w' => e = .returned (.bool (decide (xs = ys))) ∧ Below w.heap.size w w' := by
 have HR := Lib.hid hr; clear hr
 have HS := Lib.hid hs; clear hs
 have hb0 := ((Below.refl w.heap.size w).alloc (Nat.le_refl _) (.cells #[.slice A xs.length c] 24)).alloc (by simp) (.cells #[.slice B ys.length d] 24)
 have HB0 := Lib.hid hb0; clear hb0
 by_cases hn : xs.length = ys.length
 · have hd : ((xs.length : Int) != (ys.length : Int)) = false := by simp; omega
   have HN := Lib.hid hn; clear hn
   go_enter Tryz.func34, Tryz.ntmps34
   go_wp2_with fail
   go_loopw [5] (fun i wr => ∃ k : Nat, k ≤ xs.length ∧ i = .int .i64 k ∧ xs.take k = ys.take k ∧ Below ((w.alloc (.cells #[.slice A xs.length c] 24)).alloc (.cells #[.slice B ys.length d] 24)).heap.size ((w.alloc (.cells #[.slice A xs.length c] 24)).alloc (.cells #[.slice B ys.length d] 24)) wr) (fun i _ => xs.length - (intOf i).toNat)
   case atStart => exact ⟨0, Nat.zero_le _, rfl, rfl, Below.refl _ _⟩
   case round =>
    obtain ⟨k, hk, rfl, htk, hb⟩ := hrel
    have HTK := Lib.hid htk; clear htk
    have hsz := hb.size
    simp at hsz
    have z1 : w.heap.size < wr.heap.size := by omega
    have z2 : w.heap.size + 1 < wr.heap.size := by omega
    by_cases hlt : k < xs.length
    · obtain ⟨x, hx⟩ := get_of_lt hlt
      obtain ⟨y, hy⟩ := get_of_lt (l := ys) (k := k) (by have := HN.out; omega)
      have hi1 : (k : Int) < xs.length := by omega
      have hi2 : (k : Int) < ys.length := by have := HN.out; omega
      have hi0 : (0 : Int) ≤ k := by omega
      obtain ⟨b1, o1, rfl, hbs1, c0, c1, c2, c3, c4, c5, c6⟩ := ((HR.out.below HB0.out).below hb).item hx
      obtain ⟨b2, o2, rfl, hbs2, d0, d1, d2, d3, d4, d5, d6⟩ := ((HS.out.below HB0.out).below hb).item hy
      obtain ⟨hc, hf⟩ := bcell hb
      have HX := Lib.hid hx; clear hx
      have HY := Lib.hid hy; clear hy
      have HB := Lib.hid hb; clear hb
      cases he : itEq x y with
      | true =>
        have HE := Lib.hid he
        go_wp2_with fail
        go_quiet (fail)
        go_wp2_with fail
        exact ⟨⟨k + 1, by omega, by go_num, eq_step HTK.out HX.out HY.out HE.out, Below.drewN' _ HB.out⟩, by simp [intOf]; omega⟩
      | false =>
        have HE := Lib.hid he
        go_wp2_with fail
        go_quiet (fail)
        go_wp2_with fail
        go_ret
        exact ⟨by rw [ne_step HX.out HY.out HE.out]; rfl, HB0.out.trans ((Below.drewN' _ HB.out).mono HB0.out.size)⟩
    · have hke : k = xs.length := by omega
      have hi1 : ¬ (k : Int) < xs.length := by omega
      obtain ⟨hc, hf⟩ := bcell hb
      have HB := Lib.hid hb; clear hb
      go_wp2_with fail
      go_ret
      subst hke
      have : xs = ys := by
       have h := HTK.out
       rwa [List.take_length, List.take_of_length_le (by have := HN.out; omega)] at h
      exact ⟨by rw [this, decide_eq_true rfl]; rfl, HB0.out.trans (HB.out.mono HB0.out.size)⟩
 · have hd : ((xs.length : Int) != (ys.length : Int)) = true := by simp; omega
   have hne : decide (xs = ys) = false := by
    rw [decide_eq_false_iff_not]
    rintro rfl
    exact hn rfl
   have HNE := Lib.hid hne; clear hne hn
   go_enter Tryz.func34, Tryz.ntmps34
   go_wp2_with fail
   go_ret
   exact ⟨by rw [HNE.out]; rfl, HB0.out⟩
end Go.Proofs.YtecnlfaholmpoaaGreat
namespace Go.Proofs.YtecnlfaholmpoaaGreat
abbrev Adj := Nat → Nat → Bool
/- what is seen, and the group -/
def seenF (s : List Bool) (k : Nat) : Bool := s.getD k true
inductive Reach (adj : Adj) (i : Nat) : Nat → Prop
 | refl : Reach adj i i
 | step {x k : Nat} : Reach adj i x → adj x k = true → Reach adj i k
theorem Reach.trans {adj : Adj} {i j k : Nat} (h1 : Reach adj i j) (h2 : Reach adj j k) : Reach adj i k := by
 induction h2 with
 | refl => exact h1
 | step _ h ih => exact .step ih h
theorem Reach.symm {adj : Adj} (hs : ∀ i k, adj i k = adj k i) {i k : Nat} (h : Reach adj i k) : Reach adj k i := by
 induction h with
 | refl => exact .refl
 | @step x k _ h ih => exact Reach.trans (.step .refl (by rw [hs]; exact h)) ih
def left (n : Nat) (s : List Bool) : Nat := ((List.range n).filter fun k => !seenF s k).length
/- what a visit has done -/
/- the groups -/
open Classical in
noncomputable def comp (adj : Adj) (n i : Nat) : List Nat := (List.range n).filter fun k => decide (Reach adj i k)
/- what the groups are -/
end Go.Proofs.YtecnlfaholmpoaaGreat
namespace Go.Proofs.YtecnlfaholmpoaaGreat
def Run : List Item → List Patch → List Item → Prop
 | l, [], d => d = l
 | l, p :: r, d => (applyF l p).2 = 0 ∧ Run (applyF l p).1 r d
theorem run_iff {l d : List Item} {ps : List Patch} (i : Nat) : Run l ps d ↔ (allF l ps i).2.2 = 0 ∧ (allF l ps i).1 = d := by
 induction ps generalizing l i with
 | nil => simp [Run, allF, eq_comm]
 | cons p r ih =>
   rw [Run, allF]
   by_cases h : (applyF l p).2 = 0
   · rw [if_pos h, ih (i + 1)]
     simp [h]
   · rw [if_neg h]
     simp [h]
theorem run_append {l d : List Item} {u v : List Patch} : Run l (u ++ v) d ↔ ∃ m, Run l u m ∧ Run m v d := by
 induction u generalizing l with
 | nil => simp [Run]
 | cons p r ih =>
   rw [List.cons_append, Run, ih]
   constructor
   · rintro ⟨h, m, h1, h2⟩; exact ⟨m, ⟨h, h1⟩, h2⟩
   · rintro ⟨m, ⟨h, h1⟩, h2⟩; exact ⟨h, m, h1, h2⟩
theorem run_good {l d : List Item} {ps : List Patch} (hw : walkB l = true) (h : Run l ps d) : walkB d = true := by
 induction ps generalizing l with
 | nil => rw [Run] at h; subst h; exact hw
 | cons p r ih => exact ih (kept_law h.1).good h.2
theorem run_swap {l d : List Item} {a b : Patch} {v : List Patch} (hw : walkB l = true) (hc : commF a b = true) (h : Run l (a :: b :: v) d) : Run l (b :: a :: v) d := by
 have e : ∀ x y : Patch, x :: y :: v = [x, y] ++ v := fun _ _ => rfl
 rw [e, run_append] at h ⊢
 obtain ⟨m, h1, h2⟩ := h
 refine ⟨m, ?_, h2⟩
 rw [run_iff 0] at h1 ⊢
 rw [swap_law hw hc 0 h1.1]
 exact h1
/- two lists of indices in which those keep their order that do not commute -/
/- groups in another order -/
/- the law of orders: H names the groups in any order -/
end Go.Proofs.YtecnlfaholmpoaaGreat
