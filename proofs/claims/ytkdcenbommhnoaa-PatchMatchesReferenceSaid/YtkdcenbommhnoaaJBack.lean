/- slices.Backward over items: the iterator's contract. append of a list of strings onto a row of one. Helpers of the law PatchOrder. patch.Invert: PatchMove. -/
import Derived.RangeFuncNested
import Derived.RangeFuncLeaves
import Derived.RangeFuncBox
import Derived.Shelf.Abstract
import Derived.WalkKit
import Derived.OwnWalkIn
import Derived.TacticsInMore
import Derived.LoopNIn
import Derived.LoopIn
import Derived.Test.YtkdcenbommhnoaaJInvert
import Derived.Test.YtkdcenbommhnoaaCommon
import Derived.Test.YtkdcenbommhnoaaBelow
import Derived.Test.YtkdcenbommhnoaaIds
import Derived.Test.YtkdcenbommhnoaaPatch2
import Derived.Laws.OwnMore
import Derived.Test.YtkdcenbommhnoaaNames
import Derived.Test.YtkdcenbommhnoaaLaw
set_option linter.unusedVariables false
set_option linter.unusedSimpArgs false
namespace Go.Proofs.Ytkdcenbommhnoaa
open Go.RowKit Go.Shelf
attribute [local go_sem] Oper.semAt_some
theorem rev_drop {zs : List Item} {j : Nat} {x : Item} (h : zs[j]? = some x) : (zs.drop j).reverse = (zs.drop (j + 1)).reverse ++ [x] := by
  obtain ⟨hj, rfl⟩ := List.getElem?_eq_some_iff.1 h
  rw [List.drop_eq_getElem_cons hj, List.reverse_cons]
def backEnc (x : Nat × Item) : Array Value := #[.int .i64 (x.1 : Int), x.2.agg]
set_option maxRecDepth 100000 in
set_option maxHeartbeats 4000000 in
theorem back1_in (F : Fence) (n : Nat) (hf : F.fn 64) (hro : F.round = none) (hn : 1 ≤ n) (l Bs n₀ c : Nat) (A : Option Addr) (zs : List Item) (hz : zs.length ≤ 1000000) (J Jx : List (Nat × Item) → World → Prop)
    (hY : ∀ pre x W, J pre W → pre.length < zs.length → YieldAt F (n - 1) Try.prog l (backEnc x) W fun e W' =>
      (e = .returned (.bool true) ∧ J (pre ++ [x]) W' ∧ Below n₀ W W') ∨ (e = .returned (.bool false) ∧ Jx (pre ++ [x]) W'))
    (W : World) (hB : Bs < n₀) (hn0 : n₀ ≤ W.heap.size) (hBs : W.cell? ⟨Bs, 0, none⟩ = some (.slice A zs.length c)) (hr : ∀ (j : Nat) (x : Item), zs[j]? = some x → ∃ b o, A = some ⟨b, o, none⟩ ∧ b < n₀) (hR0 : RdI W A zs) (h0 : J [] W) :
    CallsIn F n Try.prog 64 #[.func (.yield l) #[] #[], .pointer (some ⟨Bs, 0, none⟩)] W fun e W' => (∃ v, e = .returned v) ∧
      ((∃ ys, ys.map (·.2) = zs.reverse ∧ J ys W') ∨ (∃ pre, (∃ k, pre.map (·.2) = zs.reverse.take k) ∧ Jx pre W')) := by
  have hW1 : Below n₀ W W := Below.refl _ _
  refine callsIn_of_wp Try.func64 rfl hf ?_ hro
  simp only [Try.ntmps64, List.size_toArray, List.length_cons, List.length_nil, Nat.reduceAdd, Nat.reduceSub, Array.replicate_succ, Array.replicate_zero, List.push_toArray, List.append_toArray, List.nil_append, List.cons_append]
  gi_wp2
  gi_loopw [3] (fun i wr => ∃ (m : Nat) (pre : List (Nat × Item)), m ≤ zs.length ∧ i = .int .i64 ((m : Int) - 1) ∧ pre.map (·.2) = (zs.drop m).reverse ∧ J pre wr ∧ Below n₀ W wr)
    (fun i _ => (intOf i + 1).toNat)
  case atStart => exact ⟨zs.length, [], Nat.le_refl _, rfl, by rw [List.drop_of_length_le (Nat.le_refl _)]; rfl, h0, Below.refl _ _⟩
  case round =>
    obtain ⟨m, pre, hm, rfl, hpre, hJs, hnx⟩ := hrel
    have K0 : wr.cell? ⟨Bs, 0, none⟩ = some (.slice A zs.length c) := (hnx.cell (p := ⟨Bs, 0, none⟩) hB).trans hBs
    have HNX := Lib.hid hnx; clear hnx
    have HPRE := Lib.hid hpre
    cases m with
    | zero =>
      clear hpre
      have h1 : decide ((0 : Int) ≤ ((0 : Nat) : Int) - 1) = false := by decide
      simp only [Int.natCast_zero] at h1 ⊢
      gi_wp2
      go_end0
      exact ⟨⟨_, rfl⟩, .inl ⟨pre, by have := HPRE.out; simpa using this, hJs⟩⟩
    | succ j =>
      obtain ⟨x, hx⟩ := get_of_lt (l := zs) (k := j) (by omega)
      obtain ⟨b, o, hA, hb⟩ := hr j x hx
      have hlen : pre.length < zs.length := by
        have : (pre.map (·.2)).length = (zs.drop (j + 1)).reverse.length := by rw [hpre]
        simp at this
        omega
      clear hpre
      obtain ⟨b1, o1, hA1, hbs1, c0, c1, c2, c3, c4, c5, c6⟩ := hR0.item hx
      obtain ⟨rfl, rfl⟩ : b1 = b ∧ o1 = o := by rw [hA1] at hA; cases hA; exact ⟨rfl, rfl⟩
      subst hA1
      clear hA
      have d0 := (HNX.out.cell (p := ⟨b1, o1 + j * 7, none⟩) hb).trans c0
      have d1 := (HNX.out.cell (p := ⟨b1, o1 + j * 7 + 1, none⟩) hb).trans c1
      have d2 := (HNX.out.cell (p := ⟨b1, o1 + j * 7 + 2, none⟩) hb).trans c2
      have d3 := (HNX.out.cell (p := ⟨b1, o1 + j * 7 + 3, none⟩) hb).trans c3
      have d4 := (HNX.out.cell (p := ⟨b1, o1 + j * 7 + 4, none⟩) hb).trans c4
      have d5 := (HNX.out.cell (p := ⟨b1, o1 + j * 7 + 5, none⟩) hb).trans c5
      have d6 := (HNX.out.cell (p := ⟨b1, o1 + j * 7 + 6, none⟩) hb).trans c6
      clear c0 c1 c2 c3 c4 c5 c6
      have hi0 : (0 : Int) ≤ j := by omega
      have hi1 : (j : Int) < zs.length := by omega
      have HX := Lib.hid hx; clear hx
      obtain ⟨fn, tmps, assign, body, hy, hR⟩ := hY pre (j, x) wr hJs hlen
      simp only [backEnc] at hy
      have e1 : ((j + 1 : Nat) : Int) - 1 = j := by omega
      rw [e1]
      clear e1
      gi_wp2
      refine hR.mono ?_
      rintro e W3 (⟨rfl, hJ3, hk3⟩ | ⟨rfl, hJx3⟩)
      · gi_wp2
        go_roundw
        case rel => exact ⟨j, pre ++ [(j, x)], by omega, rfl, by rw [List.map_append, HPRE.out, rev_drop HX.out]; rfl, hJ3, HNX.out.trans hk3⟩
        case measure => simp [intOf]
      · gi_wp2
        refine bodyPost_ret (results_none rfl _ _ _) rfl ?_
        refine ⟨⟨_, rfl⟩, .inr ⟨pre ++ [(j, x)], ⟨zs.length - j, ?_⟩, hJx3⟩⟩
        rw [List.map_append, HPRE.out, ← List.reverse_drop, rev_drop HX.out]
        rfl
set_option maxHeartbeats 1000000 in
theorem back_in (F : Fence) (n : Nat) (hf : F.fn 44) (hro : F.round = none) (A : Option Addr) (len cap : Nat) (w : World) :
    CallsIn F n Try.prog 44 #[.slice A len cap] w fun e w' => e = .returned (.func (.func 64) #[] #[.pointer (some ⟨w.heap.size, 0, none⟩)]) ∧ w' = w.alloc (.cells #[.slice A len cap] 22) := by
  refine callsIn_of_wp Try.func44 rfl hf ?_ hro
  simp only [Try.ntmps44, List.size_toArray, List.length_cons, List.length_nil, Nat.reduceAdd, Nat.reduceSub, Array.replicate_succ, Array.replicate_zero, List.push_toArray, List.append_toArray, List.nil_append, List.cons_append]
  gi_wp2
  go_ret
  exact ⟨rfl, rfl⟩
theorem back_stops (F : Fence) (n : Nat) (hf : F.fn 64) (hro : F.round = none) (hn : 1 ≤ n) (Bs n₀ c : Nat) (A : Option Addr) (zs : List Item) (hz : zs.length ≤ 1000000) (w : World) (hB : Bs < n₀) (hn0 : n₀ ≤ w.heap.size)
    (hBs : w.cell? ⟨Bs, 0, none⟩ = some (.slice A zs.length c)) (hr : ∀ (j : Nat) (x : Item), zs[j]? = some x → ∃ b o, A = some ⟨b, o, none⟩ ∧ b < n₀) (hR0 : RdI w A zs) :
    SeqStopsK F n Try.prog 64 #[.pointer (some ⟨Bs, 0, none⟩)] backEnc (Below n₀) (fun ys => ys.map (·.2) = zs.reverse) (fun pre => ∃ k, pre.map (·.2) = zs.reverse.take k) zs.length w := fun l J Jx W hW _ _ hY h0 =>
  back1_in F n hf hro hn l Bs n₀ c A zs hz J Jx hY W hB (Nat.le_trans hn0 hW.size) ((hW.cell (p := ⟨Bs, 0, none⟩) (Nat.lt_of_lt_of_le hB hn0)).trans hBs) hr (hR0.below hW) h0
end Go.Proofs.Ytkdcenbommhnoaa
namespace Go.Proofs.Ytkdcenbommhnoaa
open Go.RowKit
theorem run_append_strs (w : World) (g : Nat) (s : Str) (O : Option Addr) (L : List Str) (cc : Nat) (hg : w.heap[g]? = some (.cells #[vs s] 9 (0, 0))) (hr : RdS w O L) (hl : L.length ≤ 1000000) :
    ∃ v' w', (Builtin.append_ #[38, 38] 38 #[.slice (some ⟨g, 0, none⟩) 1 1, .slice O L.length cc]).run Try.prog w = .ok v' w' ∧ w'.ownsRow g 9 1 v' (1 + L.length) ((s :: L).map vs) ∧ w.grownBy w' (some g) := by
  obtain ⟨i0, hi0, hz0, hz1, hz2⟩ := info_parts info9
  have hlt := lt_of_heap hg
  have hown : w.ownsRow g 9 1 (.slice (some ⟨g, 0, none⟩) 1 1) 1 [vs s] := ⟨rfl, .inr ⟨g, 1, #[vs s], rfl, Nat.le_refl _, hg, Nat.le_refl _, by decide, rfl, rfl⟩⟩
  cases O with
  | none =>
    have : L = [] := by
      by_cases h : L = []
      · exact h
      · obtain ⟨b, o, hA, _⟩ := hr h; cases hA
    subst this
    refine ⟨.slice (some ⟨g, 0, none⟩) 1 1, w, ?_, hown, ⟨rfl, rfl, rfl, Nat.le_refl _, fun _ _ _ => rfl⟩⟩
    have := run_append_owned_none (P := Try.prog) (w := w) g 38 38 9 i0 1 Try.underlying38 hi0 _ 1 [vs s] hown
    simpa [Builtin.append_, Builtin.lenOf, Builtin.firstCells] using this
  | some a =>
    have hn : ∀ j u, (L.map vs)[j]? = some u → w.cell? (a.add j) = some u := by
      intro j u hu
      rw [List.getElem?_map] at hu
      obtain ⟨x, hx, rfl⟩ := Option.map_eq_some_iff.1 hu
      obtain ⟨b, o, hA, _, hc⟩ := hr (by rintro rfl; simp at hx)
      cases hA
      have := hc j x hx 0 _ rfl
      rw [Addr.add_lit]
      simpa using this
    obtain ⟨v', w', h1, h2, h3, _⟩ := run_append_own (P := Try.prog) w g 38 38 9 i0 (.string ⟨#[]⟩) 1 16 Try.underlying38 hi0 hz0 hz1 hz2 rfl (by decide) _ 1 [vs s] hown a L.length cc (L.map vs) (by simp) hn (by intro u hu; obtain ⟨x, _, rfl⟩ := List.mem_map.1 hu; rfl) (le_maxLen (by omega)) (by omega) (Nat.le_of_lt hlt)
    exact ⟨v', w', h1, by simpa using h2, h3⟩
theorem step_append_strs {ops : Array Oper} {o : Oper} {a : Act} {w : World} {K : Act → World → Prop} {Q : Exit → Act → World → Prop} {E : Prop}
    (hgd : o.guard = none) (d x : Operand) (hop : o.op = Op.call { callee := Callee.builtin Builtin.append, args := #[d, x], argTypes := #[38, 38] }) (ht : o.type = 38)
    (g : Nat) (s : Str) (O : Option Addr) (L : List Str) (cc : Nat) (hd : a.eval d = .slice (some ⟨g, 0, none⟩) 1 1) (hx : a.eval x = .slice O L.length cc)
    (hg : w.heap[g]? = some (.cells #[vs s] 9 (0, 0))) (hr : RdS w O L) (hl : L.length ≤ 1000000)
    (hK : ∀ O' c' w', RdS w' O' (s :: L) → w.grownBy w' (some g) → K (a.put o.dst (.slice O' (1 + L.length) c')) w') :
    if Region.wanted o (yielded ops a.tmps) = true then Oper.wp Try.prog o a w K Q else E := by
  obtain ⟨v', w', h1, h2, h3⟩ := run_append_strs w g s O L cc hg hr hl
  have hw : Region.wanted o (yielded ops a.tmps) = true := by simp [Region.wanted, hgd]
  rw [if_pos hw]
  obtain ⟨O', c', rfl, hrd, _⟩ := own_slice h2
  unfold Oper.wp
  simp [execOp, hop, ht, resolve, invoke, builtin, hd, hx, h1, Result.andThen]
  exact hK _ _ _ hrd h3
theorem belowL_le (l : List Item) (id : Str) : (belowL l id).length ≤ l.length := by
  unfold belowL
  split
  · exact Nat.le_trans (belowF_len _ _) (walkL_le l)
  · simp
end Go.Proofs.Ytkdcenbommhnoaa
namespace Go.Proofs.Ytkdcenbommhnoaa
open Go.RowKit
theorem keepc {wp wn : World} {b o : Nat} {v : Value} (hb : Below wp.heap.size wp wn) (h : wp.cell? ⟨b, o, none⟩ = some v) : wn.cell? ⟨b, o, none⟩ = some v := (hb.cell (p := ⟨b, o, none⟩) (World.block_lt_of_cell? _ _ h)).trans h
theorem keepb {wp wn : World} {b : Nat} (hb : Below wp.heap.size wp wn) (h : b < wp.heap.size) : b < wn.heap.size := Nat.lt_of_lt_of_le h hb.size
theorem po_A {W4 w5 w6 : World} {o : Obj} (hb5 : Below (W4.drew.alloc o).heap.size (W4.drew.alloc o) w5) (hgr : w5.grownBy w6 (some W4.heap.size)) : Below W4.heap.size W4 w6 := by
  have hz := hb5.size
  simp at hz
  exact ((((Below.refl W4.heap.size W4).drew.alloc (Nat.le_refl _) o).trans (hb5.mono (by simp)))).grown hgr (by omega) (fun k hk => by cases hk; exact Nat.le_refl _)
theorem po_B {W4 w5 w6 : World} {o : Obj} (hb5 : Below W4.drew.heap.size W4.drew w5) (hgr : (w5.alloc o).grownBy w6 (some w5.heap.size)) : Below W4.heap.size W4 w6 := by
  have hz := hb5.size
  simp at hz
  exact (((Below.refl W4.heap.size W4).drew.trans (hb5.mono (by simp))).alloc (by omega) o).grown hgr (by simp; omega) (fun k hk => by cases hk; omega)
theorem ids_lit {l : List Item} {M : List Str} (hM : idsL l = M) (A : Option Addr) (n c : Nat) (w : World) (hn : n = l.length) (hr : RdI w A l) (hl : l.length ≤ 1000000) :
    Calls Try.prog 18 #[.agg #[.slice A n c]] w fun e w' => ∃ O cc, e = .returned (.slice O M.length cc) ∧ RdS w' O M ∧ Below w.heap.size w w' := by
  subst hn hM
  refine (ids_any l A c w hr hl).mono ?_
  rintro e w' ⟨O, cc, h1, h2, -, h4⟩
  exact ⟨O, cc, h1, h2, h4⟩
theorem names_same {l m : List Str} (h : l = m) (A B : Option Addr) (c d n k : Nat) (hn : n = l.length) (hk : k = m.length) (w : World) (hr : RdS w A l) (hs : RdS w B m) (hl : l.length ≤ maxLen) (hm : m.length ≤ maxLen) :
    Calls Try.prog 17 #[.slice A n c, .slice B k d] w fun e w' => e = .returned (.bool true) ∧ Below w.heap.size w w' := by
  subst hn hk h
  refine (names_any l l A B c d w hr hs hl hm).mono ?_
  rintro e w' ⟨rfl, h⟩
  exact ⟨by simp, h⟩
theorem lastSib_succ {d : List Item} {k : Nat} {x : Item} {par : Str} (h : d[k]? = some x) : lastSib (d.take (k + 1)) par = if x.par == par then x.id else lastSib (d.take k) par := by
  obtain ⟨hk, rfl⟩ := List.getElem?_eq_some_iff.1 h
  unfold lastSib
  rw [List.take_succ_eq_append_getElem hk, List.foldl_append]
  rfl
def restL (M : List Str) (l : List Item) (k : Nat) : List Str := ((l.take k).filter fun x => !hasS M x.id).map (·.id)
theorem restL_in {M : List Str} {l : List Item} {k : Nat} {x : Item} (h : l[k]? = some x) (hi : hasS M x.id = true) : restL M l (k + 1) = restL M l k := by
  obtain ⟨hk, rfl⟩ := List.getElem?_eq_some_iff.1 h
  unfold restL
  rw [List.take_succ_eq_append_getElem hk, List.filter_append]
  simp [hi]
theorem restL_out {M : List Str} {l : List Item} {k : Nat} {x : Item} (h : l[k]? = some x) (hi : hasS M x.id = false) : restL M l (k + 1) = restL M l k ++ [x.id] := by
  obtain ⟨hk, rfl⟩ := List.getElem?_eq_some_iff.1 h
  unfold restL
  rw [List.take_succ_eq_append_getElem hk, List.filter_append]
  simp [hi]
theorem restL_le (M : List Str) (l : List Item) (k : Nat) : (restL M l k).length ≤ l.length := by
  unfold restL
  rw [List.length_map]
  exact Nat.le_trans (List.length_filter_le _ _) (by rw [List.length_take]; omega)
def keptL (a b : Nat) (d : List Item) (k : Nat) : List Str := ((d.take k).take a ++ (d.take k).drop b).map (·.id)
theorem take_take_lt {α : Type} (d : List α) {k a : Nat} (h : a ≤ k) : (d.take k).take a = d.take a := by rw [List.take_take, Nat.min_eq_left h]
theorem keptL_lo {a b : Nat} {d : List Item} {k : Nat} {x : Item} (h : d[k]? = some x) (hk : k < a) (hab : a ≤ b) : keptL a b d (k + 1) = keptL a b d k ++ [x.id] := by
  obtain ⟨hk2, rfl⟩ := List.getElem?_eq_some_iff.1 h
  unfold keptL
  have e1 : (d.take (k + 1)).drop b = [] := List.drop_of_length_le (by rw [List.length_take]; omega)
  have e2 : (d.take k).drop b = [] := List.drop_of_length_le (by rw [List.length_take]; omega)
  have e3 : (d.take (k + 1)).take a = d.take (k + 1) := List.take_of_length_le (by rw [List.length_take]; omega)
  have e4 : (d.take k).take a = d.take k := List.take_of_length_le (by rw [List.length_take]; omega)
  rw [e1, e2, e3, e4, List.take_succ_eq_append_getElem hk2, List.append_nil, List.append_nil, List.map_append]
  rfl
theorem keptL_mid {a b : Nat} {d : List Item} {k : Nat} (h1 : a ≤ k) (h2 : k < b) : keptL a b d (k + 1) = keptL a b d k := by
  unfold keptL
  rw [List.drop_of_length_le (by rw [List.length_take]; omega), List.drop_of_length_le (by rw [List.length_take]; omega), take_take_lt d (by omega), take_take_lt d h1]
theorem keptL_hi {a b : Nat} {d : List Item} {k : Nat} {x : Item} (h : d[k]? = some x) (hab : a ≤ b) (hk : b ≤ k) : keptL a b d (k + 1) = keptL a b d k ++ [x.id] := by
  obtain ⟨hk2, rfl⟩ := List.getElem?_eq_some_iff.1 h
  unfold keptL
  rw [take_take_lt d (by omega), take_take_lt d (by omega), List.take_succ_eq_append_getElem hk2, List.drop_append_of_le_length (by rw [List.length_take]; omega)]
  simp
theorem keptL_le (a b : Nat) (d : List Item) (k : Nat) : (keptL a b d k).length ≤ 2 * d.length := by
  unfold keptL
  simp only [List.length_map, List.length_append, List.length_take, List.length_drop]
  omega
theorem RdI.take {w : World} {A : Option Addr} {l : List Item} (h : RdI w A l) (n : Nat) : RdI w A (l.take n) := by
  intro hne
  obtain ⟨b, o, hA, hlt, hc⟩ := h (by rintro rfl; simp at hne)
  refine ⟨b, o, hA, hlt, fun k x hx j v hv => hc k x ?_ j v hv⟩
  rw [List.getElem?_take] at hx
  split at hx
  · exact hx
  · cases hx
theorem restL_all (M : List Str) (l : List Item) : restL M l l.length = (l.filter fun x => !hasS M x.id).map (·.id) := by unfold restL; rw [List.take_of_length_le (Nat.le_refl _)]
theorem keptL_all (a b : Nat) (d : List Item) : keptL a b d d.length = (d.take a ++ d.drop b).map (·.id) := by unfold keptL; rw [List.take_of_length_le (Nat.le_refl _)]
end Go.Proofs.Ytkdcenbommhnoaa
namespace Go.Proofs.Ytkdcenbommhnoaa
open Go.RowKit Go.Shelf
attribute [local go_sem] Oper.semAt_some
theorem wpListIn_store_pat {F : Fence} {n : Nat} {ops : Array Oper} {rest : List Oper} {op : Oper} {a : Act} {w : World} {Q : Exit → Act → World → Prop} (hgd : op.guard = none) (x y : Operand) (ho : op.op = .store 28 x y)
    (g : Nat) (q cur : Patch) (hx : a.eval x = .pointer (some ⟨g, 0, none⟩)) (hy : a.eval y = .agg (patCs q)) (hg : w.blk g = some (.cells (patCs cur) 28 (0, 0)))
    (h : wpListIn F n Try.prog ops Q rest (a.put op.dst undef) (w.setRow g (patCs q))) : wpListIn F n Try.prog ops Q (op :: rest) a w := by
  refine wpListIn_plain hgd fun K hK => ?_
  have hst := run_storeCells_at Try.prog g 0 28 (patCs q).toList 0 (patCs cur) w hg (by simp) (patCs_one q)
  have hst' : (storeCells ⟨g, 0, none⟩ (patCs q).toList).run Try.prog w = .ok () (w.setRow g (patCs q)) := by simpa using hst
  unfold Oper.wpIn
  refine ⟨?_, ?_⟩
  · simp [Oper.about, ho, Sem.run_pure]
  · rw [Oper.semAt_plain F _ _ (by rw [ho]; intro c hc; cases hc)]
    unfold execOp
    cases hq : Try.prog.info? 28 with
    | none => have := size28; simp [hq] at this
    | some i =>
      have hs : i.size = 15 := by have := size28; simpa [hq] using this
      simp only [ho, hx, hy, Instr.storeAt, Instr.sureAddr, Sem.run_bind, Sem.run_pure, Result.andThen_ok]
      have hsv : (storeVar 28 ⟨g, 0, none⟩ (.agg (patCs q))).run Try.prog w = .ok () (w.setRow g (patCs q)) := by
        simp [storeVar, sizeOf, typeInfo, hq, Value.cells, hs] at hst' ⊢
        exact hst'
      simp only [hsv]
      exact hK _ _ h
theorem blk_kept {X Y : World} {row : Option Nat} {b : Nat} {C : Array Value} {t : TypeId} {fr : Nat × Nat} (h : X.blk b = some (.cells C t fr)) (hg : X.grownBy Y row) (hr : ∀ r, row = some r → ∃ o : Obj, X.heap[r]? = some o ∧ o.isCells = false) : Y.blk b = some (.cells C t fr) :=
  (hg.block b (lt_of_heap h) (fun e => by obtain ⟨o, ho, hc⟩ := hr b e.symm; rw [show X.heap[b]? = _ from h] at ho; cases ho; cases hc)).trans h
def BackI (w : World) (g8 g4 gy gs : Nat) (v : Value) (b : Patch) (C : Array Value) (par : Str) (pre : List (Nat × Item)) (W : World) : Prop :=
  (W.blk g8 = some (.cells (patCs b) 28 (0, 0)) ∧ W.blk g4 = some (.cells (patCs zeroP) 28 (0, 0)) ∧ W.blk gy = some (.cells C 26 (0, 0)) ∧ W.cell? ⟨gs, 0, none⟩ = some v ∧ ∀ x ∈ pre, x.2.par ≠ par) ∧ Below w.heap.size w W
def BackX (w : World) (g8 g4 : Nat) (b : Patch) (par : Str) (c : Code) (pre : List (Nat × Item)) (W : World) : Prop :=
  (c = .exit 1 ∧ ∃ ini last, pre = ini ++ [last] ∧ (∀ x ∈ ini, x.2.par ≠ par) ∧ last.2.par = par ∧ W.blk g8 = some (.cells (patCs { b with aft := last.2.id }) 28 (0, 0)) ∧ W.blk g4 = some (.cells (patCs zeroP) 28 (0, 0))) ∧ Below w.heap.size w W
theorem BackI.own {w : World} {g8 g4 gy gs : Nat} {v : Value} {b : Patch} {C : Array Value} {par : Str} {B : Nat} (hB : w.heap.size ≤ B) : OwnFrom B (BackI w g8 g4 gy gs v b C par) :=
  OwnFrom.and (Own.from (fun s A B row hs hg hr => ⟨blk_kept hs.1 hg hr, blk_kept hs.2.1 hg hr, blk_kept hs.2.2.1 hg hr, cell_kept hs.2.2.2.1 hg hr, hs.2.2.2.2⟩) _) (ownFrom_below (Nat.le_refl _) hB)
theorem BackX.own {w : World} {g8 g4 : Nat} {b : Patch} {par : Str} {B : Nat} (hB : w.heap.size ≤ B) (c : Code) : OwnFrom B (BackX w g8 g4 b par c) :=
  OwnFrom.and (Own.from (fun s A B row hs hg hr => by obtain ⟨hc, ini, last, e1, e2, e3, e4, e5⟩ := hs; exact ⟨hc, ini, last, e1, e2, e3, blk_kept e4 hg hr, blk_kept e5 hg hr⟩) _) (ownFrom_below (Nat.le_refl _) hB)
theorem lastSib_back {zs : List Item} {par : Str} {ini : List (Nat × Item)} {last : Nat × Item} {kk : Nat} (h : (ini ++ [last]).map (·.2) = zs.reverse.take kk) (hn : ∀ x ∈ ini, x.2.par ≠ par) (hl : last.2.par = par) : lastSib zs par = last.2.id := by
  have h1 : zs = (zs.reverse.drop kk).reverse ++ last.2 :: (ini.map (·.2)).reverse := by
    have e : zs.reverse = (ini ++ [last]).map (·.2) ++ zs.reverse.drop kk := by rw [h, List.take_append_drop]
    have e2 := congrArg List.reverse e
    rw [List.reverse_reverse, List.reverse_append, List.map_append, List.reverse_append] at e2
    simpa using e2
  rw [h1]
  refine lastSib_at hl fun z hz => ?_
  rw [List.mem_reverse] at hz
  obtain ⟨x, hx, rfl⟩ := List.mem_map.1 hz
  exact hn x hx
theorem lastSib_nil {zs : List Item} {par : Str} {ys : List (Nat × Item)} (h : ys.map (·.2) = zs.reverse) (hn : ∀ x ∈ ys, x.2.par ≠ par) : lastSib zs par = [] := by
  refine lastSib_none fun z hz => ?_
  have : z ∈ ys.map (·.2) := by rw [h, List.mem_reverse]; exact hz
  obtain ⟨x, hx, rfl⟩ := List.mem_map.1 this
  exact hn x hx
set_option maxRecDepth 100000 in
set_option maxHeartbeats 8000000 in
theorem inv_4 (l : List Item) (A : Option Addr) (c : Nat) (p : Patch) (w : World) (hr : RdI w A l) (hl : l.length ≤ 100000) (hlc : l.length ≤ c) (hsh : ∀ x ∈ l, x.Short) (hps : p.item.Short) (hpn : p.num.length ≤ maxLen)
    (m : Int) (hg : w.cell? ⟨0, 0, none⟩ = some (.int .i64 m)) (htt : p.to.length ≤ 1000000) (he : (applyF l p).2 = 0) (hk : p.kind = 4) : Inverts l A c p w := by
  have hk1 : (p.kind == 1) = false := by simp [hk]
  have hk2 : (p.kind == 2) = false := by simp [hk]
  have hk3 : (p.kind == 3) = false := by simp [hk]
  have hk4 : (p.kind == 4) = true := by simp [hk]
  have hk5 : (p.kind == 5) = false := by simp [hk]
  have hk6 : (p.kind == 6) = false := by simp [hk]
  have hk7 : (p.kind == 7) = false := by simp [hk]
  obtain ⟨hwb, k, y, hf1, hf2, hf3⟩ := inv_found he (by omega)
  have hi : invertF l p = ({ bare p with par := y.par, aft := lastSib (l.take k) y.par }, 0) := by unfold invertF backF; rw [if_pos he]; simp [hk, hf3, hf1]
  clear hk hf3 hwb
  unfold Inverts
  rw [hi]
  clear hi
  obtain ⟨d, hd⟩ : ∃ d, (applyF l p).1 = d := ⟨_, rfl⟩
  have HF := Lib.hid hf1; clear hf1
  have HY := Lib.hid hf2; clear hf2
  have hb0 := (((Below.refl w.heap.size w).alloc (Nat.le_refl _) (.cells #[.slice A l.length c] 24)).alloc (by simp) (.cells (patCs p) 28)).alloc (by simp; omega) (.cells (patCs zeroP) 28)
  have HB0 := Lib.hid hb0; clear hb0
  have HR := Lib.hid hr; clear hr
  have HG := Lib.hid hg; clear hg
  have HD := Lib.hid hd; clear hd
  have HE := Lib.hid he; clear he
  refine (callsIn_wide (n := 9)).1 ?_
  refine callsIn_of_wp_marks Try.func22 rfl trivial ?_ rfl
  simp only [Try.ntmps22, List.size_toArray, List.length_cons, List.length_nil, Nat.reduceAdd, Nat.reduceSub, Array.replicate_succ, Array.replicate_zero, List.push_toArray, List.append_toArray, List.nil_append, List.cons_append]
  have f13 : Fence.wide.fn 13 := trivial
  have f15 : Fence.wide.fn 15 := trivial
  have f44 : Fence.wide.fn 44 := trivial
  have f64 : Fence.wide.fn 64 := trivial
  have hap := apply_any l A c p _ (HR.out.below HB0.out) (by omega) hlc hsh hps hpn m (step_cell HB0.out HG.out) htt
  unfold Applies at hap
  rw [HD.out, HE.out] at hap
  have HAP := Lib.hid hap; clear hap
  gi_wp2
  refine ((callsIn_wide (n := 8)).2 HAP.out).mono ?_
  rintro e w4 ⟨v, rfl, ⟨A', c', rfl, hr', hlc', hA'⟩, hb2⟩
  obtain ⟨hc, hf⟩ := bcell hb2
  have hblk := bblk hb2
  simp at hc hf hblk
  have hz4 := hb2.size
  simp at hz4
  have HB4 := Lib.hid hb2; clear hb2
  have HR4 := Lib.hid ((HR.out.below HB0.out).below HB4.out)
  have HR' := Lib.hid hr'; clear hr'
  have z1 : w.heap.size < w4.heap.size := by omega
  have z2 : w.heap.size + 1 < w4.heap.size := by omega
  have z3 : w.heap.size + 1 + 1 < w4.heap.size := by omega
  gi_wp2
  refine ((callsIn_wide (n := 8)).2 (find_any l A c p.id _ (HR4.out.below (((Below.refl _ _).alloc (Nat.le_refl _) _).alloc (by simp) _)) (le_maxLen (by omega)))).mono ?_
  rintro e w5 ⟨rfl, hb5⟩
  rw [HF.out]
  have hz5 := hb5.size
  simp at hz5
  have F2 : w5.cell? ⟨w.heap.size, 0, none⟩ = some (.slice A l.length c) := (hb5.cell (p := ⟨w.heap.size, 0, none⟩) (by simp; omega)).trans (by simp [go_sem, z1, hc])
  have F3 : w5.blk (w.heap.size + 1) = some (.cells (patCs p) 28 (0, 0)) := (hb5.block _ (by simp; omega)).trans ((blk_alloc_lt (by simp; omega)).trans ((blk_alloc_lt (by omega)).trans ((hblk _ (by omega)).trans (by simp [go_sem]))))
  have F4 : w5.blk (w.heap.size + 1 + 1) = some (.cells (patCs zeroP) 28 (0, 0)) := (hb5.block _ (by simp; omega)).trans ((blk_alloc_lt (by simp; omega)).trans ((blk_alloc_lt (by omega)).trans ((hblk _ (by omega)).trans (by simp [go_sem]))))
  have F6 : w5.cell? ⟨w4.heap.size, 0, none⟩ = some (.slice A' d.length c') := (hb5.cell (p := ⟨w4.heap.size, 0, none⟩) (by simp; omega)).trans (by simp [go_sem])
  have F8 : w5.blk (w4.heap.size + 1) = some (.cells (patCs (bare p)) 28 (0, 0)) := (hb5.block _ (by simp)).trans (blk_alloc_at (by simp))
  have HB5 : Hid (Below w.heap.size w w5) := Lib.hid (HB0.out.trans ((((HB4.out.alloc HB4.out.size _).alloc (by have := HB4.out.size; simp at this ⊢; omega) _).trans (hb5.mono (by have := HB4.out.size; simp at this ⊢; omega))).mono HB0.out.size))
  have HR5 := Lib.hid (HR.out.below HB5.out)
  have HD5 := Lib.hid (HR'.out.below ((((Below.refl _ _).alloc (Nat.le_refl _) (.cells #[.slice A' d.length c'] 24)).alloc (by simp) (.cells (patCs (bare p)) 28)).trans (hb5.mono (by simp; omega))))
  clear hb5 hc hf hblk HB4 HR4 HB0 HR'
  have w1 : w.heap.size < w5.heap.size := by omega
  have w2 : w.heap.size + 1 < w5.heap.size := by omega
  have w3 : w.heap.size + 1 + 1 < w5.heap.size := by omega
  have w6 : w4.heap.size < w5.heap.size := by omega
  have w8 : w4.heap.size + 1 < w5.heap.size := by omega
  obtain ⟨b1, o1, rfl, hbs1, c0, c1, c2, c3, c4, c5, c6⟩ := HR5.out.item HY.out
  have hi0 : (0 : Int) ≤ k := by omega
  have hi1 : (k : Int) < l.length := by have := (List.getElem?_eq_some_iff.1 HY.out).1; omega
  have P0 : w5.cell? ⟨w.heap.size + 1, 0, none⟩ = some (.int .i64 p.kind) := cell_of_blk F3 rfl
  have B0 : w5.cell? ⟨w4.heap.size + 1, 2, none⟩ = some (vs []) := cell_of_blk F8 rfl
  have B1 : w5.frozen? ⟨w4.heap.size + 1, 2, none⟩ = false := frozen_of_blk F8
  have hkc : k ≤ c := by omega
  have hkc1 : (k : Int) ≤ c := by omega
  gi_wp2
  refine (back_in Fence.wide 8 f44 rfl _ _ _ _).mono ?_
  rintro e w6 ⟨rfl, hw6⟩
  obtain ⟨zs, hzs⟩ : ∃ zs, zs = l.take k := ⟨_, rfl⟩
  have hlk : zs.length = k := by rw [hzs, List.length_take]; omega
  have S8 : (w5.setCell ⟨w4.heap.size + 1, 2, none⟩ (vs y.par)).blk (w4.heap.size + 1) = some (.cells (patCs ({ bare p with par := y.par })) 28 (0, 0)) := blk_setCell_at F8
  have z6 : w6.heap.size = w5.heap.size + 1 + 1 := by rw [hw6]; simp
  have G8 : w6.blk (w4.heap.size + 1) = some (.cells (patCs ({ bare p with par := y.par })) 28 (0, 0)) := by
    rw [hw6]; exact (blk_alloc_lt (by simp; omega)).trans ((blk_alloc_lt (by simp; omega)).trans S8)
  have G4 : w6.blk (w.heap.size + 1 + 1) = some (.cells (patCs zeroP) 28 (0, 0)) := by
    rw [hw6]; exact (blk_alloc_lt (by simp; omega)).trans ((blk_alloc_lt (by simp; omega)).trans ((blk_setCell (by show _ ≠ w4.heap.size + 1; omega)).trans F4))
  have GY : w6.blk w5.heap.size = some (.cells #[.int .i64 y.kind, vs y.id, vs y.par, vs y.num, vs y.no, vs y.so, .bool y.gone] 26 (0, 0)) := by
    rw [hw6]; exact (blk_alloc_lt (by simp)).trans (blk_alloc_at (by simp))
  have GS : w6.cell? ⟨w5.heap.size + 1, 0, none⟩ = some (.slice (some ⟨b1, o1, none⟩) zs.length c) := by
    rw [hw6, hlk]; simp [go_sem]
  have HB6 : Hid (Below w.heap.size w w6) := Lib.hid (by
    rw [hw6]; exact ((HB5.out.setCell (show w.heap.size ≤ w4.heap.size + 1 by omega) _).alloc (by have := HB5.out.size; simp; omega) _).alloc (by have := HB5.out.size; simp; omega) _)
  have hb1w : b1 < w6.heap.size := by omega
  have HRz := Lib.hid ((HR.out.below HB6.out).take k)
  rw [← hzs] at HRz
  have HZS := Lib.hid hzs; clear hzs
  have HZ6 := Lib.hid z6; clear z6
  clear hw6 S8
  gi_wp2
  have lk1 : zs.length ≤ 1000000 := by omega
  clear hlk
  refine wpIn_rangeFunc_ownH rfl (by decide) (gf := 64) (lb := #[.pointer (some ⟨w5.heap.size + 1, 0, none⟩)]) rfl f64 (enters_of Try.func64 (by kernel_rfl) rfl)
    (back_stops Fence.wide 8 f64 rfl (by decide) (w5.heap.size + 1) w6.heap.size c (some ⟨b1, o1, none⟩) zs lk1 w6 (by rw [HZ6.out]; omega) (Nat.le_refl _) GS (fun j x _ => ⟨b1, o1, rfl, hb1w⟩) HRz.out) belowK_t (belowK_b (Nat.le_refl _)) (Below.refl _ _) (fun _ => rfl)
    (BackI w (w4.heap.size + 1) (w.heap.size + 1 + 1) w5.heap.size (w5.heap.size + 1) (.slice (some ⟨b1, o1, none⟩) zs.length c) ({ bare p with par := y.par }) #[.int .i64 y.kind, vs y.id, vs y.par, vs y.num, vs y.no, vs y.so, .bool y.gone] y.par)
    (BackX w (w4.heap.size + 1) (w.heap.size + 1 + 1) ({ bare p with par := y.par }) y.par) (BackI.own HB6.out.size) (BackX.own HB6.out.size)
    ⟨⟨G8, G4, GY, GS, by simp⟩, HB6.out⟩
    (fun x a' W => ∃ Bx, w6.heap.size ≤ Bx ∧ W.blk Bx = some (.cells #[.int .i64 x.2.kind, vs x.2.id, vs x.2.par, vs x.2.num, vs x.2.no, vs x.2.so, .bool x.2.gone] 26 (0, 0)) ∧ a' = { tmps := #[Value.agg #[Value.slice (some { block := b1, off := o1 }) l.length c], p.agg, Value.pointer (some { block := w.heap.size, off := 0 }), Value.pointer (some { block := w.heap.size + 1, off := 0 }), Value.pointer (some { block := w.heap.size + 1 + 1, off := 0 }), Value.int IntKind.i64 0, Value.pointer (some { block := w4.heap.size, off := 0 }), Value.int IntKind.i64 0, Value.pointer (some { block := w4.heap.size + 1, off := 0 }), Value.int IntKind.i64 ↑k, Value.pointer (some { block := w5.heap.size, off := 0 }), undef, undef, undef, undef, .pointer (some ⟨Bx, 0, none⟩), Value.tuple #[Value.agg #[Value.slice A' d.length c'], Value.int IntKind.i64 0], Value.agg #[Value.slice (some { block := b1, off := o1 }) l.length c], Value.agg #[Value.int IntKind.i64 p.kind, vs p.id, vs p.par, vs p.aft, vs p.num, Value.int IntKind.i64 p.item.kind, vs p.item.id, vs p.item.par, vs p.item.num, vs p.item.no, vs p.item.so, Value.bool p.item.gone, Value.int IntKind.i64 p.lang, vs p.fr, vs p.to], Value.tuple #[Value.agg #[Value.slice A' d.length c'], Value.int IntKind.i64 0], Value.agg #[Value.slice A' d.length c'], Value.int IntKind.i64 0, Value.int IntKind.i64 0, Value.bool false, undef, undef, Value.pointer (some { block := w.heap.size + 1, off := 0 }), Value.int IntKind.i64 p.kind, Value.pointer (some { block := w.heap.size + 1, off := 1 }), vs p.id, Value.agg #[Value.int IntKind.i64 p.kind, vs p.id, Value.string { data := #[] }, Value.string { data := #[] }, Value.string { data := #[] }, Value.int IntKind.i64 0, Value.string { data := #[] }, Value.string { data := #[] }, Value.string { data := #[] }, Value.string { data := #[] }, Value.string { data := #[] }, Value.bool false, Value.int IntKind.i64 0, Value.string { data := #[] }, Value.string { data := #[] }], Value.pointer (some { block := w.heap.size + 1, off := 0 }), Value.int IntKind.i64 p.kind, Value.bool false, undef, Value.agg #[Value.slice (some { block := b1, off := o1 }) l.length c], Value.pointer (some { block := w.heap.size + 1, off := 1 }), vs p.id, Value.int IntKind.i64 ↑k, Value.pointer (some { block := w.heap.size, off := 0 }), Value.slice (some { block := b1, off := o1 }) l.length c, Value.int IntKind.i64 ↑k, Value.pointer (some { block := b1, off := o1 + k * 7 }), Value.agg #[Value.int IntKind.i64 y.kind, vs y.id, vs y.par, vs y.num, vs y.no, vs y.so, Value.bool y.gone], Value.pointer (some { block := w.heap.size + 1, off := 0 }), Value.int IntKind.i64 p.kind, Value.bool false, Value.bool false, undef, undef, undef, undef, undef, undef, undef, undef, undef, undef, undef, undef, undef, undef, undef, undef, undef, undef, undef, undef, undef, undef, undef, undef, undef, undef, undef, undef, undef, undef, undef, undef, undef, undef, undef, undef, undef, undef, undef, Value.bool false, Value.bool false, undef, undef, undef, Value.bool true, Value.bool true, Value.pointer (some { block := w5.heap.size, off := 2 }), Value.string { data := List.toArray y.par }, Value.pointer (some { block := w4.heap.size + 1, off := 2 }), Value.pointer (some { block := w.heap.size, off := 0 }), Value.slice (some { block := b1, off := o1 }) l.length c, Value.int IntKind.i64 ↑k, Value.slice (some { block := b1, off := o1 }) k c, Value.func (Fn.func 64) #[] #[Value.pointer (some { block := w5.heap.size + 1, off := 0 })], .int .i64 (x.1 : Int), x.2.agg, undef, undef, undef, undef, undef, undef, undef, undef, undef, undef, undef, undef, undef, undef, undef, undef, undef, undef, undef, undef, undef, undef, undef, undef, undef], defers := [] })
    (fun x a' _ X Y row hs hg hr => by obtain ⟨Bx, h1, h2, h3⟩ := hs; exact ⟨Bx, h1, blk_kept h2 hg (fun r e => (hr r e).2), h3⟩)
    ?assign ?body ?done ?stop
  case assign =>
    rintro l' pre x W K ⟨⟨h8, h4, hy, hs, hn⟩, hB⟩ hK
    have hle : w6.heap.size ≤ W.heap.size := by have h0 : w5.heap.size + 1 < W.heap.size := World.block_lt_of_cell? _ _ hs; rw [HZ6.out]; omega
    have H4 := Lib.hid h4; clear h4
    have H8 := Lib.hid h8; clear h8
    have HY' := Lib.hid hy; clear hy
    have HS := Lib.hid hs; clear hs
    have HBB := Lib.hid hB; clear hB
    simp only [backEnc]
    gi_wp2
    refine hK _ _ ((KeepsOthers.alloc _ _).from _) ((Below.refl _ W).alloc hle _) ⟨⟨(blk_alloc_lt (lt_of_heap H8.out)).trans H8.out, (blk_alloc_lt (lt_of_heap H4.out)).trans H4.out, (blk_alloc_lt (lt_of_heap HY'.out)).trans HY'.out, ?_, hn⟩, HBB.out.alloc HBB.out.size _⟩ ⟨W.heap.size, hle, blk_alloc_at rfl, rfl⟩
    exact keepc ((Below.refl _ W).alloc (Nat.le_refl _) _) HS.out
  case body =>
    rintro l' pre x a' W hl' ⟨r, hrr⟩ ⟨⟨h8, h4, hy, hs, hn⟩, hB⟩ ⟨Bx, hBx, bX, rfl⟩ hlt
    have X1 : W.cell? ⟨Bx, 1, none⟩ = some (vs x.2.id) := cell_of_blk bX rfl
    have X2 : W.cell? ⟨Bx, 2, none⟩ = some (vs x.2.par) := cell_of_blk bX rfl
    have Y2 : W.cell? ⟨w5.heap.size, 2, none⟩ = some (vs y.par) := cell_of_blk hy rfl
    have E1 : W.cell? ⟨w4.heap.size + 1, 3, none⟩ = some (vs []) := cell_of_blk h8 rfl
    have E2 : W.frozen? ⟨w4.heap.size + 1, 3, none⟩ = false := frozen_of_blk h8
    have H4 := Lib.hid h4; clear h4
    have H8 := Lib.hid h8; clear h8
    have HY' := Lib.hid hy; clear hy
    have HS := Lib.hid hs; clear hs
    have HBB := Lib.hid hB; clear hB
    clear bX hrr
    cases hp : (x.2.par == y.par) with
    | false =>
      have HP := Lib.hid hp
      gi_wp2
      refine ⟨KeepsFrom.refl _ _, Below.refl _ _, ⟨H8.out, H4.out, HY'.out, HS.out, fun z hz => ?_⟩, HBB.out⟩
      rcases List.mem_append.1 hz with hz | hz
      · exact hn z hz
      · simp at hz; subst hz; have := HP.out; simpa using this
    | true =>
      have HP := Lib.hid hp
      gi_wp2
      refine ⟨(KeepsOthers.setCell _ _ _).from _, ⟨rfl, pre, x, rfl, hn, by have := HP.out; simpa using this, blk_setCell_at H8.out, (blk_setCell (by show _ ≠ w4.heap.size + 1; omega)).trans H4.out⟩, HBB.out.setCell (show w.heap.size ≤ w4.heap.size + 1 by omega) _⟩
  case done =>
    rintro D ys W hD hS ⟨⟨h8, h4, hy, hs, hn⟩, hB⟩ hK
    have HLS := Lib.hid (lastSib_nil hS hn)
    have HROW := Lib.hid (blk_setRow_at (D := patCs ({ bare p with par := y.par })) h4)
    have HK := Lib.hid ((setRow_other W (w.heap.size + 1 + 1) D (patCs ({ bare p with par := y.par })) (by rw [HZ6.out] at hD; omega)).trans hK)
    have H4 := Lib.hid h4; clear h4
    have h8' := h8
    clear hy hs h8 hS hn
    gi_wp2_with (refine wpListIn_store_pat rfl (.tmp 4) (.tmp 128) (by rfl) (w.heap.size + 1 + 1) ({ bare p with par := y.par }) zeroP (by rfl) (by rfl) H4.out ?_)
    refine ⟨by simp, .inl ⟨_, _, rfl, run_takeDeferred HK.out, ?_⟩⟩
    refine ⟨_, results_pat rfl rfl (blk_kept HROW.out (grownBy_putObj' _ D (.deferred none)) (fun r e => by cases e; exact ⟨_, HK.out, rfl⟩)), ?_, ?_⟩
    · (rw [← HZS.out, HLS.out]) <;> rfl
    · exact (below_setRow hB (by omega) _).trans (belowK_b (w := w) (Nat.le_refl _) _ D _ _ (by rw [HZ6.out] at hD; omega) HK.out rfl rfl)
  case stop =>
    rintro D c1 pre W hD ⟨kk, hpre⟩ ⟨⟨rfl, ini, last, rfl, e2, e3, h8, h4⟩, hB⟩ hK
    have HLS := Lib.hid (lastSib_back hpre e2 e3)
    have HROW := Lib.hid (blk_setRow_at (D := patCs ({ bare p with par := y.par, aft := last.2.id })) h4)
    have HK := Lib.hid ((setRow_other W (w.heap.size + 1 + 1) D (patCs ({ bare p with par := y.par, aft := last.2.id })) (by rw [HZ6.out] at hD; omega)).trans hK)
    have H4 := Lib.hid h4; clear h4
    have h8' := h8
    clear h8 hpre e2 e3
    gi_wp2_with (refine wpListIn_store_pat rfl (.tmp 4) (.tmp 128) (by rfl) (w.heap.size + 1 + 1) ({ bare p with par := y.par, aft := last.2.id }) zeroP (by rfl) (by rfl) H4.out ?_)
    refine ⟨by simp, .inl ⟨_, _, rfl, run_takeDeferred HK.out, ?_⟩⟩
    refine ⟨_, results_pat rfl rfl (blk_kept HROW.out (grownBy_putObj' _ D (.deferred none)) (fun r e => by cases e; exact ⟨_, HK.out, rfl⟩)), ?_, ?_⟩
    · (rw [← HZS.out, HLS.out]) <;> rfl
    · exact (below_setRow hB (by omega) _).trans (belowK_b (w := w) (Nat.le_refl _) _ D _ _ (by rw [HZ6.out] at hD; omega) HK.out rfl rfl)
theorem invert_any (l : List Item) (A : Option Addr) (c : Nat) (p : Patch) (w : World) (hr : RdI w A l) (hl : l.length ≤ 100000) (hlc : l.length ≤ c) (hsh : ∀ x ∈ l, x.Short) (hps : p.item.Short) (hpn : p.num.length ≤ maxLen)
    (m : Int) (hg : w.cell? ⟨0, 0, none⟩ = some (.int .i64 m)) (htt : p.to.length ≤ 1000000) : Inverts l A c p w := by
  by_cases he : (applyF l p).2 = 0
  · obtain ⟨R, hgd, hfm, -⟩ := apply_done he
    have hkk := formed_kind hfm
    have hks : p.kind = 1 ∨ p.kind = 2 ∨ p.kind = 3 ∨ p.kind = 4 ∨ p.kind = 5 ∨ p.kind = 6 ∨ p.kind = 7 := by omega
    rcases hks with hk | hk | hk | hk | hk | hk | hk
    · exact inv_1 l A c p w hr hl hlc hsh hps hpn m hg htt he hk
    · obtain ⟨_, k, y, h1, h2, h3⟩ := inv_found he (by omega)
      obtain ⟨z, z1, z2, z3, z4, z5⟩ := inv_words he hk h1
      rcases z3 with z3 | z3
      · cases ho : onceIs z.no p.to with
        | false => exact inv_2a1 l A c p w hr hl hlc hsh hps hpn m hg htt he hk k y z h1 h2 z1 z2 z4 z5 z3 ho
        | true =>
          by_cases ht : p.to = []
          · exact inv_2b1 l A c p w hr hl hlc hsh hps hpn m hg htt he hk k y z h1 h2 z1 z2 z4 z5 z3 ho ht
          · exact inv_2c1 l A c p w hr hl hlc hsh hps hpn m hg htt he hk k y z h1 h2 z1 z2 z4 z5 z3 ho ht
      · cases ho : onceIs z.so p.to with
        | false => exact inv_2a2 l A c p w hr hl hlc hsh hps hpn m hg htt he hk k y z h1 h2 z1 z2 z4 z5 z3 ho
        | true =>
          by_cases ht : p.to = []
          · exact inv_2b2 l A c p w hr hl hlc hsh hps hpn m hg htt he hk k y z h1 h2 z1 z2 z4 z5 z3 ho ht
          · exact inv_2c2 l A c p w hr hl hlc hsh hps hpn m hg htt he hk k y z h1 h2 z1 z2 z4 z5 z3 ho ht
    · exact inv_3 l A c p w hr hl hlc hsh hps hpn m hg htt he hk
    · exact inv_4 l A c p w hr hl hlc hsh hps hpn m hg htt he hk
    · exact inv_5 l A c p w hr hl hlc hsh hps hpn m hg htt he hk
    · exact inv_6 l A c p w hr hl hlc hsh hps hpn m hg htt he hk
    · exact inv_7 l A c p w hr hl hlc hsh hps hpn m hg htt he hk
  · exact inv_err l A c p w hr hl hlc hsh hps hpn m hg htt he
end Go.Proofs.Ytkdcenbommhnoaa
