/- slices.Backward over items: the iterator's contract. -/
import Derived.RangeFuncNested
import Derived.RangeFuncLeaves
import Derived.RangeFuncBox
import Derived.Shelf.Abstract
import Derived.WalkKit
import Derived.OwnWalkIn
import Derived.TacticsInMore
import Derived.LoopNIn
import Derived.LoopIn
import Derived.Test.YtkdcenbommhnoaaInvert3
set_option linter.unusedVariables false
set_option linter.unusedSimpArgs false
namespace Go.Proofs.Ytkdcenbommhnoaa
open Go.RowKit Go.Shelf
attribute [local go_sem] Oper.semAt_some
theorem rev_drop {zs : List Item} {j : Nat} {x : Item} (h : zs[j]? = some x) : (zs.drop j).reverse = (zs.drop (j + 1)).reverse ++ [x] := by
  obtain ⟨hj, rfl⟩ := List.getElem?_eq_some_iff.1 h
  rw [List.drop_eq_getElem_cons hj, List.reverse_cons]
def backEnc (x : Nat × Item) : Array Value := #[.int .i64 (x.1 : Int), x.2.agg]
set_option maxRecDepth 100000 in
set_option maxHeartbeats 4000000 in
theorem back1_in (F : Fence) (n : Nat) (hf : F.fn 64) (hro : F.round = none) (hn : 1 ≤ n) (l Bs n₀ c : Nat) (A : Option Addr) (zs : List Item) (hz : zs.length ≤ 1000000) (J Jx : List (Nat × Item) → World → Prop)
    (hY : ∀ pre x W, J pre W → pre.length < zs.length → YieldAt F (n - 1) Try.prog l (backEnc x) W fun e W' =>
      (e = .returned (.bool true) ∧ J (pre ++ [x]) W' ∧ Below n₀ W W') ∨ (e = .returned (.bool false) ∧ Jx (pre ++ [x]) W'))
    (W : World) (hB : Bs < n₀) (hn0 : n₀ ≤ W.heap.size) (hBs : W.cell? ⟨Bs, 0, none⟩ = some (.slice A zs.length c)) (hr : ∀ (j : Nat) (x : Item), zs[j]? = some x → ∃ b o, A = some ⟨b, o, none⟩ ∧ b < n₀) (hR0 : RdI W A zs) (h0 : J [] W) :
    CallsIn F n Try.prog 64 #[.func (.yield l) #[] #[], .pointer (some ⟨Bs, 0, none⟩)] W fun e W' => (∃ v, e = .returned v) ∧
      ((∃ ys, ys.map (·.2) = zs.reverse ∧ J ys W') ∨ (∃ pre, (∃ k, pre.map (·.2) = zs.reverse.take k) ∧ Jx pre W')) := by
  have hW1 : Below n₀ W W := Below.refl _ _
  refine callsIn_of_wp Try.func64 rfl hf ?_ hro
  simp only [Try.ntmps64, List.size_toArray, List.length_cons, List.length_nil, Nat.reduceAdd, Nat.reduceSub, Array.replicate_succ, Array.replicate_zero, List.push_toArray, List.append_toArray, List.nil_append, List.cons_append]
  gi_wp2
  gi_loopw [3] (fun i wr => ∃ (m : Nat) (pre : List (Nat × Item)), m ≤ zs.length ∧ i = .int .i64 ((m : Int) - 1) ∧ pre.map (·.2) = (zs.drop m).reverse ∧ J pre wr ∧ Below n₀ W wr)
    (fun i _ => (intOf i + 1).toNat)
  case atStart => exact ⟨zs.length, [], Nat.le_refl _, rfl, by rw [List.drop_of_length_le (Nat.le_refl _)]; rfl, h0, Below.refl _ _⟩
  case round =>
    obtain ⟨m, pre, hm, rfl, hpre, hJs, hnx⟩ := hrel
    have K0 : wr.cell? ⟨Bs, 0, none⟩ = some (.slice A zs.length c) := (hnx.cell (p := ⟨Bs, 0, none⟩) hB).trans hBs
    have HNX := Lib.hid hnx; clear hnx
    have HPRE := Lib.hid hpre
    cases m with
    | zero =>
      clear hpre
      have h1 : decide ((0 : Int) ≤ ((0 : Nat) : Int) - 1) = false := by decide
      simp only [Int.natCast_zero] at h1 ⊢
      gi_wp2
      go_end0
      exact ⟨⟨_, rfl⟩, .inl ⟨pre, by have := HPRE.out; simpa using this, hJs⟩⟩
    | succ j =>
      obtain ⟨x, hx⟩ := get_of_lt (l := zs) (k := j) (by omega)
      obtain ⟨b, o, hA, hb⟩ := hr j x hx
      have hlen : pre.length < zs.length := by
        have : (pre.map (·.2)).length = (zs.drop (j + 1)).reverse.length := by rw [hpre]
        simp at this
        omega
      clear hpre
      obtain ⟨b1, o1, hA1, hbs1, c0, c1, c2, c3, c4, c5, c6⟩ := hR0.item hx
      obtain ⟨rfl, rfl⟩ : b1 = b ∧ o1 = o := by rw [hA1] at hA; cases hA; exact ⟨rfl, rfl⟩
      subst hA1
      clear hA
      have d0 := (HNX.out.cell (p := ⟨b1, o1 + j * 7, none⟩) hb).trans c0
      have d1 := (HNX.out.cell (p := ⟨b1, o1 + j * 7 + 1, none⟩) hb).trans c1
      have d2 := (HNX.out.cell (p := ⟨b1, o1 + j * 7 + 2, none⟩) hb).trans c2
      have d3 := (HNX.out.cell (p := ⟨b1, o1 + j * 7 + 3, none⟩) hb).trans c3
      have d4 := (HNX.out.cell (p := ⟨b1, o1 + j * 7 + 4, none⟩) hb).trans c4
      have d5 := (HNX.out.cell (p := ⟨b1, o1 + j * 7 + 5, none⟩) hb).trans c5
      have d6 := (HNX.out.cell (p := ⟨b1, o1 + j * 7 + 6, none⟩) hb).trans c6
      clear c0 c1 c2 c3 c4 c5 c6
      have hi0 : (0 : Int) ≤ j := by omega
      have hi1 : (j : Int) < zs.length := by omega
      have HX := Lib.hid hx; clear hx
      obtain ⟨fn, tmps, assign, body, hy, hR⟩ := hY pre (j, x) wr hJs hlen
      simp only [backEnc] at hy
      have e1 : ((j + 1 : Nat) : Int) - 1 = j := by omega
      rw [e1]
      clear e1
      gi_wp2
      refine hR.mono ?_
      rintro e W3 (⟨rfl, hJ3, hk3⟩ | ⟨rfl, hJx3⟩)
      · gi_wp2
        go_roundw
        case rel => exact ⟨j, pre ++ [(j, x)], by omega, rfl, by rw [List.map_append, HPRE.out, rev_drop HX.out]; rfl, hJ3, HNX.out.trans hk3⟩
        case measure => simp [intOf]
      · gi_wp2
        refine bodyPost_ret (results_none rfl _ _ _) rfl ?_
        refine ⟨⟨_, rfl⟩, .inr ⟨pre ++ [(j, x)], ⟨zs.length - j, ?_⟩, hJx3⟩⟩
        rw [List.map_append, HPRE.out, ← List.reverse_drop, rev_drop HX.out]
        rfl
set_option maxHeartbeats 1000000 in
theorem back_in (F : Fence) (n : Nat) (hf : F.fn 44) (hro : F.round = none) (A : Option Addr) (len cap : Nat) (w : World) :
    CallsIn F n Try.prog 44 #[.slice A len cap] w fun e w' => e = .returned (.func (.func 64) #[] #[.pointer (some ⟨w.heap.size, 0, none⟩)]) ∧ w' = w.alloc (.cells #[.slice A len cap] 22) := by
  refine callsIn_of_wp Try.func44 rfl hf ?_ hro
  simp only [Try.ntmps44, List.size_toArray, List.length_cons, List.length_nil, Nat.reduceAdd, Nat.reduceSub, Array.replicate_succ, Array.replicate_zero, List.push_toArray, List.append_toArray, List.nil_append, List.cons_append]
  gi_wp2
  go_ret
  exact ⟨rfl, rfl⟩
theorem back_stops (F : Fence) (n : Nat) (hf : F.fn 64) (hro : F.round = none) (hn : 1 ≤ n) (Bs n₀ c : Nat) (A : Option Addr) (zs : List Item) (hz : zs.length ≤ 1000000) (w : World) (hB : Bs < n₀) (hn0 : n₀ ≤ w.heap.size)
    (hBs : w.cell? ⟨Bs, 0, none⟩ = some (.slice A zs.length c)) (hr : ∀ (j : Nat) (x : Item), zs[j]? = some x → ∃ b o, A = some ⟨b, o, none⟩ ∧ b < n₀) (hR0 : RdI w A zs) :
    SeqStopsK F n Try.prog 64 #[.pointer (some ⟨Bs, 0, none⟩)] backEnc (Below n₀) (fun ys => ys.map (·.2) = zs.reverse) (fun pre => ∃ k, pre.map (·.2) = zs.reverse.take k) zs.length w := fun l J Jx W hW _ _ hY h0 =>
  back1_in F n hf hro hn l Bs n₀ c A zs hz J Jx hY W hB (Nat.le_trans hn0 hW.size) ((hW.cell (p := ⟨Bs, 0, none⟩) (Nat.lt_of_lt_of_le hB hn0)).trans hBs) hr (hR0.below hW) h0
end Go.Proofs.Ytkdcenbommhnoaa
