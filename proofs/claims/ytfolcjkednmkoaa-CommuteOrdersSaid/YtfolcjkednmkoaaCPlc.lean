/- pandectlaw20.places: for each number the group that it is in. -/
import Derived.Test.YtfolcjkednmkoaaCRdG
import Derived.Test.YtfolcjkednmkoaaJGr
import Derived.Test.YtfolcjkednmkoaaMove
import Derived.Deep.OwnRows
set_option linter.unusedVariables false
set_option linter.unusedSimpArgs false
namespace Go.Proofs.Ytfolcjkednmkoaa
open Go.RowKit
def nv (n : Nat) : Value := .int .i64 (n : Int)
/- a row of numbers -/
def NumRow (w : World) (b : Nat) (l : List Nat) : Prop := w.heap[b]? = some (.cells (l.map nv).toArray 3 (0, 0))
theorem NumRow.lt {w : World} {b : Nat} {l : List Nat} (h : NumRow w b l) : b < w.heap.size := lt_of_heap h
theorem NumRow.cell {w : World} {b : Nat} {l : List Nat} (h : NumRow w b l) {k x : Nat} (hk : l[k]? = some x) : w.cell? ⟨b, k, none⟩ = some (.int .i64 (x : Int)) := by
  rw [cell_of_row _ _ _ _ _ _ h]
  simp [hk, nv]
theorem NumRow.fr {w : World} {b : Nat} {l : List Nat} (h : NumRow w b l) (k : Nat) : w.frozen? ⟨b, k, none⟩ = false := by
  unfold NumRow at h
  simp [World.frozen?, h]
theorem NumRow.set {w : World} {b : Nat} {l : List Nat} (h : NumRow w b l) (k x : Nat) : NumRow (w.setCell ⟨b, k, none⟩ (.int .i64 (x : Int))) b (l.set k x) := by
  unfold NumRow
  refine (row_setCell h).trans ?_
  congr 2
  apply Array.ext'
  simp [List.map_set, nv]
theorem NumRow.below {w w' : World} {b : Nat} {l : List Nat} (h : NumRow w b l) (hb : Below w.heap.size w w') : NumRow w' b l := (hb.block b h.lt).trans h
theorem NumRow.old {w w' : World} {b : Nat} {l : List Nat} (h : NumRow w b l) (hb : w'.heap[b]? = w.heap[b]?) : NumRow w' b l := hb.trans h
theorem NumRow.made (w : World) (n : Nat) : NumRow (w.alloc (.cells (madeCells #[.int .i64 0] n) 3)) w.heap.size (List.replicate n 0) := by
  refine (heap_alloc_new w _).trans ?_
  congr 2
  apply Array.ext'
  simp [madeCells, nv]
  refine List.ext_getElem (by simp) ?_
  intro i h1 h2
  simp [Nat.mod_one]
theorem info_intR : (Try.prog.info? 3).map (fun i => (i.zero, i.size, i.bytes)) = some (some (.int .i64 0), 1, 8) := by kernel_rfl
def posAt (G : List (List Nat)) (n i k : Nat) : List Nat := (ofAt G n i k).map (· - 1)
theorem posAt_zero (G : List (List Nat)) (n : Nat) : posAt G n 0 0 = List.replicate n 0 := by
  unfold posAt
  rw [ofAt_zero]
  simp
theorem posAt_set {adj : Adj} {n : Nat} {G : List (List Nat)} (h : GroupsOk adj n G) {i k x : Nat} {g : List Nat} (hg : G[i]? = some g) (hx : g[k]? = some x) : (posAt G n i k).set x i = posAt G n i (k + 1) := by
  unfold posAt
  rw [← ofAt_set h hg hx, List.map_set]
  rfl
theorem posAt_next {adj : Adj} {n : Nat} {G : List (List Nat)} (h : GroupsOk adj n G) {i : Nat} {g : List Nat} (hg : G[i]? = some g) : posAt G n i g.length = posAt G n (i + 1) 0 := by
  unfold posAt
  rw [ofAt_next h hg]
theorem posAt_end {adj : Adj} {n : Nat} {G : List (List Nat)} (h : GroupsOk adj n G) : posAt G n G.length 0 = (List.range n).map (posG G) := by
  unfold posAt
  refine List.ext_getElem? fun x => ?_
  rw [List.getElem?_map]
  by_cases hx : x < n
  · rw [ofAt_end h hx, List.getElem?_map, List.getElem?_range hx]
    simp
  · rw [List.getElem?_eq_none (by simp; omega), List.getElem?_eq_none (by simp; omega)]
    rfl
set_option maxRecDepth 20000 in
set_option maxHeartbeats 2000000 in
theorem places_g {adj : Adj} {n : Nat} {G : List (List Nat)} (hok : GroupsOk adj n G) (hn : n ≤ 1000) (hG : G.length ≤ 1000) (hgl : ∀ g ∈ G, g.length ≤ 1000) (A : Option Addr) (c : Nat) (w : World) (hr : RdG w A G) :
    Calls Try.prog 16 #[.slice A G.length c, .int .i64 (n : Int)] w fun e w' => ∃ b, e = .returned (.slice (some ⟨b, 0, none⟩) n n) ∧ w.heap.size ≤ b ∧ NumRow w' b ((List.range n).map (posG G)) ∧ Below w.heap.size w w' := by
  have HR := Lib.hid hr; clear hr
  have HOK := Lib.hid hok; clear hok
  have HGL := Lib.hid hgl; clear hgl
  have hmk := fun W => run_make_row' (P := Try.prog) 43 3 (.int .i64 0) 8 Try.underlying43 info_intR rfl .i64 .i64 n (by omega) (by omega) W
  go_enter Try.func16, Try.ntmps16
  go_wp2_with fail
  have hN0 := NumRow.made w n
  rw [← posAt_zero G n] at hN0
  have hb0 : Below w.heap.size w (w.alloc (.cells (madeCells #[.int .i64 0] n) 3)) := (Below.refl _ _).alloc (Nat.le_refl _) _
  generalize w.alloc (.cells (madeCells #[.int .i64 0] n) 3) = W0 at hN0 hb0 ⊢
  have HN0 := Lib.hid hN0; clear hN0
  have HB0 := Lib.hid hb0; clear hb0
  clear hmk
  go_loopw [6] (fun v wr => ∃ i : Nat, i ≤ G.length ∧ v = .int .i64 i ∧ NumRow wr w.heap.size (posAt G n i 0) ∧ Below w.heap.size w wr) (fun v _ => G.length - (intOf v).toNat)
  case atStart => exact ⟨0, Nat.zero_le _, rfl, HN0.out, HB0.out⟩
  case round =>
    obtain ⟨i, hi, rfl, hnr, hb⟩ := hrel
    have HN := Lib.hid hnr; clear hnr
    have HB := Lib.hid hb; clear hb
    by_cases hlt : i < G.length
    · obtain ⟨g, hx⟩ := get_of_lt hlt
      have hi1 : (i : Int) < G.length := by omega
      have hi0 : (0 : Int) ≤ i := by omega
      have hgn := HGL.out g (List.mem_of_getElem? hx)
      have HX := Lib.hid hx; clear hx
      go_wp2_with fail
      obtain ⟨wA, hwA⟩ : ∃ x, x = wr := ⟨_, rfl⟩
      subst hwA
      go_loopw [7] (fun v wr => ∃ k : Nat, k ≤ g.length ∧ v = .int .i64 k ∧ NumRow wr w.heap.size (posAt G n i k) ∧ Below w.heap.size w wr) (fun v _ => g.length - (intOf v).toNat)
      case atStart => exact ⟨0, Nat.zero_le _, rfl, HN.out, HB.out⟩
      case round =>
        obtain ⟨k, hk, rfl, hnr, hb⟩ := hrel
        obtain ⟨b1, rfl, hs1, h1⟩ := (HR.out.below hb) (get_ne HX.out)
        obtain ⟨c1, d1, e1, l1, t1, n1, x1⟩ := h1 i g HX.out
        have HN2 := Lib.hid hnr; clear hnr
        have HB2 := Lib.hid hb; clear hb
        have HX1 := Lib.hid x1; clear x1 h1
        by_cases hl2 : k < g.length
        · obtain ⟨x, hxk⟩ := get_of_lt hl2
          have f1 := HX1.out k x hxk
          have hxn : x < n := HOK.out.lt g (List.mem_of_getElem? HX.out) x (List.mem_of_getElem? hxk)
          have j1 : (k : Int) < g.length := by omega
          have j0 : (0 : Int) ≤ k := by omega
          have x0 : (0 : Int) ≤ x := by omega
          have x2 : (x : Int) < n := by omega
          have hfr := HN2.out.fr x
          obtain ⟨y, hy⟩ : ∃ y, (posAt G n i k)[x]? = some y := get_of_lt (by simpa [posAt] using hxn)
          have hcx := HN2.out.cell hy
          clear hy
          have hws : w.heap.size < wr.heap.size := HN2.out.lt
          have HXK := Lib.hid hxk; clear hxk
          go_wp2_with fail
          refine ⟨⟨k + 1, by omega, by go_num, ?_, ?_⟩, by simp [intOf]; omega⟩
          · rw [← posAt_set HOK.out HX.out HXK.out]
            exact HN2.out.set x i
          · exact HB2.out.setCell (Nat.le_refl _) _
        · obtain rfl : k = g.length := by omega
          go_wp2_with fail
          exact ⟨⟨i + 1, by omega, by go_num, by rw [← posAt_next HOK.out HX.out]; exact HN2.out, HB2.out⟩, by simp [intOf]; omega⟩
    · obtain rfl : i = G.length := by omega
      go_wp2_with fail
      go_ret
      exact ⟨w.heap.size, rfl, Nat.le_refl _, by rw [← posAt_end HOK.out]; exact HN.out, HB.out⟩
end Go.Proofs.Ytfolcjkednmkoaa
