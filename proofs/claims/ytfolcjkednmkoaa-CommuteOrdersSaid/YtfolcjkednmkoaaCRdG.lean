/- Groups of numbers in memory, to be read; pandectref20.Lists at equal lists. -/
import Derived.Test.YtfolcjkednmkoaaBox
import Derived.Test.YtfolcjkednmkoaaUnder
import Derived.Test.YtfolcjkednmkoaaWords
set_option linter.unusedVariables false
set_option linter.unusedSimpArgs false
namespace Go.Proofs.Ytfolcjkednmkoaa
open Go.RowKit
theorem keepw {wp wn : World} {b o : Nat} {v : Value} (hb : Below wp.heap.size wp wn) (h : wp.cell? ⟨b, o, none⟩ = some v) : wn.cell? ⟨b, o, none⟩ = some v := (hb.cell (p := ⟨b, o, none⟩) (World.block_lt_of_cell? _ _ h)).trans h
theorem rkeepk {wp wn : World} {b : Nat} {x : Obj} (hb : Below wp.heap.size wp wn) (h : wp.blk b = some x) : wn.blk b = some x := (hb.block b (lt_of_heap h)).trans h
def RdG (w : World) (A : Option Addr) (G : List (List Nat)) : Prop :=
  G ≠ [] → ∃ b, A = some ⟨b, 0, none⟩ ∧ b < w.heap.size ∧ ∀ (i : Nat) g, G[i]? = some g → ∃ b' c', w.cell? ⟨b, i, none⟩ = some (.slice (some ⟨b', 0, none⟩) g.length c') ∧ g.length ≤ c' ∧ b' < w.heap.size ∧ b' ≠ b ∧
    ∀ (k : Nat) x, g[k]? = some x → w.cell? ⟨b', k, none⟩ = some (.int .i64 (x : Int))
theorem RdG.keep {w w' : World} {A : Option Addr} {G : List (List Nat)} (h : RdG w A G) (hs : w.heap.size ≤ w'.heap.size) (base : Nat) (hA : ∀ b, A = some ⟨b, 0, none⟩ → b < base)
    (hk : ∀ b, b < w.heap.size → w'.heap[b]? = w.heap[b]?) : RdG w' A G := by
  intro hne
  obtain ⟨b, rfl, hb, hi⟩ := h hne
  refine ⟨b, rfl, by omega, fun i g hg => ?_⟩
  obtain ⟨b', c', h1, h2, h3, h4, h5⟩ := hi i g hg
  exact ⟨b', c', (cell_of_heap (hk b hb) _).trans h1, h2, by omega, h4, fun k x hx => (cell_of_heap (hk b' h3) _).trans (h5 k x hx)⟩
theorem RdG.below {w w' : World} {A : Option Addr} {G : List (List Nat)} (h : RdG w A G) (hb : Below w.heap.size w w') : RdG w' A G := by
  intro hne
  obtain ⟨b, rfl, hlt, hi⟩ := h hne
  refine ⟨b, rfl, Nat.lt_of_lt_of_le hlt hb.size, fun i g hg => ?_⟩
  obtain ⟨b', c', h1, h2, h3, h4, h5⟩ := hi i g hg
  exact ⟨b', c', keepw hb h1, h2, Nat.lt_of_lt_of_le h3 hb.size, h4, fun k x hx => keepw hb (h5 k x hx)⟩
theorem get_ne {α : Type} {l : List α} {k : Nat} {x : α} (h : l[k]? = some x) : l ≠ [] := by rintro rfl; simp at h
set_option maxRecDepth 20000 in
set_option maxHeartbeats 2000000 in
theorem lists_refl (G : List (List Nat)) (A B : Option Addr) (c d : Nat) (w : World) (hr : RdG w A G) (hs : RdG w B G) (hl : G.length ≤ 1000) (hgl : ∀ g ∈ G, g.length ≤ 1000) :
    Calls Try.prog 20 #[.slice A G.length c, .slice B G.length d] w fun e w' => e = .returned (.bool true) ∧ Below w.heap.size w w' := by
  have HR := Lib.hid hr; clear hr
  have HS := Lib.hid hs; clear hs
  have HGL := Lib.hid hgl; clear hgl
  have hd : ((G.length : Int) != (G.length : Int)) = false := by simp
  go_enter Try.func20, Try.ntmps20
  go_wp2_with fail
  go_loopw [5] (fun i wr => ∃ k : Nat, k ≤ G.length ∧ i = .int .i64 k ∧ Below w.heap.size w wr) (fun i _ => G.length - (intOf i).toNat)
  case atStart => exact ⟨0, Nat.zero_le _, rfl, Below.refl _ _⟩
  case round =>
    obtain ⟨k, hk, rfl, hb⟩ := hrel
    have HB := Lib.hid hb; clear hb
    by_cases hlt : k < G.length
    · obtain ⟨g, hx⟩ := get_of_lt hlt
      have hi1 : (k : Int) < G.length := by omega
      have hi0 : (0 : Int) ≤ k := by omega
      obtain ⟨b1, rfl, hs1, h1⟩ := (HR.out.below HB.out) (get_ne hx)
      obtain ⟨b2, rfl, hs2, h2⟩ := (HS.out.below HB.out) (get_ne hx)
      obtain ⟨c1, d1, e1, l1, t1, n1, x1⟩ := h1 k g hx
      obtain ⟨c2, d2, e2, l2, t2, n2, x2⟩ := h2 k g hx
      have hgn := HGL.out g (List.mem_of_getElem? hx)
      have hq : ((g.length : Int) != (g.length : Int)) = false := by simp
      have HX1 := Lib.hid x1; clear x1 h1
      have HX2 := Lib.hid x2; clear x2 h2
      have HX := Lib.hid hx; clear hx
      go_wp2_with fail
      go_quiet (fail)
      go_wp2_with fail
      obtain ⟨wA, hwA⟩ : ∃ x, x = wr := ⟨_, rfl⟩
      subst hwA
      go_loopw [6] (fun j wr => ∃ q : Nat, q ≤ g.length ∧ j = .int .i64 q ∧ Below wA.heap.size wA wr) (fun j _ => g.length - (intOf j).toNat)
      case atStart => exact ⟨0, Nat.zero_le _, rfl, Below.drewN' _ (Below.refl _ _)⟩
      case round =>
        obtain ⟨q, hqk, rfl, hb2⟩ := hrel
        have E1 := keepw hb2 e1
        have E2 := keepw hb2 e2
        have HB2 := Lib.hid hb2; clear hb2 e1 e2
        by_cases hl2 : q < g.length
        · obtain ⟨x, hxq⟩ := get_of_lt hl2
          have f1 := keepw HB2.out (HX1.out q x hxq)
          have f2 := keepw HB2.out (HX2.out q x hxq)
          have j1 : (q : Int) < g.length := by omega
          have j0 : (0 : Int) ≤ q := by omega
          have hqq : ((x : Int) != (x : Int)) = false := by simp
          clear hxq
          go_wp2_with fail
          go_quiet (fail)
          go_wp2_with fail
          exact ⟨⟨q + 1, by omega, by go_num, Below.drewN' _ HB2.out⟩, by simp [intOf]; omega⟩
        · obtain rfl : q = g.length := by omega
          go_wp2_with fail
          exact ⟨⟨k + 1, by omega, by go_num, HB.out.trans (HB2.out.mono HB.out.size)⟩, by simp [intOf]; omega⟩
    · have : k = G.length := by omega
      subst this
      go_wp2_with fail
      go_ret
      exact ⟨rfl, HB.out⟩
end Go.Proofs.Ytfolcjkednmkoaa
