/- What holds while the reference's Parse runs: the reader's block, the box of the outcome, the box of the result. The reference's Parse, walked. -/
import Derived.Test.YtcekampdldkjlaaGreatDoorUSz
import Derived.Test.YtcekampdldkjlaaGreatDoorJForm
import Derived.Test.YtcekampdldkjlaaGreatDoorJLex
import Derived.Test.YtcekampdldkjlaaGreatDoorSParse
import Derived.Deep.CutRange
import Derived.Deep.DeepCutAuto
set_option linter.unusedVariables false
set_option linter.unusedSimpArgs false
namespace Go.Proofs.YtcekampdldkjlaaGreatDoor
open Go.RowKit Go.Maps
structure UW (w wX : World) (p fin : Nat) (ts : List Tok) (z : Rs) (P : Prov) : Prop where
  rr : RR wX p fin ts z
  bel : Below w.heap.size w wX
  out : ∃ C : List Value, wX.blk (p + 1) = some (.cells C.toArray 31 (0, 0)) ∧ RdProv (p + 2) wX C P
  res : wX.blk w.heap.size = some (.cells zero23.toArray 31 (0, 0))
  lt : w.heap.size < p
theorem UW.call {w wX w' : World} {p fin : Nat} {ts : List Tok} {z z' : Rs} {P : Prov} (h : UW w wX p fin ts z P) (he : Eff p wX w') (hp : RR w' p fin ts z') : UW w w' p fin ts z' P := by
  obtain ⟨C, h1, h2⟩ := h.out
  have hlt := h.lt
  have hs := h.bel.size
  exact ⟨hp, ⟨he.os.trans h.bel.os, he.tape.trans h.bel.tape, he.output.trans h.bel.output, Nat.le_trans hs he.size, fun k hk => (he.block k (by omega) (by omega)).trans (h.bel.block k hk)⟩, ⟨C, (he.block _ (lt_of_heap' h1) (by omega)).trans h1, h2.keep he.size (fun k a b => he.block k b (by omega))⟩, (he.block _ (lt_of_heap' h.res) (by omega)).trans h.res, hlt⟩
theorem UW.below {w wX w' : World} {p fin : Nat} {ts : List Tok} {z : Rs} {P : Prov} (h : UW w wX p fin ts z P) (hb : Below wX.heap.size wX w') : UW w w' p fin ts z P := h.call (Eff.of_below hb) (h.rr.below hb)
theorem UW.room {w wX : World} {p fin : Nat} {ts : List Tok} {z : Rs} {P : Prov} (h : UW w wX p fin ts z P) : p + 1 < wX.heap.size := by
  obtain ⟨C, h1, h2⟩ := h.out
  exact lt_of_heap' h1
theorem UW.cells {w wX : World} {p fin : Nat} {ts : List Tok} {z : Rs} {P : Prov} (h : UW w wX p fin ts z P) (o : Nat) (ho : o < 23) : ∃ v, wX.cell? ⟨p + 1, o, none⟩ = some v ∧ wX.frozen? ⟨p + 1, o, none⟩ = false := by
  obtain ⟨C, h1, h2⟩ := h.out
  have hl := h2.len
  exact ⟨C[o]'(by omega), cell_of_blk (o := o) (show wX.heap[p + 1]? = _ from h1) (by simp), frozen_of_blk (o := o) (show wX.heap[p + 1]? = _ from h1)⟩
theorem UW.store {w wX : World} {p fin : Nat} {ts : List Tok} {z : Rs} {P P' : Prov} (h : UW w wX p fin ts z P) (o : Nat) (vl : List Value) (hR : ∀ W C, RdProv (p + 2) W C P → W.heap.size = wX.heap.size → (∀ k, p + 2 ≤ k → W.heap[k]? = wX.heap[k]?) → RdProv (p + 2) W (setL o vl C) P') :
    UW w (setW (p + 1) o vl wX) p fin ts z P' := by
  obtain ⟨C, h1, h2⟩ := h.out
  have ho := setW_off (p + 1) o vl wX
  have hlt := h.lt
  have hs := h.bel.size
  refine ⟨h.rr.keep (Nat.le_of_eq ho.size.symm) (fun b hb => ho.block b (by omega)), ⟨ho.os.trans h.bel.os, ho.tape.trans h.bel.tape, ho.output.trans h.bel.output, by rw [ho.size]; exact hs, fun k hk => (ho.block k (by omega)).trans (h.bel.block k hk)⟩, ⟨setL o vl C, setW_at o vl C wX h1, ?_⟩, (ho.block _ (by omega)).trans h.res, hlt⟩
  exact hR _ C (h2.keep (Nat.le_of_eq ho.size.symm) (fun k hk _ => ho.block k (by omega))) ho.size (fun k hk => ho.block k (by omega))
theorem UW.setId {w wX : World} {p fin : Nat} {ts : List Tok} {z : Rs} {P : Prov} (h : UW w wX p fin ts z P) (s : List UInt8) : UW w (setW (p + 1) 0 [vs s] wX) p fin ts z { P with id := s } := by
  refine h.store 0 _ ?_
  intro W C hC hs hk
  obtain ⟨cc, A, cap, cb, cf, ca, rfl, h1, h2, h3, h4, h5, h6⟩ := hC
  have l2 := h2.len
  have l4 := h4.len
  have l5 := h5.len
  have l6 := h6.len
  simp only [tsz, if_true, if_false, Bool.false_eq_true] at l2 l4 l5 l6
  obtain ⟨x1, x2, x3, x4, x5, rfl⟩ : ∃ x1 x2 x3 x4 x5, cc = [x1, x2, x3, x4, x5] := by
    match cc, l2 with
    | [a, b, c, d, e], _ => exact ⟨_, _, _, _, _, rfl⟩
  obtain ⟨y1, y2, y3, y4, rfl⟩ : ∃ x1 x2 x3 x4, cb = [x1, x2, x3, x4] := by
    match cb, l4 with
    | [a, b, c, d], _ => exact ⟨_, _, _, _, rfl⟩
  obtain ⟨z1, z2, z3, z4, rfl⟩ : ∃ x1 x2 x3 x4, cf = [x1, x2, x3, x4] := by
    match cf, l5 with
    | [a, b, c, d], _ => exact ⟨_, _, _, _, rfl⟩
  obtain ⟨u1, u2, u3, u4, rfl⟩ : ∃ x1 x2 x3 x4, ca = [x1, x2, x3, x4] := by
    match ca, l6 with
    | [a, b, c, d], _ => exact ⟨_, _, _, _, rfl⟩
  exact ⟨_, A, cap, _, _, _, rfl, h1, h2, h3, h4, h5, h6⟩
theorem UW.setRank {w wX : World} {p fin : Nat} {ts : List Tok} {z : Rs} {P : Prov} (h : UW w wX p fin ts z P) (k : Nat) : UW w (setW (p + 1) 1 [.int .i64 (k : Nat)] wX) p fin ts z { P with rank := k } := by
  refine h.store 1 _ ?_
  intro W C hC hs hk
  obtain ⟨cc, A, cap, cb, cf, ca, rfl, h1, h2, h3, h4, h5, h6⟩ := hC
  have l2 := h2.len
  have l4 := h4.len
  have l5 := h5.len
  have l6 := h6.len
  simp only [tsz, if_true, if_false, Bool.false_eq_true] at l2 l4 l5 l6
  obtain ⟨x1, x2, x3, x4, x5, rfl⟩ : ∃ x1 x2 x3 x4 x5, cc = [x1, x2, x3, x4, x5] := by
    match cc, l2 with
    | [a, b, c, d, e], _ => exact ⟨_, _, _, _, _, rfl⟩
  obtain ⟨y1, y2, y3, y4, rfl⟩ : ∃ x1 x2 x3 x4, cb = [x1, x2, x3, x4] := by
    match cb, l4 with
    | [a, b, c, d], _ => exact ⟨_, _, _, _, rfl⟩
  obtain ⟨z1, z2, z3, z4, rfl⟩ : ∃ x1 x2 x3 x4, cf = [x1, x2, x3, x4] := by
    match cf, l5 with
    | [a, b, c, d], _ => exact ⟨_, _, _, _, rfl⟩
  obtain ⟨u1, u2, u3, u4, rfl⟩ : ∃ x1 x2 x3 x4, ca = [x1, x2, x3, x4] := by
    match ca, l6 with
    | [a, b, c, d], _ => exact ⟨_, _, _, _, rfl⟩
  exact ⟨_, A, cap, _, _, _, rfl, h1, h2, h3, h4, h5, h6⟩
theorem UW.setKN {w wX : World} {p fin : Nat} {ts : List Tok} {z : Rs} {P : Prov} (h : UW w wX p fin ts z P) (k : Nat) (s : List UInt8) : UW w (setW (p + 1) 2 [.int .i64 (k : Nat), vs s] wX) p fin ts z { P with kind := k, name := s } := by
  refine h.store 2 _ ?_
  intro W C hC hs hk
  obtain ⟨cc, A, cap, cb, cf, ca, rfl, h1, h2, h3, h4, h5, h6⟩ := hC
  have l2 := h2.len
  have l4 := h4.len
  have l5 := h5.len
  have l6 := h6.len
  simp only [tsz, if_true, if_false, Bool.false_eq_true] at l2 l4 l5 l6
  obtain ⟨x1, x2, x3, x4, x5, rfl⟩ : ∃ x1 x2 x3 x4 x5, cc = [x1, x2, x3, x4, x5] := by
    match cc, l2 with
    | [a, b, c, d, e], _ => exact ⟨_, _, _, _, _, rfl⟩
  obtain ⟨y1, y2, y3, y4, rfl⟩ : ∃ x1 x2 x3 x4, cb = [x1, x2, x3, x4] := by
    match cb, l4 with
    | [a, b, c, d], _ => exact ⟨_, _, _, _, rfl⟩
  obtain ⟨z1, z2, z3, z4, rfl⟩ : ∃ x1 x2 x3 x4, cf = [x1, x2, x3, x4] := by
    match cf, l5 with
    | [a, b, c, d], _ => exact ⟨_, _, _, _, rfl⟩
  obtain ⟨u1, u2, u3, u4, rfl⟩ : ∃ x1 x2 x3 x4, ca = [x1, x2, x3, x4] := by
    match ca, l6 with
    | [a, b, c, d], _ => exact ⟨_, _, _, _, rfl⟩
  exact ⟨_, A, cap, _, _, _, rfl, h1, h2, h3, h4, h5, h6⟩
theorem UW.setName {w wX : World} {p fin : Nat} {ts : List Tok} {z : Rs} {P : Prov} (h : UW w wX p fin ts z P) (s : List UInt8) : UW w (setW (p + 1) 3 [vs s] wX) p fin ts z { P with name := s } := by
  refine h.store 3 _ ?_
  intro W C hC hs hk
  obtain ⟨cc, A, cap, cb, cf, ca, rfl, h1, h2, h3, h4, h5, h6⟩ := hC
  have l2 := h2.len
  have l4 := h4.len
  have l5 := h5.len
  have l6 := h6.len
  simp only [tsz, if_true, if_false, Bool.false_eq_true] at l2 l4 l5 l6
  obtain ⟨x1, x2, x3, x4, x5, rfl⟩ : ∃ x1 x2 x3 x4 x5, cc = [x1, x2, x3, x4, x5] := by
    match cc, l2 with
    | [a, b, c, d, e], _ => exact ⟨_, _, _, _, _, rfl⟩
  obtain ⟨y1, y2, y3, y4, rfl⟩ : ∃ x1 x2 x3 x4, cb = [x1, x2, x3, x4] := by
    match cb, l4 with
    | [a, b, c, d], _ => exact ⟨_, _, _, _, rfl⟩
  obtain ⟨z1, z2, z3, z4, rfl⟩ : ∃ x1 x2 x3 x4, cf = [x1, x2, x3, x4] := by
    match cf, l5 with
    | [a, b, c, d], _ => exact ⟨_, _, _, _, rfl⟩
  obtain ⟨u1, u2, u3, u4, rfl⟩ : ∃ x1 x2 x3 x4, ca = [x1, x2, x3, x4] := by
    match ca, l6 with
    | [a, b, c, d], _ => exact ⟨_, _, _, _, rfl⟩
  exact ⟨_, A, cap, _, _, _, rfl, h1, h2, h3, h4, h5, h6⟩
theorem UW.setValue {w wX : World} {p fin : Nat} {ts : List Tok} {z : Rs} {P : Prov} (h : UW w wX p fin ts z P) (k : Nat) : UW w (setW (p + 1) 4 [.int .i64 (k : Nat)] wX) p fin ts z { P with value := k } := by
  refine h.store 4 _ ?_
  intro W C hC hs hk
  obtain ⟨cc, A, cap, cb, cf, ca, rfl, h1, h2, h3, h4, h5, h6⟩ := hC
  have l2 := h2.len
  have l4 := h4.len
  have l5 := h5.len
  have l6 := h6.len
  simp only [tsz, if_true, if_false, Bool.false_eq_true] at l2 l4 l5 l6
  obtain ⟨x1, x2, x3, x4, x5, rfl⟩ : ∃ x1 x2 x3 x4 x5, cc = [x1, x2, x3, x4, x5] := by
    match cc, l2 with
    | [a, b, c, d, e], _ => exact ⟨_, _, _, _, _, rfl⟩
  obtain ⟨y1, y2, y3, y4, rfl⟩ : ∃ x1 x2 x3 x4, cb = [x1, x2, x3, x4] := by
    match cb, l4 with
    | [a, b, c, d], _ => exact ⟨_, _, _, _, rfl⟩
  obtain ⟨z1, z2, z3, z4, rfl⟩ : ∃ x1 x2 x3 x4, cf = [x1, x2, x3, x4] := by
    match cf, l5 with
    | [a, b, c, d], _ => exact ⟨_, _, _, _, rfl⟩
  obtain ⟨u1, u2, u3, u4, rfl⟩ : ∃ x1 x2 x3 x4, ca = [x1, x2, x3, x4] := by
    match ca, l6 with
    | [a, b, c, d], _ => exact ⟨_, _, _, _, rfl⟩
  exact ⟨_, A, cap, _, _, _, rfl, h1, h2, h3, h4, h5, h6⟩
theorem UW.setCond {w wX : World} {p fin : Nat} {ts : List Tok} {z : Rs} {P : Prov} (h : UW w wX p fin ts z P) (o : Nat) (nm : List UInt8) (cm m : Nat) (ks : List Tree) (K : Option Addr) (q : Nat) (ht : RdTree true (fun k => p + 2 ≤ k) wX (tcs true o nm cm m (.slice K ks.length q)) (.mk o nm cm m ks)) : UW w (setW (p + 1) 5 (tcs true o nm cm m (.slice K ks.length q)) wX) p fin ts z { P with cond := .mk o nm cm m ks } := by
  refine h.store 5 _ ?_
  intro W C hC hs hk
  obtain ⟨cc, A, cap, cb, cf, ca, rfl, h1, h2, h3, h4, h5, h6⟩ := hC
  have l2 := h2.len
  have l4 := h4.len
  have l5 := h5.len
  have l6 := h6.len
  simp only [tsz, if_true, if_false, Bool.false_eq_true] at l2 l4 l5 l6
  obtain ⟨x1, x2, x3, x4, x5, rfl⟩ : ∃ x1 x2 x3 x4 x5, cc = [x1, x2, x3, x4, x5] := by
    match cc, l2 with
    | [a, b, c, d, e], _ => exact ⟨_, _, _, _, _, rfl⟩
  obtain ⟨y1, y2, y3, y4, rfl⟩ : ∃ x1 x2 x3 x4, cb = [x1, x2, x3, x4] := by
    match cb, l4 with
    | [a, b, c, d], _ => exact ⟨_, _, _, _, rfl⟩
  obtain ⟨z1, z2, z3, z4, rfl⟩ : ∃ x1 x2 x3 x4, cf = [x1, x2, x3, x4] := by
    match cf, l5 with
    | [a, b, c, d], _ => exact ⟨_, _, _, _, rfl⟩
  obtain ⟨u1, u2, u3, u4, rfl⟩ : ∃ x1 x2 x3 x4, ca = [x1, x2, x3, x4] := by
    match ca, l6 with
    | [a, b, c, d], _ => exact ⟨_, _, _, _, rfl⟩
  exact ⟨_, A, cap, _, _, _, rfl, h1, (ht.keep (by rw [hs]; exact Nat.le_refl _) (fun k a b => ⟨a, hk k a⟩)), h3, h4, h5, h6⟩
theorem UW.setExc {w wX : World} {p fin : Nat} {ts : List Tok} {z : Rs} {P : Prov} (h : UW w wX p fin ts z P) (e : List (List UInt8)) (B : Option Addr) (q : Nat) (hq : e.length ≤ q) (ht : RdEx (p + 2) B e wX) : UW w (setW (p + 1) 10 [.slice B e.length q] wX) p fin ts z { P with exc := e } := by
  refine h.store 10 _ ?_
  intro W C hC hs hk
  obtain ⟨cc, A, cap, cb, cf, ca, rfl, h1, h2, h3, h4, h5, h6⟩ := hC
  have l2 := h2.len
  have l4 := h4.len
  have l5 := h5.len
  have l6 := h6.len
  simp only [tsz, if_true, if_false, Bool.false_eq_true] at l2 l4 l5 l6
  obtain ⟨x1, x2, x3, x4, x5, rfl⟩ : ∃ x1 x2 x3 x4 x5, cc = [x1, x2, x3, x4, x5] := by
    match cc, l2 with
    | [a, b, c, d, e], _ => exact ⟨_, _, _, _, _, rfl⟩
  obtain ⟨y1, y2, y3, y4, rfl⟩ : ∃ x1 x2 x3 x4, cb = [x1, x2, x3, x4] := by
    match cb, l4 with
    | [a, b, c, d], _ => exact ⟨_, _, _, _, rfl⟩
  obtain ⟨z1, z2, z3, z4, rfl⟩ : ∃ x1 x2 x3 x4, cf = [x1, x2, x3, x4] := by
    match cf, l5 with
    | [a, b, c, d], _ => exact ⟨_, _, _, _, rfl⟩
  obtain ⟨u1, u2, u3, u4, rfl⟩ : ∃ x1 x2 x3 x4, ca = [x1, x2, x3, x4] := by
    match ca, l6 with
    | [a, b, c, d], _ => exact ⟨_, _, _, _, rfl⟩
  exact ⟨_, B, q, _, _, _, rfl, hq, h2, Stab.exc _ _ (by rw [hs]; exact Nat.le_refl _) (fun k a b => hk k a) ht, h4, h5, h6⟩
theorem UW.setBeg {w wX : World} {p fin : Nat} {ts : List Tok} {z : Rs} {P : Prov} (h : UW w wX p fin ts z P) (o : Nat) (nm : List UInt8) (cm m : Nat) (ks : List Tree) (K : Option Addr) (q : Nat) (ht : RdTree false (fun k => p + 2 ≤ k) wX (tcs false o nm cm m (.slice K ks.length q)) (.mk o nm cm m ks)) : UW w (setW (p + 1) 11 (tcs false o nm cm m (.slice K ks.length q)) wX) p fin ts z { P with beg := .mk o nm cm m ks } := by
  refine h.store 11 _ ?_
  intro W C hC hs hk
  obtain ⟨cc, A, cap, cb, cf, ca, rfl, h1, h2, h3, h4, h5, h6⟩ := hC
  have l2 := h2.len
  have l4 := h4.len
  have l5 := h5.len
  have l6 := h6.len
  simp only [tsz, if_true, if_false, Bool.false_eq_true] at l2 l4 l5 l6
  obtain ⟨x1, x2, x3, x4, x5, rfl⟩ : ∃ x1 x2 x3 x4 x5, cc = [x1, x2, x3, x4, x5] := by
    match cc, l2 with
    | [a, b, c, d, e], _ => exact ⟨_, _, _, _, _, rfl⟩
  obtain ⟨y1, y2, y3, y4, rfl⟩ : ∃ x1 x2 x3 x4, cb = [x1, x2, x3, x4] := by
    match cb, l4 with
    | [a, b, c, d], _ => exact ⟨_, _, _, _, rfl⟩
  obtain ⟨z1, z2, z3, z4, rfl⟩ : ∃ x1 x2 x3 x4, cf = [x1, x2, x3, x4] := by
    match cf, l5 with
    | [a, b, c, d], _ => exact ⟨_, _, _, _, rfl⟩
  obtain ⟨u1, u2, u3, u4, rfl⟩ : ∃ x1 x2 x3 x4, ca = [x1, x2, x3, x4] := by
    match ca, l6 with
    | [a, b, c, d], _ => exact ⟨_, _, _, _, rfl⟩
  exact ⟨_, A, cap, _, _, _, rfl, h1, h2, h3, (ht.keep (by rw [hs]; exact Nat.le_refl _) (fun k a b => ⟨a, hk k a⟩)), h5, h6⟩
theorem UW.setFin {w wX : World} {p fin : Nat} {ts : List Tok} {z : Rs} {P : Prov} (h : UW w wX p fin ts z P) (o : Nat) (nm : List UInt8) (cm m : Nat) (ks : List Tree) (K : Option Addr) (q : Nat) (ht : RdTree false (fun k => p + 2 ≤ k) wX (tcs false o nm cm m (.slice K ks.length q)) (.mk o nm cm m ks)) : UW w (setW (p + 1) 15 (tcs false o nm cm m (.slice K ks.length q)) wX) p fin ts z { P with fin := .mk o nm cm m ks } := by
  refine h.store 15 _ ?_
  intro W C hC hs hk
  obtain ⟨cc, A, cap, cb, cf, ca, rfl, h1, h2, h3, h4, h5, h6⟩ := hC
  have l2 := h2.len
  have l4 := h4.len
  have l5 := h5.len
  have l6 := h6.len
  simp only [tsz, if_true, if_false, Bool.false_eq_true] at l2 l4 l5 l6
  obtain ⟨x1, x2, x3, x4, x5, rfl⟩ : ∃ x1 x2 x3 x4 x5, cc = [x1, x2, x3, x4, x5] := by
    match cc, l2 with
    | [a, b, c, d, e], _ => exact ⟨_, _, _, _, _, rfl⟩
  obtain ⟨y1, y2, y3, y4, rfl⟩ : ∃ x1 x2 x3 x4, cb = [x1, x2, x3, x4] := by
    match cb, l4 with
    | [a, b, c, d], _ => exact ⟨_, _, _, _, rfl⟩
  obtain ⟨z1, z2, z3, z4, rfl⟩ : ∃ x1 x2 x3 x4, cf = [x1, x2, x3, x4] := by
    match cf, l5 with
    | [a, b, c, d], _ => exact ⟨_, _, _, _, rfl⟩
  obtain ⟨u1, u2, u3, u4, rfl⟩ : ∃ x1 x2 x3 x4, ca = [x1, x2, x3, x4] := by
    match ca, l6 with
    | [a, b, c, d], _ => exact ⟨_, _, _, _, rfl⟩
  exact ⟨_, A, cap, _, _, _, rfl, h1, h2, h3, h4, (ht.keep (by rw [hs]; exact Nat.le_refl _) (fun k a b => ⟨a, hk k a⟩)), h6⟩
theorem UW.setAga {w wX : World} {p fin : Nat} {ts : List Tok} {z : Rs} {P : Prov} (h : UW w wX p fin ts z P) (o : Nat) (nm : List UInt8) (cm m : Nat) (ks : List Tree) (K : Option Addr) (q : Nat) (ht : RdTree false (fun k => p + 2 ≤ k) wX (tcs false o nm cm m (.slice K ks.length q)) (.mk o nm cm m ks)) : UW w (setW (p + 1) 19 (tcs false o nm cm m (.slice K ks.length q)) wX) p fin ts z { P with aga := .mk o nm cm m ks } := by
  refine h.store 19 _ ?_
  intro W C hC hs hk
  obtain ⟨cc, A, cap, cb, cf, ca, rfl, h1, h2, h3, h4, h5, h6⟩ := hC
  have l2 := h2.len
  have l4 := h4.len
  have l5 := h5.len
  have l6 := h6.len
  simp only [tsz, if_true, if_false, Bool.false_eq_true] at l2 l4 l5 l6
  obtain ⟨x1, x2, x3, x4, x5, rfl⟩ : ∃ x1 x2 x3 x4 x5, cc = [x1, x2, x3, x4, x5] := by
    match cc, l2 with
    | [a, b, c, d, e], _ => exact ⟨_, _, _, _, _, rfl⟩
  obtain ⟨y1, y2, y3, y4, rfl⟩ : ∃ x1 x2 x3 x4, cb = [x1, x2, x3, x4] := by
    match cb, l4 with
    | [a, b, c, d], _ => exact ⟨_, _, _, _, rfl⟩
  obtain ⟨z1, z2, z3, z4, rfl⟩ : ∃ x1 x2 x3 x4, cf = [x1, x2, x3, x4] := by
    match cf, l5 with
    | [a, b, c, d], _ => exact ⟨_, _, _, _, rfl⟩
  obtain ⟨u1, u2, u3, u4, rfl⟩ : ∃ x1 x2 x3 x4, ca = [x1, x2, x3, x4] := by
    match ca, l6 with
    | [a, b, c, d], _ => exact ⟨_, _, _, _, rfl⟩
  exact ⟨_, A, cap, _, _, _, rfl, h1, h2, h3, h4, h5, (ht.keep (by rw [hs]; exact Nat.le_refl _) (fun k a b => ⟨a, hk k a⟩))⟩
theorem UW.setKind {w wX : World} {p fin : Nat} {ts : List Tok} {z : Rs} {P : Prov} (h : UW w wX p fin ts z P) (k : Nat) : UW w (setW (p + 1) 2 [.int .i64 (k : Nat)] wX) p fin ts z { P with kind := k } := by
  refine h.store 2 _ ?_
  intro W C hC hs hk
  obtain ⟨cc, A, cap, cb, cf, ca, rfl, h1, h2, h3, h4, h5, h6⟩ := hC
  have l2 := h2.len
  have l4 := h4.len
  have l5 := h5.len
  have l6 := h6.len
  simp only [tsz, if_true, if_false, Bool.false_eq_true] at l2 l4 l5 l6
  obtain ⟨x1, x2, x3, x4, x5, rfl⟩ : ∃ x1 x2 x3 x4 x5, cc = [x1, x2, x3, x4, x5] := by
    match cc, l2 with
    | [a, b, c, d, e], _ => exact ⟨_, _, _, _, _, rfl⟩
  obtain ⟨y1, y2, y3, y4, rfl⟩ : ∃ x1 x2 x3 x4, cb = [x1, x2, x3, x4] := by
    match cb, l4 with
    | [a, b, c, d], _ => exact ⟨_, _, _, _, rfl⟩
  obtain ⟨z1, z2, z3, z4, rfl⟩ : ∃ x1 x2 x3 x4, cf = [x1, x2, x3, x4] := by
    match cf, l5 with
    | [a, b, c, d], _ => exact ⟨_, _, _, _, rfl⟩
  obtain ⟨u1, u2, u3, u4, rfl⟩ : ∃ x1 x2 x3 x4, ca = [x1, x2, x3, x4] := by
    match ca, l6 with
    | [a, b, c, d], _ => exact ⟨_, _, _, _, rfl⟩
  exact ⟨_, A, cap, _, _, _, rfl, h1, h2, h3, h4, h5, h6⟩
theorem UW.start {p fin : Nat} {ts : List Tok} {z : Rs} {w w1 : World} (hp : RR w1 p fin ts z) (hb : Below w.heap.size w w1) (hr : w1.blk w.heap.size = some (.cells zero23.toArray 31 (0, 0))) (hz : w1.heap.size = p + 1) (hlt : w.heap.size < p) : UW w (w1.alloc (.cells [.string ⟨#[]⟩, .int .i64 0, .int .i64 1, .string ⟨#[]⟩, .int .i64 0, .int .i64 1, .string ⟨#[]⟩, .int .i64 0, .int .i64 0, .slice none 0 0, .slice none 0 0, .int .i64 1, .string ⟨#[]⟩, .int .i64 0, .slice none 0 0, .int .i64 2, .string ⟨#[]⟩, .int .i64 0, .slice none 0 0, .int .i64 2, .string ⟨#[]⟩, .int .i64 0, .slice none 0 0].toArray 31 (0, 0))) p fin ts z P0 :=
  ⟨hp.below ((Below.refl _ _).alloc (Nat.le_refl _) _), hb.alloc hb.size _, ⟨_, alloc_at (by omega), tcs true 1 [] 0 0 (.slice none 0 0), none, 0, tcs false 1 [] 0 0 (.slice none 0 0), tcs false 2 [] 0 0 (.slice none 0 0), tcs false 2 [] 0 0 (.slice none 0 0), rfl, Nat.le_refl _, RdTree.leaf 1 [] 0 0 none 0, ⟨Sl.nil, fun b o e => by cases e⟩, RdTree.leaf 1 [] 0 0 none 0, RdTree.leaf 2 [] 0 0 none 0, RdTree.leaf 2 [] 0 0 none 0⟩, old_at hr, hlt⟩
theorem UW.fin {w wX : World} {p fin : Nat} {ts : List Tok} {z : Rs} {P : Prov} {C : List Value} (h : UW w wX p fin ts z P) (hc : RdProv (p + 2) wX C P) : Below w.heap.size w (wX.setRow w.heap.size C.toArray) ∧ RdProv w.heap.size (wX.setRow w.heap.size C.toArray) C P := by
  have ho : Off w.heap.size wX (wX.setRow w.heap.size C.toArray) := Off.row _ _
  have hlt := h.lt
  exact ⟨⟨ho.os.trans h.bel.os, ho.tape.trans h.bel.tape, ho.output.trans h.bel.output, by rw [ho.size]; exact h.bel.size, fun k hk => (ho.block k (by omega)).trans (h.bel.block k hk)⟩, hc.weak (by omega) (Nat.le_of_eq ho.size.symm) (fun k hk _ => ho.block k (by omega))⟩
/- a part of the provision that may lack -/
theorem partA_yes {α : Type} {ts : List Tok} {u : List UInt8} {d : α} {F : Rs → α × Rs} {z : Rs} (h : seesA ts z u = true) : partA ts u d F z = F z.next := by unfold partA; rw [if_pos h]
theorem partA_no {α : Type} {ts : List Tok} {u : List UInt8} {d : α} {F : Rs → α × Rs} {z : Rs} (h : seesA ts z u = false) : partA ts u d F z = (d, z) := by unfold partA; rw [if_neg (by rw [h]; decide)]
theorem isA_yes {ts : List Tok} {u : List UInt8} {z : Rs} (h : seesA ts z u = true) : isA ts z u = z.next := by unfold isA; rw [if_pos h]
theorem isA_no {ts : List Tok} {u : List UInt8} {z : Rs} (h : seesA ts z u = false) : isA ts z u = z := by unfold isA; rw [if_neg (by rw [h]; decide)]
end Go.Proofs.YtcekampdldkjlaaGreatDoor
namespace Go.Proofs.YtcekampdldkjlaaGreatDoor
open Go.RowKit Go.Maps
abbrev RefPost (l : List UInt8) (w : World) (e : Ending) (w' : World) : Prop := Below w.heap.size w w' ∧ (match lexF l with
  | .error (er, a) => e = .returned (.tuple #[.agg zeroA, .int .i64 er, .int .i64 a])
  | .ok ts => if (partsA ts l.length).last.e = 0 then ∃ cs : List Value, e = .returned (.tuple #[.agg cs.toArray, .int .i64 0, .int .i64 0]) ∧ RdProv w.heap.size w' cs (partsA ts l.length).prov
    else e = .returned (.tuple #[.agg zeroA, .int .i64 ((partsA ts l.length).last.e : Nat), .int .i64 (partsA ts l.length).last.a]))
theorem resultsR {X : World} {b : Nat} {C : Array Value} {v3 v4 : Value} {tmps : Array Value} (hr : X.blk b = some (.cells C 31 (0, 0))) (hs : C.size = 23) (h2 : tmps.getD 2 undef = .pointer (some ⟨b, 0, none⟩)) (h3 : tmps.getD 3 undef = v3) (h4 : tmps.getD 4 undef = v4) :
    (results Tryz.f6 tmps).run Tryz.prog X = .ok (.tuple #[.agg C, v3, v4]) X := by
  have h2' : tmps[2]?.getD undef = .pointer (some ⟨b, 0, none⟩) := by simpa using h2
  have h3' : tmps[3]?.getD undef = v3 := by simpa using h3
  have h4' : tmps[4]?.getD undef = v4 := by simpa using h4
  have hl : (loadVar 31 ⟨b, 0, none⟩).run Tryz.prog X = .ok (.agg C) X := run_loadVar_row X b 31 31 C (0, 0) _ hr Tryz.underlying31 rfl (by rw [hs]; kernel_rfl)
  clear hr hs h2 h3 h4
  simp [results, Tryz.results6, h2', h3', h4', asAddr, hl]
set_option maxRecDepth 20000 in
set_option maxHeartbeats 4000000 in
theorem rparse_any (l : List UInt8) (w : World) (hl : l.length ≤ 5000) : Calls Tryz.prog 6 #[vs l] w (RefPost l w) := by
  go_enter Tryz.func6, Tryz.ntmps6
  go_wp2_with fail
  refine (lexR_any l _ hl).mono ?_
  rintro e w1 ⟨hb1, hm⟩
  have HB1 := Lib.hid hb1
  clear hb1
  have HR0 : Hid (w1.blk w.heap.size = some (.cells zero23.toArray 31 (0, 0))) := Lib.hid ((HB1.out.block _ (by simp)).trans (heap_alloc_new w _))
  have hz1 : w.heap.size + 1 ≤ w1.heap.size := by have := HB1.out.size; simpa using this
  have HBW0 : Hid (Below w.heap.size w w1) := Lib.hid (((Below.refl _ _).alloc (Nat.le_refl _) _).trans (HB1.out.mono (by simp)))
  clear HB1
  cases hlx : lexF l with
  | error x =>
    obtain ⟨er, a⟩ := x
    rw [hlx] at hm
    simp only at hm
    subst hm
    have hne : ((er : Int) == 0) = false := by have := lexF_err_ne hlx; simp; omega
    have HLX := Lib.hid hlx
    clear hlx
    have hr0 := HR0.out
    go_wp2_with fail
    rw [rowStore_cells _ _ _ _ _ (by rfl) (by rfl) (by rfl), setRow_same (C := zeroA) HR0.out]
    go_wp2_with fail
    refine bodyPost_ret (v := .tuple #[.agg zeroA, .int .i64 er, .int .i64 a]) (resultsR HR0.out rfl rfl rfl rfl) rfl ?_
    refine ⟨HBW0.out, ?_⟩
    rw [HLX.out]
  | ok ts =>
    rw [hlx] at hm
    simp only at hm
    obtain ⟨A, cap, rfl, hrd, hA, hc1, hc2⟩ := hm
    have HRD := Lib.hid hrd
    have HA := Lib.hid hA
    have HC1 := Lib.hid hc1
    have HN := Lib.hid (tok_n hlx)
    have HFEW : Hid (ts.length ≤ 5000) := Lib.hid (lexF_ok hlx).2.1
    have HLX := Lib.hid hlx
    clear hrd hA hc1 hc2 hlx
    go_wp2_with fail
    rw [rowStore_cells _ _ _ _ _ (by rfl) (by rfl) (by rfl)]
    go_upto_region 6 with fail
    have hrr : RR (w1.alloc (.cells #[.slice A ts.length cap, .int .i64 0, .int .i64 (l.length : Nat), .int .i64 0, .int .i64 0] 48 (0, 0))) w1.heap.size l.length ts ⟨0, 0, 0⟩ :=
      ⟨⟨A, cap, heap_alloc_new w1 _, Sl.keep HRD.out (by simp) (fun g o hA hlt => Below.heap_alloc _ _ _ hlt), fun b o e => (HA.out b o e).2, HC1.out⟩, Nat.zero_le _, HFEW.out⟩
    have hst := UW.start hrr (HBW0.out.alloc (by omega) _) (old_at HR0.out) (by simp) (by omega)
    obtain ⟨c, hQC⟩ : ∃ c, partA ts [119, 104, 101, 114, 101] (leafT 1) (treeA false ts l.length) ⟨0, 0, 0⟩ = c := ⟨_, rfl⟩
    obtain ⟨k, hQK⟩ : ∃ k, kindA ts l.length c.2 = k := ⟨_, rfl⟩
    obtain ⟨x, hQX⟩ : ∃ x, partA ts [111, 118, 101, 114, 114, 105, 100, 101, 115] [] (namesA ts l.length) k.2 = x := ⟨_, rfl⟩
    obtain ⟨g, hQG⟩ : ∃ g, partA ts [115, 116, 97, 114, 116, 115] (leafT 1) (treeA true ts l.length) x.2 = g := ⟨_, rfl⟩
    obtain ⟨h, hQH⟩ : ∃ h, partA ts [101, 110, 100, 115] (leafT 2) (treeA true ts l.length) g.2 = h := ⟨_, rfl⟩
    obtain ⟨j, hQJ⟩ : ∃ j, partA ts [114, 101, 116, 117, 114, 110, 115] (leafT 2) (treeA true ts l.length) h.2 = j := ⟨_, rfl⟩
    have HPA : Hid (partsA ts l.length = ⟨c, k, x, g, h, j, tailA ts l.length j.2, endA ts l.length (tailA ts l.length j.2).2⟩) := Lib.hid (by unfold partsA; simp only [hQC, hQK, hQX, hQG, hQH, hQJ])
    have QC := Lib.hid hQC
    have QK := Lib.hid hQK
    have QX := Lib.hid hQX
    have QG := Lib.hid hQG
    have QH := Lib.hid hQH
    have QJ := Lib.hid hQJ
    clear hQC hQK hQX hQG hQH hQJ hrr
    have HU := Lib.hid hst
    clear hst
    generalize hp : w1.heap.size = p at *
    clear hp HR0 HBW0 hz1 HRD HA HC1 HFEW
    go_wp2_with fail
    refine (ris_any [119, 104, 101, 114, 101] p l.length ts (⟨0, 0, 0⟩ : Rs) _ HU.out.rr).mono ?_
    rintro e w2 ⟨rfl, hr2, he2⟩
    have HU2 := Lib.hid (HU.out.call he2 hr2)
    clear hr2 he2 HU
    go_upto_if 32 with fail
    go_cut [] from 10 (fun wx => UW w wx p l.length ts c.2 { P0 with cond := c.1 })
    case first =>
      cases hs : seesA ts (⟨0, 0, 0⟩ : Rs) [119, 104, 101, 114, 101] with
      | false =>
        have HE : Hid (c = ((P0).cond, (⟨0, 0, 0⟩ : Rs))) := Lib.hid (QC.out.symm.trans (partA_no hs))
        have HI := Lib.hid (isA_no (ts := ts) hs)
        clear hs
        go_wp2_with fail
        go_meet
        case rel => rw [HE.out]; have h := HU2.out; rw [HI.out] at h; exact h
      | true =>
        have HE : Hid (c = treeA false ts l.length ((⟨0, 0, 0⟩ : Rs)).next) := Lib.hid (QC.out.symm.trans (partA_yes hs))
        have HI := Lib.hid (isA_yes (ts := ts) hs)
        clear hs
        have HU3 : Hid (UW w w2 p l.length ts ((⟨0, 0, 0⟩ : Rs)).next (P0)) := Lib.hid (by have h := HU2.out; rw [HI.out] at h; exact h)
        clear HI HU2
        go_wp2_with fail
        refine (rbraces_any false p l.length ts ((⟨0, 0, 0⟩ : Rs)).next _ HU3.out.rr HN.out).mono ?_
        rintro e w3 ⟨cs, rfl, hru, hr3, he3⟩
        have HU4 := Lib.hid (HU3.out.call he3 hr3)
        have HRU := Lib.hid (RdU.keep (S' := fun _ => True) (Nat.le_refl _) (fun _ _ _ => ⟨trivial, rfl⟩) hru)
        have HC4 : Hid (c = ((bracesA false ts l.length ((⟨0, 0, 0⟩ : Rs)).next).1.1, (bracesA false ts l.length ((⟨0, 0, 0⟩ : Rs)).next).2)) := Lib.hid HE.out
        clear hru hr3 he3 HE HU3
        have HZ4 := Lib.hid (bracesA_size false ts l.length ((⟨0, 0, 0⟩ : Rs)).next)
        generalize (bracesA false ts l.length ((⟨0, 0, 0⟩ : Rs)).next) = br at HU4 HRU HC4 HZ4
        go_wp2_with fail
        refine (rformula_any _ br.1.1 cs br.1.2 _ (Nat.le_refl _) HZ4.out HRU.out).mono ?_
        rintro e w4 ⟨cs', rfl, hrt, hb4⟩
        have HU5 := Lib.hid (HU4.out.below hb4)
        have hzz : p + 2 ≤ w3.heap.size := by have := HU4.out.room; omega
        have HRT := Lib.hid (RdTree.keep (S' := fun k => p + 2 ≤ k) (Nat.le_refl _) (fun k hk _ => ⟨by omega, rfl⟩) hrt)
        obtain ⟨⟨t, dd⟩, z'⟩ := br
        have HC5 : Hid (c = (t, z')) := Lib.hid HC4.out
        simp only [] at hrt
        obtain ⟨o', nm', cm', m', ks'⟩ := t
        obtain ⟨K', q', rfl, -, -⟩ := hrt
        simp only [tcs]
        obtain ⟨v5, e5, g5⟩ := HU5.out.cells 5 (by decide)
        obtain ⟨v6, e6, g6⟩ := HU5.out.cells 6 (by decide)
        obtain ⟨v7, e7, g7⟩ := HU5.out.cells 7 (by decide)
        obtain ⟨v8, e8, g8⟩ := HU5.out.cells 8 (by decide)
        obtain ⟨v9, e9, g9⟩ := HU5.out.cells 9 (by decide)
        have dl := HU5.out.room
        have HST := Lib.hid (HU5.out.setCond o' nm' cm' m' ks' K' q' HRT.out)
        clear HU4 HRU HZ4 hb4 HC4
        go_wp2_with fail
        go_meet
        case rel => rw [HC5.out]; exact HST.out
    clear HU2
    have HU := Lib.hid hcut
    clear hcut
    go_upto_region 8 with fail
    go_wp2_with fail
    refine (ris_any [116, 101, 114, 109] p l.length ts c.2 _ HU.out.rr).mono ?_
    rintro e w2 ⟨rfl, hr2, he2⟩
    have HU2 := Lib.hid (HU.out.call he2 hr2)
    clear hr2 he2 HU
    go_upto_if 38 with fail
    go_cut [] from 10 (fun wx => UW w wx p l.length ts k.2 { P0 with cond := c.1, kind := k.1.1, name := k.1.2.1, value := k.1.2.2 })
    case first =>
      cases hs : seesA ts c.2 [116, 101, 114, 109] with
      | true =>
        have HE : Hid (k = ((1, (nameA ts l.length (c.2).next).1.text, 0), (nameA ts l.length (c.2).next).2)) := Lib.hid (QK.out.symm.trans (by unfold kindA; rw [if_pos hs]))
        have HI := Lib.hid (isA_yes (ts := ts) hs)
        clear hs
        have HU3 : Hid (UW w w2 p l.length ts (c.2).next ({ P0 with cond := c.1 })) := Lib.hid (by have h := HU2.out; rw [HI.out] at h; exact h)
        clear HI HU2
        go_wp2_with fail
        refine (rname_any p l.length ts ((c.2).next) _ HU3.out.rr).mono ?_
        rintro e wNa ⟨rfl, hrN, heN⟩
        have HNa := Lib.hid (HU3.out.call heN hrN)
        clear hrN heN
        obtain ⟨Na, hNa⟩ : ∃ N, nameA ts l.length ((c.2).next) = N := ⟨_, rfl⟩
        rw [hNa] at HNa ⊢
        obtain ⟨⟨nka, nta, nna, npa⟩, za⟩ := Na
        have QNa := Lib.hid hNa
        clear hNa
        simp only [Tok.agg]
        obtain ⟨v3, e3, g3⟩ := HNa.out.cells 3 (by decide)
        have dl := HNa.out.room
        go_wp2_with fail
        have HSTa := Lib.hid (HNa.out.setName nta)
        clear HNa
        go_meet
        case rel => rw [HE.out, QNa.out]; exact HSTa.out
      | false =>
        have HE : Hid (k = kindA ts l.length c.2) := Lib.hid QK.out.symm
        have HK : Hid (kindA ts l.length c.2 = ((2, (nameA ts l.length (mustA ts l.length c.2 [113, 117, 101, 115, 116, 105, 111, 110])).1.text, (numberA ts l.length (mustA ts l.length (nameA ts l.length (mustA ts l.length c.2 [113, 117, 101, 115, 116, 105, 111, 110])).2 [103, 105, 118, 101, 115]) 1000000).1), (numberA ts l.length (mustA ts l.length (nameA ts l.length (mustA ts l.length c.2 [113, 117, 101, 115, 116, 105, 111, 110])).2 [103, 105, 118, 101, 115]) 1000000).2)) := Lib.hid (by unfold kindA; rw [if_neg (by rw [hs]; decide)])
        have HI := Lib.hid (isA_no (ts := ts) hs)
        clear hs
        have HU3 : Hid (UW w w2 p l.length ts c.2 ({ P0 with cond := c.1 })) := Lib.hid (by have h := HU2.out; rw [HI.out] at h; exact h)
        clear HI HU2
        go_wp2_with fail
        refine (rmust_any [113, 117, 101, 115, 116, 105, 111, 110] p l.length ts (c.2) _ HU3.out.rr).mono ?_
        rintro e wMq ⟨rfl, hrM, heM⟩
        have HMq := Lib.hid (HU3.out.call heM hrM)
        clear hrM heM HU3
        obtain ⟨S1, hS1⟩ : ∃ S, mustA ts l.length c.2 [113, 117, 101, 115, 116, 105, 111, 110] = S := ⟨_, rfl⟩
        rw [hS1] at HK HMq
        clear hS1
        obtain ⟨v2, e2, g2⟩ := HMq.out.cells 2 (by decide)
        have dl := HMq.out.room
        go_wp2_with fail
        have HSK := Lib.hid (HMq.out.setKind 2)
        clear HMq e2 g2
        refine (rname_any p l.length ts (S1) _ HSK.out.rr).mono ?_
        rintro e wNb ⟨rfl, hrN, heN⟩
        have HNb := Lib.hid (HSK.out.call heN hrN)
        clear hrN heN
        obtain ⟨Nb, hNb⟩ : ∃ N, nameA ts l.length (S1) = N := ⟨_, rfl⟩
        rw [hNb] at HNb ⊢
        obtain ⟨⟨nkb, ntb, nnb, npb⟩, zb⟩ := Nb
        have QNb := Lib.hid hNb
        clear hNb
        simp only [Tok.agg]
        obtain ⟨v3, e3, g3⟩ := HNb.out.cells 3 (by decide)
        have dl := HNb.out.room
        go_wp2_with fail
        have HSTb := Lib.hid (HNb.out.setName ntb)
        clear HNb
        rw [QNb.out] at HK
        clear QNb HSK e3 g3
        refine (rmust_any [103, 105, 118, 101, 115] p l.length ts (zb) _ HSTb.out.rr).mono ?_
        rintro e wMg ⟨rfl, hrM, heM⟩
        have HMg := Lib.hid (HSTb.out.call heM hrM)
        clear hrM heM HSTb
        obtain ⟨S2, hS2⟩ : ∃ S, mustA ts l.length zb [103, 105, 118, 101, 115] = S := ⟨_, rfl⟩
        simp only [] at HK
        rw [hS2] at HK HMg
        clear hS2
        go_wp2_with fail
        refine (rnumber_any 1000000 p l.length ts S2 _ HMg.out.rr).mono ?_
        rintro e wV ⟨rfl, hrV, heV⟩
        have HV := Lib.hid (HMg.out.call heV hrV)
        clear hrV heV HMg
        obtain ⟨Y, hY⟩ : ∃ Y, numberA ts l.length S2 1000000 = Y := ⟨_, rfl⟩
        rw [hY] at HK HV ⊢
        clear hY
        obtain ⟨y1, S3⟩ := Y
        simp only [] at HV ⊢
        obtain ⟨v4, e4, g4⟩ := HV.out.cells 4 (by decide)
        have dl := HV.out.room
        go_wp2_with fail
        have HSV := Lib.hid (HV.out.setValue y1)
        go_meet
        case rel => rw [HE.out, HK.out]; exact HSV.out
    clear HU2
    have HU := Lib.hid hcut
    clear hcut
    go_upto_region 15 with fail
    go_wp2_with fail
    refine (ris_any [111, 118, 101, 114, 114, 105, 100, 101, 115] p l.length ts k.2 _ HU.out.rr).mono ?_
    rintro e w2 ⟨rfl, hr2, he2⟩
    have HU2 := Lib.hid (HU.out.call he2 hr2)
    clear hr2 he2 HU
    go_upto_if 56 with fail
    go_cut [] from 10 (fun wx => UW w wx p l.length ts x.2 { P0 with cond := c.1, kind := k.1.1, name := k.1.2.1, value := k.1.2.2, exc := x.1 })
    case first =>
      cases hs : seesA ts k.2 [111, 118, 101, 114, 114, 105, 100, 101, 115] with
      | false =>
        have HE : Hid (x = ([], k.2)) := Lib.hid (QX.out.symm.trans (partA_no hs))
        have HI := Lib.hid (isA_no (ts := ts) hs)
        clear hs
        go_wp2_with fail
        go_meet
        case rel => rw [HE.out]; have h := HU2.out; rw [HI.out] at h; exact h
      | true =>
        have HE : Hid (x = namesA ts l.length (k.2).next) := Lib.hid (QX.out.symm.trans (partA_yes hs))
        have HI := Lib.hid (isA_yes (ts := ts) hs)
        clear hs
        have HU3 : Hid (UW w w2 p l.length ts (k.2).next ({ P0 with cond := c.1, kind := k.1.1, name := k.1.2.1, value := k.1.2.2 })) := Lib.hid (by have h := HU2.out; rw [HI.out] at h; exact h)
        clear HI HU2
        go_wp2_with fail
        refine (rnames_any p l.length ts (k.2).next _ HU3.out.rr).mono ?_
        rintro e w3 ⟨A', cap', rfl, hcp, hrx, hr3, he3⟩
        have HU4 := Lib.hid (HU3.out.call he3 hr3)
        have HRX := Lib.hid hrx
        have HCP := Lib.hid hcp
        have HRM := Lib.hid HU3.out.room
        clear hrx hr3 he3 hcp
        obtain ⟨Y, hY⟩ : ∃ Y, namesA ts l.length (k.2).next = Y := ⟨_, rfl⟩
        rw [hY] at HE HU4 HRX HCP ⊢
        clear hY
        obtain ⟨xs, z'⟩ := Y
        simp only [] at HU4 HRX HCP ⊢
        obtain ⟨v10, e10, g10⟩ := HU4.out.cells 10 (by decide)
        have dl := HU4.out.room
        have HST := Lib.hid (HU4.out.setExc xs A' cap' HCP.out ⟨HRX.out.1, fun b o e => ⟨by have := (HRX.out.2 b o e).1; have := HRM.out; omega, (HRX.out.2 b o e).2⟩⟩)
        clear HU4 HRX HCP HRM
        go_wp2_with fail
        go_meet
        case rel => rw [HE.out]; exact HST.out
    clear HU2
    have HU := Lib.hid hcut
    clear hcut
    go_wp2_with fail
    refine (ris_any [115, 116, 97, 114, 116, 115] p l.length ts x.2 _ HU.out.rr).mono ?_
    rintro e w2 ⟨rfl, hr2, he2⟩
    have HU2 := Lib.hid (HU.out.call he2 hr2)
    clear hr2 he2 HU
    go_upto_if 61 with fail
    go_cut [] from 10 (fun wx => UW w wx p l.length ts g.2 { P0 with cond := c.1, kind := k.1.1, name := k.1.2.1, value := k.1.2.2, exc := x.1, beg := g.1 })
    case first =>
      cases hs : seesA ts x.2 [115, 116, 97, 114, 116, 115] with
      | false =>
        have HE : Hid (g = (({ P0 with cond := c.1, kind := k.1.1, name := k.1.2.1, value := k.1.2.2, exc := x.1 }).beg, x.2)) := Lib.hid (QG.out.symm.trans (partA_no hs))
        have HI := Lib.hid (isA_no (ts := ts) hs)
        clear hs
        go_wp2_with fail
        go_meet
        case rel => rw [HE.out]; have h := HU2.out; rw [HI.out] at h; exact h
      | true =>
        have HE : Hid (g = treeA true ts l.length (x.2).next) := Lib.hid (QG.out.symm.trans (partA_yes hs))
        have HI := Lib.hid (isA_yes (ts := ts) hs)
        clear hs
        have HU3 : Hid (UW w w2 p l.length ts (x.2).next ({ P0 with cond := c.1, kind := k.1.1, name := k.1.2.1, value := k.1.2.2, exc := x.1 })) := Lib.hid (by have h := HU2.out; rw [HI.out] at h; exact h)
        clear HI HU2
        go_wp2_with fail
        refine (rbraces_any true p l.length ts (x.2).next _ HU3.out.rr HN.out).mono ?_
        rintro e w3 ⟨cs, rfl, hru, hr3, he3⟩
        have HU4 := Lib.hid (HU3.out.call he3 hr3)
        have HRU := Lib.hid (RdU.keep (S' := fun _ => True) (Nat.le_refl _) (fun _ _ _ => ⟨trivial, rfl⟩) hru)
        have HC4 : Hid (g = ((bracesA true ts l.length (x.2).next).1.1, (bracesA true ts l.length (x.2).next).2)) := Lib.hid HE.out
        clear hru hr3 he3 HE HU3
        have HZ4 := Lib.hid (bracesA_size true ts l.length (x.2).next)
        generalize (bracesA true ts l.length (x.2).next) = br at HU4 HRU HC4 HZ4
        go_wp2_with fail
        refine (rcondition_any _ br.1.1 cs br.1.2 _ (Nat.le_refl _) HZ4.out HRU.out).mono ?_
        rintro e w4 ⟨cs', rfl, hrt, hb4⟩
        have HU5 := Lib.hid (HU4.out.below hb4)
        have hzz : p + 2 ≤ w3.heap.size := by have := HU4.out.room; omega
        have HRT := Lib.hid (RdTree.keep (S' := fun k => p + 2 ≤ k) (Nat.le_refl _) (fun k hk _ => ⟨by omega, rfl⟩) hrt)
        obtain ⟨⟨t, dd⟩, z'⟩ := br
        have HC5 : Hid (g = (t, z')) := Lib.hid HC4.out
        simp only [] at hrt
        obtain ⟨o', nm', cm', m', ks'⟩ := t
        obtain ⟨K', q', rfl, -, -⟩ := hrt
        simp only [tcs]
        obtain ⟨v11, e11, g11⟩ := HU5.out.cells 11 (by decide)
        obtain ⟨v12, e12, g12⟩ := HU5.out.cells 12 (by decide)
        obtain ⟨v13, e13, g13⟩ := HU5.out.cells 13 (by decide)
        obtain ⟨v14, e14, g14⟩ := HU5.out.cells 14 (by decide)
        have dl := HU5.out.room
        have HST := Lib.hid (HU5.out.setBeg o' nm' cm' m' ks' K' q' HRT.out)
        clear HU4 HRU HZ4 hb4 HC4
        go_wp2_with fail
        go_meet
        case rel => rw [HC5.out]; exact HST.out
    clear HU2
    have HU := Lib.hid hcut
    clear hcut
    go_wp2_with fail
    refine (ris_any [101, 110, 100, 115] p l.length ts g.2 _ HU.out.rr).mono ?_
    rintro e w2 ⟨rfl, hr2, he2⟩
    have HU2 := Lib.hid (HU.out.call he2 hr2)
    clear hr2 he2 HU
    go_upto_if 67 with fail
    go_cut [] from 10 (fun wx => UW w wx p l.length ts h.2 { P0 with cond := c.1, kind := k.1.1, name := k.1.2.1, value := k.1.2.2, exc := x.1, beg := g.1, fin := h.1 })
    case first =>
      cases hs : seesA ts g.2 [101, 110, 100, 115] with
      | false =>
        have HE : Hid (h = (({ P0 with cond := c.1, kind := k.1.1, name := k.1.2.1, value := k.1.2.2, exc := x.1, beg := g.1 }).fin, g.2)) := Lib.hid (QH.out.symm.trans (partA_no hs))
        have HI := Lib.hid (isA_no (ts := ts) hs)
        clear hs
        go_wp2_with fail
        go_meet
        case rel => rw [HE.out]; have h := HU2.out; rw [HI.out] at h; exact h
      | true =>
        have HE : Hid (h = treeA true ts l.length (g.2).next) := Lib.hid (QH.out.symm.trans (partA_yes hs))
        have HI := Lib.hid (isA_yes (ts := ts) hs)
        clear hs
        have HU3 : Hid (UW w w2 p l.length ts (g.2).next ({ P0 with cond := c.1, kind := k.1.1, name := k.1.2.1, value := k.1.2.2, exc := x.1, beg := g.1 })) := Lib.hid (by have h := HU2.out; rw [HI.out] at h; exact h)
        clear HI HU2
        go_wp2_with fail
        refine (rbraces_any true p l.length ts (g.2).next _ HU3.out.rr HN.out).mono ?_
        rintro e w3 ⟨cs, rfl, hru, hr3, he3⟩
        have HU4 := Lib.hid (HU3.out.call he3 hr3)
        have HRU := Lib.hid (RdU.keep (S' := fun _ => True) (Nat.le_refl _) (fun _ _ _ => ⟨trivial, rfl⟩) hru)
        have HC4 : Hid (h = ((bracesA true ts l.length (g.2).next).1.1, (bracesA true ts l.length (g.2).next).2)) := Lib.hid HE.out
        clear hru hr3 he3 HE HU3
        have HZ4 := Lib.hid (bracesA_size true ts l.length (g.2).next)
        generalize (bracesA true ts l.length (g.2).next) = br at HU4 HRU HC4 HZ4
        go_wp2_with fail
        refine (rcondition_any _ br.1.1 cs br.1.2 _ (Nat.le_refl _) HZ4.out HRU.out).mono ?_
        rintro e w4 ⟨cs', rfl, hrt, hb4⟩
        have HU5 := Lib.hid (HU4.out.below hb4)
        have hzz : p + 2 ≤ w3.heap.size := by have := HU4.out.room; omega
        have HRT := Lib.hid (RdTree.keep (S' := fun k => p + 2 ≤ k) (Nat.le_refl _) (fun k hk _ => ⟨by omega, rfl⟩) hrt)
        obtain ⟨⟨t, dd⟩, z'⟩ := br
        have HC5 : Hid (h = (t, z')) := Lib.hid HC4.out
        simp only [] at hrt
        obtain ⟨o', nm', cm', m', ks'⟩ := t
        obtain ⟨K', q', rfl, -, -⟩ := hrt
        simp only [tcs]
        obtain ⟨v15, e15, g15⟩ := HU5.out.cells 15 (by decide)
        obtain ⟨v16, e16, g16⟩ := HU5.out.cells 16 (by decide)
        obtain ⟨v17, e17, g17⟩ := HU5.out.cells 17 (by decide)
        obtain ⟨v18, e18, g18⟩ := HU5.out.cells 18 (by decide)
        have dl := HU5.out.room
        have HST := Lib.hid (HU5.out.setFin o' nm' cm' m' ks' K' q' HRT.out)
        clear HU4 HRU HZ4 hb4 HC4
        go_wp2_with fail
        go_meet
        case rel => rw [HC5.out]; exact HST.out
    clear HU2
    have HU := Lib.hid hcut
    clear hcut
    go_wp2_with fail
    refine (ris_any [114, 101, 116, 117, 114, 110, 115] p l.length ts h.2 _ HU.out.rr).mono ?_
    rintro e w2 ⟨rfl, hr2, he2⟩
    have HU2 := Lib.hid (HU.out.call he2 hr2)
    clear hr2 he2 HU
    go_upto_if 73 with fail
    go_cut [] from 10 (fun wx => UW w wx p l.length ts j.2 { P0 with cond := c.1, kind := k.1.1, name := k.1.2.1, value := k.1.2.2, exc := x.1, beg := g.1, fin := h.1, aga := j.1 })
    case first =>
      cases hs : seesA ts h.2 [114, 101, 116, 117, 114, 110, 115] with
      | false =>
        have HE : Hid (j = (({ P0 with cond := c.1, kind := k.1.1, name := k.1.2.1, value := k.1.2.2, exc := x.1, beg := g.1, fin := h.1 }).aga, h.2)) := Lib.hid (QJ.out.symm.trans (partA_no hs))
        have HI := Lib.hid (isA_no (ts := ts) hs)
        clear hs
        go_wp2_with fail
        go_meet
        case rel => rw [HE.out]; have h := HU2.out; rw [HI.out] at h; exact h
      | true =>
        have HE : Hid (j = treeA true ts l.length (h.2).next) := Lib.hid (QJ.out.symm.trans (partA_yes hs))
        have HI := Lib.hid (isA_yes (ts := ts) hs)
        clear hs
        have HU3 : Hid (UW w w2 p l.length ts (h.2).next ({ P0 with cond := c.1, kind := k.1.1, name := k.1.2.1, value := k.1.2.2, exc := x.1, beg := g.1, fin := h.1 })) := Lib.hid (by have h := HU2.out; rw [HI.out] at h; exact h)
        clear HI HU2
        go_wp2_with fail
        refine (rbraces_any true p l.length ts (h.2).next _ HU3.out.rr HN.out).mono ?_
        rintro e w3 ⟨cs, rfl, hru, hr3, he3⟩
        have HU4 := Lib.hid (HU3.out.call he3 hr3)
        have HRU := Lib.hid (RdU.keep (S' := fun _ => True) (Nat.le_refl _) (fun _ _ _ => ⟨trivial, rfl⟩) hru)
        have HC4 : Hid (j = ((bracesA true ts l.length (h.2).next).1.1, (bracesA true ts l.length (h.2).next).2)) := Lib.hid HE.out
        clear hru hr3 he3 HE HU3
        have HZ4 := Lib.hid (bracesA_size true ts l.length (h.2).next)
        generalize (bracesA true ts l.length (h.2).next) = br at HU4 HRU HC4 HZ4
        go_wp2_with fail
        refine (rcondition_any _ br.1.1 cs br.1.2 _ (Nat.le_refl _) HZ4.out HRU.out).mono ?_
        rintro e w4 ⟨cs', rfl, hrt, hb4⟩
        have HU5 := Lib.hid (HU4.out.below hb4)
        have hzz : p + 2 ≤ w3.heap.size := by have := HU4.out.room; omega
        have HRT := Lib.hid (RdTree.keep (S' := fun k => p + 2 ≤ k) (Nat.le_refl _) (fun k hk _ => ⟨by omega, rfl⟩) hrt)
        obtain ⟨⟨t, dd⟩, z'⟩ := br
        have HC5 : Hid (j = (t, z')) := Lib.hid HC4.out
        simp only [] at hrt
        obtain ⟨o', nm', cm', m', ks'⟩ := t
        obtain ⟨K', q', rfl, -, -⟩ := hrt
        simp only [tcs]
        obtain ⟨v19, e19, g19⟩ := HU5.out.cells 19 (by decide)
        obtain ⟨v20, e20, g20⟩ := HU5.out.cells 20 (by decide)
        obtain ⟨v21, e21, g21⟩ := HU5.out.cells 21 (by decide)
        obtain ⟨v22, e22, g22⟩ := HU5.out.cells 22 (by decide)
        have dl := HU5.out.room
        have HST := Lib.hid (HU5.out.setAga o' nm' cm' m' ks' K' q' HRT.out)
        clear HU4 HRU HZ4 hb4 HC4
        go_wp2_with fail
        go_meet
        case rel => rw [HC5.out]; exact HST.out
    clear HU2
    have HU := Lib.hid hcut
    clear hcut
    go_wp2_with fail
    have HQT : Hid (tailA ts l.length j.2 = ((1 + (oneA ts l.length (mustA ts l.length j.2 [91]) rankW).1, (nameA ts l.length (oneA ts l.length (mustA ts l.length j.2 [91]) rankW).2).1.text), mustA ts l.length (nameA ts l.length (oneA ts l.length (mustA ts l.length j.2 [91]) rankW).2).2 [93])) := Lib.hid rfl
    have HLS : Hid ((partsA ts l.length).last = endA ts l.length (tailA ts l.length j.2).2) := Lib.hid (by rw [HPA.out])
    have HPV : Hid ((partsA ts l.length).prov = { P0 with cond := c.1, kind := k.1.1, name := k.1.2.1, value := k.1.2.2, exc := x.1, beg := g.1, fin := h.1, aga := j.1, rank := (tailA ts l.length j.2).1.1, id := (tailA ts l.length j.2).1.2 }) := Lib.hid (by rw [HPA.out]; rfl)
    generalize tailA ts l.length j.2 = tl at HQT HLS HPV
    clear HPA QC QK QX QG QH QJ HN
    obtain ⟨PP, hPP⟩ : ∃ PP : Prov, { P0 with cond := c.1, kind := k.1.1, name := k.1.2.1, value := k.1.2.2, exc := x.1, beg := g.1, fin := h.1, aga := j.1 } = PP := ⟨_, rfl⟩
    have HPV2 : Hid ((partsA ts l.length).prov = { PP with rank := tl.1.1, id := tl.1.2 }) := Lib.hid (by rw [HPV.out, ← hPP])
    rw [hPP] at HU
    clear HPV hPP
    generalize j.2 = J at HU HQT ⊢
    refine (rmust_any [91] p l.length ts (J) _ HU.out.rr).mono ?_
    rintro e wMm ⟨rfl, hrM, heM⟩
    have HMm := Lib.hid (HU.out.call heM hrM)
    clear hrM heM HU
    obtain ⟨S1, hS1⟩ : ∃ S, mustA ts l.length J [91] = S := ⟨_, rfl⟩
    rw [hS1] at HQT HMm
    clear hS1
    have HRW : Hid (RdS (wMm.alloc (.cells #[vs [99, 104, 97, 114, 116, 101, 114], vs [115, 116, 97, 116, 117, 116, 101], vs [111, 114, 100, 101, 114], vs [114, 117, 108, 101]] 9 (0, 0))) (some ⟨wMm.heap.size, 0, none⟩) rankW) := Lib.hid (RdS.new (heap_alloc_new wMm _))
    have HA5 := Lib.hid (HMm.out.below ((Below.refl _ _).alloc (Nat.le_refl _) (.cells #[vs [99, 104, 97, 114, 116, 101, 114], vs [115, 116, 97, 116, 117, 116, 101], vs [111, 114, 100, 101, 114], vs [114, 117, 108, 101]] 9 (0, 0))))
    have HRM := Lib.hid HMm.out.room
    clear HMm
    go_wp2_with fail
    refine (rone_any rankW (some ⟨wMm.heap.size, 0, none⟩) 4 p l.length ts S1 _ HA5.out.rr HRW.out (by simp) (by intro b o e; injection e with e; injection e with e _; have := HRM.out; omega)).mono ?_
    rintro e w5 ⟨rfl, hr5, he5⟩
    have HU5 := Lib.hid (HA5.out.call he5 hr5)
    clear hr5 he5 HA5 HRW HRM
    have hc := one_le ts l.length S1 rankW
    obtain ⟨Z, hZ⟩ : ∃ Z, oneA ts l.length S1 rankW = Z := ⟨_, rfl⟩
    rw [hZ] at HU5 HQT hc ⊢
    clear hZ
    obtain ⟨z1, S2⟩ := Z
    simp only [rankW, List.length_cons, List.length_nil] at HU5 HQT hc ⊢
    have hz : (z1 : Int) ≤ 4 := by omega
    have hz0 : (0 : Int) ≤ z1 := by omega
    obtain ⟨v1, e1, g1⟩ := HU5.out.cells 1 (by decide)
    have dl := HU5.out.room
    clear hc
    go_wp2_with fail
    have HU6 := Lib.hid (HU5.out.setRank (1 + z1))
    clear HU5
    refine (rname_any p l.length ts (S2) _ HU6.out.rr).mono ?_
    rintro e wNd ⟨rfl, hrN, heN⟩
    have HNd := Lib.hid (HU6.out.call heN hrN)
    clear hrN heN
    obtain ⟨Nd, hNd⟩ : ∃ N, nameA ts l.length (S2) = N := ⟨_, rfl⟩
    rw [hNd] at HNd ⊢
    obtain ⟨⟨nkd, ntd, nnd, npd⟩, zd⟩ := Nd
    have QNd := Lib.hid hNd
    clear hNd
    simp only [Tok.agg]
    obtain ⟨v0, e0, g0⟩ := HNd.out.cells 0 (by decide)
    have dl := HNd.out.room
    go_wp2_with fail
    have HSTd := Lib.hid (HNd.out.setId ntd)
    clear HNd
    rw [QNd.out] at HQT
    clear QNd HU6 e1 g1
    refine (rmust_any [93] p l.length ts (zd) _ HSTd.out.rr).mono ?_
    rintro e wMn ⟨rfl, hrM, heM⟩
    have HMn := Lib.hid (HSTd.out.call heM hrM)
    clear hrM heM HSTd
    obtain ⟨S9, hS9⟩ : ∃ S, mustA ts l.length zd [93] = S := ⟨_, rfl⟩
    simp only [] at HQT
    rw [hS9] at HQT HMn
    clear hS9
    rw [HQT.out] at HLS HPV2
    clear HQT
    simp only [] at HLS HPV2
    generalize ({ PP with rank := 1 + z1, id := ntd } : Prov) = PF at HPV2 HMn
    obtain ⟨A9, c9, hh, hr9, hn9, h19⟩ := HMn.out.rr.is
    have hle9 := HMn.out.rr.le
    have hlt9 := lt_of_heap' hh
    have c1 := cell_of_blk (o := 1) hh rfl
    have c3 := cell_of_blk (o := 3) hh rfl
    clear hh hr9 hn9 h19
    obtain ⟨i9, e9, a9⟩ := S9
    try simp only [] at c1
    try simp only [] at c3
    try simp only [] at hle9
    by_cases h0 : e9 = 0
    · subst h0
      by_cases hi : i9 < ts.length
      · obtain ⟨tk, htk⟩ := get_of_lt hi
        have HFL : Hid (endA ts l.length ⟨i9, 0, a9⟩ = ⟨i9, 5, tk.pos⟩) := Lib.hid (by unfold endA; rw [if_pos ⟨rfl, hi⟩]; simp [failA, htk, Rs.flt])
        have HFA : Hid (failA ts l.length ⟨i9, 0, a9⟩ = ⟨i9, 5, tk.pos⟩) := Lib.hid (by simp [failA, htk, Rs.flt])
        have y1 : decide ((i9 : Int) < (ts.length : Int)) = true := by simp; omega
        have y2 : (i9 : Int) < (ts.length : Int) := by omega
        have y3 : decide (i9 < ts.length) = true := by simp; omega
        clear htk hi hle9
        go_wp2_with fail
        refine (rfail_any p l.length ts _ _ HMn.out.rr).mono ?_
        rintro e wF ⟨rfl, hrF, heF⟩
        rw [HFA.out] at hrF
        have HF := Lib.hid (HMn.out.call heF hrF)
        clear hrF heF c1 c3 hlt9 HMn
        obtain ⟨A9, c9, hh, -, -, -⟩ := HF.out.rr.is
        have c3 := cell_of_blk (o := 3) hh rfl
        have c4 := cell_of_blk (o := 4) hh rfl
        clear hh
        have hr0 : _ = some (Obj.cells zeroA 31 (0, 0)) := HF.out.res
        have hrl := lt_of_heap' hr0
        have hpl := HF.out.rr.lt
        go_wp2_with fail
        go_region
        all_goals go_wp2_with fail
        all_goals (
          refine bodyPost_ret (v := .tuple #[.agg zeroA, .int .i64 ((5 : Nat) : Int), .int .i64 (tk.pos : Int)]) (resultsR (show _ = some (Obj.cells zeroA 31 (0, 0)) from HF.out.res) rfl rfl rfl rfl) rfl ?_
          refine ⟨HF.out.bel.drew, ?_⟩
          rw [HLX.out]
          simp only []
          rw [HLS.out, HFL.out, if_neg (show ¬ (5 : Nat) = 0 by decide)])
      · have HFL : Hid (endA ts l.length ⟨i9, 0, a9⟩ = ⟨i9, 0, a9⟩) := Lib.hid (by unfold endA; rw [if_neg (fun h => hi h.2)])
        have y1 : decide ((i9 : Int) < (ts.length : Int)) = false := by simp; omega
        have y2 : ¬ (i9 : Int) < (ts.length : Int) := by omega
        have y3 : decide (i9 < ts.length) = false := by simp; omega
        clear hi hle9
        obtain ⟨C, hb1, hC⟩ := HMn.out.out
        have hb0 := HMn.out.res
        have HFIN := Lib.hid (HMn.out.fin hC)
        have hlC := hC.len
        have ha : allOne C = true := by
          obtain ⟨cc, A, cap, cb, cf, ca, rfl, -, l2, -, l4, l5, l6⟩ := hC
          simp only [List.cons_append, List.nil_append, allOne, allOne_app l2.one, allOne_app l4.one, allOne_app l5.one, Value.oneCell', Bool.true_and]
          exact allOne_of l6.one
        have hsz : C.toArray.size = 23 := by simp [hlC]
        clear hC hlC
        go_wp2_with fail
        rw [rowStore_cells _ _ _ _ _ (by rfl) hsz ha]
        have hsr : (wMn.setRow w.heap.size C.toArray).blk w.heap.size = some (.cells C.toArray 31 (0, 0)) := blk_setRow_at hb0
        have HSR := Lib.hid hsr
        clear hsr
        go_wp2_with fail
        refine bodyPost_ret (v := .tuple #[.agg C.toArray, .int .i64 0, .int .i64 0]) (resultsR HSR.out hsz rfl rfl rfl) rfl ?_
        refine ⟨HFIN.out.1, ?_⟩
        rw [HLX.out]
        simp only []
        rw [HLS.out, HFL.out]
        exact ⟨C, rfl, by rw [HPV2.out]; exact HFIN.out.2⟩
    · have HFL : Hid (endA ts l.length ⟨i9, e9, a9⟩ = ⟨i9, e9, a9⟩) := Lib.hid (by unfold endA; rw [if_neg (fun h => h0 h.1)])
      have y0 : ((e9 : Int) == 0) = false := by simp; omega
      have y1 : ((e9 : Int) != 0) = true := by simp; omega
      clear hle9 c1 c3 hlt9
      obtain ⟨A9, c9, hh, -, -, -⟩ := HMn.out.rr.is
      have c3 := cell_of_blk (o := 3) hh rfl
      have c4 := cell_of_blk (o := 4) hh rfl
      clear hh
      have hr0 : _ = some (Obj.cells zeroA 31 (0, 0)) := HMn.out.res
      have hrl := lt_of_heap' hr0
      have hpl := HMn.out.rr.lt
      go_wp2_with fail
      go_region
      all_goals go_wp2_with fail
      all_goals (
        refine bodyPost_ret (v := .tuple #[.agg zeroA, .int .i64 ((e9 : Nat) : Int), .int .i64 a9]) (resultsR (show _ = some (Obj.cells zeroA 31 (0, 0)) from HMn.out.res) rfl rfl rfl rfl) rfl ?_
        refine ⟨HMn.out.bel.drew, ?_⟩
        rw [HLX.out]
        simp only []
        rw [HLS.out, HFL.out, if_neg h0])
end Go.Proofs.YtcekampdldkjlaaGreatDoor
