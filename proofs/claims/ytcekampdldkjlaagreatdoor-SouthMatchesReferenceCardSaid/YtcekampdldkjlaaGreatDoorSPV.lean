/- What holds while provision runs: the parser's block, the box of the outcome, the box of the result, and what the fields point to. -/
import Derived.Test.YtcekampdldkjlaaGreatDoorSExc
import Derived.Test.YtcekampdldkjlaaGreatDoorNBox
import Derived.Test.YtcekampdldkjlaaGreatDoorNGrew
set_option linter.unusedVariables false
set_option linter.unusedSimpArgs false
namespace Go.Proofs.YtcekampdldkjlaaGreatDoor
open Go.RowKit
def zero23 : List Value := [.string ⟨#[]⟩, .int .i64 0, .int .i64 0, .string ⟨#[]⟩, .int .i64 0, .int .i64 0, .string ⟨#[]⟩, .int .i64 0, .int .i64 0, .slice none 0 0, .slice none 0 0, .int .i64 0, .string ⟨#[]⟩, .int .i64 0, .slice none 0 0, .int .i64 0, .string ⟨#[]⟩, .int .i64 0, .slice none 0 0, .int .i64 0, .string ⟨#[]⟩, .int .i64 0, .slice none 0 0]
/- a fact on blocks from base on -/
def Stab (base : Nat) (M : World → Prop) : Prop := ∀ a b : World, a.heap.size ≤ b.heap.size → (∀ k, base ≤ k → k < a.heap.size → b.heap[k]? = a.heap[k]?) → M a → M b
theorem Stab.triv (base : Nat) : Stab base (fun _ => True) := fun _ _ _ _ _ => trivial
theorem Stab.and {base : Nat} {M N : World → Prop} (h : Stab base M) (k : Stab base N) : Stab base (fun W => M W ∧ N W) := fun a b hs hk hm => ⟨h a b hs hk hm.1, k a b hs hk hm.2⟩
theorem Stab.tree {fm : Bool} {base : Nat} {cs : List Value} {t : Tree} : Stab base (fun W => RdTree fm (fun k => base ≤ k) W cs t) := fun a b hs hk hm => hm.keep hs (fun k h1 h2 => ⟨h1, hk k h1 h2⟩)
def RdEx (base : Nat) (A : Option Addr) (l : List (List UInt8)) (W : World) : Prop := RdS W A l ∧ ∀ b o, A = some ⟨b, o, none⟩ → base ≤ b ∧ b < W.heap.size
theorem Stab.exc {base : Nat} {A : Option Addr} {l : List (List UInt8)} : Stab base (RdEx base A l) := fun a b hs hk hm =>
  ⟨Sl.keep hm.1 hs (fun g o hA hlt => hk g (hm.2 g o hA).1 hlt), fun g o hA => ⟨(hm.2 g o hA).1, Nat.lt_of_lt_of_le (hm.2 g o hA).2 hs⟩⟩
structure PV (w wX : World) (p fin : Nat) (ts l : List Tok) (C : List Value) (M : World → Prop) : Prop where
  ps : PS wX p fin ts l
  eff : Eff p w wX
  out : wX.blk (w.heap.size + 1) = some (.cells C.toArray 31 (0, 0))
  res : wX.blk w.heap.size = some (.cells zero23.toArray 31 (0, 0))
  lt : p < w.heap.size
  stab : Stab (w.heap.size + 2) M
  mem : M wX
theorem PV.alloc {w wX : World} {p fin : Nat} {ts l : List Tok} {C : List Value} {M : World → Prop} (h : PV w wX p fin ts l C M) (o : Obj) : PV w (wX.alloc o) p fin ts l C M :=
  ⟨fits_alloc h.ps o, h.eff.alloc o, old_at h.out, old_at h.res, h.lt, h.stab, h.stab _ _ (by simp) (fun k _ hk => Below.heap_alloc _ _ _ hk) h.mem⟩
theorem PV.call {w wX w' : World} {p fin : Nat} {ts l r : List Tok} {C : List Value} {M : World → Prop} (h : PV w wX p fin ts l C M) (he : Eff p wX w') (hp : PS w' p fin ts r) : PV w w' p fin ts r C M :=
  ⟨hp, h.eff.trans he, (he.block _ (lt_of_heap' h.out) (by have := h.lt; omega)).trans h.out, (he.block _ (lt_of_heap' h.res) (by have := h.lt; omega)).trans h.res, h.lt, h.stab, h.stab _ _ he.size (fun k h1 h2 => he.block k h2 (by have := h.lt; omega)) h.mem⟩
theorem PV.set {w wX : World} {p fin : Nat} {ts l : List Tok} {C : List Value} {M : World → Prop} (h : PV w wX p fin ts l C M) (o : Nat) (v : Value) : PV w (wX.setCell ⟨w.heap.size + 1, o, none⟩ v) p fin ts l (C.set o v) M := by
  have ho := (Off.refl (w.heap.size + 1) wX).set (o := o) v
  have hlt := h.lt
  refine ⟨h.ps.off ho (by omega), h.eff.off ho (by omega), ?_, (ho.block _ (by omega)).trans h.res, h.lt, h.stab, h.stab _ _ (Nat.le_of_eq ho.size.symm) (fun k h1 _ => ho.block k (by omega)) h.mem⟩
  show (wX.setCell ⟨w.heap.size + 1, o, none⟩ v).heap[w.heap.size + 1]? = _
  have := h.out
  unfold World.blk at this
  rw [row_setCell this]
  simp
theorem PV.and {w wX : World} {p fin : Nat} {ts l : List Tok} {C : List Value} {M N : World → Prop} (h : PV w wX p fin ts l C M) (k : Stab (w.heap.size + 2) N) (hn : N wX) : PV w wX p fin ts l C (fun W => M W ∧ N W) :=
  ⟨h.ps, h.eff, h.out, h.res, h.lt, h.stab.and k, h.mem, hn⟩
theorem PV.cells {w wX : World} {p fin : Nat} {ts l : List Tok} {C : List Value} {M : World → Prop} (h : PV w wX p fin ts l C M) (o : Nat) {v : Value} (hv : C[o]? = some v) : wX.cell? ⟨w.heap.size + 1, o, none⟩ = some v ∧ wX.frozen? ⟨w.heap.size + 1, o, none⟩ = false :=
  ⟨cell_of_blk (o := o) (show wX.heap[w.heap.size + 1]? = _ from h.out) (by simpa using hv), frozen_of_blk (o := o) (show wX.heap[w.heap.size + 1]? = _ from h.out)⟩
theorem PV.room {w wX : World} {p fin : Nat} {ts l : List Tok} {C : List Value} {M : World → Prop} (h : PV w wX p fin ts l C M) : w.heap.size + 1 < wX.heap.size ∧ w.heap.size < wX.heap.size := ⟨lt_of_heap' h.out, lt_of_heap' h.res⟩
/- a provision in memory -/
def RdProv (base : Nat) (W : World) (cs : List Value) (P : Prov) : Prop := ∃ cc A cap cb cf ca, cs = [vs P.id, .int .i64 P.rank, .int .i64 P.kind, vs P.name, .int .i64 P.value] ++ (cc ++ (.slice A P.exc.length cap :: (cb ++ (cf ++ ca)))) ∧ P.exc.length ≤ cap ∧
  RdTree true (fun k => base ≤ k) W cc P.cond ∧ RdEx base A P.exc W ∧ RdTree false (fun k => base ≤ k) W cb P.beg ∧ RdTree false (fun k => base ≤ k) W cf P.fin ∧ RdTree false (fun k => base ≤ k) W ca P.aga
abbrev ProvV (w : World) (P : Prov) (v : Value) (w' : World) : Prop := ∃ cs : List Value, v = .agg cs.toArray ∧ RdProv w.heap.size w' cs P
theorem PV.start {p fin : Nat} {ts l : List Tok} {w : World} (hp : PS w p fin ts l) (C : List Value) : PV w ((w.alloc (.cells zero23.toArray 31 (0, 0))).alloc (.cells C.toArray 31 (0, 0))) p fin ts l C (fun _ => True) :=
  ⟨fits_alloc (fits_alloc hp _) _, (eff_alloc p w _).trans (eff_alloc p _ _), alloc_at (by simp), old_at (alloc_at rfl), hp.lt, Stab.triv _, trivial⟩
end Go.Proofs.YtcekampdldkjlaaGreatDoor
