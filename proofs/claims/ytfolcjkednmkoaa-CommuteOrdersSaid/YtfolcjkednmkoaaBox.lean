/- Whole loads of the two wide structs by one law each (cell by cell the kernel's work doubles with each cell). -/
import Derived.Test.YtfolcjkednmkoaaMem
import Derived.Test.YtfolcjkednmkoaaGrew
import Derived.Deep.MidRow
import Derived.Deep.Draws
set_option linter.unusedVariables false
set_option linter.unusedSimpArgs false
namespace Go
noncomputable def World.blk (W : World) (b : Nat) : Option Obj := W.heap[b]?
end Go
namespace Go.Proofs.Ytfolcjkednmkoaa
open Go.RowKit
/- the two loads under names of their own, ahead of the walk's own opening -/
def loadChg (a : Addr) : Sem Value := loadVar 74 a
def loadPat (a : Addr) : Sem Value := loadVar 28 a
@[go_sem ↓ high] theorem loadVar_chg_fold (a : Addr) : loadVar 74 a = loadChg a := rfl
@[go_sem ↓ high] theorem loadVar_pat_fold (a : Addr) : loadVar 28 a = loadPat a := rfl
noncomputable def rowLoad (W : World) (t : TypeId) (b o n : Nat) (x : Option Obj) : Result Value :=
  match x with
  | some (.cells C _ _) => if o + n ≤ C.size then .ok (.agg (C.extract o (o + n))) W else (loadVar t ⟨b, o, none⟩).run Try.prog W
  | _ => (loadVar t ⟨b, o, none⟩).run Try.prog W
theorem loadVar_row (W : World) (t : TypeId) (b o n : Nat) {d : TypeDesc} (hu : Try.prog.underlying t = some d) (hd : d.isRow = true) (hi : (Try.prog.info? t).map (·.size) = some n) :
    (loadVar t ⟨b, o, none⟩).run Try.prog W = rowLoad W t b o n (W.blk b) := by
  unfold rowLoad World.blk
  split
  · rename_i C t' fr h
    split
    · rename_i hn
      have := run_loadVar_mid W b o t (C.extract o (o + n)).toList d (World.rangeAt_of_block h o n) hu hd (by rw [hi]; simp; omega)
      rwa [Array.toArray_toList] at this
    · rfl
  · rfl
@[go_sem] theorem loadVar_chg (W : World) (b o : Nat) : (loadChg ⟨b, o, none⟩).run Try.prog W = rowLoad W 74 b o 17 (W.blk b) := loadVar_row W 74 b o 17 Try.underlying74 rfl (by kernel_rfl)
@[go_sem] theorem loadVar_pat (W : World) (b o : Nat) : (loadPat ⟨b, o, none⟩).run Try.prog W = rowLoad W 28 b o 15 (W.blk b) := loadVar_row W 28 b o 15 Try.underlying28 rfl (by kernel_rfl)
@[go_sem] theorem rowLoad_cells (W : World) (t t' : TypeId) (b n : Nat) (C : Array Value) (fr : Nat × Nat) (h : C.size = n) : rowLoad W t b 0 n (some (.cells C t' fr)) = .ok (.agg C) W := by
  subst h
  unfold rowLoad
  simp
@[go_sem] theorem rowLoad_part (W : World) (t t' : TypeId) (b o n : Nat) (C : Array Value) (fr : Nat × Nat) (h : o + n ≤ C.size) : rowLoad W t b o n (some (.cells C t' fr)) = .ok (.agg (C.extract o (o + n))) W := by
  unfold rowLoad
  simp [h]
@[go_sem] theorem blk_alloc_at {w : World} {o : Obj} {k : Nat} (h : k = w.heap.size) : (w.alloc o).blk k = some o := heap_new_at h
@[go_sem] theorem blk_alloc_lt {w : World} {o : Obj} {k : Nat} (h : k < w.heap.size) : (w.alloc o).blk k = w.blk k := Below.heap_alloc w o k h
@[go_sem] theorem blk_setCell {w : World} {a : Addr} {u : Value} {k : Nat} (h : k ≠ a.block) : (w.setCell a u).blk k = w.blk k := Below.heap_setCell w a u k h
@[go_sem] theorem blk_setCell1 {w : World} {k o : Nat} {n} {u : Value} : (w.setCell ⟨k + 1, o, n⟩ u).blk k = w.blk k := blk_setCell (by simp)
@[go_sem] theorem blk_setCell2 {w : World} {k o : Nat} {n} {u : Value} : (w.setCell ⟨k + 1 + 1, o, n⟩ u).blk k = w.blk k := blk_setCell (by simp; omega)
@[go_sem] theorem blk_setCell3 {w : World} {k o : Nat} {n} {u : Value} : (w.setCell ⟨k + 1 + 1 + 1, o, n⟩ u).blk k = w.blk k := blk_setCell (by simp; omega)
@[go_sem] theorem blk_grew {w x : World} {k : Nat} (h : k < w.heap.size) : (World.grew w x).blk k = w.blk k := (grew_below w x).block k h
@[go_sem] theorem blk_drew {w : World} {k : Nat} : w.drew.blk k = w.blk k := rfl
@[go_sem] theorem blk_drewN {w : World} {n k : Nat} : (w.drewN n).blk k = w.blk k := rfl
theorem bblk {W w1 : World} (hb : Below W.heap.size W w1) : ∀ k, k < W.heap.size → w1.blk k = W.blk k := fun k h => hb.block k h
end Go.Proofs.Ytfolcjkednmkoaa
