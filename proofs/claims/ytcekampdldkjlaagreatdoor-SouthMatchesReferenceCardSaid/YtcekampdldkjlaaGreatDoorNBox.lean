/- Whole loads and stores of a Provision (23 cells) by one law each. -/
import Derived.Test.YtcekampdldkjlaaGreatDoorNMem
import Derived.Laws.Rows
import Derived.Deep.MidRow
import Derived.Deep.WholeRow
set_option linter.unusedVariables false
set_option linter.unusedSimpArgs false
namespace Go
noncomputable def World.blk (W : World) (b : Nat) : Option Obj := W.heap[b]?
end Go
namespace Go.Proofs.YtcekampdldkjlaaGreatDoor
open Go.RowKit
theorem alloc_at {w : World} {b : Nat} {o : Obj} (h : b = w.heap.size) : (w.alloc o).heap[b]? = some o := h ▸ heap_alloc_new w o
theorem old_at {w : World} {b : Nat} {o x : Obj} (h : w.heap[b]? = some x) : (w.alloc o).heap[b]? = some x := (Below.heap_alloc _ _ _ (lt_of_heap' h)).trans h
def loadProv (a : Addr) : Sem Value := loadVar 31 a
def storeProv (a : Addr) (v : Value) : Sem Unit := storeVar 31 a v
@[go_sem ↓ high] theorem loadVar_prov_fold (a : Addr) : loadVar 31 a = loadProv a := rfl
@[go_sem ↓ high] theorem storeVar_prov_fold (a : Addr) (v : Value) : storeVar 31 a v = storeProv a v := rfl
def allOne : List Value → Bool
  | [] => true
  | v :: l => v.oneCell' && allOne l
theorem allOne_all : ∀ {l : List Value}, allOne l = true → ∀ v ∈ l, v.oneCell' = true
  | [], _, v, hv => by cases hv
  | x :: l, h, v, hv => by
    simp only [allOne, Bool.and_eq_true] at h
    rcases List.mem_cons.1 hv with rfl | hv
    · exact h.1
    · exact allOne_all h.2 v hv
@[go_sem] theorem allOne_nil : allOne [] = true := rfl
@[go_sem] theorem allOne_int (k : IntKind) (i : Int) (l : List Value) : allOne (.int k i :: l) = allOne l := rfl
@[go_sem] theorem allOne_str (b : ByteArray) (l : List Value) : allOne (.string b :: l) = allOne l := rfl
@[go_sem] theorem allOne_slice (a : Option Addr) (n c : Nat) (l : List Value) : allOne (.slice a n c :: l) = allOne l := rfl
noncomputable def rowStore (W : World) (b : Nat) (c : Array Value) (x : Option Obj) : Result Unit :=
  match x with
  | some (.cells C _ (0, 0)) => if C.size = 23 ∧ c.size = 23 ∧ allOne c.toList = true then .ok () (W.setRow b c) else (storeProv ⟨b, 0, none⟩ (.agg c)).run Tryz.prog W
  | _ => (storeProv ⟨b, 0, none⟩ (.agg c)).run Tryz.prog W
@[go_sem] theorem storeProv_row (W : World) (b : Nat) (c : Array Value) : (storeProv ⟨b, 0, none⟩ (.agg c)).run Tryz.prog W = rowStore W b c (W.blk b) := by
  unfold rowStore World.blk
  split
  · rename_i C t' h
    split
    · rename_i hn
      exact run_storeVar_row W b t' 31 C c h (by rw [hn.2.1]; kernel_rfl) (by omega) (by have := all_oneCell_toArray (allOne_all hn.2.2); rwa [Array.toArray_toList] at this)
    · rfl
  · rfl
@[go_sem] theorem rowStore_cells (W : World) (b : Nat) (l : List Value) (C : Array Value) (t : TypeId) (h1 : C.size = 23) (h2 : l.toArray.size = 23) (h3 : allOne l = true) : rowStore W b l.toArray (some (.cells C t (0, 0))) = .ok () (W.setRow b l.toArray) := by
  exact if_pos ⟨h1, h2, h3⟩
noncomputable def rowLoadP (W : World) (b : Nat) (x : Option Obj) : Result Value :=
  match x with
  | some (.cells C _ _) => if C.size = 23 then .ok (.agg C) W else (loadProv ⟨b, 0, none⟩).run Tryz.prog W
  | _ => (loadProv ⟨b, 0, none⟩).run Tryz.prog W
@[go_sem] theorem loadProv_row (W : World) (b : Nat) : (loadProv ⟨b, 0, none⟩).run Tryz.prog W = rowLoadP W b (W.blk b) := by
  unfold rowLoadP World.blk
  split
  · rename_i C t' fr h
    split
    · rename_i hn
      have := run_loadVar_mid (P := Tryz.prog) W b 0 31 C.toList _ (fun j v hv => by rw [Nat.zero_add]; simp [World.cell?, h]; simpa using hv) Tryz.underlying31 rfl (by rw [Array.length_toList, hn]; kernel_rfl)
      rwa [Array.toArray_toList] at this
    · rfl
  · rfl
@[go_sem] theorem rowLoadP_cells (W : World) (b : Nat) (l : List Value) (t : TypeId) (fr : Nat × Nat) (h : l.toArray.size = 23) : rowLoadP W b (some (.cells l.toArray t fr)) = .ok (.agg l.toArray) W := if_pos h
@[go_sem] theorem blk_alloc_at {w : World} {o : Obj} {k : Nat} (h : k = w.heap.size) : (w.alloc o).blk k = some o := alloc_at h
@[go_sem] theorem blk_alloc_lt {w : World} {o : Obj} {k : Nat} (h : k < w.heap.size) : (w.alloc o).blk k = w.blk k := Below.heap_alloc w o k h
@[go_sem] theorem setRow_new {w : World} {c c' : Array Value} {t : TypeId} {k : Nat} (h : k = w.heap.size) : (w.alloc (.cells c t)).setRow k c' = w.alloc (.cells c' t) := by subst h; exact World.setRow_alloc_new w c c' t
end Go.Proofs.YtcekampdldkjlaaGreatDoor
