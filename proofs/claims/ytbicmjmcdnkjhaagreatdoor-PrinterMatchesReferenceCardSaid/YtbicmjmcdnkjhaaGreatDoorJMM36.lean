/- Whole loads and stores of a Provision (23 cells) by one law each. The chapter's example in memory: pandectlaw10.example. -/
import Derived.Test.YtbicmjmcdnkjhaaGreatDoorJMM1
import Derived.Deep.MidRow
import Derived.Deep.WholeRow
import Derived.Test.YtbicmjmcdnkjhaaGreatDoorJMM18
import Derived.Test.YtbicmjmcdnkjhaaGreatDoorJMM4
import Derived.Test.YtbicmjmcdnkjhaaGreatDoorJMM9
import Derived.Laws.Tables
import Derived.Laws.CopyOwn
set_option linter.unusedVariables false
set_option linter.unusedSimpArgs false
namespace Go
noncomputable def World.blk (W : World) (b : Nat) : Option Obj := W.heap[b]?
end Go
namespace Go.Proofs.YtbicmjmcdnkjhaaGreatDoor
open Go.RowKit
def loadProv (a : Addr) : Sem Value := loadVar 30 a
def storeProv (a : Addr) (v : Value) : Sem Unit := storeVar 30 a v
@[go_sem ↓ high] theorem loadVar_prov_fold (a : Addr) : loadVar 30 a = loadProv a := rfl
@[go_sem ↓ high] theorem storeVar_prov_fold (a : Addr) (v : Value) : storeVar 30 a v = storeProv a v := rfl
def allOne : List Value → Bool
 | [] => true
 | v :: l => v.oneCell' && allOne l
theorem allOne_all : ∀ {l : List Value}, allOne l = true → ∀ v ∈ l, v.oneCell' = true
 | [], _, v, hv => by cases hv
 | x :: l, h, v, hv => by
   simp only [allOne, Bool.and_eq_true] at h
   rcases List.mem_cons.1 hv with rfl | hv
   · exact h.1
   · exact allOne_all h.2 v hv
@[go_sem] theorem allOne_nil : allOne [] = true := rfl
@[go_sem] theorem allOne_int (k : IntKind) (i : Int) (l : List Value) : allOne (.int k i :: l) = allOne l := rfl
@[go_sem] theorem allOne_str (b : ByteArray) (l : List Value) : allOne (.string b :: l) = allOne l := rfl
@[go_sem] theorem allOne_slice (a : Option Addr) (n c : Nat) (l : List Value) : allOne (.slice a n c :: l) = allOne l := rfl
noncomputable def rowStore (W : World) (b : Nat) (c : Array Value) (x : Option Obj) : Result Unit :=
 match x with
 | some (.cells C _ (0, 0)) => if C.size = 23 ∧ c.size = 23 ∧ allOne c.toList = true then .ok () (W.setRow b c) else (storeProv ⟨b, 0, none⟩ (.agg c)).run Tryz.prog W
 | _ => (storeProv ⟨b, 0, none⟩ (.agg c)).run Tryz.prog W
@[go_sem] theorem storeProv_row (W : World) (b : Nat) (c : Array Value) : (storeProv ⟨b, 0, none⟩ (.agg c)).run Tryz.prog W = rowStore W b c (W.blk b) := by
 unfold rowStore World.blk
 split
 · rename_i C t' h
   split
   · rename_i hn
     exact run_storeVar_row W b t' 30 C c h (by rw [hn.2.1]; kernel_rfl) (by omega) (by have := all_oneCell_toArray (allOne_all hn.2.2); rwa [Array.toArray_toList] at this)
   · rfl
 · rfl
@[go_sem] theorem rowStore_cells (W : World) (b : Nat) (l : List Value) (C : Array Value) (t : TypeId) (h1 : C.size = 23) (h2 : l.toArray.size = 23) (h3 : allOne l = true) : rowStore W b l.toArray (some (.cells C t (0, 0))) = .ok () (W.setRow b l.toArray) := by
 exact if_pos ⟨h1, h2, h3⟩
noncomputable def rowLoadP (W : World) (b : Nat) (x : Option Obj) : Result Value :=
 match x with
 | some (.cells C _ _) => if C.size = 23 then .ok (.agg C) W else (loadProv ⟨b, 0, none⟩).run Tryz.prog W
 | _ => (loadProv ⟨b, 0, none⟩).run Tryz.prog W
@[go_sem] theorem loadProv_row (W : World) (b : Nat) : (loadProv ⟨b, 0, none⟩).run Tryz.prog W = rowLoadP W b (W.blk b) := by
 unfold rowLoadP World.blk
 split
 · rename_i C t' fr h
   split
   · rename_i hn
     have := run_loadVar_mid (P := Tryz.prog) W b 0 30 C.toList _ (fun j v hv => by rw [Nat.zero_add]; simp [World.cell?, h]; simpa using hv) Tryz.underlying30 rfl (by rw [Array.length_toList, hn]; kernel_rfl)
     rwa [Array.toArray_toList] at this
   · rfl
 · rfl
@[go_sem] theorem rowLoadP_cells (W : World) (b : Nat) (l : List Value) (t : TypeId) (fr : Nat × Nat) (h : l.toArray.size = 23) : rowLoadP W b (some (.cells l.toArray t fr)) = .ok (.agg l.toArray) W := if_pos h
@[go_sem] theorem blk_alloc_at {w : World} {o : Obj} {k : Nat} (h : k = w.heap.size) : (w.alloc o).blk k = some o := h ▸ heap_alloc_new w o
@[go_sem] theorem blk_alloc_lt {w : World} {o : Obj} {k : Nat} (h : k < w.heap.size) : (w.alloc o).blk k = w.blk k := Below.heap_alloc w o k h
@[go_sem] theorem setRow_new {w : World} {c c' : Array Value} {t : TypeId} {k : Nat} (h : k = w.heap.size) : (w.alloc (.cells c t)).setRow k c' = w.alloc (.cells c' t) := by subst h; exact World.setRow_alloc_new w c c' t
end Go.Proofs.YtbicmjmcdnkjhaaGreatDoor
set_option maxHeartbeats 4000000
namespace Go.Proofs.YtbicmjmcdnkjhaaGreatDoor
open Go.RowKit
def exI (id : Bytes) : ProvI := ⟨id, 2, 2, [116, 97, 120], 5, .mk 6 [] 0 0 [.mk 3 [97, 103, 101] 6 18 [], .mk 5 [] 0 0 [.mk 4 [112, 111, 111, 114] 0 0 []]], [[112, 50], [112, 51]], .mk 9 [] 0 0 [.mk 3 [] 0 10 [], .mk 4 [111, 49] 0 0 []], .mk 2 [] 0 0 [], .mk 2 [] 0 0 []⟩
theorem ex_up (id : Bytes) : upP (exP id) = exI id := by
 unfold upP exP exI
 simp only [up, ups]
 rfl
theorem rdx_leaf (fm : Bool) (w : World) (op : Int) (name : Bytes) (c n : Int) (hc : fm = false → c = 0) : RdX fm w (tcX fm op name c n (.slice none 0 0)) (.mk op name c n []) := ⟨none, 0, rfl, lR _, Or.inl rfl⟩
theorem rdxs_one {fm : Bool} {w : World} {b : Nat} {cs : List Value} {t : TreeI} {ty : TypeId} (h : w.heap[b]? = some (.cells cs.toArray ty (0, 0))) (hr : RdX fm w cs t) : RdXs fm w b 0 [t] := by
 rw [RdXs, RdXs]
 exact ⟨⟨cs, fun j v hv => cOb h (by simpa using hv), hr⟩, trivial⟩
theorem rdxs_two {fm : Bool} {w : World} {b : Nat} {cs ds : List Value} {t u : TreeI} {ty : TypeId} (h : w.heap[b]? = some (.cells (cs ++ ds).toArray ty (0, 0))) (hr : RdX fm w cs t) (hu : RdX fm w ds u) : RdXs fm w b 0 [t, u] := by
 rw [RdXs, RdXs, RdXs]
 refine ⟨⟨cs, fun j v hv => ?_, hr⟩, ⟨ds, fun j v hv => ?_, hu⟩, trivial⟩
 · refine cOb h ?_
   rw [Nat.zero_add, List.getElem?_toArray, List.getElem?_append_left (List.getElem?_eq_some_iff.1 hv).1]
   exact hv
 · refine cOb h ?_
   have hl := hr.len
   rw [Nat.zero_add, List.getElem?_toArray, ← hl, List.getElem?_append_right (by omega)]
   simpa using hv
theorem ex_rd (X : World) (k : Nat) (id : Bytes) (h2 : X.heap[k + 1 + 1]? = some (.cells #[.int .i64 4, vs [112, 111, 111, 114], .int .i64 0, .int .i64 0, .slice none 0 0] 24 (0, 0)))
 (h4 : X.heap[k + 1 + 1 + 1 + 1]? = some (.cells #[.int .i64 3, vs [], .int .i64 10, .slice none 0 0, .int .i64 4, vs [111, 49], .int .i64 0, .slice none 0 0] 28 (0, 0)))
 (h6 : X.heap[k + 1 + 1 + 1 + 1 + 1 + 1]? = some (.cells #[.int .i64 3, vs [97, 103, 101], .int .i64 6, .int .i64 18, .slice none 0 0, .int .i64 5, vs [], .int .i64 0, .int .i64 0, .slice (some ⟨k + 1 + 1, 0, none⟩) 1 1] 24 (0, 0)))
 (h7 : X.heap[k + 1 + 1 + 1 + 1 + 1 + 1 + 1]? = some (.cells #[vs [112, 50], vs [112, 51]] 9 (0, 0))) :
 RdPX X [vs id, .int .i64 2, .int .i64 2, vs [116, 97, 120], .int .i64 5, .int .i64 6, vs [], .int .i64 0, .int .i64 0, .slice (some ⟨k + 1 + 1 + 1 + 1 + 1 + 1, 0, none⟩) 2 2, .slice (some ⟨k + 1 + 1 + 1 + 1 + 1 + 1 + 1, 0, none⟩) 2 2, .int .i64 9, vs [], .int .i64 0, .slice (some ⟨k + 1 + 1 + 1 + 1, 0, none⟩) 2 2, .int .i64 2, vs [], .int .i64 0, .slice none 0 0, .int .i64 2, vs [], .int .i64 0, .slice none 0 0] (exI id) := by
 refine ⟨tcX true 6 [] 0 0 (.slice (some ⟨k + 1 + 1 + 1 + 1 + 1 + 1, 0, none⟩) 2 2), some ⟨k + 1 + 1 + 1 + 1 + 1 + 1 + 1, 0, none⟩, 2, tcX false 9 [] 0 0 (.slice (some ⟨k + 1 + 1 + 1 + 1, 0, none⟩) 2 2), tcX false 2 [] 0 0 (.slice none 0 0), tcX false 2 [] 0 0 (.slice none 0 0), rfl, lR _, ?_, ?_, ?_, rdx_leaf _ _ _ _ _ _ (fun _ => rfl), rdx_leaf _ _ _ _ _ _ (fun _ => rfl)⟩
 · exact ⟨_, 2, rfl, lR _, Or.inr ⟨_, 0, rfl, lHp h6, rdxs_two (cs := tcX true 3 [97, 103, 101] 6 18 (.slice none 0 0)) (ds := tcX true 5 [] 0 0 (.slice (some ⟨k + 1 + 1, 0, none⟩) 1 1)) h6 (rdx_leaf _ _ _ _ _ _ (fun e => by cases e)) ⟨_, 1, rfl, lR _, Or.inr ⟨_, 0, rfl, lHp h2, rdxs_one (cs := tcX true 4 [112, 111, 111, 114] 0 0 (.slice none 0 0)) h2 (rdx_leaf _ _ _ _ _ _ (fun e => by cases e))⟩⟩⟩⟩
 · intro _
   refine ⟨_, 0, rfl, lHp h7, fun i x hx j v hv => ?_⟩
   cases j with
   | succ j => simp at hv
   | zero =>
     simp at hv
     subst hv
     refine cOb h7 ?_
     match i, hx with
     | 0, hx => simp [exI] at hx; subst hx; rfl
     | 1, hx => simp [exI] at hx; subst hx; rfl
     | i + 2, hx => simp [exI] at hx
 · exact ⟨_, 2, rfl, lR _, Or.inr ⟨_, 0, rfl, lHp h4, rdxs_two (cs := tcX false 3 [] 0 10 (.slice none 0 0)) (ds := tcX false 4 [111, 49] 0 0 (.slice none 0 0)) h4 (rdx_leaf _ _ _ _ _ _ (fun _ => rfl)) (rdx_leaf _ _ _ _ _ _ (fun _ => rfl))⟩⟩
set_option maxRecDepth 100000
theorem example_any (w : World) :
 Calls Tryz.prog 22 #[] w fun e w' => ∃ cs : List Value, e = .returned (.agg cs.toArray) ∧ RdPX w' cs (upP (exP [112, 49])) ∧ Below w.heap.size w w' := by
 go_enter Tryz.func22, Tryz.ntmps22
 go_wp2_with fail
 rw [rowStore_cells _ _ _ _ _ (by rfl) (by rfl) (by rfl)]
 go_wp2_with fail
 generalize hY : World.setRow _ w.heap.size _ = Y
 have f2 : Y.heap[w.heap.size + 1 + 1]? = some (.cells #[.int .i64 4, vs [112, 111, 111, 114], .int .i64 0, .int .i64 0, .slice none 0 0] 24 (0, 0)) := by rw [← hY, setRow_other _ _ _ _ (by omega)]; repeat (first | exact new_at (by simp) | refine kept_at ?_)
 have f4 : Y.heap[w.heap.size + 1 + 1 + 1 + 1]? = some (.cells #[.int .i64 3, vs [], .int .i64 10, .slice none 0 0, .int .i64 4, vs [111, 49], .int .i64 0, .slice none 0 0] 28 (0, 0)) := by rw [← hY, setRow_other _ _ _ _ (by omega)]; repeat (first | exact new_at (by simp) | refine kept_at ?_)
 have f6 : Y.heap[w.heap.size + 1 + 1 + 1 + 1 + 1 + 1]? = some (.cells #[.int .i64 3, vs [97, 103, 101], .int .i64 6, .int .i64 18, .slice none 0 0, .int .i64 5, vs [], .int .i64 0, .int .i64 0, .slice (some ⟨w.heap.size + 1 + 1, 0, none⟩) 1 1] 24 (0, 0)) := by rw [← hY, setRow_other _ _ _ _ (by omega)]; repeat (first | exact new_at (by simp) | refine kept_at ?_)
 have f7 : Y.heap[w.heap.size + 1 + 1 + 1 + 1 + 1 + 1 + 1]? = some (.cells #[vs [112, 50], vs [112, 51]] 9 (0, 0)) := by rw [← hY, setRow_other _ _ _ _ (by omega)]; repeat (first | exact new_at (by simp) | refine kept_at ?_)
 have f0 : Y.blk w.heap.size = some (.cells #[vs [112, 49], .int .i64 2, .int .i64 2, vs [116, 97, 120], .int .i64 5, .int .i64 6, vs [], .int .i64 0, .int .i64 0, .slice (some ⟨w.heap.size + 1 + 1 + 1 + 1 + 1 + 1, 0, none⟩) 2 2, .slice (some ⟨w.heap.size + 1 + 1 + 1 + 1 + 1 + 1 + 1, 0, none⟩) 2 2, .int .i64 9, vs [], .int .i64 0, .slice (some ⟨w.heap.size + 1 + 1 + 1 + 1, 0, none⟩) 2 2, .int .i64 2, vs [], .int .i64 0, .slice none 0 0, .int .i64 2, vs [], .int .i64 0, .slice none 0 0] 30 (0, 0)) := by
  rw [← hY]
  exact setRow_heap _ _ _ _ _ _ (by repeat (first | exact new_at (by simp) | refine kept_at ?_))
 have fb : Below w.heap.size w Y := by
  rw [← hY]
  refine below_setRow ?_ (lR _) _
  repeat (first | exact Below.refl _ _ | refine Below.alloc ?_ (by simp; omega) _ | refine Below.alloc ?_ (by simp) _)
 have hr := ex_rd Y w.heap.size [112, 49] f2 f4 f6 f7
 clear hY f2 f4 f6 f7
 refine bodyPost_ret (v := .agg #[vs [112, 49], .int .i64 2, .int .i64 2, vs [116, 97, 120], .int .i64 5, .int .i64 6, vs [], .int .i64 0, .int .i64 0, .slice (some ⟨w.heap.size + 1 + 1 + 1 + 1 + 1 + 1, 0, none⟩) 2 2, .slice (some ⟨w.heap.size + 1 + 1 + 1 + 1 + 1 + 1 + 1, 0, none⟩) 2 2, .int .i64 9, vs [], .int .i64 0, .slice (some ⟨w.heap.size + 1 + 1 + 1 + 1, 0, none⟩) 2 2, .int .i64 2, vs [], .int .i64 0, .slice none 0 0, .int .i64 2, vs [], .int .i64 0, .slice none 0 0]) (results_cell_row Tryz.results22 _ _ w.heap.size 30 _ (0, 0) _ (by rfl) f0 Tryz.underlying30 rfl (by kernel_rfl)) rfl ⟨_, rfl, ?_, fb⟩
 rw [ex_up]
 exact hr
end Go.Proofs.YtbicmjmcdnkjhaaGreatDoor
