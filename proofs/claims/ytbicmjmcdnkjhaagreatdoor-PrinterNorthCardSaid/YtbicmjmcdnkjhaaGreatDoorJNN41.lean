/- Whole loads and stores of a Provision (23 cells) by one law each. The chapter's example in memory: pandectlaw10.example. What holds while provision runs: the parser's block, the box of the outcome, the box of the result, and what the fields point to. A provision that the parser of north has built, as the printer reads one. -/
import Derived.Test.YtbicmjmcdnkjhaaGreatDoorJNN1
import Derived.Deep.MidRow
import Derived.Deep.WholeRow
import Derived.Test.YtbicmjmcdnkjhaaGreatDoorJNN24
import Derived.Test.YtbicmjmcdnkjhaaGreatDoorJNN7
import Derived.Test.YtbicmjmcdnkjhaaGreatDoorJNN14
import Derived.Laws.Tables
import Derived.Laws.CopyOwn
import Derived.Test.YtbicmjmcdnkjhaaGreatDoorJNN29
set_option linter.unusedVariables false
set_option linter.unusedSimpArgs false
namespace Go
noncomputable def World.blk (W : World) (b : Nat) : Option Obj := W.heap[b]?
end Go
namespace Go.Proofs.YtbicmjmcdnkjhaaGreatDoor
open Go.RowKit
def loadProv (a : Addr) : Sem Value := loadVar 30 a
def storeProv (a : Addr) (v : Value) : Sem Unit := storeVar 30 a v
@[go_sem ↓ high] theorem loadVar_prov_fold (a : Addr) : loadVar 30 a = loadProv a := rfl
@[go_sem ↓ high] theorem storeVar_prov_fold (a : Addr) (v : Value) : storeVar 30 a v = storeProv a v := rfl
def allOne : List Value → Bool
 | [] => true
 | v :: l => v.oneCell' && allOne l
theorem allOne_all : ∀ {l : List Value}, allOne l = true → ∀ v ∈ l, v.oneCell' = true
 | [], _, v, hv => by cases hv
 | x :: l, h, v, hv => by
   simp only [allOne, Bool.and_eq_true] at h
   rcases List.mem_cons.1 hv with rfl | hv
   · exact h.1
   · exact allOne_all h.2 v hv
@[go_sem] theorem allOne_nil : allOne [] = true := rfl
@[go_sem] theorem allOne_int (k : IntKind) (i : Int) (l : List Value) : allOne (.int k i :: l) = allOne l := rfl
@[go_sem] theorem allOne_str (b : ByteArray) (l : List Value) : allOne (.string b :: l) = allOne l := rfl
@[go_sem] theorem allOne_slice (a : Option Addr) (n c : Nat) (l : List Value) : allOne (.slice a n c :: l) = allOne l := rfl
noncomputable def rowStore (W : World) (b : Nat) (c : Array Value) (x : Option Obj) : Result Unit :=
 match x with
 | some (.cells C _ (0, 0)) => if C.size = 23 ∧ c.size = 23 ∧ allOne c.toList = true then .ok () (W.setRow b c) else (storeProv ⟨b, 0, none⟩ (.agg c)).run Tryz.prog W
 | _ => (storeProv ⟨b, 0, none⟩ (.agg c)).run Tryz.prog W
@[go_sem] theorem storeProv_row (W : World) (b : Nat) (c : Array Value) : (storeProv ⟨b, 0, none⟩ (.agg c)).run Tryz.prog W = rowStore W b c (W.blk b) := by
 unfold rowStore World.blk
 split
 · rename_i C t' h
   split
   · rename_i hn
     exact run_storeVar_row W b t' 30 C c h (by rw [hn.2.1]; kernel_rfl) (by omega) (by have := all_oneCell_toArray (allOne_all hn.2.2); rwa [Array.toArray_toList] at this)
   · rfl
 · rfl
@[go_sem] theorem rowStore_cells (W : World) (b : Nat) (l : List Value) (C : Array Value) (t : TypeId) (h1 : C.size = 23) (h2 : l.toArray.size = 23) (h3 : allOne l = true) : rowStore W b l.toArray (some (.cells C t (0, 0))) = .ok () (W.setRow b l.toArray) := by
 exact if_pos ⟨h1, h2, h3⟩
noncomputable def rowLoadP (W : World) (b : Nat) (x : Option Obj) : Result Value :=
 match x with
 | some (.cells C _ _) => if C.size = 23 then .ok (.agg C) W else (loadProv ⟨b, 0, none⟩).run Tryz.prog W
 | _ => (loadProv ⟨b, 0, none⟩).run Tryz.prog W
@[go_sem] theorem loadProv_row (W : World) (b : Nat) : (loadProv ⟨b, 0, none⟩).run Tryz.prog W = rowLoadP W b (W.blk b) := by
 unfold rowLoadP World.blk
 split
 · rename_i C t' fr h
   split
   · rename_i hn
     have := run_loadVar_mid (P := Tryz.prog) W b 0 30 C.toList _ (fun j v hv => by rw [Nat.zero_add]; simp [World.cell?, h]; simpa using hv) Tryz.underlying30 rfl (by rw [Array.length_toList, hn]; kernel_rfl)
     rwa [Array.toArray_toList] at this
   · rfl
 · rfl
@[go_sem] theorem rowLoadP_cells (W : World) (b : Nat) (l : List Value) (t : TypeId) (fr : Nat × Nat) (h : l.toArray.size = 23) : rowLoadP W b (some (.cells l.toArray t fr)) = .ok (.agg l.toArray) W := if_pos h
@[go_sem] theorem blk_alloc_at {w : World} {o : Obj} {k : Nat} (h : k = w.heap.size) : (w.alloc o).blk k = some o := h ▸ heap_alloc_new w o
@[go_sem] theorem blk_alloc_lt {w : World} {o : Obj} {k : Nat} (h : k < w.heap.size) : (w.alloc o).blk k = w.blk k := Below.heap_alloc w o k h
@[go_sem] theorem setRow_new {w : World} {c c' : Array Value} {t : TypeId} {k : Nat} (h : k = w.heap.size) : (w.alloc (.cells c t)).setRow k c' = w.alloc (.cells c' t) := by subst h; exact World.setRow_alloc_new w c c' t
end Go.Proofs.YtbicmjmcdnkjhaaGreatDoor
set_option maxHeartbeats 4000000
namespace Go.Proofs.YtbicmjmcdnkjhaaGreatDoor
open Go.RowKit
def exI (id : Bytes) : ProvI := ⟨id, 2, 2, [116, 97, 120], 5, .mk 6 [] 0 0 [.mk 3 [97, 103, 101] 6 18 [], .mk 5 [] 0 0 [.mk 4 [112, 111, 111, 114] 0 0 []]], [[112, 50], [112, 51]], .mk 9 [] 0 0 [.mk 3 [] 0 10 [], .mk 4 [111, 49] 0 0 []], .mk 2 [] 0 0 [], .mk 2 [] 0 0 []⟩
theorem ex_up (id : Bytes) : upP (exP id) = exI id := by
 unfold upP exP exI
 simp only [up, ups]
 rfl
theorem rdx_leaf (fm : Bool) (w : World) (op : Int) (name : Bytes) (c n : Int) (hc : fm = false → c = 0) : RdX fm w (tcX fm op name c n (.slice none 0 0)) (.mk op name c n []) := ⟨none, 0, rfl, Nat.le_refl _, Or.inl rfl⟩
theorem rdxs_one {fm : Bool} {w : World} {b : Nat} {cs : List Value} {t : TreeI} {ty : TypeId} (h : w.heap[b]? = some (.cells cs.toArray ty (0, 0))) (hr : RdX fm w cs t) : RdXs fm w b 0 [t] := by
 rw [RdXs, RdXs]
 exact ⟨⟨cs, fun j v hv => cell_of_blk h (by simpa using hv), hr⟩, trivial⟩
theorem rdxs_two {fm : Bool} {w : World} {b : Nat} {cs ds : List Value} {t u : TreeI} {ty : TypeId} (h : w.heap[b]? = some (.cells (cs ++ ds).toArray ty (0, 0))) (hr : RdX fm w cs t) (hu : RdX fm w ds u) : RdXs fm w b 0 [t, u] := by
 rw [RdXs, RdXs, RdXs]
 refine ⟨⟨cs, fun j v hv => ?_, hr⟩, ⟨ds, fun j v hv => ?_, hu⟩, trivial⟩
 · refine cell_of_blk h ?_
   rw [Nat.zero_add, List.getElem?_toArray, List.getElem?_append_left (List.getElem?_eq_some_iff.1 hv).1]
   exact hv
 · refine cell_of_blk h ?_
   have hl := hr.len
   rw [Nat.zero_add, List.getElem?_toArray, ← hl, List.getElem?_append_right (by omega)]
   simpa using hv
theorem ex_rd (X : World) (k : Nat) (id : Bytes) (h2 : X.heap[k + 1 + 1]? = some (.cells #[.int .i64 4, vs [112, 111, 111, 114], .int .i64 0, .int .i64 0, .slice none 0 0] 24 (0, 0)))
 (h4 : X.heap[k + 1 + 1 + 1 + 1]? = some (.cells #[.int .i64 3, vs [], .int .i64 10, .slice none 0 0, .int .i64 4, vs [111, 49], .int .i64 0, .slice none 0 0] 28 (0, 0)))
 (h6 : X.heap[k + 1 + 1 + 1 + 1 + 1 + 1]? = some (.cells #[.int .i64 3, vs [97, 103, 101], .int .i64 6, .int .i64 18, .slice none 0 0, .int .i64 5, vs [], .int .i64 0, .int .i64 0, .slice (some ⟨k + 1 + 1, 0, none⟩) 1 1] 24 (0, 0)))
 (h7 : X.heap[k + 1 + 1 + 1 + 1 + 1 + 1 + 1]? = some (.cells #[vs [112, 50], vs [112, 51]] 9 (0, 0))) :
 RdPX X [vs id, .int .i64 2, .int .i64 2, vs [116, 97, 120], .int .i64 5, .int .i64 6, vs [], .int .i64 0, .int .i64 0, .slice (some ⟨k + 1 + 1 + 1 + 1 + 1 + 1, 0, none⟩) 2 2, .slice (some ⟨k + 1 + 1 + 1 + 1 + 1 + 1 + 1, 0, none⟩) 2 2, .int .i64 9, vs [], .int .i64 0, .slice (some ⟨k + 1 + 1 + 1 + 1, 0, none⟩) 2 2, .int .i64 2, vs [], .int .i64 0, .slice none 0 0, .int .i64 2, vs [], .int .i64 0, .slice none 0 0] (exI id) := by
 refine ⟨tcX true 6 [] 0 0 (.slice (some ⟨k + 1 + 1 + 1 + 1 + 1 + 1, 0, none⟩) 2 2), some ⟨k + 1 + 1 + 1 + 1 + 1 + 1 + 1, 0, none⟩, 2, tcX false 9 [] 0 0 (.slice (some ⟨k + 1 + 1 + 1 + 1, 0, none⟩) 2 2), tcX false 2 [] 0 0 (.slice none 0 0), tcX false 2 [] 0 0 (.slice none 0 0), rfl, Nat.le_refl _, ?_, ?_, ?_, rdx_leaf _ _ _ _ _ _ (fun _ => rfl), rdx_leaf _ _ _ _ _ _ (fun _ => rfl)⟩
 · exact ⟨_, 2, rfl, Nat.le_refl _, Or.inr ⟨_, 0, rfl, lt_of_heap' h6, rdxs_two (cs := tcX true 3 [97, 103, 101] 6 18 (.slice none 0 0)) (ds := tcX true 5 [] 0 0 (.slice (some ⟨k + 1 + 1, 0, none⟩) 1 1)) h6 (rdx_leaf _ _ _ _ _ _ (fun e => by cases e)) ⟨_, 1, rfl, Nat.le_refl _, Or.inr ⟨_, 0, rfl, lt_of_heap' h2, rdxs_one (cs := tcX true 4 [112, 111, 111, 114] 0 0 (.slice none 0 0)) h2 (rdx_leaf _ _ _ _ _ _ (fun e => by cases e))⟩⟩⟩⟩
 · intro _
   refine ⟨_, 0, rfl, lt_of_heap' h7, fun i x hx j v hv => ?_⟩
   cases j with
   | succ j => simp at hv
   | zero =>
     simp at hv
     subst hv
     refine cell_of_blk h7 ?_
     match i, hx with
     | 0, hx => simp [exI] at hx; subst hx; rfl
     | 1, hx => simp [exI] at hx; subst hx; rfl
     | i + 2, hx => simp [exI] at hx
 · exact ⟨_, 2, rfl, Nat.le_refl _, Or.inr ⟨_, 0, rfl, lt_of_heap' h4, rdxs_two (cs := tcX false 3 [] 0 10 (.slice none 0 0)) (ds := tcX false 4 [111, 49] 0 0 (.slice none 0 0)) h4 (rdx_leaf _ _ _ _ _ _ (fun _ => rfl)) (rdx_leaf _ _ _ _ _ _ (fun _ => rfl))⟩⟩
set_option maxRecDepth 100000
theorem example_any (w : World) :
 Calls Tryz.prog 22 #[] w fun e w' => ∃ cs : List Value, e = .returned (.agg cs.toArray) ∧ RdPX w' cs (upP (exP [112, 49])) ∧ Below w.heap.size w w' := by
 go_enter Tryz.func22, Tryz.ntmps22
 go_wp2_with fail
 rw [rowStore_cells _ _ _ _ _ (by rfl) (by rfl) (by rfl)]
 go_wp2_with fail
 generalize hY : World.setRow _ w.heap.size _ = Y
 have f2 : Y.heap[w.heap.size + 1 + 1]? = some (.cells #[.int .i64 4, vs [112, 111, 111, 114], .int .i64 0, .int .i64 0, .slice none 0 0] 24 (0, 0)) := by rw [← hY, setRow_other _ _ _ _ (by omega)]; repeat (first | exact new_at (by simp) | refine kept_at ?_)
 have f4 : Y.heap[w.heap.size + 1 + 1 + 1 + 1]? = some (.cells #[.int .i64 3, vs [], .int .i64 10, .slice none 0 0, .int .i64 4, vs [111, 49], .int .i64 0, .slice none 0 0] 28 (0, 0)) := by rw [← hY, setRow_other _ _ _ _ (by omega)]; repeat (first | exact new_at (by simp) | refine kept_at ?_)
 have f6 : Y.heap[w.heap.size + 1 + 1 + 1 + 1 + 1 + 1]? = some (.cells #[.int .i64 3, vs [97, 103, 101], .int .i64 6, .int .i64 18, .slice none 0 0, .int .i64 5, vs [], .int .i64 0, .int .i64 0, .slice (some ⟨w.heap.size + 1 + 1, 0, none⟩) 1 1] 24 (0, 0)) := by rw [← hY, setRow_other _ _ _ _ (by omega)]; repeat (first | exact new_at (by simp) | refine kept_at ?_)
 have f7 : Y.heap[w.heap.size + 1 + 1 + 1 + 1 + 1 + 1 + 1]? = some (.cells #[vs [112, 50], vs [112, 51]] 9 (0, 0)) := by rw [← hY, setRow_other _ _ _ _ (by omega)]; repeat (first | exact new_at (by simp) | refine kept_at ?_)
 have f0 : Y.blk w.heap.size = some (.cells #[vs [112, 49], .int .i64 2, .int .i64 2, vs [116, 97, 120], .int .i64 5, .int .i64 6, vs [], .int .i64 0, .int .i64 0, .slice (some ⟨w.heap.size + 1 + 1 + 1 + 1 + 1 + 1, 0, none⟩) 2 2, .slice (some ⟨w.heap.size + 1 + 1 + 1 + 1 + 1 + 1 + 1, 0, none⟩) 2 2, .int .i64 9, vs [], .int .i64 0, .slice (some ⟨w.heap.size + 1 + 1 + 1 + 1, 0, none⟩) 2 2, .int .i64 2, vs [], .int .i64 0, .slice none 0 0, .int .i64 2, vs [], .int .i64 0, .slice none 0 0] 30 (0, 0)) := by
  rw [← hY]
  exact setRow_heap _ _ _ _ _ _ (by repeat (first | exact new_at (by simp) | refine kept_at ?_))
 have fb : Below w.heap.size w Y := by
  rw [← hY]
  refine below_setRow ?_ (Nat.le_refl _) _
  repeat (first | exact Below.refl _ _ | refine Below.alloc ?_ (by simp; omega) _ | refine Below.alloc ?_ (by simp) _)
 have hr := ex_rd Y w.heap.size [112, 49] f2 f4 f6 f7
 clear hY f2 f4 f6 f7
 refine bodyPost_ret (v := .agg #[vs [112, 49], .int .i64 2, .int .i64 2, vs [116, 97, 120], .int .i64 5, .int .i64 6, vs [], .int .i64 0, .int .i64 0, .slice (some ⟨w.heap.size + 1 + 1 + 1 + 1 + 1 + 1, 0, none⟩) 2 2, .slice (some ⟨w.heap.size + 1 + 1 + 1 + 1 + 1 + 1 + 1, 0, none⟩) 2 2, .int .i64 9, vs [], .int .i64 0, .slice (some ⟨w.heap.size + 1 + 1 + 1 + 1, 0, none⟩) 2 2, .int .i64 2, vs [], .int .i64 0, .slice none 0 0, .int .i64 2, vs [], .int .i64 0, .slice none 0 0]) (results_cell_row Tryz.results22 _ _ w.heap.size 30 _ (0, 0) _ (by rfl) f0 Tryz.underlying30 rfl (by kernel_rfl)) rfl ⟨_, rfl, ?_, fb⟩
 rw [ex_up]
 exact hr
end Go.Proofs.YtbicmjmcdnkjhaaGreatDoor
namespace Go.Proofs.YtbicmjmcdnkjhaaGreatDoor
open Go.RowKit
def zero23 : List Value := [.string ⟨#[]⟩, .int .i64 0, .int .i64 0, .string ⟨#[]⟩, .int .i64 0, .int .i64 0, .string ⟨#[]⟩, .int .i64 0, .int .i64 0, .slice none 0 0, .slice none 0 0, .int .i64 0, .string ⟨#[]⟩, .int .i64 0, .slice none 0 0, .int .i64 0, .string ⟨#[]⟩, .int .i64 0, .slice none 0 0, .int .i64 0, .string ⟨#[]⟩, .int .i64 0, .slice none 0 0]
/- a fact on blocks from base on -/
def Stab (base : Nat) (M : World → Prop) : Prop := ∀ a b : World, a.heap.size ≤ b.heap.size → (∀ k, base ≤ k → k < a.heap.size → b.heap[k]? = a.heap[k]?) → M a → M b
theorem Stab.triv (base : Nat) : Stab base (fun _ => True) := fun _ _ _ _ _ => trivial
theorem Stab.and {base : Nat} {M N : World → Prop} (h : Stab base M) (k : Stab base N) : Stab base (fun W => M W ∧ N W) := fun a b hs hk hm => ⟨h a b hs hk hm.1, k a b hs hk hm.2⟩
theorem Stab.tree {fm : Bool} {base : Nat} {cs : List Value} {t : Tree} : Stab base (fun W => RdTree fm (fun k => base ≤ k) W cs t) := fun a b hs hk hm => hm.keep hs (fun k h1 h2 => ⟨h1, hk k h1 h2⟩)
def RdE (base : Nat) (A : Option Addr) (l : List (List UInt8)) (W : World) : Prop := RdS W A l ∧ ∀ b o, A = some ⟨b, o, none⟩ → base ≤ b ∧ b < W.heap.size
theorem Stab.exc {base : Nat} {A : Option Addr} {l : List (List UInt8)} : Stab base (RdE base A l) := fun a b hs hk hm =>
 ⟨Sl.keep hm.1 hs (fun g o hA hlt => hk g (hm.2 g o hA).1 hlt), fun g o hA => ⟨(hm.2 g o hA).1, Nat.lt_of_lt_of_le (hm.2 g o hA).2 hs⟩⟩
structure PV (w wX : World) (p fin : Nat) (l : List Tok) (C : List Value) (M : World → Prop) : Prop where
 ps : PS wX p fin l
 eff : Eff p w wX
 out : wX.blk (w.heap.size + 1) = some (.cells C.toArray 30 (0, 0))
 res : wX.blk w.heap.size = some (.cells zero23.toArray 30 (0, 0))
 lt : p < w.heap.size
 stab : Stab (w.heap.size + 2) M
 mem : M wX
theorem PV.alloc {w wX : World} {p fin : Nat} {l : List Tok} {C : List Value} {M : World → Prop} (h : PV w wX p fin l C M) (o : Obj) : PV w (wX.alloc o) p fin l C M :=
 ⟨fits_alloc h.ps o, h.eff.alloc o, old_at h.out, old_at h.res, h.lt, h.stab, h.stab _ _ (by simp) (fun k _ hk => Below.heap_alloc _ _ _ hk) h.mem⟩
theorem PV.call {w wX w' : World} {p fin : Nat} {l r : List Tok} {C : List Value} {M : World → Prop} (h : PV w wX p fin l C M) (he : Eff p wX w') (hp : PS w' p fin r) : PV w w' p fin r C M :=
 ⟨hp, h.eff.trans he, (he.block _ (lt_of_heap' h.out) (by have := h.lt; omega)).trans h.out, (he.block _ (lt_of_heap' h.res) (by have := h.lt; omega)).trans h.res, h.lt, h.stab, h.stab _ _ he.size (fun k h1 h2 => he.block k h2 (by have := h.lt; omega)) h.mem⟩
theorem PV.set {w wX : World} {p fin : Nat} {l : List Tok} {C : List Value} {M : World → Prop} (h : PV w wX p fin l C M) (o : Nat) (v : Value) : PV w (wX.setCell ⟨w.heap.size + 1, o, none⟩ v) p fin l (C.set o v) M := by
 have ho := (Off.refl (w.heap.size + 1) wX).set (o := o) v
 have hlt := h.lt
 refine ⟨h.ps.off ho (by omega), h.eff.off ho (by omega), ?_, (ho.block _ (by omega)).trans h.res, h.lt, h.stab, h.stab _ _ (Nat.le_of_eq ho.size.symm) (fun k h1 _ => ho.block k (by omega)) h.mem⟩
 show (wX.setCell ⟨w.heap.size + 1, o, none⟩ v).heap[w.heap.size + 1]? = _
 have := h.out
 unfold World.blk at this
 rw [row_setCell this]
 simp
theorem PV.and {w wX : World} {p fin : Nat} {l : List Tok} {C : List Value} {M N : World → Prop} (h : PV w wX p fin l C M) (k : Stab (w.heap.size + 2) N) (hn : N wX) : PV w wX p fin l C (fun W => M W ∧ N W) :=
 ⟨h.ps, h.eff, h.out, h.res, h.lt, h.stab.and k, h.mem, hn⟩
theorem PV.cells {w wX : World} {p fin : Nat} {l : List Tok} {C : List Value} {M : World → Prop} (h : PV w wX p fin l C M) (o : Nat) {v : Value} (hv : C[o]? = some v) : wX.cell? ⟨w.heap.size + 1, o, none⟩ = some v ∧ wX.frozen? ⟨w.heap.size + 1, o, none⟩ = false :=
 ⟨cell_of_blk (o := o) (show wX.heap[w.heap.size + 1]? = _ from h.out) (by simpa using hv), frozen_of_blk (o := o) (show wX.heap[w.heap.size + 1]? = _ from h.out)⟩
theorem PV.room {w wX : World} {p fin : Nat} {l : List Tok} {C : List Value} {M : World → Prop} (h : PV w wX p fin l C M) : w.heap.size + 1 < wX.heap.size ∧ w.heap.size < wX.heap.size := ⟨lt_of_heap' h.out, lt_of_heap' h.res⟩
/- a provision in memory -/
def RdProv (base : Nat) (W : World) (cs : List Value) (P : Prov) : Prop := ∃ cc A cap cb cf ca, cs = [vs P.id, .int .i64 P.rank, .int .i64 P.kind, vs P.name, .int .i64 P.value] ++ (cc ++ (.slice A P.exc.length cap :: (cb ++ (cf ++ ca)))) ∧ P.exc.length ≤ cap ∧
 RdTree true (fun k => base ≤ k) W cc P.cond ∧ RdE base A P.exc W ∧ RdTree false (fun k => base ≤ k) W cb P.beg ∧ RdTree false (fun k => base ≤ k) W cf P.fin ∧ RdTree false (fun k => base ≤ k) W ca P.aga
abbrev ProvV (w : World) (P : Prov) (v : Value) (w' : World) : Prop := ∃ cs : List Value, v = .agg cs.toArray ∧ RdProv w.heap.size w' cs P
theorem PV.start {p fin : Nat} {l : List Tok} {w : World} (hp : PS w p fin l) (C : List Value) : PV w ((w.alloc (.cells zero23.toArray 30 (0, 0))).alloc (.cells C.toArray 30 (0, 0))) p fin l C (fun _ => True) :=
 ⟨fits_alloc (fits_alloc hp _) _, (eff_alloc p w _).trans (eff_alloc p _ _), alloc_at (by simp), old_at (alloc_at rfl), hp.lt, Stab.triv _, trivial⟩
end Go.Proofs.YtbicmjmcdnkjhaaGreatDoor
namespace Go.Proofs.YtbicmjmcdnkjhaaGreatDoor
open Go.RowKit
theorem tcs_X (fm : Bool) (op : Nat) (name : List UInt8) (cmp n : Nat) (s : Value) : tcs fm op name cmp n s = tcX fm op name cmp n s := by cases fm <;> rfl
theorem tsz_X (fm : Bool) : tsz fm = tszX fm := rfl
mutual
theorem RdTree.toX {fm : Bool} {S : Nat → Prop} {w : World} : ∀ {cs : List Value} {t : Tree}, RdTree fm S w cs t → RdX fm w cs (up t)
 | cs, .mk op name cmp n ks, h => by
   obtain ⟨A, cap, h1, h2, h3⟩ := h
   rw [up, RdX]
   refine ⟨A, cap, by rw [ups_len, h1, tcs_X], by rw [ups_len]; exact h2, ?_⟩
   rcases h3 with h3 | ⟨b, o, hA, hS, hb, h3⟩
   · subst h3
     exact .inl (by rw [ups])
   · exact .inr ⟨b, o, hA, hb, RdKids.toX h3⟩
theorem RdKids.toX {fm : Bool} {S : Nat → Prop} {w : World} {b : Nat} : ∀ {o : Nat} {ks : List Tree}, RdKids fm S w b o ks → RdXs fm w b o (ups ks)
 | o, [], h => by rw [ups, RdXs]; trivial
 | o, t :: r, h => by
   rw [RdKids] at h
   rw [ups, RdXs]
   obtain ⟨⟨cs, h1, h2⟩, h3⟩ := h
   exact ⟨⟨cs, h1, RdTree.toX h2⟩, by rw [← tsz_X]; exact RdKids.toX h3⟩
end
theorem RdProv.toX {base : Nat} {w : World} {cs : List Value} {P : Prov} (h : RdProv base w cs P) : RdPX w cs (upP P) := by
 obtain ⟨cc, A, cap, cb, cf, ca, h1, h2, h3, h4, h5, h6, h7⟩ := h
 exact ⟨cc, A, cap, cb, cf, ca, h1, h2, h3.toX, h4.1, h5.toX, h6.toX, h7.toX⟩
end Go.Proofs.YtbicmjmcdnkjhaaGreatDoor
