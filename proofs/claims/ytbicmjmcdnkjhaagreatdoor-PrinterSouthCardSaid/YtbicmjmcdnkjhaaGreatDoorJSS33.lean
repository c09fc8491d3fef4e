/- Whole loads and stores of a Provision (23 cells) by one law each. The chapter's example in memory: pandectlaw10.example. The second parser's block. The next token; a failure at it. -/
import Derived.Test.YtbicmjmcdnkjhaaGreatDoorJSS1
import Derived.Deep.MidRow
import Derived.Deep.WholeRow
import Derived.Test.YtbicmjmcdnkjhaaGreatDoorJSS22
import Derived.Test.YtbicmjmcdnkjhaaGreatDoorJSS6
import Derived.Test.YtbicmjmcdnkjhaaGreatDoorJSS12
import Derived.Laws.Tables
import Derived.Laws.CopyOwn
import Derived.Test.YtbicmjmcdnkjhaaGreatDoorJSS3
import Derived.Test.YtbicmjmcdnkjhaaGreatDoorJSS15
import Derived.StillTailTactics
import Derived.RegionTactic
import Derived.ChangeAlike
import Derived.BigRegion
set_option linter.unusedVariables false
set_option linter.unusedSimpArgs false
namespace Go
noncomputable def World.blk (W : World) (b : Nat) : Option Obj := W.heap[b]?
end Go
namespace Go.Proofs.YtbicmjmcdnkjhaaGreatDoor
open Go.RowKit
def loadProv (a : Addr) : Sem Value := loadVar 30 a
def storeProv (a : Addr) (v : Value) : Sem Unit := storeVar 30 a v
@[go_sem ↓ high] theorem loadVar_prov_fold (a : Addr) : loadVar 30 a = loadProv a := rfl
@[go_sem ↓ high] theorem storeVar_prov_fold (a : Addr) (v : Value) : storeVar 30 a v = storeProv a v := rfl
def allOne : List Value → Bool
 | [] => true
 | v :: l => v.oneCell' && allOne l
theorem allOne_all : ∀ {l : List Value}, allOne l = true → ∀ v ∈ l, v.oneCell' = true
 | [], _, v, hv => by cases hv
 | x :: l, h, v, hv => by
   simp only [allOne, Bool.and_eq_true] at h
   rcases List.mem_cons.1 hv with rfl | hv
   · exact h.1
   · exact allOne_all h.2 v hv
@[go_sem] theorem allOne_nil : allOne [] = true := rfl
@[go_sem] theorem allOne_int (k : IntKind) (i : Int) (l : List Value) : allOne (.int k i :: l) = allOne l := rfl
@[go_sem] theorem allOne_str (b : ByteArray) (l : List Value) : allOne (.string b :: l) = allOne l := rfl
@[go_sem] theorem allOne_slice (a : Option Addr) (n c : Nat) (l : List Value) : allOne (.slice a n c :: l) = allOne l := rfl
noncomputable def rowStore (W : World) (b : Nat) (c : Array Value) (x : Option Obj) : Result Unit :=
 match x with
 | some (.cells C _ (0, 0)) => if C.size = 23 ∧ c.size = 23 ∧ allOne c.toList = true then .ok () (W.setRow b c) else (storeProv ⟨b, 0, none⟩ (.agg c)).run Tryz.prog W
 | _ => (storeProv ⟨b, 0, none⟩ (.agg c)).run Tryz.prog W
@[go_sem] theorem storeProv_row (W : World) (b : Nat) (c : Array Value) : (storeProv ⟨b, 0, none⟩ (.agg c)).run Tryz.prog W = rowStore W b c (W.blk b) := by
 unfold rowStore World.blk
 split
 · rename_i C t' h
   split
   · rename_i hn
     exact run_storeVar_row W b t' 30 C c h (by rw [hn.2.1]; kernel_rfl) (by omega) (by have := all_oneCell_toArray (allOne_all hn.2.2); rwa [Array.toArray_toList] at this)
   · rfl
 · rfl
@[go_sem] theorem rowStore_cells (W : World) (b : Nat) (l : List Value) (C : Array Value) (t : TypeId) (h1 : C.size = 23) (h2 : l.toArray.size = 23) (h3 : allOne l = true) : rowStore W b l.toArray (some (.cells C t (0, 0))) = .ok () (W.setRow b l.toArray) := by
 exact if_pos ⟨h1, h2, h3⟩
noncomputable def rowLoadP (W : World) (b : Nat) (x : Option Obj) : Result Value :=
 match x with
 | some (.cells C _ _) => if C.size = 23 then .ok (.agg C) W else (loadProv ⟨b, 0, none⟩).run Tryz.prog W
 | _ => (loadProv ⟨b, 0, none⟩).run Tryz.prog W
@[go_sem] theorem loadProv_row (W : World) (b : Nat) : (loadProv ⟨b, 0, none⟩).run Tryz.prog W = rowLoadP W b (W.blk b) := by
 unfold rowLoadP World.blk
 split
 · rename_i C t' fr h
   split
   · rename_i hn
     have := run_loadVar_mid (P := Tryz.prog) W b 0 30 C.toList _ (fun j v hv => by rw [Nat.zero_add]; simp [World.cell?, h]; simpa using hv) Tryz.underlying30 rfl (by rw [Array.length_toList, hn]; kernel_rfl)
     rwa [Array.toArray_toList] at this
   · rfl
 · rfl
@[go_sem] theorem rowLoadP_cells (W : World) (b : Nat) (l : List Value) (t : TypeId) (fr : Nat × Nat) (h : l.toArray.size = 23) : rowLoadP W b (some (.cells l.toArray t fr)) = .ok (.agg l.toArray) W := if_pos h
@[go_sem] theorem blk_alloc_at {w : World} {o : Obj} {k : Nat} (h : k = w.heap.size) : (w.alloc o).blk k = some o := h ▸ heap_alloc_new w o
@[go_sem] theorem blk_alloc_lt {w : World} {o : Obj} {k : Nat} (h : k < w.heap.size) : (w.alloc o).blk k = w.blk k := Below.heap_alloc w o k h
@[go_sem] theorem setRow_new {w : World} {c c' : Array Value} {t : TypeId} {k : Nat} (h : k = w.heap.size) : (w.alloc (.cells c t)).setRow k c' = w.alloc (.cells c' t) := by subst h; exact World.setRow_alloc_new w c c' t
end Go.Proofs.YtbicmjmcdnkjhaaGreatDoor
set_option maxHeartbeats 4000000
namespace Go.Proofs.YtbicmjmcdnkjhaaGreatDoor
open Go.RowKit
def exI (id : Bytes) : ProvI := ⟨id, 2, 2, [116, 97, 120], 5, .mk 6 [] 0 0 [.mk 3 [97, 103, 101] 6 18 [], .mk 5 [] 0 0 [.mk 4 [112, 111, 111, 114] 0 0 []]], [[112, 50], [112, 51]], .mk 9 [] 0 0 [.mk 3 [] 0 10 [], .mk 4 [111, 49] 0 0 []], .mk 2 [] 0 0 [], .mk 2 [] 0 0 []⟩
theorem ex_up (id : Bytes) : upP (exP id) = exI id := by
 unfold upP exP exI
 simp only [up, ups]
 rfl
theorem rdx_leaf (fm : Bool) (w : World) (op : Int) (name : Bytes) (c n : Int) (hc : fm = false → c = 0) : RdX fm w (tcX fm op name c n (.slice none 0 0)) (.mk op name c n []) := ⟨none, 0, rfl, lR _, Or.inl rfl⟩
theorem rdxs_one {fm : Bool} {w : World} {b : Nat} {cs : List Value} {t : TreeI} {ty : TypeId} (h : w.heap[b]? = some (.cells cs.toArray ty (0, 0))) (hr : RdX fm w cs t) : RdXs fm w b 0 [t] := by
 rw [RdXs, RdXs]
 exact ⟨⟨cs, fun j v hv => cOb h (by simpa using hv), hr⟩, trivial⟩
theorem rdxs_two {fm : Bool} {w : World} {b : Nat} {cs ds : List Value} {t u : TreeI} {ty : TypeId} (h : w.heap[b]? = some (.cells (cs ++ ds).toArray ty (0, 0))) (hr : RdX fm w cs t) (hu : RdX fm w ds u) : RdXs fm w b 0 [t, u] := by
 rw [RdXs, RdXs, RdXs]
 refine ⟨⟨cs, fun j v hv => ?_, hr⟩, ⟨ds, fun j v hv => ?_, hu⟩, trivial⟩
 · refine cOb h ?_
   rw [Nat.zero_add, List.getElem?_toArray, List.getElem?_append_left (List.getElem?_eq_some_iff.1 hv).1]
   exact hv
 · refine cOb h ?_
   have hl := hr.len
   rw [Nat.zero_add, List.getElem?_toArray, ← hl, List.getElem?_append_right (by omega)]
   simpa using hv
theorem ex_rd (X : World) (k : Nat) (id : Bytes) (h2 : X.heap[k + 1 + 1]? = some (.cells #[.int .i64 4, vs [112, 111, 111, 114], .int .i64 0, .int .i64 0, .slice none 0 0] 24 (0, 0)))
 (h4 : X.heap[k + 1 + 1 + 1 + 1]? = some (.cells #[.int .i64 3, vs [], .int .i64 10, .slice none 0 0, .int .i64 4, vs [111, 49], .int .i64 0, .slice none 0 0] 28 (0, 0)))
 (h6 : X.heap[k + 1 + 1 + 1 + 1 + 1 + 1]? = some (.cells #[.int .i64 3, vs [97, 103, 101], .int .i64 6, .int .i64 18, .slice none 0 0, .int .i64 5, vs [], .int .i64 0, .int .i64 0, .slice (some ⟨k + 1 + 1, 0, none⟩) 1 1] 24 (0, 0)))
 (h7 : X.heap[k + 1 + 1 + 1 + 1 + 1 + 1 + 1]? = some (.cells #[vs [112, 50], vs [112, 51]] 9 (0, 0))) :
 RdPX X [vs id, .int .i64 2, .int .i64 2, vs [116, 97, 120], .int .i64 5, .int .i64 6, vs [], .int .i64 0, .int .i64 0, .slice (some ⟨k + 1 + 1 + 1 + 1 + 1 + 1, 0, none⟩) 2 2, .slice (some ⟨k + 1 + 1 + 1 + 1 + 1 + 1 + 1, 0, none⟩) 2 2, .int .i64 9, vs [], .int .i64 0, .slice (some ⟨k + 1 + 1 + 1 + 1, 0, none⟩) 2 2, .int .i64 2, vs [], .int .i64 0, .slice none 0 0, .int .i64 2, vs [], .int .i64 0, .slice none 0 0] (exI id) := by
 refine ⟨tcX true 6 [] 0 0 (.slice (some ⟨k + 1 + 1 + 1 + 1 + 1 + 1, 0, none⟩) 2 2), some ⟨k + 1 + 1 + 1 + 1 + 1 + 1 + 1, 0, none⟩, 2, tcX false 9 [] 0 0 (.slice (some ⟨k + 1 + 1 + 1 + 1, 0, none⟩) 2 2), tcX false 2 [] 0 0 (.slice none 0 0), tcX false 2 [] 0 0 (.slice none 0 0), rfl, lR _, ?_, ?_, ?_, rdx_leaf _ _ _ _ _ _ (fun _ => rfl), rdx_leaf _ _ _ _ _ _ (fun _ => rfl)⟩
 · exact ⟨_, 2, rfl, lR _, Or.inr ⟨_, 0, rfl, lHp h6, rdxs_two (cs := tcX true 3 [97, 103, 101] 6 18 (.slice none 0 0)) (ds := tcX true 5 [] 0 0 (.slice (some ⟨k + 1 + 1, 0, none⟩) 1 1)) h6 (rdx_leaf _ _ _ _ _ _ (fun e => by cases e)) ⟨_, 1, rfl, lR _, Or.inr ⟨_, 0, rfl, lHp h2, rdxs_one (cs := tcX true 4 [112, 111, 111, 114] 0 0 (.slice none 0 0)) h2 (rdx_leaf _ _ _ _ _ _ (fun e => by cases e))⟩⟩⟩⟩
 · intro _
   refine ⟨_, 0, rfl, lHp h7, fun i x hx j v hv => ?_⟩
   cases j with
   | succ j => simp at hv
   | zero =>
     simp at hv
     subst hv
     refine cOb h7 ?_
     match i, hx with
     | 0, hx => simp [exI] at hx; subst hx; rfl
     | 1, hx => simp [exI] at hx; subst hx; rfl
     | i + 2, hx => simp [exI] at hx
 · exact ⟨_, 2, rfl, lR _, Or.inr ⟨_, 0, rfl, lHp h4, rdxs_two (cs := tcX false 3 [] 0 10 (.slice none 0 0)) (ds := tcX false 4 [111, 49] 0 0 (.slice none 0 0)) h4 (rdx_leaf _ _ _ _ _ _ (fun _ => rfl)) (rdx_leaf _ _ _ _ _ _ (fun _ => rfl))⟩⟩
set_option maxRecDepth 100000
theorem example_any (w : World) :
 Calls Tryz.prog 22 #[] w fun e w' => ∃ cs : List Value, e = .returned (.agg cs.toArray) ∧ RdPX w' cs (upP (exP [112, 49])) ∧ Below w.heap.size w w' := by
 go_enter Tryz.func22, Tryz.ntmps22
 go_wp2_with fail
 rw [rowStore_cells _ _ _ _ _ (by rfl) (by rfl) (by rfl)]
 go_wp2_with fail
 generalize hY : World.setRow _ w.heap.size _ = Y
 have f2 : Y.heap[w.heap.size + 1 + 1]? = some (.cells #[.int .i64 4, vs [112, 111, 111, 114], .int .i64 0, .int .i64 0, .slice none 0 0] 24 (0, 0)) := by rw [← hY, setRow_other _ _ _ _ (by omega)]; repeat (first | exact new_at (by simp) | refine kept_at ?_)
 have f4 : Y.heap[w.heap.size + 1 + 1 + 1 + 1]? = some (.cells #[.int .i64 3, vs [], .int .i64 10, .slice none 0 0, .int .i64 4, vs [111, 49], .int .i64 0, .slice none 0 0] 28 (0, 0)) := by rw [← hY, setRow_other _ _ _ _ (by omega)]; repeat (first | exact new_at (by simp) | refine kept_at ?_)
 have f6 : Y.heap[w.heap.size + 1 + 1 + 1 + 1 + 1 + 1]? = some (.cells #[.int .i64 3, vs [97, 103, 101], .int .i64 6, .int .i64 18, .slice none 0 0, .int .i64 5, vs [], .int .i64 0, .int .i64 0, .slice (some ⟨w.heap.size + 1 + 1, 0, none⟩) 1 1] 24 (0, 0)) := by rw [← hY, setRow_other _ _ _ _ (by omega)]; repeat (first | exact new_at (by simp) | refine kept_at ?_)
 have f7 : Y.heap[w.heap.size + 1 + 1 + 1 + 1 + 1 + 1 + 1]? = some (.cells #[vs [112, 50], vs [112, 51]] 9 (0, 0)) := by rw [← hY, setRow_other _ _ _ _ (by omega)]; repeat (first | exact new_at (by simp) | refine kept_at ?_)
 have f0 : Y.blk w.heap.size = some (.cells #[vs [112, 49], .int .i64 2, .int .i64 2, vs [116, 97, 120], .int .i64 5, .int .i64 6, vs [], .int .i64 0, .int .i64 0, .slice (some ⟨w.heap.size + 1 + 1 + 1 + 1 + 1 + 1, 0, none⟩) 2 2, .slice (some ⟨w.heap.size + 1 + 1 + 1 + 1 + 1 + 1 + 1, 0, none⟩) 2 2, .int .i64 9, vs [], .int .i64 0, .slice (some ⟨w.heap.size + 1 + 1 + 1 + 1, 0, none⟩) 2 2, .int .i64 2, vs [], .int .i64 0, .slice none 0 0, .int .i64 2, vs [], .int .i64 0, .slice none 0 0] 30 (0, 0)) := by
  rw [← hY]
  exact setRow_heap _ _ _ _ _ _ (by repeat (first | exact new_at (by simp) | refine kept_at ?_))
 have fb : Below w.heap.size w Y := by
  rw [← hY]
  refine below_setRow ?_ (lR _) _
  repeat (first | exact Below.refl _ _ | refine Below.alloc ?_ (by simp; omega) _ | refine Below.alloc ?_ (by simp) _)
 have hr := ex_rd Y w.heap.size [112, 49] f2 f4 f6 f7
 clear hY f2 f4 f6 f7
 refine bodyPost_ret (v := .agg #[vs [112, 49], .int .i64 2, .int .i64 2, vs [116, 97, 120], .int .i64 5, .int .i64 6, vs [], .int .i64 0, .int .i64 0, .slice (some ⟨w.heap.size + 1 + 1 + 1 + 1 + 1 + 1, 0, none⟩) 2 2, .slice (some ⟨w.heap.size + 1 + 1 + 1 + 1 + 1 + 1 + 1, 0, none⟩) 2 2, .int .i64 9, vs [], .int .i64 0, .slice (some ⟨w.heap.size + 1 + 1 + 1 + 1, 0, none⟩) 2 2, .int .i64 2, vs [], .int .i64 0, .slice none 0 0, .int .i64 2, vs [], .int .i64 0, .slice none 0 0]) (results_cell_row Tryz.results22 _ _ w.heap.size 30 _ (0, 0) _ (by rfl) f0 Tryz.underlying30 rfl (by kernel_rfl)) rfl ⟨_, rfl, ?_, fb⟩
 rw [ex_up]
 exact hr
namespace So
theorem alloc_at {w : World} {b : Nat} {o : Obj} (h : b = w.heap.size) : (w.alloc o).heap[b]? = some o := h ▸ heap_alloc_new w o
theorem old_at {w : World} {b : Nat} {o x : Obj} (h : w.heap[b]? = some x) : (w.alloc o).heap[b]? = some x := (Below.heap_alloc _ _ _ (lHp h)).trans h
@[go_sem] theorem blk_grew {w x : World} {k : Nat} (h : k < w.heap.size) : (World.grew w x).blk k = w.blk k := (gBl w x).block k h
/- the parser's block: all tokens, the next one's number, the text's length; l: what is left -/
structure PS (w : World) (p fin : Nat) (ts l : List Tok) : Prop where
 is : ∃ A c u, w.heap[p]? = some (.cells #[.slice A ts.length c, .int .i64 (u.length : Nat), .int .i64 fin] 92 (0, 0)) ∧ ts = u ++ l ∧ RdT w A ts ∧ (∀ b o, A = some ⟨b, o, none⟩ → b < p) ∧ ts.length ≤ c ∧ c ≤ 9223372036854775807
 fit : ∀ t ∈ ts, TokFit t
 few : ts.length ≤ 5000
 mx : ∃ m, w.cell? ⟨2, 0, none⟩ = some (.int .i64 m)
 ne : 2 < p
 bound : fin ≤ 1000000
theorem PS.lt {w : World} {p fin : Nat} {ts l : List Tok} (h : PS w p fin ts l) : p < w.heap.size := by obtain ⟨A, c, u, hh, _⟩ := h.is; exact lHp hh
theorem PS.below {w w' : World} {p fin : Nat} {ts l : List Tok} (h : PS w p fin ts l) (hb : Below w.heap.size w w') : PS w' p fin ts l := by
 obtain ⟨A, c, u, hh, hu, hr, hn, h1, h2⟩ := h.is
 obtain ⟨m, hm⟩ := h.mx
 exact ⟨⟨A, c, u, (hb.block p (lHp hh)).trans hh, hu, hr.below hb, hn, h1, h2⟩, h.fit, h.few, ⟨m, (hb.cell (p := ⟨_, 0, none⟩) (World.block_lt_of_cell? _ _ hm)).trans hm⟩, h.ne, h.bound⟩
theorem PS.keep {w w' : World} {p fin : Nat} {ts l : List Tok} (h : PS w p fin ts l) (hs : w.heap.size ≤ w'.heap.size) (hk : ∀ b, b ≤ p → w'.heap[b]? = w.heap[b]?) : PS w' p fin ts l := by
 obtain ⟨A, c, u, hh, hu, hr, hn, h1, h2⟩ := h.is
 obtain ⟨m, hm⟩ := h.mx
 have hne := h.ne
 exact ⟨⟨A, c, u, (hk p (lR _)).trans hh, hu, Sl.keep hr hs (fun b o hA _ => hk b (Nat.le_of_lt (hn b o hA))), hn, h1, h2⟩, h.fit, h.few, ⟨m, (cOh (hk _ (Nat.le_of_lt hne)) 0).trans hm⟩, h.ne, h.bound⟩
theorem key_contains (s : List UInt8) (hs : ∀ c ∈ s, c ≠ 32) : Lib.contains (keysT keyWords) (32 :: (s ++ [32])) = keyF s := by
 rw [Bool.eq_iff_iff, contains_occ _ _ (by simp), occ_keys keyWords s hs (by decide)]
 unfold keyF
 simp
end So
end Go.Proofs.YtbicmjmcdnkjhaaGreatDoor
set_option maxRecDepth 20000
set_option maxHeartbeats 800000
namespace Go.Proofs.YtbicmjmcdnkjhaaGreatDoor
namespace So
open Go.RowKit
def headT (fin : Nat) : List Tok → Tok
 | [] => ⟨0, [], 0, fin⟩
 | t :: _ => t
abbrev stopE (e a : Nat) : Ending := .panicked [{ v := .iface 89 (.agg #[.int .i64 e, .int .i64 a]), recovered := false }]
@[go_sem] theorem run_field_tok_kind (a b c d : Value) (W : World) : (Instr.field 122 (.agg #[a, b, c, d]) 0).run Tryz.prog W = .ok a W := by kernel_rfl
@[go_sem] theorem run_field_tok_text (a b c d : Value) (W : World) : (Instr.field 122 (.agg #[a, b, c, d]) 1).run Tryz.prog W = .ok b W := by kernel_rfl
@[go_sem] theorem run_field_tok_n (a b c d : Value) (W : World) : (Instr.field 122 (.agg #[a, b, c, d]) 2).run Tryz.prog W = .ok c W := by kernel_rfl
@[go_sem] theorem run_field_tok_at (a b c d : Value) (W : World) : (Instr.field 122 (.agg #[a, b, c, d]) 3).run Tryz.prog W = .ok d W := by kernel_rfl
abbrev zTok : Obj := .cells #[.int .i64 0, .string ⟨#[]⟩, .int .i64 0, .int .i64 0] 122 (0, 0)
/- a box of a token's that the call owns, behind a region -/
structure BoxT (w wg : World) (b : Nat) : Prop where
 c0 : wg.cell? ⟨b, 0, none⟩ = some (.int .i64 0)
 c1 : wg.cell? ⟨b, 1, none⟩ = some (.string ⟨#[]⟩)
 c2 : wg.cell? ⟨b, 2, none⟩ = some (.int .i64 0)
 c3 : wg.cell? ⟨b, 3, none⟩ = some (.int .i64 0)
 f0 : wg.frozen? ⟨b, 0, none⟩ = false
 f1 : wg.frozen? ⟨b, 1, none⟩ = false
 f2 : wg.frozen? ⟨b, 2, none⟩ = false
 f3 : wg.frozen? ⟨b, 3, none⟩ = false
 lt : b < wg.heap.size
theorem BoxT.mk' {w wg : World} {b : Nat} (h : wg.heap[b]? = some zTok) : BoxT w wg b :=
 ⟨cOb (o := 0) h rfl, cOb (o := 1) h rfl, cOb (o := 2) h rfl, cOb (o := 3) h rfl, fOb (o := 0) h, fOb (o := 1) h, fOb (o := 2) h, fOb (o := 3) h, lHp h⟩
theorem below_set4 {B : Nat} {w w' : World} (h : Below B w w') {b : Nat} (hb : B ≤ b) (v0 v1 v2 v3 : Value) : Below B w ((((w'.setCell ⟨b, 0, none⟩ v0).setCell ⟨b, 1, none⟩ v1).setCell ⟨b, 2, none⟩ v2).setCell ⟨b, 3, none⟩ v3) :=
 (((h.setCell hb _).setCell hb _).setCell hb _).setCell hb _
theorem tok_nth {w : World} {A : Option Addr} {ts u l : List Tok} {t : Tok} (h : RdT w A ts) (hu : ts = u ++ t :: l) : ∃ b o, A = some ⟨b, o, none⟩ ∧ b < w.heap.size ∧ w.cell? ⟨b, o + u.length * 4, none⟩ = some (.int .i64 t.kind) ∧ w.cell? ⟨b, o + u.length * 4 + 1, none⟩ = some (vs t.text) ∧ w.cell? ⟨b, o + u.length * 4 + 2, none⟩ = some (.int .i64 t.n) ∧ w.cell? ⟨b, o + u.length * 4 + 3, none⟩ = some (.int .i64 t.pos) := by
 obtain ⟨b, o, hA, hb, hc⟩ := h (by rw [hu]; simp)
 have hx : ts[u.length]? = some t := by rw [hu, List.getElem?_append_right (lR _)]; simp
 exact ⟨b, o, hA, hb, hc _ _ hx 0 _ rfl, hc _ _ hx 1 _ rfl, hc _ _ hx 2 _ rfl, hc _ _ hx 3 _ rfl⟩
theorem peek_nil (p fin : Nat) (ts : List Tok) (w : World) (hp : PS w p fin ts []) :
 Calls Tryz.prog 142 #[.pointer (some ⟨p, 0, none⟩)] w fun e w' => e = .returned (headT fin []).agg ∧ Below w.heap.size w w' := by
 obtain ⟨A, c, u, hh, hu, -⟩ := hp.is
 have hul : u.length = ts.length := by rw [hu]; simp
 rw [hul] at hh
 have c0 := cOb (o := 0) hh rfl
 have c1 := cOb (o := 1) hh rfl
 have hlt := lHp hh
 have HH := Hi hh
 clear hh hp hu hul
 go_enter Tryz.func142, Tryz.ntmps142
 go_wp2_with fail
 refine wp_region_grew (by kernel_rfl) (by as_aux_lemma => kernel_rfl) ?_
 repeat (go_big_quiet_step (fail))
 refine wpQuiet_nil ?_
 rintro _ ⟨y, rfl⟩
 have hb : Below w.heap.size w (World.grew (w.alloc zTok) y) := ((Below.refl _ _).alloc (lR _) _).trans ((gBl _ y).mono (by simp))
 have hx : (World.grew (w.alloc zTok) y).heap[w.heap.size]? = some zTok := ((gBl (w.alloc zTok) y).block _ (by simp)).trans (heap_alloc_new w _)
 generalize World.grew (w.alloc zTok) y = wg at hb hx ⊢
 obtain ⟨d0, d1, d2, d3, f0, f1, f2, f3, dl⟩ := BoxT.mk' (w := w) hx
 have c2 : wg.cell? ⟨p, 2, none⟩ = some (.int .i64 fin) := cOb (o := 2) ((hb.block _ hlt).trans HH.out) rfl
 have HB := Hi hb
 clear hb hx c0 c1
 go_wp2_with fail
 refine bodyPost_ret (v := (headT fin []).agg) (by simp [results, Tryz.results142, go_sem, headT, *]) rfl ⟨rfl, ?_⟩
 exact below_set4 HB.out (lR _) _ _ _ _
theorem peek_cons (p fin : Nat) (ts : List Tok) (t : Tok) (l : List Tok) (w : World) (hp : PS w p fin ts (t :: l)) :
 Calls Tryz.prog 142 #[.pointer (some ⟨p, 0, none⟩)] w fun e w' => e = .returned t.agg ∧ Below w.heap.size w w' := by
 obtain ⟨A, c, u, hh, hu, hr, -⟩ := hp.is
 obtain ⟨b, o, rfl, hbl, t0, t1, t2, t3⟩ := tok_nth hr hu
 have c0 := cOb (o := 0) hh rfl
 have c1 := cOb (o := 1) hh rfl
 have hlt := lHp hh
 have HH := Hi hh
 have hul : u.length < ts.length := by rw [hu]; simp
 have hz : ((u.length : Int) == ts.length) = false := by simp; omega
 have T0 := Hi t0
 have T1 := Hi t1
 have T2 := Hi t2
 have T3 := Hi t3
 clear hh hp hu hr t0 t1 t2 t3
 go_enter Tryz.func142, Tryz.ntmps142
 go_wp2_with fail
 refine wp_region_grew (by kernel_rfl) (by as_aux_lemma => kernel_rfl) ?_
 repeat (go_big_quiet_step (fail))
 refine wpQuiet_nil ?_
 rintro _ ⟨y, rfl⟩
 have hb : Below w.heap.size w (World.grew (w.alloc zTok) y) := ((Below.refl _ _).alloc (lR _) _).trans ((gBl _ y).mono (by simp))
 have hx : (World.grew (w.alloc zTok) y).heap[w.heap.size]? = some zTok := ((gBl (w.alloc zTok) y).block _ (by simp)).trans (heap_alloc_new w _)
 generalize World.grew (w.alloc zTok) y = wg at hb hx ⊢
 have hk := (hb.block _ hlt).trans HH.out
 have c0' : wg.cell? ⟨p, 0, none⟩ = some (.slice (some ⟨b, o, none⟩) ts.length c) := cOb (o := 0) hk rfl
 have c1' : wg.cell? ⟨p, 1, none⟩ = some (.int .i64 u.length) := cOb (o := 1) hk rfl
 have s0 := (hb.cell (p := ⟨b, o + u.length * 4, none⟩) hbl).trans T0.out
 have s1 := (hb.cell (p := ⟨b, o + u.length * 4 + 1, none⟩) hbl).trans T1.out
 have s2 := (hb.cell (p := ⟨b, o + u.length * 4 + 2, none⟩) hbl).trans T2.out
 have s3 := (hb.cell (p := ⟨b, o + u.length * 4 + 3, none⟩) hbl).trans T3.out
 have hltg := lHp hk
 have hblg : b < wg.heap.size := Nat.lt_of_lt_of_le hbl hb.size
 have HB := Hi hb
 have HX := Hi hx
 have hi : (u.length : Int) < ts.length := by omega
 clear hb hx c0 c1 hk
 go_wp2_with fail
 go_still_tail 10, (by kernel_rfl)
 change wpList _ _ _ _ _ wg.drew
 have hx2 : wg.drew.heap[w.heap.size]? = some zTok := HX.out
 have HB2 : Hid (Below w.heap.size w wg.drew) := Hi HB.out.drew
 generalize wg.drew = w2 at hx2 HB2 ⊢
 obtain ⟨d0, d1, d2, d3, f0, f1, f2, f3, dl⟩ := BoxT.mk' (w := w) hx2
 clear hx2 c0' c1' s0 s1 s2 s3 hltg hblg
 go_wp2_with fail
 refine bodyPost_ret (v := t.agg) (by simp [results, Tryz.results142, go_sem, *]) rfl ⟨rfl, ?_⟩
 exact below_set4 HB2.out (lR _) _ _ _ _
theorem peek_any (p fin : Nat) (ts l : List Tok) (w : World) (hp : PS w p fin ts l) :
 Calls Tryz.prog 142 #[.pointer (some ⟨p, 0, none⟩)] w fun e w' => e = .returned (headT fin l).agg ∧ Below w.heap.size w w' := by
 cases l with
 | nil => exact peek_nil p fin ts w hp
 | cons t r => exact peek_cons p fin ts t r w hp
theorem fail_any (p fin : Nat) (ts l : List Tok) (w : World) (hp : PS w p fin ts l) :
 Calls Tryz.prog 96 #[.pointer (some ⟨p, 0, none⟩)] w fun e w' => e = stopE (failC l) (posAt fin l) ∧ Below w.heap.size w w' := by
 have HP := Hi hp
 obtain ⟨A, c, u, hh, hu, hr, -⟩ := hp.is
 have c0 := cOb (o := 0) hh rfl
 have c1 := cOb (o := 1) hh rfl
 have hlt := lHp hh
 have HH := Hi hh
 have HU := Hi hu
 cases l with
 | nil =>
   have hz : ((u.length : Int) == ts.length) = true := by rw [hu]; simp
   clear hh hu hr hp
   go_enter Tryz.func96, Tryz.ntmps96
   go_wp2_with fail
   refine wp_region_grew (by kernel_rfl) (by as_aux_lemma => kernel_rfl) ?_
   repeat (go_big_quiet_step (fail))
   refine wpQuiet_nil ?_
   rintro _ ⟨y, rfl⟩
   have hb := gBl w y
   generalize World.grew w y = wg at hb ⊢
   have hk := (hb.block _ hlt).trans HH.out
   have c2 : wg.cell? ⟨p, 2, none⟩ = some (.int .i64 fin) := cOb (o := 2) hk rfl
   have hlg := lHp hk
   have HB := Hi hb
   clear hb hk c0 c1
   go_wp2_with fail
   exact ⟨rfl, rfl, HB.out⟩
 | cons t r =>
   have hz : ((u.length : Int) == ts.length) = false := by rw [hu]; simp; omega
   clear hh hu hr hp
   go_enter Tryz.func96, Tryz.ntmps96
   go_wp2_with fail
   refine wp_region_grew (by kernel_rfl) (by as_aux_lemma => kernel_rfl) ?_
   repeat (go_big_quiet_step (fail))
   refine wpQuiet_nil ?_
   rintro _ ⟨y, rfl⟩
   have hb := gBl w y
   have HP2 := Hi (HP.out.below hb)
   have HB := Hi hb
   clear hb c0 c1
   go_wp2_with (go_at_call 142; refine (peek_cons p fin ts t r _ HP2.out).mono ?_; rintro e w2 ⟨rfl, hb2⟩)
   exact ⟨rfl, rfl, HB.out.trans (hb2.mono HB.out.size)⟩
end So
end Go.Proofs.YtbicmjmcdnkjhaaGreatDoor
