/- patch.change: item, size, exists, once. patch.change: size, exists; patch.once. patch.change: with. Whole loads of the two wide structs by one law each (cell by cell the kernel's work doubles with each cell). -/
import Derived.Test.YtfolcjkednmkoaaGreatJIns
import Derived.Test.YtfolcjkednmkoaaGreatShelf
import Derived.Test.YtfolcjkednmkoaaGreatFind
import Derived.Deep.RegionHeld3
import Derived.Test.YtfolcjkednmkoaaGreatGrew
import Derived.Laws.CopyOwn
import Derived.Test.YtfolcjkednmkoaaGreatMem
import Derived.Deep.MidRow
import Derived.Deep.Draws
set_option linter.unusedVariables false
set_option linter.unusedSimpArgs false
set_option maxRecDepth 20000
set_option maxHeartbeats 1000000
namespace Go.Proofs.YtfolcjkednmkoaaGreat
open Go.RowKit
structure Patch where
 kind : Int
 id : Str
 par : Str
 aft : Str
 num : Str
 item : Item
 lang : Int
 fr : Str
 to : Str
abbrev Patch.agg (p : Patch) : Value :=
 .agg #[.int .i64 p.kind, vs p.id, vs p.par, vs p.aft, vs p.num, .int .i64 p.item.kind, vs p.item.id, vs p.item.par, vs p.item.num, vs p.item.no, vs p.item.so, .bool p.item.gone, .int .i64 p.lang, vs p.fr, vs p.to]
abbrev chg (A : Option Addr) (n c : Nat) (p : Patch) (ix : Int) : Value :=
 .agg #[.slice A n c, .int .i64 p.kind, vs p.id, vs p.par, vs p.aft, vs p.num, .int .i64 p.item.kind, vs p.item.id, vs p.item.par, vs p.item.num, vs p.item.no, vs p.item.so, .bool p.item.gone, .int .i64 p.lang, vs p.fr, vs p.to, .int .i64 ix]
def noItem : Item := ⟨0, [], [], [], [], [], false⟩
def itemF (l : List Item) (id : Str) : Item := (l.find? fun x => x.id == id).getD noItem
theorem findI_some {l : List Item} {s : Str} {i : Nat} (h : l.findIdx? (fun x => x.id == s) = some i) : ∃ x, l[i]? = some x ∧ itemF l s = x ∧ (x.id == s) = true := by
 unfold itemF
 induction l generalizing i with
 | nil => simp at h
 | cons a r ih =>
   rw [List.findIdx?_cons] at h
   rw [List.find?_cons]
   cases ha : (a.id == s) with
   | true =>
     rw [ha] at h
     simp at h
     subst h
     exact ⟨a, rfl, rfl, ha⟩
   | false =>
     rw [ha] at h
     cases hr : r.findIdx? (fun x => x.id == s) with
     | none => rw [hr] at h; simp at h
     | some j =>
       rw [hr] at h
       simp at h
       subst h
       obtain ⟨x, h1, h2, h3⟩ := ih hr
       exact ⟨x, by simpa using h1, h2, h3⟩
theorem findI_none {l : List Item} {s : Str} (h : l.findIdx? (fun x => x.id == s) = none) : itemF l s = noItem := by
 unfold itemF
 have : l.find? (fun x => x.id == s) = none := by
  rw [List.find?_eq_none]
  rw [List.findIdx?_eq_none_iff] at h
  intro x hx
  simpa using h x hx
 rw [this]; rfl
theorem item_any (l : List Item) (A : Option Addr) (c : Nat) (p : Patch) (ix : Int) (id : Str) (w : World) (hr : RdI w A l) (hl : l.length ≤ 1000000) :
 Calls Tryz.prog 51 #[chg A l.length c p ix, vs id] w fun e w' => e = .returned (itemF l id).agg ∧ Below w.heap.size w w' := by
 have HF := fun W h => Lib.hid (find_any l A c id W h (le_maxLen (by omega)))
 have HR := Lib.hid hr; clear hr
 cases hx : l.findIdx? (fun x => x.id == id) with
 | none =>
   have hn := findI_none hx
   have HX := Lib.hid hx; clear hx
   go_enter Tryz.func51, Tryz.ntmps51
   go_wp2_with fail
   refine (HF _ (HR.out.below (((Below.refl _ _).alloc (Nat.le_refl _) _).alloc (by simp) _))).out.mono ?_
   rintro e w1 ⟨rfl, hb1⟩
   unfold findI
   rw [HX.out]
   obtain ⟨hc, hf⟩ := bcell hb1
   go_wp2_with fail
   refine bodyPost_ret (v := (itemF l id).agg) (by rw [hn]; simp [results, Tryz.results51, go_sem, hc, noItem]) rfl ⟨rfl, ?_⟩
   repeat' refine Below.setCell ?_ (by simp) _
   exact (((Below.refl _ _).alloc (Nat.le_refl _) _).alloc (by simp) _).trans (hb1.mono (by simp; omega))
 | some i =>
   obtain ⟨x, hxi, hit, _⟩ := findI_some hx
   have HX := Lib.hid hx; clear hx
   have HXI := Lib.hid hxi
   have hil : i < l.length := (List.getElem?_eq_some_iff.1 hxi).1
   have hb0 : Below w.heap.size w ((w.alloc (.cells #[.slice A l.length c, .int .i64 p.kind, vs p.id, vs p.par, vs p.aft, vs p.num, .int .i64 p.item.kind, vs p.item.id, vs p.item.par, vs p.item.num, vs p.item.no, vs p.item.so, .bool p.item.gone, .int .i64 p.lang, vs p.fr, vs p.to, .int .i64 ix] 70)).alloc
    (.cells #[.int .i64 0, .string ⟨#[]⟩, .string ⟨#[]⟩, .string ⟨#[]⟩, .string ⟨#[]⟩, .string ⟨#[]⟩, .bool false] 27)) := (((Below.refl _ _).alloc (Nat.le_refl _) _).alloc (by simp) _)
   have HB0 := Lib.hid hb0; clear hb0
   rw [hit]
   clear hxi hit
   go_enter Tryz.func51, Tryz.ntmps51
   go_wp2_with fail
   refine (HF _ (HR.out.below HB0.out)).out.mono ?_
   rintro e w1 ⟨rfl, hb1⟩
   unfold findI
   rw [HX.out]
   simp only [idx, Option.elim_some]
   obtain ⟨b, o, rfl, hbs, c0, c1, c2, c3, c4, c5, c6⟩ := ((HR.out.below HB0.out).below hb1).item HXI.out
   obtain ⟨hc, hf⟩ := bcell hb1
   go_wp2_with fail
   refine bodyPost_ret (v := x.agg) (by simp [results, Tryz.results51, go_sem, hc]) rfl ⟨rfl, ?_⟩
   repeat' refine Below.setCell ?_ (by simp) _
   exact (((Below.refl _ _).alloc (Nat.le_refl _) _).alloc (by simp) _).trans (hb1.mono (by simp; omega))
end Go.Proofs.YtfolcjkednmkoaaGreat
set_option maxRecDepth 20000
set_option maxHeartbeats 1000000
namespace Go.Proofs.YtfolcjkednmkoaaGreat
open Go.RowKit
theorem walkF_le (l : List Item) : ∀ seen opn, (walkF l seen opn).1.length ≤ l.length := by
 induction l with
 | nil => intro seen opn; simp [walkF]
 | cons x r ih =>
   intro seen opn
   rw [walkF]
   split
   · simp
   · split
     · simp
     · simpa using ih _ _
theorem walkL_le (l : List Item) : (walkL l).length ≤ l.length := walkF_le l _ _
theorem size_any (l : List Item) (A : Option Addr) (c : Nat) (p : Patch) (ix : Int) (id : Str) (w : World) (hr : RdI w A l) (hl : l.length ≤ 1000000) (hsh : ∀ x ∈ l, x.Short) :
 Calls Tryz.prog 81 #[chg A l.length c p ix, vs id] w fun e w' => e = .returned (.int .i64 (1 + ((belowL l id).length : Int))) ∧ Below w.heap.size w w' := by
 have HSH := Lib.hid hsh; clear hsh
 have HR := Lib.hid hr; clear hr
 have hbl : (belowL l id).length ≤ 1000000 := by
  unfold belowL
  split
  · refine Nat.le_trans (belowF_len _ _) ?_
    have : (walkL l).length ≤ l.length := walkL_le l
    omega
  · simp
 go_enter Tryz.func81, Tryz.ntmps81
 go_wp2_with fail
 refine (below_any l A c id _ (HR.out.below ((Below.refl _ _).alloc (Nat.le_refl _) _)) hl HSH.out).mono ?_
 rintro e w1 ⟨O, cc, rfl, _, _, hb1⟩
 have HB := Lib.hid hb1; clear hb1
 go_wp2_with fail
 go_ret
 exact ⟨rfl, ((Below.refl _ _).alloc (Nat.le_refl _) _).trans (HB.out.mono (by simp))⟩
def onceAt (t f : Str) : Int := Lib.index t f
def onceIs (t f : Str) : Bool := decide (0 ≤ onceAt t f) && (Lib.lastIndex t f == onceAt t f)
theorem once_any (t f : Str) (m : Int) (w : World) (ht : t.length ≤ 1000000) (hg : w.cell? ⟨0, 0, none⟩ = some (.int .i64 m)) :
 Calls Tryz.prog 78 #[vs t, vs f] w fun e w' => e = .returned (.tuple #[.int .i64 (onceAt t f), .bool (onceIs t f)]) ∧ w' = w := by
 have h1 := Tryz.strings_Index ⟨t.toArray⟩ ⟨f.toArray⟩ m w (by simp [ByteArray.size]; omega) hg
 have h2 := Tryz.strings_LastIndex ⟨t.toArray⟩ ⟨f.toArray⟩ (by simp [ByteArray.size]; omega) w
 simp only [] at h1 h2
 have H1 := Lib.hid h1; clear h1
 have H2 := Lib.hid h2; clear h2
 cases hi : decide (0 ≤ Lib.index t f)
 all_goals
  go_enter Tryz.func78, Tryz.ntmps78
  go_wp2_with (first
   | (go_at_call 102; refine H1.out.mono ?_; rintro e w1 ⟨rfl, rfl⟩)
   | (go_at_call 103; refine H2.out.mono ?_; rintro e w1 ⟨rfl, rfl⟩))
  go_ret2
  exact ⟨by unfold onceAt onceIs onceAt; rw [hi]; first | rfl | simp, rfl⟩
/- the world's parts that exists reads -/
def existsF (l : List Item) (par aft : Str) : Bool :=
 (par == [] || (itemF l par).kind == 1) && (aft == [] || ((itemF l aft).kind != 0 && (itemF l aft).par == par))
@[go_sem] theorem run_field_item_kind (a b c d e f g : Value) (W : World) : (Instr.field 27 (.agg #[a, b, c, d, e, f, g]) 0).run Tryz.prog W = .ok a W := by kernel_rfl
@[go_sem] theorem run_field_item_par (a b c d e f g : Value) (W : World) : (Instr.field 27 (.agg #[a, b, c, d, e, f, g]) 2).run Tryz.prog W = .ok c W := by kernel_rfl
theorem item_lit (l : List Item) (A : Option Addr) (c : Nat) (p : Patch) (ix : Int) (id : Str) (w : World) (hr : RdI w A l) (hl : l.length ≤ 1000000) :
 Calls Tryz.prog 51 #[chg A l.length c p ix, vs id] w fun e w' => e = .returned (.agg #[.int .i64 (itemF l id).kind, vs (itemF l id).id, vs (itemF l id).par, vs (itemF l id).num, vs (itemF l id).no, vs (itemF l id).so, .bool (itemF l id).gone]) ∧ Below w.heap.size w w' :=
 item_any l A c p ix id w hr hl
end Go.Proofs.YtfolcjkednmkoaaGreat
set_option maxRecDepth 20000
set_option maxHeartbeats 1000000
namespace Go.Proofs.YtfolcjkednmkoaaGreat
open Go.RowKit
/- a code whose items read so -/
def ResC (base : Nat) (w : World) (v : Value) (l : List Item) : Prop := ∃ A c, v = .agg #[.slice A l.length c] ∧ RdI w A l ∧ l.length ≤ c ∧ (∀ b o, A = some ⟨b, o, none⟩ → base ≤ b)
theorem wpList_store_row {P : Program} {ops : Array Oper} {rest : List Oper} {op : Oper} {a : Act} {w : World} {Q : Exit → Act → World → Prop} (hgd : op.guard = none) (ty : TypeId) (x y : Operand) (ho : op.op = .store ty x y)
 (g o : Nat) (cs cur : List Value) (t : TypeId) (hx : a.eval x = .pointer (some ⟨g, o, none⟩)) (hy : a.eval y = .agg cs.toArray)
 (hg : w.heap[g]? = some (.cells cur.toArray t (0, 0))) (hfit : o + cs.length ≤ cur.length) (hi : (P.info? ty).map (·.size) = some cs.length) (h1 : ∀ v ∈ cs, v.oneCell' = true)
 (h : wpList P ops Q rest (a.put op.dst undef) (w.setRow g (cur.take o ++ cs ++ cur.drop (o + cs.length)).toArray)) : wpList P ops Q (op :: rest) a w := by
 refine wpList_plain hgd fun _ hK => ?_
 have hst := run_storeCells_at P g o t cs 0 cur.toArray w hg (by simpa using hfit) h1
 have hst' : (storeCells ⟨g, o, none⟩ cs).run P w = .ok () (w.setRow g (cur.take o ++ cs ++ cur.drop (o + cs.length)).toArray) := by simpa using hst
 unfold Oper.wp execOp
 cases hq : P.info? ty with
 | none => simp [hq] at hi
 | some i =>
   have hs : i.size = cs.length := by simpa [hq] using hi
   simp only [ho, hx, hy, Instr.storeAt, Instr.sureAddr, Sem.run_bind, Sem.run_pure, Result.andThen_ok]
   have hsv : (storeVar ty ⟨g, o, none⟩ (.agg cs.toArray)).run P w = .ok () (w.setRow g (cur.take o ++ cs ++ cur.drop (o + cs.length)).toArray) := by
    simp [storeVar, sizeOf, typeInfo, hq, Value.cells, hs, hst']
   simp only [hsv]
   exact hK _ _ h
theorem brow {W w1 : World} {g : Nat} (hb : Below W.heap.size W w1) (hg : W.heap.size ≤ g) : (∀ X b o, b < W.heap.size → (w1.setRow g X).cell? ⟨b, o, none⟩ = W.cell? ⟨b, o, none⟩) ∧ (∀ X b o, b < W.heap.size → (w1.setRow g X).frozen? ⟨b, o, none⟩ = W.frozen? ⟨b, o, none⟩) :=
 ⟨fun X b o h => (below_setRow hb hg X).cell (p := ⟨b, o, none⟩) h, fun X b o h => (below_setRow hb hg X).frozen (p := ⟨b, o, none⟩) h⟩
theorem RdI.of_row {w : World} {g : Nat} {cur rest : List Value} {t : TypeId} {l : List Item} (hh : w.heap[g]? = some (.cells cur.toArray t (0, 0))) (he : cur = flat l ++ rest) : RdI w (some ⟨g, 0, none⟩) l := by
 subst he
 refine RdI.of_flat (lt_of_heap hh) (fun i v hv => ?_)
 rw [Nat.zero_add, cell_of_row _ _ _ _ _ _ hh, List.getElem?_toArray, List.getElem?_append_left (List.getElem?_eq_some_iff.1 hv).1]
 exact hv
theorem cells_one (y : Item) : ∀ v ∈ y.cells, v.oneCell' = true := by
 intro u hu
 simp [Item.cells] at hu
 rcases hu with rfl | rfl | rfl | rfl | rfl | rfl | rfl <;> rfl
theorem flat_set (l : List Item) (rest : List Value) (k : Nat) (y : Item) (hk : k < l.length) :
 (flat l ++ rest).take (k * 7) ++ y.cells ++ (flat l ++ rest).drop (k * 7 + y.cells.length) = flat (l.set k y) ++ rest := by
 have h3 : (flat l).length = l.length * 7 := flat_length l
 have hy : y.cells.length = 7 := rfl
 rw [List.take_append, h3, show k * 7 - l.length * 7 = 0 by omega, List.take_zero, List.append_nil, flat_take]
 rw [hy, show k * 7 + 7 = (k + 1) * 7 by omega, List.drop_append, flat_drop, h3, show (k + 1) * 7 - l.length * 7 = 0 by omega, List.drop_zero]
 rw [List.set_eq_take_append_cons_drop, if_pos hk, flat_append, flat_cons]
 simp
theorem with_any (l : List Item) (A : Option Addr) (c : Nat) (p : Patch) (k : Nat) (y : Item) (w : World) (hr : RdI w A l) (hl : l.length ≤ 1000000) (hk : k < l.length) :
 Calls Tryz.prog 79 #[chg A l.length c p k, y.agg] w fun e w' => ∃ v, e = .returned v ∧ ResC w.heap.size w' v (l.set k y) ∧ Below w.heap.size w w' := by
 have HC := fun W h => Lib.hid (clone_any l A c W h hl)
 have HR := Lib.hid hr; clear hr
 have hlne : l ≠ [] := by rintro rfl; simp at hk
 have HL := Lib.hid hlne; clear hlne
 go_enter Tryz.func79, Tryz.ntmps79
 go_wp2_with fail
 refine (HC _ (HR.out.below ((((Below.refl _ _).alloc (Nat.le_refl _) _).alloc (by simp) _).alloc (by simp; omega) _))).out.mono ?_
 rintro e w1 ⟨v, rfl, hown, hb1⟩
 obtain ⟨g, cap, rest, rfl, hg, hglt, hh, hlc, hcm, hs⟩ := hown.row HL.out
 obtain ⟨hc, hf⟩ := bcell hb1
 have hfit : k * 7 + 7 ≤ (flat l ++ rest).length := by rw [hs]; omega
 have hki : (0 : Int) ≤ k := by omega
 have hki2 : (k : Int) < l.length := by omega
 have HH := Lib.hid hh
 have HG := Lib.hid hg
 have HB1 := Lib.hid hb1
 obtain ⟨hc2, hf2⟩ := brow hb1 hg
 have HC2 := Lib.hid hc2
 have HF2 := Lib.hid hf2
 go_wp2_with (refine wpList_store_row rfl 27 (.tmp 14) (.tmp 13) rfl g (k * 7) y.cells (flat l ++ rest) 27 (by first | rfl | (simp [Act.eval, Act.put]; done)) (by first | rfl | (simp [Act.eval, Act.put]; done)) HH.out hfit size7 (cells_one y) ?_)
 refine bodyPost_ret (v := .agg #[.slice (some ⟨g, 0, none⟩) l.length cap]) (by simp [results, Tryz.results79, go_sem, HC2.out, HF2.out]) rfl ⟨_, rfl, ⟨some ⟨g, 0, none⟩, cap, by simp, ?_, by simpa using hlc, fun b o hA => by cases hA; have := HG.out; simp at this; omega⟩, ?_⟩
 · refine RdI.of_row (g := g) (cur := List.take (k * 7) (flat l ++ rest) ++ (y.cells ++ List.drop (k * 7 + 7) (flat l ++ rest))) (rest := rest) (t := 27) ?_ (by rw [← List.append_assoc]; exact flat_set l rest k y hk)
   rw [Below.heap_setCell _ _ _ _ (by have := HG.out; simp at this; simp; omega)]
   exact setRow_heap _ _ _ _ _ _ HH.out
 · refine Below.setCell ?_ (by simp; omega) _
   refine (below_setRow (((((Below.refl _ _).alloc (Nat.le_refl _) _).alloc (by simp) _).alloc (by simp; omega) _).trans (HB1.out.mono (by simp; omega))) ?_ _)
   have := HG.out
   simp at this
   omega
end Go.Proofs.YtfolcjkednmkoaaGreat
namespace Go
noncomputable def World.blk (W : World) (b : Nat) : Option Obj := W.heap[b]?
end Go
namespace Go.Proofs.YtfolcjkednmkoaaGreat
open Go.RowKit
/- the two loads under names of their own, ahead of the walk's own opening -/
def loadChg (a : Addr) : Sem Value := loadVar 70 a
def loadPat (a : Addr) : Sem Value := loadVar 29 a
@[go_sem ↓ high] theorem loadVar_chg_fold (a : Addr) : loadVar 70 a = loadChg a := rfl
@[go_sem ↓ high] theorem loadVar_pat_fold (a : Addr) : loadVar 29 a = loadPat a := rfl
noncomputable def rowLoad (W : World) (t : TypeId) (b o n : Nat) (x : Option Obj) : Result Value :=
 match x with
 | some (.cells C _ _) => if o + n ≤ C.size then .ok (.agg (C.extract o (o + n))) W else (loadVar t ⟨b, o, none⟩).run Tryz.prog W
 | _ => (loadVar t ⟨b, o, none⟩).run Tryz.prog W
theorem loadVar_row (W : World) (t : TypeId) (b o n : Nat) {d : TypeDesc} (hu : Tryz.prog.underlying t = some d) (hd : d.isRow = true) (hi : (Tryz.prog.info? t).map (·.size) = some n) :
 (loadVar t ⟨b, o, none⟩).run Tryz.prog W = rowLoad W t b o n (W.blk b) := by
 unfold rowLoad World.blk
 split
 · rename_i C t' fr h
   split
   · rename_i hn
     have := run_loadVar_mid W b o t (C.extract o (o + n)).toList d (World.rangeAt_of_block h o n) hu hd (by rw [hi]; simp; omega)
     rwa [Array.toArray_toList] at this
   · rfl
 · rfl
@[go_sem] theorem loadVar_chg (W : World) (b o : Nat) : (loadChg ⟨b, o, none⟩).run Tryz.prog W = rowLoad W 70 b o 17 (W.blk b) := loadVar_row W 70 b o 17 Tryz.underlying70 rfl (by kernel_rfl)
@[go_sem] theorem loadVar_pat (W : World) (b o : Nat) : (loadPat ⟨b, o, none⟩).run Tryz.prog W = rowLoad W 29 b o 15 (W.blk b) := loadVar_row W 29 b o 15 Tryz.underlying29 rfl (by kernel_rfl)
@[go_sem] theorem rowLoad_cells (W : World) (t t' : TypeId) (b n : Nat) (C : Array Value) (fr : Nat × Nat) (h : C.size = n) : rowLoad W t b 0 n (some (.cells C t' fr)) = .ok (.agg C) W := by
 subst h
 unfold rowLoad
 simp
@[go_sem] theorem rowLoad_part (W : World) (t t' : TypeId) (b o n : Nat) (C : Array Value) (fr : Nat × Nat) (h : o + n ≤ C.size) : rowLoad W t b o n (some (.cells C t' fr)) = .ok (.agg (C.extract o (o + n))) W := by
 unfold rowLoad
 simp [h]
@[go_sem] theorem blk_alloc_at {w : World} {o : Obj} {k : Nat} (h : k = w.heap.size) : (w.alloc o).blk k = some o := heap_new_at h
@[go_sem] theorem blk_alloc_lt {w : World} {o : Obj} {k : Nat} (h : k < w.heap.size) : (w.alloc o).blk k = w.blk k := Below.heap_alloc w o k h
@[go_sem] theorem blk_setCell {w : World} {a : Addr} {u : Value} {k : Nat} (h : k ≠ a.block) : (w.setCell a u).blk k = w.blk k := Below.heap_setCell w a u k h
@[go_sem] theorem blk_setCell1 {w : World} {k o : Nat} {n} {u : Value} : (w.setCell ⟨k + 1, o, n⟩ u).blk k = w.blk k := blk_setCell (by simp)
@[go_sem] theorem blk_setCell2 {w : World} {k o : Nat} {n} {u : Value} : (w.setCell ⟨k + 1 + 1, o, n⟩ u).blk k = w.blk k := blk_setCell (by simp; omega)
@[go_sem] theorem blk_setCell3 {w : World} {k o : Nat} {n} {u : Value} : (w.setCell ⟨k + 1 + 1 + 1, o, n⟩ u).blk k = w.blk k := blk_setCell (by simp; omega)
@[go_sem] theorem blk_grew {w x : World} {k : Nat} (h : k < w.heap.size) : (World.grew w x).blk k = w.blk k := (grew_below w x).block k h
@[go_sem] theorem blk_drew {w : World} {k : Nat} : w.drew.blk k = w.blk k := rfl
@[go_sem] theorem blk_drewN {w : World} {n k : Nat} : (w.drewN n).blk k = w.blk k := rfl
theorem bblk {W w1 : World} (hb : Below W.heap.size W w1) : ∀ k, k < W.heap.size → w1.blk k = W.blk k := fun k h => hb.block k h
end Go.Proofs.YtfolcjkednmkoaaGreat
