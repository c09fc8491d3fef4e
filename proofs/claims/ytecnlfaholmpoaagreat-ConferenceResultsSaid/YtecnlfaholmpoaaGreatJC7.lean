/- Whole loads of the two wide structs by one law each (cell by cell the kernel's work doubles with each cell). patch.change: exists. patch.change: put. -/
import Derived.Test.YtecnlfaholmpoaaGreatJC1
import Derived.Test.YtecnlfaholmpoaaGreatJC6
import Derived.Deep.MidRow
import Derived.Deep.Draws
import Derived.Deep.RegionHeld3
set_option linter.unusedVariables false
set_option linter.unusedSimpArgs false
namespace Go
noncomputable def World.blk (W : World) (b : Nat) : Option Obj := W.heap[b]?
end Go
namespace Go.Proofs.YtecnlfaholmpoaaGreat
open Go.RowKit
/- the two loads under names of their own, ahead of the walk's own opening -/
def loadChg (a : Addr) : Sem Value := loadVar 94 a
def loadPat (a : Addr) : Sem Value := loadVar 49 a
@[go_sem ↓ high] theorem loadVar_chg_fold (a : Addr) : loadVar 94 a = loadChg a := rfl
@[go_sem ↓ high] theorem loadVar_pat_fold (a : Addr) : loadVar 49 a = loadPat a := rfl
noncomputable def rowLoad (W : World) (t : TypeId) (b o n : Nat) (x : Option Obj) : Result Value :=
 match x with
 | some (.cells C _ _) => if o + n ≤ C.size then .ok (.agg (C.extract o (o + n))) W else (loadVar t ⟨b, o, none⟩).run Tryz.prog W
 | _ => (loadVar t ⟨b, o, none⟩).run Tryz.prog W
theorem loadVar_row (W : World) (t : TypeId) (b o n : Nat) {d : TypeDesc} (hu : Tryz.prog.underlying t = some d) (hd : d.isRow = true) (hi : (Tryz.prog.info? t).map (·.size) = some n) :
 (loadVar t ⟨b, o, none⟩).run Tryz.prog W = rowLoad W t b o n (W.blk b) := by
 unfold rowLoad World.blk
 split
 · rename_i C t' fr h
   split
   · rename_i hn
     have := run_loadVar_mid W b o t (C.extract o (o + n)).toList d (World.rangeAt_of_block h o n) hu hd (by rw [hi]; simp; omega)
     rwa [Array.toArray_toList] at this
   · rfl
 · rfl
@[go_sem] theorem loadVar_chg (W : World) (b o : Nat) : (loadChg ⟨b, o, none⟩).run Tryz.prog W = rowLoad W 94 b o 17 (W.blk b) := loadVar_row W 94 b o 17 Tryz.underlying94 rfl (by kernel_rfl)
@[go_sem] theorem loadVar_pat (W : World) (b o : Nat) : (loadPat ⟨b, o, none⟩).run Tryz.prog W = rowLoad W 49 b o 15 (W.blk b) := loadVar_row W 49 b o 15 Tryz.underlying49 rfl (by kernel_rfl)
@[go_sem] theorem rowLoad_cells (W : World) (t t' : TypeId) (b n : Nat) (C : Array Value) (fr : Nat × Nat) (h : C.size = n) : rowLoad W t b 0 n (some (.cells C t' fr)) = .ok (.agg C) W := by
 subst h
 unfold rowLoad
 simp
@[go_sem] theorem rowLoad_part (W : World) (t t' : TypeId) (b o n : Nat) (C : Array Value) (fr : Nat × Nat) (h : o + n ≤ C.size) : rowLoad W t b o n (some (.cells C t' fr)) = .ok (.agg (C.extract o (o + n))) W := by
 unfold rowLoad
 simp [h]
@[go_sem] theorem blk_alloc_at {w : World} {o : Obj} {k : Nat} (h : k = w.heap.size) : (w.alloc o).blk k = some o := heap_new_at h
@[go_sem] theorem blk_alloc_lt {w : World} {o : Obj} {k : Nat} (h : k < w.heap.size) : (w.alloc o).blk k = w.blk k := Below.heap_alloc w o k h
@[go_sem] theorem blk_setCell {w : World} {a : Addr} {u : Value} {k : Nat} (h : k ≠ a.block) : (w.setCell a u).blk k = w.blk k := Below.heap_setCell w a u k h
@[go_sem] theorem blk_setCell1 {w : World} {k o : Nat} {n} {u : Value} : (w.setCell ⟨k + 1, o, n⟩ u).blk k = w.blk k := blk_setCell (by simp)
@[go_sem] theorem blk_setCell2 {w : World} {k o : Nat} {n} {u : Value} : (w.setCell ⟨k + 1 + 1, o, n⟩ u).blk k = w.blk k := blk_setCell (by simp; omega)
@[go_sem] theorem blk_setCell3 {w : World} {k o : Nat} {n} {u : Value} : (w.setCell ⟨k + 1 + 1 + 1, o, n⟩ u).blk k = w.blk k := blk_setCell (by simp; omega)
@[go_sem] theorem blk_grew {w x : World} {k : Nat} (h : k < w.heap.size) : (World.grew w x).blk k = w.blk k := (grew_below w x).block k h
@[go_sem] theorem blk_drew {w : World} {k : Nat} : w.drew.blk k = w.blk k := rfl
@[go_sem] theorem blk_drewN {w : World} {n k : Nat} : (w.drewN n).blk k = w.blk k := rfl
theorem bblk {W w1 : World} (hb : Below W.heap.size W w1) : ∀ k, k < W.heap.size → w1.blk k = W.blk k := fun k h => hb.block k h
end Go.Proofs.YtecnlfaholmpoaaGreat
set_option maxRecDepth 20000
set_option maxHeartbeats 2000000
namespace Go.Proofs.YtecnlfaholmpoaaGreat
open Go.RowKit
def ExLaw (l : List Item) (A : Option Addr) (c : Nat) (p : Patch) (ix : Int) (w : World) : Prop :=
 Calls Tryz.prog 103 #[chg A l.length c p ix] w fun e w' => e = .returned (.bool (existsF l p.par p.aft)) ∧ Below w.heap.size w w'

theorem ex_A (l : List Item) (A : Option Addr) (c : Nat) (p : Patch) (ix : Int) (w : World) (hr : RdI w A l) (hl : l.length ≤ 1000000) (h1 : p.par.isEmpty = true) (h2 : p.aft.isEmpty = true) : ExLaw l A c p ix w := by
 unfold ExLaw
 have HI := fun id W h => Lib.hid (item_lit l A c p ix id W h hl)
 have HR := Lib.hid hr; clear hr
 have hp : (p.par == []) = p.par.isEmpty := by cases p.par <;> rfl
 have hq : (p.aft == []) = p.aft.isEmpty := by cases p.aft <;> rfl
 have Hp := Lib.hid hp; clear hp
 have Hq := Lib.hid hq; clear hq
 have hr2 : ∀ t t' x, RdI (World.grew ((w.alloc (.cells #[.slice A l.length c, .int .i64 p.kind, vs p.id, vs p.par, vs p.aft, vs p.num, .int .i64 p.item.kind, vs p.item.id, vs p.item.par, vs p.item.num, vs p.item.no, vs p.item.so, .bool p.item.gone, .int .i64 p.lang, vs p.fr, vs p.to, .int .i64 ix] t)).alloc
  (.cells #[.int .i64 p.kind, vs p.id, vs p.par, vs p.aft, vs p.num, .int .i64 p.item.kind, vs p.item.id, vs p.item.par, vs p.item.num, vs p.item.no, vs p.item.so, .bool p.item.gone, .int .i64 p.lang, vs p.fr, vs p.to] t')) x) A l :=
  fun t t' x => (HR.out.below (((Below.refl _ _).alloc (Nat.le_refl _) _).alloc (by simp) _)).below (grew_below _ _)
 have HR2 := Lib.hid hr2; clear hr2
 go_enter Tryz.func103, Tryz.ntmps103
 go_wp2_with fail
 refine wp_region_grew (by kernel_rfl) (by as_aux_lemma => kernel_rfl) ?_
 repeat (go_big_quiet_step ((exact Calls_grew (HI _ _ (HR2.out _ _ _)).out)))
 refine wpQuiet_nil ?_
 rintro _ ⟨W, rfl⟩
 go_wp2
 go_ret
 exact ⟨ret_bool (by unfold existsF; simp [Hp.out, Hq.out, *]), (((Below.refl _ _).alloc (Nat.le_refl _) _).alloc (by simp) _).trans ((grew_below _ _).mono (by simp; omega))⟩

theorem ex_B (l : List Item) (A : Option Addr) (c : Nat) (p : Patch) (ix : Int) (w : World) (hr : RdI w A l) (hl : l.length ≤ 1000000) (h1 : p.par.isEmpty = true) (h2 : p.aft.isEmpty = false) (k2 : ((itemF l p.aft).kind != 0) = true) : ExLaw l A c p ix w := by
 unfold ExLaw
 have HI := fun id W h => Lib.hid (item_lit l A c p ix id W h hl)
 have HR := Lib.hid hr; clear hr
 have hp : (p.par == []) = p.par.isEmpty := by cases p.par <;> rfl
 have hq : (p.aft == []) = p.aft.isEmpty := by cases p.aft <;> rfl
 have Hp := Lib.hid hp; clear hp
 have Hq := Lib.hid hq; clear hq
 have hr2 : ∀ t t' x, RdI (World.grew ((w.alloc (.cells #[.slice A l.length c, .int .i64 p.kind, vs p.id, vs p.par, vs p.aft, vs p.num, .int .i64 p.item.kind, vs p.item.id, vs p.item.par, vs p.item.num, vs p.item.no, vs p.item.so, .bool p.item.gone, .int .i64 p.lang, vs p.fr, vs p.to, .int .i64 ix] t)).alloc
  (.cells #[.int .i64 p.kind, vs p.id, vs p.par, vs p.aft, vs p.num, .int .i64 p.item.kind, vs p.item.id, vs p.item.par, vs p.item.num, vs p.item.no, vs p.item.so, .bool p.item.gone, .int .i64 p.lang, vs p.fr, vs p.to] t')) x) A l :=
  fun t t' x => (HR.out.below (((Below.refl _ _).alloc (Nat.le_refl _) _).alloc (by simp) _)).below (grew_below _ _)
 have HR2 := Lib.hid hr2; clear hr2
 go_enter Tryz.func103, Tryz.ntmps103
 go_wp2_with fail
 refine wp_region_grew (by kernel_rfl) (by as_aux_lemma => kernel_rfl) ?_
 repeat (go_big_quiet_step ((exact Calls_grew (HI _ _ (HR2.out _ _ _)).out)))
 refine wpQuiet_nil ?_
 rintro _ ⟨W, rfl⟩
 go_wp2
 go_ret
 exact ⟨ret_bool (by unfold existsF; simp [Hp.out, Hq.out, *]), (((Below.refl _ _).alloc (Nat.le_refl _) _).alloc (by simp) _).trans ((grew_below _ _).mono (by simp; omega))⟩

theorem ex_B2 (l : List Item) (A : Option Addr) (c : Nat) (p : Patch) (ix : Int) (w : World) (hr : RdI w A l) (hl : l.length ≤ 1000000) (h1 : p.par.isEmpty = true) (h2 : p.aft.isEmpty = false) (k2 : ((itemF l p.aft).kind != 0) = false) : ExLaw l A c p ix w := by
 unfold ExLaw
 have HI := fun id W h => Lib.hid (item_lit l A c p ix id W h hl)
 have HR := Lib.hid hr; clear hr
 have hp : (p.par == []) = p.par.isEmpty := by cases p.par <;> rfl
 have hq : (p.aft == []) = p.aft.isEmpty := by cases p.aft <;> rfl
 have Hp := Lib.hid hp; clear hp
 have Hq := Lib.hid hq; clear hq
 have hr2 : ∀ t t' x, RdI (World.grew ((w.alloc (.cells #[.slice A l.length c, .int .i64 p.kind, vs p.id, vs p.par, vs p.aft, vs p.num, .int .i64 p.item.kind, vs p.item.id, vs p.item.par, vs p.item.num, vs p.item.no, vs p.item.so, .bool p.item.gone, .int .i64 p.lang, vs p.fr, vs p.to, .int .i64 ix] t)).alloc
  (.cells #[.int .i64 p.kind, vs p.id, vs p.par, vs p.aft, vs p.num, .int .i64 p.item.kind, vs p.item.id, vs p.item.par, vs p.item.num, vs p.item.no, vs p.item.so, .bool p.item.gone, .int .i64 p.lang, vs p.fr, vs p.to] t')) x) A l :=
  fun t t' x => (HR.out.below (((Below.refl _ _).alloc (Nat.le_refl _) _).alloc (by simp) _)).below (grew_below _ _)
 have HR2 := Lib.hid hr2; clear hr2
 go_enter Tryz.func103, Tryz.ntmps103
 go_wp2_with fail
 refine wp_region_grew (by kernel_rfl) (by as_aux_lemma => kernel_rfl) ?_
 repeat (go_big_quiet_step ((exact Calls_grew (HI _ _ (HR2.out _ _ _)).out)))
 refine wpQuiet_nil ?_
 rintro _ ⟨W, rfl⟩
 go_wp2
 go_ret
 exact ⟨ret_bool (by unfold existsF; simp [Hp.out, Hq.out, *]), (((Below.refl _ _).alloc (Nat.le_refl _) _).alloc (by simp) _).trans ((grew_below _ _).mono (by simp; omega))⟩

theorem ex_C (l : List Item) (A : Option Addr) (c : Nat) (p : Patch) (ix : Int) (w : World) (hr : RdI w A l) (hl : l.length ≤ 1000000) (h1 : p.par.isEmpty = false) (k1 : ((itemF l p.par).kind == 1) = false) : ExLaw l A c p ix w := by
 unfold ExLaw
 have HI := fun id W h => Lib.hid (item_lit l A c p ix id W h hl)
 have HR := Lib.hid hr; clear hr
 have hp : (p.par == []) = p.par.isEmpty := by cases p.par <;> rfl
 have hq : (p.aft == []) = p.aft.isEmpty := by cases p.aft <;> rfl
 have Hp := Lib.hid hp; clear hp
 have Hq := Lib.hid hq; clear hq
 have hr2 : ∀ t t' x, RdI (World.grew ((w.alloc (.cells #[.slice A l.length c, .int .i64 p.kind, vs p.id, vs p.par, vs p.aft, vs p.num, .int .i64 p.item.kind, vs p.item.id, vs p.item.par, vs p.item.num, vs p.item.no, vs p.item.so, .bool p.item.gone, .int .i64 p.lang, vs p.fr, vs p.to, .int .i64 ix] t)).alloc
  (.cells #[.int .i64 p.kind, vs p.id, vs p.par, vs p.aft, vs p.num, .int .i64 p.item.kind, vs p.item.id, vs p.item.par, vs p.item.num, vs p.item.no, vs p.item.so, .bool p.item.gone, .int .i64 p.lang, vs p.fr, vs p.to] t')) x) A l :=
  fun t t' x => (HR.out.below (((Below.refl _ _).alloc (Nat.le_refl _) _).alloc (by simp) _)).below (grew_below _ _)
 have HR2 := Lib.hid hr2; clear hr2
 go_enter Tryz.func103, Tryz.ntmps103
 go_wp2_with fail
 refine wp_region_grew (by kernel_rfl) (by as_aux_lemma => kernel_rfl) ?_
 repeat (go_big_quiet_step ((exact Calls_grew (HI _ _ (HR2.out _ _ _)).out)))
 refine wpQuiet_nil ?_
 rintro _ ⟨W, rfl⟩
 go_wp2
 go_ret
 exact ⟨ret_bool (by unfold existsF; simp [Hp.out, Hq.out, *]), (((Below.refl _ _).alloc (Nat.le_refl _) _).alloc (by simp) _).trans ((grew_below _ _).mono (by simp; omega))⟩

theorem ex_D (l : List Item) (A : Option Addr) (c : Nat) (p : Patch) (ix : Int) (w : World) (hr : RdI w A l) (hl : l.length ≤ 1000000) (h1 : p.par.isEmpty = false) (k1 : ((itemF l p.par).kind == 1) = true) (h2 : p.aft.isEmpty = true) : ExLaw l A c p ix w := by
 unfold ExLaw
 have HI := fun id W h => Lib.hid (item_lit l A c p ix id W h hl)
 have HR := Lib.hid hr; clear hr
 have hp : (p.par == []) = p.par.isEmpty := by cases p.par <;> rfl
 have hq : (p.aft == []) = p.aft.isEmpty := by cases p.aft <;> rfl
 have Hp := Lib.hid hp; clear hp
 have Hq := Lib.hid hq; clear hq
 have hr2 : ∀ t t' x, RdI (World.grew ((w.alloc (.cells #[.slice A l.length c, .int .i64 p.kind, vs p.id, vs p.par, vs p.aft, vs p.num, .int .i64 p.item.kind, vs p.item.id, vs p.item.par, vs p.item.num, vs p.item.no, vs p.item.so, .bool p.item.gone, .int .i64 p.lang, vs p.fr, vs p.to, .int .i64 ix] t)).alloc
  (.cells #[.int .i64 p.kind, vs p.id, vs p.par, vs p.aft, vs p.num, .int .i64 p.item.kind, vs p.item.id, vs p.item.par, vs p.item.num, vs p.item.no, vs p.item.so, .bool p.item.gone, .int .i64 p.lang, vs p.fr, vs p.to] t')) x) A l :=
  fun t t' x => (HR.out.below (((Below.refl _ _).alloc (Nat.le_refl _) _).alloc (by simp) _)).below (grew_below _ _)
 have HR2 := Lib.hid hr2; clear hr2
 go_enter Tryz.func103, Tryz.ntmps103
 go_wp2_with fail
 refine wp_region_grew (by kernel_rfl) (by as_aux_lemma => kernel_rfl) ?_
 repeat (go_big_quiet_step ((exact Calls_grew (HI _ _ (HR2.out _ _ _)).out)))
 refine wpQuiet_nil ?_
 rintro _ ⟨W, rfl⟩
 go_wp2
 go_ret
 exact ⟨ret_bool (by unfold existsF; simp [Hp.out, Hq.out, *]), (((Below.refl _ _).alloc (Nat.le_refl _) _).alloc (by simp) _).trans ((grew_below _ _).mono (by simp; omega))⟩

theorem ex_E (l : List Item) (A : Option Addr) (c : Nat) (p : Patch) (ix : Int) (w : World) (hr : RdI w A l) (hl : l.length ≤ 1000000) (h1 : p.par.isEmpty = false) (k1 : ((itemF l p.par).kind == 1) = true) (h2 : p.aft.isEmpty = false) (k2 : ((itemF l p.aft).kind != 0) = true) : ExLaw l A c p ix w := by
 unfold ExLaw
 have HI := fun id W h => Lib.hid (item_lit l A c p ix id W h hl)
 have HR := Lib.hid hr; clear hr
 have hp : (p.par == []) = p.par.isEmpty := by cases p.par <;> rfl
 have hq : (p.aft == []) = p.aft.isEmpty := by cases p.aft <;> rfl
 have Hp := Lib.hid hp; clear hp
 have Hq := Lib.hid hq; clear hq
 have hr2 : ∀ t t' x, RdI (World.grew ((w.alloc (.cells #[.slice A l.length c, .int .i64 p.kind, vs p.id, vs p.par, vs p.aft, vs p.num, .int .i64 p.item.kind, vs p.item.id, vs p.item.par, vs p.item.num, vs p.item.no, vs p.item.so, .bool p.item.gone, .int .i64 p.lang, vs p.fr, vs p.to, .int .i64 ix] t)).alloc
  (.cells #[.int .i64 p.kind, vs p.id, vs p.par, vs p.aft, vs p.num, .int .i64 p.item.kind, vs p.item.id, vs p.item.par, vs p.item.num, vs p.item.no, vs p.item.so, .bool p.item.gone, .int .i64 p.lang, vs p.fr, vs p.to] t')) x) A l :=
  fun t t' x => (HR.out.below (((Below.refl _ _).alloc (Nat.le_refl _) _).alloc (by simp) _)).below (grew_below _ _)
 have HR2 := Lib.hid hr2; clear hr2
 go_enter Tryz.func103, Tryz.ntmps103
 go_wp2_with fail
 refine wp_region_grew (by kernel_rfl) (by as_aux_lemma => kernel_rfl) ?_
 repeat (go_big_quiet_step ((exact Calls_grew (HI _ _ (HR2.out _ _ _)).out)))
 refine wpQuiet_nil ?_
 rintro _ ⟨W, rfl⟩
 go_wp2
 go_ret
 exact ⟨ret_bool (by unfold existsF; simp [Hp.out, Hq.out, *]), (((Below.refl _ _).alloc (Nat.le_refl _) _).alloc (by simp) _).trans ((grew_below _ _).mono (by simp; omega))⟩

theorem ex_E2 (l : List Item) (A : Option Addr) (c : Nat) (p : Patch) (ix : Int) (w : World) (hr : RdI w A l) (hl : l.length ≤ 1000000) (h1 : p.par.isEmpty = false) (k1 : ((itemF l p.par).kind == 1) = true) (h2 : p.aft.isEmpty = false) (k2 : ((itemF l p.aft).kind != 0) = false) : ExLaw l A c p ix w := by
 unfold ExLaw
 have HI := fun id W h => Lib.hid (item_lit l A c p ix id W h hl)
 have HR := Lib.hid hr; clear hr
 have hp : (p.par == []) = p.par.isEmpty := by cases p.par <;> rfl
 have hq : (p.aft == []) = p.aft.isEmpty := by cases p.aft <;> rfl
 have Hp := Lib.hid hp; clear hp
 have Hq := Lib.hid hq; clear hq
 have hr2 : ∀ t t' x, RdI (World.grew ((w.alloc (.cells #[.slice A l.length c, .int .i64 p.kind, vs p.id, vs p.par, vs p.aft, vs p.num, .int .i64 p.item.kind, vs p.item.id, vs p.item.par, vs p.item.num, vs p.item.no, vs p.item.so, .bool p.item.gone, .int .i64 p.lang, vs p.fr, vs p.to, .int .i64 ix] t)).alloc
  (.cells #[.int .i64 p.kind, vs p.id, vs p.par, vs p.aft, vs p.num, .int .i64 p.item.kind, vs p.item.id, vs p.item.par, vs p.item.num, vs p.item.no, vs p.item.so, .bool p.item.gone, .int .i64 p.lang, vs p.fr, vs p.to] t')) x) A l :=
  fun t t' x => (HR.out.below (((Below.refl _ _).alloc (Nat.le_refl _) _).alloc (by simp) _)).below (grew_below _ _)
 have HR2 := Lib.hid hr2; clear hr2
 go_enter Tryz.func103, Tryz.ntmps103
 go_wp2_with fail
 refine wp_region_grew (by kernel_rfl) (by as_aux_lemma => kernel_rfl) ?_
 repeat (go_big_quiet_step ((exact Calls_grew (HI _ _ (HR2.out _ _ _)).out)))
 refine wpQuiet_nil ?_
 rintro _ ⟨W, rfl⟩
 go_wp2
 go_ret
 exact ⟨ret_bool (by unfold existsF; simp [Hp.out, Hq.out, *]), (((Below.refl _ _).alloc (Nat.le_refl _) _).alloc (by simp) _).trans ((grew_below _ _).mono (by simp; omega))⟩

theorem exists_any (l : List Item) (A : Option Addr) (c : Nat) (p : Patch) (ix : Int) (w : World) (hr : RdI w A l) (hl : l.length ≤ 1000000) :
 Calls Tryz.prog 103 #[chg A l.length c p ix] w fun e w' => e = .returned (.bool (existsF l p.par p.aft)) ∧ Below w.heap.size w w' := by
 cases h1 : p.par.isEmpty with
 | true =>
   cases h2 : p.aft.isEmpty with
   | true => exact ex_A l A c p ix w hr hl h1 h2
   | false => cases k2 : ((itemF l p.aft).kind != 0) with
     | true => exact ex_B l A c p ix w hr hl h1 h2 k2
     | false => exact ex_B2 l A c p ix w hr hl h1 h2 k2
 | false =>
   cases k1 : ((itemF l p.par).kind == 1) with
   | false => exact ex_C l A c p ix w hr hl h1 k1
   | true => cases h2 : p.aft.isEmpty with
     | true => exact ex_D l A c p ix w hr hl h1 k1 h2
     | false => cases k2 : ((itemF l p.aft).kind != 0) with
       | true => exact ex_E l A c p ix w hr hl h1 k1 h2 k2
       | false => exact ex_E2 l A c p ix w hr hl h1 k1 h2 k2
end Go.Proofs.YtecnlfaholmpoaaGreat
set_option maxRecDepth 20000
set_option maxHeartbeats 1000000
namespace Go.Proofs.YtecnlfaholmpoaaGreat
open Go.RowKit
def putAt (l : List Item) (par aft : Str) : Int :=
 if aft.isEmpty then (if par.isEmpty then 0 else findI l par + 1) else findI l aft + (1 + ((belowL l aft).length : Int))
theorem insert_at (l ys : List Item) (i : Nat) (z : Int) (base base2 : Nat) (v vv : Value) (w : World) (hz : z = i) (hown : OwnI w base v l) (hys : OwnI w base2 vv ys) (hne : ys ≠ []) (hi : i ≤ l.length) (hb : base ≤ w.heap.size) (hl : l.length + ys.length ≤ 1000000)
 (hap : v.ownBlock = none ∨ v.ownBlock ≠ vv.ownBlock) :
 Calls Tryz.prog 131 #[v, .int .i64 z, vv] w fun e w' => ∃ v', e = .returned v' ∧ OwnI w' base v' (ins l ys i) ∧ VEff v.ownBlock.toList w w' := by
 subst hz
 exact insert_any l ys i base base2 v vv w hown hys hne hi hb hl hap
theorem findI_bound (l : List Item) (s : Str) : -1 ≤ findI l s ∧ findI l s < (l.length : Int) + 0 ∨ findI l s = -1 := by
 unfold findI idx
 cases h : l.findIdx? (fun x => x.id == s) with
 | none => right; rfl
 | some i =>
   left
   have := (List.findIdx?_eq_some_iff_getElem.1 h).1
   simp
   omega
theorem OwnI.below {w w' : World} {base : Nat} {v : Value} {l : List Item} (h : OwnI w base v l) (hb : Below w.heap.size w w') : OwnI w' base v l := by
 refine ⟨h.1, h.2.imp id ?_⟩
 rintro ⟨g, cap, cur, r1, r2, r3, r⟩
 exact ⟨g, cap, cur, r1, r2, (hb.block g (lt_of_heap r3)).trans r3, r⟩
theorem OwnI.block {w : World} {base : Nat} {v : Value} {l : List Item} (h : OwnI w base v l) : v.ownBlock = none ∨ ∃ g, v.ownBlock = some g ∧ base ≤ g ∧ g < w.heap.size := by
 rcases h.2 with ⟨rfl, _⟩ | ⟨g, cap, cur, rfl, r2, r3, _⟩
 · left; rfl
 · right; exact ⟨g, rfl, r2, lt_of_heap r3⟩
theorem VEff.onBelow {B : Nat} {F : List Nat} {w w1 w2 : World} (hb : Below B w w1) (hv : VEff F w1 w2) (hF : ∀ x ∈ F, B ≤ x) (hB : B ≤ w1.heap.size) : Below B w w2 :=
 ⟨hv.os.trans hb.os, hv.tape.trans hb.tape, hv.output.trans hb.output, Nat.le_trans hb.size hv.size, fun k hk => (hv.block k (by omega) (fun hx => by have := hF k hx; omega)).trans (hb.block k hk)⟩
theorem OwnI.mono {w : World} {base base' : Nat} {v : Value} {l : List Item} (h : OwnI w base v l) (hb : base' ≤ base) : OwnI w base' v l :=
 ⟨h.1, h.2.imp id (fun ⟨g, cap, cur, h1, h2, h3⟩ => ⟨g, cap, cur, h1, by omega, h3⟩)⟩
theorem put_C (l ys : List Item) (A : Option Addr) (c : Nat) (p : Patch) (ix : Int) (base2 : Nat) (vv : Value) (w : World) (hr : RdI w A l) (hys : OwnI w base2 vv ys) (hne : ys ≠ []) (hl : l.length + ys.length ≤ 1000000) (hsh : ∀ x ∈ l, x.Short)
 (h1 : p.aft.isEmpty = true) (h2 : p.par.isEmpty = true) :
 Calls Tryz.prog 104 #[chg A l.length c p ix, vv] w fun e w' => ∃ v, e = .returned v ∧ ResC w.heap.size w' v (ins l ys 0) ∧ Below w.heap.size w w' := by
 have HC := fun W h => Lib.hid (clone_any l A c W h (by omega))
 have HR := Lib.hid hr; clear hr
 have HYS := Lib.hid hys; clear hys
 go_enter Tryz.func104, Tryz.ntmps104
 go_wp2_with fail
 refine (HC _ (HR.out.below (((Below.refl _ _).alloc (Nat.le_refl _) _).alloc (by simp) _))).out.mono ?_
 rintro e w1 ⟨v, rfl, hown, hb1⟩
 have hys1 := (HYS.out.below (((Below.refl _ _).alloc (Nat.le_refl _) _).alloc (by simp) _)).below hb1
 have hap : v.ownBlock = none ∨ v.ownBlock ≠ vv.ownBlock := by
  rcases hown.block with h | ⟨g, h, hg, _⟩
  · exact .inl h
  · right
    rcases HYS.out.block with k | ⟨b, k, _, hbs⟩
    · rw [h, k]; simp
    · rw [h, k]; simp at hg; simp; omega
 have hins := insert_any l ys 0 _ base2 v vv w1 hown hys1 hne (by omega) hb1.size hl hap
 have HINS := Lib.hid hins; clear hins hys1 hap
 have HB1 := Lib.hid hb1
 have HOWN := Lib.hid hown; clear hown
 obtain ⟨hc, hf⟩ := bcell hb1
 clear hb1
 go_wp2_with fail
 refine HINS.out.mono ?_
 rintro e w2 ⟨v', rfl, hown2, hv⟩
 have hb2 := VEff.onBelow HB1.out hv (by
  rcases HOWN.out.block with h | ⟨g, h, hg, _⟩
  · rw [h]; simp
  · rw [h]; simpa using hg) HB1.out.size
 clear hc hf
 obtain ⟨hc, hf⟩ := bcell hb2
 have HB2 := Lib.hid hb2; clear hb2 hv
 obtain ⟨A', c', rfl, hr', hlc', hA'⟩ := hown2.slice
 go_wp2_with fail
 refine bodyPost_ret (v := .agg #[.slice A' (ins l ys 0).length c']) (by simp [results, Tryz.results104, go_sem, hc, hf]) rfl ⟨_, rfl, ⟨A', c', rfl, ?_, hlc', fun b o hA => by have := hA' b o hA; simp at this; omega⟩, ?_⟩
 · refine Sl.keep hr' (by simp) (fun b o hA _ => Below.heap_setCell _ _ _ _ ?_)
   have := hA' b o hA
   simp at this
   simp
   omega
 · refine Below.setCell ?_ (by simp) _
   exact (((Below.refl _ _).alloc (Nat.le_refl _) _).alloc (by simp) _).trans (HB2.out.mono (by simp; omega))
theorem put_B (l ys : List Item) (A : Option Addr) (c : Nat) (p : Patch) (ix : Int) (base2 : Nat) (vv : Value) (w : World) (hr : RdI w A l) (hys : OwnI w base2 vv ys) (hne : ys ≠ []) (hl : l.length + ys.length ≤ 1000000) (hsh : ∀ x ∈ l, x.Short)
 (h1 : p.aft.isEmpty = true) (h2 : p.par.isEmpty = false) (j : Nat) (hj : findI l p.par = j) (hjl : j < l.length) :
 Calls Tryz.prog 104 #[chg A l.length c p ix, vv] w fun e w' => ∃ v, e = .returned v ∧ ResC w.heap.size w' v (ins l ys (j + 1)) ∧ Below w.heap.size w w' := by
 have HC := fun W h => Lib.hid (clone_any l A c W h (by omega))
 have HR := Lib.hid hr; clear hr
 have HYS := Lib.hid hys; clear hys
 go_enter Tryz.func104, Tryz.ntmps104
 go_wp2_with fail
 refine (find_any l A c _ _ (HR.out.below (((Below.refl _ _).alloc (Nat.le_refl _) _).alloc (by simp) _)) (le_maxLen (by omega))).mono ?_
 rintro e wf ⟨rfl, hbf⟩
 rw [hj]
 have hjb : (j : Int) < 1000000 := by omega
 obtain ⟨hc, hf⟩ := bcell hbf
 have HBF := Lib.hid hbf; clear hbf
 go_wp2_with fail
 clear hc hf
 refine (HC _ ((HR.out.below (((Below.refl _ _).alloc (Nat.le_refl _) _).alloc (by simp) _)).below HBF.out)).out.mono ?_
 rintro e w1 ⟨v, rfl, hown, hb1⟩
 have hys1 := ((HYS.out.below (((Below.refl _ _).alloc (Nat.le_refl _) _).alloc (by simp) _)).below HBF.out).below hb1
 have hb1 := HBF.out.trans (hb1.mono HBF.out.size)
 have hown1 := hown.mono HBF.out.size
 clear hown
 have hown := hown1
 clear hown1
 have hap : v.ownBlock = none ∨ v.ownBlock ≠ vv.ownBlock := by
  rcases hown.block with h | ⟨g, h, hg, _⟩
  · exact .inl h
  · right
    rcases HYS.out.block with k | ⟨b, k, _, hbs⟩
    · rw [h, k]; simp
    · rw [h, k]; simp at hg; simp; omega
 have hins := insert_at l ys (j + 1) (j + 1) _ base2 v vv w1 (by simp) hown hys1 hne (by omega) hb1.size hl hap
 have HINS := Lib.hid hins; clear hins hys1 hap
 have HB1 := Lib.hid hb1
 have HOWN := Lib.hid hown; clear hown
 obtain ⟨hc, hf⟩ := bcell hb1
 clear hb1
 go_wp2_with fail
 refine HINS.out.mono ?_
 rintro e w2 ⟨v', rfl, hown2, hv⟩
 have hb2 := VEff.onBelow HB1.out hv (by
  rcases HOWN.out.block with h | ⟨g, h, hg, _⟩
  · rw [h]; simp
  · rw [h]; simpa using hg) HB1.out.size
 clear hc hf
 obtain ⟨hc, hf⟩ := bcell hb2
 have HB2 := Lib.hid hb2; clear hb2 hv
 obtain ⟨A', c', rfl, hr', hlc', hA'⟩ := hown2.slice
 go_wp2_with fail
 refine bodyPost_ret (v := .agg #[.slice A' (ins l ys (j + 1)).length c']) (by simp [results, Tryz.results104, go_sem, hc, hf]) rfl ⟨_, rfl, ⟨A', c', rfl, ?_, hlc', fun b o hA => by have := hA' b o hA; simp at this; omega⟩, ?_⟩
 · refine Sl.keep hr' (by simp) (fun b o hA _ => Below.heap_setCell _ _ _ _ ?_)
   have := hA' b o hA
   simp at this
   simp
   omega
 · refine Below.setCell ?_ (by simp) _
   exact (((Below.refl _ _).alloc (Nat.le_refl _) _).alloc (by simp) _).trans (HB2.out.mono (by simp; omega))
theorem put_A (l ys : List Item) (A : Option Addr) (c : Nat) (p : Patch) (ix : Int) (base2 : Nat) (vv : Value) (w : World) (hr : RdI w A l) (hys : OwnI w base2 vv ys) (hne : ys ≠ []) (hl : l.length + ys.length ≤ 1000000) (hsh : ∀ x ∈ l, x.Short)
 (h1 : p.aft.isEmpty = false) (j : Nat) (hj : findI l p.aft = j) (hjl : j + (1 + (belowL l p.aft).length) ≤ l.length) :
 Calls Tryz.prog 104 #[chg A l.length c p ix, vv] w fun e w' => ∃ v, e = .returned v ∧ ResC w.heap.size w' v (ins l ys (j + (1 + (belowL l p.aft).length))) ∧ Below w.heap.size w w' := by
 have HC := fun W h => Lib.hid (clone_any l A c W h (by omega))
 have HR := Lib.hid hr; clear hr
 have HYS := Lib.hid hys; clear hys
 have hr2 := fun x => (HR.out.below (((Below.refl _ _).alloc (Nat.le_refl _) _).alloc (by simp) _)).below (grew_below (((w.alloc (.cells #[.slice A l.length c, .int .i64 p.kind, vs p.id, vs p.par, vs p.aft, vs p.num, .int .i64 p.item.kind, vs p.item.id, vs p.item.par, vs p.item.num, vs p.item.no, vs p.item.so, .bool p.item.gone, .int .i64 p.lang, vs p.fr, vs p.to, .int .i64 ix] 94)).alloc (.cells #[.slice none 0 0] 24))) x)
 have HR2 := Lib.hid hr2; clear hr2
 have HF := fun id W h => Lib.hid (find_any l A c id W h (le_maxLen (by omega)))
 have HSZ := fun id W h => Lib.hid (size_any l A c p ix id W h (by omega) hsh)
 clear hsh
 have hjb : (j : Int) < 1000000 := by omega
 have hbl : ((belowL l p.aft).length : Int) < 1000000 := by omega
 go_enter Tryz.func104, Tryz.ntmps104
 go_wp2_with fail
 refine wp_region_grew (by kernel_rfl) (by kernel_rfl) ?_
 repeat (go_big_quiet_step ((first | exact Calls_grew (HF _ _ (HR2.out _)).out | exact Calls_grew (HSZ _ _ (HR2.out _)).out)))
 refine wpQuiet_nil ?_
 rintro _ ⟨wf, rfl⟩
 have hbf := grew_below (((w.alloc (.cells #[.slice A l.length c, .int .i64 p.kind, vs p.id, vs p.par, vs p.aft, vs p.num, .int .i64 p.item.kind, vs p.item.id, vs p.item.par, vs p.item.num, vs p.item.no, vs p.item.so, .bool p.item.gone, .int .i64 p.lang, vs p.fr, vs p.to, .int .i64 ix] 94)).alloc (.cells #[.slice none 0 0] 24))) wf
 obtain ⟨hc, hf⟩ := bcell hbf
 have HBF := Lib.hid hbf; clear hbf
 go_wp2_with fail
 clear hc hf
 refine (HC _ ((HR.out.below (((Below.refl _ _).alloc (Nat.le_refl _) _).alloc (by simp) _)).below HBF.out)).out.mono ?_
 rintro e w1 ⟨v, rfl, hown, hb1⟩
 have hys1 := ((HYS.out.below (((Below.refl _ _).alloc (Nat.le_refl _) _).alloc (by simp) _)).below HBF.out).below hb1
 have hb1 := HBF.out.trans (hb1.mono HBF.out.size)
 have hown1 := hown.mono HBF.out.size
 clear hown
 have hown := hown1
 clear hown1
 have hap : v.ownBlock = none ∨ v.ownBlock ≠ vv.ownBlock := by
  rcases hown.block with h | ⟨g, h, hg, _⟩
  · exact .inl h
  · right
    rcases HYS.out.block with k | ⟨b, k, _, hbs⟩
    · rw [h, k]; simp
    · rw [h, k]; simp at hg; simp; omega
 have hins := insert_at l ys (j + (1 + (belowL l p.aft).length)) (j + (1 + (belowL l p.aft).length)) _ base2 v vv w1 (by simp) hown hys1 hne (by omega) hb1.size hl hap
 have HINS := Lib.hid hins; clear hins hys1 hap
 have HB1 := Lib.hid hb1
 have HOWN := Lib.hid hown; clear hown
 obtain ⟨hc, hf⟩ := bcell hb1
 clear hb1
 go_wp2_with fail
 refine HINS.out.mono ?_
 rintro e w2 ⟨v', rfl, hown2, hv⟩
 have hb2 := VEff.onBelow HB1.out hv (by
  rcases HOWN.out.block with h | ⟨g, h, hg, _⟩
  · rw [h]; simp
  · rw [h]; simpa using hg) HB1.out.size
 clear hc hf
 obtain ⟨hc, hf⟩ := bcell hb2
 have HB2 := Lib.hid hb2; clear hb2 hv
 obtain ⟨A', c', rfl, hr', hlc', hA'⟩ := hown2.slice
 go_wp2_with fail
 refine bodyPost_ret (v := .agg #[.slice A' (ins l ys (j + (1 + (belowL l p.aft).length))).length c']) (by simp [results, Tryz.results104, go_sem, hc, hf]) rfl ⟨_, rfl, ⟨A', c', rfl, ?_, hlc', fun b o hA => by have := hA' b o hA; simp at this; omega⟩, ?_⟩
 · refine Sl.keep hr' (by simp) (fun b o hA _ => Below.heap_setCell _ _ _ _ ?_)
   have := hA' b o hA
   simp at this
   simp
   omega
 · refine Below.setCell ?_ (by simp) _
   exact (((Below.refl _ _).alloc (Nat.le_refl _) _).alloc (by simp) _).trans (HB2.out.mono (by simp; omega))
theorem put_any (l ys : List Item) (A : Option Addr) (c : Nat) (p : Patch) (ix : Int) (base2 : Nat) (vv : Value) (w : World) (hr : RdI w A l) (hys : OwnI w base2 vv ys) (hne : ys ≠ []) (hl : l.length + ys.length ≤ 1000000) (hsh : ∀ x ∈ l, x.Short)
 (i : Nat) (hi : putAt l p.par p.aft = i) (hil : i ≤ l.length) (hex : p.aft.isEmpty = true ∨ findI l p.aft ≠ -1) (hex2 : p.par.isEmpty = true ∨ findI l p.par ≠ -1) :
 Calls Tryz.prog 104 #[chg A l.length c p ix, vv] w fun e w' => ∃ v, e = .returned v ∧ ResC w.heap.size w' v (ins l ys i) ∧ Below w.heap.size w w' := by
 unfold putAt at hi
 cases h1 : p.aft.isEmpty with
 | true =>
   rw [h1] at hi
   cases h2 : p.par.isEmpty with
   | true =>
     rw [h2] at hi
     have h0 : i = 0 := by simp at hi; omega
     subst h0
     exact put_C l ys A c p ix base2 vv w hr hys hne hl hsh h1 h2
   | false =>
     rw [h2] at hi hex2
     simp at hi hex2
     rcases findI_bound l p.par with ⟨h3, h4⟩ | h3
     · obtain ⟨j, hj⟩ : ∃ j : Nat, findI l p.par = j := ⟨(findI l p.par).toNat, by omega⟩
       have : i = j + 1 := by omega
       subst this
       exact put_B l ys A c p ix base2 vv w hr hys hne hl hsh h1 h2 j hj (by omega)
     · exact absurd h3 hex2
 | false =>
   rw [h1] at hi hex
   simp at hi hex
   rcases findI_bound l p.aft with ⟨h3, h4⟩ | h3
   · obtain ⟨j, hj⟩ : ∃ j : Nat, findI l p.aft = j := ⟨(findI l p.aft).toNat, by omega⟩
     have : i = j + (1 + (belowL l p.aft).length) := by omega
     subst this
     exact put_A l ys A c p ix base2 vv w hr hys hne hl hsh h1 j hj (by omega)
   · exact absurd h3 hex
end Go.Proofs.YtecnlfaholmpoaaGreat
