/- patch.change: exists. -/
import Derived.Test.YtfolcjkednmkoaaGreatJPt
import Derived.Deep.RegionHeld3
import Derived.Test.YtfolcjkednmkoaaGreatJPt
import Derived.Test.YtfolcjkednmkoaaGreatGrew
set_option linter.unusedVariables false
set_option linter.unusedSimpArgs false
set_option maxRecDepth 20000
set_option maxHeartbeats 2000000
namespace Go.Proofs.YtfolcjkednmkoaaGreat
open Go.RowKit
def ExLaw (l : List Item) (A : Option Addr) (c : Nat) (p : Patch) (ix : Int) (w : World) : Prop :=
 Calls Tryz.prog 76 #[chg A l.length c p ix] w fun e w' => e = .returned (.bool (existsF l p.par p.aft)) ∧ Below w.heap.size w w'

theorem ex_A (l : List Item) (A : Option Addr) (c : Nat) (p : Patch) (ix : Int) (w : World) (hr : RdI w A l) (hl : l.length ≤ 1000000) (h1 : p.par.isEmpty = true) (h2 : p.aft.isEmpty = true) : ExLaw l A c p ix w := by
 unfold ExLaw
 have HI := fun id W h => Lib.hid (item_lit l A c p ix id W h hl)
 have HR := Lib.hid hr; clear hr
 have hp : (p.par == []) = p.par.isEmpty := by cases p.par <;> rfl
 have hq : (p.aft == []) = p.aft.isEmpty := by cases p.aft <;> rfl
 have Hp := Lib.hid hp; clear hp
 have Hq := Lib.hid hq; clear hq
 have hr2 : ∀ t t' x, RdI (World.grew ((w.alloc (.cells #[.slice A l.length c, .int .i64 p.kind, vs p.id, vs p.par, vs p.aft, vs p.num, .int .i64 p.item.kind, vs p.item.id, vs p.item.par, vs p.item.num, vs p.item.no, vs p.item.so, .bool p.item.gone, .int .i64 p.lang, vs p.fr, vs p.to, .int .i64 ix] t)).alloc
  (.cells #[.int .i64 p.kind, vs p.id, vs p.par, vs p.aft, vs p.num, .int .i64 p.item.kind, vs p.item.id, vs p.item.par, vs p.item.num, vs p.item.no, vs p.item.so, .bool p.item.gone, .int .i64 p.lang, vs p.fr, vs p.to] t')) x) A l :=
  fun t t' x => (HR.out.below (((Below.refl _ _).alloc (Nat.le_refl _) _).alloc (by simp) _)).below (grew_below _ _)
 have HR2 := Lib.hid hr2; clear hr2
 go_enter Tryz.func76, Tryz.ntmps76
 go_wp2_with fail
 refine wp_region_grew (by kernel_rfl) (by as_aux_lemma => kernel_rfl) ?_
 repeat (go_big_quiet_step ((exact Calls_grew (HI _ _ (HR2.out _ _ _)).out)))
 refine wpQuiet_nil ?_
 rintro _ ⟨W, rfl⟩
 go_wp2
 go_ret
 exact ⟨ret_bool (by unfold existsF; simp [Hp.out, Hq.out, *]), (((Below.refl _ _).alloc (Nat.le_refl _) _).alloc (by simp) _).trans ((grew_below _ _).mono (by simp; omega))⟩

theorem ex_B (l : List Item) (A : Option Addr) (c : Nat) (p : Patch) (ix : Int) (w : World) (hr : RdI w A l) (hl : l.length ≤ 1000000) (h1 : p.par.isEmpty = true) (h2 : p.aft.isEmpty = false) (k2 : ((itemF l p.aft).kind != 0) = true) : ExLaw l A c p ix w := by
 unfold ExLaw
 have HI := fun id W h => Lib.hid (item_lit l A c p ix id W h hl)
 have HR := Lib.hid hr; clear hr
 have hp : (p.par == []) = p.par.isEmpty := by cases p.par <;> rfl
 have hq : (p.aft == []) = p.aft.isEmpty := by cases p.aft <;> rfl
 have Hp := Lib.hid hp; clear hp
 have Hq := Lib.hid hq; clear hq
 have hr2 : ∀ t t' x, RdI (World.grew ((w.alloc (.cells #[.slice A l.length c, .int .i64 p.kind, vs p.id, vs p.par, vs p.aft, vs p.num, .int .i64 p.item.kind, vs p.item.id, vs p.item.par, vs p.item.num, vs p.item.no, vs p.item.so, .bool p.item.gone, .int .i64 p.lang, vs p.fr, vs p.to, .int .i64 ix] t)).alloc
  (.cells #[.int .i64 p.kind, vs p.id, vs p.par, vs p.aft, vs p.num, .int .i64 p.item.kind, vs p.item.id, vs p.item.par, vs p.item.num, vs p.item.no, vs p.item.so, .bool p.item.gone, .int .i64 p.lang, vs p.fr, vs p.to] t')) x) A l :=
  fun t t' x => (HR.out.below (((Below.refl _ _).alloc (Nat.le_refl _) _).alloc (by simp) _)).below (grew_below _ _)
 have HR2 := Lib.hid hr2; clear hr2
 go_enter Tryz.func76, Tryz.ntmps76
 go_wp2_with fail
 refine wp_region_grew (by kernel_rfl) (by as_aux_lemma => kernel_rfl) ?_
 repeat (go_big_quiet_step ((exact Calls_grew (HI _ _ (HR2.out _ _ _)).out)))
 refine wpQuiet_nil ?_
 rintro _ ⟨W, rfl⟩
 go_wp2
 go_ret
 exact ⟨ret_bool (by unfold existsF; simp [Hp.out, Hq.out, *]), (((Below.refl _ _).alloc (Nat.le_refl _) _).alloc (by simp) _).trans ((grew_below _ _).mono (by simp; omega))⟩

theorem ex_B2 (l : List Item) (A : Option Addr) (c : Nat) (p : Patch) (ix : Int) (w : World) (hr : RdI w A l) (hl : l.length ≤ 1000000) (h1 : p.par.isEmpty = true) (h2 : p.aft.isEmpty = false) (k2 : ((itemF l p.aft).kind != 0) = false) : ExLaw l A c p ix w := by
 unfold ExLaw
 have HI := fun id W h => Lib.hid (item_lit l A c p ix id W h hl)
 have HR := Lib.hid hr; clear hr
 have hp : (p.par == []) = p.par.isEmpty := by cases p.par <;> rfl
 have hq : (p.aft == []) = p.aft.isEmpty := by cases p.aft <;> rfl
 have Hp := Lib.hid hp; clear hp
 have Hq := Lib.hid hq; clear hq
 have hr2 : ∀ t t' x, RdI (World.grew ((w.alloc (.cells #[.slice A l.length c, .int .i64 p.kind, vs p.id, vs p.par, vs p.aft, vs p.num, .int .i64 p.item.kind, vs p.item.id, vs p.item.par, vs p.item.num, vs p.item.no, vs p.item.so, .bool p.item.gone, .int .i64 p.lang, vs p.fr, vs p.to, .int .i64 ix] t)).alloc
  (.cells #[.int .i64 p.kind, vs p.id, vs p.par, vs p.aft, vs p.num, .int .i64 p.item.kind, vs p.item.id, vs p.item.par, vs p.item.num, vs p.item.no, vs p.item.so, .bool p.item.gone, .int .i64 p.lang, vs p.fr, vs p.to] t')) x) A l :=
  fun t t' x => (HR.out.below (((Below.refl _ _).alloc (Nat.le_refl _) _).alloc (by simp) _)).below (grew_below _ _)
 have HR2 := Lib.hid hr2; clear hr2
 go_enter Tryz.func76, Tryz.ntmps76
 go_wp2_with fail
 refine wp_region_grew (by kernel_rfl) (by as_aux_lemma => kernel_rfl) ?_
 repeat (go_big_quiet_step ((exact Calls_grew (HI _ _ (HR2.out _ _ _)).out)))
 refine wpQuiet_nil ?_
 rintro _ ⟨W, rfl⟩
 go_wp2
 go_ret
 exact ⟨ret_bool (by unfold existsF; simp [Hp.out, Hq.out, *]), (((Below.refl _ _).alloc (Nat.le_refl _) _).alloc (by simp) _).trans ((grew_below _ _).mono (by simp; omega))⟩

theorem ex_C (l : List Item) (A : Option Addr) (c : Nat) (p : Patch) (ix : Int) (w : World) (hr : RdI w A l) (hl : l.length ≤ 1000000) (h1 : p.par.isEmpty = false) (k1 : ((itemF l p.par).kind == 1) = false) : ExLaw l A c p ix w := by
 unfold ExLaw
 have HI := fun id W h => Lib.hid (item_lit l A c p ix id W h hl)
 have HR := Lib.hid hr; clear hr
 have hp : (p.par == []) = p.par.isEmpty := by cases p.par <;> rfl
 have hq : (p.aft == []) = p.aft.isEmpty := by cases p.aft <;> rfl
 have Hp := Lib.hid hp; clear hp
 have Hq := Lib.hid hq; clear hq
 have hr2 : ∀ t t' x, RdI (World.grew ((w.alloc (.cells #[.slice A l.length c, .int .i64 p.kind, vs p.id, vs p.par, vs p.aft, vs p.num, .int .i64 p.item.kind, vs p.item.id, vs p.item.par, vs p.item.num, vs p.item.no, vs p.item.so, .bool p.item.gone, .int .i64 p.lang, vs p.fr, vs p.to, .int .i64 ix] t)).alloc
  (.cells #[.int .i64 p.kind, vs p.id, vs p.par, vs p.aft, vs p.num, .int .i64 p.item.kind, vs p.item.id, vs p.item.par, vs p.item.num, vs p.item.no, vs p.item.so, .bool p.item.gone, .int .i64 p.lang, vs p.fr, vs p.to] t')) x) A l :=
  fun t t' x => (HR.out.below (((Below.refl _ _).alloc (Nat.le_refl _) _).alloc (by simp) _)).below (grew_below _ _)
 have HR2 := Lib.hid hr2; clear hr2
 go_enter Tryz.func76, Tryz.ntmps76
 go_wp2_with fail
 refine wp_region_grew (by kernel_rfl) (by as_aux_lemma => kernel_rfl) ?_
 repeat (go_big_quiet_step ((exact Calls_grew (HI _ _ (HR2.out _ _ _)).out)))
 refine wpQuiet_nil ?_
 rintro _ ⟨W, rfl⟩
 go_wp2
 go_ret
 exact ⟨ret_bool (by unfold existsF; simp [Hp.out, Hq.out, *]), (((Below.refl _ _).alloc (Nat.le_refl _) _).alloc (by simp) _).trans ((grew_below _ _).mono (by simp; omega))⟩

theorem ex_D (l : List Item) (A : Option Addr) (c : Nat) (p : Patch) (ix : Int) (w : World) (hr : RdI w A l) (hl : l.length ≤ 1000000) (h1 : p.par.isEmpty = false) (k1 : ((itemF l p.par).kind == 1) = true) (h2 : p.aft.isEmpty = true) : ExLaw l A c p ix w := by
 unfold ExLaw
 have HI := fun id W h => Lib.hid (item_lit l A c p ix id W h hl)
 have HR := Lib.hid hr; clear hr
 have hp : (p.par == []) = p.par.isEmpty := by cases p.par <;> rfl
 have hq : (p.aft == []) = p.aft.isEmpty := by cases p.aft <;> rfl
 have Hp := Lib.hid hp; clear hp
 have Hq := Lib.hid hq; clear hq
 have hr2 : ∀ t t' x, RdI (World.grew ((w.alloc (.cells #[.slice A l.length c, .int .i64 p.kind, vs p.id, vs p.par, vs p.aft, vs p.num, .int .i64 p.item.kind, vs p.item.id, vs p.item.par, vs p.item.num, vs p.item.no, vs p.item.so, .bool p.item.gone, .int .i64 p.lang, vs p.fr, vs p.to, .int .i64 ix] t)).alloc
  (.cells #[.int .i64 p.kind, vs p.id, vs p.par, vs p.aft, vs p.num, .int .i64 p.item.kind, vs p.item.id, vs p.item.par, vs p.item.num, vs p.item.no, vs p.item.so, .bool p.item.gone, .int .i64 p.lang, vs p.fr, vs p.to] t')) x) A l :=
  fun t t' x => (HR.out.below (((Below.refl _ _).alloc (Nat.le_refl _) _).alloc (by simp) _)).below (grew_below _ _)
 have HR2 := Lib.hid hr2; clear hr2
 go_enter Tryz.func76, Tryz.ntmps76
 go_wp2_with fail
 refine wp_region_grew (by kernel_rfl) (by as_aux_lemma => kernel_rfl) ?_
 repeat (go_big_quiet_step ((exact Calls_grew (HI _ _ (HR2.out _ _ _)).out)))
 refine wpQuiet_nil ?_
 rintro _ ⟨W, rfl⟩
 go_wp2
 go_ret
 exact ⟨ret_bool (by unfold existsF; simp [Hp.out, Hq.out, *]), (((Below.refl _ _).alloc (Nat.le_refl _) _).alloc (by simp) _).trans ((grew_below _ _).mono (by simp; omega))⟩

theorem ex_E (l : List Item) (A : Option Addr) (c : Nat) (p : Patch) (ix : Int) (w : World) (hr : RdI w A l) (hl : l.length ≤ 1000000) (h1 : p.par.isEmpty = false) (k1 : ((itemF l p.par).kind == 1) = true) (h2 : p.aft.isEmpty = false) (k2 : ((itemF l p.aft).kind != 0) = true) : ExLaw l A c p ix w := by
 unfold ExLaw
 have HI := fun id W h => Lib.hid (item_lit l A c p ix id W h hl)
 have HR := Lib.hid hr; clear hr
 have hp : (p.par == []) = p.par.isEmpty := by cases p.par <;> rfl
 have hq : (p.aft == []) = p.aft.isEmpty := by cases p.aft <;> rfl
 have Hp := Lib.hid hp; clear hp
 have Hq := Lib.hid hq; clear hq
 have hr2 : ∀ t t' x, RdI (World.grew ((w.alloc (.cells #[.slice A l.length c, .int .i64 p.kind, vs p.id, vs p.par, vs p.aft, vs p.num, .int .i64 p.item.kind, vs p.item.id, vs p.item.par, vs p.item.num, vs p.item.no, vs p.item.so, .bool p.item.gone, .int .i64 p.lang, vs p.fr, vs p.to, .int .i64 ix] t)).alloc
  (.cells #[.int .i64 p.kind, vs p.id, vs p.par, vs p.aft, vs p.num, .int .i64 p.item.kind, vs p.item.id, vs p.item.par, vs p.item.num, vs p.item.no, vs p.item.so, .bool p.item.gone, .int .i64 p.lang, vs p.fr, vs p.to] t')) x) A l :=
  fun t t' x => (HR.out.below (((Below.refl _ _).alloc (Nat.le_refl _) _).alloc (by simp) _)).below (grew_below _ _)
 have HR2 := Lib.hid hr2; clear hr2
 go_enter Tryz.func76, Tryz.ntmps76
 go_wp2_with fail
 refine wp_region_grew (by kernel_rfl) (by as_aux_lemma => kernel_rfl) ?_
 repeat (go_big_quiet_step ((exact Calls_grew (HI _ _ (HR2.out _ _ _)).out)))
 refine wpQuiet_nil ?_
 rintro _ ⟨W, rfl⟩
 go_wp2
 go_ret
 exact ⟨ret_bool (by unfold existsF; simp [Hp.out, Hq.out, *]), (((Below.refl _ _).alloc (Nat.le_refl _) _).alloc (by simp) _).trans ((grew_below _ _).mono (by simp; omega))⟩

theorem ex_E2 (l : List Item) (A : Option Addr) (c : Nat) (p : Patch) (ix : Int) (w : World) (hr : RdI w A l) (hl : l.length ≤ 1000000) (h1 : p.par.isEmpty = false) (k1 : ((itemF l p.par).kind == 1) = true) (h2 : p.aft.isEmpty = false) (k2 : ((itemF l p.aft).kind != 0) = false) : ExLaw l A c p ix w := by
 unfold ExLaw
 have HI := fun id W h => Lib.hid (item_lit l A c p ix id W h hl)
 have HR := Lib.hid hr; clear hr
 have hp : (p.par == []) = p.par.isEmpty := by cases p.par <;> rfl
 have hq : (p.aft == []) = p.aft.isEmpty := by cases p.aft <;> rfl
 have Hp := Lib.hid hp; clear hp
 have Hq := Lib.hid hq; clear hq
 have hr2 : ∀ t t' x, RdI (World.grew ((w.alloc (.cells #[.slice A l.length c, .int .i64 p.kind, vs p.id, vs p.par, vs p.aft, vs p.num, .int .i64 p.item.kind, vs p.item.id, vs p.item.par, vs p.item.num, vs p.item.no, vs p.item.so, .bool p.item.gone, .int .i64 p.lang, vs p.fr, vs p.to, .int .i64 ix] t)).alloc
  (.cells #[.int .i64 p.kind, vs p.id, vs p.par, vs p.aft, vs p.num, .int .i64 p.item.kind, vs p.item.id, vs p.item.par, vs p.item.num, vs p.item.no, vs p.item.so, .bool p.item.gone, .int .i64 p.lang, vs p.fr, vs p.to] t')) x) A l :=
  fun t t' x => (HR.out.below (((Below.refl _ _).alloc (Nat.le_refl _) _).alloc (by simp) _)).below (grew_below _ _)
 have HR2 := Lib.hid hr2; clear hr2
 go_enter Tryz.func76, Tryz.ntmps76
 go_wp2_with fail
 refine wp_region_grew (by kernel_rfl) (by as_aux_lemma => kernel_rfl) ?_
 repeat (go_big_quiet_step ((exact Calls_grew (HI _ _ (HR2.out _ _ _)).out)))
 refine wpQuiet_nil ?_
 rintro _ ⟨W, rfl⟩
 go_wp2
 go_ret
 exact ⟨ret_bool (by unfold existsF; simp [Hp.out, Hq.out, *]), (((Below.refl _ _).alloc (Nat.le_refl _) _).alloc (by simp) _).trans ((grew_below _ _).mono (by simp; omega))⟩

theorem exists_any (l : List Item) (A : Option Addr) (c : Nat) (p : Patch) (ix : Int) (w : World) (hr : RdI w A l) (hl : l.length ≤ 1000000) :
 Calls Tryz.prog 76 #[chg A l.length c p ix] w fun e w' => e = .returned (.bool (existsF l p.par p.aft)) ∧ Below w.heap.size w w' := by
 cases h1 : p.par.isEmpty with
 | true =>
   cases h2 : p.aft.isEmpty with
   | true => exact ex_A l A c p ix w hr hl h1 h2
   | false => cases k2 : ((itemF l p.aft).kind != 0) with
     | true => exact ex_B l A c p ix w hr hl h1 h2 k2
     | false => exact ex_B2 l A c p ix w hr hl h1 h2 k2
 | false =>
   cases k1 : ((itemF l p.par).kind == 1) with
   | false => exact ex_C l A c p ix w hr hl h1 k1
   | true => cases h2 : p.aft.isEmpty with
     | true => exact ex_D l A c p ix w hr hl h1 k1 h2
     | false => cases k2 : ((itemF l p.aft).kind != 0) with
       | true => exact ex_E l A c p ix w hr hl h1 k1 h2 k2
       | false => exact ex_E2 l A c p ix w hr hl h1 k1 h2 k2
end Go.Proofs.YtfolcjkednmkoaaGreat
