/- law20's small makers of patches. A whole patch stored, as a rule of the walk. -/
import Derived.Test.YtfolcjkednmkoaaGreatJCm
import Derived.Test.YtfolcjkednmkoaaGreatPatEq
set_option linter.unusedVariables false
set_option linter.unusedSimpArgs false
set_option maxRecDepth 20000
set_option maxHeartbeats 4000000
namespace Go.Proofs.YtfolcjkednmkoaaGreat
open Go.RowKit
def insP (s t : Str) : Patch := ⟨1, s, [], t, [], ⟨2, s, [], [], [], [], false⟩, 0, [], []⟩
def wordP (s : Str) (k : Int) : Patch := ⟨2, s, [], [], [], noItem, k, [97], [98]⟩
def movP (s : Str) : Patch := ⟨4, s, [], [112, 50], [], noItem, 0, [], []⟩
def repP : Patch := ⟨5, [112, 49], [], [], [], noItem, 0, [], []⟩
theorem results_c1 {fn : Func} {p : Tmp} {ty : TypeId} (h : fn.results = #[.cell p ty]) (tmps : Array Value) (P : Program) (w : World) :
 (results fn tmps).run P w = ((asAddr (tmps.getD p undef)).run P w).andThen fun a w₁ => (loadVar ty a).run P w₁ := by
 simp only [results, h]
 simp [Sem.run_bind, Result.andThen]
theorem results_pat1 {fn : Func} {p : Tmp} (h : fn.results = #[.cell p 29]) {X : World} {tmps : Array Value} {q : Patch} {b : Nat} (h1 : tmps.getD p undef = .pointer (some ⟨b, 0, none⟩)) (k1 : X.blk b = some (.cells (patCs q) 29 (0, 0))) :
 (results fn tmps).run Tryz.prog X = .ok q.agg X := by
 rw [results_c1 h, h1]
 simp only [asAddr, Sem.run_pure, Result.andThen_ok, load_pat k1]
theorem mkins_any (s t : Str) (w : World) : Calls Tryz.prog 14 #[vs s, vs t] w fun e w' => e = .returned (insP s t).agg ∧ Below w.heap.size w w' := by
 go_enter Tryz.func14, Tryz.ntmps14
 go_wp2_with fail
 refine bodyPost_ret (v := (insP s t).agg) (results_pat1 Tryz.results14 rfl (blk_alloc_at rfl)) rfl ⟨rfl, (Below.refl w.heap.size w).alloc (Nat.le_refl _) _⟩
theorem mkwords_any (s : Str) (k : Int) (w : World) : Calls Tryz.prog 13 #[vs s, .int .i64 k] w fun e w' => e = .returned (wordP s k).agg ∧ Below w.heap.size w w' := by
 go_enter Tryz.func13, Tryz.ntmps13
 go_wp2_with fail
 refine bodyPost_ret (v := (wordP s k).agg) (results_pat1 Tryz.results13 rfl (blk_alloc_at rfl)) rfl ⟨rfl, (Below.refl w.heap.size w).alloc (Nat.le_refl _) _⟩
theorem mkmove_any (s : Str) (w : World) : Calls Tryz.prog 15 #[vs s] w fun e w' => e = .returned (movP s).agg ∧ Below w.heap.size w w' := by
 go_enter Tryz.func15, Tryz.ntmps15
 go_wp2_with fail
 refine bodyPost_ret (v := (movP s).agg) (results_pat1 Tryz.results15 rfl (blk_alloc_at rfl)) rfl ⟨rfl, (Below.refl w.heap.size w).alloc (Nat.le_refl _) _⟩
end Go.Proofs.YtfolcjkednmkoaaGreat
namespace Go.Proofs.YtfolcjkednmkoaaGreat
open Go.RowKit
def storePat (a : Addr) (v : Value) : Sem Unit := storeVar 29 a v
@[go_sem ↓ high] theorem storeVar_pat_fold (a : Addr) (v : Value) : storeVar 29 a v = storePat a v := rfl
noncomputable def rowStore (W : World) (b : Nat) (C : Array Value) (x : Option Obj) : Result Unit :=
 match x with
 | some (.cells D t (0, 0)) => if D.size = 15 ∧ C.size = 15 ∧ C.all (·.oneCell') = true then .ok () (W.setRow b C) else (storeVar 29 ⟨b, 0, none⟩ (.agg C)).run Tryz.prog W
 | _ => (storeVar 29 ⟨b, 0, none⟩ (.agg C)).run Tryz.prog W
@[go_sem] theorem storePat_run (W : World) (b : Nat) (C : Array Value) : (storePat ⟨b, 0, none⟩ (.agg C)).run Tryz.prog W = rowStore W b C (W.blk b) := by
 unfold rowStore storePat World.blk
 split
 · rename_i D t h
   split
   · rename_i hn
     exact run_storeVar_row W b t 29 D C h (by rw [hn.2.1]; exact size28) (by rw [hn.1, hn.2.1]) hn.2.2
   · rfl
 · rfl
@[go_sem] theorem rowStore_cells (W : World) (b : Nat) (D : Array Value) (t : TypeId) (h : D.size = 15) (a0 : Int) (a1 a2 a3 a4 : Str) (a5 : Int) (a6 a7 a8 a9 a10 : Str) (a11 : Bool) (a12 : Int) (a13 a14 : Str) :
 rowStore W b #[.int .i64 a0, vs a1, vs a2, vs a3, vs a4, .int .i64 a5, vs a6, vs a7, vs a8, vs a9, vs a10, .bool a11, .int .i64 a12, vs a13, vs a14] (some (.cells D t (0, 0))) = .ok () (W.setRow b #[.int .i64 a0, vs a1, vs a2, vs a3, vs a4, .int .i64 a5, vs a6, vs a7, vs a8, vs a9, vs a10, .bool a11, .int .i64 a12, vs a13, vs a14]) := by
 show (if D.size = 15 ∧ _ ∧ _ then _ else _) = _
 rw [if_pos ⟨h, rfl, by simp [Value.oneCell']⟩]
@[go_sem] theorem blk_setRow_lt {w : World} {b k : Nat} {D : Array Value} (h : k ≠ b) : (w.setRow b D).blk k = w.blk k := blk_setRow_ne h
end Go.Proofs.YtfolcjkednmkoaaGreat
