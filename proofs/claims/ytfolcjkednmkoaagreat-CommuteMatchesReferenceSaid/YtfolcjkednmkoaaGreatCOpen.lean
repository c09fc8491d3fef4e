/- What came in as data: lists of patches, of small numbers; the cell of MaxLen. -/
import Derived.Test.YtfolcjkednmkoaaGreatOpen
import Derived.ChangeSlices
set_option linter.unusedVariables false
set_option linter.unusedSimpArgs false
set_option maxRecDepth 100000
namespace Go.Proofs.YtfolcjkednmkoaaGreat
open Go.ChangeShapes Go.WideShapes Go.ChangeAt Go.RowKit
theorem Tryz.own : ownKnob Tryz.prog.godebug = none := by kernel_rfl
theorem Tryz.laidOut : laidOutB Tryz.prog = true := by kernel_rfl
theorem maxLen_cell (W : World) (h : W.ShapedOpen Tryz.prog) : ∃ m, W.cell? ⟨0, 0, none⟩ = some (.int .i64 m) :=
 cell_of_shapedOpen_int (t := 3) (zero := #[.int .i64 0]) h (of_decide_eq_true (by kernel_rfl)) (by kernel_rfl) rfl (by kernel_rfl) (by kernel_rfl) Tryz.underlying3
section
variable {H : Type} {enc : TypeId × Value → H} {w : World} {base : Nat} {spare : Nat → Bool} {held : Bool}
theorem open_pats {v : Value} {b0 : Nat} {d : DataW H} {p : List MemPlace} (hv : Value.okWide Tryz.prog w .any b0 25 v) (h : DataW.Trod enc Tryz.prog w base spare held 25 v d p) :
 ∃ (l : List Patch) (A : Option Addr) (c : Nat), v = .slice A l.length c ∧ RdP w A l ∧ l.length ≤ c ∧ c ≤ maxLen ∧ ((l = [] ∧ d = .nil) ∨ ∃ sp, d = .slice (l.map patD) sp) := by
 obtain ⟨a, n, m, rfl⟩ := okWide_slice Tryz.underlying25 hv
 obtain ⟨fuel, hf⟩ := h
 exact open_list (cs := Patch.cells) (D := patD) (s := 15) (by omega) Tryz.underlying25 cells_patch (fun x => rfl) open_patC hf
theorem pats_fits {ts : List TypeId} {ds : List (DataW H)} (hsz : (DataW.weightsEach Tryz.prog ts ds).all (· ≤ reachBytes) = true) {j : Nat} {d : DataW H} {l : List Patch} (ht : ts[j]? = some 25) (hd : ds[j]? = some d) (hc : (l = [] ∧ d = .nil) ∨ ∃ sp, d = .slice (l.map patD) sp) : ∀ x ∈ l, x.Fits := by
 intro x hx
 rcases hc with ⟨h1, _⟩ | ⟨sp, rfl⟩
 · subst h1; simp at hx
 refine fits_pat (H := H) (fun n hn => ?_)
 have := List.all_eq_true.1 hsz n (DataW.weights_mem_each ht hd n ?_)
 · simpa using this
 · simp only [DataW.weights, Tryz.underlying25]
   refine List.mem_cons_of_mem _ (List.mem_append_left _ (weightsAll_mem (List.mem_map_of_mem hx) hn))
theorem pats_big {ts : List TypeId} {ds : List (DataW H)} (hsz : (DataW.weightsEach Tryz.prog ts ds).all (· ≤ reachBytes) = true) {j : Nat} {d : DataW H} {l : List Patch} (ht : ts[j]? = some 25) (hd : ds[j]? = some d) (hc : (l = [] ∧ d = .nil) ∨ ∃ sp, d = .slice (l.map patD) sp) : l.length * 208 ≤ 140737488351232 := by
 rcases hc with ⟨h1, _⟩ | ⟨sp, rfl⟩
 · subst h1; simp
 have := List.all_eq_true.1 hsz ((l.length + sp.length) * 208) (DataW.weights_mem_each ht hd _ ?_)
 · have h2 : (l.length + sp.length) * 208 ≤ reachBytes := by simpa using this
   unfold reachBytes at h2
   omega
 · simp only [DataW.weights, Tryz.underlying25, List.length_map, show Tryz.prog.bytesOf 29 = 208 by kernel_rfl]
   exact List.mem_cons_self
end
end Go.Proofs.YtfolcjkednmkoaaGreat
