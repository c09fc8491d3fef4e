/- What came in as data: lists of patches, of small numbers; the cell of MaxLen. -/
import Derived.Test.YtfolcjkednmkoaaOpen
import Derived.ChangeSlices
set_option linter.unusedVariables false
set_option linter.unusedSimpArgs false
namespace Go.Proofs.Ytfolcjkednmkoaa
open Go.ChangeShapes Go.WideShapes Go.ChangeAt Go.RowKit
theorem Try.own : ownKnob Try.prog.godebug = none := by kernel_rfl
theorem Try.laidOut : laidOutB Try.prog = true := by kernel_rfl
theorem maxLen_cell (W : World) (h : W.ShapedOpen Try.prog) : ∃ m, W.cell? ⟨0, 0, none⟩ = some (.int .i64 m) :=
  cell_of_shapedOpen_int (t := 3) (zero := #[.int .i64 0]) h (of_decide_eq_true (by kernel_rfl)) (by kernel_rfl) rfl (by kernel_rfl) (by kernel_rfl) Try.underlying3
section
variable {H : Type} {enc : TypeId × Value → H} {w : World} {base : Nat} {spare : Nat → Bool} {held : Bool}
theorem cells_pats : Try.prog.cellsOf 31 = 1 := by kernel_rfl
set_option maxRecDepth 100000 in
theorem open_pats {v : Value} {b0 : Nat} {d : DataW H} {p : List MemPlace} (hv : Value.okWide Try.prog w .any b0 31 v) (h : DataW.Trod enc Try.prog w base spare held 31 v d p) :
    ∃ (l : List Patch) (A : Option Addr) (c : Nat), v = .slice A l.length c ∧ RdP w A l ∧ l.length ≤ c ∧ c ≤ maxLen ∧ ((l = [] ∧ d = .nil) ∨ ∃ sp, d = .slice (l.map patD) sp) := by
  obtain ⟨a, n, m, rfl⟩ := okWide_slice Try.underlying31 hv
  obtain ⟨fuel, hf⟩ := h
  exact open_list (cs := Patch.cells) (D := patD) (s := 15) (by omega) Try.underlying31 cells_patch (fun x => rfl) open_patC hf
theorem pats_fits {ts : List TypeId} {ds : List (DataW H)} (hsz : (DataW.weightsEach Try.prog ts ds).all (· ≤ reachBytes) = true) {j : Nat} {d : DataW H} {l : List Patch} (ht : ts[j]? = some 31) (hd : ds[j]? = some d) (hc : (l = [] ∧ d = .nil) ∨ ∃ sp, d = .slice (l.map patD) sp) : ∀ x ∈ l, x.Fits := by
  intro x hx
  rcases hc with ⟨h1, _⟩ | ⟨sp, rfl⟩
  · subst h1; simp at hx
  refine fits_pat (H := H) (fun n hn => ?_)
  have := List.all_eq_true.1 hsz n (DataW.weights_mem_each ht hd n ?_)
  · simpa using this
  · simp only [DataW.weights, Try.underlying31]
    refine List.mem_cons_of_mem _ (List.mem_append_left _ (weightsAll_mem (List.mem_map_of_mem hx) hn))
theorem pats_big {ts : List TypeId} {ds : List (DataW H)} (hsz : (DataW.weightsEach Try.prog ts ds).all (· ≤ reachBytes) = true) {j : Nat} {d : DataW H} {l : List Patch} (ht : ts[j]? = some 31) (hd : ds[j]? = some d) (hc : (l = [] ∧ d = .nil) ∨ ∃ sp, d = .slice (l.map patD) sp) : l.length * 208 ≤ 140737488351232 := by
  rcases hc with ⟨h1, _⟩ | ⟨sp, rfl⟩
  · subst h1; simp
  have := List.all_eq_true.1 hsz ((l.length + sp.length) * 208) (DataW.weights_mem_each ht hd _ ?_)
  · have h2 : (l.length + sp.length) * 208 ≤ reachBytes := by simpa using this
    unfold reachBytes at h2
    omega
  · simp only [DataW.weights, Try.underlying31, List.length_map, show Try.prog.bytesOf 28 = 208 by kernel_rfl]
    exact List.mem_cons_self
/- numbers of eight bits -/
abbrev U8 := { x : Int // 0 ≤ x ∧ x ≤ 255 }
instance : Inhabited U8 := ⟨⟨0, by omega⟩⟩
def u8c (x : U8) : List Value := [.int .u8 x.1]
def u8D (x : U8) : DataW H := .lit (.int .u8 x.1)
theorem open_u8 {fuel : Nat} {cs : List Value} {x : DataW H × List MemPlace} (h : DataW.trod enc Try.prog w base spare held fuel 5 cs = some x) : ∃ u : U8, cs = u8c u ∧ x.1 = u8D u := by
  obtain ⟨n, rfl, rfl, hw⟩ := DataW.trod_int Try.underlying5 h
  refine ⟨⟨n, ?_⟩, rfl, rfl⟩
  simp [Lit.wf, IntKind.min, IntKind.max, IntKind.signed, IntKind.bits] at hw
  omega
set_option maxRecDepth 100000 in
theorem open_u8s {v : Value} {b0 : Nat} {d : DataW H} {p : List MemPlace} (hv : Value.okWide Try.prog w .any b0 45 v) (h : DataW.Trod enc Try.prog w base spare held 45 v d p) :
    ∃ (l : List U8) (A : Option Addr) (c : Nat), v = .slice A l.length c ∧ Sl u8c 1 w A l ∧ l.length ≤ c ∧ c ≤ maxLen := by
  obtain ⟨a, n, m, rfl⟩ := okWide_slice Try.underlying45 hv
  obtain ⟨fuel, hf⟩ := h
  obtain ⟨l, A, c, h1, h2, h3, h4, _⟩ := open_list (cs := u8c) (D := u8D) (s := 1) (by omega) Try.underlying45 (by kernel_rfl) (fun x => rfl) open_u8 hf
  exact ⟨l, A, c, h1, h2, h3, h4⟩
end
end Go.Proofs.Ytfolcjkednmkoaa
