/- pandectlaw19.PatchLists returns true for every code, list of patches and number, and leaves them as they were. No condition. -/
import Derived.Test.YtkdcenbommhnoaaPLists
import Derived.Test.YtkdcenbommhnoaaOpen
set_option linter.unusedVariables false
set_option linter.unusedSimpArgs false
namespace Go.Proofs.Ytkdcenbommhnoaa
open Go.ChangeShapes Go.WideShapes Go.ChangeAt Go.RowKit
theorem Try.own : ownKnob Try.prog.godebug = none := by kernel_rfl
theorem Try.laidOut : laidOutB Try.prog = true := by kernel_rfl
theorem maxLen_cell (W : World) (h : W.ShapedOpen Try.prog) : ∃ m, W.cell? ⟨0, 0, none⟩ = some (.int .i64 m) :=
  cell_of_shapedOpen_int (t := 3) (zero := #[.int .i64 0]) h (of_decide_eq_true (by kernel_rfl)) (by kernel_rfl) rfl (by kernel_rfl) (by kernel_rfl) Try.underlying3
section
variable {H : Type} {enc : TypeId × Value → H} {w : World} {base : Nat} {spare : Nat → Bool} {held : Bool}
theorem cells_pats : Try.prog.cellsOf 44 = 1 := by kernel_rfl
set_option maxRecDepth 100000 in
theorem open_pats {v : Value} {b0 : Nat} {d : DataW H} {p : List MemPlace} (hv : Value.okWide Try.prog w .any b0 44 v) (h : DataW.Trod enc Try.prog w base spare held 44 v d p) :
    ∃ (l : List Patch) (A : Option Addr) (c : Nat), v = .slice A l.length c ∧ RdP w A l ∧ l.length ≤ c ∧ c ≤ maxLen ∧ ((l = [] ∧ d = .nil) ∨ ∃ sp, d = .slice (l.map patD) sp) := by
  obtain ⟨a, n, m, rfl⟩ := okWide_slice Try.underlying44 hv
  obtain ⟨fuel, hf⟩ := h
  exact open_list (cs := Patch.cells) (D := patD) (s := 15) (by omega) Try.underlying44 cells_patch (fun x => rfl) open_patC hf
theorem pats_fits {ts : List TypeId} {ds : List (DataW H)} (hsz : (DataW.weightsEach Try.prog ts ds).all (· ≤ reachBytes) = true) {j : Nat} {d : DataW H} {l : List Patch} (ht : ts[j]? = some 44) (hd : ds[j]? = some d) (hc : (l = [] ∧ d = .nil) ∨ ∃ sp, d = .slice (l.map patD) sp) : ∀ x ∈ l, x.Fits := by
  intro x hx
  rcases hc with ⟨h1, _⟩ | ⟨sp, rfl⟩
  · subst h1; simp at hx
  refine fits_pat (H := H) (fun n hn => ?_)
  have := List.all_eq_true.1 hsz n (DataW.weights_mem_each ht hd n ?_)
  · simpa using this
  · simp only [DataW.weights, Try.underlying44]
    refine List.mem_cons_of_mem _ (List.mem_append_left _ (weightsAll_mem (List.mem_map_of_mem hx) hn))
end
set_option maxRecDepth 100000 in
theorem patchLists_lifted (os : Os) (started : os.Started) (H : Type) (enc : TypeId × Value → H) :
    ReturnsInHanded {} Try.checked os 7 .any (Rows.patchListsSpec.pre6 enc Try.prog Try.f7 Rows.patchListsRow.domain false) (Rows.patchListsSpec.post enc Try.prog Try.f7 false true false false) := by
  refine returnsInHanded_of_change_shaped (C := Try.checked) Try.own started (by kernel_rfl) Try.func7
    (ChangeSpec.witness6 (enc := enc) (C := Try.checked) false ⟨#[], #[.agg #[.slice none 0 0], .slice none 0 0, .int .u8 0], []⟩ 8 (by kernel_rfl) (by kernel_rfl) (by kernel_rfl) (by kernel_rfl)) ?_
  intro W base args ds gs before hval0 hW hcnd0 hsz0 hsh _
  have hval : ∀ (j : Nat) t v, Try.f7.params[j]? = some t → args[j]? = some v → Value.okWide Try.prog W .any base t v := hval0
  have hsz : (DataW.weightsEach Try.prog (Try.f7.params.toList ++ Rows.patchListsSpec.plain.varTypes Try.prog) (ds ++ gs)).all (· ≤ reachBytes) = true := hsz0
  have hW' := hW
  obtain ⟨p, q, hA0, hV, rfl, hfz, hnd⟩ := hW
  have hA : DataW.TrodAll enc Try.prog W 0 (fun _ => true) true Try.f7.params.toList args.toList ds p := hA0
  rw [Try.params7] at hA hval hsz
  obtain ⟨v0, v1, v2, d0, d1, d2, p0, p1, p2, rfl, rfl, rfl, h0, h1, h2⟩ := trodAll_three hA
  obtain ⟨rfl, rfl⟩ := trodVars_none hV
  obtain ⟨l, A, c, rfl, hr, hlc, hl, hcd⟩ := open_code (hval 0 24 v0 rfl rfl) h0
  obtain ⟨ps, B, dc, rfl, hs, hmc, hdm, hpd⟩ := open_pats (hval 1 44 v1 rfl rfl) h1
  obtain ⟨raw, rfl, rfl, rfl, hraw⟩ := open_int Try.underlying5 (hval 2 5 v2 rfl rfl) h2
  clear hA0 hval0
  simp only [List.append_nil] at hW'
  have hfit := code_fits hsz (j := 0) rfl rfl hcd
  have hpf := pats_fits hsz (j := 1) rfl rfl hpd
  obtain ⟨m, hm⟩ := maxLen_cell W hsh
  have hraw' : 0 ≤ raw ∧ raw ≤ 255 := by
    have h := hraw
    simp [Lit.wf, IntKind.min, IntKind.max, IntKind.signed, IntKind.bits] at h
    omega
  have hlt : ∀ x ∈ p0 ++ p1, x.block < W.heap.size := fun x hx => by simpa using hW'.lt x (by simpa using hx)
  refine (plists_any l ps A B c dc raw W m hr hs hl hlc (by omega) hmc hdm hraw' hfit hpf hm).mono fun e W' ⟨he, bel⟩ => ?_
  subst he
  refine ⟨_, rfl, _, _, _, [], p0 ++ p1, [], hW', trodAll_mk1 (shut_bool Try.underlying4 _), ?_, rfl, bel.frame _, fun h => by cases h⟩
  have h3 := trodAll_mk3 (Below.trod Try.laidOut (by kernel_rfl) (of_decide_eq_true (by kernel_rfl)) h0 bel (fun x hx => hlt x (List.mem_append_left _ hx))) (Below.trod Try.laidOut (by kernel_rfl) (of_decide_eq_true (by kernel_rfl)) h1 bel (fun x hx => hlt x (List.mem_append_right _ hx))) (shut_int (w := W') (enc := enc) (base := 0) (spare := fun b => decide (b < W.heap.size)) (held := true) Try.underlying5 hraw)
  rw [List.append_nil] at h3
  exact h3
theorem patchLists_holds : Rows.PatchListsSaid :=
  OpenClaim.holds_of_wide 7 Try.f7 rfl rfl rfl rfl rfl rfl rfl ⟨rfl, rfl, rfl, rfl, rfl⟩ rfl rfl rfl rfl rfl (by kernel_rfl) Try.func7 (by kernel_rfl)
    (of_decide_eq_true (by kernel_rfl)) (by unfold Func.isWrapper; rw [if_neg (of_decide_eq_false (by kernel_rfl))]; exact ⟨rfl, rfl⟩)
    (fun os started H enc _ => patchLists_lifted os started H enc)
#print axioms patchLists_holds
end Go.Proofs.Ytkdcenbommhnoaa
