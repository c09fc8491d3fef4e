/- The laws' helper example. -/
import Derived.Test.YtkdcenbommhnoaaLight
import Derived.Test.YtkdcenbommhnoaaApply2
set_option linter.unusedVariables false
set_option linter.unusedSimpArgs false
namespace Go.Proofs.Ytkdcenbommhnoaa
open Go.RowKit
def exL : List Item := [⟨1, [100, 49], [], [], [], [], false⟩, ⟨2, [112, 49], [100, 49], [], [97, 97, 97], [], false⟩, ⟨2, [112, 50], [100, 49], [], [], [], false⟩, ⟨2, [112, 51], [], [], [], [], false⟩]
set_option maxRecDepth 20000 in
set_option maxHeartbeats 1000000 in
theorem example_any (w : World) :
    Calls Try.prog 27 #[] w fun e w' => ∃ A, e = .returned (.agg #[.slice A 4 4]) ∧ RdI w' A exL ∧ Below w.heap.size w w' := by
  go_enter Try.func27, Try.ntmps27
  go_wp2_with fail
  refine bodyPost_ret (v := .agg #[.slice (some ⟨w.heap.size + 1, 0, none⟩) 4 4]) (by simp [results, Try.results27, go_sem]) rfl ⟨_, rfl, ?_, ?_⟩
  · exact RdI.of_row (cur := flat exL) (rest := []) (t := 26) (heap_new_at (by simp)) (by simp)
  · exact ((Below.refl _ _).alloc (Nat.le_refl _) _).alloc (by simp) _
theorem exL_short : ∀ x ∈ exL, x.Short := by
  intro x hx
  have h : ∀ x ∈ exL, x.id.length ≤ 3 ∧ x.par.length ≤ 3 ∧ x.num.length ≤ 3 ∧ x.no.length ≤ 3 ∧ x.so.length ≤ 3 := by simp [exL]
  obtain ⟨h1, h2, h3, h4, h5⟩ := h x hx
  unfold maxLen at *
  exact ⟨by unfold maxLen; omega, by unfold maxLen; omega, by unfold maxLen; omega, by unfold maxLen; omega, by unfold maxLen; omega⟩
theorem noItem_short : noItem.Short := ⟨by simp [noItem], by simp [noItem], by simp [noItem], by simp [noItem], by simp [noItem]⟩
theorem ex_apply (q : Patch) (r : List Item) (e : Int) (h1 : (applyF exL q).1 = r) (h2 : (applyF exL q).2 = e) (A : Option Addr) (w : World) (m : Int) (hr : RdI w A exL) (hg : w.cell? ⟨0, 0, none⟩ = some (.int .i64 m)) (hs : q.item.Short) (hn : q.num.length ≤ maxLen) (ht : q.to.length ≤ 1000000) :
    Calls Try.prog 13 #[.agg #[.slice A 4 4], q.agg] w fun en w' => ∃ A' c', en = .returned (.tuple #[.agg #[.slice A' r.length c'], .int .i64 e]) ∧ RdI w' A' r ∧ Below w.heap.size w w' := by
  have := apply_any exL A 4 q w hr (by decide) (by decide) exL_short hs hn m hg ht
  unfold Applies at this
  rw [h1, h2] at this
  refine this.mono ?_
  rintro en w' ⟨v, rfl, ⟨A', c', rfl, hr', _, _⟩, hb⟩
  exact ⟨A', c', rfl, hr', hb⟩
def xq1 : Patch := ⟨4, [112, 49], [], [], [], noItem, 0, [], []⟩
def xq2 : Patch := ⟨4, [100, 49], [], [112, 51], [], noItem, 0, [], []⟩
def xq3 : Patch := ⟨4, [100, 49], [100, 49], [], [], noItem, 0, [], []⟩
def xq4 : Patch := ⟨1, [112, 52], [100, 49], [112, 49], [], ⟨2, [112, 52], [100, 49], [], [], [], false⟩, 0, [], []⟩
def xq5 : Patch := ⟨2, [112, 49], [], [], [], noItem, 1, [97, 97], [98]⟩
def xq6 : Patch := ⟨5, [100, 49], [], [], [], noItem, 0, [], []⟩
theorem xf1 : ∃ r, (applyF exL xq1).1 = r ∧ (applyF exL xq1).2 = 0 ∧ (idsL r == [[112, 49], [100, 49], [112, 50], [112, 51]]) = true ∧ r.length ≤ 10 := ⟨_, rfl, by kernel_rfl, by kernel_rfl, by decide +kernel⟩
theorem xf2 : ∃ r, (applyF exL xq2).1 = r ∧ (applyF exL xq2).2 = 0 ∧ (idsL r == [[112, 51], [100, 49], [112, 49], [112, 50]]) = true ∧ r.length ≤ 10 := ⟨_, rfl, by kernel_rfl, by kernel_rfl, by decide +kernel⟩
theorem xf3 : ∃ r, (applyF exL xq3).1 = r ∧ (applyF exL xq3).2 = 14 := ⟨_, rfl, by kernel_rfl⟩
theorem xf4 : ∃ r, (applyF exL xq4).1 = r ∧ (applyF exL xq4).2 = 0 ∧ (idsL r == [[100, 49], [112, 49], [112, 52], [112, 50], [112, 51]]) = true ∧ r.length ≤ 10 := ⟨_, rfl, by kernel_rfl, by kernel_rfl, by decide +kernel⟩
theorem xf5 : ∃ r, (applyF exL xq5).1 = r ∧ (applyF exL xq5).2 = 15 := ⟨_, rfl, by kernel_rfl⟩
theorem xf6 : ∃ r, (applyF exL xq6).1 = r ∧ (applyF exL xq6).2 = 11 := ⟨_, rfl, by kernel_rfl⟩
end Go.Proofs.Ytkdcenbommhnoaa
