/- patch.formed. -/
import Derived.Test.YtkdcenbommhnoaaPatEq
set_option linter.unusedVariables false
set_option linter.unusedSimpArgs false
namespace Go.Proofs.Ytkdcenbommhnoaa
open Go.RowKit
set_option maxRecDepth 20000 in
set_option maxHeartbeats 1000000 in
theorem formed1_any (x : Item) (w : World) (hsh : x.Short) :
    Calls Try.prog 53 #[x.agg] w fun e w' => e = .returned (.bool (walkB [x])) ∧ Below w.heap.size w w' := by
  go_enter Try.func53, Try.ntmps53
  go_wp2_with fail
  refine (valid_any [x] (some ⟨w.heap.size + 1, 0, none⟩) 1 _ (RdI.of_row (cur := x.cells) (rest := []) (t := 26) (heap_new_at (by simp)) (by simp [flat])) (by simp) (by simpa using hsh)).mono ?_
  rintro e w1 ⟨rfl, hb1⟩
  go_wp2_with fail
  go_ret
  exact ⟨rfl, (((Below.refl _ _).alloc (Nat.le_refl _) _).alloc (by simp) _).trans (hb1.mono (by simp; omega))⟩
def patEq (p q : Patch) : Bool :=
  p.kind == q.kind && (p.id == q.id && (p.par == q.par && (p.aft == q.aft && (p.num == q.num && (p.item.kind == q.item.kind && (p.item.id == q.item.id && (p.item.par == q.item.par && (p.item.num == q.item.num && (p.item.no == q.item.no && (p.item.so == q.item.so && (p.item.gone == q.item.gone && (p.lang == q.lang && (p.fr == q.fr && p.to == q.to)))))))))))))
def bare (p : Patch) : Patch := ⟨p.kind, p.id, [], [], [], noItem, 0, [], []⟩
theorem isEmpty_eq (l : Str) : (l == []) = l.isEmpty := by cases l <;> rfl
set_option maxRecDepth 20000 in
set_option maxHeartbeats 1000000 in
theorem formed_5 (p : Patch) (w : World) (hk : p.kind = 5) :
    Calls Try.prog 28 #[p.agg] w fun e w' => e = .returned (.bool (patEq p (bare p))) ∧ Below w.heap.size w w' := by
  have hd1 : (p.kind == 1) = false := by simp [hk]
  have hd2 : (p.kind == 2) = false := by simp [hk]
  have hd3 : (p.kind == 3) = false := by simp [hk]
  have hd4 : (p.kind == 4) = false := by simp [hk]
  have hd5 : (p.kind == 5) = true := by simp [hk]
  have hd6 : (p.kind == 6) = false := by simp [hk]
  have hd7 : (p.kind == 7) = false := by simp [hk]
  clear hk
  go_enter Try.func28, Try.ntmps28
  go_wp2_with fail
  go_ret
  exact ⟨ret_bool (by unfold patEq bare noItem; simp [isEmpty_eq]), ((Below.refl _ _).alloc (Nat.le_refl _) _).alloc (by simp) _⟩
set_option maxRecDepth 20000 in
set_option maxHeartbeats 1000000 in
theorem formed_6 (p : Patch) (w : World) (hk : p.kind = 6) :
    Calls Try.prog 28 #[p.agg] w fun e w' => e = .returned (.bool (patEq p (bare p))) ∧ Below w.heap.size w w' := by
  have hd1 : (p.kind == 1) = false := by simp [hk]
  have hd2 : (p.kind == 2) = false := by simp [hk]
  have hd3 : (p.kind == 3) = false := by simp [hk]
  have hd4 : (p.kind == 4) = false := by simp [hk]
  have hd5 : (p.kind == 5) = false := by simp [hk]
  have hd6 : (p.kind == 6) = true := by simp [hk]
  have hd7 : (p.kind == 7) = false := by simp [hk]
  clear hk
  go_enter Try.func28, Try.ntmps28
  go_wp2_with fail
  go_ret
  exact ⟨ret_bool (by unfold patEq bare noItem; simp [isEmpty_eq]), ((Below.refl _ _).alloc (Nat.le_refl _) _).alloc (by simp) _⟩
set_option maxRecDepth 20000 in
set_option maxHeartbeats 1000000 in
theorem formed_4 (p : Patch) (w : World) (hk : p.kind = 4) :
    Calls Try.prog 28 #[p.agg] w fun e w' => e = .returned (.bool (patEq p { bare p with par := p.par, aft := p.aft })) ∧ Below w.heap.size w w' := by
  have hd1 : (p.kind == 1) = false := by simp [hk]
  have hd2 : (p.kind == 2) = false := by simp [hk]
  have hd3 : (p.kind == 3) = false := by simp [hk]
  have hd4 : (p.kind == 4) = true := by simp [hk]
  have hd5 : (p.kind == 5) = false := by simp [hk]
  have hd6 : (p.kind == 6) = false := by simp [hk]
  have hd7 : (p.kind == 7) = false := by simp [hk]
  clear hk
  go_enter Try.func28, Try.ntmps28
  go_wp2_with fail
  go_region
  go_wp2_with fail
  go_ret
  exact ⟨ret_bool (by unfold patEq bare noItem; simp [isEmpty_eq]), (((Below.refl _ _).alloc (Nat.le_refl _) _).alloc (by simp) _).drew⟩
set_option maxRecDepth 20000 in
set_option maxHeartbeats 1000000 in
theorem formed_7 (p : Patch) (w : World) (hk : p.kind = 7) :
    Calls Try.prog 28 #[p.agg] w fun e w' => e = .returned (.bool (patEq p { bare p with item := { noItem with no := p.item.no, so := p.item.so } })) ∧ Below w.heap.size w w' := by
  have hd1 : (p.kind == 1) = false := by simp [hk]
  have hd2 : (p.kind == 2) = false := by simp [hk]
  have hd3 : (p.kind == 3) = false := by simp [hk]
  have hd4 : (p.kind == 4) = false := by simp [hk]
  have hd5 : (p.kind == 5) = false := by simp [hk]
  have hd6 : (p.kind == 6) = false := by simp [hk]
  have hd7 : (p.kind == 7) = true := by simp [hk]
  clear hk
  go_enter Try.func28, Try.ntmps28
  go_wp2_with fail
  go_region
  go_wp2_with fail
  go_ret
  exact ⟨ret_bool (by unfold patEq bare noItem; simp [isEmpty_eq]), (((Below.refl _ _).alloc (Nat.le_refl _) _).alloc (by simp) _).drew⟩
set_option maxRecDepth 20000 in
set_option maxHeartbeats 1000000 in
theorem formed_0 (p : Patch) (w : World) (hk : p.kind < 1 ∨ 7 < p.kind) :
    Calls Try.prog 28 #[p.agg] w fun e w' => e = .returned (.bool false) ∧ Below w.heap.size w w' := by
  have hd1 : (p.kind == 1) = false := by simp; omega
  have hd2 : (p.kind == 2) = false := by simp; omega
  have hd3 : (p.kind == 3) = false := by simp; omega
  have hd4 : (p.kind == 4) = false := by simp; omega
  have hd5 : (p.kind == 5) = false := by simp; omega
  have hd6 : (p.kind == 6) = false := by simp; omega
  have hd7 : (p.kind == 7) = false := by simp; omega
  clear hk
  go_enter Try.func28, Try.ntmps28
  go_wp2_with fail
  go_ret
  exact ⟨rfl, ((Below.refl _ _).alloc (Nat.le_refl _) _).alloc (by simp) _⟩
end Go.Proofs.Ytkdcenbommhnoaa
