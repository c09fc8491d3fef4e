/- patch.formed: words. -/
import Derived.Test.YtkdcenbommhnoaaFormed
set_option linter.unusedVariables false
set_option linter.unusedSimpArgs false
namespace Go.Proofs.Ytkdcenbommhnoaa
open Go.RowKit
def form2 (p : Patch) : Bool := (List.isEmpty p.par && (List.isEmpty p.aft && (List.isEmpty p.num && (p.item.kind == 0 && (List.isEmpty p.item.id && (List.isEmpty p.item.par && (List.isEmpty p.item.num && (List.isEmpty p.item.no && (List.isEmpty p.item.so && !p.item.gone)))))))))
set_option maxRecDepth 20000 in
set_option maxHeartbeats 1000000 in
theorem formed_2a (p : Patch) (w : World) (hk : p.kind = 2) (hE : form2 p = false) :
    Calls Try.prog 28 #[p.agg] w fun e w' => e = .returned (.bool false) ∧ Below w.heap.size w w' := by
  have hd1 : (p.kind == 1) = false := by simp [hk]
  have hd2 : (p.kind == 2) = true := by simp [hk]
  clear hk
  have HE := Lib.hid hE; clear hE
  go_enter Try.func28, Try.ntmps28
  have hE := HE.out
  unfold form2 at hE
  go_wp2_with fail
  go_region
  go_wp2_with fail
  go_ret
  exact ⟨rfl, (((Below.refl _ _).alloc (Nat.le_refl _) _).alloc (by simp) _).drew⟩
set_option maxRecDepth 20000 in
set_option maxHeartbeats 1000000 in
theorem formed_2b (p : Patch) (w : World) (hk : p.kind = 2) (hE : form2 p = true) (hf : p.fr.isEmpty = true) :
    Calls Try.prog 28 #[p.agg] w fun e w' => e = .returned (.bool false) ∧ Below w.heap.size w w' := by
  have hd1 : (p.kind == 1) = false := by simp [hk]
  have hd2 : (p.kind == 2) = true := by simp [hk]
  clear hk
  have HE := Lib.hid hE; clear hE
  go_enter Try.func28, Try.ntmps28
  have hE := HE.out
  unfold form2 at hE
  go_wp2_with fail
  go_region
  go_wp2_with fail
  go_ret
  exact ⟨rfl, (((Below.refl _ _).alloc (Nat.le_refl _) _).alloc (by simp) _).drew⟩
set_option maxRecDepth 20000 in
set_option maxHeartbeats 1000000 in
theorem formed_2c (p : Patch) (w : World) (hk : p.kind = 2) (hE : form2 p = true) (hf : p.fr.isEmpty = false) (hl : (p.lang == 1) = true) :
    Calls Try.prog 28 #[p.agg] w fun e w' => e = .returned (.bool true) ∧ Below w.heap.size w w' := by
  have hd1 : (p.kind == 1) = false := by simp [hk]
  have hd2 : (p.kind == 2) = true := by simp [hk]
  clear hk
  have HE := Lib.hid hE; clear hE
  go_enter Try.func28, Try.ntmps28
  have hE := HE.out
  unfold form2 at hE
  go_wp2_with fail
  go_region
  go_wp2_with fail
  go_ret
  exact ⟨rfl, (((Below.refl _ _).alloc (Nat.le_refl _) _).alloc (by simp) _).drew⟩
set_option maxRecDepth 20000 in
set_option maxHeartbeats 1000000 in
theorem formed_2d (p : Patch) (w : World) (hk : p.kind = 2) (hE : form2 p = true) (hf : p.fr.isEmpty = false) (hl : (p.lang == 1) = false) :
    Calls Try.prog 28 #[p.agg] w fun e w' => e = .returned (.bool (p.lang == 2)) ∧ Below w.heap.size w w' := by
  have hd1 : (p.kind == 1) = false := by simp [hk]
  have hd2 : (p.kind == 2) = true := by simp [hk]
  clear hk
  have HE := Lib.hid hE; clear hE
  go_enter Try.func28, Try.ntmps28
  have hE := HE.out
  unfold form2 at hE
  go_wp2_with fail
  go_region
  go_wp2_with fail
  go_ret
  exact ⟨rfl, (((Below.refl _ _).alloc (Nat.le_refl _) _).alloc (by simp) _).drew⟩
end Go.Proofs.Ytkdcenbommhnoaa
