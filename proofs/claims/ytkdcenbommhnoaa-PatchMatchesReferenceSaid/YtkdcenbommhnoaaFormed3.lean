/- patch.formed: insert, number; all kinds. -/
import Derived.Test.YtkdcenbommhnoaaFormed2
set_option linter.unusedVariables false
set_option linter.unusedSimpArgs false
namespace Go.Proofs.Ytkdcenbommhnoaa
open Go.RowKit
def form1 (p : Patch) : Bool := (List.isEmpty p.num && (p.lang == 0 && (List.isEmpty p.fr && List.isEmpty p.to)))
set_option maxRecDepth 20000 in
set_option maxHeartbeats 1000000 in
theorem formed_1a (p : Patch) (w : World) (hk : p.kind = 1) (hE : form1 p = false) :
    Calls Try.prog 28 #[p.agg] w fun e w' => e = .returned (.bool false) ∧ Below w.heap.size w w' := by
  have hd1 : (p.kind == 1) = true := by simp [hk]
  clear hk
  have HE := Lib.hid hE; clear hE
  go_enter Try.func28, Try.ntmps28
  have hE := HE.out
  unfold form1 at hE
  go_wp2_with fail
  go_region
  go_wp2_with fail
  go_ret
  exact ⟨rfl, ((((Below.refl _ _).alloc (Nat.le_refl _) _).alloc (by simp) _).alloc (by simp; omega) _).drew⟩
set_option maxRecDepth 20000 in
set_option maxHeartbeats 1000000 in
theorem formed_1b (p : Patch) (w : World) (hk : p.kind = 1) (hE : form1 p = true) (h2 : (p.item.id == p.id) = false) :
    Calls Try.prog 28 #[p.agg] w fun e w' => e = .returned (.bool false) ∧ Below w.heap.size w w' := by
  have hd1 : (p.kind == 1) = true := by simp [hk]
  clear hk
  have HE := Lib.hid hE; clear hE
  go_enter Try.func28, Try.ntmps28
  have hE := HE.out
  unfold form1 at hE
  go_wp2_with fail
  go_region
  go_wp2_with fail
  go_ret
  exact ⟨rfl, ((((Below.refl _ _).alloc (Nat.le_refl _) _).alloc (by simp) _).alloc (by simp; omega) _).drew⟩
set_option maxRecDepth 20000 in
set_option maxHeartbeats 1000000 in
theorem formed_1c (p : Patch) (w : World) (hk : p.kind = 1) (hE : form1 p = true) (h2 : (p.item.id == p.id) = true) (h3 : (p.item.par == p.par) = false) :
    Calls Try.prog 28 #[p.agg] w fun e w' => e = .returned (.bool false) ∧ Below w.heap.size w w' := by
  have hd1 : (p.kind == 1) = true := by simp [hk]
  clear hk
  have HE := Lib.hid hE; clear hE
  go_enter Try.func28, Try.ntmps28
  have hE := HE.out
  unfold form1 at hE
  go_wp2_with fail
  go_region
  go_wp2_with fail
  go_ret
  exact ⟨rfl, ((((Below.refl _ _).alloc (Nat.le_refl _) _).alloc (by simp) _).alloc (by simp; omega) _).drew⟩
set_option maxRecDepth 20000 in
set_option maxHeartbeats 1000000 in
theorem formed_1d (p : Patch) (w : World) (hk : p.kind = 1) (hsh : ({ p.item with par := [] } : Item).Short) (hE : form1 p = true) (h2 : (p.item.id == p.id) = true) (h3 : (p.item.par == p.par) = true) :
    Calls Try.prog 28 #[p.agg] w fun e w' => e = .returned (.bool (walkB [{ p.item with par := [] }])) ∧ Below w.heap.size w w' := by
  have hd1 : (p.kind == 1) = true := by simp [hk]
  clear hk
  have HE := Lib.hid hE; clear hE
  go_enter Try.func28, Try.ntmps28
  have hE := HE.out
  unfold form1 at hE
  go_wp2_with fail
  go_region
  go_wp2_with fail
  refine (formed1_any { p.item with par := [] } _ hsh).mono ?_
  rintro e w1 ⟨rfl, hb1⟩
  have HB1 := Lib.hid hb1; clear hb1
  go_wp2_with fail
  go_ret
  exact ⟨rfl, ((((Below.refl _ _).alloc (Nat.le_refl _) _).alloc (by simp) _).alloc (by simp; omega) _).drew.trans (HB1.out.mono (by simp; omega))⟩
def form3 (p : Patch) : Bool := (List.isEmpty p.par && (List.isEmpty p.aft && (p.item.kind == 0 && (List.isEmpty p.item.id && (List.isEmpty p.item.par && (List.isEmpty p.item.num && (List.isEmpty p.item.no && (List.isEmpty p.item.so && (!p.item.gone && (p.lang == 0 && (List.isEmpty p.fr && List.isEmpty p.to)))))))))))
set_option maxRecDepth 20000 in
set_option maxHeartbeats 1000000 in
theorem formed_3a (p : Patch) (w : World) (hk : p.kind = 3) (hE : form3 p = false) :
    Calls Try.prog 28 #[p.agg] w fun e w' => e = .returned (.bool false) ∧ Below w.heap.size w w' := by
  have hd1 : (p.kind == 1) = false := by simp [hk]
  have hd2 : (p.kind == 2) = false := by simp [hk]
  have hd3 : (p.kind == 3) = true := by simp [hk]
  clear hk
  have HE := Lib.hid hE; clear hE
  go_enter Try.func28, Try.ntmps28
  have hE := HE.out
  unfold form3 at hE
  go_wp2_with fail
  go_ret
  exact ⟨rfl, (((Below.refl _ _).alloc (Nat.le_refl _) _).alloc (by simp) _)⟩
set_option maxRecDepth 20000 in
set_option maxHeartbeats 1000000 in
theorem formed_3b (p : Patch) (w : World) (hk : p.kind = 3) (hsh : (⟨1, [100], [], p.num, [], [], false⟩ : Item).Short) (hE : form3 p = true) :
    Calls Try.prog 28 #[p.agg] w fun e w' => e = .returned (.bool (walkB [⟨1, [100], [], p.num, [], [], false⟩])) ∧ Below w.heap.size w w' := by
  have hd1 : (p.kind == 1) = false := by simp [hk]
  have hd2 : (p.kind == 2) = false := by simp [hk]
  have hd3 : (p.kind == 3) = true := by simp [hk]
  clear hk
  have HE := Lib.hid hE; clear hE
  go_enter Try.func28, Try.ntmps28
  have hE := HE.out
  unfold form3 at hE
  go_wp2_with fail
  refine (formed1_any ⟨1, [100], [], p.num, [], [], false⟩ _ hsh).mono ?_
  rintro e w1 ⟨rfl, hb1⟩
  have HB1 := Lib.hid hb1; clear hb1
  go_wp2_with fail
  go_ret
  exact ⟨rfl, (((Below.refl _ _).alloc (Nat.le_refl _) _).alloc (by simp) _).trans (HB1.out.mono (by simp; omega))⟩
end Go.Proofs.Ytkdcenbommhnoaa
