/- code.Find and what it calls return the index of the first item with an Id. -/
import Derived.Test.YtfolcjkednmkoaaGreatBase
set_option linter.unusedVariables false
set_option linter.unusedSimpArgs false
set_option maxRecDepth 20000
set_option maxHeartbeats 400000
namespace Go.Proofs.YtfolcjkednmkoaaGreat
open Go.RowKit
theorem indexFunc (l : List Item) (A : Option Addr) (c : Nat) (g : Nat) (caps : Array Value) (p : Item → Bool) (w : World) (hr : RdI w A l) (hl : l.length ≤ maxLen)
 (hcf : ∀ us W, (callFunc g us).run Tryz.prog W = .ok (.enter g us) W)
 (hg : ∀ x w', Below w.heap.size w w' → Calls Tryz.prog g (#[Item.agg x] ++ caps) w' fun e w'' => e = .returned (.bool (p x)) ∧ Below w'.heap.size w' w'') :
  Calls Tryz.prog 74 #[.slice A l.length c, .func (.func g) #[] caps] w fun e w' => e = .returned (.int .i64 (idx (l.findIdx? p))) ∧ Below w.heap.size w w' := by
 have HG := Lib.hid hg; clear hg
 unfold maxLen at hl
 go_enter Tryz.func74, Tryz.ntmps74
 go_wp2
 go_loopw [8] (fun i wr => ∃ k : Nat, k ≤ l.length ∧ i = .int .i64 k ∧ Below w.heap.size w wr ∧ ∀ j x, l[j]? = some x → j < k → p x = false) (fun i _ => l.length - (intOf i).toNat)
 case atStart => exact ⟨0, Nat.zero_le _, rfl, Below.refl _ _, fun _ _ _ h => absurd h (by omega)⟩
 case round =>
  obtain ⟨k, hk, rfl, hb, hno⟩ := hrel
  have Hno := Lib.hid hno; clear hno
  by_cases hlt : k < l.length
  · obtain ⟨x, hx⟩ := get_of_lt hlt
    obtain ⟨b, o, rfl, hbs, c0, c1, c2, c3, c4, c5, c6⟩ := (hr.below hb).item hx
    have Hx := Lib.hid hx
    clear hr hx
    go_wp2_with fail
    refine (HG.out x _ hb).mono ?_
    rintro e w1 ⟨rfl, hb1⟩
    by_cases hp : p x = true
    · go_wp2_with fail
      go_ret
      refine ⟨?_, hb.trans (hb1.mono hb.size)⟩
      rw [findIdx_some Hx.out hp Hno.out]; rfl
    · have hp' : p x = false := by simpa using hp
      clear hp
      go_wp2_with fail
      go_roundw
      case rel => exact ⟨k + 1, by omega, by go_num, hb.trans (hb1.mono hb.size), below_succ Hx.out hp' Hno.out⟩
      case measure => simp [intOf]; omega
  · have : k = l.length := by omega
    subst this
    go_wp2_with fail
    go_ret
    exact ⟨by rw [findIdx_none Hno.out]; rfl, hb⟩
theorem findlit (x : Item) (cb : Nat) (s : Str) (w : World) (hb : cb < w.heap.size) (hc : w.cell? ⟨cb, 0, none⟩ = some (vs s)) :
 Calls Tryz.prog 75 #[x.agg, .pointer (some ⟨cb, 0, none⟩)] w fun e w' => e = .returned (.bool (x.id == s)) ∧ Below w.heap.size w w' := by
 go_enter Tryz.func75, Tryz.ntmps75
 go_wp2
 go_ret
 exact ⟨rfl, (Below.refl _ _).alloc (Nat.le_refl _) _⟩
def findI (l : List Item) (s : Str) : Int := idx (l.findIdx? fun x => x.id == s)
theorem find_any (l : List Item) (A : Option Addr) (c : Nat) (s : Str) (w : World) (hr : RdI w A l) (hl : l.length ≤ maxLen) :
 Calls Tryz.prog 44 #[.agg #[.slice A l.length c], vs s] w fun e w' => e = .returned (.int .i64 (findI l s)) ∧ Below w.heap.size w w' := by
 go_enter Tryz.func44, Tryz.ntmps44
 go_wp2_with fail
 refine (indexFunc l A c _ _ (fun x => x.id == s) _ (hr.below (((Below.refl _ _).alloc (by simp) _).alloc (by simp) _)) hl (enters Tryz.func75 (by kernel_rfl) rfl) (fun x w' hb => ?_)).mono ?_
 · exact findlit x _ s w' (Nat.lt_of_lt_of_le (by simp) hb.size) ((hb.cell (by simp)).trans (by simp))
 · rintro e w1 ⟨rfl, hb1⟩
   have HB := Lib.hid hb1; clear hb1
   go_wp2
   go_ret
   exact ⟨rfl, (((Below.refl _ _).alloc (by simp) _).alloc (by simp) _).trans (HB.out.mono (by simp; omega))⟩
end Go.Proofs.YtfolcjkednmkoaaGreat
