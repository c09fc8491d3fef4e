/- The class of the byte at an index. -/
import Derived.Test.YtcekampdldkjlaaGreatDoorNCls
set_option linter.unusedVariables false
set_option linter.unusedSimpArgs false
namespace Go.Proofs.YtcekampdldkjlaaGreatDoor
open Go.RowKit
def clsAt (l : List UInt8) (i : Nat) : Nat := match l[i]? with | none => 0 | some c => clsN c.toNat
theorem byte_at {l : List UInt8} {i : Nat} {c : UInt8} (h : l[i]? = some c) : ∀ hh, (({ data := l.toArray } : ByteArray)[i]'hh) = c := by
  intro hh
  obtain ⟨h1, h2⟩ := List.getElem?_eq_some_iff.1 h
  exact h2
set_option maxRecDepth 20000 in
set_option maxHeartbeats 1000000 in
theorem at_any (l : List UInt8) (bt bc : Nat) (w : World) (ht : w.cell? ⟨bt, 0, none⟩ = some (vs l)) (hc : Tab clsN w bc) (i : Nat) (hl : l.length ≤ 1000000) :
    Calls Tryz.prog 44 #[.int .i64 i, .pointer (some ⟨bt, 0, none⟩), .pointer (some ⟨bc, 0, none⟩)] w fun e w' => e = .returned (.int .u8 (clsAt l i)) ∧ w' = w := by
  have HC := Lib.hid hc
  have hlt := hc.lt
  clear hc
  by_cases hi : i < l.length
  · obtain ⟨c, hx⟩ := get_of_lt hi
    have hcl : clsAt l i = clsN c.toNat := by simp [clsAt, hx]
    have h1 : (i : Int) < l.length := by omega
    have h2 : c.toNat < 256 := UInt8.toNat_lt c
    obtain ⟨c0, -⟩ := HC.out.cell h2
    have h3 : (c.toNat : Int) < 256 := by omega
    have h4 : (0 : Int) ≤ i := by omega
    have h5 : (0 : Int) ≤ c.toNat := by omega
    have hb := byte_at hx
    rw [hcl]
    clear hx hi
    go_enter Tryz.func44, Tryz.ntmps44
    go_wp2_with fail
    go_ret
    exact ⟨rfl, rfl⟩
  · have hcl : clsAt l i = 0 := by simp [clsAt]; rw [List.getElem?_eq_none (by omega)]
    have h1 : ¬ (i : Int) < l.length := by omega
    rw [hcl]
    go_enter Tryz.func44, Tryz.ntmps44
    go_wp2_with fail
    go_ret
    exact ⟨rfl, rfl⟩
end Go.Proofs.YtcekampdldkjlaaGreatDoor
