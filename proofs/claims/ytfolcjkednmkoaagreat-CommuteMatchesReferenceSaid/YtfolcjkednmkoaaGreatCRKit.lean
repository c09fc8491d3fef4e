/- Small facts that the reference's walks use. -/
import Derived.Test.YtfolcjkednmkoaaGreatCommon
import Derived.Test.YtfolcjkednmkoaaGreatLaw
import Derived.Test.YtfolcjkednmkoaaGreatJPt
import Derived.Laws.ResultCell
set_option linter.unusedVariables false
set_option linter.unusedSimpArgs false
namespace Go.Proofs.YtfolcjkednmkoaaGreat
open Go.RowKit
theorem cell_of_blk {w : World} {b o : Nat} {C : Array Value} {t : TypeId} {fr : Nat × Nat} {v : Value} (h : w.blk b = some (.cells C t fr)) (hv : C[o]? = some v) : w.cell? ⟨b, o, none⟩ = some v := (cell_of_row _ _ _ _ _ _ h).trans hv
theorem frozen_of_blk {w : World} {b o : Nat} {C : Array Value} {t : TypeId} (h : w.blk b = some (.cells C t (0, 0))) : w.frozen? ⟨b, o, none⟩ = false := by
 unfold World.blk at h
 simp [World.frozen?, h]
theorem proper_len {x : Item} (h : properB x = true) : x.no.length ≤ 400 ∧ x.so.length ≤ 400 := by
 unfold properB at h
 split at h
 · simp at h; simp [h]
 · split at h
   · simp at h; omega
   · cases h
end Go.Proofs.YtfolcjkednmkoaaGreat
