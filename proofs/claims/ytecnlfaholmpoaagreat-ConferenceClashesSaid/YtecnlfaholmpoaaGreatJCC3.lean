/- The law ConferenceClashes, whole. -/
import Derived.Test.YtecnlfaholmpoaaGreatJCC2
set_option linter.unusedVariables false
set_option linter.unusedSimpArgs false
namespace Go.Proofs.YtecnlfaholmpoaaGreat
open Go.RowKit
theorem clashes_law (l : List Item) (A : Option Addr) (c : Nat) (cs : List Clause) (B : Option Addr) (d : Nat) (w : World) (m : Int) (hr : RdI w A l) (hl : l.length ≤ maxLen) (hlc : l.length ≤ c) (hfit : ∀ x ∈ l, x.Fits) (hs : RdC w B cs) (hm : cs.length ≤ maxLen) (hfp : ∀ x ∈ cs, x.patch.Fits) (hg : w.cell? ⟨0, 0, none⟩ = some (.int .i64 m)) :
 Calls Tryz.prog 8 #[.agg #[.slice A l.length c], .slice B cs.length d] w fun e w' => e = .returned (.bool true) ∧ Below w.heap.size w w' := by
 cases hfew : fewC l cs 12 with
 | false => exact cla_f l A c cs B d w m hr hl hlc hfit hs hm hfp hg hfew
 | true => exact cla_t l A c cs B d w m hr hl hlc hfit hs hm hfp hg hfew
end Go.Proofs.YtecnlfaholmpoaaGreat
