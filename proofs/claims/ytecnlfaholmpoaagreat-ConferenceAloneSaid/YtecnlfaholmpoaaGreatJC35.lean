/- The head's examples, in plain words. -/
import Derived.Test.YtecnlfaholmpoaaGreatJC30
import Derived.Test.YtecnlfaholmpoaaGreatJC34
set_option linter.unusedVariables false
set_option linter.unusedSimpArgs false
namespace Go.Proofs.YtecnlfaholmpoaaGreat
open Go.RowKit
def exH : List Item := [⟨2, [112, 49], [], [], [], [], false⟩, ⟨2, [112, 50], [], [], [], [], false⟩]
def pRep (s : Str) : Patch := ⟨5, s, [], [], [], ⟨0, [], [], [], [], [], false⟩, 0, [], []⟩
def cRep (a b : Int) (s : Str) : Clause := ⟨⟨a, b⟩, noStamp, pRep s, false⟩
def cRpl : Clause := ⟨⟨3, 2⟩, noStamp, ⟨7, [112, 49], [], [], [], ⟨0, [], [], [], [110], [], false⟩, 0, [], []⟩, false⟩
def cRplM : Clause := ⟨⟨103, 2⟩, noStamp, ⟨7, [112, 49], [], [], [], ⟨0, [], [], [], [110], [], false⟩, 0, [], []⟩, false⟩
theorem h_valid : walkB exH = true := by kernel_rfl
theorem h_j1 : joinF [cRep 3 1 [112, 49]] [cRpl] = ([cRplM, cRep 3 1 [112, 49]], 0) := by kernel_rfl
theorem h_j2 : joinF [cRep 3 1 [112, 49]] [cRep 3 1 [112, 50]] = ([cRep 103 1 [112, 50], cRep 3 1 [112, 49]], 0) := by kernel_rfl
theorem h_j3 : joinF [cRep 100 1 [112, 49]] [] = ([], 1) := by kernel_rfl
theorem h_c1 : clashOf exH (pairsL (openL [cRplM, cRep 3 1 [112, 49]])) = [(⟨103, 2⟩, ⟨3, 1⟩)] := by kernel_rfl
theorem h_c2 : clashOf exH (pairsL (openL [cRep 103 1 [112, 50], cRep 3 1 [112, 49]])) = [] := by kernel_rfl
theorem h_r1 : (resS exH (openL [cRep 3 1 [112, 49], cRplM])).2 = ([pRep [112, 49]], [⟨103, 2⟩]) := by kernel_rfl
theorem h_r2 : (resS exH (openL [cRep 103 1 [112, 50], cRep 3 1 [112, 49]])).2 = ([pRep [112, 50], pRep [112, 49]], []) := by kernel_rfl
end Go.Proofs.YtecnlfaholmpoaaGreat
