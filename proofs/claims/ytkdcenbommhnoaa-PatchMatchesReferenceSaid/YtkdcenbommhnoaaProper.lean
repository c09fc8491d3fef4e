/- code.proper. -/
import Derived.Test.YtkdcenbommhnoaaName2
set_option linter.unusedVariables false
set_option linter.unusedSimpArgs false
namespace Go.Proofs.Ytkdcenbommhnoaa
open Go.RowKit
def allNum (s : Str) : Bool := s.all numB
def numOk (s : Str) : Bool := decide ((s.length : Int) ≤ 8) && allNum s
def properB (x : Item) : Bool :=
  if x.kind = 1 then numOk x.num && isNameB x.id && x.no == [] && x.so == [] && !x.gone
  else if x.kind = 2 then numOk x.num && isNameB x.id && decide ((x.no.length : Int) ≤ 400) && decide ((x.so.length : Int) ≤ 400)
  else false
/- the lengths of an item's strings are those of strings -/
structure Item.Short (x : Item) : Prop where
  id : x.id.length ≤ maxLen
  par : x.par.length ≤ maxLen
  num : x.num.length ≤ maxLen
  no : x.no.length ≤ maxLen
  so : x.so.length ≤ maxLen
theorem any_not (l : Str) : (l.any fun b => !numB b) = !allNum l := by
  unfold allNum
  induction l <;> simp_all
set_option maxRecDepth 20000 in
set_option maxHeartbeats 1000000 in
theorem proper_any (x : Item) (w : World) (hs : x.Short) :
    Calls Try.prog 60 #[x.agg] w fun e w' => e = .returned (.bool (properB x)) ∧ Below w.heap.size w w' := by
  have H1 := fun W => Lib.hid (isName_any x.id W hs.id)
  have H2 := fun W => containsFunc_num x.num W hs.num
  simp only [any_not] at H2
  have H2 := fun W => Lib.hid (H2 W)
  obtain ⟨l1, l2, l3, l4, l5⟩ := hs
  unfold maxLen at l1 l2 l3 l4 l5
  cases hn : isNameB x.id <;> cases hm : allNum x.num
  all_goals
    go_enter Try.func60, Try.ntmps60
    go_wp2_with (first
      | (go_at_call 74; refine (H2 _).out.mono ?_; rintro e w1 ⟨rfl, hb1⟩; obtain ⟨hc, hf⟩ := bcell hb1)
      | (go_at_call 76; refine (H1 _).out.mono ?_; rintro e w1 ⟨rfl, rfl⟩))
    all_goals
      go_ret
      refine ⟨ret_bool ?_, ?_⟩
      · clear H1 H2
        simp_all [properB, numOk]
        try omega
      · first
          | exact (Below.refl _ _).alloc (Nat.le_refl _) _
          | exact ((Below.refl _ _).alloc (Nat.le_refl _) _).trans (hb1.mono (by simp))
end Go.Proofs.Ytkdcenbommhnoaa
