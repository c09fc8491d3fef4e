/- patch.formed: joined. -/
import Derived.Test.YtecnlfaholmpoaaGreatJC10
set_option linter.unusedVariables false
set_option linter.unusedSimpArgs false
namespace Go.Proofs.YtecnlfaholmpoaaGreat
open Go.RowKit
theorem formed_any (p : Patch) (w : World) (hsh : p.item.Short) (hn : p.num.length ≤ maxLen) :
 Calls Tryz.prog 58 #[p.agg] w fun e w' => e = .returned (.bool (formedF p)) ∧ Below w.heap.size w w' := by
 by_cases h1 : p.kind = 1
 · have e : formedF p = (form1 p && (p.item.id == p.id && (p.item.par == p.par && walkB [{ p.item with par := [] }]))) := by
     unfold formedF
     rw [if_pos h1]
     congr 1
     unfold patEq bare form1
     simp [isEmpty_eq]
   rw [e]
   cases hE : form1 p with
   | false => exact formed_1a p w h1 hE
   | true =>
     cases h2 : (p.item.id == p.id) with
     | false => exact formed_1b p w h1 hE h2
     | true =>
       cases h3 : (p.item.par == p.par) with
       | false => exact formed_1c p w h1 hE h2 h3
       | true => exact formed_1d p w h1 ⟨hsh.id, by simp, hsh.num, hsh.no, hsh.so⟩ hE h2 h3
 by_cases h2 : p.kind = 2
 · have e : formedF p = (form2 p && (!p.fr.isEmpty && (p.lang == 1 || p.lang == 2))) := by
     unfold formedF
     rw [if_neg h1, if_pos h2]
     congr 1
     unfold patEq bare form2 noItem
     simp [isEmpty_eq]
   rw [e]
   cases hE : form2 p with
   | false => exact formed_2a p w h2 hE
   | true =>
     cases hf : p.fr.isEmpty with
     | true => exact formed_2b p w h2 hE hf
     | false =>
       cases hl : (p.lang == 1) with
       | true => exact formed_2c p w h2 hE hf hl
       | false => exact formed_2d p w h2 hE hf hl
 by_cases h3 : p.kind = 3
 · have e : formedF p = (form3 p && walkB [⟨1, [100], [], p.num, [], [], false⟩]) := by
     unfold formedF
     rw [if_neg h1, if_neg h2, if_pos h3]
     congr 1
     unfold patEq bare form3 noItem
     simp [isEmpty_eq]
   rw [e]
   cases hE : form3 p with
   | false => exact formed_3a p w h3 hE
   | true => exact formed_3b p w h3 ⟨by simp [maxLen], by simp, hn, by simp, by simp⟩ hE
 unfold formedF
 rw [if_neg h1, if_neg h2, if_neg h3]
 by_cases h4 : p.kind = 4
 · rw [if_pos h4]; exact formed_4 p w h4
 rw [if_neg h4]
 by_cases h5 : p.kind = 5
 · rw [if_pos (.inl h5)]; exact formed_5 p w h5
 by_cases h6 : p.kind = 6
 · rw [if_pos (.inr h6)]; exact formed_6 p w h6
 rw [if_neg (by omega)]
 by_cases h7 : p.kind = 7
 · rw [if_pos h7]; exact formed_7 p w h7
 rw [if_neg h7]
 exact formed_0 p w (by omega)
end Go.Proofs.YtecnlfaholmpoaaGreat
