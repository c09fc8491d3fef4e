/- The law PrinterMatchesReference. -/
import Derived.Test.YtbicmjmcdnkjhaaGreatDoorJMM1
import Derived.Test.YtbicmjmcdnkjhaaGreatDoorJMM37
import Derived.Test.YtbicmjmcdnkjhaaGreatDoorJMM38
import Derived.Test.YtbicmjmcdnkjhaaGreatDoorJMM39
set_option linter.unusedVariables false
set_option linter.unusedSimpArgs false
set_option maxHeartbeats 4000000
namespace Go.Proofs.YtbicmjmcdnkjhaaGreatDoor
open Go.RowKit
set_option maxRecDepth 100000
theorem pmat_any (w : World) (cs1 : List Value) (P : ProvI) (hr1 : RdPX w cs1 P) (hp1 : plainP P) (hm1 : P.exc.length ≤ maxLen) (ht : Tabs w) :
 Calls Tryz.prog 3 #[.agg cs1.toArray] w fun e w' => e = .returned (.bool true) ∧ Below w.heap.size w w' := by
 obtain ⟨-, ld1⟩ := rdpx_io hr1
 have HT := Hi ht
 have HR1 := Hi hr1
 have HX := Hi (Bx1.start w cs1.toArray 30)
 clear ht hr1
 go_enter Tryz.func3, Tryz.ntmps3
 go_wp2_with fail
 refine (head_any _ (HT.out.below HX.out.below)).mono ?_
 rintro e w1 ⟨rfl, hb⟩
 have H1 := Hi (HX.out.step hb)
 have k1 := H1.out.blk
 have l1 := lHp k1
 clear hb HX
 go_wp2_with fail
 cases hf1 : fewI P with
 | false =>
   refine (few_any w1 cs1 P (HR1.out.keep H1.out.below) hm1 false hf1).mono ?_
   rintro e w2 ⟨rfl, hb⟩
   have H2 := Hi (H1.out.step hb)
   clear hb k1 l1
   go_wp2_with fail
   go_ret
   exact ⟨rfl, H2.out.below⟩
 | true =>
 refine (few_any w1 cs1 P (HR1.out.keep H1.out.below) hm1 true hf1).mono ?_
 rintro e w2 ⟨rfl, hb⟩
 have H2 := Hi (H1.out.step hb)
 clear hb k1 l1
 have HF1 := Hi (fewI_iff.1 hf1)
 have HP1 := Hi hp1
 clear hf1 hp1
 obtain ⟨NP, hNP⟩ : ∃ x, northA P = x := ⟨_, rfl⟩
 obtain ⟨SP, hSP⟩ : ∃ x, southA P = x := ⟨_, rfl⟩
 obtain ⟨a, e⟩ := NP
 obtain ⟨c, g⟩ := SP
 have HNP := Hi hNP
 have HSP := Hi hSP
 clear hNP hSP
 have k1 := H2.out.blk
 have l1 := lHp k1
 go_wp2_with fail
 refine (north_p w w2 cs1 P HR1.out H2.out.below HT.out HP1.out HF1.out).mono ?_
 rintro e3 w3 ⟨rfl, hb⟩
 rw [HNP.out]
 have H3 := Hi (H2.out.step hb)
 clear hb k1 l1
 have k1 := H3.out.blk
 have l1 := lHp k1
 go_wp2_with fail
 refine (rNorth_p w3 cs1 P (HR1.out.keep H3.out.below) HP1.out HF1.out).mono ?_
 rintro e4 w4 ⟨rfl, hb⟩
 rw [HNP.out]
 have H4 := Hi (H3.out.step hb)
 clear hb k1 l1
 have k1 := H4.out.blk
 have l1 := lHp k1
 go_wp2_with fail
 refine (south_p w w4 cs1 P HR1.out H4.out.below HT.out HP1.out HF1.out).mono ?_
 rintro e5 w5 ⟨rfl, hb⟩
 rw [HSP.out]
 have H5 := Hi (H4.out.step hb)
 clear hb k1 l1
 have k1 := H5.out.blk
 have l1 := lHp k1
 go_wp2_with fail
 refine (rSouth_p w5 cs1 P (HR1.out.keep H5.out.below) HP1.out HF1.out).mono ?_
 rintro e6 w6 ⟨rfl, hb⟩
 rw [HSP.out]
 have H6 := Hi (H5.out.step hb)
 clear hb k1 l1 ld1
 go_wp2_with fail
 go_ret
 exact ⟨rfl, H6.out.below⟩
end Go.Proofs.YtbicmjmcdnkjhaaGreatDoor
