/- The reference's blank, text, Exists. The reference's Times and replaced. The reference's Formed. The reference's end; append of items. The reference's put. -/
import Derived.Test.YtfolcjkednmkoaaGreatJPlace
import Derived.Test.YtfolcjkednmkoaaGreatWords2
import Derived.Lib.IndexMore
import Derived.Lib.LastIndexLaws
import Derived.Test.YtfolcjkednmkoaaGreatCRKit
import Derived.Deep.DeepCutAuto
import Derived.Deep.RegionHeld3
import Derived.Test.YtfolcjkednmkoaaGreatInsertA
set_option linter.unusedVariables false
set_option linter.unusedSimpArgs false
set_option maxRecDepth 20000
set_option maxHeartbeats 4000000
namespace Go.Proofs.YtfolcjkednmkoaaGreat
open Go.RowKit
def blankB (x : Item) : Bool := x.kind == 0 && (x.id.isEmpty && (x.par.isEmpty && (x.num.isEmpty && (x.no.isEmpty && (x.so.isEmpty && !x.gone)))))
theorem rblank_any (x : Item) (w : World) :
 Calls Tryz.prog 40 #[x.agg] w fun e w' => e = .returned (.bool (blankB x)) ∧ Below w.heap.size w w' := by
 obtain ⟨b, hb⟩ : ∃ b, blankB x = b := ⟨_, rfl⟩
 rw [hb]
 unfold blankB at hb
 by_cases h0 : x.kind = 0
 · have k0 : (x.kind == 0) = true := by simpa using h0
   by_cases h1 : x.id = []
   · obtain ⟨a01, a02, a03⟩ := emp_tests h1
     by_cases h2 : x.par = []
     · obtain ⟨a11, a12, a13⟩ := emp_tests h2
       by_cases h3 : x.num = []
       · obtain ⟨a21, a22, a23⟩ := emp_tests h3
         by_cases h4 : x.no = []
         · obtain ⟨a31, a32, a33⟩ := emp_tests h4
           by_cases h5 : x.so = []
           · obtain ⟨a41, a42, a43⟩ := emp_tests h5
             cases hg : x.gone with
             | true =>
               obtain rfl : b = false := by rw [← hb]; simp [h0, h1, h2, h3, h4, h5, hg]
               clear hb
               go_enter Tryz.func40, Tryz.ntmps40
               go_wp2_with fail
               go_ret
               exact ⟨rfl, (Below.refl _ _).alloc (Nat.le_refl _) _⟩
             | false =>
               obtain rfl : b = true := by rw [← hb]; simp [h0, h1, h2, h3, h4, h5, hg]
               clear hb
               go_enter Tryz.func40, Tryz.ntmps40
               go_wp2_with fail
               go_ret
               exact ⟨rfl, (Below.refl _ _).alloc (Nat.le_refl _) _⟩
           · obtain rfl : b = false := by rw [← hb]; simp [h0, h1, h2, h3, h4, h5]
             obtain ⟨a41, a42, a43⟩ := str_tests h5
             clear hb
             go_enter Tryz.func40, Tryz.ntmps40
             go_wp2_with fail
             go_ret
             exact ⟨rfl, (Below.refl _ _).alloc (Nat.le_refl _) _⟩
         · obtain rfl : b = false := by rw [← hb]; simp [h0, h1, h2, h3, h4]
           obtain ⟨a31, a32, a33⟩ := str_tests h4
           clear hb
           go_enter Tryz.func40, Tryz.ntmps40
           go_wp2_with fail
           go_ret
           exact ⟨rfl, (Below.refl _ _).alloc (Nat.le_refl _) _⟩
       · obtain rfl : b = false := by rw [← hb]; simp [h0, h1, h2, h3]
         obtain ⟨a21, a22, a23⟩ := str_tests h3
         clear hb
         go_enter Tryz.func40, Tryz.ntmps40
         go_wp2_with fail
         go_ret
         exact ⟨rfl, (Below.refl _ _).alloc (Nat.le_refl _) _⟩
     · obtain rfl : b = false := by rw [← hb]; simp [h0, h1, h2]
       obtain ⟨a11, a12, a13⟩ := str_tests h2
       clear hb
       go_enter Tryz.func40, Tryz.ntmps40
       go_wp2_with fail
       go_ret
       exact ⟨rfl, (Below.refl _ _).alloc (Nat.le_refl _) _⟩
   · obtain rfl : b = false := by rw [← hb]; simp [h0, h1]
     obtain ⟨a01, a02, a03⟩ := str_tests h1
     clear hb
     go_enter Tryz.func40, Tryz.ntmps40
     go_wp2_with fail
     go_ret
     exact ⟨rfl, (Below.refl _ _).alloc (Nat.le_refl _) _⟩
 · have k0 : (x.kind == 0) = false := by simpa using h0
   obtain rfl : b = false := by rw [← hb]; simp [h0]
   clear hb
   go_enter Tryz.func40, Tryz.ntmps40
   go_wp2_with fail
   go_ret
   exact ⟨rfl, (Below.refl _ _).alloc (Nat.le_refl _) _⟩
theorem rtext_any (x : Item) (g : Int) (w : World) :
 Calls Tryz.prog 92 #[x.agg, .int .i64 g] w fun e w' => e = .returned (vs (if g = 1 then x.no else x.so)) ∧ Below w.heap.size w w' := by
 by_cases h : g = 1
 · rw [if_pos h]
   have h1 : (g == 1) = true := by simpa using h
   clear h
   go_enter Tryz.func92, Tryz.ntmps92
   go_wp2_with fail
   go_ret
   exact ⟨rfl, (Below.refl _ _).alloc (Nat.le_refl _) _⟩
 · rw [if_neg h]
   have h1 : (g == 1) = false := by simpa using h
   clear h
   go_enter Tryz.func92, Tryz.ntmps92
   go_wp2_with fail
   go_ret
   exact ⟨rfl, (Below.refl _ _).alloc (Nat.le_refl _) _⟩
/- what a code has under an Id: nothing, or an item -/
theorem find_case (l : List Item) (id : Str) : (findI l id = -1 ∧ itemF l id = noItem) ∨ ∃ (k : Nat) (y : Item), findI l id = k ∧ l[k]? = some y ∧ itemF l id = y := by
 unfold findI itemF
 cases h : l.findIdx? (fun x => x.id == id) with
 | none =>
   left
   refine ⟨rfl, ?_⟩
   rw [List.findIdx?_eq_none_iff] at h
   have : l.find? (fun x => x.id == id) = none := by rw [List.find?_eq_none]; intro x hx; simpa using h x hx
   rw [this]; rfl
 | some k =>
   right
   obtain ⟨h1, h2, h3⟩ := List.findIdx?_eq_some_iff_getElem.1 h
   refine ⟨k, l[k], rfl, List.getElem?_eq_getElem h1, ?_⟩
   have : l.find? (fun x => x.id == id) = some l[k] := by
    rw [List.find?_eq_some_iff_getElem]
    exact ⟨h2, k, h1, rfl, fun j hj => by simpa using h3 j hj⟩
   rw [this]; rfl
def rexB (l : List Item) (par aft : Str) : Bool :=
 (par == [] || (decide (0 ≤ findI l par) && (itemF l par).kind == 1)) && (aft == [] || (decide (0 ≤ findI l aft) && (itemF l aft).par == par))
theorem rexists_any (l : List Item) (A : Option Addr) (c : Nat) (par aft : Str) (w : World) (hr : RdI w A l) (hl : l.length ≤ 1000000) :
 Calls Tryz.prog 90 #[.agg #[.slice A l.length c], vs par, vs aft] w fun e w' => e = .returned (.bool (rexB l par aft)) ∧ Below w.heap.size w w' := by
 have hb0 := (Below.refl w.heap.size w).alloc (Nat.le_refl _) (.cells #[.slice A l.length c] 24)
 have HB0 := Lib.hid hb0; clear hb0
 have HR := Lib.hid hr; clear hr
 obtain ⟨b, hb⟩ : ∃ b, rexB l par aft = b := ⟨_, rfl⟩
 rw [hb]
 unfold rexB at hb
 rcases find_case l par with ⟨hp, hip⟩ | ⟨kp, yp, hp, hyp, hip⟩
 · have HFP := Lib.hid hp
   by_cases hpe : par = []
   · obtain ⟨n1, n2, n3⟩ := emp_tests hpe
     rcases find_case l aft with ⟨ha, hia⟩ | ⟨ka, ya, ha, hya, hia⟩
     · have HFA := Lib.hid ha
       by_cases haf : aft = []
       · obtain ⟨x1, x2, x3⟩ := emp_tests haf
         obtain rfl : b = true := by rw [← hb]; simp [hpe, haf]
         clear hb
         clear ha hia haf hp hip hpe
         go_enter Tryz.func90, Tryz.ntmps90
         go_wp2_with fail
         refine (rfind_any l A c par _ (HR.out.below HB0.out) (le_maxLen (by omega))).mono ?_
         rintro e w1 ⟨rfl, hb1⟩
         rw [HFP.out]
         obtain ⟨hc, hf⟩ := bcell hb1
         have HB1 := Lib.hid (HB0.out.trans (hb1.mono HB0.out.size))
         have K1 := keepw hb1 (show (w.alloc (.cells #[.slice A l.length c] 24)).cell? ⟨w.heap.size, 0, none⟩ = some (.slice A l.length c) by simp [go_sem])
         clear hb1
         go_wp2_with fail
         refine (rfind_any l A c aft _ (HR.out.below HB1.out) (le_maxLen (by omega))).mono ?_
         rintro e w2 ⟨rfl, hb2⟩
         rw [HFA.out]
         have K2 := keepw hb2 K1
         have HB2 := Lib.hid (HB1.out.trans (hb2.mono HB1.out.size))
         have HR2 := Lib.hid (HR.out.below HB2.out)
         have z2 : w.heap.size < w2.heap.size := World.block_lt_of_cell? _ _ K2
         clear hb2 hc hf K1
         go_wp2_with fail
         go_ret
         exact ⟨rfl, HB2.out⟩
       · obtain ⟨x1, x2, x3⟩ := str_tests haf
         obtain rfl : b = false := by rw [← hb]; simp [hpe, haf, ha]
         clear hb
         clear ha hia haf hp hip hpe
         go_enter Tryz.func90, Tryz.ntmps90
         go_wp2_with fail
         refine (rfind_any l A c par _ (HR.out.below HB0.out) (le_maxLen (by omega))).mono ?_
         rintro e w1 ⟨rfl, hb1⟩
         rw [HFP.out]
         obtain ⟨hc, hf⟩ := bcell hb1
         have HB1 := Lib.hid (HB0.out.trans (hb1.mono HB0.out.size))
         have K1 := keepw hb1 (show (w.alloc (.cells #[.slice A l.length c] 24)).cell? ⟨w.heap.size, 0, none⟩ = some (.slice A l.length c) by simp [go_sem])
         clear hb1
         go_wp2_with fail
         refine (rfind_any l A c aft _ (HR.out.below HB1.out) (le_maxLen (by omega))).mono ?_
         rintro e w2 ⟨rfl, hb2⟩
         rw [HFA.out]
         have K2 := keepw hb2 K1
         have HB2 := Lib.hid (HB1.out.trans (hb2.mono HB1.out.size))
         have HR2 := Lib.hid (HR.out.below HB2.out)
         have z2 : w.heap.size < w2.heap.size := World.block_lt_of_cell? _ _ K2
         clear hb2 hc hf K1
         go_wp2_with fail
         go_ret
         exact ⟨rfl, HB2.out⟩
     · have HFA := Lib.hid ha
       have HYA := Lib.hid hya
       have ga : (ka : Int) < l.length := by have := (List.getElem?_eq_some_iff.1 hya).1; omega
       have ga0 : (0 : Int) ≤ ka := by omega
       have ga1 : decide ((ka : Int) < 0) = false := by simp
       have ga2 : decide ((0 : Int) ≤ ka) = true := by simp
       by_cases haf : aft = []
       · obtain ⟨x1, x2, x3⟩ := emp_tests haf
         obtain rfl : b = true := by rw [← hb]; simp [hpe, haf]
         clear hb
         clear ha hia haf hya hp hip hpe
         go_enter Tryz.func90, Tryz.ntmps90
         go_wp2_with fail
         refine (rfind_any l A c par _ (HR.out.below HB0.out) (le_maxLen (by omega))).mono ?_
         rintro e w1 ⟨rfl, hb1⟩
         rw [HFP.out]
         obtain ⟨hc, hf⟩ := bcell hb1
         have HB1 := Lib.hid (HB0.out.trans (hb1.mono HB0.out.size))
         have K1 := keepw hb1 (show (w.alloc (.cells #[.slice A l.length c] 24)).cell? ⟨w.heap.size, 0, none⟩ = some (.slice A l.length c) by simp [go_sem])
         clear hb1
         go_wp2_with fail
         refine (rfind_any l A c aft _ (HR.out.below HB1.out) (le_maxLen (by omega))).mono ?_
         rintro e w2 ⟨rfl, hb2⟩
         rw [HFA.out]
         have K2 := keepw hb2 K1
         have HB2 := Lib.hid (HB1.out.trans (hb2.mono HB1.out.size))
         have HR2 := Lib.hid (HR.out.below HB2.out)
         have z2 : w.heap.size < w2.heap.size := World.block_lt_of_cell? _ _ K2
         clear hb2 hc hf K1
         go_wp2_with fail
         go_ret
         exact ⟨rfl, HB2.out⟩
       · obtain ⟨x1, x2, x3⟩ := str_tests haf
         by_cases hpp : ya.par = par
         · have x4 : (ya.par == par) = true := by simpa using hpp
           obtain rfl : b = true := by rw [← hb]; first | (simp [hpe, haf, ha, hia, hpp]; done) | (subst hpe; simp [haf, ha, hia, hpp])
           clear hb
           clear ha hia haf hya hp hip hpe
           have HPP := Lib.hid hpp; clear hpp
           go_enter Tryz.func90, Tryz.ntmps90
           go_wp2_with fail
           refine (rfind_any l A c par _ (HR.out.below HB0.out) (le_maxLen (by omega))).mono ?_
           rintro e w1 ⟨rfl, hb1⟩
           rw [HFP.out]
           obtain ⟨hc, hf⟩ := bcell hb1
           have HB1 := Lib.hid (HB0.out.trans (hb1.mono HB0.out.size))
           have K1 := keepw hb1 (show (w.alloc (.cells #[.slice A l.length c] 24)).cell? ⟨w.heap.size, 0, none⟩ = some (.slice A l.length c) by simp [go_sem])
           clear hb1
           go_wp2_with fail
           refine (rfind_any l A c aft _ (HR.out.below HB1.out) (le_maxLen (by omega))).mono ?_
           rintro e w2 ⟨rfl, hb2⟩
           rw [HFA.out]
           have K2 := keepw hb2 K1
           have HB2 := Lib.hid (HB1.out.trans (hb2.mono HB1.out.size))
           have HR2 := Lib.hid (HR.out.below HB2.out)
           have z2 : w.heap.size < w2.heap.size := World.block_lt_of_cell? _ _ K2
           clear hb2 hc hf K1
           obtain ⟨b2, o2, hA2, hbs2, d0, d1, d2, d3, d4, d5, d6⟩ := HR2.out.item HYA.out
           subst hA2
           go_wp2_with fail
           go_ret
           exact ⟨rfl, HB2.out⟩
         · have x4 : (ya.par == par) = false := by simpa using hpp
           obtain rfl : b = false := by rw [← hb]; first | (simp [hpe, haf, ha, hia, hpp]; done) | (subst hpe; simp [haf, ha, hia, hpp])
           clear hb
           clear ha hia haf hya hpp hp hip hpe
           go_enter Tryz.func90, Tryz.ntmps90
           go_wp2_with fail
           refine (rfind_any l A c par _ (HR.out.below HB0.out) (le_maxLen (by omega))).mono ?_
           rintro e w1 ⟨rfl, hb1⟩
           rw [HFP.out]
           obtain ⟨hc, hf⟩ := bcell hb1
           have HB1 := Lib.hid (HB0.out.trans (hb1.mono HB0.out.size))
           have K1 := keepw hb1 (show (w.alloc (.cells #[.slice A l.length c] 24)).cell? ⟨w.heap.size, 0, none⟩ = some (.slice A l.length c) by simp [go_sem])
           clear hb1
           go_wp2_with fail
           refine (rfind_any l A c aft _ (HR.out.below HB1.out) (le_maxLen (by omega))).mono ?_
           rintro e w2 ⟨rfl, hb2⟩
           rw [HFA.out]
           have K2 := keepw hb2 K1
           have HB2 := Lib.hid (HB1.out.trans (hb2.mono HB1.out.size))
           have HR2 := Lib.hid (HR.out.below HB2.out)
           have z2 : w.heap.size < w2.heap.size := World.block_lt_of_cell? _ _ K2
           clear hb2 hc hf K1
           obtain ⟨b2, o2, hA2, hbs2, d0, d1, d2, d3, d4, d5, d6⟩ := HR2.out.item HYA.out
           subst hA2
           go_wp2_with fail
           go_ret
           exact ⟨rfl, HB2.out⟩
   · obtain ⟨n1, n2, n3⟩ := str_tests hpe
     rcases find_case l aft with ⟨ha, hia⟩ | ⟨ka, ya, ha, hya, hia⟩
     · have HFA := Lib.hid ha
       by_cases haf : aft = []
       · obtain ⟨x1, x2, x3⟩ := emp_tests haf
         obtain rfl : b = false := by rw [← hb]; simp [hpe, hp, haf]
         clear hb
         clear ha hia haf hp hip hpe
         go_enter Tryz.func90, Tryz.ntmps90
         go_wp2_with fail
         refine (rfind_any l A c par _ (HR.out.below HB0.out) (le_maxLen (by omega))).mono ?_
         rintro e w1 ⟨rfl, hb1⟩
         rw [HFP.out]
         obtain ⟨hc, hf⟩ := bcell hb1
         have HB1 := Lib.hid (HB0.out.trans (hb1.mono HB0.out.size))
         have K1 := keepw hb1 (show (w.alloc (.cells #[.slice A l.length c] 24)).cell? ⟨w.heap.size, 0, none⟩ = some (.slice A l.length c) by simp [go_sem])
         clear hb1
         go_wp2_with fail
         refine (rfind_any l A c aft _ (HR.out.below HB1.out) (le_maxLen (by omega))).mono ?_
         rintro e w2 ⟨rfl, hb2⟩
         rw [HFA.out]
         have K2 := keepw hb2 K1
         have HB2 := Lib.hid (HB1.out.trans (hb2.mono HB1.out.size))
         have HR2 := Lib.hid (HR.out.below HB2.out)
         have z2 : w.heap.size < w2.heap.size := World.block_lt_of_cell? _ _ K2
         clear hb2 hc hf K1
         go_wp2_with fail
         go_ret
         exact ⟨rfl, HB2.out⟩
       · obtain ⟨x1, x2, x3⟩ := str_tests haf
         obtain rfl : b = false := by rw [← hb]; simp [hpe, hp, haf, ha]
         clear hb
         clear ha hia haf hp hip hpe
         go_enter Tryz.func90, Tryz.ntmps90
         go_wp2_with fail
         refine (rfind_any l A c par _ (HR.out.below HB0.out) (le_maxLen (by omega))).mono ?_
         rintro e w1 ⟨rfl, hb1⟩
         rw [HFP.out]
         obtain ⟨hc, hf⟩ := bcell hb1
         have HB1 := Lib.hid (HB0.out.trans (hb1.mono HB0.out.size))
         have K1 := keepw hb1 (show (w.alloc (.cells #[.slice A l.length c] 24)).cell? ⟨w.heap.size, 0, none⟩ = some (.slice A l.length c) by simp [go_sem])
         clear hb1
         go_wp2_with fail
         refine (rfind_any l A c aft _ (HR.out.below HB1.out) (le_maxLen (by omega))).mono ?_
         rintro e w2 ⟨rfl, hb2⟩
         rw [HFA.out]
         have K2 := keepw hb2 K1
         have HB2 := Lib.hid (HB1.out.trans (hb2.mono HB1.out.size))
         have HR2 := Lib.hid (HR.out.below HB2.out)
         have z2 : w.heap.size < w2.heap.size := World.block_lt_of_cell? _ _ K2
         clear hb2 hc hf K1
         go_wp2_with fail
         go_ret
         exact ⟨rfl, HB2.out⟩
     · have HFA := Lib.hid ha
       have HYA := Lib.hid hya
       have ga : (ka : Int) < l.length := by have := (List.getElem?_eq_some_iff.1 hya).1; omega
       have ga0 : (0 : Int) ≤ ka := by omega
       have ga1 : decide ((ka : Int) < 0) = false := by simp
       have ga2 : decide ((0 : Int) ≤ ka) = true := by simp
       by_cases haf : aft = []
       · obtain ⟨x1, x2, x3⟩ := emp_tests haf
         obtain rfl : b = false := by rw [← hb]; simp [hpe, hp, haf]
         clear hb
         clear ha hia haf hya hp hip hpe
         go_enter Tryz.func90, Tryz.ntmps90
         go_wp2_with fail
         refine (rfind_any l A c par _ (HR.out.below HB0.out) (le_maxLen (by omega))).mono ?_
         rintro e w1 ⟨rfl, hb1⟩
         rw [HFP.out]
         obtain ⟨hc, hf⟩ := bcell hb1
         have HB1 := Lib.hid (HB0.out.trans (hb1.mono HB0.out.size))
         have K1 := keepw hb1 (show (w.alloc (.cells #[.slice A l.length c] 24)).cell? ⟨w.heap.size, 0, none⟩ = some (.slice A l.length c) by simp [go_sem])
         clear hb1
         go_wp2_with fail
         refine (rfind_any l A c aft _ (HR.out.below HB1.out) (le_maxLen (by omega))).mono ?_
         rintro e w2 ⟨rfl, hb2⟩
         rw [HFA.out]
         have K2 := keepw hb2 K1
         have HB2 := Lib.hid (HB1.out.trans (hb2.mono HB1.out.size))
         have HR2 := Lib.hid (HR.out.below HB2.out)
         have z2 : w.heap.size < w2.heap.size := World.block_lt_of_cell? _ _ K2
         clear hb2 hc hf K1
         go_wp2_with fail
         go_ret
         exact ⟨rfl, HB2.out⟩
       · obtain ⟨x1, x2, x3⟩ := str_tests haf
         by_cases hpp : ya.par = par
         · have x4 : (ya.par == par) = true := by simpa using hpp
           obtain rfl : b = false := by rw [← hb]; simp [hpe, hp, haf, ha, hia, hpp]
           clear hb
           clear ha hia haf hya hp hip hpe
           have HPP := Lib.hid hpp; clear hpp
           go_enter Tryz.func90, Tryz.ntmps90
           go_wp2_with fail
           refine (rfind_any l A c par _ (HR.out.below HB0.out) (le_maxLen (by omega))).mono ?_
           rintro e w1 ⟨rfl, hb1⟩
           rw [HFP.out]
           obtain ⟨hc, hf⟩ := bcell hb1
           have HB1 := Lib.hid (HB0.out.trans (hb1.mono HB0.out.size))
           have K1 := keepw hb1 (show (w.alloc (.cells #[.slice A l.length c] 24)).cell? ⟨w.heap.size, 0, none⟩ = some (.slice A l.length c) by simp [go_sem])
           clear hb1
           go_wp2_with fail
           refine (rfind_any l A c aft _ (HR.out.below HB1.out) (le_maxLen (by omega))).mono ?_
           rintro e w2 ⟨rfl, hb2⟩
           rw [HFA.out]
           have K2 := keepw hb2 K1
           have HB2 := Lib.hid (HB1.out.trans (hb2.mono HB1.out.size))
           have HR2 := Lib.hid (HR.out.below HB2.out)
           have z2 : w.heap.size < w2.heap.size := World.block_lt_of_cell? _ _ K2
           clear hb2 hc hf K1
           go_wp2_with fail
           go_ret
           exact ⟨rfl, HB2.out⟩
         · have x4 : (ya.par == par) = false := by simpa using hpp
           obtain rfl : b = false := by rw [← hb]; simp [hpe, hp, haf, ha, hia, hpp]
           clear hb
           clear ha hia haf hya hpp hp hip hpe
           go_enter Tryz.func90, Tryz.ntmps90
           go_wp2_with fail
           refine (rfind_any l A c par _ (HR.out.below HB0.out) (le_maxLen (by omega))).mono ?_
           rintro e w1 ⟨rfl, hb1⟩
           rw [HFP.out]
           obtain ⟨hc, hf⟩ := bcell hb1
           have HB1 := Lib.hid (HB0.out.trans (hb1.mono HB0.out.size))
           have K1 := keepw hb1 (show (w.alloc (.cells #[.slice A l.length c] 24)).cell? ⟨w.heap.size, 0, none⟩ = some (.slice A l.length c) by simp [go_sem])
           clear hb1
           go_wp2_with fail
           refine (rfind_any l A c aft _ (HR.out.below HB1.out) (le_maxLen (by omega))).mono ?_
           rintro e w2 ⟨rfl, hb2⟩
           rw [HFA.out]
           have K2 := keepw hb2 K1
           have HB2 := Lib.hid (HB1.out.trans (hb2.mono HB1.out.size))
           have HR2 := Lib.hid (HR.out.below HB2.out)
           have z2 : w.heap.size < w2.heap.size := World.block_lt_of_cell? _ _ K2
           clear hb2 hc hf K1
           go_wp2_with fail
           go_ret
           exact ⟨rfl, HB2.out⟩
 · have HFP := Lib.hid hp
   have HYP := Lib.hid hyp
   have gp : (kp : Int) < l.length := by have := (List.getElem?_eq_some_iff.1 hyp).1; omega
   have gp0 : (0 : Int) ≤ kp := by omega
   have gp1 : decide ((kp : Int) < 0) = false := by simp
   by_cases hpe : par = []
   · obtain ⟨n1, n2, n3⟩ := emp_tests hpe
     rcases find_case l aft with ⟨ha, hia⟩ | ⟨ka, ya, ha, hya, hia⟩
     · have HFA := Lib.hid ha
       by_cases haf : aft = []
       · obtain ⟨x1, x2, x3⟩ := emp_tests haf
         obtain rfl : b = true := by rw [← hb]; simp [hpe, haf]
         clear hb
         clear ha hia haf hp hip hpe hyp
         go_enter Tryz.func90, Tryz.ntmps90
         go_wp2_with fail
         refine (rfind_any l A c par _ (HR.out.below HB0.out) (le_maxLen (by omega))).mono ?_
         rintro e w1 ⟨rfl, hb1⟩
         rw [HFP.out]
         obtain ⟨hc, hf⟩ := bcell hb1
         have HB1 := Lib.hid (HB0.out.trans (hb1.mono HB0.out.size))
         have K1 := keepw hb1 (show (w.alloc (.cells #[.slice A l.length c] 24)).cell? ⟨w.heap.size, 0, none⟩ = some (.slice A l.length c) by simp [go_sem])
         clear hb1
         go_wp2_with fail
         refine (rfind_any l A c aft _ (HR.out.below HB1.out) (le_maxLen (by omega))).mono ?_
         rintro e w2 ⟨rfl, hb2⟩
         rw [HFA.out]
         have K2 := keepw hb2 K1
         have HB2 := Lib.hid (HB1.out.trans (hb2.mono HB1.out.size))
         have HR2 := Lib.hid (HR.out.below HB2.out)
         have z2 : w.heap.size < w2.heap.size := World.block_lt_of_cell? _ _ K2
         clear hb2 hc hf K1
         go_wp2_with fail
         go_ret
         exact ⟨rfl, HB2.out⟩
       · obtain ⟨x1, x2, x3⟩ := str_tests haf
         obtain rfl : b = false := by rw [← hb]; simp [hpe, haf, ha]
         clear hb
         clear ha hia haf hp hip hpe hyp
         go_enter Tryz.func90, Tryz.ntmps90
         go_wp2_with fail
         refine (rfind_any l A c par _ (HR.out.below HB0.out) (le_maxLen (by omega))).mono ?_
         rintro e w1 ⟨rfl, hb1⟩
         rw [HFP.out]
         obtain ⟨hc, hf⟩ := bcell hb1
         have HB1 := Lib.hid (HB0.out.trans (hb1.mono HB0.out.size))
         have K1 := keepw hb1 (show (w.alloc (.cells #[.slice A l.length c] 24)).cell? ⟨w.heap.size, 0, none⟩ = some (.slice A l.length c) by simp [go_sem])
         clear hb1
         go_wp2_with fail
         refine (rfind_any l A c aft _ (HR.out.below HB1.out) (le_maxLen (by omega))).mono ?_
         rintro e w2 ⟨rfl, hb2⟩
         rw [HFA.out]
         have K2 := keepw hb2 K1
         have HB2 := Lib.hid (HB1.out.trans (hb2.mono HB1.out.size))
         have HR2 := Lib.hid (HR.out.below HB2.out)
         have z2 : w.heap.size < w2.heap.size := World.block_lt_of_cell? _ _ K2
         clear hb2 hc hf K1
         go_wp2_with fail
         go_ret
         exact ⟨rfl, HB2.out⟩
     · have HFA := Lib.hid ha
       have HYA := Lib.hid hya
       have ga : (ka : Int) < l.length := by have := (List.getElem?_eq_some_iff.1 hya).1; omega
       have ga0 : (0 : Int) ≤ ka := by omega
       have ga1 : decide ((ka : Int) < 0) = false := by simp
       have ga2 : decide ((0 : Int) ≤ ka) = true := by simp
       by_cases haf : aft = []
       · obtain ⟨x1, x2, x3⟩ := emp_tests haf
         obtain rfl : b = true := by rw [← hb]; simp [hpe, haf]
         clear hb
         clear ha hia haf hya hp hip hpe hyp
         go_enter Tryz.func90, Tryz.ntmps90
         go_wp2_with fail
         refine (rfind_any l A c par _ (HR.out.below HB0.out) (le_maxLen (by omega))).mono ?_
         rintro e w1 ⟨rfl, hb1⟩
         rw [HFP.out]
         obtain ⟨hc, hf⟩ := bcell hb1
         have HB1 := Lib.hid (HB0.out.trans (hb1.mono HB0.out.size))
         have K1 := keepw hb1 (show (w.alloc (.cells #[.slice A l.length c] 24)).cell? ⟨w.heap.size, 0, none⟩ = some (.slice A l.length c) by simp [go_sem])
         clear hb1
         go_wp2_with fail
         refine (rfind_any l A c aft _ (HR.out.below HB1.out) (le_maxLen (by omega))).mono ?_
         rintro e w2 ⟨rfl, hb2⟩
         rw [HFA.out]
         have K2 := keepw hb2 K1
         have HB2 := Lib.hid (HB1.out.trans (hb2.mono HB1.out.size))
         have HR2 := Lib.hid (HR.out.below HB2.out)
         have z2 : w.heap.size < w2.heap.size := World.block_lt_of_cell? _ _ K2
         clear hb2 hc hf K1
         go_wp2_with fail
         go_ret
         exact ⟨rfl, HB2.out⟩
       · obtain ⟨x1, x2, x3⟩ := str_tests haf
         by_cases hpp : ya.par = par
         · have x4 : (ya.par == par) = true := by simpa using hpp
           obtain rfl : b = true := by rw [← hb]; first | (simp [hpe, haf, ha, hia, hpp]; done) | (subst hpe; simp [haf, ha, hia, hpp])
           clear hb
           clear ha hia haf hya hp hip hpe hyp
           have HPP := Lib.hid hpp; clear hpp
           go_enter Tryz.func90, Tryz.ntmps90
           go_wp2_with fail
           refine (rfind_any l A c par _ (HR.out.below HB0.out) (le_maxLen (by omega))).mono ?_
           rintro e w1 ⟨rfl, hb1⟩
           rw [HFP.out]
           obtain ⟨hc, hf⟩ := bcell hb1
           have HB1 := Lib.hid (HB0.out.trans (hb1.mono HB0.out.size))
           have K1 := keepw hb1 (show (w.alloc (.cells #[.slice A l.length c] 24)).cell? ⟨w.heap.size, 0, none⟩ = some (.slice A l.length c) by simp [go_sem])
           clear hb1
           go_wp2_with fail
           refine (rfind_any l A c aft _ (HR.out.below HB1.out) (le_maxLen (by omega))).mono ?_
           rintro e w2 ⟨rfl, hb2⟩
           rw [HFA.out]
           have K2 := keepw hb2 K1
           have HB2 := Lib.hid (HB1.out.trans (hb2.mono HB1.out.size))
           have HR2 := Lib.hid (HR.out.below HB2.out)
           have z2 : w.heap.size < w2.heap.size := World.block_lt_of_cell? _ _ K2
           clear hb2 hc hf K1
           obtain ⟨b2, o2, hA2, hbs2, d0, d1, d2, d3, d4, d5, d6⟩ := HR2.out.item HYA.out
           subst hA2
           go_wp2_with fail
           go_ret
           exact ⟨rfl, HB2.out⟩
         · have x4 : (ya.par == par) = false := by simpa using hpp
           obtain rfl : b = false := by rw [← hb]; first | (simp [hpe, haf, ha, hia, hpp]; done) | (subst hpe; simp [haf, ha, hia, hpp])
           clear hb
           clear ha hia haf hya hpp hp hip hpe hyp
           go_enter Tryz.func90, Tryz.ntmps90
           go_wp2_with fail
           refine (rfind_any l A c par _ (HR.out.below HB0.out) (le_maxLen (by omega))).mono ?_
           rintro e w1 ⟨rfl, hb1⟩
           rw [HFP.out]
           obtain ⟨hc, hf⟩ := bcell hb1
           have HB1 := Lib.hid (HB0.out.trans (hb1.mono HB0.out.size))
           have K1 := keepw hb1 (show (w.alloc (.cells #[.slice A l.length c] 24)).cell? ⟨w.heap.size, 0, none⟩ = some (.slice A l.length c) by simp [go_sem])
           clear hb1
           go_wp2_with fail
           refine (rfind_any l A c aft _ (HR.out.below HB1.out) (le_maxLen (by omega))).mono ?_
           rintro e w2 ⟨rfl, hb2⟩
           rw [HFA.out]
           have K2 := keepw hb2 K1
           have HB2 := Lib.hid (HB1.out.trans (hb2.mono HB1.out.size))
           have HR2 := Lib.hid (HR.out.below HB2.out)
           have z2 : w.heap.size < w2.heap.size := World.block_lt_of_cell? _ _ K2
           clear hb2 hc hf K1
           obtain ⟨b2, o2, hA2, hbs2, d0, d1, d2, d3, d4, d5, d6⟩ := HR2.out.item HYA.out
           subst hA2
           go_wp2_with fail
           go_ret
           exact ⟨rfl, HB2.out⟩
   · obtain ⟨n1, n2, n3⟩ := str_tests hpe
     by_cases hkd : yp.kind = 1
     · have n4 : (yp.kind == 1) = true := by simpa using hkd
       have n5 : (yp.kind != 1) = false := by simpa using hkd
       rcases find_case l aft with ⟨ha, hia⟩ | ⟨ka, ya, ha, hya, hia⟩
       · have HFA := Lib.hid ha
         by_cases haf : aft = []
         · obtain ⟨x1, x2, x3⟩ := emp_tests haf
           obtain rfl : b = true := by rw [← hb]; simp [hpe, hp, hip, hkd, haf]
           clear hb
           clear ha hia haf hp hip hpe hyp hkd
           go_enter Tryz.func90, Tryz.ntmps90
           go_wp2_with fail
           refine (rfind_any l A c par _ (HR.out.below HB0.out) (le_maxLen (by omega))).mono ?_
           rintro e w1 ⟨rfl, hb1⟩
           rw [HFP.out]
           obtain ⟨hc, hf⟩ := bcell hb1
           have HB1 := Lib.hid (HB0.out.trans (hb1.mono HB0.out.size))
           have K1 := keepw hb1 (show (w.alloc (.cells #[.slice A l.length c] 24)).cell? ⟨w.heap.size, 0, none⟩ = some (.slice A l.length c) by simp [go_sem])
           clear hb1
           go_wp2_with fail
           refine (rfind_any l A c aft _ (HR.out.below HB1.out) (le_maxLen (by omega))).mono ?_
           rintro e w2 ⟨rfl, hb2⟩
           rw [HFA.out]
           have K2 := keepw hb2 K1
           have HB2 := Lib.hid (HB1.out.trans (hb2.mono HB1.out.size))
           have HR2 := Lib.hid (HR.out.below HB2.out)
           have z2 : w.heap.size < w2.heap.size := World.block_lt_of_cell? _ _ K2
           clear hb2 hc hf K1
           obtain ⟨b1, o1, hA1, hbs1, c0, c1, c2, c3, c4, c5, c6⟩ := HR2.out.item HYP.out
           subst hA1
           go_wp2_with fail
           go_ret
           exact ⟨rfl, HB2.out⟩
         · obtain ⟨x1, x2, x3⟩ := str_tests haf
           obtain rfl : b = false := by rw [← hb]; simp [hpe, hp, hip, hkd, haf, ha]
           clear hb
           clear ha hia haf hp hip hpe hyp hkd
           go_enter Tryz.func90, Tryz.ntmps90
           go_wp2_with fail
           refine (rfind_any l A c par _ (HR.out.below HB0.out) (le_maxLen (by omega))).mono ?_
           rintro e w1 ⟨rfl, hb1⟩
           rw [HFP.out]
           obtain ⟨hc, hf⟩ := bcell hb1
           have HB1 := Lib.hid (HB0.out.trans (hb1.mono HB0.out.size))
           have K1 := keepw hb1 (show (w.alloc (.cells #[.slice A l.length c] 24)).cell? ⟨w.heap.size, 0, none⟩ = some (.slice A l.length c) by simp [go_sem])
           clear hb1
           go_wp2_with fail
           refine (rfind_any l A c aft _ (HR.out.below HB1.out) (le_maxLen (by omega))).mono ?_
           rintro e w2 ⟨rfl, hb2⟩
           rw [HFA.out]
           have K2 := keepw hb2 K1
           have HB2 := Lib.hid (HB1.out.trans (hb2.mono HB1.out.size))
           have HR2 := Lib.hid (HR.out.below HB2.out)
           have z2 : w.heap.size < w2.heap.size := World.block_lt_of_cell? _ _ K2
           clear hb2 hc hf K1
           obtain ⟨b1, o1, hA1, hbs1, c0, c1, c2, c3, c4, c5, c6⟩ := HR2.out.item HYP.out
           subst hA1
           go_wp2_with fail
           go_ret
           exact ⟨rfl, HB2.out⟩
       · have HFA := Lib.hid ha
         have HYA := Lib.hid hya
         have ga : (ka : Int) < l.length := by have := (List.getElem?_eq_some_iff.1 hya).1; omega
         have ga0 : (0 : Int) ≤ ka := by omega
         have ga1 : decide ((ka : Int) < 0) = false := by simp
         have ga2 : decide ((0 : Int) ≤ ka) = true := by simp
         by_cases haf : aft = []
         · obtain ⟨x1, x2, x3⟩ := emp_tests haf
           obtain rfl : b = true := by rw [← hb]; simp [hpe, hp, hip, hkd, haf]
           clear hb
           clear ha hia haf hya hp hip hpe hyp hkd
           go_enter Tryz.func90, Tryz.ntmps90
           go_wp2_with fail
           refine (rfind_any l A c par _ (HR.out.below HB0.out) (le_maxLen (by omega))).mono ?_
           rintro e w1 ⟨rfl, hb1⟩
           rw [HFP.out]
           obtain ⟨hc, hf⟩ := bcell hb1
           have HB1 := Lib.hid (HB0.out.trans (hb1.mono HB0.out.size))
           have K1 := keepw hb1 (show (w.alloc (.cells #[.slice A l.length c] 24)).cell? ⟨w.heap.size, 0, none⟩ = some (.slice A l.length c) by simp [go_sem])
           clear hb1
           go_wp2_with fail
           refine (rfind_any l A c aft _ (HR.out.below HB1.out) (le_maxLen (by omega))).mono ?_
           rintro e w2 ⟨rfl, hb2⟩
           rw [HFA.out]
           have K2 := keepw hb2 K1
           have HB2 := Lib.hid (HB1.out.trans (hb2.mono HB1.out.size))
           have HR2 := Lib.hid (HR.out.below HB2.out)
           have z2 : w.heap.size < w2.heap.size := World.block_lt_of_cell? _ _ K2
           clear hb2 hc hf K1
           obtain ⟨b1, o1, hA1, hbs1, c0, c1, c2, c3, c4, c5, c6⟩ := HR2.out.item HYP.out
           subst hA1
           go_wp2_with fail
           go_ret
           exact ⟨rfl, HB2.out⟩
         · obtain ⟨x1, x2, x3⟩ := str_tests haf
           by_cases hpp : ya.par = par
           · have x4 : (ya.par == par) = true := by simpa using hpp
             obtain rfl : b = true := by rw [← hb]; simp [hpe, hp, hip, hkd, haf, ha, hia, hpp]
             clear hb
             clear ha hia haf hya hp hip hpe hyp hkd
             have HPP := Lib.hid hpp; clear hpp
             go_enter Tryz.func90, Tryz.ntmps90
             go_wp2_with fail
             refine (rfind_any l A c par _ (HR.out.below HB0.out) (le_maxLen (by omega))).mono ?_
             rintro e w1 ⟨rfl, hb1⟩
             rw [HFP.out]
             obtain ⟨hc, hf⟩ := bcell hb1
             have HB1 := Lib.hid (HB0.out.trans (hb1.mono HB0.out.size))
             have K1 := keepw hb1 (show (w.alloc (.cells #[.slice A l.length c] 24)).cell? ⟨w.heap.size, 0, none⟩ = some (.slice A l.length c) by simp [go_sem])
             clear hb1
             go_wp2_with fail
             refine (rfind_any l A c aft _ (HR.out.below HB1.out) (le_maxLen (by omega))).mono ?_
             rintro e w2 ⟨rfl, hb2⟩
             rw [HFA.out]
             have K2 := keepw hb2 K1
             have HB2 := Lib.hid (HB1.out.trans (hb2.mono HB1.out.size))
             have HR2 := Lib.hid (HR.out.below HB2.out)
             have z2 : w.heap.size < w2.heap.size := World.block_lt_of_cell? _ _ K2
             clear hb2 hc hf K1
             obtain ⟨b1, o1, hA1, hbs1, c0, c1, c2, c3, c4, c5, c6⟩ := HR2.out.item HYP.out
             obtain ⟨b2, o2, hA2, hbs2, d0, d1, d2, d3, d4, d5, d6⟩ := HR2.out.item HYA.out
             subst hA1
             cases hA2
             go_wp2_with fail
             go_ret
             exact ⟨rfl, HB2.out⟩
           · have x4 : (ya.par == par) = false := by simpa using hpp
             obtain rfl : b = false := by rw [← hb]; simp [hpe, hp, hip, hkd, haf, ha, hia, hpp]
             clear hb
             clear ha hia haf hya hpp hp hip hpe hyp hkd
             go_enter Tryz.func90, Tryz.ntmps90
             go_wp2_with fail
             refine (rfind_any l A c par _ (HR.out.below HB0.out) (le_maxLen (by omega))).mono ?_
             rintro e w1 ⟨rfl, hb1⟩
             rw [HFP.out]
             obtain ⟨hc, hf⟩ := bcell hb1
             have HB1 := Lib.hid (HB0.out.trans (hb1.mono HB0.out.size))
             have K1 := keepw hb1 (show (w.alloc (.cells #[.slice A l.length c] 24)).cell? ⟨w.heap.size, 0, none⟩ = some (.slice A l.length c) by simp [go_sem])
             clear hb1
             go_wp2_with fail
             refine (rfind_any l A c aft _ (HR.out.below HB1.out) (le_maxLen (by omega))).mono ?_
             rintro e w2 ⟨rfl, hb2⟩
             rw [HFA.out]
             have K2 := keepw hb2 K1
             have HB2 := Lib.hid (HB1.out.trans (hb2.mono HB1.out.size))
             have HR2 := Lib.hid (HR.out.below HB2.out)
             have z2 : w.heap.size < w2.heap.size := World.block_lt_of_cell? _ _ K2
             clear hb2 hc hf K1
             obtain ⟨b1, o1, hA1, hbs1, c0, c1, c2, c3, c4, c5, c6⟩ := HR2.out.item HYP.out
             obtain ⟨b2, o2, hA2, hbs2, d0, d1, d2, d3, d4, d5, d6⟩ := HR2.out.item HYA.out
             subst hA1
             cases hA2
             go_wp2_with fail
             go_ret
             exact ⟨rfl, HB2.out⟩
     · have n4 : (yp.kind == 1) = false := by simpa using hkd
       have n5 : (yp.kind != 1) = true := by simpa using hkd
       rcases find_case l aft with ⟨ha, hia⟩ | ⟨ka, ya, ha, hya, hia⟩
       · have HFA := Lib.hid ha
         by_cases haf : aft = []
         · obtain ⟨x1, x2, x3⟩ := emp_tests haf
           obtain rfl : b = false := by rw [← hb]; simp [hpe, hp, hip, hkd, haf]
           clear hb
           clear ha hia haf hp hip hpe hyp hkd
           go_enter Tryz.func90, Tryz.ntmps90
           go_wp2_with fail
           refine (rfind_any l A c par _ (HR.out.below HB0.out) (le_maxLen (by omega))).mono ?_
           rintro e w1 ⟨rfl, hb1⟩
           rw [HFP.out]
           obtain ⟨hc, hf⟩ := bcell hb1
           have HB1 := Lib.hid (HB0.out.trans (hb1.mono HB0.out.size))
           have K1 := keepw hb1 (show (w.alloc (.cells #[.slice A l.length c] 24)).cell? ⟨w.heap.size, 0, none⟩ = some (.slice A l.length c) by simp [go_sem])
           clear hb1
           go_wp2_with fail
           refine (rfind_any l A c aft _ (HR.out.below HB1.out) (le_maxLen (by omega))).mono ?_
           rintro e w2 ⟨rfl, hb2⟩
           rw [HFA.out]
           have K2 := keepw hb2 K1
           have HB2 := Lib.hid (HB1.out.trans (hb2.mono HB1.out.size))
           have HR2 := Lib.hid (HR.out.below HB2.out)
           have z2 : w.heap.size < w2.heap.size := World.block_lt_of_cell? _ _ K2
           clear hb2 hc hf K1
           obtain ⟨b1, o1, hA1, hbs1, c0, c1, c2, c3, c4, c5, c6⟩ := HR2.out.item HYP.out
           subst hA1
           go_wp2_with fail
           go_ret
           exact ⟨rfl, HB2.out⟩
         · obtain ⟨x1, x2, x3⟩ := str_tests haf
           obtain rfl : b = false := by rw [← hb]; simp [hpe, hp, hip, hkd, haf, ha]
           clear hb
           clear ha hia haf hp hip hpe hyp hkd
           go_enter Tryz.func90, Tryz.ntmps90
           go_wp2_with fail
           refine (rfind_any l A c par _ (HR.out.below HB0.out) (le_maxLen (by omega))).mono ?_
           rintro e w1 ⟨rfl, hb1⟩
           rw [HFP.out]
           obtain ⟨hc, hf⟩ := bcell hb1
           have HB1 := Lib.hid (HB0.out.trans (hb1.mono HB0.out.size))
           have K1 := keepw hb1 (show (w.alloc (.cells #[.slice A l.length c] 24)).cell? ⟨w.heap.size, 0, none⟩ = some (.slice A l.length c) by simp [go_sem])
           clear hb1
           go_wp2_with fail
           refine (rfind_any l A c aft _ (HR.out.below HB1.out) (le_maxLen (by omega))).mono ?_
           rintro e w2 ⟨rfl, hb2⟩
           rw [HFA.out]
           have K2 := keepw hb2 K1
           have HB2 := Lib.hid (HB1.out.trans (hb2.mono HB1.out.size))
           have HR2 := Lib.hid (HR.out.below HB2.out)
           have z2 : w.heap.size < w2.heap.size := World.block_lt_of_cell? _ _ K2
           clear hb2 hc hf K1
           obtain ⟨b1, o1, hA1, hbs1, c0, c1, c2, c3, c4, c5, c6⟩ := HR2.out.item HYP.out
           subst hA1
           go_wp2_with fail
           go_ret
           exact ⟨rfl, HB2.out⟩
       · have HFA := Lib.hid ha
         have HYA := Lib.hid hya
         have ga : (ka : Int) < l.length := by have := (List.getElem?_eq_some_iff.1 hya).1; omega
         have ga0 : (0 : Int) ≤ ka := by omega
         have ga1 : decide ((ka : Int) < 0) = false := by simp
         have ga2 : decide ((0 : Int) ≤ ka) = true := by simp
         by_cases haf : aft = []
         · obtain ⟨x1, x2, x3⟩ := emp_tests haf
           obtain rfl : b = false := by rw [← hb]; simp [hpe, hp, hip, hkd, haf]
           clear hb
           clear ha hia haf hya hp hip hpe hyp hkd
           go_enter Tryz.func90, Tryz.ntmps90
           go_wp2_with fail
           refine (rfind_any l A c par _ (HR.out.below HB0.out) (le_maxLen (by omega))).mono ?_
           rintro e w1 ⟨rfl, hb1⟩
           rw [HFP.out]
           obtain ⟨hc, hf⟩ := bcell hb1
           have HB1 := Lib.hid (HB0.out.trans (hb1.mono HB0.out.size))
           have K1 := keepw hb1 (show (w.alloc (.cells #[.slice A l.length c] 24)).cell? ⟨w.heap.size, 0, none⟩ = some (.slice A l.length c) by simp [go_sem])
           clear hb1
           go_wp2_with fail
           refine (rfind_any l A c aft _ (HR.out.below HB1.out) (le_maxLen (by omega))).mono ?_
           rintro e w2 ⟨rfl, hb2⟩
           rw [HFA.out]
           have K2 := keepw hb2 K1
           have HB2 := Lib.hid (HB1.out.trans (hb2.mono HB1.out.size))
           have HR2 := Lib.hid (HR.out.below HB2.out)
           have z2 : w.heap.size < w2.heap.size := World.block_lt_of_cell? _ _ K2
           clear hb2 hc hf K1
           obtain ⟨b1, o1, hA1, hbs1, c0, c1, c2, c3, c4, c5, c6⟩ := HR2.out.item HYP.out
           subst hA1
           go_wp2_with fail
           go_ret
           exact ⟨rfl, HB2.out⟩
         · obtain ⟨x1, x2, x3⟩ := str_tests haf
           by_cases hpp : ya.par = par
           · have x4 : (ya.par == par) = true := by simpa using hpp
             obtain rfl : b = false := by rw [← hb]; simp [hpe, hp, hip, hkd, haf, ha, hia, hpp]
             clear hb
             clear ha hia haf hya hp hip hpe hyp hkd
             have HPP := Lib.hid hpp; clear hpp
             go_enter Tryz.func90, Tryz.ntmps90
             go_wp2_with fail
             refine (rfind_any l A c par _ (HR.out.below HB0.out) (le_maxLen (by omega))).mono ?_
             rintro e w1 ⟨rfl, hb1⟩
             rw [HFP.out]
             obtain ⟨hc, hf⟩ := bcell hb1
             have HB1 := Lib.hid (HB0.out.trans (hb1.mono HB0.out.size))
             have K1 := keepw hb1 (show (w.alloc (.cells #[.slice A l.length c] 24)).cell? ⟨w.heap.size, 0, none⟩ = some (.slice A l.length c) by simp [go_sem])
             clear hb1
             go_wp2_with fail
             refine (rfind_any l A c aft _ (HR.out.below HB1.out) (le_maxLen (by omega))).mono ?_
             rintro e w2 ⟨rfl, hb2⟩
             rw [HFA.out]
             have K2 := keepw hb2 K1
             have HB2 := Lib.hid (HB1.out.trans (hb2.mono HB1.out.size))
             have HR2 := Lib.hid (HR.out.below HB2.out)
             have z2 : w.heap.size < w2.heap.size := World.block_lt_of_cell? _ _ K2
             clear hb2 hc hf K1
             obtain ⟨b1, o1, hA1, hbs1, c0, c1, c2, c3, c4, c5, c6⟩ := HR2.out.item HYP.out
             subst hA1
             go_wp2_with fail
             go_ret
             exact ⟨rfl, HB2.out⟩
           · have x4 : (ya.par == par) = false := by simpa using hpp
             obtain rfl : b = false := by rw [← hb]; simp [hpe, hp, hip, hkd, haf, ha, hia, hpp]
             clear hb
             clear ha hia haf hya hpp hp hip hpe hyp hkd
             go_enter Tryz.func90, Tryz.ntmps90
             go_wp2_with fail
             refine (rfind_any l A c par _ (HR.out.below HB0.out) (le_maxLen (by omega))).mono ?_
             rintro e w1 ⟨rfl, hb1⟩
             rw [HFP.out]
             obtain ⟨hc, hf⟩ := bcell hb1
             have HB1 := Lib.hid (HB0.out.trans (hb1.mono HB0.out.size))
             have K1 := keepw hb1 (show (w.alloc (.cells #[.slice A l.length c] 24)).cell? ⟨w.heap.size, 0, none⟩ = some (.slice A l.length c) by simp [go_sem])
             clear hb1
             go_wp2_with fail
             refine (rfind_any l A c aft _ (HR.out.below HB1.out) (le_maxLen (by omega))).mono ?_
             rintro e w2 ⟨rfl, hb2⟩
             rw [HFA.out]
             have K2 := keepw hb2 K1
             have HB2 := Lib.hid (HB1.out.trans (hb2.mono HB1.out.size))
             have HR2 := Lib.hid (HR.out.below HB2.out)
             have z2 : w.heap.size < w2.heap.size := World.block_lt_of_cell? _ _ K2
             clear hb2 hc hf K1
             obtain ⟨b1, o1, hA1, hbs1, c0, c1, c2, c3, c4, c5, c6⟩ := HR2.out.item HYP.out
             subst hA1
             go_wp2_with fail
             go_ret
             exact ⟨rfl, HB2.out⟩
end Go.Proofs.YtfolcjkednmkoaaGreat
set_option maxRecDepth 20000
set_option maxHeartbeats 1000000
namespace Go.Proofs.YtfolcjkednmkoaaGreat
open Go.RowKit
def timesN (t f : Str) : Nat → Nat
 | 0 => 0
 | k + 1 => timesN t f k + if Lib.occAt t f k then 1 else 0
theorem times_none {t f : Str} : ∀ {k : Nat}, (∀ j, j < k → Lib.occAt t f j = false) → timesN t f k = 0 ∧ Lib.lastOcc t f k = -1
 | 0, _ => ⟨rfl, rfl⟩
 | k + 1, h => by
   obtain ⟨h1, h2⟩ := times_none (k := k) (fun j hj => h j (by omega))
   have h3 := h k (by omega)
   exact ⟨by simp [timesN, h1, h3], by rw [Lib.lastOcc_miss _ _ _ h3, h2]⟩
theorem times_some {t f : Str} {i : Nat} (ho : Lib.occAt t f i = true) (hn : ∀ j, j < i → Lib.occAt t f j = false) : ∀ (k : Nat), i < k → 1 ≤ timesN t f k ∧ (timesN t f k = 1 ↔ Lib.lastOcc t f k = i)
 | 0, h => by omega
 | k + 1, h => by
   by_cases hk : i = k
   · subst hk
     obtain ⟨h1, h2⟩ := times_none hn
     rw [Lib.lastOcc_hit _ _ _ ho]
     simp [timesN, h1, ho]
   · obtain ⟨h1, h2⟩ := times_some ho hn k (by omega)
     cases hc : Lib.occAt t f k with
     | true =>
       rw [Lib.lastOcc_hit _ _ _ hc]
       simp only [timesN, hc, if_true]
       constructor
       · omega
       · constructor <;> intro <;> omega
     | false =>
       rw [Lib.lastOcc_miss _ _ _ hc]
       simpa [timesN, hc] using ⟨h1, h2⟩
def timesL (t f : Str) : Nat := timesN t f (t.length + 1 - f.length)
theorem once_times (t f : Str) : onceIs t f = (timesL t f == 1) := by
 unfold onceIs onceAt timesL Lib.lastIndex
 rcases Lib.index_spec t f with ⟨h1, h2⟩ | ⟨i, h1, h2, h3, h4⟩
 · obtain ⟨e1, _⟩ := times_none (t := t) (f := f) (k := t.length + 1 - f.length) (fun j hj => h2 j (by omega))
   rw [h1, e1]
   simp
 · have hroom := Lib.index_room t f (by rw [h1]; omega)
   rw [h1] at hroom
   have hr : i + f.length ≤ t.length := by omega
   obtain ⟨e1, e2⟩ := times_some h3 h4 (t.length + 1 - f.length) (by omega)
   rw [h1, if_pos (by omega), show t.length - f.length + 1 = t.length + 1 - f.length by omega]
   have hp : decide ((0 : Int) ≤ (i : Int)) = true := by simp
   rw [hp, Bool.true_and, Bool.eq_iff_iff]
   simp only [beq_iff_eq]
   exact e2.symm
theorem extract_list (t : Str) (a b : Nat) : ((⟨t.toArray⟩ : ByteArray).extract a b).toList = (t.drop a).take (b - a) := by
 rw [ByteArray.toList_eq]
 simp [ByteArray.data_extract]
theorem occ_list {t f : Str} {k : Nat} (h : k + f.length ≤ t.length) : (((⟨t.toArray⟩ : ByteArray).extract k (k + f.length)).toList == f) = Lib.occAt t f k := by
 rw [extract_list, Lib.occAt_iff_take _ _ _ h, Nat.add_sub_cancel_left]
theorem timesN_le (t f : Str) : ∀ k, timesN t f k ≤ k
 | 0 => Nat.le_refl _
 | k + 1 => by
   have := timesN_le t f k
   simp only [timesN]
   split <;> omega
theorem rtimes_any (t f : Str) (w : World) (ht : t.length ≤ 1000000) (hf : f.length ≤ 1000000) :
 Calls Tryz.prog 93 #[vs t, vs f] w fun e w' => e = .returned (.int .i64 (timesL t f)) ∧ w' = w := by
 go_enter Tryz.func93, Tryz.ntmps93
 go_wp2_with fail
 go_loop [5, 6] (fun n i => ∃ k : Nat, k ≤ t.length + 1 - f.length ∧ n = .int .i64 (timesN t f k) ∧ i = .int .i64 k) (fun _ i => t.length + 1 - f.length - (intOf i).toNat)
 case atStart => exact ⟨0, Nat.zero_le _, rfl, rfl⟩
 case round =>
  obtain ⟨k, hk, rfl, rfl⟩ := hrel
  have htn := timesN_le t f k
  have htn1 : (timesN t f k : Int) ≤ 1000001 := by omega
  have htn0 : (0 : Int) ≤ timesN t f k := by omega
  by_cases hlt : k < t.length + 1 - f.length
  · have hr : k + f.length ≤ t.length := by omega
    have hob := occ_list hr
    have hi0 : (0 : Int) ≤ k := by omega
    have hi1 : (k : Int) + f.length ≤ t.length := by omega
    have hi2 : ((k : Int) + f.length).toNat = k + f.length := by omega
    have hi3 : (0 : Int) ≤ (k : Int) + f.length := by omega
    have hi4 : (t.length : Int) ≤ 1000000 := by omega
    have hi5 : (k : Int) ≤ (k : Int) + f.length := by omega
    cases ho : Lib.occAt t f k with
    | true =>
      rw [ho] at hob
      have HO := Lib.hid ho; clear ho
      go_wp2_with fail
      exact ⟨⟨k + 1, by omega, by simp only [timesN, HO.out, if_true]; go_num, by go_num⟩, by simp [intOf]; omega⟩
    | false =>
      rw [ho] at hob
      have HO := Lib.hid ho; clear ho
      go_wp2_with fail
      exact ⟨⟨k + 1, by omega, by simp [timesN, HO.out], by go_num⟩, by simp [intOf]; omega⟩
  · obtain rfl : t.length + 1 - f.length = k := by omega
    have hi1 : decide ((((t.length + 1 - f.length : Nat) : Int)) + f.length ≤ t.length) = false := by simp; omega
    have hi3 : (t.length : Int) < ((t.length + 1 - f.length : Nat) : Int) + f.length := by omega
    have hi8 : decide (t.length + 1 - f.length + f.length ≤ t.length) = false := by simp; omega
    clear hlt hk
    have hi7 : ((t.length + 1 - f.length : Nat) : Int) ≤ 1000001 := by omega
    have HT : Hid (timesL t f = timesN t f (t.length + 1 - f.length)) := Lib.hid rfl
    generalize t.length + 1 - f.length = k at *
    have hi2 : (0 : Int) ≤ k := by omega
    go_wp2_with fail
    go_ret
    exact ⟨by rw [HT.out]; rfl, rfl⟩
theorem rreplaced_any (t f u : Str) (i : Nat) (w : World) (ht : t.length ≤ 1000000) (hf : f.length ≤ 1000000) (hu : u.length ≤ 1000000) (hi : onceAt t f = i) (hr : i + f.length ≤ t.length) :
 Calls Tryz.prog 61 #[vs t, vs f, vs u] w fun e w' => e = .returned (vs (swap t f u i)) ∧ Below w.heap.size w w' := by
 have hspec : Lib.occAt t f i = true ∧ ∀ j, j < i → Lib.occAt t f j = false := by
  unfold onceAt at hi
  rcases Lib.index_spec t f with ⟨h1, _⟩ | ⟨j, h1, h2, h3, h4⟩
  · rw [h1] at hi; omega
  · rw [h1] at hi
    obtain rfl : j = i := by omega
    exact ⟨h3, h4⟩
 have HSP := Lib.hid hspec; clear hspec hi
 go_enter Tryz.func61, Tryz.ntmps61
 go_wp2_with fail
 go_loop [7] (fun j => ∃ k : Nat, k ≤ i ∧ j = .int .i64 k) (fun j => i - (intOf j).toNat)
 case atStart => exact ⟨0, Nat.zero_le _, rfl⟩
 case round =>
  obtain ⟨k, hk, rfl⟩ := hrel
  have hr1 : k + f.length ≤ t.length := by omega
  have hob := occ_list hr1
  have hi0 : (0 : Int) ≤ k := by omega
  have hi1 : (k : Int) + f.length ≤ t.length := by omega
  have hi2 : ((k : Int) + f.length).toNat = k + f.length := by omega
  have hi3 : (0 : Int) ≤ (k : Int) + f.length := by omega
  have hi4 : (t.length : Int) ≤ 1000000 := by omega
  have hi5 : (k : Int) ≤ (k : Int) + f.length := by omega
  have hi6 : (k : Int) ≤ t.length := by omega
  by_cases hlt : k < i
  · rw [HSP.out.2 k hlt] at hob
    go_wp2_with fail
    exact ⟨⟨k + 1, by omega, by go_num⟩, by simp [intOf]; omega⟩
  · obtain rfl : i = k := by omega
    rw [HSP.out.1] at hob
    go_wp2_with fail
    go_region
    rw [swap_bytes]
    go_wp2_with fail
    go_ret
    exact ⟨rfl, (Below.refl _ _).drew⟩
end Go.Proofs.YtfolcjkednmkoaaGreat
set_option maxRecDepth 20000
set_option maxHeartbeats 8000000
namespace Go.Proofs.YtfolcjkednmkoaaGreat
open Go.RowKit
def plB (p : Patch) : Bool := p.par.isEmpty && p.aft.isEmpty
def woB (p : Patch) : Bool := p.lang == 0 && (p.fr.isEmpty && p.to.isEmpty)
def rformB (p : Patch) : Bool :=
 if p.kind = 1 then woB p && (p.num.isEmpty && (p.id == p.item.id && (p.par == p.item.par && walkB [{ p.item with par := [] }])))
 else if p.kind = 2 then plB p && (p.num.isEmpty && (blankB p.item && (decide (1 ≤ p.lang) && (decide (p.lang ≤ 2) && !p.fr.isEmpty))))
 else if p.kind = 3 then plB p && (woB p && (blankB p.item && walkB [⟨2, [97], [], p.num, [], [], false⟩]))
 else if p.kind = 4 then woB p && (p.num.isEmpty && blankB p.item)
 else if p.kind = 5 then plB p && (woB p && (p.num.isEmpty && blankB p.item))
 else if p.kind = 6 then plB p && (woB p && (p.num.isEmpty && blankB p.item))
 else if p.kind = 7 then plB p && (woB p && (p.num.isEmpty && blankB { p.item with no := [], so := [] }))
 else false
theorem walk_one {x : Item} (h : x.par = []) : walkB [x] = properB x := by
 cases hp : properB x with
 | true =>
   have hg : Good [x] [(x, [])] := ⟨rfl, ⟨List.prefix_refl _, h.symm, fun _ => rfl, trivial⟩, by simp [idsR], by simp [hp], by simp⟩
   exact hg.wB
 | false =>
   cases hw : walkB [x] with
   | false => rfl
   | true => have := (good_of hw).pr x (by simp); rw [hp] at this; cases this
theorem rform_eq (p : Patch) : formedF p = rformB p := by
 have h1 : walkB [⟨1, [100], [], p.num, [], [], false⟩] = walkB [⟨2, [97], [], p.num, [], [], false⟩] := by
  rw [walk_one rfl, walk_one rfl]
  have e1 : isNameB [100] = true := by decide
  have e2 : isNameB [97] = true := by decide
  simp [properB, e1, e2]
 unfold formedF rformB
 by_cases k1 : p.kind = 1
 · simp only [if_pos k1]
   rw [Bool.eq_iff_iff]
   simp [patEq, bare, woB, noItem]
   grind
 by_cases k2 : p.kind = 2
 · simp only [if_neg k1, if_pos k2]
   rw [Bool.eq_iff_iff]
   simp [patEq, bare, plB, noItem, blankB]
   grind
 by_cases k3 : p.kind = 3
 · simp only [if_neg k1, if_neg k2, if_pos k3]
   rw [h1, Bool.eq_iff_iff]
   simp [patEq, bare, plB, woB, noItem, blankB]
   grind
 by_cases k4 : p.kind = 4
 · simp only [if_neg k1, if_neg k2, if_neg k3, if_pos k4]
   rw [Bool.eq_iff_iff]
   simp [patEq, bare, plB, woB, noItem, blankB]
   grind
 by_cases k5 : p.kind = 5
 · simp only [if_neg k1, if_neg k2, if_neg k3, if_neg k4, if_pos (Or.inl k5), if_pos k5]
   rw [Bool.eq_iff_iff]
   simp [patEq, bare, plB, woB, noItem, blankB]
   grind
 by_cases k6 : p.kind = 6
 · simp only [if_neg k1, if_neg k2, if_neg k3, if_neg k4, if_pos (Or.inr k6), if_neg k5, if_pos k6]
   rw [Bool.eq_iff_iff]
   simp [patEq, bare, plB, woB, noItem, blankB]
   grind
 have k56 : ¬ (p.kind = 5 ∨ p.kind = 6) := by omega
 by_cases k7 : p.kind = 7
 · simp only [if_neg k1, if_neg k2, if_neg k3, if_neg k4, if_neg k56, if_neg k5, if_neg k6, if_pos k7]
   rw [Bool.eq_iff_iff]
   simp [patEq, bare, plB, woB, noItem, blankB]
   grind
 · simp only [if_neg k1, if_neg k2, if_neg k3, if_neg k4, if_neg k56, if_neg k5, if_neg k6, if_neg k7]
theorem arr_valid {w : World} {x : Item} : RdI (w.alloc (.cells x.cells.toArray 27)) (some ⟨w.heap.size, 0, none⟩) [x] := RdI.of_row (cur := x.cells) (rest := []) (t := 27) (heap_new_at (by simp)) (by simp [flat])
theorem rformed_any (p : Patch) (w : World) (hsh : p.item.Short) (hnl : p.num.length ≤ maxLen) :
 Calls Tryz.prog 25 #[p.agg] w fun e w' => e = .returned (.bool (rformB p)) ∧ Below w.heap.size w w' := by
 obtain ⟨b, hb⟩ : ∃ b, rformB p = b := ⟨_, rfl⟩
 rw [hb]
 have hb0 := (Below.refl w.heap.size w).alloc (Nat.le_refl _) (.cells (patCs p) 29)
 have HB0 := Lib.hid hb0; clear hb0
 have HBB := Lib.hid hb; clear hb
 go_enter Tryz.func25, Tryz.ntmps25
 go_upto_region 1 with (fail)
 go_cut [3] (fun v wc => v = .bool (plB p) ∧ wc = w.alloc (.cells (patCs p) 29))
 case first =>
  have hP : p.par ≠ [] ∨ (p.par = [] ∧ p.aft ≠ []) ∨ (p.par = [] ∧ p.aft = []) := by
   by_cases h1 : p.par = [] <;> by_cases h2 : p.aft = [] <;> simp [h1, h2]
  rcases hP with h1 | ⟨h1, h2⟩ | ⟨h1, h2⟩
  · obtain ⟨n1, n2, n3⟩ := str_tests h1
    have hp : plB p = false := by simp [plB, n3]
    have HP := Lib.hid hp; clear hp h1
    go_wp2_with fail
    go_meet
    case rel => exact ⟨by rw [HP.out], rfl⟩
  · obtain ⟨n1, n2, n3⟩ := emp_tests h1
    obtain ⟨m1, m2, m3⟩ := str_tests h2
    have hp : plB p = false := by simp [plB, n3, m3]
    have HP := Lib.hid hp; clear hp h1 h2
    go_wp2_with fail
    go_meet
    case rel => exact ⟨by rw [HP.out], rfl⟩
  · obtain ⟨n1, n2, n3⟩ := emp_tests h1
    obtain ⟨m1, m2, m3⟩ := emp_tests h2
    have hp : plB p = true := by simp [plB, n3, m3]
    have HP := Lib.hid hp; clear hp h1 h2
    go_wp2_with fail
    go_meet
    case rel => exact ⟨by rw [HP.out], rfl⟩
 case' rest =>
  obtain ⟨rfl, rfl⟩ := hcut
  go_upto_region 2 with (fail)
  go_cut [4] (fun v wc => v = .bool (woB p) ∧ wc = w.alloc (.cells (patCs p) 29))
  case first =>
   have hP : p.lang ≠ 0 ∨ (p.lang = 0 ∧ p.fr ≠ []) ∨ (p.lang = 0 ∧ p.fr = [] ∧ p.to ≠ []) ∨ (p.lang = 0 ∧ p.fr = [] ∧ p.to = []) := by
    by_cases h1 : p.lang = 0 <;> by_cases h2 : p.fr = [] <;> by_cases h3 : p.to = [] <;> simp [h1, h2, h3]
   rcases hP with h1 | ⟨h1, h2⟩ | ⟨h1, h2, h3⟩ | ⟨h1, h2, h3⟩
   · have n1 : (p.lang == 0) = false := by simpa using h1
     have hp : woB p = false := by simp [woB, n1]
     have HP := Lib.hid hp; clear hp h1
     go_wp2_with fail
     go_meet
     case rel => exact ⟨by rw [HP.out], rfl⟩
   · have n1 : (p.lang == 0) = true := by simpa using h1
     obtain ⟨m1, m2, m3⟩ := str_tests h2
     have hp : woB p = false := by simp [woB, n1, m3]
     have HP := Lib.hid hp; clear hp h1 h2
     go_wp2_with fail
     go_meet
     case rel => exact ⟨by rw [HP.out], rfl⟩
   · have n1 : (p.lang == 0) = true := by simpa using h1
     obtain ⟨m1, m2, m3⟩ := emp_tests h2
     obtain ⟨l1, l2, l3⟩ := str_tests h3
     have hp : woB p = false := by simp [woB, n1, m3, l3]
     have HP := Lib.hid hp; clear hp h1 h2 h3
     go_wp2_with fail
     go_meet
     case rel => exact ⟨by rw [HP.out], rfl⟩
   · have n1 : (p.lang == 0) = true := by simpa using h1
     obtain ⟨m1, m2, m3⟩ := emp_tests h2
     obtain ⟨l1, l2, l3⟩ := emp_tests h3
     have hp : woB p = true := by simp [woB, n1, m3, l3]
     have HP := Lib.hid hp; clear hp h1 h2 h3
     go_wp2_with fail
     go_meet
     case rel => exact ⟨by rw [HP.out], rfl⟩
  case' rest =>
   obtain ⟨rfl, rfl⟩ := hcut
   by_cases kk1 : p.kind = 1
   · have hd1 : (p.kind == 1) = true := by simp [kk1]
     have hd2 : (p.kind == 2) = false := by simp [kk1]
     have hd3 : (p.kind == 3) = false := by simp [kk1]
     have hd4 : (p.kind == 4) = false := by simp [kk1]
     have hd5 : (p.kind == 5) = false := by simp [kk1]
     have hd6 : (p.kind == 6) = false := by simp [kk1]
     have hd7 : (p.kind == 7) = false := by simp [kk1]
     cases hwo : woB p with
     | false =>
       have hbv : b = false := by rw [← HBB.out]; unfold rformB; simp [kk1, hwo]
       subst hbv
       clear kk1
       go_wp2_with fail
       go_ret
       exact ⟨rfl, HB0.out.alloc HB0.out.size _⟩
     | true =>
       by_cases hnum : p.num = []
       · obtain ⟨num1, num2, num3⟩ := emp_tests hnum
         cases hids : (p.id == p.item.id) with
         | false =>
           have hbv : b = false := by rw [← HBB.out]; unfold rformB; simp [kk1, hwo, hnum, hids]
           subst hbv
           clear hnum
           clear kk1
           go_wp2_with fail
           go_ret
           exact ⟨rfl, HB0.out.alloc HB0.out.size _⟩
         | true =>
           cases hpars : (p.par == p.item.par) with
           | false =>
             have hbv : b = false := by rw [← HBB.out]; unfold rformB; simp [kk1, hwo, hnum, hids, hpars]
             subst hbv
             clear hnum
             clear kk1
             go_wp2_with fail
             go_ret
             exact ⟨rfl, HB0.out.alloc HB0.out.size _⟩
           | true =>
             cases hvalid : walkB [{ p.item with par := [] }] with
             | false =>
               have hbv : b = false := by rw [← HBB.out]; unfold rformB; simp [kk1, hwo, hnum, hids, hpars, hvalid]
               subst hbv
               have Hvalid := Lib.hid hvalid; clear hvalid
               clear hnum
               clear kk1
               go_wp2_with fail
               refine (rvalid_any [{ p.item with par := [] }] (some ⟨w.heap.size + 1 + 1, 0, none⟩) 1 _ (RdI.of_row (cur := Item.cells { p.item with par := [] }) (rest := []) (t := 27) (heap_new_at (by simp)) (by simp [flat])) (by simp) (by simp; exact ⟨hsh.id, Nat.zero_le _, hsh.num, hsh.no, hsh.so⟩)).mono ?_
               rintro e w2 ⟨rfl, hb2⟩
               rw [Hvalid.out]
               have HB2 : Hid (Below w.heap.size w w2) := Lib.hid (((HB0.out.alloc HB0.out.size _).alloc (by simp; omega) _).trans (hb2.mono (by simp; omega)))
               clear hb2
               go_wp2_with fail
               go_ret
               exact ⟨rfl, HB2.out⟩
             | true =>
               have hbv : b = true := by rw [← HBB.out]; unfold rformB; simp [kk1, hwo, hnum, hids, hpars, hvalid]
               subst hbv
               have Hvalid := Lib.hid hvalid; clear hvalid
               clear hnum
               clear kk1
               go_wp2_with fail
               refine (rvalid_any [{ p.item with par := [] }] (some ⟨w.heap.size + 1 + 1, 0, none⟩) 1 _ (RdI.of_row (cur := Item.cells { p.item with par := [] }) (rest := []) (t := 27) (heap_new_at (by simp)) (by simp [flat])) (by simp) (by simp; exact ⟨hsh.id, Nat.zero_le _, hsh.num, hsh.no, hsh.so⟩)).mono ?_
               rintro e w2 ⟨rfl, hb2⟩
               rw [Hvalid.out]
               have HB2 : Hid (Below w.heap.size w w2) := Lib.hid (((HB0.out.alloc HB0.out.size _).alloc (by simp; omega) _).trans (hb2.mono (by simp; omega)))
               clear hb2
               go_wp2_with fail
               go_ret
               exact ⟨rfl, HB2.out⟩
       · obtain ⟨num1, num2, num3⟩ := str_tests hnum
         have hbv : b = false := by rw [← HBB.out]; unfold rformB; simp [kk1, hwo, hnum]
         subst hbv
         clear hnum
         clear kk1
         go_wp2_with fail
         go_ret
         exact ⟨rfl, HB0.out.alloc HB0.out.size _⟩
   by_cases kk2 : p.kind = 2
   · have hd1 : (p.kind == 1) = false := by simp [kk2]
     have hd2 : (p.kind == 2) = true := by simp [kk2]
     have hd3 : (p.kind == 3) = false := by simp [kk2]
     have hd4 : (p.kind == 4) = false := by simp [kk2]
     have hd5 : (p.kind == 5) = false := by simp [kk2]
     have hd6 : (p.kind == 6) = false := by simp [kk2]
     have hd7 : (p.kind == 7) = false := by simp [kk2]
     clear kk1
     cases hpl : plB p with
     | false =>
       have hbv : b = false := by rw [← HBB.out]; unfold rformB; simp [kk2, hpl]
       subst hbv
       clear kk2
       go_wp2_with fail
       go_ret
       exact ⟨rfl, HB0.out⟩
     | true =>
       by_cases hnum : p.num = []
       · obtain ⟨num1, num2, num3⟩ := emp_tests hnum
         cases hblank : blankB p.item with
         | false =>
           have hbv : b = false := by rw [← HBB.out]; unfold rformB; simp [kk2, hpl, hnum, hblank]
           subst hbv
           have Hblank := Lib.hid hblank; clear hblank
           clear hnum
           clear kk2
           go_wp2_with fail
           refine (rblank_any p.item _).mono ?_
           rintro e w1 ⟨rfl, hb1⟩
           rw [Hblank.out]
           obtain ⟨hc, hf⟩ := bcell hb1
           have hblk := bblk hb1
           simp at hc hf hblk
           have hz1 := hb1.size
           simp at hz1
           have z1 : w.heap.size < w1.heap.size := by omega
           have HB1 : Hid (Below w.heap.size w w1) := Lib.hid (HB0.out.trans (hb1.mono HB0.out.size))
           clear hb1
           go_wp2_with fail
           go_ret
           exact ⟨rfl, HB1.out⟩
         | true =>
           by_cases hl1 : 1 ≤ p.lang
           · by_cases hl2 : p.lang ≤ 2
             · by_cases hfr : p.fr = []
               · obtain ⟨fr1, fr2, fr3⟩ := emp_tests hfr
                 have hbv : b = false := by rw [← HBB.out]; unfold rformB; simp [kk2, hpl, hnum, hblank, hl1, hl2, hfr]
                 subst hbv
                 have Hblank := Lib.hid hblank; clear hblank
                 clear hnum
                 clear hfr
                 have dl1 := decide_eq_true hl1
                 have dl2 := decide_eq_true hl2
                 clear kk2
                 go_wp2_with fail
                 refine (rblank_any p.item _).mono ?_
                 rintro e w1 ⟨rfl, hb1⟩
                 rw [Hblank.out]
                 obtain ⟨hc, hf⟩ := bcell hb1
                 have hblk := bblk hb1
                 simp at hc hf hblk
                 have hz1 := hb1.size
                 simp at hz1
                 have z1 : w.heap.size < w1.heap.size := by omega
                 have HB1 : Hid (Below w.heap.size w w1) := Lib.hid (HB0.out.trans (hb1.mono HB0.out.size))
                 clear hb1
                 go_wp2_with fail
                 go_ret
                 exact ⟨rfl, HB1.out⟩
               · obtain ⟨fr1, fr2, fr3⟩ := str_tests hfr
                 have hbv : b = true := by rw [← HBB.out]; unfold rformB; simp [kk2, hpl, hnum, hblank, hl1, hl2, hfr]
                 subst hbv
                 have Hblank := Lib.hid hblank; clear hblank
                 clear hnum
                 clear hfr
                 have dl1 := decide_eq_true hl1
                 have dl2 := decide_eq_true hl2
                 clear kk2
                 go_wp2_with fail
                 refine (rblank_any p.item _).mono ?_
                 rintro e w1 ⟨rfl, hb1⟩
                 rw [Hblank.out]
                 obtain ⟨hc, hf⟩ := bcell hb1
                 have hblk := bblk hb1
                 simp at hc hf hblk
                 have hz1 := hb1.size
                 simp at hz1
                 have z1 : w.heap.size < w1.heap.size := by omega
                 have HB1 : Hid (Below w.heap.size w w1) := Lib.hid (HB0.out.trans (hb1.mono HB0.out.size))
                 clear hb1
                 go_wp2_with fail
                 go_ret
                 exact ⟨rfl, HB1.out⟩
             · have hbv : b = false := by rw [← HBB.out]; unfold rformB; simp [kk2, hpl, hnum, hblank, hl1, hl2]
               subst hbv
               have Hblank := Lib.hid hblank; clear hblank
               clear hnum
               have dl1 := decide_eq_true hl1
               have dl2 := decide_eq_false hl2
               clear kk2
               go_wp2_with fail
               refine (rblank_any p.item _).mono ?_
               rintro e w1 ⟨rfl, hb1⟩
               rw [Hblank.out]
               obtain ⟨hc, hf⟩ := bcell hb1
               have hblk := bblk hb1
               simp at hc hf hblk
               have hz1 := hb1.size
               simp at hz1
               have z1 : w.heap.size < w1.heap.size := by omega
               have HB1 : Hid (Below w.heap.size w w1) := Lib.hid (HB0.out.trans (hb1.mono HB0.out.size))
               clear hb1
               go_wp2_with fail
               go_ret
               exact ⟨rfl, HB1.out⟩
           · have hbv : b = false := by rw [← HBB.out]; unfold rformB; simp [kk2, hpl, hnum, hblank, hl1]
             subst hbv
             have Hblank := Lib.hid hblank; clear hblank
             clear hnum
             have dl1 := decide_eq_false hl1
             clear kk2
             go_wp2_with fail
             refine (rblank_any p.item _).mono ?_
             rintro e w1 ⟨rfl, hb1⟩
             rw [Hblank.out]
             obtain ⟨hc, hf⟩ := bcell hb1
             have hblk := bblk hb1
             simp at hc hf hblk
             have hz1 := hb1.size
             simp at hz1
             have z1 : w.heap.size < w1.heap.size := by omega
             have HB1 : Hid (Below w.heap.size w w1) := Lib.hid (HB0.out.trans (hb1.mono HB0.out.size))
             clear hb1
             go_wp2_with fail
             go_ret
             exact ⟨rfl, HB1.out⟩
       · obtain ⟨num1, num2, num3⟩ := str_tests hnum
         have hbv : b = false := by rw [← HBB.out]; unfold rformB; simp [kk2, hpl, hnum]
         subst hbv
         clear hnum
         clear kk2
         go_wp2_with fail
         go_ret
         exact ⟨rfl, HB0.out⟩
   by_cases kk3 : p.kind = 3
   · have hd1 : (p.kind == 1) = false := by simp [kk3]
     have hd2 : (p.kind == 2) = false := by simp [kk3]
     have hd3 : (p.kind == 3) = true := by simp [kk3]
     have hd4 : (p.kind == 4) = false := by simp [kk3]
     have hd5 : (p.kind == 5) = false := by simp [kk3]
     have hd6 : (p.kind == 6) = false := by simp [kk3]
     have hd7 : (p.kind == 7) = false := by simp [kk3]
     clear kk1 kk2
     cases hpl : plB p with
     | false =>
       have hbv : b = false := by rw [← HBB.out]; unfold rformB; simp [kk3, hpl]
       subst hbv
       clear kk3
       go_wp2_with fail
       go_ret
       exact ⟨rfl, HB0.out⟩
     | true =>
       cases hwo : woB p with
       | false =>
         have hbv : b = false := by rw [← HBB.out]; unfold rformB; simp [kk3, hpl, hwo]
         subst hbv
         clear kk3
         go_wp2_with fail
         go_ret
         exact ⟨rfl, HB0.out⟩
       | true =>
         cases hblank : blankB p.item with
         | false =>
           have hbv : b = false := by rw [← HBB.out]; unfold rformB; simp [kk3, hpl, hwo, hblank]
           subst hbv
           have Hblank := Lib.hid hblank; clear hblank
           clear kk3
           go_wp2_with fail
           refine (rblank_any p.item _).mono ?_
           rintro e w1 ⟨rfl, hb1⟩
           rw [Hblank.out]
           obtain ⟨hc, hf⟩ := bcell hb1
           have hblk := bblk hb1
           simp at hc hf hblk
           have hz1 := hb1.size
           simp at hz1
           have z1 : w.heap.size < w1.heap.size := by omega
           have HB1 : Hid (Below w.heap.size w w1) := Lib.hid (HB0.out.trans (hb1.mono HB0.out.size))
           clear hb1
           go_wp2_with fail
           go_ret
           exact ⟨rfl, HB1.out⟩
         | true =>
           cases hvalid : walkB [⟨2, [97], [], p.num, [], [], false⟩] with
           | false =>
             have hbv : b = false := by rw [← HBB.out]; unfold rformB; simp [kk3, hpl, hwo, hblank, hvalid]
             subst hbv
             have Hblank := Lib.hid hblank; clear hblank
             have Hvalid := Lib.hid hvalid; clear hvalid
             clear kk3
             go_wp2_with fail
             refine (rblank_any p.item _).mono ?_
             rintro e w1 ⟨rfl, hb1⟩
             rw [Hblank.out]
             obtain ⟨hc, hf⟩ := bcell hb1
             have hblk := bblk hb1
             simp at hc hf hblk
             have hz1 := hb1.size
             simp at hz1
             have z1 : w.heap.size < w1.heap.size := by omega
             have HB1 : Hid (Below w.heap.size w w1) := Lib.hid (HB0.out.trans (hb1.mono HB0.out.size))
             clear hb1
             go_wp2_with fail
             refine (rvalid_any [⟨2, [97], [], p.num, [], [], false⟩] (some ⟨w1.heap.size, 0, none⟩) 1 _ (RdI.of_row (cur := Item.cells ⟨2, [97], [], p.num, [], [], false⟩) (rest := []) (t := 27) (heap_new_at (by simp)) (by simp [flat])) (by simp) (by simp; exact ⟨by simp; exact (by decide), Nat.zero_le _, hnl, Nat.zero_le _, Nat.zero_le _⟩)).mono ?_
             rintro e w2 ⟨rfl, hb2⟩
             rw [Hvalid.out]
             have HB2 : Hid (Below w.heap.size w w2) := Lib.hid ((HB1.out.alloc HB1.out.size _).trans (hb2.mono (by have := HB1.out.size; simp; omega)))
             clear hb2
             go_wp2_with fail
             go_ret
             exact ⟨rfl, HB2.out⟩
           | true =>
             have hbv : b = true := by rw [← HBB.out]; unfold rformB; simp [kk3, hpl, hwo, hblank, hvalid]
             subst hbv
             have Hblank := Lib.hid hblank; clear hblank
             have Hvalid := Lib.hid hvalid; clear hvalid
             clear kk3
             go_wp2_with fail
             refine (rblank_any p.item _).mono ?_
             rintro e w1 ⟨rfl, hb1⟩
             rw [Hblank.out]
             obtain ⟨hc, hf⟩ := bcell hb1
             have hblk := bblk hb1
             simp at hc hf hblk
             have hz1 := hb1.size
             simp at hz1
             have z1 : w.heap.size < w1.heap.size := by omega
             have HB1 : Hid (Below w.heap.size w w1) := Lib.hid (HB0.out.trans (hb1.mono HB0.out.size))
             clear hb1
             go_wp2_with fail
             refine (rvalid_any [⟨2, [97], [], p.num, [], [], false⟩] (some ⟨w1.heap.size, 0, none⟩) 1 _ (RdI.of_row (cur := Item.cells ⟨2, [97], [], p.num, [], [], false⟩) (rest := []) (t := 27) (heap_new_at (by simp)) (by simp [flat])) (by simp) (by simp; exact ⟨by simp; exact (by decide), Nat.zero_le _, hnl, Nat.zero_le _, Nat.zero_le _⟩)).mono ?_
             rintro e w2 ⟨rfl, hb2⟩
             rw [Hvalid.out]
             have HB2 : Hid (Below w.heap.size w w2) := Lib.hid ((HB1.out.alloc HB1.out.size _).trans (hb2.mono (by have := HB1.out.size; simp; omega)))
             clear hb2
             go_wp2_with fail
             go_ret
             exact ⟨rfl, HB2.out⟩
   by_cases kk4 : p.kind = 4
   · have hd1 : (p.kind == 1) = false := by simp [kk4]
     have hd2 : (p.kind == 2) = false := by simp [kk4]
     have hd3 : (p.kind == 3) = false := by simp [kk4]
     have hd4 : (p.kind == 4) = true := by simp [kk4]
     have hd5 : (p.kind == 5) = false := by simp [kk4]
     have hd6 : (p.kind == 6) = false := by simp [kk4]
     have hd7 : (p.kind == 7) = false := by simp [kk4]
     clear kk1 kk2 kk3
     cases hwo : woB p with
     | false =>
       have hbv : b = false := by rw [← HBB.out]; unfold rformB; simp [kk4, hwo]
       subst hbv
       clear kk4
       go_wp2_with fail
       go_ret
       exact ⟨rfl, HB0.out⟩
     | true =>
       by_cases hnum : p.num = []
       · obtain ⟨num1, num2, num3⟩ := emp_tests hnum
         cases hblank : blankB p.item with
         | false =>
           have hbv : b = false := by rw [← HBB.out]; unfold rformB; simp [kk4, hwo, hnum, hblank]
           subst hbv
           have Hblank := Lib.hid hblank; clear hblank
           clear hnum
           clear kk4
           go_wp2_with fail
           refine (rblank_any p.item _).mono ?_
           rintro e w1 ⟨rfl, hb1⟩
           rw [Hblank.out]
           obtain ⟨hc, hf⟩ := bcell hb1
           have hblk := bblk hb1
           simp at hc hf hblk
           have hz1 := hb1.size
           simp at hz1
           have z1 : w.heap.size < w1.heap.size := by omega
           have HB1 : Hid (Below w.heap.size w w1) := Lib.hid (HB0.out.trans (hb1.mono HB0.out.size))
           clear hb1
           go_wp2_with fail
           go_ret
           exact ⟨rfl, HB1.out⟩
         | true =>
           have hbv : b = true := by rw [← HBB.out]; unfold rformB; simp [kk4, hwo, hnum, hblank]
           subst hbv
           have Hblank := Lib.hid hblank; clear hblank
           clear hnum
           clear kk4
           go_wp2_with fail
           refine (rblank_any p.item _).mono ?_
           rintro e w1 ⟨rfl, hb1⟩
           rw [Hblank.out]
           obtain ⟨hc, hf⟩ := bcell hb1
           have hblk := bblk hb1
           simp at hc hf hblk
           have hz1 := hb1.size
           simp at hz1
           have z1 : w.heap.size < w1.heap.size := by omega
           have HB1 : Hid (Below w.heap.size w w1) := Lib.hid (HB0.out.trans (hb1.mono HB0.out.size))
           clear hb1
           go_wp2_with fail
           go_ret
           exact ⟨rfl, HB1.out⟩
       · obtain ⟨num1, num2, num3⟩ := str_tests hnum
         have hbv : b = false := by rw [← HBB.out]; unfold rformB; simp [kk4, hwo, hnum]
         subst hbv
         clear hnum
         clear kk4
         go_wp2_with fail
         go_ret
         exact ⟨rfl, HB0.out⟩
   by_cases kk5 : p.kind = 5
   · have hd1 : (p.kind == 1) = false := by simp [kk5]
     have hd2 : (p.kind == 2) = false := by simp [kk5]
     have hd3 : (p.kind == 3) = false := by simp [kk5]
     have hd4 : (p.kind == 4) = false := by simp [kk5]
     have hd5 : (p.kind == 5) = true := by simp [kk5]
     have hd6 : (p.kind == 6) = false := by simp [kk5]
     have hd7 : (p.kind == 7) = false := by simp [kk5]
     clear kk1 kk2 kk3 kk4
     cases hpl : plB p with
     | false =>
       have hbv : b = false := by rw [← HBB.out]; unfold rformB; simp [kk5, hpl]
       subst hbv
       clear kk5
       go_wp2_with fail
       go_ret
       exact ⟨rfl, HB0.out⟩
     | true =>
       cases hwo : woB p with
       | false =>
         have hbv : b = false := by rw [← HBB.out]; unfold rformB; simp [kk5, hpl, hwo]
         subst hbv
         clear kk5
         go_wp2_with fail
         go_ret
         exact ⟨rfl, HB0.out⟩
       | true =>
         by_cases hnum : p.num = []
         · obtain ⟨num1, num2, num3⟩ := emp_tests hnum
           cases hblank : blankB p.item with
           | false =>
             have hbv : b = false := by rw [← HBB.out]; unfold rformB; simp [kk5, hpl, hwo, hnum, hblank]
             subst hbv
             have Hblank := Lib.hid hblank; clear hblank
             clear hnum
             clear kk5
             go_wp2_with fail
             refine (rblank_any p.item _).mono ?_
             rintro e w1 ⟨rfl, hb1⟩
             rw [Hblank.out]
             obtain ⟨hc, hf⟩ := bcell hb1
             have hblk := bblk hb1
             simp at hc hf hblk
             have hz1 := hb1.size
             simp at hz1
             have z1 : w.heap.size < w1.heap.size := by omega
             have HB1 : Hid (Below w.heap.size w w1) := Lib.hid (HB0.out.trans (hb1.mono HB0.out.size))
             clear hb1
             go_wp2_with fail
             go_ret
             exact ⟨rfl, HB1.out⟩
           | true =>
             have hbv : b = true := by rw [← HBB.out]; unfold rformB; simp [kk5, hpl, hwo, hnum, hblank]
             subst hbv
             have Hblank := Lib.hid hblank; clear hblank
             clear hnum
             clear kk5
             go_wp2_with fail
             refine (rblank_any p.item _).mono ?_
             rintro e w1 ⟨rfl, hb1⟩
             rw [Hblank.out]
             obtain ⟨hc, hf⟩ := bcell hb1
             have hblk := bblk hb1
             simp at hc hf hblk
             have hz1 := hb1.size
             simp at hz1
             have z1 : w.heap.size < w1.heap.size := by omega
             have HB1 : Hid (Below w.heap.size w w1) := Lib.hid (HB0.out.trans (hb1.mono HB0.out.size))
             clear hb1
             go_wp2_with fail
             go_ret
             exact ⟨rfl, HB1.out⟩
         · obtain ⟨num1, num2, num3⟩ := str_tests hnum
           have hbv : b = false := by rw [← HBB.out]; unfold rformB; simp [kk5, hpl, hwo, hnum]
           subst hbv
           clear hnum
           clear kk5
           go_wp2_with fail
           go_ret
           exact ⟨rfl, HB0.out⟩
   by_cases kk6 : p.kind = 6
   · have hd1 : (p.kind == 1) = false := by simp [kk6]
     have hd2 : (p.kind == 2) = false := by simp [kk6]
     have hd3 : (p.kind == 3) = false := by simp [kk6]
     have hd4 : (p.kind == 4) = false := by simp [kk6]
     have hd5 : (p.kind == 5) = false := by simp [kk6]
     have hd6 : (p.kind == 6) = true := by simp [kk6]
     have hd7 : (p.kind == 7) = false := by simp [kk6]
     clear kk1 kk2 kk3 kk4 kk5
     cases hpl : plB p with
     | false =>
       have hbv : b = false := by rw [← HBB.out]; unfold rformB; simp [kk6, hpl]
       subst hbv
       clear kk6
       go_wp2_with fail
       go_ret
       exact ⟨rfl, HB0.out⟩
     | true =>
       cases hwo : woB p with
       | false =>
         have hbv : b = false := by rw [← HBB.out]; unfold rformB; simp [kk6, hpl, hwo]
         subst hbv
         clear kk6
         go_wp2_with fail
         go_ret
         exact ⟨rfl, HB0.out⟩
       | true =>
         by_cases hnum : p.num = []
         · obtain ⟨num1, num2, num3⟩ := emp_tests hnum
           cases hblank : blankB p.item with
           | false =>
             have hbv : b = false := by rw [← HBB.out]; unfold rformB; simp [kk6, hpl, hwo, hnum, hblank]
             subst hbv
             have Hblank := Lib.hid hblank; clear hblank
             clear hnum
             clear kk6
             go_wp2_with fail
             refine (rblank_any p.item _).mono ?_
             rintro e w1 ⟨rfl, hb1⟩
             rw [Hblank.out]
             obtain ⟨hc, hf⟩ := bcell hb1
             have hblk := bblk hb1
             simp at hc hf hblk
             have hz1 := hb1.size
             simp at hz1
             have z1 : w.heap.size < w1.heap.size := by omega
             have HB1 : Hid (Below w.heap.size w w1) := Lib.hid (HB0.out.trans (hb1.mono HB0.out.size))
             clear hb1
             go_wp2_with fail
             go_ret
             exact ⟨rfl, HB1.out⟩
           | true =>
             have hbv : b = true := by rw [← HBB.out]; unfold rformB; simp [kk6, hpl, hwo, hnum, hblank]
             subst hbv
             have Hblank := Lib.hid hblank; clear hblank
             clear hnum
             clear kk6
             go_wp2_with fail
             refine (rblank_any p.item _).mono ?_
             rintro e w1 ⟨rfl, hb1⟩
             rw [Hblank.out]
             obtain ⟨hc, hf⟩ := bcell hb1
             have hblk := bblk hb1
             simp at hc hf hblk
             have hz1 := hb1.size
             simp at hz1
             have z1 : w.heap.size < w1.heap.size := by omega
             have HB1 : Hid (Below w.heap.size w w1) := Lib.hid (HB0.out.trans (hb1.mono HB0.out.size))
             clear hb1
             go_wp2_with fail
             go_ret
             exact ⟨rfl, HB1.out⟩
         · obtain ⟨num1, num2, num3⟩ := str_tests hnum
           have hbv : b = false := by rw [← HBB.out]; unfold rformB; simp [kk6, hpl, hwo, hnum]
           subst hbv
           clear hnum
           clear kk6
           go_wp2_with fail
           go_ret
           exact ⟨rfl, HB0.out⟩
   by_cases kk7 : p.kind = 7
   · have hd1 : (p.kind == 1) = false := by simp [kk7]
     have hd2 : (p.kind == 2) = false := by simp [kk7]
     have hd3 : (p.kind == 3) = false := by simp [kk7]
     have hd4 : (p.kind == 4) = false := by simp [kk7]
     have hd5 : (p.kind == 5) = false := by simp [kk7]
     have hd6 : (p.kind == 6) = false := by simp [kk7]
     have hd7 : (p.kind == 7) = true := by simp [kk7]
     clear kk1 kk2 kk3 kk4 kk5 kk6
     cases hpl : plB p with
     | false =>
       have hbv : b = false := by rw [← HBB.out]; unfold rformB; simp [kk7, hpl]
       subst hbv
       clear kk7
       go_wp2_with fail
       go_ret
       exact ⟨rfl, HB0.out.alloc HB0.out.size _⟩
     | true =>
       cases hwo : woB p with
       | false =>
         have hbv : b = false := by rw [← HBB.out]; unfold rformB; simp [kk7, hpl, hwo]
         subst hbv
         clear kk7
         go_wp2_with fail
         go_ret
         exact ⟨rfl, HB0.out.alloc HB0.out.size _⟩
       | true =>
         by_cases hnum : p.num = []
         · obtain ⟨num1, num2, num3⟩ := emp_tests hnum
           cases hblank : blankB { p.item with no := [], so := [] } with
           | false =>
             have hbv : b = false := by rw [← HBB.out]; unfold rformB; simp [kk7, hpl, hwo, hnum, hblank]
             subst hbv
             have Hblank := Lib.hid hblank; clear hblank
             clear hnum
             clear kk7
             go_wp2_with fail
             refine (rblank_any { p.item with no := [], so := [] } _).mono ?_
             rintro e w1 ⟨rfl, hb1⟩
             rw [Hblank.out]
             obtain ⟨hc, hf⟩ := bcell hb1
             have hblk := bblk hb1
             simp at hc hf hblk
             have hz1 := hb1.size
             simp at hz1
             have z1 : w.heap.size < w1.heap.size := by omega
             have HB1 : Hid (Below w.heap.size w w1) := Lib.hid ((HB0.out.alloc HB0.out.size _).trans (hb1.mono (by simp; omega)))
             clear hb1
             go_wp2_with fail
             go_ret
             exact ⟨rfl, HB1.out⟩
           | true =>
             have hbv : b = true := by rw [← HBB.out]; unfold rformB; simp [kk7, hpl, hwo, hnum, hblank]
             subst hbv
             have Hblank := Lib.hid hblank; clear hblank
             clear hnum
             clear kk7
             go_wp2_with fail
             refine (rblank_any { p.item with no := [], so := [] } _).mono ?_
             rintro e w1 ⟨rfl, hb1⟩
             rw [Hblank.out]
             obtain ⟨hc, hf⟩ := bcell hb1
             have hblk := bblk hb1
             simp at hc hf hblk
             have hz1 := hb1.size
             simp at hz1
             have z1 : w.heap.size < w1.heap.size := by omega
             have HB1 : Hid (Below w.heap.size w w1) := Lib.hid ((HB0.out.alloc HB0.out.size _).trans (hb1.mono (by simp; omega)))
             clear hb1
             go_wp2_with fail
             go_ret
             exact ⟨rfl, HB1.out⟩
         · obtain ⟨num1, num2, num3⟩ := str_tests hnum
           have hbv : b = false := by rw [← HBB.out]; unfold rformB; simp [kk7, hpl, hwo, hnum]
           subst hbv
           clear hnum
           clear kk7
           go_wp2_with fail
           go_ret
           exact ⟨rfl, HB0.out.alloc HB0.out.size _⟩
   have hd1 : (p.kind == 1) = false := by simpa using kk1
   have hd2 : (p.kind == 2) = false := by simpa using kk2
   have hd3 : (p.kind == 3) = false := by simpa using kk3
   have hd4 : (p.kind == 4) = false := by simpa using kk4
   have hd5 : (p.kind == 5) = false := by simpa using kk5
   have hd6 : (p.kind == 6) = false := by simpa using kk6
   have hd7 : (p.kind == 7) = false := by simpa using kk7
   have hbv : b = false := by rw [← HBB.out]; unfold rformB; simp [kk1, kk2, kk3, kk4, kk5, kk6, kk7]
   subst hbv
   clear kk1 kk2 kk3 kk4 kk5 kk6 kk7
   go_wp2_with fail
   go_ret
   exact ⟨rfl, HB0.out⟩
end Go.Proofs.YtfolcjkednmkoaaGreat
set_option maxRecDepth 20000
set_option maxHeartbeats 8000000
namespace Go.Proofs.YtfolcjkednmkoaaGreat
open Go.RowKit
theorem run_append_items (w : World) (base : Nat) (v : Value) (l : List Item) (hown : OwnI w base v l) (A : Option Addr) (ys : List Item) (n cc : Nat) (hn : n = ys.length) (hr : RdI w A ys) (hlen : l.length + ys.length ≤ 1000000) (hb : base ≤ w.heap.size) :
 ∃ v' w', (Builtin.append_ #[22, 22] 22 #[v, .slice A n cc]).run Tryz.prog w = .ok v' w' ∧ OwnI w' base v' (l ++ ys) ∧ w.grownBy w' v.ownBlock := by
 subst hn
 obtain ⟨i0, hi0, hz0, hz1, hz2⟩ := info_parts info26
 cases A with
 | none =>
   have : ys = [] := by
    by_cases h : ys = []
    · exact h
    · obtain ⟨b, o, hA, _⟩ := hr h; cases hA
   subst this
   rw [List.append_nil]
   rcases hown.form with ⟨rfl, rfl⟩ | ⟨g, cap, rest, rfl, hg, hh, h1, h2, h3⟩
   · refine ⟨.slice none 0 0, w, ?_, hown, ⟨rfl, rfl, rfl, Nat.le_refl _, fun _ _ _ => rfl⟩⟩
     simp [Builtin.append_, Builtin.lenOf, Builtin.firstCells, run_underlying Tryz.underlying22, sizeOf, typeInfo, hi0, hz1]
   · refine ⟨.slice (some ⟨g, 0, none⟩) l.length cap, w, ?_, hown, ⟨rfl, rfl, rfl, Nat.le_refl _, fun _ _ _ => rfl⟩⟩
     simp [Builtin.append_, Builtin.lenOf, Builtin.firstCells, run_underlying Tryz.underlying22, sizeOf, typeInfo, hi0, hz1, h2, storeCells]
 | some a =>
   obtain ⟨v', w', h1, h2, h3, _⟩ := run_append_own (P := Tryz.prog) w base 22 22 27 i0 (.agg #[.int .i64 0, .string ⟨#[]⟩, .string ⟨#[]⟩, .string ⟨#[]⟩, .string ⟨#[]⟩, .string ⟨#[]⟩, .bool false]) 7 96 Tryz.underlying22 hi0 hz0 hz1 hz2 rfl (by decide) v l.length (flat l) hown a ys.length cc (flat ys) (flat_length ys) hr.add_cell (flat_one ys) (le_maxLen (by omega)) (by omega) hb
   exact ⟨v', w', h1, by unfold OwnI; rw [List.length_append, flat_append]; exact h2, h3⟩
theorem wpList_append_items {ops : Array Oper} {rest : List Oper} {o : Oper} {a : Act} {w : World} {Q : Exit → Act → World → Prop} (hgd : o.guard = none) (d x : Operand) (hop : o.op = Op.call { callee := Callee.builtin Builtin.append, args := #[d, x], argTypes := #[22, 22] }) (ht : o.type = 22)
 (base : Nat) (v : Value) (l : List Item) (A : Option Addr) (ys : List Item) (n cc : Nat) (hd : a.eval d = v) (hx : a.eval x = .slice A n cc) (hn : n = ys.length) (hown : OwnI w base v l) (hr : RdI w A ys) (hlen : l.length + ys.length ≤ 1000000) (hb : base ≤ w.heap.size)
 (h : ∀ v' w', OwnI w' base v' (l ++ ys) → w.grownBy w' v.ownBlock → wpList Tryz.prog ops Q rest (a.put o.dst v') w') : wpList Tryz.prog ops Q (o :: rest) a w := by
 refine wpList_plain hgd fun _ hK => ?_
 obtain ⟨v', w', h1, h2, h3⟩ := run_append_items w base v l hown A ys n cc hn hr hlen hb
 unfold Oper.wp execOp
 simp only [hop, ht, resolve, invoke, builtin, Sem.run_bind, Sem.run_pure, Result.andThen_ok, List.map_toArray, List.map_cons, List.map_nil, hd, hx, h1]
 exact hK _ _ (h v' w' h2 h3)
theorem own_base {w : World} {base : Nat} {v : Value} {l : List Item} (h : OwnI w base v l) : ∀ b, v.ownBlock = some b → base ≤ b := fun b hb => by
 rcases h.block with h1 | ⟨g, h1, h2, _⟩
 · rw [h1] at hb; cases hb
 · rw [h1] at hb; cases hb; exact h2
theorem rend_any (l : List Item) (A : Option Addr) (c k : Nat) (x : Item) (w : World) (hr : RdI w A l) (hl : l.length ≤ 1000000) (hsh : ∀ x ∈ l, x.Short) (hx : l[k]? = some x) :
 Calls Tryz.prog 60 #[.agg #[.slice A l.length c], .int .i64 k] w fun e w' => e = .returned (.int .i64 ((k : Int) + (1 + ((belowL l x.id).length : Int)))) ∧ Below w.heap.size w w' := by
 have hb0 := (Below.refl w.heap.size w).alloc (Nat.le_refl _) (.cells #[.slice A l.length c] 24)
 have HB0 := Lib.hid hb0; clear hb0
 have HSH := Lib.hid hsh; clear hsh
 have HR := Lib.hid (hr.below HB0.out)
 obtain ⟨b1, o1, rfl, hbs1, c0, c1, c2, c3, c4, c5, c6⟩ := hr.item hx
 clear c0 c2 c3 c4 c5 c6 hr
 have hk : k < l.length := (List.getElem?_eq_some_iff.1 hx).1
 have hi0 : (0 : Int) ≤ k := by omega
 have hi1 : (k : Int) < l.length := by omega
 have hbl := belowL_len l x.id
 have hw1 : IntKind.i64.wrap ((k : Int) + 1) = (k : Int) + 1 := wrap_small _ (by omega) (by omega)
 have hw2 : IntKind.i64.wrap ((k : Int) + 1 + ((belowL l x.id).length : Int)) = (k : Int) + 1 + ((belowL l x.id).length : Int) := wrap_small _ (by omega) (by omega)
 have HE : Hid ((k : Int) + 1 + ((belowL l x.id).length : Int) = (k : Int) + (1 + ((belowL l x.id).length : Int))) := Lib.hid (by omega)
 rw [← HE.out]
 clear hx
 have K0 : (w.alloc (.cells #[.slice (some ⟨b1, o1, none⟩) l.length c] 24)).cell? ⟨w.heap.size, 0, none⟩ = some (.slice (some ⟨b1, o1, none⟩) l.length c) := by simp [go_sem]
 have C1 := keepw ((Below.refl _ w).alloc (Nat.le_refl _) (.cells #[.slice (some ⟨b1, o1, none⟩) l.length c] 24)) c1
 have hb2 : b1 < w.heap.size + 1 := by omega
 go_enter Tryz.func60, Tryz.ntmps60
 go_upto_region 1 with (fail)
 go_region_held3 (fun X => X.cell? ⟨w.heap.size, 0, none⟩ = some (.slice (some ⟨b1, o1, none⟩) l.length c) ∧ X.cell? ⟨b1, o1 + k * 7 + 1, none⟩ = some (vs x.id)) ((go_split_ands; refine ⟨?_, ?_⟩ <;> (first | assumption | go_keep | (simp [go_sem, *]; done))))
  (first | (go_at_call 94; refine (rbelow_any l _ c x.id _ (HR.out.below (Below.refl _ _).drew) hl HSH.out).mono ?_; rintro e w1 ⟨O, cc, rfl, hrs, hO, hb1⟩; have hB1 : Below (w.alloc (.cells #[.slice (some ⟨b1, o1, none⟩) l.length c] 24)).heap.size (w.alloc (.cells #[.slice (some ⟨b1, o1, none⟩) l.length c] 24)) w1 := (Below.refl _ _).drew.trans (hb1.mono (by simp)); have q1 := keepw hB1 K0; have q2 := keepw hB1 C1))
 go_wp2_with fail
 go_ret
 exact ⟨rfl, HB0.out.trans (hB1.mono HB0.out.size)⟩
end Go.Proofs.YtfolcjkednmkoaaGreat
set_option maxRecDepth 20000
set_option maxHeartbeats 8000000
namespace Go.Proofs.YtfolcjkednmkoaaGreat
open Go.RowKit
theorem rput_0 (l ys : List Item) (A B : Option Addr) (c m : Nat) (par aft : Str) (w : World) (hr : RdI w A l) (hy : RdI w B ys) (hl : l.length + ys.length ≤ 1000000) (hlc : l.length ≤ c) (hsh : ∀ x ∈ l, x.Short)
 (ha : aft = []) (hp : par = []) :
 Calls Tryz.prog 59 #[.agg #[.slice A l.length c], .slice B ys.length m, vs par, vs aft] w fun e w' => ∃ v, e = .returned v ∧ ResC w.heap.size w' v (l.take 0 ++ ys ++ l.drop 0) ∧ Below w.heap.size w w' := by
 obtain ⟨n1, n2, n3⟩ := emp_tests ha
 obtain ⟨m1, m2, m3⟩ := emp_tests hp
 clear ha hp
 have hb0 := ((Below.refl w.heap.size w).alloc (Nat.le_refl _) (.cells #[.slice A l.length c] 24)).alloc (by simp) (.cells #[.slice none 0 0] 24)
 have HB0 := Lib.hid hb0; clear hb0
 have HR := Lib.hid hr; clear hr
 have HY := Lib.hid hy; clear hy
 have HSH := Lib.hid hsh; clear hsh
 have K0 : ((w.alloc (.cells #[.slice A l.length c] 24)).alloc (.cells #[.slice none 0 0] 24)).cell? ⟨w.heap.size, 0, none⟩ = some (.slice A l.length c) := by simp [go_sem]
 have R10 : ((w.alloc (.cells #[.slice A l.length c] 24)).alloc (.cells #[.slice none 0 0] 24)).cell? ⟨w.heap.size + 1, 0, none⟩ = some (.slice none 0 0) := by simp [go_sem]
 have R20 : ((w.alloc (.cells #[.slice A l.length c] 24)).alloc (.cells #[.slice none 0 0] 24)).frozen? ⟨w.heap.size + 1, 0, none⟩ = false := by simp [go_sem]
 have z10 : w.heap.size + 1 < ((w.alloc (.cells #[.slice A l.length c] 24)).alloc (.cells #[.slice none 0 0] 24)).heap.size := by simp
 have hlc0 : (0 : Int) ≤ c := by omega
 go_enter Tryz.func59, Tryz.ntmps59
 go_upto_region 6 with (fail)
 obtain ⟨Wn, hWn⟩ : ∃ Wn, Wn = ((w.alloc (.cells #[.slice A l.length c] 24)).alloc (.cells #[.slice none 0 0] 24)) := ⟨_, rfl⟩
 rw [← hWn] at K0 R10 R20 z10 HB0 ⊢
 clear hWn
 have K := K0; have R1 := R10; have R2 := R20; have HBn := HB0
 clear K0 R10 R20 HB0
 have HRn := Lib.hid (HR.out.below HBn.out)
 have HYn := Lib.hid (HY.out.below HBn.out)
 have zn1 : w.heap.size + 1 < Wn.heap.size := World.block_lt_of_cell? _ _ R1
 have zn0 : w.heap.size < Wn.heap.size := World.block_lt_of_cell? _ _ K
 have HDR : ∀ W, Below Wn.heap.size Wn W → RdI W A (l.drop 0) := fun W hW => by rw [List.drop_zero]; exact HRn.out.below hW
 go_wp2_with (first
  | (at_builtin; refine wpList_append_items rfl (.tmp 24) (.tmp 28) rfl rfl Wn.heap.size (.slice (some ⟨Wn.heap.size, 0, none⟩) 0 0) [] _ (l.take 0) _ _ rfl rfl (by first | (simp; done) | (simp; omega)) (made_empty Wn) ((HRn.out.take 0).below ((Below.refl _ _).alloc (Nat.le_refl _) _)) (by first | (simp; done) | (simp; omega)) (by simp) ?_; intro v1 u1 hown1 hgr1; have hB1 : Below Wn.heap.size Wn u1 := ((Below.refl _ _).alloc (Nat.le_refl _) _).grown hgr1 (by simp) (by simp [Value.ownBlock]); have K1 := keepw hB1 K; have R1a := keepw hB1 R1; have R2a := (hB1.frozen (p := ⟨w.heap.size + 1, 0, none⟩) zn1).trans R2; have zu1 : w.heap.size + 1 < u1.heap.size := (World.block_lt_of_cell? _ _ R1a); have zv1 : w.heap.size < u1.heap.size := (World.block_lt_of_cell? _ _ K1))
  | (at_builtin; refine wpList_append_items rfl (.tmp 30) (.tmp 31) rfl rfl Wn.heap.size v1 (l.take 0) _ ys _ _ rfl rfl rfl hown1 (HYn.out.below hB1) (by rw [List.length_take]; omega) hB1.size ?_; intro v2 u2 hown2 hgr2; have hB2 : Below Wn.heap.size Wn u2 := hB1.grown hgr2 hB1.size (own_base hown1); have K2 := keepw hB2 K; have R1b := keepw hB2 R1; have R2b := (hB2.frozen (p := ⟨w.heap.size + 1, 0, none⟩) zn1).trans R2; have zu2 : w.heap.size + 1 < u2.heap.size := (World.block_lt_of_cell? _ _ R1b); have zv2 : w.heap.size < u2.heap.size := (World.block_lt_of_cell? _ _ K2))
  | (at_builtin; refine wpList_append_items rfl (.tmp 33) (.tmp 37) rfl rfl Wn.heap.size v2 (l.take 0 ++ ys) _ (l.drop 0) _ _ rfl rfl (by first | (simp; done) | (simp; omega)) hown2 (HDR _ hB2) (by first | (simp; done) | (simp; omega)) hB2.size ?_; intro v3 u3 hown3 hgr3; have hB3 : Below Wn.heap.size Wn u3 := hB2.grown hgr3 hB2.size (own_base hown2); have R1c := keepw hB3 R1; have R2c := (hB3.frozen (p := ⟨w.heap.size + 1, 0, none⟩) zn1).trans R2; have zu3 : w.heap.size + 1 < u3.heap.size := (World.block_lt_of_cell? _ _ R1c); obtain ⟨A3, c3, rfl, hr3, hlc3, hA3⟩ := hown3.slice))
 refine bodyPost_ret (v := .agg #[.slice A3 (l.take 0 ++ ys ++ l.drop 0).length c3]) (by simp [results, Tryz.results59, go_sem, R1c, R2c] <;> omega) rfl ⟨_, rfl, ⟨A3, c3, rfl, ?_, hlc3, fun b o hA => by have := hA3 b o hA; have := HBn.out.size; omega⟩, ?_⟩
 · exact Sl.keep hr3 (by simp) (fun b o hA _ => Below.heap_setCell _ _ _ _ (by have := hA3 b o hA; show b ≠ w.heap.size + 1; omega))
 · exact (HBn.out.trans (hB3.mono HBn.out.size)).setCell (show w.heap.size ≤ w.heap.size + 1 by omega) _
theorem rend_at {l : List Item} {x : Item} {nb : Nat} (hnb : (belowL l x.id).length = nb) (A : Option Addr) (c k : Nat) (w : World) (hr : RdI w A l) (hl : l.length ≤ 1000000) (hsh : ∀ x ∈ l, x.Short) (hx : l[k]? = some x) :
 Calls Tryz.prog 60 #[.agg #[.slice A l.length c], .int .i64 k] w fun e w' => e = .returned (.int .i64 ((k : Int) + (1 + (nb : Int)))) ∧ Below w.heap.size w w' := by
 rw [← hnb]; exact rend_any l A c k x w hr hl hsh hx
theorem rput_pe (l ys : List Item) (A B : Option Addr) (c m : Nat) (par aft : Str) (w : World) (hr : RdI w A l) (hy : RdI w B ys) (hl : l.length + ys.length ≤ 1000000) (hlc : l.length ≤ c) (hsh : ∀ x ∈ l, x.Short)
 (ha : aft = []) (hp : par ≠ []) (k : Nat) (z : Item) (hf : findI l par = k) (hz : l[k]? = some z) (hce : c = k + 1) :
 Calls Tryz.prog 59 #[.agg #[.slice A l.length c], .slice B ys.length m, vs par, vs aft] w fun e w' => ∃ v, e = .returned v ∧ ResC w.heap.size w' v (l.take (k + 1) ++ ys ++ l.drop (k + 1)) ∧ Below w.heap.size w w' := by
 obtain ⟨n1, n2, n3⟩ := emp_tests ha
 obtain ⟨m1, m2, m3⟩ := str_tests hp
 obtain ⟨b1, o1, hA, hbs1, c0, c1, c2, c3, c4, c5, c6⟩ := hr.item hz
 subst hA
 clear c0 c1 c2 c3 c4 c5 c6
 have hk : k < l.length := (List.getElem?_eq_some_iff.1 hz).1
 have hq1 : ((k : Int) + 1).toNat = k + 1 := by omega
 have hq2 : (0 : Int) ≤ (k : Int) + 1 := by omega
 have hq3 : (k : Int) + 1 ≤ c := by omega
 have hq4 : (k : Int) + 1 ≤ l.length := by omega
 have hq5 : (k : Int) ≤ 1000000 := by omega
 obtain rfl := hce
 have HF := Lib.hid hf; clear hf
 clear ha hp hz 
 have hb0 := ((Below.refl w.heap.size w).alloc (Nat.le_refl _) (.cells #[.slice (some ⟨b1, o1, none⟩) l.length (k + 1)] 24)).alloc (by simp) (.cells #[.slice none 0 0] 24)
 have HB0 := Lib.hid hb0; clear hb0
 have HR := Lib.hid hr; clear hr
 have HY := Lib.hid hy; clear hy
 have HSH := Lib.hid hsh; clear hsh
 have K0 : ((w.alloc (.cells #[.slice (some ⟨b1, o1, none⟩) l.length (k + 1)] 24)).alloc (.cells #[.slice none 0 0] 24)).cell? ⟨w.heap.size, 0, none⟩ = some (.slice (some ⟨b1, o1, none⟩) l.length (k + 1)) := by simp [go_sem]
 have R10 : ((w.alloc (.cells #[.slice (some ⟨b1, o1, none⟩) l.length (k + 1)] 24)).alloc (.cells #[.slice none 0 0] 24)).cell? ⟨w.heap.size + 1, 0, none⟩ = some (.slice none 0 0) := by simp [go_sem]
 have R20 : ((w.alloc (.cells #[.slice (some ⟨b1, o1, none⟩) l.length (k + 1)] 24)).alloc (.cells #[.slice none 0 0] 24)).frozen? ⟨w.heap.size + 1, 0, none⟩ = false := by simp [go_sem]
 have z10 : w.heap.size + 1 < ((w.alloc (.cells #[.slice (some ⟨b1, o1, none⟩) l.length (k + 1)] 24)).alloc (.cells #[.slice none 0 0] 24)).heap.size := by simp
 go_enter Tryz.func59, Tryz.ntmps59
 go_wp2_with fail
 refine (rfind_at HF.out _ _ _ (HR.out.below HB0.out) (le_maxLen (by omega))).mono ?_
 rintro e Wn ⟨rfl, hb⟩
 have K := keepw hb K0
 have R1 := keepw hb R10
 have R2 := (hb.frozen (p := ⟨w.heap.size + 1, 0, none⟩) z10).trans R20
 have HBn := Lib.hid (HB0.out.trans (hb.mono HB0.out.size))
 clear hb K0 R10 R20 z10 HB0
 have HRn := Lib.hid (HR.out.below HBn.out)
 have HYn := Lib.hid (HY.out.below HBn.out)
 have zn1 : w.heap.size + 1 < Wn.heap.size := World.block_lt_of_cell? _ _ R1
 have zn0 : w.heap.size < Wn.heap.size := World.block_lt_of_cell? _ _ K
 have HDR : ∀ W, Below Wn.heap.size Wn W → RdI W (some ⟨b1, o1, none⟩) (l.drop (k + 1)) := fun W hW => by rw [List.drop_of_length_le (by omega)]; exact Sl.nil
 go_wp2_with (first
  | (at_builtin; refine wpList_append_items rfl (.tmp 24) (.tmp 28) rfl rfl Wn.heap.size (.slice (some ⟨Wn.heap.size, 0, none⟩) 0 0) [] _ (l.take (k + 1)) _ _ rfl rfl (by first | (simp; done) | (simp; omega)) (made_empty Wn) ((HRn.out.take (k + 1)).below ((Below.refl _ _).alloc (Nat.le_refl _) _)) (by first | (simp; done) | (simp; omega)) (by simp) ?_; intro v1 u1 hown1 hgr1; have hB1 : Below Wn.heap.size Wn u1 := ((Below.refl _ _).alloc (Nat.le_refl _) _).grown hgr1 (by simp) (by simp [Value.ownBlock]); have K1 := keepw hB1 K; have R1a := keepw hB1 R1; have R2a := (hB1.frozen (p := ⟨w.heap.size + 1, 0, none⟩) zn1).trans R2; have zu1 : w.heap.size + 1 < u1.heap.size := (World.block_lt_of_cell? _ _ R1a); have zv1 : w.heap.size < u1.heap.size := (World.block_lt_of_cell? _ _ K1))
  | (at_builtin; refine wpList_append_items rfl (.tmp 30) (.tmp 31) rfl rfl Wn.heap.size v1 (l.take (k + 1)) _ ys _ _ rfl rfl rfl hown1 (HYn.out.below hB1) (by rw [List.length_take]; omega) hB1.size ?_; intro v2 u2 hown2 hgr2; have hB2 : Below Wn.heap.size Wn u2 := hB1.grown hgr2 hB1.size (own_base hown1); have K2 := keepw hB2 K; have R1b := keepw hB2 R1; have R2b := (hB2.frozen (p := ⟨w.heap.size + 1, 0, none⟩) zn1).trans R2; have zu2 : w.heap.size + 1 < u2.heap.size := (World.block_lt_of_cell? _ _ R1b); have zv2 : w.heap.size < u2.heap.size := (World.block_lt_of_cell? _ _ K2))
  | (at_builtin; refine wpList_append_items rfl (.tmp 33) (.tmp 37) rfl rfl Wn.heap.size v2 (l.take (k + 1) ++ ys) _ (l.drop (k + 1)) _ _ rfl rfl (by first | (simp; done) | (simp; omega)) hown2 (HDR _ hB2) (by first | (simp; done) | (simp; omega)) hB2.size ?_; intro v3 u3 hown3 hgr3; have hB3 : Below Wn.heap.size Wn u3 := hB2.grown hgr3 hB2.size (own_base hown2); have R1c := keepw hB3 R1; have R2c := (hB3.frozen (p := ⟨w.heap.size + 1, 0, none⟩) zn1).trans R2; have zu3 : w.heap.size + 1 < u3.heap.size := (World.block_lt_of_cell? _ _ R1c); obtain ⟨A3, c3, rfl, hr3, hlc3, hA3⟩ := hown3.slice))
 refine bodyPost_ret (v := .agg #[.slice A3 (l.take (k + 1) ++ ys ++ l.drop (k + 1)).length c3]) (by simp [results, Tryz.results59, go_sem, R1c, R2c] <;> omega) rfl ⟨_, rfl, ⟨A3, c3, rfl, ?_, hlc3, fun b o hA => by have := hA3 b o hA; have := HBn.out.size; omega⟩, ?_⟩
 · exact Sl.keep hr3 (by simp) (fun b o hA _ => Below.heap_setCell _ _ _ _ (by have := hA3 b o hA; show b ≠ w.heap.size + 1; omega))
 · exact (HBn.out.trans (hB3.mono HBn.out.size)).setCell (show w.heap.size ≤ w.heap.size + 1 by omega) _
theorem rput_pn (l ys : List Item) (A B : Option Addr) (c m : Nat) (par aft : Str) (w : World) (hr : RdI w A l) (hy : RdI w B ys) (hl : l.length + ys.length ≤ 1000000) (hlc : l.length ≤ c) (hsh : ∀ x ∈ l, x.Short)
 (ha : aft = []) (hp : par ≠ []) (k : Nat) (z : Item) (hf : findI l par = k) (hz : l[k]? = some z) (hce : ¬ c = k + 1) :
 Calls Tryz.prog 59 #[.agg #[.slice A l.length c], .slice B ys.length m, vs par, vs aft] w fun e w' => ∃ v, e = .returned v ∧ ResC w.heap.size w' v (l.take (k + 1) ++ ys ++ l.drop (k + 1)) ∧ Below w.heap.size w w' := by
 obtain ⟨n1, n2, n3⟩ := emp_tests ha
 obtain ⟨m1, m2, m3⟩ := str_tests hp
 obtain ⟨b1, o1, hA, hbs1, c0, c1, c2, c3, c4, c5, c6⟩ := hr.item hz
 subst hA
 clear c0 c1 c2 c3 c4 c5 c6
 have hk : k < l.length := (List.getElem?_eq_some_iff.1 hz).1
 have hq1 : ((k : Int) + 1).toNat = k + 1 := by omega
 have hq2 : (0 : Int) ≤ (k : Int) + 1 := by omega
 have hq3 : (k : Int) + 1 ≤ c := by omega
 have hq4 : (k : Int) + 1 ≤ l.length := by omega
 have hq5 : (k : Int) ≤ 1000000 := by omega
 have hq6 : ¬ c = k + 1 := hce
 have HF := Lib.hid hf; clear hf
 clear ha hp hz hce
 have hb0 := ((Below.refl w.heap.size w).alloc (Nat.le_refl _) (.cells #[.slice (some ⟨b1, o1, none⟩) l.length c] 24)).alloc (by simp) (.cells #[.slice none 0 0] 24)
 have HB0 := Lib.hid hb0; clear hb0
 have HR := Lib.hid hr; clear hr
 have HY := Lib.hid hy; clear hy
 have HSH := Lib.hid hsh; clear hsh
 have K0 : ((w.alloc (.cells #[.slice (some ⟨b1, o1, none⟩) l.length c] 24)).alloc (.cells #[.slice none 0 0] 24)).cell? ⟨w.heap.size, 0, none⟩ = some (.slice (some ⟨b1, o1, none⟩) l.length c) := by simp [go_sem]
 have R10 : ((w.alloc (.cells #[.slice (some ⟨b1, o1, none⟩) l.length c] 24)).alloc (.cells #[.slice none 0 0] 24)).cell? ⟨w.heap.size + 1, 0, none⟩ = some (.slice none 0 0) := by simp [go_sem]
 have R20 : ((w.alloc (.cells #[.slice (some ⟨b1, o1, none⟩) l.length c] 24)).alloc (.cells #[.slice none 0 0] 24)).frozen? ⟨w.heap.size + 1, 0, none⟩ = false := by simp [go_sem]
 have z10 : w.heap.size + 1 < ((w.alloc (.cells #[.slice (some ⟨b1, o1, none⟩) l.length c] 24)).alloc (.cells #[.slice none 0 0] 24)).heap.size := by simp
 go_enter Tryz.func59, Tryz.ntmps59
 go_wp2_with fail
 refine (rfind_at HF.out _ _ _ (HR.out.below HB0.out) (le_maxLen (by omega))).mono ?_
 rintro e Wn ⟨rfl, hb⟩
 have K := keepw hb K0
 have R1 := keepw hb R10
 have R2 := (hb.frozen (p := ⟨w.heap.size + 1, 0, none⟩) z10).trans R20
 have HBn := Lib.hid (HB0.out.trans (hb.mono HB0.out.size))
 clear hb K0 R10 R20 z10 HB0
 have HRn := Lib.hid (HR.out.below HBn.out)
 have HYn := Lib.hid (HY.out.below HBn.out)
 have zn1 : w.heap.size + 1 < Wn.heap.size := World.block_lt_of_cell? _ _ R1
 have zn0 : w.heap.size < Wn.heap.size := World.block_lt_of_cell? _ _ K
 have HDR : ∀ W, Below Wn.heap.size Wn W → RdI W (some ⟨b1, o1 + (k + 1) * 7, none⟩) (l.drop (k + 1)) := fun W hW => (HRn.out.below hW).drop (k + 1)
 go_wp2_with (first
  | (at_builtin; refine wpList_append_items rfl (.tmp 24) (.tmp 28) rfl rfl Wn.heap.size (.slice (some ⟨Wn.heap.size, 0, none⟩) 0 0) [] _ (l.take (k + 1)) _ _ rfl rfl (by first | (simp; done) | (simp; omega)) (made_empty Wn) ((HRn.out.take (k + 1)).below ((Below.refl _ _).alloc (Nat.le_refl _) _)) (by first | (simp; done) | (simp; omega)) (by simp) ?_; intro v1 u1 hown1 hgr1; have hB1 : Below Wn.heap.size Wn u1 := ((Below.refl _ _).alloc (Nat.le_refl _) _).grown hgr1 (by simp) (by simp [Value.ownBlock]); have K1 := keepw hB1 K; have R1a := keepw hB1 R1; have R2a := (hB1.frozen (p := ⟨w.heap.size + 1, 0, none⟩) zn1).trans R2; have zu1 : w.heap.size + 1 < u1.heap.size := (World.block_lt_of_cell? _ _ R1a); have zv1 : w.heap.size < u1.heap.size := (World.block_lt_of_cell? _ _ K1))
  | (at_builtin; refine wpList_append_items rfl (.tmp 30) (.tmp 31) rfl rfl Wn.heap.size v1 (l.take (k + 1)) _ ys _ _ rfl rfl rfl hown1 (HYn.out.below hB1) (by rw [List.length_take]; omega) hB1.size ?_; intro v2 u2 hown2 hgr2; have hB2 : Below Wn.heap.size Wn u2 := hB1.grown hgr2 hB1.size (own_base hown1); have K2 := keepw hB2 K; have R1b := keepw hB2 R1; have R2b := (hB2.frozen (p := ⟨w.heap.size + 1, 0, none⟩) zn1).trans R2; have zu2 : w.heap.size + 1 < u2.heap.size := (World.block_lt_of_cell? _ _ R1b); have zv2 : w.heap.size < u2.heap.size := (World.block_lt_of_cell? _ _ K2))
  | (at_builtin; refine wpList_append_items rfl (.tmp 33) (.tmp 37) rfl rfl Wn.heap.size v2 (l.take (k + 1) ++ ys) _ (l.drop (k + 1)) _ _ rfl rfl (by first | (simp; done) | (simp; omega)) hown2 (HDR _ hB2) (by first | (simp; done) | (simp; omega)) hB2.size ?_; intro v3 u3 hown3 hgr3; have hB3 : Below Wn.heap.size Wn u3 := hB2.grown hgr3 hB2.size (own_base hown2); have R1c := keepw hB3 R1; have R2c := (hB3.frozen (p := ⟨w.heap.size + 1, 0, none⟩) zn1).trans R2; have zu3 : w.heap.size + 1 < u3.heap.size := (World.block_lt_of_cell? _ _ R1c); obtain ⟨A3, c3, rfl, hr3, hlc3, hA3⟩ := hown3.slice))
 refine bodyPost_ret (v := .agg #[.slice A3 (l.take (k + 1) ++ ys ++ l.drop (k + 1)).length c3]) (by simp [results, Tryz.results59, go_sem, R1c, R2c] <;> omega) rfl ⟨_, rfl, ⟨A3, c3, rfl, ?_, hlc3, fun b o hA => by have := hA3 b o hA; have := HBn.out.size; omega⟩, ?_⟩
 · exact Sl.keep hr3 (by simp) (fun b o hA _ => Below.heap_setCell _ _ _ _ (by have := hA3 b o hA; show b ≠ w.heap.size + 1; omega))
 · exact (HBn.out.trans (hB3.mono HBn.out.size)).setCell (show w.heap.size ≤ w.heap.size + 1 by omega) _
theorem rput_ae (l ys : List Item) (A B : Option Addr) (c m : Nat) (par aft : Str) (w : World) (hr : RdI w A l) (hy : RdI w B ys) (hl : l.length + ys.length ≤ 1000000) (hlc : l.length ≤ c) (hsh : ∀ x ∈ l, x.Short)
 (ha : aft ≠ []) (k nb : Nat) (z : Item) (hf : findI l aft = k) (hz : l[k]? = some z) (hnb : (belowL l z.id).length = nb) (hi : k + (1 + nb) ≤ l.length) (hce : c = k + (1 + nb)) :
 Calls Tryz.prog 59 #[.agg #[.slice A l.length c], .slice B ys.length m, vs par, vs aft] w fun e w' => ∃ v, e = .returned v ∧ ResC w.heap.size w' v (l.take (k + (1 + nb)) ++ ys ++ l.drop (k + (1 + nb))) ∧ Below w.heap.size w w' := by
 obtain ⟨n1, n2, n3⟩ := str_tests ha
 obtain ⟨b1, o1, hA, hbs1, c0, c1, c2, c3, c4, c5, c6⟩ := hr.item hz
 subst hA
 clear c0 c1 c2 c3 c4 c5 c6
 have hk : k < l.length := (List.getElem?_eq_some_iff.1 hz).1
 have hq1 : ((k : Int) + (1 + (nb : Int))).toNat = k + (1 + nb) := by omega
 have hq2 : (0 : Int) ≤ (k : Int) + (1 + (nb : Int)) := by omega
 have hq3 : (k : Int) + (1 + (nb : Int)) ≤ c := by omega
 have hq4 : (k : Int) + (1 + (nb : Int)) ≤ l.length := by omega
 obtain rfl := hce
 have HF := Lib.hid hf; clear hf
 have HZ := Lib.hid hz
 have HNB := Lib.hid hnb; clear hnb
 clear ha hz 
 have hb0 := ((Below.refl w.heap.size w).alloc (Nat.le_refl _) (.cells #[.slice (some ⟨b1, o1, none⟩) l.length (k + (1 + nb))] 24)).alloc (by simp) (.cells #[.slice none 0 0] 24)
 have HB0 := Lib.hid hb0; clear hb0
 have HR := Lib.hid hr; clear hr
 have HY := Lib.hid hy; clear hy
 have HSH := Lib.hid hsh; clear hsh
 have K0 : ((w.alloc (.cells #[.slice (some ⟨b1, o1, none⟩) l.length (k + (1 + nb))] 24)).alloc (.cells #[.slice none 0 0] 24)).cell? ⟨w.heap.size, 0, none⟩ = some (.slice (some ⟨b1, o1, none⟩) l.length (k + (1 + nb))) := by simp [go_sem]
 have R10 : ((w.alloc (.cells #[.slice (some ⟨b1, o1, none⟩) l.length (k + (1 + nb))] 24)).alloc (.cells #[.slice none 0 0] 24)).cell? ⟨w.heap.size + 1, 0, none⟩ = some (.slice none 0 0) := by simp [go_sem]
 have R20 : ((w.alloc (.cells #[.slice (some ⟨b1, o1, none⟩) l.length (k + (1 + nb))] 24)).alloc (.cells #[.slice none 0 0] 24)).frozen? ⟨w.heap.size + 1, 0, none⟩ = false := by simp [go_sem]
 have z10 : w.heap.size + 1 < ((w.alloc (.cells #[.slice (some ⟨b1, o1, none⟩) l.length (k + (1 + nb))] 24)).alloc (.cells #[.slice none 0 0] 24)).heap.size := by simp
 go_enter Tryz.func59, Tryz.ntmps59
 go_upto_region 3 with (fail)
 refine wp_region_grew (by kernel_rfl) (by as_aux_lemma => kernel_rfl) ?_
 repeat (go_big_quiet_step ((first | exact Calls_grew (rfind_at HF.out _ _ _ ((HR.out.below HB0.out).below (grew_below _ _)) (le_maxLen (by omega))) | exact Calls_grew (rend_at HNB.out _ _ _ _ ((HR.out.below HB0.out).below (grew_below _ _)) (by omega) HSH.out HZ.out))))
 refine wpQuiet_nil ?_
 rintro _ ⟨W, rfl⟩
 have hb := grew_below ((w.alloc (.cells #[.slice (some ⟨b1, o1, none⟩) l.length (k + (1 + nb))] 24)).alloc (.cells #[.slice none 0 0] 24)) W
 obtain ⟨Wn, hWn⟩ : ∃ Wn, Wn = World.grew ((w.alloc (.cells #[.slice (some ⟨b1, o1, none⟩) l.length (k + (1 + nb))] 24)).alloc (.cells #[.slice none 0 0] 24)) W := ⟨_, rfl⟩
 rw [← hWn] at hb ⊢
 clear hWn
 have K := keepw hb K0
 have R1 := keepw hb R10
 have R2 := (hb.frozen (p := ⟨w.heap.size + 1, 0, none⟩) z10).trans R20
 have HBn := Lib.hid (HB0.out.trans (hb.mono HB0.out.size))
 clear hb K0 R10 R20 z10 HB0
 have HRn := Lib.hid (HR.out.below HBn.out)
 have HYn := Lib.hid (HY.out.below HBn.out)
 have zn1 : w.heap.size + 1 < Wn.heap.size := World.block_lt_of_cell? _ _ R1
 have zn0 : w.heap.size < Wn.heap.size := World.block_lt_of_cell? _ _ K
 have HDR : ∀ W, Below Wn.heap.size Wn W → RdI W (some ⟨b1, o1, none⟩) (l.drop (k + (1 + nb))) := fun W hW => by rw [List.drop_of_length_le (by omega)]; exact Sl.nil
 go_wp2_with (first
  | (at_builtin; refine wpList_append_items rfl (.tmp 24) (.tmp 28) rfl rfl Wn.heap.size (.slice (some ⟨Wn.heap.size, 0, none⟩) 0 0) [] _ (l.take (k + (1 + nb))) _ _ rfl rfl (by first | (simp; done) | (simp; omega)) (made_empty Wn) ((HRn.out.take (k + (1 + nb))).below ((Below.refl _ _).alloc (Nat.le_refl _) _)) (by first | (simp; done) | (simp; omega)) (by simp) ?_; intro v1 u1 hown1 hgr1; have hB1 : Below Wn.heap.size Wn u1 := ((Below.refl _ _).alloc (Nat.le_refl _) _).grown hgr1 (by simp) (by simp [Value.ownBlock]); have K1 := keepw hB1 K; have R1a := keepw hB1 R1; have R2a := (hB1.frozen (p := ⟨w.heap.size + 1, 0, none⟩) zn1).trans R2; have zu1 : w.heap.size + 1 < u1.heap.size := (World.block_lt_of_cell? _ _ R1a); have zv1 : w.heap.size < u1.heap.size := (World.block_lt_of_cell? _ _ K1))
  | (at_builtin; refine wpList_append_items rfl (.tmp 30) (.tmp 31) rfl rfl Wn.heap.size v1 (l.take (k + (1 + nb))) _ ys _ _ rfl rfl rfl hown1 (HYn.out.below hB1) (by rw [List.length_take]; omega) hB1.size ?_; intro v2 u2 hown2 hgr2; have hB2 : Below Wn.heap.size Wn u2 := hB1.grown hgr2 hB1.size (own_base hown1); have K2 := keepw hB2 K; have R1b := keepw hB2 R1; have R2b := (hB2.frozen (p := ⟨w.heap.size + 1, 0, none⟩) zn1).trans R2; have zu2 : w.heap.size + 1 < u2.heap.size := (World.block_lt_of_cell? _ _ R1b); have zv2 : w.heap.size < u2.heap.size := (World.block_lt_of_cell? _ _ K2))
  | (at_builtin; refine wpList_append_items rfl (.tmp 33) (.tmp 37) rfl rfl Wn.heap.size v2 (l.take (k + (1 + nb)) ++ ys) _ (l.drop (k + (1 + nb))) _ _ rfl rfl (by first | (simp; done) | (simp; omega)) hown2 (HDR _ hB2) (by first | (simp; done) | (simp; omega)) hB2.size ?_; intro v3 u3 hown3 hgr3; have hB3 : Below Wn.heap.size Wn u3 := hB2.grown hgr3 hB2.size (own_base hown2); have R1c := keepw hB3 R1; have R2c := (hB3.frozen (p := ⟨w.heap.size + 1, 0, none⟩) zn1).trans R2; have zu3 : w.heap.size + 1 < u3.heap.size := (World.block_lt_of_cell? _ _ R1c); obtain ⟨A3, c3, rfl, hr3, hlc3, hA3⟩ := hown3.slice))
 refine bodyPost_ret (v := .agg #[.slice A3 (l.take (k + (1 + nb)) ++ ys ++ l.drop (k + (1 + nb))).length c3]) (by simp [results, Tryz.results59, go_sem, R1c, R2c] <;> omega) rfl ⟨_, rfl, ⟨A3, c3, rfl, ?_, hlc3, fun b o hA => by have := hA3 b o hA; have := HBn.out.size; omega⟩, ?_⟩
 · exact Sl.keep hr3 (by simp) (fun b o hA _ => Below.heap_setCell _ _ _ _ (by have := hA3 b o hA; show b ≠ w.heap.size + 1; omega))
 · exact (HBn.out.trans (hB3.mono HBn.out.size)).setCell (show w.heap.size ≤ w.heap.size + 1 by omega) _
theorem rput_an (l ys : List Item) (A B : Option Addr) (c m : Nat) (par aft : Str) (w : World) (hr : RdI w A l) (hy : RdI w B ys) (hl : l.length + ys.length ≤ 1000000) (hlc : l.length ≤ c) (hsh : ∀ x ∈ l, x.Short)
 (ha : aft ≠ []) (k nb : Nat) (z : Item) (hf : findI l aft = k) (hz : l[k]? = some z) (hnb : (belowL l z.id).length = nb) (hi : k + (1 + nb) ≤ l.length) (hce : ¬ c = k + (1 + nb)) :
 Calls Tryz.prog 59 #[.agg #[.slice A l.length c], .slice B ys.length m, vs par, vs aft] w fun e w' => ∃ v, e = .returned v ∧ ResC w.heap.size w' v (l.take (k + (1 + nb)) ++ ys ++ l.drop (k + (1 + nb))) ∧ Below w.heap.size w w' := by
 obtain ⟨n1, n2, n3⟩ := str_tests ha
 obtain ⟨b1, o1, hA, hbs1, c0, c1, c2, c3, c4, c5, c6⟩ := hr.item hz
 subst hA
 clear c0 c1 c2 c3 c4 c5 c6
 have hk : k < l.length := (List.getElem?_eq_some_iff.1 hz).1
 have hq1 : ((k : Int) + (1 + (nb : Int))).toNat = k + (1 + nb) := by omega
 have hq2 : (0 : Int) ≤ (k : Int) + (1 + (nb : Int)) := by omega
 have hq3 : (k : Int) + (1 + (nb : Int)) ≤ c := by omega
 have hq4 : (k : Int) + (1 + (nb : Int)) ≤ l.length := by omega
 have hq6 : ¬ c = k + (1 + nb) := hce
 have HF := Lib.hid hf; clear hf
 have HZ := Lib.hid hz
 have HNB := Lib.hid hnb; clear hnb
 clear ha hz hce
 have hb0 := ((Below.refl w.heap.size w).alloc (Nat.le_refl _) (.cells #[.slice (some ⟨b1, o1, none⟩) l.length c] 24)).alloc (by simp) (.cells #[.slice none 0 0] 24)
 have HB0 := Lib.hid hb0; clear hb0
 have HR := Lib.hid hr; clear hr
 have HY := Lib.hid hy; clear hy
 have HSH := Lib.hid hsh; clear hsh
 have K0 : ((w.alloc (.cells #[.slice (some ⟨b1, o1, none⟩) l.length c] 24)).alloc (.cells #[.slice none 0 0] 24)).cell? ⟨w.heap.size, 0, none⟩ = some (.slice (some ⟨b1, o1, none⟩) l.length c) := by simp [go_sem]
 have R10 : ((w.alloc (.cells #[.slice (some ⟨b1, o1, none⟩) l.length c] 24)).alloc (.cells #[.slice none 0 0] 24)).cell? ⟨w.heap.size + 1, 0, none⟩ = some (.slice none 0 0) := by simp [go_sem]
 have R20 : ((w.alloc (.cells #[.slice (some ⟨b1, o1, none⟩) l.length c] 24)).alloc (.cells #[.slice none 0 0] 24)).frozen? ⟨w.heap.size + 1, 0, none⟩ = false := by simp [go_sem]
 have z10 : w.heap.size + 1 < ((w.alloc (.cells #[.slice (some ⟨b1, o1, none⟩) l.length c] 24)).alloc (.cells #[.slice none 0 0] 24)).heap.size := by simp
 go_enter Tryz.func59, Tryz.ntmps59
 go_upto_region 3 with (fail)
 refine wp_region_grew (by kernel_rfl) (by as_aux_lemma => kernel_rfl) ?_
 repeat (go_big_quiet_step ((first | exact Calls_grew (rfind_at HF.out _ _ _ ((HR.out.below HB0.out).below (grew_below _ _)) (le_maxLen (by omega))) | exact Calls_grew (rend_at HNB.out _ _ _ _ ((HR.out.below HB0.out).below (grew_below _ _)) (by omega) HSH.out HZ.out))))
 refine wpQuiet_nil ?_
 rintro _ ⟨W, rfl⟩
 have hb := grew_below ((w.alloc (.cells #[.slice (some ⟨b1, o1, none⟩) l.length c] 24)).alloc (.cells #[.slice none 0 0] 24)) W
 obtain ⟨Wn, hWn⟩ : ∃ Wn, Wn = World.grew ((w.alloc (.cells #[.slice (some ⟨b1, o1, none⟩) l.length c] 24)).alloc (.cells #[.slice none 0 0] 24)) W := ⟨_, rfl⟩
 rw [← hWn] at hb ⊢
 clear hWn
 have K := keepw hb K0
 have R1 := keepw hb R10
 have R2 := (hb.frozen (p := ⟨w.heap.size + 1, 0, none⟩) z10).trans R20
 have HBn := Lib.hid (HB0.out.trans (hb.mono HB0.out.size))
 clear hb K0 R10 R20 z10 HB0
 have HRn := Lib.hid (HR.out.below HBn.out)
 have HYn := Lib.hid (HY.out.below HBn.out)
 have zn1 : w.heap.size + 1 < Wn.heap.size := World.block_lt_of_cell? _ _ R1
 have zn0 : w.heap.size < Wn.heap.size := World.block_lt_of_cell? _ _ K
 have HDR : ∀ W, Below Wn.heap.size Wn W → RdI W (some ⟨b1, o1 + (k + (1 + nb)) * 7, none⟩) (l.drop (k + (1 + nb))) := fun W hW => (HRn.out.below hW).drop (k + (1 + nb))
 go_wp2_with (first
  | (at_builtin; refine wpList_append_items rfl (.tmp 24) (.tmp 28) rfl rfl Wn.heap.size (.slice (some ⟨Wn.heap.size, 0, none⟩) 0 0) [] _ (l.take (k + (1 + nb))) _ _ rfl rfl (by first | (simp; done) | (simp; omega)) (made_empty Wn) ((HRn.out.take (k + (1 + nb))).below ((Below.refl _ _).alloc (Nat.le_refl _) _)) (by first | (simp; done) | (simp; omega)) (by simp) ?_; intro v1 u1 hown1 hgr1; have hB1 : Below Wn.heap.size Wn u1 := ((Below.refl _ _).alloc (Nat.le_refl _) _).grown hgr1 (by simp) (by simp [Value.ownBlock]); have K1 := keepw hB1 K; have R1a := keepw hB1 R1; have R2a := (hB1.frozen (p := ⟨w.heap.size + 1, 0, none⟩) zn1).trans R2; have zu1 : w.heap.size + 1 < u1.heap.size := (World.block_lt_of_cell? _ _ R1a); have zv1 : w.heap.size < u1.heap.size := (World.block_lt_of_cell? _ _ K1))
  | (at_builtin; refine wpList_append_items rfl (.tmp 30) (.tmp 31) rfl rfl Wn.heap.size v1 (l.take (k + (1 + nb))) _ ys _ _ rfl rfl rfl hown1 (HYn.out.below hB1) (by rw [List.length_take]; omega) hB1.size ?_; intro v2 u2 hown2 hgr2; have hB2 : Below Wn.heap.size Wn u2 := hB1.grown hgr2 hB1.size (own_base hown1); have K2 := keepw hB2 K; have R1b := keepw hB2 R1; have R2b := (hB2.frozen (p := ⟨w.heap.size + 1, 0, none⟩) zn1).trans R2; have zu2 : w.heap.size + 1 < u2.heap.size := (World.block_lt_of_cell? _ _ R1b); have zv2 : w.heap.size < u2.heap.size := (World.block_lt_of_cell? _ _ K2))
  | (at_builtin; refine wpList_append_items rfl (.tmp 33) (.tmp 37) rfl rfl Wn.heap.size v2 (l.take (k + (1 + nb)) ++ ys) _ (l.drop (k + (1 + nb))) _ _ rfl rfl (by first | (simp; done) | (simp; omega)) hown2 (HDR _ hB2) (by first | (simp; done) | (simp; omega)) hB2.size ?_; intro v3 u3 hown3 hgr3; have hB3 : Below Wn.heap.size Wn u3 := hB2.grown hgr3 hB2.size (own_base hown2); have R1c := keepw hB3 R1; have R2c := (hB3.frozen (p := ⟨w.heap.size + 1, 0, none⟩) zn1).trans R2; have zu3 : w.heap.size + 1 < u3.heap.size := (World.block_lt_of_cell? _ _ R1c); obtain ⟨A3, c3, rfl, hr3, hlc3, hA3⟩ := hown3.slice))
 refine bodyPost_ret (v := .agg #[.slice A3 (l.take (k + (1 + nb)) ++ ys ++ l.drop (k + (1 + nb))).length c3]) (by simp [results, Tryz.results59, go_sem, R1c, R2c] <;> omega) rfl ⟨_, rfl, ⟨A3, c3, rfl, ?_, hlc3, fun b o hA => by have := hA3 b o hA; have := HBn.out.size; omega⟩, ?_⟩
 · exact Sl.keep hr3 (by simp) (fun b o hA _ => Below.heap_setCell _ _ _ _ (by have := hA3 b o hA; show b ≠ w.heap.size + 1; omega))
 · exact (HBn.out.trans (hB3.mono HBn.out.size)).setCell (show w.heap.size ≤ w.heap.size + 1 by omega) _
theorem rput_any (l ys : List Item) (A B : Option Addr) (c m : Nat) (par aft : Str) (w : World) (hr : RdI w A l) (hy : RdI w B ys) (hl : l.length + ys.length ≤ 1000000) (hlc : l.length ≤ c) (hsh : ∀ x ∈ l, x.Short) (hok : PutOk l par aft) :
 Calls Tryz.prog 59 #[.agg #[.slice A l.length c], .slice B ys.length m, vs par, vs aft] w fun e w' => ∃ v, e = .returned v ∧ ResC w.heap.size w' v (putL l ys par aft) ∧ Below w.heap.size w w' := by
 obtain ⟨i, h1, h2, h3, h4⟩ := hok
 have hp : putL l ys par aft = l.take i ++ ys ++ l.drop i := by unfold putL ins; rw [h1]; rfl
 rw [hp]
 unfold putAt at h1
 by_cases ha : aft = []
 · rw [if_pos (by rw [ha]; rfl)] at h1
   by_cases hpp : par = []
   · rw [if_pos (by rw [hpp]; rfl)] at h1
     obtain rfl : i = 0 := by omega
     exact rput_0 l ys A B c m par aft w hr hy hl hlc hsh ha hpp
   · have e1 : ¬ par.isEmpty = true := by simpa using hpp
     rw [if_neg e1] at h1
     rcases find_case l par with ⟨f1, f2⟩ | ⟨k, z, f1, f2, f3⟩
     · exact absurd f1 (h4.resolve_left e1)
     · obtain rfl : i = k + 1 := by omega
       by_cases hc : c = k + 1
       · exact rput_pe l ys A B c m par aft w hr hy hl hlc hsh ha hpp k z f1 f2 hc
       · exact rput_pn l ys A B c m par aft w hr hy hl hlc hsh ha hpp k z f1 f2 hc
 · have e1 : ¬ aft.isEmpty = true := by simpa using ha
   rw [if_neg e1] at h1
   rcases find_case l aft with ⟨f1, f2⟩ | ⟨k, z, f1, f2, f3⟩
   · exact absurd f1 (h3.resolve_left e1)
   · have hz : z.id = aft := by
       unfold findI at f1
       cases hq : l.findIdx? (fun x => x.id == aft) with
       | none => rw [hq] at f1; simp [idx] at f1
       | some j =>
         rw [hq] at f1
         obtain ⟨g1, g2, g3⟩ := List.findIdx?_eq_some_iff_getElem.1 hq
         have : j = k := by simp [idx] at f1; omega
         subst this
         rw [List.getElem?_eq_getElem g1] at f2
         cases f2
         simpa using g2
     rw [f1, ← hz] at h1
     obtain rfl : i = k + (1 + (belowL l z.id).length) := by omega
     by_cases hc : c = k + (1 + (belowL l z.id).length)
     · exact rput_ae l ys A B c m par aft w hr hy hl hlc hsh ha k _ z f1 f2 rfl h2 hc
     · exact rput_an l ys A B c m par aft w hr hy hl hlc hsh ha k _ z f1 f2 rfl h2 hc
end Go.Proofs.YtfolcjkednmkoaaGreat
