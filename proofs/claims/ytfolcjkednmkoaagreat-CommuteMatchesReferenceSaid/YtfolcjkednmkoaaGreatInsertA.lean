/- patch.change: insert. -/
import Derived.Test.YtfolcjkednmkoaaGreatPut
set_option linter.unusedVariables false
set_option linter.unusedSimpArgs false
set_option maxRecDepth 20000
set_option maxHeartbeats 1000000
namespace Go.Proofs.YtfolcjkednmkoaaGreat
open Go.RowKit
def PutOk (l : List Item) (par aft : Str) : Prop :=
 ∃ i : Nat, putAt l par aft = i ∧ i ≤ l.length ∧ (aft.isEmpty = true ∨ findI l aft ≠ -1) ∧ (par.isEmpty = true ∨ findI l par ≠ -1)
/- what a function of the table answers -/
def Does (f : FuncId) (l : List Item) (A : Option Addr) (c : Nat) (p : Patch) (ix : Int) (w : World) (r : List Item × Int) : Prop :=
 Calls Tryz.prog f #[chg A l.length c p ix] w fun e w' => ∃ v, e = .returned (.tuple #[v, .int .i64 r.2]) ∧ ResC w.heap.size w' v r.1 ∧ Below w.heap.size w w'
def putL (l ys : List Item) (par aft : Str) : List Item := ins l ys (putAt l par aft).toNat
def insertF (l : List Item) (p : Patch) (ix : Int) : List Item × Int :=
 if 0 ≤ ix then ([], 9) else if existsF l p.par p.aft = false then ([], 14) else if 2000 ≤ l.length then ([], 2) else (putL l [p.item] p.par p.aft, 0)
theorem ResC.nil (base : Nat) (w : World) (c : Nat) : ResC base w (.agg #[.slice none 0 c]) [] := ⟨none, c, rfl, Sl.nil, by simp, by simp⟩
theorem insertA_any (l : List Item) (A : Option Addr) (c : Nat) (p : Patch) (ix : Int) (w : World) (hr : RdI w A l) (hl : l.length ≤ 100000) (hsh : ∀ x ∈ l, x.Short) (hpo : existsF l p.par p.aft = true → PutOk l p.par p.aft) :
 Does 45 l A c p ix w (insertF l p ix) := by
 unfold Does
 have HE := fun W h => Lib.hid (exists_any l A c p ix W h (by omega))
 have HR := Lib.hid hr; clear hr
 have HSH := Lib.hid hsh; clear hsh
 have hb0 := ((Below.refl w.heap.size w).alloc (Nat.le_refl _) (.cells #[.slice A l.length c, .int .i64 p.kind, vs p.id, vs p.par, vs p.aft, vs p.num, .int .i64 p.item.kind, vs p.item.id, vs p.item.par, vs p.item.num, vs p.item.no, vs p.item.so, .bool p.item.gone, .int .i64 p.lang, vs p.fr, vs p.to, .int .i64 ix] 70)).alloc (by simp) (.cells #[.slice none 0 0] 24)
 have HB0 := Lib.hid hb0; clear hb0
 by_cases h0 : 0 ≤ ix
 · have hd : decide (0 ≤ ix) = true := by simpa using h0
   go_enter Tryz.func45, Tryz.ntmps45
   go_wp2_with fail
   refine bodyPost_ret (v := .tuple #[.agg #[.slice none 0 0], .int .i64 9]) (by simp [results, Tryz.results45, go_sem]) rfl ⟨.agg #[.slice none 0 0], by unfold insertF; rw [if_pos h0], ?_, ?_⟩
   · unfold insertF
     rw [if_pos h0]
     exact ResC.nil _ _ _
   · exact HB0.out
 · have hd : decide (0 ≤ ix) = false := by simpa using h0
   cases he : existsF l p.par p.aft with
   | false =>
     have hF : insertF l p ix = ([], 14) := by unfold insertF; rw [if_neg h0, if_pos he]
     have HF := Lib.hid hF; clear hF h0
     have hr1 := HR.out.below HB0.out
     have HR1 := Lib.hid hr1; clear hr1
     have HE0 := Lib.hid he
     go_enter Tryz.func45, Tryz.ntmps45
     go_wp2_with fail
     refine (HE _ HR1.out).out.mono ?_
     rintro e w1 ⟨rfl, hb1⟩
     rw [HE0.out]
     obtain ⟨hc, hf⟩ := bcell hb1
     have HB1 := Lib.hid hb1; clear hb1
     go_wp2_with fail
     refine bodyPost_ret (v := .tuple #[.agg #[.slice none 0 0], .int .i64 14]) (by simp [results, Tryz.results45, go_sem, hc, hf]) rfl ⟨.agg #[.slice none 0 0], by rw [HF.out], ?_, ?_⟩
     · rw [HF.out]
       exact ResC.nil _ _ _
     · refine Below.setCell (HB0.out.trans (HB1.out.mono HB0.out.size)) ?_ _
       simp
   | true =>
     have HPO := Lib.hid (hpo he); clear hpo
     have hr1 := HR.out.below HB0.out
     have HR1 := Lib.hid hr1; clear hr1
     have HE0 := Lib.hid he
     by_cases hlim : 2000 ≤ l.length
     · have hd2 : decide ((2000 : Int) ≤ l.length) = true := by simp; omega
       have hF : insertF l p ix = ([], 2) := by unfold insertF; rw [if_neg h0, if_neg (by rw [he]; simp), if_pos hlim]
       have HF := Lib.hid hF; clear hF h0
       go_enter Tryz.func45, Tryz.ntmps45
       go_wp2_with fail
       refine (HE _ HR1.out).out.mono ?_
       rintro e w1 ⟨rfl, hb1⟩
       rw [HE0.out]
       obtain ⟨hc, hf⟩ := bcell hb1
       have HB1 := Lib.hid hb1; clear hb1
       go_wp2_with fail
       refine bodyPost_ret (v := .tuple #[.agg #[.slice none 0 0], .int .i64 2]) (by simp [results, Tryz.results45, go_sem, hc, hf]) rfl ⟨.agg #[.slice none 0 0], by rw [HF.out], ?_, ?_⟩
       · rw [HF.out]
         exact ResC.nil _ _ _
       · refine Below.setCell (HB0.out.trans (HB1.out.mono HB0.out.size)) ?_ _
         simp
     · have hd2 : decide ((2000 : Int) ≤ l.length) = false := by simp; omega
       obtain ⟨i, hi, hil, hx1, hx2⟩ := HPO.out
       have hF : insertF l p ix = (ins l [p.item] i, 0) := by
        unfold insertF putL
        rw [if_neg h0, if_neg (by rw [he]; simp), if_neg hlim, hi]; rfl
       have HF := Lib.hid hF; clear hF h0
       have HI := Lib.hid hi; clear hi
       have HX := Lib.hid (And.intro hx1 hx2); clear hx1 hx2
       go_enter Tryz.func45, Tryz.ntmps45
       go_wp2_with fail
       refine (HE _ HR1.out).out.mono ?_
       rintro e w1 ⟨rfl, hb1⟩
       rw [HE0.out]
       obtain ⟨hc, hf⟩ := bcell hb1
       have hblk := bblk hb1
       have HB1 := Lib.hid hb1; clear hb1
       go_wp2_with fail
       have hys : OwnI (w1.alloc (.cells #[.int .i64 p.item.kind, vs p.item.id, vs p.item.par, vs p.item.num, vs p.item.no, vs p.item.so, .bool p.item.gone] 27)) 0 (.slice (some ⟨w1.heap.size, 0, none⟩) 1 1) [p.item] :=
        OwnI.mk (l := [p.item]) (rest := []) (Nat.zero_le _) (heap_new_at rfl) (Nat.le_refl _) (by decide) (by simp [flat])
       refine (put_any l [p.item] A c p ix 0 _ _ ((HR1.out.below HB1.out).below ((Below.refl _ _).alloc (Nat.le_refl _) _)) hys (by simp) (by simp; omega) HSH.out i HI.out hil HX.out.1 HX.out.2).mono ?_
       rintro e w2 ⟨v, rfl, ⟨A', c', rfl, hr2, hlc', hA'⟩, hb2⟩
       have hb3 := (HB1.out.alloc HB1.out.size (.cells #[.int .i64 p.item.kind, vs p.item.id, vs p.item.par, vs p.item.num, vs p.item.no, vs p.item.so, .bool p.item.gone] 27)).trans (hb2.mono (by have := HB1.out.size; simp at this ⊢; omega))
       clear hc hf hblk hb2
       obtain ⟨hc, hf⟩ := bcell hb3
       have HB3 := Lib.hid hb3; clear hb3
       go_wp2_with fail
       refine bodyPost_ret (v := .tuple #[.agg #[.slice A' (ins l [p.item] i).length c'], .int .i64 0]) (by simp [results, Tryz.results45, go_sem, hc, hf]) rfl ⟨.agg #[.slice A' (ins l [p.item] i).length c'], by rw [HF.out], ?_, ?_⟩
       · rw [HF.out]
         refine ⟨A', c', rfl, Sl.keep hr2 (by simp) (fun b o hA _ => Below.heap_setCell _ _ _ _ ?_), hlc', fun b o hA => ?_⟩
         · have h1 := hA' b o hA
           have h2 := HB1.out.size
           simp at h1 h2 ⊢
           omega
         · have h1 := hA' b o hA
           have h2 := HB1.out.size
           simp at h1 h2
           omega
       · refine Below.setCell (HB0.out.trans (HB3.out.mono HB0.out.size)) ?_ _
         simp
end Go.Proofs.YtfolcjkednmkoaaGreat
