/- patch.change: insert. patch.change: number, gone. patch.change: replace. patch.change: words. -/
import Derived.Test.YtecnlfaholmpoaaGreatJC7
import Derived.Deep.RegionHeld3
set_option linter.unusedVariables false
set_option linter.unusedSimpArgs false
set_option maxRecDepth 20000
set_option maxHeartbeats 1000000
namespace Go.Proofs.YtecnlfaholmpoaaGreat
open Go.RowKit
def PutOk (l : List Item) (par aft : Str) : Prop :=
 ∃ i : Nat, putAt l par aft = i ∧ i ≤ l.length ∧ (aft.isEmpty = true ∨ findI l aft ≠ -1) ∧ (par.isEmpty = true ∨ findI l par ≠ -1)
/- what a function of the table answers -/
def Does (f : FuncId) (l : List Item) (A : Option Addr) (c : Nat) (p : Patch) (ix : Int) (w : World) (r : List Item × Int) : Prop :=
 Calls Tryz.prog f #[chg A l.length c p ix] w fun e w' => ∃ v, e = .returned (.tuple #[v, .int .i64 r.2]) ∧ ResC w.heap.size w' v r.1 ∧ Below w.heap.size w w'
def putL (l ys : List Item) (par aft : Str) : List Item := ins l ys (putAt l par aft).toNat
def insertF (l : List Item) (p : Patch) (ix : Int) : List Item × Int :=
 if 0 ≤ ix then ([], 9) else if existsF l p.par p.aft = false then ([], 14) else if 2000 ≤ l.length then ([], 2) else (putL l [p.item] p.par p.aft, 0)
theorem ResC.nil (base : Nat) (w : World) (c : Nat) : ResC base w (.agg #[.slice none 0 c]) [] := ⟨none, c, rfl, Sl.nil, by simp, by simp⟩
theorem insertA_any (l : List Item) (A : Option Addr) (c : Nat) (p : Patch) (ix : Int) (w : World) (hr : RdI w A l) (hl : l.length ≤ 100000) (hsh : ∀ x ∈ l, x.Short) (hpo : existsF l p.par p.aft = true → PutOk l p.par p.aft) :
 Does 60 l A c p ix w (insertF l p ix) := by
 unfold Does
 have HE := fun W h => Lib.hid (exists_any l A c p ix W h (by omega))
 have HR := Lib.hid hr; clear hr
 have HSH := Lib.hid hsh; clear hsh
 have hb0 := ((Below.refl w.heap.size w).alloc (Nat.le_refl _) (.cells #[.slice A l.length c, .int .i64 p.kind, vs p.id, vs p.par, vs p.aft, vs p.num, .int .i64 p.item.kind, vs p.item.id, vs p.item.par, vs p.item.num, vs p.item.no, vs p.item.so, .bool p.item.gone, .int .i64 p.lang, vs p.fr, vs p.to, .int .i64 ix] 94)).alloc (by simp) (.cells #[.slice none 0 0] 24)
 have HB0 := Lib.hid hb0; clear hb0
 by_cases h0 : 0 ≤ ix
 · have hd : decide (0 ≤ ix) = true := by simpa using h0
   go_enter Tryz.func60, Tryz.ntmps60
   go_wp2_with fail
   refine bodyPost_ret (v := .tuple #[.agg #[.slice none 0 0], .int .i64 9]) (by simp [results, Tryz.results60, go_sem]) rfl ⟨.agg #[.slice none 0 0], by unfold insertF; rw [if_pos h0], ?_, ?_⟩
   · unfold insertF
     rw [if_pos h0]
     exact ResC.nil _ _ _
   · exact HB0.out
 · have hd : decide (0 ≤ ix) = false := by simpa using h0
   cases he : existsF l p.par p.aft with
   | false =>
     have hF : insertF l p ix = ([], 14) := by unfold insertF; rw [if_neg h0, if_pos he]
     have HF := Lib.hid hF; clear hF h0
     have hr1 := HR.out.below HB0.out
     have HR1 := Lib.hid hr1; clear hr1
     have HE0 := Lib.hid he
     go_enter Tryz.func60, Tryz.ntmps60
     go_wp2_with fail
     refine (HE _ HR1.out).out.mono ?_
     rintro e w1 ⟨rfl, hb1⟩
     rw [HE0.out]
     obtain ⟨hc, hf⟩ := bcell hb1
     have HB1 := Lib.hid hb1; clear hb1
     go_wp2_with fail
     refine bodyPost_ret (v := .tuple #[.agg #[.slice none 0 0], .int .i64 14]) (by simp [results, Tryz.results60, go_sem, hc, hf]) rfl ⟨.agg #[.slice none 0 0], by rw [HF.out], ?_, ?_⟩
     · rw [HF.out]
       exact ResC.nil _ _ _
     · refine Below.setCell (HB0.out.trans (HB1.out.mono HB0.out.size)) ?_ _
       simp
   | true =>
     have HPO := Lib.hid (hpo he); clear hpo
     have hr1 := HR.out.below HB0.out
     have HR1 := Lib.hid hr1; clear hr1
     have HE0 := Lib.hid he
     by_cases hlim : 2000 ≤ l.length
     · have hd2 : decide ((2000 : Int) ≤ l.length) = true := by simp; omega
       have hF : insertF l p ix = ([], 2) := by unfold insertF; rw [if_neg h0, if_neg (by rw [he]; simp), if_pos hlim]
       have HF := Lib.hid hF; clear hF h0
       go_enter Tryz.func60, Tryz.ntmps60
       go_wp2_with fail
       refine (HE _ HR1.out).out.mono ?_
       rintro e w1 ⟨rfl, hb1⟩
       rw [HE0.out]
       obtain ⟨hc, hf⟩ := bcell hb1
       have HB1 := Lib.hid hb1; clear hb1
       go_wp2_with fail
       refine bodyPost_ret (v := .tuple #[.agg #[.slice none 0 0], .int .i64 2]) (by simp [results, Tryz.results60, go_sem, hc, hf]) rfl ⟨.agg #[.slice none 0 0], by rw [HF.out], ?_, ?_⟩
       · rw [HF.out]
         exact ResC.nil _ _ _
       · refine Below.setCell (HB0.out.trans (HB1.out.mono HB0.out.size)) ?_ _
         simp
     · have hd2 : decide ((2000 : Int) ≤ l.length) = false := by simp; omega
       obtain ⟨i, hi, hil, hx1, hx2⟩ := HPO.out
       have hF : insertF l p ix = (ins l [p.item] i, 0) := by
        unfold insertF putL
        rw [if_neg h0, if_neg (by rw [he]; simp), if_neg hlim, hi]; rfl
       have HF := Lib.hid hF; clear hF h0
       have HI := Lib.hid hi; clear hi
       have HX := Lib.hid (And.intro hx1 hx2); clear hx1 hx2
       go_enter Tryz.func60, Tryz.ntmps60
       go_wp2_with fail
       refine (HE _ HR1.out).out.mono ?_
       rintro e w1 ⟨rfl, hb1⟩
       rw [HE0.out]
       obtain ⟨hc, hf⟩ := bcell hb1
       have hblk := bblk hb1
       have HB1 := Lib.hid hb1; clear hb1
       go_wp2_with fail
       have hys : OwnI (w1.alloc (.cells #[.int .i64 p.item.kind, vs p.item.id, vs p.item.par, vs p.item.num, vs p.item.no, vs p.item.so, .bool p.item.gone] 47)) 0 (.slice (some ⟨w1.heap.size, 0, none⟩) 1 1) [p.item] :=
        OwnI.mk (l := [p.item]) (rest := []) (Nat.zero_le _) (heap_new_at rfl) (Nat.le_refl _) (by decide) (by simp [flat])
       refine (put_any l [p.item] A c p ix 0 _ _ ((HR1.out.below HB1.out).below ((Below.refl _ _).alloc (Nat.le_refl _) _)) hys (by simp) (by simp; omega) HSH.out i HI.out hil HX.out.1 HX.out.2).mono ?_
       rintro e w2 ⟨v, rfl, ⟨A', c', rfl, hr2, hlc', hA'⟩, hb2⟩
       have hb3 := (HB1.out.alloc HB1.out.size (.cells #[.int .i64 p.item.kind, vs p.item.id, vs p.item.par, vs p.item.num, vs p.item.no, vs p.item.so, .bool p.item.gone] 47)).trans (hb2.mono (by have := HB1.out.size; simp at this ⊢; omega))
       clear hc hf hblk hb2
       obtain ⟨hc, hf⟩ := bcell hb3
       have HB3 := Lib.hid hb3; clear hb3
       go_wp2_with fail
       refine bodyPost_ret (v := .tuple #[.agg #[.slice A' (ins l [p.item] i).length c'], .int .i64 0]) (by simp [results, Tryz.results60, go_sem, hc, hf]) rfl ⟨.agg #[.slice A' (ins l [p.item] i).length c'], by rw [HF.out], ?_, ?_⟩
       · rw [HF.out]
         refine ⟨A', c', rfl, Sl.keep hr2 (by simp) (fun b o hA _ => Below.heap_setCell _ _ _ _ ?_), hlc', fun b o hA => ?_⟩
         · have h1 := hA' b o hA
           have h2 := HB1.out.size
           simp at h1 h2 ⊢
           omega
         · have h1 := hA' b o hA
           have h2 := HB1.out.size
           simp at h1 h2
           omega
       · refine Below.setCell (HB0.out.trans (HB3.out.mono HB0.out.size)) ?_ _
         simp
end Go.Proofs.YtecnlfaholmpoaaGreat
set_option maxRecDepth 20000
set_option maxHeartbeats 1000000
namespace Go.Proofs.YtecnlfaholmpoaaGreat
open Go.RowKit

theorem number_any (l : List Item) (A : Option Addr) (c : Nat) (p : Patch) (k : Nat) (x : Item) (w : World) (hr : RdI w A l) (hl : l.length ≤ 1000000) (hx : l[k]? = some x) :
 Does 62 l A c p k w (l.set k { x with num := p.num }, 0) := by
 unfold Does
 have hk : k < l.length := (List.getElem?_eq_some_iff.1 hx).1
 have hb0 := ((Below.refl w.heap.size w).alloc (Nat.le_refl _) (.cells #[.slice A l.length c, .int .i64 p.kind, vs p.id, vs p.par, vs p.aft, vs p.num, .int .i64 p.item.kind, vs p.item.id, vs p.item.par, vs p.item.num, vs p.item.no, vs p.item.so, .bool p.item.gone, .int .i64 p.lang, vs p.fr, vs p.to, .int .i64 k] 94)).alloc (by simp) (.cells #[.slice none 0 0] 24)
 have HR := Lib.hid hr
 obtain ⟨b, o, rfl, hbs, c0, c1, c2, c3, c4, c5, c6⟩ := hr.item hx
 have hbs1 : b < w.heap.size + 1 := by omega
 have hbs2 : b < w.heap.size + 1 + 1 := by omega
 clear hr hx
 have HB0 := Lib.hid hb0; clear hb0
 go_enter Tryz.func62, Tryz.ntmps62
 go_wp2_with fail
 refine (with_any l _ c p k { x with num := p.num } _ ((HR.out.below HB0.out).below ((Below.refl _ _).alloc (Nat.le_refl _) _)) hl hk).mono ?_
 rintro e w2 ⟨v, rfl, ⟨A', c', rfl, hr2, hlc', hA'⟩, hb2⟩
 obtain ⟨hc, hf⟩ := bcell hb2
 have HB2 := Lib.hid hb2; clear hb2
 go_wp2_with fail
 refine bodyPost_ret (v := .tuple #[.agg #[.slice A' (l.set k { x with num := p.num }).length c'], .int .i64 0]) (by simp [results, Tryz.results62, go_sem, hc, hf]) rfl ⟨_, rfl, ⟨A', c', rfl, Sl.keep hr2 (by simp) (fun b o hA _ => Below.heap_setCell _ _ _ _ ?_), hlc', fun b o hA => ?_⟩, ?_⟩
 · have h1 := hA' b o hA
   simp at h1 ⊢
   omega
 · have h1 := hA' b o hA
   simp at h1
   omega
 · refine Below.setCell ((HB0.out.alloc (by simp; omega) _).trans (HB2.out.mono (by simp; omega))) ?_ _
   simp

theorem gone_any (l : List Item) (A : Option Addr) (c : Nat) (p : Patch) (k : Nat) (x : Item) (w : World) (hr : RdI w A l) (hl : l.length ≤ 1000000) (hx : l[k]? = some x) :
 Does 64 l A c p k w (l.set k { x with gone := p.kind == 5 }, 0) := by
 unfold Does
 have hk : k < l.length := (List.getElem?_eq_some_iff.1 hx).1
 have hb0 := ((Below.refl w.heap.size w).alloc (Nat.le_refl _) (.cells #[.slice A l.length c, .int .i64 p.kind, vs p.id, vs p.par, vs p.aft, vs p.num, .int .i64 p.item.kind, vs p.item.id, vs p.item.par, vs p.item.num, vs p.item.no, vs p.item.so, .bool p.item.gone, .int .i64 p.lang, vs p.fr, vs p.to, .int .i64 k] 94)).alloc (by simp) (.cells #[.slice none 0 0] 24)
 have HR := Lib.hid hr
 obtain ⟨b, o, rfl, hbs, c0, c1, c2, c3, c4, c5, c6⟩ := hr.item hx
 have hbs1 : b < w.heap.size + 1 := by omega
 have hbs2 : b < w.heap.size + 1 + 1 := by omega
 clear hr hx
 have HB0 := Lib.hid hb0; clear hb0
 go_enter Tryz.func64, Tryz.ntmps64
 go_wp2_with fail
 refine (with_any l _ c p k { x with gone := p.kind == 5 } _ ((HR.out.below HB0.out).below ((Below.refl _ _).alloc (Nat.le_refl _) _)) hl hk).mono ?_
 rintro e w2 ⟨v, rfl, ⟨A', c', rfl, hr2, hlc', hA'⟩, hb2⟩
 obtain ⟨hc, hf⟩ := bcell hb2
 have HB2 := Lib.hid hb2; clear hb2
 go_wp2_with fail
 refine bodyPost_ret (v := .tuple #[.agg #[.slice A' (l.set k { x with gone := p.kind == 5 }).length c'], .int .i64 0]) (by simp [results, Tryz.results64, go_sem, hc, hf]) rfl ⟨_, rfl, ⟨A', c', rfl, Sl.keep hr2 (by simp) (fun b o hA _ => Below.heap_setCell _ _ _ _ ?_), hlc', fun b o hA => ?_⟩, ?_⟩
 · have h1 := hA' b o hA
   simp at h1 ⊢
   omega
 · have h1 := hA' b o hA
   simp at h1
   omega
 · refine Below.setCell ((HB0.out.alloc (by simp; omega) _).trans (HB2.out.mono (by simp; omega))) ?_ _
   simp
end Go.Proofs.YtecnlfaholmpoaaGreat
set_option maxRecDepth 20000
set_option maxHeartbeats 1000000
namespace Go.Proofs.YtecnlfaholmpoaaGreat
open Go.RowKit
def replaceF (l : List Item) (p : Patch) (k : Nat) (x : Item) : List Item × Int :=
 if 400 < p.item.no.length ∨ 400 < p.item.so.length then ([], 2) else (l.set k { x with no := p.item.no, so := p.item.so }, 0)

theorem replace_1 (l : List Item) (A : Option Addr) (c : Nat) (p : Patch) (k : Nat) (x : Item) (w : World) (hr : RdI w A l) (hl : l.length ≤ 1000000) (hx : l[k]? = some x) (h1 : p.item.no.length ≤ 400) (h2 : p.item.so.length ≤ 400) :
 Does 65 l A c p k w (l.set k { x with no := p.item.no, so := p.item.so }, 0) := by
 unfold Does
 have hk : k < l.length := (List.getElem?_eq_some_iff.1 hx).1
 have hb0 := ((Below.refl w.heap.size w).alloc (Nat.le_refl _) (.cells #[.slice A l.length c, .int .i64 p.kind, vs p.id, vs p.par, vs p.aft, vs p.num, .int .i64 p.item.kind, vs p.item.id, vs p.item.par, vs p.item.num, vs p.item.no, vs p.item.so, .bool p.item.gone, .int .i64 p.lang, vs p.fr, vs p.to, .int .i64 k] 94)).alloc (by simp) (.cells #[.slice none 0 0] 24)
 have HR := Lib.hid hr
 obtain ⟨b, o, rfl, hbs, c0, c1, c2, c3, c4, c5, c6⟩ := hr.item hx
 have hbs1 : b < w.heap.size + 1 := by omega
 have hbs2 : b < w.heap.size + 1 + 1 := by omega
 clear hr hx
 have HB0 := Lib.hid hb0; clear hb0
 have hd1 : decide ((400 : Int) < p.item.no.length) = false := by simp; omega
 have hd2 : decide ((400 : Int) < p.item.so.length) = false := by simp; omega
 go_enter Tryz.func65, Tryz.ntmps65
 go_wp2_with fail
 go_region
 go_wp2_with fail
 refine (with_any l _ c p k { x with no := p.item.no, so := p.item.so } _ ((HR.out.below HB0.out).below ((Below.refl _ _).alloc (Nat.le_refl _) _).drew) hl hk).mono ?_
 rintro e w2 ⟨v, rfl, ⟨A', c', rfl, hr2, hlc', hA'⟩, hb2⟩
 obtain ⟨hc, hf⟩ := bcell hb2
 have HB2 := Lib.hid hb2; clear hb2
 go_wp2_with fail
 refine bodyPost_ret (v := .tuple #[.agg #[.slice A' (l.set k { x with no := p.item.no, so := p.item.so }).length c'], .int .i64 0]) (by simp [results, Tryz.results65, go_sem, hc, hf]) rfl ⟨_, rfl, ⟨A', c', rfl, Sl.keep hr2 (by simp) (fun b o hA _ => Below.heap_setCell _ _ _ _ ?_), hlc', fun b o hA => ?_⟩, ?_⟩
 · have h1 := hA' b o hA
   simp at h1 ⊢
   omega
 · have h1 := hA' b o hA
   simp at h1
   omega
 · refine Below.setCell ((HB0.out.alloc (by simp; omega) _).drew.trans (HB2.out.mono (by simp; omega))) ?_ _
   simp

theorem replace_2 (l : List Item) (A : Option Addr) (c : Nat) (p : Patch) (k : Nat) (x : Item) (w : World) (hr : RdI w A l) (hl : l.length ≤ 1000000) (hx : l[k]? = some x) (h1 : 400 < p.item.no.length) :
 Does 65 l A c p k w ([], 2) := by
 unfold Does
 have hk : k < l.length := (List.getElem?_eq_some_iff.1 hx).1
 have hb0 := ((Below.refl w.heap.size w).alloc (Nat.le_refl _) (.cells #[.slice A l.length c, .int .i64 p.kind, vs p.id, vs p.par, vs p.aft, vs p.num, .int .i64 p.item.kind, vs p.item.id, vs p.item.par, vs p.item.num, vs p.item.no, vs p.item.so, .bool p.item.gone, .int .i64 p.lang, vs p.fr, vs p.to, .int .i64 k] 94)).alloc (by simp) (.cells #[.slice none 0 0] 24)
 have HR := Lib.hid hr
 obtain ⟨b, o, rfl, hbs, c0, c1, c2, c3, c4, c5, c6⟩ := hr.item hx
 have hbs1 : b < w.heap.size + 1 := by omega
 have hbs2 : b < w.heap.size + 1 + 1 := by omega
 clear hr hx
 have HB0 := Lib.hid hb0; clear hb0
 have hd1 : decide ((400 : Int) < p.item.no.length) = true := by simp; omega
 go_enter Tryz.func65, Tryz.ntmps65
 go_wp2_with fail
 go_region
 go_wp2_with fail
 refine bodyPost_ret (v := .tuple #[.agg #[.slice none 0 0], .int .i64 2]) (by simp [results, Tryz.results65, go_sem]) rfl ⟨_, rfl, ResC.nil _ _ _, ?_⟩
 exact (HB0.out.alloc (by simp; omega) _).drew

theorem replace_3 (l : List Item) (A : Option Addr) (c : Nat) (p : Patch) (k : Nat) (x : Item) (w : World) (hr : RdI w A l) (hl : l.length ≤ 1000000) (hx : l[k]? = some x) (h1 : p.item.no.length ≤ 400) (h2 : 400 < p.item.so.length) :
 Does 65 l A c p k w ([], 2) := by
 unfold Does
 have hk : k < l.length := (List.getElem?_eq_some_iff.1 hx).1
 have hb0 := ((Below.refl w.heap.size w).alloc (Nat.le_refl _) (.cells #[.slice A l.length c, .int .i64 p.kind, vs p.id, vs p.par, vs p.aft, vs p.num, .int .i64 p.item.kind, vs p.item.id, vs p.item.par, vs p.item.num, vs p.item.no, vs p.item.so, .bool p.item.gone, .int .i64 p.lang, vs p.fr, vs p.to, .int .i64 k] 94)).alloc (by simp) (.cells #[.slice none 0 0] 24)
 have HR := Lib.hid hr
 obtain ⟨b, o, rfl, hbs, c0, c1, c2, c3, c4, c5, c6⟩ := hr.item hx
 have hbs1 : b < w.heap.size + 1 := by omega
 have hbs2 : b < w.heap.size + 1 + 1 := by omega
 clear hr hx
 have HB0 := Lib.hid hb0; clear hb0
 have hd1 : decide ((400 : Int) < p.item.no.length) = false := by simp; omega
 have hd2 : decide ((400 : Int) < p.item.so.length) = true := by simp; omega
 go_enter Tryz.func65, Tryz.ntmps65
 go_wp2_with fail
 go_region
 go_wp2_with fail
 refine bodyPost_ret (v := .tuple #[.agg #[.slice none 0 0], .int .i64 2]) (by simp [results, Tryz.results65, go_sem]) rfl ⟨_, rfl, ResC.nil _ _ _, ?_⟩
 exact (HB0.out.alloc (by simp; omega) _).drew
theorem replace_any (l : List Item) (A : Option Addr) (c : Nat) (p : Patch) (k : Nat) (x : Item) (w : World) (hr : RdI w A l) (hl : l.length ≤ 1000000) (hx : l[k]? = some x) :
 Does 65 l A c p k w (replaceF l p k x) := by
 unfold replaceF
 by_cases h1 : 400 < p.item.no.length
 · rw [if_pos (Or.inl h1)]
   exact replace_2 l A c p k x w hr hl hx h1
 · by_cases h2 : 400 < p.item.so.length
   · rw [if_pos (Or.inr h2)]
     exact replace_3 l A c p k x w hr hl hx (by omega) h2
   · rw [if_neg (by omega)]
     exact replace_1 l A c p k x w hr hl hx (by omega) (by omega)
end Go.Proofs.YtecnlfaholmpoaaGreat
set_option maxRecDepth 20000
set_option maxHeartbeats 1000000
namespace Go.Proofs.YtecnlfaholmpoaaGreat
open Go.RowKit
@[go_sem] theorem run_pair0 (a b : Value) (W : World) : (Instr.index 135 (.agg #[a, b]) (.int .i64 0)).run Tryz.prog W = .ok a W := by kernel_rfl
@[go_sem] theorem run_pair1 (a b : Value) (W : World) : (Instr.index 135 (.agg #[a, b]) (.int .i64 1)).run Tryz.prog W = .ok b W := by kernel_rfl
def swap (t fr to : Str) (i : Nat) : Str := t.take i ++ to ++ t.drop (i + fr.length)
theorem swap_bytes (t fr to : Str) (i : Nat) : (⟨t.toArray⟩ : ByteArray).extract 0 i ++ ⟨to.toArray⟩ ++ (⟨t.toArray⟩ : ByteArray).extract (i + fr.length) t.length = ⟨(swap t fr to i).toArray⟩ := by
 apply ByteArray.ext
 simp [ByteArray.data_append, ByteArray.data_extract, swap]
 exact List.take_of_length_le (by simp)
theorem Below.drewN' {B : Nat} {a w : World} (n : Nat) (h : Below B a w) : Below B a (w.drewN n) := ⟨h.os, h.tape, h.output, h.size, h.block⟩

theorem words_a_no (l : List Item) (A : Option Addr) (c : Nat) (p : Patch) (k : Nat) (x : Item) (w : World) (hr : RdI w A l) (hl : l.length ≤ 1000000) (hx : l[k]? = some x) (m : Int) (hg : w.cell? ⟨0, 0, none⟩ = some (.int .i64 m)) (hlang : p.lang - 1 = 0) (htl : x.no.length ≤ 1000000) (htt : p.to.length ≤ 1000000) (hon : onceIs x.no p.fr = false) :
 Does 61 l A c p k w ([], 15) := by
 unfold Does
 have hk : k < l.length := (List.getElem?_eq_some_iff.1 hx).1
 have hb0 := ((Below.refl w.heap.size w).alloc (Nat.le_refl _) (.cells #[.slice A l.length c, .int .i64 p.kind, vs p.id, vs p.par, vs p.aft, vs p.num, .int .i64 p.item.kind, vs p.item.id, vs p.item.par, vs p.item.num, vs p.item.no, vs p.item.so, .bool p.item.gone, .int .i64 p.lang, vs p.fr, vs p.to, .int .i64 k] 94)).alloc (by simp) (.cells #[.slice none 0 0] 24)
 have HR := Lib.hid hr
 obtain ⟨b, o, rfl, hbs, c0, c1, c2, c3, c4, c5, c6⟩ := hr.item hx
 have hbs1 : b < w.heap.size + 1 := by omega
 have hbs2 : b < w.heap.size + 1 + 1 := by omega
 clear hr hx
 have HB0 := Lib.hid hb0; clear hb0
 have h0 : 0 < w.heap.size := World.block_lt_of_cell? w _ hg
 have HG := Lib.hid hg; clear hg
 have HLA := Lib.hid hlang; clear hlang
 have HON := Lib.hid hon; clear hon
 have HO := fun W h => Lib.hid (once_any x.no p.fr m W htl h)
 go_enter Tryz.func61, Tryz.ntmps61
 have hla := HLA.out
 go_wp2_with fail
 go_quiet ((exact (HO _ (by simp [go_sem, HG.out, h0])).out.mono (fun e w' h => ⟨h.1, _, h.2⟩)))
 rw [HON.out]
 go_wp2_with fail
 refine bodyPost_ret (v := .tuple #[.agg #[.slice none 0 0], .int .i64 15]) (by simp [results, Tryz.results61, go_sem]) rfl ⟨_, rfl, ResC.nil _ _ _, ?_⟩
 refine Below.setCell (Below.drewN' _ (HB0.out.alloc (by simp; omega) _)) ?_ _
 simp

theorem words_b_no (l : List Item) (A : Option Addr) (c : Nat) (p : Patch) (k : Nat) (x : Item) (w : World) (hr : RdI w A l) (hl : l.length ≤ 1000000) (hx : l[k]? = some x) (m : Int) (hg : w.cell? ⟨0, 0, none⟩ = some (.int .i64 m)) (hlang : p.lang - 1 = 0) (htl : x.no.length ≤ 1000000) (htt : p.to.length ≤ 1000000) (hon : onceIs x.no p.fr = true) (i : Nat) (hi : onceAt x.no p.fr = i) (hil : i + p.fr.length ≤ x.no.length) (N : Str) (hN : N = swap x.no p.fr p.to i) (hlen : 400 < N.length) :
 Does 61 l A c p k w ([], 2) := by
 unfold Does
 have hk : k < l.length := (List.getElem?_eq_some_iff.1 hx).1
 have hb0 := ((Below.refl w.heap.size w).alloc (Nat.le_refl _) (.cells #[.slice A l.length c, .int .i64 p.kind, vs p.id, vs p.par, vs p.aft, vs p.num, .int .i64 p.item.kind, vs p.item.id, vs p.item.par, vs p.item.num, vs p.item.no, vs p.item.so, .bool p.item.gone, .int .i64 p.lang, vs p.fr, vs p.to, .int .i64 k] 94)).alloc (by simp) (.cells #[.slice none 0 0] 24)
 have HR := Lib.hid hr
 obtain ⟨b, o, rfl, hbs, c0, c1, c2, c3, c4, c5, c6⟩ := hr.item hx
 have hbs1 : b < w.heap.size + 1 := by omega
 have hbs2 : b < w.heap.size + 1 + 1 := by omega
 clear hr hx
 have HB0 := Lib.hid hb0; clear hb0
 have h0 : 0 < w.heap.size := World.block_lt_of_cell? w _ hg
 have HG := Lib.hid hg; clear hg
 have HLA := Lib.hid hlang; clear hlang
 have HON := Lib.hid hon; clear hon
 have HII := Lib.hid hi; clear hi
 have HN := Lib.hid hN; clear hN
 have HO := fun W h => Lib.hid (once_any x.no p.fr m W htl h)
 go_enter Tryz.func61, Tryz.ntmps61
 have hla := HLA.out
 go_wp2_with fail
 go_quiet ((exact (HO _ (by simp [go_sem, HG.out, h0])).out.mono (fun e w' h => ⟨h.1, _, h.2⟩)))
 have hd : decide ((400 : Int) < N.length) = true := by simp; omega
 rw [HON.out, HII.out]
 have hi0 : (0 : Int) ≤ i := by omega
 have hi1 : (i : Int) ≤ x.no.length := by omega
 have hi2 : (i : Int) + p.fr.length ≤ x.no.length := by omega
 have hi3 : (0 : Int) ≤ (i : Int) + p.fr.length := by omega
 have hi4 : (x.no.length : Int) ≤ 1000000 := by omega
 go_wp2_with fail
 go_region
 rw [swap_bytes, ← HN.out]
 go_wp2_with fail
 refine bodyPost_ret (v := .tuple #[.agg #[.slice none 0 0], .int .i64 2]) (by simp [results, Tryz.results61, go_sem]) rfl ⟨_, rfl, ResC.nil _ _ _, ?_⟩
 refine Below.setCell (Below.setCell (Below.drewN' _ (HB0.out.alloc (by simp; omega) _)) ?_ _) ?_ _
 · simp; omega
 · simp

theorem words_c_no (l : List Item) (A : Option Addr) (c : Nat) (p : Patch) (k : Nat) (x : Item) (w : World) (hr : RdI w A l) (hl : l.length ≤ 1000000) (hx : l[k]? = some x) (m : Int) (hg : w.cell? ⟨0, 0, none⟩ = some (.int .i64 m)) (hlang : p.lang - 1 = 0) (htl : x.no.length ≤ 1000000) (htt : p.to.length ≤ 1000000) (hon : onceIs x.no p.fr = true) (i : Nat) (hi : onceAt x.no p.fr = i) (hil : i + p.fr.length ≤ x.no.length) (N : Str) (hN : N = swap x.no p.fr p.to i) (hlen : N.length ≤ 400) :
 Does 61 l A c p k w (l.set k { x with no := N }, 0) := by
 unfold Does
 have hk : k < l.length := (List.getElem?_eq_some_iff.1 hx).1
 have hb0 := ((Below.refl w.heap.size w).alloc (Nat.le_refl _) (.cells #[.slice A l.length c, .int .i64 p.kind, vs p.id, vs p.par, vs p.aft, vs p.num, .int .i64 p.item.kind, vs p.item.id, vs p.item.par, vs p.item.num, vs p.item.no, vs p.item.so, .bool p.item.gone, .int .i64 p.lang, vs p.fr, vs p.to, .int .i64 k] 94)).alloc (by simp) (.cells #[.slice none 0 0] 24)
 have HR := Lib.hid hr
 obtain ⟨b, o, rfl, hbs, c0, c1, c2, c3, c4, c5, c6⟩ := hr.item hx
 have hbs1 : b < w.heap.size + 1 := by omega
 have hbs2 : b < w.heap.size + 1 + 1 := by omega
 clear hr hx
 have HB0 := Lib.hid hb0; clear hb0
 have h0 : 0 < w.heap.size := World.block_lt_of_cell? w _ hg
 have HG := Lib.hid hg; clear hg
 have HLA := Lib.hid hlang; clear hlang
 have HON := Lib.hid hon; clear hon
 have HII := Lib.hid hi; clear hi
 have HN := Lib.hid hN; clear hN
 have HO := fun W h => Lib.hid (once_any x.no p.fr m W htl h)
 go_enter Tryz.func61, Tryz.ntmps61
 have hla := HLA.out
 go_wp2_with fail
 go_quiet ((exact (HO _ (by simp [go_sem, HG.out, h0])).out.mono (fun e w' h => ⟨h.1, _, h.2⟩)))
 have hd : decide ((400 : Int) < N.length) = false := by simp; omega
 rw [HON.out, HII.out]
 have hi0 : (0 : Int) ≤ i := by omega
 have hi1 : (i : Int) ≤ x.no.length := by omega
 have hi2 : (i : Int) + p.fr.length ≤ x.no.length := by omega
 have hi3 : (0 : Int) ≤ (i : Int) + p.fr.length := by omega
 have hi4 : (x.no.length : Int) ≤ 1000000 := by omega
 go_wp2_with fail
 go_region
 rw [swap_bytes, ← HN.out]
 go_wp2_with fail
 refine (with_any l _ c p k { x with no := N } _ ((HR.out.below HB0.out).below (Below.setCell (p := ⟨w.heap.size + 1 + 1, 4, none⟩) (Below.drewN' _ ((Below.refl _ _).alloc (Nat.le_refl _) _)) (by simp) _)) hl hk).mono ?_
 rintro e w2 ⟨v, rfl, ⟨A', c', rfl, hr2, hlc', hA'⟩, hb2⟩
 obtain ⟨hc, hf⟩ := bcell hb2
 have HB2 := Lib.hid hb2; clear hb2
 go_wp2_with fail
 refine bodyPost_ret (v := .tuple #[.agg #[.slice A' (l.set k { x with no := N }).length c'], .int .i64 0]) (by simp [results, Tryz.results61, go_sem, hc, hf]) rfl ⟨_, rfl, ⟨A', c', rfl, Sl.keep hr2 (by simp) (fun b o hA _ => Below.heap_setCell _ _ _ _ ?_), hlc', fun b o hA => ?_⟩, ?_⟩
 · have h1 := hA' b o hA
   simp at h1 ⊢
   omega
 · have h1 := hA' b o hA
   simp at h1
   omega
 · refine Below.setCell ((Below.setCell (p := ⟨w.heap.size + 1 + 1, 4, none⟩) (Below.drewN' _ (HB0.out.alloc (by simp; omega) _)) (by simp; omega) _).trans (HB2.out.mono (by simp; omega))) ?_ _
   simp

theorem words_a_so (l : List Item) (A : Option Addr) (c : Nat) (p : Patch) (k : Nat) (x : Item) (w : World) (hr : RdI w A l) (hl : l.length ≤ 1000000) (hx : l[k]? = some x) (m : Int) (hg : w.cell? ⟨0, 0, none⟩ = some (.int .i64 m)) (hlang : p.lang - 1 = 1) (htl : x.so.length ≤ 1000000) (htt : p.to.length ≤ 1000000) (hon : onceIs x.so p.fr = false) :
 Does 61 l A c p k w ([], 15) := by
 unfold Does
 have hk : k < l.length := (List.getElem?_eq_some_iff.1 hx).1
 have hb0 := ((Below.refl w.heap.size w).alloc (Nat.le_refl _) (.cells #[.slice A l.length c, .int .i64 p.kind, vs p.id, vs p.par, vs p.aft, vs p.num, .int .i64 p.item.kind, vs p.item.id, vs p.item.par, vs p.item.num, vs p.item.no, vs p.item.so, .bool p.item.gone, .int .i64 p.lang, vs p.fr, vs p.to, .int .i64 k] 94)).alloc (by simp) (.cells #[.slice none 0 0] 24)
 have HR := Lib.hid hr
 obtain ⟨b, o, rfl, hbs, c0, c1, c2, c3, c4, c5, c6⟩ := hr.item hx
 have hbs1 : b < w.heap.size + 1 := by omega
 have hbs2 : b < w.heap.size + 1 + 1 := by omega
 clear hr hx
 have HB0 := Lib.hid hb0; clear hb0
 have h0 : 0 < w.heap.size := World.block_lt_of_cell? w _ hg
 have HG := Lib.hid hg; clear hg
 have HLA := Lib.hid hlang; clear hlang
 have HON := Lib.hid hon; clear hon
 have HO := fun W h => Lib.hid (once_any x.so p.fr m W htl h)
 go_enter Tryz.func61, Tryz.ntmps61
 have hla := HLA.out
 go_wp2_with fail
 go_quiet ((exact (HO _ (by simp [go_sem, HG.out, h0])).out.mono (fun e w' h => ⟨h.1, _, h.2⟩)))
 rw [HON.out]
 go_wp2_with fail
 refine bodyPost_ret (v := .tuple #[.agg #[.slice none 0 0], .int .i64 15]) (by simp [results, Tryz.results61, go_sem]) rfl ⟨_, rfl, ResC.nil _ _ _, ?_⟩
 refine Below.setCell (Below.drewN' _ (HB0.out.alloc (by simp; omega) _)) ?_ _
 simp

theorem words_b_so (l : List Item) (A : Option Addr) (c : Nat) (p : Patch) (k : Nat) (x : Item) (w : World) (hr : RdI w A l) (hl : l.length ≤ 1000000) (hx : l[k]? = some x) (m : Int) (hg : w.cell? ⟨0, 0, none⟩ = some (.int .i64 m)) (hlang : p.lang - 1 = 1) (htl : x.so.length ≤ 1000000) (htt : p.to.length ≤ 1000000) (hon : onceIs x.so p.fr = true) (i : Nat) (hi : onceAt x.so p.fr = i) (hil : i + p.fr.length ≤ x.so.length) (N : Str) (hN : N = swap x.so p.fr p.to i) (hlen : 400 < N.length) :
 Does 61 l A c p k w ([], 2) := by
 unfold Does
 have hk : k < l.length := (List.getElem?_eq_some_iff.1 hx).1
 have hb0 := ((Below.refl w.heap.size w).alloc (Nat.le_refl _) (.cells #[.slice A l.length c, .int .i64 p.kind, vs p.id, vs p.par, vs p.aft, vs p.num, .int .i64 p.item.kind, vs p.item.id, vs p.item.par, vs p.item.num, vs p.item.no, vs p.item.so, .bool p.item.gone, .int .i64 p.lang, vs p.fr, vs p.to, .int .i64 k] 94)).alloc (by simp) (.cells #[.slice none 0 0] 24)
 have HR := Lib.hid hr
 obtain ⟨b, o, rfl, hbs, c0, c1, c2, c3, c4, c5, c6⟩ := hr.item hx
 have hbs1 : b < w.heap.size + 1 := by omega
 have hbs2 : b < w.heap.size + 1 + 1 := by omega
 clear hr hx
 have HB0 := Lib.hid hb0; clear hb0
 have h0 : 0 < w.heap.size := World.block_lt_of_cell? w _ hg
 have HG := Lib.hid hg; clear hg
 have HLA := Lib.hid hlang; clear hlang
 have HON := Lib.hid hon; clear hon
 have HII := Lib.hid hi; clear hi
 have HN := Lib.hid hN; clear hN
 have HO := fun W h => Lib.hid (once_any x.so p.fr m W htl h)
 go_enter Tryz.func61, Tryz.ntmps61
 have hla := HLA.out
 go_wp2_with fail
 go_quiet ((exact (HO _ (by simp [go_sem, HG.out, h0])).out.mono (fun e w' h => ⟨h.1, _, h.2⟩)))
 have hd : decide ((400 : Int) < N.length) = true := by simp; omega
 rw [HON.out, HII.out]
 have hi0 : (0 : Int) ≤ i := by omega
 have hi1 : (i : Int) ≤ x.so.length := by omega
 have hi2 : (i : Int) + p.fr.length ≤ x.so.length := by omega
 have hi3 : (0 : Int) ≤ (i : Int) + p.fr.length := by omega
 have hi4 : (x.so.length : Int) ≤ 1000000 := by omega
 go_wp2_with fail
 go_region
 rw [swap_bytes, ← HN.out]
 go_wp2_with fail
 refine bodyPost_ret (v := .tuple #[.agg #[.slice none 0 0], .int .i64 2]) (by simp [results, Tryz.results61, go_sem]) rfl ⟨_, rfl, ResC.nil _ _ _, ?_⟩
 refine Below.setCell (Below.setCell (Below.drewN' _ (HB0.out.alloc (by simp; omega) _)) ?_ _) ?_ _
 · simp; omega
 · simp

theorem words_c_so (l : List Item) (A : Option Addr) (c : Nat) (p : Patch) (k : Nat) (x : Item) (w : World) (hr : RdI w A l) (hl : l.length ≤ 1000000) (hx : l[k]? = some x) (m : Int) (hg : w.cell? ⟨0, 0, none⟩ = some (.int .i64 m)) (hlang : p.lang - 1 = 1) (htl : x.so.length ≤ 1000000) (htt : p.to.length ≤ 1000000) (hon : onceIs x.so p.fr = true) (i : Nat) (hi : onceAt x.so p.fr = i) (hil : i + p.fr.length ≤ x.so.length) (N : Str) (hN : N = swap x.so p.fr p.to i) (hlen : N.length ≤ 400) :
 Does 61 l A c p k w (l.set k { x with so := N }, 0) := by
 unfold Does
 have hk : k < l.length := (List.getElem?_eq_some_iff.1 hx).1
 have hb0 := ((Below.refl w.heap.size w).alloc (Nat.le_refl _) (.cells #[.slice A l.length c, .int .i64 p.kind, vs p.id, vs p.par, vs p.aft, vs p.num, .int .i64 p.item.kind, vs p.item.id, vs p.item.par, vs p.item.num, vs p.item.no, vs p.item.so, .bool p.item.gone, .int .i64 p.lang, vs p.fr, vs p.to, .int .i64 k] 94)).alloc (by simp) (.cells #[.slice none 0 0] 24)
 have HR := Lib.hid hr
 obtain ⟨b, o, rfl, hbs, c0, c1, c2, c3, c4, c5, c6⟩ := hr.item hx
 have hbs1 : b < w.heap.size + 1 := by omega
 have hbs2 : b < w.heap.size + 1 + 1 := by omega
 clear hr hx
 have HB0 := Lib.hid hb0; clear hb0
 have h0 : 0 < w.heap.size := World.block_lt_of_cell? w _ hg
 have HG := Lib.hid hg; clear hg
 have HLA := Lib.hid hlang; clear hlang
 have HON := Lib.hid hon; clear hon
 have HII := Lib.hid hi; clear hi
 have HN := Lib.hid hN; clear hN
 have HO := fun W h => Lib.hid (once_any x.so p.fr m W htl h)
 go_enter Tryz.func61, Tryz.ntmps61
 have hla := HLA.out
 go_wp2_with fail
 go_quiet ((exact (HO _ (by simp [go_sem, HG.out, h0])).out.mono (fun e w' h => ⟨h.1, _, h.2⟩)))
 have hd : decide ((400 : Int) < N.length) = false := by simp; omega
 rw [HON.out, HII.out]
 have hi0 : (0 : Int) ≤ i := by omega
 have hi1 : (i : Int) ≤ x.so.length := by omega
 have hi2 : (i : Int) + p.fr.length ≤ x.so.length := by omega
 have hi3 : (0 : Int) ≤ (i : Int) + p.fr.length := by omega
 have hi4 : (x.so.length : Int) ≤ 1000000 := by omega
 go_wp2_with fail
 go_region
 rw [swap_bytes, ← HN.out]
 go_wp2_with fail
 refine (with_any l _ c p k { x with so := N } _ ((HR.out.below HB0.out).below (Below.setCell (p := ⟨w.heap.size + 1 + 1, 5, none⟩) (Below.drewN' _ ((Below.refl _ _).alloc (Nat.le_refl _) _)) (by simp) _)) hl hk).mono ?_
 rintro e w2 ⟨v, rfl, ⟨A', c', rfl, hr2, hlc', hA'⟩, hb2⟩
 obtain ⟨hc, hf⟩ := bcell hb2
 have HB2 := Lib.hid hb2; clear hb2
 go_wp2_with fail
 refine bodyPost_ret (v := .tuple #[.agg #[.slice A' (l.set k { x with so := N }).length c'], .int .i64 0]) (by simp [results, Tryz.results61, go_sem, hc, hf]) rfl ⟨_, rfl, ⟨A', c', rfl, Sl.keep hr2 (by simp) (fun b o hA _ => Below.heap_setCell _ _ _ _ ?_), hlc', fun b o hA => ?_⟩, ?_⟩
 · have h1 := hA' b o hA
   simp at h1 ⊢
   omega
 · have h1 := hA' b o hA
   simp at h1
   omega
 · refine Below.setCell ((Below.setCell (p := ⟨w.heap.size + 1 + 1, 5, none⟩) (Below.drewN' _ (HB0.out.alloc (by simp; omega) _)) (by simp; omega) _).trans (HB2.out.mono (by simp; omega))) ?_ _
   simp
end Go.Proofs.YtecnlfaholmpoaaGreat
