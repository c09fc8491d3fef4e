/- The laws' helpers Few, Light. The laws' helper Light. What one walk hands to the next: a box, a cell, a row of strings. -/
import Derived.Test.YtecnlfaholmpoaaGreatJC10
set_option linter.unusedVariables false
set_option linter.unusedSimpArgs false
set_option maxRecDepth 20000
set_option maxHeartbeats 1000000
namespace Go.Proofs.YtecnlfaholmpoaaGreat
open Go.RowKit
/- the lengths of a patch's strings are those of strings that came in -/
structure Item.Fits (x : Item) : Prop where
 id : x.id.length ≤ 140737488355328
 par : x.par.length ≤ 140737488355328
 num : x.num.length ≤ 140737488355328
 no : x.no.length ≤ 140737488355328
 so : x.so.length ≤ 140737488355328
structure Patch.Fits (p : Patch) : Prop where
 id : p.id.length ≤ 140737488355328
 par : p.par.length ≤ 140737488355328
 aft : p.aft.length ≤ 140737488355328
 num : p.num.length ≤ 140737488355328
 item : p.item.Fits
 fr : p.fr.length ≤ 140737488355328
 to : p.to.length ≤ 140737488355328
def few1 (p : Patch) : Bool := decide ((p.id.length : Int) + p.par.length + p.aft.length + p.num.length ≤ 1000)
def few2 (p : Patch) : Bool := decide ((p.fr.length : Int) + p.to.length ≤ 1000)
def few3 (x : Item) : Bool := decide ((x.id.length : Int) + x.par.length + x.num.length + x.no.length + x.so.length ≤ 2000)
def fewB (p : Patch) : Bool := few1 p && few2 p && few3 p.item
theorem few_any (p : Patch) (w : World) (hf : p.Fits) :
 Calls Tryz.prog 97 #[p.agg] w fun e w' => e = .returned (.bool (fewB p)) ∧ Below w.heap.size w w' := by
 obtain ⟨l1, l2, l3, l4, ⟨l5, l6, l7, l8, l9⟩, l10, l11⟩ := hf
 cases h1 : few1 p <;> cases h2 : few2 p <;> cases h3 : few3 p.item
 all_goals
  have H := Lib.hid (show fewB p = _ by unfold fewB; rw [h1, h2, h3])
  unfold few1 at h1
  unfold few2 at h2
  unfold few3 at h3
  go_enter Tryz.func97, Tryz.ntmps97
  go_wp2_with fail
  go_ret
  exact ⟨ret_bool (by rw [H.out]; rfl), ((Below.refl _ _).alloc (Nat.le_refl _) _).alloc (by simp) _⟩
end Go.Proofs.YtecnlfaholmpoaaGreat
set_option maxRecDepth 20000
set_option maxHeartbeats 2000000
namespace Go.Proofs.YtecnlfaholmpoaaGreat
open Go.RowKit
abbrev Patch.cells (p : Patch) : List Value := [.int .i64 p.kind, vs p.id, vs p.par, vs p.aft, vs p.num, .int .i64 p.item.kind, vs p.item.id, vs p.item.par, vs p.item.num, vs p.item.no, vs p.item.so, .bool p.item.gone, .int .i64 p.lang, vs p.fr, vs p.to]
def RdP (w : World) (A : Option Addr) (l : List Patch) : Prop := Sl Patch.cells 15 w A l
theorem RdP.below {w w' : World} {A : Option Addr} {l : List Patch} (h : RdP w A l) (hb : Below w.heap.size w w') : RdP w' A l := Sl.below h hb
theorem cells_of_cell {w : World} {b o : Nat} {v : Value} (h : w.cell? ⟨b, o, none⟩ = some v) : ∃ C t fr, w.heap[b]? = some (.cells C t fr) ∧ C[o]? = some v := by
 unfold World.cell? at h
 simp only [] at h
 cases hh : w.heap[b]? with
 | none => rw [hh] at h; simp at h
 | some x =>
   rw [hh] at h
   cases x with
   | cells C t fr => exact ⟨C, t, fr, rfl, by simpa using h⟩
   | _ => simp at h
theorem RdP.row {w : World} {A : Option Addr} {l : List Patch} (h : RdP w A l) {k : Nat} {p : Patch} (hp : l[k]? = some p) :
 ∃ b o C t fr, A = some ⟨b, o, none⟩ ∧ b < w.heap.size ∧ w.blk b = some (.cells C t fr) ∧ o + k * 15 + 15 ≤ C.size ∧ C.extract (o + k * 15) (o + k * 15 + 15) = p.cells.toArray := by
 obtain ⟨b, o, hA, hlt, hc⟩ := h (by rintro rfl; simp at hp)
 have hc := hc k p hp
 obtain ⟨C, t, fr, hh, h0⟩ := cells_of_cell (hc 0 _ rfl)
 have hcell : ∀ j v, p.cells[j]? = some v → C[o + k * 15 + j]? = some v := by
  intro j v hv
  obtain ⟨C', t', fr', hh', h'⟩ := cells_of_cell (hc j v hv)
  rw [hh] at hh'
  cases hh'
  exact h'
 have h14 := hcell 14 _ rfl
 have hsz : o + k * 15 + 15 ≤ C.size := by
  have := (Array.getElem?_eq_some_iff.1 h14).1
  omega
 refine ⟨b, o, C, t, fr, hA, hlt, hh, hsz, ?_⟩
 apply Array.ext_getElem?
 intro j
 rw [Array.getElem?_extract]
 split
 · rename_i hj
   have hj' : j < 15 := by omega
   obtain ⟨v, hv⟩ : ∃ v, p.cells[j]? = some v := get_of_lt (by simpa using hj')
   rw [hcell j v hv, List.getElem?_toArray, hv]
 · rename_i hj
   rw [List.getElem?_toArray, List.getElem?_eq_none (by simp; omega)]
def light1 (x : Item) : Bool := decide ((300 : Int) < (x.id.length : Int) + x.par.length + x.num.length)
def light2 (x : Item) : Bool := decide ((500 : Int) < (x.no.length : Int))
def light3 (x : Item) : Bool := decide ((500 : Int) < (x.so.length : Int))
def heavyI (x : Item) : Bool := light1 x || (light2 x || light3 x)
def lightB (l : List Item) (ps : List Patch) : Bool := l.all (fun x => !heavyI x) && (ps.all fewB && (decide (l.length ≤ 30) && decide (ps.length ≤ 12)))
theorem all_fail {α : Type} {l : List α} {f : α → Bool} {k : Nat} {x : α} (h : l[k]? = some x) (hf : f x = false) : l.all f = false := by
 rw [List.all_eq_false]
 exact ⟨x, List.mem_of_getElem? h, by simp [hf]⟩
theorem all_done {α : Type} {l : List α} {f : α → Bool} (h : ∀ (j : Nat) x, l[j]? = some x → j < l.length → f x = true) : l.all f = true := by
 rw [List.all_eq_true]
 intro x hx
 obtain ⟨j, hj⟩ := List.mem_iff_getElem?.1 hx
 exact h j x hj (List.getElem?_eq_some_iff.1 hj).1
theorem all_succ {α : Type} {l : List α} {f : α → Bool} {k : Nat} {x : α} (hx : l[k]? = some x) (hp : f x = true) (hno : ∀ (j : Nat) y, l[j]? = some y → j < k → f y = true) : ∀ (j : Nat) y, l[j]? = some y → j < k + 1 → f y = true := by
 intro j y hy hj
 rcases Nat.lt_succ_iff_lt_or_eq.1 hj with h | rfl
 · exact hno j y hy h
 · rw [hx] at hy; cases hy; exact hp
theorem light_any (l : List Item) (ps : List Patch) (A B : Option Addr) (c d : Nat) (w : World) (hr : RdI w A l) (hs : RdP w B ps) (hl : l.length ≤ maxLen) (hm : ps.length ≤ maxLen) (hfit : ∀ x ∈ l, x.Fits) (hfp : ∀ p ∈ ps, p.Fits) :
 Calls Tryz.prog 54 #[.agg #[.slice A l.length c], .slice B ps.length d] w fun e w' => e = .returned (.bool (lightB l ps)) ∧ Below w.heap.size w w' := by
 unfold maxLen at hl hm
 have HR := Lib.hid hr; clear hr
 have HS := Lib.hid hs; clear hs
 have HFI := Lib.hid hfit; clear hfit
 have HFP := Lib.hid hfp; clear hfp
 have hb0 := (Below.refl w.heap.size w).alloc (Nat.le_refl _) (.cells #[.slice A l.length c] 24)
 have HB0 := Lib.hid hb0; clear hb0
 go_enter Tryz.func54, Tryz.ntmps54
 go_wp2_with fail
 go_loopw [5] (fun i wr => ∃ k : Nat, k ≤ l.length ∧ i = .int .i64 k ∧ Below (w.alloc (.cells #[.slice A l.length c] 24)).heap.size (w.alloc (.cells #[.slice A l.length c] 24)) wr ∧ ∀ (j : Nat) x, l[j]? = some x → j < k → (!heavyI x) = true) (fun i _ => l.length - (intOf i).toNat)
 case atStart => exact ⟨0, Nat.zero_le _, rfl, Below.refl _ _, fun _ _ _ h => absurd h (by omega)⟩
 case round =>
  obtain ⟨k, hk, rfl, hb, hno⟩ := hrel
  have hsz := hb.size
  simp at hsz
  have z1 : w.heap.size < wr.heap.size := by omega
  have Hno := Lib.hid hno; clear hno
  obtain ⟨hc, hf⟩ := bcell hb
  by_cases hlt : k < l.length
  · obtain ⟨x, hx⟩ := get_of_lt hlt
    have hi1 : (k : Int) < l.length := by omega
    have hi0 : (0 : Int) ≤ k := by omega
    obtain ⟨b1, o1, rfl, hbs1, c0, c1, c2, c3, c4, c5, c6⟩ := ((HR.out.below HB0.out).below hb).item hx
    obtain ⟨l1, l2, l3, l4, l5⟩ := HFI.out x (List.mem_of_getElem? hx)
    have HX := Lib.hid hx; clear hx
    have HB := Lib.hid hb; clear hb
    cases h1 : light1 x <;> cases h2 : light2 x <;> cases h3 : light3 x
    all_goals
     have H := Lib.hid (show heavyI x = _ by unfold heavyI; rw [h1, h2, h3])
     unfold light1 at h1
     unfold light2 at h2
     unfold light3 at h3
     go_wp2_with fail
    · exact ⟨⟨k + 1, by omega, by go_num, HB.out.alloc (by simp; omega) _, all_succ HX.out (by rw [H.out]; rfl) Hno.out⟩, by simp [intOf]; omega⟩
    all_goals
     go_ret
     exact ⟨ret_bool (by unfold lightB; rw [all_fail HX.out (by rw [H.out]; rfl)]; rfl), HB0.out.trans ((HB.out.alloc (by simp; omega) _).mono HB0.out.size)⟩
  · have : k = l.length := by omega
    subst this
    have HB := Lib.hid hb; clear hb
    have HALL := Lib.hid (all_done Hno.out)
    clear Hno
    go_wp2_with fail
    clear hc hf hsz z1
    go_loopw [7] (fun i wq => ∃ k : Nat, k ≤ ps.length ∧ i = .int .i64 k ∧ Below (w.alloc (.cells #[.slice A l.length c] 24)).heap.size (w.alloc (.cells #[.slice A l.length c] 24)) wq ∧ ∀ (j : Nat) x, ps[j]? = some x → j < k → fewB x = true) (fun i _ => ps.length - (intOf i).toNat)
    case atStart => exact ⟨0, Nat.zero_le _, rfl, HB.out, fun _ _ _ h => absurd h (by omega)⟩
    case round =>
     obtain ⟨k, hk, rfl, hb, hno⟩ := hrel
     have hsz := hb.size
     simp at hsz
     have z2 : w.heap.size < wr.heap.size := by omega
     have Hno := Lib.hid hno; clear hno
     by_cases hlt : k < ps.length
     · obtain ⟨p, hp⟩ := get_of_lt hlt
       have hi1 : (k : Int) < ps.length := by omega
       have hi0 : (0 : Int) ≤ k := by omega
       obtain ⟨b2, o2, C, t, fr, rfl, hbs2, hblk, hC, hex⟩ := ((HS.out.below HB0.out).below hb).row hp
       have HP := Lib.hid hp; clear hp
       have HW := Lib.hid hb; clear hb
       have HFE := Lib.hid (few_any p wr (HFP.out p (List.mem_of_getElem? HP.out)))
       cases h1 : fewB p with
       | true =>
         have H1 := Lib.hid h1; clear h1
         go_wp2_with fail
         refine HFE.out.mono ?_
         rintro e w3 ⟨rfl, hb3⟩
         rw [H1.out]
         have HB3 := Lib.hid hb3; clear hb3
         go_wp2_with fail
         exact ⟨⟨k + 1, by omega, by go_num, HW.out.trans (HB3.out.mono HW.out.size), all_succ HP.out H1.out Hno.out⟩, by simp [intOf]; omega⟩
       | false =>
         have H1 := Lib.hid h1; clear h1
         go_wp2_with fail
         refine HFE.out.mono ?_
         rintro e w3 ⟨rfl, hb3⟩
         rw [H1.out]
         have HB3 := Lib.hid hb3; clear hb3
         go_wp2_with fail
         go_ret
         exact ⟨ret_bool (by unfold lightB; rw [HALL.out, all_fail HP.out H1.out]; rfl), HB0.out.trans ((HW.out.trans (HB3.out.mono HW.out.size)).mono HB0.out.size)⟩
     · have : k = ps.length := by omega
       subst this
       have HALL2 := Lib.hid (all_done Hno.out)
       clear Hno
       obtain ⟨hc, hf⟩ := bcell hb
       have HW := Lib.hid hb; clear hb
       cases h1 : decide ((l.length : Int) ≤ 30) <;> cases h2 : decide ((ps.length : Int) ≤ 12)
       all_goals
        have H := Lib.hid (show lightB l ps = (decide ((l.length : Int) ≤ 30) && decide ((ps.length : Int) ≤ 12)) by
         unfold lightB
         rw [HALL.out, HALL2.out]
         simp only [Bool.true_and]
         congr 1 <;> simp <;> omega)
        have H1 := Lib.hid h1
        have H2 := Lib.hid h2
        go_wp2_with fail
        go_ret
        exact ⟨ret_bool (by rw [H.out, H1.out, H2.out]; rfl), HB0.out.trans (HW.out.mono HB0.out.size)⟩
end Go.Proofs.YtecnlfaholmpoaaGreat
namespace Go.Proofs.YtecnlfaholmpoaaGreat
open Go.RowKit
theorem RdS.lit (w : World) (l : List Str) (C : Array Value) (hC : C = (l.map vs).toArray) : RdS (w.alloc (.cells C 9)) (some ⟨w.heap.size, 0, none⟩) l := by
 subst hC
 intro _
 refine ⟨w.heap.size, 0, rfl, by simp, fun k x hx j v hv => ?_⟩
 cases j with
 | succ j => simp at hv
 | zero =>
   simp at hv
   subst hv
   rw [cell_of_row _ _ _ _ _ _ (heap_alloc_new w _)]
   simp [hx]
theorem step_below {wp wn : World} {o : Obj} (hb : Below (wp.alloc o).heap.size (wp.alloc o) wn) : Below wp.heap.size wp wn := ((Below.refl _ _).alloc (Nat.le_refl _) _).trans (hb.mono (by simp))
theorem step_box {wp wn : World} {v : Value} {t : TypeId} (hb : Below (wp.alloc (.cells #[v] t)).heap.size (wp.alloc (.cells #[v] t)) wn) : wn.cell? ⟨wp.heap.size, 0, none⟩ = some v :=
 (hb.cell (p := ⟨wp.heap.size, 0, none⟩) (by simp)).trans (by simp [go_sem])
theorem step_cell {wp wn : World} {b : Nat} {v : Value} (hb : Below wp.heap.size wp wn) (h : wp.cell? ⟨b, 0, none⟩ = some v) : wn.cell? ⟨b, 0, none⟩ = some v := (hb.cell (p := ⟨b, 0, none⟩) (World.block_lt_of_cell? _ _ h)).trans h
end Go.Proofs.YtecnlfaholmpoaaGreat
