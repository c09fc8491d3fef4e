/- patch.All. -/
import Derived.Test.YtfolcjkednmkoaaGreatCommon
set_option linter.unusedVariables false
set_option linter.unusedSimpArgs false
set_option maxRecDepth 20000
set_option maxHeartbeats 2000000
namespace Go.Proofs.YtfolcjkednmkoaaGreat
open Go.RowKit
def allR (l : List Item) (ps : List Patch) : List Item × Int × Int := if walkB l then allF l ps 0 else ([], -1, 1)
structure Patch.Ready (p : Patch) : Prop where
 item : p.item.Short
 num : p.num.length ≤ maxLen
 tlen : p.to.length ≤ 1000000
def Alls (l : List Item) (ps : List Patch) (A B : Option Addr) (c d : Nat) (w : World) : Prop :=
 Calls Tryz.prog 17 #[.agg #[.slice A l.length c], .slice B ps.length d] w fun e w' => ∃ v, e = .returned (.tuple #[v, .int .i64 (allR l ps).2.1, .int .i64 (allR l ps).2.2]) ∧ ResC w.heap.size w' v (allR l ps).1 ∧ Below w.heap.size w w'
theorem all_f (l : List Item) (ps : List Patch) (A B : Option Addr) (c d : Nat) (w : World) (hr : RdI w A l) (hl : l.length ≤ 100000) (hsh : ∀ x ∈ l, x.Short) (hv : walkB l = false) : Alls l ps A B c d w := by
 unfold Alls
 have hE : allR l ps = ([], -1, 1) := by unfold allR; rw [hv]; rfl
 have HE := Lib.hid hE; clear hE
 have HV := fun W h => Lib.hid (valid_any l A c W h (by omega) hsh)
 have HR := Lib.hid hr; clear hr
 have Hv := Lib.hid hv; clear hv
 have hb0 := ((Below.refl w.heap.size w).alloc (Nat.le_refl _) (.cells #[.slice A l.length c] 24)).alloc (by simp) (.cells #[.slice none 0 0] 24)
 have HB0 := Lib.hid hb0; clear hb0
 go_enter Tryz.func17, Tryz.ntmps17
 go_wp2_with fail
 refine (HV _ (HR.out.below HB0.out)).out.mono ?_
 rintro e w1 ⟨rfl, hb1⟩
 rw [Hv.out]
 obtain ⟨hc, hf⟩ := bcell hb1
 have HB1 := Lib.hid hb1; clear hb1
 go_wp2_with fail
 refine bodyPost_ret (v := .tuple #[.agg #[.slice none 0 0], .int .i64 (-1), .int .i64 1]) (by simp [results, Tryz.results17, go_sem, hc, hf]) rfl ⟨_, by rw [HE.out], by rw [HE.out]; exact ResC.nil _ _ _, ?_⟩
 exact Below.setCell (p := ⟨w.heap.size + 1, 0, none⟩) (HB0.out.trans (HB1.out.mono HB0.out.size)) (show w.heap.size ≤ w.heap.size + 1 by omega) _
theorem all_take {l r : List Item} {ps : List Patch} {k : Nat} {p : Patch} (h : allF l (ps.take k) 0 = (r, -1, 0)) (hp : ps[k]? = some p) :
 ((applyF r p).2 = 0 → allF l (ps.take (k + 1)) 0 = ((applyF r p).1, -1, 0)) ∧ ((applyF r p).2 ≠ 0 → allF l ps 0 = ([], (k : Int), (applyF r p).2)) := by
 obtain ⟨hk, rfl⟩ := List.getElem?_eq_some_iff.1 hp
 constructor
 · intro h0
   rw [List.take_succ_eq_append_getElem hk, all_append, h]
   simp only [if_pos]
   rw [allF, if_pos h0]
   rfl
 · intro h0
   have e : ps = ps.take k ++ ps[k] :: ps.drop (k + 1) := by rw [← List.drop_eq_getElem_cons hk, List.take_append_drop]
   have hlen : (ps.take k).length = k := by simp; omega
   generalize ps[k] = q at *
   have e2 : allF l ps 0 = allF l (ps.take k ++ q :: ps.drop (k + 1)) 0 := by rw [← e]
   rw [e2, all_append, h]
   simp only [if_pos]
   rw [allF, if_neg h0, hlen, Nat.zero_add]
theorem all_t (l : List Item) (ps : List Patch) (A B : Option Addr) (c d : Nat) (w : World) (hr : RdI w A l) (hs : RdP w B ps) (hl : l.length ≤ 100000) (hlc : l.length ≤ c) (hps : ps.length ≤ 1000000) (hrd : ∀ p ∈ ps, p.Ready) (m : Int) (hg : w.cell? ⟨0, 0, none⟩ = some (.int .i64 m))
 (hv : walkB l = true) : Alls l ps A B c d w := by
 unfold Alls
 have hE : allR l ps = allF l ps 0 := by unfold allR; rw [hv]; rfl
 have HE := Lib.hid hE; clear hE
 have HV := fun W h => Lib.hid (valid_any l A c W h (by omega) (short_of_good hv))
 have HR := Lib.hid hr; clear hr
 have HS := Lib.hid hs; clear hs
 have Hv := Lib.hid hv; clear hv
 have HG := Lib.hid hg; clear hg
 have HRD := Lib.hid hrd; clear hrd
 have hb0 := ((Below.refl w.heap.size w).alloc (Nat.le_refl _) (.cells #[.slice A l.length c] 24)).alloc (by simp) (.cells #[.slice none 0 0] 24)
 have HB0 := Lib.hid hb0; clear hb0
 go_enter Tryz.func17, Tryz.ntmps17
 go_wp2_with fail
 refine (HV _ (HR.out.below HB0.out)).out.mono ?_
 rintro e w1 ⟨rfl, hb1⟩
 rw [Hv.out]
 have HB1 := Lib.hid hb1; clear hb1
 go_wp2_with fail
 go_loopw [17] (fun i wr => ∃ (k : Nat) (r : List Item) (A' : Option Addr) (c' : Nat), k ≤ ps.length ∧ i = .int .i64 k ∧ allF l (ps.take k) 0 = (r, -1, 0) ∧ walkB r = true ∧ r.length ≤ c' ∧ RdI wr A' r ∧ wr.heap[w.heap.size]? = some (.cells #[.slice A' r.length c'] 24 (0, 0)) ∧
  wr.heap[w.heap.size + 1]? = some (.cells #[.slice none 0 0] 24 (0, 0)) ∧ (r ≠ [] → ∀ b o, A' = some ⟨b, o, none⟩ → b ≠ w.heap.size ∧ b ≠ w.heap.size + 1) ∧ Below w.heap.size w wr) (fun i _ => ps.length - (intOf i).toNat)
 case atStart =>
  refine ⟨0, l, A, c, Nat.zero_le _, rfl, by simp [allF], Hv.out, hlc, (HR.out.below HB0.out).below HB1.out, ?_, ?_, ?_, HB0.out.trans (HB1.out.mono HB0.out.size)⟩
  · rw [HB1.out.block _ (by simp; omega)]; exact heap_old_at (by simp) (heap_new_at rfl)
  · rw [HB1.out.block _ (by simp)]; exact heap_new_at (by simp)
  · intro hne b o hA
    obtain ⟨b', o', hA', hlt, _⟩ := HR.out hne
    rw [hA] at hA'
    cases hA'
    omega
 case round =>
  obtain ⟨k, r, A', c', hk, rfl, hall, hvr, hrc, hrr, hh2, hh4, hne, hb⟩ := hrel
  have hr2 : r.length ≤ 2000 := len_of_good hvr
  have HVR := Lib.hid hvr; clear hvr
  have HALL := Lib.hid hall; clear hall
  have HRR := Lib.hid hrr; clear hrr
  have HNE := Lib.hid hne; clear hne
  have HB := Lib.hid hb; clear hb
  have h2 := cell_of_row wr _ 0 _ _ _ hh2
  have h2f := frozen_of_row wr _ 0 _ _ hh2
  have h4 := cell_of_row wr _ 0 _ _ _ hh4
  have h4f := frozen_of_row wr _ 0 _ _ hh4
  simp only [List.getElem?_toArray, List.getElem?_cons_zero] at h2 h4
  have z1 := lt_of_heap hh2
  have z2 := lt_of_heap hh4
  have HH2 := Lib.hid hh2; clear hh2
  have HH4 := Lib.hid hh4; clear hh4
  by_cases hlt : k < ps.length
  · obtain ⟨p, hp⟩ := get_of_lt hlt
    have hi1 : (k : Int) < ps.length := by omega
    have hi0 : (0 : Int) ≤ k := by omega
    obtain ⟨b2, o2, C, t, fr, rfl, hbs2, hblk, hC, hex⟩ := (HS.out.below HB.out).row hp
    have HP := Lib.hid hp; clear hp
    have hready := HRD.out p (List.mem_of_getElem? HP.out)
    have hap := fun W h1 h2 => apply_any r A' c' p W h1 (by omega) hrc (short_of_good HVR.out) hready.item hready.num m h2 hready.tlen
    unfold Applies at hap
    have HAP := Lib.hid hap; clear hap
    cases h0 : ((applyF r p).2 != 0)
    all_goals
     have H0 := Lib.hid h0
     obtain ⟨q, hq⟩ : ∃ q, q = applyF r p := ⟨_, rfl⟩
     rw [← hq] at h0
     have HQ := Lib.hid hq; clear hq
     go_wp2_with fail
     refine (HAP.out _ (HRR.out.below ((Below.refl _ _).alloc (Nat.le_refl _) _)) (step_cell (HB.out.alloc (Nat.le_trans (Nat.le_of_lt z1) (Nat.le_refl _)) _) HG.out)).mono ?_
     rintro e w4 ⟨v, rfl, ⟨A2, c2, rfl, hr2', hlc2, hA2⟩, hb4⟩
     rw [← HQ.out] at hr2' hlc2 ⊢
     have hx := step_below hb4
     have k2 := step_cell hx h2
     have k2f : w4.frozen? ⟨w.heap.size, 0, none⟩ = false := (hx.frozen (p := ⟨w.heap.size, 0, none⟩) z1).trans h2f
     have k4 := step_cell hx h4
     have k4f : w4.frozen? ⟨w.heap.size + 1, 0, none⟩ = false := (hx.frozen (p := ⟨w.heap.size + 1, 0, none⟩) z2).trans h4f
     have y1 := World.block_lt_of_cell? _ _ k2
     have y2 := World.block_lt_of_cell? _ _ k4
     have hsz4 := hb4.size
     simp at hsz4
     have HX := Lib.hid hx; clear hx hb4
     clear h2 h2f h4 h4f hblk
     go_wp2_with fail
    · -- the patch was possible
      have h0' : (applyF r p).2 = 0 := by simpa using H0.out
      have hgood := (kept_law h0').good
      obtain ⟨t1, _⟩ := all_take HALL.out HP.out
      have t1 := t1 h0'
      have e1 : q.1 = (applyF r p).1 := by rw [HQ.out]
      refine ⟨⟨k + 1, q.1, A2, c2, by omega, by go_num, by rw [t1, e1], by rw [e1]; exact hgood, hlc2, ?_, ?_, ?_, ?_, ?_⟩, by simp [intOf]; omega⟩
      · -- it reads so behind the store
        refine Sl.keep hr2' (by simp) (fun b o hA hlt2 => ?_)
        have hge := hA2 b o hA
        simp at hge
        rw [Below.heap_alloc _ _ _ (by simpa using hlt2)]
        exact Below.heap_setCell _ _ _ _ (by simp; omega)
      · have hh := (HX.out.block _ z1).trans HH2.out
        exact heap_old_at (by simpa using y1) (heap_setCell_same _ _ _ _ _ _ hh)
      · have hh := (HX.out.block _ z2).trans HH4.out
        exact heap_old_at (by simpa using y2) ((Below.heap_setCell _ _ _ _ (by simp)).trans hh)
      · intro _ b o hA
        have hge := hA2 b o hA
        simp at hge
        omega
      · exact ((HB.out.trans (HX.out.mono HB.out.size)).setCell (p := ⟨w.heap.size, 0, none⟩) (show w.heap.size ≤ w.heap.size by omega) _).alloc (by simp; omega) _
    · have h0' : (applyF r p).2 ≠ 0 := by simpa using H0.out
      obtain ⟨_, t2⟩ := all_take HALL.out HP.out
      have t2 := t2 h0'
      have e2 : q.2 = (applyF r p).2 := by rw [HQ.out]
      refine bodyPost_ret (v := .tuple #[.agg #[.slice none 0 0], .int .i64 k, .int .i64 q.2]) (by simp [results, Tryz.results17, go_sem, k4, k4f, y2]) rfl ⟨.agg #[.slice none 0 0], by rw [HE.out, t2, e2], by rw [HE.out, t2]; exact ResC.nil _ _ _, ?_⟩
      refine Below.setCell (p := ⟨w.heap.size + 1, 0, none⟩) ?_ (show w.heap.size ≤ w.heap.size + 1 by omega) _ |>.alloc (by simp; omega) _
      exact HB.out.trans (HX.out.mono HB.out.size)
  · have : k = ps.length := by omega
    subst this
    go_wp2_with fail
    refine (clone_any r A' c' wr HRR.out (by omega)).mono ?_
    rintro e w4 ⟨v, rfl, hown, hb4⟩
    obtain ⟨A2, c2, rfl, hr2', hlc2, hA2⟩ := hown.slice
    have k4 := step_cell hb4 h4
    have k4f : w4.frozen? ⟨w.heap.size + 1, 0, none⟩ = false := (hb4.frozen (p := ⟨w.heap.size + 1, 0, none⟩) z2).trans h4f
    have y2 := World.block_lt_of_cell? _ _ k4
    have t : allF l ps 0 = (r, -1, 0) := by have := HALL.out; rwa [List.take_of_length_le (Nat.le_refl _)] at this
    go_wp2_with fail
    refine bodyPost_ret (v := .tuple #[.agg #[.slice A2 r.length c2], .int .i64 (-1), .int .i64 0]) (by simp [results, Tryz.results17, go_sem, k4, k4f, y2]) rfl ⟨_, by rw [HE.out, t], by rw [HE.out, t]; exact ⟨A2, c2, rfl, Sl.keep hr2' (by simp) (fun b o hA _ => Below.heap_setCell _ _ _ _ (by have := hA2 b o hA; simp; omega)), hlc2, fun b o hA => by have := hA2 b o hA; have := HB.out.size; omega⟩, ?_⟩
    exact Below.setCell (p := ⟨w.heap.size + 1, 0, none⟩) (HB.out.trans (hb4.mono HB.out.size)) (show w.heap.size ≤ w.heap.size + 1 by omega) _
theorem all_any (l : List Item) (ps : List Patch) (A B : Option Addr) (c d : Nat) (w : World) (hr : RdI w A l) (hs : RdP w B ps) (hl : l.length ≤ 100000) (hlc : l.length ≤ c) (hsh : ∀ x ∈ l, x.Short) (hps : ps.length ≤ 1000000) (hrd : ∀ p ∈ ps, p.Ready) (m : Int) (hg : w.cell? ⟨0, 0, none⟩ = some (.int .i64 m)) : Alls l ps A B c d w := by
 cases hv : walkB l with
 | false => exact all_f l ps A B c d w hr hl hsh hv
 | true => exact all_t l ps A B c d w hr hs hl hlc hps hrd m hg hv
end Go.Proofs.YtfolcjkednmkoaaGreat
