/- Rows of clauses that came in; All, Open, turned, Few. Few. The law ConferenceResults. -/
import Derived.Test.YtecnlfaholmpoaaGreatJC33
import Derived.Test.YtecnlfaholmpoaaGreatJC17
import Derived.Test.YtecnlfaholmpoaaGreatJC21
import Derived.Test.YtecnlfaholmpoaaGreatJC36
set_option linter.unusedVariables false
set_option linter.unusedSimpArgs false
set_option maxRecDepth 20000
set_option maxHeartbeats 2000000
namespace Go.Proofs.YtecnlfaholmpoaaGreat
open Go.RowKit
theorem RdC.row {w : World} {A : Option Addr} {l : List Clause} (h : RdC w A l) {k : Nat} {p : Clause} (hp : l[k]? = some p) :
 ∃ b o C t fr, A = some ⟨b, o, none⟩ ∧ b < w.heap.size ∧ w.blk b = some (.cells C t fr) ∧ o + k * 20 + 20 ≤ C.size ∧ C.extract (o + k * 20) (o + k * 20 + 20) = p.cells.toArray ∧ C.extract (o + k * 20 + 4) (o + k * 20 + 4 + 15) = p.patch.cells.toArray ∧
  ∀ j v, p.cells[j]? = some v → w.cell? ⟨b, o + k * 20 + j, none⟩ = some v := by
 obtain ⟨b, o, hA, hlt, hc⟩ := h (by rintro rfl; simp at hp)
 have hc := hc k p hp
 obtain ⟨C, t, fr, hh, h0⟩ := cells_of_cell (hc 0 _ rfl)
 have hcell : ∀ j v, p.cells[j]? = some v → C[o + k * 20 + j]? = some v := by
  intro j v hv
  obtain ⟨C', t', fr', hh', h'⟩ := cells_of_cell (hc j v hv)
  rw [hh] at hh'
  cases hh'
  exact h'
 have h19 := hcell 19 _ rfl
 have hsz : o + k * 20 + 20 ≤ C.size := by
  have := (Array.getElem?_eq_some_iff.1 h19).1
  omega
 refine ⟨b, o, C, t, fr, hA, hlt, hh, hsz, ?_, ?_, hc⟩
 · apply Array.ext_getElem?
   intro j
   rw [Array.getElem?_extract]
   by_cases hj : j < 20
   · obtain ⟨v, hv⟩ : ∃ v, p.cells[j]? = some v := ⟨_, List.getElem?_eq_getElem (show j < p.cells.length from hj)⟩
     rw [if_pos (by omega), hcell j v hv, List.getElem?_toArray, hv]
   · rw [if_neg (by omega)]
     exact (Array.getElem?_eq_none (show p.cells.toArray.size ≤ j by simpa using hj)).symm
 · apply Array.ext_getElem?
   intro j
   rw [Array.getElem?_extract]
   by_cases hj : j < 15
   · obtain ⟨v, hv⟩ : ∃ v, p.patch.cells[j]? = some v := ⟨_, List.getElem?_eq_getElem (show j < p.patch.cells.length from hj)⟩
     have hv2 : p.cells[4 + j]? = some v := by
      have e : p.cells = [.int .i64 p.id.seat, .int .i64 p.id.count, .int .i64 p.after.seat, .int .i64 p.after.count] ++ (p.patch.cells ++ [.bool p.gone]) := rfl
      rw [e, List.getElem?_append_right (by simp)]
      simp only [List.length_cons, List.length_nil]
      rw [show 4 + j - (0 + 1 + 1 + 1 + 1) = j by omega, List.getElem?_append_left (show j < p.patch.cells.length from hj)]
      exact hv
     have := hcell (4 + j) v hv2
     rw [if_pos (by omega), show o + k * 20 + 4 + j = o + k * 20 + (4 + j) by omega, this, List.getElem?_toArray, hv]
   · rw [if_neg (by omega)]
     exact (Array.getElem?_eq_none (show p.patch.cells.toArray.size ≤ j by simpa using hj)).symm
theorem RdC.at {w : World} {A : Option Addr} {l : List Clause} (h : RdC w A l) {k : Nat} {p : Clause} (hp : l[k]? = some p) :
 ∃ b o, A = some ⟨b, o, none⟩ ∧ b < w.heap.size ∧ rowLoad w 51 b (o + k * 20) 20 (w.blk b) = .ok p.agg w ∧ rowLoad w 49 b (o + k * 20 + 4) 15 (w.blk b) = .ok p.patch.agg w ∧
  w.cell? ⟨b, o + k * 20, none⟩ = some (.int .i64 p.id.seat) ∧ w.cell? ⟨b, o + k * 20 + 1, none⟩ = some (.int .i64 p.id.count) ∧ w.cell? ⟨b, o + k * 20 + 19, none⟩ = some (.bool p.gone) := by
 obtain ⟨b, o, C, t, fr, hA, hlt, hblk, hsz, h1, h2, hc⟩ := h.row hp
 refine ⟨b, o, hA, hlt, ?_, ?_, hc 0 _ rfl, hc 1 _ rfl, hc 19 _ rfl⟩
 · rw [hblk, rowLoad_part _ _ _ _ _ _ _ _ hsz, h1]
 · rw [hblk, rowLoad_part _ _ _ _ _ _ _ _ (by omega), h2]
theorem RdC.load49 {w : World} {b o : Nat} {l : List Clause} (h : RdC w (some ⟨b, o, none⟩) l) {k : Nat} {p : Clause} (hp : l[k]? = some p) : rowLoad w 49 b (o + k * 20 + 4) 15 (w.blk b) = .ok p.patch.agg w := by
 obtain ⟨b', o', hA, _, _, h2, _⟩ := h.at hp
 cases hA
 exact h2
theorem RdP.load15 {w : World} {A : Option Addr} {l : List Patch} (h : RdP w A l) {k : Nat} {p : Patch} (hp : l[k]? = some p) : ∃ b o, A = some ⟨b, o, none⟩ ∧ b < w.heap.size ∧ rowLoad w 49 b (o + k * 15) 15 (w.blk b) = .ok p.agg w := by
 obtain ⟨b, o, C, t, fr, hA, hlt, hblk, hsz, h1⟩ := h.row hp
 refine ⟨b, o, hA, hlt, ?_⟩
 rw [hblk, rowLoad_part _ _ _ _ _ _ _ _ hsz, h1]
theorem RdP.loadAt {w : World} {b o : Nat} {l : List Patch} (h : RdP w (some ⟨b, o, none⟩) l) {k : Nat} {p : Patch} (hp : l[k]? = some p) : rowLoad w 49 b (o + k * 15) 15 (w.blk b) = .ok p.agg w := by
 obtain ⟨b', o', hA, _, h2⟩ := h.load15 hp
 cases hA
 exact h2
theorem RdSt.twoAt {w : World} {b o : Nat} {l : List Stamp} (h : Sl Stamp.cells 2 w (some ⟨b, o, none⟩) l) {k : Nat} {p : Stamp} (hp : l[k]? = some p) : w.cell? ⟨b, o + k * 2, none⟩ = some (.int .i64 p.seat) ∧ w.cell? ⟨b, o + k * 2 + 1, none⟩ = some (.int .i64 p.count) := by
 obtain ⟨b', o', hA, hlt, hc⟩ := h (by rintro rfl; simp at hp)
 cases hA
 exact ⟨hc k p hp 0 _ rfl, hc k p hp 1 _ rfl⟩
theorem RdC.idAt {w : World} {b o : Nat} {l : List Clause} (h : RdC w (some ⟨b, o, none⟩) l) {k : Nat} {p : Clause} (hp : l[k]? = some p) : w.cell? ⟨b, o + k * 20, none⟩ = some (.int .i64 p.id.seat) ∧ w.cell? ⟨b, o + k * 20 + 1, none⟩ = some (.int .i64 p.id.count) := by
 obtain ⟨b', o', hA, _, _, _, h3, h4, _⟩ := h.at hp
 cases hA
 exact ⟨h3, h4⟩
theorem RdSt.two {w : World} {A : Option Addr} {l : List Stamp} (h : RdSt w A l) {k : Nat} {p : Stamp} (hp : l[k]? = some p) : ∃ b o, A = some ⟨b, o, none⟩ ∧ b < w.heap.size ∧ w.cell? ⟨b, o + k * 2, none⟩ = some (.int .i64 p.seat) ∧ w.cell? ⟨b, o + k * 2 + 1, none⟩ = some (.int .i64 p.count) := by
 obtain ⟨b, o, hA, hlt, hc⟩ := h (by rintro rfl; simp at hp)
 exact ⟨b, o, hA, hlt, hc k p hp 0 _ rfl, hc k p hp 1 _ rfl⟩
theorem OwnPs.rd {w : World} {base n c : Nat} {A : Option Addr} {l : List Patch} (h : OwnPs w base (.slice A n c) l) : RdP w A l := by
 obtain ⟨A', c', e, _, _, hr⟩ := h.reads
 simp only [Value.slice.injEq] at e
 rw [e.1]
 exact hr
theorem OwnSs.rd {w : World} {base n c : Nat} {A : Option Addr} {l : List Stamp} (h : OwnSs w base (.slice A n c) l) : RdSt w A l := by
 obtain ⟨A', c', e, _, _, hr⟩ := h.reads
 simp only [Value.slice.injEq] at e
 rw [e.1]
 exact hr
theorem map_take {l : List Clause} {k : Nat} {x : Clause} (hx : l[k]? = some x) : (l.take (k + 1)).map (·.patch) = (l.take k).map (·.patch) ++ [x.patch] := by
 obtain ⟨hk, rfl⟩ := List.getElem?_eq_some_iff.1 hx
 rw [List.take_succ_eq_append_getElem hk, List.map_append, List.map_cons, List.map_nil]
theorem open_take {l : List Clause} {k : Nat} {x : Clause} (hx : l[k]? = some x) : openL (l.take (k + 1)) = openL (l.take k) ++ (if x.gone then [] else [x]) := by
 obtain ⟨hk, rfl⟩ := List.getElem?_eq_some_iff.1 hx
 rw [List.take_succ_eq_append_getElem hk]
 unfold openL
 rw [List.filter_append]
 cases h : l[k].gone <;> simp [h]
theorem openL_len (l : List Clause) : (openL l).length ≤ l.length := List.length_filter_le _ _
theorem allc_any (l : List Clause) (A : Option Addr) (c : Nat) (w : World) (hr : RdC w A l) (hl : l.length ≤ 1000) :
 Calls Tryz.prog 55 #[.slice A l.length c] w fun e w' => ∃ v, e = .returned v ∧ OwnPs w' w.heap.size v (l.map (·.patch)) ∧ Below w.heap.size w w' := by
 have HR := Lib.hid hr; clear hr
 go_enter Tryz.func55, Tryz.ntmps55
 go_wp2_with fail
 go_loopw [3, 4] (fun v i wr => ∃ k : Nat, k ≤ l.length ∧ i = .int .i64 k ∧ OwnPs wr w.heap.size v ((l.take k).map (·.patch)) ∧ Below w.heap.size w wr) (fun _ i _ => l.length - (intOf i).toNat)
 case atStart => exact ⟨0, Nat.zero_le _, rfl, OwnPs.nil _ _, Below.refl _ _⟩
 case round =>
  obtain ⟨k, hk, rfl, ho, hb⟩ := hrel
  have hlen : ((l.take k).map (·.patch)).length ≤ 1000 := by simp; omega
  have HO := Lib.hid ho; clear ho
  have HB := Lib.hid hb; clear hb
  by_cases hlt : k < l.length
  · obtain ⟨x, hx⟩ := get_of_lt hlt
    have hi1 : (k : Int) < l.length := by omega
    have hi0 : (0 : Int) ≤ k := by omega
    obtain ⟨b, o, rfl, hbl, q1, q2, c0, c1, c2⟩ := (HR.out.below HB.out).at hx
    have HMT := Lib.hid (map_take hx)
    have hb1 : Below wr.heap.size wr (wr.alloc (.cells (patCs x.patch) 49)) := (Below.refl _ _).alloc (Nat.le_refl _) _
    have HB1 := Lib.hid hb1; clear hb1
    clear hx q1 c0 c1 c2
    go_wp2_with (at_builtin; refine wpList_append_pat1 rfl (.tmp 11) (.tmp 17) rfl rfl w.heap.size u3 ((l.take k).map (·.patch)) x.patch wr.heap.size 1 rfl rfl (HO.out.below HB1.out) (heap_alloc_new _ _) (by omega) (Nat.le_trans HB.out.size HB1.out.size) ?_; intro v' w3 ho3 hg3 hat3; have hb3 := (HB.out.trans (HB1.out.mono HB.out.size)).grown hg3 (Nat.le_trans HB.out.size HB1.out.size) HO.out.ge; have HO3 := Lib.hid ho3; clear ho3; have HB3 := Lib.hid hb3; clear hb3 hg3 hat3)
    exact ⟨⟨k + 1, by omega, by go_num, by rw [HMT.out]; exact HO3.out, HB3.out⟩, by simp [intOf]; omega⟩
  · have hke : k = l.length := by omega
    have hi1 : ¬ (k : Int) < l.length := by omega
    go_wp2_with fail
    go_ret
    subst hke
    exact ⟨_, rfl, by have := HO.out; rwa [List.take_length] at this, HB.out⟩
theorem openr_any (l : List Clause) (A : Option Addr) (c : Nat) (w : World) (hr : RdC w A l) (hl : l.length ≤ 1000) :
 Calls Tryz.prog 27 #[.slice A l.length c] w fun e w' => ∃ v, e = .returned v ∧ OwnCs w' w.heap.size v (openL l) ∧ Below w.heap.size w w' := by
 have HR := Lib.hid hr; clear hr
 go_enter Tryz.func27, Tryz.ntmps27
 go_wp2_with fail
 go_loopw [3, 4] (fun v i wr => ∃ k : Nat, k ≤ l.length ∧ i = .int .i64 k ∧ OwnCs wr w.heap.size v (openL (l.take k)) ∧ Below w.heap.size w wr) (fun _ i _ => l.length - (intOf i).toNat)
 case atStart => exact ⟨0, Nat.zero_le _, rfl, OwnCs.nil _ _, Below.refl _ _⟩
 case round =>
  obtain ⟨k, hk, rfl, ho, hb⟩ := hrel
  have hlen : (openL (l.take k)).length ≤ 1000 := by have := openL_len (l.take k); simp at this; omega
  have HO := Lib.hid ho; clear ho
  have HB := Lib.hid hb; clear hb
  by_cases hlt : k < l.length
  · obtain ⟨x, hx⟩ := get_of_lt hlt
    have hi1 : (k : Int) < l.length := by omega
    have hi0 : (0 : Int) ≤ k := by omega
    obtain ⟨b, o, rfl, hbl, q1, q2, c0, c1, c2⟩ := (HR.out.below HB.out).at hx
    have HMT := Lib.hid (open_take hx)
    have hb1 : Below wr.heap.size wr (wr.alloc (.cells (claCs x) 51)) := (Below.refl _ _).alloc (Nat.le_refl _) _
    have HB1 := Lib.hid hb1; clear hb1
    clear hx q2 c0 c1
    obtain ⟨xi, xa, xp, xg⟩ := x
    cases xg with
    | true =>
      go_wp2_with fail
      exact ⟨⟨k + 1, by omega, by go_num, by rw [HMT.out]; simpa using HO.out, HB.out⟩, by simp [intOf]; omega⟩
    | false =>
      go_wp2_with (at_builtin; refine wpList_append_cla1 rfl (.tmp 17) (.tmp 22) rfl rfl w.heap.size u3 (openL (l.take k)) ⟨xi, xa, xp, false⟩ wr.heap.size 1 rfl rfl (HO.out.below HB1.out) (heap_alloc_new _ _) (by omega) (Nat.le_trans HB.out.size HB1.out.size) ?_; intro v' w3 ho3 hg3 hat3; have hb3 := (HB.out.trans (HB1.out.mono HB.out.size)).grown hg3 (Nat.le_trans HB.out.size HB1.out.size) HO.out.ge; have HO3 := Lib.hid ho3; clear ho3; have HB3 := Lib.hid hb3; clear hb3 hg3 hat3)
      exact ⟨⟨k + 1, by omega, by go_num, by rw [HMT.out]; exact HO3.out, HB3.out⟩, by simp [intOf]; omega⟩
  · have hke : k = l.length := by omega
    have hi1 : ¬ (k : Int) < l.length := by omega
    go_wp2_with fail
    go_ret
    subst hke
    exact ⟨_, rfl, by have := HO.out; rwa [List.take_length] at this, HB.out⟩
end Go.Proofs.YtecnlfaholmpoaaGreat
set_option maxRecDepth 20000
set_option maxHeartbeats 2000000
namespace Go.Proofs.YtecnlfaholmpoaaGreat
open Go.RowKit
theorem light_at {l : List Item} {ps : List Patch} {r : Bool} (h : lightB l ps = r) (A B : Option Addr) (c n d : Nat) (w : World) (hn : n = ps.length) (hr : RdI w A l) (hs : RdP w B ps) (hl : l.length ≤ maxLen) (hm : ps.length ≤ maxLen) (hfit : ∀ x ∈ l, x.Fits) (hfp : ∀ p ∈ ps, p.Fits) :
 Calls Tryz.prog 54 #[.agg #[.slice A l.length c], .slice B n d] w fun e w' => e = .returned (.bool r) ∧ Below w.heap.size w w' := by
 subst hn h
 exact light_any l ps A B c d w hr hs hl hm hfit hfp
def fewC (l : List Item) (cs : List Clause) (n : Int) : Bool := decide ((cs.length : Int) ≤ n) && lightB l (cs.map (·.patch))
theorem fewc_f (l : List Item) (cs : List Clause) (A B : Option Addr) (c d : Nat) (n : Int) (w : World) (h : ¬ (cs.length : Int) ≤ n) :
 Calls Tryz.prog 25 #[.agg #[.slice A l.length c], .slice B cs.length d, .int .i64 n] w fun e w' => e = .returned (.bool false) ∧ Below w.heap.size w w' := by
 have hb0 := (Below.refl w.heap.size w).alloc (Nat.le_refl _) (.cells #[.slice A l.length c] 24)
 have HB0 := Lib.hid hb0; clear hb0
 go_enter Tryz.func25, Tryz.ntmps25
 go_wp2_with fail
 refine wp_region_held_drew (S := fun _ => True) (by kernel_rfl) trivial (fun hHeld => ?_)
 refine takeF (i := 0) (v := .slice B cs.length d) (k := 7) rfl rfl (by kernel_rfl) (by kernel_rfl) (by kernel_rfl) (fun _ _ _ h => h) (Or.inl ⟨by rfl, fun z hz => by go_simp⟩) hHeld ?_
 try simp only [Act.put, sia, sc0, scs]
 refine takeF (i := 1) (v := .int .i64 cs.length) (k := 8) rfl rfl (by kernel_rfl) (by kernel_rfl) (by kernel_rfl) (fun _ _ _ h => h) (Or.inl ⟨by rfl, fun z hz => by go_simp⟩) hHeld ?_
 try simp only [Act.put, sia, sc0, scs]
 refine takeF (i := 2) (v := .int .i64 n) (k := 9) rfl rfl (by kernel_rfl) (by kernel_rfl) (by kernel_rfl) (fun _ _ _ h => h) (Or.inl ⟨by rfl, fun z hz => by go_simp⟩) hHeld ?_
 try simp only [Act.put, sia, sc0, scs]
 refine takeF (i := 3) (v := .bool false) (k := 10) rfl rfl (by kernel_rfl) (by kernel_rfl) (by kernel_rfl) (fun _ _ _ h => h) (Or.inl ⟨by rfl, fun z hz => by go_simp⟩) hHeld ?_
 try simp only [Act.put, sia, sc0, scs]
 refine takeF (i := 4) (v := .bool false) (k := 11) rfl rfl (by kernel_rfl) (by kernel_rfl) (by kernel_rfl) (fun _ _ _ h => h) (Or.inl ⟨by rfl, fun z hz => by go_simp⟩) hHeld ?_
 try simp only [Act.put, sia, sc0, scs]
 refine takeF (i := 5) (v := undef) (k := 12) rfl rfl (by kernel_rfl) (by kernel_rfl) (by kernel_rfl) (fun _ _ _ h => h) (Or.inr ⟨by rfl, rfl⟩) hHeld ?_
 try simp only [Act.put, sia, sc0, scs]
 refine takeF (i := 6) (v := undef) (k := 13) rfl rfl (by kernel_rfl) (by kernel_rfl) (by kernel_rfl) (fun _ _ _ h => h) (Or.inr ⟨by rfl, rfl⟩) hHeld ?_
 try simp only [Act.put, sia, sc0, scs]
 refine wpAnyH_ready (rs := [7]) (by kernel_rfl) (by simp) (AllReadyH.cons rfl (fun K hK => ?_) AllReadyH.nil)
 go_simp
 refine hK.out _ _ trivial (fun hHeld => ?_)
 clear hK K
 try simp only [Act.put, sia, sc0, scs]
 refine wpAnyH_ready (rs := [8]) (by kernel_rfl) (by simp) (AllReadyH.cons rfl (fun K hK => ?_) AllReadyH.nil)
 go_simp
 refine hK.out _ _ trivial (fun hHeld => ?_)
 clear hK K
 try simp only [Act.put, sia, sc0, scs]
 refine takeF (i := 9) (v := .bool false) (k := 16) rfl rfl (by kernel_rfl) (by kernel_rfl) (by kernel_rfl) (fun _ _ _ h => h) (Or.inl ⟨by rfl, fun z hz => by go_simp⟩) hHeld ?_
 try simp only [Act.put, sia, sc0, scs]
 refine takeF (i := 10) (v := .bool false) (k := 6) rfl rfl (by kernel_rfl) (by kernel_rfl) (by kernel_rfl) (fun _ _ _ h => h) (Or.inl ⟨by rfl, fun z hz => by go_simp⟩) hHeld ?_
 try simp only [Act.put, sia, sc0, scs]
 refine wpAnyH_done (by kernel_rfl) ?_ _
 go_wp2_with fail
 go_ret
 exact ⟨rfl, HB0.out.drew⟩
theorem fewc_t (l : List Item) (cs : List Clause) (A B : Option Addr) (c d : Nat) (n : Int) (w : World) (h : (cs.length : Int) ≤ n) (hn : n ≤ 1000) (hr : RdI w A l) (hs : RdC w B cs) (hl : l.length ≤ maxLen) (hfit : ∀ x ∈ l, x.Fits) (hfp : ∀ x ∈ cs, x.patch.Fits) (r : Bool) (hres : lightB l (cs.map (·.patch)) = r) :
 Calls Tryz.prog 25 #[.agg #[.slice A l.length c], .slice B cs.length d, .int .i64 n] w fun e w' => e = .returned (.bool r) ∧ Below w.heap.size w w' := by
 have hb0 := (Below.refl w.heap.size w).alloc (Nat.le_refl _) (.cells #[.slice A l.length c] 24)
 have hk0 : (w.alloc (.cells #[.slice A l.length c] 24)).cell? ⟨w.heap.size, 0, none⟩ = some (.slice A l.length c) := by simp [go_sem]
 have HB0 := Lib.hid hb0; clear hb0
 have HR := Lib.hid hr; clear hr
 have HS := Lib.hid hs; clear hs
 have HRES := Lib.hid hres; clear hres
 have HFIT := Lib.hid hfit; clear hfit
 have hfp2 : (cs.map (·.patch)).length ≤ maxLen ∧ ∀ p ∈ cs.map (·.patch), p.Fits := by
  refine ⟨by unfold maxLen; simp; omega, fun p hp => ?_⟩
  obtain ⟨x, hx, rfl⟩ := List.mem_map.1 hp
  exact hfp x hx
 have HFP := Lib.hid hfp2; clear hfp2 hfp
 go_enter Tryz.func25, Tryz.ntmps25
 go_wp2_with fail
 generalize hW : World.alloc w _ = W at hk0 ⊢
 have hbW : Below w.heap.size w W := by rw [← hW]; exact HB0.out
 clear hW
 have HBW := Lib.hid hbW; clear hbW HB0
 refine wp_region_held_drew (S := (fun X => X.cell? ⟨w.heap.size, 0, none⟩ = some (.slice A l.length c))) (by kernel_rfl) hk0 (fun hHeld => ?_)
 refine takeF (i := 0) (v := .slice B cs.length d) (k := 7) rfl rfl (by kernel_rfl) (by kernel_rfl) (by kernel_rfl) (fun _ _ _ h => h) (Or.inl ⟨by rfl, fun z hz => by go_simp⟩) hHeld ?_
 try simp only [Act.put, sia, sc0, scs]
 refine takeF (i := 1) (v := .int .i64 cs.length) (k := 8) rfl rfl (by kernel_rfl) (by kernel_rfl) (by kernel_rfl) (fun _ _ _ h => h) (Or.inl ⟨by rfl, fun z hz => by go_simp⟩) hHeld ?_
 try simp only [Act.put, sia, sc0, scs]
 refine takeF (i := 2) (v := .int .i64 n) (k := 9) rfl rfl (by kernel_rfl) (by kernel_rfl) (by kernel_rfl) (fun _ _ _ h => h) (Or.inl ⟨by rfl, fun z hz => by go_simp⟩) hHeld ?_
 try simp only [Act.put, sia, sc0, scs]
 refine takeF (i := 3) (v := .bool true) (k := 10) rfl rfl (by kernel_rfl) (by kernel_rfl) (by kernel_rfl) (fun _ _ _ h => h) (Or.inl ⟨by rfl, fun z hz => by go_simp⟩) hHeld ?_
 try simp only [Act.put, sia, sc0, scs]
 refine takeF (i := 4) (v := .bool true) (k := 11) rfl rfl (by kernel_rfl) (by kernel_rfl) (by kernel_rfl) (fun _ _ _ h => h) (Or.inl ⟨by rfl, fun z hz => by go_simp⟩) hHeld ?_
 try simp only [Act.put, sia, sc0, scs]
 refine takeF (i := 5) (v := .agg #[.slice A l.length c]) (k := 12) rfl rfl (by kernel_rfl) (by kernel_rfl) (by kernel_rfl) (fun _ _ _ h => h) (Or.inl ⟨by rfl, fun z hz => by go_simp⟩) hHeld ?_
 try simp only [Act.put, sia, sc0, scs]
 refine takeF (i := 6) (v := .slice B cs.length d) (k := 13) rfl rfl (by kernel_rfl) (by kernel_rfl) (by kernel_rfl) (fun _ _ _ h => h) (Or.inl ⟨by rfl, fun z hz => by go_simp⟩) hHeld ?_
 try simp only [Act.put, sia, sc0, scs]
 refine wpAnyH_ready (rs := [7]) (by kernel_rfl) (by simp) (AllReadyH.cons rfl (fun K hK => ?_) (AllReadyH.nil))
 go_simp
 have hdr : Below W.heap.size W W.drew := (Below.refl _ _).drew
 refine (allc_any cs B d _ ((HS.out.below HBW.out).below hdr) (by omega)).mono ?_
 rintro e w2 ⟨v, rfl, ho, hb2⟩
 have hb2' : Below W.heap.size W w2 := hdr.trans hb2
 obtain ⟨A2, c2, rfl, _, _, hrp⟩ := ho.reads
 have HRP := Lib.hid hrp; clear hrp ho
 have HB2 := Lib.hid hb2'; clear hb2' hb2 hdr
 go_wp2_with fail
 refine hK.out _ _ (keepw HB2.out hk0) (fun hHeld => ?_)
 clear hK K
 try simp only [Act.put, sia, sc0, scs]
 refine wpAnyH_ready (rs := [8]) (by kernel_rfl) (by simp) (AllReadyH.cons rfl (fun K hK => ?_) (AllReadyH.nil))
 go_simp
 refine (light_at HRES.out A A2 c cs.length c2 w2 (by simp) ((HR.out.below HBW.out).below HB2.out) HRP.out hl HFP.out.1 HFIT.out HFP.out.2).mono ?_
 rintro e w3 ⟨rfl, hb3⟩
 have HB3 := Lib.hid (chain2 HB2.out hb3); clear hb3
 go_wp2_with fail
 refine hK.out _ _ (keepw HB3.out hk0) (fun hHeld => ?_)
 clear hK K
 try simp only [Act.put, sia, sc0, scs]
 refine takeF (i := 9) (v := .bool r) (k := 16) rfl rfl (by kernel_rfl) (by kernel_rfl) (by kernel_rfl) (fun _ _ _ h => h) (Or.inl ⟨by rfl, fun z hz => by go_simp⟩) hHeld ?_
 try simp only [Act.put, sia, sc0, scs]
 refine takeF (i := 10) (v := .bool r) (k := 6) rfl rfl (by kernel_rfl) (by kernel_rfl) (by kernel_rfl) (fun _ _ _ h => h) (Or.inl ⟨by rfl, fun z hz => by go_simp⟩) hHeld ?_
 try simp only [Act.put, sia, sc0, scs]
 refine wpAnyH_done (by kernel_rfl) ?_ _
 go_wp2_with fail
 go_ret
 exact ⟨rfl, chain2 HBW.out HB3.out⟩
theorem fewc_any (l : List Item) (cs : List Clause) (A B : Option Addr) (c d : Nat) (n : Int) (w : World) (hn : n ≤ 1000) (hr : RdI w A l) (hs : RdC w B cs) (hl : l.length ≤ maxLen) (hfit : ∀ x ∈ l, x.Fits) (hfp : ∀ x ∈ cs, x.patch.Fits) :
 Calls Tryz.prog 25 #[.agg #[.slice A l.length c], .slice B cs.length d, .int .i64 n] w fun e w' => e = .returned (.bool (fewC l cs n)) ∧ Below w.heap.size w w' := by
 unfold fewC
 by_cases h : (cs.length : Int) ≤ n
 · rw [decide_eq_true h, Bool.true_and]
   exact fewc_t l cs A B c d n w h hn hr hs hl hfit hfp _ rfl
 · rw [decide_eq_false h, Bool.false_and]
   exact fewc_f l cs A B c d n w h
end Go.Proofs.YtecnlfaholmpoaaGreat
set_option maxRecDepth 20000
set_option maxHeartbeats 4000000
namespace Go.Proofs.YtecnlfaholmpoaaGreat
open Go.RowKit
theorem few_readyC {p : Patch} (h : fewB p = true) : p.Ready := by
 obtain ⟨h1, h2, h3⟩ := few_facts h
 exact ⟨h1, h2, h3⟩
theorem fewC_facts {l : List Item} {cs : List Clause} {n : Int} (h : fewC l cs n = true) : (cs.length : Int) ≤ n ∧ l.length ≤ 30 ∧ (∀ x ∈ l, x.Short) ∧ (∀ x ∈ cs, x.patch.Ready) ∧ cs.length ≤ 12 := by
 unfold fewC at h
 simp only [Bool.and_eq_true, decide_eq_true_eq] at h
 obtain ⟨h1, h2⟩ := light_facts h.2
 obtain ⟨h3, h4⟩ := light_pats h.2
 refine ⟨h.1, h1, h2, fun x hx => few_readyC (h4 _ (List.mem_map.2 ⟨x, hx, rfl⟩)), by simpa using h3⟩
theorem few_at {l : List Item} {cs : List Clause} {n : Int} {r : Bool} (h : fewC l cs n = r) (A B : Option Addr) (c d : Nat) (w : World) (hn : n ≤ 1000) (hr : RdI w A l) (hs : RdC w B cs) (hl : l.length ≤ maxLen) (hfit : ∀ x ∈ l, x.Fits) (hfp : ∀ x ∈ cs, x.patch.Fits) :
 Calls Tryz.prog 25 #[.agg #[.slice A l.length c], .slice B cs.length d, .int .i64 n] w fun e w' => e = .returned (.bool r) ∧ Below w.heap.size w w' := by
 subst h
 exact fewc_any l cs A B c d n w hn hr hs hl hfit hfp
def ResLaw (l : List Item) (cs : List Clause) (A B : Option Addr) (c d : Nat) (w : World) : Prop :=
 Calls Tryz.prog 6 #[.agg #[.slice A l.length c], .slice B cs.length d] w fun e w' => e = .returned (.bool true) ∧ Below w.heap.size w w'
theorem resl_f (l : List Item) (A : Option Addr) (c : Nat) (cs : List Clause) (B : Option Addr) (d : Nat) (w : World) (m : Int) (hr : RdI w A l) (hl : l.length ≤ maxLen) (hlc : l.length ≤ c) (hfit : ∀ x ∈ l, x.Fits) (hs : RdC w B cs) (hm : cs.length ≤ maxLen) (hfp : ∀ x ∈ cs, x.patch.Fits) (hg : w.cell? ⟨0, 0, none⟩ = some (.int .i64 m)) (hfew : fewC l cs 20 = false) : ResLaw l cs A B c d w := by
 unfold ResLaw
 have hb0 := (Below.refl w.heap.size w).alloc (Nat.le_refl _) (.cells #[.slice A l.length c] 24)
 have hk0 : (w.alloc (.cells #[.slice A l.length c] 24)).cell? ⟨w.heap.size, 0, none⟩ = some (.slice A l.length c) := by simp [go_sem]
 have HB0 := Lib.hid hb0; clear hb0
 have HR := Lib.hid hr; clear hr
 have HS := Lib.hid hs; clear hs
 have HG := Lib.hid hg; clear hg
 have HFEW := Lib.hid hfew; clear hfew
 have HFIT := Lib.hid hfit; clear hfit
 have HFP := Lib.hid hfp; clear hfp
 go_enter Tryz.func6, Tryz.ntmps6
 go_wp2_with fail
 refine (head38_any _ m (step_cell HB0.out HG.out)).mono ?_
 rintro e w1 ⟨rfl, hb1⟩
 have hk1 := keepw hb1 hk0
 have HB1 := Lib.hid (chain2 HB0.out hb1); clear hb1 hk0
 go_wp2_with fail
 refine (few_at HFEW.out A B c d w1 (by decide) (HR.out.below HB1.out) (HS.out.below HB1.out) hl HFIT.out HFP.out).mono ?_
 rintro e w2 ⟨rfl, hb2⟩
 have HB2 := Lib.hid (chain2 HB1.out hb2); clear hb2
 go_wp2_with fail
 go_ret
 exact ⟨rfl, HB2.out⟩
theorem resl_n (l : List Item) (A : Option Addr) (c : Nat) (cs : List Clause) (B : Option Addr) (d : Nat) (w : World) (m : Int) (hr : RdI w A l) (hl : l.length ≤ maxLen) (hlc : l.length ≤ c) (hfit : ∀ x ∈ l, x.Fits) (hs : RdC w B cs) (hm : cs.length ≤ maxLen) (hfp : ∀ x ∈ cs, x.patch.Fits) (hg : w.cell? ⟨0, 0, none⟩ = some (.int .i64 m)) (hfew : fewC l cs 20 = true) (hv : walkB l = false) : ResLaw l cs A B c d w := by
 unfold ResLaw
 obtain ⟨f1, f2, f3, f4, f5⟩ := fewC_facts hfew
 have hb0 := (Below.refl w.heap.size w).alloc (Nat.le_refl _) (.cells #[.slice A l.length c] 24)
 have hk0 : (w.alloc (.cells #[.slice A l.length c] 24)).cell? ⟨w.heap.size, 0, none⟩ = some (.slice A l.length c) := by simp [go_sem]
 have HB0 := Lib.hid hb0; clear hb0
 have HR := Lib.hid hr; clear hr
 have HS := Lib.hid hs; clear hs
 have HG := Lib.hid hg; clear hg
 have HV := Lib.hid hv; clear hv
 have HFEW := Lib.hid hfew; clear hfew
 have HFIT := Lib.hid hfit; clear hfit
 have HFP := Lib.hid hfp; clear hfp
 have HSH := Lib.hid f3; clear f3 f4 f1
 go_enter Tryz.func6, Tryz.ntmps6
 go_wp2_with fail
 refine (head38_any _ m (step_cell HB0.out HG.out)).mono ?_
 rintro e w1 ⟨rfl, hb1⟩
 have hk1 := keepw hb1 hk0
 have HB1 := Lib.hid (chain2 HB0.out hb1); clear hb1 hk0
 go_wp2_with fail
 refine (few_at HFEW.out A B c d w1 (by decide) (HR.out.below HB1.out) (HS.out.below HB1.out) hl HFIT.out HFP.out).mono ?_
 rintro e w2 ⟨rfl, hb2⟩
 have hk2 := keepw hb2 hk1
 have HB2 := Lib.hid (chain2 HB1.out hb2); clear hb2 hk1
 go_wp2_with fail
 refine (result_f l cs A B c d w2 (HR.out.below HB2.out) (by omega) HSH.out (HS.out.below HB2.out) (by omega) HV.out).mono ?_
 rintro e w3 ⟨rfl, hb3⟩
 have hk3 := keepw hb3 hk2
 have HB3 := Lib.hid (chain2 HB2.out hb3); clear hb3 hk2
 go_wp2_with fail
 refine (valid_any l A c w3 (HR.out.below HB3.out) (by omega) HSH.out).mono ?_
 rintro e w4 ⟨rfl, hb4⟩
 have HB4 := Lib.hid (chain2 HB3.out hb4); clear hb4
 rw [HV.out]
 go_wp2_with fail
 go_ret
 exact ⟨rfl, HB4.out⟩
end Go.Proofs.YtecnlfaholmpoaaGreat
